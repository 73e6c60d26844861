/- Disk: a disk in the world; its small functions. Condition: as each theorem says. -/
import Derived.Test.YtogfladmgbldcaaGreatDoorRows
import Derived.WalkKit
import Derived.ProofKit
import Derived.Below
import Derived.Lib.Hide
import Derived.Laws.EntriesVeiled
import Derived.BigCall
import Derived.Test.YtogfladmgbldcaaGreatDoorZLogBits3
import Derived.Shelf.Abstract
import Derived.Test.YtogfladmgbldcaaGreatDoorZLogBits2
import Derived.Test.YtogfladmgbldcaaGreatDoorZLogBits0
namespace Go.Proofs.YtogfladmgbldcaaGreatDoor
open Go.RowKit
open Go.Maps (Keyed)
open Go.ChangeMaps Go.MapKept
theorem lawSt : Keyed Tryz.prog 9 := Maps.string_keyed Tryz.underlying9
/-- What the directory holds. -/
def dirM (C : Bs → Nat) (fs : List FilV) : Lit → Option Value
  | .string nm => (findF nm fs).map (fun f => .pointer (some ⟨C f.nm, 0, none⟩))
  | _ => none
def dskC (b : Nat) (D : DskV) : Array Value := #[.map (some b), .int .i64 (D.room : Int), .int .i64 (fuseI D.fuse), .bool D.dead]
def filC (f : FilV) : Array Value := #[.string ⟨f.by_.toArray⟩, .int .i64 (f.sy : Int)]
/-- A disk at block p, its directory at block b, its files at the blocks that C tells; L: all its blocks. -/
structure DskAt (w : World) (p b n : Nat) (C : Bs → Nat) (L : List Nat) (D : DskV) : Prop where
  d : w.heap[p]? = some (.cells (dskC b D) 76 (0, 0))
  m : MpS Tryz.prog 9 w b n D.fs.length (dirM C D.fs)
  c : ∀ f ∈ D.fs, w.heap[C f.nm]? = some (.cells (filC f) 80 (0, 0))
  inj : ∀ f ∈ D.fs, ∀ g ∈ D.fs, C f.nm = C g.nm → f.nm = g.nm
  pb : p ∈ L ∧ b ∈ L ∧ p ≠ b
  cl : ∀ f ∈ D.fs, C f.nm ∈ L ∧ C f.nm ≠ p ∧ C f.nm ≠ b
  ris : Rise D.fs
  syn : ∀ f ∈ D.fs, f.sy ≤ f.by_.length
  sum : D.room + totF D.fs ≤ 4194304
  fz : ∀ k, D.fuse = some k → k ≤ 9223372036854775807
/-- Nothing but the blocks of L, and new ones, has turned. -/
structure Turns (L : List Nat) (w w' : World) : Prop where
  os : w'.os = w.os
  tape : w'.tape = w.tape
  out : w'.output = w.output
  size : w.heap.size ≤ w'.heap.size
  block : ∀ g, g < w.heap.size → g ∉ L → w'.heap[g]? = w.heap[g]?
theorem Turns.refl (L : List Nat) (w : World) : Turns L w w := ⟨rfl, rfl, rfl, Nat.le_refl _, fun _ _ _ => rfl⟩
theorem Turns.trans {L : List Nat} {a b c : World} (h : Turns L a b) (k : Turns L b c) : Turns L a c := ⟨k.os.trans h.os, k.tape.trans h.tape, k.out.trans h.out, Nat.le_trans h.size k.size, fun g hg hl => (k.block g (Nat.lt_of_lt_of_le hg h.size) hl).trans (h.block g hg hl)⟩
theorem Turns.of {L : List Nat} {w y : World} (h : Below w.heap.size w y) : Turns L w y := ⟨h.os, h.tape, h.output, h.size, fun g hg _ => h.block g hg⟩
theorem Turns.wide {L L' : List Nat} {a b : World} (h : Turns L a b) (hl : ∀ g, g ∈ L → g ∈ L') : Turns L' a b := ⟨h.os, h.tape, h.out, h.size, fun g hg hn => h.block g hg (fun q => hn (hl g q))⟩
theorem Turns.below {L : List Nat} {w0 w w' : World} {B : Nat} (h : Turns L w w') (h0 : Below B w0 w) (hB : B ≤ w.heap.size) (hL : ∀ g ∈ L, B ≤ g) : Below B w0 w' := h0.trans ⟨h.os, h.tape, h.out, h.size, fun g hg => h.block g (by omega) (fun q => by have := hL g q; omega)⟩
theorem DskAt.keep {w w' : World} {p b n : Nat} {C : Bs → Nat} {L : List Nat} {D : DskV} (h : DskAt w p b n C L D) (hk : ∀ g ∈ L, w'.heap[g]? = w.heap[g]?) : DskAt w' p b n C L D :=
  ⟨(hk p h.pb.1).trans h.d, h.m.stay (hk b h.pb.2.1), fun f hf => (hk _ (h.cl f hf).1).trans (h.c f hf), h.inj, h.pb, h.cl, h.ris, h.syn, h.sum, h.fz⟩
theorem DskAt.lt {w : World} {p b n : Nat} {C : Bs → Nat} {L : List Nat} {D : DskV} (h : DskAt w p b n C L D) : p < w.heap.size := (Array.getElem?_eq_some_iff.1 h.d).1
theorem DskAt.cells {w : World} {p b n : Nat} {C : Bs → Nat} {L : List Nat} {D : DskV} (h : DskAt w p b n C L D) : w.cell? ⟨p, 0, none⟩ = some (.map (some b)) ∧ w.cell? ⟨p, 1, none⟩ = some (.int .i64 (D.room : Int)) ∧ w.cell? ⟨p, 2, none⟩ = some (.int .i64 (fuseI D.fuse)) ∧ w.cell? ⟨p, 3, none⟩ = some (.bool D.dead) :=
  ⟨cell_of_row _ _ _ _ _ _ h.d, cell_of_row _ _ _ _ _ _ h.d, cell_of_row _ _ _ _ _ _ h.d, cell_of_row _ _ _ _ _ _ h.d⟩
theorem thaw0 {w : World} {p : Nat} {cs : Array Value} {t : TypeId} (j : Nat) (h : w.heap[p]? = some (.cells cs t (0, 0))) : w.frozen? ⟨p, j, none⟩ = false := by
  unfold World.frozen?
  rw [h]
  simp
set_option maxRecDepth 100000 in
theorem new_any (w : World) : Calls Tryz.prog 16 #[] w fun e w' => ∃ C L, e = .returned (.pointer (some ⟨w.heap.size + 1, 0, none⟩)) ∧ DskAt w' (w.heap.size + 1) w.heap.size 0 C L dsk0 ∧ Below w.heap.size w w' ∧ ∀ g ∈ L, w.heap.size ≤ g := by
  have hmm := @run_makeMap Tryz.prog
  go_enter Tryz.func16, Tryz.ntmps16
  go_wp2
  go_ret
  refine ⟨fun _ => 0, [w.heap.size + 1, w.heap.size], rfl, ⟨?_, ?_, fun f hf => (by cases hf), fun f hf => (by cases hf), ⟨by simp, by simp, by omega⟩, fun f hf => (by cases hf), List.Pairwise.nil, fun f hf => (by cases hf), by decide, fun k hk => (by cases hk)⟩, ((Below.refl _ w).alloc (Nat.le_refl _) _).alloc (by simp) _, fun g hg => by simp at hg; omega⟩
  · have h := heap_alloc_new (w.alloc (.map #[] 0)) (.cells #[.map (some w.heap.size), .int .i64 4194304, .int .i64 (-1), .bool false] 76)
    rw [show (w.alloc (.map #[] 0)).heap.size = w.heap.size + 1 by simp] at h
    exact h
  · refine ((mps_new Tryz.prog 9 w).congr (fun l _ => ?_) rfl).stay (heap_alloc_old _ _ (by simp))
    unfold dirM
    split <;> rfl
set_option maxRecDepth 100000 in
theorem dead_any {p b n : Nat} {C : Bs → Nat} {L : List Nat} {D : DskV} (w : World) (h : DskAt w p b n C L D) : Calls Tryz.prog 22 #[.pointer (some ⟨p, 0, none⟩)] w fun e w' => e = .returned (.bool D.dead) ∧ w = w' := by
  obtain ⟨c0, c1, c2, c3⟩ := h.cells
  go_enter Tryz.func22, Tryz.ntmps22
  go_wp2
  go_ret
  exact ⟨rfl, rfl⟩
set_option maxRecDepth 100000 in
theorem powered_dead {p b n : Nat} {C : Bs → Nat} {L : List Nat} {D : DskV} (w : World) (h : DskAt w p b n C L D) (hd : D.dead = true) (f : FuncId) (cap : Array Value) : Calls Tryz.prog 43 #[.pointer (some ⟨p, 0, none⟩), .func (.func f) #[] cap] w fun e w' => e = .returned (.int .i64 8) ∧ w = w' := by
  obtain ⟨c0, c1, c2, c3⟩ := h.cells
  rw [hd] at c3
  go_enter Tryz.func43, Tryz.ntmps43
  go_wp2
  go_ret
  exact ⟨rfl, rfl⟩
set_option maxRecDepth 100000 in
theorem powered_any {p b n : Nat} {C : Bs → Nat} {L : List Nat} {D : DskV} (w : World) (h : DskAt w p b n C L D) (hd : D.dead = false) (f : FuncId) (hE : ∀ (xs : Array Value) (y : World), (callFunc f xs).run Tryz.prog y = .ok (.enter f xs) y) (cap : Array Value) {R : Int → World → Prop} (hf : Calls Tryz.prog f cap w fun e w' => ∃ k, e = .returned (.int .i64 k) ∧ R k w') :
    Calls Tryz.prog 43 #[.pointer (some ⟨p, 0, none⟩), .func (.func f) #[] cap] w fun e w' => ∃ k, e = .returned (.int .i64 k) ∧ R k w' := by
  obtain ⟨c0, c1, c2, c3⟩ := h.cells
  rw [hd] at c3
  have HF := Lib.hid hf
  clear hf
  go_enter Tryz.func43, Tryz.ntmps43
  go_upto_region 5 with fail
  go_wp2_with fail
  refine HF.out.mono ?_
  rintro e w' ⟨k, rfl, hr⟩
  have HR := Lib.hid hr
  clear hr
  go_wp2
  go_ret
  exact ⟨k, rfl, HR.out⟩
end Go.Proofs.YtogfladmgbldcaaGreatDoor
namespace Go.Proofs.YtogfladmgbldcaaGreatDoor
open Go.RowKit
open Go.Maps (Keyed)
open Go.ChangeMaps Go.MapKept
theorem key_st {s : ByteArray} (h : s.size ≤ maxLen) : keyOf Tryz.prog 9 (.string s) = some (.string s.data.toList) := Go.WideMaps.keyOf_string_mk Tryz.underlying9 h
theorem zero_ptr (w : World) : (zeroValue 78).run Tryz.prog w = .ok (.pointer none) w := by kernel_rfl
theorem MpS.below {P : Program} {k : TypeId} {w w' : World} {b n s : Nat} {M : Lit → Option Value} (h : MpS P k w b n s M) (hb : Below w.heap.size w w') : MpS P k w' b n s M := h.stay (hb.block b h.lt)
theorem DskAt.below {w w' : World} {p b n : Nat} {C : Bs → Nat} {L : List Nat} {D : DskV} (h : DskAt w p b n C L D) (hb : Below w.heap.size w w') : DskAt w' p b n C L D :=
  ⟨(hb.block p h.lt).trans h.d, h.m.below hb, fun f hf => (hb.block _ (Array.getElem?_eq_some_iff.1 (h.c f hf)).1).trans (h.c f hf), h.inj, h.pb, h.cl, h.ris, h.syn, h.sum, h.fz⟩
set_option maxRecDepth 100000 in
set_option maxHeartbeats 4000000 in
theorem with1_any {p b n : Nat} {C : Bs → Nat} {L : List Nat} {D : DskV} (nm : ByteArray) (hn : nm.size ≤ maxLen) (f : FuncId) (hE : ∀ (xs : Array Value) (y : World), (callFunc f xs).run Tryz.prog y = .ok (.enter f xs) y) (cap : Array Value) (g1 g2 g3 : Nat) (w : World) (h : DskAt w p b n C L D)
    (h1 : w.cell? ⟨g1, 0, none⟩ = some (.pointer (some ⟨p, 0, none⟩))) (h2 : w.cell? ⟨g2, 0, none⟩ = some (.string nm)) (h3 : w.cell? ⟨g3, 0, none⟩ = some (.func (.func f) #[] cap)) (hg : g1 < w.heap.size ∧ g2 < w.heap.size ∧ g3 < w.heap.size) {R : Int → World → Prop}
    (hno : findF nm.data.toList D.fs = none → ∀ y, Below w.heap.size w y → R 11 y)
    (hf : ∀ fl, findF nm.data.toList D.fs = some fl → ∀ y, Below w.heap.size w y → Calls Tryz.prog f (#[.pointer (some ⟨C fl.nm, 0, none⟩)] ++ cap) y fun e w' => ∃ k, e = .returned (.int .i64 k) ∧ R k w') :
    Calls Tryz.prog 71 #[.pointer (some ⟨g1, 0, none⟩), .pointer (some ⟨g2, 0, none⟩), .pointer (some ⟨g3, 0, none⟩)] w fun e w' => ∃ k, e = .returned (.int .i64 k) ∧ R k w' := by
  have H := Lib.hid h
  have HNo := Lib.hid hno
  have HF := Lib.hid hf
  have HC := Lib.hid (fun (y : World) (hy : Below w.heap.size w y) => (show y.cell? ⟨g1, 0, none⟩ = some (.pointer (some ⟨p, 0, none⟩)) ∧ y.cell? ⟨g2, 0, none⟩ = some (.string nm) ∧ y.cell? ⟨g3, 0, none⟩ = some (.func (.func f) #[] cap) ∧ y.cell? ⟨p, 0, none⟩ = some (.map (some b)) from
    ⟨(World.cell?_of_block (hy.block _ hg.1)).trans h1, (World.cell?_of_block (hy.block _ hg.2.1)).trans h2, (World.cell?_of_block (hy.block _ hg.2.2)).trans h3, (World.cell?_of_block (hy.block _ h.lt)).trans h.cells.1⟩))
  have HL := Lib.hid (fun (y : World) (hy : Below w.heap.size w y) => (h.m.below hy).at_.look_ok (t := 74) (key := .string nm) (kl := .string nm.data.toList) lawSt Tryz.underlying74 (zero_ptr y) (key_st hn))
  clear h h1 h2 h3 hg hno hf
  go_enter Tryz.func71, Tryz.ntmps71
  go_upto_region 1 with fail
  refine (wpIn_wide (n := 1)).1 ?_
  refine RegJ.wpIn_region_plan (F := Fence.wide) (KeptW w) (.step 0 0 (.step 1 0 (.step 2 0 (.step 3 0 (.step 4 0 (.step 5 0 (.step 6 0 (.step 7 0 (.step 8 0 (.step 9 0 (.step 10 0 .nil))))))))))) (by kernel_rfl) (by kernel_rfl) (by kernel_rfl) (fun _ _ d _ _ h => by cases d <;> exact h) ⟨rfl, rfl, rfl, Nat.le_refl _, fun _ _ => rfl⟩ ?_
  dsimp only [RegJ.pickJ, List.getElem?_cons_zero, List.getElem?_cons_succ]
  change RegJ.Can _ _ _ _ _ _ _ _ w.drew
  have hkd : KeptW w w.drew := ⟨rfl, rfl, rfl, Nat.le_refl _, fun _ _ => rfl⟩
  generalize w.drew = v1 at *
  refine RegJ.reads ?_
  intro K hK
  go_simp
  refine ⟨.pointer (some ⟨p, 0, none⟩), fun y hy => ?_, hK _ ?_⟩
  · obtain ⟨c1, c2, c3, c4⟩ := HC.out y (KeptW.bel hy)
    go_simp
  clear hK K
  iterate 2 (refine RegJ.reads ?_; intro K hK; go_simp; (first | refine ⟨_, fun _ _ => rfl, hK _ ?_⟩ | refine hK _ ?_); clear hK K)
  refine RegJ.reads ?_
  intro K hK
  go_simp
  refine ⟨.map (some b), fun y hy => ?_, hK _ ?_⟩
  · obtain ⟨c1, c2, c3, c4⟩ := HC.out y (KeptW.bel hy)
    go_simp
  clear hK K
  refine RegJ.reads ?_
  intro K hK
  go_simp
  refine ⟨.string nm, fun y hy => ?_, hK _ ?_⟩
  · obtain ⟨c1, c2, c3, c4⟩ := HC.out y (KeptW.bel hy)
    go_simp
  clear hK K
  refine RegJ.reads ?_
  intro K hK
  go_simp
  refine ⟨.tuple #[((dirM C D.fs) (.string nm.data.toList)).getD (.pointer none), .bool ((dirM C D.fs) (.string nm.data.toList)).isSome], fun y hy => ?_, hK _ ?_⟩
  · have hl := HL.out y (KeptW.bel hy)
    go_simp
  clear hK K
  iterate 5 (refine RegJ.reads ?_; intro K hK; go_simp; (first | refine ⟨_, fun _ _ => rfl, hK _ ?_⟩ | refine hK _ ?_); clear hK K)
  refine RegJ.nil ?_
  have Hvk := Lib.hid (KeptW.bel hkd)
  clear hkd
  have hdir : dirM C D.fs (Lit.string nm.data.toList) = (findF nm.data.toList D.fs).map (fun f => .pointer (some ⟨C f.nm, 0, none⟩)) := rfl
  rw [hdir]
  clear hdir
  cases hfd : findF nm.data.toList D.fs with
  | none =>
    have HN := Lib.hid (HNo.out hfd v1 Hvk.out)
    clear hfd
    simp only [Option.map_none, Option.getD_none, Option.isSome_none]
    go_wp2
    go_ret
    exact ⟨11, rfl, HN.out⟩
  | some fl =>
    obtain ⟨d1, d2, d3, d4⟩ := HC.out v1 Hvk.out
    have HFF := Lib.hid (HF.out fl hfd v1 Hvk.out)
    clear hfd
    simp only [Option.map_some, Option.getD_some, Option.isSome_some]
    go_upto_region 4 with fail
    go_wp2_with fail
    refine HFF.out.mono ?_
    rintro e w' ⟨k, rfl, hr⟩
    have HR := Lib.hid hr
    clear hr
    go_wp2
    go_ret
    exact ⟨k, rfl, HR.out⟩
set_option maxRecDepth 100000 in
set_option maxHeartbeats 4000000 in
theorem with_any {p b n : Nat} {C : Bs → Nat} {L : List Nat} {D : DskV} (nm : ByteArray) (hn : nm.size ≤ maxLen) (f : FuncId) (hE : ∀ (xs : Array Value) (y : World), (callFunc f xs).run Tryz.prog y = .ok (.enter f xs) y) (cap : Array Value) (w : World) (h : DskAt w p b n C L D) {R : Int → World → Prop}
    (hdead : D.dead = true → ∀ y, Below w.heap.size w y → R 8 y) (hno : D.dead = false → findF nm.data.toList D.fs = none → ∀ y, Below w.heap.size w y → R 11 y)
    (hf : D.dead = false → ∀ fl, findF nm.data.toList D.fs = some fl → ∀ y, Below w.heap.size w y → Calls Tryz.prog f (#[.pointer (some ⟨C fl.nm, 0, none⟩)] ++ cap) y fun e w' => ∃ k, e = .returned (.int .i64 k) ∧ R k w') :
    Calls Tryz.prog 41 #[.pointer (some ⟨p, 0, none⟩), .string nm, .func (.func f) #[] cap] w fun e w' => ∃ k, e = .returned (.int .i64 k) ∧ R k w' := by
  have H := Lib.hid h
  have HDD := Lib.hid hdead
  have HNo := Lib.hid hno
  have HF := Lib.hid hf
  clear h hdead hno hf
  go_enter Tryz.func41, Tryz.ntmps41
  go_upto_region 1 with fail
  have hb3 := (((Below.refl _ w).alloc (Nat.le_refl _) (.cells #[.pointer (some ⟨p, 0, none⟩)] 32)).alloc (by simp) (.cells #[.string nm] 9)).alloc (by simp; omega) (.cells #[.func (.func f) #[] cap] 81)
  have q3 : (((w.alloc (.cells #[.pointer (some ⟨p, 0, none⟩)] 32)).alloc (.cells #[.string nm] 9)).alloc (.cells #[.func (.func f) #[] cap] 81)).heap[w.heap.size + 1 + 1]? = some (.cells #[.func (.func f) #[] cap] 81 (0, 0)) := by
    have h := heap_alloc_new ((w.alloc (.cells #[.pointer (some ⟨p, 0, none⟩)] 32)).alloc (.cells #[.string nm] 9)) (.cells #[.func (.func f) #[] cap] 81)
    simpa using h
  have q2 : (((w.alloc (.cells #[.pointer (some ⟨p, 0, none⟩)] 32)).alloc (.cells #[.string nm] 9)).alloc (.cells #[.func (.func f) #[] cap] 81)).heap[w.heap.size + 1]? = some (.cells #[.string nm] 9 (0, 0)) := by
    rw [heap_alloc_old _ _ (by simp)]
    have h := heap_alloc_new (w.alloc (.cells #[.pointer (some ⟨p, 0, none⟩)] 32)) (.cells #[.string nm] 9)
    simpa using h
  have q1 : (((w.alloc (.cells #[.pointer (some ⟨p, 0, none⟩)] 32)).alloc (.cells #[.string nm] 9)).alloc (.cells #[.func (.func f) #[] cap] 81)).heap[w.heap.size]? = some (.cells #[.pointer (some ⟨p, 0, none⟩)] 32 (0, 0)) := by
    rw [heap_alloc_old _ _ (by simp; omega), heap_alloc_old _ _ (by simp)]
    exact heap_alloc_new _ _
  have hz : (((w.alloc (.cells #[.pointer (some ⟨p, 0, none⟩)] 32)).alloc (.cells #[.string nm] 9)).alloc (.cells #[.func (.func f) #[] cap] 81)).heap.size = w.heap.size + 1 + 1 + 1 := by simp
  generalize ((w.alloc (.cells #[.pointer (some ⟨p, 0, none⟩)] 32)).alloc (.cells #[.string nm] 9)).alloc (.cells #[.func (.func f) #[] cap] 81) = w3 at *
  have c1 := cell_of_row w3 w.heap.size 0 _ _ _ q1
  have c2 := cell_of_row w3 (w.heap.size + 1) 0 _ _ _ q2
  have c3 := cell_of_row w3 (w.heap.size + 1 + 1) 0 _ _ _ q3
  have HB := Lib.hid hb3
  have H3 := Lib.hid (H.out.below hb3)
  have HW1 := Lib.hid (fun (hd : D.dead = false) => with1_any nm hn f hE cap w.heap.size (w.heap.size + 1) (w.heap.size + 1 + 1) w3 H3.out c1 c2 c3 (by omega) (R := R) (fun h y hy => HNo.out hd h y (HB.out.trans (hy.mono HB.out.size))) (fun fl h y hy => HF.out hd fl h y (HB.out.trans (hy.mono HB.out.size))))
  clear hb3 q1 q2 q3 hz c2 c3
  cases hd : D.dead with
  | true =>
    have HP := Lib.hid (powered_dead w3 H3.out hd 71 #[.pointer (some ⟨w.heap.size, 0, none⟩), .pointer (some ⟨w.heap.size + 1, 0, none⟩), .pointer (some ⟨w.heap.size + 1 + 1, 0, none⟩)])
    have HR := Lib.hid (HDD.out hd w3 HB.out)
    clear hd
    go_wp2_with (go_at_call 43; refine HP.out.mono ?_; rintro e w' ⟨rfl, rfl⟩)
    go_ret
    exact ⟨8, rfl, HR.out⟩
  | false =>
    have HP := Lib.hid (powered_any w3 H3.out hd 71 (enters_of Tryz.func71 (by kernel_rfl) rfl) #[.pointer (some ⟨w.heap.size, 0, none⟩), .pointer (some ⟨w.heap.size + 1, 0, none⟩), .pointer (some ⟨w.heap.size + 1 + 1, 0, none⟩)] (R := R) (HW1.out hd))
    clear hd
    go_wp2_with (go_at_call 43; refine HP.out.mono ?_; rintro e w' ⟨k, rfl, hr⟩; have HR := Lib.hid hr; clear hr)
    go_ret
    exact ⟨k, rfl, HR.out⟩
end Go.Proofs.YtogfladmgbldcaaGreatDoor
namespace Go.Proofs.YtogfladmgbldcaaGreatDoor
open Go.RowKit
open Go.Maps (Keyed)
open Go.ChangeMaps Go.MapKept
theorem rise_uniq : ∀ {l : List FilV}, Rise l → ∀ {f g : FilV}, f ∈ l → g ∈ l → f.nm = g.nm → f = g
  | x :: r, h, f, g, hf, hg, e => by
    obtain ⟨h1, h2⟩ := List.pairwise_cons.1 h
    rcases List.mem_cons.1 hf with rfl | hf2 <;> rcases List.mem_cons.1 hg with rfl | hg2
    · rfl
    · have := h1 g hg2
      rw [e] at this
      exact (List.lt_irrefl _ this).elim
    · have := h1 f hf2
      rw [← e] at this
      exact (List.lt_irrefl _ this).elim
    · exact rise_uniq h2 hf2 hg2 e
theorem find_of {l : List FilV} (h : Rise l) {f : FilV} (hf : f ∈ l) : findF f.nm l = some f := by
  cases hq : findF f.nm l with
  | none =>
    unfold findF at hq
    rw [List.find?_eq_none] at hq
    have := hq f hf
    simp at this
  | some g =>
    obtain ⟨h1, h2⟩ := find_nm hq
    rw [rise_uniq h h2 hf h1]
theorem DskAt.upd {w w' : World} {p b n : Nat} {C : Bs → Nat} {L : List Nat} {D D' : DskV} (h : DskAt w p b n C L D) {f f' : FilV} (hf : findF f.nm D.fs = some f) (hn : f'.nm = f.nm) (hD : D'.fs = putF f' D.fs)
    (hp : w'.heap[p]? = some (.cells (dskC b D') 76 (0, 0))) (hw : w'.heap[C f.nm]? = some (.cells (filC f') 80 (0, 0)))
    (ho : ∀ g ∈ L, g ≠ p → g ≠ C f.nm → w'.heap[g]? = w.heap[g]?) (hsy : f'.sy ≤ f'.by_.length) (hsum : D'.room + totF D'.fs ≤ 4194304) (hfz : ∀ k, D'.fuse = some k → k ≤ 9223372036854775807) : DskAt w' p b n C L D' := by
  have hf' : findF f'.nm D.fs = some f := by rw [hn]; exact hf
  have hfm := (find_nm hf).2
  have hr : Rise D'.fs := by rw [hD]; exact put_rise h.ris
  have hcase : ∀ g ∈ D'.fs, g = f' ∨ (g ∈ D.fs ∧ g.nm ≠ f.nm) := fun g hg => by
    by_cases e : g.nm = f.nm
    · refine .inl (rise_uniq hr hg ?_ (by rw [e, hn]))
      rw [hD]
      exact (find_nm (put_find (f := f') (l := D.fs))).2
    · rw [hD] at hg
      rcases put_mem hg with q | q
      · exact (e (by rw [q, hn])).elim
      · exact .inr ⟨q, e⟩
  have hC : C f'.nm = C f.nm := by rw [hn]
  refine ⟨hp, ?_, fun g hg => ?_, fun g hg q hq e => ?_, h.pb, fun g hg => ?_, hr, fun g hg => ?_, hsum, hfz⟩
  · refine (h.m.stay (ho b h.pb.2.1 h.pb.2.2.symm (h.cl f hfm).2.2.symm)).congr (fun l _ => ?_) (by rw [hD]; exact (put_old h.ris hf').2.symm)
    cases l with
    | string q =>
      show (findF q D.fs).map _ = (findF q D'.fs).map _
      rw [hD]
      by_cases e : q = f'.nm
      · rw [e, hf', put_find]
        simp [hn]
      · rw [put_other e]
    | _ => rfl
  · rcases hcase g hg with rfl | ⟨q, e⟩
    · rw [hC]; exact hw
    · obtain ⟨r1, r2, r3⟩ := h.cl g q
      rw [ho _ r1 r2 (fun e2 => e (h.inj g q f hfm e2))]
      exact h.c g q
  · rcases hcase g hg with rfl | ⟨q1, e1⟩ <;> rcases hcase q hq with rfl | ⟨q2, e2⟩
    · rfl
    · rw [hC] at e
      rw [hn]
      exact h.inj f hfm q q2 e
    · rw [hC] at e
      rw [hn]
      exact h.inj g q1 f hfm e
    · exact h.inj g q1 q q2 e
  · rcases hcase g hg with rfl | ⟨q, _⟩
    · rw [hC]; exact h.cl f hfm
    · exact h.cl g q
  · rcases hcase g hg with rfl | ⟨q, _⟩
    · exact hsy
    · exact h.syn g q
/-- What an act on a disk tells. -/
def DkR (p b : Nat) (L : List Nat) (R : DskV × Nat) (w : World) (k : Int) (w' : World) : Prop := k = (R.2 : Int) ∧ ∃ n C L', DskAt w' p b n C L' R.1 ∧ Turns L w w' ∧ ∀ g ∈ L', g ∈ L ∨ w.heap.size ≤ g
theorem DkR.same {p b n : Nat} {C : Bs → Nat} {L : List Nat} {D : DskV} {w w' : World} (h : DskAt w p b n C L D) (hb : Below w.heap.size w w') (k : Nat) : DkR p b L (D, k) w (k : Int) w' := ⟨rfl, n, C, L, h.below hb, Turns.of hb, fun _ hg => .inl hg⟩
theorem setC_other {y : World} {g i : Nat} {v : Value} {q : Nat} (h : q ≠ g) : (y.setCell ⟨g, i, none⟩ v).heap[q]? = y.heap[q]? := Below.heap_setCell _ _ _ _ h
theorem setC_turns {y : World} {g i : Nat} {v : Value} {L : List Nat} (h : g ∈ L) : Turns L y (y.setCell ⟨g, i, none⟩ v) := ⟨rfl, rfl, rfl, by simp, fun q _ hn => setC_other (fun e => hn (by rw [e]; exact h))⟩
set_option maxRecDepth 100000 in
theorem sync1_any {p b n : Nat} {C : Bs → Nat} {L : List Nat} {D : DskV} (f : FilV) (hf : findF f.nm D.fs = some f) (w : World) (h : DskAt w p b n C L D) :
    Calls Tryz.prog 47 #[.pointer (some ⟨C f.nm, 0, none⟩)] w fun e w' => e = .returned (.int .i64 0) ∧ DskAt w' p b n C L { D with fs := putF { f with sy := f.by_.length } D.fs } ∧ Turns L w w' := by
  have hfm := (find_nm hf).2
  have hc := h.c f hfm
  have c0 : w.cell? ⟨C f.nm, 0, none⟩ = some (.string ⟨f.by_.toArray⟩) := cell_of_row _ _ _ _ _ _ hc
  have c1 : w.cell? ⟨C f.nm, 1, none⟩ = some (.int .i64 (f.sy : Int)) := cell_of_row _ _ _ _ _ _ hc
  have hth := thaw0 1 hc
  have hz : (⟨f.by_.toArray⟩ : ByteArray).size = f.by_.length := by simp [ByteArray.size]
  obtain ⟨c, hcc⟩ : ∃ c, c = C f.nm := ⟨_, rfl⟩
  rw [← hcc] at c0 c1 hth hc ⊢
  have H := Lib.hid (And.intro h (And.intro hf (And.intro hfm (And.intro hc hcc))))
  clear h hf hfm hc hcc
  go_enter Tryz.func47, Tryz.ntmps47
  go_wp2
  go_ret
  obtain ⟨h, hf, hfm, hc, rfl⟩ := H.out
  have hcl := h.cl f hfm
  refine ⟨rfl, h.upd (f' := { f with sy := f.by_.length }) hf rfl rfl ?_ ?_ (fun g _ _ hg => setC_other hg) (Nat.le_refl _) ?_ h.fz, setC_turns hcl.1⟩
  · rw [setC_other hcl.2.1.symm]; exact h.d
  · exact heap_setCell_same w _ 1 #[.string ⟨f.by_.toArray⟩, .int .i64 (f.sy : Int)] _ _ hc
  · have := put_old (f := { f with sy := f.by_.length }) h.ris hf
    have hs := h.sum
    have e := this.1
    show D.room + totF (putF { f with sy := f.by_.length } D.fs) ≤ _
    simp only at e
    omega
end Go.Proofs.YtogfladmgbldcaaGreatDoor
namespace Go.Proofs.YtogfladmgbldcaaGreatDoor
open Go.RowKit
open Go.Maps (Keyed)
open Go.ChangeMaps Go.MapKept
/-- An act that wants power and a file. -/
theorem with_act {p b n : Nat} {C : Bs → Nat} {L : List Nat} {D : DskV} (nm : ByteArray) (act : FilV → DskV × Nat) {w : World} (h : DskAt w p b n C L D) :
    (D.dead = true → ∀ y, Below w.heap.size w y → DkR p b L (withD D nm.data.toList act) w 8 y) ∧ (D.dead = false → findF nm.data.toList D.fs = none → ∀ y, Below w.heap.size w y → DkR p b L (withD D nm.data.toList act) w 11 y) := by
  refine ⟨fun hd y hy => ?_, fun hd hn y hy => ?_⟩
  · rw [show withD D nm.data.toList act = (D, 8) by unfold withD; rw [hd]; rfl]
    exact DkR.same h hy 8
  · rw [show withD D nm.data.toList act = (D, 11) by unfold withD; rw [hd, hn]; rfl]
    exact DkR.same h hy 11
theorem with_some {D : DskV} {nm : Bs} {act : FilV → DskV × Nat} {f : FilV} (hd : D.dead = false) (hf : findF nm D.fs = some f) : withD D nm act = act f := by unfold withD; rw [hd, hf]; rfl
set_option maxRecDepth 100000 in
theorem sync_any {p b n : Nat} {C : Bs → Nat} {L : List Nat} {D : DskV} (nm : ByteArray) (hn : nm.size ≤ maxLen) (w : World) (h : DskAt w p b n C L D) :
    Calls Tryz.prog 20 #[.pointer (some ⟨p, 0, none⟩), .string nm] w fun e w' => ∃ k, e = .returned (.int .i64 k) ∧ DkR p b L (syncD D nm.data.toList) w k w' := by
  have HA := Lib.hid (with_any nm hn 47 (enters_of Tryz.func47 (by kernel_rfl) rfl) #[] w h (R := DkR p b L (syncD D nm.data.toList) w) (with_act nm _ h).1 (with_act nm _ h).2 (fun hd fl hfl y hy => by
    obtain ⟨e1, _⟩ := find_nm hfl
    rw [← e1] at hfl
    refine (sync1_any fl hfl y (h.below hy)).mono ?_
    rintro e w' ⟨rfl, h1, h2⟩
    refine ⟨0, rfl, ?_⟩
    unfold syncD
    rw [← e1, with_some hd hfl]
    exact ⟨rfl, n, C, L, h1, (Turns.of hy).trans h2, fun _ hg => .inl hg⟩))
  clear h
  go_enter Tryz.func20, Tryz.ntmps20
  go_wp2_with (go_at_call 41; refine HA.out.mono ?_; rintro e w' ⟨k, rfl, hr⟩; have HR := Lib.hid hr; clear hr)
  go_ret
  exact ⟨k, rfl, HR.out⟩
set_option maxRecDepth 100000 in
set_option maxHeartbeats 4000000 in
theorem shorten_any {p b n : Nat} {C : Bs → Nat} {L : List Nat} {D : DskV} (f : FilV) (hf : findF f.nm D.fs = some f) (m : Nat) (hm : m ≤ f.by_.length) (_ : f.sy ≤ m ∨ True) (w : World) (h : DskAt w p b n C L D) :
    Calls Tryz.prog 50 #[.pointer (some ⟨p, 0, none⟩), .pointer (some ⟨C f.nm, 0, none⟩), .int .i64 (m : Int)] w fun e w' => (∃ v, e = .returned v) ∧
      w'.heap[p]? = some (.cells (dskC b { D with room := D.room + (f.by_.length - m) }) 76 (0, 0)) ∧ w'.heap[C f.nm]? = some (.cells (filC { f with by_ := f.by_.take m }) 80 (0, 0)) ∧ (∀ g, g ≠ p → g ≠ C f.nm → w'.heap[g]? = w.heap[g]?) ∧ Turns L w w' := by
  have hfm := (find_nm hf).2
  have hc := h.c f hfm
  have hcl := h.cl f hfm
  obtain ⟨c, hcc⟩ : ∃ c, c = C f.nm := ⟨_, rfl⟩
  rw [← hcc] at hc hcl ⊢
  have HB := Lib.hid (show D.room + f.by_.length ≤ 4194304 by
    have h1 := put_old (f := { f with by_ := [] }) h.ris hf
    have h2 := h.sum
    simp at h1
    omega)
  have H := Lib.hid (And.intro h.d (And.intro hc hcl))
  have HPL := Lib.hid h.pb.1
  have hz : (⟨f.by_.toArray⟩ : ByteArray).size = f.by_.length := by simp [ByteArray.size]
  obtain ⟨x, hx⟩ : ∃ x : ByteArray, x = ⟨f.by_.toArray⟩ := ⟨_, rfl⟩
  have HX := Lib.hid hx
  rw [← hx] at hz
  have HZ := Lib.hid hz
  have HM := Lib.hid hm
  have HC := Lib.hid (fun (y : World) (hy : Below w.heap.size w y) => (show y.cell? ⟨p, 1, none⟩ = some (.int .i64 (D.room : Int)) ∧ y.cell? ⟨c, 0, none⟩ = some (.string x) from by
    have hp := (hy.block p (Array.getElem?_eq_some_iff.1 h.d).1).trans h.d
    have hq := (hy.block c (Array.getElem?_eq_some_iff.1 hc).1).trans hc
    exact ⟨cell_of_row _ _ _ _ _ _ hp, by rw [hx]; exact cell_of_row _ _ _ _ _ _ hq⟩))
  clear h hf hm hfm hc hcc hx hz
  go_enter Tryz.func50, Tryz.ntmps50
  go_upto_region 0 with fail
  have xw1 : IntKind.i64.wrap ((x.size : Int) - (m : Int)) = (x.size : Int) - (m : Int) := IntWalk.i64_in _ (by have := HM.out; have := HZ.out; have := HB.out; omega)
  have xw2 : IntKind.i64.wrap ((D.room : Int) + ((x.size : Int) - (m : Int))) = (D.room : Int) + ((x.size : Int) - (m : Int)) := IntWalk.i64_in _ (by have := HM.out; have := HZ.out; have := HB.out; omega)
  refine (wpIn_wide (n := 1)).1 ?_
  refine RegK.wpIn_region_can (F := Fence.wide) (KeptW w) [(0, 0), (1, 0), (2, 0), (3, 0), (4, 0), (5, 0), (6, 0), (7, 0), (8, 0), (9, 0), (10, 0), (11, 0), (12, 0), (13, 0), (14, 3)] (by kernel_rfl) (by kernel_rfl) (by kernel_rfl) (fun _ _ d _ _ h => by cases d <;> exact h) ⟨rfl, rfl, rfl, Nat.le_refl _, fun _ _ => rfl⟩ ?_
  dsimp only [RegK.pick, List.getElem?_cons_zero, List.getElem?_cons_succ]
  change RegK.Can _ _ _ _ _ _ _ _ w.drew
  have hkd : KeptW w w.drew := ⟨rfl, rfl, rfl, Nat.le_refl _, fun _ _ => rfl⟩
  have HK0 := Lib.hid (show ∀ g : Nat, w.drew.heap[g]? = w.heap[g]? from fun _ => rfl)
  generalize w.drew = v1 at *
  iterate 3 (refine RegK.can_reads ?_; intro K hK; go_simp; (first | refine ⟨_, fun _ _ => rfl, hK _ ?_⟩ | refine hK _ ?_); clear hK K)
  refine RegK.can_reads ?_
  intro K hK
  go_simp
  refine ⟨.int .i64 (D.room : Int), fun y hy => ?_, hK _ ?_⟩
  · obtain ⟨c1, c2⟩ := HC.out y (KeptW.bel hy)
    go_simp
  clear hK K
  iterate 3 (refine RegK.can_reads ?_; intro K hK; go_simp; (first | refine ⟨_, fun _ _ => rfl, hK _ ?_⟩ | refine hK _ ?_); clear hK K)
  refine RegK.can_reads ?_
  intro K hK
  go_simp
  refine ⟨.string x, fun y hy => ?_, hK _ ?_⟩
  · obtain ⟨c1, c2⟩ := HC.out y (KeptW.bel hy)
    go_simp
  clear hK K
  iterate 6 (refine RegK.can_reads ?_; intro K hK; go_simp; (first | refine ⟨_, fun _ _ => rfl, hK _ ?_⟩ | refine hK _ ?_); clear hK K)
  have hk1 := KeptW.bel hkd
  have hp1 := (hk1.block p (Array.getElem?_eq_some_iff.1 H.out.1).1).trans H.out.1
  have s1 : v1.cell? ⟨p, 1, none⟩ = some (.int .i64 (D.room : Int)) := cell_of_row _ _ _ _ _ _ hp1
  have s2 := thaw0 1 hp1
  refine RegK.can_frees (fun _ => trivial) ?_
  intro K K0 hK hK0
  go_simp
  refine hK (fun _ => True) _ _ trivial ?_
  clear hK K hK0 K0
  refine RegK.can_nil ?_
  have hk1 := KeptW.bel hkd
  have hp1 := (hk1.block p (Array.getElem?_eq_some_iff.1 H.out.1).1).trans H.out.1
  have hc1 := (hk1.block c (Array.getElem?_eq_some_iff.1 H.out.2.1).1).trans H.out.2.1
  have hpw := heap_setCell_same v1 p 1 (dskC b D) _ (.int .i64 ((D.room : Int) + ((x.size : Int) - (m : Int)))) hp1
  have hcw : (v1.setCell ⟨p, 1, none⟩ (.int .i64 ((D.room : Int) + ((x.size : Int) - (m : Int))))).heap[c]? = _ := (setC_other (H.out.2.2.2.1)).trans hc1
  have H2 := Lib.hid (show (v1.setCell ⟨p, 1, none⟩ (.int .i64 ((D.room : Int) + ((x.size : Int) - (m : Int))))).heap[p]? = some (.cells (dskC b { D with room := D.room + (f.by_.length - m) }) 76 (0, 0)) ∧ (v1.setCell ⟨p, 1, none⟩ (.int .i64 ((D.room : Int) + ((x.size : Int) - (m : Int))))).heap[c]? = some (.cells (filC f) 80 (0, 0)) ∧ Turns L w (v1.setCell ⟨p, 1, none⟩ (.int .i64 ((D.room : Int) + ((x.size : Int) - (m : Int))))) ∧ ∀ g, g ≠ p → (v1.setCell ⟨p, 1, none⟩ (.int .i64 ((D.room : Int) + ((x.size : Int) - (m : Int))))).heap[g]? = v1.heap[g]? from by
    refine ⟨?_, hcw, (Turns.of hk1).trans (setC_turns HPL.out), fun g hg => setC_other hg⟩
    rw [hpw, show ((D.room : Int) + ((x.size : Int) - (m : Int))) = ((D.room + (f.by_.length - m) : Nat) : Int) by have := HM.out; have := HZ.out; omega]
    rfl)
  have H3 := Lib.hid (show ∀ g, v1.heap[g]? = w.heap[g]? from fun g => HK0.out g)
  clear hkd hk1 hp1 hc1 hpw hcw
  generalize v1.setCell ⟨p, 1, none⟩ (.int .i64 ((D.room : Int) + ((x.size : Int) - (m : Int)))) = w2 at *
  have t0 : w2.cell? ⟨c, 0, none⟩ = some (.string x) := by rw [HX.out]; exact cell_of_row _ _ _ _ _ _ H2.out.2.1
  have t1 := thaw0 0 H2.out.2.1
  have hmx : m ≤ x.size := by have := HM.out; have := HZ.out; omega
  go_wp2_with fail
  refine bodyPost_end (results_none rfl _ _ _) rfl ?_
  have hE : (filC f).setIfInBounds 0 (.string (x.extract 0 m)) = filC { f with by_ := f.by_.take m } := by
    show #[Value.string (x.extract 0 m), _] = #[Value.string _, _]
    rw [show x.extract 0 m = ⟨(f.by_.take m).toArray⟩ by
      apply ByteArray.ext
      apply Array.toList_inj.1
      rw [HX.out, ByteArray.data_extract]
      simp]
  refine ⟨⟨_, rfl⟩, (setC_other (H.out.2.2.2.1).symm).trans H2.out.1, ?_, fun g h1 h2 => (setC_other h2).trans ((H2.out.2.2.2 g h1).trans (H3.out g)), H2.out.2.2.1.trans (setC_turns H.out.2.2.1)⟩
  rw [heap_setCell_same w2 c 0 (filC f) _ _ H2.out.2.1, hE]
end Go.Proofs.YtogfladmgbldcaaGreatDoor
namespace Go.Proofs.YtogfladmgbldcaaGreatDoor
open Go.RowKit
open Go.Maps (Keyed)
open Go.ChangeMaps Go.MapKept
theorem same_str (q nm : Bs) : (Lit.string q).sameKey (.string nm) = decide (q = nm) := by
  by_cases h : q = nm
  · subst h
    rw [decide_eq_true rfl]
    first | rfl | exact WideAt.sameKey_self trivial | (rw [Bool.eq_false_iff]; intro e; exact h (by have := WideAt.sameKey_eq e; cases this; rfl)) | simp [Lit.sameKey] | simpa [Lit.sameKey] using h
  · rw [decide_eq_false h]
    first | rfl | exact WideAt.sameKey_self trivial | (rw [Bool.eq_false_iff]; intro e; exact h (by have := WideAt.sameKey_eq e; cases this; rfl)) | simp [Lit.sameKey] | simpa [Lit.sameKey] using h
theorem dir_del {C : Bs → Nat} {fs : List FilV} {nm : Bs} : ∀ l, WideAt.IsKeyLit l → mpDel (dirM C fs) (.string nm) l = dirM C (delF nm fs) l := by
  intro l hl
  unfold mpDel
  cases l with
  | string q =>
    rw [same_str]
    show (if decide (q = nm) = true then none else (findF q fs).map _) = (findF q (delF nm fs)).map _
    by_cases e : q = nm
    · rw [if_pos (decide_eq_true e), e, del_find]; rfl
    · rw [if_neg (by simpa using e), del_other e]
  | _ => simp [dirM]
theorem del_tot {nm : Bs} {f : FilV} : ∀ {l : List FilV}, Rise l → findF nm l = some f → totF (delF nm l) + f.by_.length = totF l ∧ (delF nm l).length + 1 = l.length
  | x :: r, h, hn => by
    obtain ⟨h1, h2⟩ := List.pairwise_cons.1 h
    by_cases hx : x.nm = nm
    · have e : x = f := by
        unfold findF at hn
        rw [List.find?_cons_of_pos (by simpa using hx)] at hn
        exact Option.some.inj hn
      have hr : delF nm r = r := by
        unfold delF
        refine List.filter_eq_self.2 (fun y hy => ?_)
        have := h1 y hy
        simp only [ne_eq, decide_eq_true_eq]
        intro e2
        rw [hx, e2] at this
        exact List.lt_irrefl _ this
      have hd : delF nm (x :: r) = delF nm r := by unfold delF; rw [List.filter_cons_of_neg (by simpa using hx)]
      rw [hd, hr, tot_cons, e]
      exact ⟨by omega, rfl⟩
    · have hr : findF nm r = some f := by
        unfold findF at hn ⊢
        rwa [List.find?_cons_of_neg (by simpa using hx)] at hn
      have hd : delF nm (x :: r) = x :: delF nm r := by unfold delF; rw [List.filter_cons_of_pos (by simpa using hx)]
      obtain ⟨q1, q2⟩ := del_tot h2 hr
      rw [hd, tot_cons, tot_cons, List.length_cons, List.length_cons]
      exact ⟨by omega, by omega⟩
theorem DskAt.rem {w w' : World} {p b n : Nat} {C : Bs → Nat} {L : List Nat} {D D' : DskV} (h : DskAt w p b n C L D) {f : FilV} (hf : findF f.nm D.fs = some f) (hD : D'.fs = delF f.nm D.fs)
    (hp : w'.heap[p]? = some (.cells (dskC b D') 76 (0, 0))) (hm : MpS Tryz.prog 9 w' b n (D.fs.length - 1) (mpDel (dirM C D.fs) (.string f.nm)))
    (ho : ∀ g ∈ L, g ≠ p → g ≠ b → g ≠ C f.nm → w'.heap[g]? = w.heap[g]?) (hsum : D'.room + totF D'.fs ≤ 4194304) (hfz : ∀ k, D'.fuse = some k → k ≤ 9223372036854775807) : DskAt w' p b n C L D' := by
  have hfm := (find_nm hf).2
  have hsub : ∀ g ∈ D'.fs, g ∈ D.fs ∧ g.nm ≠ f.nm := fun g hg => by
    rw [hD] at hg
    exact ⟨(List.mem_filter.1 hg).1, by simpa using (List.mem_filter.1 hg).2⟩
  refine ⟨hp, hm.congr (fun l hl => by rw [hD]; exact dir_del l hl) (by rw [hD]; have := (del_tot h.ris hf).2; omega), fun g hg => ?_, fun g hg q hq e => h.inj g (hsub g hg).1 q (hsub q hq).1 e, h.pb, fun g hg => h.cl g (hsub g hg).1, by rw [hD]; exact del_rise h.ris, fun g hg => h.syn g (hsub g hg).1, hsum, hfz⟩
  obtain ⟨r1, r2, r3⟩ := h.cl g (hsub g hg).1
  rw [ho _ r1 r2 r3 (fun e => (hsub g hg).2 (h.inj g (hsub g hg).1 f hfm e))]
  exact h.c g (hsub g hg).1
set_option maxRecDepth 100000 in
set_option maxHeartbeats 4000000 in
theorem remove1_any {p b n : Nat} {C : Bs → Nat} {L : List Nat} {D : DskV} (nm : ByteArray) (hn : nm.size ≤ maxLen) (f : FilV) (hfn : f.nm = nm.data.toList) (hf : findF f.nm D.fs = some f) (g1 g2 : Nat) (hg1 : g1 ∉ L) (hg2 : g2 ∉ L) (w : World) (h : DskAt w p b n C L D)
    (h1 : w.cell? ⟨g1, 0, none⟩ = some (.pointer (some ⟨p, 0, none⟩))) (h2 : w.cell? ⟨g2, 0, none⟩ = some (.string nm)) (hg : g1 < w.heap.size ∧ g2 < w.heap.size) :
    Calls Tryz.prog 59 #[.pointer (some ⟨C f.nm, 0, none⟩), .pointer (some ⟨g1, 0, none⟩), .pointer (some ⟨g2, 0, none⟩)] w fun e w' => e = .returned (.int .i64 0) ∧ DskAt w' p b n C L { D with fs := delF f.nm D.fs, room := D.room + f.by_.length } ∧ Turns L w w' := by
  have hfm := (find_nm hf).2
  have hcl := h.cl f hfm
  have HSH := Lib.hid (shorten_any f hf 0 (Nat.zero_le _) (.inr trivial) w h)
  have HD := Lib.hid (And.intro h (And.intro hf (And.intro hfn hcl)))
  have HG := Lib.hid (And.intro hg1 (And.intro hg2 (And.intro h1 (And.intro h2 hg))))
  obtain ⟨c, hcc⟩ : ∃ c, c = C f.nm := ⟨_, rfl⟩
  rw [← hcc] at HSH ⊢
  have HCC := Lib.hid hcc
  clear h hf hfm hcl hfn hg1 hg2 h2 hg hcc
  go_enter Tryz.func59, Tryz.ntmps59
  go_upto_region 2 with (go_at_call 50; refine HSH.out.mono ?_; rintro e w2 ⟨⟨v, rfl⟩, hp, hc, ho, ht⟩; have H2 := Lib.hid (And.intro hp (And.intro hc (And.intro ho ht))); clear hp hc ho ht)
  clear h1 HSH
  have hpb := HD.out.1.pb
  have HK := Lib.hid (show w2.cell? ⟨g1, 0, none⟩ = some (.pointer (some ⟨p, 0, none⟩)) ∧ w2.cell? ⟨g2, 0, none⟩ = some (.string nm) ∧ w2.cell? ⟨p, 0, none⟩ = some (.map (some b)) ∧ MpS Tryz.prog 9 w2 b n D.fs.length (dirM C D.fs) from by
    obtain ⟨q1, q2, q3, q4, q5, q6⟩ := HG.out
    refine ⟨(World.cell?_of_block (H2.out.2.2.2.block g1 q5 q1)).trans q3, (World.cell?_of_block (H2.out.2.2.2.block g2 q6 q2)).trans q4, cell_of_row _ _ _ _ _ _ H2.out.1, HD.out.1.m.stay (H2.out.2.2.1 b hpb.2.2.symm ?_)⟩
    rw [HCC.out]
    exact HD.out.2.2.2.2.2.symm)
  have HL := Lib.hid (show g1 < w2.heap.size ∧ g2 < w2.heap.size ∧ p < w2.heap.size from ⟨Nat.lt_of_lt_of_le HG.out.2.2.2.2.1 H2.out.2.2.2.size, Nat.lt_of_lt_of_le HG.out.2.2.2.2.2 H2.out.2.2.2.size, (Array.getElem?_eq_some_iff.1 H2.out.1).1⟩)
  have HC := Lib.hid (fun (y : World) (hy : Below w2.heap.size w2 y) => (show y.cell? ⟨g1, 0, none⟩ = some (.pointer (some ⟨p, 0, none⟩)) ∧ y.cell? ⟨g2, 0, none⟩ = some (.string nm) ∧ y.cell? ⟨p, 0, none⟩ = some (.map (some b)) from
    ⟨(World.cell?_of_block (hy.block _ HL.out.1)).trans HK.out.1, (World.cell?_of_block (hy.block _ HL.out.2.1)).trans HK.out.2.1, (World.cell?_of_block (hy.block _ HL.out.2.2)).trans HK.out.2.2.1⟩))
  clear hpb
  refine (wpIn_wide (n := 1)).1 ?_
  refine RegK.wpIn_region_can (F := Fence.wide) (KeptW w2) [(0, 0), (1, 0), (2, 0), (3, 0), (4, 0), (5, 3)] (by kernel_rfl) (by kernel_rfl) (by kernel_rfl) (fun _ _ d _ _ h => by cases d <;> exact h) ⟨rfl, rfl, rfl, Nat.le_refl _, fun _ _ => rfl⟩ ?_
  dsimp only [RegK.pick, List.getElem?_cons_zero, List.getElem?_cons_succ]
  change RegK.Can _ _ _ _ _ _ _ _ w2.drew
  have hkd : KeptW w2 w2.drew := ⟨rfl, rfl, rfl, Nat.le_refl _, fun _ _ => rfl⟩
  have HK0 := Lib.hid (show ∀ g : Nat, w2.drew.heap[g]? = w2.heap[g]? from fun _ => rfl)
  generalize w2.drew = v1 at *
  refine RegK.can_reads ?_
  intro K hK
  go_simp
  refine ⟨.pointer (some ⟨p, 0, none⟩), fun y hy => ?_, hK _ ?_⟩
  · obtain ⟨c1, c2, c3⟩ := HC.out y (KeptW.bel hy)
    go_simp
  clear hK K
  iterate 2 (refine RegK.can_reads ?_; intro K hK; go_simp; (first | refine ⟨_, fun _ _ => rfl, hK _ ?_⟩ | refine hK _ ?_); clear hK K)
  refine RegK.can_reads ?_
  intro K hK
  go_simp
  refine ⟨.map (some b), fun y hy => ?_, hK _ ?_⟩
  · obtain ⟨c1, c2, c3⟩ := HC.out y (KeptW.bel hy)
    go_simp
  clear hK K
  refine RegK.can_reads ?_
  intro K hK
  go_simp
  refine ⟨.string nm, fun y hy => ?_, hK _ ?_⟩
  · obtain ⟨c1, c2, c3⟩ := HC.out y (KeptW.bel hy)
    go_simp
  clear hK K
  obtain ⟨w3, hrun, hm3, ht3⟩ := (HK.out.2.2.2.below (KeptW.bel hkd)).drop (t := 74) (key := .string nm) (kl := .string nm.data.toList) lawSt Tryz.underlying74 (key_st hn) 0
  have H3 := Lib.hid (And.intro hm3 ht3)
  clear hm3 ht3
  refine RegK.can_frees (fun _ => trivial) ?_
  intro K K0 hK hK0
  go_simp
  refine hK (fun _ => True) _ _ trivial ?_
  clear hK K hK0 K0
  refine RegK.can_nil ?_
  have HKK := Lib.hid (show (∀ g : Nat, v1.heap[g]? = w2.heap[g]?) ∧ Turns L w2 v1 from ⟨fun g => HK0.out g, Turns.of (KeptW.bel hkd)⟩)
  clear hkd hrun
  go_wp2
  go_ret
  obtain ⟨h, hf, hfn, hcl⟩ := HD.out
  have hbw : ∀ g, g ≠ b → w3.heap[g]? = w2.heap[g]? := fun g hg => (turned_block H3.out.2 hg).trans (HKK.out.1 g)
  have hdt := del_tot h.ris hf
  have hs := h.sum
  refine ⟨rfl, h.rem (D' := { D with fs := delF f.nm D.fs, room := D.room + f.by_.length }) hf rfl ((hbw p h.pb.2.2).trans H2.out.1) ?_ (fun g _ q1 q2 q3 => (hbw g q2).trans (H2.out.2.2.1 g q1 (by rw [HCC.out]; exact q3))) ?_ h.fz, H2.out.2.2.2.trans (HKK.out.2.trans ?_)⟩
  · refine H3.out.1.congr (fun l _ => by rw [hfn]) ?_
    show (if ((findF nm.data.toList D.fs).map _).isSome = true then _ else _) = _
    rw [← hfn, hf]
    rfl
  · show D.room + f.by_.length + totF (delF f.nm D.fs) ≤ _
    omega
  · obtain ⟨es, clock, es', clock', hb, rfl⟩ := H3.out.2
    exact ⟨rfl, rfl, rfl, by simp [setBlock], fun g _ hn => heap_setBlock_other hb _ (fun e => hn (by rw [e]; exact h.pb.2.1))⟩
set_option maxRecDepth 100000 in
set_option maxHeartbeats 4000000 in
theorem remove_any {p b n : Nat} {C : Bs → Nat} {L : List Nat} {D : DskV} (nm : ByteArray) (hn : nm.size ≤ maxLen) (w : World) (h : DskAt w p b n C L D) (hL : ∀ g ∈ L, g < w.heap.size) :
    Calls Tryz.prog 32 #[.pointer (some ⟨p, 0, none⟩), .string nm] w fun e w' => ∃ k, e = .returned (.int .i64 k) ∧ DkR p b L (remD D nm.data.toList) w k w' := by
  have H := Lib.hid h
  have HLL := Lib.hid hL
  clear h hL
  go_enter Tryz.func32, Tryz.ntmps32
  go_upto_region 1 with fail
  have hb3 := ((Below.refl _ w).alloc (Nat.le_refl _) (.cells #[.pointer (some ⟨p, 0, none⟩)] 32)).alloc (by simp) (.cells #[.string nm] 9)
  have q2 : ((w.alloc (.cells #[.pointer (some ⟨p, 0, none⟩)] 32)).alloc (.cells #[.string nm] 9)).heap[w.heap.size + 1]? = some (.cells #[.string nm] 9 (0, 0)) := by
    have h := heap_alloc_new (w.alloc (.cells #[.pointer (some ⟨p, 0, none⟩)] 32)) (.cells #[.string nm] 9)
    simpa using h
  have q1 : ((w.alloc (.cells #[.pointer (some ⟨p, 0, none⟩)] 32)).alloc (.cells #[.string nm] 9)).heap[w.heap.size]? = some (.cells #[.pointer (some ⟨p, 0, none⟩)] 32 (0, 0)) := by
    rw [heap_alloc_old _ _ (by simp)]
    exact heap_alloc_new _ _
  have hz : ((w.alloc (.cells #[.pointer (some ⟨p, 0, none⟩)] 32)).alloc (.cells #[.string nm] 9)).heap.size = w.heap.size + 1 + 1 := by simp
  generalize (w.alloc (.cells #[.pointer (some ⟨p, 0, none⟩)] 32)).alloc (.cells #[.string nm] 9) = w3 at *
  have c1 := cell_of_row w3 w.heap.size 0 _ _ _ q1
  have c2 := cell_of_row w3 (w.heap.size + 1) 0 _ _ _ q2
  have HB := Lib.hid hb3
  have H3 := Lib.hid (H.out.below hb3)
  have HC := Lib.hid (And.intro q1 q2)
  have HA := Lib.hid (with_any nm hn 59 (enters_of Tryz.func59 (by kernel_rfl) rfl) #[.pointer (some ⟨w.heap.size, 0, none⟩), .pointer (some ⟨w.heap.size + 1, 0, none⟩)] w3 H3.out (R := DkR p b L (remD D nm.data.toList) w)
    (fun hd y hy => (with_act nm _ H.out).1 hd y (HB.out.trans (hy.mono HB.out.size))) (fun hd hn y hy => (with_act nm _ H.out).2 hd hn y (HB.out.trans (hy.mono HB.out.size))) (fun hd fl hfl y hy => by
    obtain ⟨e1, _⟩ := find_nm hfl
    have hfl2 := hfl
    rw [← e1] at hfl2
    have hy1 := (hy.block w.heap.size (by omega)).trans HC.out.1
    have hy2 := (hy.block (w.heap.size + 1) (by omega)).trans HC.out.2
    refine (remove1_any nm hn fl e1 hfl2 w.heap.size (w.heap.size + 1) (fun q => by have := HLL.out _ q; omega) (fun q => by have := HLL.out _ q; omega) y (H3.out.below hy) (cell_of_row _ _ _ _ _ _ hy1) (cell_of_row _ _ _ _ _ _ hy2) ⟨(Array.getElem?_eq_some_iff.1 hy1).1, (Array.getElem?_eq_some_iff.1 hy2).1⟩).mono ?_
    rintro e w' ⟨rfl, k1, k2⟩
    refine ⟨0, rfl, ?_⟩
    unfold remD
    rw [with_some hd hfl, ← e1]
    exact ⟨rfl, n, C, L, k1, (Turns.of (HB.out.trans (hy.mono HB.out.size))).trans k2, fun _ hg => .inl hg⟩))
  clear hb3 q1 q2
  go_wp2_with (go_at_call 41; refine HA.out.mono ?_; rintro e w' ⟨k, rfl, hr⟩; have HR := Lib.hid hr; clear hr)
  go_ret
  exact ⟨k, rfl, HR.out⟩
end Go.Proofs.YtogfladmgbldcaaGreatDoor
