/- The document's table of sessions: ref12.Last. No condition. -/
import Derived.Deep.DeepCutAuto
import Derived.Test.YtbckjgageofldaaGreatZLearnNil10
import Derived.Test.YtbckjgageofldaaGreatZLearnNil14
import Derived.Test.YtbckjgageofldaaGreatZLearnNil39
import Derived.Test.YtbckjgageofldaaGreatZLearnNil22
import Derived.Test.YtbckjgageofldaaGreatZLearnNil4
import Derived.Test.YtbckjgageofldaaGreatZLearnNil25
import Derived.Test.YtbckjgageofldaaGreatZLearnNil27
import Derived.Test.YtbckjgageofldaaGreatZLearnNil23
import Derived.Test.YtbckjgageofldaaGreatZLearnNil28
import Derived.Test.YtbckjgageofldaaGreatZLearnNil12
import Derived.Test.YtbckjgageofldaaGreatZLearnNil13
namespace Go.Proofs.YtbckjgageofldaaGreat
open Go.RowKit
structure KeptV where
 client : BitVec 8
 seq : BitVec 32
 code : Nat
 text : ByteArray
def keptCells (k : KeptV) : List Value := [.int .u8 (k.client.toNat : Int), .int .u32 (k.seq.toNat : Int), .int .u8 (k.code : Int), .string k.text]
theorem kept_eta (k : KeptV) : (keptCells k).toArray = #[.int .u8 (k.client.toNat : Int), .int .u32 (k.seq.toNat : Int), .int .u8 (k.code : Int), .string k.text] := rfl
abbrev KeptsAt := SliceAt 4 keptCells
def keptNone (c : BitVec 8) : KeptV := ⟨c, 0#32, 0, ByteArray.empty⟩
instance : Inhabited KeptV := ⟨keptNone 0#8⟩
def lastR (c : BitVec 8) (z : List KeptV) : KeptV := z.foldl (fun o x => if x.client = c then x else o) (keptNone c)
theorem lastR_step (c : BitVec 8) (z : List KeptV) {i : Nat} (hi : i < z.length) : lastR c (z.take (i + 1)) = if (z.getD i default).client = c then z.getD i default else lastR c (z.take i) := by
 unfold lastR
 rw [List.take_succ_eq_append_getElem hi, List.foldl_append]
 simp [List.getD, List.getElem?_eq_getElem hi]
def KeptRow (w : World) (g : Nat) (k : KeptV) : Prop := w.heap[g]? = some (.cells (keptCells k).toArray 179 (0, 0))
theorem KeptRow.cells {w : World} {g : Nat} {k : KeptV} (h : KeptRow w g k) : w.cell? ⟨g, 0, none⟩ = some (.int .u8 (k.client.toNat : Int)) ∧ w.cell? ⟨g, 1, none⟩ = some (.int .u32 (k.seq.toNat : Int)) ∧ w.cell? ⟨g, 2, none⟩ = some (.int .u8 (k.code : Int)) ∧ w.cell? ⟨g, 3, none⟩ = some (.string k.text) :=
 ⟨cell_of_row _ _ _ _ _ _ h, cell_of_row _ _ _ _ _ _ h, cell_of_row _ _ _ _ _ _ h, cell_of_row _ _ _ _ _ _ h⟩
theorem KeptRow.thawed {w : World} {g : Nat} {k : KeptV} (h : KeptRow w g k) (j : Nat) : w.frozen? ⟨g, j, none⟩ = false := by
 unfold KeptRow at h
 simp [World.frozen?, h]
theorem KeptRow.lt {w : World} {g : Nat} {k : KeptV} (h : KeptRow w g k) : g < w.heap.size := (Array.getElem?_eq_some_iff.1 h).1
theorem KeptRow.below {w w' : World} {g : Nat} {k : KeptV} (h : KeptRow w g k) (hb : Below w.heap.size w w') : KeptRow w' g k := (hb.block g h.lt).trans h
theorem KeptRow.set {w : World} {g : Nat} {k : KeptV} (h : KeptRow w g k) (x : KeptV) : KeptRow (rowSt w g 0 (keptCells x)) g x := rowSt_row (keptCells x) [] (keptCells k) w h rfl
theorem kept_cells {w : World} {a : Option Addr} {len : Nat} {z : List KeptV} (h : KeptsAt w a len z) {i : Nat} (hi : i < len) :
  ∃ b o, a = some ⟨b, o, none⟩ ∧ b < w.heap.size ∧ w.cell? ⟨b, o + i * 4, none⟩ = some (.int .u8 ((z.getD i default).client.toNat : Int)) ∧
   w.cell? ⟨b, o + i * 4 + 1, none⟩ = some (.int .u32 ((z.getD i default).seq.toNat : Int)) ∧ w.cell? ⟨b, o + i * 4 + 2, none⟩ = some (.int .u8 ((z.getD i default).code : Int)) ∧
   w.cell? ⟨b, o + i * 4 + 3, none⟩ = some (.string (z.getD i default).text) := by
 have hl := h.hlen
 have hz : z[i]? = some (z.getD i default) := by simp [List.getD, List.getElem?_eq_getElem (show i < z.length by omega)]
 obtain ⟨b, o, h1, h2, h3⟩ := h.cells i _ hz
 exact ⟨b, o, h1, h2, h3 0 _ rfl, h3 1 _ rfl, h3 2 _ rfl, h3 3 _ rfl⟩
set_option maxRecDepth 100000 in
set_option maxHeartbeats 4000000 in
theorem rlast_any (A : Option Addr) (n cap : Nat) (z : List KeptV) (c : BitVec 8) (w : World) (h : KeptsAt w A n z) :
  Calls Tryz.prog 121 #[.slice A n cap, .int .u8 (c.toNat : Int)] w fun e w' => e = .returned (.agg (keptCells (lastR c z)).toArray) ∧ Below w.heap.size w w' := by
 have hlen := h.hlen
 have hmax := h.hmax
 unfold maxLen at hmax
 have H := Lib.hid h; clear h
 have r0 : KeptRow (w.alloc (.cells (keptCells (keptNone 0#8)).toArray 179)) w.heap.size (keptNone 0#8) := heap_alloc_new _ _
 have s0 : (w.alloc (.cells (keptCells (keptNone 0#8)).toArray 179)).heap.size = w.heap.size + 1 := by simp
 have r1 : KeptRow ((w.alloc (.cells (keptCells (keptNone 0#8)).toArray 179)).alloc (.cells (keptCells (keptNone c)).toArray 179)) (w.heap.size + 1) (keptNone c) := by rw [← s0]; exact heap_alloc_new _ _
 have r00 := r0.below ((Below.refl _ _).alloc (Nat.le_refl _) (.cells (keptCells (keptNone c)).toArray 179))
 have hb := ((Below.refl w.heap.size w).alloc (Nat.le_refl _) (.cells (keptCells (keptNone 0#8)).toArray 179)).alloc (by simp) (.cells (keptCells (keptNone c)).toArray 179)
 go_enter Tryz.func121, Tryz.ntmps121
 go_upto_region 2 with fail
 change Code.wp _ _ _ _ ((w.alloc (.cells (keptCells (keptNone 0#8)).toArray 179)).alloc (.cells (keptCells (keptNone c)).toArray 179))
 generalize (w.alloc (.cells (keptCells (keptNone 0#8)).toArray 179)).alloc (.cells (keptCells (keptNone c)).toArray 179) = w1 at *
 clear r0 s0
 have R0 := Lib.hid r00; clear r00
 have R1 := Lib.hid r1; clear r1
 have HB := Lib.hid hb; clear hb
 have Hlen := Lib.hid hlen; clear hlen
 go_wp2_with fail
 go_loopw [6] (fun s6 wr => ∃ i : Nat, i ≤ n ∧ s6 = .int .i64 (i : Int) ∧ KeptRow wr w.heap.size (keptNone 0#8) ∧ KeptRow wr (w.heap.size + 1) (lastR c (z.take i)) ∧ Below w.heap.size w wr) (fun s6 _ => n - (intOf s6).toNat)
 case atStart => exact ⟨0, by omega, rfl, R0.out, R1.out, HB.out⟩
 case round =>
  clear R0 R1 HB
  obtain ⟨i, hi, rfl, hr0, hr1, hb⟩ := hrel
  have R0 := Lib.hid hr0; clear hr0
  have R1 := Lib.hid hr1; clear hr1
  have HB := Lib.hid hb; clear hb
  by_cases hlt : i < n
  ·
   have hlt' : (i : Int) < (n : Int) := by omega
   obtain ⟨b, o, rfl, hbl, c0, c1, c2, c3⟩ := kept_cells (H.out.below HB.out) hlt
   have hst := lastR_step c z (i := i) (by have := Hlen.out; omega)
   generalize z.getD i default = x at *
   have hsucc := tsucc (n := i) (by omega)
   have Hst := Lib.hid hst; clear hst
   by_cases hx : x.client = c
   ·
    subst hx
    obtain ⟨d0, d1, d2, d3⟩ := R1.out.cells
    have z0 := R1.out.thawed 0
    have z1 := R1.out.thawed 1
    have z2 := R1.out.thawed 2
    have z3 := R1.out.thawed 3
    have RS := Lib.hid (R1.out.set x)
    have R0S := Lib.hid (show KeptRow (rowSt wr (w.heap.size + 1) 0 (keptCells x)) w.heap.size (keptNone 0#8) from (rowSt_other (by omega) _ _ _).trans R0.out)
    have HBS := Lib.hid (rowSt_below (g := w.heap.size + 1) (by omega) (keptCells x) 0 _ HB.out)
    go_wp2_with fail
    clear d0 d1 d2 d3 z0 z1 z2 z3
    go_roundw
    case rel => exact ⟨i + 1, hlt, rfl, R0S.out, by rw [Hst.out, if_pos rfl]; exact RS.out, HBS.out⟩
    case measure => simp [intOf]; omega
   ·
    have hx' : ((x.client.toNat : Int) == (c.toNat : Int)) = false := by
     rw [beq_eq_false_iff_ne]
     intro e
     exact hx (BitVec.eq_of_toNat_eq (by omega))
    have Hx := Lib.hid hx; clear hx
    go_wp2_with fail
    go_roundw
    case rel => exact ⟨i + 1, hlt, rfl, R0.out, by rw [Hst.out, if_neg Hx.out]; exact R1.out, HB.out⟩
    case measure => simp [intOf]; omega
  ·
   have hlt' : ¬ (i : Int) < (n : Int) := by omega
   have hin : i = n := by omega
   subst hin
   have hz : z.take i = z := by rw [← Hlen.out, List.take_length]
   rw [hz] at R1
   clear hz
   obtain ⟨x, hx⟩ : ∃ x, lastR c z = x := ⟨_, rfl⟩
   rw [hx] at R1
   have Hx := Lib.hid hx; clear hx
   obtain ⟨c0, c1, c2, c3⟩ := R1.out.cells
   obtain ⟨d0, d1, d2, d3⟩ := R0.out.cells
   have z0 := R0.out.thawed 0
   have z1 := R0.out.thawed 1
   have z2 := R0.out.thawed 2
   have z3 := R0.out.thawed 3
   have RS := Lib.hid (R0.out.set x)
   have HBS := Lib.hid (rowSt_below (Nat.le_refl w.heap.size) (keptCells x) 0 _ HB.out)
   go_wp2_with fail
   change bodyPost _ _ _ _ _ (rowSt wr w.heap.size 0 (keptCells x))
   clear c0 c1 c2 c3 d0 d1 d2 d3 z0 z1 z2 z3
   generalize rowSt wr w.heap.size 0 (keptCells x) = w9 at *
   obtain ⟨c0, c1, c2, c3⟩ := RS.out.cells
   refine bodyPost_ret (v := .agg (keptCells x).toArray) (by simp [results, Tryz.results121, go_sem, c0, c1, c2, c3, keptCells] <;> rfl) rfl ?_
   exact ⟨by rw [Hx.out], HBS.out⟩
end Go.Proofs.YtbckjgageofldaaGreat
namespace Go.Proofs.YtbckjgageofldaaGreat
open Go.RowKit
def KeptV.last (k : KeptV) : LastV := ⟨k.seq, k.code, k.text⟩
def KeptTab (t : TabV) (z : List KeptV) : Prop := ∀ c : BitVec 8, c.toNat < 4 → (lastR c z).last = t.at_ c.toNat
theorem keptTab_nil : KeptTab tabNone [] := by
 intro c hc
 unfold TabV.at_ tabNone
 repeat' split
 all_goals rfl
theorem keptTab_put {t : TabV} {z : List KeptV} (h : KeptTab t z) (k : KeptV) (hk : k.client.toNat < 4) : KeptTab (t.put k.client.toNat k.last) (z ++ [k]) := by
 intro c hc
 rw [TabV.put_at hk hc]
 unfold lastR
 rw [List.foldl_append]
 show (if k.client = c then k else lastR c z).last = _
 by_cases e : k.client = c
 ·
  rw [if_pos e, if_pos (by rw [e])]
 ·
  rw [if_neg e, if_neg (fun h => e (BitVec.eq_of_toNat_eq h.symm))]
  exact h c hc
theorem layRep2 (w : World) : RepAt (w.alloc (.cells (repCells 0 ByteArray.empty).toArray 27)) w.heap.size 0 ByteArray.empty := heap_alloc_new _ _
set_option maxRecDepth 100000 in
set_option maxHeartbeats 4000000 in
theorem rlook_any (A : Option Addr) (n cap : Nat) (z : List KeptV) (t : TabV) (hT : KeptTab t z) (cl : BitVec 8) (hcl : cl.toNat < 4) (sq : BitVec 32) (hsq : sq.toNat ≠ 0) (w : World) (h : KeptsAt w A n z) :
  Calls Tryz.prog 83 #[.slice A n cap, .int .u8 (cl.toNat : Int), .int .u32 (sq.toNat : Int)] w fun e w' => e = .returned (.tuple #[repV (lookT t cl.toNat sq).2.1 (lookT t cl.toNat sq).2.2, .int .u8 ((lookT t cl.toNat sq).1 : Int)]) ∧ Below w.heap.size w w' := by
 have hr0 := layRep2 w
 have hb0 := (Below.refl w.heap.size w).alloc (Nat.le_refl _) (.cells (repCells 0 ByteArray.empty).toArray 27)
 have hl := fun (y : World) (hy : Below w.heap.size w y) => rlast_any A n cap z cl y (h.below hy)
 have hx := hT cl hcl
 obtain ⟨x, hxe⟩ : ∃ x, lastR cl z = x := ⟨_, rfl⟩
 rw [hxe] at hl hx
 obtain ⟨⟨q1, q2, q3⟩, hq⟩ : ∃ q, lookT t cl.toNat sq = q := ⟨_, rfl⟩
 have hq0 := hq
 rw [hq]
 unfold lookT at hq0
 rw [← hx] at hq0
 obtain ⟨xc, xs, xo, xt⟩ := x
 change (if xs.toNat < sq.toNat then (1, 0, ByteArray.empty) else if sq.toNat = xs.toNat then (2, xo, xt) else (3, 3, ByteArray.empty)) = (q1, q2, q3) at hq0
 clear hx hxe hT hq
 have Hq := Lib.hid hq0; clear hq0
 rw [kept_eta] at hl
 have Hl := Lib.hid hl; clear hl h
 have hcl' : ¬ (3 : Int) < (cl.toNat : Int) := by omega
 have hsq' : ((sq.toNat : Int) == 0) = false := by rw [beq_eq_false_iff_ne]; omega
 have Hsq := Lib.hid hsq; clear hsq
 go_enter Tryz.func83, Tryz.ntmps83
 go_upto_region 1 with fail
 change Code.wp _ _ _ _ (w.alloc (.cells (repCells 0 ByteArray.empty).toArray 27))
 generalize w.alloc (.cells (repCells 0 ByteArray.empty).toArray 27) = w1 at *
 have Hr0 := Lib.hid hr0; clear hr0
 have Hb0 := Lib.hid hb0; clear hb0
 go_upto_region 4 with ((with_reducible refine (Hl.out _ Hb0.out).mono ?_); rintro e w2 ⟨rfl, hb2⟩; have Hb2 := Lib.hid hb2; clear hb2)
 change Code.wp _ _ _ _ (w2.alloc (.cells (keptCells ⟨xc, xs, xo, xt⟩).toArray 179))
 have hk3 : KeptRow (w2.alloc (.cells (keptCells ⟨xc, xs, xo, xt⟩).toArray 179)) w2.heap.size ⟨xc, xs, xo, xt⟩ := heap_alloc_new _ _
 have hb3 := Hb2.out.alloc Hb2.out.size (.cells (keptCells ⟨xc, xs, xo, xt⟩).toArray 179)
 have hr3 := Hr0.out.below hb3
 have hbw := Hb0.out.trans (hb3.mono Hb0.out.size)
 have hne : w2.heap.size ≠ w.heap.size := by have := Hr0.out.lt; have := Hb2.out.size; omega
 generalize w2.alloc (.cells (keptCells ⟨xc, xs, xo, xt⟩).toArray 179) = w3 at *
 generalize w2.heap.size = g at *
 clear hb3 Hb2 Hr0 Hb0 Hl
 obtain ⟨k0, k1, k2, k3⟩ := hk3.cells
 dsimp only at k0 k1 k2 k3
 obtain ⟨r0, r1⟩ := hr3.cells
 have z0 := hr3.thawed 0
 have z1 := hr3.thawed 1
 have Hr3 := Lib.hid hr3; clear hr3
 have Hbw := Lib.hid hbw; clear hbw
 clear hk3
 by_cases h1 : xs.toNat < sq.toNat
 ·
  have h1' : (xs.toNat : Int) < (sq.toNat : Int) := by omega
  have hq0 := Hq.out
  rw [if_pos h1] at hq0
  have Hq1 := Lib.hid hq0; clear hq0
  have H1 := Lib.hid h1; clear h1
  have HR := Lib.hid (repSt_at Hr3.out 0 ByteArray.empty)
  have HB := Lib.hid (repSt_below Hbw.out (Nat.le_refl _) 0 ByteArray.empty)
  go_wp2_with fail
  change bodyPost _ _ _ _ _ (repSt w3 w.heap.size 0 ByteArray.empty)
  clear r0 r1 z0 z1 k0 k1 k2 k3
  generalize repSt w3 w.heap.size 0 ByteArray.empty = w4 at *
  obtain ⟨r0, r1⟩ := HR.out.cells
  refine bodyPost_ret (v := .tuple #[.agg #[.int .u8 0, .string ByteArray.empty], .int .u8 1]) (by simp [results, Tryz.results83, go_sem, r0, r1] <;> rfl) rfl ?_
  have e := Hq1.out; simp only [Prod.mk.injEq] at e; obtain ⟨rfl, rfl, rfl⟩ := e; exact ⟨rfl, HB.out⟩
 ·
  have h1' : ¬ (xs.toNat : Int) < (sq.toNat : Int) := by omega
  have hq0 := Hq.out
  rw [if_neg h1] at hq0
  have H1 := Lib.hid h1; clear h1
  by_cases h2 : sq.toNat = xs.toNat
  ·
   have h2' : ((sq.toNat : Int) == (xs.toNat : Int)) = true := by rw [beq_iff_eq]; omega
   rw [if_pos h2] at hq0
   have Hq1 := Lib.hid hq0; clear hq0
   have H2 := Lib.hid h2; clear h2
   have HR := Lib.hid (repSt_at Hr3.out xo xt)
   have HB := Lib.hid (repSt_below Hbw.out (Nat.le_refl _) xo xt)
   go_wp2_with fail
   change bodyPost _ _ _ _ _ (repSt w3 w.heap.size xo xt)
   clear r0 r1 z0 z1 k0 k1 k2 k3
   generalize repSt w3 w.heap.size xo xt = w4 at *
   obtain ⟨r0, r1⟩ := HR.out.cells
   refine bodyPost_ret (v := .tuple #[.agg #[.int .u8 (xo : Int), .string xt], .int .u8 2]) (by simp [results, Tryz.results83, go_sem, r0, r1] <;> rfl) rfl ?_
   have e := Hq1.out; simp only [Prod.mk.injEq] at e; obtain ⟨rfl, rfl, rfl⟩ := e; exact ⟨rfl, HB.out⟩
  ·
   have h2' : ((sq.toNat : Int) == (xs.toNat : Int)) = false := by rw [beq_eq_false_iff_ne]; omega
   rw [if_neg h2] at hq0
   have Hq1 := Lib.hid hq0; clear hq0
   have H2 := Lib.hid h2; clear h2
   have HR := Lib.hid (repSt_at Hr3.out 3 ByteArray.empty)
   have HB := Lib.hid (repSt_below Hbw.out (Nat.le_refl _) 3 ByteArray.empty)
   go_wp2_with fail
   change bodyPost _ _ _ _ _ (repSt w3 w.heap.size 3 ByteArray.empty)
   clear r0 r1 z0 z1 k0 k1 k2 k3
   generalize repSt w3 w.heap.size 3 ByteArray.empty = w4 at *
   obtain ⟨r0, r1⟩ := HR.out.cells
   refine bodyPost_ret (v := .tuple #[.agg #[.int .u8 3, .string ByteArray.empty], .int .u8 3]) (by simp [results, Tryz.results83, go_sem, r0, r1] <;> rfl) rfl ?_
   have e := Hq1.out; simp only [Prod.mk.injEq] at e; obtain ⟨rfl, rfl, rfl⟩ := e; exact ⟨rfl, HB.out⟩
end Go.Proofs.YtbckjgageofldaaGreat
namespace Go.Proofs.YtbckjgageofldaaGreat
open Go.RowKit
theorem infoKept : (Tryz.prog.info? 179).map (fun i => (i.zero, i.size, i.bytes)) = some (some (.agg #[.int .u8 0, .int .u32 0, .int .u8 0, .string ByteArray.empty]), 4, 32) := by kernel_rfl
theorem kept_len (k : KeptV) : (keptCells k).length = 4 := rfl
theorem kept_one (k : KeptV) : ∀ u ∈ keptCells k, u.oneCell' = true := by simp [keptCells, Value.oneCell']
theorem kept_new (w : World) (k : KeptV) : KeptsAt (w.alloc (.cells (keptCells k).toArray 179)) (some ⟨w.heap.size, 0, none⟩) 1 [k] := by
 refine ⟨rfl, by unfold maxLen; omega, fun i x hx => ?_⟩
 match i, hx with
 | 0, hx =>
  simp at hx
  subst hx
  refine ⟨w.heap.size, 0, rfl, by simp, fun j v hj => ?_⟩
  have h := heap_alloc_new w (.cells (keptCells k).toArray 179)
  simp only [World.cell?, h, Nat.zero_mul, Nat.zero_add]
  simpa using hj
def STy (w : World) (t : TypeId) (A : Option Addr) : Prop := ∀ b o, A = some ⟨b, o, none⟩ → ∃ cs, w.heap[b]? = some (.cells cs t (0, 0))
theorem STy.stay {w w' : World} {t : TypeId} {A : Option Addr} (h : STy w t A) (hb : ∀ b o, A = some ⟨b, o, none⟩ → w'.heap[b]? = w.heap[b]?) : STy w' t A := fun b o e => by
 obtain ⟨cs, hc⟩ := h b o e
 exact ⟨cs, (hb b o e).trans hc⟩
theorem STy.below {w w' : World} {t : TypeId} {A : Option Addr} (h : STy w t A) (hb : Below w.heap.size w w') : STy w' t A := fun b o e => by
 obtain ⟨cs, h1⟩ := h b o e
 exact ⟨cs, (hb.block b (Array.getElem?_eq_some_iff.1 h1).1).trans h1⟩
theorem sty_none (w : World) (t : TypeId) : STy w t none := fun b o e => by cases e
theorem own_sty {w : World} {base : Nat} {t : TypeId} {size : Nat} {A : Option Addr} {n c : Nat} {xs : List Value} (h : w.ownsRow base t size (.slice A n c) n xs) : STy w t A := by
 rcases h.2 with ⟨e1, e2⟩ | ⟨g, cap, cur, e1, h2, h3, h4, h5, _, _⟩
 ·
  simp only [Value.slice.injEq] at e1
  rw [e1.1]
  exact sty_none w t
 ·
  simp only [Value.slice.injEq] at e1
  rw [e1.1]
  intro b o e
  cases e
  exact ⟨_, h3⟩
set_option maxRecDepth 100000 in
set_option maxHeartbeats 4000000 in
theorem rkeep_any (A : Option Addr) (n cap : Nat) (z : List KeptV) (t : TabV) (hT : KeptTab t z) (hnil : A = none → n = 0 ∧ cap = 0) (hn : n ≤ 1000000) (k : KeptV) (hcl : k.client.toNat < 4) (hsq : k.seq.toNat ≠ 0) (hf : (lookT t k.client.toNat k.seq).1 = 1) (w : World) (h : KeptsAt w A n z) :
  Calls Tryz.prog 86 #[.slice A n cap, .agg (keptCells k).toArray] w fun e w' => ∃ A' c', e = .returned (.slice A' (n + 1) c') ∧ KeptsAt w' A' (n + 1) (z ++ [k]) ∧ (A' ≠ none ∧ STy w' 179 A') ∧ Below w.heap.size w w' := by
 obtain ⟨i0, hi0, hz0, hs0, hb0⟩ := info_parts infoKept
 have hk0 : KeptRow (w.alloc (.cells (keptCells k).toArray 179)) w.heap.size k := heap_alloc_new _ _
 have hb1 := (Below.refl w.heap.size w).alloc (Nat.le_refl _) (.cells (keptCells k).toArray 179)
 have hl := fun (y : World) (hy : Below w.heap.size w y) => rlook_any A n cap z t hT k.client hcl k.seq hsq y (h.below hy)
 rw [hf] at hl
 obtain ⟨q2, hq2⟩ : ∃ q, (lookT t k.client.toNat k.seq).2.1 = q := ⟨_, rfl⟩
 obtain ⟨q3, hq3⟩ : ∃ q, (lookT t k.client.toNat k.seq).2.2 = q := ⟨_, rfl⟩
 rw [hq2, hq3] at hl
 unfold repV repCells at hl
 have Hl := Lib.hid hl; clear hl hq2 hq3
 have Hnil := Lib.hid hnil; clear hnil
 have H := Lib.hid h; clear h
 clear hf hT hsq
 rw [kept_eta]
 go_enter Tryz.func86, Tryz.ntmps86
 go_upto_region 1 with fail
 change Code.wp _ _ _ _ (w.alloc (.cells (keptCells k).toArray 179))
 generalize w.alloc (.cells (keptCells k).toArray 179) = w1 at *
 have Hk0 := Lib.hid hk0
 have Hb1 := Lib.hid hb1; clear hb1
 obtain ⟨k0, k1, k2, k3⟩ := hk0.cells
 clear hk0
 go_upto_region 4 with ((with_reducible refine (Hl.out _ Hb1.out).mono ?_); rintro e w2 ⟨rfl, hb2⟩; have Hb2 := Lib.hid hb2; clear hb2)
 clear k0 k1 k2 k3 Hl
 have hb3 := Hb2.out.alloc Hb2.out.size (.cells (repCells q2 q3).toArray 27)
 change Code.wp _ _ _ _ (w2.alloc (.cells (repCells q2 q3).toArray 27))
 generalize w2.alloc (.cells (repCells q2 q3).toArray 27) = w3 at *
 have Hk3 := Lib.hid (Hk0.out.below hb3)
 have Hbw := Lib.hid (Hb1.out.trans (hb3.mono Hb1.out.size))
 clear hb3 Hb2 Hb1 Hk0
 have Hlw := Lib.hid (show w.heap.size < w3.heap.size from Hk3.out.lt)
 refine (wpIn_wide (n := 1)).1 ?_
 refine RegJ.wpIn_region_plan (F := Fence.wide) (KeptW w3) (.step 0 0 (.step 2 0 (.fork 1 (.step 3 1 (.step 4 1 (.step 5 0 .nil))) 3 (.step 1 1 (.step 4 1 (.step 5 0 .nil)))))) (by kernel_rfl) (by kernel_rfl) (by kernel_rfl) (fun _ _ d _ _ h => by cases d <;> exact h) ⟨rfl, rfl, rfl, Nat.le_refl _, fun _ _ => rfl⟩ ?_
 dsimp only [RegJ.pickJ, List.getElem?_cons_zero, List.getElem?_cons_succ]
 change RegJ.Can _ _ _ _ _ _ _ _ w3.drew
 have hkd : KeptW w3 w3.drew := ⟨rfl, rfl, rfl, Nat.le_refl _, fun _ _ => rfl⟩
 generalize w3.drew = w4 at *
 refine RegJ.reads ?_
 intro K hK
 go_simp
 refine ⟨_, fun _ _ => rfl, hK _ ?_⟩
 clear hK K
 refine RegJ.reads ?_
 intro K hK
 go_simp
 refine ⟨.agg #[.int .u8 (k.client.toNat : Int), .int .u32 (k.seq.toNat : Int), .int .u8 (k.code : Int), .string k.text], fun y hy => ?_, hK _ ?_⟩
 ·
  obtain ⟨f0, f1, f2, f3⟩ := (Hk3.out.below (KeptW.bel hy)).cells
  go_simp
 clear hK K
 refine RegJ.forks ?_ ?_
 ·
  skip
  refine RegJ.turns (fun _ => trivial) ?_
  intro K K0 hK hK0
  rw [if_pos (by simp [Region.wanted])]
  refine RegK.op_wide rfl ?_
  refine wp_append_slice (enc := keptCells) _ _ 41 rfl w3.heap.size 179 i0 _ 32 Tryz.underlying41 hi0 hz0 hs0 hb0 rfl (by omega) kept_len kept_one (.slice none 0 0) 0 [] rfl (World.ownsRow_nil _ _ _ _) A n cap z rfl (H.out.below (Hbw.out.trans ((KeptW.bel hkd).mono Hbw.out.size))) Hnil.out (by unfold maxLen; omega) (by omega) (KeptW.bel hkd).size ?_
  intro v5 w5 ho5 hg5
  have hb5 : Below w4.heap.size w4 w5 := ⟨hg5.os, hg5.tape, hg5.output, hg5.size, fun q hq => hg5.block q hq (fun e => by cases e)⟩
  have hk5 : KeptW w3 w5 := KeptW.mono hkd hb5
  refine hK _ _ _ (fun _ h => h) hk5 ?_
  clear hK K hK0 K0 hg5
  rw [Nat.zero_add, List.nil_append] at ho5
  refine RegJ.turns (fun _ => trivial) ?_
  intro K K0 hK hK0
  go_simp
  have hb6 := (Below.refl w5.heap.size w5).alloc (Nat.le_refl _) (.cells (keptCells k).toArray 179)
  have qk : KeptW w3 (w5.alloc (.cells (keptCells k).toArray 179)) := KeptW.mono hk5 hb6
  have qn := kept_new w5 k
  have ho6 : (w5.alloc (.cells (keptCells k).toArray 179)).ownsRow w3.heap.size 179 4 v5 n (flat keptCells z) := ho5.alloc _
  refine hK _ _ (w5.alloc (.cells (keptCells k).toArray 179)) (fun _ h => h) qk ?_
  have hk6 := qk
  have hn6 := qn
  clear hK K hK0 K0 hb6 ho5 hk5 qk qn
  generalize w5.alloc (.cells (keptCells k).toArray 179) = w6 at *
  generalize w5.heap.size = g5 at *
  refine RegJ.turns (fun _ => trivial) ?_
  intro K K0 hK hK0
  rw [if_pos (by simp [Region.wanted])]
  refine RegK.op_wide rfl ?_
  refine wp_append_slice (enc := keptCells) _ _ 41 rfl w3.heap.size 179 i0 _ 32 Tryz.underlying41 hi0 hz0 hs0 hb0 rfl (by omega) kept_len kept_one v5 n (flat keptCells z) rfl ho6 (some ⟨g5, 0, none⟩) 1 1 [k] rfl hn6 (fun e => by cases e) (by unfold maxLen; omega) (by omega) (KeptW.bel hk6).size ?_
  intro v7 w7 ho7 hg7
  have hv5 : ∀ q, v5.ownBlock = some q → w3.heap.size ≤ q := fun q hq => (World.ownsRow.lt ho6 q hq).1
  have hk7 : KeptW w3 w7 := (KeptW.bel hk6).trans ⟨hg7.os, hg7.tape, hg7.output, hg7.size, fun q hq => hg7.block q (Nat.lt_of_lt_of_le hq (KeptW.bel hk6).size) (fun e => by have := hv5 q e.symm; omega)⟩
  refine hK _ _ _ (fun _ h => h) hk7 ?_
  clear hK K hK0 K0
  obtain ⟨A', c', rfl⟩ := own_slice_of ho7
  have hne : A' ≠ none ∧ STy w7 179 A' := ⟨fun e => by have := (own_nil ho7 e).1; omega, own_sty ho7⟩
  rw [← flat_app] at ho7
  have hs7 : KeptsAt w7 A' (n + 1) (z ++ [k]) := own_slice kept_len ho7 (by rw [List.length_append, H.out.hlen]; rfl) (by unfold maxLen; omega)
  have hbel := Hbw.out.trans ((KeptW.bel hk7).mono Hbw.out.size)
  have HF := Lib.hid (And.intro hs7 (And.intro hne hbel))
  clear hs7 hne hbel ho7 hg7 hv5 hk7 hk6 hn6 ho6
  refine RegJ.reads ?_
  intro K hK
  go_simp
  refine ⟨_, fun _ _ => rfl, hK _ ?_⟩
  clear hK K
  refine RegJ.nil ?_
  go_wp2_with fail
  go_ret
  exact ⟨A', c', rfl, HF.out.1, HF.out.2.1, HF.out.2.2⟩
 ·
  skip
  refine RegJ.turns (fun _ => trivial) ?_
  intro K K0 hK hK0
  go_simp
  have hb6 := (Below.refl w4.heap.size w4).alloc (Nat.le_refl _) (.cells (keptCells k).toArray 179)
  have qk : KeptW w3 (w4.alloc (.cells (keptCells k).toArray 179)) := KeptW.mono hkd hb6
  have qn := kept_new w4 k
  refine hK _ _ (w4.alloc (.cells (keptCells k).toArray 179)) (fun _ h => h) qk ?_
  clear hK K hK0 K0 hb6
  generalize w4.alloc (.cells (keptCells k).toArray 179) = wq at *
  generalize w4.heap.size = g5 at *
  refine RegJ.turns (fun _ => trivial) ?_
  intro K K0 hK hK0
  rw [if_pos (by simp [Region.wanted])]
  refine RegK.op_wide rfl ?_
  refine wp_append_slice (enc := keptCells) _ _ 41 rfl w3.heap.size 179 i0 _ 32 Tryz.underlying41 hi0 hz0 hs0 hb0 rfl (by omega) kept_len kept_one (.slice none 0 0) 0 [] rfl (World.ownsRow_nil _ _ _ _) A n cap z rfl (H.out.below (Hbw.out.trans ((KeptW.bel qk).mono Hbw.out.size))) Hnil.out (by unfold maxLen; omega) (by omega) (KeptW.bel qk).size ?_
  intro v5 w5 ho5 hg5
  have hb5 : Below wq.heap.size wq w5 := ⟨hg5.os, hg5.tape, hg5.output, hg5.size, fun q hq => hg5.block q hq (fun e => by cases e)⟩
  have hk5 : KeptW w3 w5 := KeptW.mono qk hb5
  refine hK _ _ _ (fun _ h => h) hk5 ?_
  clear hK K hK0 K0 hg5
  rw [Nat.zero_add, List.nil_append] at ho5
  have ho6 := ho5
  have hk6 := hk5
  have hn6 := qn.below hb5
  clear ho5 hk5 hb5 qn qk
  refine RegJ.turns (fun _ => trivial) ?_
  intro K K0 hK hK0
  rw [if_pos (by simp [Region.wanted])]
  refine RegK.op_wide rfl ?_
  refine wp_append_slice (enc := keptCells) _ _ 41 rfl w3.heap.size 179 i0 _ 32 Tryz.underlying41 hi0 hz0 hs0 hb0 rfl (by omega) kept_len kept_one v5 n (flat keptCells z) rfl ho6 (some ⟨g5, 0, none⟩) 1 1 [k] rfl hn6 (fun e => by cases e) (by unfold maxLen; omega) (by omega) (KeptW.bel hk6).size ?_
  intro v7 w7 ho7 hg7
  have hv5 : ∀ q, v5.ownBlock = some q → w3.heap.size ≤ q := fun q hq => (World.ownsRow.lt ho6 q hq).1
  have hk7 : KeptW w3 w7 := (KeptW.bel hk6).trans ⟨hg7.os, hg7.tape, hg7.output, hg7.size, fun q hq => hg7.block q (Nat.lt_of_lt_of_le hq (KeptW.bel hk6).size) (fun e => by have := hv5 q e.symm; omega)⟩
  refine hK _ _ _ (fun _ h => h) hk7 ?_
  clear hK K hK0 K0
  obtain ⟨A', c', rfl⟩ := own_slice_of ho7
  have hne : A' ≠ none ∧ STy w7 179 A' := ⟨fun e => by have := (own_nil ho7 e).1; omega, own_sty ho7⟩
  rw [← flat_app] at ho7
  have hs7 : KeptsAt w7 A' (n + 1) (z ++ [k]) := own_slice kept_len ho7 (by rw [List.length_append, H.out.hlen]; rfl) (by unfold maxLen; omega)
  have hbel := Hbw.out.trans ((KeptW.bel hk7).mono Hbw.out.size)
  have HF := Lib.hid (And.intro hs7 (And.intro hne hbel))
  clear hs7 hne hbel ho7 hg7 hv5 hk7 hk6 hn6 ho6
  refine RegJ.reads ?_
  intro K hK
  go_simp
  refine ⟨_, fun _ _ => rfl, hK _ ?_⟩
  clear hK K
  refine RegJ.nil ?_
  go_wp2_with fail
  go_ret
  exact ⟨A', c', rfl, HF.out.1, HF.out.2.1, HF.out.2.2⟩
end Go.Proofs.YtbckjgageofldaaGreat
namespace Go.Proofs.YtbckjgageofldaaGreat
open Go.RowKit
structure RefM where
 A : Option Addr
 n : Nat
 c : Nat
 all : Nat
 mem : Nat
 B : Option Addr
 k : Nat
 d : Nat
def refCells (r : RefM) : List Value := [.slice r.A r.n r.c, .int .u8 (r.all : Int), .int .u8 (r.mem : Int), .slice r.B r.k r.d]
structure RefAt (w : World) (r : RefM) (M : MacV) (z : List KeptV) : Prop where
 pairs : PairsAt w r.A r.n M.sh.kv
 keeps : KeptsAt w r.B r.k z
 all : r.all = M.all
 mem : r.mem = M.mem
 tab : KeptTab M.tab z
 ok : POk r.A r.n r.c
 ty : PTy w r.A
 asc : Asc M.sh.kv
 nilB : r.B = none → r.k = 0 ∧ r.d = 0
 kty : STy w 179 r.B
theorem RefAt.below {w w' : World} {r : RefM} {M : MacV} {z : List KeptV} (h : RefAt w r M z) (hb : Below w.heap.size w w') : RefAt w' r M z := ⟨h.pairs.below hb, h.keeps.below hb, h.all, h.mem, h.tab, h.ok, h.ty.below hb, h.asc, h.nilB, h.kty.below hb⟩
theorem ref_eta (r : RefM) : (refCells r).toArray = #[.slice r.A r.n r.c, .int .u8 (r.all : Int), .int .u8 (r.mem : Int), .slice r.B r.k r.d] := rfl
def RefRow (w : World) (g : Nat) (r : RefM) : Prop := w.heap[g]? = some (.cells (refCells r).toArray 43 (0, 0))
theorem RefRow.cells {w : World} {g : Nat} {r : RefM} (h : RefRow w g r) : w.cell? ⟨g, 0, none⟩ = some (.slice r.A r.n r.c) ∧ w.cell? ⟨g, 1, none⟩ = some (.int .u8 (r.all : Int)) ∧ w.cell? ⟨g, 2, none⟩ = some (.int .u8 (r.mem : Int)) ∧ w.cell? ⟨g, 3, none⟩ = some (.slice r.B r.k r.d) :=
 ⟨cell_of_row _ _ _ _ _ _ h, cell_of_row _ _ _ _ _ _ h, cell_of_row _ _ _ _ _ _ h, cell_of_row _ _ _ _ _ _ h⟩
theorem RefRow.lt {w : World} {g : Nat} {r : RefM} (h : RefRow w g r) : g < w.heap.size := (Array.getElem?_eq_some_iff.1 h).1
theorem RefRow.below {w w' : World} {g : Nat} {r : RefM} (h : RefRow w g r) (hb : Below w.heap.size w w') : RefRow w' g r := (hb.block g h.lt).trans h
theorem RefRow.thawed {w : World} {g : Nat} {r : RefM} (h : RefRow w g r) (j : Nat) : w.frozen? ⟨g, j, none⟩ = false := by
 unfold RefRow at h
 simp [World.frozen?, h]
end Go.Proofs.YtbckjgageofldaaGreat
namespace Go.Proofs.YtbckjgageofldaaGreat
open Go.RowKit
def lstB (s : Nat) : Nat → List UInt8
 | 0 => []
 | i + 1 => lstB s i ++ (if s / 2 ^ i % 2 = 1 then [UInt8.ofNat i] else [])
theorem lstB_len (s : Nat) : ∀ i, (lstB s i).length ≤ i
 | 0 => Nat.le_refl _
 | i + 1 => by
  have := lstB_len s i
  unfold lstB
  rw [List.length_append]
  split
  ·
   simp; omega
  ·
   simp; omega
set_option maxRecDepth 100000 in
set_option maxHeartbeats 4000000 in
theorem list8_any (s : Nat) (hs : s < 256) (w : World) : Calls Tryz.prog 145 #[.int .u8 (s : Int)] w fun e w' => ∃ v, e = .returned v ∧ OwnB w' w.heap.size 5 v (lstB s 7) ∧ Below w.heap.size w w' := by
 obtain ⟨i0, hi0, hz0, hs0, hb0⟩ := info_parts info8
 go_enter Tryz.func145, Tryz.ntmps145
 go_wp2_with fail
 go_loopw [0, 3, 4] (fun s0 s3 s4 wr => ∃ i : Nat, i ≤ 7 ∧ s4 = .int .i64 (i : Int) ∧ s0 = .int .u8 ((s / 2 ^ i : Nat) : Int) ∧ OwnB wr w.heap.size 5 s3 (lstB s i) ∧ Below w.heap.size w wr) (fun _ _ s4 _ => 7 - (intOf s4).toNat)
 case atStart => exact ⟨0, by omega, rfl, by simp, ⟨rfl, .inl ⟨rfl, rfl⟩⟩, Below.refl _ _⟩
 case round =>
  obtain ⟨i, hi, rfl, rfl, ho, hb⟩ := hrel
  have Ho := Lib.hid ho; clear ho
  have Hb := Lib.hid hb; clear hb
  have hll := lstB_len s i
  by_cases h7 : i < 7
  ·
   have h7' : (i : Int) < 7 := by omega
   have hsucc := tsucc (n := i) (by omega)
   have hst : lstB s (i + 1) = lstB s i ++ (if s / 2 ^ i % 2 = 1 then [UInt8.ofNat i] else []) := rfl
   have hdiv : s / 2 ^ (i + 1) = s / 2 ^ i / 2 := by rw [Nat.pow_succ, Nat.div_div_eq_div_mul]
   have Hdiv := Lib.hid hdiv; clear hdiv
   have hlt : s / 2 ^ i < 256 := Nat.lt_of_le_of_lt (Nat.div_le_self _ _) hs
   obtain ⟨m, hm⟩ : ∃ m, s / 2 ^ i = m := ⟨_, rfl⟩
   rw [hm] at hst Hdiv hlt ⊢
   clear hm
   have hmod : (i : Int) % 256 = (i : Int) := by omega
   have hi8 : ((UInt8.ofNat i).toNat : Int) = (i : Int) := by simp; omega
   have hone := ReadB.one wr (UInt8.ofNat i) 5
   rw [hi8] at hone
   have Hone := Lib.hid hone; clear hone hi8
   have Hst := Lib.hid hst; clear hst
   have Hlw := Lib.hid (show w.heap.size ≤ wr.heap.size from Hb.out.size)
   by_cases h1 : m % 2 = 1
   ·
    have h1' : ((m : Int) % 2 == 1) = true := by rw [beq_iff_eq]; omega
    have h1'' : ((m : Int).tmod 2 == 1) = true := by rw [beq_iff_eq, Int.tmod_eq_emod_of_nonneg (by omega)]; omega
    have H1 := Lib.hid h1; clear h1
    go_wp2_with (at_builtin; refine wpList_append_read rfl _ _ 44 rfl w.heap.size 5 i0 (.int .u8 0) Tryz.underlying44 hi0 hz0 hs0 hb0 rfl _ _ _ rfl (World.ownsRow.alloc Ho.out _) _ _ rfl Hone.out (by simp; omega) (by simp; have := Hlw.out; omega) ?_; intro v4 w4 ho4 hg4; have Hg4 := Lib.hid hg4; clear hg4; have Ho4 := Lib.hid ho4; clear ho4)
    go_roundw
    case rel =>
     refine ⟨i + 1, by omega, rfl, by rw [Hdiv.out]; rfl, ?_, below_grown Hg4.out (Hb.out.alloc Hlw.out _) (by simp; have := Hlw.out; omega) (fun k hk => (World.ownsRow.lt Ho.out k hk).1)⟩
     rw [Hst.out, if_pos H1.out]
     exact OwnB.of Ho4.out rfl rfl
    case measure => simp [intOf]; omega
   ·
    have h1' : ((m : Int) % 2 == 1) = false := by rw [beq_eq_false_iff_ne]; omega
    have h1'' : ((m : Int).tmod 2 == 1) = false := by rw [beq_eq_false_iff_ne, Int.tmod_eq_emod_of_nonneg (by omega)]; omega
    have H1 := Lib.hid h1; clear h1
    go_wp2_with fail
    go_roundw
    case rel =>
     refine ⟨i + 1, by omega, rfl, by rw [Hdiv.out]; rfl, ?_, Hb.out⟩
     rw [Hst.out, if_neg H1.out, List.append_nil]
     exact Ho.out
    case measure => simp [intOf]; omega
  ·
   have h7' : ¬ (i : Int) < 7 := by omega
   have hi7 : i = 7 := by omega
   subst hi7
   go_wp2_with fail
   go_ret
   exact ⟨_, rfl, Ho.out, Hb.out⟩
end Go.Proofs.YtbckjgageofldaaGreat
