/- Machines: MachinePlays, one of its regions. No condition. -/
import Derived.Test.YtkngadbeflepoaaMMachinePlays21
import Derived.Test.YtkngadbeflepoaaMMachinePlays8
import Derived.Test.YtkngadbeflepoaaMMachinePlays15
import Derived.Test.YtkngadbeflepoaaMMachinePlays19
import Derived.Deep.DeepCutAuto
import Derived.Test.YtkngadbeflepoaaMMachinePlays14
import Derived.Laws.AppendOwn
import Derived.Laws.AppendOwnNone
import Derived.OwnWalk
namespace Go.Proofs.Ytkngadbeflepoaa
open Go.RowKit

set_option maxRecDepth 100000 in
set_option maxHeartbeats 16000000 in
theorem plays_reg16 (w0 : World) (g : Nat) (M : MacV) (T : Tr) (P : Option Addr) (b o len cap i : Nat) (c : CmdV) (M2 : MacV) (code : Nat) (text : ByteArray) (fresh : Bool) {Q : Exit → Act → World → Prop}
    (hQ : ∀ c a d v w, Q (.panic c) (Act.put a d v) w → Q (.panic c) a w) (hQ2 : ∀ c a d v w, Q (.panic c) a w → Q (.panic c) (Act.put a d v) w)
    (HSm : Hid (MacAt w0 g M P)) (HTm : Hid (TreeAt w0 T)) (HEm : Hid (T.ptr = P ∧ T.sh = M.sh)) (Hlim : Hid (M.all < 256 ∧ T.cnt ≤ 4611686018427387903)) (HO : Hid (macDo M c = ⟨M2, code, text, fresh⟩)) (hlt' : (i : Int) < (len : Int)) (Hc : Hid (CmdStay w0 b (o + i * 7) c))
    (u0 u1 u3 u4 u5 u6 u8 u9 u10 u11 u13 u14 u15 u16 u17 u18 u19 u20 u21 u22 u23 u24 u25 u26 u27 u28 u29 u30 u31 u32 u33 u34 u35 u36 u37 u38 u39 u40 u41 u42 u43 u44 u45 u46 u47 u48 u49 u50 u51 u52 u53 u54 u55 u56 u57 u58 u59 u60 u61 u62 u63 u64 u65 u66 u67 u68 u69 u70 u71 u72 u73 u74 u75 u76 u77 u78 u79 u80 u81 u82 u83 u84 u85 u86 u87 u88 u89 u90 u91 u92 u93 u94 u95 u96 u97 u98 u99 u100 u101 u102 u103 u104 u105 u106 u107 u108 u109 u110 u111 : Value)
    (Hk : Hid (∀ (s53 s54 s55 s56 s57 s58 s59 s60 s61 s62 : Value) (gs gr : Nat) (X : Tr) (P2 : Option Addr) (w2 : World), BEnd w0 w2 gs gr M2 P2 code text X → Q .normal ⟨List.toArray (u0 :: u1 :: Value.slice (some ⟨b, o, none⟩) len cap :: u3 :: u4 :: u5 :: u6 :: Value.pointer (some ⟨g, 0, none⟩) :: u8 :: u9 :: u10 :: u11 :: Value.int .i64 (i : Int) :: Value.pointer (some ⟨gs, 0, none⟩) :: Value.pointer (some ⟨gr, 0, none⟩) :: Value.bool fresh :: u16 :: u17 :: u18 :: u19 :: u20 :: u21 :: u22 :: u23 :: u24 :: u25 :: u26 :: u27 :: u28 :: u29 :: u30 :: u31 :: u32 :: u33 :: u34 :: u35 :: u36 :: u37 :: u38 :: u39 :: u40 :: u41 :: u42 :: u43 :: u44 :: u45 :: u46 :: u47 :: u48 :: u49 :: u50 :: u51 :: u52 :: s53 :: s54 :: s55 :: s56 :: s57 :: s58 :: s59 :: s60 :: s61 :: s62 :: u63 :: u64 :: u65 :: u66 :: u67 :: u68 :: u69 :: u70 :: u71 :: u72 :: u73 :: u74 :: u75 :: u76 :: u77 :: u78 :: u79 :: u80 :: u81 :: u82 :: u83 :: u84 :: u85 :: u86 :: u87 :: u88 :: u89 :: u90 :: u91 :: u92 :: u93 :: u94 :: u95 :: u96 :: u97 :: u98 :: u99 :: u100 :: u101 :: u102 :: u103 :: u104 :: u105 :: u106 :: u107 :: u108 :: u109 :: u110 :: u111 :: []), []⟩ w2)) :
    Code.wp Try.prog (findR 16 (Try.f6.body.getD .skip)) Q ⟨List.toArray (u0 :: u1 :: Value.slice (some ⟨b, o, none⟩) len cap :: u3 :: u4 :: u5 :: u6 :: Value.pointer (some ⟨g, 0, none⟩) :: u8 :: u9 :: u10 :: u11 :: Value.int .i64 (i : Int) :: u13 :: u14 :: u15 :: u16 :: u17 :: u18 :: u19 :: u20 :: u21 :: u22 :: u23 :: u24 :: u25 :: u26 :: u27 :: u28 :: u29 :: u30 :: u31 :: u32 :: u33 :: u34 :: u35 :: u36 :: u37 :: u38 :: u39 :: u40 :: u41 :: u42 :: u43 :: u44 :: u45 :: u46 :: u47 :: u48 :: u49 :: u50 :: u51 :: u52 :: u53 :: u54 :: u55 :: u56 :: u57 :: u58 :: u59 :: u60 :: u61 :: u62 :: u63 :: u64 :: u65 :: u66 :: u67 :: u68 :: u69 :: u70 :: u71 :: u72 :: u73 :: u74 :: u75 :: u76 :: u77 :: u78 :: u79 :: u80 :: u81 :: u82 :: u83 :: u84 :: u85 :: u86 :: u87 :: u88 :: u89 :: u90 :: u91 :: u92 :: u93 :: u94 :: u95 :: u96 :: u97 :: u98 :: u99 :: u100 :: u101 :: u102 :: u103 :: u104 :: u105 :: u106 :: u107 :: u108 :: u109 :: u110 :: u111 :: []), []⟩ w0 := by
  conv => arg 2; whnf
  refine (wpIn_wide (n := 1)).1 ?_
  refine RegL.wpIn_region_lays (F := Fence.wide) (KeptW w0) [⟨10, 13, .cells (macCells macNone none).toArray 69 (0, 0)⟩, ⟨11, 14, .cells (repCells 0 ByteArray.empty).toArray 51 (0, 0)⟩] [(0, 0), (1, 0), (2, 0), (3, 0), (4, 0), (5, 1), (6, 2), (7, 2), (8, 2), (9, 2), (12, 3), (13, 3), (14, 3)] (by kernel_rfl) (by kernel_rfl) (by kernel_rfl) (fun p hp => by simp only [List.mem_cons, List.not_mem_nil, or_false] at hp; rcases hp with rfl | rfl; exact lays_any layMac rfl; exact lays_any layRep rfl)
    hQ hQ2 ⟨rfl, rfl, rfl, Nat.le_refl _, fun _ _ => rfl⟩ (keptW_mono w0) ?_
  clear hQ hQ2
  dsimp only [RegK.pick, List.getElem?_cons_zero, List.getElem?_cons_succ]
  obtain ⟨S1, hS1⟩ : ∃ V, macV M P = V := ⟨_, rfl⟩
  have HV1 := Lib.hid hS1; clear hS1
  refine RegL.reads ?_
  intro K hK
  go_simp
  refine ⟨S1, fun y hy => ?_, hK _ ?_⟩
  · rw [← HV1.out]
    unfold macV
    rw [mac_eta M P]
    obtain ⟨⟨m0, m1, m14⟩, ⟨m2, m3, m4⟩, ⟨m5, m6, m7⟩, ⟨m8, m9, m10⟩, ⟨m11, m12, m13⟩⟩ := (HSm.out.below (KeptW.bel hy)).cells
    go_simp
  clear hK K
  iterate 3 (refine RegL.reads ?_; intro K hK; go_simp; (first | refine ⟨_, fun _ _ => rfl, hK _ ?_⟩ | refine hK _ ?_); clear hK K)
  refine RegL.reads ?_
  intro K hK
  go_simp
  refine ⟨.agg (cmdCells c).toArray, fun y hy => ?_, hK _ ?_⟩
  · obtain ⟨f0, f1, f2, f3, f4, f5, f6⟩ := Hc.out y (KeptW.bel hy)
    rw [cmd_eta]
    go_simp
  clear hK K
  refine RegL.adds (fun _ => trivial) ?_
  go_simp
  intro x hx K hK
  refine ⟨trivial, ?_⟩
  have hd := mdo_any c M T x Hlim.out.1 (HTm.out.below (KeptW.bel hx)) HEm.out.2 Hlim.out.2
  rw [HEm.out.1, HO.out, HV1.out] at hd
  unfold repV repCells at hd
  refine (callsIn_wide.2 hd).mono ?_
  clear hd
  rintro e xc1 ⟨X1, rfl, hX⟩
  have hxc : KeptW w0 xc1 := KeptW.mono hx hX.bel
  refine hK (KeptW xc1) _ _ hX.bel (fun y h => KeptW.mono (KeptW.mono hx hX.bel) (KeptW.bel h)) (keptW_mono xc1) (Below.refl _ _) ?_
  have HX1 := Lib.hid (And.intro hX.at_ (show X1.sh = M2.sh from hX.shp))
  clear hK K hX hx HV1
  obtain ⟨P1, hP1⟩ : ∃ P, X1.ptr = P := ⟨_, rfl⟩
  rw [hP1]
  have HP1 := Lib.hid hP1; clear hP1
  obtain ⟨V1, hV1⟩ : ∃ V, macV M2 P1 = V := ⟨_, rfl⟩
  dsimp only
  rw [hV1]
  have HV1 := Lib.hid hV1; clear hV1
  iterate 4 (refine RegL.pures ?_; intro K hK; go_simp; (first | (refine ⟨_, fun _ => rfl, hK _ ?_⟩) | (refine hK _ ?_)); clear hK K)
  refine RegL.last ?_
  intro g' y hF hy
  have hyk : KeptW w0 y := KeptW.mono hxc (KeptW.bel hy)
  obtain ⟨hg1, hg2⟩ := hF.1 ⟨10, 13, .cells (macCells macNone none).toArray 69 (0, 0)⟩ (by simp) rfl
  obtain ⟨hg3, hg4⟩ := hF.1 ⟨11, 14, .cells (repCells 0 ByteArray.empty).toArray 51 (0, 0)⟩ (by simp) rfl
  have hne : g' 11 ≠ g' 10 := hF.2 ⟨11, 14, .cells (repCells 0 ByteArray.empty).toArray 51 (0, 0)⟩ (by simp) ⟨10, 13, .cells (macCells macNone none).toArray 69 (0, 0)⟩ (by simp) rfl rfl (by simp)
  have hs : MacAt y (g' 10) macNone none := hg1
  have hr : RepAt y (g' 11) 0 ByteArray.empty := hg3
  have hsl : w0.heap.size ≤ g' 10 := hg2
  have hrl : w0.heap.size ≤ g' 11 := hg4
  simp only [RegL.putS, RegL.ptr, if_true]
  clear hF hg1 hg2 hg3 hg4
  generalize g' 10 = gs at *
  generalize g' 11 = gr at *
  have hr2 : RepAt (rowSt y gs 0 (macCells M2 P1)) gr 0 ByteArray.empty := (rowSt_other hne _ _ _).trans hr
  obtain ⟨f2, f3⟩ := hr2.cells
  have f4 := hr2.thawed 0
  have f5 := hr2.thawed 1
  have HZ1 := Lib.hid (ma_end hs hr hne M2 P1 code text)
  obtain ⟨q0, q1⟩ := mac_store hs HV1.out
  simp only [Value.cells] at q0 q1
  clear hs hr hr2
  generalize hwr : rowSt y gs 0 (macCells M2 P1) = wr at *
  refine RegK.can_frees (fun _ => trivial) ?_
  intro K K0 hK hK0
  go_simp
  refine hK (fun _ => True) _ _ trivial ?_
  clear hK K hK0 K0 q0 q1
  refine RegK.can_frees (fun _ => trivial) ?_
  intro K K0 hK hK0
  go_simp
  refine hK (fun _ => True) _ _ trivial ?_
  clear hK K hK0 K0
  refine RegK.can_frees (fun _ => trivial) ?_
  intro K K0 hK hK0
  go_simp
  refine hK (fun _ => True) _ _ trivial ?_
  clear hK K hK0 K0
  refine RegK.can_nil ?_
  clear f2 f3 f4 f5 HV1
  change Q _ _ (repSt wr gr code text)
  rw [← hwr]
  clear hwr
  change Q _ _ (maW y gs gr M2 P1 code text)
  exact Hk.out _ _ _ _ _ _ _ _ _ _ gs gr X1 P1 _ ⟨HZ1.out.st, HZ1.out.rep, HZ1.out.tree _ (HX1.out.1.below (KeptW.bel hy)), HP1.out, HX1.out.2, HZ1.out.bel _ _ (KeptW.bel hyk) hsl hrl, hsl, hrl, hne⟩
end Go.Proofs.Ytkngadbeflepoaa
/- The document's table of sessions: ref12.Last. No condition. -/
namespace Go.Proofs.Ytkngadbeflepoaa
open Go.RowKit

/-- What was kept of a client. -/
structure KeptV where
  client : BitVec 8
  seq : BitVec 32
  code : Nat
  text : ByteArray
def keptCells (k : KeptV) : List Value := [.int .u8 (k.client.toNat : Int), .int .u32 (k.seq.toNat : Int), .int .u8 (k.code : Int), .string k.text]
theorem kept_eta (k : KeptV) : (keptCells k).toArray = #[.int .u8 (k.client.toNat : Int), .int .u32 (k.seq.toNat : Int), .int .u8 (k.code : Int), .string k.text] := rfl
abbrev KeptsAt := SliceAt 4 keptCells
def keptNone (c : BitVec 8) : KeptV := ⟨c, 0#32, 0, ByteArray.empty⟩
instance : Inhabited KeptV := ⟨keptNone 0#8⟩
/-- The last that was kept of a client. -/
def lastR (c : BitVec 8) (z : List KeptV) : KeptV := z.foldl (fun o x => if x.client = c then x else o) (keptNone c)
theorem lastR_step (c : BitVec 8) (z : List KeptV) {i : Nat} (hi : i < z.length) : lastR c (z.take (i + 1)) = if (z.getD i default).client = c then z.getD i default else lastR c (z.take i) := by
  unfold lastR
  rw [List.take_succ_eq_append_getElem hi, List.foldl_append]
  simp [List.getD, List.getElem?_eq_getElem hi]
def KeptRow (w : World) (g : Nat) (k : KeptV) : Prop := w.heap[g]? = some (.cells (keptCells k).toArray 131 (0, 0))
theorem KeptRow.cells {w : World} {g : Nat} {k : KeptV} (h : KeptRow w g k) : w.cell? ⟨g, 0, none⟩ = some (.int .u8 (k.client.toNat : Int)) ∧ w.cell? ⟨g, 1, none⟩ = some (.int .u32 (k.seq.toNat : Int)) ∧ w.cell? ⟨g, 2, none⟩ = some (.int .u8 (k.code : Int)) ∧ w.cell? ⟨g, 3, none⟩ = some (.string k.text) :=
  ⟨cell_of_row _ _ _ _ _ _ h, cell_of_row _ _ _ _ _ _ h, cell_of_row _ _ _ _ _ _ h, cell_of_row _ _ _ _ _ _ h⟩
theorem KeptRow.thawed {w : World} {g : Nat} {k : KeptV} (h : KeptRow w g k) (j : Nat) : w.frozen? ⟨g, j, none⟩ = false := by
  unfold KeptRow at h
  simp [World.frozen?, h]
theorem KeptRow.lt {w : World} {g : Nat} {k : KeptV} (h : KeptRow w g k) : g < w.heap.size := (Array.getElem?_eq_some_iff.1 h).1
theorem KeptRow.below {w w' : World} {g : Nat} {k : KeptV} (h : KeptRow w g k) (hb : Below w.heap.size w w') : KeptRow w' g k := (hb.block g h.lt).trans h
theorem KeptRow.set {w : World} {g : Nat} {k : KeptV} (h : KeptRow w g k) (x : KeptV) : KeptRow (rowSt w g 0 (keptCells x)) g x := rowSt_row (keptCells x) [] (keptCells k) w h rfl
theorem kept_cells {w : World} {a : Option Addr} {len : Nat} {z : List KeptV} (h : KeptsAt w a len z) {i : Nat} (hi : i < len) :
    ∃ b o, a = some ⟨b, o, none⟩ ∧ b < w.heap.size ∧ w.cell? ⟨b, o + i * 4, none⟩ = some (.int .u8 ((z.getD i default).client.toNat : Int)) ∧
      w.cell? ⟨b, o + i * 4 + 1, none⟩ = some (.int .u32 ((z.getD i default).seq.toNat : Int)) ∧ w.cell? ⟨b, o + i * 4 + 2, none⟩ = some (.int .u8 ((z.getD i default).code : Int)) ∧
      w.cell? ⟨b, o + i * 4 + 3, none⟩ = some (.string (z.getD i default).text) := by
  have hl := h.hlen
  have hz : z[i]? = some (z.getD i default) := by simp [List.getD, List.getElem?_eq_getElem (show i < z.length by omega)]
  obtain ⟨b, o, h1, h2, h3⟩ := h.cells i _ hz
  exact ⟨b, o, h1, h2, h3 0 _ rfl, h3 1 _ rfl, h3 2 _ rfl, h3 3 _ rfl⟩

set_option maxRecDepth 100000 in
set_option maxHeartbeats 4000000 in
theorem rlast_any (A : Option Addr) (n cap : Nat) (z : List KeptV) (c : BitVec 8) (w : World) (h : KeptsAt w A n z) :
    Calls Try.prog 66 #[.slice A n cap, .int .u8 (c.toNat : Int)] w fun e w' => e = .returned (.agg (keptCells (lastR c z)).toArray) ∧ Below w.heap.size w w' := by
  have hlen := h.hlen
  have hmax := h.hmax
  unfold maxLen at hmax
  have H := Lib.hid h; clear h
  have r0 : KeptRow (w.alloc (.cells (keptCells (keptNone 0#8)).toArray 131)) w.heap.size (keptNone 0#8) := heap_alloc_new _ _
  have s0 : (w.alloc (.cells (keptCells (keptNone 0#8)).toArray 131)).heap.size = w.heap.size + 1 := by simp
  have r1 : KeptRow ((w.alloc (.cells (keptCells (keptNone 0#8)).toArray 131)).alloc (.cells (keptCells (keptNone c)).toArray 131)) (w.heap.size + 1) (keptNone c) := by rw [← s0]; exact heap_alloc_new _ _
  have r00 := r0.below ((Below.refl _ _).alloc (Nat.le_refl _) (.cells (keptCells (keptNone c)).toArray 131))
  have hb := ((Below.refl w.heap.size w).alloc (Nat.le_refl _) (.cells (keptCells (keptNone 0#8)).toArray 131)).alloc (by simp) (.cells (keptCells (keptNone c)).toArray 131)
  go_enter Try.func66, Try.ntmps66
  go_upto_region 2 with fail
  change Code.wp _ _ _ _ ((w.alloc (.cells (keptCells (keptNone 0#8)).toArray 131)).alloc (.cells (keptCells (keptNone c)).toArray 131))
  generalize (w.alloc (.cells (keptCells (keptNone 0#8)).toArray 131)).alloc (.cells (keptCells (keptNone c)).toArray 131) = w1 at *
  clear r0 s0
  have R0 := Lib.hid r00; clear r00
  have R1 := Lib.hid r1; clear r1
  have HB := Lib.hid hb; clear hb
  have Hlen := Lib.hid hlen; clear hlen
  go_wp2_with fail
  go_loopw [6] (fun s6 wr => ∃ i : Nat, i ≤ n ∧ s6 = .int .i64 (i : Int) ∧ KeptRow wr w.heap.size (keptNone 0#8) ∧ KeptRow wr (w.heap.size + 1) (lastR c (z.take i)) ∧ Below w.heap.size w wr) (fun s6 _ => n - (intOf s6).toNat)
  case atStart => exact ⟨0, by omega, rfl, R0.out, R1.out, HB.out⟩
  case round =>
    clear R0 R1 HB
    obtain ⟨i, hi, rfl, hr0, hr1, hb⟩ := hrel
    have R0 := Lib.hid hr0; clear hr0
    have R1 := Lib.hid hr1; clear hr1
    have HB := Lib.hid hb; clear hb
    by_cases hlt : i < n
    · have hlt' : (i : Int) < (n : Int) := by omega
      obtain ⟨b, o, rfl, hbl, c0, c1, c2, c3⟩ := kept_cells (H.out.below HB.out) hlt
      have hst := lastR_step c z (i := i) (by have := Hlen.out; omega)
      generalize z.getD i default = x at *
      have hsucc := tsucc (n := i) (by omega)
      have Hst := Lib.hid hst; clear hst
      by_cases hx : x.client = c
      · subst hx
        obtain ⟨d0, d1, d2, d3⟩ := R1.out.cells
        have z0 := R1.out.thawed 0
        have z1 := R1.out.thawed 1
        have z2 := R1.out.thawed 2
        have z3 := R1.out.thawed 3
        have RS := Lib.hid (R1.out.set x)
        have R0S := Lib.hid (show KeptRow (rowSt wr (w.heap.size + 1) 0 (keptCells x)) w.heap.size (keptNone 0#8) from (rowSt_other (by omega) _ _ _).trans R0.out)
        have HBS := Lib.hid (rowSt_below (g := w.heap.size + 1) (by omega) (keptCells x) 0 _ HB.out)
        go_wp2_with fail
        clear d0 d1 d2 d3 z0 z1 z2 z3
        go_roundw
        case rel => exact ⟨i + 1, hlt, rfl, R0S.out, by rw [Hst.out, if_pos rfl]; exact RS.out, HBS.out⟩
        case measure => simp [intOf]; omega
      · have hx' : ((x.client.toNat : Int) == (c.toNat : Int)) = false := by
          rw [beq_eq_false_iff_ne]
          intro e
          exact hx (BitVec.eq_of_toNat_eq (by omega))
        have Hx := Lib.hid hx; clear hx
        go_wp2_with fail
        go_roundw
        case rel => exact ⟨i + 1, hlt, rfl, R0.out, by rw [Hst.out, if_neg Hx.out]; exact R1.out, HB.out⟩
        case measure => simp [intOf]; omega
    · have hlt' : ¬ (i : Int) < (n : Int) := by omega
      have hin : i = n := by omega
      subst hin
      have hz : z.take i = z := by rw [← Hlen.out, List.take_length]
      rw [hz] at R1
      clear hz
      obtain ⟨x, hx⟩ : ∃ x, lastR c z = x := ⟨_, rfl⟩
      rw [hx] at R1
      have Hx := Lib.hid hx; clear hx
      obtain ⟨c0, c1, c2, c3⟩ := R1.out.cells
      obtain ⟨d0, d1, d2, d3⟩ := R0.out.cells
      have z0 := R0.out.thawed 0
      have z1 := R0.out.thawed 1
      have z2 := R0.out.thawed 2
      have z3 := R0.out.thawed 3
      have RS := Lib.hid (R0.out.set x)
      have HBS := Lib.hid (rowSt_below (Nat.le_refl w.heap.size) (keptCells x) 0 _ HB.out)
      go_wp2_with fail
      change bodyPost _ _ _ _ _ (rowSt wr w.heap.size 0 (keptCells x))
      clear c0 c1 c2 c3 d0 d1 d2 d3 z0 z1 z2 z3
      generalize rowSt wr w.heap.size 0 (keptCells x) = w9 at *
      obtain ⟨c0, c1, c2, c3⟩ := RS.out.cells
      refine bodyPost_ret (v := .agg (keptCells x).toArray) (by simp [results, Try.results66, go_sem, c0, c1, c2, c3, keptCells] <;> rfl) rfl ?_
      exact ⟨by rw [Hx.out], HBS.out⟩
end Go.Proofs.Ytkngadbeflepoaa
/- Rows of structs, laid flat: appended, owned, read. Over any program. No condition. -/
namespace Go.Proofs.Ytkngadbeflepoaa
open Go.RowKit

section
variable {α : Type} {enc : α → List Value} {k : Nat}
/-- The cells of a row. -/
def flat (enc : α → List Value) (z : List α) : List Value := z.flatMap enc
theorem flat_len (hk : ∀ x, (enc x).length = k) : ∀ z : List α, (flat enc z).length = z.length * k
  | [] => by simp [flat]
  | x :: r => by
    have h := flat_len hk r
    unfold flat at *
    rw [List.flatMap_cons, List.length_append, hk, h, List.length_cons, Nat.succ_mul]
    omega
theorem flat_app (z y : List α) : flat enc (z ++ y) = flat enc z ++ flat enc y := by simp [flat]
theorem flat_at (hk : ∀ x, (enc x).length = k) : ∀ (z : List α) (i r : Nat) (x : α) (u : Value), z[i]? = some x → (enc x)[r]? = some u → (flat enc z)[i * k + r]? = some u
  | [], _, _, _, _, h, _ => by simp at h
  | y :: l, 0, r, x, u, h, hu => by
    simp at h
    subst h
    have hr : r < (enc y).length := (List.getElem?_eq_some_iff.1 hu).1
    unfold flat
    rw [List.flatMap_cons, Nat.zero_mul, Nat.zero_add, List.getElem?_append_left hr, hu]
  | y :: l, i + 1, r, x, u, h, hu => by
    simp at h
    have ih := flat_at hk l i r x u h hu
    unfold flat at *
    rw [List.flatMap_cons, List.getElem?_append_right (by rw [hk, Nat.succ_mul]; omega), hk, Nat.succ_mul, show i * k + k + r - k = i * k + r by omega]
    exact ih
theorem flat_get (hk : ∀ x, (enc x).length = k) (hk0 : 0 < k) {z : List α} {j : Nat} {u : Value} (h : (flat enc z)[j]? = some u) : ∃ x, z[j / k]? = some x ∧ (enc x)[j % k]? = some u := by
  have hj : j < z.length * k := by
    have := (List.getElem?_eq_some_iff.1 h).1
    rwa [flat_len hk] at this
  have hi : j / k < z.length := Nat.div_lt_of_lt_mul (by rw [Nat.mul_comm]; exact hj)
  have hr : j % k < (enc z[j / k]).length := by rw [hk]; exact Nat.mod_lt _ hk0
  have e := flat_at hk z (j / k) (j % k) z[j / k] _ (List.getElem?_eq_getElem hi) (List.getElem?_eq_getElem hr)
  rw [show j / k * k + j % k = j by rw [Nat.mul_comm]; exact Nat.div_add_mod j k, h] at e
  cases e
  exact ⟨_, List.getElem?_eq_getElem hi, List.getElem?_eq_getElem hr⟩
theorem flat_one (h1 : ∀ x, ∀ u ∈ enc x, u.oneCell' = true) (z : List α) : ∀ u ∈ flat enc z, u.oneCell' = true := by
  intro u hu
  obtain ⟨x, _, hx⟩ := List.mem_flatMap.1 hu
  exact h1 x u hx
/-- An owned row reads as its elements. -/
theorem own_slice {w : World} {base : Nat} {e : TypeId} {A : Option Addr} {n c : Nat} {z : List α} (hk : ∀ x, (enc x).length = k) (h : w.ownsRow base e k (.slice A n c) n (flat enc z)) (hz : z.length = n) (hm : n ≤ maxLen) : SliceAt k enc w A n z := by
  obtain ⟨h1, h2⟩ := h
  refine ⟨hz, hm, fun i x hx => ?_⟩
  have hi : i < z.length := (List.getElem?_eq_some_iff.1 hx).1
  rcases h2 with ⟨_, h3⟩ | ⟨g, cap, cur, e1, _, hg, _, _, _, ht⟩
  · omega
  · cases e1
    refine ⟨g, 0, rfl, (Array.getElem?_eq_some_iff.1 hg).1, fun j v hj => ?_⟩
    have e := flat_at hk z i j x v hx hj
    have hlt : i * k + j < n * k := by
      have := (List.getElem?_eq_some_iff.1 e).1
      rwa [flat_len hk, hz] at this
    rw [← ht, List.getElem?_take, if_pos hlt, Array.getElem?_toList] at e
    simp only [World.cell?, hg, Nat.zero_add]
    simpa using e
theorem own_nil {w : World} {base : Nat} {e : TypeId} {A : Option Addr} {n c : Nat} {xs : List Value} (h : w.ownsRow base e k (.slice A n c) n xs) : A = none → n = 0 ∧ c = 0 := by
  rintro rfl
  rcases h.2 with ⟨e1, _⟩ | ⟨g, cap, cur, e1, _⟩
  · cases e1; exact ⟨rfl, rfl⟩
  · cases e1
theorem own_slice_of {w : World} {base : Nat} {e : TypeId} {v : Value} {n : Nat} {xs : List Value} (h : w.ownsRow base e k v n xs) : ∃ A c, v = .slice A n c := by
  rcases h.2 with ⟨rfl, rfl⟩ | ⟨g, cap, cur, rfl, _⟩
  · exact ⟨none, 0, rfl⟩
  · exact ⟨_, _, rfl⟩
/-- 'append(s, x...)', s owned, x a row of structs, nil or not. -/
theorem wp_append_slice {P : Program} {w : World} {o : Oper} {a : Act} {K : Act → World → Prop} {Q : Exit → Act → World → Prop} (s x : Operand) (t : TypeId)
    (ho : o.op = .call { callee := .builtin .append, args := #[s, x], argTypes := #[t, t] })
    (base : Nat) (e : TypeId) (i : TypeInfo) (z0 : Value) (bytes : Nat) (ht : P.underlying t = some (.slice e)) (hi : P.info? e = some i) (hz : i.zero = some z0)
    (hsize : i.size = k) (hby : i.bytes = bytes) (hzs : z0.cells.size = k) (hk0 : 0 < k) (hk : ∀ x, (enc x).length = k) (h1 : ∀ x, ∀ u ∈ enc x, u.oneCell' = true)
    (v : Value) (n : Nat) (xs : List Value) (hs : a.eval s = v) (hown : w.ownsRow base e k v n xs) (A : Option Addr) (m c : Nat) (z : List α) (hx : a.eval x = .slice A m c) (hsrc : SliceAt k enc w A m z) (hnil : A = none → m = 0 ∧ c = 0)
    (h63 : n + m ≤ maxLen) (hbytes : (n + m) * bytes ≤ 140737488355328) (hbase : base ≤ w.heap.size)
    (h : ∀ v' w', w'.ownsRow base e k v' (n + m) (xs ++ flat enc z) → w.grownBy w' v.ownBlock → K (a.put o.dst v') w') : o.wp P a w K Q := by
  cases A with
  | none =>
    obtain ⟨rfl, rfl⟩ := hnil rfl
    have hz0 : z = [] := List.eq_nil_of_length_eq_zero hsrc.hlen
    subst hz0
    have hrun := run_append_owned_none (P := P) (w := w) base t o.type e i k ht hi v n xs hown
    have hh := h v w (by simpa [flat] using hown) (World.grownBy.refl w _)
    unfold Oper.wp
    simp [execOp, ho, resolve, invoke, builtin, hs, hx, hrun, Result.andThen]
    exact hh
  | some ad =>
    refine wp_append_own w s x t ho base e i z0 k bytes ht hi hz hsize hby hzs hk0 v n xs hs hown ad m c (flat enc z) hx (by rw [flat_len hk, hsrc.hlen]) (fun j u hj => ?_) (flat_one h1 z) h63 hbytes hbase (fun v' w' h3 h4 _ => h v' w' h3 h4)
    obtain ⟨y, hy, hu⟩ := flat_get hk hk0 hj
    obtain ⟨b, o', e1, _, e3⟩ := hsrc.cells _ y hy
    cases e1
    rw [Addr.add_lit, ← e3 _ u hu, show j / k * k + j % k = j by rw [Nat.mul_comm]; exact Nat.div_add_mod j k]
end
end Go.Proofs.Ytkngadbeflepoaa
