/- Machines: Make. Condition: few enough keys. -/
import Derived.Test.YtkngadbeflepoaaGreatZDeltaTells31
import Derived.Test.YtkngadbeflepoaaGreatZDeltaTells24
import Derived.Test.YtkngadbeflepoaaGreatZDeltaTells30
import Derived.Test.YtkngadbeflepoaaGreatZDeltaTells17
import Derived.Deep.DeepCutAuto
import Derived.Test.YtkngadbeflepoaaGreatZDeltaTells12
import Derived.Test.YtkngadbeflepoaaGreatZDeltaTells15
import Derived.Laws.AppendOwn
import Derived.Laws.AppendOwnNone
import Derived.OwnWalk
import Derived.Test.YtkngadbeflepoaaGreatZDeltaTells11
import Derived.Test.YtkngadbeflepoaaGreatZDeltaTells5
namespace Go.Proofs.YtkngadbeflepoaaGreat
open Go.RowKit
theorem part_row {w : World} {g : Nat} {M : MacV} {P : Option Addr} (h : MacAt w g macNone none) (w0 : World) (hb : Below w0.heap.size w0 w) (hg : w0.heap.size ≤ g) (X : Tr) (hX : TreeAt w X) :
    MacAt (rowSt w g 0 (macCells M P)) g M P ∧ TreeAt (rowSt w g 0 (macCells M P)) X ∧ Below w0.heap.size w0 (rowSt w g 0 (macCells M P)) := by
  obtain ⟨h1, h2, h3, h4⟩ := ma_st h M P
  exact ⟨h1, h4 _ hX, h3 _ _ hb hg⟩
set_option maxRecDepth 100000 in
set_option maxHeartbeats 16000000 in
theorem make_any (M : MacV) (T : Tr) (w : World) (hT : TreeAt w T) (hsh : T.sh = M.sh) (hcnt : T.cnt ≤ 1000000) (ha : M.all < 256) (hm : M.mem < 256) :
    Calls Tryz.prog 42 #[.int .u8 (M.all : Int), .int .u8 (M.mem : Int), .agg (tabCells M.tab).toArray, .pointer T.ptr] w fun e w' =>
      e = .returned (.tuple #[if makeOk M = true then macV M T.ptr else macV macNone none, .int .i64 (if makeOk M = true then 0 else 4)]) ∧ TreeAt w' T ∧ Below w.heap.size w w' := by
  have b1 := (Below.refl w.heap.size w).alloc (Nat.le_refl _) (.cells (tabCells M.tab).toArray 32)
  have s1 : (w.alloc (.cells (tabCells M.tab).toArray 32)).heap.size = w.heap.size + 1 := by simp
  have t1 : TabAt (w.alloc (.cells (tabCells M.tab).toArray 32)) w.heap.size M.tab := heap_alloc_new _ _
  have b2 := (Below.refl _ (w.alloc (.cells (tabCells M.tab).toArray 32))).alloc (Nat.le_refl _) (.cells (macCells macNone none).toArray 39)
  have r2 : MacAt ((w.alloc (.cells (tabCells M.tab).toArray 32)).alloc (.cells (macCells macNone none).toArray 39)) (w.heap.size + 1) macNone none := by rw [← s1]; exact heap_alloc_new _ _
  have ht2 := t1.below' b2
  have hb2 := b1.trans (b2.mono b1.size)
  clear b1 s1 t1 b2
  have H0 := Lib.hid (And.intro hT (And.intro hsh hcnt)); clear hT hsh hcnt
  have Hs := Lib.hid (And.intro ha hm); clear ha hm
  obtain ⟨rb, hrb⟩ : ∃ b, makeOk M = b := ⟨_, rfl⟩
  rw [hrb]
  have Hrb := Lib.hid hrb; clear hrb
  obtain ⟨P, hP⟩ : ∃ P, T.ptr = P := ⟨_, rfl⟩
  rw [hP, tab_eta]
  have HP := Lib.hid hP; clear hP
  go_enter Tryz.func42, Tryz.ntmps42
  go_upto_region 1 with fail
  change Code.wp _ _ _ _ ((w.alloc (.cells (tabCells M.tab).toArray 32)).alloc (.cells (macCells macNone none).toArray 39))
  generalize (w.alloc (.cells (tabCells M.tab).toArray 32)).alloc (.cells (macCells macNone none).toArray 39) = w1 at *
  refine mk_reg1 w1 w.heap.size M P T (fun _ _ d _ _ h => by cases d <;> exact h) (fun _ _ d _ _ h => by cases d <;> exact h) (Lib.hid ht2) _ _ _ _ _ _ _ _ _ _ _ _ _ _ _ _ _ _ _ _ _ _ _ _ _ _ _ _ _ (Lib.hid ?_)
  intro s11 s12 s13 s14 s15 s16 gp w2 hE
  have HE := Lib.hid hE; clear hE ht2
  have Hr := Lib.hid (r2.below HE.out.bel); clear r2
  have Hb := Lib.hid (hb2.trans (HE.out.bel.mono hb2.size))
  have HT2 := Lib.hid (HE.out.tr (H0.out.1.below hb2)); clear hb2
  go_upto_region 2 with fail
  refine mk_reg2 w2 gp M P T (fun _ _ d _ _ h => by cases d <;> exact h) (Lib.hid HE.out.p) (Lib.hid ⟨HT2.out, H0.out.2.1, HP.out, H0.out.2.2⟩) Hs _ _ _ _ _ _ _ _ _ _ _ _ _ _ _ _ _ _ _ _ _ _ _ _ _ _ _ _ _ _ _ _ (Lib.hid ?_)
  rw [Hrb.out]
  intro s17 s18 s19 s20 s21 s22 s23 s24 s25 s26 s27 s28 w3 hb3
  have HQ := Lib.hid (show PartAt w3 gp M P ∧ MacAt w3 (w.heap.size + 1) macNone none ∧ TreeAt w3 T ∧ Below w.heap.size w w3 from
    ⟨(hb3.block _ (Array.getElem?_eq_some_iff.1 HE.out.p).1).trans HE.out.p, Hr.out.below hb3, HT2.out.below hb3, Hb.out.trans (hb3.mono Hb.out.size)⟩)
  clear HE Hr Hb HT2 hb3
  cases rb with
  | false =>
    have HS := Lib.hid (part_row (M := macNone) (P := none) HQ.out.2.1 w HQ.out.2.2.2 (Nat.le_succ _) T HQ.out.2.2.1)
    go_upto_region 3 with fail
    refine mk_reg3 w3 (w.heap.size + 1) (fun _ _ d _ _ h => by cases d <;> exact h) (Lib.hid HQ.out.2.1) _ _ _ _ _ _ _ _ _ _ _ _ _ _ _ _ _ _ _ _ _ _ _ _ _ _ _ _ _ _ _ _ (Lib.hid ?_)
    intro s1 w8 hw8
    subst hw8
    go_wp2_with fail
    change bodyPost _ _ _ _ _ (rowSt w3 (w.heap.size + 1) 0 (macCells macNone none))
    clear HQ
    generalize rowSt w3 (w.heap.size + 1) 0 (macCells macNone none) = w9 at *
    obtain ⟨⟨o0, o1, o14⟩, ⟨o2, o3, o4⟩, ⟨o5, o6, o7⟩, ⟨o8, o9, o10⟩, ⟨o11, o12, o13⟩⟩ := HS.out.1.cells
    refine bodyPost_ret (v := .tuple #[.agg (macCells macNone none).toArray, .int .i64 4]) (by rw [mac_eta]; simp [results, Tryz.results42, go_sem, o0, o1, o2, o3, o4, o5, o6, o7, o8, o9, o10, o11, o12, o13, o14] <;> rfl) rfl ?_
    exact ⟨rfl, HS.out.2.1, HS.out.2.2⟩
  | true =>
    have HS := Lib.hid (part_row (M := M) (P := P) HQ.out.2.1 w HQ.out.2.2.2 (Nat.le_succ _) T HQ.out.2.2.1)
    go_upto_region 4 with fail
    refine mk_reg4 w3 (w.heap.size + 1) gp M P (fun _ _ d _ _ h => by cases d <;> exact h) (Lib.hid HQ.out.2.1) (Lib.hid HQ.out.1) _ _ _ _ _ _ _ _ _ _ _ _ _ _ _ _ _ _ _ _ _ _ _ _ _ _ _ _ _ _ _ (Lib.hid ?_)
    intro s1 s2 w8 hw8
    subst hw8
    go_wp2_with fail
    change bodyPost _ _ _ _ _ (rowSt w3 (w.heap.size + 1) 0 (macCells M P))
    clear HQ
    generalize rowSt w3 (w.heap.size + 1) 0 (macCells M P) = w9 at *
    obtain ⟨⟨o0, o1, o14⟩, ⟨o2, o3, o4⟩, ⟨o5, o6, o7⟩, ⟨o8, o9, o10⟩, ⟨o11, o12, o13⟩⟩ := HS.out.1.cells
    refine bodyPost_ret (v := .tuple #[.agg (macCells M P).toArray, .int .i64 0]) (by rw [mac_eta]; simp [results, Tryz.results42, go_sem, o0, o1, o2, o3, o4, o5, o6, o7, o8, o9, o10, o11, o12, o13, o14] <;> rfl) rfl ?_
    exact ⟨rfl, HS.out.2.1, HS.out.2.2⟩
end Go.Proofs.YtkngadbeflepoaaGreat
namespace Go.Proofs.YtkngadbeflepoaaGreat
open Go.RowKit
theorem and127 (x : Nat) : x &&& 127 = x % 128 := Nat.and_two_pow_sub_one_eq_mod x 7
theorem both_eq {x : Nat} : (x = bothS x x) ↔ x < 128 := by
  unfold bothS
  rw [Nat.and_self, and127]
  omega
theorem pop_posM : ∀ m, m < 128 → (0 < pop8 m ↔ m ≠ 0) := by decide
/-- May the sets be? -/
def setsG (a m : Nat) : Bool := decide (a < 128) && decide (m < 128) && decide (m ≠ 0) && decide (m &&& (255 - a) = 0)
theorem sets_good (M : MacV) : setsOk M = setsG M.all M.mem := by
  rw [Bool.eq_iff_iff]
  unfold setsOk setsG mayS withoutS
  simp only [Bool.and_eq_true, decide_eq_true_eq, both_eq]
  have hle : M.mem &&& (255 - M.all) ≤ M.mem := Nat.and_le_left
  constructor
  · rintro ⟨⟨⟨h1, h2⟩, h3⟩, h4⟩
    rw [and127, Nat.mod_eq_of_lt h4] at h1
    rw [and127, Nat.mod_eq_of_lt (by omega)] at h2
    exact ⟨⟨⟨h3, h4⟩, (pop_posM _ h4).1 h1⟩, h2⟩
  · rintro ⟨⟨⟨h3, h4⟩, h1⟩, h2⟩
    rw [and127 M.mem, Nat.mod_eq_of_lt h4, and127 (M.mem &&& (255 - M.all)), Nat.mod_eq_of_lt (by omega)]
    exact ⟨⟨⟨(pop_posM _ h4).2 h1, h2⟩, h3⟩, h4⟩
theorem lastOkB_fit {x : LastV} (h : lastOkB x = true) : LastFit x := by
  unfold lastOkB at h
  simp only [Bool.and_eq_true, Bool.or_eq_true, decide_eq_true_eq] at h
  exact ⟨h.1.1, h.1.2, fun e => h.2.elim (fun k => absurd e k) lastE_iff.1⟩
theorem tabOkB_fit {t : TabV} (h : tabOkB t 4 = true) (n : Nat) : LastFit (t.at_ n) := by
  unfold tabOkB tabOkB tabOkB tabOkB at h
  simp only [Bool.and_eq_true] at h
  obtain ⟨⟨⟨⟨-, h0⟩, h1⟩, h2⟩, h3⟩ := h
  unfold TabV.at_
  split
  · exact lastOkB_fit h0
  · split
    · exact lastOkB_fit h1
    · split
      · exact lastOkB_fit h2
      · exact lastOkB_fit h3
/-- Parts that may be are a machine. -/
theorem make_all {M : MacV} (h : makeOk M = true) (ha : Asc M.sh.kv) (hh : M.sh.Heap) : MacAll M := by
  unfold makeOk at h
  simp only [Bool.and_eq_true] at h
  obtain ⟨⟨h1, h2⟩, h3⟩ := h
  have hs := h1
  rw [sets_good] at hs
  unfold setsG at hs
  simp only [Bool.and_eq_true, decide_eq_true_eq] at hs
  unfold keysOkB at h3
  simp only [Bool.and_eq_true, decide_eq_true_eq] at h3
  have hp : ∀ p ∈ M.sh.kv, p.1.toList ≠ [] ∧ p.1.size ≤ 16 ∧ p.2.size ≤ 64 := fun p hp => by
    have := List.all_eq_true.1 h3.2 p hp
    unfold pairOkB at this
    simp only [Bool.and_eq_true, decide_eq_true_eq] at this
    exact ⟨this.1.1, this.1.2, this.2⟩
  refine ⟨⟨hs.1.1.1, hs.1.1.2, tabOkB_fit h2, ⟨ha, h3.1, fun p hm => (hp p hm).2.2⟩, fun p hm => ⟨?_, (hp p hm).2.1⟩⟩, hh, h1⟩
  have h0 := (hp p hm).1
  rw [← str_size]
  rw [ByteArray.toList_eq] at h0
  cases hl : p.1.data.toList with
  | nil => rw [hl] at h0; exact absurd rfl h0
  | cons => simp
end Go.Proofs.YtkngadbeflepoaaGreat
namespace Go.Proofs.YtkngadbeflepoaaGreat
open Go.RowKit
/-- What was kept of a client. -/
structure KeptV where
  client : BitVec 8
  seq : BitVec 32
  code : Nat
  text : ByteArray
def keptCells (k : KeptV) : List Value := [.int .u8 (k.client.toNat : Int), .int .u32 (k.seq.toNat : Int), .int .u8 (k.code : Int), .string k.text]
theorem kept_eta (k : KeptV) : (keptCells k).toArray = #[.int .u8 (k.client.toNat : Int), .int .u32 (k.seq.toNat : Int), .int .u8 (k.code : Int), .string k.text] := rfl
abbrev KeptsAt := SliceAt 4 keptCells
def keptNone (c : BitVec 8) : KeptV := ⟨c, 0#32, 0, ByteArray.empty⟩
instance : Inhabited KeptV := ⟨keptNone 0#8⟩
/-- The last that was kept of a client. -/
def lastR (c : BitVec 8) (z : List KeptV) : KeptV := z.foldl (fun o x => if x.client = c then x else o) (keptNone c)
theorem lastR_step (c : BitVec 8) (z : List KeptV) {i : Nat} (hi : i < z.length) : lastR c (z.take (i + 1)) = if (z.getD i default).client = c then z.getD i default else lastR c (z.take i) := by
  unfold lastR
  rw [List.take_succ_eq_append_getElem hi, List.foldl_append]
  simp [List.getD, List.getElem?_eq_getElem hi]
def KeptRow (w : World) (g : Nat) (k : KeptV) : Prop := w.heap[g]? = some (.cells (keptCells k).toArray 68 (0, 0))
theorem KeptRow.cells {w : World} {g : Nat} {k : KeptV} (h : KeptRow w g k) : w.cell? ⟨g, 0, none⟩ = some (.int .u8 (k.client.toNat : Int)) ∧ w.cell? ⟨g, 1, none⟩ = some (.int .u32 (k.seq.toNat : Int)) ∧ w.cell? ⟨g, 2, none⟩ = some (.int .u8 (k.code : Int)) ∧ w.cell? ⟨g, 3, none⟩ = some (.string k.text) :=
  ⟨cell_of_row _ _ _ _ _ _ h, cell_of_row _ _ _ _ _ _ h, cell_of_row _ _ _ _ _ _ h, cell_of_row _ _ _ _ _ _ h⟩
theorem KeptRow.thawed {w : World} {g : Nat} {k : KeptV} (h : KeptRow w g k) (j : Nat) : w.frozen? ⟨g, j, none⟩ = false := by
  unfold KeptRow at h
  simp [World.frozen?, h]
theorem KeptRow.lt {w : World} {g : Nat} {k : KeptV} (h : KeptRow w g k) : g < w.heap.size := (Array.getElem?_eq_some_iff.1 h).1
theorem KeptRow.below {w w' : World} {g : Nat} {k : KeptV} (h : KeptRow w g k) (hb : Below w.heap.size w w') : KeptRow w' g k := (hb.block g h.lt).trans h
theorem KeptRow.set {w : World} {g : Nat} {k : KeptV} (h : KeptRow w g k) (x : KeptV) : KeptRow (rowSt w g 0 (keptCells x)) g x := rowSt_row (keptCells x) [] (keptCells k) w h rfl
theorem kept_cells {w : World} {a : Option Addr} {len : Nat} {z : List KeptV} (h : KeptsAt w a len z) {i : Nat} (hi : i < len) :
    ∃ b o, a = some ⟨b, o, none⟩ ∧ b < w.heap.size ∧ w.cell? ⟨b, o + i * 4, none⟩ = some (.int .u8 ((z.getD i default).client.toNat : Int)) ∧
      w.cell? ⟨b, o + i * 4 + 1, none⟩ = some (.int .u32 ((z.getD i default).seq.toNat : Int)) ∧ w.cell? ⟨b, o + i * 4 + 2, none⟩ = some (.int .u8 ((z.getD i default).code : Int)) ∧
      w.cell? ⟨b, o + i * 4 + 3, none⟩ = some (.string (z.getD i default).text) := by
  have hl := h.hlen
  have hz : z[i]? = some (z.getD i default) := by simp [List.getD, List.getElem?_eq_getElem (show i < z.length by omega)]
  obtain ⟨b, o, h1, h2, h3⟩ := h.cells i _ hz
  exact ⟨b, o, h1, h2, h3 0 _ rfl, h3 1 _ rfl, h3 2 _ rfl, h3 3 _ rfl⟩
set_option maxRecDepth 100000 in
set_option maxHeartbeats 4000000 in
theorem rlast_any (A : Option Addr) (n cap : Nat) (z : List KeptV) (c : BitVec 8) (w : World) (h : KeptsAt w A n z) :
    Calls Tryz.prog 21 #[.slice A n cap, .int .u8 (c.toNat : Int)] w fun e w' => e = .returned (.agg (keptCells (lastR c z)).toArray) ∧ Below w.heap.size w w' := by
  have hlen := h.hlen
  have hmax := h.hmax
  unfold maxLen at hmax
  have H := Lib.hid h; clear h
  have r0 : KeptRow (w.alloc (.cells (keptCells (keptNone 0#8)).toArray 68)) w.heap.size (keptNone 0#8) := heap_alloc_new _ _
  have s0 : (w.alloc (.cells (keptCells (keptNone 0#8)).toArray 68)).heap.size = w.heap.size + 1 := by simp
  have r1 : KeptRow ((w.alloc (.cells (keptCells (keptNone 0#8)).toArray 68)).alloc (.cells (keptCells (keptNone c)).toArray 68)) (w.heap.size + 1) (keptNone c) := by rw [← s0]; exact heap_alloc_new _ _
  have r00 := r0.below ((Below.refl _ _).alloc (Nat.le_refl _) (.cells (keptCells (keptNone c)).toArray 68))
  have hb := ((Below.refl w.heap.size w).alloc (Nat.le_refl _) (.cells (keptCells (keptNone 0#8)).toArray 68)).alloc (by simp) (.cells (keptCells (keptNone c)).toArray 68)
  go_enter Tryz.func21, Tryz.ntmps21
  go_upto_region 2 with fail
  change Code.wp _ _ _ _ ((w.alloc (.cells (keptCells (keptNone 0#8)).toArray 68)).alloc (.cells (keptCells (keptNone c)).toArray 68))
  generalize (w.alloc (.cells (keptCells (keptNone 0#8)).toArray 68)).alloc (.cells (keptCells (keptNone c)).toArray 68) = w1 at *
  clear r0 s0
  have R0 := Lib.hid r00; clear r00
  have R1 := Lib.hid r1; clear r1
  have HB := Lib.hid hb; clear hb
  have Hlen := Lib.hid hlen; clear hlen
  go_wp2_with fail
  go_loopw [6] (fun s6 wr => ∃ i : Nat, i ≤ n ∧ s6 = .int .i64 (i : Int) ∧ KeptRow wr w.heap.size (keptNone 0#8) ∧ KeptRow wr (w.heap.size + 1) (lastR c (z.take i)) ∧ Below w.heap.size w wr) (fun s6 _ => n - (intOf s6).toNat)
  case atStart => exact ⟨0, by omega, rfl, R0.out, R1.out, HB.out⟩
  case round =>
    clear R0 R1 HB
    obtain ⟨i, hi, rfl, hr0, hr1, hb⟩ := hrel
    have R0 := Lib.hid hr0; clear hr0
    have R1 := Lib.hid hr1; clear hr1
    have HB := Lib.hid hb; clear hb
    by_cases hlt : i < n
    · have hlt' : (i : Int) < (n : Int) := by omega
      obtain ⟨b, o, rfl, hbl, c0, c1, c2, c3⟩ := kept_cells (H.out.below HB.out) hlt
      have hst := lastR_step c z (i := i) (by have := Hlen.out; omega)
      generalize z.getD i default = x at *
      have hsucc := tsucc (n := i) (by omega)
      have Hst := Lib.hid hst; clear hst
      by_cases hx : x.client = c
      · subst hx
        obtain ⟨d0, d1, d2, d3⟩ := R1.out.cells
        have z0 := R1.out.thawed 0
        have z1 := R1.out.thawed 1
        have z2 := R1.out.thawed 2
        have z3 := R1.out.thawed 3
        have RS := Lib.hid (R1.out.set x)
        have R0S := Lib.hid (show KeptRow (rowSt wr (w.heap.size + 1) 0 (keptCells x)) w.heap.size (keptNone 0#8) from (rowSt_other (by omega) _ _ _).trans R0.out)
        have HBS := Lib.hid (rowSt_below (g := w.heap.size + 1) (by omega) (keptCells x) 0 _ HB.out)
        go_wp2_with fail
        clear d0 d1 d2 d3 z0 z1 z2 z3
        go_roundw
        case rel => exact ⟨i + 1, hlt, rfl, R0S.out, by rw [Hst.out, if_pos rfl]; exact RS.out, HBS.out⟩
        case measure => simp [intOf]; omega
      · have hx' : ((x.client.toNat : Int) == (c.toNat : Int)) = false := by
          rw [beq_eq_false_iff_ne]
          intro e
          exact hx (BitVec.eq_of_toNat_eq (by omega))
        have Hx := Lib.hid hx; clear hx
        go_wp2_with fail
        go_roundw
        case rel => exact ⟨i + 1, hlt, rfl, R0.out, by rw [Hst.out, if_neg Hx.out]; exact R1.out, HB.out⟩
        case measure => simp [intOf]; omega
    · have hlt' : ¬ (i : Int) < (n : Int) := by omega
      have hin : i = n := by omega
      subst hin
      have hz : z.take i = z := by rw [← Hlen.out, List.take_length]
      rw [hz] at R1
      clear hz
      obtain ⟨x, hx⟩ : ∃ x, lastR c z = x := ⟨_, rfl⟩
      rw [hx] at R1
      have Hx := Lib.hid hx; clear hx
      obtain ⟨c0, c1, c2, c3⟩ := R1.out.cells
      obtain ⟨d0, d1, d2, d3⟩ := R0.out.cells
      have z0 := R0.out.thawed 0
      have z1 := R0.out.thawed 1
      have z2 := R0.out.thawed 2
      have z3 := R0.out.thawed 3
      have RS := Lib.hid (R0.out.set x)
      have HBS := Lib.hid (rowSt_below (Nat.le_refl w.heap.size) (keptCells x) 0 _ HB.out)
      go_wp2_with fail
      change bodyPost _ _ _ _ _ (rowSt wr w.heap.size 0 (keptCells x))
      clear c0 c1 c2 c3 d0 d1 d2 d3 z0 z1 z2 z3
      generalize rowSt wr w.heap.size 0 (keptCells x) = w9 at *
      obtain ⟨c0, c1, c2, c3⟩ := RS.out.cells
      refine bodyPost_ret (v := .agg (keptCells x).toArray) (by simp [results, Tryz.results21, go_sem, c0, c1, c2, c3, keptCells] <;> rfl) rfl ?_
      exact ⟨by rw [Hx.out], HBS.out⟩
end Go.Proofs.YtkngadbeflepoaaGreat
namespace Go.Proofs.YtkngadbeflepoaaGreat
open Go.RowKit
section
variable {α : Type} {enc : α → List Value} {k : Nat}
/-- The cells of a row. -/
def flat (enc : α → List Value) (z : List α) : List Value := z.flatMap enc
theorem flat_len (hk : ∀ x, (enc x).length = k) : ∀ z : List α, (flat enc z).length = z.length * k
  | [] => by simp [flat]
  | x :: r => by
    have h := flat_len hk r
    unfold flat at *
    rw [List.flatMap_cons, List.length_append, hk, h, List.length_cons, Nat.succ_mul]
    omega
theorem flat_app (z y : List α) : flat enc (z ++ y) = flat enc z ++ flat enc y := by simp [flat]
theorem flat_at (hk : ∀ x, (enc x).length = k) : ∀ (z : List α) (i r : Nat) (x : α) (u : Value), z[i]? = some x → (enc x)[r]? = some u → (flat enc z)[i * k + r]? = some u
  | [], _, _, _, _, h, _ => by simp at h
  | y :: l, 0, r, x, u, h, hu => by
    simp at h
    subst h
    have hr : r < (enc y).length := (List.getElem?_eq_some_iff.1 hu).1
    unfold flat
    rw [List.flatMap_cons, Nat.zero_mul, Nat.zero_add, List.getElem?_append_left hr, hu]
  | y :: l, i + 1, r, x, u, h, hu => by
    simp at h
    have ih := flat_at hk l i r x u h hu
    unfold flat at *
    rw [List.flatMap_cons, List.getElem?_append_right (by rw [hk, Nat.succ_mul]; omega), hk, Nat.succ_mul, show i * k + k + r - k = i * k + r by omega]
    exact ih
theorem flat_get (hk : ∀ x, (enc x).length = k) (hk0 : 0 < k) {z : List α} {j : Nat} {u : Value} (h : (flat enc z)[j]? = some u) : ∃ x, z[j / k]? = some x ∧ (enc x)[j % k]? = some u := by
  have hj : j < z.length * k := by
    have := (List.getElem?_eq_some_iff.1 h).1
    rwa [flat_len hk] at this
  have hi : j / k < z.length := Nat.div_lt_of_lt_mul (by rw [Nat.mul_comm]; exact hj)
  have hr : j % k < (enc z[j / k]).length := by rw [hk]; exact Nat.mod_lt _ hk0
  have e := flat_at hk z (j / k) (j % k) z[j / k] _ (List.getElem?_eq_getElem hi) (List.getElem?_eq_getElem hr)
  rw [show j / k * k + j % k = j by rw [Nat.mul_comm]; exact Nat.div_add_mod j k, h] at e
  cases e
  exact ⟨_, List.getElem?_eq_getElem hi, List.getElem?_eq_getElem hr⟩
theorem flat_one (h1 : ∀ x, ∀ u ∈ enc x, u.oneCell' = true) (z : List α) : ∀ u ∈ flat enc z, u.oneCell' = true := by
  intro u hu
  obtain ⟨x, _, hx⟩ := List.mem_flatMap.1 hu
  exact h1 x u hx
/-- An owned row reads as its elements. -/
theorem own_slice {w : World} {base : Nat} {e : TypeId} {A : Option Addr} {n c : Nat} {z : List α} (hk : ∀ x, (enc x).length = k) (h : w.ownsRow base e k (.slice A n c) n (flat enc z)) (hz : z.length = n) (hm : n ≤ maxLen) : SliceAt k enc w A n z := by
  obtain ⟨h1, h2⟩ := h
  refine ⟨hz, hm, fun i x hx => ?_⟩
  have hi : i < z.length := (List.getElem?_eq_some_iff.1 hx).1
  rcases h2 with ⟨_, h3⟩ | ⟨g, cap, cur, e1, _, hg, _, _, _, ht⟩
  · omega
  · cases e1
    refine ⟨g, 0, rfl, (Array.getElem?_eq_some_iff.1 hg).1, fun j v hj => ?_⟩
    have e := flat_at hk z i j x v hx hj
    have hlt : i * k + j < n * k := by
      have := (List.getElem?_eq_some_iff.1 e).1
      rwa [flat_len hk, hz] at this
    rw [← ht, List.getElem?_take, if_pos hlt, Array.getElem?_toList] at e
    simp only [World.cell?, hg, Nat.zero_add]
    simpa using e
theorem own_nil {w : World} {base : Nat} {e : TypeId} {A : Option Addr} {n c : Nat} {xs : List Value} (h : w.ownsRow base e k (.slice A n c) n xs) : A = none → n = 0 ∧ c = 0 := by
  rintro rfl
  rcases h.2 with ⟨e1, _⟩ | ⟨g, cap, cur, e1, _⟩
  · cases e1; exact ⟨rfl, rfl⟩
  · cases e1
theorem own_slice_of {w : World} {base : Nat} {e : TypeId} {v : Value} {n : Nat} {xs : List Value} (h : w.ownsRow base e k v n xs) : ∃ A c, v = .slice A n c := by
  rcases h.2 with ⟨rfl, rfl⟩ | ⟨g, cap, cur, rfl, _⟩
  · exact ⟨none, 0, rfl⟩
  · exact ⟨_, _, rfl⟩
/-- 'append(s, x...)', s owned, x a row of structs, nil or not. -/
theorem wp_append_slice {P : Program} {w : World} {o : Oper} {a : Act} {K : Act → World → Prop} {Q : Exit → Act → World → Prop} (s x : Operand) (t : TypeId)
    (ho : o.op = .call { callee := .builtin .append, args := #[s, x], argTypes := #[t, t] })
    (base : Nat) (e : TypeId) (i : TypeInfo) (z0 : Value) (bytes : Nat) (ht : P.underlying t = some (.slice e)) (hi : P.info? e = some i) (hz : i.zero = some z0)
    (hsize : i.size = k) (hby : i.bytes = bytes) (hzs : z0.cells.size = k) (hk0 : 0 < k) (hk : ∀ x, (enc x).length = k) (h1 : ∀ x, ∀ u ∈ enc x, u.oneCell' = true)
    (v : Value) (n : Nat) (xs : List Value) (hs : a.eval s = v) (hown : w.ownsRow base e k v n xs) (A : Option Addr) (m c : Nat) (z : List α) (hx : a.eval x = .slice A m c) (hsrc : SliceAt k enc w A m z) (hnil : A = none → m = 0 ∧ c = 0)
    (h63 : n + m ≤ maxLen) (hbytes : (n + m) * bytes ≤ 140737488355328) (hbase : base ≤ w.heap.size)
    (h : ∀ v' w', w'.ownsRow base e k v' (n + m) (xs ++ flat enc z) → w.grownBy w' v.ownBlock → K (a.put o.dst v') w') : o.wp P a w K Q := by
  cases A with
  | none =>
    obtain ⟨rfl, rfl⟩ := hnil rfl
    have hz0 : z = [] := List.eq_nil_of_length_eq_zero hsrc.hlen
    subst hz0
    have hrun := run_append_owned_none (P := P) (w := w) base t o.type e i k ht hi v n xs hown
    have hh := h v w (by simpa [flat] using hown) (World.grownBy.refl w _)
    unfold Oper.wp
    simp [execOp, ho, resolve, invoke, builtin, hs, hx, hrun, Result.andThen]
    exact hh
  | some ad =>
    refine wp_append_own w s x t ho base e i z0 k bytes ht hi hz hsize hby hzs hk0 v n xs hs hown ad m c (flat enc z) hx (by rw [flat_len hk, hsrc.hlen]) (fun j u hj => ?_) (flat_one h1 z) h63 hbytes hbase (fun v' w' h3 h4 _ => h v' w' h3 h4)
    obtain ⟨y, hy, hu⟩ := flat_get hk hk0 hj
    obtain ⟨b, o', e1, _, e3⟩ := hsrc.cells _ y hy
    cases e1
    rw [Addr.add_lit, ← e3 _ u hu, show j / k * k + j % k = j by rw [Nat.mul_comm]; exact Nat.div_add_mod j k]
end
end Go.Proofs.YtkngadbeflepoaaGreat
namespace Go.Proofs.YtkngadbeflepoaaGreat
open Go.RowKit
def KeptV.last (k : KeptV) : LastV := ⟨k.seq, k.code, k.text⟩
/-- What was kept says what the table says. -/
def KeptTab (t : TabV) (z : List KeptV) : Prop := ∀ c : BitVec 8, c.toNat < 4 → (lastR c z).last = t.at_ c.toNat
theorem keptTab_nil : KeptTab tabNone [] := by
  intro c hc
  unfold TabV.at_ tabNone
  repeat' split
  all_goals rfl
theorem keptTab_put {t : TabV} {z : List KeptV} (h : KeptTab t z) (k : KeptV) (hk : k.client.toNat < 4) : KeptTab (t.put k.client.toNat k.last) (z ++ [k]) := by
  intro c hc
  rw [TabV.put_at hk hc]
  unfold lastR
  rw [List.foldl_append]
  show (if k.client = c then k else lastR c z).last = _
  by_cases e : k.client = c
  · rw [if_pos e, if_pos (by rw [e])]
  · rw [if_neg e, if_neg (fun h => e (BitVec.eq_of_toNat_eq h.symm))]
    exact h c hc
theorem layRep2 (w : World) : RepAt (w.alloc (.cells (repCells 0 ByteArray.empty).toArray 28)) w.heap.size 0 ByteArray.empty := heap_alloc_new _ _
set_option maxRecDepth 100000 in
set_option maxHeartbeats 4000000 in
theorem rlook_any (A : Option Addr) (n cap : Nat) (z : List KeptV) (t : TabV) (hT : KeptTab t z) (cl : BitVec 8) (hcl : cl.toNat < 4) (sq : BitVec 32) (hsq : sq.toNat ≠ 0) (w : World) (h : KeptsAt w A n z) :
    Calls Tryz.prog 49 #[.slice A n cap, .int .u8 (cl.toNat : Int), .int .u32 (sq.toNat : Int)] w fun e w' => e = .returned (.tuple #[repV (lookT t cl.toNat sq).2.1 (lookT t cl.toNat sq).2.2, .int .u8 ((lookT t cl.toNat sq).1 : Int)]) ∧ Below w.heap.size w w' := by
  have hr0 := layRep2 w
  have hb0 := (Below.refl w.heap.size w).alloc (Nat.le_refl _) (.cells (repCells 0 ByteArray.empty).toArray 28)
  have hl := fun (y : World) (hy : Below w.heap.size w y) => rlast_any A n cap z cl y (h.below hy)
  have hx := hT cl hcl
  obtain ⟨x, hxe⟩ : ∃ x, lastR cl z = x := ⟨_, rfl⟩
  rw [hxe] at hl hx
  obtain ⟨⟨q1, q2, q3⟩, hq⟩ : ∃ q, lookT t cl.toNat sq = q := ⟨_, rfl⟩
  have hq0 := hq
  rw [hq]
  unfold lookT at hq0
  rw [← hx] at hq0
  obtain ⟨xc, xs, xo, xt⟩ := x
  change (if xs.toNat < sq.toNat then (1, 0, ByteArray.empty) else if sq.toNat = xs.toNat then (2, xo, xt) else (3, 3, ByteArray.empty)) = (q1, q2, q3) at hq0
  clear hx hxe hT hq
  have Hq := Lib.hid hq0; clear hq0
  rw [kept_eta] at hl
  have Hl := Lib.hid hl; clear hl h
  have hcl' : ¬ (3 : Int) < (cl.toNat : Int) := by omega
  have hsq' : ((sq.toNat : Int) == 0) = false := by rw [beq_eq_false_iff_ne]; omega
  have Hsq := Lib.hid hsq; clear hsq
  go_enter Tryz.func49, Tryz.ntmps49
  go_upto_region 1 with fail
  change Code.wp _ _ _ _ (w.alloc (.cells (repCells 0 ByteArray.empty).toArray 28))
  generalize w.alloc (.cells (repCells 0 ByteArray.empty).toArray 28) = w1 at *
  have Hr0 := Lib.hid hr0; clear hr0
  have Hb0 := Lib.hid hb0; clear hb0
  go_upto_region 4 with ((with_reducible refine (Hl.out _ Hb0.out).mono ?_); rintro e w2 ⟨rfl, hb2⟩; have Hb2 := Lib.hid hb2; clear hb2)
  change Code.wp _ _ _ _ (w2.alloc (.cells (keptCells ⟨xc, xs, xo, xt⟩).toArray 68))
  have hk3 : KeptRow (w2.alloc (.cells (keptCells ⟨xc, xs, xo, xt⟩).toArray 68)) w2.heap.size ⟨xc, xs, xo, xt⟩ := heap_alloc_new _ _
  have hb3 := Hb2.out.alloc Hb2.out.size (.cells (keptCells ⟨xc, xs, xo, xt⟩).toArray 68)
  have hr3 := Hr0.out.below hb3
  have hbw := Hb0.out.trans (hb3.mono Hb0.out.size)
  have hne : w2.heap.size ≠ w.heap.size := by have := Hr0.out.lt; have := Hb2.out.size; omega
  generalize w2.alloc (.cells (keptCells ⟨xc, xs, xo, xt⟩).toArray 68) = w3 at *
  generalize w2.heap.size = g at *
  clear hb3 Hb2 Hr0 Hb0 Hl
  obtain ⟨k0, k1, k2, k3⟩ := hk3.cells
  dsimp only at k0 k1 k2 k3
  obtain ⟨r0, r1⟩ := hr3.cells
  have z0 := hr3.thawed 0
  have z1 := hr3.thawed 1
  have Hr3 := Lib.hid hr3; clear hr3
  have Hbw := Lib.hid hbw; clear hbw
  clear hk3
  by_cases h1 : xs.toNat < sq.toNat
  · have h1' : (xs.toNat : Int) < (sq.toNat : Int) := by omega
    have hq0 := Hq.out
    rw [if_pos h1] at hq0
    have Hq1 := Lib.hid hq0; clear hq0
    have H1 := Lib.hid h1; clear h1
    have HR := Lib.hid (repSt_at Hr3.out 0 ByteArray.empty)
    have HB := Lib.hid (repSt_below Hbw.out (Nat.le_refl _) 0 ByteArray.empty)
    go_wp2_with fail
    change bodyPost _ _ _ _ _ (repSt w3 w.heap.size 0 ByteArray.empty)
    clear r0 r1 z0 z1 k0 k1 k2 k3
    generalize repSt w3 w.heap.size 0 ByteArray.empty = w4 at *
    obtain ⟨r0, r1⟩ := HR.out.cells
    refine bodyPost_ret (v := .tuple #[.agg #[.int .u8 0, .string ByteArray.empty], .int .u8 1]) (by simp [results, Tryz.results49, go_sem, r0, r1] <;> rfl) rfl ?_
    have e := Hq1.out; simp only [Prod.mk.injEq] at e; obtain ⟨rfl, rfl, rfl⟩ := e; exact ⟨rfl, HB.out⟩
  · have h1' : ¬ (xs.toNat : Int) < (sq.toNat : Int) := by omega
    have hq0 := Hq.out
    rw [if_neg h1] at hq0
    have H1 := Lib.hid h1; clear h1
    by_cases h2 : sq.toNat = xs.toNat
    · have h2' : ((sq.toNat : Int) == (xs.toNat : Int)) = true := by rw [beq_iff_eq]; omega
      rw [if_pos h2] at hq0
      have Hq1 := Lib.hid hq0; clear hq0
      have H2 := Lib.hid h2; clear h2
      have HR := Lib.hid (repSt_at Hr3.out xo xt)
      have HB := Lib.hid (repSt_below Hbw.out (Nat.le_refl _) xo xt)
      go_wp2_with fail
      change bodyPost _ _ _ _ _ (repSt w3 w.heap.size xo xt)
      clear r0 r1 z0 z1 k0 k1 k2 k3
      generalize repSt w3 w.heap.size xo xt = w4 at *
      obtain ⟨r0, r1⟩ := HR.out.cells
      refine bodyPost_ret (v := .tuple #[.agg #[.int .u8 (xo : Int), .string xt], .int .u8 2]) (by simp [results, Tryz.results49, go_sem, r0, r1] <;> rfl) rfl ?_
      have e := Hq1.out; simp only [Prod.mk.injEq] at e; obtain ⟨rfl, rfl, rfl⟩ := e; exact ⟨rfl, HB.out⟩
    · have h2' : ((sq.toNat : Int) == (xs.toNat : Int)) = false := by rw [beq_eq_false_iff_ne]; omega
      rw [if_neg h2] at hq0
      have Hq1 := Lib.hid hq0; clear hq0
      have H2 := Lib.hid h2; clear h2
      have HR := Lib.hid (repSt_at Hr3.out 3 ByteArray.empty)
      have HB := Lib.hid (repSt_below Hbw.out (Nat.le_refl _) 3 ByteArray.empty)
      go_wp2_with fail
      change bodyPost _ _ _ _ _ (repSt w3 w.heap.size 3 ByteArray.empty)
      clear r0 r1 z0 z1 k0 k1 k2 k3
      generalize repSt w3 w.heap.size 3 ByteArray.empty = w4 at *
      obtain ⟨r0, r1⟩ := HR.out.cells
      refine bodyPost_ret (v := .tuple #[.agg #[.int .u8 3, .string ByteArray.empty], .int .u8 3]) (by simp [results, Tryz.results49, go_sem, r0, r1] <;> rfl) rfl ?_
      have e := Hq1.out; simp only [Prod.mk.injEq] at e; obtain ⟨rfl, rfl, rfl⟩ := e; exact ⟨rfl, HB.out⟩
end Go.Proofs.YtkngadbeflepoaaGreat
