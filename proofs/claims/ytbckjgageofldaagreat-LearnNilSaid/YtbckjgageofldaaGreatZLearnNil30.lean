/- Machines: Make. Condition: few enough keys. -/
import Derived.Test.YtbckjgageofldaaGreatZLearnNil29
import Derived.Test.YtbckjgageofldaaGreatZLearnNil28
import Derived.Maps.AppendAt
import Derived.Test.YtbckjgageofldaaGreatZLearnNil0
namespace Go.Proofs.YtbckjgageofldaaGreat
open Go.RowKit
theorem part_row {w : World} {g : Nat} {M : MacV} {P : Option Addr} (h : MacAt w g macNone none) (w0 : World) (hb : Below w0.heap.size w0 w) (hg : w0.heap.size ≤ g) (X : Tr) (hX : TreeAt w X) :
  MacAt (rowSt w g 0 (macCells M P)) g M P ∧ TreeAt (rowSt w g 0 (macCells M P)) X ∧ Below w0.heap.size w0 (rowSt w g 0 (macCells M P)) := by
 obtain ⟨h1, h2, h3, h4⟩ := ma_st h M P
 exact ⟨h1, h4 _ hX, h3 _ _ hb hg⟩
set_option maxRecDepth 100000 in
set_option maxHeartbeats 16000000 in
theorem make_any (M : MacV) (T : Tr) (w : World) (hT : TreeAt w T) (hsh : T.sh = M.sh) (hcnt : T.cnt ≤ 1000000) (ha : M.all < 256) (hm : M.mem < 256) :
  Calls Tryz.prog 104 #[.int .u8 (M.all : Int), .int .u8 (M.mem : Int), .agg (tabCells M.tab).toArray, .pointer T.ptr] w fun e w' =>
   e = .returned (.tuple #[if makeOk M = true then macV M T.ptr else macV macNone none, .int .i64 (if makeOk M = true then 0 else 4)]) ∧ TreeAt w' T ∧ Below w.heap.size w w' := by
 have b1 := (Below.refl w.heap.size w).alloc (Nat.le_refl _) (.cells (tabCells M.tab).toArray 31)
 have s1 : (w.alloc (.cells (tabCells M.tab).toArray 31)).heap.size = w.heap.size + 1 := by simp
 have t1 : TabAt (w.alloc (.cells (tabCells M.tab).toArray 31)) w.heap.size M.tab := heap_alloc_new _ _
 have b2 := (Below.refl _ (w.alloc (.cells (tabCells M.tab).toArray 31))).alloc (Nat.le_refl _) (.cells (macCells macNone none).toArray 38)
 have r2 : MacAt ((w.alloc (.cells (tabCells M.tab).toArray 31)).alloc (.cells (macCells macNone none).toArray 38)) (w.heap.size + 1) macNone none := by rw [← s1]; exact heap_alloc_new _ _
 have ht2 := t1.below' b2
 have hb2 := b1.trans (b2.mono b1.size)
 clear b1 s1 t1 b2
 have H0 := Lib.hid (And.intro hT (And.intro hsh hcnt)); clear hT hsh hcnt
 have Hs := Lib.hid (And.intro ha hm); clear ha hm
 obtain ⟨rb, hrb⟩ : ∃ b, makeOk M = b := ⟨_, rfl⟩
 rw [hrb]
 have Hrb := Lib.hid hrb; clear hrb
 obtain ⟨P, hP⟩ : ∃ P, T.ptr = P := ⟨_, rfl⟩
 rw [hP, tab_eta]
 have HP := Lib.hid hP; clear hP
 go_enter Tryz.func104, Tryz.ntmps104
 go_upto_region 1 with fail
 change Code.wp _ _ _ _ ((w.alloc (.cells (tabCells M.tab).toArray 31)).alloc (.cells (macCells macNone none).toArray 38))
 generalize (w.alloc (.cells (tabCells M.tab).toArray 31)).alloc (.cells (macCells macNone none).toArray 38) = w1 at *
 refine mk_reg1 w1 w.heap.size M P T (fun _ _ d _ _ h => by cases d <;> exact h) (fun _ _ d _ _ h => by cases d <;> exact h) (Lib.hid ht2) _ _ _ _ _ _ _ _ _ _ _ _ _ _ _ _ _ _ _ _ _ _ _ _ _ _ _ _ _ (Lib.hid ?_)
 intro s11 s12 s13 s14 s15 s16 gp w2 hE
 have HE := Lib.hid hE; clear hE ht2
 have Hr := Lib.hid (r2.below HE.out.bel); clear r2
 have Hb := Lib.hid (hb2.trans (HE.out.bel.mono hb2.size))
 have HT2 := Lib.hid (HE.out.tr (H0.out.1.below hb2)); clear hb2
 go_upto_region 2 with fail
 refine mk_reg2 w2 gp M P T (fun _ _ d _ _ h => by cases d <;> exact h) (Lib.hid HE.out.p) (Lib.hid ⟨HT2.out, H0.out.2.1, HP.out, H0.out.2.2⟩) Hs _ _ _ _ _ _ _ _ _ _ _ _ _ _ _ _ _ _ _ _ _ _ _ _ _ _ _ _ _ _ _ _ (Lib.hid ?_)
 rw [Hrb.out]
 intro s17 s18 s19 s20 s21 s22 s23 s24 s25 s26 s27 s28 w3 hb3
 have HQ := Lib.hid (show PartAt w3 gp M P ∧ MacAt w3 (w.heap.size + 1) macNone none ∧ TreeAt w3 T ∧ Below w.heap.size w w3 from
  ⟨(hb3.block _ (Array.getElem?_eq_some_iff.1 HE.out.p).1).trans HE.out.p, Hr.out.below hb3, HT2.out.below hb3, Hb.out.trans (hb3.mono Hb.out.size)⟩)
 clear HE Hr Hb HT2 hb3
 cases rb with
 | false =>
  have HS := Lib.hid (part_row (M := macNone) (P := none) HQ.out.2.1 w HQ.out.2.2.2 (Nat.le_succ _) T HQ.out.2.2.1)
  go_upto_region 3 with fail
  refine mk_reg3 w3 (w.heap.size + 1) (fun _ _ d _ _ h => by cases d <;> exact h) (Lib.hid HQ.out.2.1) _ _ _ _ _ _ _ _ _ _ _ _ _ _ _ _ _ _ _ _ _ _ _ _ _ _ _ _ _ _ _ _ (Lib.hid ?_)
  intro s1 w8 hw8
  subst hw8
  go_wp2_with fail
  change bodyPost _ _ _ _ _ (rowSt w3 (w.heap.size + 1) 0 (macCells macNone none))
  clear HQ
  generalize rowSt w3 (w.heap.size + 1) 0 (macCells macNone none) = w9 at *
  obtain ⟨⟨o0, o1, o14⟩, ⟨o2, o3, o4⟩, ⟨o5, o6, o7⟩, ⟨o8, o9, o10⟩, ⟨o11, o12, o13⟩⟩ := HS.out.1.cells
  refine bodyPost_ret (v := .tuple #[.agg (macCells macNone none).toArray, .int .i64 4]) (by rw [mac_eta]; simp [results, Tryz.results104, go_sem, o0, o1, o2, o3, o4, o5, o6, o7, o8, o9, o10, o11, o12, o13, o14] <;> rfl) rfl ?_
  exact ⟨rfl, HS.out.2.1, HS.out.2.2⟩
 | true =>
  have HS := Lib.hid (part_row (M := M) (P := P) HQ.out.2.1 w HQ.out.2.2.2 (Nat.le_succ _) T HQ.out.2.2.1)
  go_upto_region 4 with fail
  refine mk_reg4 w3 (w.heap.size + 1) gp M P (fun _ _ d _ _ h => by cases d <;> exact h) (Lib.hid HQ.out.2.1) (Lib.hid HQ.out.1) _ _ _ _ _ _ _ _ _ _ _ _ _ _ _ _ _ _ _ _ _ _ _ _ _ _ _ _ _ _ _ (Lib.hid ?_)
  intro s1 s2 w8 hw8
  subst hw8
  go_wp2_with fail
  change bodyPost _ _ _ _ _ (rowSt w3 (w.heap.size + 1) 0 (macCells M P))
  clear HQ
  generalize rowSt w3 (w.heap.size + 1) 0 (macCells M P) = w9 at *
  obtain ⟨⟨o0, o1, o14⟩, ⟨o2, o3, o4⟩, ⟨o5, o6, o7⟩, ⟨o8, o9, o10⟩, ⟨o11, o12, o13⟩⟩ := HS.out.1.cells
  refine bodyPost_ret (v := .tuple #[.agg (macCells M P).toArray, .int .i64 0]) (by rw [mac_eta]; simp [results, Tryz.results104, go_sem, o0, o1, o2, o3, o4, o5, o6, o7, o8, o9, o10, o11, o12, o13, o14] <;> rfl) rfl ?_
  exact ⟨rfl, HS.out.2.1, HS.out.2.2⟩
end Go.Proofs.YtbckjgageofldaaGreat
namespace Go.Proofs.YtbckjgageofldaaGreat
open Go.RowKit
theorem and127 (x : Nat) : x &&& 127 = x % 128 := Nat.and_two_pow_sub_one_eq_mod x 7
theorem both_eq {x : Nat} : (x = bothS x x) ↔ x < 128 := by
 unfold bothS
 rw [Nat.and_self, and127]
 omega
theorem pop_posM : ∀ m, m < 128 → (0 < pop8 m ↔ m ≠ 0) := by decide
def setsG (a m : Nat) : Bool := decide (a < 128) && decide (m < 128) && decide (m ≠ 0) && decide (m &&& (255 - a) = 0)
theorem sets_good (M : MacV) : setsOk M = setsG M.all M.mem := by
 rw [Bool.eq_iff_iff]
 unfold setsOk setsG mayS withoutS
 simp only [Bool.and_eq_true, decide_eq_true_eq, both_eq]
 have hle : M.mem &&& (255 - M.all) ≤ M.mem := Nat.and_le_left
 constructor
 ·
  rintro ⟨⟨⟨h1, h2⟩, h3⟩, h4⟩
  rw [and127, Nat.mod_eq_of_lt h4] at h1
  rw [and127, Nat.mod_eq_of_lt (by omega)] at h2
  exact ⟨⟨⟨h3, h4⟩, (pop_posM _ h4).1 h1⟩, h2⟩
 ·
  rintro ⟨⟨⟨h3, h4⟩, h1⟩, h2⟩
  rw [and127 M.mem, Nat.mod_eq_of_lt h4, and127 (M.mem &&& (255 - M.all)), Nat.mod_eq_of_lt (by omega)]
  exact ⟨⟨⟨(pop_posM _ h4).2 h1, h2⟩, h3⟩, h4⟩
theorem lastOkB_fit {x : LastV} (h : lastOkB x = true) : LastFit x := by
 unfold lastOkB at h
 simp only [Bool.and_eq_true, Bool.or_eq_true, decide_eq_true_eq] at h
 exact ⟨h.1.1, h.1.2, fun e => h.2.elim (fun k => absurd e k) lastE_iff.1⟩
theorem tabOkB_fit {t : TabV} (h : tabOkB t 4 = true) (n : Nat) : LastFit (t.at_ n) := by
 unfold tabOkB tabOkB tabOkB tabOkB at h
 simp only [Bool.and_eq_true] at h
 obtain ⟨⟨⟨⟨-, h0⟩, h1⟩, h2⟩, h3⟩ := h
 unfold TabV.at_
 split
 ·
  exact lastOkB_fit h0
 ·
  split
  ·
   exact lastOkB_fit h1
  ·
   split
   ·
    exact lastOkB_fit h2
   ·
    exact lastOkB_fit h3
theorem make_all {M : MacV} (h : makeOk M = true) (ha : Asc M.sh.kv) (hh : M.sh.Heap) : MacAll M := by
 unfold makeOk at h
 simp only [Bool.and_eq_true] at h
 obtain ⟨⟨h1, h2⟩, h3⟩ := h
 have hs := h1
 rw [sets_good] at hs
 unfold setsG at hs
 simp only [Bool.and_eq_true, decide_eq_true_eq] at hs
 unfold keysOkB at h3
 simp only [Bool.and_eq_true, decide_eq_true_eq] at h3
 have hp : ∀ p ∈ M.sh.kv, p.1.toList ≠ [] ∧ p.1.size ≤ 16 ∧ p.2.size ≤ 64 := fun p hp => by
  have := List.all_eq_true.1 h3.2 p hp
  unfold pairOkB at this
  simp only [Bool.and_eq_true, decide_eq_true_eq] at this
  exact ⟨this.1.1, this.1.2, this.2⟩
 refine ⟨⟨hs.1.1.1, hs.1.1.2, tabOkB_fit h2, ⟨ha, h3.1, fun p hm => (hp p hm).2.2⟩, fun p hm => ⟨?_, (hp p hm).2.1⟩⟩, hh, h1⟩
 have h0 := (hp p hm).1
 rw [← str_size]
 rw [ByteArray.toList_eq] at h0
 cases hl : p.1.data.toList with
 | nil => rw [hl] at h0; exact absurd rfl h0
 | cons => simp
end Go.Proofs.YtbckjgageofldaaGreat
namespace Go.Proofs.YtbckjgageofldaaGreat
structure ChV where
 low : Nat
 D : List UInt8
def dirOk (b : UInt8) : Bool := decide (0 < b.toNat) && decide (b.toNat < 128)
def ChV.top (C : ChV) : Nat := C.low + C.D.length - 1
def ChV.at_ (C : ChV) (slot : Nat) : Option UInt8 := if slot = 0 then none else if max slot 3 - 3 < C.low ∨ C.top < max slot 3 - 3 then none else C.D[max slot 3 - 3 - C.low]?
def ChV.tail (C : ChV) : List UInt8 := C.D.drop (C.D.length - 3)
def ChV.push (C : ChV) (b : UInt8) : ChV := ⟨C.low, C.D ++ [b]⟩
def chOf (top : Nat) (t : List UInt8) : Option ChV := if (top ≤ 4611686018427387904 ∧ t.length = min (top + 1) 3) ∧ t.all dirOk = true then some ⟨top + 1 - t.length, t⟩ else none
theorem tail_len (C : ChV) : C.tail.length = min C.D.length 3 := by
 unfold ChV.tail
 rw [List.length_drop]
 omega
theorem chOf_tail {C : ChV} (h0 : C.low = 0) (hD : 0 < C.D.length) (hok : C.D.all dirOk = true) (ht : C.top ≤ 4611686018427387904) : chOf C.top C.tail = some ⟨C.top + 1 - C.tail.length, C.tail⟩ := by
 unfold chOf
 rw [if_pos]
 refine ⟨⟨ht, ?_⟩, ?_⟩
 ·
  rw [tail_len]
  unfold ChV.top
  rw [h0]
  have : 0 + C.D.length - 1 + 1 = C.D.length := by omega
  rw [this]
 ·
  unfold ChV.tail
  rw [List.all_eq_true] at hok ⊢
  exact fun b hb => hok b (List.mem_of_mem_drop hb)
theorem tail_last {C : ChV} (hD : 0 < C.D.length) : C.tail.getLast? = C.D.getLast? := by
 unfold ChV.tail
 rw [List.getLast?_drop, if_neg (by omega)]
end Go.Proofs.YtbckjgageofldaaGreat
namespace Go.Proofs.YtbckjgageofldaaGreat
open Go.RowKit
def leB (x : Nat) : Nat → List UInt8
 | 0 => []
 | i + 1 => leB x i ++ [UInt8.ofNat (x / 256 ^ i)]
theorem leB_len (x : Nat) : ∀ i, (leB x i).length = i
 | 0 => rfl
 | i + 1 => by rw [leB, List.length_append, leB_len x i]; rfl
def sumM (M : MacV) : Nat := (Crc.sum 0#64 (macB M)).toNat
theorem sumM_lt (M : MacV) : sumM M < 18446744073709551616 := (Crc.sum 0#64 (macB M)).isLt
def sumB (M : MacV) : List UInt8 := leB (sumM M) 8
theorem OwnB.block {w : World} {base : Nat} {t : TypeId} {v : Value} {l : List UInt8} (h : OwnB w base t v l) : ∀ k, v.ownBlock = some k → base ≤ k := by
 intro k hk
 unfold OwnB at h
 obtain ⟨-, h⟩ := h
 rcases h with ⟨rfl, -⟩ | ⟨g, cap, cur, rfl, h3, -⟩
 ·
  cases hk
 ·
  cases hk; exact h3
theorem OwnB.nil (w : World) (base : Nat) (t : TypeId) : OwnB w base t (.slice none 0 0) [] := ⟨rfl, .inl ⟨rfl, rfl⟩⟩
theorem OwnB.alloc {w : World} {base : Nat} {t : TypeId} {v : Value} {l : List UInt8} (h : OwnB w base t v l) (o : Obj) : OwnB (w.alloc o) base t v l := h.below ((Below.refl _ _).alloc (Nat.le_refl _) _)
set_option maxRecDepth 100000 in
set_option maxHeartbeats 8000000 in
theorem putSum_any (M : MacV) (T : Tr) (hM : MacBy M) (hlen : (macB M).length ≤ maxLen) (v : Value) (l : List UInt8) (base : Nat) (hl : l.length ≤ 1000000) (w : World) (hb : base ≤ w.heap.size) (h : OwnB w base 5 v l) (hat : TreeAt w T) (hsh : T.sh = M.sh) :
  Calls Tryz.prog 137 #[v, macV M T.ptr] w fun e w' => ∃ v', e = .returned v' ∧ OwnB w' base 5 v' (l ++ sumB M) ∧ Below base w w' := by
 obtain ⟨i0, hi0, hz0, hs0, hb0⟩ := info_parts info8
 obtain ⟨a, n, c, rfl⟩ := h.read.slice
 obtain ⟨P, hP⟩ : ∃ P, T.ptr = P := ⟨_, rfl⟩
 have hb1 := (Below.refl w.heap.size w).alloc (Nat.le_refl _) (.cells (macCells M P).toArray 38)
 have hm1 : MacAt (w.alloc (.cells (macCells M P).toArray 38)) w.heap.size M P := heap_alloc_new _ _
 have hby := fun (y : World) (hy : TreeAt y T) => mbytes_any M T hM y hy hsh
 rw [hP] at hby ⊢
 unfold macV at hby ⊢
 rw [mac_eta M P] at hby ⊢
 have hsum := fun y : World => sum_any ⟨(macB M).toArray⟩ (by simpa [ByteArray.size] using hlen) y
 obtain ⟨SA, hSA⟩ : ∃ S : ByteArray, (⟨(macB M).toArray⟩ : ByteArray) = S := ⟨_, rfl⟩
 have hx : (Crc.sum 0#64 SA.data.toList).toNat = sumM M := by rw [← hSA]; rfl
 rw [hSA] at hby hsum
 clear hSA
 rw [hx] at hsum
 clear hx
 have hxl := sumM_lt M
 have hres : sumB M = leB (sumM M) 8 := rfl
 rw [hres]
 clear hres
 obtain ⟨x, hx⟩ : ∃ x, sumM M = x := ⟨_, rfl⟩
 rw [hx] at hsum hxl ⊢
 clear hx
 have Hby := Lib.hid (hby _ (hat.below hb1)); clear hby
 have Hsum := Lib.hid hsum; clear hsum
 have Ho1 := Lib.hid (h.below hb1); clear h
 go_enter Tryz.func137, Tryz.ntmps137
 go_upto_region 1 with fail
 change Code.wp _ _ _ _ (w.alloc (.cells (macCells M P).toArray 38))
 generalize w.alloc (.cells (macCells M P).toArray 38) = w1 at *
 obtain ⟨⟨m0, m1, m14⟩, ⟨m2, m3, m4⟩, ⟨m5, m6, m7⟩, ⟨m8, m9, m10⟩, ⟨m11, m12, m13⟩⟩ := hm1.cells
 have Hb1 := Lib.hid hb1; clear hb1 hm1
 go_wp2_with (first
  | ((with_reducible refine Hby.out.mono ?_); rintro e w2 ⟨rfl, hb2⟩; have Hb2 := Lib.hid hb2; clear hb2)
  | ((with_reducible refine (Hsum.out _).mono ?_); rintro e w' ⟨rfl, rfl⟩))
 clear m0 m1 m2 m3 m4 m5 m6 m7 m8 m9 m10 m11 m12 m13 m14 Hby Hsum
 have Hb := Lib.hid ((Hb1.out.mono hb).trans (Hb2.out.mono (Nat.le_trans hb Hb1.out.size)))
 have Ho := Lib.hid (Ho1.out.below Hb2.out)
 clear Ho1 Hb1 Hb2
 go_loopw [0, 10] (fun s0 s10 wr => ∃ (i : Nat), i ≤ 8 ∧ s10 = .int .i64 (i : Int) ∧ OwnB wr base 5 s0 (l ++ leB x i) ∧ Below base w wr) (fun _ s10 _ => 8 - (intOf s10).toNat)
 case atStart => exact ⟨0, by omega, rfl, by rw [leB, List.append_nil]; exact Ho.out, Hb.out⟩
 case round =>
  clear Ho Hb
  obtain ⟨i, hi, rfl, ho, hbel⟩ := hrel
  obtain ⟨a, n, c, rfl⟩ := ho.read.slice
  have Hbel := Lib.hid hbel; clear hbel
  have Ho := Lib.hid ho; clear ho
  by_cases hi8 : i < 8
  ·
   have hi8' : (i : Int) < 8 := by omega
   have hsucc := tsucc (n := i) (by omega)
   have hi0' : (0 : Int) ≤ (i : Int) := by omega
   have hi7 : (i : Int) ≤ 7 := by omega
   have hnews : bcells [UInt8.ofNat (x / 256 ^ i)] = [.int .u8 ((x : Int) / 2 ^ (8 * i) % 256)] := by
    have e : (2 : Nat) ^ (8 * i) = 256 ^ i := by rw [Nat.pow_mul]
    simp [bcells, ← e]
   have Hnews := Lib.hid hnews; clear hnews
   have Hle := Lib.hid (show base ≤ wr.heap.size from Nat.le_trans hb Hbel.out.size)
   have Hlen := Lib.hid (show (l ++ leB x i).length ≤ 1000100 by rw [List.length_append, leB_len]; omega)
   go_wp2_with (at_builtin; refine wpList_append_own_at _ rfl _ _ 44 rfl base 5 i0 (.int .u8 0) 1 1 Tryz.underlying44 hi0 hz0 hs0 hb0 rfl (by decide) _ _ _ rfl (World.ownsRow.alloc Ho.out _) ⟨wr.heap.size, 0, none⟩ 1 1 (bcells [UInt8.ofNat (x / 256 ^ i)]) rfl rfl (by rw [Hnews.out]; exact cells_one _ _ _) (bcells_one _) (by have := Hlen.out; unfold maxLen; omega) (by have := Hlen.out; omega) (by have := Hle.out; simp; omega) ?_; intro v4 w4 ho4 hg4 _ _; have Hg4 := Lib.hid hg4; clear hg4; have Ho4 := Lib.hid ho4; clear ho4)
   go_roundw
   case rel =>
    refine ⟨i + 1, by omega, rfl, ?_, below_grown Hg4.out ((Hbel.out.alloc Hle.out _)) (by have := Hle.out; simp; omega) Ho.out.block⟩
    rw [leB, ← List.append_assoc]
    exact OwnB.of Ho4.out rfl rfl
   case measure => simp [intOf]; omega
  ·
   have hi8' : ¬ (i : Int) < 8 := by omega
   obtain rfl : i = 8 := by omega
   clear hi8 hi
   go_wp2_with fail
   go_ret
   exact ⟨_, rfl, Ho.out, Hbel.out⟩
end Go.Proofs.YtbckjgageofldaaGreat
