/- Desks: ProposeOrder. Condition: the desk lies there. -/
import Derived.Test.YtoleiiicbnmhpaaZProposeOrder3
import Derived.Test.YtoleiiicbnmhpaaZProposeOrder1
namespace Go.Proofs.Ytoleiiicbnmhpaa
open Go.RowKit
open Go.Maps (Keyed)
def sv : ByteArray := ⟨#[118]⟩
/-- Between two rounds. -/
structure OrdI (w0 y : World) (p g p2 g2 c m m2 : Nat) (o o2 : Option Nat) : Prop where
  d : ∃ n, n ≤ m ∧ DeskAt y p g n (dk1 c 1 sv o) 1
  e : ∃ n, n ≤ m2 ∧ DeskAt y p2 g2 n (dk1 c 9 sv o2) 9
  bel : Below w0.heap.size w0 y
  ap : (w0.heap.size ≤ p ∧ w0.heap.size ≤ g ∧ w0.heap.size ≤ p2 ∧ w0.heap.size ≤ g2) ∧ p ≠ p2 ∧ p ≠ g2 ∧ g ≠ p2 ∧ g ≠ g2
theorem OrdI.below {w0 y y' : World} {p g p2 g2 c m m2 : Nat} {o o2 : Option Nat} (h : OrdI w0 y p g p2 g2 c m m2 o o2) (hb : Below y.heap.size y y') : OrdI w0 y' p g p2 g2 c m m2 o o2 := by
  obtain ⟨⟨n, hn, hd⟩, ⟨k, hk, he⟩, hl, ha⟩ := h
  exact ⟨⟨n, hn, hd.below hb⟩, ⟨k, hk, he.below hb⟩, hl.trans (hb.mono hl.size), ha⟩
theorem OrdI.one {w0 y y' : World} {p g p2 g2 c m m2 n : Nat} {o o2 o' : Option Nat} (h : OrdI w0 y p g p2 g2 c m m2 o o2) (hn : n ≤ m + 1) (hd : DeskAt y' p g n (dk1 c 1 sv o') 1) (hb : ButTwo p g y y') : OrdI w0 y' p g p2 g2 c (m + 1) m2 o' o2 := by
  obtain ⟨-, ⟨k, hk, he⟩, hl, ha⟩ := h
  exact ⟨⟨n, hn, hd⟩, ⟨k, hk, he.stay (hb.block p2 he.lt ha.2.1.symm ha.2.2.2.1.symm) (hb.block g2 he.mp.lt ha.2.2.1.symm ha.2.2.2.2.symm)⟩, hb.below hl hl.size ha.1.1 ha.1.2.1, ha⟩
theorem OrdI.two {w0 y y' : World} {p g p2 g2 c m m2 n : Nat} {o o2 o' : Option Nat} (h : OrdI w0 y p g p2 g2 c m m2 o o2) (hn : n ≤ m2 + 1) (hd : DeskAt y' p2 g2 n (dk1 c 9 sv o') 9) (hb : ButTwo p2 g2 y y') : OrdI w0 y' p g p2 g2 c m (m2 + 1) o o' := by
  obtain ⟨⟨k, hk, he⟩, -, hl, ha⟩ := h
  exact ⟨⟨k, hk, he.stay (hb.block p he.lt ha.2.1 ha.2.2.1) (hb.block g he.mp.lt ha.2.2.2.1 ha.2.2.2.2)⟩, ⟨n, hn, hd⟩, hb.below hl hl.size ha.1.2.2.1 ha.1.2.2.2, ha⟩
theorem pop_zero : ∀ c : Fin 128, pop8 (c.val &&& 127) = 0 → c.val = 0 := by decide +kernel
def natsOf (z : List (BitVec 8)) : List Nat := z.map (·.toNat)
theorem nats_take (z : List (BitVec 8)) (i : Nat) (h : i < z.length) : (natsOf z).take (i + 1) = (natsOf z).take i ++ [(z.getD i default).toNat] := by
  have h2 : i < (natsOf z).length := by simpa [natsOf] using h
  rw [List.take_succ_eq_append_getElem h2]
  simp [natsOf, List.getD, List.getElem?_eq_getElem h]
theorem nats_mem {z : List (BitVec 8)} {i : Nat} (h : i < z.length) : (z.getD i default).toNat ∈ natsOf z := by
  unfold natsOf
  refine List.mem_map.2 ⟨z[i], List.getElem_mem h, ?_⟩
  simp [List.getD, List.getElem?_eq_getElem h]
set_option maxRecDepth 100000 in
set_option maxHeartbeats 16000000 in
theorem proposeOrder_any (st : Nat) (hst : st < 256) (A : Option Addr) (ln cap : Nat) (z : List (BitVec 8)) (A2 : Option Addr) (ln2 cap2 : Nat) (z2 : List (BitVec 8)) (w : World) (hU : U8sAt w A ln z) (hV : U8sAt w A2 ln2 z2) :
    Calls Try.prog 3 #[.int .u8 (st : Int), .slice A ln cap, .slice A2 ln2 cap2] w fun e w' => e = .returned (.bool true) ∧ Below w.heap.size w w' := by
  have HU := Lib.hid hU
  have HV := Lib.hid hV
  have Hk := Lib.hid (fun y : World => pwakes_any y)
  have Hw := Lib.hid (show ∀ y : World, Calls Try.prog 8 #[.int .u8 (st : Int), .int .u8 0] y fun e w' => e = .returned (.int .u8 (withS st 0 : Int)) ∧ y = w' from fun y => with_any st 0 hst (by decide) y)
  have hc : withS st 0 < 128 := Nat.lt_of_le_of_lt Nat.and_le_right (by decide)
  clear hU hV
  generalize withS st 0 = c at *
  have Hl := Lib.hid (fun y : World => len8_any c (by omega) y)
  have hp0 := pop_zero ⟨c, hc⟩
  simp only at hp0
  have hpz : c = 0 → pop8 (c &&& 127) = 0 := by rintro rfl; rfl
  generalize pop8 (c &&& 127) = q at *
  by_cases h60 : 60 < ln
  · have h60' : (60 : Int) < (ln : Int) := by omega
    go_enter Try.func3, Try.ntmps3
    go_wp2_with ((with_reducible refine (Hk.out _).mono ?_); rintro e w' ⟨rfl, hb⟩; have HB := Lib.hid hb; clear hb)
    go_ret
    exact ⟨rfl, HB.out⟩
  have h60' : ¬ (60 : Int) < (ln : Int) := by omega
  by_cases h62 : 60 < ln2
  · have h62' : (60 : Int) < (ln2 : Int) := by omega
    go_enter Try.func3, Try.ntmps3
    go_wp2_with ((with_reducible refine (Hk.out _).mono ?_); rintro e w' ⟨rfl, hb⟩; have HB := Lib.hid hb; clear hb)
    go_ret
    exact ⟨rfl, HB.out⟩
  have h62' : ¬ (60 : Int) < (ln2 : Int) := by omega
  by_cases hc0 : c = 0
  · have hq : (q : Int) = 0 := by have := hpz hc0; omega
    clear hpz hp0 hc0
    go_enter Try.func3, Try.ntmps3
    go_wp2_with (first
      | ((with_reducible refine (Hk.out _).mono ?_); rintro e w' ⟨rfl, hb⟩; have HB := Lib.hid hb; clear hb)
      | ((with_reducible refine (Hw.out _).mono ?_); rintro e w' ⟨rfl, rfl⟩)
      | ((with_reducible refine (Hl.out _).mono ?_); rintro e w' ⟨rfl, rfl⟩))
    go_ret
    exact ⟨rfl, HB.out⟩
  have hq : ¬ (q : Int) = 0 := fun e => hc0 (hp0 (by omega))
  clear hpz hp0
  have Hnew := Lib.hid dnew_any
  go_enter Try.func3, Try.ntmps3
  go_upto_region 7 with (first
    | ((with_reducible refine (Hw.out _).mono ?_); rintro e w' ⟨rfl, rfl⟩)
    | ((with_reducible refine (Hl.out _).mono ?_); rintro e w' ⟨rfl, rfl⟩)
    | (have hx := H1; clear hx; (with_reducible refine (Hnew.out _).mono ?_); rintro e w2 ⟨rfl, hd, hb⟩; have H2 := Lib.hid (And.intro hd hb); clear hd hb)
    | ((with_reducible refine (Hnew.out _).mono ?_); rintro e w1 ⟨rfl, hd, hb⟩; have H1 := Lib.hid (And.intro hd hb); clear hd hb))
  clear Hnew
  have hap : (w.heap.size ≤ w.heap.size + 1 ∧ w.heap.size ≤ w.heap.size ∧ w.heap.size ≤ w1.heap.size + 1 ∧ w.heap.size ≤ w1.heap.size) ∧ w.heap.size + 1 ≠ w1.heap.size + 1 ∧ w.heap.size + 1 ≠ w1.heap.size ∧ w.heap.size ≠ w1.heap.size + 1 ∧ w.heap.size ≠ w1.heap.size := by
    have := H1.out.1.lt
    have := H1.out.2.size
    omega
  have HD := Lib.hid (show DeskAt w2 (w.heap.size + 1) w.heap.size 0 (fun _ => none) 0 from H1.out.1.below H2.out.2)
  have HE := Lib.hid H2.out.1
  have HB := Lib.hid (H1.out.2.trans (H2.out.2.mono H1.out.2.size))
  clear H1 H2
  generalize w1.heap.size + 1 = p2 at *
  generalize w1.heap.size = g2 at *
  obtain ⟨p, hp⟩ : ∃ p, p = w.heap.size + 1 := ⟨_, rfl⟩
  obtain ⟨g, hg⟩ : ∃ g, g = w.heap.size := ⟨_, rfl⟩
  have HD := Lib.hid (show DeskAt w2 p g 0 (fun _ => none) 0 by rw [hp, hg]; exact HD.out)
  have Hap := Lib.hid (show (w.heap.size ≤ p ∧ w.heap.size ≤ g ∧ w.heap.size ≤ p2 ∧ w.heap.size ≤ g2) ∧ p ≠ p2 ∧ p ≠ g2 ∧ g ≠ p2 ∧ g ≠ g2 by rw [hp, hg]; exact hap)
  rw [← hp]
  clear hap hp hg
  have hbad1 : badOpen 1 c = false := by simp [badOpen]; omega
  have hbad9 : badOpen 9 c = false := by simp [badOpen]; omega
  have Hod := Lib.hid (show ∀ y : World, DeskAt y p g 0 (fun _ => none) 0 → Calls Try.prog 11 #[.pointer (some ⟨p, 0, none⟩), .int .u64 1, .string ⟨#[118]⟩, .int .u8 (c : Int)] y fun e w' => e = .returned (.int .i64 0) ∧ DeskAt w' p g 1 (dk1 c 1 sv (some 0)) 1 ∧ ButTwo p g y w' from fun y h => dopen_ok p g 0 0 (fun _ => none) 1 sv c hbad1 (by decide) (by omega) (by decide) y h)
  have Hoe := Lib.hid (show ∀ y : World, DeskAt y p2 g2 0 (fun _ => none) 0 → Calls Try.prog 11 #[.pointer (some ⟨p2, 0, none⟩), .int .u64 9, .string ⟨#[118]⟩, .int .u8 (c : Int)] y fun e w' => e = .returned (.int .i64 0) ∧ DeskAt w' p2 g2 1 (dk1 c 9 sv (some 0)) 9 ∧ ButTwo p2 g2 y w' from fun y h => dopen_ok p2 g2 0 0 (fun _ => none) 9 sv c hbad9 (by decide) (by omega) (by decide) y h)
  clear hbad1 hbad9
  go_upto_region 12 with (first
    | ((with_reducible refine (Hod.out _ HD.out).mono ?_); rintro e w3 ⟨rfl, hd, hb⟩; have H3 := Lib.hid (And.intro hd hb); clear hd hb; have HE := Lib.hid (HE.out.stay (H3.out.2.block p2 HE.out.lt Hap.out.2.1.symm Hap.out.2.2.2.1.symm) (H3.out.2.block g2 HE.out.mp.lt Hap.out.2.2.1.symm Hap.out.2.2.2.2.symm)))
    | ((with_reducible refine (Hoe.out _ HE.out).mono ?_); rintro e w4 ⟨rfl, hd, hb⟩; have H4 := Lib.hid (And.intro hd hb); clear hd hb))
  have HI := Lib.hid (show OrdI w w4 p g p2 g2 c 1 1 (some 0) (some 0) from
    ⟨⟨1, Nat.le_refl _, H3.out.1.stay (H4.out.2.block p H3.out.1.lt Hap.out.2.1 Hap.out.2.2.1) (H4.out.2.block g H3.out.1.mp.lt Hap.out.2.2.2.1 Hap.out.2.2.2.2)⟩, ⟨1, Nat.le_refl _, H4.out.1⟩,
      H4.out.2.below (H3.out.2.below HB.out HB.out.size Hap.out.1.1 Hap.out.1.2.1) (Nat.le_trans HB.out.size H3.out.2.size) Hap.out.1.2.2.1 Hap.out.1.2.2.2, Hap.out⟩)
  clear H3 H4 Hod Hoe HD HE HB Hap
  have hln : natsOf z = natsOf z := rfl
  go_loopw [10, 12, 13] (fun s10 s12 s13 wr => ∃ (i : Nat) (o : Option Nat) (a : Nat), i ≤ ln ∧ s13 = .int .i64 (i : Int) ∧ s10 = .int .i64 (a : Int) ∧ s12 = .int .u8 (accOf ((natsOf z).take i) : Int) ∧ OrdI w wr p g p2 g2 c (1 + i) 1 o (some 0) ∧ VInv c (accOf ((natsOf z).take i)) o a) (fun _ _ s13 _ => ln - (intOf s13).toNat)
  case atStart => exact ⟨0, some 0, 0, Nat.zero_le _, rfl, rfl, rfl, HI.out, vinv_new c⟩
  case round =>
    obtain ⟨i, o, a, hi, rfl, rfl, rfl, hI, hv⟩ := hrel
    have HI := Lib.hid hI
    clear hI
    by_cases hil : i < ln
    · have hil' : (i : Int) < (ln : Int) := by omega
      obtain ⟨b, bo, rfl, hbl, hcell⟩ := u8s_cell HU.out hil
      have hn256 := (z.getD i default).isLt
      have htk := nats_take z i (by rw [HU.out.hlen]; exact hil)
      generalize hnd : (z.getD i default).toNat = nd at *
      have Hc := Lib.hid hcell
      have c0 := Hc.out _ HI.out.bel
      have Ho := Lib.hid (of_any nd hn256 wr.heap.size 0 1 (wr.alloc (.cells #[.int .u8 (nd : Int)] 5)) (cell_of_row _ _ _ _ _ _ (heap_alloc_new _ _)))
      have Hwi := Lib.hid (fun y : World => with_any (accOf ((natsOf z).take i)) (ofS nd) (by have := acc_lt ((natsOf z).take i); omega) (by have := of_lt nd; omega) y)
      have hba := (Below.refl wr.heap.size wr).alloc (Nat.le_refl _) (.cells #[.int .u8 (nd : Int)] 5)
      have Hba := Lib.hid hba
      clear hba hcell
      go_upto_region 15 with (first
        | ((with_reducible refine Ho.out.mono ?_); rintro e w' ⟨rfl, rfl⟩)
        | ((with_reducible refine (Hwi.out _).mono ?_); rintro e w' ⟨rfl, rfl⟩))
      generalize wr.alloc (.cells #[.int .u8 (nd : Int)] 5) = wb at *
      have HI := Lib.hid (HI.out.below Hba.out)
      have c1 := Hc.out _ HI.out.bel
      clear c0 Hba Ho Hwi
      obtain ⟨n, hn, hd⟩ := HI.out.d
      have hq1 := voted_step p g n 1 c 1 sv o nd (by omega) (fun who h => by have := (hv.open' who h).1; omega) hn256 (by omega) (by decide) wb hd
      have hv2 := vinv_step (v := nd) hc hv
      rw [← accOf_app] at *
      rw [← htk] at *
      unfold VotePost at hq1
      generalize vStep c o nd = r at hq1 hv2
      obtain ⟨o', bb⟩ := r
      simp only at hq1 hv2
      have ha1 : a ≤ 1 := by have := hv.says; split at this <;> omega
      clear hd
      cases bb
      · have Hq1 := Lib.hid (show Calls Try.prog 13 #[.pointer (some ⟨p, 0, none⟩), .int .u8 (nd : Int), .int .u64 1] wb fun e w' => ∃ S X, e = .returned (.tuple #[.agg (itCells S X).toArray, .bool false]) ∧ (∃ m, m ≤ n + 1 ∧ DeskAt w' p g m (dk1 c 1 sv o') 1) ∧ ButTwo p g wb w' from hq1)
        clear hq1
        go_upto_region 16 with (first
          | ((with_reducible refine Hq1.out.mono ?_); rintro e w5 ⟨S, X, rfl, ⟨m5, hm5, hd5⟩, hb5⟩; have HI := Lib.hid (HI.out.one (show m5 ≤ 1 + i + 1 by omega) hd5 hb5); clear hd5 hb5)
          | ((with_reducible refine wpList_store_mid rfl 34 _ _ rfl w5.heap.size 0 _ rfl rfl ?_ ?_ ?_ ?_); exact th_new w5 (itCells 0 ByteArray.empty) 34; exact it_size S X; exact all_oneCell_toArray (it_one S X)))
        change Code.wp _ _ _ _ ((w5.alloc (.cells (itCells 0 ByteArray.empty).toArray 34)).setCells w5.heap.size 0 (itCells S X))
        have hbx := box_below w5 (itCells 0 ByteArray.empty) (itCells S X) 34
        have HI := Lib.hid (HI.out.below hbx)
        clear hbx
        generalize (w5.alloc (.cells (itCells 0 ByteArray.empty).toArray 34)).setCells w5.heap.size 0 (itCells S X) = w6 at *
        go_wp2_with fail
        exact ⟨⟨i + 1, o', a + Bool.toNat false, hil, rfl, rfl, rfl, HI.out, hv2⟩, by simp only [intOf]; omega⟩
      · have Hq1 := Lib.hid (show Calls Try.prog 13 #[.pointer (some ⟨p, 0, none⟩), .int .u8 (nd : Int), .int .u64 1] wb fun e w' => ∃ S X, e = .returned (.tuple #[.agg (itCells S X).toArray, .bool true]) ∧ (∃ m, m ≤ n + 1 ∧ DeskAt w' p g m (dk1 c 1 sv o') 1) ∧ ButTwo p g wb w' from hq1)
        clear hq1
        go_upto_region 16 with (first
          | ((with_reducible refine Hq1.out.mono ?_); rintro e w5 ⟨S, X, rfl, ⟨m5, hm5, hd5⟩, hb5⟩; have HI := Lib.hid (HI.out.one (show m5 ≤ 1 + i + 1 by omega) hd5 hb5); clear hd5 hb5)
          | ((with_reducible refine wpList_store_mid rfl 34 _ _ rfl w5.heap.size 0 _ rfl rfl ?_ ?_ ?_ ?_); exact th_new w5 (itCells 0 ByteArray.empty) 34; exact it_size S X; exact all_oneCell_toArray (it_one S X)))
        change Code.wp _ _ _ _ ((w5.alloc (.cells (itCells 0 ByteArray.empty).toArray 34)).setCells w5.heap.size 0 (itCells S X))
        have hbx := box_below w5 (itCells 0 ByteArray.empty) (itCells S X) 34
        have HI := Lib.hid (HI.out.below hbx)
        clear hbx
        generalize (w5.alloc (.cells (itCells 0 ByteArray.empty).toArray 34)).setCells w5.heap.size 0 (itCells S X) = w6 at *
        go_wp2_with fail
        exact ⟨⟨i + 1, o', a + Bool.toNat true, hil, rfl, rfl, rfl, HI.out, hv2⟩, by simp only [intOf]; omega⟩
    · have hil' : ¬ (i : Int) < (ln : Int) := by omega
      obtain rfl : i = ln := by omega
      have hall : (natsOf z).take i = natsOf z := List.take_of_length_le (by rw [natsOf, List.length_map, HU.out.hlen]; exact Nat.le_refl _)
      rw [hall] at hv ⊢
      have ha1 : a ≤ 1 := by have := hv.says; split at this <;> omega
      clear hall hil
      go_upto_region 19 with fail
      go_loopw [11, 16] (fun s11 s16 wr => ∃ (j : Nat) (o2 : Option Nat) (b : Nat) (l : List Nat), j ≤ ln2 ∧ s16 = .int .i64 (j : Int) ∧ s11 = .int .i64 (b : Int) ∧ OrdI w wr p g p2 g2 c (1 + i) (1 + j) o o2 ∧ VInv c (accOf l) o2 b ∧ ∀ v, v ∈ l → v ∈ natsOf z) (fun _ s16 _ => ln2 - (intOf s16).toNat)
      case atStart => exact ⟨0, some 0, 0, [], Nat.zero_le _, rfl, rfl, HI.out, vinv_new c, by simp⟩
      case round =>
        clear HI
        rename_i wr0 _ _
        obtain ⟨j, o2, d, l, hj, rfl, rfl, hI, hv3, hin⟩ := hrel
        have HI := Lib.hid hI
        have hd1 : d ≤ 1 := by have := hv3.says; split at this <;> omega
        clear hI
        by_cases hjl : j < ln2 ∧ 0 < i
        · obtain ⟨hjl, hi0⟩ := hjl
          have hjl' : (j : Int) < (ln2 : Int) := by omega
          have hi0' : (0 : Int) < (i : Int) := by omega
          have hi0n : ¬ (i : Int) = 0 := by omega
          obtain ⟨b2, bo2, rfl, hbl2, hcell2⟩ := u8s_cell HV.out hjl
          have hk256 := (z2.getD j default).isLt
          generalize (z2.getD j default).toNat = k at *
          have hrem : (k : Int).tmod (i : Int) = ((k % i : Nat) : Int) := by rw [Int.tmod_eq_emod_of_nonneg (by omega)]; omega
          have hki : k % i < i := Nat.mod_lt _ hi0
          obtain ⟨b, bo, rfl, hbl, hcell⟩ := u8s_cell HU.out hki
          have hn256 := (z.getD (k % i) default).isLt
          have hmem := nats_mem (z := z) (i := k % i) (by rw [HU.out.hlen]; exact hki)
          generalize (z.getD (k % i) default).toNat = nd at *
          generalize k % i = x at *
          have hki' : (x : Int) < (i : Int) := by omega
          have c0 := hcell2 _ HI.out.bel
          have c1 := hcell _ HI.out.bel
          clear hcell hcell2
          obtain ⟨n, hn, hd⟩ := HI.out.e
          have hq1 := voted_step p2 g2 n 9 c 9 sv o2 nd (by omega) (fun who h => by have := (hv3.open' who h).1; omega) hn256 (by omega) (by decide) wr hd
          have hv2 := vinv_step (v := nd) hc hv3
          unfold VotePost at hq1
          generalize vStep c o2 nd = r at hq1 hv2
          obtain ⟨o', bb⟩ := r
          simp only at hq1 hv2
          clear hd
          cases bb
          · have Hq1 := Lib.hid (show Calls Try.prog 13 #[.pointer (some ⟨p2, 0, none⟩), .int .u8 (nd : Int), .int .u64 9] wr fun e w' => ∃ S X, e = .returned (.tuple #[.agg (itCells S X).toArray, .bool false]) ∧ (∃ m, m ≤ n + 1 ∧ DeskAt w' p2 g2 m (dk1 c 9 sv o') 9) ∧ ButTwo p2 g2 wr w' from hq1)
            clear hq1
            go_upto_region 22 with (first
              | ((with_reducible refine Hq1.out.mono ?_); rintro e w5 ⟨S, X, rfl, ⟨m5, hm5, hd5⟩, hb5⟩; have HI := Lib.hid (HI.out.two (show m5 ≤ 1 + j + 1 by omega) hd5 hb5); clear hd5 hb5)
              | ((with_reducible refine wpList_store_mid rfl 34 _ _ rfl w5.heap.size 0 _ rfl rfl ?_ ?_ ?_ ?_); exact th_new w5 (itCells 0 ByteArray.empty) 34; exact it_size S X; exact all_oneCell_toArray (it_one S X)))
            change Code.wp _ _ _ _ ((w5.alloc (.cells (itCells 0 ByteArray.empty).toArray 34)).setCells w5.heap.size 0 (itCells S X))
            have hbx := box_below w5 (itCells 0 ByteArray.empty) (itCells S X) 34
            have HI := Lib.hid (HI.out.below hbx)
            clear hbx
            generalize (w5.alloc (.cells (itCells 0 ByteArray.empty).toArray 34)).setCells w5.heap.size 0 (itCells S X) = w6 at *
            go_wp2_with fail
            exact ⟨⟨j + 1, o', d + Bool.toNat false, l ++ [nd], hjl, rfl, rfl, HI.out, hv2, fun v hv => by rcases List.mem_append.1 hv with h | h; exact hin v h; rw [List.mem_singleton.1 h]; exact hmem⟩, by simp only [intOf]; omega⟩
          · have Hq1 := Lib.hid (show Calls Try.prog 13 #[.pointer (some ⟨p2, 0, none⟩), .int .u8 (nd : Int), .int .u64 9] wr fun e w' => ∃ S X, e = .returned (.tuple #[.agg (itCells S X).toArray, .bool true]) ∧ (∃ m, m ≤ n + 1 ∧ DeskAt w' p2 g2 m (dk1 c 9 sv o') 9) ∧ ButTwo p2 g2 wr w' from hq1)
            clear hq1
            go_upto_region 22 with (first
              | ((with_reducible refine Hq1.out.mono ?_); rintro e w5 ⟨S, X, rfl, ⟨m5, hm5, hd5⟩, hb5⟩; have HI := Lib.hid (HI.out.two (show m5 ≤ 1 + j + 1 by omega) hd5 hb5); clear hd5 hb5)
              | ((with_reducible refine wpList_store_mid rfl 34 _ _ rfl w5.heap.size 0 _ rfl rfl ?_ ?_ ?_ ?_); exact th_new w5 (itCells 0 ByteArray.empty) 34; exact it_size S X; exact all_oneCell_toArray (it_one S X)))
            change Code.wp _ _ _ _ ((w5.alloc (.cells (itCells 0 ByteArray.empty).toArray 34)).setCells w5.heap.size 0 (itCells S X))
            have hbx := box_below w5 (itCells 0 ByteArray.empty) (itCells S X) 34
            have HI := Lib.hid (HI.out.below hbx)
            clear hbx
            generalize (w5.alloc (.cells (itCells 0 ByteArray.empty).toArray 34)).setCells w5.heap.size 0 (itCells S X) = w6 at *
            go_wp2_with fail
            exact ⟨⟨j + 1, o', d + Bool.toNat true, l ++ [nd], hjl, rfl, rfl, HI.out, hv2, fun v hv => by rcases List.mem_append.1 hv with h | h; exact hin v h; rw [List.mem_singleton.1 h]; exact hmem⟩, by simp only [intOf]; omega⟩
        · have hjn : ((j : Int) < (ln2 : Int) ∧ ¬ (0 : Int) < (i : Int)) ∨ ¬ (j : Int) < (ln2 : Int) := by omega
          rcases hjn with ⟨hj1, hj2⟩ | hj1
          · go_upto_region 25 with fail
            clear hj1 hj2
            go_loopw [11, 19] (fun s11 s19 wr => ∃ (e : Nat) (o2 : Option Nat) (b : Nat) (l : List Nat), e ≤ i ∧ s19 = .int .i64 ((e : Int) - 1) ∧ s11 = .int .i64 (b : Int) ∧ OrdI w wr p g p2 g2 c (1 + i) (1 + ln2 + (i - e)) o o2 ∧ VInv c (accOf l) o2 b ∧ (∀ v, v ∈ l → v ∈ natsOf z) ∧ ∀ x, e ≤ x → x < i → (z.getD x default).toNat ∈ l) (fun _ s19 _ => (intOf s19 + 1).toNat)
            case atStart =>
              obtain ⟨hid1, ⟨n, hn, hid2⟩, hid3, hid4⟩ := HI.out
              exact ⟨i, o2, d, l, Nat.le_refl _, rfl, rfl, ⟨hid1, ⟨n, by omega, hid2⟩, hid3, hid4⟩, hv3, hin, fun x h1 h2 => absurd h1 (by omega)⟩
            case round =>
              clear HI hin hv3 hd1 hj
              obtain ⟨e, o2, d, l, he, hs19, rfl, hI, hv3, hin, hall⟩ := hrel
              have HI := Lib.hid hI
              have hd1 : d ≤ 1 := by have := hv3.says; split at this <;> omega
              clear hI
              cases e with
              | succ x =>
                have hs19' : u19 = .int .i64 (x : Int) := by rw [hs19]; congr 1; omega
                subst hs19'
                clear hs19
                have hx0 : (0 : Int) ≤ (x : Int) := by omega
                have hxi : x < i := by omega
                have hxi' : (x : Int) < (i : Int) := by omega
                obtain ⟨b, bo, rfl, hbl, hcell⟩ := u8s_cell HU.out hxi
                have hn256 := (z.getD x default).isLt
                have hmem := nats_mem (z := z) (i := x) (by rw [HU.out.hlen]; exact hxi)
                have hall2 : ∀ y, x ≤ y → y < i → (z.getD y default).toNat ∈ l ++ [(z.getD x default).toNat] := fun y h1 h2 => by
                  by_cases hy : y = x
                  · subst hy; simp
                  · exact List.mem_append_left _ (hall y (by omega) h2)
                clear hall
                generalize (z.getD x default).toNat = nd at *
                have c0 := hcell _ HI.out.bel
                clear hcell
                obtain ⟨n, hn, hd⟩ := HI.out.e
                have hq1 := voted_step p2 g2 n 9 c 9 sv o2 nd (by omega) (fun who h => by have := (hv3.open' who h).1; omega) hn256 (by omega) (by decide) wr hd
                have hv2 := vinv_step (v := nd) hc hv3
                unfold VotePost at hq1
                generalize vStep c o2 nd = r at hq1 hv2
                obtain ⟨o', bb⟩ := r
                simp only at hq1 hv2
                clear hd
                cases bb
                · have Hq1 := Lib.hid (show Calls Try.prog 13 #[.pointer (some ⟨p2, 0, none⟩), .int .u8 (nd : Int), .int .u64 9] wr fun e w' => ∃ S X, e = .returned (.tuple #[.agg (itCells S X).toArray, .bool false]) ∧ (∃ m, m ≤ n + 1 ∧ DeskAt w' p2 g2 m (dk1 c 9 sv o') 9) ∧ ButTwo p2 g2 wr w' from hq1)
                  clear hq1
                  go_upto_region 28 with (first
                    | ((with_reducible refine Hq1.out.mono ?_); rintro e w5 ⟨S, X, rfl, ⟨m5, hm5, hd5⟩, hb5⟩; have HI := Lib.hid (HI.out.two (show m5 ≤ 1 + ln2 + (i - (x + 1)) + 1 by omega) hd5 hb5); clear hd5 hb5)
                    | ((with_reducible refine wpList_store_mid rfl 34 _ _ rfl w5.heap.size 0 _ rfl rfl ?_ ?_ ?_ ?_); exact th_new w5 (itCells 0 ByteArray.empty) 34; exact it_size S X; exact all_oneCell_toArray (it_one S X)))
                  change Code.wp _ _ _ _ ((w5.alloc (.cells (itCells 0 ByteArray.empty).toArray 34)).setCells w5.heap.size 0 (itCells S X))
                  have hbx := box_below w5 (itCells 0 ByteArray.empty) (itCells S X) 34
                  have HI := Lib.hid (HI.out.below hbx)
                  clear hbx
                  generalize (w5.alloc (.cells (itCells 0 ByteArray.empty).toArray 34)).setCells w5.heap.size 0 (itCells S X) = w6 at *
                  go_wp2_with fail
                  refine ⟨⟨x, o', d + Bool.toNat false, l ++ [nd], by omega, rfl, rfl, ?_, hv2, fun v hv => by rcases List.mem_append.1 hv with h | h; exact hin v h; rw [List.mem_singleton.1 h]; exact hmem, hall2⟩, by simp only [intOf]; omega⟩
                  rw [show 1 + ln2 + (i - x) = 1 + ln2 + (i - (x + 1)) + 1 by omega]
                  exact HI.out
                · have Hq1 := Lib.hid (show Calls Try.prog 13 #[.pointer (some ⟨p2, 0, none⟩), .int .u8 (nd : Int), .int .u64 9] wr fun e w' => ∃ S X, e = .returned (.tuple #[.agg (itCells S X).toArray, .bool true]) ∧ (∃ m, m ≤ n + 1 ∧ DeskAt w' p2 g2 m (dk1 c 9 sv o') 9) ∧ ButTwo p2 g2 wr w' from hq1)
                  clear hq1
                  go_upto_region 28 with (first
                    | ((with_reducible refine Hq1.out.mono ?_); rintro e w5 ⟨S, X, rfl, ⟨m5, hm5, hd5⟩, hb5⟩; have HI := Lib.hid (HI.out.two (show m5 ≤ 1 + ln2 + (i - (x + 1)) + 1 by omega) hd5 hb5); clear hd5 hb5)
                    | ((with_reducible refine wpList_store_mid rfl 34 _ _ rfl w5.heap.size 0 _ rfl rfl ?_ ?_ ?_ ?_); exact th_new w5 (itCells 0 ByteArray.empty) 34; exact it_size S X; exact all_oneCell_toArray (it_one S X)))
                  change Code.wp _ _ _ _ ((w5.alloc (.cells (itCells 0 ByteArray.empty).toArray 34)).setCells w5.heap.size 0 (itCells S X))
                  have hbx := box_below w5 (itCells 0 ByteArray.empty) (itCells S X) 34
                  have HI := Lib.hid (HI.out.below hbx)
                  clear hbx
                  generalize (w5.alloc (.cells (itCells 0 ByteArray.empty).toArray 34)).setCells w5.heap.size 0 (itCells S X) = w6 at *
                  go_wp2_with fail
                  refine ⟨⟨x, o', d + Bool.toNat true, l ++ [nd], by omega, rfl, rfl, ?_, hv2, fun v hv => by rcases List.mem_append.1 hv with h | h; exact hin v h; rw [List.mem_singleton.1 h]; exact hmem, hall2⟩, by simp only [intOf]; omega⟩
                  rw [show 1 + ln2 + (i - x) = 1 + ln2 + (i - (x + 1)) + 1 by omega]
                  exact HI.out
              | zero =>
                have hs19' : u19 = .int .i64 (-1) := by rw [hs19]; rfl
                subst hs19'
                clear hs19
                have hsame : majorS c (accOf l) = majorS c (accOf (natsOf z)) := by
                  rw [acc_same (l := l) (k := natsOf z) fun v => ⟨hin v, fun h => by
                    obtain ⟨u, hu, rfl⟩ := List.mem_map.1 h
                    obtain ⟨y, hy, rfl⟩ := List.getElem_of_mem hu
                    have q := hall y (Nat.zero_le _) (by rw [← HU.out.hlen]; exact hy)
                    rwa [List.getD, List.getElem?_eq_getElem hy, Option.getD_some] at q⟩]
                have hsa := hv.says
                have hsd := hv3.says
                rw [hsame] at hsd
                have Hm := Lib.hid (fun y : World => major_any c (accOf (natsOf z)) (by omega) (by have := acc_lt (natsOf z); omega) y)
                clear hsame hv hv3 hin hall
                generalize accOf (natsOf z) = acc at *
                generalize majorS c acc = mj at *
                cases mj
                · have ha0 : (a : Int) = 0 := by simp at hsa; omega
                  have hd0 : (d : Int) = 0 := by simp at hsd; omega
                  clear hsa hsd ha1 hd1
                  go_wp2_with (first
                    | ((with_reducible refine (Hm.out _).mono ?_); rintro e w' ⟨rfl, rfl⟩)
                    | ((with_reducible refine (Hk.out _).mono ?_); rintro e w' ⟨rfl, hb⟩; have HI := Lib.hid (HI.out.below hb); clear hb))
                  go_ret
                  exact ⟨rfl, HI.out.bel⟩
                · have ha0 : (a : Int) = 1 := by simp at hsa; omega
                  have hd0 : (d : Int) = 1 := by simp at hsd; omega
                  clear hsa hsd ha1 hd1
                  go_wp2_with (first
                    | ((with_reducible refine (Hm.out _).mono ?_); rintro e w' ⟨rfl, rfl⟩)
                    | ((with_reducible refine (Hk.out _).mono ?_); rintro e w' ⟨rfl, hb⟩; have HI := Lib.hid (HI.out.below hb); clear hb))
                  go_ret
                  exact ⟨rfl, HI.out.bel⟩
          · go_upto_region 25 with fail
            clear hj1 hjl
            go_loopw [11, 19] (fun s11 s19 wr => ∃ (e : Nat) (o2 : Option Nat) (b : Nat) (l : List Nat), e ≤ i ∧ s19 = .int .i64 ((e : Int) - 1) ∧ s11 = .int .i64 (b : Int) ∧ OrdI w wr p g p2 g2 c (1 + i) (1 + ln2 + (i - e)) o o2 ∧ VInv c (accOf l) o2 b ∧ (∀ v, v ∈ l → v ∈ natsOf z) ∧ ∀ x, e ≤ x → x < i → (z.getD x default).toNat ∈ l) (fun _ s19 _ => (intOf s19 + 1).toNat)
            case atStart =>
              obtain ⟨hid1, ⟨n, hn, hid2⟩, hid3, hid4⟩ := HI.out
              exact ⟨i, o2, d, l, Nat.le_refl _, rfl, rfl, ⟨hid1, ⟨n, by omega, hid2⟩, hid3, hid4⟩, hv3, hin, fun x h1 h2 => absurd h1 (by omega)⟩
            case round =>
              clear HI hin hv3 hd1 hj
              obtain ⟨e, o2, d, l, he, hs19, rfl, hI, hv3, hin, hall⟩ := hrel
              have HI := Lib.hid hI
              have hd1 : d ≤ 1 := by have := hv3.says; split at this <;> omega
              clear hI
              cases e with
              | succ x =>
                have hs19' : u19 = .int .i64 (x : Int) := by rw [hs19]; congr 1; omega
                subst hs19'
                clear hs19
                have hx0 : (0 : Int) ≤ (x : Int) := by omega
                have hxi : x < i := by omega
                have hxi' : (x : Int) < (i : Int) := by omega
                obtain ⟨b, bo, rfl, hbl, hcell⟩ := u8s_cell HU.out hxi
                have hn256 := (z.getD x default).isLt
                have hmem := nats_mem (z := z) (i := x) (by rw [HU.out.hlen]; exact hxi)
                have hall2 : ∀ y, x ≤ y → y < i → (z.getD y default).toNat ∈ l ++ [(z.getD x default).toNat] := fun y h1 h2 => by
                  by_cases hy : y = x
                  · subst hy; simp
                  · exact List.mem_append_left _ (hall y (by omega) h2)
                clear hall
                generalize (z.getD x default).toNat = nd at *
                have c0 := hcell _ HI.out.bel
                clear hcell
                obtain ⟨n, hn, hd⟩ := HI.out.e
                have hq1 := voted_step p2 g2 n 9 c 9 sv o2 nd (by omega) (fun who h => by have := (hv3.open' who h).1; omega) hn256 (by omega) (by decide) wr hd
                have hv2 := vinv_step (v := nd) hc hv3
                unfold VotePost at hq1
                generalize vStep c o2 nd = r at hq1 hv2
                obtain ⟨o', bb⟩ := r
                simp only at hq1 hv2
                clear hd
                cases bb
                · have Hq1 := Lib.hid (show Calls Try.prog 13 #[.pointer (some ⟨p2, 0, none⟩), .int .u8 (nd : Int), .int .u64 9] wr fun e w' => ∃ S X, e = .returned (.tuple #[.agg (itCells S X).toArray, .bool false]) ∧ (∃ m, m ≤ n + 1 ∧ DeskAt w' p2 g2 m (dk1 c 9 sv o') 9) ∧ ButTwo p2 g2 wr w' from hq1)
                  clear hq1
                  go_upto_region 28 with (first
                    | ((with_reducible refine Hq1.out.mono ?_); rintro e w5 ⟨S, X, rfl, ⟨m5, hm5, hd5⟩, hb5⟩; have HI := Lib.hid (HI.out.two (show m5 ≤ 1 + ln2 + (i - (x + 1)) + 1 by omega) hd5 hb5); clear hd5 hb5)
                    | ((with_reducible refine wpList_store_mid rfl 34 _ _ rfl w5.heap.size 0 _ rfl rfl ?_ ?_ ?_ ?_); exact th_new w5 (itCells 0 ByteArray.empty) 34; exact it_size S X; exact all_oneCell_toArray (it_one S X)))
                  change Code.wp _ _ _ _ ((w5.alloc (.cells (itCells 0 ByteArray.empty).toArray 34)).setCells w5.heap.size 0 (itCells S X))
                  have hbx := box_below w5 (itCells 0 ByteArray.empty) (itCells S X) 34
                  have HI := Lib.hid (HI.out.below hbx)
                  clear hbx
                  generalize (w5.alloc (.cells (itCells 0 ByteArray.empty).toArray 34)).setCells w5.heap.size 0 (itCells S X) = w6 at *
                  go_wp2_with fail
                  refine ⟨⟨x, o', d + Bool.toNat false, l ++ [nd], by omega, rfl, rfl, ?_, hv2, fun v hv => by rcases List.mem_append.1 hv with h | h; exact hin v h; rw [List.mem_singleton.1 h]; exact hmem, hall2⟩, by simp only [intOf]; omega⟩
                  rw [show 1 + ln2 + (i - x) = 1 + ln2 + (i - (x + 1)) + 1 by omega]
                  exact HI.out
                · have Hq1 := Lib.hid (show Calls Try.prog 13 #[.pointer (some ⟨p2, 0, none⟩), .int .u8 (nd : Int), .int .u64 9] wr fun e w' => ∃ S X, e = .returned (.tuple #[.agg (itCells S X).toArray, .bool true]) ∧ (∃ m, m ≤ n + 1 ∧ DeskAt w' p2 g2 m (dk1 c 9 sv o') 9) ∧ ButTwo p2 g2 wr w' from hq1)
                  clear hq1
                  go_upto_region 28 with (first
                    | ((with_reducible refine Hq1.out.mono ?_); rintro e w5 ⟨S, X, rfl, ⟨m5, hm5, hd5⟩, hb5⟩; have HI := Lib.hid (HI.out.two (show m5 ≤ 1 + ln2 + (i - (x + 1)) + 1 by omega) hd5 hb5); clear hd5 hb5)
                    | ((with_reducible refine wpList_store_mid rfl 34 _ _ rfl w5.heap.size 0 _ rfl rfl ?_ ?_ ?_ ?_); exact th_new w5 (itCells 0 ByteArray.empty) 34; exact it_size S X; exact all_oneCell_toArray (it_one S X)))
                  change Code.wp _ _ _ _ ((w5.alloc (.cells (itCells 0 ByteArray.empty).toArray 34)).setCells w5.heap.size 0 (itCells S X))
                  have hbx := box_below w5 (itCells 0 ByteArray.empty) (itCells S X) 34
                  have HI := Lib.hid (HI.out.below hbx)
                  clear hbx
                  generalize (w5.alloc (.cells (itCells 0 ByteArray.empty).toArray 34)).setCells w5.heap.size 0 (itCells S X) = w6 at *
                  go_wp2_with fail
                  refine ⟨⟨x, o', d + Bool.toNat true, l ++ [nd], by omega, rfl, rfl, ?_, hv2, fun v hv => by rcases List.mem_append.1 hv with h | h; exact hin v h; rw [List.mem_singleton.1 h]; exact hmem, hall2⟩, by simp only [intOf]; omega⟩
                  rw [show 1 + ln2 + (i - x) = 1 + ln2 + (i - (x + 1)) + 1 by omega]
                  exact HI.out
              | zero =>
                have hs19' : u19 = .int .i64 (-1) := by rw [hs19]; rfl
                subst hs19'
                clear hs19
                have hsame : majorS c (accOf l) = majorS c (accOf (natsOf z)) := by
                  rw [acc_same (l := l) (k := natsOf z) fun v => ⟨hin v, fun h => by
                    obtain ⟨u, hu, rfl⟩ := List.mem_map.1 h
                    obtain ⟨y, hy, rfl⟩ := List.getElem_of_mem hu
                    have q := hall y (Nat.zero_le _) (by rw [← HU.out.hlen]; exact hy)
                    rwa [List.getD, List.getElem?_eq_getElem hy, Option.getD_some] at q⟩]
                have hsa := hv.says
                have hsd := hv3.says
                rw [hsame] at hsd
                have Hm := Lib.hid (fun y : World => major_any c (accOf (natsOf z)) (by omega) (by have := acc_lt (natsOf z); omega) y)
                clear hsame hv hv3 hin hall
                generalize accOf (natsOf z) = acc at *
                generalize majorS c acc = mj at *
                cases mj
                · have ha0 : (a : Int) = 0 := by simp at hsa; omega
                  have hd0 : (d : Int) = 0 := by simp at hsd; omega
                  clear hsa hsd ha1 hd1
                  go_wp2_with (first
                    | ((with_reducible refine (Hm.out _).mono ?_); rintro e w' ⟨rfl, rfl⟩)
                    | ((with_reducible refine (Hk.out _).mono ?_); rintro e w' ⟨rfl, hb⟩; have HI := Lib.hid (HI.out.below hb); clear hb))
                  go_ret
                  exact ⟨rfl, HI.out.bel⟩
                · have ha0 : (a : Int) = 1 := by simp at hsa; omega
                  have hd0 : (d : Int) = 1 := by simp at hsd; omega
                  clear hsa hsd ha1 hd1
                  go_wp2_with (first
                    | ((with_reducible refine (Hm.out _).mono ?_); rintro e w' ⟨rfl, rfl⟩)
                    | ((with_reducible refine (Hk.out _).mono ?_); rintro e w' ⟨rfl, hb⟩; have HI := Lib.hid (HI.out.below hb); clear hb))
                  go_ret
                  exact ⟨rfl, HI.out.bel⟩
end Go.Proofs.Ytoleiiicbnmhpaa
namespace Go.Proofs.Ytoleiiicbnmhpaa
open Go.ChangeShapes Go.WideShapes Go.Deep Go.RowKit
theorem proposeOrder_row (n0 : Int) (a1 : Option Addr) (l1 cap1 : Nat) (z1 : List (BitVec 8)) (a2 : Option Addr) (l2 cap2 : Nat) (z2 : List (BitVec 8)) {w : World} (f0 : (Lit.int .u8 n0).wf = true) (h1 : U8sAt w a1 l1 z1) (h2 : U8sAt w a2 l2 z2) (_W : World) :
    Calls Try.prog 3 #[.int .u8 n0, .slice a1 l1 cap1, .slice a2 l2 cap2] w fun e w' => e = .returned (.bool true) ∧ Below w.heap.size w w' := by
  obtain ⟨x0, rfl⟩ := tr_u8 f0
  exact proposeOrder_any x0.toNat x0.isLt a1 l1 cap1 z1 a2 l2 cap2 z2 w h1 h2
theorem u8s_open {H : Type} {enc : TypeId × Value → H} {w : World} {base : Nat} {spare : Nat → Bool} {held : Bool} {a : Option Addr} {len cap : Nat} {d : DataW H} {pl : List MemPlace}
    (h : DataW.Trod enc Try.prog w base spare held 22 (.slice a len cap) d pl) : ∃ z : List (BitVec 8), U8sAt w a len z :=
  ones_open (fun x : BitVec 8 => Value.int .u8 (x.toNat : Int)) Try.underlying22 (by kernel_rfl) (fun v y n hv => by
    obtain ⟨m, q, _, f⟩ := DataW.trod_int Try.underlying5 hv
    obtain ⟨x, rfl⟩ := tr_u8 f
    simp only [List.cons.injEq, and_true] at q
    exact ⟨x, q⟩) h
end Go.Proofs.Ytoleiiicbnmhpaa
