/- Deltas: putClients. Condition: the tables may be told. -/
import Derived.Test.YtbckjgageofldaaGreatZLearnNil30
import Derived.Test.YtbckjgageofldaaGreatZLearnNil22
import Derived.Test.YtbckjgageofldaaGreatZLearnNil24
import Derived.Test.YtbckjgageofldaaGreatZLearnNil25
namespace Go.Proofs.YtbckjgageofldaaGreat
open Go.RowKit
def cliM (s t : TabV) : Nat → Nat
 | 0 => 0
 | n + 1 => cliM s t n + if lastE (t.at_ n) (s.at_ n) then 0 else 2 ^ n
def cliB (s t : TabV) : Nat → List UInt8
 | 0 => []
 | n + 1 => cliB s t n ++ if lastE (t.at_ n) (s.at_ n) then [] else lastB (t.at_ n)
def clientsB (s t : TabV) : List UInt8 := UInt8.ofNat (cliM s t 4) :: cliB s t 4
theorem cliM_lt (s t : TabV) : ∀ n, cliM s t n < 2 ^ n
 | 0 => by simp [cliM]
 | n + 1 => by
  have h := cliM_lt s t n
  unfold cliM
  rw [Nat.pow_succ]
  split <;> omega
theorem cliB_len (s : TabV) {t : TabV} (h : TabOk t) : ∀ n, (cliB s t n).length ≤ 4200 * n
 | 0 => by simp [cliB]
 | n + 1 => by
  have h1 := lastB_len (h.at_ n)
  have h2 := cliB_len s h n
  unfold cliB
  rw [List.length_append]
  split
  ·
   simp; omega
  ·
   omega
theorem OwnB.grown {w w' : World} {base : Nat} {t : TypeId} {v : Value} {l : List UInt8} {row : Option Nat} (h : OwnB w base t v l) (hg : w.grownBy w' row) (hr : ∀ k, row = some k → k < base) : OwnB w' base t v l := by
 unfold OwnB at *
 obtain ⟨h1, h2⟩ := h
 refine ⟨h1, ?_⟩
 rcases h2 with h2 | ⟨g, cap, cur, e, h3, hq, h4⟩
 ·
  exact .inl h2
 ·
  exact .inr ⟨g, cap, cur, e, h3, (hg.block g (Array.getElem?_eq_some_iff.1 hq).1 (fun e => by have := hr g e.symm; omega)).trans hq, h4⟩
theorem or_bit : ∀ i, i < 4 → ∀ m : Nat, m < 2 ^ i → bits BinOp.or IntKind.u8 (m : Int) (2 ^ i % 256) = ((m + 2 ^ i : Nat) : Int) := by decide +kernel
theorem last_exec (ρ : Operand → Value) (o : Oper) (a b : Operand) (h : o.op = .binOp .eql 29 a b 29) (x y : LastV) (ha : ρ a = .agg (lastCells x).toArray) (hb : ρ b = .agg (lastCells y).toArray) (w : World) :
  (execOp ρ o).run Tryz.prog w = .ok (.value (.bool (lastE x y))) w := by
 have hg : (eqGuard .eql 29 a b (.agg (lastCells x).toArray) (.agg (lastCells y).toArray)).run Tryz.prog w = .ok () w := by
  go_simp
 have h0 : (Op.equal 29 (.agg (lastCells x).toArray) (.agg (lastCells y).toArray)).run Tryz.prog w = .ok (lastE x y) w := last_eql2 x y 9997 w
 have he : (binOp .eql 29 (.agg (lastCells x).toArray) (.agg (lastCells y).toArray)).run Tryz.prog w = .ok (.bool (lastE x y)) w := by
  simp only [binOp]
  simp only [Sem.run_bind, h0, Result.andThen_ok, Sem.run_pure]
 simp only [execOp, h, ha, hb, Sem.run_bind, hg, he, Result.andThen_ok, Sem.run_pure]
set_option maxRecDepth 100000 in
set_option maxHeartbeats 16000000 in
theorem putClients_any (s t : TabV) (ht : TabOk t) (v : Value) (l : List UInt8) (base : Nat) (hl : l.length ≤ 1000000) (w : World) (hb : base ≤ w.heap.size) (h : OwnB w base 5 v l) :
  Calls Tryz.prog 138 #[v, .agg (tabCells s).toArray, .agg (tabCells t).toArray] w fun e w' => ∃ v', e = .returned v' ∧ OwnB w' base 5 v' (l ++ clientsB s t) ∧ Below base w w' := by
 obtain ⟨i0, hi0, hz0, hs0, hb0⟩ := info_parts info8
 obtain ⟨a, n, c, rfl⟩ := h.read.slice
 have hb1 := (Below.refl w.heap.size w).alloc (Nat.le_refl _) (.cells (tabCells s).toArray 31)
 have ht1 : TabAt (w.alloc (.cells (tabCells s).toArray 31)) w.heap.size s := heap_alloc_new _ _
 have hb2 := (Below.refl _ (w.alloc (.cells (tabCells s).toArray 31))).alloc (Nat.le_refl _) (.cells (tabCells t).toArray 31)
 have ht2 : TabAt ((w.alloc (.cells (tabCells s).toArray 31)).alloc (.cells (tabCells t).toArray 31)) (w.heap.size + 1) t := by
  have := heap_alloc_new (w.alloc (.cells (tabCells s).toArray 31)) (.cells (tabCells t).toArray 31)
  rw [World.size_alloc] at this
  exact this
 have hidx := fun (i : Nat) (hi : i < 4) (y : World) => tab_index t i hi y
 obtain ⟨V, hV⟩ : ∃ V : Value, .agg (tabCells t).toArray = V := ⟨_, rfl⟩
 rw [hV] at hidx
 have Hidx := Lib.hid hidx; clear hidx
 rw [tab_eta s, tab_eta t]
 rw [tab_eta] at hV
 have HV := Lib.hid hV; clear hV
 have h12 := hb1.trans (hb2.mono hb1.size)
 have ht1' := ht1.below' hb2
 have Ho := Lib.hid h; clear h
 clear hb1 hb2 ht1
 go_enter Tryz.func138, Tryz.ntmps138
 go_upto_region 1 with fail
 change Code.wp _ _ _ _ ((w.alloc (.cells (tabCells s).toArray 31)).alloc (.cells (tabCells t).toArray 31))
 generalize (w.alloc (.cells (tabCells s).toArray 31)).alloc (.cells (tabCells t).toArray 31) = w1 at *
 obtain ⟨⟨a0, a1, a2⟩, ⟨b0, b1, b2⟩, ⟨c0, c1, c2⟩, ⟨d0, d1, d2⟩⟩ := ht2.cells
 have hV := HV.out
 clear HV
 go_wp2_with fail
 clear a0 a1 a2 b0 b1 b2 c0 c1 c2 d0 d1 d2 ht2 hV
 have Hb1 := Lib.hid h12; clear h12
 have HS1 := Lib.hid ht1'; clear ht1'
 go_loopw [7, 8, 12] (fun s7 s8 s12 wr => ∃ (i : Nat), i ≤ 4 ∧ s12 = .int .i64 (i : Int) ∧ s7 = .int .u8 (cliM s t i : Int) ∧ OwnB wr w.heap.size 5 s8 (cliB s t i) ∧ TabAt wr w.heap.size s ∧ Below w.heap.size w wr) (fun _ _ s12 _ => 4 - (intOf s12).toNat)
 case atStart => exact ⟨0, by omega, rfl, rfl, OwnB.nil _ _ _, HS1.out, Hb1.out⟩
 case round =>
  clear HS1 Hb1
  obtain ⟨i, hi, rfl, rfl, hown, hS, hbel⟩ := hrel
  have hlen := cliB_len s ht i
  have Hbel := Lib.hid hbel; clear hbel
  have HS := Lib.hid hS; clear hS
  obtain ⟨xa, xn, xc, rfl⟩ := hown.read.slice
  have Hown := Lib.hid hown; clear hown
  by_cases hi4 : i < 4
  ·
   have hi4' : (i : Int) < 4 := by omega
   have hix := Hidx.out i hi4
   have hok := ht.at_ i
   have hbs : cliB s t (i + 1) = cliB s t i ++ if lastE (t.at_ i) (s.at_ i) then [] else lastB (t.at_ i) := rfl
   have hms : cliM s t (i + 1) = cliM s t i + if lastE (t.at_ i) (s.at_ i) then 0 else 2 ^ i := rfl
   have hml := cliM_lt s t i
   obtain ⟨x, hx⟩ : ∃ x, t.at_ i = x := ⟨_, rfl⟩
   rw [hx] at hix hok hbs hms
   clear hx
   obtain ⟨y0, hy0⟩ : ∃ y, s.at_ i = y := ⟨_, rfl⟩
   rw [hy0] at hbs hms
   have hcell := fun (y : World) (hy : TabAt y w.heap.size s) => tab_cell hy hi4
   rw [hy0] at hcell
   clear hy0
   have Hcell := Lib.hid hcell; clear hcell
   obtain ⟨m0, hm0⟩ : ∃ m, cliM s t i = m := ⟨_, rfl⟩
   rw [hm0] at hms hml ⊢
   clear hm0
   have hor := or_bit i hi4 m0 hml
   clear hml
   have Hbs := Lib.hid hbs; clear hbs
   have Hms := Lib.hid hms; clear hms
   have hcode := hok.code
   have htext := hok.text
   have Hok := Lib.hid hok; clear hok
   have hixA : ∀ y, (Instr.index 31 V (.int .i64 (i : Int))).run Tryz.prog y = .ok (.agg #[.int .u32 (x.seq.toNat : Int), .int .u8 (x.code : Int), .string x.text]) y := hix
   clear hix
   have hL := LastCells.new wr x
   have hba := (Below.refl wr.heap.size wr).alloc (Nat.le_refl _) (.cells (lastCells x).toArray 29)
   have hisu := tsucc (n := i) (by omega)
   go_upto_region 6 with fail
   change Code.wp _ _ _ _ (wr.alloc (.cells (lastCells x).toArray 29))
   have HLt := Lib.hid (show wr.heap.size < (wr.alloc (.cells (lastCells x).toArray 29)).heap.size by simp)
   generalize wr.alloc (.cells (lastCells x).toArray 29) = w2 at *
   have HL := Lib.hid hL; clear hL
   have Hba := Lib.hid hba; clear hba
   have HSa := Lib.hid (HS.out.below' Hba.out)
   have Hoa := Lib.hid (Hown.out.below Hba.out)
   have Hbb := Lib.hid (Hbel.out.trans (Hba.out.mono Hbel.out.size))
   have HLw := Lib.hid (show w.heap.size ≤ wr.heap.size from Hbel.out.size)
   clear hixA HS Hown Hbel Hba
   obtain ⟨eb, heb⟩ : ∃ b, lastE x y0 = b := ⟨_, rfl⟩
   rw [heb] at Hbs Hms
   have Heb := Lib.hid heb; clear heb
   refine (wpIn_wide (n := 1)).1 ?_
   refine RegJ.wpIn_region_plan (F := Fence.wide) (KeptW w2) (.step 0 0 (.step 1 0 (.step 2 0 (.step 3 0 (.step 4 0 .nil))))) (by kernel_rfl) (by kernel_rfl) (by kernel_rfl) (fun _ _ d _ _ h => by cases d <;> exact h) ⟨rfl, rfl, rfl, Nat.le_refl _, fun _ _ => rfl⟩ ?_
   dsimp only [RegJ.pickJ, List.getElem?_cons_zero, List.getElem?_cons_succ]
   change RegJ.Can _ _ _ _ _ _ _ _ w2.drew
   have hkd : KeptW w2 w2.drew := ⟨rfl, rfl, rfl, Nat.le_refl _, fun _ _ => rfl⟩
   generalize w2.drew = v1 at *
   refine RegJ.reads ?_
   intro K hK
   go_simp
   refine ⟨.agg (lastCells x).toArray, fun y hy => ?_, hK _ ?_⟩
   ·
    have hk := HL.out.same (g := wr.heap.size) (y' := y) ((KeptW.bel hy).block _ HLt.out)
    unfold lastCells
    obtain ⟨k0, k1, k2⟩ := hk
    go_simp
   clear hK K
   iterate 2 (refine RegJ.reads ?_; intro K hK; go_simp; (first | refine ⟨_, fun _ _ => rfl, hK _ ?_⟩ | refine hK _ ?_); clear hK K)
   refine RegJ.reads ?_
   intro K hK
   go_simp
   refine ⟨.agg (lastCells y0).toArray, fun y hy => ?_, hK _ ?_⟩
   ·
    obtain ⟨k0, k1, k2⟩ := Hcell.out y (HSa.out.below' (KeptW.bel hy))
    unfold lastCells
    go_simp
   clear hK K
   refine RegJ.reads ?_
   intro K hK
   rw [if_pos (by simp [Region.wanted])]
   refine ⟨.bool eb, fun y hy => ?_, hK _ ?_⟩
   ·
    rw [← Heb.out]
    exact last_exec _ _ _ _ rfl x y0 rfl rfl y
   clear hK K
   go_simp
   refine RegJ.nil ?_
   have hk1 : Below w2.heap.size w2 v1 := KeptW.bel hkd
   have hL2 := HL.out.same (hk1.block _ HLt.out)
   have HS2 := Lib.hid (HSa.out.below' hk1)
   have Ho2 := Lib.hid (Hoa.out.below hk1)
   have Hb2 := Lib.hid (Hbb.out.trans (hk1.mono Hbb.out.size))
   have Hlv := Lib.hid (Nat.lt_of_lt_of_le HLt.out hk1.size)
   clear HSa Hoa Hbb hk1 hkd Heb HL HLt Hcell
   generalize v1 = w2 at *
   have HL := Lib.hid hL2
   have HLt := Lib.hid (show wr.heap.size < w2.heap.size from Hlv.out); clear Hlv
   cases eb with
   | true =>
    clear hL2
    have hbs := Hbs.out
    rw [if_pos rfl, List.append_nil] at hbs
    have hms := Hms.out
    rw [if_pos rfl] at hms
    have Hbs' := Lib.hid hbs; clear hbs Hbs
    have Hms' := Lib.hid hms; clear hms Hms
    go_wp2_with fail
    go_roundw
    case rel => exact ⟨i + 1, by omega, rfl, by rw [Hms'.out]; rfl, by rw [Hbs'.out]; exact Ho2.out, HS2.out, Hb2.out⟩
    case measure => simp [intOf]; omega
   | false =>
    have hbs := Hbs.out
    rw [if_neg (by decide)] at hbs
    have hms := Hms.out
    rw [if_neg (by decide)] at hms
    have Hsucc := Lib.hid hbs; clear hbs Hbs
    have Hms' := Lib.hid hms; clear hms Hms
    obtain ⟨l0, l1, l2⟩ := hL2
    have hsq : (x.seq.toNat : Int) < 4294967296 := by have := x.seq.isLt; omega
    have hnum := num_any _ (cliB s t i) x.seq.toNat (by have := x.seq.isLt; omega) (by omega) w2 Ho2.out.read
    have Hnum := Lib.hid hnum; clear hnum
    go_upto_region 9 with ((with_reducible refine Hnum.out.mono ?_); rintro e w3 ⟨v3, rfl, ho3, hb3⟩; have Ho3 := Lib.hid ho3; clear ho3; have Hb3 := Lib.hid hb3; clear hb3)
    clear l0 l1 l2
    have HL3 := Lib.hid (HL.out.same (Hb3.out.block _ HLt.out))
    have Hb03 := Lib.hid (Hb2.out.trans (Hb3.out.mono Hb2.out.size))
    have HS3 := Lib.hid (HS2.out.below' Hb3.out)
    obtain ⟨l0, l1, l2⟩ := HL3.out
    generalize hn : x.seq.toNat = n at l0 hsq Ho3 ⊢
    have Hn := Lib.hid hn; clear hn
    by_cases hz : n = 0
    ·
     have hz' : (n : Int) = 0 := by omega
     have hlast : lastB x = numL n := by unfold lastB; rw [Hn.out, if_pos hz, List.append_nil]
     have Hlast := Lib.hid hlast; clear hlast
     go_wp2_with fail
     go_roundw
     case rel =>
      have hown : OwnB w3 w.heap.size 5 v3 (cliB s t (i + 1)) := by
       rw [Hsucc.out, Hlast.out]
       exact Ho3.out.mono (by have := HLt.out; have := HLw.out; omega)
      exact ⟨i + 1, by omega, rfl, by rw [Hms'.out, Int.natCast_add, Int.natCast_pow]; rfl, hown, HS3.out, Hb03.out⟩
     case measure => simp [intOf]; omega
    ·
     have hz' : ((n : Int) != 0) = true := by rw [bne_iff_ne]; omega
     have hlast : lastB x = numL n ++ ([UInt8.ofNat x.code] ++ strL x.text) := by unfold lastB; rw [Hn.out, if_neg hz]; rfl
     have Hnl := Lib.hid (numL_len n).1
     have hcode8 : ((UInt8.ofNat x.code).toNat : Int) = (x.code : Int) := by simp; omega
     have Hcode8 := Lib.hid hcode8; clear hcode8
     have Hlast := Lib.hid hlast; clear hlast
     have Hz := Lib.hid hz; clear hz
     go_upto_region 10 with fail
     clear l0 l1 l2
     obtain ⟨q, hq⟩ : ∃ q, cliB s t i ++ numL n = q := ⟨_, rfl⟩
     have hql : q.length ≤ 1099510000000 := by have hnl := Hnl.out; rw [← hq, List.length_append]; omega
     rw [hq] at Ho3
     have Hq := Lib.hid hq; clear hq
     have hnew := LastCells.new w3.drew x
     clear hnew
     refine (wpIn_wide (n := 1)).1 ?_
     refine RegK.wpIn_region_can (F := Fence.wide) (LastCells wr.heap.size x) [(0, 0), (1, 0), (2, 0), (3, 0), (6, 0), (7, 0), (8, 0), (4, 1), (5, 1), (9, 1), (10, 0)] (by kernel_rfl) (by kernel_rfl) (by kernel_rfl) (fun _ _ d _ _ h => by cases d <;> exact h) HL3.out ?_
     dsimp only [RegK.pick, List.getElem?_cons_zero, List.getElem?_cons_succ]
     change RegK.Can _ _ _ _ _ _ _ _ w3.drew
     have Hd := Lib.hid (show LastCells wr.heap.size x w3.drew from HL3.out)
     have HSd := Lib.hid (show TabAt w3.drew w.heap.size s from HS3.out)
     have Hod := Lib.hid (show OwnB w3.drew w2.heap.size 5 v3 q from Ho3.out)
     have Hbd := Lib.hid (show Below w.heap.size w w3.drew from ⟨Hb03.out.os, Hb03.out.tape, Hb03.out.output, Hb03.out.size, Hb03.out.block⟩)
     have Hld := Lib.hid (show w2.heap.size ≤ w3.drew.heap.size from Hb3.out.size)
     generalize w3.drew = w4 at *
     clear Ho3 HL3 Hb03 Hb3
     iterate 3 (refine RegK.can_reads ?_; intro K hK; go_simp; (first | (refine ⟨_, fun _ _ => rfl, hK _ ?_⟩) | (refine hK _ ?_)); clear hK K)
     refine RegK.can_reads ?_
     intro K hK
     go_simp
     refine ⟨.int .u8 (x.code : Int), fun y hy => ?_, hK _ ?_⟩
     ·
      have f0 := hy.2.1
      go_simp
     clear hK K
     iterate 2 (refine RegK.can_reads ?_; intro K hK; go_simp; (first | (refine ⟨_, fun _ _ => rfl, hK _ ?_⟩) | (refine hK _ ?_)); clear hK K)
     refine RegK.can_reads ?_
     intro K hK
     go_simp
     refine ⟨.string x.text, fun y hy => ?_, hK _ ?_⟩
     ·
      have f0 := hy.2.2
      go_simp
     clear hK K
     -- the slice of one byte
     refine RegK.can_turns (fun _ => trivial) ?_
     intro K K0 hK hK0
     go_simp
     have hb5 := (Below.refl w4.heap.size w4).alloc (Nat.le_refl _) (.cells #[.int .u8 (x.code : Int)] 5)
     have hne : wr.heap.size < w4.heap.size := by have := Hld.out; have := HLt.out; omega
     have hL5 : LastCells wr.heap.size x (w4.alloc (.cells #[.int .u8 (x.code : Int)] 5)) := Hd.out.same (hb5.block _ hne)
     have hone : ReadB (w4.alloc (.cells #[.int .u8 (x.code : Int)] 5)) (.slice (some ⟨w4.heap.size, 0, none⟩) 1 1) [UInt8.ofNat x.code] := by
      have h := ReadB.one w4 (UInt8.ofNat x.code) 5
      rwa [Hcode8.out] at h
     have ho5 := Hod.out.below hb5
     have hS5 := HSd.out.below' hb5
     refine hK _ _ hL5 ?_
     clear hK K hK0 K0
     have Hb5 := Lib.hid (Hbd.out.trans (hb5.mono (by have := Hld.out; have := HLt.out; have := HLw.out; omega)))
     have Hone := Lib.hid hone; clear hone
     have HS5 := Lib.hid hS5; clear hS5 HSd
     have Ho5 := Lib.hid ho5; clear ho5
     have HL5 := Lib.hid hL5; clear hL5
     have Hl5 := Lib.hid (show w2.heap.size ≤ (w4.alloc (.cells #[.int .u8 (x.code : Int)] 5)).heap.size by simp; have := Hld.out; omega)
     generalize hw5 : w4.alloc (.cells #[.int .u8 (x.code : Int)] 5) = w5 at *
     generalize w4.heap.size = g5 at *
     clear hb5 hw5 Hd Hod Hbd Hld hne
     -- append
     refine RegK.can_turns (fun _ => trivial) ?_
     intro K K0 hK hK0
     rw [if_pos (by simp [Region.wanted])]
     refine RegK.op_wide rfl ?_
     refine wp_append_read _ _ 44 rfl w2.heap.size 5 i0 (.int .u8 0) Tryz.underlying44 hi0 hz0 hs0 hb0 rfl _ _ _ rfl Ho5.out _ _ rfl Hone.out (by show q.length + 1 ≤ _; omega) Hl5.out ?_
     intro v6 w6 ho6 hg6
     have hv3 : ∀ k, v3.ownBlock = some k → w2.heap.size ≤ k := fun k hk => (World.ownsRow.lt Ho5.out k hk).1
     have hL6 : LastCells wr.heap.size x w6 := HL5.out.same (hg6.block _ (Nat.lt_of_lt_of_le HLt.out Hl5.out) (fun e => by have := hv3 _ e.symm; have := HLt.out; omega))
     refine hK _ _ hL6 ?_
     clear hK K hK0 K0
     have Ho6 := Lib.hid (OwnB.of (l := q) (k := [UInt8.ofNat x.code]) ho6 rfl rfl); clear ho6
     have Hb6 := Lib.hid (below_grown hg6 Hb5.out (by have := Hl5.out; have := HLt.out; have := HLw.out; omega) (fun k hk => by have := hv3 k hk; have := HLt.out; have := HLw.out; omega))
     have Hl6 := Lib.hid (Nat.le_trans Hl5.out hg6.size)
     have HL6 := Lib.hid hL6
     have HS6 := Lib.hid (show TabAt w6 w.heap.size s from (hg6.block _ HS5.out.lt (fun e => by have h1 := hv3 _ e.symm; have h2 := HLt.out; have h3 := HLw.out; omega)).trans HS5.out)
     clear hg6 hv3 HL5 Hb5 Ho5 Hone Hl5 hL6
     -- the text
     refine RegK.can_turns (fun _ => trivial) ?_
     intro K K0 hK hK0
     go_simp
     refine ⟨trivial, ?_⟩
     refine (callsIn_wide.2 (str_any v6 _ x.text (by rw [List.length_append]; show q.length + 1 + x.text.size ≤ _; omega) w6 Ho6.out.read)).mono ?_
     rintro e w7 ⟨v7, rfl, ho7, hb7⟩
     refine hK _ _ (HL6.out.same (hb7.block _ (Nat.lt_of_lt_of_le HLt.out Hl6.out))) ?_
     clear hK K hK0 K0
     have Ho7 := Lib.hid ho7; clear ho7
     have HS7 := Lib.hid (HS6.out.below' hb7)
     have Hb7 := Lib.hid (Hb6.out.trans (hb7.mono (by have := Hl6.out; have := HLt.out; have := HLw.out; omega)))
     refine RegK.can_reads ?_
     intro K hK
     go_simp
     refine ⟨_, fun _ _ => rfl, hK _ ?_⟩
     clear hK K
     refine RegK.can_nil ?_
     go_wp2_with fail
     have hown : OwnB w7 w.heap.size 5 v7 (cliB s t (i + 1)) := by
      have e : cliB s t (i + 1) = q ++ [UInt8.ofNat x.code] ++ strL x.text := by
       rw [Hsucc.out, Hlast.out, ← Hq.out]
       simp [List.append_assoc]
      rw [e]
      exact Ho7.out.mono (by have := Hl6.out; have := HLt.out; have := HLw.out; omega)
     refine ⟨⟨i + 1, by omega, rfl, by rw [Hms'.out, Int.natCast_add, Int.natCast_pow]; rfl, hown, HS7.out, Hb7.out⟩, ?_⟩
     simp [intOf]; omega
  ·
   have hi4' : ¬ (i : Int) < 4 := by omega
   obtain rfl : i = 4 := by omega
   have hml := cliM_lt s t 4
   obtain ⟨m0, hm0⟩ : ∃ m, cliM s t 4 = m := ⟨_, rfl⟩
   have hres : clientsB s t = [UInt8.ofNat m0] ++ cliB s t 4 := by rw [← hm0]; rfl
   rw [hm0] at hml ⊢
   clear hm0
   have Hres := Lib.hid hres; clear hres hi4 hi
   have hbl : ∀ k, (Value.slice a n c).ownBlock = some k → base ≤ k ∧ k < w.heap.size := fun k hk => World.ownsRow.lt Ho.out k hk
   have Hbl := Lib.hid hbl; clear hbl
   have Ho4 := Lib.hid (Ho.out.below Hbel.out); clear Ho
   have hm8 : ((UInt8.ofNat m0).toNat : Int) = (m0 : Int) := by simp; omega
   have Hone := Lib.hid (show ReadB (wr.alloc (.cells #[.int .u8 (m0 : Int)] 5)) (.slice (some ⟨wr.heap.size, 0, none⟩) 1 1) [UInt8.ofNat m0] by
    have h := ReadB.one wr (UInt8.ofNat m0) 5
    rwa [hm8] at h)
   clear hm8 hml
   have Hle := Lib.hid (show base ≤ wr.heap.size from Nat.le_trans hb Hbel.out.size)
   have Hlen := Lib.hid hlen; clear hlen
   have Hba := Lib.hid (Hbel.out.alloc (Hbel.out.size) (.cells #[.int .u8 (m0 : Int)] 5))
   have Hrl := Lib.hid (Hown.out.alloc (.cells #[.int .u8 (m0 : Int)] 5))
   clear Hown
   go_wp2_with (at_builtin; first
    | (refine wpList_append_read rfl _ _ 44 rfl base 5 i0 (.int .u8 0) Tryz.underlying44 hi0 hz0 hs0 hb0 rfl _ _ _ rfl (World.ownsRow.alloc Ho4.out _) _ [UInt8.ofNat m0] rfl Hone.out (by show l.length + 1 ≤ _; omega) (by have := Hle.out; simp; omega) ?_; intro v5 w5 ho5 hg5; have Ho5 := Lib.hid (OwnB.of ho5 rfl rfl); clear ho5; have Hg5 := Lib.hid hg5; clear hg5 Hone)
    | (refine wpList_append_read rfl _ _ 44 rfl base 5 i0 (.int .u8 0) Tryz.underlying44 hi0 hz0 hs0 hb0 rfl _ _ _ rfl Ho5.out _ (cliB s t 4) rfl (Hrl.out.grown Hg5.out (fun k hk => (Hbl.out k hk).2)).read (by have := Hlen.out; rw [List.length_append]; show l.length + 1 + _ ≤ _; omega) (by have h1 := Hle.out; have h2 := Hg5.out.size; simp at h2; omega) ?_; intro v6 w6 ho6 hg6; have Ho6 := Lib.hid ho6; clear ho6; have Hg6 := Lib.hid hg6; clear hg6))
   go_ret
   refine ⟨_, rfl, ?_, ?_⟩
   ·
    rw [Hres.out, ← List.append_assoc]
    exact OwnB.of Ho6.out rfl rfl
   ·
    have h5 := below_grown Hg5.out (Hba.out.mono hb) (by have := Hle.out; simp; omega) (fun k hk => (Hbl.out k hk).1)
    exact below_grown Hg6.out h5 (by have h1 := Hle.out; have h2 := Hg5.out.size; simp at h2; omega) Ho5.out.block
end Go.Proofs.YtbckjgageofldaaGreat
