/- Machines: Table. No condition. -/
import Derived.Test.YtkngadbeflepoaaMMachinePlays21
import Derived.ChangeKeysEq
import Derived.Test.YtkngadbeflepoaaMMachinePlays25
import Derived.Test.YtkngadbeflepoaaMMachinePlays7
import Derived.Deep.DeepCutAuto
namespace Go.Proofs.Ytkngadbeflepoaa
open Go.RowKit

set_option maxRecDepth 100000 in
set_option maxHeartbeats 4000000 in
theorem mtable_any (M : MacV) (P : Option Addr) (w : World) : Calls Try.prog 45 #[macV M P] w fun e w' => e = .returned (.agg (tabCells M.tab).toArray) ∧ Below w.heap.size w w' := by
  have hb1 := (Below.refl w.heap.size w).alloc (Nat.le_refl _) (.cells (macCells M P).toArray 69)
  have hm0 : MacAt (w.alloc (.cells (macCells M P).toArray 69)) w.heap.size M P := heap_alloc_new _ _
  have hs1 : (w.alloc (.cells (macCells M P).toArray 69)).heap.size = w.heap.size + 1 := by simp
  have hm1 := hm0.below ((Below.refl _ _).alloc (Nat.le_refl _) (.cells (tabCells tabNone).toArray 65))
  have hb2 := hb1.alloc hb1.size (.cells (tabCells tabNone).toArray 65)
  have hZ : TabAt ((w.alloc (.cells (macCells M P).toArray 69)).alloc (.cells (tabCells tabNone).toArray 65)) (w.heap.size + 1) tabNone := by rw [← hs1]; exact heap_alloc_new _ _
  clear hb1 hm0 hs1
  unfold macV
  go_enter Try.func45, Try.ntmps45
  go_upto_region 1 with fail
  change Code.wp _ _ _ _ ((w.alloc (.cells (macCells M P).toArray 69)).alloc (.cells (tabCells tabNone).toArray 65))
  generalize (w.alloc (.cells (macCells M P).toArray 69)).alloc (.cells (tabCells tabNone).toArray 65) = w1 at *
  obtain ⟨⟨m0, m1, m14⟩, ⟨m2, m3, m4⟩, ⟨m5, m6, m7⟩, ⟨m8, m9, m10⟩, ⟨m11, m12, m13⟩⟩ := hm1.cells
  obtain ⟨⟨z0, z1, z2⟩, ⟨z3, z4, z5⟩, ⟨z6, z7, z8⟩, ⟨z9, z10, z11⟩⟩ := hZ.cells
  have g0 := hZ.thawed 0
  have g1 := hZ.thawed 1
  have g2 := hZ.thawed 2
  have g3 := hZ.thawed 3
  have g4 := hZ.thawed 4
  have g5 := hZ.thawed 5
  have g6 := hZ.thawed 6
  have g7 := hZ.thawed 7
  have g8 := hZ.thawed 8
  have g9 := hZ.thawed 9
  have g10 := hZ.thawed 10
  have g11 := hZ.thawed 11
  have HT5 := Lib.hid (tabSt_at hZ M.tab)
  have Hb5 := Lib.hid (rowSt_below (g := w.heap.size + 1) (by omega) (tabCells M.tab) 0 _ hb2)
  clear hm1 hZ hb2
  go_wp2_with fail
  change bodyPost _ _ _ _ _ (rowSt w1 (w.heap.size + 1) 0 (tabCells M.tab))
  clear m0 m1 m2 m3 m4 m5 m6 m7 m8 m9 m10 m11 m12 m13 m14 z0 z1 z2 z3 z4 z5 z6 z7 z8 z9 z10 z11 g0 g1 g2 g3 g4 g5 g6 g7 g8 g9 g10 g11
  generalize rowSt w1 (w.heap.size + 1) 0 (tabCells M.tab) = w5 at *
  obtain ⟨⟨a0, a1, a2⟩, ⟨b0, b1, b2⟩, ⟨c0, c1, c2⟩, ⟨d0, d1, d2⟩⟩ := HT5.out.cells
  refine bodyPost_ret (v := .agg (tabCells M.tab).toArray) (by rw [tab_eta]; simp [results, Try.results45, go_sem, a0, a1, a2, b0, b1, b2, c0, c1, c2, d0, d1, d2] <;> rfl) rfl ?_
  exact ⟨rfl, Hb5.out⟩
end Go.Proofs.Ytkngadbeflepoaa
/- Tables of sessions: one is itself. No condition. -/
namespace Go.Proofs.Ytkngadbeflepoaa
open Go.RowKit
theorem infoLast : (Try.prog.info? 63).map (fun i => i.size) = some 3 := by kernel_rfl
theorem last_eql (l : LastV) (d : Nat) (w : World) : (Op.equalIn (d + 3) 63 (.agg (lastCells l).toArray) (.agg (lastCells l).toArray)).run Try.prog w = .ok true w := by
  unfold lastCells
  go_simp
theorem tab_eql (t : TabV) (w : World) : (Op.equalIn 10000 65 (.agg (tabCells t).toArray) (.agg (tabCells t).toArray)).run Try.prog w = .ok true w := by
  obtain ⟨i, hi, hz⟩ : ∃ i, Try.prog.info? 63 = some i ∧ i.size = 3 := by
    have h := infoLast
    cases hc : Try.prog.info? 63 with
    | none => rw [hc] at h; cases h
    | some i => rw [hc] at h; exact ⟨i, rfl, by simpa using h⟩
  rw [run_equalIn_array w 9999 _ _ Try.underlying65 hi]
  rw [show Try.prog.cellsOf 63 = 3 by kernel_rfl, show List.range 4 = [0, 1, 2, 3] from rfl]
  have fa := last_eql t.a 9996 w
  have fb := last_eql t.b 9996 w
  have fc := last_eql t.c 9996 w
  have fd := last_eql t.d 9996 w
  have pt : ∀ (j : Nat) (l : LastV), List.take 3 (List.drop (j * 3) (tabCells t)) = lastCells l → (part 63 (tabCells t).toArray (j * 3)).run Try.prog w = .ok (.agg (lastCells l).toArray) w := fun j l h => by
    simp [part, Sem.run_bind, typeInfo, sizeOf, hi, hz, h]
  have p0 := pt 0 t.a rfl
  have p1 := pt 1 t.b rfl
  have p2 := pt 2 t.c rfl
  have p3 := pt 3 t.d rfl
  simp only [Op.eqItems, Sem.run_bind, p0, fa, Result.andThen_ok]
  simp [Sem.run_bind, p1, p2, p3, fb, fc, fd, Sem.run_pure]
end Go.Proofs.Ytkngadbeflepoaa
/- Sessions: Put: a table's bytes. Condition: codes are bytes, texts are short. -/
namespace Go.Proofs.Ytkngadbeflepoaa
open Go.RowKit

/-- The bytes of a client's last command. -/
def lastB (x : LastV) : List UInt8 := numL x.seq.toNat ++ (if x.seq.toNat = 0 then [] else UInt8.ofNat x.code :: strL x.text)
def tabB (t : TabV) : Nat → List UInt8
  | 0 => []
  | n + 1 => tabB t n ++ lastB (t.at_ n)
structure LastOk (x : LastV) : Prop where
  code : x.code < 256
  text : x.text.size ≤ 4096
structure TabOk (t : TabV) : Prop where
  a : LastOk t.a
  b : LastOk t.b
  c : LastOk t.c
  d : LastOk t.d
theorem TabOk.at_ {t : TabV} (h : TabOk t) (n : Nat) : LastOk (t.at_ n) := by
  unfold TabV.at_
  repeat' split
  · exact h.a
  · exact h.b
  · exact h.c
  · exact h.d
theorem lastB_len {x : LastV} (h : LastOk x) : (lastB x).length ≤ 4200 := by
  have h1 := (numL_len x.seq.toNat).1
  have h2 := strL_len x.text
  have h3 := h.text
  unfold lastB
  rw [List.length_append]
  split
  · simp; omega
  · simp; omega
theorem tabB_len {t : TabV} (h : TabOk t) : ∀ n, (tabB t n).length ≤ 4200 * n
  | 0 => by simp [tabB]
  | n + 1 => by
    have := lastB_len (h.at_ n)
    have := tabB_len h n
    rw [tabB, List.length_append]
    omega
/-- The index of a table that is a value. -/
theorem tab_index (t : TabV) (i : Nat) (hi : i < 4) (w : World) : (Instr.index 65 (.agg (tabCells t).toArray) (.int .i64 (i : Int))).run Try.prog w = .ok (.agg (lastCells (t.at_ i)).toArray) w := by
  obtain ⟨i0, h0, hz⟩ : ∃ i, Try.prog.info? 63 = some i ∧ i.size = 3 := by
    have h := infoLast
    cases hc : Try.prog.info? 63 with
    | none => rw [hc] at h; cases h
    | some i => rw [hc] at h; exact ⟨i, rfl, by simpa using h⟩
  have hp : (part 63 (tabCells t).toArray (i * 3)).run Try.prog w = .ok (.agg (lastCells (t.at_ i)).toArray) w := by
    have e : List.take 3 (List.drop (i * 3) (tabCells t)) = lastCells (t.at_ i) := by
      have h : i = 0 ∨ i = 1 ∨ i = 2 ∨ i = 3 := by omega
      rcases h with rfl | rfl | rfl | rfl <;> rfl
    simp [part, Sem.run_bind, typeInfo, sizeOf, h0, hz, e]
  have hi' : (i : Int) < 4 := by omega
  unfold Instr.index
  simp [asIntOf, Sem.run_bind, run_underlying Try.underlying65, sizeOf, typeInfo, h0, hz, hp]
  exact fun h => absurd h (by omega)
/-- A client's last command lies there. -/
def LastCells (g : Nat) (x : LastV) (y : World) : Prop :=
  y.cell? ⟨g, 0, none⟩ = some (.int .u32 (x.seq.toNat : Int)) ∧ y.cell? ⟨g, 1, none⟩ = some (.int .u8 (x.code : Int)) ∧ y.cell? ⟨g, 2, none⟩ = some (.string x.text)
theorem LastCells.new (w : World) (x : LastV) : LastCells w.heap.size x (w.alloc (.cells (lastCells x).toArray 63)) := by
  have h := heap_alloc_new w (.cells (lastCells x).toArray 63)
  exact ⟨cell_of_row _ _ _ _ _ _ h, cell_of_row _ _ _ _ _ _ h, cell_of_row _ _ _ _ _ _ h⟩
theorem LastCells.same {g : Nat} {x : LastV} {y y' : World} (h : LastCells g x y) (e : y'.heap[g]? = y.heap[g]?) : LastCells g x y' := by
  obtain ⟨h1, h2, h3⟩ := h
  exact ⟨(World.cell?_of_block (a := ⟨g, 0, none⟩) e).trans h1, (World.cell?_of_block (a := ⟨g, 1, none⟩) e).trans h2, (World.cell?_of_block (a := ⟨g, 2, none⟩) e).trans h3⟩
set_option maxRecDepth 100000 in
set_option maxHeartbeats 8000000 in
theorem tput_any (t : TabV) (ht : TabOk t) (v : Value) (l : List UInt8) (hl : l.length ≤ 1099500000000) (w : World) (h : ReadB w v l) :
    Calls Try.prog 69 #[.agg (tabCells t).toArray, v] w fun e w' => ∃ v', e = .returned v' ∧ OwnB w' w.heap.size 5 v' (l ++ tabB t 4) ∧ Below w.heap.size w w' := by
  obtain ⟨i0, hi0, hz0, hs0, hb0⟩ := info_parts info8
  have hT0 : TabAt (w.alloc (.cells (tabCells t).toArray 65)) w.heap.size t := heap_alloc_new w _
  have hb1 := (Below.refl w.heap.size w).alloc (Nat.le_refl _) (.cells (tabCells t).toArray 65)
  have hr1 := h.below hb1
  have hidx := fun (i : Nat) (hi : i < 4) (y : World) => tab_index t i hi y
  obtain ⟨V, hV⟩ : ∃ V : Value, .agg (tabCells t).toArray = V := ⟨_, rfl⟩
  rw [hV] at hidx
  rw [tab_eta] at hV
  have Hidx := Lib.hid hidx; clear hidx
  go_enter Try.func69, Try.ntmps69
  go_upto_region 1 with fail
  change Code.wp _ _ _ _ (w.alloc (.cells (tabCells t).toArray 65))
  generalize w.alloc (.cells (tabCells t).toArray 65) = w1 at *
  obtain ⟨⟨a0, a1, a2⟩, ⟨b0, b1, b2⟩, ⟨c0, c1, c2⟩, ⟨d0, d1, d2⟩⟩ := hT0.cells
  go_wp2_with fail
  clear a0 a1 a2 b0 b1 b2 c0 c1 c2 d0 d1 d2 hT0 hV h
  have Hb1 := Lib.hid hb1; clear hb1
  have Hr1 := Lib.hid hr1; clear hr1
  go_loopw [1, 8] (fun s1 s8 wr => ∃ (i : Nat), i ≤ 4 ∧ s8 = .int .i64 (i : Int) ∧ ReadB wr s1 (l ++ tabB t i) ∧ (1 ≤ i → OwnB wr w.heap.size 5 s1 (l ++ tabB t i)) ∧ Below w.heap.size w wr) (fun _ s8 _ => 4 - (intOf s8).toNat)
  case atStart => exact ⟨0, by omega, rfl, by simpa [tabB] using Hr1.out, fun h => by omega, Hb1.out⟩
  case round =>
    clear Hr1 Hb1
    obtain ⟨i, hi, rfl, hrd, hown, hbel⟩ := hrel
    have hlen := tabB_len ht i
    have Hbel := Lib.hid hbel; clear hbel
    by_cases hi4 : i < 4
    · have hi4' : (i : Int) < 4 := by omega
      have hix := Hidx.out i hi4
      have hok := ht.at_ i
      have hsucc : tabB t (i + 1) = tabB t i ++ lastB (t.at_ i) := rfl
      have Hsucc := Lib.hid hsucc; clear hsucc
      obtain ⟨x, hx⟩ : ∃ x, t.at_ i = x := ⟨_, rfl⟩
      rw [hx] at hix hok Hsucc
      clear hx hown
      have hcode := hok.code
      have htext := hok.text
      have Hok := Lib.hid hok; clear hok
      have hixA : ∀ y, (Instr.index 65 V (.int .i64 (i : Int))).run Try.prog y = .ok (.agg #[.int .u32 (x.seq.toNat : Int), .int .u8 (x.code : Int), .string x.text]) y := hix
      clear hix
      have Hrd := Lib.hid hrd; clear hrd
      have hL := LastCells.new wr x
      have hba := (Below.refl wr.heap.size wr).alloc (Nat.le_refl _) (.cells (lastCells x).toArray 63)
      have hisu := tsucc (n := i) (by omega)
      go_upto_region 4 with fail
      change Code.wp _ _ _ _ (wr.alloc (.cells (lastCells x).toArray 63))
      have HLt := Lib.hid (show wr.heap.size < (wr.alloc (.cells (lastCells x).toArray 63)).heap.size by simp)
      generalize wr.alloc (.cells (lastCells x).toArray 63) = w2 at *
      have HL := Lib.hid hL
      obtain ⟨l0, l1, l2⟩ := hL
      have Hba := Lib.hid hba; clear hba
      have hsq : (x.seq.toNat : Int) < 4294967296 := by have := x.seq.isLt; omega
      have hnum := num_any _ (l ++ tabB t i) x.seq.toNat (by have := x.seq.isLt; omega) (by rw [List.length_append]; omega) w2 (Hrd.out.below Hba.out)
      have Hnum := Lib.hid hnum; clear hnum
      clear hixA
      go_upto_region 5 with ((with_reducible refine Hnum.out.mono ?_); rintro e w3 ⟨v3, rfl, ho3, hb3⟩; have Ho3 := Lib.hid ho3; clear ho3; have Hb3 := Lib.hid hb3; clear hb3)
      clear l0 l1 l2
      have HL3 := Lib.hid (HL.out.same (Hb3.out.block _ HLt.out))
      have Hb03 := Lib.hid (Hbel.out.trans ((Hba.out.trans (Hb3.out.mono (Nat.le_of_lt HLt.out))).mono Hbel.out.size))
      have HLw := Lib.hid (show w.heap.size ≤ wr.heap.size from Hbel.out.size)
      obtain ⟨l0, l1, l2⟩ := HL3.out
      generalize hn : x.seq.toNat = n at l0 hsq Ho3 ⊢
      have Hn := Lib.hid hn; clear hn
      by_cases hz : n = 0
      · have hz' : (n : Int) = 0 := by omega
        have hlast : lastB x = numL n := by unfold lastB; rw [Hn.out, if_pos hz, List.append_nil]
        have Hlast := Lib.hid hlast; clear hlast
        go_wp2_with fail
        go_roundw
        case rel =>
          have hown : OwnB w3 w.heap.size 5 v3 (l ++ tabB t (i + 1)) := by
            rw [Hsucc.out, Hlast.out, ← List.append_assoc]
            exact Ho3.out.mono (by have := HLt.out; have := HLw.out; omega)
          exact ⟨i + 1, by omega, rfl, hown.read, fun _ => hown, Hb03.out⟩
        case measure => simp [intOf]; omega
      · have hz' : ((n : Int) != 0) = true := by rw [bne_iff_ne]; omega
        have hlast : lastB x = numL n ++ ([UInt8.ofNat x.code] ++ strL x.text) := by unfold lastB; rw [Hn.out, if_neg hz]; rfl
        have Hnl := Lib.hid (numL_len n).1
        have hcode8 : ((UInt8.ofNat x.code).toNat : Int) = (x.code : Int) := by simp; omega
        have Hcode8 := Lib.hid hcode8; clear hcode8
        have Hlast := Lib.hid hlast; clear hlast
        have Hz := Lib.hid hz; clear hz
        go_upto_region 6 with fail
        clear l0 l1 l2
        obtain ⟨q, hq⟩ : ∃ q, l ++ tabB t i ++ numL n = q := ⟨_, rfl⟩
        have hql : q.length ≤ 1099510000000 := by have hnl := Hnl.out; rw [← hq, List.length_append, List.length_append]; omega
        rw [hq] at Ho3
        have Hq := Lib.hid hq; clear hq
        have hnew := LastCells.new w3.drew x
        clear hnew
        refine (wpIn_wide (n := 1)).1 ?_
        refine RegK.wpIn_region_can (F := Fence.wide) (LastCells wr.heap.size x) [(0, 0), (1, 0), (2, 0), (3, 0), (6, 0), (7, 0), (8, 0), (4, 1), (5, 1), (9, 1), (10, 0)] (by kernel_rfl) (by kernel_rfl) (by kernel_rfl) (fun _ _ d _ _ h => by cases d <;> exact h) HL3.out ?_
        dsimp only [RegK.pick, List.getElem?_cons_zero, List.getElem?_cons_succ]
        change RegK.Can _ _ _ _ _ _ _ _ w3.drew
        have Hd := Lib.hid (show LastCells wr.heap.size x w3.drew from HL3.out)
        have Hod := Lib.hid (show OwnB w3.drew w2.heap.size 5 v3 q from Ho3.out)
        have Hbd := Lib.hid (show Below w.heap.size w w3.drew from ⟨Hb03.out.os, Hb03.out.tape, Hb03.out.output, Hb03.out.size, Hb03.out.block⟩)
        have Hld := Lib.hid (show w2.heap.size ≤ w3.drew.heap.size from Hb3.out.size)
        generalize w3.drew = w4 at *
        clear Ho3 HL3 Hb03 Hb3
        iterate 3 (refine RegK.can_reads ?_; intro K hK; go_simp; (first | (refine ⟨_, fun _ _ => rfl, hK _ ?_⟩) | (refine hK _ ?_)); clear hK K)
        refine RegK.can_reads ?_
        intro K hK
        go_simp
        refine ⟨.int .u8 (x.code : Int), fun y hy => ?_, hK _ ?_⟩
        · have f0 := hy.2.1
          go_simp
        clear hK K
        iterate 2 (refine RegK.can_reads ?_; intro K hK; go_simp; (first | (refine ⟨_, fun _ _ => rfl, hK _ ?_⟩) | (refine hK _ ?_)); clear hK K)
        refine RegK.can_reads ?_
        intro K hK
        go_simp
        refine ⟨.string x.text, fun y hy => ?_, hK _ ?_⟩
        · have f0 := hy.2.2
          go_simp
        clear hK K
        -- the slice of one byte
        refine RegK.can_turns (fun _ => trivial) ?_
        intro K K0 hK hK0
        go_simp
        have hb5 := (Below.refl w4.heap.size w4).alloc (Nat.le_refl _) (.cells #[.int .u8 (x.code : Int)] 5)
        have hne : wr.heap.size < w4.heap.size := by have := Hld.out; have := HLt.out; omega
        have hL5 : LastCells wr.heap.size x (w4.alloc (.cells #[.int .u8 (x.code : Int)] 5)) := Hd.out.same (hb5.block _ hne)
        have hone : ReadB (w4.alloc (.cells #[.int .u8 (x.code : Int)] 5)) (.slice (some ⟨w4.heap.size, 0, none⟩) 1 1) [UInt8.ofNat x.code] := by
          have h := ReadB.one w4 (UInt8.ofNat x.code) 5
          rwa [Hcode8.out] at h
        have ho5 := Hod.out.below hb5
        refine hK _ _ hL5 ?_
        clear hK K hK0 K0
        have Hb5 := Lib.hid (Hbd.out.trans (hb5.mono (by have := Hld.out; have := HLt.out; have := HLw.out; omega)))
        have Hone := Lib.hid hone; clear hone
        have Ho5 := Lib.hid ho5; clear ho5
        have HL5 := Lib.hid hL5; clear hL5
        have Hl5 := Lib.hid (show w2.heap.size ≤ (w4.alloc (.cells #[.int .u8 (x.code : Int)] 5)).heap.size by simp; have := Hld.out; omega)
        generalize hw5 : w4.alloc (.cells #[.int .u8 (x.code : Int)] 5) = w5 at *
        generalize w4.heap.size = g5 at *
        clear hb5 hw5 Hd Hod Hbd Hld hne
        -- append
        refine RegK.can_turns (fun _ => trivial) ?_
        intro K K0 hK hK0
        rw [if_pos (by simp [Region.wanted])]
        refine RegK.op_wide rfl ?_
        refine wp_append_read _ _ 60 rfl w2.heap.size 5 i0 (.int .u8 0) Try.underlying60 hi0 hz0 hs0 hb0 rfl _ _ _ rfl Ho5.out _ _ rfl Hone.out (by show q.length + 1 ≤ _; omega) Hl5.out ?_
        intro v6 w6 ho6 hg6
        have hv3 : ∀ k, v3.ownBlock = some k → w2.heap.size ≤ k := fun k hk => (World.ownsRow.lt Ho5.out k hk).1
        have hL6 : LastCells wr.heap.size x w6 := HL5.out.same (hg6.block _ (Nat.lt_of_lt_of_le HLt.out Hl5.out) (fun e => by have := hv3 _ e.symm; have := HLt.out; omega))
        refine hK _ _ hL6 ?_
        clear hK K hK0 K0
        have Ho6 := Lib.hid (OwnB.of (l := q) (k := [UInt8.ofNat x.code]) ho6 rfl rfl); clear ho6
        have Hb6 := Lib.hid (below_grown hg6 Hb5.out (by have := Hl5.out; have := HLt.out; have := HLw.out; omega) (fun k hk => by have := hv3 k hk; have := HLt.out; have := HLw.out; omega))
        have Hl6 := Lib.hid (Nat.le_trans Hl5.out hg6.size)
        have HL6 := Lib.hid hL6
        clear hg6 hv3 HL5 Hb5 Ho5 Hone Hl5 hL6
        -- the text
        refine RegK.can_turns (fun _ => trivial) ?_
        intro K K0 hK hK0
        go_simp
        refine ⟨trivial, ?_⟩
        refine (callsIn_wide.2 (str_any v6 _ x.text (by rw [List.length_append]; show q.length + 1 + x.text.size ≤ _; omega) w6 Ho6.out.read)).mono ?_
        rintro e w7 ⟨v7, rfl, ho7, hb7⟩
        refine hK _ _ (HL6.out.same (hb7.block _ (Nat.lt_of_lt_of_le HLt.out Hl6.out))) ?_
        clear hK K hK0 K0
        have Ho7 := Lib.hid ho7; clear ho7
        have Hb7 := Lib.hid (Hb6.out.trans (hb7.mono (by have := Hl6.out; have := HLt.out; have := HLw.out; omega)))
        refine RegK.can_reads ?_
        intro K hK
        go_simp
        refine ⟨_, fun _ _ => rfl, hK _ ?_⟩
        clear hK K
        refine RegK.can_nil ?_
        go_wp2_with fail
        have hown : OwnB w7 w.heap.size 5 v7 (l ++ tabB t (i + 1)) := by
          have e : l ++ tabB t (i + 1) = q ++ [UInt8.ofNat x.code] ++ strL x.text := by
            rw [Hsucc.out, Hlast.out, ← Hq.out]
            simp [List.append_assoc]
          rw [e]
          exact Ho7.out.mono (by have := Hl6.out; have := HLt.out; have := HLw.out; omega)
        refine ⟨⟨i + 1, by omega, rfl, hown.read, fun _ => hown, Hb7.out⟩, ?_⟩
        simp [intOf]; omega
    · have hi4' : ¬ (i : Int) < 4 := by omega
      have hi44 : i = 4 := by omega
      go_wp2_with fail
      go_ret
      subst hi44
      exact ⟨_, rfl, hown (by omega), Hbel.out⟩
end Go.Proofs.Ytkngadbeflepoaa
