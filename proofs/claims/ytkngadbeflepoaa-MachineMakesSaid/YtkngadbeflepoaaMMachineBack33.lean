/- Readers: session.Take. Condition: the reader lies there. -/
import Derived.Test.YtkngadbeflepoaaMMachineBack32
import Derived.Test.YtkngadbeflepoaaMMachineBack19
import Derived.Deep.DeepCutAuto
import Derived.Test.YtkngadbeflepoaaMMachineBack9
import Derived.Test.YtkngadbeflepoaaMMachineBack11
namespace Go.Proofs.Ytkngadbeflepoaa
open Go.RowKit

/-- A client's last command, as it is read: without the word that it is bad. -/
def RdV.lastP (R : RdV) : LastV × RdV :=
  if (R.below 4294967296).1 = 0 then (lastNone, (R.below 4294967296).2)
  else (⟨BitVec.ofNat 32 (R.below 4294967296).1, (R.below 4294967296).2.byte.1.toNat, ⟨((R.below 4294967296).2.byte.2.str 64).1.toArray⟩⟩, ((R.below 4294967296).2.byte.2.str 64).2)
def RdV.last (R : RdV) : LastV × RdV := (R.lastP.1, if 3 < R.lastP.1.code then R.lastP.2.fail 4 else R.lastP.2)
def RdV.tabP (R : RdV) : Nat → TabV × RdV
  | 0 => (tabNone, R)
  | i + 1 => ((R.tabP i).1.put i (R.tabP i).2.last.1, (R.tabP i).2.last.2)
def RdV.tab (R : RdV) : TabV × RdV := (if (R.tabP 4).2.e = 0 then (R.tabP 4).1 else tabNone, (R.tabP 4).2)
/-- Below n nothing but one block is another. -/
structure But (g n : Nat) (w w' : World) : Prop where
  os : w'.os = w.os
  tape : w'.tape = w.tape
  output : w'.output = w.output
  size : w.heap.size ≤ w'.heap.size
  block : ∀ k, k < n → k ≠ g → w'.heap[k]? = w.heap[k]?
theorem But.refl (g n : Nat) (w : World) : But g n w w := ⟨rfl, rfl, rfl, Nat.le_refl _, fun _ _ _ => rfl⟩
theorem But.trans {g n : Nat} {a b c : World} (h : But g n a b) (k : But g n b c) : But g n a c :=
  ⟨k.os.trans h.os, k.tape.trans h.tape, k.output.trans h.output, Nat.le_trans h.size k.size, fun i hi hg => (k.block i hi hg).trans (h.block i hi hg)⟩
theorem But.mono {g n m : Nat} {a b : World} (h : But g n a b) (hm : m ≤ n) : But g m a b := ⟨h.os, h.tape, h.output, h.size, fun k hk hg => h.block k (by omega) hg⟩
theorem Only.but {g : Nat} {a b : World} (h : Only g a b) (n : Nat) : But g n a b := ⟨h.os, h.tape, h.output, by rw [h.size]; exact Nat.le_refl _, fun k _ hg => h.block k hg⟩
theorem but_of {n : Nat} {a b : World} (h : Below n a b) (g : Nat) : But g n a b := ⟨h.os, h.tape, h.output, h.size, fun k hk _ => h.block k hk⟩
theorem But.below {g n : Nat} {a b : World} (h : But g n a b) (hg : n ≤ g) : Below n a b := ⟨h.os, h.tape, h.output, h.size, fun k hk => h.block k hk (by omega)⟩
def LastRow (w : World) (g : Nat) (x : LastV) : Prop := w.heap[g]? = some (.cells (lastCells x).toArray 63 (0, 0))
theorem LastRow.cells {w : World} {g : Nat} {x : LastV} (h : LastRow w g x) : w.cell? ⟨g, 0, none⟩ = some (.int .u32 (x.seq.toNat : Int)) ∧ w.cell? ⟨g, 1, none⟩ = some (.int .u8 (x.code : Int)) ∧ w.cell? ⟨g, 2, none⟩ = some (.string x.text) :=
  ⟨cell_of_row _ _ _ _ _ _ h, cell_of_row _ _ _ _ _ _ h, cell_of_row _ _ _ _ _ _ h⟩
theorem LastRow.lt {w : World} {g : Nat} {x : LastV} (h : LastRow w g x) : g < w.heap.size := (Array.getElem?_eq_some_iff.1 h).1
theorem LastRow.thawed {w : World} {g : Nat} {x : LastV} (h : LastRow w g x) (j : Nat) : w.frozen? ⟨g, j, none⟩ = false := by
  unfold LastRow at h
  simp [World.frozen?, h]
theorem LastRow.only {w w' : World} {g q : Nat} {x : LastV} (h : LastRow w g x) (hq : g ≠ q) (ho : Only q w w') : LastRow w' g x := (ho.block g hq).trans h
theorem LastRow.code {w : World} {g : Nat} {x : LastV} (h : LastRow w g x) (c : Nat) : LastRow (w.setCell ⟨g, 1, none⟩ (.int .u8 (c : Int))) g ⟨x.seq, c, x.text⟩ := by
  unfold LastRow at *
  rw [heap_setCell_same _ _ _ _ _ _ h]
  rfl
theorem LastRow.text {w : World} {g : Nat} {x : LastV} (h : LastRow w g x) (t : ByteArray) : LastRow (w.setCell ⟨g, 2, none⟩ (.string t)) g ⟨x.seq, x.code, t⟩ := by
  unfold LastRow at *
  rw [heap_setCell_same _ _ _ _ _ _ h]
  rfl
theorem RdAt.set {w : World} {g q i : Nat} {R : RdV} {v : Value} (h : RdAt w g R) (hq : g ≠ q) : RdAt (w.setCell ⟨q, i, none⟩ v) g R := h.other hq (Only.set q i w v)
/-- Where Take has its variables. -/
structure TkI (w0 : World) (g : Nat) (R : RdV) (t : TabV) (w : World) : Prop where
  r : RdAt w g R
  z : TabAt w w0.heap.size tabNone
  t : TabAt w (w0.heap.size + 1) t
  but : But g w0.heap.size w0 w
  lt : g < w0.heap.size
theorem TkI.only {w0 w w' : World} {g : Nat} {R R' : RdV} {t : TabV} (h : TkI w0 g R t w) (hr : RdAt w' g R') (ho : Only g w w') : TkI w0 g R' t w' :=
  ⟨hr, (ho.block _ (by have := h.lt; omega)).trans h.z, (ho.block _ (by have := h.lt; omega)).trans h.t, h.but.trans (ho.but _), h.lt⟩
theorem TkI.below {w0 w w' : World} {g : Nat} {R : RdV} {t : TabV} (h : TkI w0 g R t w) (hb : Below w.heap.size w w') : TkI w0 g R t w' :=
  ⟨h.r.below hb, (hb.block _ (Array.getElem?_eq_some_iff.1 h.z).1).trans h.z, (hb.block _ (Array.getElem?_eq_some_iff.1 h.t).1).trans h.t, h.but.trans (but_of (hb.mono h.but.size) g), h.lt⟩
theorem TkI.set {w0 w : World} {g q i : Nat} {R : RdV} {t : TabV} {v : Value} (h : TkI w0 g R t w) (hq : w0.heap.size + 1 < q) : TkI w0 g R t (w.setCell ⟨q, i, none⟩ v) :=
  ⟨h.r.set (by have := h.lt; omega), h.z.other (by omega), h.t.other (by omega), h.but.trans (but_of (below_setV (b := q) (Below.refl w0.heap.size w) (by omega)) g), h.lt⟩
theorem TkI.put {w0 w : World} {g i : Nat} {R : RdV} {t : TabV} (h : TkI w0 g R t w) (hi : i < 4) (x : LastV) : TkI w0 g R (t.put i x) (lastSt w (w0.heap.size + 1) i x) :=
  ⟨((h.r.set (by have := h.lt; omega)).set (by have := h.lt; omega)).set (by have := h.lt; omega), ((h.z.other (by omega)).other (by omega)).other (by omega), lastSt_at h.t hi x,
    h.but.trans (but_of (below_setV (b := w0.heap.size + 1) (below_setV (b := w0.heap.size + 1) (below_setV (b := w0.heap.size + 1) (Below.refl w0.heap.size w) (by omega)) (by omega)) (by omega)) g), h.lt⟩
set_option maxRecDepth 100000 in
set_option maxHeartbeats 16000000 in
theorem take12_any (R : RdV) (g : Nat) (w : World) (h : RdAt w g R) :
    Calls Try.prog 80 #[.pointer (some ⟨g, 0, none⟩)] w fun e w' => e = .returned (.agg (tabCells R.tab.1).toArray) ∧ RdAt w' g R.tab.2 ∧ But g w.heap.size w w' := by
  have hI : TkI w g R tabNone ((w.alloc (.cells (tabCells tabNone).toArray 65)).alloc (.cells (tabCells tabNone).toArray 65)) := by
    have s0 : (w.alloc (.cells (tabCells tabNone).toArray 65)).heap.size = w.heap.size + 1 := by simp
    have b1 := (Below.refl w.heap.size w).alloc (Nat.le_refl _) (.cells (tabCells tabNone).toArray 65)
    have t0 : TabAt (w.alloc (.cells (tabCells tabNone).toArray 65)) w.heap.size tabNone := heap_alloc_new _ _
    have b2 := (Below.refl _ (w.alloc (.cells (tabCells tabNone).toArray 65))).alloc (Nat.le_refl _) (.cells (tabCells tabNone).toArray 65)
    exact ⟨(h.below b1).below b2, (b2.block _ (Array.getElem?_eq_some_iff.1 t0).1).trans t0, by rw [← s0]; exact heap_alloc_new _ _, but_of (b1.trans (b2.mono b1.size)) g, h.lt⟩
  obtain ⟨tE, hE⟩ : ∃ t, R.tab = t := ⟨_, rfl⟩
  rw [hE]
  have HE := Lib.hid hE; clear hE h
  have HI := Lib.hid hI; clear hI
  go_enter Try.func80, Try.ntmps80
  go_upto_region 2 with fail
  change Code.wp _ _ _ _ ((w.alloc (.cells (tabCells tabNone).toArray 65)).alloc (.cells (tabCells tabNone).toArray 65))
  generalize (w.alloc (.cells (tabCells tabNone).toArray 65)).alloc (.cells (tabCells tabNone).toArray 65) = w1 at *
  go_wp2_with fail
  go_loopw [6] (fun s6 wr => ∃ i : Nat, i ≤ 4 ∧ s6 = .int .i64 (i : Int) ∧ TkI w g (R.tabP i).2 (R.tabP i).1 wr) (fun s6 _ => 4 - (intOf s6).toNat)
  case atStart => exact ⟨0, by omega, rfl, HI.out⟩
  case round =>
    clear HI
    obtain ⟨i, hi, rfl, hI⟩ := hrel
    by_cases hlt : i < 4
    · have hlt' : (i : Int) < 4 := by omega
      have hsucc := tsucc (n := i) (by omega)
      obtain ⟨t, ht⟩ : ∃ t, (R.tabP i).1 = t := ⟨_, rfl⟩
      obtain ⟨S, hS⟩ : ∃ S, (R.tabP i).2 = S := ⟨_, rfl⟩
      have hnext : R.tabP (i + 1) = (t.put i S.last.1, S.last.2) := by rw [← ht, ← hS]; rfl
      rw [ht, hS] at hI
      have Hnext := Lib.hid hnext; clear hnext ht hS
      have HI := Lib.hid hI; clear hI
      have hbl : Calls Try.prog 121 #[.pointer (some ⟨g, 0, none⟩), .int .u64 4294967296] wr fun e w' => e = .returned (.int .u64 ((S.below 4294967296).1 : Int)) ∧ RdAt w' g (S.below 4294967296).2 ∧ Only g wr w' := rbelow_any S 4294967296 g wr HI.out.r
      have hbl2 := below_lt S 4294967296 (by omega)
      obtain ⟨XP, hXP⟩ : ∃ x, S.lastP = x := ⟨_, rfl⟩
      have hXP0 := hXP
      unfold RdV.lastP at hXP
      generalize S.below 4294967296 = X at *
      obtain ⟨n, R1⟩ := X
      simp only at hbl hbl2 hXP
      have hw32 : IntKind.u32.wrap (n : Int) = (n : Int) := by rw [IntKind.wrap_u32]; omega
      have h32 : (BitVec.ofNat 32 n).toNat = n := by simp; omega
      have Hbl := Lib.hid hbl; clear hbl hbl2
      have HXP := Lib.hid hXP; clear hXP
      have HXP0 := Lib.hid hXP0; clear hXP0
      go_upto_region 6 with ((with_reducible refine Hbl.out.mono ?_); rintro e w2 ⟨rfl, h2⟩; have H2 := Lib.hid (HI.out.only h2.1 h2.2); clear h2 HI)
      have hrow : LastRow (w2.alloc (.cells (lastCells ⟨BitVec.ofNat 32 n, 0, ByteArray.empty⟩).toArray 63)) w2.heap.size ⟨BitVec.ofNat 32 n, 0, ByteArray.empty⟩ := heap_alloc_new _ _
      have HJ := Lib.hid (H2.out.below ((Below.refl _ _).alloc (Nat.le_refl _) (.cells (lastCells ⟨BitVec.ofNat 32 n, 0, ByteArray.empty⟩).toArray 63)))
      have hgl : w.heap.size + 1 < w2.heap.size := (Array.getElem?_eq_some_iff.1 H2.out.t).1
      have eta : (lastCells ⟨BitVec.ofNat 32 n, 0, ByteArray.empty⟩).toArray = #[.int .u32 (n : Int), .int .u8 0, .string ByteArray.empty] := by show #[Value.int .u32 ((BitVec.ofNat 32 n).toNat : Int), .int .u8 0, .string ByteArray.empty] = _; rw [h32]
      rw [eta] at hrow HJ
      change Code.wp _ _ _ _ (w2.alloc (.cells #[.int .u32 (n : Int), .int .u8 0, .string ByteArray.empty] 63))
      clear H2 eta
      generalize w2.alloc (.cells #[.int .u32 (n : Int), .int .u8 0, .string ByteArray.empty] 63) = w3 at *
      generalize w2.heap.size = gl at *
      have Hgl := Lib.hid hgl; clear hgl
      have Hrow := Lib.hid hrow; clear hrow
      obtain ⟨f0, f1, f2⟩ := Hrow.out.cells
      simp only at f0 f1 f2
      rw [h32] at f0
      go_upto_if 15 with fail
      go_cut [15] (fun _ wx => LastRow wx gl XP.1 ∧ TkI w g XP.2 t wx)
      case first =>
        by_cases hn : n = 0
        · have hn' : ((n : Int) != 0) = false := by simp [hn]
          have hq := HXP.out
          rw [if_pos hn] at hq
          have Hn := Lib.hid hn; clear hn
          go_wp2_with fail
          go_meet
          rw [← hq]
          refine ⟨?_, HJ.out⟩
          have h := Hrow.out
          rw [Hn.out] at h
          exact h
        · have hn' : ((n : Int) != 0) = true := by rw [bne_iff_ne]; omega
          have hq := HXP.out
          rw [if_neg hn] at hq
          clear hn
          have Hby := Lib.hid (byte_any R1 g w3 HJ.out.r)
          generalize R1.byte = X at *
          obtain ⟨b, R2⟩ := X
          simp only at Hby hq
          have Hst := Lib.hid (fun (y : World) (hy : RdAt y g R2) => (show Calls Try.prog 122 #[.pointer (some ⟨g, 0, none⟩), .int .i64 64] y fun e w' => e = .returned (.string ⟨(R2.str 64).1.toArray⟩) ∧ RdAt w' g (R2.str 64).2 ∧ Only g y w' from rstr2_any R2 64 g (by omega) y hy))
          generalize R2.str 64 = X at *
          obtain ⟨tx, R3⟩ := X
          simp only at Hst hq
          have Hq := Lib.hid hq; clear hq
          have hne : gl ≠ g := by have := Hgl.out; have := HJ.out.lt; omega
          go_upto_region 8 with ((with_reducible refine Hby.out.mono ?_); rintro e w4 ⟨rfl, h4⟩; have H4 := Lib.hid (And.intro (HJ.out.only h4.1 h4.2) (Hrow.out.only hne h4.2)); clear h4 f0 f1 f2; obtain ⟨f0, f1, f2⟩ := H4.out.2.cells; have e1 := H4.out.2.thawed 1)
          change Code.wp _ _ _ _ (w4.setCell ⟨gl, 1, none⟩ (.int .u8 (b.toNat : Int)))
          have HJ5 := Lib.hid (H4.out.1.set (i := 1) (v := .int .u8 (b.toNat : Int)) Hgl.out)
          have Hr5 := Lib.hid (H4.out.2.code b.toNat)
          clear H4 Hrow HJ Hby f0 f1 f2 e1
          generalize w4.setCell ⟨gl, 1, none⟩ (.int .u8 (b.toNat : Int)) = w5 at *
          obtain ⟨f0, f1, f2⟩ := Hr5.out.cells
          go_wp2_with ((with_reducible refine (Hst.out _ HJ5.out.r).mono ?_); rintro e w6 ⟨rfl, h6⟩; have H6 := Lib.hid (And.intro (HJ5.out.only h6.1 h6.2) (Hr5.out.only hne h6.2)); clear h6 f0 f1 f2; obtain ⟨f0, f1, f2⟩ := H6.out.2.cells; have e2 := H6.out.2.thawed 2)
          go_meet
          rw [← Hq.out]
          exact ⟨H6.out.2.text _, H6.out.1.set Hgl.out⟩
      case rest =>
      obtain ⟨hcr, hct⟩ := hcut
      generalize wc = w4 at *
      clear f0 f1 f2 HJ Hrow HXP
      have Hcr := Lib.hid hcr; clear hcr
      have Hct := Lib.hid hct; clear hct
      have hlast : S.last = (XP.1, if 3 < XP.1.code then XP.2.fail 4 else XP.2) := by unfold RdV.last; rw [HXP0.out]
      rw [hlast] at Hnext
      clear hlast HXP0
      obtain ⟨x, R2⟩ := XP
      simp only at Hnext Hcr Hct
      obtain ⟨q, hq⟩ : ∃ q, (if 3 < x.code then R2.fail 4 else R2) = q := ⟨_, rfl⟩
      rw [hq] at Hnext
      have Hq := Lib.hid hq; clear hq
      obtain ⟨f0, f1, f2⟩ := Hcr.out.cells
      have hne : gl ≠ g := by have := Hgl.out; have := Hct.out.lt; omega
      have Hbad := Lib.hid (bad_any R2 g w4 Hct.out.r)
      go_upto_if 27 with fail
      go_cut [27] (fun _ wx => LastRow wx gl x ∧ TkI w g q t wx)
      case first =>
        by_cases h3 : 3 < x.code
        · have h3' : (3 : Int) < (x.code : Int) := by omega
          have hqq := Hq.out
          rw [if_pos h3] at hqq
          clear h3
          go_wp2_with ((with_reducible refine Hbad.out.mono ?_); rintro e w5 ⟨rfl, h5⟩; have H5 := Lib.hid (And.intro (Hct.out.only h5.1 h5.2) (Hcr.out.only hne h5.2)); clear h5)
          go_meet
          rw [← hqq]
          exact ⟨H5.out.2, H5.out.1⟩
        · have h3' : ¬ (3 : Int) < (x.code : Int) := by omega
          have hqq := Hq.out
          rw [if_neg h3] at hqq
          clear h3
          go_wp2_with fail
          go_meet
          rw [← hqq]
          exact ⟨Hcr.out, Hct.out⟩
      case rest =>
      obtain ⟨hcr, hct⟩ := hcut
      generalize wc = w5 at *
      clear f0 f1 f2 Hcr Hct Hbad Hq
      have Hcr := Lib.hid hcr; clear hcr
      have Hct := Lib.hid hct; clear hct
      obtain ⟨f0, f1, f2⟩ := Hcr.out.cells
      obtain ⟨t0, t1, t2⟩ := tab_cell Hct.out.t hlt
      have y0 := Hct.out.t.thawed (i * 3)
      have y1 := Hct.out.t.thawed (i * 3 + 1)
      have y2 := Hct.out.t.thawed (i * 3 + 2)
      have HL := Lib.hid (Hct.out.put hlt x)
      have hgi : w.heap.size + 1 ≠ gl := by have := Hgl.out; omega
      go_wp2_with fail
      refine ⟨⟨i + 1, hlt, by simp, by rw [Hnext.out]; exact HL.out⟩, by simp [intOf]; omega⟩
    · have hlt' : ¬ (i : Int) < 4 := by omega
      have hi4 : i = 4 := by omega
      subst hi4
      have hq := HE.out
      unfold RdV.tab at hq
      obtain ⟨S, hS⟩ : ∃ S, (R.tabP 4).2 = S := ⟨_, rfl⟩
      obtain ⟨t, ht⟩ : ∃ S, (R.tabP 4).1 = S := ⟨_, rfl⟩
      rw [hS, ht] at hq hI
      clear hS ht
      have HI := Lib.hid hI; clear hI
      have Herr := Lib.hid (err_any S g wr HI.out.r)
      obtain ⟨⟨z0, z1, z2⟩, ⟨z3, z4, z5⟩, ⟨z6, z7, z8⟩, ⟨z9, z10, z11⟩⟩ := HI.out.z.cells
      have y0 := HI.out.z.thawed 0
      have y1 := HI.out.z.thawed 1
      have y2 := HI.out.z.thawed 2
      have y3 := HI.out.z.thawed 3
      have y4 := HI.out.z.thawed 4
      have y5 := HI.out.z.thawed 5
      have y6 := HI.out.z.thawed 6
      have y7 := HI.out.z.thawed 7
      have y8 := HI.out.z.thawed 8
      have y9 := HI.out.z.thawed 9
      have y10 := HI.out.z.thawed 10
      have y11 := HI.out.z.thawed 11
      have hzr : w.heap.size ≠ g := by have := HI.out.lt; omega
      have hst : ∀ t2 : TabV, TabAt (rowSt wr w.heap.size 0 (tabCells t2)) w.heap.size t2 ∧ RdAt (rowSt wr w.heap.size 0 (tabCells t2)) g S ∧ But g w.heap.size w (rowSt wr w.heap.size 0 (tabCells t2)) := fun t2 =>
        ⟨tabSt_at HI.out.z t2, ⟨(rowSt_other (Ne.symm hzr) _ _ _).trans HI.out.r.row, HI.out.r.len⟩, HI.out.but.trans (but_of (rowSt_below (Nat.le_refl _) (tabCells t2) 0 _ (Below.refl _ _)) g)⟩
      by_cases he : S.e = 0
      · have he' : ((S.e : Int) != 0) = false := by simp [he]
        rw [if_pos he] at hq
        subst hq
        have HT5 := Lib.hid (hst t); clear hst he
        obtain ⟨⟨k0, k1, k2⟩, ⟨k3, k4, k5⟩, ⟨k6, k7, k8⟩, ⟨k9, k10, k11⟩⟩ := HI.out.t.cells
        go_wp2_with ((with_reducible refine Herr.out.mono ?_); rintro e w2 ⟨rfl, rfl⟩)
        change bodyPost _ _ _ _ _ (rowSt wr w.heap.size 0 (tabCells t))
        clear z0 y0 k0 z1 y1 k1 z2 y2 k2 z3 y3 k3 z4 y4 k4 z5 y5 k5 z6 y6 k6 z7 y7 k7 z8 y8 k8 z9 y9 k9 z10 y10 k10 z11 y11 k11 HI Herr
        generalize rowSt wr w.heap.size 0 (tabCells t) = w5 at *
        obtain ⟨⟨a0, a1, a2⟩, ⟨b0, b1, b2⟩, ⟨c0, c1, c2⟩, ⟨d0, d1, d2⟩⟩ := HT5.out.1.cells
        refine bodyPost_ret (v := .agg (tabCells t).toArray) (by rw [tab_eta]; simp [results, Try.results80, go_sem, a0, a1, a2, b0, b1, b2, c0, c1, c2, d0, d1, d2] <;> rfl) rfl ?_
        exact ⟨rfl, HT5.out.2⟩
      · have he' : ((S.e : Int) != 0) = true := by rw [bne_iff_ne]; omega
        rw [if_neg he] at hq
        subst hq
        have HT5 := Lib.hid (hst tabNone); clear hst he
        go_wp2_with ((with_reducible refine Herr.out.mono ?_); rintro e w2 ⟨rfl, rfl⟩)
        change bodyPost _ _ _ _ _ (rowSt wr w.heap.size 0 (tabCells tabNone))
        clear z0 y0 z1 y1 z2 y2 z3 y3 z4 y4 z5 y5 z6 y6 z7 y7 z8 y8 z9 y9 z10 y10 z11 y11 HI Herr
        generalize rowSt wr w.heap.size 0 (tabCells tabNone) = w5 at *
        obtain ⟨⟨a0, a1, a2⟩, ⟨b0, b1, b2⟩, ⟨c0, c1, c2⟩, ⟨d0, d1, d2⟩⟩ := HT5.out.1.cells
        refine bodyPost_ret (v := .agg (tabCells tabNone).toArray) (by rw [tab_eta]; simp [results, Try.results80, go_sem, a0, a1, a2, b0, b1, b2, c0, c1, c2, d0, d1, d2] <;> rfl) rfl ?_
        exact ⟨rfl, HT5.out.2⟩
end Go.Proofs.Ytkngadbeflepoaa
/- Readers: machine.takeKeys. Condition: the reader lies there. -/
namespace Go.Proofs.Ytkngadbeflepoaa
open Go.RowKit

theorem bl_cases : ∀ (a b : List UInt8), (Op.bytesLess a b || a == b) = !Op.bytesLess b a
  | [], [] => rfl
  | [], b :: m => by simp [Op.bytesLess]
  | a :: l, [] => by simp [Op.bytesLess]
  | a :: l, b :: m => by
    have h := bl_cases l m
    unfold Op.bytesLess
    by_cases h1 : a < b
    · have h2 : ¬ b < a := by rw [UInt8.lt_iff_toNat_lt] at *; omega
      have h3 : a ≠ b := by rintro rfl; exact h2 h1
      simp [h1, h2, Ne.symm h3]
    · by_cases h2 : b < a
      · have h3 : a ≠ b := by rintro rfl; exact h1 h2
        simp [h1, h2, h3]
      · have h3 : a = b := by rw [UInt8.lt_iff_toNat_lt] at *; exact UInt8.toNat_inj.1 (by omega)
        subst h3
        simpa [h1] using h
theorem sle_not (k last : ByteArray) : (Op.bytesLess k.toList last.toList || k.toList == last.toList) = !slt last k := bl_cases _ _
/-- A key and its value, as they are read, behind a key. -/
def RdV.pair (R : RdV) (last : ByteArray) : (ByteArray × ByteArray) × RdV :=
  ((⟨(R.str 16).1.toArray⟩, ⟨((R.str 16).2.str 64).1.toArray⟩), if slt last ⟨(R.str 16).1.toArray⟩ = true then ((R.str 16).2.str 64).2 else ((R.str 16).2.str 64).2.fail 4)
def RdV.keysP : Nat → Sh → ByteArray → RdV → Sh × RdV
  | 0, S, _, R => (S, R)
  | n + 1, S, last, R => if (R.pair last).2.e = 0 then RdV.keysP n (putSh (R.pair last).1.1 (R.pair last).1.2 S (S.look (R.pair last).1.1)) (R.pair last).1.1 (R.pair last).2 else (.nil, (R.pair last).2)
def RdV.keys (R : RdV) : Sh × RdV := RdV.keysP (R.below 257).1 .nil ByteArray.empty (R.below 257).2
theorem tsucc_u {n : Nat} (h : n < 1000000) : IntKind.u64.wrap ((n : Int) + 1) = ((n + 1 : Nat) : Int) := by rw [IntKind.wrap_u64]; omega
theorem TreeAt.only {w w' : World} {g : Nat} {R R' : RdV} (hr : RdAt w g R) (hr' : RdAt w' g R') (ho : Only g w w') : ∀ {T : Tr}, TreeAt w T → TreeAt w' T
  | .nil, _ => trivial
  | .node b _ _ _ _ _, ⟨h1, h2, h3⟩ => ⟨(ho.block b (by
      rintro rfl
      unfold NodeAt at h1
      have := hr.row
      rw [h1] at this
      simp at this)).trans h1, TreeAt.only hr hr' ho h2, TreeAt.only hr hr' ho h3⟩
set_option maxRecDepth 100000 in
set_option maxHeartbeats 16000000 in
theorem takeKeys_any (R : RdV) (g : Nat) (w : World) (h : RdAt w g R) :
    Calls Try.prog 82 #[.pointer (some ⟨g, 0, none⟩)] w fun e w' => ∃ X, e = .returned (.pointer X.ptr) ∧ TreeAt w' X ∧ X.sh = R.keys.1 ∧ RdAt w' g R.keys.2 ∧ But g w.heap.size w w' := by
  have hbl : Calls Try.prog 121 #[.pointer (some ⟨g, 0, none⟩), .int .u64 257] w fun e w' => e = .returned (.int .u64 ((R.below 257).1 : Int)) ∧ RdAt w' g (R.below 257).2 ∧ Only g w w' := rbelow_any R 257 g w h
  have hlt := below_lt R 257 (by omega)
  have hg := h.lt
  unfold RdV.keys
  clear h
  generalize R.below 257 = X at *
  obtain ⟨n, R1⟩ := X
  simp only at hbl hlt ⊢
  obtain ⟨F, hF⟩ : ∃ F, RdV.keysP n .nil ByteArray.empty R1 = F := ⟨_, rfl⟩
  rw [hF]
  have HF := Lib.hid hF; clear hF
  have Hg := Lib.hid hg; clear hg
  have Hbl := Lib.hid hbl; clear hbl
  go_enter Try.func82, Try.ntmps82
  go_wp2_with ((with_reducible refine Hbl.out.mono ?_); rintro e w2 ⟨rfl, h2⟩; have H2 := Lib.hid h2; clear h2 Hbl)
  go_loopw [3, 4, 9] (fun s3 s4 s9 wr => ∃ (i : Nat) (T : Tr) (last : ByteArray) (S : RdV), i ≤ n ∧ s9 = .int .u64 (i : Int) ∧ s3 = .pointer T.ptr ∧ s4 = .string last ∧ TreeAt wr T ∧ T.cnt ≤ i ∧ RdAt wr g S ∧ But g w.heap.size w wr ∧ RdV.keysP (n - i) T.sh last S = F) (fun _ _ s9 _ => n - (intOf s9).toNat)
  case atStart => exact ⟨0, .nil, ByteArray.empty, R1, by omega, rfl, rfl, rfl, trivial, Nat.le_refl _, H2.out.1, H2.out.2.but _, HF.out⟩
  case round =>
    obtain ⟨i, T, last, S, hi, rfl, rfl, rfl, hat, hcnt, hr, hbut, hfin⟩ := hrel
    clear H2 HF
    have Hat := Lib.hid hat; clear hat
    have Hr := Lib.hid hr; clear hr
    have Hbut := Lib.hid (And.intro hbut hcnt); clear hbut hcnt
    by_cases hlt2 : i < n
    · have hlt' : (i : Int) < (n : Int) := by omega
      have hsucc := tsucc_u (n := i) (by omega)
      rw [show n - i = (n - (i + 1)) + 1 by omega] at hfin
      unfold RdV.keysP at hfin
      obtain ⟨XP, hXP⟩ : ∃ x, S.pair last = x := ⟨_, rfl⟩
      rw [hXP] at hfin
      have Hfin := Lib.hid hfin; clear hfin
      unfold RdV.pair at hXP
      have h16 : Calls Try.prog 122 #[.pointer (some ⟨g, 0, none⟩), .int .i64 16] wr fun e w' => e = .returned (.string ⟨(S.str 16).1.toArray⟩) ∧ RdAt w' g (S.str 16).2 ∧ Only g wr w' := rstr2_any S 16 g (by omega) wr Hr.out
      have hk16 : (S.str 16).1.length ≤ 16 := str_most S 16
      generalize S.str 16 = X at *
      obtain ⟨kl, S1⟩ := X
      simp only at h16 hXP hk16
      have H64 := Lib.hid (fun (y : World) (hy : RdAt y g S1) => (show Calls Try.prog 122 #[.pointer (some ⟨g, 0, none⟩), .int .i64 64] y fun e w' => e = .returned (.string ⟨(S1.str 64).1.toArray⟩) ∧ RdAt w' g (S1.str 64).2 ∧ Only g y w' from rstr2_any S1 64 g (by omega) y hy))
      generalize S1.str 64 = X at *
      obtain ⟨vl, S2⟩ := X
      simp only at H64 hXP
      have H16 := Lib.hid h16; clear h16
      have hks : (⟨kl.toArray⟩ : ByteArray).size ≤ maxLen := by rw [bs_size]; unfold maxLen; omega
      obtain ⟨k, hk⟩ : ∃ k : ByteArray, ⟨kl.toArray⟩ = k := ⟨_, rfl⟩
      obtain ⟨v, hv⟩ : ∃ k : ByteArray, ⟨vl.toArray⟩ = k := ⟨_, rfl⟩
      rw [hk] at H16 hXP hks
      rw [hv] at H64 hXP
      clear hk hv hk16
      have HXP := Lib.hid hXP; clear hXP
      have Hks := Lib.hid hks; clear hks
      have Hbad := Lib.hid (fun (y : World) (hy : RdAt y g S2) => bad_any S2 g y hy)
      go_upto_region 7 with (first
        | ((with_reducible refine H16.out.mono ?_); rintro e w3 ⟨rfl, h3⟩; have H3 := Lib.hid h3; clear h3 H16)
        | ((with_reducible refine (H64.out _ H3.out.1).mono ?_); rintro e w4 ⟨rfl, h4⟩; have H4 := Lib.hid (And.intro h4.1 (H3.out.2.trans h4.2)); clear h4 H64))
      clear H3
      obtain ⟨sb, hsb⟩ : ∃ b, slt last k = b := ⟨_, rfl⟩
      have hle : (Op.bytesLess k.toList last.toList || k.toList == last.toList) = !sb := by
        rw [← hsb]
        exact sle_not k last
      have hqx := HXP.out
      rw [hsb] at hqx
      clear hsb
      go_upto_if 17 with fail
      go_cut [17] (fun _ wx => RdAt wx g XP.2 ∧ Only g wr wx)
      case first =>
        cases sb with
        | true =>
          simp only [Bool.not_true] at hle
          simp only [if_true] at hqx
          go_wp2_with fail
          go_meet
          rw [← hqx]
          exact H4.out
        | false =>
          simp only [Bool.not_false] at hle
          simp only [Bool.false_eq_true, if_false] at hqx
          go_wp2_with ((with_reducible refine (Hbad.out _ H4.out.1).mono ?_); rintro e w5 ⟨rfl, h5⟩; have H5 := Lib.hid (And.intro h5.1 (H4.out.2.trans h5.2)); clear h5)
          go_meet
          rw [← hqx]
          exact H5.out
      case rest =>
      obtain ⟨hc1, hc2⟩ := hcut
      generalize wc = w5 at *
      have hx1 : XP.1 = (k, v) := by rw [← HXP.out]
      have hfin := Hfin.out
      rw [hx1] at hfin
      simp only at hfin
      obtain ⟨XK, RX⟩ := XP
      simp only at hfin hc1
      have Hat5 := Lib.hid (TreeAt.only Hr.out hc1 hc2 Hat.out)
      have Hc1 := Lib.hid hc1
      have Hbut5 := Lib.hid (Hbut.out.1.trans (hc2.but _))
      have Herr := Lib.hid (err_any RX g w5 hc1)
      clear hc1 hc2 hx1 H4 Hbad hqx hle Hfin Hat
      by_cases he : RX.e = 0
      · have he' : ((RX.e : Int) != 0) = false := by simp [he]
        rw [if_pos he] at hfin
        have Hfin := Lib.hid hfin; clear hfin he
        have Hput := Lib.hid (putT_any k v Hks.out T w5.heap.size w5 (Nat.le_refl _) Hat5.out.lo Hat5.out (by have := Hbut.out.2; omega))
        go_wp2_with (first
          | ((with_reducible refine Herr.out.mono ?_); rintro e w' ⟨rfl, rfl⟩)
          | ((with_reducible refine Hput.out.mono ?_); rintro e w6 ⟨X, rfl, hX⟩; have HX := Lib.hid hX; clear hX))
        go_roundw
        case rel => exact ⟨i + 1, X, k, RX, hlt2, rfl, rfl, rfl, HX.out.at_, by have := HX.out.num; have := Hbut.out.2; omega, Hc1.out.below HX.out.bel, Hbut5.out.trans (but_of (HX.out.bel.mono Hbut5.out.size) g), by rw [HX.out.shp, sh_look]; exact Hfin.out⟩
        case measure => simp [intOf]; omega
      · have he' : ((RX.e : Int) != 0) = true := by rw [bne_iff_ne]; omega
        rw [if_neg he] at hfin
        have Hfin := Lib.hid hfin; clear hfin he
        go_wp2_with ((with_reducible refine Herr.out.mono ?_); rintro e w' ⟨rfl, rfl⟩)
        go_ret
        exact ⟨.nil, rfl, trivial, by rw [← Hfin.out]; rfl, by rw [← Hfin.out]; exact Hc1.out, Hbut5.out⟩
    · have hlt' : ¬ (i : Int) < (n : Int) := by omega
      rw [show n - i = 0 by omega] at hfin
      have Hfin := Lib.hid hfin; clear hfin
      go_wp2_with fail
      go_ret
      exact ⟨T, rfl, Hat.out, by rw [← Hfin.out]; rfl, by rw [← Hfin.out]; exact Hr.out, Hbut.out.1⟩
end Go.Proofs.Ytkngadbeflepoaa
