/- Readers: fail, failed, take, Byte, Bad, Err, End. Condition: the reader lies there. -/
import Derived.Laws.BitsAllLaws
import Derived.Test.YtogfladmgbldcaaGreatDoorZLogBits1
import Derived.Deep.DeepCutAuto
import Derived.Test.YtogfladmgbldcaaGreatDoorZLogBits0
import Derived.Laws.EntriesVeiled
import Derived.WalkKit
import Derived.Laws.IdiomStrings
import Derived.Test.YtogfladmgbldcaaGreatDoorRows
namespace Go.Proofs.YtogfladmgbldcaaGreatDoor
open Go.RowKit
/-- Nothing but one block is another. -/
structure Only (g : Nat) (w w' : World) : Prop where
  os : w'.os = w.os
  tape : w'.tape = w.tape
  output : w'.output = w.output
  size : w'.heap.size = w.heap.size
  block : ∀ k, k ≠ g → w'.heap[k]? = w.heap[k]?
theorem Only.refl (g : Nat) (w : World) : Only g w w := ⟨rfl, rfl, rfl, rfl, fun _ _ => rfl⟩
theorem Only.trans {g : Nat} {a b c : World} (h : Only g a b) (k : Only g b c) : Only g a c :=
  ⟨k.os.trans h.os, k.tape.trans h.tape, k.output.trans h.output, k.size.trans h.size, fun i hi => (k.block i hi).trans (h.block i hi)⟩
theorem Only.below {g n : Nat} {w0 a b : World} (h : Below n w0 a) (k : Only g a b) (hg : n ≤ g) : Below n w0 b :=
  ⟨k.os.trans h.os, k.tape.trans h.tape, k.output.trans h.output, by rw [k.size]; exact h.size, fun i hi => (k.block i (by omega)).trans (h.block i hi)⟩
theorem Only.set (g i : Nat) (w : World) (v : Value) : Only g w (w.setCell ⟨g, i, none⟩ v) := by
  have h := below_setV (x := v) (i := i) (b := g) (Below.refl 0 w) (Nat.zero_le _)
  refine ⟨h.os, h.tape, h.output, ?_, fun k hk => Below.heap_setCell _ _ _ _ (by exact hk)⟩
  unfold World.setCell
  split <;> simp
def rdCells (R : RdV) : List Value := [.int .i64 (R.e : Int), .string ⟨R.s.toArray⟩]
/-- A reader lies there. -/
structure RdAt (w : World) (g : Nat) (R : RdV) : Prop where
  row : w.heap[g]? = some (.cells (rdCells R).toArray 130 (0, 0))
  len : R.s.length ≤ maxLen
theorem RdAt.cells {w : World} {g : Nat} {R : RdV} (h : RdAt w g R) : w.cell? ⟨g, 0, none⟩ = some (.int .i64 (R.e : Int)) ∧ w.cell? ⟨g, 1, none⟩ = some (.string ⟨R.s.toArray⟩) :=
  ⟨cell_of_row _ _ _ _ _ _ h.row, cell_of_row _ _ _ _ _ _ h.row⟩
theorem RdAt.thawed {w : World} {g : Nat} {R : RdV} (h : RdAt w g R) (j : Nat) : w.frozen? ⟨g, j, none⟩ = false := by
  have h := h.row
  simp [World.frozen?, h]
theorem RdAt.lt {w : World} {g : Nat} {R : RdV} (h : RdAt w g R) : g < w.heap.size := (Array.getElem?_eq_some_iff.1 h.row).1
theorem RdAt.below {w w' : World} {g : Nat} {R : RdV} (h : RdAt w g R) (hb : Below w.heap.size w w') : RdAt w' g R := ⟨(hb.block g h.lt).trans h.row, h.len⟩
theorem RdAt.other {w w' : World} {g q : Nat} {R : RdV} (h : RdAt w g R) (hq : g ≠ q) (ho : Only q w w') : RdAt w' g R := ⟨(ho.block g hq).trans h.row, h.len⟩
theorem RdAt.err {w : World} {g e : Nat} {s : List UInt8} (h : RdAt w g ⟨e, s⟩) (c : Nat) : RdAt (w.setCell ⟨g, 0, none⟩ (.int .i64 (c : Int))) g ⟨c, s⟩ := by
  refine ⟨?_, h.len⟩
  rw [heap_setCell_same _ _ _ _ _ _ h.row]
  rfl
theorem RdAt.rest {w : World} {g e : Nat} {s : List UInt8} (h : RdAt w g ⟨e, s⟩) (t : List UInt8) (ht : t.length ≤ s.length) : RdAt (w.setCell ⟨g, 1, none⟩ (.string ⟨t.toArray⟩)) g ⟨e, t⟩ := by
  refine ⟨?_, Nat.le_trans ht h.len⟩
  rw [heap_setCell_same _ _ _ _ _ _ h.row]
  rfl
theorem bs_extract (l : List UInt8) (a b : Nat) : (⟨l.toArray⟩ : ByteArray).extract a b = ⟨((l.take b).drop a).toArray⟩ := by
  apply ByteArray.ext
  rw [ByteArray.data_extract]
  simp [List.drop_take]
set_option maxHeartbeats 4000000 in
theorem fail_any (R : RdV) (c g : Nat) (w : World) (h : RdAt w g R) :
    Calls Tryz.prog 86 #[.pointer (some ⟨g, 0, none⟩), .int .i64 (c : Int)] w fun e w' => e = .returned (.tuple #[]) ∧ RdAt w' g (R.fail c) ∧ Only g w w' := by
  obtain ⟨e, s⟩ := R
  obtain ⟨f0, f1⟩ := h.cells
  have f2 := h.thawed 0
  unfold RdV.fail
  by_cases he : e = 0
  · subst he
    rw [if_pos rfl]
    have hh := h.err c
    have H := Lib.hid h; clear h
    have HH := Lib.hid (And.intro hh (Only.set g 0 w (.int .i64 (c : Int)))); clear hh
    go_enter Tryz.func86, Tryz.ntmps86
    go_wp2_with fail
    refine bodyPost_end (results_none rfl _ _ _) rfl ?_
    exact ⟨rfl, HH.out.1, HH.out.2⟩
  · rw [if_neg he]
    have he' : ((e : Int) == 0) = false := by rw [beq_eq_false_iff_ne]; omega
    have H := Lib.hid h; clear h
    have HE := Lib.hid he; clear he
    go_enter Tryz.func86, Tryz.ntmps86
    go_wp2_with fail
    refine bodyPost_end (results_none rfl _ _ _) rfl ?_
    exact ⟨rfl, H.out, Only.refl _ _⟩
theorem fail_short (R : RdV) (g : Nat) (w : World) (h : RdAt w g R) :
    Calls Tryz.prog 86 #[.pointer (some ⟨g, 0, none⟩), .int .i64 3] w fun e w' => e = .returned (.tuple #[]) ∧ RdAt w' g (R.fail 3) ∧ Only g w w' := fail_any R 3 g w h
theorem fail_form (R : RdV) (g : Nat) (w : World) (h : RdAt w g R) :
    Calls Tryz.prog 86 #[.pointer (some ⟨g, 0, none⟩), .int .i64 4] w fun e w' => e = .returned (.tuple #[]) ∧ RdAt w' g (R.fail 4) ∧ Only g w w' := fail_any R 4 g w h
set_option maxHeartbeats 4000000 in
theorem failed_any (R : RdV) (g : Nat) (w : World) (h : RdAt w g R) :
    Calls Tryz.prog 105 #[.pointer (some ⟨g, 0, none⟩)] w fun e w' => e = .returned (.bool (decide (R.e ≠ 0))) ∧ w = w' := by
  obtain ⟨f0, f1⟩ := h.cells
  obtain ⟨b, hb⟩ : ∃ b, decide (R.e ≠ 0) = b := ⟨_, rfl⟩
  have hb' : ((R.e : Int) != 0) = b := by
    rw [← hb]
    by_cases h0 : R.e = 0
    · simp [h0]
    · have : (R.e : Int) ≠ 0 := by omega
      simp [h0]
  rw [hb]
  clear h hb
  go_enter Tryz.func105, Tryz.ntmps105
  go_wp2_with fail
  go_ret
  exact ⟨rfl, rfl⟩
theorem take_str (l : List UInt8) (n : Nat) : (⟨l.toArray⟩ : ByteArray).extract 0 n = ⟨(l.take n).toArray⟩ ∧ (⟨l.toArray⟩ : ByteArray).extract n l.length = ⟨(l.drop n).toArray⟩ := by
  refine ⟨by rw [bs_extract]; simp, by rw [bs_extract]; simp⟩
set_option maxHeartbeats 8000000 in
theorem take_any (R : RdV) (n : Nat) (_ : n < 18446744073709551616) (g : Nat) (w : World) (h : RdAt w g R) :
    Calls Tryz.prog 85 #[.pointer (some ⟨g, 0, none⟩), .int .u64 (n : Int)] w fun e w' => e = .returned (.tuple #[.string ⟨(R.take n).1.toArray⟩, .bool (R.take n).2.1]) ∧ RdAt w' g (R.take n).2.2 ∧ Only g w w' := by
  have hfd := failed_any R g w h
  obtain ⟨e, s⟩ := R
  have hlen := h.len
  unfold maxLen at hlen
  simp only at hlen hfd
  obtain ⟨f0, f1⟩ := h.cells
  simp only at f0 f1
  have f3 := h.thawed 1
  unfold RdV.take
  by_cases he : e = 0
  · subst he
    have hfd : Calls Tryz.prog 105 #[.pointer (some ⟨g, 0, none⟩)] w fun e w' => e = .returned (.bool false) ∧ w = w' := hfd
    simp only [if_true]
    have Hfd := Lib.hid hfd; clear hfd
    have hsz := bs_size s
    have hwrap : IntKind.u64.wrap (s.length : Int) = (s.length : Int) := by rw [IntKind.wrap_u64]; omega
    by_cases hs : n ≤ s.length
    · rw [if_pos hs]
      obtain ⟨t1, t2⟩ := take_str s n
      have hs' : ¬ (s.length : Int) < (n : Int) := by omega
      have HH := Lib.hid (And.intro (h.rest (s.drop n) (by simp)) (Only.set g 1 w (.string ⟨(s.drop n).toArray⟩)))
      have H := Lib.hid h; clear h
      go_enter Tryz.func85, Tryz.ntmps85
      go_wp2_with ((with_reducible refine Hfd.out.mono ?_); rintro e w' ⟨rfl, rfl⟩)
      refine bodyPost_ret (v := .tuple #[.string ⟨(s.take n).toArray⟩, .bool true]) (by simp [results, Tryz.results85, go_sem]) rfl ?_
      exact ⟨rfl, HH.out.1, HH.out.2⟩
    · rw [if_neg hs]
      have hs' : (s.length : Int) < (n : Int) := by omega
      have hfl := fail_short ⟨0, s⟩ g w h
      have Hfl := Lib.hid hfl; clear hfl
      have H := Lib.hid h; clear h
      go_enter Tryz.func85, Tryz.ntmps85
      go_wp2_with (first
        | ((with_reducible refine Hfd.out.mono ?_); rintro e w' ⟨rfl, rfl⟩)
        | ((with_reducible refine Hfl.out.mono ?_); rintro e w2 ⟨rfl, h2⟩; have H2 := Lib.hid h2; clear h2))
      refine bodyPost_ret (v := .tuple #[Value.string ⟨#[]⟩, .bool false]) (by simp [results, Tryz.results85, go_sem]) rfl ?_
      exact ⟨rfl, H2.out⟩
  · have hfd : Calls Tryz.prog 105 #[.pointer (some ⟨g, 0, none⟩)] w fun e w' => e = .returned (.bool true) ∧ w = w' := by simpa [he] using hfd
    rw [if_neg he]
    have Hfd := Lib.hid hfd; clear hfd
    have H := Lib.hid h; clear h
    go_enter Tryz.func85, Tryz.ntmps85
    go_wp2_with ((with_reducible refine Hfd.out.mono ?_); rintro e w' ⟨rfl, rfl⟩)
    refine bodyPost_ret (v := .tuple #[Value.string ⟨#[]⟩, .bool false]) (by simp [results, Tryz.results85, go_sem]) rfl ?_
    exact ⟨rfl, H.out, Only.refl _ _⟩
set_option maxHeartbeats 8000000 in
theorem byte_any (R : RdV) (g : Nat) (w : World) (h : RdAt w g R) :
    Calls Tryz.prog 84 #[.pointer (some ⟨g, 0, none⟩)] w fun e w' => e = .returned (.int .u8 (R.byte.1.toNat : Int)) ∧ RdAt w' g R.byte.2 ∧ Only g w w' := by
  have ht : Calls Tryz.prog 85 #[.pointer (some ⟨g, 0, none⟩), .int .u64 1] w fun e w' => e = .returned (.tuple #[.string ⟨(R.take 1).1.toArray⟩, .bool (R.take 1).2.1]) ∧ RdAt w' g (R.take 1).2.2 ∧ Only g w w' := take_any R 1 (by omega) g w h
  clear h
  unfold RdV.byte
  have hcase : ((R.take 1).2.1 = true ∧ (R.take 1).1.length = 1) ∨ ((R.take 1).2.1 = false ∧ (R.take 1).1 = []) := by
    unfold RdV.take
    split
    · split
      · exact .inl ⟨rfl, by simp; omega⟩
      · exact .inr ⟨rfl, rfl⟩
    · exact .inr ⟨rfl, rfl⟩
  generalize R.take 1 = X at *
  obtain ⟨t, b, R2⟩ := X
  simp only at ht hcase ⊢
  rcases hcase with ⟨rfl, hl⟩ | ⟨rfl, rfl⟩
  · match t, hl with
    | [x], _ =>
      have Ht := Lib.hid ht; clear ht
      go_enter Tryz.func84, Tryz.ntmps84
      go_wp2_with ((with_reducible refine Ht.out.mono ?_); rintro e w2 ⟨rfl, h2⟩; have H2 := Lib.hid h2; clear h2)
      go_ret
      exact ⟨rfl, H2.out⟩
  · have Ht := Lib.hid ht; clear ht
    go_enter Tryz.func84, Tryz.ntmps84
    go_wp2_with ((with_reducible refine Ht.out.mono ?_); rintro e w2 ⟨rfl, h2⟩; have H2 := Lib.hid h2; clear h2)
    go_ret
    exact ⟨rfl, H2.out⟩
set_option maxHeartbeats 4000000 in
theorem bad_any (R : RdV) (g : Nat) (w : World) (h : RdAt w g R) :
    Calls Tryz.prog 81 #[.pointer (some ⟨g, 0, none⟩)] w fun e w' => e = .returned (.tuple #[]) ∧ RdAt w' g (R.fail 4) ∧ Only g w w' := by
  have Hfl := Lib.hid (fail_form R g w h); clear h
  go_enter Tryz.func81, Tryz.ntmps81
  go_wp2_with ((with_reducible refine Hfl.out.mono ?_); rintro e w2 ⟨rfl, h2⟩; have H2 := Lib.hid h2; clear h2)
  refine bodyPost_end (results_none rfl _ _ _) rfl ?_
  exact ⟨rfl, H2.out⟩
set_option maxHeartbeats 4000000 in
theorem err_any (R : RdV) (g : Nat) (w : World) (h : RdAt w g R) :
    Calls Tryz.prog 82 #[.pointer (some ⟨g, 0, none⟩)] w fun e w' => e = .returned (.int .i64 (R.e : Int)) ∧ w = w' := by
  obtain ⟨f0, f1⟩ := h.cells
  clear h
  go_enter Tryz.func82, Tryz.ntmps82
  go_wp2_with fail
  go_ret
  exact ⟨rfl, rfl⟩
end Go.Proofs.YtogfladmgbldcaaGreatDoor
namespace Go.Proofs.YtogfladmgbldcaaGreatDoor
open Go.RowKit
theorem bigN_take {l : List UInt8} {i : Nat} (hi : i < l.length) : bigN (l.take (i + 1)) = bigN (l.take i) * 256 + (l.getD i 0).toNat := by
  rw [List.take_succ_eq_append_getElem hi, bigN_snoc]
  simp [List.getD, List.getElem?_eq_getElem hi]
theorem bigN_small {l : List UInt8} {i : Nat} (hl : l.length ≤ 8) (hi : i < l.length) : bigN (l.take i) < 72057594037927936 := by
  have h := bigN_lt (l.take i)
  rw [List.length_take] at h
  have h2 : (256 : Nat) ^ min i l.length ≤ 256 ^ 7 := Nat.pow_le_pow_right (by omega) (by omega)
  have h3 : (256 : Nat) ^ 7 = 72057594037927936 := by decide
  omega
theorem bigN_most {l : List UInt8} (hl : l.length ≤ 8) : bigN l < 18446744073709551616 := by
  have h := bigN_lt l
  have h2 : (256 : Nat) ^ l.length ≤ 256 ^ 8 := Nat.pow_le_pow_right (by omega) (by omega)
  have h3 : (256 : Nat) ^ 8 = 18446744073709551616 := by decide
  omega
theorem take_cases (R : RdV) (n : Nat) : ((R.take n).2.1 = true ∧ (R.take n).1.length = n) ∨ ((R.take n).2.1 = false ∧ (R.take n).1 = []) := by
  unfold RdV.take
  split
  · split
    · exact .inl ⟨rfl, by simp; omega⟩
    · exact .inr ⟨rfl, rfl⟩
  · exact .inr ⟨rfl, rfl⟩
theorem or_bv (x y : BitVec 64) : bits .or .u64 (x.toNat : Int) (y.toNat : Int) = ((x ||| y).toNat : Int) := by
  have h : ∀ z : BitVec 64, BitVec.ofInt 64 (z.toNat : Int) = z := fun z => by rw [BitVec.ofInt_natCast]; simp
  show IntKind.u64.wrap ((BitVec.ofInt 64 (x.toNat : Int) ||| BitVec.ofInt 64 (y.toNat : Int)).toNat : Int) = _
  rw [h, h, IntKind.wrap_u64]
  have := (x ||| y).isLt
  omega
theorem or_add (n b : Nat) (hn : n < 72057594037927936) (hb : b < 256) : bits BinOp.or IntKind.u64 ((n : Int) * 256) (IntKind.u64.wrap (b : Int)) = ((n * 256 + b : Nat) : Int) := by
  have h := or_bv (BitVec.ofNat 64 (n * 256)) (BitVec.ofNat 64 b)
  have e1 : (BitVec.ofNat 64 (n * 256)).toNat = n * 256 := by simp; omega
  have e2 : (BitVec.ofNat 64 b).toNat = b := by simp; omega
  rw [BitVec.toNat_or, e1, e2] at h
  rw [IntKind.wrap_u64, show ((n : Int) * 256) = ((n * 256 : Nat) : Int) by omega, show (b : Int) % 18446744073709551616 = (b : Int) by omega, h]
  congr 1
  rw [show n * 256 = 2 ^ 8 * n by omega]
  exact (Nat.two_pow_add_eq_or_of_lt hb n).symm
set_option maxRecDepth 100000 in
set_option maxHeartbeats 16000000 in
theorem rnumber_any (R : RdV) (g : Nat) (w : World) (h : RdAt w g R) :
    Calls Tryz.prog 64 #[.pointer (some ⟨g, 0, none⟩)] w fun e w' => e = .returned (.int .u64 (R.num.1 : Int)) ∧ RdAt w' g R.num.2 ∧ Only g w w' := by
  have hb := byte_any R g w h
  unfold RdV.num
  clear h
  obtain ⟨⟨b, R1⟩, hB⟩ : ∃ x, R.byte = x := ⟨_, rfl⟩
  rw [hB] at hb ⊢
  simp only at hb ⊢
  clear hB
  have hb8 := b.toNat_lt
  obtain ⟨n, hn⟩ : ∃ n, b.toNat = n := ⟨_, rfl⟩
  rw [hn] at hb hb8 ⊢
  clear hn
  have Hb := Lib.hid hb; clear hb
  by_cases h248 : n < 248
  · rw [if_pos h248]
    have hlt' : (n : Int) < 248 := by omega
    have hwrap : IntKind.u64.wrap (n : Int) = (n : Int) := by rw [IntKind.wrap_u64]; omega
    clear hb8 h248
    go_enter Tryz.func64, Tryz.ntmps64
    go_wp2_with ((with_reducible refine Hb.out.mono ?_); rintro e w2 ⟨rfl, h2⟩; have H2 := Lib.hid h2; clear h2)
    go_ret
    exact ⟨rfl, H2.out⟩
  · rw [if_neg h248]
    have hlt' : ¬ (n : Int) < 248 := by omega
    obtain ⟨k, hk⟩ : ∃ k, n = k + 247 := ⟨n - 247, by omega⟩
    subst hk
    rw [show k + 247 - 247 = k by omega]
    have hk8 : k ≤ 8 := by omega
    have hsub : IntKind.i64.wrap (((k + 247 : Nat) : Int) - 247) = (k : Int) := by rw [IntKind.wrap_i64]; omega
    have hwr1 : IntKind.i64.wrap ((k + 247 : Nat) : Int) = ((k + 247 : Nat) : Int) := by rw [IntKind.wrap_i64]; omega
    have hwr2 : IntKind.u64.wrap (k : Int) = (k : Int) := by rw [IntKind.wrap_u64]; omega
    have Ht := Lib.hid (fun (y : World) (hy : RdAt y g R1) => take_any R1 k (by omega) g y hy)
    unfold RdV.wide
    have hcase := take_cases R1 k
    generalize R1.take k = X at *
    obtain ⟨t, ok, R2⟩ := X
    simp only at Ht hcase ⊢
    clear hb8 h248
    obtain ⟨m, hm⟩ : ∃ m : Int, ((k + 247 : Nat) : Int) = m := ⟨_, rfl⟩
    rw [hm] at Hb hlt' hsub hwr1
    clear hm
    rcases hcase with ⟨rfl, hl⟩ | ⟨rfl, rfl⟩
    · simp only [if_true]
      obtain ⟨⟨rn, RR⟩, hres⟩ : ∃ x, (if bigN t < 248 ∨ wid (bigN t) ≠ k then (0, R2.fail 4) else (bigN t, R2)) = x := ⟨_, rfl⟩
      rw [hres]
      have Hres := Lib.hid hres; clear hres
      have hk1 : (k : Int) ≤ 8 := by omega
      go_enter Tryz.func64, Tryz.ntmps64
      go_upto_region 9 with (first
        | ((with_reducible refine Hb.out.mono ?_); rintro e w2 ⟨rfl, h2⟩; have H2 := Lib.hid h2; clear h2 Hb)
        | ((with_reducible refine (Ht.out _ H2.out.1).mono ?_); rintro e w3 ⟨rfl, h3⟩; have H3 := Lib.hid (And.intro h3.1 (H2.out.2.trans h3.2)); clear h3 H2 Ht))
      go_wp2_with fail
      go_loopw [7, 28] (fun s7 s28 wr => ∃ i : Nat, i ≤ k ∧ s28 = .int .i64 (i : Int) ∧ s7 = .int .u64 (bigN (t.take i) : Int) ∧ w3 = wr) (fun _ s28 _ => k - (intOf s28).toNat)
      case atStart => exact ⟨0, by omega, rfl, rfl, rfl⟩
      case round =>
        obtain ⟨i, hi, rfl, rfl, rfl⟩ := hrel
        by_cases hlt : i < k
        · have hlt2 : (i : Int) < (k : Int) := by omega
          have hsucc := tsucc (n := i) (by omega)
          have hst := bigN_take (l := t) (i := i) (by omega)
          have hsm := bigN_small (l := t) (i := i) (by omega) (by omega)
          have hch : (⟨t.toArray⟩ : ByteArray).size = k := by rw [bs_size]; exact hl
          have hor := or_add (bigN (t.take i)) (t.getD i 0).toNat hsm (t.getD i 0).toNat_lt
          have hix : (⟨t.toArray⟩ : ByteArray)[i]'(by rw [hch]; exact hlt) = t.getD i 0 := by
            show t.toArray[i]'(by simp; omega) = _
            simp [List.getD, List.getElem?_eq_getElem (show i < t.length by omega)]
          rw [← hst] at hor
          rw [← hix] at hor
          clear hst hix
          go_wp2_with fail
          refine ⟨⟨i + 1, hlt, by simp, ?_, trivial⟩, by simp [intOf]; omega⟩
          rw [← hor]
        · have hlt2 : ¬ (i : Int) < (k : Int) := by omega
          have hall : t.take i = t := List.take_of_length_le (by omega)
          rw [hall]
          have hb64 := bigN_most (l := t) (by omega)
          obtain ⟨N, hN⟩ : ∃ N, bigN t = N := ⟨_, rfl⟩
          have hq := Hres.out
          rw [hN] at hb64 hq
          have Hwd := Lib.hid (fun y : World => width_any N (by omega) y)
          have Hfl := Lib.hid (fun (y : World) (hy : RdAt y g R2) => fail_form R2 g y hy)
          obtain ⟨v, hv⟩ : ∃ v, wid N = v := ⟨_, rfl⟩
          rw [hv] at Hwd hq
          clear hb64 hall hv
          have HN := Lib.hid hN; clear hN
          by_cases c1 : N < 248
          · have c1' : (N : Int) < 248 := by omega
            rw [if_pos (.inl c1)] at hq
            cases hq
            rw [HN.out]
            clear c1
            go_wp2_with (first
              | ((with_reducible refine (Hwd.out _).mono ?_); rintro e w' ⟨rfl, rfl⟩)
              | ((with_reducible refine (Hfl.out _ H3.out.1).mono ?_); rintro e w4 ⟨rfl, h4⟩; have H4 := Lib.hid (And.intro h4.1 (H3.out.2.trans h4.2)); clear h4))
            go_ret
            exact ⟨rfl, H4.out⟩
          · have c1' : ¬ (N : Int) < 248 := by omega
            by_cases c2 : v = k
            · subst c2
              rw [if_neg (by omega)] at hq
              cases hq
              rw [HN.out]
              clear c1
              go_wp2_with ((with_reducible refine (Hwd.out _).mono ?_); rintro e w' ⟨rfl, rfl⟩)
              go_ret
              exact ⟨rfl, H3.out⟩
            · have c2' : ((v : Int) != (k : Int)) = true := by rw [bne_iff_ne]; omega
              rw [if_pos (.inr c2)] at hq
              cases hq
              rw [HN.out]
              have C2 := Lib.hid c2; clear c1 c2
              go_wp2_with (first
                | ((with_reducible refine (Hwd.out _).mono ?_); rintro e w' ⟨rfl, rfl⟩)
                | ((with_reducible refine (Hfl.out _ H3.out.1).mono ?_); rintro e w4 ⟨rfl, h4⟩; have H4 := Lib.hid (And.intro h4.1 (H3.out.2.trans h4.2)); clear h4))
              go_ret
              exact ⟨rfl, H4.out⟩
    · simp only [Bool.false_eq_true, if_false]
      go_enter Tryz.func64, Tryz.ntmps64
      go_wp2_with (first
        | ((with_reducible refine Hb.out.mono ?_); rintro e w2 ⟨rfl, h2⟩; have H2 := Lib.hid h2; clear h2 Hb)
        | ((with_reducible refine (Ht.out _ H2.out.1).mono ?_); rintro e w3 ⟨rfl, h3⟩; have H3 := Lib.hid (And.intro h3.1 (H2.out.2.trans h3.2)); clear h3 H2 Ht))
      go_ret
      exact ⟨rfl, H3.out⟩
theorem rnum_lt (R : RdV) : R.num.1 < 18446744073709551616 := by
  unfold RdV.num
  have hb := R.byte.1.toNat_lt
  split
  · show R.byte.1.toNat < _
    omega
  · unfold RdV.wide
    rcases take_cases R.byte.2 (R.byte.1.toNat - 247) with ⟨h1, h2⟩ | ⟨h1, h2⟩
    · rw [if_pos h1]
      split
      · show 0 < _
        omega
      · exact bigN_most (by omega)
    · rw [h1]
      simp
set_option maxRecDepth 100000 in
set_option maxHeartbeats 8000000 in
theorem below_any (R : RdV) (n g : Nat) (w : World) (h : RdAt w g R) :
    Calls Tryz.prog 87 #[.pointer (some ⟨g, 0, none⟩), .int .u64 (n : Int)] w fun e w' => e = .returned (.int .u64 ((R.below n).1 : Int)) ∧ RdAt w' g (R.below n).2 ∧ Only g w w' := by
  have hb := rnumber_any R g w h
  have hlt := rnum_lt R
  unfold RdV.below
  clear h
  generalize R.num = X at *
  obtain ⟨v, R1⟩ := X
  simp only at hb hlt ⊢
  have hwrap : IntKind.u64.wrap (v : Int) = (v : Int) := by rw [IntKind.wrap_u64]; omega
  clear hlt
  have Hb := Lib.hid hb; clear hb
  obtain ⟨b, hbe⟩ : ∃ b, decide (R1.e ≠ 0) = b := ⟨_, rfl⟩
  have Hfd := Lib.hid (fun (y : World) (hy : RdAt y g R1) => (show Calls Tryz.prog 105 #[.pointer (some ⟨g, 0, none⟩)] y fun e w' => e = .returned (.bool b) ∧ y = w' by rw [← hbe]; exact failed_any R1 g y hy))
  have Hfl := Lib.hid (fun (y : World) (hy : RdAt y g R1) => fail_form R1 g y hy)
  by_cases he : R1.e = 0
  · rw [if_pos he]
    have hb0 : b = false := by rw [← hbe]; simp [he]
    subst hb0
    clear hbe he
    by_cases hv : v < n
    · have hv' : ¬ (n : Int) ≤ (v : Int) := by omega
      rw [if_pos hv]
      go_enter Tryz.func87, Tryz.ntmps87
      go_wp2_with (first
        | ((with_reducible refine Hb.out.mono ?_); rintro e w2 ⟨rfl, h2⟩; have H2 := Lib.hid h2; clear h2 Hb)
        | ((with_reducible refine (Hfd.out _ H2.out.1).mono ?_); rintro e w' ⟨rfl, rfl⟩))
      go_ret
      exact ⟨rfl, H2.out⟩
    · have hv' : (n : Int) ≤ (v : Int) := by omega
      rw [if_neg hv]
      go_enter Tryz.func87, Tryz.ntmps87
      go_wp2_with (first
        | ((with_reducible refine Hb.out.mono ?_); rintro e w2 ⟨rfl, h2⟩; have H2 := Lib.hid h2; clear h2 Hb)
        | ((with_reducible refine (Hfd.out _ H2.out.1).mono ?_); rintro e w' ⟨rfl, rfl⟩)
        | ((with_reducible refine (Hfl.out _ H2.out.1).mono ?_); rintro e w4 ⟨rfl, h4⟩; have H4 := Lib.hid (And.intro h4.1 (H2.out.2.trans h4.2)); clear h4))
      go_ret
      exact ⟨rfl, H4.out⟩
  · rw [if_neg he]
    have hb0 : b = true := by rw [← hbe]; simp [he]
    subst hb0
    clear hbe he
    go_enter Tryz.func87, Tryz.ntmps87
    go_wp2_with (first
      | ((with_reducible refine Hb.out.mono ?_); rintro e w2 ⟨rfl, h2⟩; have H2 := Lib.hid h2; clear h2 Hb)
      | ((with_reducible refine (Hfd.out _ H2.out.1).mono ?_); rintro e w' ⟨rfl, rfl⟩))
    go_ret
    exact ⟨rfl, H2.out⟩
set_option maxHeartbeats 4000000 in
theorem rbelow_any (R : RdV) (n g : Nat) (w : World) (h : RdAt w g R) :
    Calls Tryz.prog 80 #[.pointer (some ⟨g, 0, none⟩), .int .u64 (n : Int)] w fun e w' => e = .returned (.int .u64 ((R.below n).1 : Int)) ∧ RdAt w' g (R.below n).2 ∧ Only g w w' := by
  have Hb := Lib.hid (below_any R n g w h); clear h
  go_enter Tryz.func80, Tryz.ntmps80
  go_wp2_with ((with_reducible refine Hb.out.mono ?_); rintro e w2 ⟨rfl, h2⟩; have H2 := Lib.hid h2; clear h2 Hb)
  go_ret
  exact ⟨rfl, H2.out⟩
end Go.Proofs.YtogfladmgbldcaaGreatDoor
namespace Go.Proofs.YtogfladmgbldcaaGreatDoor
open Go.RowKit
/-- A client's last command, as it is read: without the word that it is bad. -/
def RdV.lastP (R : RdV) : LastV × RdV :=
  if (R.below 4294967296).1 = 0 then (lastNone, (R.below 4294967296).2)
  else (⟨BitVec.ofNat 32 (R.below 4294967296).1, (R.below 4294967296).2.byte.1.toNat, ⟨((R.below 4294967296).2.byte.2.str 64).1.toArray⟩⟩, ((R.below 4294967296).2.byte.2.str 64).2)
def RdV.last (R : RdV) : LastV × RdV := (R.lastP.1, if 3 < R.lastP.1.code then R.lastP.2.fail 4 else R.lastP.2)
theorem RdAt.set {w : World} {g q i : Nat} {R : RdV} {v : Value} (h : RdAt w g R) (hq : g ≠ q) : RdAt (w.setCell ⟨q, i, none⟩ v) g R := h.other hq (Only.set q i w v)
end Go.Proofs.YtogfladmgbldcaaGreatDoor
namespace Go.Proofs.YtogfladmgbldcaaGreatDoor
open Go.RowKit
theorem of_any1 (s : List UInt8) (_ : s.length ≤ maxLen) (w : World) :
    Calls Tryz.prog 63 #[.string ⟨s.toArray⟩] w fun e w' => e = .returned (.pointer (some ⟨w.heap.size, 0, none⟩)) ∧ w' = w.alloc (.cells (rdCells ⟨0, s⟩).toArray 130) := by
  go_enter Tryz.func63, Tryz.ntmps63
  go_wp2_with fail
  go_ret
  exact ⟨rfl, rfl⟩
end Go.Proofs.YtogfladmgbldcaaGreatDoor
namespace Go.Proofs.YtogfladmgbldcaaGreatDoor.RegJ
open Go RegK
/-- A plan: operations by their numbers. -/
inductive Plan where
  | nil : Plan
  | step (k e : Nat) (r : Plan) : Plan
  | fork (k : Nat) (r : Plan) (j : Nat) (s : Plan) : Plan
/-- A plan with its operations. -/
inductive PlanO where
  | nil : PlanO
  | bad : PlanO
  | step (o : Oper) (e : Nat) (r : PlanO) : PlanO
  | fork (o : Oper) (r : PlanO) (u : Oper) (s : PlanO) : PlanO
def Plan.len : Plan → Nat
  | .nil => 0
  | .step _ _ r => r.len + 1
  | .fork _ r _ _ => r.len + 1
def pickJ (l : List Oper) : Plan → PlanO
  | .nil => .nil
  | .step k e r => match l[k]? with | some o => .step o e (pickJ l r) | none => .bad
  | .fork k r j s => match l[k]?, l[j]? with | some o, some u => .fork o (pickJ l r) u (pickJ l s) | _, _ => .bad
section
variable {F : Fence} {n : Nat} {P : Program} {ops : Array Oper} {Q : Exit → Act → World → Prop} {md : Region.Mode}
/-- The walk: 0 reads only, 1 turns the world within R; at a fork both ways. -/
def canJ (F : Fence) (n : Nat) (P : Program) (ops : Array Oper) (Q : Exit → Act → World → Prop) : PlanO → (World → Prop) → Act → World → Prop
  | .nil, _, a, w => Q .normal a w
  | .bad, _, _, _ => False
  | .step o 0 r, R, a, w =>
    if Region.wanted o (yielded ops a.tmps) then ∃ v, (∀ x, R x → (execOp a.eval o).run P x = .ok (.value v) x) ∧ canJ F n P ops Q r R (a.put o.dst v) w
    else canJ F n P ops Q r R (a.put o.dst undef) w
  | .step o (_ + 1) r, R, a, w =>
    if Region.wanted o (yielded ops a.tmps) then o.wpIn F n P a w (fun a' w' => ∃ R' : World → Prop, (∀ x, R' x → R x) ∧ R' w' ∧ canJ F n P ops Q r R' a' w') Q
    else (∀ f, o.about P w a.eval = some f → F.fn f) ∧ canJ F n P ops Q r R (a.put o.dst undef) w
  | .fork o r u s, R, a, w =>
    (if Region.wanted o (yielded ops a.tmps) then o.wpIn F n P a w (fun a' w' => ∃ R' : World → Prop, (∀ x, R' x → R x) ∧ R' w' ∧ canJ F n P ops Q r R' a' w') Q
      else (∀ f, o.about P w a.eval = some f → F.fn f) ∧ canJ F n P ops Q r R (a.put o.dst undef) w) ∧
    (if Region.wanted u (yielded ops a.tmps) then u.wpIn F n P a w (fun a' w' => ∃ R' : World → Prop, (∀ x, R' x → R x) ∧ R' w' ∧ canJ F n P ops Q s R' a' w') Q
      else (∀ f, u.about P w a.eval = some f → F.fn f) ∧ canJ F n P ops Q s R (a.put u.dst undef) w)
def canJB (md : Region.Mode) (ops : Array Oper) : Plan → Array Bool → Bool
  | .nil, listed => (Region.ready md ops listed).isEmpty
  | .step k 0 r, listed => decide (k < ops.size) && (Region.ready md ops listed).contains k && Region.free md ops listed k && (match ops[k]? with | some o => noCall o | none => false) && canJB md ops r (listed.setIfInBounds k true)
  | .step k (_ + 1) r, listed => decide (k < ops.size) && Region.ready md ops listed == [k] && canJB md ops r (listed.setIfInBounds k true)
  | .fork k r j s, listed => decide (k < ops.size) && decide (j < ops.size) && Region.ready md ops listed == [k, j] && r.len == s.len && canJB md ops r (listed.setIfInBounds k true) && canJB md ops s (listed.setIfInBounds j true)
theorem any_canJ (hro : ∀ o ∈ ops, noDefer o = true) (hs : Region.noSelect ops = true) (hQ : ∀ c a d v w, Q (.panic c) (Act.put a d v) w → Q (.panic c) a w) : ∀ (r : Plan) (listed : Array Bool) (R : World → Prop) (a : Act) (w : World),
    listed.size = ops.size → Closed md ops listed → canJB md ops r listed = true → R w → canJ F n P ops Q (pickJ ops.toList r) R a w → anyR (fun _ => false) F n P md ops Q r.len listed R a w
  | .nil, _, _, _, _, _, _, hB, _, h => ⟨by simpa [canJB] using hB, h⟩
  | .step k 0 r, listed, R, a, w, hsz, hcl, hB, hR, h => by
    simp only [canJB, Bool.and_eq_true, decide_eq_true_eq] at hB
    obtain ⟨⟨⟨⟨hk, hr⟩, hf⟩, hc⟩, hB'⟩ := hB
    have h0 : ops[k]? = some ops[k] := Array.getElem?_eq_getElem hk
    have h0' : ops.toList[k]? = some ops[k] := by simp [hk]
    simp only [h0] at hc
    have hsz' : (listed.setIfInBounds k true).size = ops.size := by simpa using hsz
    have hcl' := hcl.set (i := k) (by simpa using hr)
    simp only [pickJ, h0', canJ] at h
    have hbs : ∀ j, listed.getD j true = false → j ≠ k → (fun _ => false) j = true → k ∈ back md ops ops.size (onsOf md ops j) := fun j _ _ h3 => by cases h3
    by_cases hw : Region.wanted ops[k] (yielded ops a.tmps) = true
    · simp only [hw, if_true] at h
      obtain ⟨v, hv, hK⟩ := h
      exact first hro h0 hc (Region.noSelect_spec hs) (fun c a w => hQ c a _ _ w) r.len listed R a w (Region.free_spec h0 hf) hbs hcl (by simpa using hr) hR (.inl ⟨hw, hv⟩) (any_canJ hro hs hQ r _ R _ w hsz' hcl' hB' hR hK)
    · simp only [hw] at h
      exact first hro h0 hc (Region.noSelect_spec hs) (fun c a w => hQ c a _ _ w) r.len listed R a w (Region.free_spec h0 hf) hbs hcl (by simpa using hr) hR (.inr ⟨by simpa using hw, rfl⟩) (any_canJ hro hs hQ r _ R _ w hsz' hcl' hB' hR h)
  | .step k (m + 1) r, listed, R, a, w, hsz, hcl, hB, hR, h => by
    simp only [canJB, Bool.and_eq_true, beq_iff_eq, decide_eq_true_eq] at hB
    obtain ⟨⟨hk, hr⟩, hB'⟩ := hB
    have h0 : ops[k]? = some ops[k] := Array.getElem?_eq_getElem hk
    have h0' : ops.toList[k]? = some ops[k] := by simp [hk]
    have hsz' : (listed.setIfInBounds k true).size = ops.size := by simpa using hsz
    have hcl' := hcl.set (i := k) (by rw [hr]; simp)
    simp only [pickJ, h0', canJ] at h
    refine ⟨fun h => (by rw [hr] at h; cases h), fun j hj => ?_⟩
    rw [hr] at hj
    obtain rfl : j = k := by simpa using hj
    unfold wpOpIn
    simp only [h0]
    by_cases hw : Region.wanted ops[j] (yielded ops a.tmps) = true
    · simp only [hw, if_true] at h ⊢
      exact Oper.wpIn_mono (fun a' w' ⟨R', g0, g1, g2⟩ => ⟨R', g1, .inr g0, any_canJ hro hs hQ r _ R' a' w' hsz' hcl' hB' g1 g2⟩) h
    · simp only [hw] at h ⊢
      exact ⟨h.1, R, hR, .inr fun _ h => h, any_canJ hro hs hQ r _ R _ w hsz' hcl' hB' hR h.2⟩
  | .fork k r j s, listed, R, a, w, hsz, hcl, hB, hR, h => by
    simp only [canJB, Bool.and_eq_true, beq_iff_eq, decide_eq_true_eq] at hB
    obtain ⟨⟨⟨⟨⟨hk, hj⟩, hr⟩, hlen⟩, hB1⟩, hB2⟩ := hB
    have h0 : ops[k]? = some ops[k] := Array.getElem?_eq_getElem hk
    have h0' : ops.toList[k]? = some ops[k] := by simp [hk]
    have g0 : ops[j]? = some ops[j] := Array.getElem?_eq_getElem hj
    have g0' : ops.toList[j]? = some ops[j] := by simp [hj]
    have hcl1 := hcl.set (i := k) (by rw [hr]; simp)
    have hcl2 := hcl.set (i := j) (by rw [hr]; simp)
    simp only [pickJ, h0', g0', canJ] at h
    obtain ⟨h1, h2⟩ := h
    refine ⟨fun h => (by rw [hr] at h; cases h), fun i hi => ?_⟩
    rw [hr] at hi
    have hi' : i = k ∨ i = j := by simpa using hi
    rcases hi' with rfl | rfl
    · unfold wpOpIn
      simp only [h0]
      by_cases hw : Region.wanted ops[i] (yielded ops a.tmps) = true
      · simp only [hw, if_true] at h1 ⊢
        exact Oper.wpIn_mono (fun a' w' ⟨R', g0, g1, g2⟩ => ⟨R', g1, .inr g0, any_canJ hro hs hQ r _ R' a' w' (by simpa using hsz) hcl1 hB1 g1 g2⟩) h1
      · simp only [hw] at h1 ⊢
        exact ⟨h1.1, R, hR, .inr fun _ h => h, any_canJ hro hs hQ r _ R _ w (by simpa using hsz) hcl1 hB1 hR h1.2⟩
    · unfold wpOpIn
      simp only [g0]
      by_cases hw : Region.wanted ops[i] (yielded ops a.tmps) = true
      · simp only [hw, if_true] at h2 ⊢
        exact Oper.wpIn_mono (fun a' w' ⟨R', g0, g1, g2⟩ => ⟨R', g1, .inr g0, by
          have := any_canJ hro hs hQ s _ R' a' w' (by simpa using hsz) hcl2 hB2 g1 g2
          show anyR (fun _ => false) F n P md ops Q r.len _ _ _ _
          rw [hlen]
          exact this⟩) h2
      · simp only [hw] at h2 ⊢
        exact ⟨h2.1, R, hR, .inr fun _ h => h, by
          have := any_canJ hro hs hQ s _ R _ w (by simpa using hsz) hcl2 hB2 hR h2.2
          show anyR (fun _ => false) F n P md ops Q r.len _ _ _ _
          rw [hlen]
          exact this⟩
/-- The walk, behind a name that nothing opens. -/
structure Can (F : Fence) (n : Nat) (P : Program) (ops : Array Oper) (Q : Exit → Act → World → Prop) (l : PlanO) (R : World → Prop) (a : Act) (w : World) : Prop where
  out : canJ F n P ops Q l R a w
theorem wpIn_region_plan (R : World → Prop) (π : Plan) {id : Nat} {a : Act} {w : World} {l : List Oper} (hro : l.all noDefer = true) (hm : P.follows .mixedOrders = true)
    (hB : (Region.noSelect l.toArray && canJB .any l.toArray π (Array.replicate l.length false) && (π.len == l.length)) = true)
    (hQ : ∀ c a d v w, Q (.panic c) (Act.put a d v) w → Q (.panic c) a w) (hR : R { w with drawn := w.drawn + 1 })
    (h : Can F n P l.toArray Q (pickJ l π) R a { w with drawn := w.drawn + 1 }) : (Code.region id l.toArray true).wpIn F n P Q a w := by
  simp only [Bool.and_eq_true, beq_iff_eq] at hB
  obtain ⟨⟨h1, h2⟩, h4⟩ := hB
  refine wpIn_region_any hm (any_of (bar := fun _ => false) _ _ R _ _ ?_)
  have := any_canJ (F := F) (n := n) (P := P) (ops := l.toArray) (md := .any) (Q := Q) (fun o ho => List.all_eq_true.1 hro o (by simpa using ho)) h1 hQ π (Array.replicate l.length false) R a _ (by simp) (Closed.none _) h2 hR (by simpa using h.out)
  simpa [h4] using this
theorem reads {R : World → Prop} {a : Act} {w : World} {o : Oper} {r : PlanO}
    (h : ∀ K : Act → Prop, (∀ a, Can F n P ops Q r R a w → K a) → if Region.wanted o (yielded ops a.tmps) then ∃ v, (∀ x, R x → (execOp a.eval o).run P x = .ok (.value v) x) ∧ K (a.put o.dst v) else K (a.put o.dst undef)) :
    Can F n P ops Q (.step o 0 r) R a w := ⟨h _ (fun _ h => h.out)⟩
theorem nil {R : World → Prop} {a : Act} {w : World} (h : Q .normal a w) : Can F n P ops Q .nil R a w := ⟨h⟩
end
end Go.Proofs.YtogfladmgbldcaaGreatDoor.RegJ
namespace Go.Proofs.YtogfladmgbldcaaGreatDoor
open Go.RowKit
/-- The bytes l lie in block B from its head on, and may be written. -/
def ByteRow (W : World) (B : Nat) (l : List UInt8) : Prop := ∀ j (hj : j < l.length), W.cell? ⟨B, j, none⟩ = some (.int .u8 (l[j].toNat : Int)) ∧ W.frozen? ⟨B, j, none⟩ = false
theorem ByteRow.drew {W : World} {B : Nat} {l : List UInt8} (h : ByteRow W B l) : ByteRow W.drew B l := h
theorem ByteRow.set {W : World} {B : Nat} {l : List UInt8} (h : ByteRow W B l) {q : Nat} (u : UInt8) {x : Int} (hx : x = (u.toNat : Int)) : ByteRow (W.setCell ⟨B, q, none⟩ (.int .u8 x)) B (l.set q u) := by
  subst hx
  intro j hj
  have hj' : j < l.length := by simpa using hj
  obtain ⟨h1, h2⟩ := h j hj'
  refine ⟨?_, by rw [World.frozen?_setCell]; exact h2⟩
  by_cases e : q = j
  · subst e
    rw [World.cell?_setCell_same _ _ _ h1]
    simp
  · rw [World.cell?_setCell_other _ _ _ _ (by intro h; cases h; exact e rfl), h1]
    simp [e]
theorem ByteRow.of_string (w : World) (s : ByteArray) (cap : Nat) (t : TypeId) : ByteRow (w.alloc (.cells (bytesRow s cap) t ((bytesRow s cap).size, (bytesRow s cap).size + 1))) w.heap.size s.data.toList := by
  intro j hj
  have hj' : j < s.data.size := by simpa using hj
  refine ⟨?_, ?_⟩
  · rw [World.cell?_alloc_mark, bytesRow_at s cap j hj']
    simp
  · rw [World.frozen?_alloc_mark]
    have : ¬ ((bytesRow s cap).size ≤ j) := by
      have e : (bytesRow s cap).size = s.data.size + (cap - s.size) := by simp [bytesRow]
      omega
    simp [this]
theorem ByteRow.alloc {W : World} {B : Nat} {l : List UInt8} (h : ByteRow W B l) (hB : B < W.heap.size) (o : Obj) : ByteRow (W.alloc o) B l := fun j hj =>
  ⟨by rw [World.cell?_alloc_lt _ _ _ hB]; exact (h j hj).1, by rw [World.frozen?_alloc_old _ _ _ (by show B ≠ _; omega)]; exact (h j hj).2⟩
theorem ByteRow.other {W : World} {B : Nat} {l : List UInt8} (h : ByteRow W B l) {a : Addr} (ha : a.block ≠ B) (v : Value) : ByteRow (W.setCell a v) B l := fun j hj =>
  ⟨by rw [World.cell?_setCell_other _ _ _ _ (by intro e; rw [e] at ha; exact ha rfl)]; exact (h j hj).1, by rw [World.frozen?_setCell]; exact (h j hj).2⟩
theorem ByteRow.string {P : Program} {W : World} {B : Nat} {l : List UInt8} (h : ByteRow W B l) (src dst e : TypeId) {n cap : Nat} (hn : l.length = n) (hs : P.underlying src = some (.slice e)) (he : P.underlying e = some (.int .u8)) (hd : P.underlying dst = some .string) :
    (convert src dst (.slice (some ⟨B, 0, none⟩) n cap)).run P W = .ok (.string ⟨l.toArray⟩) W := by
  subst hn
  refine run_convert_bytes_back W src dst e ⟨B, 0, none⟩ cap l hs he hd (fun j hj => ?_)
  have := (h j hj).1
  simp only [Addr.add]
  split
  · rename_i e; subst e; exact this
  · simpa using this
namespace Crc
def flip (l : List UInt8) (p : Nat) : List UInt8 := l.set (p / 8) (l.getD (p / 8) 0 ^^^ UInt8.ofNat (2 ^ (p % 8)))
def fl (a : List UInt8) (m : BitVec 64) (bit : Nat) : Nat → List UInt8
  | 0 => a
  | k + 1 => if m.getLsbD k then flip (fl a m bit k) (bit + k) else fl a m bit k
theorem flip_length (l : List UInt8) (p : Nat) : (flip l p).length = l.length := by simp [flip]
theorem xor_u8 (v : UInt8) (r : Nat) (hr : r < 8) : bits .xor .u8 (v.toNat : Int) (2 ^ r % 256) = ((v ^^^ UInt8.ofNat (2 ^ r)).toNat : Int) := by
  have h2 : (2 : Nat) ^ r < 256 := by
    have : r = 0 ∨ r = 1 ∨ r = 2 ∨ r = 3 ∨ r = 4 ∨ r = 5 ∨ r = 6 ∨ r = 7 := by omega
    rcases this with h | h | h | h | h | h | h | h <;> subst h <;> decide
  have e : ((2 : Int) ^ r % 256) = ((2 ^ r : Nat) : Int) := by
    have : ((2 : Int) ^ r) = ((2 ^ r : Nat) : Int) := by simp
    rw [this]; exact Int.emod_eq_of_lt (Int.natCast_nonneg _) (Int.ofNat_lt.2 h2)
  rw [e, u8_xor_nat _ _ v.toNat_lt h2]
  rw [UInt8.toNat_xor, UInt8.toNat_ofNat', Nat.mod_eq_of_lt h2]
end Crc
end Go.Proofs.YtogfladmgbldcaaGreatDoor
namespace Go.Proofs.YtogfladmgbldcaaGreatDoor.Crc
theorem st_eq (x : BitVec 64) : st x = (x >>> 1) ^^^ (if x.getLsbD 0 then poly else 0#64) := by
  have e : (x &&& 1#64 == 1#64) = x.getLsbD 0 := by
    rw [Bool.eq_iff_iff, beq_iff_eq]
    constructor
    · intro h
      have := congrArg (fun x => x.getLsbD 0) h
      simpa using this
    · intro h
      apply BitVec.eq_of_getLsbD_eq
      intro i hi
      rw [BitVec.getLsbD_and]
      by_cases e : i = 0
      · subst e; rw [h]; rfl
      · simp [e]
  unfold st
  rw [e]
  cases x.getLsbD 0 <;> simp
theorem st_xor (x y : BitVec 64) : st (x ^^^ y) = st x ^^^ st y := by
  simp only [st_eq, BitVec.getLsbD_xor]
  apply BitVec.eq_of_getLsbD_eq
  intro i _
  cases x.getLsbD 0 <;> cases y.getLsbD 0 <;> simp only [BitVec.getLsbD_xor, BitVec.getLsbD_ushiftRight, Bool.xor_false, Bool.xor_true, Bool.not_true, Bool.not_false, Bool.false_eq_true, if_true, if_false, BitVec.getLsbD_zero] <;>
    cases x.getLsbD (1 + i) <;> cases y.getLsbD (1 + i) <;> cases poly.getLsbD i <;> rfl
theorem st_ne (x : BitVec 64) (h : st x = 0#64) : x = 0#64 := by
  rw [st_eq] at h
  cases hx : x.getLsbD 0 with
  | true =>
    exfalso
    have := congrArg (fun x => x.getLsbD 63) h
    rw [hx] at this
    simp [poly] at this
  | false =>
    rw [hx] at h
    apply BitVec.eq_of_getLsbD_eq
    intro i hi
    cases i with
    | zero => simpa using hx
    | succ i =>
      have := congrArg (fun x => x.getLsbD i) h
      simp [Nat.add_comm 1 i] at this
      simp [this]
theorem sts_xor (k : Nat) (x y : BitVec 64) : sts k (x ^^^ y) = sts k x ^^^ sts k y := by
  induction k with
  | zero => rfl
  | succ k ih => simp only [sts, ih, st_xor]
theorem sts_ne (k : Nat) (x : BitVec 64) (h : sts k x = 0#64) : x = 0#64 := by
  induction k with
  | zero => exact h
  | succ k ih => exact ih (st_ne _ h)
theorem sts_add (j k : Nat) (x : BitVec 64) : sts (j + k) x = sts j (sts k x) := by
  induction j with
  | zero => simp [sts]
  | succ j ih => rw [show j + 1 + k = (j + k) + 1 from by omega]; simp only [sts, ih]
theorem byte_xor' (c d : UInt8) : byte (c ^^^ d) = byte c ^^^ byte d := by
  apply BitVec.eq_of_toNat_eq
  have := c.toNat_lt
  have := d.toNat_lt
  simp only [byte, BitVec.toNat_ofNat, BitVec.toNat_xor, UInt8.toNat_xor]
  rw [Nat.mod_eq_of_lt (by omega : c.toNat < 2 ^ 64), Nat.mod_eq_of_lt (by omega : d.toNat < 2 ^ 64)]
  exact Nat.mod_eq_of_lt (Nat.lt_of_lt_of_le (Nat.xor_lt_two_pow (n := 8) c.toNat_lt d.toNat_lt) (by omega))
theorem more_append (n : BitVec 64) (l r : List UInt8) : more n (l ++ r) = more (more n l) r := by simp [more]
theorem more_cons (n : BitVec 64) (c : UInt8) (r : List UInt8) : more n (c :: r) = more (sts 8 (n ^^^ byte c)) r := rfl
/-- What is put over the number ahead of a text comes out behind it, as many steps on. -/
theorem more_state (l : List UInt8) : ∀ s t : BitVec 64, more (s ^^^ t) l = more s l ^^^ sts (8 * l.length) t := by
  induction l with
  | nil => intro s t; rfl
  | cons c r ih =>
    intro s t
    rw [more_cons, more_cons, show s ^^^ t ^^^ byte c = (s ^^^ byte c) ^^^ t from by rw [BitVec.xor_assoc, BitVec.xor_comm t, ← BitVec.xor_assoc], sts_xor, ih, ← sts_add]
    rw [show 8 * (c :: r).length = 8 * r.length + 8 from by simp [Nat.mul_add]]
theorem st_pow (i : Nat) (h : i < 63) : st (1#64 <<< (i + 1)) = 1#64 <<< i := by
  have : ∀ i : Fin 63, st (1#64 <<< (i.val + 1)) = 1#64 <<< i.val := by decide +kernel
  exact this ⟨i, h⟩
theorem sts_pow (k : Nat) (h : k < 64) : sts k (1#64 <<< k) = 1#64 := by
  induction k with
  | zero => rfl
  | succ k ih =>
    have e : sts (k + 1) (1#64 <<< (k + 1)) = sts k (st (1#64 <<< (k + 1))) := sts_add k 1 _
    rw [e, st_pow k (by omega), ih (by omega)]
theorem byte_pow (r : Nat) (h : r < 8) : byte (UInt8.ofNat (2 ^ r)) = 1#64 <<< r := by
  have : r = 0 ∨ r = 1 ∨ r = 2 ∨ r = 3 ∨ r = 4 ∨ r = 5 ∨ r = 6 ∨ r = 7 := by omega
  rcases this with h | h | h | h | h | h | h | h <;> subst h <;> decide
theorem more_flip (n : BitVec 64) (l : List UInt8) (p : Nat) (hp : p < 8 * l.length) : more n (flip l p) = more n l ^^^ sts (8 * l.length - p) 1#64 := by
  have hq : p / 8 < l.length := by omega
  have hr : p % 8 < 8 := by omega
  have e0 : l = l.take (p / 8) ++ l[p / 8] :: l.drop (p / 8 + 1) := by
    rw [← List.drop_eq_getElem_cons hq, List.take_append_drop]
  have e1 : flip l p = l.take (p / 8) ++ (l[p / 8] ^^^ UInt8.ofNat (2 ^ (p % 8))) :: l.drop (p / 8 + 1) := by
    unfold flip
    rw [List.set_eq_take_append_cons_drop, if_pos hq]
    congr 2
    rw [List.getD_eq_getElem?_getD, List.getElem?_eq_getElem hq, Option.getD_some]
  have hlen : (l.drop (p / 8 + 1)).length = l.length - (p / 8 + 1) := by simp
  rw [e1]
  conv => rhs; rw [e0]
  rw [more_append, more_append, more_cons, more_cons, byte_xor', ← BitVec.xor_assoc, sts_xor, more_state, byte_pow _ hr, ← sts_add]
  congr 1
  have h8 : sts (p % 8) (1#64 <<< (p % 8)) = 1#64 := sts_pow _ (by omega)
  have : 8 * (l.drop (p / 8 + 1)).length + 8 = (8 * l.length - p) + p % 8 := by rw [hlen]; omega
  rw [this, sts_add, h8]
  congr 2
  simp [List.take_append_drop]
theorem not_inj {x y : BitVec 64} : (~~~ x = ~~~ y) ↔ x = y := by
  constructor
  · intro h
    have := congrArg (fun x => ~~~ x) h
    simpa using this
  · intro h; rw [h]
end Go.Proofs.YtogfladmgbldcaaGreatDoor.Crc
namespace Go.Proofs.YtogfladmgbldcaaGreatDoor
open Go.RowKit
/-- Bytes of a number, the lowest first. -/
def leB (x : Nat) : Nat → List UInt8
  | 0 => []
  | i + 1 => leB x i ++ [UInt8.ofNat (x / 256 ^ i)]
theorem leB_len (x : Nat) : ∀ i, (leB x i).length = i
  | 0 => rfl
  | i + 1 => by rw [leB, List.length_append, leB_len x i]; rfl
theorem OwnB.block {w : World} {base : Nat} {t : TypeId} {v : Value} {l : List UInt8} (h : OwnB w base t v l) : ∀ k, v.ownBlock = some k → base ≤ k := by
  intro k hk
  unfold OwnB at h
  obtain ⟨-, h⟩ := h
  rcases h with ⟨rfl, -⟩ | ⟨g, cap, cur, rfl, h3, -⟩
  · cases hk
  · cases hk; exact h3
theorem OwnB.nil (w : World) (base : Nat) (t : TypeId) : OwnB w base t (.slice none 0 0) [] := ⟨rfl, .inl ⟨rfl, rfl⟩⟩
theorem OwnB.alloc {w : World} {base : Nat} {t : TypeId} {v : Value} {l : List UInt8} (h : OwnB w base t v l) (o : Obj) : OwnB (w.alloc o) base t v l := h.below ((Below.refl _ _).alloc (Nat.le_refl _) _)
theorem leB_mod : ∀ (n x m : Nat), leB (x + m * 256 ^ n) n = leB x n
  | 0, _, _ => rfl
  | n + 1, x, m => by
    have e : x + m * 256 ^ (n + 1) = x + m * 256 * 256 ^ n := by rw [Nat.pow_succ, Nat.mul_assoc, Nat.mul_comm 256]
    unfold leB
    rw [e, leB_mod n x (m * 256), Nat.add_mul_div_right _ _ (Nat.pow_pos (by omega))]
    congr 2
    apply UInt8.toNat_inj.1
    simp
theorem leB_onto : ∀ (n : Nat) (l : List UInt8), l.length = n → ∃ f, f < 256 ^ n ∧ leB f n = l
  | 0, l, h => ⟨0, by simp, by rw [List.length_eq_zero_iff.1 h]; rfl⟩
  | n + 1, l, h => by
    rcases List.eq_nil_or_concat l with rfl | ⟨k, b, rfl⟩
    · simp at h
    · obtain ⟨f, hf, hk⟩ := leB_onto n k (by simpa using h)
      have hp : 0 < 256 ^ n := Nat.pow_pos (by omega)
      have hb := b.toNat_lt
      refine ⟨f + b.toNat * 256 ^ n, ?_, ?_⟩
      · rw [Nat.pow_succ, Nat.mul_comm _ 256]
        have : b.toNat * 256 ^ n + 256 ^ n ≤ 256 * 256 ^ n := by
          have := Nat.mul_le_mul_right (256 ^ n) (show b.toNat + 1 ≤ 256 by omega)
          rw [Nat.add_mul, Nat.one_mul] at this
          exact this
        omega
      · unfold leB
        rw [leB_mod, hk, Nat.add_mul_div_right _ _ hp, Nat.div_eq_of_lt hf]
        simp
theorem xor_ne (v : UInt8) {r : Nat} (hr : r < 8) : v ^^^ UInt8.ofNat (2 ^ r) ≠ v := by
  intro h
  have h2 : v ^^^ (v ^^^ UInt8.ofNat (2 ^ r)) = v ^^^ v := by rw [h]
  rw [← UInt8.xor_assoc, UInt8.xor_self, UInt8.zero_xor] at h2
  have : r = 0 ∨ r = 1 ∨ r = 2 ∨ r = 3 ∨ r = 4 ∨ r = 5 ∨ r = 6 ∨ r = 7 := by omega
  rcases this with h | h | h | h | h | h | h | h <;> subst h <;> exact absurd h2 (by decide)
theorem flip_of (x : Nat) (p : Nat) (hp : p < 64) : ∃ f, f < 18446744073709551616 ∧ f ≠ x ∧ Crc.flip (leB x 8) p = leB f 8 := by
  have hl := leB_len x 8
  have hfl : (Crc.flip (leB x 8) p).length = 8 := by rw [Crc.flip_length]; exact hl
  obtain ⟨f, h1, h2⟩ := leB_onto 8 _ hfl
  refine ⟨f, by omega, ?_, h2.symm⟩
  rintro rfl
  have hq : p / 8 < (leB f 8).length := by omega
  have e : (Crc.flip (leB f 8) p)[p / 8]? = (leB f 8)[p / 8]? := by rw [← h2]
  unfold Crc.flip at e
  rw [List.getElem?_set_self hq, List.getElem?_eq_getElem hq, Option.some.injEq, List.getD_eq_getElem?_getD, List.getElem?_eq_getElem hq, Option.getD_some] at e
  exact xor_ne _ (Nat.mod_lt _ (by omega)) e
theorem flip_left (P R : List UInt8) (p : Nat) (hp : p / 8 < P.length) : Crc.flip (P ++ R) p = Crc.flip P p ++ R := by
  unfold Crc.flip
  rw [List.set_append_left _ _ hp, List.getD_eq_getElem?_getD, List.getD_eq_getElem?_getD, List.getElem?_append_left hp]
theorem flip_right (P R : List UInt8) (p n : Nat) (hn : 8 * P.length = n) (hp : n ≤ p) : Crc.flip (P ++ R) p = P ++ Crc.flip R (p - n) := by
  have h1 : P.length ≤ p / 8 := by omega
  have h2 : (p - n) / 8 = p / 8 - P.length := by omega
  have h3 : (p - n) % 8 = p % 8 := by omega
  unfold Crc.flip
  rw [List.set_append_right _ _ h1, List.getD_eq_getElem?_getD, List.getD_eq_getElem?_getD, List.getElem?_append_right h1, h2, h3]
end Go.Proofs.YtogfladmgbldcaaGreatDoor
namespace Go.Proofs.YtogfladmgbldcaaGreatDoor
abbrev Bs := List UInt8
end Go.Proofs.YtogfladmgbldcaaGreatDoor
namespace Go.Proofs.YtogfladmgbldcaaGreatDoor
open Go.RowKit
/-- A text's checksum. -/
def crcN (x : Bs) : Nat := (Crc.sum 0#64 x).toNat
theorem crcN_lt (x : Bs) : crcN x < 18446744073709551616 := (Crc.sum 0#64 x).isLt
def frT (x : Bs) : Bs := leB (crcN x) 8 ++ x
def frL (x : Bs) : Bs := numL x.length ++ frT x
theorem frT_len (x : Bs) : (frT x).length = 8 + x.length := by unfold frT; rw [List.length_append, leB_len]
theorem frL_len (x : Bs) : (frL x).length = (numL x.length).length + 8 + x.length := by unfold frL; rw [List.length_append, frT_len]; omega
/-- A number, its low bytes first. -/
def leN : Bs → Nat
  | [] => 0
  | b :: r => b.toNat + 256 * leN r
theorem leN_app : ∀ (l : Bs) (b : UInt8), leN (l ++ [b]) = leN l + b.toNat * 256 ^ l.length
  | [], b => by simp [leN]
  | c :: r, b => by
    show c.toNat + 256 * leN (r ++ [b]) = c.toNat + 256 * leN r + b.toNat * 256 ^ (r.length + 1)
    rw [leN_app r b, Nat.pow_succ, Nat.mul_add]
    generalize 256 ^ r.length = P
    have e : 256 * (b.toNat * P) = b.toNat * (P * 256) := by rw [← Nat.mul_assoc b.toNat, Nat.mul_comm]
    omega
theorem leN_leB (x : Nat) : ∀ n, leN (leB x n) = x % 256 ^ n
  | 0 => by simp [leB, leN, Nat.mod_one]
  | n + 1 => by
    rw [leB, leN_app, leN_leB x n, leB_len]
    have h : (UInt8.ofNat (x / 256 ^ n)).toNat = x / 256 ^ n % 256 := by simp
    rw [h, Nat.pow_succ, Nat.mod_mul, Nat.mul_comm]
theorem leN_8 {x : Nat} (h : x < 18446744073709551616) : leN (leB x 8) = x := by rw [leN_leB]; exact Nat.mod_eq_of_lt h
/-- The reader behind a frame's length. -/
def rdF (s : Bs) : Nat × RdV := if ((RdV.mk 0 s).below 65537).1 = 0 then (0, ((RdV.mk 0 s).below 65537).2.fail 4) else (RdV.mk 0 s).below 65537
/-- What Take tells: the inside, how many bytes, the error. -/
def takeF (s : Bs) : Bs × Nat × Nat :=
  if (rdF s).2.e ≠ 0 then ([], 0, (rdF s).2.e) else if (rdF s).2.s.length < 8 + (rdF s).1 then ([], 0, 3)
  else if crcN (((rdF s).2.s.drop 8).take (rdF s).1) ≠ leN ((rdF s).2.s.take 8) then ([], 0, 5)
  else (((rdF s).2.s.drop 8).take (rdF s).1, s.length - (rdF s).2.s.length + 8 + (rdF s).1, 0)
theorem rdF_app {n : Nat} (h0 : 1 ≤ n) (h1 : n ≤ 65536) (r : Bs) : rdF (numL n ++ r) = (n, ⟨0, r⟩) := by
  unfold rdF
  rw [below_app (by omega) (by omega)]
  rw [if_neg (by show ¬ n = 0; omega)]
theorem take_any' {n c : Nat} {t x : Bs} (h0 : 1 ≤ n) (h1 : n ≤ 65536) (ht : t.length = 8) (hx : x.length = n) (hc : leN t = c) (r : Bs) :
    takeF (numL n ++ (t ++ x ++ r)) = if crcN x ≠ c then ([], 0, 5) else (x, (numL n).length + 8 + n, 0) := by
  unfold takeF
  rw [rdF_app h0 h1]
  have e1 : ((t ++ x ++ r).drop 8).take n = x := by
    rw [List.append_assoc, ← ht, List.drop_left, ← hx, List.take_left]
  have e2 : (t ++ x ++ r).take 8 = t := by rw [List.append_assoc, ← ht, List.take_left]
  simp only
  rw [if_neg (by omega), if_neg (by simp; omega), e1, e2, hc]
  split
  · rfl
  · congr 2
    simp only [List.length_append]
    omega
theorem take_fr {x : Bs} (h0 : 1 ≤ x.length) (h1 : x.length ≤ 65536) (r : Bs) : takeF (frL x ++ r) = (x, (frL x).length, 0) := by
  have h := take_any' h0 h1 (leB_len (crcN x) 8) rfl (leN_8 (crcN_lt x)) r
  rw [if_neg (by simp)] at h
  rw [frL_len, show frL x ++ r = numL x.length ++ (leB (crcN x) 8 ++ x ++ r) by simp [frL, frT]]
  exact h
theorem more_turned (n : BitVec 64) (x : Bs) (p : Nat) (hp : p < 8 * x.length) : Crc.more n (Crc.flip x p) ≠ Crc.more n x := by
  rw [Crc.more_flip n x p hp]
  intro e
  have h2 : Crc.sts (8 * x.length - p) 1#64 = 0#64 := by
    have := congrArg (fun z => Crc.more n x ^^^ z) e
    simp only [BitVec.xor_self, ← BitVec.xor_assoc, BitVec.zero_xor] at this
    exact this
  exact absurd (Crc.sts_ne _ _ h2) (by decide)
theorem crc_turned {x : Bs} {p : Nat} (hp : p < 8 * x.length) : crcN (Crc.flip x p) ≠ crcN x := by
  intro e
  have h := BitVec.eq_of_toNat_eq e
  unfold Crc.sum at h
  exact more_turned _ x p hp (Crc.not_inj.1 h)
theorem take_turned {x : Bs} (h0 : 1 ≤ x.length) (h1 : x.length ≤ 65536) {p : Nat} (hp : p < 8 * (8 + x.length)) (r : Bs) : takeF (numL x.length ++ (Crc.flip (frT x) p ++ r)) = ([], 0, 5) := by
  by_cases h : p < 64
  · obtain ⟨f, hf, hne, he⟩ := flip_of (crcN x) p h
    have e : Crc.flip (frT x) p = leB f 8 ++ x := by
      unfold frT
      rw [flip_left _ _ _ (by rw [leB_len]; omega), he]
    rw [e, take_any' h0 h1 (leB_len f 8) rfl (leN_8 hf) r, if_pos (Ne.symm hne)]
  · have e : Crc.flip (frT x) p = leB (crcN x) 8 ++ Crc.flip x (p - 64) := by
      unfold frT
      rw [flip_right _ _ p 64 (by rw [leB_len]) (by omega)]
    rw [e]
    have hl : (Crc.flip x (p - 64)).length = x.length := Crc.flip_length _ _
    rw [take_any' h0 h1 (leB_len _ 8) hl (leN_8 (crcN_lt x)) r, if_pos (crc_turned (by omega))]
theorem take_lt {s : Bs} {n : Nat} (h : s.length < n) : (RdV.mk 0 s).take n = ([], false, ⟨3, s⟩) := by
  unfold RdV.take
  rw [if_pos rfl, if_neg (by show ¬ n ≤ s.length; omega)]
/-- A number of which the end lacks. -/
theorem num_torn {n : Nat} {s : Bs} (h : s <+: numL n) (hl : s.length < (numL n).length) : (RdV.mk 0 s).num.1 = 0 ∧ (RdV.mk 0 s).num.2.e = 3 := by
  cases s with
  | nil =>
    have e : (RdV.mk 0 []).byte = (0, ⟨3, []⟩) := by unfold RdV.byte; rw [take_lt (by decide)]; rfl
    unfold RdV.num
    rw [e]
    exact ⟨rfl, rfl⟩
  | cons b r =>
    unfold numL at h hl
    split at h
    · next h8 =>
      rw [if_pos h8] at hl
      simp at hl
    · next h8 =>
      rw [if_neg h8] at hl
      obtain ⟨rfl, hr⟩ := List.cons_prefix_cons.1 h
      have hw := wid_le n
      have hp := wid_pos (n := n) (by omega)
      have e : (UInt8.ofNat (247 + wid n)).toNat = 247 + wid n := by simp; omega
      have hrl : r.length < wid n := by simpa [bigB_len] using hl
      unfold RdV.num
      rw [byte_app]
      simp only [e]
      rw [if_neg (by omega), show 247 + wid n - 247 = wid n by omega]
      unfold RdV.wide
      rw [take_lt hrl]
      exact ⟨rfl, rfl⟩
theorem rdF_torn {n : Nat} {s : Bs} (h : s <+: numL n) (hl : s.length < (numL n).length) : (rdF s).2.e = 3 := by
  obtain ⟨h1, h2⟩ := num_torn h hl
  have h3 : (RdV.mk 0 s).below 65537 = (0, (RdV.mk 0 s).num.2) := by
    unfold RdV.below
    rw [if_neg (by rw [h2]; decide)]
  unfold rdF
  rw [h3, if_pos rfl]
  unfold RdV.fail
  rw [if_neg (by rw [h2]; decide)]
  exact h2
/-- A frame of which the end lacks. -/
theorem take_torn {x s : Bs} (h0 : 1 ≤ x.length) (h1 : x.length ≤ 65536) (h : s <+: frL x) (hl : s.length < (frL x).length) : takeF s = ([], 0, 3) := by
  by_cases hn : s.length < (numL x.length).length
  · have hp : s <+: numL x.length := by
      have := List.prefix_of_prefix_length_le h (List.prefix_append (numL x.length) (frT x)) (by omega)
      exact this
    have e := rdF_torn hp hn
    unfold takeF
    rw [if_pos (by rw [e]; decide), e]
  · obtain ⟨r, rfl⟩ := List.prefix_of_prefix_length_le (List.prefix_append (numL x.length) (frT x)) h (by omega)
    have hlen := frL_len x
    unfold takeF
    rw [rdF_app h0 h1]
    simp only
    rw [if_neg (by omega), if_pos (by simp at hl; omega)]
end Go.Proofs.YtogfladmgbldcaaGreatDoor
