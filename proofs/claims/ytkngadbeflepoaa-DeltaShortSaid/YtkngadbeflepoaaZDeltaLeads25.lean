/- Readers: fail, failed, take, Byte, Bad, Err, End. Condition: the reader lies there. -/
import Derived.Test.YtkngadbeflepoaaZDeltaLeads24
import Derived.Test.YtkngadbeflepoaaZDeltaLeads14
namespace Go.Proofs.Ytkngadbeflepoaa
open Go.RowKit
/-- Nothing but one block is another. -/
structure Only (g : Nat) (w w' : World) : Prop where
  os : w'.os = w.os
  tape : w'.tape = w.tape
  output : w'.output = w.output
  size : w'.heap.size = w.heap.size
  block : ∀ k, k ≠ g → w'.heap[k]? = w.heap[k]?
theorem Only.refl (g : Nat) (w : World) : Only g w w := ⟨rfl, rfl, rfl, rfl, fun _ _ => rfl⟩
theorem Only.trans {g : Nat} {a b c : World} (h : Only g a b) (k : Only g b c) : Only g a c :=
  ⟨k.os.trans h.os, k.tape.trans h.tape, k.output.trans h.output, k.size.trans h.size, fun i hi => (k.block i hi).trans (h.block i hi)⟩
theorem Only.below {g n : Nat} {w0 a b : World} (h : Below n w0 a) (k : Only g a b) (hg : n ≤ g) : Below n w0 b :=
  ⟨k.os.trans h.os, k.tape.trans h.tape, k.output.trans h.output, by rw [k.size]; exact h.size, fun i hi => (k.block i (by omega)).trans (h.block i hi)⟩
theorem Only.set (g i : Nat) (w : World) (v : Value) : Only g w (w.setCell ⟨g, i, none⟩ v) := by
  have h := below_setV (x := v) (i := i) (b := g) (Below.refl 0 w) (Nat.zero_le _)
  refine ⟨h.os, h.tape, h.output, ?_, fun k hk => Below.heap_setCell _ _ _ _ (by exact hk)⟩
  unfold World.setCell
  split <;> simp
def rdCells (R : RdV) : List Value := [.int .i64 (R.e : Int), .string ⟨R.s.toArray⟩]
/-- A reader lies there. -/
structure RdAt (w : World) (g : Nat) (R : RdV) : Prop where
  row : w.heap[g]? = some (.cells (rdCells R).toArray 174 (0, 0))
  len : R.s.length ≤ maxLen
theorem RdAt.cells {w : World} {g : Nat} {R : RdV} (h : RdAt w g R) : w.cell? ⟨g, 0, none⟩ = some (.int .i64 (R.e : Int)) ∧ w.cell? ⟨g, 1, none⟩ = some (.string ⟨R.s.toArray⟩) :=
  ⟨cell_of_row _ _ _ _ _ _ h.row, cell_of_row _ _ _ _ _ _ h.row⟩
theorem RdAt.thawed {w : World} {g : Nat} {R : RdV} (h : RdAt w g R) (j : Nat) : w.frozen? ⟨g, j, none⟩ = false := by
  have h := h.row
  simp [World.frozen?, h]
theorem RdAt.lt {w : World} {g : Nat} {R : RdV} (h : RdAt w g R) : g < w.heap.size := (Array.getElem?_eq_some_iff.1 h.row).1
theorem RdAt.below {w w' : World} {g : Nat} {R : RdV} (h : RdAt w g R) (hb : Below w.heap.size w w') : RdAt w' g R := ⟨(hb.block g h.lt).trans h.row, h.len⟩
theorem RdAt.other {w w' : World} {g q : Nat} {R : RdV} (h : RdAt w g R) (hq : g ≠ q) (ho : Only q w w') : RdAt w' g R := ⟨(ho.block g hq).trans h.row, h.len⟩
theorem RdAt.err {w : World} {g e : Nat} {s : List UInt8} (h : RdAt w g ⟨e, s⟩) (c : Nat) : RdAt (w.setCell ⟨g, 0, none⟩ (.int .i64 (c : Int))) g ⟨c, s⟩ := by
  refine ⟨?_, h.len⟩
  rw [heap_setCell_same _ _ _ _ _ _ h.row]
  rfl
theorem RdAt.rest {w : World} {g e : Nat} {s : List UInt8} (h : RdAt w g ⟨e, s⟩) (t : List UInt8) (ht : t.length ≤ s.length) : RdAt (w.setCell ⟨g, 1, none⟩ (.string ⟨t.toArray⟩)) g ⟨e, t⟩ := by
  refine ⟨?_, Nat.le_trans ht h.len⟩
  rw [heap_setCell_same _ _ _ _ _ _ h.row]
  rfl
theorem bs_extract (l : List UInt8) (a b : Nat) : (⟨l.toArray⟩ : ByteArray).extract a b = ⟨((l.take b).drop a).toArray⟩ := by
  apply ByteArray.ext
  rw [ByteArray.data_extract]
  simp [List.drop_take]
set_option maxHeartbeats 4000000 in
theorem fail_any (R : RdV) (c g : Nat) (w : World) (h : RdAt w g R) :
    Calls Try.prog 124 #[.pointer (some ⟨g, 0, none⟩), .int .i64 (c : Int)] w fun e w' => e = .returned (.tuple #[]) ∧ RdAt w' g (R.fail c) ∧ Only g w w' := by
  obtain ⟨e, s⟩ := R
  obtain ⟨f0, f1⟩ := h.cells
  have f2 := h.thawed 0
  unfold RdV.fail
  by_cases he : e = 0
  · subst he
    rw [if_pos rfl]
    have hh := h.err c
    have H := Lib.hid h; clear h
    have HH := Lib.hid (And.intro hh (Only.set g 0 w (.int .i64 (c : Int)))); clear hh
    go_enter Try.func124, Try.ntmps124
    go_wp2_with fail
    refine bodyPost_end (results_none rfl _ _ _) rfl ?_
    exact ⟨rfl, HH.out.1, HH.out.2⟩
  · rw [if_neg he]
    have he' : ((e : Int) == 0) = false := by rw [beq_eq_false_iff_ne]; omega
    have H := Lib.hid h; clear h
    have HE := Lib.hid he; clear he
    go_enter Try.func124, Try.ntmps124
    go_wp2_with fail
    refine bodyPost_end (results_none rfl _ _ _) rfl ?_
    exact ⟨rfl, H.out, Only.refl _ _⟩
theorem fail_short (R : RdV) (g : Nat) (w : World) (h : RdAt w g R) :
    Calls Try.prog 124 #[.pointer (some ⟨g, 0, none⟩), .int .i64 3] w fun e w' => e = .returned (.tuple #[]) ∧ RdAt w' g (R.fail 3) ∧ Only g w w' := fail_any R 3 g w h
theorem fail_form (R : RdV) (g : Nat) (w : World) (h : RdAt w g R) :
    Calls Try.prog 124 #[.pointer (some ⟨g, 0, none⟩), .int .i64 4] w fun e w' => e = .returned (.tuple #[]) ∧ RdAt w' g (R.fail 4) ∧ Only g w w' := fail_any R 4 g w h
set_option maxHeartbeats 4000000 in
theorem failed_any (R : RdV) (g : Nat) (w : World) (h : RdAt w g R) :
    Calls Try.prog 132 #[.pointer (some ⟨g, 0, none⟩)] w fun e w' => e = .returned (.bool (decide (R.e ≠ 0))) ∧ w = w' := by
  obtain ⟨f0, f1⟩ := h.cells
  obtain ⟨b, hb⟩ : ∃ b, decide (R.e ≠ 0) = b := ⟨_, rfl⟩
  have hb' : ((R.e : Int) != 0) = b := by
    rw [← hb]
    by_cases h0 : R.e = 0
    · simp [h0]
    · have : (R.e : Int) ≠ 0 := by omega
      simp [h0]
  rw [hb]
  clear h hb
  go_enter Try.func132, Try.ntmps132
  go_wp2_with fail
  go_ret
  exact ⟨rfl, rfl⟩
theorem take_str (l : List UInt8) (n : Nat) : (⟨l.toArray⟩ : ByteArray).extract 0 n = ⟨(l.take n).toArray⟩ ∧ (⟨l.toArray⟩ : ByteArray).extract n l.length = ⟨(l.drop n).toArray⟩ := by
  refine ⟨by rw [bs_extract]; simp, by rw [bs_extract]; simp⟩
set_option maxHeartbeats 8000000 in
theorem take_any (R : RdV) (n : Nat) (_ : n < 18446744073709551616) (g : Nat) (w : World) (h : RdAt w g R) :
    Calls Try.prog 120 #[.pointer (some ⟨g, 0, none⟩), .int .u64 (n : Int)] w fun e w' => e = .returned (.tuple #[.string ⟨(R.take n).1.toArray⟩, .bool (R.take n).2.1]) ∧ RdAt w' g (R.take n).2.2 ∧ Only g w w' := by
  have hfd := failed_any R g w h
  obtain ⟨e, s⟩ := R
  have hlen := h.len
  unfold maxLen at hlen
  simp only at hlen hfd
  obtain ⟨f0, f1⟩ := h.cells
  simp only at f0 f1
  have f3 := h.thawed 1
  unfold RdV.take
  by_cases he : e = 0
  · subst he
    have hfd : Calls Try.prog 132 #[.pointer (some ⟨g, 0, none⟩)] w fun e w' => e = .returned (.bool false) ∧ w = w' := hfd
    simp only [if_true]
    have Hfd := Lib.hid hfd; clear hfd
    have hsz := bs_size s
    have hwrap : IntKind.u64.wrap (s.length : Int) = (s.length : Int) := by rw [IntKind.wrap_u64]; omega
    by_cases hs : n ≤ s.length
    · rw [if_pos hs]
      obtain ⟨t1, t2⟩ := take_str s n
      have hs' : ¬ (s.length : Int) < (n : Int) := by omega
      have HH := Lib.hid (And.intro (h.rest (s.drop n) (by simp)) (Only.set g 1 w (.string ⟨(s.drop n).toArray⟩)))
      have H := Lib.hid h; clear h
      go_enter Try.func120, Try.ntmps120
      go_wp2_with ((with_reducible refine Hfd.out.mono ?_); rintro e w' ⟨rfl, rfl⟩)
      refine bodyPost_ret (v := .tuple #[.string ⟨(s.take n).toArray⟩, .bool true]) (by simp [results, Try.results120, go_sem]) rfl ?_
      exact ⟨rfl, HH.out.1, HH.out.2⟩
    · rw [if_neg hs]
      have hs' : (s.length : Int) < (n : Int) := by omega
      have hfl := fail_short ⟨0, s⟩ g w h
      have Hfl := Lib.hid hfl; clear hfl
      have H := Lib.hid h; clear h
      go_enter Try.func120, Try.ntmps120
      go_wp2_with (first
        | ((with_reducible refine Hfd.out.mono ?_); rintro e w' ⟨rfl, rfl⟩)
        | ((with_reducible refine Hfl.out.mono ?_); rintro e w2 ⟨rfl, h2⟩; have H2 := Lib.hid h2; clear h2))
      refine bodyPost_ret (v := .tuple #[Value.string ⟨#[]⟩, .bool false]) (by simp [results, Try.results120, go_sem]) rfl ?_
      exact ⟨rfl, H2.out⟩
  · have hfd : Calls Try.prog 132 #[.pointer (some ⟨g, 0, none⟩)] w fun e w' => e = .returned (.bool true) ∧ w = w' := by simpa [he] using hfd
    rw [if_neg he]
    have Hfd := Lib.hid hfd; clear hfd
    have H := Lib.hid h; clear h
    go_enter Try.func120, Try.ntmps120
    go_wp2_with ((with_reducible refine Hfd.out.mono ?_); rintro e w' ⟨rfl, rfl⟩)
    refine bodyPost_ret (v := .tuple #[Value.string ⟨#[]⟩, .bool false]) (by simp [results, Try.results120, go_sem]) rfl ?_
    exact ⟨rfl, H.out, Only.refl _ _⟩
set_option maxHeartbeats 8000000 in
theorem byte_any (R : RdV) (g : Nat) (w : World) (h : RdAt w g R) :
    Calls Try.prog 77 #[.pointer (some ⟨g, 0, none⟩)] w fun e w' => e = .returned (.int .u8 (R.byte.1.toNat : Int)) ∧ RdAt w' g R.byte.2 ∧ Only g w w' := by
  have ht : Calls Try.prog 120 #[.pointer (some ⟨g, 0, none⟩), .int .u64 1] w fun e w' => e = .returned (.tuple #[.string ⟨(R.take 1).1.toArray⟩, .bool (R.take 1).2.1]) ∧ RdAt w' g (R.take 1).2.2 ∧ Only g w w' := take_any R 1 (by omega) g w h
  clear h
  unfold RdV.byte
  have hcase : ((R.take 1).2.1 = true ∧ (R.take 1).1.length = 1) ∨ ((R.take 1).2.1 = false ∧ (R.take 1).1 = []) := by
    unfold RdV.take
    split
    · split
      · exact .inl ⟨rfl, by simp; omega⟩
      · exact .inr ⟨rfl, rfl⟩
    · exact .inr ⟨rfl, rfl⟩
  generalize R.take 1 = X at *
  obtain ⟨t, b, R2⟩ := X
  simp only at ht hcase ⊢
  rcases hcase with ⟨rfl, hl⟩ | ⟨rfl, rfl⟩
  · match t, hl with
    | [x], _ =>
      have Ht := Lib.hid ht; clear ht
      go_enter Try.func77, Try.ntmps77
      go_wp2_with ((with_reducible refine Ht.out.mono ?_); rintro e w2 ⟨rfl, h2⟩; have H2 := Lib.hid h2; clear h2)
      go_ret
      exact ⟨rfl, H2.out⟩
  · have Ht := Lib.hid ht; clear ht
    go_enter Try.func77, Try.ntmps77
    go_wp2_with ((with_reducible refine Ht.out.mono ?_); rintro e w2 ⟨rfl, h2⟩; have H2 := Lib.hid h2; clear h2)
    go_ret
    exact ⟨rfl, H2.out⟩
set_option maxHeartbeats 4000000 in
theorem bad_any (R : RdV) (g : Nat) (w : World) (h : RdAt w g R) :
    Calls Try.prog 123 #[.pointer (some ⟨g, 0, none⟩)] w fun e w' => e = .returned (.tuple #[]) ∧ RdAt w' g (R.fail 4) ∧ Only g w w' := by
  have Hfl := Lib.hid (fail_form R g w h); clear h
  go_enter Try.func123, Try.ntmps123
  go_wp2_with ((with_reducible refine Hfl.out.mono ?_); rintro e w2 ⟨rfl, h2⟩; have H2 := Lib.hid h2; clear h2)
  refine bodyPost_end (results_none rfl _ _ _) rfl ?_
  exact ⟨rfl, H2.out⟩
set_option maxHeartbeats 4000000 in
theorem err_any (R : RdV) (g : Nat) (w : World) (h : RdAt w g R) :
    Calls Try.prog 83 #[.pointer (some ⟨g, 0, none⟩)] w fun e w' => e = .returned (.int .i64 (R.e : Int)) ∧ w = w' := by
  obtain ⟨f0, f1⟩ := h.cells
  clear h
  go_enter Try.func83, Try.ntmps83
  go_wp2_with fail
  go_ret
  exact ⟨rfl, rfl⟩
def RdV.end_ (R : RdV) : RdV := if R.s = [] then R else R.fail 4
set_option maxHeartbeats 4000000 in
theorem end_any (R : RdV) (g : Nat) (w : World) (h : RdAt w g R) :
    Calls Try.prog 84 #[.pointer (some ⟨g, 0, none⟩)] w fun e w' => e = .returned (.int .i64 (R.end_.e : Int)) ∧ RdAt w' g R.end_ ∧ Only g w w' := by
  have hsz := bs_size R.s
  unfold RdV.end_
  by_cases hs : R.s = []
  · rw [if_pos hs]
    have hl : R.s.length = 0 := by rw [hs]; rfl
    obtain ⟨f0, f1⟩ := h.cells
    have H := Lib.hid h; clear h
    rw [hl] at hsz
    have hlt : ¬ (0 : Int) < 0 := by omega
    have Hs := Lib.hid hs; clear hs hl
    go_enter Try.func84, Try.ntmps84
    go_wp2_with fail
    go_ret
    exact ⟨rfl, H.out, Only.refl _ _⟩
  · rw [if_neg hs]
    have hl : 0 < R.s.length := List.length_pos_iff.2 hs
    have hl' : (0 : Int) < (R.s.length : Int) := by omega
    obtain ⟨f0, f1⟩ := h.cells
    have Hfl := Lib.hid (fail_form R g w h)
    clear h hs hl
    go_enter Try.func84, Try.ntmps84
    go_wp2_with ((with_reducible refine Hfl.out.mono ?_); rintro e w2 ⟨rfl, h2⟩; have H2 := Lib.hid h2; obtain ⟨k0, k1⟩ := h2.1.cells; clear h2 f0 f1)
    go_ret
    exact ⟨rfl, H2.out⟩
end Go.Proofs.Ytkngadbeflepoaa
namespace Go.Proofs.Ytkngadbeflepoaa
open Go.RowKit
theorem bigN_take {l : List UInt8} {i : Nat} (hi : i < l.length) : bigN (l.take (i + 1)) = bigN (l.take i) * 256 + (l.getD i 0).toNat := by
  rw [List.take_succ_eq_append_getElem hi, bigN_snoc]
  simp [List.getD, List.getElem?_eq_getElem hi]
theorem bigN_small {l : List UInt8} {i : Nat} (hl : l.length ≤ 8) (hi : i < l.length) : bigN (l.take i) < 72057594037927936 := by
  have h := bigN_lt (l.take i)
  rw [List.length_take] at h
  have h2 : (256 : Nat) ^ min i l.length ≤ 256 ^ 7 := Nat.pow_le_pow_right (by omega) (by omega)
  have h3 : (256 : Nat) ^ 7 = 72057594037927936 := by decide
  omega
theorem bigN_most {l : List UInt8} (hl : l.length ≤ 8) : bigN l < 18446744073709551616 := by
  have h := bigN_lt l
  have h2 : (256 : Nat) ^ l.length ≤ 256 ^ 8 := Nat.pow_le_pow_right (by omega) (by omega)
  have h3 : (256 : Nat) ^ 8 = 18446744073709551616 := by decide
  omega
theorem take_cases (R : RdV) (n : Nat) : ((R.take n).2.1 = true ∧ (R.take n).1.length = n) ∨ ((R.take n).2.1 = false ∧ (R.take n).1 = []) := by
  unfold RdV.take
  split
  · split
    · exact .inl ⟨rfl, by simp; omega⟩
    · exact .inr ⟨rfl, rfl⟩
  · exact .inr ⟨rfl, rfl⟩
theorem or_bv (x y : BitVec 64) : bits .or .u64 (x.toNat : Int) (y.toNat : Int) = ((x ||| y).toNat : Int) := by
  have h : ∀ z : BitVec 64, BitVec.ofInt 64 (z.toNat : Int) = z := fun z => by rw [BitVec.ofInt_natCast]; simp
  show IntKind.u64.wrap ((BitVec.ofInt 64 (x.toNat : Int) ||| BitVec.ofInt 64 (y.toNat : Int)).toNat : Int) = _
  rw [h, h, IntKind.wrap_u64]
  have := (x ||| y).isLt
  omega
theorem or_add (n b : Nat) (hn : n < 72057594037927936) (hb : b < 256) : bits BinOp.or IntKind.u64 ((n : Int) * 256) (IntKind.u64.wrap (b : Int)) = ((n * 256 + b : Nat) : Int) := by
  have h := or_bv (BitVec.ofNat 64 (n * 256)) (BitVec.ofNat 64 b)
  have e1 : (BitVec.ofNat 64 (n * 256)).toNat = n * 256 := by simp; omega
  have e2 : (BitVec.ofNat 64 b).toNat = b := by simp; omega
  rw [BitVec.toNat_or, e1, e2] at h
  rw [IntKind.wrap_u64, show ((n : Int) * 256) = ((n * 256 : Nat) : Int) by omega, show (b : Int) % 18446744073709551616 = (b : Int) by omega, h]
  congr 1
  rw [show n * 256 = 2 ^ 8 * n by omega]
  exact (Nat.two_pow_add_eq_or_of_lt hb n).symm
set_option maxRecDepth 100000 in
set_option maxHeartbeats 16000000 in
theorem rnumber_any (R : RdV) (g : Nat) (w : World) (h : RdAt w g R) :
    Calls Try.prog 135 #[.pointer (some ⟨g, 0, none⟩)] w fun e w' => e = .returned (.int .u64 (R.num.1 : Int)) ∧ RdAt w' g R.num.2 ∧ Only g w w' := by
  have hb := byte_any R g w h
  unfold RdV.num
  clear h
  obtain ⟨⟨b, R1⟩, hB⟩ : ∃ x, R.byte = x := ⟨_, rfl⟩
  rw [hB] at hb ⊢
  simp only at hb ⊢
  clear hB
  have hb8 := b.toNat_lt
  obtain ⟨n, hn⟩ : ∃ n, b.toNat = n := ⟨_, rfl⟩
  rw [hn] at hb hb8 ⊢
  clear hn
  have Hb := Lib.hid hb; clear hb
  by_cases h248 : n < 248
  · rw [if_pos h248]
    have hlt' : (n : Int) < 248 := by omega
    have hwrap : IntKind.u64.wrap (n : Int) = (n : Int) := by rw [IntKind.wrap_u64]; omega
    clear hb8 h248
    go_enter Try.func135, Try.ntmps135
    go_wp2_with ((with_reducible refine Hb.out.mono ?_); rintro e w2 ⟨rfl, h2⟩; have H2 := Lib.hid h2; clear h2)
    go_ret
    exact ⟨rfl, H2.out⟩
  · rw [if_neg h248]
    have hlt' : ¬ (n : Int) < 248 := by omega
    obtain ⟨k, hk⟩ : ∃ k, n = k + 247 := ⟨n - 247, by omega⟩
    subst hk
    rw [show k + 247 - 247 = k by omega]
    have hk8 : k ≤ 8 := by omega
    have hsub : IntKind.i64.wrap (((k + 247 : Nat) : Int) - 247) = (k : Int) := by rw [IntKind.wrap_i64]; omega
    have hwr1 : IntKind.i64.wrap ((k + 247 : Nat) : Int) = ((k + 247 : Nat) : Int) := by rw [IntKind.wrap_i64]; omega
    have hwr2 : IntKind.u64.wrap (k : Int) = (k : Int) := by rw [IntKind.wrap_u64]; omega
    have Ht := Lib.hid (fun (y : World) (hy : RdAt y g R1) => take_any R1 k (by omega) g y hy)
    unfold RdV.wide
    have hcase := take_cases R1 k
    generalize R1.take k = X at *
    obtain ⟨t, ok, R2⟩ := X
    simp only at Ht hcase ⊢
    clear hb8 h248
    obtain ⟨m, hm⟩ : ∃ m : Int, ((k + 247 : Nat) : Int) = m := ⟨_, rfl⟩
    rw [hm] at Hb hlt' hsub hwr1
    clear hm
    rcases hcase with ⟨rfl, hl⟩ | ⟨rfl, rfl⟩
    · simp only [if_true]
      obtain ⟨⟨rn, RR⟩, hres⟩ : ∃ x, (if bigN t < 248 ∨ wid (bigN t) ≠ k then (0, R2.fail 4) else (bigN t, R2)) = x := ⟨_, rfl⟩
      rw [hres]
      have Hres := Lib.hid hres; clear hres
      have hk1 : (k : Int) ≤ 8 := by omega
      go_enter Try.func135, Try.ntmps135
      go_upto_region 9 with (first
        | ((with_reducible refine Hb.out.mono ?_); rintro e w2 ⟨rfl, h2⟩; have H2 := Lib.hid h2; clear h2 Hb)
        | ((with_reducible refine (Ht.out _ H2.out.1).mono ?_); rintro e w3 ⟨rfl, h3⟩; have H3 := Lib.hid (And.intro h3.1 (H2.out.2.trans h3.2)); clear h3 H2 Ht))
      go_wp2_with fail
      go_loopw [7, 28] (fun s7 s28 wr => ∃ i : Nat, i ≤ k ∧ s28 = .int .i64 (i : Int) ∧ s7 = .int .u64 (bigN (t.take i) : Int) ∧ w3 = wr) (fun _ s28 _ => k - (intOf s28).toNat)
      case atStart => exact ⟨0, by omega, rfl, rfl, rfl⟩
      case round =>
        obtain ⟨i, hi, rfl, rfl, rfl⟩ := hrel
        by_cases hlt : i < k
        · have hlt2 : (i : Int) < (k : Int) := by omega
          have hsucc := tsucc (n := i) (by omega)
          have hst := bigN_take (l := t) (i := i) (by omega)
          have hsm := bigN_small (l := t) (i := i) (by omega) (by omega)
          have hch : (⟨t.toArray⟩ : ByteArray).size = k := by rw [bs_size]; exact hl
          have hor := or_add (bigN (t.take i)) (t.getD i 0).toNat hsm (t.getD i 0).toNat_lt
          have hix : (⟨t.toArray⟩ : ByteArray)[i]'(by rw [hch]; exact hlt) = t.getD i 0 := by
            show t.toArray[i]'(by simp; omega) = _
            simp [List.getD, List.getElem?_eq_getElem (show i < t.length by omega)]
          rw [← hst] at hor
          rw [← hix] at hor
          clear hst hix
          go_wp2_with fail
          refine ⟨⟨i + 1, hlt, by simp, ?_, trivial⟩, by simp [intOf]; omega⟩
          rw [← hor]
        · have hlt2 : ¬ (i : Int) < (k : Int) := by omega
          have hall : t.take i = t := List.take_of_length_le (by omega)
          rw [hall]
          have hb64 := bigN_most (l := t) (by omega)
          obtain ⟨N, hN⟩ : ∃ N, bigN t = N := ⟨_, rfl⟩
          have hq := Hres.out
          rw [hN] at hb64 hq
          have Hwd := Lib.hid (fun y : World => width_any N (by omega) y)
          have Hfl := Lib.hid (fun (y : World) (hy : RdAt y g R2) => fail_form R2 g y hy)
          obtain ⟨v, hv⟩ : ∃ v, wid N = v := ⟨_, rfl⟩
          rw [hv] at Hwd hq
          clear hb64 hall hv
          have HN := Lib.hid hN; clear hN
          by_cases c1 : N < 248
          · have c1' : (N : Int) < 248 := by omega
            rw [if_pos (.inl c1)] at hq
            cases hq
            rw [HN.out]
            clear c1
            go_wp2_with (first
              | ((with_reducible refine (Hwd.out _).mono ?_); rintro e w' ⟨rfl, rfl⟩)
              | ((with_reducible refine (Hfl.out _ H3.out.1).mono ?_); rintro e w4 ⟨rfl, h4⟩; have H4 := Lib.hid (And.intro h4.1 (H3.out.2.trans h4.2)); clear h4))
            go_ret
            exact ⟨rfl, H4.out⟩
          · have c1' : ¬ (N : Int) < 248 := by omega
            by_cases c2 : v = k
            · subst c2
              rw [if_neg (by omega)] at hq
              cases hq
              rw [HN.out]
              clear c1
              go_wp2_with ((with_reducible refine (Hwd.out _).mono ?_); rintro e w' ⟨rfl, rfl⟩)
              go_ret
              exact ⟨rfl, H3.out⟩
            · have c2' : ((v : Int) != (k : Int)) = true := by rw [bne_iff_ne]; omega
              rw [if_pos (.inr c2)] at hq
              cases hq
              rw [HN.out]
              have C2 := Lib.hid c2; clear c1 c2
              go_wp2_with (first
                | ((with_reducible refine (Hwd.out _).mono ?_); rintro e w' ⟨rfl, rfl⟩)
                | ((with_reducible refine (Hfl.out _ H3.out.1).mono ?_); rintro e w4 ⟨rfl, h4⟩; have H4 := Lib.hid (And.intro h4.1 (H3.out.2.trans h4.2)); clear h4))
              go_ret
              exact ⟨rfl, H4.out⟩
    · simp only [Bool.false_eq_true, if_false]
      go_enter Try.func135, Try.ntmps135
      go_wp2_with (first
        | ((with_reducible refine Hb.out.mono ?_); rintro e w2 ⟨rfl, h2⟩; have H2 := Lib.hid h2; clear h2 Hb)
        | ((with_reducible refine (Ht.out _ H2.out.1).mono ?_); rintro e w3 ⟨rfl, h3⟩; have H3 := Lib.hid (And.intro h3.1 (H2.out.2.trans h3.2)); clear h3 H2 Ht))
      go_ret
      exact ⟨rfl, H3.out⟩
theorem rnum_lt (R : RdV) : R.num.1 < 18446744073709551616 := by
  unfold RdV.num
  have hb := R.byte.1.toNat_lt
  split
  · show R.byte.1.toNat < _
    omega
  · unfold RdV.wide
    rcases take_cases R.byte.2 (R.byte.1.toNat - 247) with ⟨h1, h2⟩ | ⟨h1, h2⟩
    · rw [if_pos h1]
      split
      · show 0 < _
        omega
      · exact bigN_most (by omega)
    · rw [h1]
      simp
theorem below_lt (R : RdV) (n : Nat) (hn : 0 < n) : (R.below n).1 < n := by
  unfold RdV.below
  split
  · split
    · assumption
    · exact hn
  · exact hn
set_option maxRecDepth 100000 in
set_option maxHeartbeats 8000000 in
theorem below_any (R : RdV) (n g : Nat) (w : World) (h : RdAt w g R) :
    Calls Try.prog 133 #[.pointer (some ⟨g, 0, none⟩), .int .u64 (n : Int)] w fun e w' => e = .returned (.int .u64 ((R.below n).1 : Int)) ∧ RdAt w' g (R.below n).2 ∧ Only g w w' := by
  have hb := rnumber_any R g w h
  have hlt := rnum_lt R
  unfold RdV.below
  clear h
  generalize R.num = X at *
  obtain ⟨v, R1⟩ := X
  simp only at hb hlt ⊢
  have hwrap : IntKind.u64.wrap (v : Int) = (v : Int) := by rw [IntKind.wrap_u64]; omega
  clear hlt
  have Hb := Lib.hid hb; clear hb
  obtain ⟨b, hbe⟩ : ∃ b, decide (R1.e ≠ 0) = b := ⟨_, rfl⟩
  have Hfd := Lib.hid (fun (y : World) (hy : RdAt y g R1) => (show Calls Try.prog 132 #[.pointer (some ⟨g, 0, none⟩)] y fun e w' => e = .returned (.bool b) ∧ y = w' by rw [← hbe]; exact failed_any R1 g y hy))
  have Hfl := Lib.hid (fun (y : World) (hy : RdAt y g R1) => fail_form R1 g y hy)
  by_cases he : R1.e = 0
  · rw [if_pos he]
    have hb0 : b = false := by rw [← hbe]; simp [he]
    subst hb0
    clear hbe he
    by_cases hv : v < n
    · have hv' : ¬ (n : Int) ≤ (v : Int) := by omega
      rw [if_pos hv]
      go_enter Try.func133, Try.ntmps133
      go_wp2_with (first
        | ((with_reducible refine Hb.out.mono ?_); rintro e w2 ⟨rfl, h2⟩; have H2 := Lib.hid h2; clear h2 Hb)
        | ((with_reducible refine (Hfd.out _ H2.out.1).mono ?_); rintro e w' ⟨rfl, rfl⟩))
      go_ret
      exact ⟨rfl, H2.out⟩
    · have hv' : (n : Int) ≤ (v : Int) := by omega
      rw [if_neg hv]
      go_enter Try.func133, Try.ntmps133
      go_wp2_with (first
        | ((with_reducible refine Hb.out.mono ?_); rintro e w2 ⟨rfl, h2⟩; have H2 := Lib.hid h2; clear h2 Hb)
        | ((with_reducible refine (Hfd.out _ H2.out.1).mono ?_); rintro e w' ⟨rfl, rfl⟩)
        | ((with_reducible refine (Hfl.out _ H2.out.1).mono ?_); rintro e w4 ⟨rfl, h4⟩; have H4 := Lib.hid (And.intro h4.1 (H2.out.2.trans h4.2)); clear h4))
      go_ret
      exact ⟨rfl, H4.out⟩
  · rw [if_neg he]
    have hb0 : b = true := by rw [← hbe]; simp [he]
    subst hb0
    clear hbe he
    go_enter Try.func133, Try.ntmps133
    go_wp2_with (first
      | ((with_reducible refine Hb.out.mono ?_); rintro e w2 ⟨rfl, h2⟩; have H2 := Lib.hid h2; clear h2 Hb)
      | ((with_reducible refine (Hfd.out _ H2.out.1).mono ?_); rintro e w' ⟨rfl, rfl⟩))
    go_ret
    exact ⟨rfl, H2.out⟩
set_option maxHeartbeats 4000000 in
theorem rbelow_any (R : RdV) (n g : Nat) (w : World) (h : RdAt w g R) :
    Calls Try.prog 121 #[.pointer (some ⟨g, 0, none⟩), .int .u64 (n : Int)] w fun e w' => e = .returned (.int .u64 ((R.below n).1 : Int)) ∧ RdAt w' g (R.below n).2 ∧ Only g w w' := by
  have Hb := Lib.hid (below_any R n g w h); clear h
  go_enter Try.func121, Try.ntmps121
  go_wp2_with ((with_reducible refine Hb.out.mono ?_); rintro e w2 ⟨rfl, h2⟩; have H2 := Lib.hid h2; clear h2 Hb)
  go_ret
  exact ⟨rfl, H2.out⟩
set_option maxHeartbeats 4000000 in
theorem rstr2_any (R : RdV) (m g : Nat) (hm : m < 1000000) (w : World) (h : RdAt w g R) :
    Calls Try.prog 122 #[.pointer (some ⟨g, 0, none⟩), .int .i64 (m : Int)] w fun e w' => e = .returned (.string ⟨(R.str m).1.toArray⟩) ∧ RdAt w' g (R.str m).2 ∧ Only g w w' := by
  have hb : Calls Try.prog 133 #[.pointer (some ⟨g, 0, none⟩), .int .u64 ((m : Int) + 1)] w fun e w' => e = .returned (.int .u64 ((R.below (m + 1)).1 : Int)) ∧ RdAt w' g (R.below (m + 1)).2 ∧ Only g w w' := below_any R (m + 1) g w h
  have hlt := below_lt R (m + 1) (by omega)
  clear h
  unfold RdV.str
  generalize R.below (m + 1) = X at *
  obtain ⟨n, R1⟩ := X
  simp only at hb hlt ⊢
  have Ht := Lib.hid (fun (y : World) (hy : RdAt y g R1) => take_any R1 n (by omega) g y hy)
  generalize R1.take n = Y at *
  obtain ⟨t, ok, R2⟩ := Y
  simp only at Ht ⊢
  have hw1 : IntKind.u64.wrap (m : Int) = (m : Int) := by rw [IntKind.wrap_u64]; omega
  have hw2 : IntKind.u64.wrap ((m : Int) + 1) = ((m + 1 : Nat) : Int) := by rw [IntKind.wrap_u64]; omega
  have hmx : max (m : Int) 0 = (m : Int) := by omega
  have Hb := Lib.hid hb; clear hb hlt
  go_enter Try.func122, Try.ntmps122
  go_wp2_with (first
    | ((with_reducible refine Hb.out.mono ?_); rintro e w2 ⟨rfl, h2⟩; have H2 := Lib.hid h2; clear h2 Hb)
    | ((with_reducible refine (Ht.out _ H2.out.1).mono ?_); rintro e w3 ⟨rfl, h3⟩; have H3 := Lib.hid (And.intro h3.1 (H2.out.2.trans h3.2)); clear h3 H2 Ht))
  go_ret
  exact ⟨rfl, H3.out⟩
end Go.Proofs.Ytkngadbeflepoaa
namespace Go.Proofs.Ytkngadbeflepoaa
open Go.RowKit
theorem tab_cell {w : World} {g : Nat} {t : TabV} (h : TabAt w g t) {i : Nat} (hi : i < 4) : w.cell? ⟨g, i * 3, none⟩ = some (.int .u32 ((t.at_ i).seq.toNat : Int)) ∧ w.cell? ⟨g, i * 3 + 1, none⟩ = some (.int .u8 ((t.at_ i).code : Int)) ∧ w.cell? ⟨g, i * 3 + 2, none⟩ = some (.string (t.at_ i).text) := by
  obtain ⟨⟨a0, a1, a2⟩, ⟨b0, b1, b2⟩, ⟨c0, c1, c2⟩, ⟨d0, d1, d2⟩⟩ := h.cells
  have h1 : i = 0 ∨ i = 1 ∨ i = 2 ∨ i = 3 := by omega
  rcases h1 with rfl | rfl | rfl | rfl
  · exact ⟨a0, a1, a2⟩
  · exact ⟨b0, b1, b2⟩
  · exact ⟨c0, c1, c2⟩
  · exact ⟨d0, d1, d2⟩
theorem TabAt.below' {w w' : World} {g : Nat} {t : TabV} (h : TabAt w g t) (hb : Below w.heap.size w w') : TabAt w' g t := (hb.block g (Array.getElem?_eq_some_iff.1 h).1).trans h
end Go.Proofs.Ytkngadbeflepoaa
