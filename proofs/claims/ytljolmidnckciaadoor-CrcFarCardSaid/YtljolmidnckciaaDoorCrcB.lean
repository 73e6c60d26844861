/- A row of bytes in a block of the call's own; the bytes that CrcFinds turns. Plain facts on worlds and lists; no condition. -/
import Derived.Test.YtljolmidnckciaaDoorCrcA
import Derived.WalkKit
import Derived.Laws.IdiomStrings
namespace Go.Proofs.YtljolmidnckciaaDoor
open Go.RowKit

/-- The bytes l lie in block B from its head on, and may be written. -/
def ByteRow (W : World) (B : Nat) (l : List UInt8) : Prop := ∀ j (hj : j < l.length), W.cell? ⟨B, j, none⟩ = some (.int .u8 (l[j].toNat : Int)) ∧ W.frozen? ⟨B, j, none⟩ = false

theorem ByteRow.drew {W : World} {B : Nat} {l : List UInt8} (h : ByteRow W B l) : ByteRow W.drew B l := h

theorem ByteRow.set {W : World} {B : Nat} {l : List UInt8} (h : ByteRow W B l) {q : Nat} (u : UInt8) {x : Int} (hx : x = (u.toNat : Int)) : ByteRow (W.setCell ⟨B, q, none⟩ (.int .u8 x)) B (l.set q u) := by
  subst hx
  intro j hj
  have hj' : j < l.length := by simpa using hj
  obtain ⟨h1, h2⟩ := h j hj'
  refine ⟨?_, by rw [World.frozen?_setCell]; exact h2⟩
  by_cases e : q = j
  · subst e
    rw [World.cell?_setCell_same _ _ _ h1]
    simp
  · rw [World.cell?_setCell_other _ _ _ _ (by intro h; cases h; exact e rfl), h1]
    simp [e]

theorem ByteRow.of_string (w : World) (s : ByteArray) (cap : Nat) (t : TypeId) : ByteRow (w.alloc (.cells (bytesRow s cap) t ((bytesRow s cap).size, (bytesRow s cap).size + 1))) w.heap.size s.data.toList := by
  intro j hj
  have hj' : j < s.data.size := by simpa using hj
  refine ⟨?_, ?_⟩
  · rw [World.cell?_alloc_mark, bytesRow_at s cap j hj']
    simp
  · rw [World.frozen?_alloc_mark]
    have : ¬ ((bytesRow s cap).size ≤ j) := by
      have e : (bytesRow s cap).size = s.data.size + (cap - s.size) := by simp [bytesRow]
      omega
    simp [this]

theorem ByteRow.of_made (w : World) (n : Nat) (t : TypeId) : ByteRow (w.alloc (.cells (madeCells #[Value.int .u8 0] n) t)) w.heap.size (List.replicate n 0) := by
  intro j hj
  have hj' : j < n := by simpa using hj
  refine ⟨?_, World.frozen?_alloc_new _ _ _ _⟩
  rw [World.cell?_alloc_new]
  simp [madeCells, hj', Nat.mod_one]

theorem ByteRow.alloc {W : World} {B : Nat} {l : List UInt8} (h : ByteRow W B l) (hB : B < W.heap.size) (o : Obj) : ByteRow (W.alloc o) B l := fun j hj =>
  ⟨by rw [World.cell?_alloc_lt _ _ _ hB]; exact (h j hj).1, by rw [World.frozen?_alloc_old _ _ _ (by show B ≠ _; omega)]; exact (h j hj).2⟩

theorem ByteRow.other {W : World} {B : Nat} {l : List UInt8} (h : ByteRow W B l) {a : Addr} (ha : a.block ≠ B) (v : Value) : ByteRow (W.setCell a v) B l := fun j hj =>
  ⟨by rw [World.cell?_setCell_other _ _ _ _ (by intro e; rw [e] at ha; exact ha rfl)]; exact (h j hj).1, by rw [World.frozen?_setCell]; exact (h j hj).2⟩

theorem ByteRow.string {P : Program} {W : World} {B : Nat} {l : List UInt8} (h : ByteRow W B l) (src dst e : TypeId) {n cap : Nat} (hn : l.length = n) (hs : P.underlying src = some (.slice e)) (he : P.underlying e = some (.int .u8)) (hd : P.underlying dst = some .string) :
    (convert src dst (.slice (some ⟨B, 0, none⟩) n cap)).run P W = .ok (.string ⟨l.toArray⟩) W := by
  subst hn
  refine run_convert_bytes_back W src dst e ⟨B, 0, none⟩ cap l hs he hd (fun j hj => ?_)
  have := (h j hj).1
  simp only [Addr.add]
  split
  · rename_i e; subst e; exact this
  · simpa using this

namespace Crc
def flip (l : List UInt8) (p : Nat) : List UInt8 := l.set (p / 8) (l.getD (p / 8) 0 ^^^ UInt8.ofNat (2 ^ (p % 8)))
def fl (a : List UInt8) (m : BitVec 64) (bit : Nat) : Nat → List UInt8
  | 0 => a
  | k + 1 => if m.getLsbD k then flip (fl a m bit k) (bit + k) else fl a m bit k
def chg (m : BitVec 64) : Nat → Bool
  | 0 => false
  | k + 1 => if m.getLsbD k then true else chg m k
theorem flip_length (l : List UInt8) (p : Nat) : (flip l p).length = l.length := by simp [flip]
theorem fl_length (a : List UInt8) (m : BitVec 64) (bit k : Nat) : (fl a m bit k).length = a.length := by
  induction k with
  | zero => rfl
  | succ k ih => simp only [fl]; split <;> simp [flip_length, ih]
theorem bit_iff (m : BitVec 64) (k : Nat) : (bits .and .u64 ((m.toNat : Int) / 2 ^ k) 1 == 1) = m.getLsbD k := by
  have e : ((m.toNat : Int) / 2 ^ k) = ((m >>> k).toNat : Int) := by
    rw [BitVec.toNat_ushiftRight, Nat.shiftRight_eq_div_pow]; simp
  rw [e, ← low_iff]
  have : (m >>> k &&& 1#64 == 1#64) = (m >>> k).getLsbD 0 := by
    rw [Bool.eq_iff_iff, beq_iff_eq]
    constructor
    · intro h
      have := congrArg (fun x => x.getLsbD 0) h
      simpa using this
    · intro h
      apply BitVec.eq_of_getLsbD_eq
      intro i hi
      rw [BitVec.getLsbD_and]
      by_cases e : i = 0
      · subst e; rw [h]; rfl
      · simp [e]
  rw [this]; simp
theorem xor_u8 (v : UInt8) (r : Nat) (hr : r < 8) : bits .xor .u8 (v.toNat : Int) (2 ^ r % 256) = ((v ^^^ UInt8.ofNat (2 ^ r)).toNat : Int) := by
  have h2 : (2 : Nat) ^ r < 256 := by
    have : r = 0 ∨ r = 1 ∨ r = 2 ∨ r = 3 ∨ r = 4 ∨ r = 5 ∨ r = 6 ∨ r = 7 := by omega
    rcases this with h | h | h | h | h | h | h | h <;> subst h <;> decide
  have e : ((2 : Int) ^ r % 256) = ((2 ^ r : Nat) : Int) := by
    have : ((2 : Int) ^ r) = ((2 ^ r : Nat) : Int) := by simp
    rw [this]; exact Int.emod_eq_of_lt (Int.natCast_nonneg _) (Int.ofNat_lt.2 h2)
  rw [e, u8_xor_nat _ _ v.toNat_lt h2]
  rw [UInt8.toNat_xor, UInt8.toNat_ofNat', Nat.mod_eq_of_lt h2]
theorem xor_u8' (u v : UInt8) : bits .xor .u8 (u.toNat : Int) (v.toNat : Int) = ((u ^^^ v).toNat : Int) := by
  rw [u8_xor_nat _ _ u.toNat_lt v.toNat_lt]; simp
/-- The first k of n bytes put over one another. -/
def ov (A B : List UInt8) (n k : Nat) : List UInt8 := (List.range n).map fun j => if j < k then A.getD j 0 ^^^ B.getD j 0 else 0
theorem ov_length (A B : List UInt8) (n k : Nat) : (ov A B n k).length = n := by simp [ov]
theorem ov_zero (A B : List UInt8) (n : Nat) : ov A B n 0 = List.replicate n 0 := by
  apply List.ext_getElem <;> simp [ov]
theorem ov_set (A B : List UInt8) (n k : Nat) : (ov A B n k).set k (A.getD k 0 ^^^ B.getD k 0) = ov A B n (k + 1) := by
  apply List.ext_getElem
  · simp [ov]
  · intro j h1 h2
    simp only [ov, List.getElem_set, List.getElem_map, List.getElem_range]
    by_cases e : k = j
    · subst e; simp
    · have : (j < k + 1) = (j < k) := by simp; omega
      simp [e, this]
end Crc
end Go.Proofs.YtljolmidnckciaaDoor
