/- The document's row (palaverref16): Get, May, Same, Last. Condition: the row's slots lie in items of their own. -/
import Derived.Test.YtimhpncdlaildaaSlJ
namespace Go.Proofs.Ytimhpncdlaildaa
open Go.RowKit

abbrev Its := List (BitVec 64 × ByteArray)
def dflt : BitVec 64 × ByteArray := (0#64, ByteArray.empty)
def refCells (b t : BitVec 64) (A : Option Addr) (n c : Nat) : Array Value := #[.int .u64 (b.toNat : Int), .int .u64 (t.toNat : Int), .slice A n c]
def refV (b t : BitVec 64) (A : Option Addr) (n c : Nat) : Value := .agg (refCells b t A n c)
/-- A row of the document's that lies in a block of its own. -/
def RefAt (w : World) (g : Nat) (b t : BitVec 64) (A : Option Addr) (n c : Nat) : Prop := w.heap[g]? = some (.cells (refCells b t A n c) 46 (0, 0))
theorem RefAt.new (w : World) (b t : BitVec 64) (A : Option Addr) (n c : Nat) : RefAt (w.alloc (.cells (refCells b t A n c) 46)) w.heap.size b t A n c := heap_alloc_new w _
theorem RefAt.lt {w : World} {g : Nat} {b t : BitVec 64} {A : Option Addr} {n c : Nat} (h : RefAt w g b t A n c) : g < w.heap.size := (Array.getElem?_eq_some_iff.1 h).1
theorem RefAt.below {w w' : World} {g : Nat} {b t : BitVec 64} {A : Option Addr} {n c : Nat} (h : RefAt w g b t A n c) (hb : Below w.heap.size w w') : RefAt w' g b t A n c := (hb.block g h.lt).trans h
theorem RefAt.cells {w : World} {g : Nat} {b t : BitVec 64} {A : Option Addr} {n c : Nat} (h : RefAt w g b t A n c) : w.cell? ⟨g, 0, none⟩ = some (.int .u64 (b.toNat : Int)) ∧ w.cell? ⟨g, 1, none⟩ = some (.int .u64 (t.toNat : Int)) ∧ w.cell? ⟨g, 2, none⟩ = some (.slice A n c) :=
  ⟨cell_of_row _ _ _ _ _ _ h, cell_of_row _ _ _ _ _ _ h, cell_of_row _ _ _ _ _ _ h⟩
theorem items_get {w : World} {A : Option Addr} {n i : Nat} {L : Its} (h : ItemsAt w A n L) (hi : i < n) :
    ∃ b o, A = some ⟨b, o, none⟩ ∧ b < w.heap.size ∧ w.cell? ⟨b, o + i * 2, none⟩ = some (.int .u64 ((L.getD i dflt).1.toNat : Int)) ∧ w.cell? ⟨b, o + i * 2 + 1, none⟩ = some (.string (L.getD i dflt).2) := by
  have hl := h.hlen
  have hz : L[i]? = some (L.getD i dflt) := by simp [List.getD, List.getElem?_eq_getElem (show i < L.length by omega)]
  obtain ⟨b, o, h1, h2, h3⟩ := h.cells i _ hz
  exact ⟨b, o, h1, h2, h3 0 _ rfl, h3 1 _ rfl⟩
theorem drop_getD {L : Its} {i : Nat} (h : i < L.length) : L.drop i = L.getD i dflt :: L.drop (i + 1) := by
  rw [List.drop_eq_getElem_cons h]
  simp [List.getD, List.getElem?_eq_getElem h]

def getV (L : Its) (slot : BitVec 64) : Value := .tuple #[.string ((mget L slot).getD ByteArray.empty), .bool (mget L slot).isSome]

set_option maxHeartbeats 1000000 in
theorem refGet_any (b t : BitVec 64) (A : Option Addr) (n c : Nat) (L : Its) (slot : BitVec 64) (w : World) (h : ItemsAt w A n L) :
    Calls Try.prog 32 #[refV b t A n c, .int .u64 (slot.toNat : Int)] w fun e w' => e = .returned (getV L slot) ∧ Below w.heap.size w w' := by
  have hm := h.hmax
  unfold maxLen at hm
  have hbel := (Below.refl w.heap.size w).alloc (Nat.le_refl _) (.cells (refCells b t A n c) 46)
  have h1 := h.below hbel
  have hr := RefAt.new w b t A n c
  have Hb := Lib.hid hbel; clear hbel
  have H1 := Lib.hid h1; clear h1
  have hl := Lib.hid h.hlen; clear h
  unfold refV
  go_enter Try.func32, Try.ntmps32
  go_upto_region 1 with fail
  change Code.wp _ _ _ _ (w.alloc (.cells (refCells b t A n c) 46))
  generalize w.alloc (.cells (refCells b t A n c) 46) = wa at *
  generalize hgs : w.heap.size = g at *
  have Hgs := Lib.hid hgs; clear hgs
  obtain ⟨r0, r1, r2⟩ := hr.cells
  clear hr r0 r1
  go_wp2_with fail
  go_loopw [6] (fun s6 wr => wr = wa ∧ ∃ i : Nat, i ≤ n ∧ s6 = .int .i64 (i : Int) ∧ mget (L.drop i) slot = mget L slot) (fun s6 _ => n - (intOf s6).toNat)
  case atStart => exact ⟨rfl, 0, by omega, rfl, rfl⟩
  case round =>
    obtain ⟨rfl, i, hi, rfl, hdrop⟩ := hrel
    have hlen := hl.out
    by_cases hlt : i < n
    · have hlt' : (i : Int) < (n : Int) := by omega
      obtain ⟨b', o, rfl, _, e0, e1⟩ := items_get H1.out hlt
      have hsucc := i64_succ (n := i) (by omega)
      rw [drop_getD (by omega)] at hdrop
      rw [mget_cons] at hdrop
      generalize L.getD i dflt = p at *
      obtain ⟨k, v⟩ := p
      simp only at e0 e1 hdrop
      by_cases hk : k = slot
      · subst hk
        simp only [if_true] at hdrop
        have hv : getV L k = .tuple #[.string v, .bool true] := by simp only [getV, ← hdrop]; rfl
        have Hv := Lib.hid hv; clear hv hdrop hlen
        go_wp2_with fail
        go_ret2
        exact ⟨by rw [Hv.out]; rfl, by rw [Hgs.out]; exact Hb.out⟩
      · have hk' : ((k.toNat : Int) == (slot.toNat : Int)) = false := eq_int_false (by intro e; apply hk; apply BitVec.eq_of_toNat_eq; omega)
        rw [if_neg hk] at hdrop
        have Hd := Lib.hid hdrop; clear hdrop hlen hk e1
        go_wp2_with fail
        go_roundw
        case rel => exact ⟨by trivial, i + 1, hlt, rfl, Hd.out⟩
        case measure => simp [intOf]; omega
    · have hlt' : ¬ (i : Int) < (n : Int) := by omega
      have hv : getV L slot = .tuple #[.string ByteArray.empty, .bool false] := by
        rw [List.drop_eq_nil_of_le (by omega), mget_nil] at hdrop
        simp only [getV, ← hdrop]
        rfl
      have Hv := Lib.hid hv; clear hv hdrop hlen
      go_wp2_with fail
      go_ret2
      exact ⟨by rw [Hv.out]; rfl, by rw [Hgs.out]; exact Hb.out⟩

theorem refMay_any (slot : BitVec 64) (w : World) :
    Calls Try.prog 63 #[.int .u64 (slot.toNat : Int)] w fun e w' => e = .returned (.bool (decide (1 ≤ slot.toNat ∧ slot.toNat ≤ 4611686018427387904))) ∧ w = w' := by
  by_cases h1 : 1 ≤ slot.toNat
  · by_cases h2 : slot.toNat ≤ 4611686018427387904
    · have hv : decide (1 ≤ slot.toNat ∧ slot.toNat ≤ 4611686018427387904) = true := by simp [h1, h2]
      have Hv := Lib.hid hv; clear hv
      have d1 : (1 : Int) ≤ (slot.toNat : Int) := by omega
      have d2 : (slot.toNat : Int) ≤ 4611686018427387904 := by omega
      go_enter Try.func63, Try.ntmps63
      go_wp2_with fail
      go_ret
      exact ⟨by rw [Hv.out]; rfl, rfl⟩
    · have hv : decide (1 ≤ slot.toNat ∧ slot.toNat ≤ 4611686018427387904) = false := by simp [h1]; omega
      have Hv := Lib.hid hv; clear hv
      have d1 : (1 : Int) ≤ (slot.toNat : Int) := by omega
      have d2 : ¬ (slot.toNat : Int) ≤ 4611686018427387904 := by omega
      go_enter Try.func63, Try.ntmps63
      go_wp2_with fail
      go_ret
      exact ⟨rfl, rfl⟩
  · have hv : decide (1 ≤ slot.toNat ∧ slot.toNat ≤ 4611686018427387904) = false := by simp; omega
    have Hv := Lib.hid hv; clear hv
    have d1 : ¬ (1 : Int) ≤ (slot.toNat : Int) := by omega
    go_enter Try.func63, Try.ntmps63
    go_wp2_with fail
    go_ret
    exact ⟨rfl, rfl⟩

set_option maxHeartbeats 1000000 in
theorem refSame_any (A1 A2 : Option Addr) (n c1 c2 : Nat) (L : Its) (w : World) (h1 : ItemsAt w A1 n L) (h2 : ItemsAt w A2 n L) :
    Calls Try.prog 34 #[.slice A1 n c1, .slice A2 n c2] w fun e w' => e = .returned (.bool true) ∧ Below w.heap.size w w' := by
  have hm := h1.hmax
  unfold maxLen at hm
  have H1 := Lib.hid h1; clear h1
  have H2 := Lib.hid h2; clear h2
  go_enter Try.func34, Try.ntmps34
  go_wp2_with fail
  go_loopw [5] (fun s5 wr => ∃ i : Nat, i ≤ n ∧ s5 = .int .i64 (i : Int) ∧ Below w.heap.size w wr) (fun s5 _ => n - (intOf s5).toNat)
  case atStart => exact ⟨0, by omega, rfl, Below.refl _ _⟩
  case round =>
    obtain ⟨i, hi, rfl, hb⟩ := hrel
    by_cases hlt : i < n
    · have hlt' : (i : Int) < (n : Int) := by omega
      obtain ⟨b1, o1, rfl, _, e10, e11⟩ := items_get (H1.out.below hb) hlt
      obtain ⟨b2, o2, rfl, _, e20, e21⟩ := items_get (H2.out.below hb) hlt
      have hsucc := i64_succ (n := i) (by omega)
      generalize L.getD i dflt = p at *
      obtain ⟨k, v⟩ := p
      simp only at e10 e11 e20 e21
      have Hb := Lib.hid hb; clear hb
      go_wp2_with fail
      go_quiet (fail)
      go_wp2_with fail
      go_roundw
      case rel => exact ⟨i + 1, hlt, rfl, Hb.out.trans ((below_drewN wr _).mono Hb.out.size)⟩
      case measure => simp [intOf]; omega
    · have hlt' : ¬ (i : Int) < (n : Int) := by omega
      have Hb := Lib.hid hb; clear hb
      go_wp2_with fail
      go_ret
      exact ⟨rfl, Hb.out⟩

/-- What Last tells. -/
def refLastS (L : Its) (t : BitVec 64) : Nat := if 0 < L.length ∧ t.toNat < (L.getD (L.length - 1) dflt).1.toNat then (L.getD (L.length - 1) dflt).1.toNat else t.toNat
set_option maxHeartbeats 1000000 in
theorem refLast_any (b t : BitVec 64) (A : Option Addr) (n c : Nat) (L : Its) (w : World) (h : ItemsAt w A n L) :
    Calls Try.prog 33 #[refV b t A n c] w fun e w' => e = .returned (.int .u64 (refLastS L t : Int)) ∧ Below w.heap.size w w' := by
  have hm := h.hmax
  unfold maxLen at hm
  have hbel := (Below.refl w.heap.size w).alloc (Nat.le_refl _) (.cells (refCells b t A n c) 46)
  have h1 := h.below hbel
  have hr := RefAt.new w b t A n c
  have Hb := Lib.hid hbel; clear hbel
  have H1 := Lib.hid h1; clear h1
  have hl := Lib.hid h.hlen; clear h
  unfold refV
  go_enter Try.func33, Try.ntmps33
  go_upto_region 1 with fail
  change Code.wp _ _ _ _ (w.alloc (.cells (refCells b t A n c) 46))
  generalize w.alloc (.cells (refCells b t A n c) 46) = wa at *
  generalize hgs : w.heap.size = g at *
  have Hgs := Lib.hid hgs; clear hgs
  obtain ⟨r0, r1, r2⟩ := hr.cells
  clear hr r0
  have hlen := hl.out
  by_cases hn : 0 < n
  · obtain ⟨m, rfl⟩ : ∃ m, n = m + 1 := ⟨n - 1, by omega⟩
    have hn' : (0 : Int) < ((m + 1 : Nat) : Int) := by omega
    obtain ⟨b', o, rfl, _, e0, e1⟩ := items_get H1.out (show m < m + 1 by omega)
    have hls : refLastS L t = if t.toNat < (L.getD m dflt).1.toNat then (L.getD m dflt).1.toNat else t.toNat := by
      simp [refLastS, hlen]
    have hsub : IntKind.i64.wrap (((m + 1 : Nat) : Int) - 1) = (m : Int) := by rw [IntKind.wrap_i64] <;> omega
    generalize (L.getD m dflt).1 = k at *
    clear e1
    obtain ⟨q, hq⟩ : ∃ q, m + 1 = q := ⟨_, rfl⟩
    rw [hq] at r2 hn' hsub
    have hmq : m < q := by omega
    have d0 : decide (0 < q) = true := by simp; omega
    rw [hq]
    clear hq hlen
    by_cases hk : t.toNat < k.toNat
    · rw [if_pos hk] at hls
      have Hls := Lib.hid hls; clear hls
      have d1 : (t.toNat : Int) < (k.toNat : Int) := by omega
      have d2 : decide (t.toNat < k.toNat) = true := by simpa using hk
      clear hk
      go_wp2_with fail
      go_quiet (fail)
      go_wp2_with fail
      go_ret
      exact ⟨by rw [Hls.out]; rfl, by rw [Hgs.out]; exact Hb.out.trans ((below_drewN wa _).mono (by rw [← Hgs.out]; exact Hb.out.size))⟩
    · rw [if_neg hk] at hls
      have Hls := Lib.hid hls; clear hls
      have d2 : decide (t.toNat < k.toNat) = false := by simpa using hk
      have d1 : ¬ (t.toNat : Int) < (k.toNat : Int) := by omega
      clear hk
      go_wp2_with fail
      go_quiet (fail)
      go_wp2_with fail
      go_ret
      exact ⟨by rw [Hls.out]; rfl, by rw [Hgs.out]; exact Hb.out.trans ((below_drewN wa _).mono (by rw [← Hgs.out]; exact Hb.out.size))⟩
  · obtain rfl : n = 0 := by omega
    have hls : refLastS L t = t.toNat := by
      simp [refLastS, hlen]
    have Hls := Lib.hid hls; clear hls hlen
    go_wp2_with fail
    go_quiet (fail)
    go_wp2_with fail
    go_ret
    exact ⟨by rw [Hls.out]; rfl, by rw [Hgs.out]; exact Hb.out.trans ((below_drewN wa _).mono (by rw [← Hgs.out]; exact Hb.out.size))⟩
end Go.Proofs.Ytimhpncdlaildaa
