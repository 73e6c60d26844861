/- The row of slots: Items. Condition: the row's top is not far above its base. -/
import Derived.Test.YtimhpncdlaildaaSlC
import Derived.Maps.AppendAt
import Derived.Deep.DeepCutAuto
namespace Go.Proofs.Ytimhpncdlaildaa
open Go.RowKit

def itemCells (p : BitVec 64 × ByteArray) : List Value := [.int .u64 (p.1.toNat : Int), .string p.2]
def flatItems (l : List (BitVec 64 × ByteArray)) : List Value := l.flatMap itemCells
theorem flat_snoc (l : List (BitVec 64 × ByteArray)) (p : BitVec 64 × ByteArray) : flatItems (l ++ [p]) = flatItems l ++ itemCells p := by simp [flatItems]
theorem flat_length (l : List (BitVec 64 × ByteArray)) : (flatItems l).length = l.length * 2 := by
  induction l with
  | nil => rfl
  | cons p l ih => simp only [flatItems, List.flatMap_cons, List.length_append] at ih ⊢; rw [ih]; simp [itemCells]; omega

def slotAt (n : Nat) : BitVec 64 := BitVec.ofNat 64 n
theorem slotAt_toNat {n : Nat} (h : n < 18446744073709551616) : (slotAt n).toNat = n := by
  simp only [slotAt, BitVec.toNat_ofNat]
  omega
def itemsL (s : SRow) (lo : Nat) (cnt : Nat) : List (BitVec 64 × ByteArray) := (List.range cnt).map fun i => (slotAt (lo + i), (mget s.l (slotAt (lo + i))).getD ByteArray.empty)
theorem itemsL_succ (s : SRow) (lo k : Nat) : itemsL s lo (k + 1) = itemsL s lo k ++ [(slotAt (lo + k), (mget s.l (slotAt (lo + k))).getD ByteArray.empty)] := by
  simp [itemsL, List.range_succ]
theorem itemsL_length (s : SRow) (lo k : Nat) : (itemsL s lo k).length = k := by simp [itemsL]
def itemsFrom (s : SRow) (fr : BitVec 64) : Nat := max fr.toNat (s.base.toNat + 1)
def itemsCount (s : SRow) (fr : BitVec 64) (most : Int) : Nat := min (s.top.toNat + 1 - itemsFrom s fr) most.toNat

/-- A slice of items that the call has made. -/
def ItemsPost (s : SRow) (fr : BitVec 64) (most : Int) (w : World) (e : Ending) (w' : World) : Prop :=
  ∃ v, e = .returned v ∧ w'.ownsRow w.heap.size 33 2 v (itemsCount s fr most) (flatItems (itemsL s (itemsFrom s fr) (itemsCount s fr most))) ∧ Below w.heap.size w w'

theorem cells_new (w : World) (cs : List Value) (t : TypeId) : ∀ j u, cs[j]? = some u → (w.alloc (.cells cs.toArray t)).cell? ((⟨w.heap.size, 0, none⟩ : Addr).add j) = some u := by
  intro j u hj
  have e : ((⟨w.heap.size, 0, none⟩ : Addr).add j) = ⟨w.heap.size, j, none⟩ := by unfold Addr.add; split <;> simp_all
  rw [e, World.cell?_alloc_new]
  simpa using hj
theorem own_slice {w : World} {base : Nat} {e : TypeId} {size : Nat} {v : Value} {n : Nat} {xs : List Value} (h : w.ownsRow base e size v n xs) : ∃ A c, v = .slice A n c := by
  rcases h.2 with ⟨rfl, rfl⟩ | ⟨g, cap, cur, rfl, _⟩
  · exact ⟨none, 0, rfl⟩
  · exact ⟨_, _, rfl⟩

theorem infoItem : (Try.prog.info? 33).map (fun i => (i.zero, i.size, i.bytes)) = some (some (.agg #[.int .u64 0, .string ByteArray.empty]), 2, 24) := by kernel_rfl

set_option maxRecDepth 100000 in
set_option maxHeartbeats 1000000 in
theorem items_any (R B : Nat) (s : SRow) (fr : BitVec 64) (most : Int) (hm1 : -9223372036854775808 ≤ most) (hm2 : most ≤ 9223372036854775807) (hb : s.base.toNat ≤ 4611686018427387904) (ht : s.top.toNat ≤ s.base.toNat + 1048576) (w : World) (h : RowAt w R B s) :
    Calls Try.prog 22 #[.pointer (some ⟨R, 0, none⟩), .int .u64 (fr.toNat : Int), .int .i64 most] w (ItemsPost s fr most w) := by
  have hfr := fr.isLt
  obtain ⟨lo, hlo⟩ : ∃ lo, itemsFrom s fr = lo := ⟨_, rfl⟩
  have hlo' : lo = max fr.toNat (s.base.toNat + 1) := by rw [← hlo]; rfl
  obtain ⟨cnt, hcnt⟩ : ∃ cnt, itemsCount s fr most = cnt := ⟨_, rfl⟩
  have hcnt' : cnt = min (s.top.toNat + 1 - lo) most.toNat := by rw [← hcnt, itemsCount, hlo]
  have hcb : cnt ≤ 1048576 := by omega
  have hw1 : IntKind.u64.wrap ((s.base.toNat : Int) + 1) = (s.base.toNat : Int) + 1 := by rw [IntKind.wrap_u64]; omega
  obtain ⟨c0, c1, c2, c3⟩ := h.cells
  have hR := h.ltR
  have hBlt := h.vals.lt
  have Hlo := Lib.hid hlo; clear hlo
  have Hcnt := Lib.hid hcnt; clear hcnt
  have Hcnt' := Lib.hid hcnt'; clear hcnt'
  have Hlo' := Lib.hid hlo'; clear hlo'
  have Hh := Lib.hid h; clear h
  obtain ⟨i0, hi, hz0, hz1, hz2⟩ := info_parts infoItem
  go_enter Try.func22, Try.ntmps22
  go_upto_region 4 with fail
  go_cut [8] (fun s8 wx => s8 = .int .u64 (lo : Int) ∧ wx = w)
  case first =>
    go_wp2_with fail
    all_goals
      go_meet
      exact ⟨congrArg (Value.int .u64) (by have := Hlo'.out; omega), rfl⟩
  case rest =>
    obtain ⟨rfl, rfl⟩ := hcut
    go_wp2_with fail
    clear hw1
    go_loopw [7, 8] (fun v sl wr => ∃ k, k ≤ cnt ∧ sl = .int .u64 ((lo + k : Nat) : Int) ∧ wr.ownsRow wc.heap.size 33 2 v k (flatItems (itemsL s lo k)) ∧ Below wc.heap.size wc wr) (fun _ sl _ => (lo + cnt) - (intOf sl).toNat)
    case atStart => exact ⟨0, by omega, rfl, World.ownsRow_nil _ _ _ _, Below.refl _ _⟩
    case round =>
      obtain ⟨k, hk, rfl, hown, hbel⟩ := hrel
      obtain ⟨A, c, rfl⟩ := own_slice hown
      have hrow := Hh.out.below hbel
      obtain ⟨c0, c1, c2, c3⟩ := hrow.cells
      have hsz := hbel.size
      have hcd := Hcnt'.out
      have hld := Hlo'.out
      by_cases hlt : k < cnt
      · have t1 : ((lo + k : Nat) : Int) ≤ (s.top.toNat : Int) := by omega
        have t2 : (k : Int) < most := by omega
        have hb64 : lo + k < 18446744073709551616 := by omega
        have hlook := look_slot hrow (slotAt (lo + k)) false
        rw [slotAt_toNat hb64] at hlook
        have hsucc := itemsL_succ s lo k
        have hfs := flat_snoc (itemsL s lo k) (slotAt (lo + k), (mget s.l (slotAt (lo + k))).getD ByteArray.empty)
        rw [← hsucc] at hfs
        have hic : itemCells (slotAt (lo + k), (mget s.l (slotAt (lo + k))).getD ByteArray.empty) = [.int .u64 ((lo + k : Nat) : Int), .string ((mget s.l (slotAt (lo + k))).getD ByteArray.empty)] := by
          simp only [itemCells, slotAt_toNat hb64]
        rw [hic] at hfs
        have hw2 : IntKind.u64.wrap (((lo + k : Nat) : Int) + 1) = ((lo + (k + 1) : Nat) : Int) := by rw [IntKind.wrap_u64]; omega
        generalize (mget s.l (slotAt (lo + k))).getD ByteArray.empty = g at *
        simp only [Bool.false_eq_true, if_false] at hlook
        obtain ⟨sl, hsl⟩ : ∃ sl : Nat, lo + k = sl := ⟨_, rfl⟩
        have hsl' : lo + (k + 1) = sl + 1 := by omega
        rw [hsl] at t1 hlook hfs hw2 ⊢
        rw [hsl'] at hw2
        have Hsl := Lib.hid hsl; clear hsl
        have Hsl' := Lib.hid hsl'; clear hsl'
        have Hfs := Lib.hid hfs; clear hfs
        have Hown := Lib.hid hown; clear hown
        clear hrow hcd hld hsucc hic
        have hcw : (k : Int) ≤ 1048576 := by omega
        go_wp2_with (at_builtin; refine wpList_append_own_at _ rfl _ _ 38 rfl wc.heap.size 33 i0 (.agg #[.int .u64 0, .string ByteArray.empty]) 2 24 Try.underlying38 hi hz0 hz1 hz2 rfl (by decide) _ _ _ rfl (Hown.out.alloc _) ⟨wr.heap.size, 0, none⟩ 1 1 [.int .u64 (sl : Int), .string g] rfl rfl (cells_new _ _ _) (by simp [Value.oneCell']) (by unfold maxLen; omega) (by omega) (by simp; omega) ?_; intro v' w1 hown' hgrow hnil hat)
        go_roundw
        case rel =>
          refine ⟨k + 1, by omega, ?_, ?_, ?_⟩
          · rw [Hsl'.out]; rfl
          · rw [Hfs.out]; exact hown'
          · exact (hbel.alloc hsz _).grown hgrow (by simp; omega) (fun g hg => (Hown.out.lt g hg).1)
        case measure => simp [intOf]; have := Hsl.out; omega
      · obtain rfl : k = cnt := by omega
        have hfin : ItemsPost s fr most wc (.returned (.slice A k c)) wr := by
          refine ⟨_, rfl, ?_, hbel⟩
          rw [Hcnt.out, Hlo.out]
          exact hown
        have Hfin := Lib.hid hfin; clear hfin hown
        by_cases t1 : lo + k ≤ s.top.toNat
        · have t1' : ((lo + k : Nat) : Int) ≤ (s.top.toNat : Int) := by omega
          have t2 : ¬ (k : Int) < most := by omega
          generalize lo + k = sl at *
          clear hcd hld hrow
          go_wp2_with fail
          go_ret
          exact Hfin.out
        · have t1' : ¬ ((lo + k : Nat) : Int) ≤ (s.top.toNat : Int) := by omega
          generalize lo + k = sl at *
          clear hcd hld hrow
          go_wp2_with fail
          go_ret
          exact Hfin.out
end Go.Proofs.Ytimhpncdlaildaa
