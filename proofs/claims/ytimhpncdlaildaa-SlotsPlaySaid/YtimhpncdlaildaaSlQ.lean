/- The document's row (palaverref16): Items. Condition: the row's slots lie in items of their own; at most 1048576 of them. -/
import Derived.Test.YtimhpncdlaildaaSlN
namespace Go.Proofs.Ytimhpncdlaildaa
open Go.RowKit

def inB (fr t : BitVec 64) (p : BitVec 64 × ByteArray) : Bool := decide (fr.toNat ≤ p.1.toNat) && decide (p.1.toNat ≤ t.toNat)
def refItemsS (L : Its) (fr t : BitVec 64) (most : Int) : Its := (L.filter (inB fr t)).take most.toNat
theorem filter_take_done {L : Its} {i : Nat} {q : BitVec 64 × ByteArray → Bool} {m : Nat} (h : ((L.take i).filter q).length = m) : (L.filter q).take m = (L.take i).filter q := by
  conv => lhs; rw [← List.take_append_drop i L, List.filter_append]
  rw [← h, List.take_left]
/-- A slice of items that the call has made, or none. -/
def ItsPost (L : Its) (w : World) (e : Ending) (w' : World) : Prop := ∃ A n c, e = .returned (.slice A n c) ∧ ItemsAt w' A n L ∧ Below w.heap.size w w'

set_option maxRecDepth 100000 in
set_option maxHeartbeats 2000000 in
theorem refItems_any (b t fr : BitVec 64) (most : Int) (A : Option Addr) (n c : Nat) (L : Its) (w : World) (h : ItemsAt w A n L) (hn : n ≤ 1048576) :
    Calls Try.prog 35 #[refV b t A n c, .int .u64 (fr.toNat : Int), .int .i64 most] w (ItsPost (refItemsS L fr t most) w) := by
  obtain ⟨R, hR⟩ : ∃ R, refItemsS L fr t most = R := ⟨_, rfl⟩
  rw [hR]
  have HR := Lib.hid hR; clear hR
  have hb1 := (Below.refl w.heap.size w).alloc (Nat.le_refl _) (.cells (refCells b t A n c) 46)
  have h1 := h.below hb1
  have hr := RefAt.new w b t A n c
  have hsz : (w.alloc (.cells (refCells b t A n c) 46)).heap.size = w.heap.size + 1 := by simp
  have Hl := Lib.hid h.hlen; clear h
  obtain ⟨i0, hi0, hz0, hz1, hz2⟩ := info_parts infoItem
  unfold refV
  go_enter Try.func35, Try.ntmps35
  go_upto_region 1 with fail
  change Code.wp _ _ _ _ (w.alloc (.cells (refCells b t A n c) 46))
  generalize w.alloc (.cells (refCells b t A n c) 46) = w2 at *
  obtain ⟨g, hg⟩ : ∃ g, w.heap.size = g := ⟨_, rfl⟩
  rw [hg] at hb1 hr hsz ⊢
  have Hg := Lib.hid hg; clear hg
  have Hb1 := Lib.hid hb1; clear hb1
  have H1 := Lib.hid h1; clear h1
  have Hr := Lib.hid hr; clear hr
  go_wp2_with fail
  go_loopw [7, 8] (fun s7 s8 wr => ∃ i k, i ≤ n ∧ s8 = .int .i64 (i : Int) ∧ k ≤ i ∧ k ≤ most.toNat ∧ ((L.take i).filter (inB fr t)).length = k ∧ wr.ownsRow (g + 1) 33 2 s7 k (flatItems ((L.take i).filter (inB fr t))) ∧ Below w2.heap.size w2 wr) (fun _ s8 _ => n - (intOf s8).toNat)
  case atStart => exact ⟨0, 0, by omega, rfl, by omega, by omega, rfl, World.ownsRow_nil _ _ _ _, Below.refl _ _⟩
  case round =>
    obtain ⟨i, k, hi, rfl, hki, hkm, hkl, hown, hbel⟩ := hrel
    obtain ⟨A', c', rfl⟩ := own_slice hown
    obtain ⟨r0, r1, r2⟩ := (Hr.out.below hbel).cells
    have hlen := Hl.out
    by_cases hlt : i < n
    · have hlt' : (i : Int) < (n : Int) := by omega
      by_cases hfull : (k : Int) < most
      · obtain ⟨b', o, rfl, _, e0, e1⟩ := items_get (H1.out.below hbel) hlt
        have hsn := filter_snoc (i := i) (inB fr t) (show i < L.length by omega)
        have hsucc := i64_succ (n := i) (by omega)
        generalize L.getD i dflt = p at *
        obtain ⟨kk, val⟩ := p
        simp only at e0 e1
        cases hq : inB fr t (kk, val) with
        | true =>
          rw [hq] at hsn
          simp only [if_true] at hsn
          have hq1 : fr.toNat ≤ kk.toNat ∧ kk.toNat ≤ t.toNat := by simpa [inB] using hq
          have d1 : decide (fr.toNat ≤ kk.toNat) = true := by simp; omega
          have d2 : decide (kk.toNat ≤ t.toNat) = true := by simp; omega
          have Hsn := Lib.hid hsn; clear hsn hq hq1
          have Hown := Lib.hid hown; clear hown
          have Hbel := Lib.hid hbel; clear hbel
          have Hkl := Lib.hid hkl; clear hkl hlen r0
          go_wp2_with fail
          go_quiet (fail)
          go_wp2_with (at_builtin; refine wpList_append_own_at _ rfl _ _ 38 rfl (g + 1) 33 i0 (.agg #[.int .u64 0, .string ByteArray.empty]) 2 24 Try.underlying38 hi0 hz0 hz1 hz2 rfl (by decide) _ _ _ rfl ((show (wr.drewN nq).ownsRow (g + 1) 33 2 (.slice A' k c') k _ from Hown.out).alloc _) ⟨wr.heap.size, 0, none⟩ 1 1 [.int .u64 (kk.toNat : Int), .string val] rfl rfl (cells_new (wr.drewN nq) _ _) (by simp [Value.oneCell']) (by unfold maxLen; omega) (by omega) (by have := Hbel.out.size; simp; omega) ?_; intro v' w1 hown' hgrow hnil hat)
          go_roundw
          case rel =>
            refine ⟨i + 1, k + 1, hlt, rfl, by omega, by omega, ?_, ?_, ?_⟩
            · rw [Hsn.out, List.length_append, Hkl.out]; rfl
            · rw [Hsn.out, flat_snoc]; exact hown'
            · exact ((Hbel.out.trans ((below_drewN wr nq).mono Hbel.out.size)).alloc Hbel.out.size _).grown hgrow (by have := Hbel.out.size; simp; omega) (fun q hq => by have := (Hown.out.lt q hq).1; omega)
          case measure => simp [intOf]; omega
        | false =>
          rw [hq] at hsn
          simp only [Bool.false_eq_true, if_false, List.append_nil] at hsn
          rw [← hsn] at hown hkl
          have hq1 : ¬ (fr.toNat ≤ kk.toNat ∧ kk.toNat ≤ t.toNat) := by
            intro hc
            simp [inB] at hq
            omega
          have Hsn := Lib.hid hsn; clear hsn hq
          have Hown := Lib.hid hown; clear hown
          have Hbel := Lib.hid hbel; clear hbel
          have Hkl := Lib.hid hkl; clear hkl hlen r0
          by_cases d1 : fr.toNat ≤ kk.toNat
          · have d1' : decide (fr.toNat ≤ kk.toNat) = true := by simp; omega
            have d2 : decide (kk.toNat ≤ t.toNat) = false := by simp; omega
            clear hq1
            go_wp2_with fail
            go_quiet (fail)
            go_wp2_with fail
            go_roundw
            case rel => exact ⟨i + 1, k, hlt, rfl, by omega, hkm, Hkl.out, Hown.out, Hbel.out.trans ((below_drewN wr _).mono Hbel.out.size)⟩
            case measure => simp [intOf]; omega
          · have d1' : decide (fr.toNat ≤ kk.toNat) = false := by simp; omega
            clear hq1
            go_wp2_with fail
            go_quiet (fail)
            go_wp2_with fail
            go_roundw
            case rel => exact ⟨i + 1, k, hlt, rfl, by omega, hkm, Hkl.out, Hown.out, Hbel.out.trans ((below_drewN wr _).mono Hbel.out.size)⟩
            case measure => simp [intOf]; omega
      · have hfin : ItsPost R w (.returned (.slice A' k c')) wr := by
          refine ⟨A', k, c', rfl, ?_, ?_⟩
          · rw [← HR.out, refItemsS, show most.toNat = k by omega, filter_take_done hkl]
            exact ItemsAt.of_own hown
          · rw [Hg.out]
            exact Hb1.out.trans (hbel.mono (by omega))
        have Hfin := Lib.hid hfin; clear hfin hown hbel hkl hlen
        go_wp2_with fail
        go_ret
        exact Hfin.out
    · have hlt' : ¬ (i : Int) < (n : Int) := by omega
      have hfin : ItsPost R w (.returned (.slice A' k c')) wr := by
        refine ⟨A', k, c', rfl, ?_, ?_⟩
        · have := ItemsAt.of_own hown
          rw [List.take_of_length_le (by omega)] at this hkl
          rw [← HR.out, refItemsS, List.take_of_length_le (by omega)]
          exact this
        · rw [Hg.out]
          exact Hb1.out.trans (hbel.mono (by omega))
      have Hfin := Lib.hid hfin; clear hfin hown hbel hkl hlen
      go_wp2_with fail
      go_ret
      exact Hfin.out
end Go.Proofs.Ytimhpncdlaildaa
