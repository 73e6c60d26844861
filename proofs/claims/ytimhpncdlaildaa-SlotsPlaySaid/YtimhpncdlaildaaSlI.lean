/- The law SlotsRows. No condition. -/
import Derived.Test.YtimhpncdlaildaaSlP
import Derived.Test.YtimhpncdlaildaaReg
import Derived.BigQuiet
import Derived.Deep.QuietTactic
namespace Go.Proofs.Ytimhpncdlaildaa
open Go.RowKit

theorem i64_succ {n : Nat} (h : n ≤ 9223372036854775806) : IntKind.i64.wrap ((n : Int) + 1) = ((n + 1 : Nat) : Int) := by rw [IntKind.wrap_i64] <;> omega
theorem eq_int_false {a : Nat} {b : Int} (h : (a : Int) ≠ b) : ((a : Int) == b) = false := by simpa using h

theorem flat_at : ∀ (l : List (BitVec 64 × ByteArray)) (i : Nat) (x : BitVec 64 × ByteArray) (j : Nat) (v : Value), l[i]? = some x → (itemCells x)[j]? = some v → (flatItems l)[i * 2 + j]? = some v
  | [], i, x, j, v, h, _ => by simp at h
  | p :: l, 0, x, j, v, h, hj => by
    have hj2 : j < 2 := (List.getElem?_eq_some_iff.1 hj).1
    simp only [List.getElem?_cons_zero, Option.some.injEq] at h
    subst h
    simp only [flatItems, List.flatMap_cons, Nat.zero_mul, Nat.zero_add]
    rw [List.getElem?_append_left (by simpa [itemCells] using hj2)]
    exact hj
  | p :: l, i + 1, x, j, v, h, hj => by
    simp only [List.getElem?_cons_succ] at h
    have := flat_at l i x j v h hj
    simp only [flatItems, List.flatMap_cons]
    rw [List.getElem?_append_right (by simp [itemCells]; omega)]
    have e : (i + 1) * 2 + j - (itemCells p).length = i * 2 + j := by simp [itemCells]; omega
    rw [e]
    exact this
abbrev ItemsAt := SliceAt 2 itemCells
theorem ItemsAt.of_own {w : World} {base : Nat} {t : TypeId} {A : Option Addr} {n c : Nat} {l : List (BitVec 64 × ByteArray)} (h : w.ownsRow base t 2 (.slice A n c) n (flatItems l)) : ItemsAt w A n l := by
  have hl : l.length = n := by have := h.1; rw [flat_length] at this; omega
  rcases h.2 with ⟨e1, e2⟩ | ⟨g, cap, cur, e1, h2, h3, h4, h5, _, _⟩
  · subst e2
    exact ⟨hl, Nat.zero_le _, fun i x hi => by
      have : l = [] := List.length_eq_zero_iff.1 hl
      rw [this] at hi; simp at hi⟩
  · simp only [Value.slice.injEq] at e1
    obtain ⟨rfl, _, rfl⟩ := e1
    refine ⟨hl, by omega, fun i x hi => ⟨g, 0, rfl, (Array.getElem?_eq_some_iff.1 h3).1, fun j v hj => ?_⟩⟩
    have := h.cells (g := g) rfl (i * 2 + j) v (flat_at l i x j v hi hj)
    rw [WideShapes.add_plain] at this
    exact this

theorem items_in {w0 w : World} {R B k : Nat} {s : SRow} (h : RowIn w0 w R B s) (hf : Fit s k) (hk : k ≤ 1048576) (fr : BitVec 64) (most : Int) (hm1 : -9223372036854775808 ≤ most) (hm2 : most ≤ 9223372036854775807)
    {lo n : Nat} (hlo : itemsFrom s fr = lo) (hn : itemsCount s fr most = n) :
    Calls Try.prog 22 #[.pointer (some ⟨R, 0, none⟩), .int .u64 (fr.toNat : Int), .int .i64 most] w fun e w' => ∃ A c, e = .returned (.slice A n c) ∧ ItemsAt w' A n (itemsL s lo n) ∧ RowIn w0 w' R B s ∧ Below w.heap.size w w' := by
  subst hlo hn
  have h1 := hf.bt
  have h2 := hf.tb
  have h3 := hf.tm
  refine (items_any R B s fr most hm1 hm2 (by omega) (by omega) w h.row).mono ?_
  rintro e w' ⟨v, rfl, hv, hb⟩
  obtain ⟨A, c, rfl⟩ := own_slice hv
  exact ⟨A, c, rfl, ItemsAt.of_own hv, h.below hb, hb⟩

theorem itemsL_at {s : SRow} {lo n i : Nat} (h : i < n) : (itemsL s lo n)[i]? = some (slotAt (lo + i), (mget s.l (slotAt (lo + i))).getD ByteArray.empty) := by
  simp [itemsL, h]
theorem items_cells {w : World} {A : Option Addr} {s : SRow} {lo n i : Nat} (h : ItemsAt w A n (itemsL s lo n)) (hi : i < n) (hb : lo + n ≤ 18446744073709551616) {f : Nat} (hf : lo + i = f) :
    ∃ b o, A = some ⟨b, o, none⟩ ∧ b < w.heap.size ∧ w.cell? ⟨b, o + i * 2, none⟩ = some (.int .u64 (f : Int)) ∧ w.cell? ⟨b, o + i * 2 + 1, none⟩ = some (.string ((mget s.l (slotAt f)).getD ByteArray.empty)) := by
  subst hf
  obtain ⟨b, o, h1, h2, h3⟩ := h.cells i _ (itemsL_at hi)
  have h4 := h3 0 _ rfl
  rw [slotAt_toNat (by omega)] at h4
  exact ⟨b, o, h1, h2, h4, h3 1 _ rfl⟩

/-- The acts that SlotsRows plays. -/
def rowStep (s : SRow) (x : SAct) : SRow := if x.act.toNat = 0 then nextS s else if x.act.toNat = 1 then keepS s x.slot else putS s x.slot x.val
theorem Fit.row {s : SRow} {n : Nat} (h : Fit s n) (x : SAct) : Fit (rowStep s x) (n + 1) := by
  unfold rowStep
  split
  · exact h.next
  split
  · exact (h.keep _).mono (by omega)
  · exact (h.put _ _).mono (by omega)

set_option maxRecDepth 100000 in
set_option maxHeartbeats 2000000 in
theorem slotsRows_any (a : Option Addr) (len cap : Nat) (z : List SAct) (piece : BitVec 8) (w : World) (h : ActsAt w a len z) :
    Calls Try.prog 3 #[.slice a len cap, .int .u8 (piece.toNat : Int)] w fun e w' => e = .returned (.bool true) ∧ Below w.heap.size w w' := by
  have hl := h.hlen
  have hm := h.hmax
  unfold maxLen at hm
  have hgr := great_any a len cap z w h
  cases hg : greatS z with
  | true =>
    rw [hg] at hgr
    clear h hl
    go_enter Try.func3, Try.ntmps3
    go_wp2_with ((with_reducible refine hgr.mono ?_); clear hgr; rintro e w' ⟨rfl, rfl⟩)
    refine (slWakes_any w).mono ?_
    rintro e w3 ⟨rfl, hw⟩
    go_wp2_with fail
    go_ret
    exact ⟨rfl, hw⟩
  | false =>
    rw [hg] at hgr
    have hlen : len ≤ 200 := by
      have : ¬ 200 < z.length := by
        intro h
        simp [greatS, h] at hg
      omega
    clear hg hm
    have Hl := Lib.hid hl; clear hl
    have H := Lib.hid h; clear h
    go_enter Try.func3, Try.ntmps3
    go_wp2_with ((with_reducible refine hgr.mono ?_); clear hgr; rintro e w' ⟨rfl, rfl⟩)
    refine (new_any 0#64 (by decide) w).mono ?_
    rintro e w1 ⟨R, B, rfl, hr, hb, hR, hB⟩
    have h0 : RowIn w w1 R B ⟨0#64, 0#64, 0#64, []⟩ := ⟨hr, hb, hR, hB⟩
    clear hr hb hR hB
    have H0 := Lib.hid h0; clear h0
    go_wp2_with fail
    go_loopw [7] (fun s7 wr => ∃ i s, i ≤ len ∧ s7 = .int .i64 (i : Int) ∧ RowIn w wr R B s ∧ Fit s i) (fun s7 _ => len - (intOf s7).toNat)
    case atStart => exact ⟨0, _, by omega, rfl, H0.out, Fit.new (by decide) _⟩
    case round =>
      obtain ⟨i, s, hi, rfl, hrow, hfit⟩ := hrel
      by_cases hlt : i < len
      · have hlt' : (i : Int) < (len : Int) := by omega
        obtain ⟨b, o, rfl, hbl, c0, c1, c2⟩ := acts_cells (H.out.below hrow.bel) hlt
        have hsucc := i64_succ (n := i) (by omega)
        have Hf := Lib.hid (hfit.row (z.getD i default)); clear hfit
        generalize hx : z.getD i default = x at *
        obtain ⟨x0, x1, x2⟩ := x
        simp only at c0 c1 c2
        have hi1 : i + 1 ≤ len := hlt
        clear hx hbl
        by_cases e0 : x0.toNat = 0
        · have hst : rowStep s ⟨x0, x1, x2⟩ = nextS s := by unfold rowStep; rw [if_pos e0]
          rw [hst] at Hf
          have c0' : wr.cell? ⟨b, o + i * 3, none⟩ = some (.int .u8 0) := by rw [c0, e0]; rfl
          clear c0 c1 c2 e0 hst
          have Hr := Lib.hid hrow; clear hrow
          go_wp2_with fail
          refine (next_in Hr.out rfl rfl).mono ?_
          rintro e wn ⟨rfl, hrow', _⟩
          have Hr' := Lib.hid hrow'; clear hrow'
          go_wp2_with fail
          go_roundw
          case rel => exact ⟨i + 1, _, hi1, rfl, Hr'.out, Hf.out⟩
          case measure => simp [intOf]; omega
        by_cases e1 : x0.toNat = 1
        · have hst : rowStep s ⟨x0, x1, x2⟩ = keepS s x1 := by unfold rowStep; rw [if_neg e0, if_pos e1]
          rw [hst] at Hf
          have c0' : wr.cell? ⟨b, o + i * 3, none⟩ = some (.int .u8 1) := by rw [c0, e1]; rfl
          clear c0 c2 e0 e1 hst
          have Hr := Lib.hid hrow; clear hrow
          go_wp2_with fail
          refine (keep_in Hr.out rfl rfl).mono ?_
          rintro e wn ⟨rfl, hrow', _⟩
          have Hr' := Lib.hid hrow'; clear hrow'
          go_wp2_with fail
          go_roundw
          case rel => exact ⟨i + 1, _, hi1, rfl, Hr'.out, Hf.out⟩
          case measure => simp [intOf]; omega
        · have hst : rowStep s ⟨x0, x1, x2⟩ = putS s x1 x2 := by unfold rowStep; rw [if_neg e0, if_neg e1]
          rw [hst] at Hf
          have f0 : ((x0.toNat : Int) == 0) = false := eq_int_false (by omega)
          have f1 : ((x0.toNat : Int) == 1) = false := eq_int_false (by omega)
          clear e0 e1 hst
          have Hr := Lib.hid hrow; clear hrow
          go_wp2_with fail
          refine Reg.wp_region_can (fun x => x = wr.drew) [(0, 0), (1, 0), (2, 0), (3, 0), (4, 0), (5, 0), (6, 0), (7, 0), (8, 0), (9, 0), (10, 0), (11, 2)] (by kernel_rfl) (by kernel_rfl) (fun _ _ d _ _ h => by cases d <;> exact h) rfl ?_
          dsimp only [Reg.pick, List.getElem?_cons_zero, List.getElem?_cons_succ]
          iterate 11 (refine Reg.can_reads (fun K hK => ?_); go_simp; refine hK _ ?_; clear hK K)
          refine Reg.can_last (fun K hK => ?_)
          go_simp
          refine (put_in Hr.out.drew rfl rfl).mono ?_
          rintro e wn ⟨rfl, hrow', _⟩
          refine hK _ _ ?_
          clear hK K
          have Hr' := Lib.hid hrow'; clear hrow'
          go_wp2_with fail
          go_roundw
          case rel => exact ⟨i + 1, _, hi1, rfl, Hr'.out, Hf.out⟩
          case measure => simp [intOf]; omega
      · obtain rfl : i = len := by omega
        have hlt' : ¬ (i : Int) < (i : Int) := by omega
        clear hlt hi H0 H Hl
        have hn : itemsCount s 0#64 1000 = s.top.toNat - s.base.toNat := by
          have := hfit.tb
          have := hfit.bt
          have : (0#64).toNat = 0 := rfl
          simp only [itemsCount, itemsFrom]
          omega
        obtain ⟨lo, hlo0⟩ : ∃ lo, s.base.toNat + 1 = lo := ⟨_, rfl⟩
        have hlo : itemsFrom s 0#64 = lo := by
          have : (0#64).toNat = 0 := rfl
          simp only [itemsFrom]; omega
        have Hlo := Lib.hid hlo0
        obtain ⟨n, hnn⟩ : ∃ n, s.top.toNat - s.base.toNat = n := ⟨_, rfl⟩
        rw [hnn] at hn
        have hitems := items_in hrow hfit (by omega) 0#64 1000 (by decide) (by decide) hlo hn
        obtain ⟨k1, k2, k3, _, _⟩ := id hfit
        have Hfit := Lib.hid hfit; clear hfit
        have hsub : IntKind.u64.wrap ((s.top.toNat : Int) - (s.base.toNat : Int)) = (n : Int) := by rw [IntKind.wrap_u64]; omega
        have hwb : IntKind.u64.wrap ((s.base.toNat : Int) + 1) = (lo : Int) := by rw [IntKind.wrap_u64]; omega
        have hconv : IntKind.u64.wrap (n : Int) = (n : Int) := by rw [IntKind.wrap_u64]; omega
        have Hrow := Lib.hid hrow; clear hrow
        have Hn := Lib.hid hnn; clear hnn
        have Hi := Lib.hid hitems; clear hitems
        go_wp2_with fail
        refine Hi.out.mono ?_
        clear Hi
        rintro e w2 ⟨A, c, rfl, hall, hr2, hb2⟩
        have Hall := Lib.hid hall; clear hall
        have Hr := Lib.hid hr2; clear hr2
        clear Hrow hb2
        go_wp2_with (first
          | ((with_reducible refine (top_any R B s _ Hr.out.row).mono ?_); rintro e w' ⟨rfl, rfl⟩)
          | ((with_reducible refine (base_any R B s _ Hr.out.row).mono ?_); rintro e w' ⟨rfl, rfl⟩))
        obtain ⟨k, hk, hk1, hk7⟩ : ∃ k : Nat, (1 + (piece.toNat : Int) % 7) = (k : Int) ∧ 1 ≤ k ∧ k ≤ 7 := ⟨1 + piece.toNat % 7, by omega, by omega, by omega⟩
        have hbase : (s.base.toNat : Int) + 1 = (lo : Int) := by omega
        rw [hk]
        clear hk hbase hsub hconv hwb hn hlo hlo0
        go_loopw [10, 11] (fun s10 s11 wq => ∃ q, q ≤ n ∧ s10 = .int .i64 (q : Int) ∧ s11 = .int .u64 ((lo + q : Nat) : Int) ∧ RowIn w wq R B s ∧ ItemsAt wq A n (itemsL s lo n)) (fun s10 _ _ => n - (intOf s10).toNat)
        case atStart => exact ⟨0, by omega, rfl, rfl, Hr.out, Hall.out⟩
        case round =>
          obtain ⟨q, hq, rfl, rfl, hrow, hall⟩ := hrel
          have Hrow := Lib.hid hrow; clear hrow
          have Ha := Lib.hid hall; clear hall
          have hnn := Hn.out
          have hl0 := Hlo.out
          by_cases hlt : q < n
          · have c1 : ((lo + q : Nat) : Int) ≤ (s.top.toNat : Int) := by omega
            obtain ⟨m, hm⟩ : ∃ m, min (n - q) k = m := ⟨_, rfl⟩
            have hfr : (slotAt (lo + q)).toNat = lo + q := slotAt_toNat (by omega)
            have hlo : itemsFrom s (slotAt (lo + q)) = lo + q := by
              simp only [itemsFrom, hfr]; omega
            have hcn : itemsCount s (slotAt (lo + q)) (k : Int) = m := by
              simp only [itemsCount, hlo]; omega
            have hitems := items_in Hrow.out Hfit.out (by omega) (slotAt (lo + q)) (k : Int) (by omega) (by omega) hlo hcn
            rw [hfr] at hitems
            have Hi := Lib.hid hitems; clear hitems
            clear hlo hcn hfr hnn hl0
            generalize hf : lo + q = f at *
            have c2 : ((m : Int) == 0) = false := eq_int_false (by omega)
            have c3 : decide (k < m) = false := by simp; omega
            go_wp2_with ((with_reducible refine (top_any R B s _ Hrow.out.row).mono ?_); rintro e w' ⟨rfl, rfl⟩)
            refine Hi.out.mono ?_
            clear Hi
            rintro e w3 ⟨A', c', rfl, hsome, hr3, hb3⟩
            have Hs := Lib.hid hsome; clear hsome
            have Hr3 := Lib.hid hr3; clear hr3
            have hall3 := Ha.out.below hb3
            have Ha3 := Lib.hid hall3; clear hall3
            clear hb3
            go_wp2_with fail
            have hmq : q + m ≤ n := by omega
            have hm1 : 1 ≤ m := by omega
            have hmax : n ≤ 1048576 := by have := Hn.out; have := Hlo.out; omega
            have hbig : lo + n ≤ 4611686018427387905 := by have := Hn.out; have := Hlo.out; omega
            have hfn : f + m ≤ 4611686018427387905 := by have := Hn.out; have := Hlo.out; omega
            clear c1 c2 c3
            go_loopw [10, 11, 13] (fun s10 s11 s13 wj => ∃ j, j ≤ m ∧ s10 = .int .i64 ((q + j : Nat) : Int) ∧ s11 = .int .u64 ((f + j : Nat) : Int) ∧ s13 = .int .i64 (j : Int) ∧ RowIn w wj R B s ∧ ItemsAt wj A' m (itemsL s f m) ∧ ItemsAt wj A n (itemsL s lo n)) (fun _ _ s13 _ => m - (intOf s13).toNat)
            case atStart => exact ⟨0, by omega, rfl, rfl, rfl, Hr3.out, Hs.out, Ha3.out⟩
            case round =>
              obtain ⟨j, hj, rfl, rfl, rfl, hrow, hs, ha⟩ := hrel
              by_cases hlt2 : j < m
              · have d1 : (j : Int) < (m : Int) := by omega
                obtain ⟨b1, o1, rfl, _, e10, e11⟩ := items_cells hs hlt2 (by omega) (f := f + j) rfl
                obtain ⟨b2, o2, rfl, _, e20, e21⟩ := items_cells (i := q + j) ha (by omega) (by omega) (f := f + j) (by omega)
                have d2 : ¬ (n : Int) ≤ ((q + j : Nat) : Int) := by omega
                have d3 : IntKind.u64.wrap (((f + j : Nat) : Int) + 1) = ((f + (j + 1) : Nat) : Int) := by rw [IntKind.wrap_u64]; omega
                have d4 : IntKind.i64.wrap (((q + j : Nat) : Int) + 1) = ((q + (j + 1) : Nat) : Int) := by rw [IntKind.wrap_i64] <;> omega
                have d5 := i64_succ (n := j) (by omega)
                have d6 : ((q + j : Nat) : Int) < (n : Int) := by omega
                have Hrw := Lib.hid hrow; clear hrow
                have Hs' := Lib.hid hs; clear hs
                have Ha' := Lib.hid ha; clear ha
                generalize hg : (mget s.l (slotAt (f + j))).getD ByteArray.empty = g at *
                generalize hx : q + j = x at *
                generalize hy : f + j = y at *
                have d2b : decide (n ≤ x) = false := by have := d2; simp; omega
                have Hx := Lib.hid hx; clear hx
                have Hy := Lib.hid hy; clear hy
                have d7 : q + (j + 1) = x + 1 := by have := Hx.out; omega
                have d8 : f + (j + 1) = y + 1 := by have := Hy.out; omega
                rw [d7] at d4
                rw [d8] at d3
                have Hx' := Lib.hid d7; clear d7
                have Hy' := Lib.hid d8; clear d8
                clear hg hf hm
                go_wp2_with fail
                go_quiet (fail)
                go_wp2_with fail
                go_roundw
                case rel => exact ⟨j + 1, hlt2, by rw [Hx'.out]; rfl, by rw [Hy'.out]; rfl, rfl, Hrw.out.below (below_drewN _ _), Hs'.out.below (below_drewN _ _), Ha'.out.below (below_drewN _ _)⟩
                case measure => simp [intOf]; omega
              · obtain rfl : j = m := by omega
                have d1 : ¬ (j : Int) < (j : Int) := by omega
                have e1 : lo + (q + j) = f + j := by omega
                have Hrw := Lib.hid hrow; clear hrow
                have Ha2 := Lib.hid ha; clear ha
                have E1 := Lib.hid e1; clear e1
                clear hs
                go_wp2_with fail
                go_roundw
                case rel => exact ⟨q + j, by omega, rfl, by rw [E1.out], Hrw.out, Ha2.out⟩
                case measure => simp [intOf]; omega
          · obtain rfl : q = n := by omega
            have c1 : ¬ ((lo + q : Nat) : Int) ≤ (s.top.toNat : Int) := by omega
            have htop : IntKind.u64.wrap ((s.top.toNat : Int) + 1) = ((s.top.toNat + 1 : Nat) : Int) := by rw [IntKind.wrap_u64]; omega
            have hfr : (slotAt (s.top.toNat + 1)).toNat = s.top.toNat + 1 := slotAt_toNat (by omega)
            have hlo : itemsFrom s (slotAt (s.top.toNat + 1)) = s.top.toNat + 1 := by
              simp only [itemsFrom, hfr]; omega
            have hcn : itemsCount s (slotAt (s.top.toNat + 1)) 9 = 0 := by
              simp only [itemsCount, hlo]; omega
            have hitems := items_in Hrow.out Hfit.out (by omega) (slotAt (s.top.toNat + 1)) 9 (by omega) (by omega) hlo hcn
            rw [hfr] at hitems
            have Hi := Lib.hid hitems; clear hitems
            clear hlo hcn hfr hl0
            generalize hf : lo + q = f at *
            go_wp2_with ((with_reducible refine (top_any R B s _ Hrow.out.row).mono ?_); rintro e w' ⟨rfl, rfl⟩)
            refine Hi.out.mono ?_
            clear Hi
            rintro e w3 ⟨A', c', rfl, _, hr3, hb3⟩
            go_wp2_with fail
            refine (slWakes_any w3).mono ?_
            rintro e w4 ⟨rfl, hw⟩
            go_wp2_with fail
            go_ret
            exact ⟨rfl, hr3.bel.trans (hw.mono hr3.bel.size)⟩
theorem slotsRows_law (a : Option Addr) (len cap : Nat) (z : List SAct) (x : Int) {w : World} (h : ActsAt w a len z) (hx : (Lit.int .u8 x).wf = true) (_ : World) :
    Calls Try.prog 3 #[.slice a len cap, .int .u8 x] w fun e w' => e = .returned (.bool true) ∧ Below w.heap.size w w' := by
  obtain ⟨y, rfl⟩ := sl_u8 hx
  exact slotsRows_any a len cap z y w h
end Go.Proofs.Ytimhpncdlaildaa
