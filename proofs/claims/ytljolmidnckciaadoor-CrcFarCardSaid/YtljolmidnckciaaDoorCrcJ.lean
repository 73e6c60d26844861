/- The closure that squares the matrix, and Join. Condition: the library's table holds its numbers (it is listed on the row). -/
import Derived.Test.YtljolmidnckciaaDoorCrcZ
namespace Go.Proofs.YtljolmidnckciaaDoor
open Go.RowKit

/-- Block B alone of the old ones may have been turned. -/
theorem grown_trans {w w1 w2 : World} {B : Nat} (h1 : w.grownBy w1 (some B)) (h2 : w1.grownBy w2 (some B)) : w.grownBy w2 (some B) :=
  ⟨h2.os.trans h1.os, h2.tape.trans h1.tape, h2.output.trans h1.output, Nat.le_trans h1.size h2.size, fun k hk hne => (h2.block k (Nat.lt_of_lt_of_le hk h1.size) hne).trans (h1.block k hk hne)⟩
theorem grown_below {w w1 : World} (B : Nat) (h : Below w.heap.size w w1) : w.grownBy w1 (some B) := ⟨h.os, h.tape, h.output, h.size, fun k hk _ => h.block k hk⟩
theorem grown_set (w : World) (B i : Nat) (v : Value) : w.grownBy (w.setCell ⟨B, i, none⟩ v) (some B) :=
  ⟨rfl, rfl, rfl, by simp [World.setCell], fun k _ hne => Below.heap_setCell _ _ _ _ (by intro e; subst e; exact hne rfl)⟩
theorem grown_refl (w : World) (B : Nat) : w.grownBy w (some B) := ⟨rfl, rfl, rfl, Nat.le_refl _, fun _ _ _ => rfl⟩
theorem Tab.grown {w w' : World} {B : Nat} (h : Tab w) (hb : w.grownBy w' (some B)) (hB : B ≠ 0) : Tab w' := fun k hk =>
  hb.cell (h k hk) (by intro e; cases e; exact hB rfl)

/-- The block of the matrix: k of its cells are of L steps, the others of K. -/
def Half (W : World) (B K L k : Nat) : Prop := ∃ cs : Array Value, W.heap[B]? = some (.cells cs 31 (0, 0)) ∧ cs.size = 64 ∧
  (∀ i, i < k → cs[i]? = some (.int .u64 ((Crc.sts L (1#64 <<< i)).toNat : Int))) ∧ (∀ i, k ≤ i → i < 64 → cs[i]? = some (.int .u64 ((Crc.sts K (1#64 <<< i)).toNat : Int)))

theorem Half.kept {W W' : World} {B K L k : Nat} (h : Half W B K L k) (hb : Below W.heap.size W W') : Half W' B K L k := by
  obtain ⟨cs, h1, h2, h3, h4⟩ := h
  have hlt : B < W.heap.size := by
    rcases Nat.lt_or_ge B W.heap.size with h | h
    · exact h
    · simp [Array.getElem?_eq_none h] at h1
  exact ⟨cs, (hb.block B hlt).trans h1, h2, h3, h4⟩
theorem Half.cell {W : World} {B K L k : Nat} (h : Half W B K L k) (hk : k < 64) : W.cell? ⟨B, k, none⟩ = some (.int .u64 ((Crc.sts K (1#64 <<< k)).toNat : Int)) ∧ W.frozen? ⟨B, k, none⟩ = false := by
  obtain ⟨cs, h1, h2, h3, h4⟩ := h
  exact ⟨by rw [cell_of_row _ _ _ _ _ _ h1]; exact h4 k (Nat.le_refl _) hk, by simp [World.frozen?, h1]⟩
theorem Half.set {W : World} {B K L k : Nat} (h : Half W B K L k) (hk : k < 64) : Half (W.setCell ⟨B, k, none⟩ (.int .u64 ((Crc.sts L (1#64 <<< k)).toNat : Int))) B K L (k + 1) := by
  obtain ⟨cs, h1, h2, h3, h4⟩ := h
  refine ⟨_, heap_setCell_same _ _ _ _ _ _ h1, by simp [h2], fun i hi => ?_, fun i hi hi' => ?_⟩
  · rw [Array.getElem?_setIfInBounds]
    by_cases e : k = i
    · subst e; rw [if_pos rfl, if_pos (by omega)]
    · rw [if_neg e]; exact h3 i (by omega)
  · rw [Array.getElem?_setIfInBounds, if_neg (by omega)]; exact h4 i (by omega) hi'
theorem Half.mat {W : World} {B K L : Nat} (h : Half W B K L 64) : Half W B L L 0 := by
  obtain ⟨cs, h1, h2, h3, _⟩ := h
  exact ⟨cs, h1, h2, fun i hi => absurd hi (by omega), fun i _ hi => h3 i hi⟩
theorem Half.go {W : World} {B K : Nat} (h : Half W B K K 0) (L : Nat) : Half W B K L 0 := by
  obtain ⟨cs, h1, h2, _, h4⟩ := h
  exact ⟨cs, h1, h2, fun i hi => absurd hi (by omega), h4⟩

theorem matInfo : (Tryd.prog.info? 31).map (·.size) = some 64 := by kernel_rfl

set_option maxHeartbeats 400000 in
theorem square_any (B K : Nat) (w : World) (h : Half w B K K 0) (ht : Tab w) (hB : B ≠ 0) :
    Calls Tryd.prog 12 #[.pointer (some ⟨B, 0, none⟩)] w fun e w' => e = .returned (.tuple #[]) ∧ Half w' B (K + K) (K + K) 0 ∧ w.grownBy w' (some B) := by
  obtain ⟨cs, h1, h2, h3, h4⟩ := h
  have hm : IsMat K cs := ⟨h2, fun i hi => h4 i (Nat.zero_le _) hi⟩
  have hh : Half w B K (K + K) 0 := ⟨cs, h1, h2, fun i hi => absurd hi (by omega), h4⟩
  have hi : (Tryd.prog.info? 31).map (·.size) = some cs.size := by rw [h2]; exact matInfo
  have hload := run_loadVar_row (P := Tryd.prog) w B 31 31 cs (0, 0) _ h1 Tryd.underlying31 rfl hi
  have Hm := Lib.hid hm; clear hm
  have Hh := Lib.hid hh; clear hh
  have Ht := Lib.hid ht; clear ht
  have Hi := Lib.hid hi; clear hi
  have H1 := Lib.hid h1; clear h1
  have Hl := Lib.hid hload; clear hload
  clear h2 h3 h4
  go_enter Tryd.func12, Tryd.ntmps12
  go_wp2_with (refine wpList_load_row rfl _ _ rfl B rfl _ cs (0, 0) _ H1.out Tryd.underlying31 rfl Hi.out ?_)
  go_loopw [2, 5] (fun _ i wr => ∃ k : Nat, k ≤ 64 ∧ i = .int .i64 k ∧ Half wr B K (K + K) k ∧ w.grownBy wr (some B)) (fun _ i _ => 64 - (intOf i).toNat)
  case atStart => exact ⟨0, by omega, rfl, Hh.out, grown_refl _ _⟩
  case round =>
    obtain ⟨k, hk, rfl, hh, hg⟩ := hrel
    by_cases hlt : k < 64
    · obtain ⟨hc, hf⟩ := hh.cell hlt
      have hk' : (k : Int) < 64 := by omega
      have htw := Ht.out.grown hg hB
      have htimes := times_any K cs Hm.out (Crc.sts K (1#64 <<< k)) wr htw
      rw [← Crc.sts_add] at htimes
      have hset := fun w1 (hb : Below wr.heap.size wr w1) => (hh.kept hb).set hlt
      have hcell := fun w1 (hb : Below wr.heap.size wr w1) => (hh.kept hb).cell hlt
      generalize Crc.sts (K + K) (1#64 <<< k) = y at *
      generalize Crc.sts K (1#64 <<< k) = x at *
      have Hset := Lib.hid hset; clear hset
      have Hcell := Lib.hid hcell; clear hcell
      have Htm := Lib.hid htimes; clear htimes
      have Hg := Lib.hid hg; clear hg
      have Hhh := Lib.hid hh; clear hh htw
      go_wp2_with (go_at_call 13; (with_reducible refine Htm.out.mono ?_); rintro e w1 ⟨rfl, hb⟩; obtain ⟨hc1, hf1⟩ := Hcell.out w1 hb)
      go_roundw
      case rel => exact ⟨k + 1, by omega, by go_num, Hset.out w1 hb, grown_trans (grown_trans Hg.out (grown_below B hb)) (grown_set _ _ _ _)⟩
      case measure => simp [intOf]; omega
    · obtain rfl : k = 64 := by omega
      go_wp2
      go_end0
      exact ⟨rfl, hh.mat, hg⟩
theorem i64_and_one (r : Nat) : bits .and .i64 (r : Int) 1 = (r : Int) % 2 := by
  have h1 : (BitVec.ofInt 64 (r : Int)) &&& (BitVec.ofInt 64 1) = BitVec.ofNat 64 (r % 2) := by
    apply BitVec.eq_of_toNat_eq
    rw [BitVec.ofInt_natCast, BitVec.toNat_and, BitVec.toNat_ofNat, BitVec.toNat_ofNat]
    have : (BitVec.ofInt 64 1).toNat = 1 := by decide
    rw [this, Nat.and_one_is_mod]
    omega
  show IntKind.i64.wrap ((BitVec.ofInt 64 (r : Int) &&& BitVec.ofInt 64 1).toNat : Int) = _
  rw [h1, BitVec.toNat_ofNat, IntWalk.i64_in _ (by omega)]
  omega
theorem odd_steps (K q r : Nat) (x : BitVec 64) (h : r = 2 * q + 1) : Crc.sts ((K + K) * q) (Crc.sts K x) = Crc.sts (K * r) x := by
  rw [← Crc.sts_add]
  congr 1
  rw [h, Nat.mul_add, Nat.mul_one, ← Nat.mul_assoc, Nat.mul_comm K 2, Nat.two_mul]
theorem even_steps (K q r : Nat) (x : BitVec 64) (h : r = 2 * q) : Crc.sts ((K + K) * q) x = Crc.sts (K * r) x := by
  congr 1
  rw [h, ← Nat.mul_assoc, Nat.mul_comm K 2, Nat.two_mul]
theorem odd_bit (r : Nat) : (bits .and .i64 (r : Int) 1 == 1) = decide (r % 2 = 1) := by
  rw [i64_and_one, Bool.eq_iff_iff, beq_iff_eq, decide_eq_true_eq]
  omega

/-- The first k cells of the block are of L steps; the others are there. -/
def Fill (W : World) (B L k : Nat) : Prop := ∃ cs : Array Value, W.heap[B]? = some (.cells cs 31 (0, 0)) ∧ cs.size = 64 ∧
  (∀ i, i < k → cs[i]? = some (.int .u64 ((Crc.sts L (1#64 <<< i)).toNat : Int)))
theorem Fill.cell {W : World} {B L k : Nat} (h : Fill W B L k) (i : Nat) (hi : i < 64) : (∃ v, W.cell? ⟨B, i, none⟩ = some v) ∧ W.frozen? ⟨B, i, none⟩ = false := by
  obtain ⟨cs, h1, h2, h3⟩ := h
  refine ⟨⟨cs[i], by rw [cell_of_row _ _ _ _ _ _ h1]; exact Array.getElem?_eq_getElem (by omega)⟩, by simp [World.frozen?, h1]⟩
theorem Fill.set {W : World} {B L k : Nat} (h : Fill W B L k) (hk : k < 64) : Fill (W.setCell ⟨B, k, none⟩ (.int .u64 ((Crc.sts L (1#64 <<< k)).toNat : Int))) B L (k + 1) := by
  obtain ⟨cs, h1, h2, h3⟩ := h
  refine ⟨_, heap_setCell_same _ _ _ _ _ _ h1, by simp [h2], fun i hi => ?_⟩
  rw [Array.getElem?_setIfInBounds]
  by_cases e : k = i
  · subst e; rw [if_pos rfl, if_pos (by omega)]
  · rw [if_neg e]; exact h3 i (by omega)
theorem Fill.half {W : World} {B L : Nat} (h : Fill W B L 64) : Half W B L L 0 := by
  obtain ⟨cs, h1, h2, h3⟩ := h
  exact ⟨cs, h1, h2, fun i hi => absurd hi (by omega), fun i _ hi => h3 i hi⟩

set_option maxRecDepth 100000 in
set_option maxHeartbeats 1000000 in
theorem join_any (a b : BitVec 64) (n : Int) (hn1 : -9223372036854775808 ≤ n) (hn2 : n ≤ 9223372036854775807) (w : World) (ht : Tab w) :
    Calls Tryd.prog 7 #[.int .u64 (a.toNat : Int), .int .u64 (b.toNat : Int), .int .i64 n] w fun e w' => e = .returned (.int .u64 ((Crc.sts (8 * n.toNat) a ^^^ b).toNat : Int)) ∧ Below w.heap.size w w' := by
  have Ht := Lib.hid ht
  have hB : w.heap.size ≠ 0 := by
    have := World.block_lt_of_cell? w _ (ht 0 (by omega))
    intro e
    rw [e] at this
    exact Nat.lt_irrefl _ this
  have HB := Lib.hid hB; clear hB ht
  go_enter Tryd.func7, Tryd.ntmps7
  go_wp2_with fail
  generalize hcs : #[Value.int IntKind.u64 0, _, _, _, _, _, _, _, _, _, _, _, _, _, _, _, _, _, _, _, _, _, _, _, _, _, _, _, _, _, _, _, _, _, _, _, _, _, _, _, _, _, _, _, _, _, _, _, _, _, _, _, _, _, _, _, _, _, _, _, _, _, _, _] = cs
  have hsz : cs.size = 64 := by rw [← hcs]; rfl
  clear hcs
  have hfill : Fill (w.alloc (Obj.cells cs 31)) w.heap.size 8 0 := ⟨cs, heap_alloc_new w _, hsz, fun i hi => absurd hi (by omega)⟩
  have hbel : Below w.heap.size w (w.alloc (Obj.cells cs 31)) := (Below.refl _ _).alloc (Nat.le_refl _) _
  obtain ⟨W, hW⟩ : ∃ W, W = w.alloc (Obj.cells cs 31) := ⟨_, rfl⟩
  rw [← hW] at hfill hbel ⊢
  clear hW hsz
  obtain ⟨B, hBe⟩ : ∃ B, B = w.heap.size := ⟨_, rfl⟩
  rw [← hBe] at hfill ⊢
  have HBe := Lib.hid hBe; clear hBe
  go_loopw [8, 10] (fun _ i wr => ∃ k : Nat, k ≤ 64 ∧ i = .int .i64 k ∧ Fill wr B 8 k ∧ Below w.heap.size w wr) (fun _ i _ => 64 - (intOf i).toNat)
  case atStart => exact ⟨0, by omega, rfl, hfill, hbel⟩
  case round =>
    obtain ⟨k, hk, rfl, hf, hb⟩ := hrel
    by_cases hlt : k < 64
    · obtain ⟨⟨v0, hc⟩, hfz⟩ := hf.cell k hlt
      have hset := hf.set hlt
      have hpow : IntKind.u64.wrap ((2 : Int) ^ k) = ((1#64 <<< k).toNat : Int) := by
        rw [Crc.one_shl k hlt, IntKind.wrap_u64]
        have h1 : (2 : Nat) ^ k < 18446744073709551616 := Nat.pow_lt_pow_right (n := 64) (by omega) hlt
        have h2 : ((2 : Int) ^ k) = ((2 ^ k : Nat) : Int) := by simp
        rw [h2]; exact Int.emod_eq_of_lt (Int.natCast_nonneg _) (Int.ofNat_lt.2 h1)
      generalize 1#64 <<< k = x at *
      have he := eight_any x
      generalize Crc.sts 8 x = y at *
      have He := Lib.hid he; clear he
      have Hset := Lib.hid hset; clear hset hf
      have hk' : (k : Int) < 64 := by omega
      go_wp2_with (go_at_call 11; (with_reducible refine (He.out _).mono ?_); rintro e w1 ⟨rfl, rfl⟩)
      go_roundw
      case rel => exact ⟨k + 1, by omega, by go_num, Hset.out, hb.setCell (by show _ ≤ B; rw [HBe.out]; exact Nat.le_refl _) _⟩
      case measure => simp [intOf]; omega
    · obtain rfl : k = 64 := by omega
      have hh := hf.half
      clear hf
      obtain ⟨N, hN, hN0⟩ : ∃ N : Nat, max n 0 = (N : Int) ∧ N = n.toNat := ⟨n.toNat, by omega, rfl⟩
      have hNb : (N : Int) ≤ 9223372036854775807 := by omega
      have HN0 := Lib.hid hN0; clear hN0
      have HN := Lib.hid hN; clear hN
      go_wp2_with fail
      all_goals
        have hN := HN.out
        have HNb := Lib.hid hNb; clear hNb
        go_loopw [0, 2] (fun sa sn wr => ∃ (K r : Nat) (x : BitVec 64), sa = .int .u64 (x.toNat : Int) ∧ sn = .int .i64 (r : Int) ∧ r ≤ N ∧ Crc.sts (K * r) x = Crc.sts (8 * N) a ∧ Half wr B K K 0 ∧ Below w.heap.size w wr) (fun _ sn _ => (intOf sn).toNat)
        case atStart => exact ⟨8, N, a, rfl, congrArg (Value.int .i64) (by omega), Nat.le_refl _, rfl, hh, hb⟩
        case round =>
          obtain ⟨K, r, x, rfl, rfl, hrN, hst, hh, hb⟩ := hrel
          have HbN := HNb.out
          by_cases hr : r = 0
          · subst hr
            have hx : x = Crc.sts (8 * N) a := by simpa [Crc.sts] using hst
            have hxor := Crc.xor_bv x b
            generalize hy : x ^^^ b = y at *
            have Hy := Lib.hid hy; clear hy
            have Hx := Lib.hid hx; clear hx hst
            go_wp2_with fail
            go_ret
            refine ⟨?_, hb⟩
            rw [← HN0.out, ← Hx.out, Hy.out]
            rfl
          · have hr0 : (0 : Int) < (r : Int) := by omega
            have Hst := Lib.hid hst; clear hst hr
            have Hh := Lib.hid hh; clear hh
            have HNN := Lib.hid hN; clear hN
            obtain ⟨q, hq⟩ : ∃ q, r / 2 = q := ⟨_, rfl⟩
            have hq2 : (r : Int) / 2 = (q : Int) := by omega
            have hbit := odd_bit r
            have hsquare := fun w1 (h1 : Half w1 B K K 0) (h2 : Tab w1) => square_any B K w1 h1 h2 (by rw [HBe.out]; exact HB.out)
            have Hsq := Lib.hid hsquare; clear hsquare
            have Hb := Lib.hid hb; clear hb
            by_cases hodd : r % 2 = 1
            · have hst' := odd_steps K q r x (by omega)
              have hod : (bits BinOp.and IntKind.i64 (r : Int) 1 == 1) = true := by rw [hbit]; exact decide_eq_true hodd
              obtain ⟨cs, H1, h2, h3, h4⟩ := Hh.out
              have Hm : IsMat K cs := ⟨h2, fun i hi => h4 i (Nat.zero_le _) hi⟩
              have Hi : (Tryd.prog.info? 31).map (·.size) = some cs.size := by rw [h2]; exact matInfo
              have htimes := times_any K cs Hm x wr (Ht.out.below Hb.out)
              generalize hx' : Crc.sts K x = x' at *
              have Hx' := Lib.hid hx'; clear hx'
              have H1' := Lib.hid H1; clear H1
              have Hi' := Lib.hid Hi; clear Hi
              have Htm := Lib.hid htimes; clear htimes
              have Hst' := Lib.hid hst'; clear hst'
              have HQ := Lib.hid hq; clear hq
              have hle : q ≤ N := by omega
              have hlt : q < r := by omega
              clear h2 h3 h4 Hm hbit hodd
              go_wp2_with (first
                | (refine wpList_load_row rfl _ _ rfl B rfl _ cs (0, 0) _ H1'.out Tryd.underlying31 rfl Hi'.out ?_)
                | (go_at_call 13; (with_reducible refine Htm.out.mono ?_); rintro e w1 ⟨rfl, hb1⟩)
                | (go_at_call 12; (with_reducible refine (Hsq.out _ (Hh.out.kept hb1) ((Ht.out.below Hb.out).below hb1)).mono ?_); rintro e w2 ⟨rfl, hh2, hg2⟩))
              go_roundw
              case rel => exact ⟨K + K, q, x', rfl, rfl, hle, Hst'.out.trans Hst.out, hh2, (Hb.out.trans (hb1.mono Hb.out.size)).grown hg2 (Nat.le_trans Hb.out.size hb1.size) (fun k e => by cases e; rw [HBe.out]; exact Nat.le_refl _)⟩
              case measure => simp [intOf]; omega
            · have hst' := even_steps K q r x (by omega)
              have hod : (bits BinOp.and IntKind.i64 (r : Int) 1 == 1) = false := by rw [hbit]; exact decide_eq_false hodd
              have Hst' := Lib.hid hst'; clear hst'
              have HQ := Lib.hid hq; clear hq
              have hle : q ≤ N := by omega
              have hlt : q < r := by omega
              clear hbit hodd
              go_wp2_with (go_at_call 12; (with_reducible refine (Hsq.out _ Hh.out (Ht.out.below Hb.out)).mono ?_); rintro e w2 ⟨rfl, hh2, hg2⟩)
              go_roundw
              case rel => exact ⟨K + K, q, x, rfl, rfl, hle, Hst'.out.trans Hst.out, hh2, Hb.out.grown hg2 Hb.out.size (fun k e => by cases e; rw [HBe.out]; exact Nat.le_refl _)⟩
              case measure => simp [intOf]; omega

end Go.Proofs.YtljolmidnckciaaDoor
