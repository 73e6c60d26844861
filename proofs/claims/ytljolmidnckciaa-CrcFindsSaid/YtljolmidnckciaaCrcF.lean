/- The walk of the law CrcFinds. -/
import Derived.Test.YtljolmidnckciaaCrcR
import Derived.Test.YtljolmidnckciaaReg
import Derived.Test.YtljolmidnckciaaCrcL
import Derived.Deep.QuietTactic
import Derived.BigQuiet
import Derived.BigRegion
import Derived.Laws.IdiomStrings
import Derived.StillTailTactics
import Derived.Deep.DeepCutAuto
namespace Go.Proofs.Ytljolmidnckciaa
open Go.RowKit

theorem infoU8 : (Try.prog.info? 5).map (fun i => (i.zero, i.size, i.bytes)) = some (some (.int .u8 0), 1, 1) := by kernel_rfl

set_option maxRecDepth 100000 in
set_option maxHeartbeats 2000000 in
theorem crcFinds_any (a b : ByteArray) (at_ : Nat) (m : BitVec 64) (ha : a.size ≤ maxLen) (hb : b.size ≤ maxLen) (hat : at_ ≤ 65535) (h1 : a.size ≤ 5000) (h2 : b.size ≤ 5000) (w : World) :
    Calls Try.prog 4 #[.string a, .string b, .int .u16 (at_ : Int), .int .u64 (m.toNat : Int)] w fun e w' => e = .returned (.bool true) ∧ Below w.heap.size w w' := by
  have g1 : ¬ (5000 : Int) < a.size := by omega
  have g2 : ¬ (5000 : Int) < b.size := by omega
  have hconv := fun (w : World) => run_bytes_of_string (P := Try.prog) w 9 28 5 a Try.underlying9 Try.underlying28 Try.underlying5
  obtain ⟨bit, hbit⟩ : ∃ bit : Nat, (if 0 < a.size then at_ % (8 * a.size) else 0) = bit := ⟨_, rfl⟩
  have hbl : bit ≤ 8 * a.size := by
    rw [← hbit]; split
    · exact Nat.le_of_lt (Nat.mod_lt _ (by omega))
    · omega
  go_enter Try.func4, Try.ntmps4
  go_upto_if 30 with fail
  generalize hWW : World.drew _ = WW
  have HW := Lib.hid hWW; clear hWW
  go_cut [10] (fun s10 wx => s10 = .int .i64 (bit : Int) ∧ wx = WW)
  case first =>
    by_cases hpos : 0 < a.size
    · have hbi : (at_ : Int) % (8 * (a.size : Int)) = (bit : Int) := by rw [← hbit, if_pos hpos]; simp
      go_wp2_with fail
      go_meet
      exact ⟨rfl, rfl⟩
    · obtain rfl : bit = 0 := by rw [← hbit, if_neg hpos]
      go_wp2_with fail
      go_meet
      exact ⟨rfl, rfl⟩
  case rest =>
  obtain ⟨rfl, rfl⟩ := hcut
  go_wp2_with fail
  clear hconv hbit
  rw [← HW.out]
  generalize grownCap w a.size 0 5 = cap
  obtain ⟨W1, hW1⟩ : ∃ W1, W1 = (w.alloc (Obj.cells (bytesRow a cap) 5 ((bytesRow a cap).size, (bytesRow a cap).size + 1))).drew := ⟨_, rfl⟩
  have hrow : ByteRow W1 w.heap.size a.data.toList := by
    rw [hW1]; exact (ByteRow.of_string w a cap _).drew
  have hbel : Below w.heap.size w W1 := by rw [hW1]; exact ((Below.refl _ _).alloc (Nat.le_refl _) _).drew
  have hsz : w.heap.size < W1.heap.size := by rw [hW1]; simp
  rw [← hW1]
  clear hW1
  go_loopw [11, 12] (fun ch i wr => ∃ k : Nat, k ≤ 64 ∧ bit + k ≤ 8 * a.size ∧ i = .int .i64 k ∧ ch = .bool (Crc.chg m k) ∧ ByteRow wr w.heap.size (Crc.fl a.data.toList m bit k) ∧ Below w.heap.size w wr ∧ w.heap.size < wr.heap.size) (fun _ i _ => 64 - (intOf i).toNat)
  case atStart => exact ⟨0, by omega, by omega, rfl, rfl, hrow, hbel, hsz⟩
  case round =>
    obtain ⟨k, hk1, hk2, rfl, rfl, hrow, hbel, hsz⟩ := hrel
    by_cases hc : k < 64 ∧ bit + k < 8 * a.size
    · obtain ⟨hc1, hc2⟩ := hc
      have hc2' : ((bit : Int) + (k : Int) < 8 * (a.size : Int)) := by omega
      go_wp2_with fail
      · have hl : (Crc.fl a.data.toList m bit k).length = a.size := by rw [Crc.fl_length]; simp
        obtain ⟨p, hp⟩ : ∃ p, bit + k = p := ⟨_, rfl⟩
        obtain ⟨q, hq⟩ : ∃ q, p / 8 = q := ⟨_, rfl⟩
        obtain ⟨r, hr⟩ : ∃ r, p % 8 = r := ⟨_, rfl⟩
        have hq' : q < a.size := by omega
        have hr' : r < 8 := by omega
        have e1 : IntKind.i64.wrap ((bit : Int) + (k : Int)) = (p : Int) := by rw [IntWalk.i64_in _ (by omega)]; omega
        have e2 : IntKind.i64.wrap ((p : Int) / 8) = (q : Int) := by
          rw [IntWalk.i64_in _ (by omega)]; omega
        have e3 : (p : Int).tmod 8 = (r : Int) := by
          rw [Int.tmod_eq_emod_of_nonneg (by omega)]; omega
        obtain ⟨hcell, hfz⟩ := hrow q (by omega)
        generalize hv : (Crc.fl a.data.toList m bit k)[q]'(by omega) = v at hcell
        have Hv := Lib.hid hv; clear hv
        have Hp := Lib.hid hp; clear hp
        have Hq := Lib.hid hq; clear hq
        have Hr := Lib.hid hr; clear hr
        refine Reg.wp_region_can (fun x => x = wr.drew) [(0, 0), (1, 0), (2, 0), (3, 0), (4, 0), (5, 0), (6, 0), (7, 0), (8, 0), (9, 0), (10, 0), (11, 0), (12, 0), (13, 0), (14, 0), (15, 0), (16, 0), (17, 0), (18, 0), (19, 2)] (by kernel_rfl) (by kernel_rfl) (fun _ _ d _ _ h => by cases d <;> exact h) rfl ?_
        dsimp only [Reg.pick, List.getElem?_cons_zero, List.getElem?_cons_succ]
        iterate 19 (refine Reg.can_reads (fun K hK => ?_); go_simp; refine hK _ ?_; clear hK K)
        refine Reg.can_last (fun K hK => ?_)
        go_simp
        refine hK _ _ ?_
        clear hK K
        go_wp2
        go_roundw
        case rel =>
          refine ⟨k + 1, by omega, by omega, by go_num, ?_, ?_, ?_, by simpa [World.setCell] using hsz⟩
          · have hm : m.getLsbD k = true := by rw [← Crc.bit_iff]; assumption
            simp only [Crc.chg, hm, if_true]
          · have hm : m.getLsbD k = true := by rw [← Crc.bit_iff]; assumption
            simp only [Crc.fl, hm, if_true, Crc.flip]
            rw [Hp.out, Hq.out, Hr.out, List.getD_eq_getElem?_getD, List.getElem?_eq_getElem (by omega), Option.getD_some, Hv.out]
            exact (hrow.set _ (Crc.xor_u8 v r hr')).drew
          · exact (hbel.setCell (by simp) _).drew
        case measure => simp [intOf]; omega
      · go_roundw
        case rel =>
          have hm : m.getLsbD k = false := by rw [← Crc.bit_iff]; assumption
          refine ⟨k + 1, by omega, by omega, by go_num, ?_, ?_, hbel, hsz⟩
          · simp only [Crc.chg, hm, Bool.false_eq_true, if_false]
          · simp only [Crc.fl, hm, Bool.false_eq_true, if_false]; exact hrow
        case measure => simp [intOf]; omega
    · have hN : k = min 64 (8 * a.size - bit) := by omega
      have hl : (Crc.fl a.data.toList m bit k).length = a.size := by rw [Crc.fl_length]; simp
      have hlaw : (((Crc.sum 0#64 (Crc.fl a.data.toList m bit k)).toNat : Int) != ((Crc.sum 0#64 a.data.toList).toNat : Int)) = Crc.chg m k := Crc.finds _ _ _ _ hk1 (by simpa using hk2)
      generalize Crc.fl a.data.toList m bit k = l at *
      have hstr := fun cap => hrow.string (P := Try.prog) 28 9 5 (n := a.size) (cap := cap) hl Try.underlying28 Try.underlying5 Try.underlying9
      have hlmax : (⟨l.toArray⟩ : ByteArray).size ≤ maxLen := by
        have : (⟨l.toArray⟩ : ByteArray).size = l.length := rfl
        omega
      have hN' := Lib.hid hN; clear hN
      have hL := Lib.hid hl; clear hl
      generalize hx : Crc.sum 0#64 l = x at hlaw
      have Hx := Lib.hid hx; clear hx
      generalize hy : Crc.sum 0#64 a.data.toList = y at hlaw
      have Hy := Lib.hid hy; clear hy
      generalize Crc.chg m k = ch at *
      have hchne : (ch != ch) = false := by cases ch <;> rfl
      have hsuml : ∀ w, Calls Try.prog 6 #[.string ⟨l.toArray⟩] w fun e w' => e = .returned (.int .u64 (x.toNat : Int)) ∧ w = w' := fun w => by
        have := sum_any ⟨l.toArray⟩ hlmax w
        simpa only [List.toList_toArray, Hx.out] using this
      have hsuma : ∀ w, Calls Try.prog 6 #[.string a] w fun e w' => e = .returned (.int .u64 (y.toNat : Int)) ∧ w = w' := fun w => by
        have := sum_any a ha w
        simpa only [Hy.out] using this
      have Hsl := Lib.hid hsuml; clear hsuml
      have Hsa := Lib.hid hsuma; clear hsuma
      clear hrow
      have hk : k = 64 ∨ (k < 64 ∧ bit + k = 8 * a.size) := by omega
      rcases hk with hk | ⟨hk, hk'⟩
      all_goals
        go_upto_region 16 with (first
          | ((with_reducible refine (Hsl.out _).mono ?_); rintro e w' ⟨rfl, rfl⟩)
          | ((with_reducible refine (Hsa.out _).mono ?_); rintro e w' ⟨rfl, rfl⟩))
        go_cut [13] (fun s13 wx => s13 = .int .i64 ((min a.size b.size : Nat) : Int) ∧ wx = wr)
        case first =>
          go_wp2_with fail
          all_goals
            go_meet
            exact ⟨congrArg (Value.int .i64) (by omega), rfl⟩
        case rest =>
          obtain ⟨rfl, rfl⟩ := hcut
          obtain ⟨n, hn⟩ : ∃ n, min a.size b.size = n := ⟨_, rfl⟩
          have hna : n ≤ a.size := by omega
          have hnb : n ≤ b.size := by omega
          rw [hn]
          clear hn
          obtain ⟨i0, hi, hz0, hz1, hz2⟩ := info_parts infoU8
          have hmk := fun (w : World) => run_make (P := Try.prog) w 28 5 i0 (.int .u8 0) Try.underlying28 hi hz0 .i64 .i64 (n : Int) (n : Int) (by omega) (by omega) (by rw [hz2]; omega) (by omega)
          rw [hz1] at hmk
          simp only [Int.toNat_natCast, Nat.mul_one] at hmk
          go_upto_region 17 with fail
          go_cut [14, 15] (fun s14 s15 wx => ∃ Bo Bn, s14 = .slice (some ⟨Bo, 0, none⟩) n n ∧ s15 = .slice (some ⟨Bn, 0, none⟩) n n ∧ ByteRow wx Bo (List.replicate n 0) ∧ ByteRow wx Bn (List.replicate n 0) ∧ Bo ≠ Bn ∧ w.heap.size < Bo ∧ w.heap.size < Bn ∧ Bo < wx.heap.size ∧ Bn < wx.heap.size ∧ Below w.heap.size w wx)
          case first =>
            have hr0 := (ByteRow.of_made wc n 5).alloc (by simp) (Obj.cells (madeCells #[Value.int .u8 0] n) 5)
            have hr1 := ByteRow.of_made (wc.alloc (Obj.cells (madeCells #[Value.int .u8 0] n) 5)) n 5
            have Hr0 := Lib.hid hr0; clear hr0
            have Hr1 := Lib.hid hr1; clear hr1
            go_region
            all_goals (go_wp2_with fail)
            all_goals
              go_meet
              first
              | exact ⟨_, _, rfl, rfl, Hr0.out.drew, (by simpa using Hr1.out.drew), by omega, by omega, by omega, by simp; omega, by simp, (((hbel.alloc (by omega) _).alloc (by simp; omega) _).drew)⟩
              | exact ⟨_, _, rfl, rfl, (by simpa using Hr1.out.drew), Hr0.out.drew, by omega, by omega, by omega, by simp, by simp; omega, (((hbel.alloc (by omega) _).alloc (by simp; omega) _).drew)⟩
          case rest =>
            obtain ⟨Bo, Bn, rfl, rfl, hbo, hbn, hne, ho1, hn1, ho2, hn2, hbel⟩ := hcut
            have Hmk := Lib.hid hmk; clear hmk
            have Hst := Lib.hid hstr; clear hstr
            rw [← Crc.ov_zero a.data.toList b.data.toList] at hbo
            go_wp2_with fail
            go_loopw [16] (fun i wr => ∃ j : Nat, j ≤ n ∧ i = .int .i64 j ∧ ByteRow wr Bo (Crc.ov a.data.toList b.data.toList n j) ∧ ByteRow wr Bn (List.replicate n 0) ∧ Bo < wr.heap.size ∧ Below w.heap.size w wr) (fun i _ => n - (intOf i).toNat)
            case atStart => exact ⟨0, by omega, rfl, hbo, hbn, ho2, hbel⟩
            case round =>
              obtain ⟨j, hj, rfl, hbo, hbn, ho2, hbel⟩ := hrel
              by_cases hlt : j < n
              · obtain ⟨hcell, hfz⟩ := hbo j (by rw [Crc.ov_length]; exact hlt)
                have hja : j < a.size := by omega
                have hjb : j < b.size := by omega
                have hxor := Crc.xor_u8' a[j] b[j]
                go_wp2_with fail
                refine Reg.wp_region_can (fun x => x = wr.drew) [(0, 0), (1, 0), (2, 0), (3, 0), (4, 0), (5, 0), (6, 0), (7, 0), (8, 0), (9, 0), (10, 2)] (by kernel_rfl) (by kernel_rfl) (fun _ _ d _ _ h => by cases d <;> exact h) rfl ?_
                dsimp only [Reg.pick, List.getElem?_cons_zero, List.getElem?_cons_succ]
                iterate 10 (refine Reg.can_reads (fun K hK => ?_); go_simp; refine hK _ ?_; clear hK K)
                refine Reg.can_last (fun K hK => ?_)
                go_simp
                refine hK _ _ ?_
                clear hK K
                go_wp2_with fail
                go_roundw
                case rel =>
                  refine ⟨j + 1, by omega, by go_num, ?_, (hbn.other (by show Bo ≠ Bn; exact hne) _).drew, by simpa [World.setCell] using ho2, (hbel.setCell (by show _ ≤ Bo; omega) _).drew⟩
                  have h1 : a.data.toList.getD j 0 = a[j] := by
                    rw [List.getD_eq_getElem?_getD, List.getElem?_eq_getElem (by simp; omega)]; rfl
                  have h2 : b.data.toList.getD j 0 = b[j] := by
                    rw [List.getD_eq_getElem?_getD, List.getElem?_eq_getElem (by simp; omega)]; rfl
                  have h3 := Crc.ov_set a.data.toList b.data.toList n j
                  rw [h1, h2] at h3
                  rw [← h3]
                  exact (hbo.set _ rfl).drew
                case measure => simp [intOf]; omega
              · obtain rfl : j = n := by omega
                have hso := hbo.drew.string (P := Try.prog) 28 9 5 (n := j) (cap := j) (by rw [Crc.ov_length]) Try.underlying28 Try.underlying5 Try.underlying9
                have hsn := hbn.drew.string (P := Try.prog) 28 9 5 (n := j) (cap := j) (by simp) Try.underlying28 Try.underlying5 Try.underlying9
                obtain ⟨x1, x2, x3, x4, hs1, hs2, hs3, hs4, hlaw2⟩ : ∃ x1 x2 x3 x4 : BitVec 64,
                    (∀ w, Calls Try.prog 6 #[.string (a.extract 0 j)] w fun e w' => e = .returned (.int .u64 (x1.toNat : Int)) ∧ w = w') ∧
                    (∀ w, Calls Try.prog 6 #[.string (b.extract 0 j)] w fun e w' => e = .returned (.int .u64 (x2.toNat : Int)) ∧ w = w') ∧
                    (∀ w, Calls Try.prog 6 #[.string ⟨(List.replicate j (0 : UInt8)).toArray⟩] w fun e w' => e = .returned (.int .u64 (x3.toNat : Int)) ∧ w = w') ∧
                    (∀ w, Calls Try.prog 6 #[.string ⟨(Crc.ov a.data.toList b.data.toList j j).toArray⟩] w fun e w' => e = .returned (.int .u64 (x4.toNat : Int)) ∧ w = w') ∧ x1 ^^^ x2 ^^^ x3 = x4 := by
                  unfold maxLen at *
                  refine ⟨_, _, _, _, sum_any _ ?_, sum_any _ ?_, sum_any _ ?_, sum_any _ ?_, ?_⟩
                  · simp [maxLen]; omega
                  · simp [maxLen]; omega
                  · simp [ByteArray.size, maxLen]; omega
                  · simp [ByteArray.size, maxLen, Crc.ov_length]; omega
                  · have h := Crc.over_law a.data.toList b.data.toList j (by simpa using hna) (by simpa using hnb)
                    have e1 : (a.extract 0 j).data.toList = a.data.toList.take j := by simp
                    have e2 : (b.extract 0 j).data.toList = b.data.toList.take j := by simp
                    rw [e1, e2]
                    exact h
                have hxa := Crc.xor_bv x1 x2
                have hxb := Crc.xor_bv (x1 ^^^ x2) x3
                rw [hlaw2] at hxb
                generalize x1 ^^^ x2 = x12 at hxa hxb
                clear hlaw2
                generalize Crc.ov a.data.toList b.data.toList j j = lo at hso hs4
                generalize List.replicate j (0 : UInt8) = ln at hsn hs3
                have hee : ((x4.toNat : Int) == (x4.toNat : Int)) = true := by simp
                have Hs1 := Lib.hid hs1; clear hs1
                have Hs2 := Lib.hid hs2; clear hs2
                have Hs3 := Lib.hid hs3; clear hs3
                have Hs4 := Lib.hid hs4; clear hs4
                go_wp2_with fail
                refine Reg.wp_region_can (fun x => x = wr.drew) [(0, 0), (1, 0), (2, 0), (4, 0), (5, 0), (6, 0), (9, 0), (10, 0), (13, 0), (14, 0), (3, 1), (7, 1), (8, 0), (11, 1), (12, 0), (15, 1), (16, 0), (17, 0), (18, 1), (19, 0), (20, 0)] (by kernel_rfl) (by kernel_rfl) (fun _ _ d _ _ h => by cases d <;> exact h) rfl ?_
                dsimp only [Reg.pick, List.getElem?_cons_zero, List.getElem?_cons_succ]
                iterate 10 (refine Reg.can_reads (fun K hK => ?_); go_simp; refine hK _ ?_; clear hK K)
                (refine Reg.can_turns (fun K hK => ?_); go_simp; refine (Hs1.out _).mono ?_; rintro e w' ⟨rfl, rfl⟩; refine ⟨fun x => x = wr.drew, rfl, .inr (fun _ h => h), hK _ _ ?_⟩; clear hK K)
                (refine Reg.can_turns (fun K hK => ?_); go_simp; refine (Hs2.out _).mono ?_; rintro e w' ⟨rfl, rfl⟩; refine ⟨fun x => x = wr.drew, rfl, .inr (fun _ h => h), hK _ _ ?_⟩; clear hK K)
                (refine Reg.can_reads (fun K hK => ?_); go_simp; refine hK _ ?_; clear hK K)
                (refine Reg.can_turns (fun K hK => ?_); go_simp; refine (Hs3.out _).mono ?_; rintro e w' ⟨rfl, rfl⟩; refine ⟨fun x => x = wr.drew, rfl, .inr (fun _ h => h), hK _ _ ?_⟩; clear hK K)
                (refine Reg.can_reads (fun K hK => ?_); go_simp; refine hK _ ?_; clear hK K)
                (refine Reg.can_turns (fun K hK => ?_); go_simp; refine (Hs4.out _).mono ?_; rintro e w' ⟨rfl, rfl⟩; refine ⟨fun x => x = wr.drew, rfl, .inr (fun _ h => h), hK _ _ ?_⟩; clear hK K)
                (refine Reg.can_reads (fun K hK => ?_); go_simp; refine hK _ ?_; clear hK K)
                (refine Reg.can_reads (fun K hK => ?_); go_simp; refine hK _ ?_; clear hK K)
                (refine Reg.can_turns (fun K hK => ?_); go_simp; refine (wakes_any _).mono ?_; rintro e w' ⟨rfl, rfl⟩; refine ⟨fun x => x = wr.drew, rfl, .inr (fun _ h => h), hK _ _ ?_⟩; clear hK K)
                (refine Reg.can_reads (fun K hK => ?_); go_simp; refine hK _ ?_; clear hK K)
                (refine Reg.can_reads (fun K hK => ?_); go_simp; refine hK _ ?_; clear hK K)
                refine Reg.can_nil ?_
                rintro x rfl
                go_wp2
                go_ret
                exact ⟨rfl, hbel.drew⟩

set_option maxHeartbeats 400000 in
theorem crcFinds_all (a b : ByteArray) (n : Int) (mm : Int) (ha : a.size ≤ maxLen) (hb : b.size ≤ maxLen) (hn : (Lit.int .u16 n).wf = true) (hm : (Lit.int .u64 mm).wf = true) (w : World) :
    Calls Try.prog 4 #[.string a, .string b, .int .u16 n, .int .u64 mm] w fun e w' => e = .returned (.bool true) ∧ Below w.heap.size w w' := by
  obtain ⟨m, rfl⟩ := u64_of hm
  have hn' := bounds_u16 hn
  obtain ⟨k, rfl⟩ := Int.eq_ofNat_of_zero_le hn'.1
  by_cases h1 : (5000 : Int) < a.size
  · clear hm hn
    unfold maxLen at ha hb
    go_enter Try.func4, Try.ntmps4
    go_wp2_with (go_at_call 5; refine (wakes_any _).mono ?_; rintro e w' ⟨rfl, rfl⟩)
    go_ret
    exact ⟨rfl, Below.refl _ _⟩
  by_cases h2 : (5000 : Int) < b.size
  · clear hm hn
    unfold maxLen at ha hb
    go_enter Try.func4, Try.ntmps4
    go_wp2_with (go_at_call 5; refine (wakes_any _).mono ?_; rintro e w' ⟨rfl, rfl⟩)
    go_ret
    exact ⟨rfl, Below.refl _ _⟩
  exact crcFinds_any a b k m ha hb (by omega) (by omega) (by omega) w
end Go.Proofs.Ytljolmidnckciaa
