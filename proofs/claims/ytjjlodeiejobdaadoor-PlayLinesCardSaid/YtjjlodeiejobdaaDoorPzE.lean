/- Play: the law PlayLines, walked. Condition: the rows lie there; the library's variables hold what the program's text lays. -/
import Derived.Test.YtjjlodeiejobdaaDoorPzD
import Derived.Test.YtjjlodeiejobdaaDoorPzF
namespace Go.Proofs.YtjjlodeiejobdaaDoor
open Go.RowKit Go.Shelf Go.Deep
/-- What the law's loop has gathered. -/
structure LnI (b : Bs) (z : List StpV) (k i : Nat) (T B : ByteArray) (n : Nat) : Prop where
  txt : T.data.toList = gapL b (z.take i)
  all : AllS (z.take i)
  brk : k < i → B.data.toList = gapL b (z.take k) ++ b ++ [10] ∧ n = 1 + 3 * k
theorem LnI.step {b : Bs} {z : List StpV} {k i : Nat} {T B T' B2 : ByteArray} {n n2 : Nat} {s : StpV} {l : Bs} (h : LnI b z k i T B n) (hs : z[i]? = some s) (hl : sayL s = some l)
    (hk : k ≤ i → B2.data.toList = gapL b (z.take k) ++ b ++ [10] ∧ n2 = 1 + 3 * k) (hT : T'.data.toList = T.data.toList ++ (l ++ [10] ++ [10, 35, 32] ++ b ++ [10])) : LnI b z k (i + 1) T' B2 n2 := by
  have e : z.take (i + 1) = z.take i ++ [s] := by rw [List.take_add_one, hs]; rfl
  refine ⟨by rw [hT, h.txt, e, gap_snoc, hl]; rfl, fun t ht => ?_, fun hi => hk (by omega)⟩
  rw [e] at ht
  rcases List.mem_append.1 ht with ht | ht
  · exact h.all t ht
  · rw [List.mem_singleton.1 ht, hl]; rfl
theorem one_out {s : StpV} {l : Bs} (hl : sayL s = some l) : wrL [s] 0 [] = (l ++ [10], 0, 0) := by
  rw [wrL, hl]
  rfl
theorem one_no {s : StpV} (hl : sayL s = none) : wrL [s] 0 [] = ([], 1, 2) := by
  rw [wrL, hl]
theorem sl_one {w : World} {b o la : Nat} {z : List StpV} (h : SlAt w (some ⟨b, o, none⟩) la z) {i : Nat} {s : StpV} (hs : z[i]? = some s) : SlAt w (some ⟨b, o + i * 11, none⟩) 1 [s] := by
  refine ⟨rfl, by decide, fun j x hx => ?_⟩
  cases j with
  | succ j => simp at hx
  | zero =>
    simp only [List.getElem?_cons_zero, Option.some.injEq] at hx
    subst hx
    obtain ⟨b1, o1, h1, h2, h3⟩ := h.cells i s hs
    cases h1
    exact ⟨b, o + i * 11, rfl, h2, fun j v hv => by rw [← h3 j v hv]; simp [Nat.add_assoc]⟩
set_option maxRecDepth 100000 in
set_option maxHeartbeats 16000000 in
theorem lines_law (a : Option Addr) (la ca : Nat) (z : List StpV) (x : ByteArray) (at_ : Nat) (hat : at_ < 256) (hok : ∀ s ∈ z, s.Ok) (hca : la ≤ ca) (w : World) (hz : SlAt w a la z) (hv : PV w) :
    Calls Tryd.prog 6 #[.slice a la ca, .string x, .int .u8 (at_ : Int)] w (OneB true w) := by
  have HPV := Lib.hid (PVB.of hv)
  have Hz := Lib.hid hz
  have Hca := Lib.hid hca
  have Hok := Lib.hid hok
  have HG := Lib.hid (great_any a la ca z w hz)
  clear hv hz hca hok
  cases hg : greatS z with
  | true =>
    rw [hg] at HG
    clear hg
    go_enter Tryd.func6, Tryd.ntmps6
    go_upto_region 2 with (go_at_call 7; refine HG.out.mono ?_; rintro e w1 ⟨rfl, hb1⟩; have HB1 := Lib.hid hb1; have HW := Lib.hid (wakes_any w1 (HPV.out.on hb1).here); clear hb1)
    go_wp2_with (go_at_call 8; refine HW.out.mono ?_; rintro e w2 ⟨rfl, hb2⟩; have H2 := Lib.hid (HB1.out.trans (hb2.mono HB1.out.size)); clear hb2)
    go_ret
    exact .of H2.out rfl
  | false =>
    have hn := great_no hg
    rw [hg] at HG
    have HS := Lib.hid (show Small z from ⟨hn.1, Hok.out, hn.2⟩)
    have hzl := Hz.out.hlen
    clear hg hn
    by_cases h1 : 100 < la
    · have h1' : (la : Int) > 100 := by omega
      clear hzl
      go_enter Tryd.func6, Tryd.ntmps6
      go_upto_region 2 with (go_at_call 7; refine HG.out.mono ?_; rintro e w1 ⟨rfl, hb1⟩; have HB1 := Lib.hid hb1; have HW := Lib.hid (wakes_any w1 (HPV.out.on hb1).here); clear hb1)
      go_wp2_with (go_at_call 8; refine HW.out.mono ?_; rintro e w2 ⟨rfl, hb2⟩; have H2 := Lib.hid (HB1.out.trans (hb2.mono HB1.out.size)); clear hb2)
      go_ret
      exact .of H2.out rfl
    have h1' : ¬ (la : Int) > 100 := by omega
    have HLA := Lib.hid (And.intro hzl h1)
    clear hzl h1
    by_cases h2 : 100 < x.size
    · have h2' : (x.size : Int) > 100 := by omega
      go_enter Tryd.func6, Tryd.ntmps6
      go_upto_region 2 with (go_at_call 7; refine HG.out.mono ?_; rintro e w1 ⟨rfl, hb1⟩; have HB1 := Lib.hid hb1; have HW := Lib.hid (wakes_any w1 (HPV.out.on hb1).here); clear hb1)
      go_wp2_with (go_at_call 8; refine HW.out.mono ?_; rintro e w2 ⟨rfl, hb2⟩; have H2 := Lib.hid (HB1.out.trans (hb2.mono HB1.out.size)); clear hb2)
      go_ret
      exact .of H2.out rfl
    have h2' : ¬ (x.size : Int) > 100 := by omega
    have HX := Lib.hid (show x.size ≤ 100 by omega)
    clear h2
    go_enter Tryd.func6, Tryd.ntmps6
    go_upto_region 4 with (go_at_call 7; refine HG.out.mono ?_; rintro e w1 ⟨rfl, hb1⟩; have HB1 := Lib.hid hb1; have HW := Lib.hid (wakes_any w1 (HPV.out.on hb1).here); clear hb1)
    clear HG h1' h2'
    go_loopw [7] (fun s7 wr => ∃ i : Nat, s7 = .int .i64 (i : Int) ∧ i ≤ x.size ∧ (∀ j, j < i → x.data.toList[j]? ≠ some 10) ∧ wr = w1) (fun s7 _ => x.size - (intOf s7).toNat)
    case atStart => exact ⟨0, rfl, Nat.zero_le _, fun j hj => by omega, rfl⟩
    case round =>
      obtain ⟨i, rfl, hi, hno, rfl⟩ := hrel
      have HA := Lib.hid hno
      clear hno
      by_cases hil : i < x.size
      · have hlt : (i : Int) < (x.size : Int) := by omega
        have hget := bs_list hil
        have HW1 := Lib.hid (show wrap64 ((i : Int) + 1) = (i : Int) + 1 by have := HX.out; unfold wrap64; omega)
        by_cases hc : (x[i]'hil) = 10
        · have hcv : (((x[i]'hil).toNat : Int) == 10) = true := by rw [hc]; rfl
          clear hget hc
          go_wp2_with (go_at_call 8; refine HW.out.mono ?_; rintro e w2 ⟨rfl, hb2⟩; have H2 := Lib.hid (HB1.out.trans (hb2.mono HB1.out.size)); clear hb2)
          go_ret
          exact .of H2.out rfl
        · have hcv : (((x[i]'hil).toNat : Int) == 10) = false := by have := byte_ne (d := 10) hc; simpa [bne] using this
          have HN := Lib.hid (show x.data.toList[i]? ≠ some 10 by rw [hget]; intro e; exact hc (Option.some.inj e))
          clear hget hc
          go_wp2
          go_roundw
          case rel => exact ⟨i + 1, rfl, by omega, fun j hj => by
            rcases Nat.lt_or_ge j i with h | h
            · exact HA.out j h
            · obtain rfl : j = i := by omega
              exact HN.out, by trivial⟩
          case measure => simp only [intOf]; omega
      have hlt : ¬ (i : Int) < (x.size : Int) := by omega
      have HNO := Lib.hid (show 10 ∉ x.data.toList from fun hm => by
        obtain ⟨j, hj, he⟩ := List.getElem_of_mem hm
        have h3 : x.data.toList.length = x.size := Array.length_toList
        exact HA.out j (by omega) (by rw [List.getElem?_eq_getElem hj, he]))
      have hkm : ((at_ : Int) % ((la : Int) + 1)) = ((at_ % (la + 1) : Nat) : Int) := (Int.natCast_emod at_ (la + 1)).symm
      have HWL := Lib.hid (show wrap64 ((la : Int) + 1) = (la : Int) + 1 by have := HLA.out; unfold wrap64; omega)
      obtain ⟨k, hk⟩ : ∃ k, k = at_ % (la + 1) := ⟨_, rfl⟩
      rw [← hk] at hkm
      have HK := Lib.hid (show k ≤ la by rw [hk]; have := Nat.mod_lt at_ (show la + 1 > 0 by omega); omega)
      clear hk
      clear HA HW hil hi
      go_upto_region 12 with fail
      go_loopw [8, 9, 11, 12] (fun s8 s9 s11 s12 wr => ∃ (i n : Nat) (T B : ByteArray), s8 = .string T ∧ s9 = .string B ∧ s11 = .int .i64 (n : Int) ∧ s12 = .int .i64 (i : Int) ∧ i ≤ la ∧ LnI x.data.toList z k i T B n ∧ Below w.heap.size w wr) (fun _ _ _ s12 _ => la - (intOf s12).toNat)
      case atStart => exact ⟨0, 0, ⟨#[]⟩, ⟨#[]⟩, rfl, rfl, rfl, rfl, Nat.zero_le _, ⟨rfl, fun t ht => by (cases ht), fun h => by omega⟩, HB1.out⟩
      case round =>
        obtain ⟨i, n, T, B, rfl, rfl, rfl, rfl, hi, hI, hbw⟩ := hrel
        have HI := Lib.hid hI
        have HBW := Lib.hid hbw
        have hle : (i : Int) ≤ (la : Int) := by omega
        have HTL := Lib.hid (show T.size ≤ i * 2000 by
          have h3 : T.data.toList.length = T.size := Array.length_toList
          have h4 := gap_len (b := x.data.toList) (z := z.take i) (by have : x.data.toList.length = x.size := Array.length_toList; have := HX.out; omega) (fun s hs => HS.out.ok s (List.mem_of_mem_take hs)) (fun s hs => HS.out.txt s (List.mem_of_mem_take hs))
          rw [hI.txt] at h3
          have h5 : (z.take i).length * 2000 ≤ i * 2000 := Nat.mul_le_mul_right _ (List.length_take_le _ _)
          omega)
        clear hI hbw
        go_upto_if 64 with fail
        go_cut [9, 11] (fun s9 s11 wx => wx = wr ∧ ∃ (B2 : ByteArray) (n2 : Nat), s9 = .string B2 ∧ s11 = .int .i64 (n2 : Int) ∧ (k ≤ i → B2.data.toList = gapL x.data.toList (z.take k) ++ x.data.toList ++ [10] ∧ n2 = 1 + 3 * k))
        case first =>
          by_cases hik : i = k
          · have hik' : ((i : Int) == (k : Int)) = true := by simp [hik]
            have HIK := Lib.hid hik
            clear hik
            have ha1 : ¬ 9223372036854775807 < T.size + x.size := by have := HTL.out; have := HX.out; have := HLA.out; omega
            have ha2 : ¬ 9223372036854775807 < T.size + x.size + 1 := by have := HTL.out; have := HX.out; have := HLA.out; omega
            go_upto_region 18 with fail
            obtain ⟨wo, rfl⟩ : ∃ wo : World, wo = wr := ⟨_, rfl⟩
            go_loopw [11, 13] (fun s11 s13 wr => ∃ j : Nat, s13 = .int .i64 (j : Int) ∧ j ≤ T.size ∧ s11 = .int .i64 ((1 + (T.data.toList.take j).count 10 : Nat) : Int) ∧ wr = wo) (fun _ s13 _ => T.size - (intOf s13).toNat)
            case atStart => exact ⟨0, rfl, Nat.zero_le _, rfl, rfl⟩
            case round =>
              obtain ⟨j, rfl, hj, rfl, rfl⟩ := hrel
              have HWJ := Lib.hid (show wrap64 ((j : Int) + 1) = (j : Int) + 1 by have := HTL.out; have := HLA.out; unfold wrap64; omega)
              by_cases hjl : j < T.size
              · have hjlt : (j : Int) < (T.size : Int) := by omega
                have hget := bs_list hjl
                have ht1 : T.data.toList.take (j + 1) = T.data.toList.take j ++ [T[j]'hjl] := by rw [List.take_add_one, hget]; rfl
                obtain ⟨cn, hcn⟩ : ∃ cn, cn = (T.data.toList.take j).count 10 := ⟨_, rfl⟩
                have hcle : cn ≤ j := by rw [hcn]; exact Nat.le_trans List.count_le_length (List.length_take_le _ _)
                rw [← hcn]
                have HWN := Lib.hid (show wrap64 (1 + (cn : Int) + 1) = ((1 + (cn + 1) : Nat) : Int) by have := HTL.out; have := HLA.out; unfold wrap64; omega)
                by_cases hc : (T[j]'hjl) = 10
                · have hcv : (((T[j]'hjl).toNat : Int) == 10) = true := by rw [hc]; rfl
                  have HC := Lib.hid (show (T.data.toList.take (j + 1)).count 10 = cn + 1 by rw [ht1, List.count_append, ← hcn, hc]; rfl)
                  clear hget hc ht1 hcn hcle
                  go_wp2
                  go_roundw
                  case rel => exact ⟨j + 1, rfl, by omega, by rw [HC.out]; (first | rfl | (show Value.int .i64 (wrap64 _) = _; rw [HWN.out])), by trivial⟩
                  case measure => simp only [intOf]; omega
                · have hcv : (((T[j]'hjl).toNat : Int) == 10) = false := by have := byte_ne (d := 10) hc; simpa [bne] using this
                  have HC := Lib.hid (show (T.data.toList.take (j + 1)).count 10 = cn by rw [ht1, List.count_append, ← hcn, List.count_eq_zero.2 (show (10 : UInt8) ∉ [T[j]'hjl] by simpa using fun e => hc e.symm)]; rfl)
                  clear hget hc ht1 hcn hcle
                  go_wp2
                  go_roundw
                  case rel => exact ⟨j + 1, rfl, by omega, by rw [HC.out], by trivial⟩
                  case measure => simp only [intOf]; omega
              · have hjlt : ¬ (j : Int) < (T.size : Int) := by omega
                have HC := Lib.hid (show (T.data.toList.take j).count 10 = 3 * k by
                  have h3 : T.data.toList.length = T.size := Array.length_toList
                  have h6 := HLA.out
                  have h7 := HIK.out
                  rw [List.take_of_length_le (by omega), HI.out.txt, cnt_gap HNO.out HI.out.all, List.length_take]
                  omega)
                go_wp2
                go_meet
                exact ⟨rfl, _, _, rfl, rfl, fun _ => ⟨by rw [app_list, app_list, HI.out.txt, HIK.out], by rw [HC.out]⟩⟩
          · have hik' : ((i : Int) == (k : Int)) = false := by simp; omega
            have HIK := Lib.hid hik
            clear hik
            go_wp2
            go_meet
            exact ⟨rfl, B, n, rfl, rfl, fun h => HI.out.brk (by have := HIK.out; omega)⟩
        case rest =>
          obtain ⟨rfl, B2, n2, rfl, rfl, hb2⟩ := hcut
          have HB2 := Lib.hid hb2
          clear hb2
          by_cases hil : i = la
          · have hil' : ((i : Int) == (la : Int)) = true := by simp [hil]
            have e1 : z.take i = z := List.take_of_length_le (by have := HLA.out; omega)
            have HT := Lib.hid (show T.data.toList = gapL x.data.toList z by rw [HI.out.txt, e1])
            have HA := Lib.hid (show AllS z by have := HI.out.all; rwa [e1] at this)
            have HB := Lib.hid (HB2.out (by have := HK.out; omega))
            have h13 : ¬ 9223372036854775807 < B2.size + 13 := by
              have h3 : B2.data.toList.length = B2.size := Array.length_toList
              have h4 := gap_len (b := x.data.toList) (z := z.take k) (by have : x.data.toList.length = x.size := Array.length_toList; have := HX.out; omega) (fun s hs => HS.out.ok s (List.mem_of_mem_take hs)) (fun s hs => HS.out.txt s (List.mem_of_mem_take hs))
              rw [HB.out.1, List.length_append, List.length_append, List.length_singleton] at h3
              have h5 : (z.take k).length * 2000 ≤ la * 2000 := Nat.mul_le_mul_right _ (by rw [List.length_take]; have := HLA.out; omega)
              have h6 := HLA.out
              have h7 : x.data.toList.length = x.size := Array.length_toList
              have h8 := HX.out
              omega
            have HB3 := Lib.hid (show B2.size ≤ 300000 by
              have h3 : B2.data.toList.length = B2.size := Array.length_toList
              have h4 := gap_len (b := x.data.toList) (z := z.take k) (by have : x.data.toList.length = x.size := Array.length_toList; have := HX.out; omega) (fun s hs => HS.out.ok s (List.mem_of_mem_take hs)) (fun s hs => HS.out.txt s (List.mem_of_mem_take hs))
              rw [HB.out.1, List.length_append, List.length_append, List.length_singleton] at h3
              have h5 : (z.take k).length * 2000 ≤ la * 2000 := Nat.mul_le_mul_right _ (by rw [List.length_take]; have := HLA.out; omega)
              have h6 := HLA.out
              have h7 : x.data.toList.length = x.size := Array.length_toList
              have h8 := HX.out
              omega)
            have HKL := Lib.hid (show (z.take k).length = k by rw [List.length_take]; have := HLA.out; have := HK.out; omega)
            have HP1 := Lib.hid (Parse_any T (by have := HTL.out; have := HLA.out; omega) wc (HPV.out.on HBW.out).here)
            rw [prs_text HNO.out HA.out HS.out.ok (by have := HLA.out; omega) T HT.out] at HP1
            clear hil e1 HTL HB2 hi hle
            go_upto_region 28 with (go_at_call 11; refine HP1.out.mono ?_; rintro e v1 q1; obtain ⟨hc1, A1, c1, rfl, g1⟩ := q1.to rfl; have H1 := Lib.hid (And.intro (HBW.out.trans (hc1.mono HBW.out.size)) g1); clear hc1 q1 g1)
            clear HP1
            obtain ⟨Z2, n3, hp2⟩ := prs_alone HNO.out
            have HP2 := Lib.hid (Parse_any x (by have := HX.out; omega) v1 (HPV.out.on H1.out.1).here)
            rw [hp2] at HP2
            clear hp2
            have hp3 := prs_broken HNO.out (z := z.take k) (fun s hs => HA.out s (List.mem_of_mem_take hs)) (fun s hs => HS.out.ok s (List.mem_of_mem_take hs)) (by have := HKL.out; have := HK.out; have := HLA.out; omega) (B2 ++ ⟨#[110, 111, 32, 115, 117, 99, 104, 32, 108, 105, 110, 101, 10]⟩) (by rw [app_list, HB.out.1]; rfl)
            rw [HKL.out] at hp3
            cases hw : wrongL x.data.toList with
            | true =>
              rw [hw] at HP2 hp3
              simp only [if_true] at HP2 hp3
              rw [← HB.out.2] at hp3
              clear hw
              have HP3 := Lib.hid hp3
              clear hp3
              go_upto_region 29 with (go_at_call 11; refine HP2.out.mono ?_; rintro e v2 q2; obtain ⟨hc2, A2, c2, rfl, g2⟩ := q2.to rfl; have H2 := Lib.hid (And.intro (H1.out.1.trans (hc2.mono H1.out.1.size)) (And.intro (H1.out.2.below hc2) ((Hz.out.below H1.out.1).below hc2))); clear hc2 q2 g2)
              clear HP2
              have HP4 := Lib.hid (Parse_any (B2 ++ ⟨#[110, 111, 32, 115, 117, 99, 104, 32, 108, 105, 110, 101, 10]⟩) (by have h3 := HB3.out; rw [ByteArray.size_append]; show B2.size + 13 ≤ _; omega) v2 (HPV.out.on H2.out.1).here)
              rw [HP3.out] at HP4
              go_upto_region 30 with (go_at_call 11; refine HP4.out.mono ?_; rintro e v3 q3; obtain ⟨hc3, A3, c3, rfl, g3⟩ := q3.to rfl; have H3 := Lib.hid (And.intro (H2.out.1.trans (hc3.mono H2.out.1.size)) (And.intro (H2.out.2.1.below hc3) (H2.out.2.2.below hc3))); clear hc3 q3 g3)
              clear HP4 h13
              have HSM := Lib.hid (same_tt (c := c1) (d := ca) H3.out.2.1 H3.out.2.2)
              go_wp2_with (first
                | (go_at_call 13; refine HSM.out.mono ?_; rintro e v4 ⟨rfl, hc4⟩; have H4 := Lib.hid (H3.out.1.trans (hc4.mono H3.out.1.size)); have HWK := Lib.hid (wakes_any v4 (HPV.out.on (H3.out.1.trans (hc4.mono H3.out.1.size))).here); clear hc4)
                | (go_at_call 8; refine HWK.out.mono ?_; rintro e v5 ⟨rfl, hc5⟩; have H5 := Lib.hid (H4.out.trans (hc5.mono H4.out.size)); clear hc5))
              go_ret
              exact .of H5.out rfl
            | false =>
              rw [hw] at HP2 hp3
              simp only [Bool.false_eq_true, if_false] at HP2 hp3
              generalize 2 + 3 * k = m at hp3
              clear hw
              have HP3 := Lib.hid hp3
              clear hp3
              go_upto_region 29 with (go_at_call 11; refine HP2.out.mono ?_; rintro e v2 q2; obtain ⟨hc2, A2, c2, rfl, g2⟩ := q2.to rfl; have H2 := Lib.hid (And.intro (H1.out.1.trans (hc2.mono H1.out.1.size)) (And.intro (H1.out.2.below hc2) ((Hz.out.below H1.out.1).below hc2))); clear hc2 q2 g2)
              clear HP2
              have HP4 := Lib.hid (Parse_any (B2 ++ ⟨#[110, 111, 32, 115, 117, 99, 104, 32, 108, 105, 110, 101, 10]⟩) (by have h3 := HB3.out; rw [ByteArray.size_append]; show B2.size + 13 ≤ _; omega) v2 (HPV.out.on H2.out.1).here)
              rw [HP3.out] at HP4
              go_upto_region 30 with (go_at_call 11; refine HP4.out.mono ?_; rintro e v3 q3; obtain ⟨hc3, A3, c3, rfl, g3⟩ := q3.to rfl; have H3 := Lib.hid (And.intro (H2.out.1.trans (hc3.mono H2.out.1.size)) (And.intro (H2.out.2.1.below hc3) (H2.out.2.2.below hc3))); clear hc3 q3 g3)
              clear HP4 h13
              have HSM := Lib.hid (same_tt (c := c1) (d := ca) H3.out.2.1 H3.out.2.2)
              go_wp2_with (first
                | (go_at_call 13; refine HSM.out.mono ?_; rintro e v4 ⟨rfl, hc4⟩; have H4 := Lib.hid (H3.out.1.trans (hc4.mono H3.out.1.size)); have HWK := Lib.hid (wakes_any v4 (HPV.out.on (H3.out.1.trans (hc4.mono H3.out.1.size))).here); clear hc4)
                | (go_at_call 8; refine HWK.out.mono ?_; rintro e v5 ⟨rfl, hc5⟩; have H5 := Lib.hid (H4.out.trans (hc5.mono H4.out.size)); clear hc5))
              go_ret
              exact .of H5.out rfl
          · have hil' : ((i : Int) == (la : Int)) = false := by simp; omega
            obtain ⟨s, hs⟩ : ∃ s, z[i]? = some s := ⟨_, List.getElem?_eq_getElem (show i < z.length by have := HLA.out; omega)⟩
            obtain ⟨b1, o1, rfl, hb1, _⟩ := sl_row Hz.out hs
            have HSI := Lib.hid hs
            have hmem := List.mem_of_getElem? hs
            have HSO := Lib.hid (sl_one (Hz.out.below HBW.out) hs)
            have HWI := Lib.hid (show wrap64 ((i : Int) + 1) = (i : Int) + 1 by have := HLA.out; unfold wrap64; omega)
            have hcut1 : i + 1 ≤ ca := by have := Hca.out; omega
            have hcut2 : i ≤ i + 1 := by omega
            have HWR := Lib.hid (Write_all (some ⟨b1, o1 + i * 11, none⟩) 1 (ca - i) [s] (by decide) (fun t ht => by rw [List.mem_singleton.1 ht]; exact HS.out.ok s hmem) (fun t ht => by rw [List.mem_singleton.1 ht]; exact HS.out.mid s hmem) wc HSO.out (HPV.out.on HBW.out).here)
            have HIL := Lib.hid hil
            clear hs hb1 hil
            cases hl : sayL s with
            | none =>
              rw [one_no hl] at HWR
              clear hl
              go_upto_region 24 with (go_at_call 9; refine HWR.out.mono ?_; rintro e v1 q1; obtain ⟨hc1, rfl⟩ := q1.to rfl; have H1 := Lib.hid (HBW.out.trans (hc1.mono HBW.out.size)); have HWK := Lib.hid (wakes_any v1 (HPV.out.on (HBW.out.trans (hc1.mono HBW.out.size))).here); clear hc1 q1)
              go_wp2_with (go_at_call 8; refine HWK.out.mono ?_; rintro e v5 ⟨rfl, hc5⟩; have H5 := Lib.hid (H1.out.trans (hc5.mono H1.out.size)); clear hc5)
              go_ret
              exact .of H5.out rfl
            | some l =>
              have HLL := Lib.hid (line_100 (HS.out.ok s hmem) (HS.out.txt s hmem) hl)
              have HL := Lib.hid hl
              rw [one_out hl] at HWR
              clear hl
              go_upto_region 24 with (go_at_call 9; refine HWR.out.mono ?_; rintro e v1 q1; obtain ⟨hc1, rfl⟩ := q1.to rfl; have H1 := Lib.hid (HBW.out.trans (hc1.mono HBW.out.size)); clear hc1 q1)
              have hsz : (⟨(l ++ [10]).toArray⟩ : ByteArray).size = l.length + 1 := by simp [ByteArray.size]
              have ha1 : ¬ 9223372036854775807 < T.size + (l.length + 1) := by have := HTL.out; have := HLL.out; have := HLA.out; omega
              have ha2 : ¬ 9223372036854775807 < T.size + (l.length + 1) + 3 := by have := HTL.out; have := HLL.out; have := HLA.out; omega
              have ha3 : ¬ 9223372036854775807 < T.size + (l.length + 1) + 3 + x.size := by have := HTL.out; have := HLL.out; have := HLA.out; have := HX.out; omega
              have ha4 : ¬ 9223372036854775807 < T.size + (l.length + 1) + 3 + x.size + 1 := by have := HTL.out; have := HLL.out; have := HLA.out; have := HX.out; omega
              go_wp2
              go_roundw
              case rel => exact ⟨i + 1, n2, _, B2, rfl, rfl, rfl, by (first | rfl | (show Value.int .i64 (wrap64 ((i : Int) + 1)) = _; rw [HWI.out]; rfl)), by have := HIL.out; omega, HI.out.step HSI.out HL.out HB2.out (by simp only [app_list]; simp), H1.out⟩
              case measure => (first | (simp only [intOf]; have := HIL.out; omega) | (show la - (intOf (.int .i64 (wrap64 ((i : Int) + 1)))).toNat < _; rw [HWI.out]; simp only [intOf]; have := HIL.out; omega))
theorem lines_row (a : Option Addr) (len cap : Nat) (z : List StpV) (x : ByteArray) (n : Int) {w : World} (h : StpsIn w a len cap z) (_hx : x.size ≤ maxLen) (hn : Lit.wf (.int .u8 n) = true) (hv : PV w) :
    Calls Tryd.prog 6 #[.slice a len cap, .string x, .int .u8 n] w fun e w' => e = .returned (.bool true) ∧ Below w.heap.size w w' := by
  obtain ⟨m, hm, rfl⟩ := wf_u8 hn
  exact lines_law a len cap z x m hm h.ok h.cap w h.at_ hv
end Go.Proofs.YtjjlodeiejobdaaDoor
