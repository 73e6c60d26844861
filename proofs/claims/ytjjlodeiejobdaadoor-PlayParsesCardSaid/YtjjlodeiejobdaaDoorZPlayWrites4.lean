/- Play: strconv.ParseUint at base 16 and 8 bits, of a text of two bytes. Condition: the library's variables hold what the program's text lays. -/
import Derived.Test.YtjjlodeiejobdaaDoorZPlayWrites3
import Derived.BigGuard
import Derived.Test.YtjjlodeiejobdaaDoorZPlayWrites1
import Derived.Test.YtjjlodeiejobdaaDoorZPlayWrites2
import Derived.Test.YtjjlodeiejobdaaDoorZPlayWrites0
namespace Go.Proofs.YtjjlodeiejobdaaDoor
open Go.RowKit Go.Shelf
/-- 'c | 32'. -/
def lowN (c : Nat) : Nat := c ||| 32
theorem lower_any (c : Nat) (hc : c < 256) (w : World) : Calls Tryd.prog 72 #[.int .u8 (c : Int)] w fun e w' => e = .returned (.int .u8 (lowN c : Int)) ∧ w' = w := by
  have h := u8_or_nat c 32 hc (by decide)
  go_enter Tryd.func72, Tryd.ntmps72
  go_wp2
  go_ret
  refine ⟨?_, rfl⟩
  first | rfl | (rw [h]; rfl) | (simp only [lowN]; exact congrArg _ (congrArg _ h))
/-- What a byte is to ParseUint at base 16. -/
inductive HexC (c : Nat) : Option Nat → Prop
  | dig (d : Nat) (h0 : 48 ≤ c) (h1 : c ≤ 57) (h2 : d = c - 48) : HexC c (some d)
  | lo (d : Nat) (h0 : ¬ (48 ≤ c ∧ c ≤ 57)) (h1 : 97 ≤ lowN c) (h2 : lowN c ≤ 122) (h3 : d = lowN c - 97 + 10) (h4 : d < 16) (h5 : c ≠ 95) : HexC c (some d)
  | far (d : Nat) (h0 : ¬ (48 ≤ c ∧ c ≤ 57)) (h1 : 97 ≤ lowN c) (h2 : lowN c ≤ 122) (h3 : d = lowN c - 97 + 10) (h4 : 16 ≤ d) (h5 : c ≠ 95) : HexC c none
  | none (h0 : ¬ (48 ≤ c ∧ c ≤ 57)) (h1 : ¬ (97 ≤ lowN c ∧ lowN c ≤ 122)) : HexC c none
theorem hexC_fin : ∀ c : Fin 256, if 48 ≤ c.val ∧ c.val ≤ 57 then hexV (UInt8.ofNat c.val) = some (c.val - 48) else if 97 ≤ lowN c.val ∧ lowN c.val ≤ 122 then c.val ≠ 95 ∧ lowN c.val < 128 ∧ (if lowN c.val - 97 + 10 < 16 then hexV (UInt8.ofNat c.val) = some (lowN c.val - 97 + 10) else hexV (UInt8.ofNat c.val) = none) else hexV (UInt8.ofNat c.val) = none := by decide +kernel
theorem hexC (b : UInt8) : HexC b.toNat (hexV b) := by
  have h := hexC_fin ⟨b.toNat, b.toNat_lt⟩
  simp only [UInt8.ofNat_toNat] at h
  by_cases h1 : 48 ≤ b.toNat ∧ b.toNat ≤ 57
  · rw [if_pos h1] at h
    rw [h]
    exact .dig _ h1.1 h1.2 rfl
  · rw [if_neg h1] at h
    by_cases h2 : 97 ≤ lowN b.toNat ∧ lowN b.toNat ≤ 122
    · rw [if_pos h2] at h
      obtain ⟨h3, _, h4⟩ := h
      by_cases h5 : lowN b.toNat - 97 + 10 < 16
      · rw [if_pos h5] at h4
        rw [h4]
        exact .lo _ h1 h2.1 h2.2 rfl h5 h3
      · rw [if_neg h5] at h4
        rw [h4]
        exact .far _ h1 h2.1 h2.2 rfl (by omega) h3
    · rw [if_neg h2] at h
      rw [h]
      exact .none h1 h2
/-- What the first bytes spell. -/
def hexAcc : Bs → Option Nat
  | [] => some 0
  | [a] => hexV a
  | a :: b :: _ => match hexV a, hexV b with
    | some x, some y => some (16 * x + y)
    | _, _ => none
/-- What ParseUint tells of two bytes. -/
def IP16 (a b : UInt8) (w : World) (e : Ending) (w' : World) : Prop := Below w.heap.size w w' ∧ match hexAcc [a, b] with
  | some n => e = .returned (.tuple #[.int .u64 (n : Int), .nilIface])
  | none => e = .returned (.tuple #[.int .u64 0, .iface 106 (.int .i64 2)])
theorem IP16.ok {a b : UInt8} {w w' : World} {n : Nat} (hb : Below w.heap.size w w') (h : hexAcc [a, b] = some n) : IP16 a b w (.returned (.tuple #[.int .u64 (n : Int), .nilIface])) w' := by
  unfold IP16
  rw [h]
  exact ⟨hb, rfl⟩
theorem IP16.bad {a b : UInt8} {w w' : World} (hb : Below w.heap.size w w') (h : hexAcc [a, b] = none) : IP16 a b w (.returned (.tuple #[.int .u64 0, .iface 106 (.int .i64 2)])) w' := by
  unfold IP16
  rw [h]
  exact ⟨hb, rfl⟩
set_option maxHeartbeats 6400000 in
set_option maxRecDepth 100000 in
theorem ip16_any (a b : UInt8) (w : World) :
    Calls Tryd.prog 61 #[.string ⟨#[a, b]⟩, .int .i64 16, .int .i64 8] w (IP16 a b w) := by
  have hcv := Lib.run_convert_string_bytes (P := Tryd.prog) w 9 41 5 ⟨#[a, b]⟩ Tryd.underlying9 Tryd.underlying41 Tryd.underlying5
  rw [show (⟨#[a, b]⟩ : ByteArray).size = 2 from rfl] at hcv
  have Hlw := Lib.hid (fun (c : Nat) (hc : c < 256) (y : World) => lower_any c hc y)
  go_enter Tryd.func61, Tryd.ntmps61
  go_upto_region 36 with fail
  have hb1 := Lib.bytesWorld_below w 5 ⟨#[a, b]⟩
  have hc0 := Lib.bytesWorld_cell w 5 ⟨#[a, b]⟩ 0 (show 0 < 2 by decide)
  have hc1 := Lib.bytesWorld_cell w 5 ⟨#[a, b]⟩ 1 (show 1 < 2 by decide)
  have HW := Lib.hid (And.intro hc0 hc1)
  have HB := Lib.hid hb1
  clear hb1 hc0 hc1 hcv
  generalize Lib.bytesWorld w 5 ⟨#[a, b]⟩ = w1 at *
  generalize w.heap.size = g at HW ⊢
  go_loopw [12, 13, 101] (fun s12 s13 s101 wr => ∃ i n : Nat, s12 = .bool false ∧ s101 = .int .i64 (i : Int) ∧ s13 = .int .u64 (n : Int) ∧ i ≤ 2 ∧ n < 256 ∧ hexAcc ([a, b].take i) = some n ∧ wr = w1) (fun _ _ s101 _ => 2 - (intOf s101).toNat)
  case atStart => exact ⟨0, 0, rfl, rfl, rfl, by decide, by decide, rfl, rfl⟩
  case round =>
    obtain ⟨i, n, rfl, rfl, rfl, hi, hn, hA, rfl⟩ := hrel
    by_cases hi2 : i = 2
    · subst hi2
      have HA := Lib.hid hA
      clear hA
      go_wp2
      go_ret2
      exact .ok HB.out HA.out
    · have hlt : (i : Int) < 2 := by omega
      obtain ⟨c, hc, hget⟩ : ∃ c : UInt8, wr.cell? ⟨g, i, none⟩ = some (.int .u8 (c.toNat : Int)) ∧ ([a, b] : Bs)[i]? = some c := by
        rcases (show i = 0 ∨ i = 1 by omega) with rfl | rfl
        · exact ⟨a, HW.out.1, rfl⟩
        · exact ⟨b, HW.out.2, rfl⟩
      have hx := hexC c
      have hcl := c.toNat_lt
      obtain ⟨cn, hcn⟩ : ∃ n, n = c.toNat := ⟨_, rfl⟩
      rw [← hcn] at hx hcl hc
      obtain ⟨hv, hhv⟩ : ∃ v, v = hexV c := ⟨_, rfl⟩
      rw [← hhv] at hx
      have hn1 : i = 0 ∧ n = 0 ∨ i = 1 ∧ n < 16 := by
        rcases (show i = 0 ∨ i = 1 by omega) with rfl | rfl
        · exact .inl ⟨rfl, by simp [hexAcc] at hA; omega⟩
        · right
          simp [hexAcc] at hA
          refine ⟨rfl, ?_⟩
          have := hexC a
          rw [hA] at this
          cases this <;> omega
      have hstep : ∀ d, hv = some d → hexAcc ([a, b].take (i + 1)) = some (n * 16 + d) := by
        intro d hd
        rw [hhv] at hd
        rcases hn1 with ⟨rfl, rfl⟩ | ⟨rfl, _⟩
        · simp at hget; subst hget; simp [hexAcc, hd]
        · simp at hget hA; subst hget; simp [hexAcc] at hA ⊢; simp [hA, hd, Nat.mul_comm]
      have hstop : hv = none → hexAcc [a, b] = none := by
        intro hd
        rw [hhv] at hd
        rcases hn1 with ⟨rfl, rfl⟩ | ⟨rfl, _⟩
        · simp at hget; subst hget; simp [hexAcc, hd]
        · simp at hget; subst hget; simp [hexAcc, hd]
      have HF := Lib.hid (And.intro hstep (And.intro hstop hn1))
      clear hstep hstop hn1 hget hhv hA hcn
      have Hlc := Lib.hid (Hlw.out cn hcl)
      cases hx with
      | dig d h0 h1 h2 =>
        have e1 : ((cn : Int) == 95) = false := by rw [beq_eq_false_iff_ne]; omega
        have e2 : ((48 : Int) ≤ (cn : Int)) = True := by simp; omega
        have e3 : ((cn : Int) ≤ 57) = True := by simp; omega
        have e4 : IntKind.u8.wrap ((cn : Int) - 48) = (d : Int) := by rw [IntKind.wrap_u8']; omega
        have hd16 : d < 16 := by omega
        have hs := HF.out.1 d rfl
        have hn16 : n < 16 := by rcases HF.out.2.2 with h | h <;> omega
        clear h0 h1 h2
        have e5 : ((16 : Int) ≤ (d : Int)) = False := by simp; omega
        have e6 : ((1152921504606846976 : Int) ≤ (n : Int)) = False := by simp; omega
        obtain ⟨k, hk⟩ : ∃ k, k = n * 16 := ⟨_, rfl⟩
        obtain ⟨m, hm⟩ : ∃ m, m = k + d := ⟨_, rfl⟩
        have e7 : IntKind.u64.wrap ((n : Int) * 16) = (k : Int) := by rw [IntKind.wrap_u64]; omega
        have e8 : IntKind.u64.wrap ((k : Int) + (d : Int)) = (m : Int) := by rw [IntKind.wrap_u64]; omega
        have e14 : IntKind.u64.wrap (d : Int) = (d : Int) := by rw [IntKind.wrap_u64]; omega
        have e9 : ((m : Int) < (k : Int)) = False := by simp; omega
        have e10 : ((255 : Int) < (m : Int)) = False := by simp; omega
        have e11 : IntKind.i64.wrap ((i : Int) + 1) = ((i + 1 : Nat) : Int) := by rw [IntKind.wrap_i64]; omega
        have HM := Lib.hid (show hexAcc ([a, b].take (i + 1)) = some m ∧ m < 256 from ⟨by rw [hs, hm, hk], by omega⟩)
        clear hs hn16 hd16 hk hm
        go_wp2
        exact ⟨⟨i + 1, m, rfl, rfl, rfl, by omega, HM.out.2, HM.out.1, trivial⟩, by simp only [intOf]; omega⟩
      | lo d h0 h1 h2 h3 h4 h5 =>
        rcases (show cn < 48 ∨ (48 ≤ cn ∧ 57 < cn) by omega) with q | q
        · have e2 : ((48 : Int) ≤ (cn : Int)) = False := by simp; omega
          have e1 : ((cn : Int) == 95) = false := by rw [beq_eq_false_iff_ne]; omega
          have e3 : ((97 : Int) ≤ (lowN cn : Int)) = True := by simp; omega
          have e4 : ((lowN cn : Int) ≤ 122) = True := by simp; omega
          obtain ⟨l9, hl9⟩ : ∃ l, l = lowN cn - 97 := ⟨_, rfl⟩
          have e12 : IntKind.u8.wrap ((lowN cn : Int) - 97) = (l9 : Int) := by rw [IntKind.wrap_u8']; omega
          have e13 : IntKind.u8.wrap ((l9 : Int) + 10) = (d : Int) := by rw [IntKind.wrap_u8']; omega
          have hs := HF.out.1 d rfl
          have hn16 : n < 16 := by rcases HF.out.2.2 with h | h <;> omega
          have hd16 := h4
          clear h0 h1 h2 h3 h4 h5 q hl9
          generalize lowN cn = lc at *
          have e5 : ((16 : Int) ≤ (d : Int)) = False := by simp; omega
          have e6 : ((1152921504606846976 : Int) ≤ (n : Int)) = False := by simp; omega
          obtain ⟨k, hk⟩ : ∃ k, k = n * 16 := ⟨_, rfl⟩
          obtain ⟨m, hm⟩ : ∃ m, m = k + d := ⟨_, rfl⟩
          have e7 : IntKind.u64.wrap ((n : Int) * 16) = (k : Int) := by rw [IntKind.wrap_u64]; omega
          have e8 : IntKind.u64.wrap ((k : Int) + (d : Int)) = (m : Int) := by rw [IntKind.wrap_u64]; omega
          have e14 : IntKind.u64.wrap (d : Int) = (d : Int) := by rw [IntKind.wrap_u64]; omega
          have e9 : ((m : Int) < (k : Int)) = False := by simp; omega
          have e10 : ((255 : Int) < (m : Int)) = False := by simp; omega
          have e11 : IntKind.i64.wrap ((i : Int) + 1) = ((i + 1 : Nat) : Int) := by rw [IntKind.wrap_i64]; omega
          have HM := Lib.hid (show hexAcc ([a, b].take (i + 1)) = some m ∧ m < 256 from ⟨by rw [hs, hm, hk], by omega⟩)
          clear hs hn16 hd16 hk hm
          go_wp2_with ((with_reducible refine (Hlc.out _).mono ?_); rintro e w' ⟨rfl, rfl⟩)
          exact ⟨⟨i + 1, m, rfl, rfl, rfl, by omega, HM.out.2, HM.out.1, trivial⟩, by simp only [intOf]; omega⟩
        · have e2 : ((48 : Int) ≤ (cn : Int)) = True := by simp; omega
          have e15 : ((cn : Int) ≤ 57) = False := by simp; omega
          have e1 : ((cn : Int) == 95) = false := by rw [beq_eq_false_iff_ne]; omega
          have e3 : ((97 : Int) ≤ (lowN cn : Int)) = True := by simp; omega
          have e4 : ((lowN cn : Int) ≤ 122) = True := by simp; omega
          obtain ⟨l9, hl9⟩ : ∃ l, l = lowN cn - 97 := ⟨_, rfl⟩
          have e12 : IntKind.u8.wrap ((lowN cn : Int) - 97) = (l9 : Int) := by rw [IntKind.wrap_u8']; omega
          have e13 : IntKind.u8.wrap ((l9 : Int) + 10) = (d : Int) := by rw [IntKind.wrap_u8']; omega
          have hs := HF.out.1 d rfl
          have hn16 : n < 16 := by rcases HF.out.2.2 with h | h <;> omega
          have hd16 := h4
          clear h0 h1 h2 h3 h4 h5 q hl9
          generalize lowN cn = lc at *
          have e5 : ((16 : Int) ≤ (d : Int)) = False := by simp; omega
          have e6 : ((1152921504606846976 : Int) ≤ (n : Int)) = False := by simp; omega
          obtain ⟨k, hk⟩ : ∃ k, k = n * 16 := ⟨_, rfl⟩
          obtain ⟨m, hm⟩ : ∃ m, m = k + d := ⟨_, rfl⟩
          have e7 : IntKind.u64.wrap ((n : Int) * 16) = (k : Int) := by rw [IntKind.wrap_u64]; omega
          have e8 : IntKind.u64.wrap ((k : Int) + (d : Int)) = (m : Int) := by rw [IntKind.wrap_u64]; omega
          have e14 : IntKind.u64.wrap (d : Int) = (d : Int) := by rw [IntKind.wrap_u64]; omega
          have e9 : ((m : Int) < (k : Int)) = False := by simp; omega
          have e10 : ((255 : Int) < (m : Int)) = False := by simp; omega
          have e11 : IntKind.i64.wrap ((i : Int) + 1) = ((i + 1 : Nat) : Int) := by rw [IntKind.wrap_i64]; omega
          have HM := Lib.hid (show hexAcc ([a, b].take (i + 1)) = some m ∧ m < 256 from ⟨by rw [hs, hm, hk], by omega⟩)
          clear hs hn16 hd16 hk hm
          go_wp2_with ((with_reducible refine (Hlc.out _).mono ?_); rintro e w' ⟨rfl, rfl⟩)
          exact ⟨⟨i + 1, m, rfl, rfl, rfl, by omega, HM.out.2, HM.out.1, trivial⟩, by simp only [intOf]; omega⟩
      | far d h0 h1 h2 h3 h4 h5 =>
        rcases (show cn < 48 ∨ (48 ≤ cn ∧ 57 < cn) by omega) with q | q
        · have e2 : ((48 : Int) ≤ (cn : Int)) = False := by simp; omega
          have e1 : ((cn : Int) == 95) = false := by rw [beq_eq_false_iff_ne]; omega
          have e3 : ((97 : Int) ≤ (lowN cn : Int)) = True := by simp; omega
          have e4 : ((lowN cn : Int) ≤ 122) = True := by simp; omega
          obtain ⟨l9, hl9⟩ : ∃ l, l = lowN cn - 97 := ⟨_, rfl⟩
          have e12 : IntKind.u8.wrap ((lowN cn : Int) - 97) = (l9 : Int) := by rw [IntKind.wrap_u8']; omega
          have e13 : IntKind.u8.wrap ((l9 : Int) + 10) = (d : Int) := by rw [IntKind.wrap_u8']; omega
          have hs := HF.out.2.1 rfl
          have HS := Lib.hid hs
          have e5 : ((16 : Int) ≤ (d : Int)) = True := by simp; omega
          clear h0 h1 h2 h3 h4 h5 q hl9 hs
          generalize lowN cn = lc at *
          go_wp2_with ((with_reducible refine (Hlc.out _).mono ?_); rintro e w' ⟨rfl, rfl⟩)
          go_ret2
          exact .bad HB.out HS.out
        · have e2 : ((48 : Int) ≤ (cn : Int)) = True := by simp; omega
          have e15 : ((cn : Int) ≤ 57) = False := by simp; omega
          have e1 : ((cn : Int) == 95) = false := by rw [beq_eq_false_iff_ne]; omega
          have e3 : ((97 : Int) ≤ (lowN cn : Int)) = True := by simp; omega
          have e4 : ((lowN cn : Int) ≤ 122) = True := by simp; omega
          obtain ⟨l9, hl9⟩ : ∃ l, l = lowN cn - 97 := ⟨_, rfl⟩
          have e12 : IntKind.u8.wrap ((lowN cn : Int) - 97) = (l9 : Int) := by rw [IntKind.wrap_u8']; omega
          have e13 : IntKind.u8.wrap ((l9 : Int) + 10) = (d : Int) := by rw [IntKind.wrap_u8']; omega
          have hs := HF.out.2.1 rfl
          have HS := Lib.hid hs
          have e5 : ((16 : Int) ≤ (d : Int)) = True := by simp; omega
          clear h0 h1 h2 h3 h4 h5 q hl9 hs
          generalize lowN cn = lc at *
          go_wp2_with ((with_reducible refine (Hlc.out _).mono ?_); rintro e w' ⟨rfl, rfl⟩)
          go_ret2
          exact .bad HB.out HS.out
      | none h0 h1 =>
        rcases (show cn < 48 ∨ (48 ≤ cn ∧ 57 < cn) by omega) with q | q
        · have e2 : ((48 : Int) ≤ (cn : Int)) = False := by simp; omega
          have hs := HF.out.2.1 rfl
          have HS := Lib.hid hs
          by_cases h95 : cn = 95
          · have e1 : ((cn : Int) == 95) = true := by simp; omega
            clear h95
            rcases (show lowN cn < 97 ∨ (97 ≤ lowN cn ∧ 122 < lowN cn) by omega) with r | r
            · have e3 : ((97 : Int) ≤ (lowN cn : Int)) = False := by simp; omega
              clear h0 h1 q r hs
              generalize lowN cn = lc at *
              go_wp2_with ((with_reducible refine (Hlc.out _).mono ?_); rintro e w' ⟨rfl, rfl⟩)
              go_ret2
              exact .bad HB.out HS.out
            · have e3 : ((97 : Int) ≤ (lowN cn : Int)) = True := by simp; omega
              have e4 : ((lowN cn : Int) ≤ 122) = False := by simp; omega
              clear h0 h1 q r hs
              generalize lowN cn = lc at *
              go_wp2_with ((with_reducible refine (Hlc.out _).mono ?_); rintro e w' ⟨rfl, rfl⟩)
              go_ret2
              exact .bad HB.out HS.out
          · have e1 : ((cn : Int) == 95) = false := by rw [beq_eq_false_iff_ne]; omega
            clear h95
            rcases (show lowN cn < 97 ∨ (97 ≤ lowN cn ∧ 122 < lowN cn) by omega) with r | r
            · have e3 : ((97 : Int) ≤ (lowN cn : Int)) = False := by simp; omega
              clear h0 h1 q r hs
              generalize lowN cn = lc at *
              go_wp2_with ((with_reducible refine (Hlc.out _).mono ?_); rintro e w' ⟨rfl, rfl⟩)
              go_ret2
              exact .bad HB.out HS.out
            · have e3 : ((97 : Int) ≤ (lowN cn : Int)) = True := by simp; omega
              have e4 : ((lowN cn : Int) ≤ 122) = False := by simp; omega
              clear h0 h1 q r hs
              generalize lowN cn = lc at *
              go_wp2_with ((with_reducible refine (Hlc.out _).mono ?_); rintro e w' ⟨rfl, rfl⟩)
              go_ret2
              exact .bad HB.out HS.out
        · have e2 : ((48 : Int) ≤ (cn : Int)) = True := by simp; omega
          have e15 : ((cn : Int) ≤ 57) = False := by simp; omega
          have hs := HF.out.2.1 rfl
          have HS := Lib.hid hs
          by_cases h95 : cn = 95
          · have e1 : ((cn : Int) == 95) = true := by simp; omega
            clear h95
            rcases (show lowN cn < 97 ∨ (97 ≤ lowN cn ∧ 122 < lowN cn) by omega) with r | r
            · have e3 : ((97 : Int) ≤ (lowN cn : Int)) = False := by simp; omega
              clear h0 h1 q r hs
              generalize lowN cn = lc at *
              go_wp2_with ((with_reducible refine (Hlc.out _).mono ?_); rintro e w' ⟨rfl, rfl⟩)
              go_ret2
              exact .bad HB.out HS.out
            · have e3 : ((97 : Int) ≤ (lowN cn : Int)) = True := by simp; omega
              have e4 : ((lowN cn : Int) ≤ 122) = False := by simp; omega
              clear h0 h1 q r hs
              generalize lowN cn = lc at *
              go_wp2_with ((with_reducible refine (Hlc.out _).mono ?_); rintro e w' ⟨rfl, rfl⟩)
              go_ret2
              exact .bad HB.out HS.out
          · have e1 : ((cn : Int) == 95) = false := by rw [beq_eq_false_iff_ne]; omega
            clear h95
            rcases (show lowN cn < 97 ∨ (97 ≤ lowN cn ∧ 122 < lowN cn) by omega) with r | r
            · have e3 : ((97 : Int) ≤ (lowN cn : Int)) = False := by simp; omega
              clear h0 h1 q r hs
              generalize lowN cn = lc at *
              go_wp2_with ((with_reducible refine (Hlc.out _).mono ?_); rintro e w' ⟨rfl, rfl⟩)
              go_ret2
              exact .bad HB.out HS.out
            · have e3 : ((97 : Int) ≤ (lowN cn : Int)) = True := by simp; omega
              have e4 : ((lowN cn : Int) ≤ 122) = False := by simp; omega
              clear h0 h1 q r hs
              generalize lowN cn = lc at *
              go_wp2_with ((with_reducible refine (Hlc.out _).mono ?_); rintro e w' ⟨rfl, rfl⟩)
              go_ret2
              exact .bad HB.out HS.out
end Go.Proofs.YtjjlodeiejobdaaDoor
namespace Go.Proofs.YtjjlodeiejobdaaDoor
open Go.RowKit Go.Shelf
theorem p16_any (a b : UInt8) (w : World) (hv : PV w) :
    Calls Tryd.prog 47 #[.string ⟨#[a, b]⟩, .int .i64 16, .int .i64 8] w (UintR (hexAcc [a, b]) w) := by
  have H := Lib.hid (ip16_any a b w)
  obtain ⟨tp, p, hv1⟩ := hv.syn
  have hvc : w.cell? ⟨nmRen.g 15, 0, none⟩ = some (.iface tp p) := by have h0 := World.var?_cell lay_pint.m15 hv1 0; simpa using h0
  have Hte := Lib.hid (fun (y : World) (hy : Below w.heap.size w y) => (show Calls Tryd.prog 62 #[.string ⟨#[80, 97, 114, 115, 101, 85, 105, 110, 116]⟩, .string ⟨#[a, b]⟩, .int .i64 16, .int .i64 8, .iface 106 (.int .i64 2)] y (fun e w' => ∃ N, e = .returned (.iface 108 (.pointer (some ⟨N, 0, none⟩))) ∧ y.heap.size ≤ N ∧ w'.heap[N]? = some (.cells #[.string ⟨#[80, 97, 114, 115, 101, 85, 105, 110, 116]⟩, .string ⟨#[a, b]⟩, .iface tp p] 118 (0, 0)) ∧ Below y.heap.size y w') from
    Any.strconv_toError_syntax lay_toerr ⟨#[80, 97, 114, 115, 101, 85, 105, 110, 116]⟩ ⟨#[a, b]⟩ 16 8 (.iface tp p) y (by show 2 ≤ _; decide) ((World.cell?_of_block (hy.block _ (cell_lt hvc))).trans hvc) (.inr ⟨tp, p, rfl⟩)))
  clear hvc hv1 hv
  go_enter Tryd.func47, Tryd.ntmps47
  cases hA : hexAcc [a, b] with
  | some n =>
    have HA := Lib.hid hA
    clear hA
    go_wp2_with (go_at_call 61; refine H.out.mono ?_; intro e w1 h; obtain ⟨hb, h2⟩ := h; rw [HA.out] at h2; subst h2; have HB := Lib.hid hb; clear hb)
    go_ret2
    exact ⟨HB.out, rfl⟩
  | none =>
    have HA := Lib.hid hA
    clear hA
    go_wp2_with (first
      | (go_at_call 61; refine H.out.mono ?_; intro e w1 h; obtain ⟨hb, h2⟩ := h; rw [HA.out] at h2; subst h2; have HB := Lib.hid hb; clear hb)
      | (go_at_call 62; refine (Hte.out _ HB.out).mono ?_; rintro e w2 ⟨N, rfl, -, -, hb2⟩; have HB2 := Lib.hid hb2; clear hb2))
    go_ret2
    exact ⟨HB.out.trans (HB2.out.mono HB.out.size), 0, _, _, by decide, rfl⟩
theorem bs_beq (a b : ByteArray) : (a.toList == b.toList) = decide (a.data.toList = b.data.toList) := by
  rw [Bool.eq_iff_iff, beq_iff_eq, decide_eq_true_iff, ByteArray.toList_eq, ByteArray.toList_eq]
/-- What a function that reads a form tells. -/
def SmallR (R : Option Nat) (w : World) (e : Ending) (w' : World) : Prop := Below w.heap.size w w' ∧ ∃ x : Nat, x < 256 ∧ e = .returned (.tuple #[.int .u8 (x : Int), .bool R.isSome]) ∧ ∀ v, R = some v → x = v
def NumR (R : Option Int) (w : World) (e : Ending) (w' : World) : Prop := Below w.heap.size w w' ∧ ∃ x : Int, (-9223372036854775808 ≤ x ∧ x ≤ 9223372036854775807) ∧ e = .returned (.tuple #[.int .i64 x, .bool R.isSome]) ∧ ∀ v, R = some v → x = v
set_option maxRecDepth 100000 in
theorem small_any (s : ByteArray) (hs : s.size ≤ 281474976710656) (w : World) (hv : PV w) :
    Calls Tryd.prog 30 #[.string s] w (SmallR (smallL s.data.toList) w) := by
  have Hp := Lib.hid (puint_any s hs w hv)
  have Hf := Lib.hid (fun (u : Nat) (hu : u < 18446744073709551616) (y : World) (hy : Below w.heap.size w y) => fmtuint_any u hu y (hv.below hy))
  have hsm : smallL s.data.toList = (okOf (Lib.parseUintB 8 s.data.toList)).bind (fun u => if Lib.decDigits u = s.data.toList then some u else none) := by
    unfold smallL
    cases Lib.parseUintB 8 s.data.toList <;> rfl
  rw [hsm]
  have hlt : ∀ u, okOf (Lib.parseUintB 8 s.data.toList) = some u → u < 256 := fun u h => by
    cases hq : Lib.parseUintB 8 s.data.toList with
    | ok v => rw [hq] at h; cases h; have := Lib.parseUintB_le hq; omega
    | _ => rw [hq] at h; cases h
  clear hsm hv
  generalize okOf (Lib.parseUintB 8 s.data.toList) = R at *
  cases R with
  | none =>
    clear hlt
    go_enter Tryd.func30, Tryd.ntmps30
    go_wp2_with (go_at_call 47; refine Hp.out.mono ?_; rintro e w1 ⟨hb, x, t, p, hx, rfl⟩; have HB := Lib.hid hb; have HX := Lib.hid hx; have hw8 : IntKind.u8.wrap (x : Int) = (x : Int) := (by rw [IntKind.wrap_u8']; omega); clear hb hx)
    go_ret2
    exact ⟨HB.out, x, HX.out, by first | rfl | (rw [hw8]; rfl), fun v h => by cases h⟩
  | some u =>
    have hu := hlt u rfl
    have HU := Lib.hid hu
    have hw8 : IntKind.u8.wrap (u : Int) = (u : Int) := by rw [IntKind.wrap_u8']; omega
    clear hlt hu
    go_enter Tryd.func30, Tryd.ntmps30
    go_wp2_with (first
      | (go_at_call 47; refine Hp.out.mono ?_; rintro e w1 ⟨hb, rfl⟩; have HB := Lib.hid hb; clear hb)
      | (go_at_call 48; refine (Hf.out u (by have := HU.out; omega) _ HB.out).mono ?_; rintro e w2 ⟨rfl, hb2⟩; have HB2 := Lib.hid hb2; clear hb2))
    go_ret2
    refine ⟨HB.out.trans (HB2.out.mono HB.out.size), u, HU.out, ?_, ?_⟩
    · by_cases h : Lib.decDigits u = s.data.toList
      · simp [h, ByteArray.toList_eq]
      · simp [h, ByteArray.toList_eq]
    · intro v h
      simp only [Option.bind_some] at h
      split at h
      · cases h; rfl
      · cases h
set_option maxRecDepth 100000 in
theorem number_any (s : ByteArray) (hs : s.size ≤ 281474976710656) (w : World) (hv : PV w) :
    Calls Tryd.prog 31 #[.string s] w (NumR (numL s.data.toList) w) := by
  have Hp := Lib.hid (pint_any s hs w hv)
  have Hf := Lib.hid (fun (u : Int) (h0 : -9223372036854775808 ≤ u) (h1 : u ≤ 9223372036854775807) (y : World) (hy : Below w.heap.size w y) => fmtint_any u h0 h1 y (hv.below hy))
  have hsm : numL s.data.toList = (okOf (Lib.parseIntB 64 s.data.toList)).bind (fun u => if Lib.itoa u = s.data.toList then some u else none) := by
    unfold numL
    cases Lib.parseIntB 64 s.data.toList <;> rfl
  rw [hsm]
  have hlt : ∀ u, okOf (Lib.parseIntB 64 s.data.toList) = some u → -9223372036854775808 ≤ u ∧ u ≤ 9223372036854775807 := fun u h => by
    cases hq : Lib.parseIntB 64 s.data.toList with
    | ok v => rw [hq] at h; cases h; have := Lib.parseIntB_bounds hq; omega
    | _ => rw [hq] at h; cases h
  clear hsm hv
  generalize okOf (Lib.parseIntB 64 s.data.toList) = R at *
  cases R with
  | none =>
    clear hlt
    go_enter Tryd.func31, Tryd.ntmps31
    go_wp2_with (go_at_call 49; refine Hp.out.mono ?_; rintro e w1 ⟨hb, x, t, p, hx, rfl⟩; have HB := Lib.hid hb; have HX := Lib.hid hx; clear hb hx)
    go_ret2
    exact ⟨HB.out, x, HX.out, rfl, fun v h => by cases h⟩
  | some u =>
    have hu := hlt u rfl
    have HU := Lib.hid hu
    clear hlt hu
    go_enter Tryd.func31, Tryd.ntmps31
    go_wp2_with (first
      | (go_at_call 49; refine Hp.out.mono ?_; rintro e w1 ⟨hb, rfl⟩; have HB := Lib.hid hb; clear hb)
      | (go_at_call 50; refine (Hf.out u HU.out.1 HU.out.2 _ HB.out).mono ?_; rintro e w2 ⟨rfl, hb2⟩; have HB2 := Lib.hid hb2; clear hb2))
    go_ret2
    refine ⟨HB.out.trans (HB2.out.mono HB.out.size), u, HU.out, ?_, ?_⟩
    · by_cases h : Lib.itoa u = s.data.toList
      · simp [h, ByteArray.toList_eq]
      · simp [h, ByteArray.toList_eq]
    · intro v h
      simp only [Option.bind_some] at h
      split at h
      · cases h; rfl
      · cases h
set_option maxRecDepth 100000 in
theorem itself_any (c : UInt8) (w : World) : Calls Tryd.prog 56 #[.int .u8 (c.toNat : Int)] w fun e w' => e = .returned (.bool (itsB c)) ∧ w = w' := by
  unfold itsB
  generalize c.toNat = n
  go_enter Tryd.func56, Tryd.ntmps56
  go_wp2
  all_goals (go_ret; refine ⟨congrArg (fun b => Ending.returned (.bool b)) ?_, rfl⟩; rw [Bool.eq_iff_iff]; simp; omega)
end Go.Proofs.YtjjlodeiejobdaaDoor
namespace Go.Proofs.YtjjlodeiejobdaaDoor
open Go.RowKit Go.Shelf
theorem info8 : (Tryd.prog.info? 5).map (fun i => (i.zero, i.size, i.bytes)) = some (some (.int .u8 0), 1, 1) := by kernel_rfl
theorem quo_empty {s : ByteArray} (h : s.toList.isEmpty = true) : quoL s.data.toList = [45] := by
  rw [List.isEmpty_iff, ByteArray.toList_eq] at h
  rw [h]
  rfl
theorem quo_len : ∀ l : Bs, (l.flatMap quo1).length ≤ 3 * l.length
  | [] => Nat.le_refl _
  | c :: r => by
    have ih := quo_len r
    rw [List.flatMap_cons, List.length_append, List.length_cons]
    have : (quo1 c).length ≤ 3 := by unfold quo1; split <;> simp
    omega
theorem quo_step {l : Bs} {i : Nat} (h : i < l.length) : (l.take (i + 1)).flatMap quo1 = (l.take i).flatMap quo1 ++ quo1 l[i] := by
  rw [List.take_add_one, List.getElem?_eq_getElem h, List.flatMap_append]
  simp
theorem bs_at {s : ByteArray} {i : Nat} (h : i < s.size) : ∃ hi : i < s.data.toList.length, s[i] = s.data.toList[i] := by
  refine ⟨by simpa using h, ?_⟩
  simp [ByteArray.getElem_eq_getElem_data]
theorem hx_fin2 : ∀ a : Fin 16, (⟨#[48, 49, 50, 51, 52, 53, 54, 55, 56, 57, 97, 98, 99, 100, 101, 102]⟩ : ByteArray)[a.val]'(a.isLt) = hxB a.val := by decide
theorem hx_get {a : Nat} (h : a < 16) (h2 : a < (⟨#[48, 49, 50, 51, 52, 53, 54, 55, 56, 57, 97, 98, 99, 100, 101, 102]⟩ : ByteArray).size) : (⟨#[48, 49, 50, 51, 52, 53, 54, 55, 56, 57, 97, 98, 99, 100, 101, 102]⟩ : ByteArray)[a] = hxB a := hx_fin2 ⟨a, h⟩
set_option maxRecDepth 100000 in
set_option maxHeartbeats 4000000 in
theorem quote_any (s : ByteArray) (hs : s.size ≤ 1000000) (w : World) :
    Calls Tryd.prog 44 #[.string s] w fun e w' => e = .returned (.string ⟨(quoL s.data.toList).toArray⟩) ∧ Below w.heap.size w w' := by
  have Hit := Lib.hid (fun (c : UInt8) (y : World) => itself_any c y)
  obtain ⟨i0, hi0, hz0, hs0, hb0⟩ := info_parts info8
  cases he : s.toList.isEmpty with
  | true =>
    have Hq := Lib.hid (quo_empty he)
    go_enter Tryd.func44, Tryd.ntmps44
    go_wp2_with fail
    go_ret
    exact ⟨by rw [Hq.out]; rfl, Below.refl _ _⟩
  | false =>
    have hq : quoL s.data.toList = s.data.toList.flatMap quo1 := by
      unfold quoL
      rw [if_neg (fun h => by rw [ByteArray.toList_eq, h] at he; simp at he)]
    have Hq := Lib.hid hq
    clear hq
    go_enter Tryd.func44, Tryd.ntmps44
    go_upto_region 5 with fail
    go_loopw [3, 10] (fun s3 s10 wr => ∃ i : Nat, s10 = .int .i64 (i : Int) ∧ i ≤ s.size ∧ OwnB wr w.heap.size 5 s3 ((s.data.toList.take i).flatMap quo1) ∧ Below w.heap.size w wr) (fun _ s10 _ => s.size - (intOf s10).toNat)
    case atStart => exact ⟨0, rfl, Nat.zero_le _, ⟨rfl, .inl ⟨rfl, rfl⟩⟩, Below.refl _ _⟩
    case round =>
      obtain ⟨i, rfl, hi, ho, hb⟩ := hrel
      have Ho := Lib.hid ho; clear ho
      have Hb := Lib.hid hb; clear hb
      have Hlw := Lib.hid (show w.heap.size ≤ wr.heap.size from Hb.out.size)
      have Hll := Lib.hid (show ((s.data.toList.take i).flatMap quo1).length ≤ 3000000 by have h := quo_len (s.data.toList.take i); have h2 : (s.data.toList.take i).length ≤ i := List.length_take_le _ _; omega)
      by_cases hlt : i < s.size
      · have hlt' : (i : Int) < (s.size : Int) := by omega
        obtain ⟨hil, hget⟩ := bs_at hlt
        have hst := quo_step hil
        rw [← hget] at hst
        have Hst := Lib.hid hst
        clear hst hget
        generalize s.data.toList.take i = L0 at *
        generalize L0.flatMap quo1 = L at *
        go_upto_region 8 with fail
        generalize s[i] = c at *
        cases hits : itsB c with
        | true =>
          have hq1 : quo1 c = [c] := by unfold quo1; rw [hits]; rfl
          rw [hq1] at Hst
          have Hone := Lib.hid (ReadB.one wr c 5)
          have Hits := Lib.hid hits
          clear hits hq1
          go_wp2_with (first
            | (go_at_call 56; refine (Hit.out c _).mono ?_; rintro e w' ⟨rfl, rfl⟩; rw [Hits.out])
            | (at_builtin; refine wpList_append_read rfl _ _ 41 rfl w.heap.size 5 i0 (.int .u8 0) Tryd.underlying41 hi0 hz0 hs0 hb0 rfl _ _ _ rfl (World.ownsRow.alloc Ho.out _) _ _ rfl Hone.out (by have := Hll.out; simp; omega) (by simp; have := Hlw.out; omega) ?_; intro v4 w4 ho4 hg4; have Hg4 := Lib.hid hg4; clear hg4; have Ho4 := Lib.hid ho4; clear ho4))
          go_roundw
          case rel =>
            refine ⟨i + 1, rfl, by omega, ?_, below_grown Hg4.out (Hb.out.alloc Hlw.out _) (by simp; have := Hlw.out; omega) (fun k hk => (World.ownsRow.lt Ho.out k hk).1)⟩
            rw [Hst.out]
            exact OwnB.of Ho4.out rfl rfl
          case measure => simp [intOf]; omega
        | false =>
          have hq1 : quo1 c = [37, hxB (c.toNat / 16), hxB (c.toNat % 16)] := by unfold quo1; rw [hits]; rfl
          rw [hq1] at Hst
          have Hits := Lib.hid hits
          clear hits hq1
          have hc256 := c.toNat_lt
          obtain ⟨a, ha⟩ : ∃ a, a = c.toNat / 16 := ⟨_, rfl⟩
          obtain ⟨b, hb⟩ : ∃ b, b = c.toNat % 16 := ⟨_, rfl⟩
          rw [← ha, ← hb] at Hst
          have ea : (c.toNat : Int) / 16 = (a : Int) := by omega
          have eb : bits .and .u8 (c.toNat : Int) 15 = (b : Int) := by rw [show (15 : Int) = ((15 : Nat) : Int) from rfl, u8_and_nat _ _ hc256 (by decide), show c.toNat &&& 15 = b by rw [hb, show (15 : Nat) = 2 ^ 4 - 1 from rfl, Nat.and_two_pow_sub_one_eq_mod]]
          have ha16 : a < 16 := by omega
          have hb16 : b < 16 := by omega
          clear ha hb
          go_upto_region 10 with (go_at_call 56; refine (Hit.out c _).mono ?_; rintro e w' ⟨rfl, rfl⟩; rw [Hits.out])
          refine RegS.wp_region (fun y => Below wr.heap.size wr y) [(0, 0), (1, 0), (2, 0), (3, 0), (4, 0), (5, 0), (6, 0), (7, 1), (8, 3), (9, 0)] (by kernel_rfl) (by kernel_rfl) (fun _ _ d _ _ h => by cases d <;> exact h) ⟨rfl, rfl, rfl, Nat.le_refl _, fun _ _ => rfl⟩ ?_
          dsimp only [RegR.pick, List.getElem?_cons_zero, List.getElem?_cons_succ]
          iterate 2 (refine RegS.reads ?_; intro K hK; go_simp; (first | (refine ⟨_, fun _ _ => rfl, hK _ ?_⟩) | (refine hK _ ?_)); clear hK K)
          iterate 1 (refine RegS.reads ?_; intro K hK; go_simp; (first | (refine ⟨_, fun _ _ => rfl, hK _ ?_⟩) | (refine hK _ ?_)); clear hK K)
          refine RegS.reads ?_
          intro K hK
          go_simp
          refine ⟨.int .u8 ((hxB a).toNat : Int), fun x _ => ?_, hK _ ?_⟩
          · rw [dif_pos (show (a : Int) < 16 by omega), hx_get ha16]
            rfl
          clear hK K
          iterate 2 (refine RegS.reads ?_; intro K hK; go_simp; (first | (refine ⟨_, fun _ _ => rfl, hK _ ?_⟩) | (refine hK _ ?_)); clear hK K)
          refine RegS.reads ?_
          intro K hK
          go_simp
          refine ⟨.int .u8 ((hxB b).toNat : Int), fun x _ => ?_, hK _ ?_⟩
          · rw [dif_pos (show (b : Int) < 16 by omega), hx_get hb16]
            rfl
          clear hK K
          refine RegS.turn rfl ?_
          intro K hK
          have hbw := (Below.refl _ wr).alloc (Nat.le_refl _) (.cells #[.int .u8 37, .int .u8 ((hxB a).toNat : Int), .int .u8 ((hxB b).toNat : Int)] 5)
          go_simp
          refine hK _ _ ⟨hbw.os, hbw.tape, hbw.output, hbw.size, hbw.block⟩ ?_
          clear hK K
          refine RegS.free rfl ?_
          intro K hK
          refine wp_append_read _ _ 41 rfl w.heap.size 5 i0 (.int .u8 0) Tryd.underlying41 hi0 hz0 hs0 hb0 rfl _ _ _ rfl (show World.ownsRow _ _ _ _ _ _ _ from World.ownsRow.alloc Ho.out _) _ [37, hxB a, hxB b] rfl (ReadB.cells wr.drew [37, hxB a, hxB b] 5 #[.int .u8 37, .int .u8 ((hxB a).toNat : Int), .int .u8 ((hxB b).toNat : Int)] rfl 3) (by have := Hll.out; simp; omega) (by have := Hlw.out; show _ ≤ (wr.alloc _).heap.size; simp; omega) ?_
          intro v' w' hown' hgr
          refine hK _ _ ?_
          clear hK K
          iterate 1 (refine RegS.reads ?_; intro K hK; go_simp; (first | (refine ⟨_, fun _ _ => rfl, hK _ ?_⟩) | (refine hK _ ?_)); clear hK K)
          refine RegS.nil ?_
          have hb' : Below w.heap.size w w' := below_grown hgr (Hb.out.trans (Below.mono ⟨hbw.os, hbw.tape, hbw.output, hbw.size, hbw.block⟩ Hb.out.size)) (by have := Hlw.out; show _ ≤ (wr.alloc _).heap.size; simp; omega) (fun k hk => (World.ownsRow.lt Ho.out k hk).1)
          have Hb' := Lib.hid hb'; clear hb'
          have Hown := Lib.hid (show OwnB w' w.heap.size 5 v' (L ++ [37, hxB a, hxB b]) from OwnB.of hown' rfl rfl); clear hown' hgr hbw
          go_wp2_with fail
          go_roundw
          case rel =>
            refine ⟨i + 1, rfl, by omega, ?_, Hb'.out⟩
            rw [Hst.out]
            exact Hown.out
          case measure => simp [intOf]; omega
      · have hie : i = s.size := by omega
        subst hie
        have hlt' : ¬ (s.size : Int) < (s.size : Int) := by omega
        have hall : s.data.toList.take s.size = s.data.toList := by rw [List.take_of_length_le]; simp
        rw [hall, ← Hq.out] at Ho
        have hcv := Ho.out.read.conv (P := Tryd.prog) (src := 41) (dst := 9) Tryd.underlying41 Tryd.underlying5 Tryd.underlying9
        go_wp2_with fail
        go_ret
        exact ⟨rfl, Hb.out⟩
end Go.Proofs.YtjjlodeiejobdaaDoor
namespace Go.Proofs.YtjjlodeiejobdaaDoor
open Go.RowKit Go.Shelf
/-- What is told of a form of a text. -/
def UnqR (R : Option Bs) (w : World) (e : Ending) (w' : World) : Prop := Below w.heap.size w w' ∧ ∃ x : ByteArray, e = .returned (.tuple #[.string x, .bool R.isSome]) ∧ ∀ b, R = some b → x = ⟨b.toArray⟩
theorem UnqR.none {R : Option Bs} {w w' : World} {x : ByteArray} (hb : Below w.heap.size w w') (h : R = .none) : UnqR R w (.returned (.tuple #[.string x, .bool false])) w' := by
  subst h
  exact ⟨hb, x, rfl, fun b h => by cases h⟩
theorem UnqR.get {R : Option Bs} {w w' : World} {l : Bs} {q : Bool} (hb : Below w.heap.size w w') (h : R = if q then some l else .none) : UnqR R w (.returned (.tuple #[.string ⟨l.toArray⟩, .bool q])) w' := by
  subst h
  cases q
  · exact ⟨hb, _, rfl, fun b h => by cases h⟩
  · exact ⟨hb, _, rfl, fun b h => by cases h; rfl⟩
theorem dec_plain {c : UInt8} (r : Bs) (h : c ≠ 37) : decL (c :: r) = (decL r).map (c :: ·) := by
  conv => lhs; unfold decL
  simp only [if_neg h]
theorem dec_hex {a b : UInt8} (r : Bs) : decL (37 :: a :: b :: r) = match hexV a, hexV b with
    | some x, some y => (decL r).map (UInt8.ofNat (16 * x + y) :: ·)
    | _, _ => none := by
  conv => lhs; unfold decL
  rw [if_pos rfl]
  rfl
theorem hexV_lt {c : UInt8} {x : Nat} (h : hexV c = some x) : x < 16 := by
  unfold hexV at h
  split at h
  · cases h; omega
  · split at h
    · cases h; omega
    · split at h
      · cases h; omega
      · cases h
theorem dec_bad {a b : UInt8} (r : Bs) (h : hexAcc [a, b] = none) : decL (37 :: a :: b :: r) = none := by
  rw [dec_hex]
  cases hx : hexV a <;> cases hy : hexV b <;> simp_all [hexAcc]
theorem dec_good {a b : UInt8} {n : Nat} (r : Bs) (h : hexAcc [a, b] = some n) : n < 256 ∧ decL (37 :: a :: b :: r) = (decL r).map (UInt8.ofNat n :: ·) := by
  rw [dec_hex]
  cases hx : hexV a with
  | none => simp [hexAcc, hx] at h
  | some x =>
    cases hy : hexV b with
    | none => simp [hexAcc, hx, hy] at h
    | some y =>
      simp [hexAcc, hx, hy] at h
      subst h
      exact ⟨by have := hexV_lt hx; have := hexV_lt hy; omega, rfl⟩
theorem dec_short {r : Bs} (h : r.length < 2) : decL (37 :: r) = none := by
  unfold decL
  match r, h with
  | [], _ => rfl
  | [a], _ => rfl
theorem drop_get {l : Bs} {i : Nat} (h : i < l.length) : l.drop i = l[i] :: l.drop (i + 1) := List.drop_eq_getElem_cons h
set_option maxRecDepth 100000 in
set_option maxHeartbeats 8000000 in
theorem unquote_any (s : ByteArray) (hs : s.size ≤ 1000000) (w : World) (hv : PV w) :
    Calls Tryd.prog 32 #[.string s] w (UnqR (unqL s.data.toList) w) := by
  have Hq := Lib.hid (fun (x : ByteArray) (hx : x.size ≤ 1000000) (y : World) => quote_any x hx y)
  have Hp := Lib.hid (fun (a b : UInt8) (y : World) (hy : Below w.heap.size w y) => p16_any a b y (hv.below hy))
  clear hv
  obtain ⟨i0, hi0, hz0, hs0, hb0⟩ := info_parts info8
  by_cases h45 : s.data.toList = [45]
  · have he : (s.toList == [45]) = true := by rw [beq_iff_eq, ByteArray.toList_eq]; exact h45
    have hu : unqL s.data.toList = some [] := by unfold unqL; rw [if_pos h45]
    rw [hu]
    clear hu h45
    go_enter Tryd.func32, Tryd.ntmps32
    go_wp2_with fail
    go_ret2
    exact ⟨Below.refl _ _, ByteArray.empty, rfl, fun b h => by cases h; rfl⟩
  · have he : (s.toList == [45]) = false := by rw [beq_eq_false_iff_ne, ByteArray.toList_eq]; exact h45
    have hu : unqL s.data.toList = (decL s.data.toList).bind (fun b => if quoL b = s.data.toList then some b else none) := by
      unfold unqL
      rw [if_neg h45]
      cases decL s.data.toList <;> rfl
    rw [hu]
    clear hu h45
    have hsz : s.data.toList.length = s.size := by simp
    obtain ⟨S, hS⟩ : ∃ S, S = s.data.toList := ⟨_, rfl⟩
    have HS := Lib.hid hS
    rw [← hS] at hsz ⊢
    have Hsz := Lib.hid hsz
    clear hS hsz
    go_enter Tryd.func32, Tryd.ntmps32
    go_upto_region 5 with fail
    go_loopw [4, 5] (fun s4 s5 wr => ∃ (i : Nat) (l : Bs), s5 = .int .i64 (i : Int) ∧ i ≤ s.size ∧ OwnB wr w.heap.size 5 s4 l ∧ l.length ≤ i ∧ decL S = (decL (S.drop i)).map (l ++ ·) ∧ Below w.heap.size w wr) (fun _ s5 _ => s.size - (intOf s5).toNat)
    case atStart => exact ⟨0, [], rfl, Nat.zero_le _, ⟨rfl, .inl ⟨rfl, rfl⟩⟩, Nat.le_refl _, by rw [List.drop_zero]; simp, Below.refl _ _⟩
    case round =>
      obtain ⟨i, l, rfl, hi, ho, hl, hd, hb⟩ := hrel
      have Ho := Lib.hid ho; clear ho
      have Hb := Lib.hid hb; clear hb
      have Hd := Lib.hid hd; clear hd
      have Hlw := Lib.hid (show w.heap.size ≤ wr.heap.size from Hb.out.size)
      have Hll := Lib.hid (show l.length ≤ 1000000 by omega)
      by_cases hlt : i < s.size
      · have hlt' : (i : Int) < (s.size : Int) := by omega
        obtain ⟨hil, hget⟩ := bs_at hlt
        have hil2 : i < S.length := by rw [HS.out]; exact hil
        have hget2 : s[i] = S[i] := by simp only [HS.out]; exact hget
        have Hdg := Lib.hid (drop_get hil2)
        rw [← hget2] at Hdg
        clear hget hget2
        by_cases hc : s[i] = 37
        · have e1 : (((s[i]).toNat : Int) != 37) = false := by rw [hc]; rfl
          rw [hc] at Hdg
          by_cases hsh : s.size - i < 3
          · have e2 : ((s.size : Int) - (i : Int) < 3) = True := by simp; omega
            have hnone : decL S = none := by
              rw [Hd.out, Hdg.out, dec_short (by rw [List.length_drop, Hsz.out]; omega)]
              rfl
            have HN := Lib.hid hnone
            clear hc hsh hnone
            go_wp2_with fail
            go_ret2
            exact .none Hb.out (by rw [HN.out]; rfl)
          · have e2 : ((s.size : Int) - (i : Int) < 3) = False := by simp; omega
            have hl1 : i + 1 < S.length := by rw [Hsz.out]; omega
            have hl2 : i + 2 < S.length := by rw [Hsz.out]; omega
            obtain ⟨a, ha⟩ : ∃ a, a = S[i + 1] := ⟨_, rfl⟩
            obtain ⟨b, hb⟩ : ∃ a, a = S[i + 2] := ⟨_, rfl⟩
            have hd2 : S.drop (i + 1) = a :: b :: S.drop (i + 3) := by rw [drop_get hl1, drop_get hl2, ha, hb]
            have hex : s.extract (i + 1) (i + 3) = ⟨#[a, b]⟩ := by
              apply ByteArray.ext
              apply Array.toList_inj.1
              show (s.extract (i + 1) (i + 3)).data.toList = [a, b]
              rw [Lib.extract_data, ← HS.out, hd2, show i + 3 - (i + 1) = 2 by omega]
              rfl
            rw [hd2] at Hdg
            have Hpw := Lib.hid (Hp.out a b wr Hb.out)
            cases hR : hexAcc [a, b] with
            | none =>
              have hnone : decL S = none := by
                rw [Hd.out, Hdg.out, dec_bad _ hR]
                rfl
              have HN := Lib.hid hnone
              rw [hR] at Hpw
              clear hc hl1 hl2 ha hb hd2 hnone hR
              go_wp2_with (go_at_call 47; refine Hpw.out.mono ?_; rintro e w1 ⟨hb1, x, t, p, hx, rfl⟩; have Hb1 := Lib.hid hb1; clear hb1 hx)
              go_ret2
              exact .none (Hb.out.trans (Hb1.out.mono Hb.out.size)) (by rw [HN.out]; rfl)
            | some n =>
              obtain ⟨hn, hdg⟩ := dec_good (S.drop (i + 3)) hR
              have hstep : decL S = (decL (S.drop (i + 3))).map ((l ++ [UInt8.ofNat n]) ++ ·) := by
                rw [Hd.out, Hdg.out, hdg, Option.map_map]
                congr 1
                funext x
                simp
              have Hst := Lib.hid hstep
              have hw8 : IntKind.u8.wrap (n : Int) = (n : Int) := by rw [IntKind.wrap_u8']; omega
              rw [hR] at Hpw
              have hi3 : i + 3 ≤ s.size := by omega
              clear hc hl1 hl2 ha hb hd2 hR hdg hstep
              go_upto_region 12 with (go_at_call 47; refine Hpw.out.mono ?_; rintro e w1 ⟨hb1, rfl⟩; have Hb1 := Lib.hid hb1; clear hb1)
              have Ho1 := Lib.hid (Ho.out.below Hb1.out)
              have Hbw := Lib.hid (Hb.out.trans (Hb1.out.mono Hb.out.size))
              have Hlw1 := Lib.hid (show w.heap.size ≤ w1.heap.size from Hbw.out.size)
              have hone := ReadB.one w1 (UInt8.ofNat n) 5
              have hn8 : (((UInt8.ofNat n).toNat : Nat) : Int) = (n : Int) := by simp; omega
              rw [hn8] at hone
              have Hone := Lib.hid hone
              clear hone hn8 hn
              go_wp2_with (at_builtin; refine wpList_append_read rfl _ _ 41 rfl w.heap.size 5 i0 (.int .u8 0) Tryd.underlying41 hi0 hz0 hs0 hb0 rfl _ _ _ rfl (World.ownsRow.alloc Ho1.out _) _ _ rfl Hone.out (by have := Hll.out; simp; omega) (by simp; have := Hlw1.out; omega) ?_; intro v4 w4 ho4 hg4; have Hg4 := Lib.hid hg4; clear hg4; have Ho4 := Lib.hid ho4; clear ho4)
              go_roundw
              case rel =>
                exact ⟨i + 3, l ++ [UInt8.ofNat n], by simp [Int.add_assoc], hi3, OwnB.of Ho4.out rfl rfl, by rw [List.length_append]; show l.length + 1 ≤ _; omega, Hst.out, below_grown Hg4.out (Hbw.out.alloc Hlw1.out _) (by simp; have := Hlw1.out; omega) (fun k hk => (World.ownsRow.lt Ho1.out k hk).1)⟩
              case measure => simp [intOf]; omega
        · have e1 : (((s[i]).toNat : Int) != 37) = true := by rw [bne_iff_ne]; intro h; exact hc (UInt8.toNat_inj.1 (by show _ = 37; omega))
          have Hone := Lib.hid (ReadB.one wr s[i] 5)
          have hstep : decL S = (decL (S.drop (i + 1))).map ((l ++ [s[i]]) ++ ·) := by
            rw [Hd.out, Hdg.out, dec_plain _ hc, Option.map_map]
            congr 1
            funext x
            simp
          have Hst := Lib.hid hstep
          clear hstep hc
          go_wp2_with (at_builtin; refine wpList_append_read rfl _ _ 41 rfl w.heap.size 5 i0 (.int .u8 0) Tryd.underlying41 hi0 hz0 hs0 hb0 rfl _ _ _ rfl (World.ownsRow.alloc Ho.out _) _ _ rfl Hone.out (by have := Hll.out; simp; omega) (by simp; have := Hlw.out; omega) ?_; intro v4 w4 ho4 hg4; have Hg4 := Lib.hid hg4; clear hg4; have Ho4 := Lib.hid ho4; clear ho4)
          go_roundw
          case rel =>
            exact ⟨i + 1, l ++ [s[i]], rfl, by omega, OwnB.of Ho4.out rfl rfl, by rw [List.length_append]; show l.length + 1 ≤ _; omega, Hst.out, below_grown Hg4.out (Hb.out.alloc Hlw.out _) (by simp; have := Hlw.out; omega) (fun k hk => (World.ownsRow.lt Ho.out k hk).1)⟩
          case measure => simp [intOf]; omega
      · have hie : i = s.size := by omega
        subst hie
        have hlt' : ¬ (s.size : Int) < (s.size : Int) := by omega
        have hend : decL S = some l := by
          rw [Hd.out, List.drop_of_length_le (by rw [Hsz.out]; exact Nat.le_refl _)]
          show some (l ++ []) = some l
          rw [List.append_nil]
        have HE := Lib.hid hend
        clear hend
        go_upto_region 16 with fail
        refine (wpIn_wide (n := 1)).1 ?_
        refine RegJ.wpIn_region_plan (F := Fence.wide) (KeptW wr) (.step 0 0 (.step 1 0 (.step 2 0 (.step 3 0 (.step 5 0 (.step 4 1 (.step 6 0 (.step 7 0 (.step 8 0 .nil))))))))) (by kernel_rfl) (by kernel_rfl) (by kernel_rfl) (fun _ _ d _ _ h => by cases d <;> exact h) ⟨rfl, rfl, rfl, Nat.le_refl _, fun _ _ => rfl⟩ ?_
        dsimp only [RegJ.pickJ, List.getElem?_cons_zero, List.getElem?_cons_succ]
        change RegJ.Can _ _ _ _ _ _ _ _ wr.drew
        have hkd : KeptW wr wr.drew := ⟨rfl, rfl, rfl, Nat.le_refl _, fun _ _ => rfl⟩
        generalize wr.drew = v1 at *
        refine RegJ.reads ?_; intro K hK; go_simp; (first | refine ⟨_, fun _ _ => rfl, hK _ ?_⟩ | refine hK _ ?_); clear hK K
        refine RegJ.reads ?_
        intro K hK
        go_simp
        refine ⟨.string ⟨l.toArray⟩, fun y hy => ?_, hK _ ?_⟩
        · have hcv := (Ho.out.read.below (KeptW.bel hy)).conv (P := Tryd.prog) (src := 41) (dst := 9) Tryd.underlying41 Tryd.underlying5 Tryd.underlying9
          go_simp
        clear hK K
        refine RegJ.reads ?_; intro K hK; go_simp; (first | refine ⟨_, fun _ _ => rfl, hK _ ?_⟩ | refine hK _ ?_); clear hK K
        refine RegJ.reads ?_
        intro K hK
        go_simp
        refine ⟨.string ⟨l.toArray⟩, fun y hy => ?_, hK _ ?_⟩
        · have hcv := (Ho.out.read.below (KeptW.bel hy)).conv (P := Tryd.prog) (src := 41) (dst := 9) Tryd.underlying41 Tryd.underlying5 Tryd.underlying9
          go_simp
        clear hK K
        refine RegJ.reads ?_; intro K hK; go_simp; (first | refine ⟨_, fun _ _ => rfl, hK _ ?_⟩ | refine hK _ ?_); clear hK K
        refine RegJ.turns (fun _ => trivial) ?_
        intro K K0 hK hK0
        go_simp
        refine ⟨trivial, ?_⟩
        refine (callsIn_wide.2 (Hq.out ⟨l.toArray⟩ (by have := Hll.out; show l.toArray.size ≤ 1000000; simp; omega) v1)).mono ?_
        rintro e v2 ⟨rfl, hb7⟩
        have v2k : KeptW wr v2 := KeptW.mono hkd hb7
        refine hK _ _ _ (fun _ h => h) v2k ?_
        clear hK K hK0 K0
        iterate 3 (refine RegJ.reads ?_; intro K hK; go_simp; (first | refine ⟨_, fun _ _ => rfl, hK _ ?_⟩ | refine hK _ ?_); clear hK K)
        refine RegJ.nil ?_
        have Hvk := Lib.hid (KeptW.bel v2k)
        clear v2k hkd
        go_wp2_with fail
        go_ret2
        have hq : (quoL l == s.toList) = decide (quoL l = S) := by rw [HS.out, Bool.eq_iff_iff, beq_iff_eq, decide_eq_true_iff, ByteArray.toList_eq]
        exact .get (Hb.out.trans (Hvk.out.mono Hb.out.size)) (by rw [HE.out, hq]; simp)
end Go.Proofs.YtjjlodeiejobdaaDoor
namespace Go.Proofs.YtjjlodeiejobdaaDoor
open Go.RowKit Go.Shelf
set_option maxRecDepth 100000 in
theorem plain_any (c : UInt8) (w : World) : Calls Tryd.prog 52 #[.int .u8 (c.toNat : Int)] w fun e w' => e = .returned (.bool (itsB c)) ∧ w = w' := by
  unfold itsB
  generalize c.toNat = n
  go_enter Tryd.func52, Tryd.ntmps52
  go_wp2
  all_goals (go_ret; refine ⟨congrArg (fun b => Ending.returned (.bool b)) ?_, rfl⟩; rw [Bool.eq_iff_iff]; simp; omega)
set_option maxRecDepth 100000 in
theorem digit_any (c : UInt8) (w : World) : Calls Tryd.prog 54 #[.int .u8 (c.toNat : Int)] w fun e w' => e = .returned (.int .i64 (digV c)) ∧ w = w' := by
  have hc := c.toNat_lt
  unfold digV
  generalize c.toNat = n at *
  by_cases h1 : 48 ≤ n ∧ n ≤ 57
  · rw [if_pos h1]
    have a1 : (n : Int) ≥ 48 := by omega
    have a2 : (n : Int) ≤ 57 := by omega
    have a3 : IntKind.u8.wrap ((n : Int) - 48) = (n : Int) - 48 := by rw [IntKind.wrap_u8']; omega
    clear h1 hc
    go_enter Tryd.func54, Tryd.ntmps54
    go_wp2
    go_ret
    exact ⟨by trivial, rfl⟩
  · rw [if_neg h1]
    by_cases h2 : 97 ≤ n ∧ n ≤ 102
    · rw [if_pos h2]
      have a1 : (n : Int) ≥ 97 := by omega
      have a2 : (n : Int) ≤ 102 := by omega
      have a3 : IntKind.u8.wrap ((n : Int) - 97) = (n : Int) - 97 := by rw [IntKind.wrap_u8']; omega
      clear h1 h2 hc
      go_enter Tryd.func54, Tryd.ntmps54
      go_wp2
      go_ret
      exact ⟨congrArg (fun b => Ending.returned (.int .i64 b)) (by omega), rfl⟩
    · rw [if_neg h2]
      go_enter Tryd.func54, Tryd.ntmps54
      go_wp2
      all_goals (first | (go_ret; exact ⟨by trivial, rfl⟩) | (exfalso; omega))
end Go.Proofs.YtjjlodeiejobdaaDoor
namespace Go.Proofs.YtjjlodeiejobdaaDoor
open Go.RowKit Go.Shelf
def DecIs (l : Bs) (w : World) (e : Ending) (w' : World) : Prop := e = .returned (.string ⟨l.toArray⟩) ∧ w = w'
theorem dg_fin : ∀ u : Fin 10, (⟨#[48, 49, 50, 51, 52, 53, 54, 55, 56, 57]⟩ : ByteArray).extract u.val (u.val + 1) = ⟨#[UInt8.ofNat (48 + u.val)]⟩ := by decide
theorem dec_small {u : Nat} (h : u < 10) : Lib.decDigits u = [UInt8.ofNat (48 + u)] := by rw [Lib.decDigits, dif_pos h]
theorem dec_big {u : Nat} (h : ¬ u < 10) : Lib.decDigits u = Lib.decDigits (u / 10) ++ [UInt8.ofNat (48 + u % 10)] := by rw [Lib.decDigits, dif_neg h]
theorem dec_21 (u : Nat) (h : u ≤ 9223372036854775808) : (Lib.decDigits u).length ≤ 19 := by
  rw [Lib.decDigits_length]
  exact nDig_le 19 u (by omega) (by decide)
set_option maxRecDepth 100000 in
theorem decimal_nat : ∀ (k u : Nat), u ≤ k → u ≤ 9223372036854775807 → ∀ w : World, Calls Tryd.prog 35 #[.int .i64 (u : Int)] w (DecIs (Lib.decDigits u) w) := by
  intro k
  induction k with
  | zero =>
    intro u hu _ w
    obtain rfl : u = 0 := by omega
    rw [dec_small (by decide)]
    go_enter Tryd.func35, Tryd.ntmps35
    go_wp2
    go_ret
    exact ⟨rfl, rfl⟩
  | succ k ih =>
    intro u hu hM w
    have a0 : ¬ (u : Int) < 0 := by omega
    by_cases h : u < 10
    · rw [dec_small h]
      have a1 : (u : Int) < 10 := by omega
      have HX := Lib.hid (dg_fin ⟨u, h⟩)
      generalize UInt8.ofNat (48 + u) = c at *
      have b1 : u ≤ u + 1 := by omega
      have b2 : u + 1 ≤ 10 := by omega
      clear hM hu
      go_enter Tryd.func35, Tryd.ntmps35
      go_wp2
      go_ret
      exact ⟨(by show Ending.returned (.string (ByteArray.extract _ u (u + 1))) = _; rw [HX.out]), rfl⟩
    · have a1 : ¬ (u : Int) < 10 := by omega
      have H1 := Lib.hid (fun w => ih (u / 10) (by omega) (by omega) w)
      have H2 := Lib.hid (fun w => ih (u % 10) (by omega) (by omega) w)
      have HD := Lib.hid (show Lib.decDigits u = Lib.decDigits (u / 10) ++ Lib.decDigits (u % 10) by rw [dec_big h, dec_small (Nat.mod_lt _ (by decide))])
      obtain ⟨p, hp⟩ : ∃ p, p = u / 10 := ⟨_, rfl⟩
      obtain ⟨q, hq⟩ : ∃ q, q = u % 10 := ⟨_, rfl⟩
      rw [← hp] at H1 HD
      rw [← hq] at H2 HD
      have e1 : (u : Int) / 10 = (p : Int) := by omega
      have e2 : (u : Int) % 10 = (q : Int) := by omega
      have s1 := dec_21 p (by omega)
      have s2 := dec_21 q (by omega)
      have z1 : (⟨(Lib.decDigits p).toArray⟩ : ByteArray).size = (Lib.decDigits p).length := by simp [ByteArray.size]
      have z2 : (⟨(Lib.decDigits q).toArray⟩ : ByteArray).size = (Lib.decDigits q).length := by simp [ByteArray.size]
      have n1 : ¬ 9223372036854775807 < (Lib.decDigits p).length + (Lib.decDigits q).length := by omega
      have w1' : wrap64 (p : Int) = (p : Int) := wrap64_id (by omega)
      clear hp hq hM hu h ih s1 s2
      go_enter Tryd.func35, Tryd.ntmps35
      go_wp2_with (first
        | (go_at_call 35; (with_reducible refine (H1.out _).mono ?_); rintro e w1 ⟨rfl, rfl⟩)
        | (go_at_call 35; (with_reducible refine (H2.out _).mono ?_); rintro e w1 ⟨rfl, rfl⟩))
      go_ret
      exact ⟨by rw [HD.out]; simp [ByteArray.ext_iff], rfl⟩
set_option maxRecDepth 100000 in
theorem decimal_any (n : Int) (h : -9223372036854775808 ≤ n ∧ n ≤ 9223372036854775807) (w : World) : Calls Tryd.prog 35 #[.int .i64 n] w (DecIs (Lib.itoa n) w) := by
  by_cases hn : n < 0
  · have hi : Lib.itoa n = 45 :: Lib.decDigits n.natAbs := by unfold Lib.itoa; rw [if_pos hn]
    by_cases hm : n = -9223372036854775808
    · have HD := Lib.hid (show Lib.itoa n = [45, 57, 50, 50, 51, 51, 55, 50, 48, 51, 54, 56, 53, 52, 55, 55, 53, 56, 48, 56] by
        subst hm
        show 45 :: Lib.decDigits 9223372036854775808 = _
        repeat (first | rw [dec_small (by decide)] | rw [dec_big (by decide)])
        rfl)
      have a2 : wrap64 (-n) = n := by unfold wrap64; omega
      clear hi hm h
      go_enter Tryd.func35, Tryd.ntmps35
      go_wp2
      go_ret
      exact ⟨by rw [HD.out]; rfl, rfl⟩
    · obtain ⟨u, rfl⟩ : ∃ u : Nat, n = -(u : Int) := ⟨n.natAbs, by omega⟩
      have e1 : (-(u : Int)).natAbs = u := by omega
      rw [hi, e1]
      have H1 := Lib.hid (fun w => decimal_nat u u (Nat.le_refl _) (by omega) w)
      have a1 : wrap64 (u : Int) = (u : Int) := wrap64_id (by omega)
      have a2 : (-(u : Int) == (u : Int)) = false := by rw [beq_eq_false_iff_ne]; omega
      have s1 := dec_21 u (by omega)
      have z1 : (⟨(Lib.decDigits u).toArray⟩ : ByteArray).size = (Lib.decDigits u).length := by simp [ByteArray.size]
      have n1 : ¬ 9223372036854775807 < 1 + (Lib.decDigits u).length := by omega
      have a3 : -(u : Int) < 0 := hn
      clear hi e1 hm h hn s1
      go_enter Tryd.func35, Tryd.ntmps35
      go_wp2_with (go_at_call 35; (with_reducible refine (H1.out _).mono ?_); rintro e w1 ⟨rfl, rfl⟩)
      go_ret
      exact ⟨by simp [ByteArray.ext_iff], rfl⟩
  · have hi : Lib.itoa n = Lib.decDigits n.toNat := by unfold Lib.itoa; rw [if_neg hn]
    rw [hi]
    have h2 := decimal_nat n.toNat n.toNat (Nat.le_refl _) (by omega) w
    rwa [show ((n.toNat : Nat) : Int) = n by omega] at h2
theorem dec_itoa (u : Nat) : Lib.itoa (u : Int) = Lib.decDigits u := by unfold Lib.itoa; rw [if_neg (by omega)]; rfl
end Go.Proofs.YtjjlodeiejobdaaDoor
