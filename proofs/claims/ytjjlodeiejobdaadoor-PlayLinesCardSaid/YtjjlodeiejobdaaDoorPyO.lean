/- Play: strconv.ParseUint at base 16 and 8 bits, of a text of two bytes. Condition: the library's variables hold what the program's text lays. -/
import Derived.Test.YtjjlodeiejobdaaDoorPyN
namespace Go.Proofs.YtjjlodeiejobdaaDoor
open Go.RowKit Go.Shelf
/-- 'c | 32'. -/
def lowN (c : Nat) : Nat := c ||| 32
theorem lower_any (c : Nat) (hc : c < 256) (w : World) : Calls Tryd.prog 72 #[.int .u8 (c : Int)] w fun e w' => e = .returned (.int .u8 (lowN c : Int)) ∧ w' = w := by
  have h := u8_or_nat c 32 hc (by decide)
  go_enter Tryd.func72, Tryd.ntmps72
  go_wp2
  go_ret
  refine ⟨?_, rfl⟩
  first | rfl | (rw [h]; rfl) | (simp only [lowN]; exact congrArg _ (congrArg _ h))
/-- What a byte is to ParseUint at base 16. -/
inductive HexC (c : Nat) : Option Nat → Prop
  | dig (d : Nat) (h0 : 48 ≤ c) (h1 : c ≤ 57) (h2 : d = c - 48) : HexC c (some d)
  | lo (d : Nat) (h0 : ¬ (48 ≤ c ∧ c ≤ 57)) (h1 : 97 ≤ lowN c) (h2 : lowN c ≤ 122) (h3 : d = lowN c - 97 + 10) (h4 : d < 16) (h5 : c ≠ 95) : HexC c (some d)
  | far (d : Nat) (h0 : ¬ (48 ≤ c ∧ c ≤ 57)) (h1 : 97 ≤ lowN c) (h2 : lowN c ≤ 122) (h3 : d = lowN c - 97 + 10) (h4 : 16 ≤ d) (h5 : c ≠ 95) : HexC c none
  | none (h0 : ¬ (48 ≤ c ∧ c ≤ 57)) (h1 : ¬ (97 ≤ lowN c ∧ lowN c ≤ 122)) : HexC c none
theorem hexC_fin : ∀ c : Fin 256, if 48 ≤ c.val ∧ c.val ≤ 57 then hexV (UInt8.ofNat c.val) = some (c.val - 48) else if 97 ≤ lowN c.val ∧ lowN c.val ≤ 122 then c.val ≠ 95 ∧ lowN c.val < 128 ∧ (if lowN c.val - 97 + 10 < 16 then hexV (UInt8.ofNat c.val) = some (lowN c.val - 97 + 10) else hexV (UInt8.ofNat c.val) = none) else hexV (UInt8.ofNat c.val) = none := by decide +kernel
theorem hexC (b : UInt8) : HexC b.toNat (hexV b) := by
  have h := hexC_fin ⟨b.toNat, b.toNat_lt⟩
  simp only [UInt8.ofNat_toNat] at h
  by_cases h1 : 48 ≤ b.toNat ∧ b.toNat ≤ 57
  · rw [if_pos h1] at h
    rw [h]
    exact .dig _ h1.1 h1.2 rfl
  · rw [if_neg h1] at h
    by_cases h2 : 97 ≤ lowN b.toNat ∧ lowN b.toNat ≤ 122
    · rw [if_pos h2] at h
      obtain ⟨h3, _, h4⟩ := h
      by_cases h5 : lowN b.toNat - 97 + 10 < 16
      · rw [if_pos h5] at h4
        rw [h4]
        exact .lo _ h1 h2.1 h2.2 rfl h5 h3
      · rw [if_neg h5] at h4
        rw [h4]
        exact .far _ h1 h2.1 h2.2 rfl (by omega) h3
    · rw [if_neg h2] at h
      rw [h]
      exact .none h1 h2
/-- What the first bytes spell. -/
def hexAcc : Bs → Option Nat
  | [] => some 0
  | [a] => hexV a
  | a :: b :: _ => match hexV a, hexV b with
    | some x, some y => some (16 * x + y)
    | _, _ => none
/-- What ParseUint tells of two bytes. -/
def IP16 (a b : UInt8) (w : World) (e : Ending) (w' : World) : Prop := Below w.heap.size w w' ∧ match hexAcc [a, b] with
  | some n => e = .returned (.tuple #[.int .u64 (n : Int), .nilIface])
  | none => e = .returned (.tuple #[.int .u64 0, .iface 106 (.int .i64 2)])
theorem IP16.ok {a b : UInt8} {w w' : World} {n : Nat} (hb : Below w.heap.size w w') (h : hexAcc [a, b] = some n) : IP16 a b w (.returned (.tuple #[.int .u64 (n : Int), .nilIface])) w' := by
  unfold IP16
  rw [h]
  exact ⟨hb, rfl⟩
theorem IP16.bad {a b : UInt8} {w w' : World} (hb : Below w.heap.size w w') (h : hexAcc [a, b] = none) : IP16 a b w (.returned (.tuple #[.int .u64 0, .iface 106 (.int .i64 2)])) w' := by
  unfold IP16
  rw [h]
  exact ⟨hb, rfl⟩
set_option maxHeartbeats 6400000 in
set_option maxRecDepth 100000 in
theorem ip16_any (a b : UInt8) (w : World) :
    Calls Tryd.prog 61 #[.string ⟨#[a, b]⟩, .int .i64 16, .int .i64 8] w (IP16 a b w) := by
  have hcv := Lib.run_convert_string_bytes (P := Tryd.prog) w 9 41 5 ⟨#[a, b]⟩ Tryd.underlying9 Tryd.underlying41 Tryd.underlying5
  rw [show (⟨#[a, b]⟩ : ByteArray).size = 2 from rfl] at hcv
  have Hlw := Lib.hid (fun (c : Nat) (hc : c < 256) (y : World) => lower_any c hc y)
  go_enter Tryd.func61, Tryd.ntmps61
  go_upto_region 36 with fail
  have hb1 := Lib.bytesWorld_below w 5 ⟨#[a, b]⟩
  have hc0 := Lib.bytesWorld_cell w 5 ⟨#[a, b]⟩ 0 (show 0 < 2 by decide)
  have hc1 := Lib.bytesWorld_cell w 5 ⟨#[a, b]⟩ 1 (show 1 < 2 by decide)
  have HW := Lib.hid (And.intro hc0 hc1)
  have HB := Lib.hid hb1
  clear hb1 hc0 hc1 hcv
  generalize Lib.bytesWorld w 5 ⟨#[a, b]⟩ = w1 at *
  generalize w.heap.size = g at HW ⊢
  go_loopw [12, 13, 101] (fun s12 s13 s101 wr => ∃ i n : Nat, s12 = .bool false ∧ s101 = .int .i64 (i : Int) ∧ s13 = .int .u64 (n : Int) ∧ i ≤ 2 ∧ n < 256 ∧ hexAcc ([a, b].take i) = some n ∧ wr = w1) (fun _ _ s101 _ => 2 - (intOf s101).toNat)
  case atStart => exact ⟨0, 0, rfl, rfl, rfl, by decide, by decide, rfl, rfl⟩
  case round =>
    obtain ⟨i, n, rfl, rfl, rfl, hi, hn, hA, rfl⟩ := hrel
    by_cases hi2 : i = 2
    · subst hi2
      have HA := Lib.hid hA
      clear hA
      go_wp2
      go_ret2
      exact .ok HB.out HA.out
    · have hlt : (i : Int) < 2 := by omega
      obtain ⟨c, hc, hget⟩ : ∃ c : UInt8, wr.cell? ⟨g, i, none⟩ = some (.int .u8 (c.toNat : Int)) ∧ ([a, b] : Bs)[i]? = some c := by
        rcases (show i = 0 ∨ i = 1 by omega) with rfl | rfl
        · exact ⟨a, HW.out.1, rfl⟩
        · exact ⟨b, HW.out.2, rfl⟩
      have hx := hexC c
      have hcl := c.toNat_lt
      obtain ⟨cn, hcn⟩ : ∃ n, n = c.toNat := ⟨_, rfl⟩
      rw [← hcn] at hx hcl hc
      obtain ⟨hv, hhv⟩ : ∃ v, v = hexV c := ⟨_, rfl⟩
      rw [← hhv] at hx
      have hn1 : i = 0 ∧ n = 0 ∨ i = 1 ∧ n < 16 := by
        rcases (show i = 0 ∨ i = 1 by omega) with rfl | rfl
        · exact .inl ⟨rfl, by simp [hexAcc] at hA; omega⟩
        · right
          simp [hexAcc] at hA
          refine ⟨rfl, ?_⟩
          have := hexC a
          rw [hA] at this
          cases this <;> omega
      have hstep : ∀ d, hv = some d → hexAcc ([a, b].take (i + 1)) = some (n * 16 + d) := by
        intro d hd
        rw [hhv] at hd
        rcases hn1 with ⟨rfl, rfl⟩ | ⟨rfl, _⟩
        · simp at hget; subst hget; simp [hexAcc, hd]
        · simp at hget hA; subst hget; simp [hexAcc] at hA ⊢; simp [hA, hd, Nat.mul_comm]
      have hstop : hv = none → hexAcc [a, b] = none := by
        intro hd
        rw [hhv] at hd
        rcases hn1 with ⟨rfl, rfl⟩ | ⟨rfl, _⟩
        · simp at hget; subst hget; simp [hexAcc, hd]
        · simp at hget; subst hget; simp [hexAcc, hd]
      have HF := Lib.hid (And.intro hstep (And.intro hstop hn1))
      clear hstep hstop hn1 hget hhv hA hcn
      have Hlc := Lib.hid (Hlw.out cn hcl)
      cases hx with
      | dig d h0 h1 h2 =>
        have e1 : ((cn : Int) == 95) = false := by rw [beq_eq_false_iff_ne]; omega
        have e2 : ((48 : Int) ≤ (cn : Int)) = True := by simp; omega
        have e3 : ((cn : Int) ≤ 57) = True := by simp; omega
        have e4 : IntKind.u8.wrap ((cn : Int) - 48) = (d : Int) := by rw [IntKind.wrap_u8']; omega
        have hd16 : d < 16 := by omega
        have hs := HF.out.1 d rfl
        have hn16 : n < 16 := by rcases HF.out.2.2 with h | h <;> omega
        clear h0 h1 h2
        have e5 : ((16 : Int) ≤ (d : Int)) = False := by simp; omega
        have e6 : ((1152921504606846976 : Int) ≤ (n : Int)) = False := by simp; omega
        obtain ⟨k, hk⟩ : ∃ k, k = n * 16 := ⟨_, rfl⟩
        obtain ⟨m, hm⟩ : ∃ m, m = k + d := ⟨_, rfl⟩
        have e7 : IntKind.u64.wrap ((n : Int) * 16) = (k : Int) := by rw [IntKind.wrap_u64]; omega
        have e8 : IntKind.u64.wrap ((k : Int) + (d : Int)) = (m : Int) := by rw [IntKind.wrap_u64]; omega
        have e14 : IntKind.u64.wrap (d : Int) = (d : Int) := by rw [IntKind.wrap_u64]; omega
        have e9 : ((m : Int) < (k : Int)) = False := by simp; omega
        have e10 : ((255 : Int) < (m : Int)) = False := by simp; omega
        have e11 : IntKind.i64.wrap ((i : Int) + 1) = ((i + 1 : Nat) : Int) := by rw [IntKind.wrap_i64]; omega
        have HM := Lib.hid (show hexAcc ([a, b].take (i + 1)) = some m ∧ m < 256 from ⟨by rw [hs, hm, hk], by omega⟩)
        clear hs hn16 hd16 hk hm
        go_wp2
        exact ⟨⟨i + 1, m, rfl, rfl, rfl, by omega, HM.out.2, HM.out.1, trivial⟩, by simp only [intOf]; omega⟩
      | lo d h0 h1 h2 h3 h4 h5 =>
        rcases (show cn < 48 ∨ (48 ≤ cn ∧ 57 < cn) by omega) with q | q
        · have e2 : ((48 : Int) ≤ (cn : Int)) = False := by simp; omega
          have e1 : ((cn : Int) == 95) = false := by rw [beq_eq_false_iff_ne]; omega
          have e3 : ((97 : Int) ≤ (lowN cn : Int)) = True := by simp; omega
          have e4 : ((lowN cn : Int) ≤ 122) = True := by simp; omega
          obtain ⟨l9, hl9⟩ : ∃ l, l = lowN cn - 97 := ⟨_, rfl⟩
          have e12 : IntKind.u8.wrap ((lowN cn : Int) - 97) = (l9 : Int) := by rw [IntKind.wrap_u8']; omega
          have e13 : IntKind.u8.wrap ((l9 : Int) + 10) = (d : Int) := by rw [IntKind.wrap_u8']; omega
          have hs := HF.out.1 d rfl
          have hn16 : n < 16 := by rcases HF.out.2.2 with h | h <;> omega
          have hd16 := h4
          clear h0 h1 h2 h3 h4 h5 q hl9
          generalize lowN cn = lc at *
          have e5 : ((16 : Int) ≤ (d : Int)) = False := by simp; omega
          have e6 : ((1152921504606846976 : Int) ≤ (n : Int)) = False := by simp; omega
          obtain ⟨k, hk⟩ : ∃ k, k = n * 16 := ⟨_, rfl⟩
          obtain ⟨m, hm⟩ : ∃ m, m = k + d := ⟨_, rfl⟩
          have e7 : IntKind.u64.wrap ((n : Int) * 16) = (k : Int) := by rw [IntKind.wrap_u64]; omega
          have e8 : IntKind.u64.wrap ((k : Int) + (d : Int)) = (m : Int) := by rw [IntKind.wrap_u64]; omega
          have e14 : IntKind.u64.wrap (d : Int) = (d : Int) := by rw [IntKind.wrap_u64]; omega
          have e9 : ((m : Int) < (k : Int)) = False := by simp; omega
          have e10 : ((255 : Int) < (m : Int)) = False := by simp; omega
          have e11 : IntKind.i64.wrap ((i : Int) + 1) = ((i + 1 : Nat) : Int) := by rw [IntKind.wrap_i64]; omega
          have HM := Lib.hid (show hexAcc ([a, b].take (i + 1)) = some m ∧ m < 256 from ⟨by rw [hs, hm, hk], by omega⟩)
          clear hs hn16 hd16 hk hm
          go_wp2_with ((with_reducible refine (Hlc.out _).mono ?_); rintro e w' ⟨rfl, rfl⟩)
          exact ⟨⟨i + 1, m, rfl, rfl, rfl, by omega, HM.out.2, HM.out.1, trivial⟩, by simp only [intOf]; omega⟩
        · have e2 : ((48 : Int) ≤ (cn : Int)) = True := by simp; omega
          have e15 : ((cn : Int) ≤ 57) = False := by simp; omega
          have e1 : ((cn : Int) == 95) = false := by rw [beq_eq_false_iff_ne]; omega
          have e3 : ((97 : Int) ≤ (lowN cn : Int)) = True := by simp; omega
          have e4 : ((lowN cn : Int) ≤ 122) = True := by simp; omega
          obtain ⟨l9, hl9⟩ : ∃ l, l = lowN cn - 97 := ⟨_, rfl⟩
          have e12 : IntKind.u8.wrap ((lowN cn : Int) - 97) = (l9 : Int) := by rw [IntKind.wrap_u8']; omega
          have e13 : IntKind.u8.wrap ((l9 : Int) + 10) = (d : Int) := by rw [IntKind.wrap_u8']; omega
          have hs := HF.out.1 d rfl
          have hn16 : n < 16 := by rcases HF.out.2.2 with h | h <;> omega
          have hd16 := h4
          clear h0 h1 h2 h3 h4 h5 q hl9
          generalize lowN cn = lc at *
          have e5 : ((16 : Int) ≤ (d : Int)) = False := by simp; omega
          have e6 : ((1152921504606846976 : Int) ≤ (n : Int)) = False := by simp; omega
          obtain ⟨k, hk⟩ : ∃ k, k = n * 16 := ⟨_, rfl⟩
          obtain ⟨m, hm⟩ : ∃ m, m = k + d := ⟨_, rfl⟩
          have e7 : IntKind.u64.wrap ((n : Int) * 16) = (k : Int) := by rw [IntKind.wrap_u64]; omega
          have e8 : IntKind.u64.wrap ((k : Int) + (d : Int)) = (m : Int) := by rw [IntKind.wrap_u64]; omega
          have e14 : IntKind.u64.wrap (d : Int) = (d : Int) := by rw [IntKind.wrap_u64]; omega
          have e9 : ((m : Int) < (k : Int)) = False := by simp; omega
          have e10 : ((255 : Int) < (m : Int)) = False := by simp; omega
          have e11 : IntKind.i64.wrap ((i : Int) + 1) = ((i + 1 : Nat) : Int) := by rw [IntKind.wrap_i64]; omega
          have HM := Lib.hid (show hexAcc ([a, b].take (i + 1)) = some m ∧ m < 256 from ⟨by rw [hs, hm, hk], by omega⟩)
          clear hs hn16 hd16 hk hm
          go_wp2_with ((with_reducible refine (Hlc.out _).mono ?_); rintro e w' ⟨rfl, rfl⟩)
          exact ⟨⟨i + 1, m, rfl, rfl, rfl, by omega, HM.out.2, HM.out.1, trivial⟩, by simp only [intOf]; omega⟩
      | far d h0 h1 h2 h3 h4 h5 =>
        rcases (show cn < 48 ∨ (48 ≤ cn ∧ 57 < cn) by omega) with q | q
        · have e2 : ((48 : Int) ≤ (cn : Int)) = False := by simp; omega
          have e1 : ((cn : Int) == 95) = false := by rw [beq_eq_false_iff_ne]; omega
          have e3 : ((97 : Int) ≤ (lowN cn : Int)) = True := by simp; omega
          have e4 : ((lowN cn : Int) ≤ 122) = True := by simp; omega
          obtain ⟨l9, hl9⟩ : ∃ l, l = lowN cn - 97 := ⟨_, rfl⟩
          have e12 : IntKind.u8.wrap ((lowN cn : Int) - 97) = (l9 : Int) := by rw [IntKind.wrap_u8']; omega
          have e13 : IntKind.u8.wrap ((l9 : Int) + 10) = (d : Int) := by rw [IntKind.wrap_u8']; omega
          have hs := HF.out.2.1 rfl
          have HS := Lib.hid hs
          have e5 : ((16 : Int) ≤ (d : Int)) = True := by simp; omega
          clear h0 h1 h2 h3 h4 h5 q hl9 hs
          generalize lowN cn = lc at *
          go_wp2_with ((with_reducible refine (Hlc.out _).mono ?_); rintro e w' ⟨rfl, rfl⟩)
          go_ret2
          exact .bad HB.out HS.out
        · have e2 : ((48 : Int) ≤ (cn : Int)) = True := by simp; omega
          have e15 : ((cn : Int) ≤ 57) = False := by simp; omega
          have e1 : ((cn : Int) == 95) = false := by rw [beq_eq_false_iff_ne]; omega
          have e3 : ((97 : Int) ≤ (lowN cn : Int)) = True := by simp; omega
          have e4 : ((lowN cn : Int) ≤ 122) = True := by simp; omega
          obtain ⟨l9, hl9⟩ : ∃ l, l = lowN cn - 97 := ⟨_, rfl⟩
          have e12 : IntKind.u8.wrap ((lowN cn : Int) - 97) = (l9 : Int) := by rw [IntKind.wrap_u8']; omega
          have e13 : IntKind.u8.wrap ((l9 : Int) + 10) = (d : Int) := by rw [IntKind.wrap_u8']; omega
          have hs := HF.out.2.1 rfl
          have HS := Lib.hid hs
          have e5 : ((16 : Int) ≤ (d : Int)) = True := by simp; omega
          clear h0 h1 h2 h3 h4 h5 q hl9 hs
          generalize lowN cn = lc at *
          go_wp2_with ((with_reducible refine (Hlc.out _).mono ?_); rintro e w' ⟨rfl, rfl⟩)
          go_ret2
          exact .bad HB.out HS.out
      | none h0 h1 =>
        rcases (show cn < 48 ∨ (48 ≤ cn ∧ 57 < cn) by omega) with q | q
        · have e2 : ((48 : Int) ≤ (cn : Int)) = False := by simp; omega
          have hs := HF.out.2.1 rfl
          have HS := Lib.hid hs
          by_cases h95 : cn = 95
          · have e1 : ((cn : Int) == 95) = true := by simp; omega
            clear h95
            rcases (show lowN cn < 97 ∨ (97 ≤ lowN cn ∧ 122 < lowN cn) by omega) with r | r
            · have e3 : ((97 : Int) ≤ (lowN cn : Int)) = False := by simp; omega
              clear h0 h1 q r hs
              generalize lowN cn = lc at *
              go_wp2_with ((with_reducible refine (Hlc.out _).mono ?_); rintro e w' ⟨rfl, rfl⟩)
              go_ret2
              exact .bad HB.out HS.out
            · have e3 : ((97 : Int) ≤ (lowN cn : Int)) = True := by simp; omega
              have e4 : ((lowN cn : Int) ≤ 122) = False := by simp; omega
              clear h0 h1 q r hs
              generalize lowN cn = lc at *
              go_wp2_with ((with_reducible refine (Hlc.out _).mono ?_); rintro e w' ⟨rfl, rfl⟩)
              go_ret2
              exact .bad HB.out HS.out
          · have e1 : ((cn : Int) == 95) = false := by rw [beq_eq_false_iff_ne]; omega
            clear h95
            rcases (show lowN cn < 97 ∨ (97 ≤ lowN cn ∧ 122 < lowN cn) by omega) with r | r
            · have e3 : ((97 : Int) ≤ (lowN cn : Int)) = False := by simp; omega
              clear h0 h1 q r hs
              generalize lowN cn = lc at *
              go_wp2_with ((with_reducible refine (Hlc.out _).mono ?_); rintro e w' ⟨rfl, rfl⟩)
              go_ret2
              exact .bad HB.out HS.out
            · have e3 : ((97 : Int) ≤ (lowN cn : Int)) = True := by simp; omega
              have e4 : ((lowN cn : Int) ≤ 122) = False := by simp; omega
              clear h0 h1 q r hs
              generalize lowN cn = lc at *
              go_wp2_with ((with_reducible refine (Hlc.out _).mono ?_); rintro e w' ⟨rfl, rfl⟩)
              go_ret2
              exact .bad HB.out HS.out
        · have e2 : ((48 : Int) ≤ (cn : Int)) = True := by simp; omega
          have e15 : ((cn : Int) ≤ 57) = False := by simp; omega
          have hs := HF.out.2.1 rfl
          have HS := Lib.hid hs
          by_cases h95 : cn = 95
          · have e1 : ((cn : Int) == 95) = true := by simp; omega
            clear h95
            rcases (show lowN cn < 97 ∨ (97 ≤ lowN cn ∧ 122 < lowN cn) by omega) with r | r
            · have e3 : ((97 : Int) ≤ (lowN cn : Int)) = False := by simp; omega
              clear h0 h1 q r hs
              generalize lowN cn = lc at *
              go_wp2_with ((with_reducible refine (Hlc.out _).mono ?_); rintro e w' ⟨rfl, rfl⟩)
              go_ret2
              exact .bad HB.out HS.out
            · have e3 : ((97 : Int) ≤ (lowN cn : Int)) = True := by simp; omega
              have e4 : ((lowN cn : Int) ≤ 122) = False := by simp; omega
              clear h0 h1 q r hs
              generalize lowN cn = lc at *
              go_wp2_with ((with_reducible refine (Hlc.out _).mono ?_); rintro e w' ⟨rfl, rfl⟩)
              go_ret2
              exact .bad HB.out HS.out
          · have e1 : ((cn : Int) == 95) = false := by rw [beq_eq_false_iff_ne]; omega
            clear h95
            rcases (show lowN cn < 97 ∨ (97 ≤ lowN cn ∧ 122 < lowN cn) by omega) with r | r
            · have e3 : ((97 : Int) ≤ (lowN cn : Int)) = False := by simp; omega
              clear h0 h1 q r hs
              generalize lowN cn = lc at *
              go_wp2_with ((with_reducible refine (Hlc.out _).mono ?_); rintro e w' ⟨rfl, rfl⟩)
              go_ret2
              exact .bad HB.out HS.out
            · have e3 : ((97 : Int) ≤ (lowN cn : Int)) = True := by simp; omega
              have e4 : ((lowN cn : Int) ≤ 122) = False := by simp; omega
              clear h0 h1 q r hs
              generalize lowN cn = lc at *
              go_wp2_with ((with_reducible refine (Hlc.out _).mono ?_); rintro e w' ⟨rfl, rfl⟩)
              go_ret2
              exact .bad HB.out HS.out
end Go.Proofs.YtjjlodeiejobdaaDoor
