/- Trees: what the laws do by an act; acts that are too great; what is shared. Condition: few enough nodes that their number is an int. -/
import Derived.Test.YtimhpncdlaildaaTrG
import Derived.Test.YtimhpncdlaildaaOpen
namespace Go.Proofs.Ytimhpncdlaildaa
open Go.RowKit

structure TAct where
  act : BitVec 8
  key : ByteArray
  val : ByteArray
instance : Inhabited TAct := ⟨⟨0, ByteArray.empty, ByteArray.empty⟩⟩
def tactCells (x : TAct) : List Value := [.int .u8 (x.act.toNat : Int), .string x.key, .string x.val]
abbrev TActsAt := SliceAt 3 tactCells
theorem tr_u8 {n : Int} (h : (Lit.int .u8 n).wf = true) : ∃ x : BitVec 8, n = (x.toNat : Int) := by
  have h' : 0 ≤ n ∧ n ≤ 255 := by simpa [Lit.wf, IntKind.min, IntKind.max, IntKind.signed, IntKind.bits] using h
  exact ⟨BitVec.ofInt 8 n, by simp only [BitVec.toNat_ofInt]; omega⟩
theorem tacts_open {H : Type} {enc : TypeId × Value → H} {w : World} {base : Nat} {spare : Nat → Bool} {held : Bool} {a : Option Addr} {len cap : Nat} {d : DataW H} {pl : List MemPlace}
    (h : DataW.Trod enc Try.prog w base spare held 56 (.slice a len cap) d pl) : ∃ z : List TAct, TActsAt w a len z := by
  refine open_rows tactCells Try.underlying56 Try.underlying64 (by kernel_rfl) (by kernel_rfl) (by decide) ?_ h
  intro vs hl hf
  obtain ⟨v0, y0, n0, e0, t0⟩ := hf 0 _ rfl
  obtain ⟨v1, y1, n1, e1, t1⟩ := hf 1 _ rfl
  obtain ⟨v2, y2, n2, e2, t2⟩ := hf 2 _ rfl
  obtain ⟨m0, q0, _, f0⟩ := DataW.trod_int Try.underlying5 t0
  obtain ⟨m1, q1, _, _⟩ := DataW.trod_string Try.underlying9 t1
  obtain ⟨m2, q2, _, _⟩ := DataW.trod_string Try.underlying9 t2
  obtain ⟨x0, rfl⟩ := tr_u8 f0
  simp only [List.cons.injEq, and_true] at q0 q1 q2
  subst q0 q1 q2
  refine ⟨⟨x0, m1, m2⟩, ?_⟩
  match vs, hl with
  | [a0, a1, a2], _ =>
    simp only [List.getElem?_cons_zero, List.getElem?_cons_succ, Option.some.injEq] at e0 e1 e2
    rw [e0, e1, e2]
    rfl
theorem tacts_cells {w : World} {a : Option Addr} {len : Nat} {z : List TAct} (h : TActsAt w a len z) {i : Nat} (hi : i < len) :
    ∃ b o, a = some ⟨b, o, none⟩ ∧ b < w.heap.size ∧ w.cell? ⟨b, o + i * 3, none⟩ = some (.int .u8 ((z.getD i default).act.toNat : Int)) ∧
      w.cell? ⟨b, o + i * 3 + 1, none⟩ = some (.string (z.getD i default).key) ∧ w.cell? ⟨b, o + i * 3 + 2, none⟩ = some (.string (z.getD i default).val) := by
  have hl := h.hlen
  have hz : z[i]? = some (z.getD i default) := by simp [List.getD, List.getElem?_eq_getElem (show i < z.length by omega)]
  obtain ⟨b, o, h1, h2, h3⟩ := h.cells i _ hz
  exact ⟨b, o, h1, h2, h3 0 _ rfl, h3 1 _ rfl, h3 2 _ rfl⟩

/-- What Great tells. -/
def tgreatS (z : List TAct) : Bool := decide (300 < z.length) || z.any fun x => decide (100 < x.key.size) || decide (100 < x.val.size)
theorem tgreat_ok {z : List TAct} (h : tgreatS z = false) : z.length ≤ 300 ∧ ∀ i, i < z.length → (z.getD i default).key.size ≤ 100 ∧ (z.getD i default).val.size ≤ 100 := by
  simp only [tgreatS, Bool.or_eq_false_iff, decide_eq_false_iff_not, List.any_eq_false] at h
  refine ⟨by omega, fun i hi => ?_⟩
  have := h.2 (z.getD i default) (by rw [List.getD, List.getElem?_eq_getElem hi]; exact List.getElem_mem _)
  simp only [Bool.or_eq_true, decide_eq_true_eq, not_or] at this
  omega
theorem tsucc {n : Nat} (h : n ≤ 9223372036854775806) : IntKind.i64.wrap ((n : Int) + 1) = ((n + 1 : Nat) : Int) := by rw [IntKind.wrap_i64] <;> omega

set_option maxHeartbeats 2000000 in
theorem tgreat_any (a : Option Addr) (len cap : Nat) (z : List TAct) (w : World) (h : TActsAt w a len z) :
    Calls Try.prog 36 #[.slice a len cap] w fun e w' => e = .returned (.bool (tgreatS z)) ∧ w = w' := by
  have hl := h.hlen
  have hm := h.hmax
  unfold maxLen at hm
  by_cases hbig : 300 < len
  · have hg : tgreatS z = true := by simp [tgreatS, hl, hbig]
    have hbig' : (300 : Int) < (len : Int) := by omega
    have H := Lib.hid h; clear h
    have Hg := Lib.hid hg; clear hg
    clear hl
    go_enter Try.func36, Try.ntmps36
    go_wp2_with fail
    go_ret
    exact ⟨by rw [Hg.out]; rfl, rfl⟩
  · have hbig' : ¬ (300 : Int) < (len : Int) := by omega
    have Hl := Lib.hid hl; clear hl
    have H := Lib.hid h; clear h
    go_enter Try.func36, Try.ntmps36
    go_wp2_with fail
    go_loopw [3] (fun s3 wr => wr = w ∧ ∃ i : Nat, i ≤ len ∧ s3 = .int .i64 (i : Int) ∧ ∀ j, j < i → (z.getD j default).key.size ≤ 100 ∧ (z.getD j default).val.size ≤ 100) (fun s3 _ => len - (intOf s3).toNat)
    case atStart => exact ⟨rfl, 0, by omega, rfl, by omega⟩
    case round =>
      obtain ⟨rfl, i, hi, rfl, hall⟩ := hrel
      by_cases hlt : i < len
      · have hlt' : (i : Int) < (len : Int) := by omega
        obtain ⟨b, o, rfl, _, c0, c1, c2⟩ := tacts_cells H.out hlt
        have hgt : 100 < (z.getD i default).key.size ∨ 100 < (z.getD i default).val.size → tgreatS z = true := by
          intro hg
          have hm' : z.getD i default ∈ z := by
            have := Hl.out
            simp only [List.getD, List.getElem?_eq_getElem (show i < z.length by omega), Option.getD_some]
            exact List.getElem_mem _
          simp only [tgreatS, Bool.or_eq_true, List.any_eq_true, decide_eq_true_eq]
          exact .inr ⟨_, hm', hg⟩
        have Hgt := Lib.hid hgt; clear hgt
        clear c0
        have Hall := Lib.hid hall; clear hall
        have hsize := tsucc (n := i) (by omega)
        generalize hv : (z.getD i default).key = u at *
        generalize hv2 : (z.getD i default).val = v at *
        have Hv := Lib.hid hv; clear hv
        have Hv2 := Lib.hid hv2; clear hv2
        by_cases hg : 100 < u.size
        · have hg' : (100 : Int) < (u.size : Int) := by omega
          go_wp2_with fail
          go_ret
          exact ⟨by rw [Hgt.out (.inl hg)]; rfl, rfl⟩
        · have hg' : ¬ (100 : Int) < (u.size : Int) := by omega
          by_cases hg2 : 100 < v.size
          · have hg2' : (100 : Int) < (v.size : Int) := by omega
            go_wp2_with fail
            go_ret
            exact ⟨by rw [Hgt.out (.inr hg2)]; rfl, rfl⟩
          · have hg2' : ¬ (100 : Int) < (v.size : Int) := by omega
            go_wp2_with fail
            go_roundw
            case rel =>
              refine ⟨trivial, i + 1, by omega, rfl, fun j hj => ?_⟩
              by_cases e : j = i
              · subst e; rw [Hv.out, Hv2.out]; omega
              · exact Hall.out j (by omega)
            case measure => simp [intOf]; omega
      · have hlt' : ¬ (i : Int) < (len : Int) := by omega
        have hg : tgreatS z = false := by
          have hl := Hl.out
          simp only [tgreatS, Bool.or_eq_false_iff, decide_eq_false_iff_not, List.any_eq_false]
          refine ⟨by omega, fun x hx => ?_⟩
          obtain ⟨j, hj, rfl⟩ := List.getElem_of_mem hx
          have := hall j (by omega)
          rw [List.getD, List.getElem?_eq_getElem hj] at this
          simpa using this
        have Hg := Lib.hid hg; clear hg hall
        go_wp2_with fail
        go_ret
        exact ⟨by rw [Hg.out]; rfl, rfl⟩

def sameB (x : TAct) (T : Tr) : Bool := if x.act.toNat = 0 then (T.look x.key).isNone else decide (T.look x.key = some x.val)
def stepSh (x : TAct) (S : Sh) : Sh := if x.act.toNat = 0 then delSh x.key S (S.look x.key) else putSh x.key x.val S (S.look x.key)
theorem asc_step {S : Sh} (h : Asc S.kv) (x : TAct) : Asc (stepSh x S).kv := by
  unfold stepSh
  split
  · exact asc_del h _ _
  · exact asc_put h _ _ _

set_option maxRecDepth 100000 in
set_option maxHeartbeats 2000000 in
theorem does_any (x : TAct) (hk : x.key.size ≤ maxLen) (T : Tr) (n : Nat) (w : World) (hn : n ≤ w.heap.size) (hlo : T.Lo n) (hat : TreeAt w T) (hc : T.cnt ≤ 4611686018427387903) :
    Calls Try.prog 38 #[.pointer T.ptr, .agg (tactCells x).toArray] w fun e w' => ∃ X, e = .returned (.pointer X.ptr) ∧ ActPost n (sameB x T) T (stepSh x T.sh) w w' X := by
  obtain ⟨x0, x1, x2⟩ := x
  simp only at hk
  have hb := (Below.refl w.heap.size w).alloc (Nat.le_refl _) (.cells #[.int .u8 (x0.toNat : Int), .string x1, .string x2] 64)
  have hd := delT_any x1 T n (w.alloc (.cells #[.int .u8 (x0.toNat : Int), .string x1, .string x2] 64)) (Nat.le_trans hn hb.size) hlo (hat.below hb) hc
  have hp := putT_any x1 x2 hk T n (w.alloc (.cells #[.int .u8 (x0.toNat : Int), .string x1, .string x2] 64)) (Nat.le_trans hn hb.size) hlo (hat.below hb) hc
  unfold sameB stepSh
  simp only
  rw [← sh_look]
  change Calls _ _ #[.pointer T.ptr, .agg #[.int .u8 (x0.toNat : Int), .string x1, .string x2]] w _
  have Hb := Lib.hid hb; clear hb hat
  by_cases e : x0.toNat = 0
  · rw [if_pos e, if_pos e]
    have e' : (x0.toNat : Int) = 0 := by omega
    rw [e'] at hd Hb ⊢
    have Hd := Lib.hid hd; clear hd hp
    go_enter Try.func38, Try.ntmps38
    go_wp2_with ((refine Hd.out.mono ?_); rintro e w3 ⟨X, rfl, hx⟩; have Hx := Lib.hid hx; clear hx)
    go_ret
    exact ⟨X, rfl, Hx.out.at_, Hb.out.trans (Hx.out.bel.mono Hb.out.size), Hx.out.eqT, Hx.out.neT, Hx.out.mad, Hx.out.new, Hx.out.shp, Hx.out.num⟩
  · rw [if_neg e, if_neg e]
    have e' : ((x0.toNat : Int) == 0) = false := by simp; omega
    have Hp := Lib.hid hp; clear hd hp
    go_enter Try.func38, Try.ntmps38
    go_wp2_with ((refine Hp.out.mono ?_); rintro e w3 ⟨X, rfl, hx⟩; have Hx := Lib.hid hx; clear hx)
    go_ret
    exact ⟨X, rfl, Hx.out.at_, Hb.out.trans (Hx.out.bel.mono Hb.out.size), Hx.out.eqT, Hx.out.neT, Hx.out.mad, Hx.out.new, Hx.out.shp, Hx.out.num⟩
end Go.Proofs.Ytimhpncdlaildaa
