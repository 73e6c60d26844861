/- The state of keys: a slice of commands, opened; commands that are too great. No condition. -/
import Derived.Test.YtimhpncdlaildaaKvE
import Derived.Test.YtimhpncdlaildaaTrH
namespace Go.Proofs.Ytimhpncdlaildaa
open Go.RowKit

abbrev CmdsAt := SliceAt 7 cmdCells
theorem tr_u32 {n : Int} (h : (Lit.int .u32 n).wf = true) : ∃ x : BitVec 32, n = (x.toNat : Int) := by
  have h' : 0 ≤ n ∧ n ≤ 4294967295 := by simpa [Lit.wf, IntKind.min, IntKind.max, IntKind.signed, IntKind.bits] using h
  exact ⟨BitVec.ofInt 32 n, by simp only [BitVec.toNat_ofInt]; omega⟩
theorem cmds_open {H : Type} {enc : TypeId × Value → H} {w : World} {base : Nat} {spare : Nat → Bool} {held : Bool} {a : Option Addr} {len cap : Nat} {d : DataW H} {pl : List MemPlace}
    (h : DataW.Trod enc Try.prog w base spare held 107 (.slice a len cap) d pl) : ∃ z : List CmdV, CmdsAt w a len z := by
  refine open_rows cmdCells Try.underlying107 Try.underlying103 (by kernel_rfl) (by kernel_rfl) (by decide) ?_ h
  intro vs hl hf
  obtain ⟨v0, y0, n0, e0, t0⟩ := hf 0 _ rfl
  obtain ⟨v1, y1, n1, e1, t1⟩ := hf 1 _ rfl
  obtain ⟨v2, y2, n2, e2, t2⟩ := hf 2 _ rfl
  obtain ⟨v3, y3, n3, e3, t3⟩ := hf 3 _ rfl
  obtain ⟨v4, y4, n4, e4, t4⟩ := hf 4 _ rfl
  obtain ⟨v5, y5, n5, e5, t5⟩ := hf 5 _ rfl
  obtain ⟨v6, y6, n6, e6, t6⟩ := hf 6 _ rfl
  obtain ⟨m0, q0, _, f0⟩ := DataW.trod_int Try.underlying5 t0
  obtain ⟨m1, q1, _, f1⟩ := DataW.trod_int Try.underlying101 t1
  obtain ⟨m2, q2, _, f2⟩ := DataW.trod_int Try.underlying5 t2
  obtain ⟨m3, q3, _, _⟩ := DataW.trod_string Try.underlying9 t3
  obtain ⟨m4, q4, _, _⟩ := DataW.trod_string Try.underlying9 t4
  obtain ⟨m5, q5, _, _⟩ := DataW.trod_string Try.underlying9 t5
  obtain ⟨m6, q6, _, f6⟩ := DataW.trod_int Try.underlying5 t6
  obtain ⟨x0, rfl⟩ := tr_u8 f0
  obtain ⟨x1, rfl⟩ := tr_u32 f1
  obtain ⟨x2, rfl⟩ := tr_u8 f2
  obtain ⟨x6, rfl⟩ := tr_u8 f6
  simp only [List.cons.injEq, and_true] at q0 q1 q2 q3 q4 q5 q6
  subst q0 q1 q2 q3 q4 q5 q6
  refine ⟨⟨x0, x1, ⟨x2⟩, m3, m4, m5, x6⟩, ?_⟩
  match vs, hl with
  | [a0, a1, a2, a3, a4, a5, a6], _ =>
    simp only [List.getElem?_cons_zero, List.getElem?_cons_succ, Option.some.injEq] at e0 e1 e2 e3 e4 e5 e6
    rw [e0, e1, e2, e3, e4, e5, e6]
    rfl
theorem cmds_cells {w : World} {a : Option Addr} {len : Nat} {z : List CmdV} (h : CmdsAt w a len z) {i : Nat} (hi : i < len) :
    ∃ b o, a = some ⟨b, o, none⟩ ∧ b < w.heap.size ∧ w.cell? ⟨b, o + i * 7, none⟩ = some (.int .u8 ((z.getD i default).client.toNat : Int)) ∧
      w.cell? ⟨b, o + i * 7 + 1, none⟩ = some (.int .u32 ((z.getD i default).seq.toNat : Int)) ∧ w.cell? ⟨b, o + i * 7 + 2, none⟩ = some (.int .u8 ((z.getD i default).kind.toNat : Int)) ∧
      w.cell? ⟨b, o + i * 7 + 3, none⟩ = some (.string (z.getD i default).key) ∧ w.cell? ⟨b, o + i * 7 + 4, none⟩ = some (.string (z.getD i default).old) ∧
      w.cell? ⟨b, o + i * 7 + 5, none⟩ = some (.string (z.getD i default).fresh) ∧ w.cell? ⟨b, o + i * 7 + 6, none⟩ = some (.int .u8 ((z.getD i default).set.toNat : Int)) := by
  have hl := h.hlen
  have hz : z[i]? = some (z.getD i default) := by simp [List.getD, List.getElem?_eq_getElem (show i < z.length by omega)]
  obtain ⟨b, o, h1, h2, h3⟩ := h.cells i _ hz
  exact ⟨b, o, h1, h2, h3 0 _ rfl, h3 1 _ rfl, h3 2 _ rfl, h3 3 _ rfl, h3 4 _ rfl, h3 5 _ rfl, h3 6 _ rfl⟩

/-- What Great tells. -/
def kgreatS (z : List CmdV) : Bool := decide (100 < z.length) || z.any fun x => decide (300 < x.key.size) || (decide (300 < x.old.size) || decide (300 < x.fresh.size))
theorem kgreat_ok {z : List CmdV} (h : kgreatS z = false) : z.length ≤ 100 ∧ ∀ i, i < z.length → (z.getD i default).key.size ≤ 300 ∧ (z.getD i default).old.size ≤ 300 ∧ (z.getD i default).fresh.size ≤ 300 := by
  simp only [kgreatS, Bool.or_eq_false_iff, decide_eq_false_iff_not, List.any_eq_false] at h
  refine ⟨by omega, fun i hi => ?_⟩
  have := h.2 (z.getD i default) (by rw [List.getD, List.getElem?_eq_getElem hi]; exact List.getElem_mem _)
  simp only [Bool.or_eq_true, decide_eq_true_eq, not_or] at this
  omega

set_option maxHeartbeats 2000000 in
theorem kgreat_any (a : Option Addr) (len cap : Nat) (z : List CmdV) (w : World) (h : CmdsAt w a len z) :
    Calls Try.prog 56 #[.slice a len cap] w fun e w' => e = .returned (.bool (kgreatS z)) ∧ w = w' := by
  have hl := h.hlen
  have hm := h.hmax
  unfold maxLen at hm
  by_cases hbig : 100 < len
  · have hg : kgreatS z = true := by simp [kgreatS, hl, hbig]
    have hbig' : (100 : Int) < (len : Int) := by omega
    have H := Lib.hid h; clear h
    have Hg := Lib.hid hg; clear hg
    clear hl
    go_enter Try.func56, Try.ntmps56
    go_wp2_with fail
    go_ret
    exact ⟨by rw [Hg.out]; rfl, rfl⟩
  · have hbig' : ¬ (100 : Int) < (len : Int) := by omega
    have Hl := Lib.hid hl; clear hl
    have H := Lib.hid h; clear h
    go_enter Try.func56, Try.ntmps56
    go_wp2_with fail
    go_loopw [3] (fun s3 wr => wr = w ∧ ∃ i : Nat, i ≤ len ∧ s3 = .int .i64 (i : Int) ∧ ∀ j, j < i → (z.getD j default).key.size ≤ 300 ∧ (z.getD j default).old.size ≤ 300 ∧ (z.getD j default).fresh.size ≤ 300) (fun s3 _ => len - (intOf s3).toNat)
    case atStart => exact ⟨rfl, 0, by omega, rfl, by omega⟩
    case round =>
      obtain ⟨rfl, i, hi, rfl, hall⟩ := hrel
      by_cases hlt : i < len
      · have hlt' : (i : Int) < (len : Int) := by omega
        obtain ⟨b, o, rfl, _, _, _, c0, c1, c2, c3, _⟩ := cmds_cells H.out hlt
        have hgt : 300 < (z.getD i default).key.size ∨ 300 < (z.getD i default).old.size ∨ 300 < (z.getD i default).fresh.size → kgreatS z = true := by
          intro hg
          have hm' : z.getD i default ∈ z := by
            have := Hl.out
            simp only [List.getD, List.getElem?_eq_getElem (show i < z.length by omega), Option.getD_some]
            exact List.getElem_mem _
          simp only [kgreatS, Bool.or_eq_true, List.any_eq_true, decide_eq_true_eq]
          exact .inr ⟨_, hm', hg⟩
        have Hgt := Lib.hid hgt; clear hgt
        clear c0
        have Hall := Lib.hid hall; clear hall
        have hsize := tsucc (n := i) (by omega)
        generalize hv : (z.getD i default).key = u at *
        generalize hv2 : (z.getD i default).old = v at *
        generalize hv3 : (z.getD i default).fresh = x at *
        have Hv := Lib.hid hv; clear hv
        have Hv2 := Lib.hid hv2; clear hv2
        have Hv3 := Lib.hid hv3; clear hv3
        by_cases hg : 300 < u.size
        · have hg' : (300 : Int) < (u.size : Int) := by omega
          go_wp2_with fail
          go_ret
          exact ⟨by rw [Hgt.out (.inl hg)]; rfl, rfl⟩
        · have hg' : ¬ (300 : Int) < (u.size : Int) := by omega
          by_cases hg2 : 300 < v.size
          · have hg2' : (300 : Int) < (v.size : Int) := by omega
            go_wp2_with fail
            go_ret
            exact ⟨by rw [Hgt.out (.inr (.inl hg2))]; rfl, rfl⟩
          · have hg2' : ¬ (300 : Int) < (v.size : Int) := by omega
            by_cases hg3 : 300 < x.size
            · have hg3' : (300 : Int) < (x.size : Int) := by omega
              go_wp2_with fail
              go_ret
              exact ⟨by rw [Hgt.out (.inr (.inr hg3))]; rfl, rfl⟩
            · have hg3' : ¬ (300 : Int) < (x.size : Int) := by omega
              go_wp2_with fail
              go_roundw
              case rel =>
                refine ⟨trivial, i + 1, by omega, rfl, fun j hj => ?_⟩
                by_cases e : j = i
                · subst e; rw [Hv.out, Hv2.out, Hv3.out]; omega
                · exact Hall.out j (by omega)
              case measure => simp [intOf]; omega
      · have hlt' : ¬ (i : Int) < (len : Int) := by omega
        have hg : kgreatS z = false := by
          have hl := Hl.out
          simp only [kgreatS, Bool.or_eq_false_iff, decide_eq_false_iff_not, List.any_eq_false]
          refine ⟨by omega, fun x hx => ?_⟩
          obtain ⟨j, hj, rfl⟩ := List.getElem_of_mem hx
          have := hall j (by omega)
          rw [List.getD, List.getElem?_eq_getElem hj] at this
          simpa using this
        have Hg := Lib.hid hg; clear hg hall
        go_wp2_with fail
        go_ret
        exact ⟨by rw [Hg.out]; rfl, rfl⟩

end Go.Proofs.Ytimhpncdlaildaa
