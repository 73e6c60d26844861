/- Trees: what an act makes of what a tree holds; the document's says. Condition: at most 1000000 pairs. -/
import Derived.Test.YtimhpncdlaildaaTrP
namespace Go.Proofs.Ytimhpncdlaildaa
open Go.RowKit

theorem look_kv (k : ByteArray) : ∀ {S : Sh}, Asc S.kv → ∀ v, (S.look k = some v ↔ (k, v) ∈ S.kv)
  | .nil, _, v => by simp [Sh.look, Sh.kv]
  | .node k0 v0 wt l r, h, v => by
    obtain ⟨al, ar, a3, a4⟩ := asc_node (show Asc (l.kv ++ (k0, v0) :: r.kv) from h)
    unfold Sh.look
    simp only [Sh.kv, List.mem_append, List.mem_cons]
    by_cases e : k0 = k
    · rw [if_pos e]
      subst e
      constructor
      · intro h; cases h; exact .inr (.inl rfl)
      · rintro (h | h | h)
        · have := a3 _ h; rw [slt_irrefl] at this; cases this
        · cases h; rfl
        · have := a4 _ h; rw [slt_irrefl] at this; cases this
    · rw [if_neg e]
      by_cases hk : slt k k0 = true
      · rw [if_pos hk, look_kv k al v]
        constructor
        · exact .inl
        · rintro (h | h | h)
          · exact h
          · cases h; exact absurd rfl e
          · have := slt_trans hk (a4 _ h); rw [slt_irrefl] at this; cases this
      · rw [if_neg hk, look_kv k ar v]
        constructor
        · exact fun h => .inr (.inr h)
        · rintro (h | h | h)
          · exact absurd (a3 _ h) hk
          · cases h; exact absurd rfl e
          · exact h
theorem mem_asc {p : ByteArray × ByteArray} {M : Prs} (_ : Asc M) (hp : p ∈ M) : ∃ L R, M = L ++ p :: R := by
  obtain ⟨L, R, e⟩ := List.append_of_mem hp
  exact ⟨L, R, e⟩
theorem ins_same {M : Prs} {k v : ByteArray} (h : Asc M) (hp : (k, v) ∈ M) : insL M k v = M := by
  obtain ⟨L, R, rfl⟩ := List.append_of_mem hp
  obtain ⟨f1, f2⟩ := filt_eq h
  unfold insL
  rw [f1, f2]
theorem rm_same {M : Prs} {k : ByteArray} (h : Asc M) (hp : ∀ v, (k, v) ∉ M) : rmL M k = M := by
  have hno : isAt M k = false := by
    rw [Bool.eq_false_iff]
    intro hc
    have hlt := isAt_lt hc
    unfold isAt at hc
    rw [drop_pair hlt] at hc
    simp only [decide_eq_true_eq] at hc
    have hm : M.getD (idxOf M k) pdflt ∈ M := by
      rw [List.getD, List.getElem?_eq_getElem hlt]
      exact List.getElem_mem _
    generalize M.getD (idxOf M k) pdflt = p at *
    apply hp p.2
    rw [← hc]
    exact hm
  exact (rm_no h k hno).symm
theorem step_kv {S : Sh} (h : Asc S.kv) (x : TAct) : (stepSh x S).kv = saysL x S.kv := by
  unfold stepSh saysL
  split
  · unfold delSh
    split
    · rename_i hl
      exact (rm_same h (fun v hv => by have := (look_kv x.key h v).2 hv; rw [hl] at this; cases this)).symm
    · exact kv_del _ h
  · unfold putSh
    split
    · rename_i hl
      exact (ins_same h ((look_kv x.key h x.val).1 hl)).symm
    · exact kv_put _ _ _ h
theorem says_len (x : TAct) (L : Prs) : (saysL x L).length ≤ 2 * L.length + 1 := by
  have h1 := List.length_filter_le (ltB x.key) L
  have h2 := List.length_filter_le (gtB x.key) L
  unfold saysL
  split
  · simp only [rmL, List.length_append]; omega
  · simp only [insL, List.length_append, List.length_cons]; omega

set_option maxRecDepth 100000 in
set_option maxHeartbeats 1000000 in
theorem says_any (x : TAct) (A : Option Addr) (n c : Nat) (L : Prs) (w : World) (h : PairsAt w A n L) (hok : POk A n c) (hty : PTy w A) (hasc : Asc L) (hn : n ≤ 1000000) :
    Calls Try.prog 39 #[.slice A n c, .agg (tactCells x).toArray] w (PrsPost (saysL x L) w) := by
  obtain ⟨x0, x1, x2⟩ := x
  have hb := (Below.refl w.heap.size w).alloc (Nat.le_refl _) (.cells #[.int .u8 (x0.toNat : Int), .string x1, .string x2] 64)
  have hd := del10_any A n c L x1 (w.alloc (.cells #[.int .u8 (x0.toNat : Int), .string x1, .string x2] 64)) (h.below hb) hok (hty.below hb) hasc hn
  have hp := put10_any A n c L x1 x2 (w.alloc (.cells #[.int .u8 (x0.toNat : Int), .string x1, .string x2] 64)) (h.below hb) hok hasc hn
  unfold saysL
  simp only
  change Calls _ _ #[.slice A n c, .agg #[.int .u8 (x0.toNat : Int), .string x1, .string x2]] w _
  have Hb := Lib.hid hb; clear hb h hok hasc hty
  by_cases e : x0.toNat = 0
  · rw [if_pos e]
    have e' : (x0.toNat : Int) = 0 := by omega
    rw [e'] at hd Hb ⊢
    have Hd := Lib.hid hd; clear hd hp
    go_enter Try.func39, Try.ntmps39
    go_wp2_with ((refine Hd.out.mono ?_); rintro e w3 ⟨A3, n3, c3, rfl, hi3, hb3, hok3, hty3⟩; have Hi3 := Lib.hid hi3; clear hi3; have Hb3 := Lib.hid hb3; clear hb3; have Hok3 := Lib.hid hok3; clear hok3; have Hty3 := Lib.hid hty3; clear hty3)
    go_ret
    exact ⟨A3, n3, c3, rfl, Hi3.out, Hb.out.trans (Hb3.out.mono Hb.out.size), Hok3.out, Hty3.out⟩
  · rw [if_neg e]
    have e' : ((x0.toNat : Int) == 0) = false := by simp; omega
    have Hp := Lib.hid hp; clear hd hp
    go_enter Try.func39, Try.ntmps39
    go_wp2_with ((refine Hp.out.mono ?_); rintro e w3 ⟨A3, n3, c3, rfl, hi3, hb3, hok3, hty3⟩; have Hi3 := Lib.hid hi3; clear hi3; have Hb3 := Lib.hid hb3; clear hb3; have Hok3 := Lib.hid hok3; clear hok3; have Hty3 := Lib.hid hty3; clear hty3)
    go_ret
    exact ⟨A3, n3, c3, rfl, Hi3.out, Hb.out.trans (Hb3.out.mono Hb.out.size), Hok3.out, Hty3.out⟩
end Go.Proofs.Ytimhpncdlaildaa
