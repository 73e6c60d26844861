/- The reference's steps and checksum, beside the program's. No condition but the reach of a string. -/
import Derived.Test.YtkngadbeflepoaaMMachineBack0
import Derived.Test.YtkngadbeflepoaaMMachineBack14
import Derived.Test.YtkngadbeflepoaaMMachineBack13
namespace Go.Proofs.Ytkngadbeflepoaa
open Go.RowKit

set_option maxHeartbeats 400000 in
theorem steps_any (x : BitVec 64) (n : Nat) (hn : n ≤ 9223372036854775806) (w : World) :
    Calls Try.prog 128 #[.int .u64 (x.toNat : Int), .int .i64 (n : Int)] w fun e w' => e = .returned (.int .u64 (Crc.sts n x).toNat) ∧ w = w' := by
  go_enter Try.func128, Try.ntmps128
  go_wp2
  go_loop [0, 5] (fun m i => ∃ k : Nat, k ≤ n ∧ i = .int .i64 k ∧ m = .int .u64 (Crc.sts k x).toNat) (fun _ i => n - (intOf i).toNat)
  case atStart => exact ⟨0, by omega, rfl, rfl⟩
  case round =>
    obtain ⟨k, hk, rfl, rfl⟩ := hrel
    generalize hy : Crc.sts k x = y
    have Hy := Lib.hid hy; clear hy
    have hlt := y.isLt
    go_wp2
    · go_round
      case rel => exact ⟨k + 1, by omega, by go_num, by rw [Crc.st_odd' _ ‹_›, ← Hy.out]; rfl⟩
      case measure => simp [intOf]; omega
    · go_round
      case rel => exact ⟨k + 1, by omega, by go_num, by rw [Crc.st_even' _ ‹_›, ← Hy.out]; rfl⟩
      case measure => simp [intOf]; omega
    · have h8 : k = n := by omega
      subst h8
      go_ret
      exact ⟨by rw [Hy.out]; rfl, rfl⟩

theorem steps_8 (x : BitVec 64) (w : World) :
    Calls Try.prog 128 #[.int .u64 (x.toNat : Int), .int .i64 8] w fun e w' => e = .returned (.int .u64 (Crc.sts 8 x).toNat) ∧ w = w' :=
  steps_any x 8 (by omega) w

set_option maxHeartbeats 400000 in
theorem refmore_any (x : BitVec 64) (s : ByteArray) (hs : s.size ≤ maxLen) (w : World) :
    Calls Try.prog 104 #[.int .u64 (x.toNat : Int), .string s] w fun e w' => e = .returned (.int .u64 (Crc.sum x s.data.toList).toNat) ∧ w = w' := by
  unfold maxLen at hs
  have hn := Crc.not_bv x
  generalize hz : ~~~ x = z at hn
  have Hz := Lib.hid hz; clear hz
  go_enter Try.func104, Try.ntmps104
  go_wp2
  clear hn
  go_loop [5, 6] (fun n i => ∃ k : Nat, k ≤ s.size ∧ i = .int .i64 k ∧ n = .int .u64 (Crc.more z (s.data.toList.take k)).toNat) (fun _ i => s.size - (intOf i).toNat)
  case atStart => exact ⟨0, by omega, rfl, rfl⟩
  case round =>
    obtain ⟨k, hk, rfl, rfl⟩ := hrel
    generalize hy : Crc.more z (s.data.toList.take k) = y
    have Hy := Lib.hid hy; clear hy
    by_cases hlt : k < s.size
    · have hb := Crc.byte_xor y s[k]
      generalize hv : y ^^^ Crc.byte s[k] = v at hb
      have Hv := Lib.hid hv; clear hv
      go_wp2_with (go_at_call 128; (with_reducible refine (steps_8 _ _).mono ?_); rintro e w' ⟨rfl, rfl⟩)
      go_round
      case rel => exact ⟨k + 1, by omega, by go_num, by rw [Crc.more_take _ _ _ hlt, Hy.out, Hv.out]⟩
      case measure => simp [intOf]; omega
    · have hk' : k = s.size := by omega
      subst hk'
      have hn := Crc.not_bv y
      generalize hv : ~~~ y = v at hn
      have Hv := Lib.hid hv; clear hv
      go_wp2
      go_ret
      exact ⟨by rw [Crc.sum, ← Crc.take_all s, Hz.out, Hy.out, Hv.out]; rfl, rfl⟩

set_option maxHeartbeats 400000 in
theorem refsum_any (s : ByteArray) (hs : s.size ≤ maxLen) (w : World) :
    Calls Try.prog 53 #[.string s] w fun e w' => e = .returned (.int .u64 (Crc.sum 0#64 s.data.toList).toNat) ∧ w = w' := by
  go_enter Try.func53, Try.ntmps53
  go_wp2_with (go_at_call 104; refine (refmore_any 0#64 _ hs _).mono ?_; rintro e w' ⟨rfl, rfl⟩)
  go_ret
  exact ⟨rfl, rfl⟩

end Go.Proofs.Ytkngadbeflepoaa
/- Trees' shapes: each node's weight is its key's sum, and weights fall from the top; each act keeps that. No condition. -/
namespace Go.Proofs.Ytkngadbeflepoaa
open Go.RowKit

def Sh.Heap : Sh → Prop
  | .nil => True
  | .node k _ wt l r => wt = crcOf k ∧ (∀ p ∈ l.kv, (crcOf p.1).toNat < wt.toNat) ∧ (∀ p ∈ r.kv, (crcOf p.1).toNat ≤ wt.toNat) ∧ l.Heap ∧ r.Heap
theorem heap_le {k v : ByteArray} {wt : BitVec 64} {l r : Sh} (h : (Sh.node k v wt l r).Heap) : ∀ p ∈ (Sh.node k v wt l r).kv, (crcOf p.1).toNat ≤ wt.toNat := by
  obtain ⟨h1, h2, h3, _, _⟩ := h
  intro p hp
  simp only [Sh.kv, List.mem_append, List.mem_cons] at hp
  rcases hp with hp | rfl | hp
  · exact Nat.le_of_lt (h2 p hp)
  · rw [h1]; exact Nat.le_refl _
  · exact h3 p hp
theorem above_cases {wt wt' : BitVec 64} {k k' : ByteArray} : (aboveB wt k wt' k' = true ↔ wt'.toNat < wt.toNat ∨ (wt = wt' ∧ slt k k' = true)) := by
  unfold aboveB
  by_cases e : wt = wt'
  · subst e; simp
  · rw [if_neg e]
    simp only [decide_eq_true_eq]
    constructor
    · exact .inl
    · rintro (h | h)
      · exact h
      · exact absurd h.1 e
theorem above_not {wt wt' : BitVec 64} {k k' : ByteArray} (h : ¬ aboveB wt k wt' k' = true) : wt.toNat < wt'.toNat ∨ (wt = wt' ∧ slt k k' = false) := by
  rw [above_cases] at h
  by_cases e : wt = wt'
  · refine .inr ⟨e, ?_⟩
    rw [Bool.eq_false_iff]
    exact fun hc => h (.inr ⟨e, hc⟩)
  · have : wt.toNat ≠ wt'.toNat := fun he => e (BitVec.eq_of_toNat_eq he)
    exact .inl (by omega)
theorem heap_split (key : ByteArray) : ∀ {S : Sh}, S.Heap → Asc S.kv → (S.split key).1.Heap ∧ (S.split key).2.Heap
  | .nil, _, _ => ⟨trivial, trivial⟩
  | .node k v wt l r, ⟨h1, h2, h3, h4, h5⟩, ha => by
    obtain ⟨al, ar, _, _⟩ := asc_node (show Asc (l.kv ++ (k, v) :: r.kv) from ha)
    unfold Sh.split
    split
    · obtain ⟨g1, g2⟩ := heap_split key h4 al
      refine ⟨g1, h1, ?_, h3, g2, h5⟩
      rw [(kv_split key al).2]
      exact fun p hp => h2 p (List.mem_filter.1 hp).1
    split
    · obtain ⟨g1, g2⟩ := heap_split key h5 ar
      refine ⟨⟨h1, h2, ?_, h4, g1⟩, g2⟩
      rw [(kv_split key ar).1]
      exact fun p hp => h3 p (List.mem_filter.1 hp).1
    · exact ⟨h4, h5⟩
theorem heap_join : ∀ (n : Nat) {a b : Sh}, SizeOf.sizeOf a + SizeOf.sizeOf b ≤ n → a.Heap → b.Heap → (∀ p ∈ a.kv, ∀ q ∈ b.kv, slt p.1 q.1 = true) → (Sh.join a b).Heap
  | _, .nil, b, _, _, hb, _ => by rw [Sh.nil_join]; exact hb
  | _, .node k v wt l r, .nil, _, ha, _, _ => by rw [Sh.join_nil]; exact ha
  | 0, .node k v wt l r, .node k' v' wt' l' r', h, _, _, _ => by simp at h
  | n + 1, .node k v wt l r, .node k' v' wt' l' r', h, ha, hb, hlt => by
    have hle := heap_le hb
    have hle' := heap_le ha
    have hkk : slt k k' = true := hlt (k, v) (by simp [Sh.kv]) (k', v') (by simp [Sh.kv])
    rw [Sh.join]
    split
    · rename_i hab
      have hw : wt'.toNat ≤ wt.toNat := by
        rcases above_cases.1 hab with h | ⟨e, _⟩
        · omega
        · rw [e]; exact Nat.le_refl _
      refine ⟨ha.1, ha.2.1, ?_, ha.2.2.2.1, heap_join n (by simp only [Sh.node.sizeOf_spec] at h ⊢; omega) ha.2.2.2.2 hb (fun p hp q hq => hlt p (by simp [Sh.kv, hp]) q hq)⟩
      rw [kv_join _ (Nat.le_refl _)]
      intro p hp
      rcases List.mem_append.1 hp with hp | hp
      · exact ha.2.2.1 p hp
      · exact Nat.le_trans (hle p hp) hw
    · rename_i hab
      have hw : wt.toNat < wt'.toNat := by
        rcases above_not hab with h | ⟨_, e⟩
        · exact h
        · rw [hkk] at e; cases e
      refine ⟨hb.1, ?_, hb.2.2.1, heap_join n (by simp only [Sh.node.sizeOf_spec] at h ⊢; omega) ha hb.2.2.2.1 (fun p hp q hq => hlt p hp q (by simp [Sh.kv, hq])), hb.2.2.2.2⟩
      rw [kv_join _ (Nat.le_refl _)]
      intro p hp
      rcases List.mem_append.1 hp with hp | hp
      · exact Nat.lt_of_le_of_lt (hle' p hp) hw
      · exact hb.2.1 p hp
theorem heap_put (k v : ByteArray) : ∀ {S : Sh}, S.Heap → Asc S.kv → (S.put k v (crcOf k)).Heap
  | .nil, _, _ => ⟨rfl, fun p h => by simp [Sh.kv] at h, fun p h => by simp [Sh.kv] at h, trivial, trivial⟩
  | .node k0 v0 wt0 l r, hh, ha => by
    obtain ⟨h1, h2, h3, h4, h5⟩ := hh
    have ha' : Asc (l.kv ++ (k0, v0) :: r.kv) := ha
    obtain ⟨al, ar, a3, a4⟩ := asc_node ha'
    unfold Sh.put
    split
    · rename_i hab
      obtain ⟨e1, e2⟩ := kv_split k ha
      obtain ⟨g1, g2⟩ := heap_split k (S := .node k0 v0 wt0 l r) ⟨h1, h2, h3, h4, h5⟩ ha
      have hle := heap_le (show (Sh.node k0 v0 wt0 l r).Heap from ⟨h1, h2, h3, h4, h5⟩)
      refine ⟨rfl, ?_, ?_, g1, g2⟩
      · rw [e1]
        intro p hp
        obtain ⟨hp1, hp2⟩ := List.mem_filter.1 hp
        rcases above_cases.1 hab with h | ⟨e, hk⟩
        · exact Nat.lt_of_le_of_lt (hle p hp1) h
        · have hpk : slt p.1 k0 = true := slt_trans hp2 hk
          simp only [Sh.kv, List.mem_append, List.mem_cons] at hp1
          rcases hp1 with hp1 | rfl | hp1
          · rw [e]; exact h2 p hp1
          · rw [slt_irrefl] at hpk; cases hpk
          · have := slt_trans hpk (a4 p hp1)
            rw [slt_irrefl] at this; cases this
      · rw [e2]
        intro p hp
        have hp1 := (List.mem_filter.1 hp).1
        rcases above_cases.1 hab with h | ⟨e, _⟩
        · exact Nat.le_of_lt (Nat.lt_of_le_of_lt (hle p hp1) h)
        · rw [e]; exact hle p hp1
    · rename_i hab
      have hn := above_not hab
      have hin : ∀ {M : Prs}, (∀ p ∈ M, p ∈ M) → ∀ p ∈ insL M k v, p = (k, v) ∨ p ∈ M := fun _ p hp => by
        simp only [insL, List.mem_append, List.mem_cons, List.mem_filter] at hp
        rcases hp with hp | hp | hp
        · exact .inr hp.1
        · exact .inl hp
        · exact .inr hp.1
      split
      · rename_i hk
        refine ⟨h1, ?_, h3, heap_put k v h4 al, h5⟩
        rw [kv_put k v _ al]
        intro p hp
        rcases hin (fun _ h => h) p hp with rfl | hp
        · rcases hn with h | ⟨_, e⟩
          · exact h
          · rw [hk] at e; cases e
        · exact h2 p hp
      split
      · rename_i hk
        refine ⟨h1, h2, ?_, h4, heap_put k v h5 ar⟩
        rw [kv_put k v _ ar]
        intro p hp
        rcases hin (fun _ h => h) p hp with rfl | hp
        · rcases hn with h | ⟨e, _⟩
          · exact Nat.le_of_lt h
          · rw [← e]; exact Nat.le_refl _
        · exact h3 p hp
      · rename_i hk1 hk2
        have e : k0 = k := slt_total (by simpa using hk2) (by simpa using hk1)
        subst e
        exact ⟨rfl, by rw [← h1]; exact h2, by rw [← h1]; exact h3, h4, h5⟩
theorem heap_del (k : ByteArray) : ∀ {S : Sh}, S.Heap → Asc S.kv → (S.del k).Heap
  | .nil, _, _ => trivial
  | .node k0 v0 wt0 l r, ⟨h1, h2, h3, h4, h5⟩, ha => by
    have ha' : Asc (l.kv ++ (k0, v0) :: r.kv) := ha
    obtain ⟨al, ar, a3, a4⟩ := asc_node ha'
    have hin : ∀ {M : Prs}, ∀ p ∈ rmL M k, p ∈ M := fun p hp => by
      simp only [rmL, List.mem_append, List.mem_filter] at hp
      rcases hp with hp | hp <;> exact hp.1
    unfold Sh.del
    split
    · refine ⟨h1, ?_, h3, heap_del k h4 al, h5⟩
      rw [kv_del k al]
      exact fun p hp => h2 p (hin p hp)
    split
    · refine ⟨h1, h2, ?_, h4, heap_del k h5 ar⟩
      rw [kv_del k ar]
      exact fun p hp => h3 p (hin p hp)
    · exact heap_join _ (Nat.le_refl _) h4 h5 (fun p hp q hq => slt_trans (a3 p hp) (a4 q hq))
theorem heap_step {S : Sh} (h : S.Heap) (ha : Asc S.kv) (x : TAct) : (stepSh x S).Heap := by
  unfold stepSh
  split
  · unfold delSh; split
    · exact h
    · exact heap_del _ h ha
  · unfold putSh; split
    · exact h
    · exact heap_put _ _ h ha
/-- What the document says of an act. -/
def saysL (x : TAct) (L : Prs) : Prs := if x.act.toNat = 0 then rmL L x.key else insL L x.key x.val
theorem cnt_kv : ∀ S : Sh, S.cnt = S.kv.length
  | .nil => rfl
  | .node k v wt l r => by simp only [Sh.cnt, Sh.kv, List.length_append, List.length_cons, cnt_kv l, cnt_kv r]; omega
end Go.Proofs.Ytkngadbeflepoaa
/- Trees: what an act makes of what a tree holds; the document's says. Condition: at most 1000000 pairs. -/
namespace Go.Proofs.Ytkngadbeflepoaa
open Go.RowKit

theorem look_kv (k : ByteArray) : ∀ {S : Sh}, Asc S.kv → ∀ v, (S.look k = some v ↔ (k, v) ∈ S.kv)
  | .nil, _, v => by simp [Sh.look, Sh.kv]
  | .node k0 v0 wt l r, h, v => by
    obtain ⟨al, ar, a3, a4⟩ := asc_node (show Asc (l.kv ++ (k0, v0) :: r.kv) from h)
    unfold Sh.look
    simp only [Sh.kv, List.mem_append, List.mem_cons]
    by_cases e : k0 = k
    · rw [if_pos e]
      subst e
      constructor
      · intro h; cases h; exact .inr (.inl rfl)
      · rintro (h | h | h)
        · have := a3 _ h; rw [slt_irrefl] at this; cases this
        · cases h; rfl
        · have := a4 _ h; rw [slt_irrefl] at this; cases this
    · rw [if_neg e]
      by_cases hk : slt k k0 = true
      · rw [if_pos hk, look_kv k al v]
        constructor
        · exact .inl
        · rintro (h | h | h)
          · exact h
          · cases h; exact absurd rfl e
          · have := slt_trans hk (a4 _ h); rw [slt_irrefl] at this; cases this
      · rw [if_neg hk, look_kv k ar v]
        constructor
        · exact fun h => .inr (.inr h)
        · rintro (h | h | h)
          · exact absurd (a3 _ h) hk
          · cases h; exact absurd rfl e
          · exact h
theorem mem_asc {p : ByteArray × ByteArray} {M : Prs} (_ : Asc M) (hp : p ∈ M) : ∃ L R, M = L ++ p :: R := by
  obtain ⟨L, R, e⟩ := List.append_of_mem hp
  exact ⟨L, R, e⟩
theorem ins_same {M : Prs} {k v : ByteArray} (h : Asc M) (hp : (k, v) ∈ M) : insL M k v = M := by
  obtain ⟨L, R, rfl⟩ := List.append_of_mem hp
  obtain ⟨f1, f2⟩ := filt_eq h
  unfold insL
  rw [f1, f2]
theorem rm_same {M : Prs} {k : ByteArray} (h : Asc M) (hp : ∀ v, (k, v) ∉ M) : rmL M k = M := by
  have hno : isAt M k = false := by
    rw [Bool.eq_false_iff]
    intro hc
    have hlt := isAt_lt hc
    unfold isAt at hc
    rw [drop_pair hlt] at hc
    simp only [decide_eq_true_eq] at hc
    have hm : M.getD (idxOf M k) pdflt ∈ M := by
      rw [List.getD, List.getElem?_eq_getElem hlt]
      exact List.getElem_mem _
    generalize M.getD (idxOf M k) pdflt = p at *
    apply hp p.2
    rw [← hc]
    exact hm
  exact (rm_no h k hno).symm
theorem step_kv {S : Sh} (h : Asc S.kv) (x : TAct) : (stepSh x S).kv = saysL x S.kv := by
  unfold stepSh saysL
  split
  · unfold delSh
    split
    · rename_i hl
      exact (rm_same h (fun v hv => by have := (look_kv x.key h v).2 hv; rw [hl] at this; cases this)).symm
    · exact kv_del _ h
  · unfold putSh
    split
    · rename_i hl
      exact (ins_same h ((look_kv x.key h x.val).1 hl)).symm
    · exact kv_put _ _ _ h
theorem says_len (x : TAct) (L : Prs) : (saysL x L).length ≤ 2 * L.length + 1 := by
  have h1 := List.length_filter_le (ltB x.key) L
  have h2 := List.length_filter_le (gtB x.key) L
  unfold saysL
  split
  · simp only [rmL, List.length_append]; omega
  · simp only [insL, List.length_append, List.length_cons]; omega

set_option maxRecDepth 100000 in
set_option maxHeartbeats 1000000 in
theorem says_any (x : TAct) (A : Option Addr) (n c : Nat) (L : Prs) (w : World) (h : PairsAt w A n L) (hok : POk A n c) (hty : PTy w A) (hasc : Asc L) (hn : n ≤ 1000000) :
    Calls Try.prog 15 #[.slice A n c, .agg (tactCells x).toArray] w (PrsPost (saysL x L) w) := by
  obtain ⟨x0, x1, x2⟩ := x
  have hb := (Below.refl w.heap.size w).alloc (Nat.le_refl _) (.cells #[.int .u8 (x0.toNat : Int), .string x1, .string x2] 31)
  have hd := del10_any A n c L x1 (w.alloc (.cells #[.int .u8 (x0.toNat : Int), .string x1, .string x2] 31)) (h.below hb) hok (hty.below hb) hasc hn
  have hp := put10_any A n c L x1 x2 (w.alloc (.cells #[.int .u8 (x0.toNat : Int), .string x1, .string x2] 31)) (h.below hb) hok hasc hn
  unfold saysL
  simp only
  change Calls _ _ #[.slice A n c, .agg #[.int .u8 (x0.toNat : Int), .string x1, .string x2]] w _
  have Hb := Lib.hid hb; clear hb h hok hasc hty
  by_cases e : x0.toNat = 0
  · rw [if_pos e]
    have e' : (x0.toNat : Int) = 0 := by omega
    rw [e'] at hd Hb ⊢
    have Hd := Lib.hid hd; clear hd hp
    go_enter Try.func15, Try.ntmps15
    go_wp2_with ((refine Hd.out.mono ?_); rintro e w3 ⟨A3, n3, c3, rfl, hi3, hb3, hok3, hty3⟩; have Hi3 := Lib.hid hi3; clear hi3; have Hb3 := Lib.hid hb3; clear hb3; have Hok3 := Lib.hid hok3; clear hok3; have Hty3 := Lib.hid hty3; clear hty3)
    go_ret
    exact ⟨A3, n3, c3, rfl, Hi3.out, Hb.out.trans (Hb3.out.mono Hb.out.size), Hok3.out, Hty3.out⟩
  · rw [if_neg e]
    have e' : ((x0.toNat : Int) == 0) = false := by simp; omega
    have Hp := Lib.hid hp; clear hd hp
    go_enter Try.func15, Try.ntmps15
    go_wp2_with ((refine Hp.out.mono ?_); rintro e w3 ⟨A3, n3, c3, rfl, hi3, hb3, hok3, hty3⟩; have Hi3 := Lib.hid hi3; clear hi3; have Hb3 := Lib.hid hb3; clear hb3; have Hok3 := Lib.hid hok3; clear hok3; have Hty3 := Lib.hid hty3; clear hty3)
    go_ret
    exact ⟨A3, n3, c3, rfl, Hi3.out, Hb.out.trans (Hb3.out.mono Hb.out.size), Hok3.out, Hty3.out⟩
end Go.Proofs.Ytkngadbeflepoaa
/- The state of keys, plain: what Do keeps and answers, over what the keys are. No condition. -/
namespace Go.Proofs.Ytkngadbeflepoaa
open Go.RowKit

theorem filt_len (k : ByteArray) : ∀ M : Prs, (M.filter (ltB k)).length + (M.filter (gtB k)).length ≤ M.length
  | [] => Nat.le_refl _
  | p :: M => by
    have ih := filt_len k M
    simp only [List.filter_cons]
    by_cases h1 : ltB k p = true
    · have h2 : gtB k p = false := slt_asymm h1
      rw [if_pos h1, h2]
      simp only [List.length_cons, Bool.false_eq_true, if_false]
      omega
    · rw [if_neg h1]
      split <;> simp only [List.length_cons] <;> omega
theorem ins_len {M : Prs} (h : Asc M) (k v : ByteArray) : (insL M k v).length ≤ M.length + 1 ∧ ((∃ u, (k, u) ∈ M) → (insL M k v).length = M.length) := by
  constructor
  · have := filt_len k M
    simp only [insL, List.length_append, List.length_cons]
    omega
  · rintro ⟨u, hu⟩
    obtain ⟨L, R, rfl⟩ := List.append_of_mem hu
    obtain ⟨f1, f2⟩ := filt_eq h
    simp only [insL, f1, f2, List.length_append, List.length_cons]
theorem rm_len (M : Prs) (k : ByteArray) : (rmL M k).length ≤ M.length := by
  have := filt_len k M
  simp only [rmL, List.length_append]
  omega
theorem ins_mem {M : Prs} {k v : ByteArray} {p : ByteArray × ByteArray} (h : p ∈ insL M k v) : p = (k, v) ∨ p ∈ M := by
  simp only [insL, List.mem_append, List.mem_cons, List.mem_filter] at h
  rcases h with h | h | h
  · exact .inr h.1
  · exact .inl h
  · exact .inr h.1
theorem rm_mem {M : Prs} {k : ByteArray} {p : ByteArray × ByteArray} (h : p ∈ rmL M k) : p ∈ M ∧ p.1 ≠ k := by
  simp only [rmL, List.mem_append, List.mem_filter] at h
  rcases h with h | h
  · refine ⟨h.1, ?_⟩
    rintro rfl
    have := h.2
    unfold ltB at this
    rw [slt_irrefl] at this
    cases this
  · refine ⟨h.1, ?_⟩
    rintro rfl
    have := h.2
    unfold gtB at this
    rw [slt_irrefl] at this
    cases this

/-- What the keys are, as Do keeps it. -/
structure KvInv (S : Sh) : Prop where
  asc : Asc S.kv
  num : S.cnt ≤ 256
  val : ∀ p ∈ S.kv, p.2.size ≤ 64
theorem KvInv.nil : KvInv .nil := ⟨List.Pairwise.nil, by simp [Sh.cnt], fun p hp => by simp [Sh.kv] at hp⟩
theorem KvInv.look {S : Sh} (h : KvInv S) {k v : ByteArray} (hl : S.look k = some v) : v.size ≤ 64 := h.val _ ((look_kv k h.asc v).1 hl)
theorem put_look {S : Sh} (h : Asc S.kv) (k v : ByteArray) : (putSh k v S (S.look k)).look k = some v := by
  have ha := asc_put h k v (S.look k)
  unfold putSh at ha ⊢
  split
  · rename_i he; exact he
  · rename_i he
    rw [if_neg he] at ha
    rw [look_kv k ha, kv_put k v _ h]
    simp [insL]
theorem del_look {S : Sh} (h : Asc S.kv) (k : ByteArray) : (delSh k S (S.look k)).look k = none := by
  have ha := asc_del h k (S.look k)
  unfold delSh at ha ⊢
  split
  · rename_i he; exact he
  · rename_i he
    rw [if_neg he] at ha
    cases hc : (S.del k).look k with
    | none => rfl
    | some u =>
      have := (look_kv k ha u).1 hc
      rw [kv_del k h] at this
      exact absurd rfl (rm_mem this).2
theorem KvInv.put {S : Sh} (h : KvInv S) {k v : ByteArray} (hv : v.size ≤ 64) (hn : S.cnt < 256 ∨ ∃ u, S.look k = some u) : KvInv (putSh k v S (S.look k)) := by
  have ha := asc_put h.asc k v (S.look k)
  unfold putSh at ha ⊢
  split
  · exact h
  · rename_i he
    rw [if_neg he] at ha
    obtain ⟨l1, l2⟩ := ins_len h.asc k v
    refine ⟨ha, ?_, fun p hp => ?_⟩
    · have hc := h.num
      rw [cnt_kv] at hc hn ⊢
      rw [kv_put k v _ h.asc]
      rcases hn with hn | ⟨u, hu⟩
      · omega
      · rw [l2 ⟨u, (look_kv k h.asc u).1 hu⟩]; exact hc
    · rw [kv_put k v _ h.asc] at hp
      rcases ins_mem hp with rfl | hp
      · exact hv
      · exact h.val p hp
theorem KvInv.del {S : Sh} (h : KvInv S) (k : ByteArray) : KvInv (delSh k S (S.look k)) := by
  have ha := asc_del h.asc k (S.look k)
  unfold delSh at ha ⊢
  split
  · exact h
  · rename_i he
    rw [if_neg he] at ha
    refine ⟨ha, ?_, fun p hp => ?_⟩
    · have hc := h.num
      have := rm_len S.kv k
      rw [cnt_kv] at hc ⊢
      rw [kv_del k h.asc]
      omega
    · rw [kv_del k h.asc] at hp
      exact h.val p (rm_mem hp).1
theorem may_fresh {c : CmdV} (h : mayC c = true) : c.fresh.size ≤ 64 := by
  unfold mayC at h
  simp only [Bool.and_eq_true, decide_eq_true_eq] at h
  have h1 := h.1.2
  unfold mostOf at h1
  split at h1 <;> omega
/-- What Do answers, by its code. -/
inductive KvSays (S : Sh) (c : CmdV) : KvOut → Prop
  | miss (o : KvOut) : S.look c.key = none → o.sh = S → o.code = 1 → o.text = ByteArray.empty → KvSays S c o
  | no (o : KvOut) : o.sh = S → o.code = 2 → o.text.size ≤ 64 → KvSays S c o
  | got (o : KvOut) : c.kind = 1 → o.sh = S → o.code = 0 → S.look c.key = some o.text → KvSays S c o
  | put (o : KvOut) : c.kind = 2 → o.code = 0 → o.text = ByteArray.empty → o.sh.look c.key = some c.fresh → KvSays S c o
  | del (o : KvOut) : c.kind = 3 → o.code = 0 → S.look c.key = some o.text → o.sh.look c.key = none → KvSays S c o
  | cas (o : KvOut) : c.kind = 4 → o.code = 0 → o.text = ByteArray.empty → S.look c.key = some c.old → o.sh.look c.key = some c.fresh → KvSays S c o
theorem kv_says {S : Sh} (h : KvInv S) (c : CmdV) : KvInv (kvDo S c).sh ∧ KvSays S c (kvDo S c) := by
  unfold kvDo
  by_cases hm : mayC c = true
  · rw [if_pos hm]
    by_cases h1 : c.kind = 1
    · rw [if_pos h1]
      unfold kvGet
      cases hl : S.look c.key with
      | none => exact ⟨h, .miss _ hl rfl rfl rfl⟩
      | some v => exact ⟨h, .got _ h1 rfl rfl hl⟩
    rw [if_neg h1]
    by_cases h2 : c.kind = 2
    · rw [if_pos h2]
      unfold kvPut
      have hp := put_look h.asc c.key c.fresh
      have hi := h.put (may_fresh hm) (k := c.key)
      cases hl : S.look c.key with
      | none =>
        rw [hl] at hp hi
        simp only
        split
        · exact ⟨h, .no _ rfl rfl (by show (0 : Nat) ≤ 64; omega)⟩
        · rename_i hc
          exact ⟨hi (.inl (by omega)), .put _ h2 rfl rfl hp⟩
      | some v =>
        rw [hl] at hp hi
        exact ⟨hi (.inr ⟨v, rfl⟩), .put _ h2 rfl rfl hp⟩
    rw [if_neg h2]
    by_cases h3 : c.kind = 3
    · rw [if_pos h3]
      unfold kvDel
      have hp := del_look h.asc c.key
      have hi := h.del c.key
      cases hl : S.look c.key with
      | none => exact ⟨h, .miss _ hl rfl rfl rfl⟩
      | some v =>
        rw [hl] at hp hi
        exact ⟨hi, .del _ h3 rfl hl hp⟩
    rw [if_neg h3]
    by_cases h4 : c.kind = 4
    · rw [if_pos h4]
      unfold kvCas
      have hp := put_look h.asc c.key c.fresh
      have hi := h.put (may_fresh hm) (k := c.key)
      cases hl : S.look c.key with
      | none => exact ⟨h, .miss _ hl rfl rfl rfl⟩
      | some v =>
        rw [hl] at hp hi
        simp only
        split
        · rename_i hv
          subst hv
          exact ⟨hi (.inr ⟨_, rfl⟩), .cas _ h4 rfl rfl hl hp⟩
        · exact ⟨h, .no _ rfl rfl (h.look hl)⟩
    rw [if_neg h4]
    exact ⟨h, .no _ rfl rfl (by show (0 : Nat) ≤ 64; omega)⟩
  · rw [if_neg hm]
    exact ⟨h, .no _ rfl rfl (by show (0 : Nat) ≤ 64; omega)⟩
end Go.Proofs.Ytkngadbeflepoaa
