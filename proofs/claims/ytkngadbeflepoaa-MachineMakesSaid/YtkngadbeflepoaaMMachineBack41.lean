/- Machines, plain: keys and values read; a machine's bytes read as itself, and bytes that are read as a machine told as themselves. No condition. -/
import Derived.Test.YtkngadbeflepoaaMMachineBack40
import Derived.Test.YtkngadbeflepoaaMMachineBack29
import Derived.Test.YtkngadbeflepoaaMMachineBack19
import Derived.Test.YtkngadbeflepoaaMMachineBack39
import Derived.Test.YtkngadbeflepoaaMMachineBack38
namespace Go.Proofs.Ytkngadbeflepoaa
open Go.RowKit

theorem slt_empty {k : ByteArray} {last : ByteArray} (h : slt last k = true) : 1 ≤ k.size := by
  by_cases hk : k.size = 0
  · exfalso
    have hl : k.toList = [] := by
      rw [ByteArray.toList_eq]
      have : k.data.size = 0 := hk
      have h2 := Array.eq_empty_of_size_eq_zero this
      rw [h2]
    unfold slt at h
    rw [hl] at h
    cases hh : last.toList <;> rw [hh] at h <;> simp [Op.bytesLess] at h
  · omega
theorem ins_end {A : Prs} {k v : ByteArray} (h : ∀ p ∈ A, slt p.1 k = true) : insL A k v = A ++ [(k, v)] := by
  unfold insL
  have h1 : A.filter (ltB k) = A := List.filter_eq_self.2 (fun p hp => h p hp)
  have h2 : A.filter (gtB k) = [] := List.filter_eq_nil_iff.2 (fun p hp => by
    have := slt_asymm (h p hp)
    unfold gtB
    rw [this]
    simp)
  rw [h1, h2]
theorem putSh_heap {S : Sh} (h : S.Heap) (ha : Asc S.kv) (k v : ByteArray) : (putSh k v S (S.look k)).Heap := by
  unfold putSh
  split
  · exact h
  · exact heap_put k v h ha
theorem putSh_end {S : Sh} (ha : Asc S.kv) {k v : ByteArray} (h : ∀ p ∈ S.kv, slt p.1 k = true) : (putSh k v S (S.look k)).kv = S.kv ++ [(k, v)] := by
  rw [put_kv' ha, ins_end h]
/-- Pairs whose keys and values may be. -/
def PairsFit (L : Prs) : Prop := ∀ p ∈ L, (1 ≤ p.1.size ∧ p.1.size ≤ 16) ∧ p.2.size ≤ 64
theorem asc_snoc {A : Prs} {p : ByteArray × ByteArray} (h : Asc A) (hp : ∀ q ∈ A, slt q.1 p.1 = true) : Asc (A ++ [p]) :=
  List.pairwise_append.2 ⟨h, List.pairwise_singleton _ _, fun a ha b hb => by rw [List.mem_singleton.1 hb]; exact hp a ha⟩
theorem keys_app : ∀ (L : Prs) (S : Sh) (last : ByteArray) (r : List UInt8), S.Heap → Asc (S.kv ++ L) → PairsFit L → (∀ p ∈ L, slt last p.1 = true) →
    ∃ S2, RdV.keysP L.length S last ⟨0, pairsB L ++ r⟩ = (S2, ⟨0, r⟩) ∧ S2.kv = S.kv ++ L ∧ S2.Heap
  | [], S, last, r, hh, _, _, _ => ⟨S, rfl, by simp, hh⟩
  | (k, v) :: L, S, last, r, hh, ha, hf, hl => by
    obtain ⟨⟨f1, f2⟩, f3⟩ := hf (k, v) (by simp)
    have hk : slt last k = true := hl (k, v) (by simp)
    have hpair : (RdV.mk 0 (pairsB ((k, v) :: L) ++ r)).pair last = ((k, v), ⟨0, pairsB L ++ r⟩) := by
      unfold RdV.pair
      have e : pairsB ((k, v) :: L) ++ r = strL k ++ (strL v ++ (pairsB L ++ r)) := by
        show strL k ++ strL v ++ pairsB L ++ r = _
        rw [List.append_assoc, List.append_assoc]
      rw [e, str_back f2 (by omega)]
      simp only
      rw [str_back f3 (by omega)]
      simp only [str_mk]
      rw [if_pos hk]
    obtain ⟨a1, a2, a3⟩ := List.pairwise_append.1 ha
    obtain ⟨b1, b2⟩ := List.pairwise_cons.1 a2
    have hlt : ∀ p ∈ S.kv, slt p.1 k = true := fun p hp => a3 p hp (k, v) (by simp)
    have hkv := putSh_end a1 (v := v) hlt
    obtain ⟨S2, h1, h2, h3⟩ := keys_app L (putSh k v S (S.look k)) k r (putSh_heap hh a1 k v) (by rw [hkv, List.append_assoc]; exact ha) (fun p hp => hf p (by simp [hp])) (fun p hp => b1 p hp)
    refine ⟨S2, ?_, by rw [h2, hkv, List.append_assoc]; rfl, h3⟩
    show RdV.keysP (L.length + 1) S last _ = _
    unfold RdV.keysP
    rw [hpair]
    simp only [if_true]
    exact h1
theorem keys_inv : ∀ (n : Nat) (S : Sh) (last : ByteArray) (R R2 : RdV) (S2 : Sh), S.Heap → Asc S.kv → (∀ p ∈ S.kv, p.1 = last ∨ slt p.1 last = true) → RdV.keysP n S last R = (S2, R2) → R2.e = 0 → 
    R.e = 0 ∧ ∃ L, L.length = n ∧ R.s = pairsB L ++ R2.s ∧ S2.kv = S.kv ++ L ∧ Asc S2.kv ∧ PairsFit L ∧ S2.Heap
  | 0, S, last, R, R2, S2, hh, ha, _, h, he => by
    cases h
    exact ⟨he, [], rfl, by simp [pairsB], by simp, ha, fun p hp => by simp at hp, hh⟩
  | n + 1, S, last, R, R2, S2, hh, ha, hl, h, he => by
    obtain ⟨⟨⟨k, v⟩, R3⟩, hp⟩ : ∃ q, R.pair last = q := ⟨_, rfl⟩
    unfold RdV.keysP at h
    rw [hp] at h
    simp only at h
    split at h
    · rename_i h3
      obtain ⟨⟨kl, R4⟩, hk⟩ : ∃ q, R.str 16 = q := ⟨_, rfl⟩
      obtain ⟨⟨vl, R5⟩, hv⟩ : ∃ q, R4.str 64 = q := ⟨_, rfl⟩
      unfold RdV.pair at hp
      rw [hk] at hp
      simp only [hv, Prod.mk.injEq] at hp
      obtain ⟨⟨rfl, rfl⟩, hp3⟩ := hp
      split at hp3
      · rename_i hlt
        subst hp3
        obtain ⟨a1, a2, a3⟩ := str_inv hv h3
        obtain ⟨b1, b2, b3⟩ := str_inv hk a1
        have hall : ∀ p ∈ S.kv, slt p.1 (⟨kl.toArray⟩ : ByteArray) = true := fun p hp => by
          rcases hl p hp with e | e
          · rw [e]; exact hlt
          · exact slt_trans e hlt
        have hkv := putSh_end ha (v := ⟨vl.toArray⟩) hall
        obtain ⟨c1, L, c2, c3, c4, c5, c6, c7⟩ := keys_inv n _ _ _ _ _ (putSh_heap hh ha _ _) (by rw [hkv]; exact asc_snoc ha hall) (fun p hp => by
          rw [hkv] at hp
          rcases List.mem_append.1 hp with hp | hp
          · exact .inr (hall p hp)
          · rw [List.mem_singleton.1 hp]; exact .inl rfl) h he
        refine ⟨b1, (⟨kl.toArray⟩, ⟨vl.toArray⟩) :: L, by simp [c2], ?_, by rw [c4, hkv, List.append_assoc]; rfl, c5, fun p hp => ?_, c7⟩
        · show R.s = strL ⟨kl.toArray⟩ ++ strL ⟨vl.toArray⟩ ++ pairsB L ++ R2.s
          rw [b3, a3, c3]
          unfold strL
          simp [ByteArray.size]
        · rcases List.mem_cons.1 hp with rfl | hp
          · exact ⟨⟨slt_empty hlt, by show (⟨kl.toArray⟩ : ByteArray).size ≤ 16; simpa [ByteArray.size] using b2⟩, by show (⟨vl.toArray⟩ : ByteArray).size ≤ 64; simpa [ByteArray.size] using a2⟩
          · exact c6 p hp
      · subst hp3
        exact absurd h3 (fail_e (by omega))
    · rename_i h3
      cases h
      exact absurd he h3
theorem heap_nil : Sh.Heap .nil := trivial
theorem end_nil : (RdV.mk 0 []).end_ = ⟨0, []⟩ := by unfold RdV.end_; rw [if_pos rfl]
/-- A machine's bytes are read as itself. -/
theorem ofM_app {M : MacV} (h : MacFit M) (hh : M.sh.Heap) (hs : setsOk M = true) : ofM (macB M) = (M, 0) := by
  have h1 : ofStep 0 (⟨0, macB M⟩, macNone) = (⟨0, UInt8.ofNat M.mem :: (tabB M.tab 4 ++ (numL M.sh.cnt ++ pairsB M.sh.kv))⟩, { macNone with all := M.all }) := by
    have e : macB M = UInt8.ofNat M.all :: (UInt8.ofNat M.mem :: (tabB M.tab 4 ++ (numL M.sh.cnt ++ pairsB M.sh.kv))) := by
      unfold macB macHead
      simp
    rw [ofStep_0, e, byte_app]
    have e2 : (UInt8.ofNat M.all).toNat = M.all := by have := h.all; simp; omega
    simp only [e2]
  have h2 : ofStep 1 (⟨0, UInt8.ofNat M.mem :: (tabB M.tab 4 ++ (numL M.sh.cnt ++ pairsB M.sh.kv))⟩, { macNone with all := M.all }) = (⟨0, tabB M.tab 4 ++ (numL M.sh.cnt ++ pairsB M.sh.kv)⟩, { macNone with all := M.all, mem := M.mem }) := by
    rw [ofStep_1, byte_app]
    have e2 : (UInt8.ofNat M.mem).toNat = M.mem := by have := h.mem; simp; omega
    simp only [e2]
  have h3 : ofStep 2 (⟨0, tabB M.tab 4 ++ (numL M.sh.cnt ++ pairsB M.sh.kv)⟩, { macNone with all := M.all, mem := M.mem }) = (⟨0, numL M.sh.cnt ++ pairsB M.sh.kv⟩, { macNone with all := M.all, mem := M.mem, tab := M.tab }) := by
    rw [ofStep_2, tab_app h.tab]
  have hcnt : M.sh.cnt < 257 := by have := h.kv.num; omega
  have hlen : M.sh.kv.length = M.sh.cnt := (cnt_kv M.sh).symm
  obtain ⟨S2, k1, k2, k3⟩ := keys_app M.sh.kv .nil ByteArray.empty [] heap_nil (by simpa [Sh.kv] using h.kv.asc) (fun p hp => ⟨h.key p hp, h.kv.val p hp⟩) (fun p hp => by
    have := (h.key p hp).1
    unfold slt
    have hne : p.1.toList ≠ [] := by
      intro e
      have h0 : p.1.size = 0 := by
        have h9 : p.1.toList.length = p.1.size := by rw [ByteArray.toList_eq]; exact str_len p.1
        rw [e] at h9
        exact h9.symm
      omega
    cases hx : p.1.toList with
    | nil => exact absurd hx hne
    | cons a l => rw [ByteArray.toList_eq]; rfl)
  have hS2 : S2 = M.sh := One.shape_uniq k3 hh (by rw [k2]; rfl)
  have h4 : ofStep 3 (⟨0, numL M.sh.cnt ++ pairsB M.sh.kv⟩, { macNone with all := M.all, mem := M.mem, tab := M.tab }) = (⟨0, []⟩, M) := by
    rw [ofStep_3]
    unfold RdV.keys
    rw [below_app (by omega) hcnt]
    simp only
    rw [List.append_nil, hlen, hS2] at k1
    rw [k1]
  unfold ofM
  have e4 : ofL 4 0 (⟨0, macB M⟩, macNone) = (⟨0, []⟩, M) := by
    unfold ofL
    rw [h1]
    simp only [if_true]
    unfold ofL
    rw [h2]
    simp only [if_true]
    unfold ofL
    rw [h3]
    simp only [if_true]
    unfold ofL
    rw [h4]
    rfl
  rw [e4]
  unfold ofRes
  simp only [if_true, end_nil, hs]
end Go.Proofs.Ytkngadbeflepoaa
/- Machines, plain: bytes that are read as a machine are its bytes; what errors there are; what stays true of a machine's sets and shape behind commands. No condition. -/
namespace Go.Proofs.Ytkngadbeflepoaa
open Go.RowKit

theorem ofL_inv {n i : Nat} {X Y : RdV × MacV} (h : ofL (n + 1) i X = Y) (he : Y.1.e = 0) : (ofStep i X).1.e = 0 ∧ ofL n (i + 1) (ofStep i X) = Y := by
  unfold ofL at h
  split at h
  · rename_i h0; exact ⟨h0, h⟩
  · rename_i h0; rw [h] at h0; exact absurd he h0
theorem end_inv {R : RdV} (_ : R.e = 0) (h : R.end_.e = 0) : R.s = [] := by
  unfold RdV.end_ at h
  split at h
  · assumption
  · exact absurd h (fail_e (by omega))
theorem step0_inv {X : RdV × MacV} (h : (ofStep 0 X).1.e = 0) : X.1.e = 0 ∧ ∃ c : UInt8, X.1.s = c :: (ofStep 0 X).1.s ∧ (ofStep 0 X).2 = { X.2 with all := c.toNat } := by
  rw [ofStep_0] at h ⊢
  obtain ⟨⟨c, R⟩, hc⟩ : ∃ q, X.1.byte = q := ⟨_, rfl⟩
  rw [hc] at h ⊢
  obtain ⟨a, b⟩ := byte_inv hc h
  exact ⟨a, c, b, rfl⟩
theorem step1_inv {X : RdV × MacV} (h : (ofStep 1 X).1.e = 0) : X.1.e = 0 ∧ ∃ c : UInt8, X.1.s = c :: (ofStep 1 X).1.s ∧ (ofStep 1 X).2 = { X.2 with mem := c.toNat } := by
  rw [ofStep_1] at h ⊢
  obtain ⟨⟨c, R⟩, hc⟩ : ∃ q, X.1.byte = q := ⟨_, rfl⟩
  rw [hc] at h ⊢
  obtain ⟨a, b⟩ := byte_inv hc h
  exact ⟨a, c, b, rfl⟩
theorem step2_inv {X : RdV × MacV} (h : (ofStep 2 X).1.e = 0) : X.1.e = 0 ∧ ∃ t : TabV, X.1.s = tabB t 4 ++ (ofStep 2 X).1.s ∧ (∀ n, LastFit (t.at_ n)) ∧ (ofStep 2 X).2 = { X.2 with tab := t } := by
  rw [ofStep_2] at h ⊢
  obtain ⟨⟨t, R⟩, hc⟩ : ∃ q, X.1.tab = q := ⟨_, rfl⟩
  rw [hc] at h ⊢
  obtain ⟨a, b, c⟩ := tab_inv hc h
  exact ⟨a, t, b, c, rfl⟩
theorem keys_all {R R2 : RdV} {S : Sh} (h : R.keys = (S, R2)) (he : R2.e = 0) : R.e = 0 ∧ R.s = numL S.cnt ++ pairsB S.kv ++ R2.s ∧ S.cnt ≤ 256 ∧ Asc S.kv ∧ PairsFit S.kv ∧ S.Heap := by
  unfold RdV.keys at h
  obtain ⟨⟨n, R4⟩, hn⟩ : ∃ q, R.below 257 = q := ⟨_, rfl⟩
  rw [hn] at h
  obtain ⟨g1, L, g2, g3, g4, g5, g6, g7⟩ := keys_inv n .nil ByteArray.empty R4 R2 S heap_nil List.Pairwise.nil (fun p hp => by simp [Sh.kv] at hp) h he
  obtain ⟨k1, k2, k3⟩ := below_inv hn g1
  simp only [Sh.kv, List.nil_append] at g4
  have hcnt : S.cnt = n := by rw [cnt_kv, g4, g2]
  exact ⟨k1, by rw [k3, g3, hcnt, g4, List.append_assoc], by omega, g5, by rw [g4]; exact g6, g7⟩
theorem step3_inv {X : RdV × MacV} (h : (ofStep 3 X).1.e = 0) : X.1.e = 0 ∧ ∃ S : Sh, X.1.s = numL S.cnt ++ pairsB S.kv ++ (ofStep 3 X).1.s ∧ S.cnt ≤ 256 ∧ Asc S.kv ∧ PairsFit S.kv ∧ S.Heap ∧ (ofStep 3 X).2 = { X.2 with sh := S } := by
  rw [ofStep_3] at h ⊢
  obtain ⟨⟨S, R⟩, hc⟩ : ∃ q, X.1.keys = q := ⟨_, rfl⟩
  rw [hc] at h ⊢
  obtain ⟨a, b, c, d, e, f⟩ := keys_all hc h
  exact ⟨a, S, b, c, d, e, f, rfl⟩
theorem ofM_inv {s : List UInt8} {M : MacV} (h : ofM s = (M, 0)) : macB M = s ∧ MacFit M ∧ M.sh.Heap ∧ setsOk M = true := by
  unfold ofM at h
  obtain ⟨Y, hY⟩ : ∃ Y, ofL 4 0 (⟨0, s⟩, macNone) = Y := ⟨_, rfl⟩
  rw [hY] at h
  have hE : Y.1.e = 0 ∧ Y.1.end_.e = 0 ∧ setsOk Y.2 = true ∧ Y.2 = M := by
    unfold ofRes at h
    by_cases h0 : Y.1.e = 0
    · rw [if_pos h0] at h
      by_cases h1 : Y.1.end_.e = 0
      · rw [if_pos h1] at h
        by_cases h2 : setsOk Y.2 = true
        · rw [if_pos h2] at h
          simp only [Prod.mk.injEq, and_true] at h
          exact ⟨h0, h1, h2, h⟩
        · rw [if_neg h2] at h
          simp at h
      · rw [if_neg h1] at h
        simp only [Prod.mk.injEq] at h
        exact absurd h.2 h1
    · rw [if_neg h0] at h
      simp only [Prod.mk.injEq] at h
      exact absurd h.2 h0
  obtain ⟨h0, h1, hs, hM⟩ := hE
  clear h
  have hend := end_inv h0 h1
  obtain ⟨a0, b0⟩ := ofL_inv hY h0
  obtain ⟨-, c, x1, x2⟩ := step0_inv a0
  generalize ofStep 0 (⟨0, s⟩, macNone) = X1 at *
  obtain ⟨a1, b1⟩ := ofL_inv b0 h0
  obtain ⟨-, d, y1, y2⟩ := step1_inv a1
  generalize ofStep 1 X1 = X2 at *
  obtain ⟨a2, b2⟩ := ofL_inv b1 h0
  obtain ⟨-, t, z1, z2, z3⟩ := step2_inv a2
  generalize ofStep 2 X2 = X3 at *
  obtain ⟨a3, b3⟩ := ofL_inv b2 h0
  obtain ⟨-, S, w1, w2, w3, w4, w5, w6⟩ := step3_inv a3
  generalize ofStep 3 X3 = X4 at *
  have e4 : X4 = Y := b3
  subst e4
  have hMe : M = ⟨c.toNat, d.toNat, t, S⟩ := by
    rw [← hM, w6, z3, y2, x2]
  subst hMe
  rw [hM] at hs
  obtain ⟨-, e1, e2⟩ := (show mayS d.toNat c.toNat = true ∧ c.toNat = bothS c.toNat c.toNat ∧ d.toNat = bothS d.toNat d.toNat by
    unfold setsOk at hs
    simp only [Bool.and_eq_true, decide_eq_true_eq] at hs
    exact ⟨hs.1.1, hs.1.2, hs.2⟩)
  refine ⟨?_, ⟨by show c.toNat < 128; rw [e1]; exact both_small _ _, by show d.toNat < 128; rw [e2]; exact both_small _ _, z2, ⟨w3, w2, fun p hp => (w4 p hp).2⟩, fun p hp => (w4 p hp).1⟩, w5, hs⟩
  show [UInt8.ofNat c.toNat, UInt8.ofNat d.toNat] ++ tabB t 4 ++ numL S.cnt ++ pairsB S.kv = s
  simp only at x1
  rw [x1, y1, z1, w1, hend]
  simp
/-! What errors there are. -/
def EOk (R : RdV) : Prop := R.e = 0 ∨ R.e = 3 ∨ R.e = 4
theorem EOk.fail {R : RdV} (h : EOk R) : EOk (R.fail 4) := by
  unfold RdV.fail
  split
  · exact .inr (.inr rfl)
  · exact h
theorem EOk.take {R : RdV} (h : EOk R) (n : Nat) : EOk (R.take n).2.2 := by
  unfold RdV.take
  split
  · split
    · exact .inl rfl
    · exact .inr (.inl rfl)
  · exact h
theorem EOk.byte {R : RdV} (h : EOk R) : EOk R.byte.2 := h.take 1
theorem EOk.wide {R : RdV} (h : EOk R) (k : Nat) : EOk (R.wide k).2 := by
  unfold RdV.wide
  split
  · split
    · exact (h.take k).fail
    · exact h.take k
  · exact h.take k
theorem EOk.num {R : RdV} (h : EOk R) : EOk R.num.2 := by
  unfold RdV.num
  split
  · exact h.byte
  · exact h.byte.wide _
theorem EOk.below {R : RdV} (h : EOk R) (n : Nat) : EOk (R.below n).2 := by
  unfold RdV.below
  split
  · split
    · exact h.num
    · exact h.num.fail
  · exact h.num
theorem EOk.str {R : RdV} (h : EOk R) (n : Nat) : EOk (R.str n).2 := (h.below _).take _
theorem EOk.lastP {R : RdV} (h : EOk R) : EOk R.lastP.2 := by
  have h1 := h.below 4294967296
  unfold RdV.lastP
  generalize R.below 4294967296 = X at *
  have h2 := h1.byte.str 64
  generalize X.2.byte.2.str 64 = Y at *
  by_cases h0 : X.1 = 0
  · rw [if_pos h0]; exact h1
  · rw [if_neg h0]; exact h2
theorem EOk.last {R : RdV} (h : EOk R) : EOk R.last.2 := by
  have hp := h.lastP
  unfold RdV.last
  generalize R.lastP = X at *
  by_cases h0 : 3 < X.1.code
  · rw [if_pos h0]; exact hp.fail
  · rw [if_neg h0]; exact hp
theorem EOk.tabP {R : RdV} (h : EOk R) : ∀ n, EOk (R.tabP n).2
  | 0 => h
  | n + 1 => EOk.last (EOk.tabP h n)
theorem EOk.pair {R : RdV} (h : EOk R) (last : ByteArray) : EOk (R.pair last).2 := by
  have h1 := h.str 16
  unfold RdV.pair
  generalize R.str 16 = X at *
  have h2 := h1.str 64
  generalize X.2.str 64 = Y at *
  by_cases h0 : slt last ⟨X.1.toArray⟩ = true
  · rw [if_pos h0]; exact h2
  · rw [if_neg h0]; exact h2.fail
theorem EOk.keysP : ∀ (n : Nat) (S : Sh) (last : ByteArray) {R : RdV}, EOk R → EOk (RdV.keysP n S last R).2
  | 0, _, _, _, h => h
  | n + 1, S, last, R, h => by
    have hp := h.pair last
    unfold RdV.keysP
    generalize R.pair last = X at *
    by_cases h0 : X.2.e = 0
    · rw [if_pos h0]; exact EOk.keysP n _ _ hp
    · rw [if_neg h0]; exact hp
theorem EOk.keys {R : RdV} (h : EOk R) : EOk R.keys.2 := by
  have h1 := h.below 257
  unfold RdV.keys
  generalize R.below 257 = X at *
  exact EOk.keysP _ _ _ h1
theorem EOk.tab {R : RdV} (h : EOk R) : EOk R.tab.2 := by
  have h1 := EOk.tabP h 4
  unfold RdV.tab
  generalize R.tabP 4 = X at *
  exact h1
theorem EOk.step {X : RdV × MacV} (h : EOk X.1) (i : Nat) : EOk (ofStep i X).1 := by
  have h1 := h.byte
  have h2 := h.tab
  have h3 := h.keys
  unfold ofStep
  generalize X.1.byte = A at *
  generalize X.1.tab = B at *
  generalize X.1.keys = C at *
  by_cases e0 : i = 0
  · rw [if_pos e0]; exact h1
  · rw [if_neg e0]
    by_cases e1 : i = 1
    · rw [if_pos e1]; exact h1
    · rw [if_neg e1]
      by_cases e2 : i = 2
      · rw [if_pos e2]; exact h2
      · rw [if_neg e2]; exact h3
theorem EOk.ofL : ∀ (n i : Nat) {X : RdV × MacV}, EOk X.1 → EOk (Go.Proofs.Ytkngadbeflepoaa.ofL n i X).1
  | 0, _, _, h => h
  | n + 1, i, X, h => by
    have hs := h.step i
    unfold Go.Proofs.Ytkngadbeflepoaa.ofL
    generalize ofStep i X = Y at *
    by_cases h0 : Y.1.e = 0
    · rw [if_pos h0]; exact EOk.ofL n (i + 1) hs
    · rw [if_neg h0]; exact hs
theorem ofM_err {s : List UInt8} (h : (ofM s).2 ≠ 0) : (ofM s).1 = macNone ∧ ((ofM s).2 = 3 ∨ (ofM s).2 = 4) := by
  have hE : EOk (ofL 4 0 (⟨0, s⟩, macNone)).1 := EOk.ofL 4 0 (.inl rfl)
  unfold ofM at h ⊢
  generalize ofL 4 0 (⟨0, s⟩, macNone) = Y at *
  unfold ofRes at h ⊢
  by_cases h0 : Y.1.e = 0
  · simp only [h0, if_true] at h ⊢
    by_cases h1 : Y.1.end_.e = 0
    · simp only [h1, if_true] at h ⊢
      by_cases h2 : setsOk Y.2 = true
      · simp [h2] at h
      · simp [h2]
    · simp only [h1, if_false] at h ⊢
      refine ⟨trivial, ?_⟩
      have : EOk Y.1.end_ := by
        unfold RdV.end_
        split
        · exact hE
        · exact hE.fail
      rcases this with e | e
      · exact absurd e h1
      · exact e
  · simp only [h0, if_false] at h ⊢
    refine ⟨trivial, ?_⟩
    rcases hE with e | e
    · exact absurd e h0
    · exact e
/-! What stays true behind commands. -/
theorem both_idem (x : Nat) : bothS (bothS x x) (bothS x x) = bothS x x := by
  unfold bothS
  rw [Nat.and_self, Nat.and_self, Nat.and_assoc, Nat.and_self]
theorem may_both (s all : Nat) : mayS (bothS s s) all = mayS s all := by
  have h : bothS s s = s &&& 127 := by unfold bothS; rw [Nat.and_self]
  unfold mayS withoutS
  rw [h, Nat.and_assoc, Nat.and_self]
  congr 2
  rw [show s &&& 127 &&& (255 - all) &&& 127 = s &&& (255 - all) &&& 127 by
    rw [Nat.and_assoc s 127, Nat.and_comm 127, ← Nat.and_assoc, Nat.and_assoc _ 127 127, Nat.and_self]]
/-- A machine, with its sets and its shape. -/
structure MacAll (M : MacV) : Prop where
  fit : MacFit M
  heap : M.sh.Heap
  sets : setsOk M = true
theorem sets_eq {M : MacV} (h : setsOk M = true) : mayS M.mem M.all = true ∧ M.all = bothS M.all M.all ∧ M.mem = bothS M.mem M.mem := by
  unfold setsOk at h
  simp only [Bool.and_eq_true, decide_eq_true_eq] at h
  exact ⟨h.1.1, h.1.2, h.2⟩
theorem sets_mk {M : MacV} (h1 : mayS M.mem M.all = true) (h2 : M.all = bothS M.all M.all) (h3 : M.mem = bothS M.mem M.mem) : setsOk M = true := by
  unfold setsOk
  rw [h1, ← h2, ← h3]
  simp
theorem delSh_heap {S : Sh} (h : S.Heap) (ha : Asc S.kv) (k : ByteArray) : (delSh k S (S.look k)).Heap := by
  unfold delSh
  split
  · exact h
  · exact heap_del k h ha
theorem kvDo_heap {S : Sh} (h : S.Heap) (ha : Asc S.kv) (c : CmdV) : (kvDo S c).sh.Heap := by
  have hp := putSh_heap h ha c.key c.fresh
  have hd := delSh_heap h ha c.key
  unfold kvDo
  split
  · split
    · unfold kvGet; split <;> exact h
    · split
      · unfold kvPut
        cases hl : S.look c.key with
        | none => rw [hl] at hp; simp only; split; exact h; exact hp
        | some v => rw [hl] at hp; exact hp
      · split
        · unfold kvDel
          cases hl : S.look c.key with
          | none => exact h
          | some v => rw [hl] at hd; exact hd
        · split
          · unfold kvCas
            cases hl : S.look c.key with
            | none => exact h
            | some v => rw [hl] at hp; simp only; split; exact hp; exact h
          · exact h
  · exact h
theorem macFresh_all {M : MacV} (h : MacAll M) (c : CmdV) : (macFresh M c).1.sh.Heap ∧ setsOk (macFresh M c).1 = true := by
  obtain ⟨s1, s2, s3⟩ := sets_eq h.sets
  unfold macFresh
  split
  · split
    · rename_i hm
      exact ⟨h.heap, sets_mk (by show mayS (bothS c.set.toNat c.set.toNat) M.all = true; rw [may_both]; exact hm) s2 (both_idem _).symm⟩
    · exact ⟨h.heap, h.sets⟩
  · exact ⟨kvDo_heap h.heap h.fit.kv.asc c, sets_mk s1 s2 s3⟩
theorem macDo_all {M : MacV} (h : MacAll M) (c : CmdV) : MacAll (macDo M c).m := by
  refine ⟨macDo_fit h.fit c, ?_, ?_⟩
  · unfold macDo
    split
    · split
      · exact (macFresh_all h c).1
      · exact h.heap
    · exact h.heap
  · unfold macDo
    split
    · split
      · obtain ⟨s1, s2, s3⟩ := sets_eq (macFresh_all h c).2
        exact sets_mk s1 s2 s3
      · exact h.sets
    · exact h.sets
end Go.Proofs.Ytkngadbeflepoaa
/- Machines, plain: two machines have the same bytes just if they are the same. No condition. -/
namespace Go.Proofs.Ytkngadbeflepoaa
open Go.RowKit

theorem diff_nil_eq : ∀ (n : Nat) {A B : Prs}, A.length + B.length ≤ n → diffL A B = [] → A = B
  | _, [], [], _, _ => rfl
  | _, p :: A, [], _, h => by rw [diff_cons_nil] at h; cases h
  | _, [], q :: B, _, h => by rw [diff_nil_cons] at h; cases h
  | 0, p :: A, q :: B, hn, _ => by simp at hn
  | n + 1, p :: A, q :: B, hn, h => by
    rw [diff_cons_cons] at h
    split at h
    · cases h
    · rename_i h1
      split at h
      · cases h
      · rename_i h2
        split at h
        · rename_i h3
          have e := diff_nil_eq n (A := A) (B := B) (by simp at hn; omega) h
          have ek := slt_or h1 h2
          obtain ⟨p1, p2⟩ := p
          obtain ⟨q1, q2⟩ := q
          simp only at ek h3
          rw [ek, h3, e]
        · cases h
theorem macSame_iff {A B : MacV} (hA : A.sh.Heap) (hB : B.sh.Heap) : macSame A B = true ↔ A = B := by
  unfold macSame
  simp only [Bool.and_eq_true, decide_eq_true_eq, List.isEmpty_iff]
  constructor
  · rintro ⟨⟨⟨h1, h2⟩, h3⟩, h4⟩
    have e := One.shape_uniq hA hB (diff_nil_eq _ (Nat.le_refl _) h1)
    have et := tabE_iff.1 h4
    obtain ⟨a1, a2, a3, a4⟩ := A
    obtain ⟨b1, b2, b3, b4⟩ := B
    simp only at h2 h3 e et
    subst h2 h3 e et
    rfl
  · rintro rfl
    exact ⟨⟨⟨diff_self _, rfl⟩, rfl⟩, tabE_iff.2 rfl⟩
theorem macB_inj {A B : MacV} (hA : MacAll A) (hB : MacAll B) (h : macB A = macB B) : A = B := by
  have h1 := ofM_app hA.fit hA.heap hA.sets
  have h2 := ofM_app hB.fit hB.heap hB.sets
  rw [h] at h1
  rw [h1] at h2
  exact congrArg Prod.fst h2
theorem bytes_same {A B : MacV} (hA : MacAll A) (hB : MacAll B) : ((⟨(macB A).toArray⟩ : ByteArray).toList == (⟨(macB B).toArray⟩ : ByteArray).toList) = macSame A B := by
  rw [ByteArray.toList_eq, ByteArray.toList_eq]
  by_cases h : A = B
  · subst h
    rw [(macSame_iff hA.heap hA.heap).2 rfl]
    simp
  · have h1 : macSame A B = false := by
      rw [Bool.eq_false_iff]
      exact fun e => h ((macSame_iff hA.heap hB.heap).1 e)
    rw [h1]
    simp only [beq_eq_false_iff_ne, ne_eq]
    intro e
    exact h (macB_inj hA hB (by simpa using e))
theorem macsDo_all : ∀ (l : List CmdV) {M : MacV}, MacAll M → MacAll (macsDo M l)
  | [], _, h => h
  | c :: r, _, h => macsDo_all r (macDo_all h c)
theorem back_new : MacAll (newM 127 7) ∧ mayS 7 127 = true := by
  refine ⟨⟨macFit_new 127 7, ?_, by decide +kernel⟩, by decide +kernel⟩
  rw [(show (newM 127 7).sh = .nil by unfold newM; split <;> rfl)]
  trivial
end Go.Proofs.Ytkngadbeflepoaa
/- Machines, plain: a machine's bytes may be told; a new machine's parts. No condition. -/
namespace Go.Proofs.Ytkngadbeflepoaa
open Go.RowKit

theorem macFit_by {M : MacV} (h : MacFit M) : MacBy M := by
  have ht : ∀ n, LastOk (M.tab.at_ n) := fun n => ⟨by have := (h.tab n).code; omega, by have := (h.tab n).text; omega⟩
  exact ⟨by have := h.all; omega, by have := h.mem; omega, ⟨ht 0, ht 1, ht 2, ht 3⟩, by have := h.kv.num; omega, fun p hp => ⟨by have := (h.key p hp).2; omega, by have := h.kv.val p hp; omega⟩⟩
theorem newM_parts (al fi : Nat) : (newM al fi).tab = tabNone ∧ (newM al fi).sh = .nil := by
  unfold newM
  split <;> exact ⟨rfl, rfl⟩
end Go.Proofs.Ytkngadbeflepoaa
