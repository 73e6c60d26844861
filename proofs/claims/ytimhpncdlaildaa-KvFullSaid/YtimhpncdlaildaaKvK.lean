/- The state of keys, plain: as many keys as there may be, and one more. No condition. -/
import Derived.Test.YtimhpncdlaildaaKvI
namespace Go.Proofs.Ytimhpncdlaildaa
open Go.RowKit

theorem filt_part (k : ByteArray) : ∀ M : Prs, (∀ p ∈ M, p.1 ≠ k) → (M.filter (ltB k)).length + (M.filter (gtB k)).length = M.length
  | [], _ => rfl
  | p :: M, h => by
    have ih := filt_part k M (fun q hq => h q (by simp [hq]))
    simp only [List.filter_cons]
    by_cases h1 : ltB k p = true
    · have h2 : gtB k p = false := slt_asymm h1
      rw [if_pos h1, h2]
      simp only [List.length_cons, Bool.false_eq_true, if_false]
      omega
    · rw [if_neg h1]
      by_cases h2 : gtB k p = true
      · rw [if_pos h2]; simp only [List.length_cons]; omega
      · exact absurd (slt_total (show slt p.1 k = false by simpa [ltB] using h1) (show slt k p.1 = false by simpa [gtB] using h2)) (h p (by simp))
def kk (i : Nat) : ByteArray := ⟨#[107, UInt8.ofNat i]⟩
def kV : ByteArray := ⟨#[118]⟩
def kW : ByteArray := ⟨#[119]⟩
def kMore : ByteArray := ⟨#[111, 110, 101, 32, 109, 111, 114, 101]⟩
theorem kk_inj {i j : Nat} (hi : i < 256) (hj : j < 256) (h : kk i = kk j) : i = j := by
  unfold kk at h
  have h1 : UInt8.ofNat i = UInt8.ofNat j := by
    have := congrArg (fun b : ByteArray => b.data[1]?) h
    simpa using this
  have h2 := congrArg UInt8.toNat h1
  simpa [UInt8.toNat_ofNat, Nat.mod_eq_of_lt hi, Nat.mod_eq_of_lt hj] using h2
theorem kk_more (i : Nat) : kk i ≠ kMore := by
  intro h
  have := congrArg (fun b : ByteArray => b.data.size) h
  simp [kk, kMore] at this
/-- The first i keys are there. -/
structure Full (i : Nat) (S : Sh) : Prop where
  asc : Asc S.kv
  num : S.cnt = i
  has : ∀ p ∈ S.kv, ∃ j, j < i ∧ p = (kk j, kV)
  all : ∀ j, j < i → (kk j, kV) ∈ S.kv
theorem Full.zero : Full 0 .nil := ⟨List.Pairwise.nil, rfl, fun p hp => by simp [Sh.kv] at hp, fun j hj => by omega⟩
theorem kvPut_new {S : Sh} {k v : ByteArray} (ha : Asc S.kv) (hl : S.look k = none) : (putSh k v S none).kv = insL S.kv k v ∧ (putSh k v S none).cnt = S.cnt + 1 ∧ Asc (putSh k v S none).kv := by
  have h1 := asc_put ha k v none
  unfold putSh at h1 ⊢
  rw [if_neg (by simp)] at h1 ⊢
  refine ⟨kv_put k v _ ha, ?_, h1⟩
  rw [cnt_kv, cnt_kv, kv_put k v _ ha]
  have := filt_part k S.kv (fun p hp e => by
    have := (look_kv k ha p.2).2 (by rw [← e]; exact hp)
    rw [hl] at this
    cases this)
  simp only [insL, List.length_append, List.length_cons]
  omega
theorem may_put {k v : ByteArray} (hk : 1 ≤ k.size ∧ k.size ≤ 16) (hv : v.size ≤ 64) : mayC (ofC 2 k ByteArray.empty v) = true := by
  have h1 : (hasOf (ofC 2 k ByteArray.empty v).kind) = some 5 := rfl
  unfold mayC
  rw [h1]
  simp only [Option.isSome_some, Option.getD_some, Bool.true_and, Bool.and_eq_true, Bool.or_eq_true, decide_eq_true_eq]
  exact ⟨⟨⟨⟨⟨⟨by show (0 : Nat) < 4; omega, by show (1 : Nat) ≠ 0; omega⟩, hk.1⟩, hk.2⟩, by show (0 : Nat) ≤ 0; omega⟩, hv⟩, .inl rfl⟩
theorem may_del {k : ByteArray} (hk : 1 ≤ k.size ∧ k.size ≤ 16) : mayC (ofC 3 k ByteArray.empty ByteArray.empty) = true := by
  have h1 : (hasOf (ofC 3 k ByteArray.empty ByteArray.empty).kind) = some 1 := rfl
  unfold mayC
  rw [h1]
  simp only [Option.isSome_some, Option.getD_some, Bool.true_and, Bool.and_eq_true, Bool.or_eq_true, decide_eq_true_eq]
  exact ⟨⟨⟨⟨⟨⟨by show (0 : Nat) < 4; omega, by show (1 : Nat) ≠ 0; omega⟩, hk.1⟩, hk.2⟩, by show (0 : Nat) ≤ 0; omega⟩, by show (0 : Nat) ≤ 0; omega⟩, .inl rfl⟩
theorem do_put {S : Sh} {k v : ByteArray} (hk : 1 ≤ k.size ∧ k.size ≤ 16) (hv : v.size ≤ 64) : kvDo S (ofC 2 k ByteArray.empty v) = kvPut S (ofC 2 k ByteArray.empty v) := by
  unfold kvDo
  rw [if_pos (may_put hk hv)]
  rfl
theorem do_del {S : Sh} {k : ByteArray} (hk : 1 ≤ k.size ∧ k.size ≤ 16) : kvDo S (ofC 3 k ByteArray.empty ByteArray.empty) = kvDel S (ofC 3 k ByteArray.empty ByteArray.empty) := by
  unfold kvDo
  rw [if_pos (may_del hk)]
  rfl
theorem Full.step {i : Nat} {S : Sh} (h : Full i S) (hi : i < 256) : ∃ S', kvDo S (ofC 2 (kk i) ByteArray.empty kV) = ⟨S', 0, ByteArray.empty⟩ ∧ Full (i + 1) S' := by
  have hl : S.look (kk i) = none := by
    cases hc : S.look (kk i) with
    | none => rfl
    | some u =>
      obtain ⟨j, hj, he⟩ := h.has _ ((look_kv _ h.asc u).1 hc)
      have := kk_inj hi (by omega) (Prod.mk.inj he).1
      omega
  obtain ⟨h1, h2, h3⟩ := kvPut_new (v := kV) h.asc hl
  refine ⟨putSh (kk i) kV S none, ?_, h3, by rw [h2, h.num], fun p hp => ?_, fun j hj => ?_⟩
  · rw [do_put (show 1 ≤ (kk i).size ∧ (kk i).size ≤ 16 from ⟨by show 1 ≤ 2; omega, by show 2 ≤ 16; omega⟩) (show kV.size ≤ 64 by show 1 ≤ 64; omega)]
    unfold kvPut
    rw [show S.look (ofC 2 (kk i) ByteArray.empty kV).key = none from hl]
    simp only
    rw [if_neg (by rw [h.num]; omega)]
    rfl
  · rw [h1] at hp
    rcases ins_mem hp with rfl | hp
    · exact ⟨i, by omega, rfl⟩
    · obtain ⟨j, hj, e⟩ := h.has p hp
      exact ⟨j, by omega, e⟩
  · rw [h1]
    by_cases e : j = i
    · subst e; simp [insL]
    · have hm := h.all j (by omega)
      simp only [insL, List.mem_append, List.mem_cons, List.mem_filter]
      by_cases h4 : slt (kk j) (kk i) = true
      · exact .inl ⟨hm, h4⟩
      · by_cases h5 : slt (kk i) (kk j) = true
        · exact .inr (.inr ⟨hm, h5⟩)
        · have := slt_total (show slt (kk j) (kk i) = false by simpa using h4) (show slt (kk i) (kk j) = false by simpa using h5)
          exact absurd (kk_inj (by omega) hi this) e
theorem rm_len_has {M : Prs} (h : Asc M) {k u : ByteArray} (hu : (k, u) ∈ M) : (rmL M k).length + 1 = M.length := by
  obtain ⟨L, R, rfl⟩ := List.append_of_mem hu
  obtain ⟨f1, f2⟩ := filt_eq h
  simp only [rmL, f1, f2, List.length_append, List.length_cons]
  omega
theorem look_no {S : Sh} (ha : Asc S.kv) {k : ByteArray} (h : ∀ p ∈ S.kv, p.1 ≠ k) : S.look k = none := by
  cases hc : S.look k with
  | none => rfl
  | some u => exact absurd rfl (h _ ((look_kv k ha u).1 hc))
theorem Full.last {S : Sh} (h : Full 256 S) : kvDo S (ofC 2 kMore ByteArray.empty kV) = ⟨S, 2, ByteArray.empty⟩ ∧ ∃ U, kvDo S (ofC 2 (kk 7) ByteArray.empty kW) = ⟨U, 0, ByteArray.empty⟩ ∧ U.cnt = 256 ∧
    ∃ V, kvDo U (ofC 3 (kk 7) ByteArray.empty ByteArray.empty) = ⟨V, 0, kW⟩ ∧ V.cnt = 255 ∧ ∃ X, kvDo V (ofC 2 kMore ByteArray.empty kV) = ⟨X, 0, ByteArray.empty⟩ ∧ X.cnt = 256 := by
  have hk7 : 1 ≤ (kk 7).size ∧ (kk 7).size ≤ 16 := ⟨by show 1 ≤ 2; omega, by show 2 ≤ 16; omega⟩
  have hkm : 1 ≤ kMore.size ∧ kMore.size ≤ 16 := ⟨by show 1 ≤ 8; omega, by show 8 ≤ 16; omega⟩
  have hv : kV.size ≤ 64 := by show 1 ≤ 64; omega
  have hw : kW.size ≤ 64 := by show 1 ≤ 64; omega
  have hlm : S.look kMore = none := look_no h.asc (fun p hp e => by
    obtain ⟨j, _, rfl⟩ := h.has p hp
    exact kk_more j e)
  have hl7 : S.look (kk 7) = some kV := (look_kv _ h.asc kV).2 (h.all 7 (by omega))
  have hvw : kV ≠ kW := by decide
  have hne : ¬ (some kV = some kW) := fun e => hvw (Option.some.inj e)
  have hU : (putSh (kk 7) kW S (some kV)).kv = insL S.kv (kk 7) kW := by
    unfold putSh
    rw [if_neg hne, kv_put _ _ _ h.asc]
  have haU : Asc (putSh (kk 7) kW S (some kV)).kv := asc_put h.asc _ _ _
  have hcU : (putSh (kk 7) kW S (some kV)).cnt = 256 := by
    rw [cnt_kv, hU, (ins_len h.asc (kk 7) kW).2 ⟨kV, h.all 7 (by omega)⟩, ← cnt_kv]
    exact h.num
  refine ⟨?_, putSh (kk 7) kW S (some kV), ?_, hcU, ?_⟩
  · rw [do_put hkm hv]
    unfold kvPut
    rw [show S.look (ofC 2 kMore ByteArray.empty kV).key = none from hlm]
    simp only
    rw [if_pos (by rw [h.num]; omega)]
  · rw [do_put hk7 hw]
    unfold kvPut
    rw [show S.look (ofC 2 (kk 7) ByteArray.empty kW).key = some kV from hl7]
    rfl
  · generalize putSh (kk 7) kW S (some kV) = U at *
    have hlU : U.look (kk 7) = some kW := (look_kv _ haU kW).2 (by rw [hU]; simp [insL])
    have hV : (delSh (kk 7) U (some kW)).kv = rmL U.kv (kk 7) := by
      unfold delSh
      rw [if_neg (by simp), kv_del _ haU]
    have haV : Asc (delSh (kk 7) U (some kW)).kv := asc_del haU _ _
    have hcV : (delSh (kk 7) U (some kW)).cnt = 255 := by
      have h1 := rm_len_has haU (k := kk 7) (u := kW) (by rw [hU]; simp [insL])
      rw [cnt_kv] at hcU
      rw [cnt_kv, hV]
      omega
    refine ⟨delSh (kk 7) U (some kW), ?_, hcV, ?_⟩
    · rw [do_del hk7]
      unfold kvDel
      rw [show U.look (ofC 3 (kk 7) ByteArray.empty ByteArray.empty).key = some kW from hlU]
      rfl
    · have hlV : (delSh (kk 7) U (some kW)).look kMore = none := look_no haV (fun p hp e => by
        rw [hV] at hp
        have h1 := (rm_mem hp).1
        rw [hU] at h1
        rcases ins_mem h1 with rfl | h2
        · exact kk_more 7 e
        · obtain ⟨j, _, rfl⟩ := h.has p h2
          exact kk_more j e)
      generalize delSh (kk 7) U (some kW) = V at *
      obtain ⟨_, g2, _⟩ := kvPut_new (v := kV) haV hlV
      refine ⟨putSh kMore kV V none, ?_, by rw [g2, hcV]⟩
      rw [do_put hkm hv]
      unfold kvPut
      rw [show V.look (ofC 2 kMore ByteArray.empty kV).key = none from hlV]
      simp only
      rw [if_neg (by rw [hcV]; omega)]
      rfl
end Go.Proofs.Ytimhpncdlaildaa
