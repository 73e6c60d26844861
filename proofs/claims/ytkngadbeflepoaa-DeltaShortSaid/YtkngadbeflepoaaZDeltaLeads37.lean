/- Deltas, plain: what a delta's bytes are read as. Condition: the machines may be told. -/
import Derived.Test.YtkngadbeflepoaaZDeltaLeads30
import Derived.Test.YtkngadbeflepoaaZDeltaLeads34
import Derived.Test.YtkngadbeflepoaaZDeltaLeads35
import Derived.Test.YtkngadbeflepoaaZDeltaLeads36
namespace Go.Proofs.Ytkngadbeflepoaa
open Go.RowKit
theorem sumP_app (x : Nat) : ∀ (i : Nat) (r : List UInt8), (RdV.mk 0 (leB x i ++ r)).sumP i = (x % 2 ^ (8 * i), ⟨0, r⟩)
  | 0, r => by
    show (0, RdV.mk 0 ([] ++ r)) = _
    simp [Nat.mod_one]
  | i + 1, r => by
    have h := sumP_app x i (UInt8.ofNat (x / 256 ^ i) :: r)
    unfold leB RdV.sumP
    rw [List.append_assoc, List.singleton_append, h, byte_app]
    simp only [Prod.mk.injEq, and_true]
    have hp : (256 : Nat) ^ i = 2 ^ (8 * i) := by rw [Nat.pow_mul]
    have e : (UInt8.ofNat (x / 256 ^ i)).toNat = x / 2 ^ (8 * i) % 256 := by rw [hp]; simp
    rw [e, show 8 * (i + 1) = 8 * i + 8 by omega, Nat.pow_add, Nat.mod_mul]
    rw [Nat.mul_comm (2 ^ (8 * i))]
theorem sum8_app {x : Nat} (hx : x < 18446744073709551616) (r : List UInt8) : (RdV.mk 0 (leB x 8 ++ r)).sumP 8 = (x, ⟨0, r⟩) := by
  rw [sumP_app x 8 r, Nat.mod_eq_of_lt (by omega)]
theorem lastP_app {x : LastV} (hx : LastFit x) (r : List UInt8) : (RdV.mk 0 (lastB x ++ r)).lastP = (x, ⟨0, r⟩) := by
  have h := last_app hx r
  unfold RdV.last at h
  simp only [Prod.mk.injEq] at h
  obtain ⟨h1, h2⟩ := h
  rw [if_neg (by rw [h1]; have := hx.code; omega)] at h2
  exact Prod.ext h1 h2
/-- The table s with the first entries of t. -/
def tmix (s t : TabV) : Nat → TabV
  | 0 => s
  | n + 1 => (tmix s t n).put n (t.at_ n)
theorem tmix_all (s t : TabV) : tmix s t 4 = t := by cases s; cases t; rfl
theorem tmix_at (s t : TabV) : ∀ (n m : Nat), n ≤ m → m < 4 → (tmix s t n).at_ m = s.at_ m
  | 0, _, _, _ => rfl
  | n + 1, m, h, hm => by
    unfold tmix
    rw [TabV.put_at (by omega) hm, if_neg (by omega)]
    exact tmix_at s t n m (by omega) hm
theorem put_self {t : TabV} {n : Nat} {x : LastV} (hn : n < 4) (h : t.at_ n = x) : t.put n x = t := by
  subst h
  cases t
  have : n = 0 ∨ n = 1 ∨ n = 2 ∨ n = 3 := by omega
  rcases this with rfl | rfl | rfl | rfl <;> rfl
theorem bit4 : ∀ (a b c d : Bool) (n : Fin 4), ((((0 + if a then 0 else 2 ^ 0) + if b then 0 else 2 ^ 1) + if c then 0 else 2 ^ 2) + if d then 0 else 2 ^ 3) / 2 ^ n.val % 2 = if (match n.val with | 0 => a | 1 => b | 2 => c | _ => d) then 0 else 1 := by decide
theorem cliM_bit (s t : TabV) (n : Nat) (hn : n < 4) : cliM s t 4 / 2 ^ n % 2 = if lastE (t.at_ n) (s.at_ n) then 0 else 1 := by
  have h := bit4 (lastE (t.at_ 0) (s.at_ 0)) (lastE (t.at_ 1) (s.at_ 1)) (lastE (t.at_ 2) (s.at_ 2)) (lastE (t.at_ 3) (s.at_ 3)) ⟨n, hn⟩
  have hc : n = 0 ∨ n = 1 ∨ n = 2 ∨ n = 3 := by omega
  rcases hc with rfl | rfl | rfl | rfl <;> exact h
theorem clientsP_app {s t : TabV} (ht : ∀ n, LastFit (t.at_ n)) : ∀ (n : Nat) (r : List UInt8), n ≤ 4 → (RdV.mk 0 (cliB s t n ++ r)).clientsP (cliM s t 4) s n = (tmix s t n, ⟨0, r⟩)
  | 0, _, _ => rfl
  | n + 1, r, hn => by
    have hb := cliM_bit s t n (by omega)
    unfold cliB RdV.clientsP
    rw [List.append_assoc]
    by_cases he : lastE (t.at_ n) (s.at_ n) = true
    · rw [if_pos he] at hb ⊢
      rw [if_pos hb, List.nil_append, clientsP_app ht n r (by omega)]
      have e : (tmix s t n).at_ n = t.at_ n := by rw [tmix_at s t n n (Nat.le_refl _) (by omega)]; exact (lastE_iff.1 he).symm
      show _ = ((tmix s t n).put n (t.at_ n), _)
      rw [put_self (by omega) e]
    · rw [if_neg he] at hb ⊢
      rw [if_neg (by omega), clientsP_app ht n (lastB (t.at_ n) ++ r) (by omega)]
      simp only [lastP_app (ht n)]
      rfl
theorem clients_app {s t : TabV} (ht : ∀ n, LastFit (t.at_ n)) (r : List UInt8) : (RdV.mk 0 (clientsB s t ++ r)).clients s = (t, ⟨0, r⟩) := by
  have hm := cliM_lt s t 4
  have e : (UInt8.ofNat (cliM s t 4)).toNat = cliM s t 4 := by simp; omega
  unfold RdV.clients clientsB
  rw [List.cons_append, byte_app]
  simp only [e]
  rw [if_pos hm, clientsP_app ht 4 r (Nat.le_refl _), tmix_all]
/-- A change, done. -/
def chgL (A : Prs) (c : Chg) : Prs := if c.has = true then insL A c.key c.new else rmL A c.key
theorem apply_kv {S : Sh} (h : Asc S.kv) (c : Chg) : (applyD S c.key c.has c.new).kv = chgL S.kv c := by
  unfold applyD chgL
  split
  · exact put_kv' h _ _
  · exact del_kv' h _
theorem filt_mid {P M A : Prs} {k : ByteArray} (hP : ∀ p ∈ P, slt p.1 k = true) (hA : ∀ p ∈ A, slt k p.1 = true) (hM : ∀ p ∈ M, p.1 = k) : (P ++ (M ++ A)).filter (ltB k) = P ∧ (P ++ (M ++ A)).filter (gtB k) = A := by
  have e1 : P.filter (ltB k) = P := filter_all hP
  have e2 : P.filter (gtB k) = [] := filter_no fun p hp => slt_asymm (hP p hp)
  have e3 : A.filter (gtB k) = A := filter_all hA
  have e4 : A.filter (ltB k) = [] := filter_no fun p hp => slt_asymm (hA p hp)
  have e5 : M.filter (ltB k) = [] := filter_no fun p hp => by show slt p.1 k = false; rw [hM p hp]; exact slt_irrefl _
  have e6 : M.filter (gtB k) = [] := filter_no fun p hp => by show slt k p.1 = false; rw [hM p hp]; exact slt_irrefl _
  simp [List.filter_append, e1, e2, e3, e4, e5, e6]
theorem ins_mid {P M A : Prs} {k v : ByteArray} (hP : ∀ p ∈ P, slt p.1 k = true) (hA : ∀ p ∈ A, slt k p.1 = true) (hM : ∀ p ∈ M, p.1 = k) : insL (P ++ (M ++ A)) k v = (P ++ [(k, v)]) ++ A := by
  unfold insL
  obtain ⟨h1, h2⟩ := filt_mid hP hA hM
  rw [h1, h2, List.append_assoc]
  rfl
theorem rm_mid {P M A : Prs} {k : ByteArray} (hP : ∀ p ∈ P, slt p.1 k = true) (hA : ∀ p ∈ A, slt k p.1 = true) (hM : ∀ p ∈ M, p.1 = k) : rmL (P ++ (M ++ A)) k = P ++ A := by
  unfold rmL
  obtain ⟨h1, h2⟩ := filt_mid hP hA hM
  rw [h1, h2]
/-- What differs between two lists leads from one to the other one. -/
theorem diff_leads : ∀ (n : Nat) {P A B : Prs}, A.length + B.length ≤ n → Asc A → Asc B → (∀ p ∈ P, (∀ q ∈ A, slt p.1 q.1 = true) ∧ ∀ q ∈ B, slt p.1 q.1 = true) → (diffL A B).foldl chgL (P ++ A) = P ++ B
  | n, P, [], [], _, _, _, _ => by rw [diff_nil_nil]; rfl
  | 0, _, p :: A, _, h, _, _, _ => by simp at h
  | 0, _, [], q :: B, h, _, _, _ => by simp at h
  | n + 1, P, p :: A, [], h, hA, hB, hP => by
    obtain ⟨h1, h2⟩ := asc_cons hA
    rw [diff_cons_nil]
    have e : chgL (P ++ p :: A) (cDel p) = P ++ A := rm_mid (M := [p]) (fun x hx => (hP x hx).1 p (by simp)) h1 (fun x hx => by rw [List.mem_singleton.1 hx]; rfl)
    show (diffL A []).foldl chgL (chgL (P ++ p :: A) (cDel p)) = _
    rw [e]
    exact diff_leads n (by simp at h ⊢; omega) h2 hB (fun x hx => ⟨fun y hy => (hP x hx).1 y (by simp [hy]), fun y hy => by simp at hy⟩)
  | n + 1, P, [], q :: B, h, hA, hB, hP => by
    obtain ⟨h1, h2⟩ := asc_cons hB
    rw [diff_nil_cons]
    have e : chgL (P ++ []) (cAdd q) = (P ++ [q]) ++ [] := ins_mid (M := []) (A := []) (fun x hx => (hP x hx).2 q (by simp)) (fun x hx => by simp at hx) (fun x hx => by simp at hx)
    show (diffL [] B).foldl chgL (chgL (P ++ []) (cAdd q)) = _
    rw [e, diff_leads n (by simp at h ⊢; omega) hA h2 (fun x hx => ?_)]
    · rw [List.append_assoc]; rfl
    · refine ⟨fun y hy => by simp at hy, fun y hy => ?_⟩
      rcases List.mem_append.1 hx with hx | hx
      · exact (hP x hx).2 y (by simp [hy])
      · rw [List.mem_singleton.1 hx]; exact h1 y hy
  | n + 1, P, p :: A, q :: B, h, hA, hB, hP => by
    simp only [List.length_cons] at h
    obtain ⟨h1, h2⟩ := asc_cons hA
    obtain ⟨g1, g2⟩ := asc_cons hB
    rw [diff_cons_cons]
    by_cases hpq : slt p.1 q.1 = true
    · rw [if_pos hpq]
      have e : chgL (P ++ p :: A) (cDel p) = P ++ A := rm_mid (M := [p]) (fun x hx => (hP x hx).1 p (by simp)) h1 (fun x hx => by rw [List.mem_singleton.1 hx]; rfl)
      show (diffL A (q :: B)).foldl chgL (chgL (P ++ p :: A) (cDel p)) = _
      rw [e]
      exact diff_leads n (by simp; omega) h2 hB (fun x hx => ⟨fun y hy => (hP x hx).1 y (by simp [hy]), (hP x hx).2⟩)
    rw [if_neg hpq]
    by_cases hqp : slt q.1 p.1 = true
    · rw [if_pos hqp]
      have hall : ∀ x ∈ p :: A, slt q.1 x.1 = true := fun x hx => by
        rcases List.mem_cons.1 hx with rfl | hx
        · exact hqp
        · exact slt_trans hqp (h1 x hx)
      have e : chgL (P ++ p :: A) (cAdd q) = (P ++ [q]) ++ (p :: A) := ins_mid (M := []) (fun x hx => (hP x hx).2 q (by simp)) hall (fun x hx => by simp at hx)
      show (diffL (p :: A) B).foldl chgL (chgL (P ++ p :: A) (cAdd q)) = _
      rw [e, diff_leads n (by simp; omega) hA g2 (fun x hx => ?_)]
      · rw [List.append_assoc]; rfl
      · rcases List.mem_append.1 hx with hx | hx
        · exact ⟨(hP x hx).1, fun y hy => (hP x hx).2 y (by simp [hy])⟩
        · rw [List.mem_singleton.1 hx]; exact ⟨hall, g1⟩
    rw [if_neg hqp]
    have he : p.1 = q.1 := slt_or hpq hqp
    have hP2 : ∀ x ∈ P ++ [q], (∀ y ∈ A, slt x.1 y.1 = true) ∧ ∀ y ∈ B, slt x.1 y.1 = true := fun x hx => by
      rcases List.mem_append.1 hx with hx | hx
      · exact ⟨fun y hy => (hP x hx).1 y (by simp [hy]), fun y hy => (hP x hx).2 y (by simp [hy])⟩
      · rw [List.mem_singleton.1 hx]; exact ⟨by rw [← he]; exact h1, g1⟩
    have ih := diff_leads n (P := P ++ [q]) (by omega) h2 g2 hP2
    have hend : (P ++ [q]) ++ B = P ++ q :: B := by rw [List.append_assoc]; rfl
    rw [hend] at ih
    by_cases hv : p.2 = q.2
    · rw [if_pos hv]
      have e : p = q := Prod.ext he hv
      have e2 : P ++ p :: A = (P ++ [q]) ++ A := by rw [e, List.append_assoc]; rfl
      rw [e2]
      exact ih
    · rw [if_neg hv]
      have e : chgL (P ++ p :: A) ⟨p.1, p.2, q.2, true, true⟩ = (P ++ [(p.1, q.2)]) ++ A := ins_mid (M := [p]) (fun x hx => (hP x hx).1 p (by simp)) h1 (fun x hx => by rw [List.mem_singleton.1 hx])
      have e2 : (p.1, q.2) = q := by rw [he]
      rw [e2] at e
      show (diffL A B).foldl chgL (chgL (P ++ p :: A) ⟨p.1, p.2, q.2, true, true⟩) = _
      rw [e]
      exact ih
theorem applyM_ok {S : Sh} (h : Asc S.kv ∧ S.Heap) (k : ByteArray) (b : Bool) (v : ByteArray) : Asc (applyD S k b v).kv ∧ (applyD S k b v).Heap := by
  unfold applyD
  split
  · exact ⟨asc_put h.1 _ _ _, putSh_heap h.2 h.1 _ _⟩
  · exact ⟨asc_del h.1 _ _, delSh_heap h.2 h.1 _⟩
/-- Changes that may be told. -/
def ChgFit (c : Chg) : Prop := c.key.size ≤ 16 ∧ c.new.size ≤ 64
theorem chgV_app {c : Chg} (h : ChgFit c) (r : List UInt8) : (RdV.mk 0 ((if c.has then numL 1 ++ strL c.new else numL 0) ++ r)).chgV = ((c.has, if c.has then c.new else ByteArray.empty), ⟨0, r⟩) := by
  unfold RdV.chgV
  cases hc : c.has with
  | true =>
    simp only [if_true]
    rw [List.append_assoc, below_app (by omega) (by omega)]
    simp only [if_true]
    rw [str_back h.2 (by omega)]
  | false =>
    simp only [Bool.false_eq_true, if_false]
    rw [below_app (by omega) (by omega)]
    simp
theorem chgK_app {c : Chg} {last : ByteArray} (h : ChgFit c) (hl : slt last c.key = true) (r : List UInt8) : (RdV.mk 0 (strL c.key ++ r)).chgK last = (c.key, ⟨0, r⟩) := by
  unfold RdV.chgK
  rw [str_back h.1 (by omega)]
  simp only [str_mk]
  rw [if_pos hl]
theorem keysPD_app : ∀ (D : List Chg) (S : Sh) (last : ByteArray) (r : List UInt8), (Asc S.kv ∧ S.Heap) → D.Pairwise (fun c d => slt c.key d.key = true) → (∀ c ∈ D, ChgFit c ∧ slt last c.key = true) →
    ∃ S2, RdV.keysPD D.length S last ⟨0, chgsB D ++ r⟩ = (S2, ⟨0, r⟩) ∧ S2.kv = D.foldl chgL S.kv ∧ S2.Heap
  | [], S, _, r, hS, _, _ => ⟨S, rfl, rfl, hS.2⟩
  | c :: D, S, last, r, hS, hD, hc => by
    obtain ⟨hf, hl⟩ := hc c (by simp)
    obtain ⟨d1, d2⟩ := List.pairwise_cons.1 hD
    have e1 : (RdV.mk 0 (chgsB (c :: D) ++ r)).chgK last = (c.key, ⟨0, (if c.has then numL 1 ++ strL c.new else numL 0) ++ (chgsB D ++ r)⟩) := by
      have e : chgsB (c :: D) ++ r = strL c.key ++ ((if c.has then numL 1 ++ strL c.new else numL 0) ++ (chgsB D ++ r)) := by
        show (strL c.key ++ if c.has then numL 1 ++ strL c.new else numL 0) ++ chgsB D ++ r = _
        simp only [List.append_assoc]
      rw [e]
      exact chgK_app hf hl _
    have e2 := chgV_app hf (chgsB D ++ r)
    have e3 : applyD S c.key c.has (if c.has then c.new else ByteArray.empty) = applyD S c.key c.has c.new := by
      unfold applyD
      cases c.has <;> simp
    obtain ⟨S2, h1, h2, h3⟩ := keysPD_app D (applyD S c.key c.has c.new) c.key r (applyM_ok hS _ _ _) d2 (fun d hd => ⟨(hc d (by simp [hd])).1, d1 d hd⟩)
    refine ⟨S2, ?_, by rw [h2, apply_kv hS.1]; rfl, h3⟩
    show RdV.keysPD (D.length + 1) S last _ = _
    unfold RdV.keysPD
    rw [e1]
    simp only
    rw [e2]
    simp only [if_true]
    rw [e3]
    exact h1
theorem slt_nil {k : ByteArray} (h : 1 ≤ k.size) : slt ByteArray.empty k = true := by
  unfold slt
  have hne : k.toList ≠ [] := by
    intro e
    have h9 : k.toList.length = k.size := by rw [ByteArray.toList_eq]; exact str_len k
    rw [e] at h9
    simp at h9
    omega
  cases hx : k.toList with
  | nil => exact absurd hx hne
  | cons a l => rw [ByteArray.toList_eq]; rfl
theorem keysD_app {S U : Sh} (hS : Asc S.kv ∧ S.Heap) (hU : Asc U.kv ∧ U.Heap) (fS : ∀ p ∈ S.kv, 1 ≤ p.1.size ∧ p.1.size ≤ 16) (fU : ∀ p ∈ U.kv, (1 ≤ p.1.size ∧ p.1.size ≤ 16) ∧ p.2.size ≤ 64) (nS : S.cnt ≤ 256) (nU : U.cnt ≤ 256) (r : List UInt8) :
    (RdV.mk 0 (keysDB (diffL S.kv U.kv) ++ r)).keysD S = (U, ⟨0, r⟩) := by
  have hn := diff_len _ (Nat.le_refl _) (A := S.kv) (B := U.kv)
  have c1 := cnt_kv S
  have c2 := cnt_kv U
  obtain ⟨he, hp⟩ := diff_elem _ (Nat.le_refl _) hS.1 hU.1
  have hfit : ∀ c ∈ diffL S.kv U.kv, ChgFit c ∧ slt ByteArray.empty c.key = true := fun c hc => by
    have e := he c hc
    have hk : 1 ≤ c.key.size ∧ c.key.size ≤ 16 := by
      rcases diff_keys _ (Nat.le_refl _) hc with ⟨v, h1⟩ | ⟨v, h1⟩
      · exact fS _ h1
      · exact (fU _ h1).1
    refine ⟨⟨hk.2, ?_⟩, slt_nil hk.1⟩
    rcases e.b with ⟨_, h2⟩ | ⟨_, h2, _⟩
    · exact (fU _ h2).2
    · rw [h2]; decide
  obtain ⟨S2, k1, k2, k3⟩ := keysPD_app (diffL S.kv U.kv) S ByteArray.empty r hS hp hfit
  have hl := diff_leads _ (P := []) (Nat.le_refl _) hS.1 hU.1 (fun p hp => by simp at hp)
  simp only [List.nil_append] at hl
  rw [hl] at k2
  have e2 : S2 = U := One.shape_uniq k3 hU.2 k2
  unfold RdV.keysD keysDB
  rw [List.append_assoc, below_app (by omega) (by omega)]
  simp only
  rw [k1, e2]
end Go.Proofs.Ytkngadbeflepoaa
