/- Deltas, plain: what a delta's bytes are read as. Condition: the machines may be told. -/
import Derived.Test.YtbckjgageofldaaGreatZLearnNil28
import Derived.Test.YtbckjgageofldaaGreatZLearnNil32
import Derived.Test.YtbckjgageofldaaGreatZLearnNil33
namespace Go.Proofs.YtbckjgageofldaaGreat
open Go.RowKit
theorem sumP_app (x : Nat) : ∀ (i : Nat) (r : List UInt8), (RdV.mk 0 (leB x i ++ r)).sumP i = (x % 2 ^ (8 * i), ⟨0, r⟩)
 | 0, r => by
  show (0, RdV.mk 0 ([] ++ r)) = _
  simp [Nat.mod_one]
 | i + 1, r => by
  have h := sumP_app x i (UInt8.ofNat (x / 256 ^ i) :: r)
  unfold leB RdV.sumP
  rw [List.append_assoc, List.singleton_append, h, byte_app]
  simp only [Prod.mk.injEq, and_true]
  have hp : (256 : Nat) ^ i = 2 ^ (8 * i) := by rw [Nat.pow_mul]
  have e : (UInt8.ofNat (x / 256 ^ i)).toNat = x / 2 ^ (8 * i) % 256 := by rw [hp]; simp
  rw [e, show 8 * (i + 1) = 8 * i + 8 by omega, Nat.pow_add, Nat.mod_mul]
  rw [Nat.mul_comm (2 ^ (8 * i))]
theorem sum8_app {x : Nat} (hx : x < 18446744073709551616) (r : List UInt8) : (RdV.mk 0 (leB x 8 ++ r)).sumP 8 = (x, ⟨0, r⟩) := by
 rw [sumP_app x 8 r, Nat.mod_eq_of_lt (by omega)]
theorem lastP_app {x : LastV} (hx : LastFit x) (r : List UInt8) : (RdV.mk 0 (lastB x ++ r)).lastP = (x, ⟨0, r⟩) := by
 have h := last_app hx r
 unfold RdV.last at h
 simp only [Prod.mk.injEq] at h
 obtain ⟨h1, h2⟩ := h
 rw [if_neg (by rw [h1]; have := hx.code; omega)] at h2
 exact Prod.ext h1 h2
def tmix (s t : TabV) : Nat → TabV
 | 0 => s
 | n + 1 => (tmix s t n).put n (t.at_ n)
theorem tmix_all (s t : TabV) : tmix s t 4 = t := by cases s; cases t; rfl
theorem tmix_at (s t : TabV) : ∀ (n m : Nat), n ≤ m → m < 4 → (tmix s t n).at_ m = s.at_ m
 | 0, _, _, _ => rfl
 | n + 1, m, h, hm => by
  unfold tmix
  rw [TabV.put_at (by omega) hm, if_neg (by omega)]
  exact tmix_at s t n m (by omega) hm
theorem put_self {t : TabV} {n : Nat} {x : LastV} (hn : n < 4) (h : t.at_ n = x) : t.put n x = t := by
 subst h
 cases t
 have : n = 0 ∨ n = 1 ∨ n = 2 ∨ n = 3 := by omega
 rcases this with rfl | rfl | rfl | rfl <;> rfl
theorem bit4 : ∀ (a b c d : Bool) (n : Fin 4), ((((0 + if a then 0 else 2 ^ 0) + if b then 0 else 2 ^ 1) + if c then 0 else 2 ^ 2) + if d then 0 else 2 ^ 3) / 2 ^ n.val % 2 = if (match n.val with | 0 => a | 1 => b | 2 => c | _ => d) then 0 else 1 := by decide
theorem cliM_bit (s t : TabV) (n : Nat) (hn : n < 4) : cliM s t 4 / 2 ^ n % 2 = if lastE (t.at_ n) (s.at_ n) then 0 else 1 := by
 have h := bit4 (lastE (t.at_ 0) (s.at_ 0)) (lastE (t.at_ 1) (s.at_ 1)) (lastE (t.at_ 2) (s.at_ 2)) (lastE (t.at_ 3) (s.at_ 3)) ⟨n, hn⟩
 have hc : n = 0 ∨ n = 1 ∨ n = 2 ∨ n = 3 := by omega
 rcases hc with rfl | rfl | rfl | rfl <;> exact h
theorem clientsP_app {s t : TabV} (ht : ∀ n, LastFit (t.at_ n)) : ∀ (n : Nat) (r : List UInt8), n ≤ 4 → (RdV.mk 0 (cliB s t n ++ r)).clientsP (cliM s t 4) s n = (tmix s t n, ⟨0, r⟩)
 | 0, _, _ => rfl
 | n + 1, r, hn => by
  have hb := cliM_bit s t n (by omega)
  unfold cliB RdV.clientsP
  rw [List.append_assoc]
  by_cases he : lastE (t.at_ n) (s.at_ n) = true
  ·
   rw [if_pos he] at hb ⊢
   rw [if_pos hb, List.nil_append, clientsP_app ht n r (by omega)]
   have e : (tmix s t n).at_ n = t.at_ n := by rw [tmix_at s t n n (Nat.le_refl _) (by omega)]; exact (lastE_iff.1 he).symm
   show _ = ((tmix s t n).put n (t.at_ n), _)
   rw [put_self (by omega) e]
  ·
   rw [if_neg he] at hb ⊢
   rw [if_neg (by omega), clientsP_app ht n (lastB (t.at_ n) ++ r) (by omega)]
   simp only [lastP_app (ht n)]
   rfl
theorem clients_app {s t : TabV} (ht : ∀ n, LastFit (t.at_ n)) (r : List UInt8) : (RdV.mk 0 (clientsB s t ++ r)).clients s = (t, ⟨0, r⟩) := by
 have hm := cliM_lt s t 4
 have e : (UInt8.ofNat (cliM s t 4)).toNat = cliM s t 4 := by simp; omega
 unfold RdV.clients clientsB
 rw [List.cons_append, byte_app]
 simp only [e]
 rw [if_pos hm, clientsP_app ht 4 r (Nat.le_refl _), tmix_all]
def chgL (A : Prs) (c : Chg) : Prs := if c.has = true then insL A c.key c.new else rmL A c.key
theorem apply_kv {S : Sh} (h : Asc S.kv) (c : Chg) : (applyD S c.key c.has c.new).kv = chgL S.kv c := by
 unfold applyD chgL
 split
 ·
  exact put_kv' h _ _
 ·
  exact del_kv' h _
theorem filt_mid {P M A : Prs} {k : ByteArray} (hP : ∀ p ∈ P, slt p.1 k = true) (hA : ∀ p ∈ A, slt k p.1 = true) (hM : ∀ p ∈ M, p.1 = k) : (P ++ (M ++ A)).filter (ltB k) = P ∧ (P ++ (M ++ A)).filter (gtB k) = A := by
 have e1 : P.filter (ltB k) = P := filter_all hP
 have e2 : P.filter (gtB k) = [] := filter_no fun p hp => slt_asymm (hP p hp)
 have e3 : A.filter (gtB k) = A := filter_all hA
 have e4 : A.filter (ltB k) = [] := filter_no fun p hp => slt_asymm (hA p hp)
 have e5 : M.filter (ltB k) = [] := filter_no fun p hp => by show slt p.1 k = false; rw [hM p hp]; exact slt_irrefl _
 have e6 : M.filter (gtB k) = [] := filter_no fun p hp => by show slt k p.1 = false; rw [hM p hp]; exact slt_irrefl _
 simp [List.filter_append, e1, e2, e3, e4, e5, e6]
theorem ins_mid {P M A : Prs} {k v : ByteArray} (hP : ∀ p ∈ P, slt p.1 k = true) (hA : ∀ p ∈ A, slt k p.1 = true) (hM : ∀ p ∈ M, p.1 = k) : insL (P ++ (M ++ A)) k v = (P ++ [(k, v)]) ++ A := by
 unfold insL
 obtain ⟨h1, h2⟩ := filt_mid hP hA hM
 rw [h1, h2, List.append_assoc]
 rfl
theorem rm_mid {P M A : Prs} {k : ByteArray} (hP : ∀ p ∈ P, slt p.1 k = true) (hA : ∀ p ∈ A, slt k p.1 = true) (hM : ∀ p ∈ M, p.1 = k) : rmL (P ++ (M ++ A)) k = P ++ A := by
 unfold rmL
 obtain ⟨h1, h2⟩ := filt_mid hP hA hM
 rw [h1, h2]
theorem diff_leads : ∀ (n : Nat) {P A B : Prs}, A.length + B.length ≤ n → Asc A → Asc B → (∀ p ∈ P, (∀ q ∈ A, slt p.1 q.1 = true) ∧ ∀ q ∈ B, slt p.1 q.1 = true) → (diffL A B).foldl chgL (P ++ A) = P ++ B
 | n, P, [], [], _, _, _, _ => by rw [diff_nil_nil]; rfl
 | 0, _, p :: A, _, h, _, _, _ => by simp at h
 | 0, _, [], q :: B, h, _, _, _ => by simp at h
 | n + 1, P, p :: A, [], h, hA, hB, hP => by
  obtain ⟨h1, h2⟩ := asc_cons hA
  rw [diff_cons_nil]
  have e : chgL (P ++ p :: A) (cDel p) = P ++ A := rm_mid (M := [p]) (fun x hx => (hP x hx).1 p (by simp)) h1 (fun x hx => by rw [List.mem_singleton.1 hx]; rfl)
  show (diffL A []).foldl chgL (chgL (P ++ p :: A) (cDel p)) = _
  rw [e]
  exact diff_leads n (by simp at h ⊢; omega) h2 hB (fun x hx => ⟨fun y hy => (hP x hx).1 y (by simp [hy]), fun y hy => by simp at hy⟩)
 | n + 1, P, [], q :: B, h, hA, hB, hP => by
  obtain ⟨h1, h2⟩ := asc_cons hB
  rw [diff_nil_cons]
  have e : chgL (P ++ []) (cAdd q) = (P ++ [q]) ++ [] := ins_mid (M := []) (A := []) (fun x hx => (hP x hx).2 q (by simp)) (fun x hx => by simp at hx) (fun x hx => by simp at hx)
  show (diffL [] B).foldl chgL (chgL (P ++ []) (cAdd q)) = _
  rw [e, diff_leads n (by simp at h ⊢; omega) hA h2 (fun x hx => ?_)]
  ·
   rw [List.append_assoc]; rfl
  ·
   refine ⟨fun y hy => by simp at hy, fun y hy => ?_⟩
   rcases List.mem_append.1 hx with hx | hx
   ·
    exact (hP x hx).2 y (by simp [hy])
   ·
    rw [List.mem_singleton.1 hx]; exact h1 y hy
 | n + 1, P, p :: A, q :: B, h, hA, hB, hP => by
  simp only [List.length_cons] at h
  obtain ⟨h1, h2⟩ := asc_cons hA
  obtain ⟨g1, g2⟩ := asc_cons hB
  rw [diff_cons_cons]
  by_cases hpq : slt p.1 q.1 = true
  ·
   rw [if_pos hpq]
   have e : chgL (P ++ p :: A) (cDel p) = P ++ A := rm_mid (M := [p]) (fun x hx => (hP x hx).1 p (by simp)) h1 (fun x hx => by rw [List.mem_singleton.1 hx]; rfl)
   show (diffL A (q :: B)).foldl chgL (chgL (P ++ p :: A) (cDel p)) = _
   rw [e]
   exact diff_leads n (by simp; omega) h2 hB (fun x hx => ⟨fun y hy => (hP x hx).1 y (by simp [hy]), (hP x hx).2⟩)
  rw [if_neg hpq]
  by_cases hqp : slt q.1 p.1 = true
  ·
   rw [if_pos hqp]
   have hall : ∀ x ∈ p :: A, slt q.1 x.1 = true := fun x hx => by
    rcases List.mem_cons.1 hx with rfl | hx
    ·
     exact hqp
    ·
     exact slt_trans hqp (h1 x hx)
   have e : chgL (P ++ p :: A) (cAdd q) = (P ++ [q]) ++ (p :: A) := ins_mid (M := []) (fun x hx => (hP x hx).2 q (by simp)) hall (fun x hx => by simp at hx)
   show (diffL (p :: A) B).foldl chgL (chgL (P ++ p :: A) (cAdd q)) = _
   rw [e, diff_leads n (by simp; omega) hA g2 (fun x hx => ?_)]
   ·
    rw [List.append_assoc]; rfl
   ·
    rcases List.mem_append.1 hx with hx | hx
    ·
     exact ⟨(hP x hx).1, fun y hy => (hP x hx).2 y (by simp [hy])⟩
    ·
     rw [List.mem_singleton.1 hx]; exact ⟨hall, g1⟩
  rw [if_neg hqp]
  have he : p.1 = q.1 := slt_or hpq hqp
  have hP2 : ∀ x ∈ P ++ [q], (∀ y ∈ A, slt x.1 y.1 = true) ∧ ∀ y ∈ B, slt x.1 y.1 = true := fun x hx => by
   rcases List.mem_append.1 hx with hx | hx
   ·
    exact ⟨fun y hy => (hP x hx).1 y (by simp [hy]), fun y hy => (hP x hx).2 y (by simp [hy])⟩
   ·
    rw [List.mem_singleton.1 hx]; exact ⟨by rw [← he]; exact h1, g1⟩
  have ih := diff_leads n (P := P ++ [q]) (by omega) h2 g2 hP2
  have hend : (P ++ [q]) ++ B = P ++ q :: B := by rw [List.append_assoc]; rfl
  rw [hend] at ih
  by_cases hv : p.2 = q.2
  ·
   rw [if_pos hv]
   have e : p = q := Prod.ext he hv
   have e2 : P ++ p :: A = (P ++ [q]) ++ A := by rw [e, List.append_assoc]; rfl
   rw [e2]
   exact ih
  ·
   rw [if_neg hv]
   have e : chgL (P ++ p :: A) ⟨p.1, p.2, q.2, true, true⟩ = (P ++ [(p.1, q.2)]) ++ A := ins_mid (M := [p]) (fun x hx => (hP x hx).1 p (by simp)) h1 (fun x hx => by rw [List.mem_singleton.1 hx])
   have e2 : (p.1, q.2) = q := by rw [he]
   rw [e2] at e
   show (diffL A B).foldl chgL (chgL (P ++ p :: A) ⟨p.1, p.2, q.2, true, true⟩) = _
   rw [e]
   exact ih
theorem applyM_ok {S : Sh} (h : Asc S.kv ∧ S.Heap) (k : ByteArray) (b : Bool) (v : ByteArray) : Asc (applyD S k b v).kv ∧ (applyD S k b v).Heap := by
 unfold applyD
 split
 ·
  exact ⟨asc_put h.1 _ _ _, putSh_heap h.2 h.1 _ _⟩
 ·
  exact ⟨asc_del h.1 _ _, delSh_heap h.2 h.1 _⟩
def ChgFit (c : Chg) : Prop := c.key.size ≤ 16 ∧ c.new.size ≤ 64
theorem chgV_app {c : Chg} (h : ChgFit c) (r : List UInt8) : (RdV.mk 0 ((if c.has then numL 1 ++ strL c.new else numL 0) ++ r)).chgV = ((c.has, if c.has then c.new else ByteArray.empty), ⟨0, r⟩) := by
 unfold RdV.chgV
 cases hc : c.has with
 | true =>
  simp only [if_true]
  rw [List.append_assoc, below_app (by omega) (by omega)]
  simp only [if_true]
  rw [str_back h.2 (by omega)]
 | false =>
  simp only [Bool.false_eq_true, if_false]
  rw [below_app (by omega) (by omega)]
  simp
theorem chgK_app {c : Chg} {last : ByteArray} (h : ChgFit c) (hl : slt last c.key = true) (r : List UInt8) : (RdV.mk 0 (strL c.key ++ r)).chgK last = (c.key, ⟨0, r⟩) := by
 unfold RdV.chgK
 rw [str_back h.1 (by omega)]
 simp only [str_mk]
 rw [if_pos hl]
theorem keysPD_app : ∀ (D : List Chg) (S : Sh) (last : ByteArray) (r : List UInt8), (Asc S.kv ∧ S.Heap) → D.Pairwise (fun c d => slt c.key d.key = true) → (∀ c ∈ D, ChgFit c ∧ slt last c.key = true) →
  ∃ S2, RdV.keysPD D.length S last ⟨0, chgsB D ++ r⟩ = (S2, ⟨0, r⟩) ∧ S2.kv = D.foldl chgL S.kv ∧ S2.Heap
 | [], S, _, r, hS, _, _ => ⟨S, rfl, rfl, hS.2⟩
 | c :: D, S, last, r, hS, hD, hc => by
  obtain ⟨hf, hl⟩ := hc c (by simp)
  obtain ⟨d1, d2⟩ := List.pairwise_cons.1 hD
  have e1 : (RdV.mk 0 (chgsB (c :: D) ++ r)).chgK last = (c.key, ⟨0, (if c.has then numL 1 ++ strL c.new else numL 0) ++ (chgsB D ++ r)⟩) := by
   have e : chgsB (c :: D) ++ r = strL c.key ++ ((if c.has then numL 1 ++ strL c.new else numL 0) ++ (chgsB D ++ r)) := by
    show (strL c.key ++ if c.has then numL 1 ++ strL c.new else numL 0) ++ chgsB D ++ r = _
    simp only [List.append_assoc]
   rw [e]
   exact chgK_app hf hl _
  have e2 := chgV_app hf (chgsB D ++ r)
  have e3 : applyD S c.key c.has (if c.has then c.new else ByteArray.empty) = applyD S c.key c.has c.new := by
   unfold applyD
   cases c.has <;> simp
  obtain ⟨S2, h1, h2, h3⟩ := keysPD_app D (applyD S c.key c.has c.new) c.key r (applyM_ok hS _ _ _) d2 (fun d hd => ⟨(hc d (by simp [hd])).1, d1 d hd⟩)
  refine ⟨S2, ?_, by rw [h2, apply_kv hS.1]; rfl, h3⟩
  show RdV.keysPD (D.length + 1) S last _ = _
  unfold RdV.keysPD
  rw [e1]
  simp only
  rw [e2]
  simp only [if_true]
  rw [e3]
  exact h1
theorem slt_nil {k : ByteArray} (h : 1 ≤ k.size) : slt ByteArray.empty k = true := by
 unfold slt
 have hne : k.toList ≠ [] := by
  intro e
  have h9 : k.toList.length = k.size := by rw [ByteArray.toList_eq]; exact str_len k
  rw [e] at h9
  simp at h9
  omega
 cases hx : k.toList with
 | nil => exact absurd hx hne
 | cons a l => rw [ByteArray.toList_eq]; rfl
theorem keysD_app {S U : Sh} (hS : Asc S.kv ∧ S.Heap) (hU : Asc U.kv ∧ U.Heap) (fS : ∀ p ∈ S.kv, 1 ≤ p.1.size ∧ p.1.size ≤ 16) (fU : ∀ p ∈ U.kv, (1 ≤ p.1.size ∧ p.1.size ≤ 16) ∧ p.2.size ≤ 64) (nS : S.cnt ≤ 256) (nU : U.cnt ≤ 256) (r : List UInt8) :
  (RdV.mk 0 (keysDB (diffL S.kv U.kv) ++ r)).keysD S = (U, ⟨0, r⟩) := by
 have hn := diff_len _ (Nat.le_refl _) (A := S.kv) (B := U.kv)
 have c1 := cnt_kv S
 have c2 := cnt_kv U
 obtain ⟨he, hp⟩ := diff_elem _ (Nat.le_refl _) hS.1 hU.1
 have hfit : ∀ c ∈ diffL S.kv U.kv, ChgFit c ∧ slt ByteArray.empty c.key = true := fun c hc => by
  have e := he c hc
  have hk : 1 ≤ c.key.size ∧ c.key.size ≤ 16 := by
   rcases diff_keys _ (Nat.le_refl _) hc with ⟨v, h1⟩ | ⟨v, h1⟩
   ·
    exact fS _ h1
   ·
    exact (fU _ h1).1
  refine ⟨⟨hk.2, ?_⟩, slt_nil hk.1⟩
  rcases e.b with ⟨_, h2⟩ | ⟨_, h2, _⟩
  ·
   exact (fU _ h2).2
  ·
   rw [h2]; decide
 obtain ⟨S2, k1, k2, k3⟩ := keysPD_app (diffL S.kv U.kv) S ByteArray.empty r hS hp hfit
 have hl := diff_leads _ (P := []) (Nat.le_refl _) hS.1 hU.1 (fun p hp => by simp at hp)
 simp only [List.nil_append] at hl
 rw [hl] at k2
 have e2 : S2 = U := One.shape_uniq k3 hU.2 k2
 unfold RdV.keysD keysDB
 rw [List.append_assoc, below_app (by omega) (by omega)]
 simp only
 rw [k1, e2]
end Go.Proofs.YtbckjgageofldaaGreat
namespace Go.Proofs.YtbckjgageofldaaGreat
open Go.RowKit
def diffM (A B : MacV) : List UInt8 := sumB A ++ sumB B ++ [UInt8.ofNat B.mem] ++ clientsB A.tab B.tab ++ keysDB (diffL A.sh.kv B.sh.kv)
theorem chg_pair {A B : Prs} (hA : Asc A) (hB : Asc B) (h : ∀ p ∈ B, PairOk p) (h2 : ∀ p ∈ A, PairOk p) : ∀ c ∈ diffL A B, ChgOk c := by
 intro c hc
 have he := (diff_elem _ (Nat.le_refl _) hA hB).1 c hc
 refine ⟨?_, ?_⟩
 ·
  rcases diff_keys _ (Nat.le_refl _) hc with ⟨v, h1⟩ | ⟨v, h1⟩
  ·
   exact (h2 _ h1).1
  ·
   exact (h _ h1).1
 ·
  rcases he.b with ⟨_, h1⟩ | ⟨_, h1, _⟩
  ·
   exact (h _ h1).2
  ·
   rw [h1]; decide
theorem sumB_len (M : MacV) : (sumB M).length = 8 := leB_len _ 8
theorem mac_loads (ρ : Operand → Value) (o : Oper) (a : Operand) (h : o.op = .load 38 a) {g : Nat} {M : MacV} {P : Option Addr} (ha : ρ a = .pointer (some ⟨g, 0, none⟩)) {y : World} (hm : MacAt y g M P) :
  (execOp ρ o).run Tryz.prog y = .ok (.value (macV M P)) y := by
 simp only [execOp, h, ha]
 unfold macV
 rw [mac_eta M P]
 obtain ⟨⟨m0, m1, m14⟩, ⟨m2, m3, m4⟩, ⟨m5, m6, m7⟩, ⟨m8, m9, m10⟩, ⟨m11, m12, m13⟩⟩ := hm.cells
 go_simp
set_option maxRecDepth 100000 in
set_option maxHeartbeats 16000000 in
theorem ddiff_any (A B : MacV) (X Y : Tr) (hA : MacFit A) (hB : MacFit B) (w : World) (hX : TreeAt w X) (hY : TreeAt w Y) (hsX : X.sh = A.sh) (hsY : Y.sh = B.sh) :
  Calls Tryz.prog 76 #[macV A X.ptr, macV B Y.ptr] w fun e w' => e = .returned (.tuple #[.string (if A.all = B.all then ⟨(diffM A B).toArray⟩ else ByteArray.empty), .int .i64 (if A.all = B.all then 0 else 2)]) ∧ Below w.heap.size w w' := by
 obtain ⟨i0, hi0, hz0, hs0, hb0⟩ := info_parts info8
 obtain ⟨PA, hPA⟩ : ∃ P, X.ptr = P := ⟨_, rfl⟩
 obtain ⟨PB, hPB⟩ : ∃ P, Y.ptr = P := ⟨_, rfl⟩
 have hb1 := (Below.refl w.heap.size w).alloc (Nat.le_refl _) (.cells (macCells A PA).toArray 38)
 have hm1 : MacAt (w.alloc (.cells (macCells A PA).toArray 38)) w.heap.size A PA := heap_alloc_new _ _
 have hb2 := (Below.refl _ (w.alloc (.cells (macCells A PA).toArray 38))).alloc (Nat.le_refl _) (.cells (macCells B PB).toArray 38)
 have hm2 : MacAt ((w.alloc (.cells (macCells A PA).toArray 38)).alloc (.cells (macCells B PB).toArray 38)) (w.heap.size + 1) B PB := by
  have := heap_alloc_new (w.alloc (.cells (macCells A PA).toArray 38)) (.cells (macCells B PB).toArray 38)
  rw [World.size_alloc] at this
  exact this
 have hm1' := hm1.below hb2
 have h12 := hb1.trans (hb2.mono hb1.size)
 have hX2 := hX.below h12
 have hY2 := hY.below h12
 obtain ⟨VA, hVA⟩ : ∃ V, macV A PA = V := ⟨_, rfl⟩
 obtain ⟨VB, hVB⟩ : ∃ V, macV B PB = V := ⟨_, rfl⟩
 have HVA := Lib.hid hVA
 have HVB := Lib.hid hVB
 have hall := fun y : World => mall_any A PA y
 have hall2 := fun y : World => mall_any B PB y
 rw [hVA] at hall
 rw [hVB] at hall2
 have Hall := Lib.hid hall; clear hall
 have Hall2 := Lib.hid hall2; clear hall2
 have HPA := Lib.hid hPA
 have HPB := Lib.hid hPB
 rw [hPA, hPB]
 clear hPA hPB hVA hVB hb1 hb2 hm1 hX hY
 have Hfit := Lib.hid (And.intro hA hB)
 obtain ⟨R, hR⟩ : ∃ R : ByteArray, (if A.all = B.all then (⟨(diffM A B).toArray⟩ : ByteArray) else ByteArray.empty) = R := ⟨_, rfl⟩
 obtain ⟨rc, hrc⟩ : ∃ c : Int, (if A.all = B.all then 0 else 2 : Int) = c := ⟨_, rfl⟩
 rw [hR, hrc]
 have HR := Lib.hid (And.intro hR hrc); clear hR hrc
 unfold macV
 rw [mac_eta A PA, mac_eta B PB]
 have haa : A.all < 128 := hA.all
 have hba : B.all < 128 := hB.all
 have hbm : B.mem < 128 := hB.mem
 clear hA hB
 go_enter Tryz.func76, Tryz.ntmps76
 go_upto_region 1 with fail
 change Code.wp _ _ _ _ ((w.alloc (.cells (macCells A PA).toArray 38)).alloc (.cells (macCells B PB).toArray 38))
 generalize (w.alloc (.cells (macCells A PA).toArray 38)).alloc (.cells (macCells B PB).toArray 38) = w2 at *
 have HMA := Lib.hid hm1'; clear hm1'
 have HMB := Lib.hid hm2; clear hm2
 have H12 := Lib.hid h12; clear h12
 have HXY := Lib.hid (And.intro hX2 hY2); clear hX2 hY2
 have hvA := HVA.out
 unfold macV at hvA
 rw [mac_eta A PA] at hvA
 have hvB := HVB.out
 unfold macV at hvB
 rw [mac_eta B PB] at hvB
 rw [hvA, hvB]
 clear hvA hvB
 refine (wpIn_wide (n := 1)).1 ?_
 refine RegK.wpIn_region_can (F := Fence.wide) (KeptW w2) [(0, 0), (2, 0), (1, 1), (3, 1), (4, 0)] (by kernel_rfl) (by kernel_rfl) (by kernel_rfl) (fun _ _ d _ _ h => by cases d <;> exact h) ⟨rfl, rfl, rfl, Nat.le_refl _, fun _ _ => rfl⟩ ?_
 dsimp only [RegK.pick, List.getElem?_cons_zero, List.getElem?_cons_succ]
 change RegK.Can _ _ _ _ _ _ _ _ w2.drew
 have hkd : KeptW w2 w2.drew := ⟨rfl, rfl, rfl, Nat.le_refl _, fun _ _ => rfl⟩
 generalize w2.drew = z1 at *
 refine RegK.can_reads ?_
 intro K hK
 rw [if_pos (by simp [Region.wanted])]
 refine ⟨VA, fun y hy => ?_, hK _ ?_⟩
 ·
  rw [← HVA.out]
  exact mac_loads _ _ _ rfl rfl (HMA.out.below (KeptW.bel hy))
 clear hK K
 go_simp
 refine RegK.can_reads ?_
 intro K hK
 rw [if_pos (by simp [Region.wanted])]
 refine ⟨VB, fun y hy => ?_, hK _ ?_⟩
 ·
  rw [← HVB.out]
  exact mac_loads _ _ _ rfl rfl (HMB.out.below (KeptW.bel hy))
 clear hK K
 go_simp
 refine RegK.can_turns (fun _ => trivial) ?_
 intro K K0 hK hK0
 go_simp
 refine ⟨trivial, ?_⟩
 refine (callsIn_wide.2 (Hall.out z1)).mono ?_
 rintro e z2 ⟨rfl, hb7⟩
 have z2k : KeptW w2 z2 := KeptW.mono hkd hb7
 refine hK _ _ z2k ?_
 clear hK K hK0 K0
 refine RegK.can_turns (fun _ => trivial) ?_
 intro K K0 hK hK0
 go_simp
 refine ⟨trivial, ?_⟩
 refine (callsIn_wide.2 (Hall2.out z2)).mono ?_
 rintro e z3 ⟨rfl, hb7⟩
 have z3k : KeptW w2 z3 := KeptW.mono z2k hb7
 refine hK _ _ z3k ?_
 clear hK K hK0 K0
 refine RegK.can_reads ?_; intro K hK; go_simp; (first | refine ⟨_, fun _ _ => rfl, hK _ ?_⟩ | refine hK _ ?_); clear hK K
 refine RegK.can_nil ?_
 have Hk3 := Lib.hid z3k; clear z3k
 generalize z3 = w3 at *
 clear Hall Hall2
 by_cases heq : A.all = B.all
 ·
  have heq' : ((A.all : Int) != (B.all : Int)) = false := by simp [heq]
  obtain ⟨hR, hrc⟩ := HR.out
  rw [if_pos heq] at hR hrc
  subst hrc
  have HR2 := Lib.hid hR; clear hR heq haa hba HR
  go_upto_region 3 with fail
  refine (wpIn_wide (n := 1)).1 ?_
  refine RegK.wpIn_region_can (F := Fence.wide) (KeptW w2) [(0, 0), (2, 0), (1, 1), (3, 1), (4, 0)] (by kernel_rfl) (by kernel_rfl) (by kernel_rfl) (fun _ _ d _ _ h => by cases d <;> exact h) (KeptW.mono Hk3.out ⟨rfl, rfl, rfl, Nat.le_refl _, fun _ _ => rfl⟩) ?_
  dsimp only [RegK.pick, List.getElem?_cons_zero, List.getElem?_cons_succ]
  change RegK.Can _ _ _ _ _ _ _ _ w3.drew
  have hkd : KeptW w2 w3.drew := (KeptW.mono Hk3.out ⟨rfl, rfl, rfl, Nat.le_refl _, fun _ _ => rfl⟩)
  generalize w3.drew = y1 at *
  refine RegK.can_reads ?_
  intro K hK
  rw [if_pos (by simp [Region.wanted])]
  refine ⟨VA, fun y hy => ?_, hK _ ?_⟩
  ·
   rw [← HVA.out]
   exact mac_loads _ _ _ rfl rfl (HMA.out.below (KeptW.bel hy))
  clear hK K
  go_simp
  refine RegK.can_reads ?_
  intro K hK
  rw [if_pos (by simp [Region.wanted])]
  refine ⟨VB, fun y hy => ?_, hK _ ?_⟩
  ·
   rw [← HVB.out]
   exact mac_loads _ _ _ rfl rfl (HMB.out.below (KeptW.bel hy))
  clear hK K
  go_simp
  refine RegK.can_turns (fun _ => trivial) ?_
  intro K K0 hK hK0
  go_simp
  refine ⟨trivial, ?_⟩
  have hd := putSum_any A X (macFit_by Hfit.out.1) (macB_len Hfit.out.1) (.slice none 0 0) ([]) w2.heap.size (Nat.zero_le _) y1 (KeptW.bel hkd).size (OwnB.nil _ _ _) (HXY.out.1.below (KeptW.bel hkd)) hsX
  rw [HPA.out, HVA.out] at hd
  refine (callsIn_wide.2 (hd)).mono ?_
  rintro e y2 ⟨u1, rfl, ho1, hb7⟩
  have y2k : KeptW w2 y2 := ((KeptW.bel hkd).trans hb7)
  refine hK _ _ y2k ?_
  clear hK K hK0 K0
  obtain ⟨a1, n1, c1, rfl⟩ := ho1.read.slice
  have Ho1 := Lib.hid ho1; clear ho1 hd hb7
  refine RegK.can_turns (fun _ => trivial) ?_
  intro K K0 hK hK0
  go_simp
  refine ⟨trivial, ?_⟩
  have hd := putSum_any B Y (macFit_by Hfit.out.2) (macB_len Hfit.out.2) (.slice a1 n1 c1) ([] ++ sumB A) w2.heap.size (by rw [List.nil_append, sumB_len]; decide) y2 (KeptW.bel y2k).size Ho1.out (HXY.out.2.below (KeptW.bel y2k)) hsY
  rw [HPB.out, HVB.out] at hd
  refine (callsIn_wide.2 (hd)).mono ?_
  rintro e y3 ⟨u2, rfl, ho2, hb7⟩
  have y3k : KeptW w2 y3 := ((KeptW.bel y2k).trans hb7)
  refine hK _ _ y3k ?_
  clear hK K hK0 K0
  obtain ⟨a2, n2, c2, rfl⟩ := ho2.read.slice
  have Ho2 := Lib.hid ho2; clear ho2 hd hb7
  refine RegK.can_reads ?_; intro K hK; go_simp; (first | refine ⟨_, fun _ _ => rfl, hK _ ?_⟩ | refine hK _ ?_); clear hK K
  refine RegK.can_nil ?_
  have Hk4 := Lib.hid y3k; clear y3k hkd Hk3 Ho1
  try clear y2k
  generalize y3 = w4 at *
  have hmem := fun y : World => mmem_any B PB y
  unfold macV at hmem
  rw [mac_eta B PB] at hmem
  have Hmem := Lib.hid hmem; clear hmem
  have hm8 : ((UInt8.ofNat B.mem).toNat : Int) = (B.mem : Int) := by simp; omega
  have Hone := Lib.hid (fun y : World => (show ReadB (y.alloc (.cells #[.int .u8 (B.mem : Int)] 5)) (.slice (some ⟨y.heap.size, 0, none⟩) 1 1) [UInt8.ofNat B.mem] by
   have h := ReadB.one y (UInt8.ofNat B.mem) 5
   rwa [hm8] at h))
  clear hm8
  obtain ⟨⟨m0, m1, m14⟩, ⟨m2, m3, m4⟩, ⟨m5, m6, m7⟩, ⟨m8, m9, m10⟩, ⟨m11, m12, m13⟩⟩ := (HMB.out.below (KeptW.bel Hk4.out)).cells
  go_upto_region 5 with (first
   | ((with_reducible refine (Hmem.out _).mono ?_); rintro e w5 ⟨rfl, hb5⟩; have Hk5 := Lib.hid (show Below w2.heap.size w2 w5 from (KeptW.bel Hk4.out).trans (hb5.mono (KeptW.bel Hk4.out).size)); have Ho5 := Lib.hid (Ho2.out.below hb5); clear hb5)
   | (at_builtin; refine wpList_append_read rfl _ _ 44 rfl w2.heap.size 5 i0 (.int .u8 0) Tryz.underlying44 hi0 hz0 hs0 hb0 rfl _ _ _ rfl (World.ownsRow.alloc Ho5.out _) _ [UInt8.ofNat B.mem] rfl (Hone.out _) (by show ([] ++ sumB A ++ sumB B).length + 1 ≤ _; rw [List.length_append, List.length_append, sumB_len, sumB_len]; decide) (by have := Hk5.out.size; simp; omega) ?_; intro v6 w6 ho6 hg6; have Ho6 := Lib.hid (OwnB.of ho6 rfl rfl); clear ho6; have Hk6 := Lib.hid (show KeptW w2 w6 from below_grown hg6 (Hk5.out.alloc Hk5.out.size _) (by have := Hk5.out.size; simp; omega) Ho5.out.block); clear hg6))
  clear Hone Hmem m0 m1 m2 m3 m4 m5 m6 m7 m8 m9 m10 m11 m12 m13 m14 Hk4 Ho2 Hk5 Ho5
  obtain ⟨a3, n3, c3, rfl⟩ := Ho6.out.read.slice
  have Hod := Lib.hid (Ho6.out.below (w' := w6.drew) ⟨rfl, rfl, rfl, Nat.le_refl _, fun _ _ => rfl⟩)
  have HtA := Lib.hid (fun y : World => (show Calls Tryz.prog 92 #[VA] y fun e w' => e = .returned (.agg (tabCells A.tab).toArray) ∧ Below y.heap.size y w' by rw [← HVA.out]; exact mtable_any A PA y))
  have HtB := Lib.hid (fun y : World => (show Calls Tryz.prog 92 #[VB] y fun e w' => e = .returned (.agg (tabCells B.tab).toArray) ∧ Below y.heap.size y w' by rw [← HVB.out]; exact mtable_any B PB y))
  refine (wpIn_wide (n := 1)).1 ?_
  refine RegK.wpIn_region_can (F := Fence.wide) (KeptW w2) [(0, 0), (1, 0), (3, 0), (2, 1), (4, 1), (5, 1), (6, 0)] (by kernel_rfl) (by kernel_rfl) (by kernel_rfl) (fun _ _ d _ _ h => by cases d <;> exact h) (KeptW.mono Hk6.out ⟨rfl, rfl, rfl, Nat.le_refl _, fun _ _ => rfl⟩) ?_
  dsimp only [RegK.pick, List.getElem?_cons_zero, List.getElem?_cons_succ]
  change RegK.Can _ _ _ _ _ _ _ _ w6.drew
  have hkd : KeptW w2 w6.drew := (KeptW.mono Hk6.out ⟨rfl, rfl, rfl, Nat.le_refl _, fun _ _ => rfl⟩)
  generalize w6.drew = q1 at *
  refine RegK.can_reads ?_; intro K hK; go_simp; (first | refine ⟨_, fun _ _ => rfl, hK _ ?_⟩ | refine hK _ ?_); clear hK K
  refine RegK.can_reads ?_
  intro K hK
  rw [if_pos (by simp [Region.wanted])]
  refine ⟨VA, fun y hy => ?_, hK _ ?_⟩
  ·
   rw [← HVA.out]
   exact mac_loads _ _ _ rfl rfl (HMA.out.below (KeptW.bel hy))
  clear hK K
  go_simp
  refine RegK.can_reads ?_
  intro K hK
  rw [if_pos (by simp [Region.wanted])]
  refine ⟨VB, fun y hy => ?_, hK _ ?_⟩
  ·
   rw [← HVB.out]
   exact mac_loads _ _ _ rfl rfl (HMB.out.below (KeptW.bel hy))
  clear hK K
  go_simp
  refine RegK.can_turns (fun _ => trivial) ?_
  intro K K0 hK hK0
  go_simp
  refine ⟨trivial, ?_⟩
  refine (callsIn_wide.2 (HtA.out q1)).mono ?_
  rintro e q2 ⟨rfl, hb7⟩
  have q2k : KeptW w2 q2 := KeptW.mono hkd hb7
  refine hK _ _ q2k ?_
  clear hK K hK0 K0
  have Hoq := Lib.hid (Hod.out.below hb7); clear hb7
  refine RegK.can_turns (fun _ => trivial) ?_
  intro K K0 hK hK0
  go_simp
  refine ⟨trivial, ?_⟩
  refine (callsIn_wide.2 (HtB.out q2)).mono ?_
  rintro e q3 ⟨rfl, hb7⟩
  have q3k : KeptW w2 q3 := KeptW.mono q2k hb7
  refine hK _ _ q3k ?_
  clear hK K hK0 K0
  have Hor := Lib.hid (Hoq.out.below hb7); clear hb7
  refine RegK.can_turns (fun _ => trivial) ?_
  intro K K0 hK hK0
  go_simp
  refine ⟨trivial, ?_⟩
  have hd := putClients_any A.tab B.tab (macFit_by Hfit.out.2).tab (.slice a3 n3 c3) _ w2.heap.size (by simp [sumB, leB_len]) q3 (KeptW.bel q3k).size Hor.out
  refine (callsIn_wide.2 (hd)).mono ?_
  rintro e q4 ⟨u3, rfl, ho3, hb7⟩
  have q4k : KeptW w2 q4 := ((KeptW.bel q3k).trans hb7)
  refine hK _ _ q4k ?_
  clear hK K hK0 K0
  obtain ⟨a4, n4, c4, rfl⟩ := ho3.read.slice
  have Ho7 := Lib.hid ho3; clear ho3 hd hb7
  refine RegK.can_reads ?_; intro K hK; go_simp; (first | refine ⟨_, fun _ _ => rfl, hK _ ?_⟩ | refine hK _ ?_); clear hK K
  refine RegK.can_nil ?_
  have Hk7 := Lib.hid q4k; clear q4k hkd Hk6 Ho6 Hod Hoq Hor HtA HtB
  try clear q2k
  try clear q3k
  generalize q4 = w7 at *
  go_upto_region 6 with fail
  have Hod := Lib.hid (Ho7.out.below (w' := w7.drew) ⟨rfl, rfl, rfl, Nat.le_refl _, fun _ _ => rfl⟩)
  have HtA := Lib.hid (fun y : World => (show Calls Tryz.prog 53 #[VA] y fun e w' => e = .returned (.pointer PA) ∧ Below y.heap.size y w' by rw [← HVA.out]; exact mtree_any A PA y))
  have HtB := Lib.hid (fun y : World => (show Calls Tryz.prog 53 #[VB] y fun e w' => e = .returned (.pointer PB) ∧ Below y.heap.size y w' by rw [← HVB.out]; exact mtree_any B PB y))
  have hbA := macFit_by Hfit.out.1
  have hbB := macFit_by Hfit.out.2
  have hcl := cliB_len A.tab hbB.tab 4
  refine (wpIn_wide (n := 1)).1 ?_
  refine RegK.wpIn_region_can (F := Fence.wide) (KeptW w2) [(0, 0), (1, 0), (3, 0), (2, 1), (4, 1), (5, 1), (6, 0)] (by kernel_rfl) (by kernel_rfl) (by kernel_rfl) (fun _ _ d _ _ h => by cases d <;> exact h) (KeptW.mono Hk7.out ⟨rfl, rfl, rfl, Nat.le_refl _, fun _ _ => rfl⟩) ?_
  dsimp only [RegK.pick, List.getElem?_cons_zero, List.getElem?_cons_succ]
  change RegK.Can _ _ _ _ _ _ _ _ w7.drew
  have hkd : KeptW w2 w7.drew := (KeptW.mono Hk7.out ⟨rfl, rfl, rfl, Nat.le_refl _, fun _ _ => rfl⟩)
  generalize w7.drew = r1 at *
  refine RegK.can_reads ?_; intro K hK; go_simp; (first | refine ⟨_, fun _ _ => rfl, hK _ ?_⟩ | refine hK _ ?_); clear hK K
  refine RegK.can_reads ?_
  intro K hK
  rw [if_pos (by simp [Region.wanted])]
  refine ⟨VA, fun y hy => ?_, hK _ ?_⟩
  ·
   rw [← HVA.out]
   exact mac_loads _ _ _ rfl rfl (HMA.out.below (KeptW.bel hy))
  clear hK K
  go_simp
  refine RegK.can_reads ?_
  intro K hK
  rw [if_pos (by simp [Region.wanted])]
  refine ⟨VB, fun y hy => ?_, hK _ ?_⟩
  ·
   rw [← HVB.out]
   exact mac_loads _ _ _ rfl rfl (HMB.out.below (KeptW.bel hy))
  clear hK K
  go_simp
  refine RegK.can_turns (fun _ => trivial) ?_
  intro K K0 hK hK0
  go_simp
  refine ⟨trivial, ?_⟩
  refine (callsIn_wide.2 (HtA.out r1)).mono ?_
  rintro e r2 ⟨rfl, hb7⟩
  have r2k : KeptW w2 r2 := KeptW.mono hkd hb7
  refine hK _ _ r2k ?_
  clear hK K hK0 K0
  have Hoq := Lib.hid (Hod.out.below hb7); clear hb7
  refine RegK.can_turns (fun _ => trivial) ?_
  intro K K0 hK hK0
  go_simp
  refine ⟨trivial, ?_⟩
  refine (callsIn_wide.2 (HtB.out r2)).mono ?_
  rintro e r3 ⟨rfl, hb7⟩
  have r3k : KeptW w2 r3 := KeptW.mono r2k hb7
  refine hK _ _ r3k ?_
  clear hK K hK0 K0
  have Hor := Lib.hid (Hoq.out.below hb7); clear hb7
  refine RegK.can_turns (fun _ => trivial) ?_
  intro K K0 hK hK0
  go_simp
  refine ⟨trivial, ?_⟩
  have hd := putKeys_any X Y (.slice a4 n4 c4) _ (by simp [sumB, leB_len, clientsB]; omega) r3 Hor.out.read (HXY.out.1.below (KeptW.bel r3k)) (HXY.out.2.below (KeptW.bel r3k)) (by rw [hsX]; exact Hfit.out.1.kv.asc) (by rw [hsY]; exact Hfit.out.2.kv.asc) (by rw [sh_cnt, hsX]; exact hbA.num) (by rw [sh_cnt, hsY]; exact hbB.num) (by unfold Tr.kvs; rw [hsX, hsY]; exact chg_pair Hfit.out.1.kv.asc Hfit.out.2.kv.asc hbB.kv hbA.kv)
  rw [HPA.out, HPB.out] at hd
  refine (callsIn_wide.2 (hd)).mono ?_
  rintro e r4 ⟨u3, rfl, ho3, hb7⟩
  have r4k : KeptW w2 r4 := KeptW.mono r3k hb7
  refine hK _ _ r4k ?_
  clear hK K hK0 K0
  obtain ⟨a5, n5, c5, rfl⟩ := ho3.read.slice
  have Ho8 := Lib.hid ho3; clear ho3 hd hb7
  refine RegK.can_reads ?_; intro K hK; go_simp; (first | refine ⟨_, fun _ _ => rfl, hK _ ?_⟩ | refine hK _ ?_); clear hK K
  refine RegK.can_nil ?_
  have Hk8 := Lib.hid r4k
  have hres : diffM A B = [] ++ sumB A ++ sumB B ++ [UInt8.ofNat B.mem] ++ clientsB A.tab B.tab ++ keysDB (diffL X.kvs Y.kvs) := by unfold Tr.kvs; rw [hsX, hsY]; rfl
  rw [← hres] at Ho8
  have hcv := Ho8.out.read.conv Tryz.underlying44 Tryz.underlying5 Tryz.underlying9
  rw [HR2.out] at hcv
  go_wp2_with fail
  refine bodyPost_ret (v := .tuple #[.string R, .int .i64 0]) (by simp [results, Tryz.results76, go_sem]) rfl ?_
  exact ⟨rfl, H12.out.trans ((KeptW.bel Hk8.out).mono H12.out.size)⟩
 ·
  have heq' : ((A.all : Int) != (B.all : Int)) = true := by simp; omega
  obtain ⟨hR, hrc⟩ := HR.out
  rw [if_neg heq] at hR hrc
  subst hR hrc
  clear heq HR
  go_wp2_with fail
  refine bodyPost_ret (v := .tuple #[.string ByteArray.empty, .int .i64 2]) (by simp [results, Tryz.results76, go_sem] <;> rfl) rfl ?_
  exact ⟨rfl, H12.out.trans ((KeptW.bel Hk3.out).mono H12.out.size)⟩
end Go.Proofs.YtbckjgageofldaaGreat
