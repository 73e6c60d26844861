/- Maps: a block that is a map of known keys and values, in the order in which they were laid: what lookup, update, delete and a step of a range do to it. Over any program; no condition. -/
import Derived.MapKept
import Derived.WalkKit
import Derived.OwnWalk
import Derived.Test.YtkngadbeflepoaaZDeltaLeads4
import Derived.Test.YtkngadbeflepoaaZDeltaLeads19
import Derived.Test.YtkngadbeflepoaaZDeltaLeads21
import Derived.Test.YtkngadbeflepoaaZDeltaLeads18
import Derived.Test.YtkngadbeflepoaaZDeltaLeads30
import Derived.Laws.IdiomStrings
import Derived.Test.YtkngadbeflepoaaZDeltaLeads0
import Derived.Test.YtkngadbeflepoaaZDeltaLeads43
import Derived.Test.YtkngadbeflepoaaZDeltaLeads16
import Derived.Test.YtkngadbeflepoaaZDeltaLeads13
namespace Go.Proofs.Ytkngadbeflepoaa
open Go.RowKit
open Go.MapKept
def keyStr (P : Program) (T : TypeId) (h : P.underlying T = some .string) : KeyEnc P T ByteArray where
  enc x := .string x
  desc := .string
  und := h
  same a b := by
    simp only [Instr.sameNow, Option.some.injEq]
    rw [Bool.eq_iff_iff, MapKept.bytes_beq, decide_eq_true_eq]
  ck n a e w := by simp [Instr.checkKey, run_underlying h]
  bits a := by
    simp only [Instr.sameBits]
    rw [MapKept.bytes_beq]
section
variable {P : Program} {T : TypeId} {α : Type} [DecidableEq α] (K : KeyEnc P T α)
theorem MapAt.kept {w w' : World} {B : Nat} {row : Option Nat} {l : List (α × Value)} (h : MapAt K w B l) (hg : w.grownBy w' row) (hne : some B ≠ row) : MapAt K w' B l := h.of_block K (hg.block B h.lt hne)
/-- len(m). -/
theorem run_len_at {w : World} {B : Nat} {l : List (α × Value)} (h : MapAt K w B l) {t E : TypeId} (ht : P.underlying t = some (.map T E)) (ty : TypeId) :
    (Builtin.len_ #[t] ty #[.map (some B)]).run P w = .ok (.int .i64 (l.length : Int)) w := by
  obtain ⟨es, clock, hb, he⟩ := h
  have := he.size
  simp [Builtin.len_, run_underlying ht, MapKept.run_getObj_map hb, goInt, this]
end
end Go.Proofs.Ytkngadbeflepoaa
namespace Go.Proofs.Ytkngadbeflepoaa
open Go.RowKit
/-- A change, against two trees. -/
theorem diff_look {S U : Sh} (hS : Asc S.kv) (hU : Asc U.kv) {c : Chg} (hc : c ∈ diffL S.kv U.kv) : c = chgOf c.key (S.look c.key) (U.look c.key) ∧ c.real = true := by
  have h := (diff_elem _ (Nat.le_refl _) hS hU).1 c hc
  have side : ∀ {V : Sh} (_ : Asc V.kv) {v : ByteArray} {b : Bool}, SideOk V.kv c.key v b → v = (V.look c.key).getD ByteArray.empty ∧ b = (V.look c.key).isSome := fun {V} hV {v b} hs => by
    rcases hs with ⟨h1, h2⟩ | ⟨h1, h2, h3⟩
    · rw [(look_kv c.key hV v).2 h2]
      exact ⟨rfl, h1⟩
    · have hn : V.look c.key = none := by
        cases hl : V.look c.key with
        | none => rfl
        | some u => exact absurd ((look_kv c.key hV u).1 hl) (h3 u)
      rw [hn]
      exact ⟨h2, h1⟩
  obtain ⟨a1, a2⟩ := side hS h.a
  obtain ⟨b1, b2⟩ := side hU h.b
  refine ⟨?_, h.r⟩
  unfold chgOf
  rw [← a1, ← a2, ← b1, ← b2]
end Go.Proofs.Ytkngadbeflepoaa
namespace Go.Proofs.Ytkngadbeflepoaa.One
open Go.RowKit
theorem rm_keep {M : Prs} {k : ByteArray} {p : ByteArray × ByteArray} (hp : p.1 ≠ k) : p ∈ rmL M k ↔ p ∈ M := by
  constructor
  · exact fun h => (rm_mem h).1
  · intro h
    simp only [rmL, List.mem_append, List.mem_filter]
    by_cases h1 : slt p.1 k = true
    · exact .inl ⟨h, h1⟩
    · by_cases h2 : slt k p.1 = true
      · exact .inr ⟨h, h2⟩
      · exact absurd (slt_or h1 h2) hp
theorem del_other {S : Sh} (h : Asc S.kv) {k k' : ByteArray} (hk : k' ≠ k) : (delSh k S (S.look k)).look k' = S.look k' := by
  refine look_same (asc_del h k _) h (fun u => ?_)
  rw [show (delSh k S (S.look k)).kv = rmL S.kv k from step_kv h ⟨0, k, ByteArray.empty⟩]
  exact rm_keep hk
theorem real_same (k : ByteArray) (l : Option ByteArray) : (chgOf k l l).real = false := by
  cases l <;> simp [chgOf, Chg.real]
end Go.Proofs.Ytkngadbeflepoaa.One
namespace Go.Proofs.Ytkngadbeflepoaa
open Go.RowKit
/-- The bytes l lie in block B from its head on, and may be written. -/
def ByteRow (W : World) (B : Nat) (l : List UInt8) : Prop := ∀ j (hj : j < l.length), W.cell? ⟨B, j, none⟩ = some (.int .u8 (l[j].toNat : Int)) ∧ W.frozen? ⟨B, j, none⟩ = false
theorem ByteRow.drew {W : World} {B : Nat} {l : List UInt8} (h : ByteRow W B l) : ByteRow W.drew B l := h
theorem ByteRow.set {W : World} {B : Nat} {l : List UInt8} (h : ByteRow W B l) {q : Nat} (u : UInt8) {x : Int} (hx : x = (u.toNat : Int)) : ByteRow (W.setCell ⟨B, q, none⟩ (.int .u8 x)) B (l.set q u) := by
  subst hx
  intro j hj
  have hj' : j < l.length := by simpa using hj
  obtain ⟨h1, h2⟩ := h j hj'
  refine ⟨?_, by rw [World.frozen?_setCell]; exact h2⟩
  by_cases e : q = j
  · subst e
    rw [World.cell?_setCell_same _ _ _ h1]
    simp
  · rw [World.cell?_setCell_other _ _ _ _ (by intro h; cases h; exact e rfl), h1]
    simp [e]
theorem ByteRow.alloc {W : World} {B : Nat} {l : List UInt8} (h : ByteRow W B l) (hB : B < W.heap.size) (o : Obj) : ByteRow (W.alloc o) B l := fun j hj =>
  ⟨by rw [World.cell?_alloc_lt _ _ _ hB]; exact (h j hj).1, by rw [World.frozen?_alloc_old _ _ _ (by show B ≠ _; omega)]; exact (h j hj).2⟩
theorem ByteRow.other {W : World} {B : Nat} {l : List UInt8} (h : ByteRow W B l) {a : Addr} (ha : a.block ≠ B) (v : Value) : ByteRow (W.setCell a v) B l := fun j hj =>
  ⟨by rw [World.cell?_setCell_other _ _ _ _ (by intro e; rw [e] at ha; exact ha rfl)]; exact (h j hj).1, by rw [World.frozen?_setCell]; exact (h j hj).2⟩
theorem ByteRow.string {P : Program} {W : World} {B : Nat} {l : List UInt8} (h : ByteRow W B l) (src dst e : TypeId) {n cap : Nat} (hn : l.length = n) (hs : P.underlying src = some (.slice e)) (he : P.underlying e = some (.int .u8)) (hd : P.underlying dst = some .string) :
    (convert src dst (.slice (some ⟨B, 0, none⟩) n cap)).run P W = .ok (.string ⟨l.toArray⟩) W := by
  subst hn
  refine run_convert_bytes_back W src dst e ⟨B, 0, none⟩ cap l hs he hd (fun j hj => ?_)
  have := (h j hj).1
  simp only [Addr.add]
  split
  · rename_i e; subst e; exact this
  · simpa using this
end Go.Proofs.Ytkngadbeflepoaa
namespace Go.Proofs.Ytkngadbeflepoaa
open Go.RowKit
theorem diffM_long (A B : MacV) : 19 ≤ (diffM A B).length := by
  have h1 := sumB_len A
  have h2 := sumB_len B
  have h3 := (numL_len (diffL A.sh.kv B.sh.kv).length).2
  unfold diffM clientsB keysDB
  simp only [List.length_append, List.length_cons, List.length_nil]
  omega
theorem nodes_do (M : MacV) (c : CmdV) : (macDo M c).m.all = M.all := by
  have h : (macFresh M c).1.all = M.all := by
    unfold macFresh
    split
    · split <;> rfl
    · rfl
  unfold macDo
  split
  · split
    · exact h
    · rfl
  · rfl
end Go.Proofs.Ytkngadbeflepoaa
namespace Go.Proofs.Ytkngadbeflepoaa
open Go.RowKit
theorem ins_keep {M : Prs} {k v : ByteArray} {p : ByteArray × ByteArray} (hp : p.1 ≠ k) : p ∈ insL M k v ↔ p ∈ M := by
  constructor
  · intro h
    rcases ins_mem h with rfl | h
    · exact absurd rfl hp
    · exact h
  · intro h
    simp only [insL, List.mem_append, List.mem_cons, List.mem_filter]
    by_cases h1 : slt p.1 k = true
    · exact .inl ⟨h, h1⟩
    · by_cases h2 : slt k p.1 = true
      · exact .inr (.inr ⟨h, h2⟩)
      · exact absurd (slt_or h1 h2) hp
theorem rm_keep {M : Prs} {k : ByteArray} {p : ByteArray × ByteArray} (hp : p.1 ≠ k) : p ∈ rmL M k ↔ p ∈ M := by
  constructor
  · exact fun h => (rm_mem h).1
  · intro h
    simp only [rmL, List.mem_append, List.mem_filter]
    by_cases h1 : slt p.1 k = true
    · exact .inl ⟨h, h1⟩
    · by_cases h2 : slt k p.1 = true
      · exact .inr ⟨h, h2⟩
      · exact absurd (slt_or h1 h2) hp
theorem look_same {S U : Sh} (hS : Asc S.kv) (hU : Asc U.kv) {k : ByteArray} (h : ∀ v, (k, v) ∈ S.kv ↔ (k, v) ∈ U.kv) : S.look k = U.look k := by
  cases hs : S.look k with
  | some v => exact ((look_kv k hU v).2 ((h v).1 ((look_kv k hS v).1 hs))).symm
  | none =>
    cases hu : U.look k with
    | none => rfl
    | some v =>
      have := (look_kv k hS v).2 ((h v).2 ((look_kv k hU v).1 hu))
      rw [hs] at this
      cases this
theorem put_other {S : Sh} (h : Asc S.kv) {k k' v : ByteArray} (hk : k' ≠ k) : (putSh k v S (S.look k)).look k' = S.look k' := by
  refine look_same (asc_put h k v _) h (fun u => ?_)
  rw [show (putSh k v S (S.look k)).kv = insL S.kv k v from step_kv h ⟨1, k, v⟩]
  exact ins_keep hk
theorem del_other {S : Sh} (h : Asc S.kv) {k k' : ByteArray} (hk : k' ≠ k) : (delSh k S (S.look k)).look k' = S.look k' := by
  refine look_same (asc_del h k _) h (fun u => ?_)
  rw [show (delSh k S (S.look k)).kv = rmL S.kv k from step_kv h ⟨0, k, ByteArray.empty⟩]
  exact rm_keep hk
/-- What a command leaves of the keys: the same, or one put, or one taken: its own. -/
inductive KvStep (S : Sh) (c : CmdV) : Sh → Prop
  | same : KvStep S c S
  | put : KvStep S c (putSh c.key c.fresh S (S.look c.key))
  | del : KvStep S c (delSh c.key S (S.look c.key))
theorem kv_step {S : Sh} (c : CmdV) : KvStep S c (kvDo S c).sh := by
  unfold kvDo
  by_cases hm : mayC c = true
  · rw [if_pos hm]
    by_cases h1 : c.kind = 1
    · rw [if_pos h1]; unfold kvGet; split <;> exact .same
    rw [if_neg h1]
    by_cases h2 : c.kind = 2
    · rw [if_pos h2]
      unfold kvPut
      cases hl : S.look c.key with
      | none =>
        by_cases hf : 256 ≤ S.cnt
        · simp only [hf, if_true]; exact .same
        · simp only [hf, if_false]; rw [← hl]; exact .put
      | some v => show KvStep S c (putSh c.key c.fresh S (some v)); rw [← hl]; exact .put
    rw [if_neg h2]
    by_cases h3 : c.kind = 3
    · rw [if_pos h3]
      unfold kvDel
      cases hl : S.look c.key with
      | none => exact .same
      | some v => show KvStep S c (delSh c.key S (some v)); rw [← hl]; exact .del
    rw [if_neg h3]
    by_cases h4 : c.kind = 4
    · rw [if_pos h4]
      unfold kvCas
      cases hl : S.look c.key with
      | none => exact .same
      | some v =>
        by_cases hf : v = c.old
        · simp only [hf, if_true]; rw [← hf, ← hl]; exact .put
        · simp only [hf, if_false]; exact .same
    rw [if_neg h4]
    exact .same
  · rw [if_neg hm]
    exact .same
theorem kv_other {S : Sh} (h : Asc S.kv) (c : CmdV) {k : ByteArray} (hk : k ≠ c.key) : (kvDo S c).sh.look k = S.look k := by
  have := kv_step (S := S) c
  generalize (kvDo S c).sh = U at *
  cases this with
  | same => rfl
  | put => exact put_other h hk
  | del => exact del_other h hk
theorem real_same (k : ByteArray) (l : Option ByteArray) : (chgOf k l l).real = false := by
  cases l <;> simp [chgOf, Chg.real]
end Go.Proofs.Ytkngadbeflepoaa
namespace Go.Proofs.Ytkngadbeflepoaa
open Go.RowKit
theorem nodup_le {α : Type} [DecidableEq α] : ∀ (l m : List α), l.Nodup → (∀ x ∈ l, x ∈ m) → l.length ≤ m.length
  | [], _, _, _ => Nat.zero_le _
  | a :: l, m, h, hs => by
    have ha := hs a (by simp)
    obtain ⟨h1, h2⟩ := List.nodup_cons.1 h
    have h3 := nodup_le l (m.erase a) h2 (fun x hx => (List.mem_erase_of_ne (fun e => by rw [e] at hx; exact h1 hx)).2 (hs x (by simp [hx])))
    rw [List.length_erase_of_mem ha] at h3
    have h4 := List.length_pos_of_mem ha
    rw [List.length_cons]
    omega
theorem numL_one {n : Nat} (h : n < 248) : (numL n).length = 1 := by
  unfold numL
  rw [if_pos h]
  rfl
theorem numL_five {n : Nat} (h : n < 4294967296) : (numL n).length ≤ 5 := by
  unfold numL
  split
  · simp
  · rw [List.length_cons, bigB_len]
    have : wid n ≤ 4 := by
      unfold wid
      repeat' split
      all_goals omega
    omega
/-- The clients whose last commands are others. -/
def cliN (s t : TabV) (n : Nat) : List Nat := (List.range n).filter fun c => !lastE (t.at_ c) (s.at_ c)
theorem lastB_short {x : LastV} (h : LastFit x) : (lastB x).length ≤ 72 := by
  have h1 := numL_five x.seq.isLt
  have h2 := h.text
  have h3 : x.text.data.toList.length = x.text.size := rfl
  have h4 := numL_one (n := x.text.size) (by omega)
  unfold lastB strL
  rw [List.length_append]
  split
  · simp; omega
  · rw [List.length_cons, List.length_append]
    omega
theorem cliB_short (s : TabV) {t : TabV} (ht : ∀ n, LastFit (t.at_ n)) : ∀ n, (cliB s t n).length ≤ 72 * (cliN s t n).length
  | 0 => by simp [cliB]
  | n + 1 => by
    have h1 := cliB_short s ht n
    have h2 := lastB_short (ht n)
    unfold cliB cliN
    rw [List.length_append, List.range_succ, List.filter_append, List.length_append]
    unfold cliN at h1
    cases hl : lastE (t.at_ n) (s.at_ n) with
    | true => simp [hl]; omega
    | false => simp [hl]; omega
theorem chgB_short {c : Chg} (h1 : c.key.size ≤ 16) (h2 : c.new.size ≤ 64) : (chgB c).length ≤ 83 := by
  have k1 := numL_one (n := c.key.size) (by omega)
  have k2 := numL_one (n := c.new.size) (by omega)
  have e1 : c.key.data.toList.length = c.key.size := rfl
  have e2 : c.new.data.toList.length = c.new.size := rfl
  have k3 := numL_one (n := 1) (by omega)
  have k4 := numL_one (n := 0) (by omega)
  unfold chgB strL
  rw [List.length_append, List.length_append]
  split
  · rw [List.length_append, List.length_append]; omega
  · omega
theorem chgsB_short : ∀ (l : List Chg), (∀ c ∈ l, c.key.size ≤ 16 ∧ c.new.size ≤ 64) → (chgsB l).length ≤ 83 * l.length
  | [], _ => by simp [chgsB]
  | c :: r, h => by
    have h1 := chgB_short (h c (by simp)).1 (h c (by simp)).2
    have h2 := chgsB_short r (fun x hx => h x (by simp [hx]))
    show (chgB c ++ chgsB r).length ≤ _
    rw [List.length_append, List.length_cons]
    omega
/-- What differs between two machines is of these clients and keys. -/
structure Few (A B : MacV) (C : List UInt8) (K : List ByteArray) : Prop where
  c : ∀ n, n < 4 → B.tab.at_ n ≠ A.tab.at_ n → UInt8.ofNat n ∈ C
  k : ∀ k, B.sh.look k ≠ A.sh.look k → k ∈ K
theorem Few.same (A : MacV) : Few A A [] [] := ⟨fun _ _ h => absurd rfl h, fun _ h => absurd rfl h⟩
theorem Few.more {A B : MacV} {C C2 : List UInt8} {K K2 : List ByteArray} (h : Few A B C K) (hC : ∀ x ∈ C, x ∈ C2) (hK : ∀ x ∈ K, x ∈ K2) : Few A B C2 K2 := ⟨fun n hn e => hC _ (h.c n hn e), fun k e => hK _ (h.k k e)⟩
theorem short_len {A B : MacV} (hA : MacAll A) (hB : MacAll B) {C : List UInt8} {K : List ByteArray} (h : Few A B C K) (hK : K.length ≤ 30) : (diffM A B).length ≤ 19 + 72 * C.length + 83 * K.length := by
  have h1 := sumB_len A
  have h2 := sumB_len B
  have h3 := cliB_short A.tab hB.fit.tab 4
  have h4 : (cliN A.tab B.tab 4).length ≤ C.length := by
    have hm : ((cliN A.tab B.tab 4).map UInt8.ofNat).length ≤ C.length := nodup_le _ _ (by
      have hsub : (cliN A.tab B.tab 4).Sublist (List.range 4) := List.filter_sublist
      exact (hsub.map UInt8.ofNat).nodup (by decide)) (fun x hx => by
      obtain ⟨n, hn, rfl⟩ := List.mem_map.1 hx
      unfold cliN at hn
      obtain ⟨h5, h6⟩ := List.mem_filter.1 hn
      refine h.c n (List.mem_range.1 h5) (fun e => ?_)
      rw [e, lastE_iff.2 rfl] at h6
      cases h6)
    rwa [List.length_map] at hm
  obtain ⟨he, hp⟩ := diff_elem _ (Nat.le_refl _) hA.fit.kv.asc hB.fit.kv.asc
  have h5 : (diffL A.sh.kv B.sh.kv).length ≤ K.length := by
    have hm : ((diffL A.sh.kv B.sh.kv).map (·.key)).length ≤ K.length := nodup_le _ _ (List.pairwise_map.2 (hp.imp (fun hs e => by rw [e, slt_irrefl] at hs; cases hs))) (fun x hx => by
      obtain ⟨c, hc, rfl⟩ := List.mem_map.1 hx
      refine h.k _ (fun e => ?_)
      obtain ⟨e1, e2⟩ := diff_look hA.fit.kv.asc hB.fit.kv.asc hc
      rw [e1, e, real_same] at e2
      cases e2)
    rwa [List.length_map] at hm
  have h6 := chgsB_short (diffL A.sh.kv B.sh.kv) (fun c hc => by
    have e := he c hc
    refine ⟨?_, ?_⟩
    · rcases diff_keys _ (Nat.le_refl _) hc with ⟨v, k1⟩ | ⟨v, k1⟩
      · exact (hA.fit.key _ k1).2
      · exact (hB.fit.key _ k1).2
    · rcases e.b with ⟨_, k2⟩ | ⟨_, k2, _⟩
      · exact hB.fit.kv.val _ k2
      · rw [k2]; decide)
  have h7 := numL_one (n := (diffL A.sh.kv B.sh.kv).length) (by omega)
  unfold diffM clientsB keysDB
  simp only [List.length_append, List.length_cons, List.length_nil]
  omega
theorem short_none {A : MacV} (hA : MacAll A) : (diffM A A).length = 19 := by
  have h := short_len hA hA (Few.same A) (by simp)
  have h2 := diffM_long A A
  simp at h
  omega
theorem Few.step {A B : MacV} {C : List UInt8} {K : List ByteArray} (h : Few A B C K) (hB : MacAll B) (c : CmdV) (hC : UInt8.ofNat c.client.toNat ∈ C) (hK : c.key ∈ K) : Few A (macDo B c).m C K := by
  refine ⟨fun n hn e => ?_, fun k e => ?_⟩
  · by_cases hc : n = c.client.toNat
    · rw [hc]; exact hC
    · refine h.c n hn (fun e2 => e ?_)
      rw [← e2]
      unfold macDo
      split
      · rename_i hm
        split
        · show (B.tab.put c.client.toNat _).at_ n = _
          rw [TabV.put_at (may_client hm) hn, if_neg hc]
        · rfl
      · rfl
  · by_cases hk : k = c.key
    · rw [hk]; exact hK
    · refine h.k k (fun e2 => e ?_)
      rw [← e2]
      unfold macDo
      split
      · split
        · show (macFresh B c).1.sh.look k = _
          unfold macFresh
          split
          · split <;> rfl
          · exact kv_other hB.fit.kv.asc c hk
        · rfl
      · rfl
theorem mput_keys {α β : Type} [DecidableEq α] (l : List (α × β)) (k : α) (v : β) : (∀ x ∈ l.map (·.1), x ∈ (mput l k v).map (·.1)) ∧ k ∈ (mput l k v).map (·.1) ∧ (mput l k v).length ≤ l.length + 1 := by
  unfold mput
  cases hg : mget l k with
  | none =>
    simp only [Option.isSome_none, Bool.false_eq_true, if_false]
    refine ⟨fun x hx => by rw [List.map_append]; exact List.mem_append_left _ hx, by simp, by simp⟩
  | some u =>
    simp only [Option.isSome_some, if_true]
    have e : (l.map fun p => if p.1 = k then (k, v) else p).map (·.1) = l.map (·.1) := by
      rw [List.map_map]
      refine List.map_congr_left (fun p _ => ?_)
      simp only [Function.comp]
      split
      · rename_i h; exact h.symm
      · rfl
    rw [e]
    refine ⟨fun x hx => hx, ?_, by simp⟩
    unfold mget at hg
    cases hf : l.find? fun p => decide (p.1 = k) with
    | none => rw [hf] at hg; cases hg
    | some p =>
      have h1 := List.find?_some hf
      have h2 := List.mem_of_find?_eq_some hf
      rw [← of_decide_eq_true h1]
      exact List.mem_map.2 ⟨p, h2, rfl⟩
end Go.Proofs.Ytkngadbeflepoaa
namespace Go.Proofs.Ytkngadbeflepoaa
open Go.RowKit
noncomputable def kCl : KeyEnc Try.prog 5 UInt8 := keyU8 Try.prog 5 Try.underlying5
noncomputable def kNm : KeyEnc Try.prog 9 ByteArray := keyStr Try.prog 9 Try.underlying9
theorem TreeAt.map {W W' : World} {B : Nat} (hg : W.grownBy W' (some B)) (hm : ∃ es c, W.heap[B]? = some (.map es c)) : ∀ {T : Tr}, TreeAt W T → TreeAt W' T
  | .nil, _ => trivial
  | .node b k v wt l r, ⟨h1, h2, h3⟩ => ⟨(hg.block b h1.lt (by
      obtain ⟨es, c, e⟩ := hm
      intro q
      cases q
      unfold NodeAt at h1
      rw [h1] at e
      cases e)).trans h1, TreeAt.map hg hm h2, TreeAt.map hg hm h3⟩
theorem OneI.map {W W' : World} {B g : Nat} {A : MacV} {X : Tr} (h : OneI W g A X) (hg : W.grownBy W' (some B)) (hm : ∃ es c, W.heap[B]? = some (.map es c)) : OneI W' g A X :=
  ⟨(hg.block g h.a.lt (by
      obtain ⟨es, c, e⟩ := hm
      intro q
      cases q
      have h1 := h.a
      unfold MacAt at h1
      rw [h1] at e
      cases e)).trans h.a, TreeAt.map hg hm h.t, h.s⟩
theorem MapAt.is {P : Program} {T : TypeId} {α : Type} [DecidableEq α] {K : KeyEnc P T α} {w : World} {B : Nat} {l : List (α × Value)} (h : MapAt K w B l) : ∃ es c, w.heap[B]? = some (.map es c) := by
  obtain ⟨es, c, h1, _⟩ := h
  exact ⟨es, c, h1⟩
/-- What lies there in the second loop of DeltaShort. -/
structure ShI (w y : World) (g5 g8 B9 B10 : Nat) (M N : MacV) (X Y : Tr) (cl : List (UInt8 × Value)) (kl : List (ByteArray × Value)) : Prop where
  m : OneI y g5 M X
  n : OneI y g8 N Y
  c : MapAt kCl y B9 cl
  k : MapAt kNm y B10 kl
  bel : Below w.heap.size w y
  ne : w.heap.size ≤ g5 ∧ g5 < g8 ∧ g8 < B9 ∧ B9 < B10
theorem ShI.below {w y y' : World} {g5 g8 B9 B10 : Nat} {M N : MacV} {X Y : Tr} {cl : List (UInt8 × Value)} {kl : List (ByteArray × Value)} (h : ShI w y g5 g8 B9 B10 M N X Y cl kl) (hb : Below y.heap.size y y') : ShI w y' g5 g8 B9 B10 M N X Y cl kl :=
  ⟨h.m.below hb, h.n.below hb, h.c.below _ hb, h.k.below _ hb, h.bel.trans (hb.mono h.bel.size), h.ne⟩
theorem ShI.setN {w y y' : World} {g5 g8 B9 B10 : Nat} {M N N2 : MacV} {X Y Z : Tr} {cl : List (UInt8 × Value)} {kl : List (ByteArray × Value)} (h : ShI w y g5 g8 B9 B10 M N X Y cl kl) (hb : Below y.heap.size y y') (hZ : TreeAt y' Z) (hs : Z.sh = N2.sh) : ShI w (rowSt y' g8 0 (macCells N2 Z.ptr)) g5 g8 B9 B10 M N2 X Z cl kl := by
  have k := h.below hb
  obtain ⟨s1, s2, s3, s4⟩ := ma_st k.n.a N2 Z.ptr
  obtain ⟨n1, n2, n3, n4⟩ := h.ne
  exact ⟨⟨(s2 _ (by omega)).trans k.m.a, s4 _ k.m.t, k.m.s⟩, ⟨s1, s4 _ hZ, hs⟩, k.c.of_block _ (s2 _ (by omega)), k.k.of_block _ (s2 _ (by omega)), s3 _ _ k.bel (by omega), h.ne⟩
theorem below_mapped {n : Nat} {w y y' : World} {B : Nat} (h : Below n w y) (hg : y.grownBy y' (some B)) (hB : n ≤ B) (hn : n ≤ y.heap.size) : Below n w y' :=
  ⟨hg.os.trans h.os, hg.tape.trans h.tape, hg.output.trans h.output, Nat.le_trans h.size hg.size, fun q hq => (hg.block q (Nat.lt_of_lt_of_le hq hn) (fun e => by cases e; omega)).trans (h.block q hq)⟩
theorem ShI.setC {w y y' : World} {g5 g8 B9 B10 : Nat} {M N : MacV} {X Y : Tr} {cl cl2 : List (UInt8 × Value)} {kl : List (ByteArray × Value)} (h : ShI w y g5 g8 B9 B10 M N X Y cl kl) (hg : y.grownBy y' (some B9)) (hc : MapAt kCl y' B9 cl2) : ShI w y' g5 g8 B9 B10 M N X Y cl2 kl := by
  obtain ⟨n1, n2, n3, n4⟩ := h.ne
  exact ⟨h.m.map hg h.c.is, h.n.map hg h.c.is, hc, h.k.kept _ hg (fun e => by cases e; omega), below_mapped h.bel hg (by omega) h.bel.size, h.ne⟩
theorem ShI.setK {w y y' : World} {g5 g8 B9 B10 : Nat} {M N : MacV} {X Y : Tr} {cl : List (UInt8 × Value)} {kl kl2 : List (ByteArray × Value)} (h : ShI w y g5 g8 B9 B10 M N X Y cl kl) (hg : y.grownBy y' (some B10)) (hc : MapAt kNm y' B10 kl2) : ShI w y' g5 g8 B9 B10 M N X Y cl kl2 := by
  obtain ⟨n1, n2, n3, n4⟩ := h.ne
  exact ⟨h.m.map hg h.k.is, h.n.map hg h.k.is, h.c.kept _ hg (fun e => by cases e; omega), hc, below_mapped h.bel hg (by omega) h.bel.size, h.ne⟩
/-- What a key of the first loop is. -/
theorem two_row (w0 : World) (i : Nat) (hi : i < 256) (t : TypeId) : ByteRow (w0.alloc (.cells #[.int .u8 107, .int .u8 (i : Int)] t)) w0.heap.size [107, UInt8.ofNat i] := by
  intro j hj
  have hj2 : j = 0 ∨ j = 1 := by simp at hj; omega
  refine ⟨?_, World.frozen?_alloc_new _ _ _ _⟩
  rw [World.cell?_alloc_new]
  have e : (UInt8.ofNat i).toNat = i := by simp; omega
  rcases hj2 with rfl | rfl
  · rfl
  · simp [e]
end Go.Proofs.Ytkngadbeflepoaa
