/- Trees: All hands back an iterator that keeps the law of iterators. Condition: its blocks lie as they lay while a round goes on. -/
import Derived.Test.YtkngadbeflepoaaMMachinePlays29
import Derived.RangeFuncFrom
import Derived.Laws.EntriesVeiled
import Derived.Test.YtkngadbeflepoaaMMachinePlays17
import Derived.IntWalk
namespace Go.Proofs.Ytkngadbeflepoaa
open Go.RowKit Go.Shelf
attribute [local go_sem] Oper.semAt_some

theorem frozen_cells {w : World} {b : Nat} {cs : Array Value} {t : TypeId} (h : w.heap[b]? = some (.cells cs t (0, 0))) (j : Nat) : w.frozen? ⟨b, j, none⟩ = false := by simp [World.frozen?, h]
set_option maxRecDepth 100000 in
set_option maxHeartbeats 1000000 in
theorem all1G_in (G : ByteArray × ByteArray → Prop) (n l Bt n₀ Bl : Nat) (T : Tr) (J Jx : List (ByteArray × ByteArray) → World → Prop) (B0 : Nat) (hJ : AbidesFrom B0 J)
    (hY : ∀ m pre x W, J pre W → pre.length < T.kvs.length → G x → YieldAt Fence.wide m Try.prog l #[.string x.1, .string x.2] W fun e W' =>
      (e = .returned (.bool true) ∧ J (pre ++ [x]) W' ∧ KeepC n₀ Bl W W') ∨ (e = .returned (.bool false) ∧ Jx (pre ++ [x]) W'))
    (W : World) (hBl : Bl ≤ W.heap.size) (_ : n₀ ≤ W.heap.size) (hBt : W.cell? ⟨Bt, 0, none⟩ = some (.pointer T.ptr)) (hat : TreeAt W T) (hlo : T.Lo n₀) (h0 : J [] W) (hG : ∀ p ∈ T.kvs, G p) :
    CallsIn Fence.wide n Try.prog 88 #[.func (.yield l) #[] #[], .pointer (some ⟨Bt, 0, none⟩)] W fun e W' => (∃ v, e = .returned v) ∧
      ((∃ ys, ys = T.kvs ∧ J ys W') ∨ (∃ pre, pre <+: T.kvs ∧ Jx pre W')) := by
  have HY := Lib.hid hY; clear hY
  have Hat := Lib.hid hat; clear hat
  have Hlo := Lib.hid hlo; clear hlo
  have hJd : ∀ pre W, J pre W → J pre W.drew := fun pre W h => hJ pre W _ none h ⟨rfl, rfl, rfl, Nat.le_refl _, fun _ _ _ => rfl⟩ (fun r e => by cases e)
  obtain ⟨P, hP⟩ : ∃ P, T.ptr = P := ⟨_, rfl⟩
  rw [hP] at hBt
  have HP := Lib.hid hP; clear hP
  have hs1 : (W.alloc (.cells #[.func (.yield l) #[] #[]] 148)).heap.size = W.heap.size + 1 := by simp
  have hb3 : Below W.heap.size W ((W.alloc (.cells #[.func (.yield l) #[] #[]] 148)).alloc (.cells #[(.func (.func 89) #[] #[.pointer (some ⟨W.heap.size + 1, 0, none⟩), .pointer (some ⟨W.heap.size, 0, none⟩)])] 149)) := ((Below.refl _ _).alloc (Nat.le_refl _) _).alloc (by simp) _
  have hi3 : IterAt ((W.alloc (.cells #[.func (.yield l) #[] #[]] 148)).alloc (.cells #[(.func (.func 89) #[] #[.pointer (some ⟨W.heap.size + 1, 0, none⟩), .pointer (some ⟨W.heap.size, 0, none⟩)])] 149)) l W.heap.size (W.heap.size + 1) :=
    ⟨(Below.heap_alloc _ _ _ (by simp)).trans (heap_alloc_new W _), by
      have := heap_alloc_new (W.alloc (.cells #[.func (.yield l) #[] #[]] 148)) (.cells #[(.func (.func 89) #[] #[.pointer (some ⟨W.heap.size + 1, 0, none⟩), .pointer (some ⟨W.heap.size, 0, none⟩)])] 149)
      rwa [hs1] at this⟩
  have hc1 := hi3.cells.2
  have hc2 : ((W.alloc (.cells #[.func (.yield l) #[] #[]] 148)).alloc (.cells #[(.func (.func 89) #[] #[.pointer (some ⟨W.heap.size + 1, 0, none⟩), .pointer (some ⟨W.heap.size, 0, none⟩)])] 149)).cell? ⟨Bt, 0, none⟩ = some (.pointer P) := by
    have hlt : Bt < W.heap.size := by
      rcases Nat.lt_or_ge Bt W.heap.size with h | h
      · exact h
      · simp [World.cell?, Array.getElem?_eq_none h] at hBt
    exact (hb3.cell (p := ⟨Bt, 0, none⟩) hlt).trans hBt
  have hj3 : J [] ((W.alloc (.cells #[.func (.yield l) #[] #[]] 148)).alloc (.cells #[(.func (.func 89) #[] #[.pointer (some ⟨W.heap.size + 1, 0, none⟩), .pointer (some ⟨W.heap.size, 0, none⟩)])] 149)) := hJ _ _ _ none h0 ⟨hb3.os, hb3.tape, hb3.output, hb3.size, fun q hq _ => hb3.block q hq⟩ (fun r e => by cases e)
  have Hw := Lib.hid (allWalkG_in G l W.heap.size (W.heap.size + 1) n₀ Bl T.kvs.length hBl (by omega) J Jx hJd HY.out T (n - 1) [] _ (Hat.out.below hb3) Hlo.out hi3 hj3 (by simp) hG)
  rw [HP.out] at Hw
  clear hb3 hi3 hj3 hs1
  refine callsIn_of_wp Try.func88 rfl trivial ?_ rfl
  simp only [Try.ntmps88, List.size_toArray, List.length_cons, List.length_nil, Nat.reduceAdd, Nat.reduceSub, Array.replicate_succ, Array.replicate_zero, List.push_toArray, List.append_toArray, List.nil_append, List.cons_append]
  gi_wp2_with (refine ⟨trivial, (fun h => (by cases h)), ?_⟩; refine Hw.out.mono ?_; rintro e W1 (⟨rfl, hJ1, _⟩ | ⟨rfl, q, hq, hx⟩))
  · go_end0
    exact ⟨⟨_, rfl⟩, .inl ⟨_, rfl, by simpa using hJ1⟩⟩
  · go_end0
    exact ⟨⟨_, rfl⟩, .inr ⟨q, hq, by simpa using hx⟩⟩

theorem all1_in (n l Bt n₀ Bl : Nat) (T : Tr) (J Jx : List (ByteArray × ByteArray) → World → Prop) (B0 : Nat) (hJ : AbidesFrom B0 J)
    (hY : ∀ m pre x W, J pre W → pre.length < T.kvs.length → YieldAt Fence.wide m Try.prog l #[.string x.1, .string x.2] W fun e W' =>
      (e = .returned (.bool true) ∧ J (pre ++ [x]) W' ∧ KeepC n₀ Bl W W') ∨ (e = .returned (.bool false) ∧ Jx (pre ++ [x]) W'))
    (W : World) (hBl : Bl ≤ W.heap.size) (hn : n₀ ≤ W.heap.size) (hBt : W.cell? ⟨Bt, 0, none⟩ = some (.pointer T.ptr)) (hat : TreeAt W T) (hlo : T.Lo n₀) (h0 : J [] W) :
    CallsIn Fence.wide n Try.prog 88 #[.func (.yield l) #[] #[], .pointer (some ⟨Bt, 0, none⟩)] W fun e W' => (∃ v, e = .returned v) ∧
      ((∃ ys, ys = T.kvs ∧ J ys W') ∨ (∃ pre, pre <+: T.kvs ∧ Jx pre W')) :=
  all1G_in (fun _ => True) n l Bt n₀ Bl T J Jx B0 hJ (fun m pre x W h1 h2 _ => hY m pre x W h1 h2) W hBl hn hBt hat hlo h0 (fun _ _ => trivial)

set_option maxHeartbeats 1000000 in
theorem all_in (n : Nat) (p0 : Option Addr) (w : World) :
    CallsIn Fence.wide n Try.prog 42 #[.pointer p0] w fun e w' => e = .returned (.func (.func 88) #[] #[.pointer (some ⟨w.heap.size, 0, none⟩)]) ∧ w' = w.alloc (.cells #[.pointer p0] 25) := by
  refine callsIn_of_wp Try.func42 rfl trivial ?_ rfl
  simp only [Try.ntmps42, List.size_toArray, List.length_cons, List.length_nil, Nat.reduceAdd, Nat.reduceSub, Array.replicate_succ, Array.replicate_zero, List.push_toArray, List.append_toArray, List.nil_append, List.cons_append]
  gi_wp2
  go_ret
  exact ⟨rfl, rfl⟩

theorem all_stops (n Bt n₀ Bl : Nat) (T : Tr) (w : World) (hBt : Bt < w.heap.size) (hBl : Bl ≤ w.heap.size) (hn₀ : n₀ ≤ w.heap.size) (hc : w.cell? ⟨Bt, 0, none⟩ = some (.pointer T.ptr)) (hat : TreeAt w T) (hlo : T.Lo n₀) :
    SeqStopsK Fence.wide n Try.prog 88 #[.pointer (some ⟨Bt, 0, none⟩)] (fun x : ByteArray × ByteArray => #[Value.string x.1, Value.string x.2]) (KeepC n₀ Bl) (fun ys => ys = T.kvs) (fun pre => pre <+: T.kvs) T.kvs.length w :=
  fun l J Jx W hW hJ _ hY h0 =>
    all1_in n l Bt n₀ Bl T J Jx _ hJ (fun m pre x W hj hl => yield_any rfl m (hY pre x W hj hl)) W (Nat.le_trans hBl hW.size) (Nat.le_trans hn₀ hW.size) ((hW.cell (p := ⟨Bt, 0, none⟩) hBt).trans hc) (hat.below hW) hlo h0
/-- The same, where all elements are of a kind: the round's element comes with it. -/
theorem all_stopsG (G : ByteArray × ByteArray → Prop) (n Bt n₀ Bl : Nat) (T : Tr) (w : World) (hBt : Bt < w.heap.size) (hBl : Bl ≤ w.heap.size) (hn₀ : n₀ ≤ w.heap.size) (hc : w.cell? ⟨Bt, 0, none⟩ = some (.pointer T.ptr)) (hat : TreeAt w T) (hlo : T.Lo n₀) (hG : ∀ p ∈ T.kvs, G p) :
    SeqStopsK Fence.wide n Try.prog 88 #[.pointer (some ⟨Bt, 0, none⟩)] (fun x : {p : ByteArray × ByteArray // G p} => #[Value.string x.val.1, Value.string x.val.2]) (KeepC n₀ Bl) (fun ys => ys.map (·.val) = T.kvs) (fun pre => pre.map (·.val) <+: T.kvs) T.kvs.length w := by
  intro l J Jx W hW hJ _ hY h0
  refine (all1G_in G n l Bt n₀ Bl T (fun p W => ∃ q : List {p : ByteArray × ByteArray // G p}, p = q.map (·.val) ∧ J q W) (fun p W => ∃ q : List {p : ByteArray × ByteArray // G p}, p = q.map (·.val) ∧ Jx q W) _
    (fun p W W' row h hg hr => by obtain ⟨q, rfl, h⟩ := h; exact ⟨q, rfl, hJ q W W' row h hg hr⟩)
    (fun m pre x W hj hl hx => yield_any rfl m (by
      obtain ⟨q, rfl, hj⟩ := hj
      exact (hY q ⟨x, hx⟩ W hj (by simpa using hl)).mono fun e W' he => by
        rcases he with ⟨h1, h2, h3⟩ | ⟨h1, h2⟩
        · exact .inl ⟨h1, ⟨q ++ [⟨x, hx⟩], by simp, h2⟩, h3⟩
        · exact .inr ⟨h1, ⟨q ++ [⟨x, hx⟩], by simp, h2⟩⟩)) W (Nat.le_trans hBl hW.size) (Nat.le_trans hn₀ hW.size) ((hW.cell (p := ⟨Bt, 0, none⟩) hBt).trans hc) (hat.below hW) hlo ⟨[], rfl, h0⟩ hG).mono ?_
  rintro e W' ⟨h1, h2⟩
  refine ⟨h1, ?_⟩
  rcases h2 with ⟨ys, rfl, q, h3, h4⟩ | ⟨pre, h3, q, rfl, h4⟩
  · exact .inl ⟨q, h3.symm, h4⟩
  · exact .inr ⟨q, h3, h4⟩
end Go.Proofs.Ytkngadbeflepoaa
/- The document's depth of pairs is the tree's. Condition: at most 1000000 pairs; keys that fit in memory. -/
namespace Go.Proofs.Ytkngadbeflepoaa
open Go.RowKit

def crAt (L : Prs) (j : Nat) : Nat := (crcOf (L.getD j pdflt).1).toNat
/-- The first of the greatest, of the first i. -/
def TopAt (L : Prs) (t i : Nat) : Prop := (∀ j, j < i → crAt L j ≤ crAt L t) ∧ ∀ j, j < t → crAt L j < crAt L t
theorem getD_left {L M : Prs} {j : Nat} (h : j < L.length) : (L ++ M).getD j pdflt = L.getD j pdflt := by
  simp [List.getD, List.getElem?_append_left h]
theorem getD_right {L M : Prs} {j : Nat} (h : L.length ≤ j) : (L ++ M).getD j pdflt = M.getD (j - L.length) pdflt := by
  simp [List.getD, List.getElem?_append_right h]
theorem getD_in {L : Prs} {j : Nat} (h : j < L.length) : L.getD j pdflt ∈ L := by
  rw [List.getD, List.getElem?_eq_getElem h]
  exact List.getElem_mem _
theorem top_root {k v : ByteArray} {wt : BitVec 64} {l r : Sh} (h : (Sh.node k v wt l r).Heap) : TopAt (l.kv ++ (k, v) :: r.kv) l.kv.length (l.kv ++ (k, v) :: r.kv).length := by
  obtain ⟨h1, h2, h3, _, _⟩ := h
  have hm : crAt (l.kv ++ (k, v) :: r.kv) l.kv.length = wt.toNat := by
    unfold crAt
    rw [getD_right (Nat.le_refl _), Nat.sub_self, h1]
    rfl
  refine ⟨fun j hj => ?_, fun j hj => ?_⟩
  · rw [hm]
    unfold crAt
    rcases Nat.lt_or_ge j l.kv.length with hl | hl
    · rw [getD_left hl]; exact Nat.le_of_lt (h2 _ (getD_in hl))
    · rw [getD_right hl]
      match hj' : j - l.kv.length with
      | 0 => rw [h1]; exact Nat.le_refl _
      | q + 1 =>
        have hq : q < r.kv.length := by simp at hj; omega
        show (crcOf (r.kv.getD q pdflt).1).toNat ≤ _
        exact h3 _ (getD_in hq)
  · rw [hm]
    unfold crAt
    rw [getD_left hj]
    exact h2 _ (getD_in hj)
theorem top_uniq {L : Prs} {t m : Nat} (h : TopAt L t L.length) (g : TopAt L m L.length) (ht : t < L.length) (hm : m < L.length) : t = m := by
  rcases Nat.lt_trichotomy t m with e | e | e
  · have := g.2 t e; have := h.1 m hm; omega
  · exact e
  · have := h.2 m e; have := g.1 t ht; omega
/-- A part of a slice of pairs. -/
theorem pairs_part {w : World} {b o n i m : Nat} {L : Prs} (h : PairsAt w (some ⟨b, o, none⟩) n L) (hi : i + m ≤ n) : PairsAt w (some ⟨b, o + i * 2, none⟩) m ((L.drop i).take m) := by
  have hl := h.hlen
  have hmx := h.hmax
  refine ⟨by rw [List.length_take, List.length_drop]; omega, by omega, fun q x hq => ?_⟩
  rw [List.getElem?_take] at hq
  split at hq
  · rw [List.getElem?_drop] at hq
    obtain ⟨b', o', e, h2, h3⟩ := h.cells _ _ hq
    cases e
    refine ⟨b, o + i * 2, rfl, h2, fun j v hj => ?_⟩
    rw [← h3 j v hj]
    congr 2
    omega
  · cases hq
theorem pairs_none {w : World} {A : Option Addr} : PairsAt w A 0 [] := ⟨rfl, Nat.zero_le _, fun i x hi => by simp at hi⟩

theorem Sh.dep_cnt : ∀ S : Sh, S.dep ≤ S.cnt
  | .nil => Nat.le_refl _
  | .node _ _ _ l r => by
    have := l.dep_cnt
    have := r.dep_cnt
    simp only [Sh.dep, Sh.cnt]
    omega
set_option maxRecDepth 100000 in
set_option maxHeartbeats 4000000 in
theorem depth10_any (S : Sh) : ∀ (w : World) (A : Option Addr) (n c : Nat), S.Heap → PairsAt w A n S.kv → POk A n c → n ≤ 1000000 → (∀ p ∈ S.kv, p.1.size ≤ maxLen) →
    Calls Try.prog 21 #[.slice A n c] w fun e w' => e = .returned (.int .i64 (S.dep : Int)) ∧ Below w.heap.size w w' := by
  induction S with
  | nil =>
    intro w A n c _ h _ _ _
    have hn : n = 0 := h.hlen.symm
    subst hn
    clear h
    go_enter Try.func21, Try.ntmps21
    go_wp2_with fail
    go_ret
    exact ⟨rfl, Below.refl _ _⟩
  | node k v wt l r ihl ihr =>
    intro w A n c hh h hok hn hks
    have hroot := top_root hh
    have hl := h.hlen
    have hkv : (Sh.node k v wt l r).kv = l.kv ++ (k, v) :: r.kv := rfl
    rw [hkv] at h hl hks
    have hml : l.kv.length < (l.kv ++ (k, v) :: r.kv).length := by simp
    obtain ⟨b, o, rfl, hnc, hcm⟩ : ∃ b o, A = some ⟨b, o, none⟩ ∧ n ≤ c ∧ c ≤ maxLen := by
      rcases hok with ⟨_, e, _⟩ | h
      · omega
      · exact h
    have hlkv : l.kv = ((l.kv ++ (k, v) :: r.kv).drop 0).take l.kv.length := by simp
    have hrkv : r.kv = (l.kv ++ (k, v) :: r.kv).drop (l.kv.length + 1) := by simp [List.drop_append]
    have hdl : l.dep ≤ n := by have h1 := l.dep_cnt; rw [cnt_kv] at h1; omega
    have hdr : r.dep ≤ n := by have h1 := r.dep_cnt; rw [cnt_kv] at h1; simp at hl; omega
    obtain ⟨_, _, _, hhl, hhr⟩ := hh
    have Hl := Lib.hid (fun (w' : World) (hb : Below w.heap.size w w') => ihl w' (some ⟨b, o, none⟩) l.kv.length c hhl (by have := pairs_part (i := 0) (m := l.kv.length) (h.below hb) (by omega); rw [← hlkv] at this; simpa using this) (.inr ⟨b, o, rfl, by omega, hcm⟩) (by omega) (fun p hp => hks p (by simp [hp]))); clear ihl
    have Hr := Lib.hid (fun (w' : World) (hb : Below w.heap.size w w') (A' : Option Addr) (c' : Nat) (hp : PairsAt w' A' (n - (l.kv.length + 1)) r.kv) (hk : POk A' (n - (l.kv.length + 1)) c') => ihr w' A' (n - (l.kv.length + 1)) c' hhr hp hk (by omega) (fun p hp => hks p (by simp [hp]))); clear ihr
    have Hroot := Lib.hid hroot; clear hroot
    have Hrkv := Lib.hid hrkv; clear hrkv hlkv hkv
    show Calls _ _ _ _ (fun e w' => e = .returned (.int .i64 ((1 + max l.dep r.dep : Nat) : Int)) ∧ Below w.heap.size w w')
    obtain ⟨mx, hmx⟩ : ∃ mx, max l.dep r.dep = mx := ⟨_, rfl⟩
    have hif : (if l.dep < r.dep then (r.dep : Int) else (l.dep : Int)) = (mx : Int) := by split <;> omega
    obtain ⟨mx1, hmx1⟩ : ∃ m, 1 + mx = m := ⟨_, rfl⟩
    have hw3 : wrap64 (1 + (mx : Int)) = (mx1 : Int) := by unfold wrap64; omega
    have hw4 : IntKind.i64.wrap (1 + (mx : Int)) = (mx1 : Int) := (IntWalk.i64_left _).trans hw3
    have Hw4 := Lib.hid hw4; clear hw4
    rw [hmx, hmx1]
    clear hmx hmx1 hhl hhr hdl hdr
    generalize hm : l.kv.length = m at *
    generalize hL : l.kv ++ (k, v) :: r.kv = L at *
    generalize l.dep = dl at *
    generalize r.dep = dr at *
    have H := Lib.hid h; clear h
    have Hks := Lib.hid hks; clear hks hL hm
    go_enter Try.func21, Try.ntmps21
    have hn0 : ((n : Int) == 0) = false := by simp; omega
    go_wp2_with fail
    go_loopw [3, 4] (fun s3 s4 wr => ∃ t i, t < i ∧ i ≤ n ∧ s3 = .int .i64 (t : Int) ∧ s4 = .int .i64 (i : Int) ∧ TopAt L t i ∧ Below w.heap.size w wr) (fun _ s4 _ => n - (intOf s4).toNat)
    case atStart => exact ⟨0, 1, by omega, by omega, rfl, rfl, ⟨fun j hj => by have : j = 0 := (by omega); subst this; exact Nat.le_refl _, fun j hj => by omega⟩, Below.refl _ _⟩
    case round =>
      obtain ⟨t, i, hti, hi, rfl, rfl, htop, hbel⟩ := hrel
      have Hbel := Lib.hid hbel; clear hbel
      have Htop := Lib.hid htop; clear htop
      by_cases hlt : i < n
      · have hlt' : (i : Int) < (n : Int) := by omega
        have htn : t < n := by omega
        have htn' : (t : Int) < (n : Int) := by omega
        have hsucc := tsucc (n := i) (by omega)
        have hci : ∀ y, Below w.heap.size w y → y.cell? ⟨b, o + i * 2, none⟩ = some (.string (L.getD i pdflt).1) := fun y hy => by
          obtain ⟨b2, o2, e, _, e0, _⟩ := pairs_get (H.out.below hy) hlt; cases e; exact e0
        have hct : ∀ y, Below w.heap.size w y → y.cell? ⟨b, o + t * 2, none⟩ = some (.string (L.getD t pdflt).1) := fun y hy => by
          obtain ⟨b2, o2, e, _, e0, _⟩ := pairs_get (H.out.below hy) htn; cases e; exact e0
        have hs1 : ∀ y, Calls Try.prog 53 #[.string (L.getD i pdflt).1] y fun e w' => e = .returned (.int .u64 ((crAt L i : Nat) : Int)) ∧ y = w' := fun y => refsum_any _ (Hks.out _ (getD_in (by omega))) y
        have hs2 : ∀ y, Calls Try.prog 53 #[.string (L.getD t pdflt).1] y fun e w' => e = .returned (.int .u64 ((crAt L t : Nat) : Int)) ∧ y = w' := fun y => refsum_any _ (Hks.out _ (getD_in (by omega))) y
        have hnext : TopAt L (if crAt L t < crAt L i then i else t) (i + 1) := by
          obtain ⟨t1, t2⟩ := Htop.out
          split
          · rename_i hgt
            refine ⟨fun j hj => ?_, fun j hj => ?_⟩
            · by_cases e : j = i
              · subst e; exact Nat.le_refl _
              · have := t1 j (by omega); omega
            · have := t1 j (by omega); omega
          · rename_i hgt
            refine ⟨fun j hj => ?_, t2⟩
            by_cases e : j = i
            · subst e; omega
            · exact t1 j (by omega)
        have Hnext := Lib.hid hnext; clear hnext Htop
        generalize (L.getD i pdflt).1 = Ki at *
        generalize (L.getD t pdflt).1 = Kt at *
        have Hci := Lib.hid hci; clear hci
        have Hct := Lib.hid hct; clear hct
        have Hs1 := Lib.hid hs1; clear hs1
        have Hs2 := Lib.hid hs2; clear hs2
        generalize hcri : crAt L i = ci at *
        generalize hcrt : crAt L t = ct at *
        clear hcri hcrt
        go_upto_region 7 with fail
        have hkd : KeptW wr wr.drew := ⟨rfl, rfl, rfl, Nat.le_refl _, fun _ _ => rfl⟩
        have Hkd := Lib.hid hkd; clear hkd
        refine RegR.wp_region_can (KeptW wr) [(0, 0), (1, 0), (2, 0), (3, 0), (4, 0), (6, 0), (7, 0), (8, 0), (9, 0), (10, 0), (5, 1), (11, 1), (12, 0)] (by kernel_rfl) (by kernel_rfl) (fun _ _ d _ _ h => by cases d <;> exact h) Hkd.out ?_
        dsimp only [RegR.pick, List.getElem?_cons_zero, List.getElem?_cons_succ]
        iterate 4 (refine RegR.can_reads (fun K hK => ?_); go_simp; refine ⟨_, fun _ _ => rfl, hK _ ?_⟩; clear hK K)
        refine RegR.can_reads (fun K hK => ?_)
        go_simp
        refine ⟨.string Ki, fun y hy => ?_, hK _ ?_⟩
        · have f0 := Hci.out y (Hbel.out.trans (KeptW.bel hy |>.mono Hbel.out.size))
          go_simp
        clear hK K
        iterate 4 (refine RegR.can_reads (fun K hK => ?_); go_simp; refine ⟨_, fun _ _ => rfl, hK _ ?_⟩; clear hK K)
        refine RegR.can_reads (fun K hK => ?_)
        go_simp
        refine ⟨.string Kt, fun y hy => ?_, hK _ ?_⟩
        · have f0 := Hct.out y (Hbel.out.trans (KeptW.bel hy |>.mono Hbel.out.size))
          go_simp
        clear hK K
        refine RegR.can_turns (fun K K0 hK hK0 => ?_)
        go_simp
        refine (Hs1.out _).mono ?_
        rintro e w' ⟨rfl, rfl⟩
        refine hK _ _ Hkd.out ?_
        clear hK hK0 K K0
        refine RegR.can_turns (fun K K0 hK hK0 => ?_)
        go_simp
        refine (Hs2.out _).mono ?_
        rintro e w' ⟨rfl, rfl⟩
        refine hK _ _ Hkd.out ?_
        clear hK hK0 K K0
        iterate 1 (refine RegR.can_reads (fun K hK => ?_); go_simp; refine ⟨_, fun _ _ => rfl, hK _ ?_⟩; clear hK K)
        refine RegR.can_nil ?_
        have Hb2 := Lib.hid (Hbel.out.trans (KeptW.bel Hkd.out |>.mono Hbel.out.size)); clear Hkd Hbel
        by_cases hgt : ct < ci
        · have hn2 := Hnext.out
          rw [if_pos hgt] at hn2
          have Hn2 := Lib.hid hn2; clear hn2 Hnext
          go_wp2_with fail
          go_roundw
          case rel => exact ⟨i, i + 1, by omega, hlt, rfl, rfl, Hn2.out, Hb2.out⟩
          case measure => simp [intOf]; omega
        · have hn2 := Hnext.out
          rw [if_neg hgt] at hn2
          have Hn2 := Lib.hid hn2; clear hn2 Hnext
          go_wp2_with fail
          go_roundw
          case rel => exact ⟨t, i + 1, by omega, hlt, rfl, rfl, Hn2.out, Hb2.out⟩
          case measure => simp [intOf]; omega
      · have hlt' : ¬ (i : Int) < (n : Int) := by omega
        obtain rfl : i = n := by omega
        obtain rfl : t = m := by
          have h1 := Htop.out
          have h2 := Hroot.out
          rw [← hl] at h1
          exact top_uniq h1 h2 (by omega) hml
        go_upto_region 9 with fail
        obtain ⟨q, hq⟩ : ∃ q, t + 1 = q := ⟨_, rfl⟩
        have hw1 : IntKind.i64.wrap ((t : Int) + 1) = (q : Int) := by rw [IntKind.wrap_i64] <;> omega
        have hqi : q ≤ i := by omega
        have htc : t ≤ c := by omega
        have hqc : q ≤ c := by omega
        obtain ⟨ad, had⟩ : ∃ ad, (if c = q then some (⟨b, o, none⟩ : Addr) else some ⟨b, o + q * 2, none⟩) = some ad := by split <;> exact ⟨_, rfl⟩
        have hpr : ∀ y, Below w.heap.size w y → PairsAt y (some ad) (i - q) r.kv := fun y hy => by
          have hlen : r.kv.length = i - q := by rw [Hrkv.out, List.length_drop]; omega
          by_cases hz : i - q = 0
          · rw [hz] at hlen ⊢
            rw [List.eq_nil_of_length_eq_zero hlen]
            exact pairs_none
          · rw [if_neg (by omega)] at had
            have hp := pairs_part (i := q) (m := i - q) (H.out.below hy) (by omega)
            rw [had] at hp
            rw [Hrkv.out, hq]
            rwa [List.take_of_length_le (by rw [List.length_drop]; omega)] at hp
        have hpk : POk (some ad) (i - q) (c - q) := by
          split at had
          · exact .inr ⟨b, o, had.symm, by omega, by unfold maxLen at *; omega⟩
          · exact .inr ⟨b, o + q * 2, had.symm, by omega, by unfold maxLen at *; omega⟩
        rw [hq] at Hr
        have Hpr := Lib.hid hpr; clear hpr
        have Hpk := Lib.hid hpk; clear hpk
        clear hq hok Htop Hroot hn0
        have hkd : KeptW wr wr.drew := ⟨rfl, rfl, rfl, Nat.le_refl _, fun _ _ => rfl⟩
        have Hkd := Lib.hid hkd; clear hkd
        refine RegR.wp_region_can (KeptW wr) [(0, 0), (1, 0), (2, 0), (4, 0), (5, 0), (6, 0), (7, 0), (3, 1), (8, 1), (9, 0), (10, 0), (11, 0)] (by kernel_rfl) (by kernel_rfl) (fun _ _ d _ _ h => by cases d <;> exact h) Hkd.out ?_
        dsimp only [RegR.pick, List.getElem?_cons_zero, List.getElem?_cons_succ]
        iterate 7 (refine RegR.can_reads (fun K hK => ?_); go_simp; refine ⟨_, fun _ _ => rfl, hK _ ?_⟩; clear hK K)
        have Hk1 := Lib.hid (Hbel.out.trans (KeptW.bel Hkd.out |>.mono Hbel.out.size))
        refine RegR.can_turns (fun K K0 hK hK0 => ?_)
        go_simp
        refine (Hl.out _ Hk1.out).mono ?_
        rintro e w2 ⟨rfl, hb2⟩
        refine hK _ _ (Hkd.out.mono hb2) ?_
        clear hK hK0 K K0
        have Hk2 := Lib.hid (Hk1.out.trans (hb2.mono Hk1.out.size))
        have Hkw2 := Lib.hid (Hkd.out.mono hb2); clear hb2
        refine RegR.can_turns (fun K K0 hK hK0 => ?_)
        go_simp
        refine (Hr.out _ Hk2.out _ _ (Hpr.out _ Hk2.out) Hpk.out).mono ?_
        rintro e w3 ⟨rfl, hb3⟩
        refine hK _ _ (Hkw2.out.mono hb3) ?_
        clear hK hK0 K K0
        have Hk3 := Lib.hid (Hk2.out.trans (hb3.mono Hk2.out.size)); clear hb3
        iterate 3 (refine RegR.can_reads (fun K hK => ?_); go_simp; refine ⟨_, fun _ _ => rfl, hK _ ?_⟩; clear hK K)
        refine RegR.can_nil ?_
        go_wp2_with fail
        go_ret
        exact ⟨by rw [Hw4.out]; rfl, Hk3.out⟩
end Go.Proofs.Ytkngadbeflepoaa
