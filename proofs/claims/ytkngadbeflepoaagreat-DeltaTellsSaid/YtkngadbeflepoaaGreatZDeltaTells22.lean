/- Trees: Diff hands back an iterator that keeps the law of iterators. Condition: its blocks lie as they lay while a round goes on. -/
import Derived.RangeFuncFrom
import Derived.Laws.EntriesVeiled
import Derived.Test.YtkngadbeflepoaaGreatZDeltaTells21
import Derived.Test.YtkngadbeflepoaaGreatZDeltaTells20
namespace Go.Proofs.YtkngadbeflepoaaGreat
open Go.RowKit Go.Shelf
attribute [local go_sem] Oper.semAt_some
set_option maxRecDepth 100000 in
set_option maxHeartbeats 1000000 in
theorem diff1G_in (G : Chg → Prop) (n l Ba Bb n₀ Bl : Nat) (A B : Tr) (J Jx : List Chg → World → Prop) (B0 : Nat) (hJ : AbidesFrom B0 J)
    (hY : ∀ m pre x W, J pre W → pre.length < (diffL A.kvs B.kvs).length → G x → YieldAt Fence.wide m Tryz.prog l #[.string x.key, chgV x] W fun e W' =>
      (e = .returned (.bool true) ∧ J (pre ++ [x]) W' ∧ KeepC n₀ Bl W W') ∨ (e = .returned (.bool false) ∧ Jx (pre ++ [x]) W'))
    (W : World) (hBl : Bl ≤ W.heap.size) (hn₀ : n₀ ≤ W.heap.size) (hBa : W.cell? ⟨Ba, 0, none⟩ = some (.pointer A.ptr)) (hBb : W.cell? ⟨Bb, 0, none⟩ = some (.pointer B.ptr))
    (hA : TreeAt W A) (hB : TreeAt W B) (hoA : A.Out n₀ Bl) (hoB : B.Out n₀ Bl) (haA : Asc A.kvs) (haB : Asc B.kvs) (hc : A.cnt + B.cnt ≤ 4611686018427387904) (h0 : J [] W) (hG : ∀ c ∈ diffL A.kvs B.kvs, G c) :
    CallsIn Fence.wide n Tryz.prog 83 #[.func (.yield l) #[] #[], .pointer (some ⟨Ba, 0, none⟩), .pointer (some ⟨Bb, 0, none⟩)] W fun e W' => (∃ v, e = .returned v) ∧
      ((∃ ys, ys = diffL A.kvs B.kvs ∧ J ys W') ∨ (∃ pre, pre <+: diffL A.kvs B.kvs ∧ Jx pre W')) := by
  have hJd : ∀ pre W W', J pre W → Below W.heap.size W W' → J pre W' := fun pre W W' h hb => hJ pre W W' none h ⟨hb.os, hb.tape, hb.output, hb.size, fun q hq _ => hb.block q hq⟩ (fun r e => by cases e)
  obtain ⟨PA, hPA⟩ : ∃ P, A.ptr = P := ⟨_, rfl⟩
  obtain ⟨PB, hPB⟩ : ∃ P, B.ptr = P := ⟨_, rfl⟩
  rw [hPA] at hBa
  rw [hPB] at hBb
  have hs1 : (W.alloc (.cells #[.func (.yield l) #[] #[]] 143)).heap.size = W.heap.size + 1 := by simp
  have hb3 : Below W.heap.size W ((W.alloc (.cells #[.func (.yield l) #[] #[]] 143)).alloc (.cells #[(.func (.func 84) #[] #[.pointer (some ⟨W.heap.size + 1, 0, none⟩), .pointer (some ⟨W.heap.size, 0, none⟩)])] 144)) := ((Below.refl _ _).alloc (Nat.le_refl _) _).alloc (by simp) _
  have hi3 : DIterAt ((W.alloc (.cells #[.func (.yield l) #[] #[]] 143)).alloc (.cells #[(.func (.func 84) #[] #[.pointer (some ⟨W.heap.size + 1, 0, none⟩), .pointer (some ⟨W.heap.size, 0, none⟩)])] 144)) l W.heap.size (W.heap.size + 1) :=
    ⟨(Below.heap_alloc _ _ _ (by simp)).trans (heap_alloc_new W _), by
      have := heap_alloc_new (W.alloc (.cells #[.func (.yield l) #[] #[]] 143)) (.cells #[(.func (.func 84) #[] #[.pointer (some ⟨W.heap.size + 1, 0, none⟩), .pointer (some ⟨W.heap.size, 0, none⟩)])] 144)
      rwa [hs1] at this⟩
  have hc1 := hi3.cells.2
  have hlt : ∀ {Bt : Nat} {v : Value}, W.cell? ⟨Bt, 0, none⟩ = some v → Bt < W.heap.size := fun {Bt v} h => by
    rcases Nat.lt_or_ge Bt W.heap.size with h1 | h1
    · exact h1
    · simp [World.cell?, Array.getElem?_eq_none h1] at h
  have hc2 := (hb3.cell (p := ⟨Ba, 0, none⟩) (hlt hBa)).trans hBa
  have hc3 := (hb3.cell (p := ⟨Bb, 0, none⟩) (hlt hBb)).trans hBb
  have hsz := hb3.size
  have Hw := Lib.hid (diffWalkG_any G l W.heap.size (W.heap.size + 1) n₀ Bl (diffL A.kvs B.kvs).length hBl (by omega) J Jx hJd hY _ A B [] _ (Nat.le_refl _) hc (hA.below hb3) (hB.below hb3) hoA hoB haA haB hi3 (Nat.le_trans hBl hsz) (Nat.le_trans hn₀ hsz) hG (hJd _ _ _ h0 hb3) (by simp))
  rw [hPA, hPB] at Hw
  clear hb3 hi3 hs1 hY hA hB hG hJ hJd h0 hBa hBb hlt hPA hPB
  refine callsIn_of_wp Tryz.func83 rfl trivial ?_ rfl
  simp only [Tryz.ntmps83, List.size_toArray, List.length_cons, List.length_nil, Nat.reduceAdd, Nat.reduceSub, Array.replicate_succ, Array.replicate_zero, List.push_toArray, List.append_toArray, List.nil_append, List.cons_append]
  gi_wp2_with (refine ⟨trivial, (fun h => (by cases h)), ?_⟩; refine (callsIn_wide.2 Hw.out).mono ?_; rintro e W1 (⟨rfl, hJ1, _⟩ | ⟨rfl, q, hq, hx⟩))
  · go_end0
    exact ⟨⟨_, rfl⟩, .inl ⟨_, rfl, by simpa using hJ1⟩⟩
  · go_end0
    exact ⟨⟨_, rfl⟩, .inr ⟨q, hq, by simpa using hx⟩⟩
set_option maxHeartbeats 1000000 in
theorem diff_in (n : Nat) (pa pb : Option Addr) (w : World) :
    CallsIn Fence.wide n Tryz.prog 53 #[.pointer pa, .pointer pb] w fun e w' => e = .returned (.func (.func 83) #[] #[.pointer (some ⟨w.heap.size, 0, none⟩), .pointer (some ⟨w.heap.size + 1, 0, none⟩)]) ∧
      w' = (w.alloc (.cells #[.pointer pa] 33)).alloc (.cells #[.pointer pb] 33) := by
  refine callsIn_of_wp Tryz.func53 rfl trivial ?_ rfl
  simp only [Tryz.ntmps53, List.size_toArray, List.length_cons, List.length_nil, Nat.reduceAdd, Nat.reduceSub, Array.replicate_succ, Array.replicate_zero, List.push_toArray, List.append_toArray, List.nil_append, List.cons_append]
  gi_wp2
  go_ret
  exact ⟨rfl, rfl⟩
theorem diff_stopsG (G : Chg → Prop) (n Ba Bb n₀ Bl : Nat) (A B : Tr) (w : World) (hBa : Ba < w.heap.size) (hBb : Bb < w.heap.size) (hBl : Bl ≤ w.heap.size) (hn₀ : n₀ ≤ w.heap.size) (hca : w.cell? ⟨Ba, 0, none⟩ = some (.pointer A.ptr)) (hcb : w.cell? ⟨Bb, 0, none⟩ = some (.pointer B.ptr))
    (hA : TreeAt w A) (hB : TreeAt w B) (hoA : A.Out n₀ Bl) (hoB : B.Out n₀ Bl) (haA : Asc A.kvs) (haB : Asc B.kvs) (hc : A.cnt + B.cnt ≤ 4611686018427387904) (hG : ∀ c ∈ diffL A.kvs B.kvs, G c) :
    SeqStopsK Fence.wide n Tryz.prog 83 #[.pointer (some ⟨Ba, 0, none⟩), .pointer (some ⟨Bb, 0, none⟩)] (fun x : {c : Chg // G c} => #[Value.string x.val.key, chgV x.val]) (KeepC n₀ Bl) (fun ys => ys.map (·.val) = diffL A.kvs B.kvs) (fun pre => pre.map (·.val) <+: diffL A.kvs B.kvs) (diffL A.kvs B.kvs).length w := by
  intro l J Jx W hW hJ _ hY h0
  refine (diff1G_in G n l Ba Bb n₀ Bl A B (fun p W => ∃ q : List {c : Chg // G c}, p = q.map (·.val) ∧ J q W) (fun p W => ∃ q : List {c : Chg // G c}, p = q.map (·.val) ∧ Jx q W) _
    (fun p W W' row h hg hr => by obtain ⟨q, rfl, h⟩ := h; exact ⟨q, rfl, hJ q W W' row h hg hr⟩)
    (fun m pre x W hj hl hx => yield_any rfl m (by
      obtain ⟨q, rfl, hq⟩ := hj
      obtain ⟨fn, tmps, assign, body, hy, hR⟩ := hY q ⟨x, hx⟩ W hq (by simpa using hl)
      refine ⟨fn, tmps, assign, body, hy, hR.mono ?_⟩
      rintro e W' (⟨rfl, h1, h2⟩ | ⟨rfl, h1⟩)
      · exact .inl ⟨rfl, ⟨q ++ [⟨x, hx⟩], by simp, h1⟩, h2⟩
      · exact .inr ⟨rfl, q ++ [⟨x, hx⟩], by simp, h1⟩)) W (Nat.le_trans hBl hW.size) (Nat.le_trans hn₀ hW.size) ((hW.cell (p := ⟨Ba, 0, none⟩) hBa).trans hca) ((hW.cell (p := ⟨Bb, 0, none⟩) hBb).trans hcb)
      (hA.below hW) (hB.below hW) hoA hoB haA haB hc ⟨[], rfl, h0⟩ hG).mono ?_
  rintro e W' ⟨h1, ⟨ys, hys, q, hq, h2⟩ | ⟨pre, hp, q, hq, h2⟩⟩
  · exact ⟨h1, .inl ⟨q, by show q.map (·.val) = _; rw [← hq]; exact hys, h2⟩⟩
  · exact ⟨h1, .inr ⟨q, by show q.map (·.val) <+: _; rw [← hq]; exact hp, h2⟩⟩
end Go.Proofs.YtkngadbeflepoaaGreat
namespace Go.Proofs.YtkngadbeflepoaaGreat
open Go.RowKit
theorem asc_cons {p : ByteArray × ByteArray} {L : Prs} (h : Asc (p :: L)) : (∀ q ∈ L, slt p.1 q.1 = true) ∧ Asc L := List.pairwise_cons.1 h
/-- Each change is of a key that one of both has. -/
theorem diff_keys : ∀ (n : Nat) {A B : Prs} {c : Chg}, A.length + B.length ≤ n → c ∈ diffL A B → (∃ v, (c.key, v) ∈ A) ∨ ∃ v, (c.key, v) ∈ B
  | n, [], [], c, _, h => by rw [diff_nil_nil] at h; simp at h
  | 0, p :: A, _, c, h, _ => by simp at h
  | 0, [], q :: B, c, h, _ => by simp at h
  | n + 1, p :: A, [], c, h, hc => by
    rw [diff_cons_nil] at hc
    rcases List.mem_cons.1 hc with rfl | hc
    · exact .inl ⟨p.2, by simp [cDel]⟩
    · rcases diff_keys n (by simpa using h) hc with ⟨v, h1⟩ | ⟨v, h1⟩
      · exact .inl ⟨v, by simp [h1]⟩
      · exact .inr ⟨v, h1⟩
  | n + 1, [], q :: B, c, h, hc => by
    rw [diff_nil_cons] at hc
    rcases List.mem_cons.1 hc with rfl | hc
    · exact .inr ⟨q.2, by simp [cAdd]⟩
    · rcases diff_keys n (by simpa using h) hc with ⟨v, h1⟩ | ⟨v, h1⟩
      · exact .inl ⟨v, h1⟩
      · exact .inr ⟨v, by simp [h1]⟩
  | n + 1, p :: A, q :: B, c, h, hc => by
    simp only [List.length_cons] at h
    rw [diff_cons_cons] at hc
    split at hc
    · rcases List.mem_cons.1 hc with rfl | hc
      · exact .inl ⟨p.2, by simp [cDel]⟩
      · rcases diff_keys n (by simp; omega) hc with ⟨v, h1⟩ | ⟨v, h1⟩
        · exact .inl ⟨v, by simp [h1]⟩
        · exact .inr ⟨v, h1⟩
    split at hc
    · rcases List.mem_cons.1 hc with rfl | hc
      · exact .inr ⟨q.2, by simp [cAdd]⟩
      · rcases diff_keys n (by simp; omega) hc with ⟨v, h1⟩ | ⟨v, h1⟩
        · exact .inl ⟨v, h1⟩
        · exact .inr ⟨v, by simp [h1]⟩
    split at hc
    · rcases diff_keys n (by omega) hc with ⟨v, h1⟩ | ⟨v, h1⟩
      · exact .inl ⟨v, by simp [h1]⟩
      · exact .inr ⟨v, by simp [h1]⟩
    · rcases List.mem_cons.1 hc with rfl | hc
      · exact .inl ⟨p.2, by simp⟩
      · rcases diff_keys n (by omega) hc with ⟨v, h1⟩ | ⟨v, h1⟩
        · exact .inl ⟨v, by simp [h1]⟩
        · exact .inr ⟨v, by simp [h1]⟩
theorem diff_above {k : ByteArray} {A B : Prs} {c : Chg} (hA : ∀ q ∈ A, slt k q.1 = true) (hB : ∀ q ∈ B, slt k q.1 = true) (h : c ∈ diffL A B) : slt k c.key = true := by
  rcases diff_keys _ (Nat.le_refl _) h with ⟨v, h1⟩ | ⟨v, h1⟩
  · exact hA _ h1
  · exact hB _ h1
/-- One side of a change, against the pairs. -/
def SideOk (A : Prs) (k v : ByteArray) (b : Bool) : Prop := (b = true ∧ (k, v) ∈ A) ∨ (b = false ∧ v = ByteArray.empty ∧ ∀ u, (k, u) ∉ A)
theorem SideOk.cons {A : Prs} {k v : ByteArray} {b : Bool} {p : ByteArray × ByteArray} (h : SideOk A k v b) (hp : slt p.1 k = true) : SideOk (p :: A) k v b := by
  rcases h with ⟨h1, h2⟩ | ⟨h1, h2, h3⟩
  · exact .inl ⟨h1, by simp [h2]⟩
  · refine .inr ⟨h1, h2, fun u hu => ?_⟩
    rcases List.mem_cons.1 hu with h4 | h4
    · rw [← h4, slt_irrefl] at hp; cases hp
    · exact h3 u h4
theorem SideOk.none {A : Prs} {k : ByteArray} (h : ∀ q ∈ A, slt k q.1 = true) : SideOk A k ByteArray.empty false :=
  .inr ⟨rfl, rfl, fun u hu => by have := h _ hu; rw [slt_irrefl] at this; cases this⟩
structure ElemOk (A B : Prs) (c : Chg) : Prop where
  a : SideOk A c.key c.old c.had
  b : SideOk B c.key c.new c.has
  r : c.real = true
theorem slt_or {a b : ByteArray} (h : ¬ slt a b = true) (k : ¬ slt b a = true) : a = b := slt_total (by simpa using h) (by simpa using k)
theorem diff_elem : ∀ (n : Nat) {A B : Prs}, A.length + B.length ≤ n → Asc A → Asc B → (∀ c ∈ diffL A B, ElemOk A B c) ∧ (diffL A B).Pairwise (fun c d => slt c.key d.key = true)
  | n, [], [], _, _, _ => by rw [diff_nil_nil]; exact ⟨fun c hc => (by simp at hc), List.Pairwise.nil⟩
  | 0, p :: A, _, h, _, _ => by simp at h
  | 0, [], q :: B, h, _, _ => by simp at h
  | n + 1, p :: A, [], h, hA, hB => by
    obtain ⟨h1, h2⟩ := asc_cons hA
    obtain ⟨i1, i2⟩ := diff_elem n (A := A) (B := []) (by simpa using h) h2 hB
    rw [diff_cons_nil]
    have hab : ∀ c ∈ diffL A [], slt p.1 c.key = true := fun c hc => diff_above h1 (fun q hq => by simp at hq) hc
    refine ⟨fun c hc => ?_, List.pairwise_cons.2 ⟨hab, i2⟩⟩
    rcases List.mem_cons.1 hc with rfl | hc
    · exact ⟨.inl ⟨rfl, by simp [cDel]⟩, .none (fun q hq => by simp at hq), rfl⟩
    · exact ⟨(i1 c hc).a.cons (hab c hc), (i1 c hc).b, (i1 c hc).r⟩
  | n + 1, [], q :: B, h, hA, hB => by
    obtain ⟨h1, h2⟩ := asc_cons hB
    obtain ⟨i1, i2⟩ := diff_elem n (A := []) (B := B) (by simpa using h) hA h2
    rw [diff_nil_cons]
    have hab : ∀ c ∈ diffL [] B, slt q.1 c.key = true := fun c hc => diff_above (fun q hq => by simp at hq) h1 hc
    refine ⟨fun c hc => ?_, List.pairwise_cons.2 ⟨hab, i2⟩⟩
    rcases List.mem_cons.1 hc with rfl | hc
    · exact ⟨.none (fun q hq => by simp at hq), .inl ⟨rfl, by simp [cAdd]⟩, rfl⟩
    · exact ⟨(i1 c hc).a, (i1 c hc).b.cons (hab c hc), (i1 c hc).r⟩
  | n + 1, p :: A, q :: B, h, hA, hB => by
    simp only [List.length_cons] at h
    obtain ⟨h1, h2⟩ := asc_cons hA
    obtain ⟨g1, g2⟩ := asc_cons hB
    rw [diff_cons_cons]
    by_cases hpq : slt p.1 q.1 = true
    · rw [if_pos hpq]
      have hall : ∀ x ∈ q :: B, slt p.1 x.1 = true := fun x hx => by
        rcases List.mem_cons.1 hx with rfl | hx
        · exact hpq
        · exact slt_trans hpq (g1 x hx)
      obtain ⟨i1, i2⟩ := diff_elem n (A := A) (B := q :: B) (by simp; omega) h2 hB
      have hab : ∀ c ∈ diffL A (q :: B), slt p.1 c.key = true := fun c hc => diff_above h1 hall hc
      refine ⟨fun c hc => ?_, List.pairwise_cons.2 ⟨hab, i2⟩⟩
      rcases List.mem_cons.1 hc with rfl | hc
      · exact ⟨.inl ⟨rfl, by simp [cDel]⟩, .none hall, rfl⟩
      · exact ⟨(i1 c hc).a.cons (hab c hc), (i1 c hc).b, (i1 c hc).r⟩
    rw [if_neg hpq]
    by_cases hqp : slt q.1 p.1 = true
    · rw [if_pos hqp]
      have hall : ∀ x ∈ p :: A, slt q.1 x.1 = true := fun x hx => by
        rcases List.mem_cons.1 hx with rfl | hx
        · exact hqp
        · exact slt_trans hqp (h1 x hx)
      obtain ⟨i1, i2⟩ := diff_elem n (A := p :: A) (B := B) (by simp; omega) hA g2
      have hab : ∀ c ∈ diffL (p :: A) B, slt q.1 c.key = true := fun c hc => diff_above hall g1 hc
      refine ⟨fun c hc => ?_, List.pairwise_cons.2 ⟨hab, i2⟩⟩
      rcases List.mem_cons.1 hc with rfl | hc
      · exact ⟨.none hall, .inl ⟨rfl, by simp [cAdd]⟩, rfl⟩
      · exact ⟨(i1 c hc).a, (i1 c hc).b.cons (hab c hc), (i1 c hc).r⟩
    rw [if_neg hqp]
    have he : p.1 = q.1 := slt_or hpq hqp
    obtain ⟨i1, i2⟩ := diff_elem n (A := A) (B := B) (by omega) h2 g2
    have hab : ∀ c ∈ diffL A B, slt p.1 c.key = true := fun c hc => diff_above h1 (fun x hx => by rw [he]; exact g1 x hx) hc
    have hin : ∀ c ∈ diffL A B, ElemOk (p :: A) (q :: B) c := fun c hc => ⟨(i1 c hc).a.cons (hab c hc), (i1 c hc).b.cons (by rw [← he]; exact hab c hc), (i1 c hc).r⟩
    by_cases hv : p.2 = q.2
    · rw [if_pos hv]
      exact ⟨hin, i2⟩
    · rw [if_neg hv]
      refine ⟨fun c hc => ?_, List.pairwise_cons.2 ⟨hab, i2⟩⟩
      rcases List.mem_cons.1 hc with rfl | hc
      · refine ⟨.inl ⟨rfl, by simp⟩, .inl ⟨rfl, ?_⟩, by simp [Chg.real, hv]⟩
        show (p.1, q.2) ∈ q :: B
        rw [he]
        simp
      · exact hin c hc
end Go.Proofs.YtkngadbeflepoaaGreat
