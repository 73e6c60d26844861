/- Trees: Diff hands back an iterator that keeps the law of iterators. Condition: its blocks lie as they lay while a round goes on. -/
import Derived.RangeFuncFrom
import Derived.Laws.EntriesVeiled
import Derived.Test.YtbckjgageofldaaGreatZLearnNil20
import Derived.Test.YtbckjgageofldaaGreatZLearnNil19
import Derived.OrdersHeld
import Derived.OrdersIn
import Derived.Test.YtbckjgageofldaaGreatZLearnNil0
namespace Go.Proofs.YtbckjgageofldaaGreat
open Go.RowKit Go.Shelf
attribute [local go_sem] Oper.semAt_some
set_option maxRecDepth 100000 in
set_option maxHeartbeats 1000000 in
theorem diff1G_in (G : Chg → Prop) (n l Ba Bb n₀ Bl : Nat) (A B : Tr) (J Jx : List Chg → World → Prop) (B0 : Nat) (hJ : AbidesFrom B0 J)
  (hY : ∀ m pre x W, J pre W → pre.length < (diffL A.kvs B.kvs).length → G x → YieldAt Fence.wide m Tryz.prog l #[.string x.key, chgV x] W fun e W' =>
   (e = .returned (.bool true) ∧ J (pre ++ [x]) W' ∧ KeepC n₀ Bl W W') ∨ (e = .returned (.bool false) ∧ Jx (pre ++ [x]) W'))
  (W : World) (hBl : Bl ≤ W.heap.size) (hn₀ : n₀ ≤ W.heap.size) (hBa : W.cell? ⟨Ba, 0, none⟩ = some (.pointer A.ptr)) (hBb : W.cell? ⟨Bb, 0, none⟩ = some (.pointer B.ptr))
  (hA : TreeAt W A) (hB : TreeAt W B) (hoA : A.Out n₀ Bl) (hoB : B.Out n₀ Bl) (haA : Asc A.kvs) (haB : Asc B.kvs) (hc : A.cnt + B.cnt ≤ 4611686018427387904) (h0 : J [] W) (hG : ∀ c ∈ diffL A.kvs B.kvs, G c) :
  CallsIn Fence.wide n Tryz.prog 187 #[.func (.yield l) #[] #[], .pointer (some ⟨Ba, 0, none⟩), .pointer (some ⟨Bb, 0, none⟩)] W fun e W' => (∃ v, e = .returned v) ∧
   ((∃ ys, ys = diffL A.kvs B.kvs ∧ J ys W') ∨ (∃ pre, pre <+: diffL A.kvs B.kvs ∧ Jx pre W')) := by
 have hJd : ∀ pre W W', J pre W → Below W.heap.size W W' → J pre W' := fun pre W W' h hb => hJ pre W W' none h ⟨hb.os, hb.tape, hb.output, hb.size, fun q hq _ => hb.block q hq⟩ (fun r e => by cases e)
 obtain ⟨PA, hPA⟩ : ∃ P, A.ptr = P := ⟨_, rfl⟩
 obtain ⟨PB, hPB⟩ : ∃ P, B.ptr = P := ⟨_, rfl⟩
 rw [hPA] at hBa
 rw [hPB] at hBb
 have hs1 : (W.alloc (.cells #[.func (.yield l) #[] #[]] 282)).heap.size = W.heap.size + 1 := by simp
 have hb3 : Below W.heap.size W ((W.alloc (.cells #[.func (.yield l) #[] #[]] 282)).alloc (.cells #[(.func (.func 188) #[] #[.pointer (some ⟨W.heap.size + 1, 0, none⟩), .pointer (some ⟨W.heap.size, 0, none⟩)])] 283)) := ((Below.refl _ _).alloc (Nat.le_refl _) _).alloc (by simp) _
 have hi3 : DIterAt ((W.alloc (.cells #[.func (.yield l) #[] #[]] 282)).alloc (.cells #[(.func (.func 188) #[] #[.pointer (some ⟨W.heap.size + 1, 0, none⟩), .pointer (some ⟨W.heap.size, 0, none⟩)])] 283)) l W.heap.size (W.heap.size + 1) :=
  ⟨(Below.heap_alloc _ _ _ (by simp)).trans (heap_alloc_new W _), by
   have := heap_alloc_new (W.alloc (.cells #[.func (.yield l) #[] #[]] 282)) (.cells #[(.func (.func 188) #[] #[.pointer (some ⟨W.heap.size + 1, 0, none⟩), .pointer (some ⟨W.heap.size, 0, none⟩)])] 283)
   rwa [hs1] at this⟩
 have hc1 := hi3.cells.2
 have hlt : ∀ {Bt : Nat} {v : Value}, W.cell? ⟨Bt, 0, none⟩ = some v → Bt < W.heap.size := fun {Bt v} h => by
  rcases Nat.lt_or_ge Bt W.heap.size with h1 | h1
  ·
   exact h1
  ·
   simp [World.cell?, Array.getElem?_eq_none h1] at h
 have hc2 := (hb3.cell (p := ⟨Ba, 0, none⟩) (hlt hBa)).trans hBa
 have hc3 := (hb3.cell (p := ⟨Bb, 0, none⟩) (hlt hBb)).trans hBb
 have hsz := hb3.size
 have Hw := Lib.hid (diffWalkG_any G l W.heap.size (W.heap.size + 1) n₀ Bl (diffL A.kvs B.kvs).length hBl (by omega) J Jx hJd hY _ A B [] _ (Nat.le_refl _) hc (hA.below hb3) (hB.below hb3) hoA hoB haA haB hi3 (Nat.le_trans hBl hsz) (Nat.le_trans hn₀ hsz) hG (hJd _ _ _ h0 hb3) (by simp))
 rw [hPA, hPB] at Hw
 clear hb3 hi3 hs1 hY hA hB hG hJ hJd h0 hBa hBb hlt hPA hPB
 refine callsIn_of_wp Tryz.func187 rfl trivial ?_ rfl
 simp only [Tryz.ntmps187, List.size_toArray, List.length_cons, List.length_nil, Nat.reduceAdd, Nat.reduceSub, Array.replicate_succ, Array.replicate_zero, List.push_toArray, List.append_toArray, List.nil_append, List.cons_append]
 gi_wp2_with (refine ⟨trivial, (fun h => (by cases h)), ?_⟩; refine (callsIn_wide.2 Hw.out).mono ?_; rintro e W1 (⟨rfl, hJ1, _⟩ | ⟨rfl, q, hq, hx⟩))
 ·
  go_end0
  exact ⟨⟨_, rfl⟩, .inl ⟨_, rfl, by simpa using hJ1⟩⟩
 ·
  go_end0
  exact ⟨⟨_, rfl⟩, .inr ⟨q, hq, by simpa using hx⟩⟩
set_option maxHeartbeats 1000000 in
theorem diff_in (n : Nat) (pa pb : Option Addr) (w : World) :
  CallsIn Fence.wide n Tryz.prog 167 #[.pointer pa, .pointer pb] w fun e w' => e = .returned (.func (.func 187) #[] #[.pointer (some ⟨w.heap.size, 0, none⟩), .pointer (some ⟨w.heap.size + 1, 0, none⟩)]) ∧
   w' = (w.alloc (.cells #[.pointer pa] 32)).alloc (.cells #[.pointer pb] 32) := by
 refine callsIn_of_wp Tryz.func167 rfl trivial ?_ rfl
 simp only [Tryz.ntmps167, List.size_toArray, List.length_cons, List.length_nil, Nat.reduceAdd, Nat.reduceSub, Array.replicate_succ, Array.replicate_zero, List.push_toArray, List.append_toArray, List.nil_append, List.cons_append]
 gi_wp2
 go_ret
 exact ⟨rfl, rfl⟩
theorem diff_stopsG (G : Chg → Prop) (n Ba Bb n₀ Bl : Nat) (A B : Tr) (w : World) (hBa : Ba < w.heap.size) (hBb : Bb < w.heap.size) (hBl : Bl ≤ w.heap.size) (hn₀ : n₀ ≤ w.heap.size) (hca : w.cell? ⟨Ba, 0, none⟩ = some (.pointer A.ptr)) (hcb : w.cell? ⟨Bb, 0, none⟩ = some (.pointer B.ptr))
  (hA : TreeAt w A) (hB : TreeAt w B) (hoA : A.Out n₀ Bl) (hoB : B.Out n₀ Bl) (haA : Asc A.kvs) (haB : Asc B.kvs) (hc : A.cnt + B.cnt ≤ 4611686018427387904) (hG : ∀ c ∈ diffL A.kvs B.kvs, G c) :
  SeqStopsK Fence.wide n Tryz.prog 187 #[.pointer (some ⟨Ba, 0, none⟩), .pointer (some ⟨Bb, 0, none⟩)] (fun x : {c : Chg // G c} => #[Value.string x.val.key, chgV x.val]) (KeepC n₀ Bl) (fun ys => ys.map (·.val) = diffL A.kvs B.kvs) (fun pre => pre.map (·.val) <+: diffL A.kvs B.kvs) (diffL A.kvs B.kvs).length w := by
 intro l J Jx W hW hJ _ hY h0
 refine (diff1G_in G n l Ba Bb n₀ Bl A B (fun p W => ∃ q : List {c : Chg // G c}, p = q.map (·.val) ∧ J q W) (fun p W => ∃ q : List {c : Chg // G c}, p = q.map (·.val) ∧ Jx q W) _
  (fun p W W' row h hg hr => by obtain ⟨q, rfl, h⟩ := h; exact ⟨q, rfl, hJ q W W' row h hg hr⟩)
  (fun m pre x W hj hl hx => yield_any rfl m (by
   obtain ⟨q, rfl, hq⟩ := hj
   obtain ⟨fn, tmps, assign, body, hy, hR⟩ := hY q ⟨x, hx⟩ W hq (by simpa using hl)
   refine ⟨fn, tmps, assign, body, hy, hR.mono ?_⟩
   rintro e W' (⟨rfl, h1, h2⟩ | ⟨rfl, h1⟩)
   ·
    exact .inl ⟨rfl, ⟨q ++ [⟨x, hx⟩], by simp, h1⟩, h2⟩
   ·
    exact .inr ⟨rfl, q ++ [⟨x, hx⟩], by simp, h1⟩)) W (Nat.le_trans hBl hW.size) (Nat.le_trans hn₀ hW.size) ((hW.cell (p := ⟨Ba, 0, none⟩) hBa).trans hca) ((hW.cell (p := ⟨Bb, 0, none⟩) hBb).trans hcb)
   (hA.below hW) (hB.below hW) hoA hoB haA haB hc ⟨[], rfl, h0⟩ hG).mono ?_
 rintro e W' ⟨h1, ⟨ys, hys, q, hq, h2⟩ | ⟨pre, hp, q, hq, h2⟩⟩
 ·
  exact ⟨h1, .inl ⟨q, by show q.map (·.val) = _; rw [← hq]; exact hys, h2⟩⟩
 ·
  exact ⟨h1, .inr ⟨q, by show q.map (·.val) <+: _; rw [← hq]; exact hp, h2⟩⟩
end Go.Proofs.YtbckjgageofldaaGreat
namespace Go.Proofs.YtbckjgageofldaaGreat
open Go.RowKit
theorem asc_cons {p : ByteArray × ByteArray} {L : Prs} (h : Asc (p :: L)) : (∀ q ∈ L, slt p.1 q.1 = true) ∧ Asc L := List.pairwise_cons.1 h
theorem diff_keys : ∀ (n : Nat) {A B : Prs} {c : Chg}, A.length + B.length ≤ n → c ∈ diffL A B → (∃ v, (c.key, v) ∈ A) ∨ ∃ v, (c.key, v) ∈ B
 | n, [], [], c, _, h => by rw [diff_nil_nil] at h; simp at h
 | 0, p :: A, _, c, h, _ => by simp at h
 | 0, [], q :: B, c, h, _ => by simp at h
 | n + 1, p :: A, [], c, h, hc => by
  rw [diff_cons_nil] at hc
  rcases List.mem_cons.1 hc with rfl | hc
  ·
   exact .inl ⟨p.2, by simp [cDel]⟩
  ·
   rcases diff_keys n (by simpa using h) hc with ⟨v, h1⟩ | ⟨v, h1⟩
   ·
    exact .inl ⟨v, by simp [h1]⟩
   ·
    exact .inr ⟨v, h1⟩
 | n + 1, [], q :: B, c, h, hc => by
  rw [diff_nil_cons] at hc
  rcases List.mem_cons.1 hc with rfl | hc
  ·
   exact .inr ⟨q.2, by simp [cAdd]⟩
  ·
   rcases diff_keys n (by simpa using h) hc with ⟨v, h1⟩ | ⟨v, h1⟩
   ·
    exact .inl ⟨v, h1⟩
   ·
    exact .inr ⟨v, by simp [h1]⟩
 | n + 1, p :: A, q :: B, c, h, hc => by
  simp only [List.length_cons] at h
  rw [diff_cons_cons] at hc
  split at hc
  ·
   rcases List.mem_cons.1 hc with rfl | hc
   ·
    exact .inl ⟨p.2, by simp [cDel]⟩
   ·
    rcases diff_keys n (by simp; omega) hc with ⟨v, h1⟩ | ⟨v, h1⟩
    ·
     exact .inl ⟨v, by simp [h1]⟩
    ·
     exact .inr ⟨v, h1⟩
  split at hc
  ·
   rcases List.mem_cons.1 hc with rfl | hc
   ·
    exact .inr ⟨q.2, by simp [cAdd]⟩
   ·
    rcases diff_keys n (by simp; omega) hc with ⟨v, h1⟩ | ⟨v, h1⟩
    ·
     exact .inl ⟨v, h1⟩
    ·
     exact .inr ⟨v, by simp [h1]⟩
  split at hc
  ·
   rcases diff_keys n (by omega) hc with ⟨v, h1⟩ | ⟨v, h1⟩
   ·
    exact .inl ⟨v, by simp [h1]⟩
   ·
    exact .inr ⟨v, by simp [h1]⟩
  ·
   rcases List.mem_cons.1 hc with rfl | hc
   ·
    exact .inl ⟨p.2, by simp⟩
   ·
    rcases diff_keys n (by omega) hc with ⟨v, h1⟩ | ⟨v, h1⟩
    ·
     exact .inl ⟨v, by simp [h1]⟩
    ·
     exact .inr ⟨v, by simp [h1]⟩
theorem diff_above {k : ByteArray} {A B : Prs} {c : Chg} (hA : ∀ q ∈ A, slt k q.1 = true) (hB : ∀ q ∈ B, slt k q.1 = true) (h : c ∈ diffL A B) : slt k c.key = true := by
 rcases diff_keys _ (Nat.le_refl _) h with ⟨v, h1⟩ | ⟨v, h1⟩
 ·
  exact hA _ h1
 ·
  exact hB _ h1
def SideOk (A : Prs) (k v : ByteArray) (b : Bool) : Prop := (b = true ∧ (k, v) ∈ A) ∨ (b = false ∧ v = ByteArray.empty ∧ ∀ u, (k, u) ∉ A)
theorem SideOk.cons {A : Prs} {k v : ByteArray} {b : Bool} {p : ByteArray × ByteArray} (h : SideOk A k v b) (hp : slt p.1 k = true) : SideOk (p :: A) k v b := by
 rcases h with ⟨h1, h2⟩ | ⟨h1, h2, h3⟩
 ·
  exact .inl ⟨h1, by simp [h2]⟩
 ·
  refine .inr ⟨h1, h2, fun u hu => ?_⟩
  rcases List.mem_cons.1 hu with h4 | h4
  ·
   rw [← h4, slt_irrefl] at hp; cases hp
  ·
   exact h3 u h4
theorem SideOk.none {A : Prs} {k : ByteArray} (h : ∀ q ∈ A, slt k q.1 = true) : SideOk A k ByteArray.empty false :=
 .inr ⟨rfl, rfl, fun u hu => by have := h _ hu; rw [slt_irrefl] at this; cases this⟩
structure ElemOk (A B : Prs) (c : Chg) : Prop where
 a : SideOk A c.key c.old c.had
 b : SideOk B c.key c.new c.has
 r : c.real = true
theorem slt_or {a b : ByteArray} (h : ¬ slt a b = true) (k : ¬ slt b a = true) : a = b := slt_total (by simpa using h) (by simpa using k)
theorem diff_elem : ∀ (n : Nat) {A B : Prs}, A.length + B.length ≤ n → Asc A → Asc B → (∀ c ∈ diffL A B, ElemOk A B c) ∧ (diffL A B).Pairwise (fun c d => slt c.key d.key = true)
 | n, [], [], _, _, _ => by rw [diff_nil_nil]; exact ⟨fun c hc => (by simp at hc), List.Pairwise.nil⟩
 | 0, p :: A, _, h, _, _ => by simp at h
 | 0, [], q :: B, h, _, _ => by simp at h
 | n + 1, p :: A, [], h, hA, hB => by
  obtain ⟨h1, h2⟩ := asc_cons hA
  obtain ⟨i1, i2⟩ := diff_elem n (A := A) (B := []) (by simpa using h) h2 hB
  rw [diff_cons_nil]
  have hab : ∀ c ∈ diffL A [], slt p.1 c.key = true := fun c hc => diff_above h1 (fun q hq => by simp at hq) hc
  refine ⟨fun c hc => ?_, List.pairwise_cons.2 ⟨hab, i2⟩⟩
  rcases List.mem_cons.1 hc with rfl | hc
  ·
   exact ⟨.inl ⟨rfl, by simp [cDel]⟩, .none (fun q hq => by simp at hq), rfl⟩
  ·
   exact ⟨(i1 c hc).a.cons (hab c hc), (i1 c hc).b, (i1 c hc).r⟩
 | n + 1, [], q :: B, h, hA, hB => by
  obtain ⟨h1, h2⟩ := asc_cons hB
  obtain ⟨i1, i2⟩ := diff_elem n (A := []) (B := B) (by simpa using h) hA h2
  rw [diff_nil_cons]
  have hab : ∀ c ∈ diffL [] B, slt q.1 c.key = true := fun c hc => diff_above (fun q hq => by simp at hq) h1 hc
  refine ⟨fun c hc => ?_, List.pairwise_cons.2 ⟨hab, i2⟩⟩
  rcases List.mem_cons.1 hc with rfl | hc
  ·
   exact ⟨.none (fun q hq => by simp at hq), .inl ⟨rfl, by simp [cAdd]⟩, rfl⟩
  ·
   exact ⟨(i1 c hc).a, (i1 c hc).b.cons (hab c hc), (i1 c hc).r⟩
 | n + 1, p :: A, q :: B, h, hA, hB => by
  simp only [List.length_cons] at h
  obtain ⟨h1, h2⟩ := asc_cons hA
  obtain ⟨g1, g2⟩ := asc_cons hB
  rw [diff_cons_cons]
  by_cases hpq : slt p.1 q.1 = true
  ·
   rw [if_pos hpq]
   have hall : ∀ x ∈ q :: B, slt p.1 x.1 = true := fun x hx => by
    rcases List.mem_cons.1 hx with rfl | hx
    ·
     exact hpq
    ·
     exact slt_trans hpq (g1 x hx)
   obtain ⟨i1, i2⟩ := diff_elem n (A := A) (B := q :: B) (by simp; omega) h2 hB
   have hab : ∀ c ∈ diffL A (q :: B), slt p.1 c.key = true := fun c hc => diff_above h1 hall hc
   refine ⟨fun c hc => ?_, List.pairwise_cons.2 ⟨hab, i2⟩⟩
   rcases List.mem_cons.1 hc with rfl | hc
   ·
    exact ⟨.inl ⟨rfl, by simp [cDel]⟩, .none hall, rfl⟩
   ·
    exact ⟨(i1 c hc).a.cons (hab c hc), (i1 c hc).b, (i1 c hc).r⟩
  rw [if_neg hpq]
  by_cases hqp : slt q.1 p.1 = true
  ·
   rw [if_pos hqp]
   have hall : ∀ x ∈ p :: A, slt q.1 x.1 = true := fun x hx => by
    rcases List.mem_cons.1 hx with rfl | hx
    ·
     exact hqp
    ·
     exact slt_trans hqp (h1 x hx)
   obtain ⟨i1, i2⟩ := diff_elem n (A := p :: A) (B := B) (by simp; omega) hA g2
   have hab : ∀ c ∈ diffL (p :: A) B, slt q.1 c.key = true := fun c hc => diff_above hall g1 hc
   refine ⟨fun c hc => ?_, List.pairwise_cons.2 ⟨hab, i2⟩⟩
   rcases List.mem_cons.1 hc with rfl | hc
   ·
    exact ⟨.none hall, .inl ⟨rfl, by simp [cAdd]⟩, rfl⟩
   ·
    exact ⟨(i1 c hc).a, (i1 c hc).b.cons (hab c hc), (i1 c hc).r⟩
  rw [if_neg hqp]
  have he : p.1 = q.1 := slt_or hpq hqp
  obtain ⟨i1, i2⟩ := diff_elem n (A := A) (B := B) (by omega) h2 g2
  have hab : ∀ c ∈ diffL A B, slt p.1 c.key = true := fun c hc => diff_above h1 (fun x hx => by rw [he]; exact g1 x hx) hc
  have hin : ∀ c ∈ diffL A B, ElemOk (p :: A) (q :: B) c := fun c hc => ⟨(i1 c hc).a.cons (hab c hc), (i1 c hc).b.cons (by rw [← he]; exact hab c hc), (i1 c hc).r⟩
  by_cases hv : p.2 = q.2
  ·
   rw [if_pos hv]
   exact ⟨hin, i2⟩
  ·
   rw [if_neg hv]
   refine ⟨fun c hc => ?_, List.pairwise_cons.2 ⟨hab, i2⟩⟩
   rcases List.mem_cons.1 hc with rfl | hc
   ·
    refine ⟨.inl ⟨rfl, by simp⟩, .inl ⟨rfl, ?_⟩, by simp [Chg.real, hv]⟩
    show (p.1, q.2) ∈ q :: B
    rw [he]
    simp
   ·
    exact hin c hc
end Go.Proofs.YtbckjgageofldaaGreat
namespace Go.Proofs.YtbckjgageofldaaGreat.RegF
open Go
section
variable {F : Fence} {n : Nat} {P : Program} {ops : Array Oper} {Q : Exit → Act → World → Prop} {md : Region.Mode}
def noCall (o : Oper) : Bool := match o.op with
 | .call c => (match c.callee with | .builtin _ => true | _ => false)
 | _ => true
theorem about_none {o : Oper} (h : noCall o = true) (w : World) (ρ : Operand → Value) : o.about P w ρ = none := by
 unfold noCall at h
 unfold Oper.about
 cases ho : o.op <;> rw [ho] at h <;> first | rfl | skip
 rename_i c
 simp only at h ⊢
 cases hc : c.callee <;> rw [hc] at h <;> first | (cases h; done) | skip
 simp [resolve, hc, Target.leads]
def noDefer (o : Oper) : Bool := match o.op with | .defer _ => false | _ => true
theorem sem_of {o : Oper} (h : noDefer o = true) (ρ : Operand → Value) : o.semAt F.round ρ = execOp ρ o := Oper.semAt_eq _ ρ o (by intro c e; simp [noDefer, e] at h)
theorem yif_op {R : World → Prop} {i : Nat} {o : Oper} {v : Value} {a : Act} (hro : ∀ o ∈ ops, noDefer o = true) (hi : ops[i]? = some o) (hy : YieldsIf P ops R o v a) (hc : noCall o = true)
  {K : Act → World → Prop} {w : World} (hR : R w) (h : K (a.put o.dst v) w) : wpOpIn F n P ops Q i K a w := by
 unfold Go.wpOpIn
 simp only [hi]
 have hab : ∀ f, o.about P w a.eval = some f → F.fn f := fun f hf => by rw [about_none hc] at hf; cases hf
 rcases hy with ⟨hw, hv⟩ | ⟨hw, rfl⟩
 ·
  simp only [hw, if_true, Oper.wpIn, sem_of (F := F) (hro o (Array.mem_of_getElem? hi)), hv w hR, Oper.uponIn]; exact ⟨hab, h⟩
 ·
  simp only [hw, Bool.false_eq_true, if_false]; exact ⟨hab, h⟩
theorem putIf {R : World → Prop} {j : Nat} {oi oj : Oper} {v : Value} (hro : ∀ o ∈ ops, noDefer o = true) (hj : ops[j]? = some oj) (hap : oi.apart ops oj = true)
  (hsi : ∀ cs b, oi.op ≠ .select cs b) (hsj : ∀ cs b, oj.op ≠ .select cs b)
  (hQ : ∀ c a w, Q (.panic c) (a.put oi.dst v) w → Q (.panic c) a w) {K : Act → World → Prop} {a : Act} {w : World}
  (hy : YieldsIf P ops R oi v a) (h : wpOpIn F n P ops Q j K (a.put oi.dst v) w) :
  wpOpIn F n P ops Q j (fun a' w' => YieldsIf P ops R oi v a' ∧ K (a'.put oi.dst v) w') a w := by
 obtain ⟨h1, h2, h3⟩ := Oper.apart_spec hap
 have keep : ∀ (a : Act), YieldsIf P ops R oi v a → ∀ u, YieldsIf P ops R oi v (a.put oj.dst u) := fun a hy u =>
  hy.of_same (execOp_put oi hsi a oj.dst u h3) (wanted_put oi a oj.dst u h3)
 have keepD : ∀ d, YieldsIf P ops R oi v { a with defers := d :: a.defers } := fun d => hy.of_same rfl rfl
 have hmj := Array.mem_of_getElem? hj
 unfold wpOpIn at *
 simp only [hj] at *
 rw [wanted_put oj a oi.dst v h1, about_put oj w a oi.dst v h1] at h
 split
 ·
  rename_i hw
  simp only [hw, if_true] at h
  unfold Oper.wpIn at *
  rw [about_put oj w a oi.dst v h1] at h
  refine ⟨h.1, ?_⟩
  have h := h.2
  rw [sem_of (F := F) (hro oj hmj), execOp_put oj hsj a oi.dst v h1] at h
  rw [sem_of (F := F) (hro oj hmj)]
  generalize (execOp a.eval oj).run P w = r at *
  cases r with
  | ok x w' =>
   cases x <;> simp only [Oper.uponIn] at h ⊢
   case value u => exact ⟨keep a hy u, by rw [← Act.put_comm a v u h2]; exact h⟩
   case skip => exact ⟨keep a hy _, by rw [← Act.put_comm a v undef h2]; exact h⟩
   case defer d =>
    refine ⟨keep _ (keepD d) _, ?_⟩
    rw [← Act.put_comm _ v undef h2, ← Act.put_defers]
    exact h
   case enter f args =>
    refine ⟨h.1, CallsIn.mono h.2 fun e w'' he => ?_⟩
    cases e with
    | returned u => exact ⟨keep a hy u, by rw [← Act.put_comm a v u h2]; exact he⟩
    | panicked c => exact hQ _ _ _ he
    | outgrown => exact he
   case row row args => exact ⟨h.1, RowsIn.mono h.2 fun u w'' he => ⟨keep a hy u, by rw [← Act.put_comm a v u h2]; exact he⟩⟩
   case round l f tmps assign body =>
    refine ⟨h.1, RoundIn.mono h.2 fun e w'' he => ?_⟩
    cases e with
    | returned u => exact ⟨keep a hy u, by rw [← Act.put_comm a v u h2]; exact he⟩
    | panicked c => exact hQ _ _ _ he
    | outgrown => exact he
  | halt x w' =>
   cases x <;> simp only [Oper.uponIn] at h ⊢
   case panic u => exact hQ _ _ _ h
 ·
  rename_i hw
  simp only [hw] at h
  exact ⟨h.1, keep a hy _, by rw [← Act.put_comm a v undef h2]; exact h.2⟩
def onsOf (md : Region.Mode) (ops : Array Oper) (j : Nat) : List Nat := match ops[j]? with
 | some o => (o.after.toList.filter (Region.binds md)).map (·.on)
 | none => []
def back (md : Region.Mode) (ops : Array Oper) : Nat → List Nat → List Nat
 | 0, l => l
 | i + 1, l => back md ops i (if l.contains i then onsOf md ops i ++ l else l)
def Closed (md : Region.Mode) (ops : Array Oper) (listed : Array Bool) : Prop := ∀ j, listed.getD j false = true → ∀ e ∈ onsOf md ops j, listed.getD e false = true
theorem back_listed {listed : Array Bool} (h : Closed md ops listed) : ∀ (m : Nat) (l : List Nat), (∀ j ∈ l, listed.getD j false = true) → ∀ j ∈ back md ops m l, listed.getD j false = true
 | 0, _, hl, j, hj => hl j hj
 | m + 1, l, hl, j, hj => back_listed h m _ (fun k hk => by
   split at hk
   ·
    rename_i hc
    rcases List.mem_append.1 hk with hk | hk
    ·
     exact h m (hl m (by simpa using hc)) k hk
    ·
     exact hl k hk
   ·
    exact hl k hk) j hj
theorem ready_ons {listed : Array Bool} {j : Nat} (h : j ∈ Region.ready md ops listed) : ∀ e ∈ onsOf md ops j, listed.getD e false = true := by
 obtain ⟨_, o, ho, hall⟩ := mem_ready.1 h
 intro e he
 simp only [onsOf, ho, List.mem_map, List.mem_filter] at he
 obtain ⟨q, ⟨h1, h2⟩, rfl⟩ := he
 exact hall q (by simpa using h1) h2
theorem Closed.set {listed : Array Bool} {i : Nat} (h : Closed md ops listed) (hi : i ∈ Region.ready md ops listed) : Closed md ops (listed.setIfInBounds i true) := by
 intro j hj e he
 by_cases hij : i = j
 ·
  subst hij; exact getD_set_true (ready_ons hi e he)
 ·
  rw [getD_set_ne false hij] at hj
  exact getD_set_true (h j hj e he)
theorem Closed.none (n : Nat) : Closed md ops (Array.replicate n false) := by
 intro j hj
 have : (Array.replicate n false).getD j false = false := by
  simp only [Array.getD_eq_getD_getElem?, Array.getElem?_replicate]
  split <;> rfl
 rw [this] at hj
 cases hj
theorem bar_not {bar : Nat → Bool} {listed : Array Bool} {i j : Nat} (h : Closed md ops listed) (hj : j ∈ Region.ready md ops listed) (hi : i ∈ Region.ready md ops listed)
  (hb : bar j = true → i ∈ back md ops ops.size (onsOf md ops j)) : bar j = false := by
 rw [Bool.eq_false_iff]
 intro hbj
 obtain ⟨h0, o, ho, _⟩ := mem_ready.1 hi
 have h4 := back_listed h _ _ (ready_ons hj) i (hb hbj)
 rcases Nat.lt_or_ge i listed.size with h' | h'
 ·
  simp [h'] at h0 h4; rw [h0] at h4; cases h4
 ·
  simp [Array.getElem?_eq_none h'] at h4
def Into (b : Bool) (R : World → Prop) (K : (World → Prop) → Act → World → Prop) (a : Act) (w : World) : Prop := ∃ R' : World → Prop, R' w ∧ (b = true ∨ R' = R) ∧ K R' a w
def anyR (bar : Nat → Bool) (F : Fence) (n : Nat) (P : Program) (md : Region.Mode) (ops : Array Oper) (Q : Exit → Act → World → Prop) : Nat → Array Bool → (World → Prop) → Act → World → Prop
 | 0, listed, _, a, w => Region.ready md ops listed = [] ∧ Q .normal a w
 | fuel + 1, listed, R, a, w => (Region.ready md ops listed = [] → Q .normal a w) ∧
   ∀ i ∈ Region.ready md ops listed, wpOpIn F n P ops Q i (Into (bar i) R (fun R' a' w' => anyR bar F n P md ops Q fuel (listed.setIfInBounds i true) R' a' w')) a w
theorem any_of {bar : Nat → Bool} : ∀ (fuel : Nat) (listed : Array Bool) (R : World → Prop) (a : Act) (w : World), anyR bar F n P md ops Q fuel listed R a w → wpAnyIn F n P md ops Q fuel listed a w
 | 0, _, _, _, _, h => h
 | fuel + 1, _, _, _, _, h => ⟨h.1, fun i hi => wpOpIn_mono (fun a' w' ⟨R', _, _, h3⟩ => any_of fuel _ R' a' w' h3) (h.2 i hi)⟩
theorem first {bar : Nat → Bool} {i : Nat} {oi : Oper} {v : Value} (hro : ∀ o ∈ ops, noDefer o = true) (hi : ops[i]? = some oi) (hc : noCall oi = true) (hsel : ∀ (j : Nat) (o : Oper) cs b, ops[j]? = some o → o.op ≠ .select cs b)
  (hQ : ∀ c a w, Q (.panic c) (a.put oi.dst v) w → Q (.panic c) a w) :
  ∀ (fuel : Nat) (listed : Array Bool) (R : World → Prop) (a : Act) (w : World),
   (∀ j oj, ops[j]? = some oj → j ≠ i → listed.getD j true = false → (∀ e ∈ oj.after, Region.binds md e = true → e.on ≠ i) → oi.apart ops oj = true) →
   (∀ j, listed.getD j true = false → j ≠ i → bar j = true → i ∈ back md ops ops.size (onsOf md ops j)) → Closed md ops listed → i ∈ Region.ready md ops listed → R w → YieldsIf P ops R oi v a →
   anyR bar F n P md ops Q fuel (listed.setIfInBounds i true) R (a.put oi.dst v) w → anyR bar F n P md ops Q (fuel + 1) listed R a w := by
 intro fuel
 induction fuel with
 | zero =>
  intro listed R a w _ _ _ hr hR hy H
  refine ⟨fun h => (by rw [h] at hr; cases hr), fun j hj => ?_⟩
  by_cases hji : j = i
  ·
   subst hji; exact yif_op hro hi hy hc hR ⟨R, hR, .inr rfl, H⟩
  ·
   have := ready_mono hj hji
   rw [H.1] at this
   cases this
 | succ fuel ih =>
  intro listed R a w hfree hbar hcl hr hR hy H
  refine ⟨fun h => (by rw [h] at hr; cases hr), fun j hj => ?_⟩
  by_cases hji : j = i
  ·
   subst hji; exact yif_op hro hi hy hc hR ⟨R, hR, .inr rfl, H⟩
  ·
   have h1 := H.2 j (ready_mono hj hji)
   obtain ⟨hjun, oj, hoj, hall⟩ := mem_ready.1 hj
   have hnot : ∀ e ∈ oj.after, Region.binds md e = true → e.on ≠ i := fun e he hb heq => by
    have h1 := hall e he hb
    have h0 := (mem_ready.1 hr).1
    rw [heq] at h1
    rcases Nat.lt_or_ge i listed.size with h' | h'
    ·
     simp [h'] at h0 h1; rw [h0] at h1; cases h1
    ·
     simp [Array.getElem?_eq_none h'] at h1
   have hb : bar j = false := bar_not hcl hj hr (hbar j hjun hji)
   have h2 := putIf hro hoj (hfree j oj hoj hji hjun hnot) (fun cs b => hsel i oi cs b hi) (fun cs b => hsel j oj cs b hoj) hQ hy h1
   have hfree' : ∀ k ok, ops[k]? = some ok → k ≠ i → (listed.setIfInBounds j true).getD k true = false →
     (∀ e ∈ ok.after, Region.binds md e = true → e.on ≠ i) → oi.apart ops ok = true := fun k ok hk hki hun hno => by
    refine hfree k ok hk hki ?_ hno
    by_cases hjk : j = k
    ·
     subst hjk; exact hjun
    ·
     rw [getD_set_ne true hjk] at hun; exact hun
   have hbar' : ∀ k, (listed.setIfInBounds j true).getD k true = false → k ≠ i → bar k = true → i ∈ back md ops ops.size (onsOf md ops k) := fun k hun hki hbk => by
    refine hbar k ?_ hki hbk
    by_cases hjk : j = k
    ·
     subst hjk; exact hjun
    ·
     rw [getD_set_ne true hjk] at hun; exact hun
   refine wpOpIn_mono (fun a' w' ⟨hy', R', hR', hor, hK⟩ => ?_) h2
   obtain rfl : R' = R := hor.resolve_left (by simp [hb])
   refine ⟨R', hR', .inr rfl, ih (listed.setIfInBounds j true) R' a' w' hfree' hbar' (hcl.set hj) (ready_mono hr (Ne.symm hji)) hR' hy' ?_⟩
   rw [Array.setIfInBounds_comm _ _ hji]
   exact hK
def can (F : Fence) (n : Nat) (P : Program) (ops : Array Oper) (Q : Exit → Act → World → Prop) : List (Oper × Nat) → (World → Prop) → Act → World → Prop
 | [], _, a, w => Q .normal a w
 | (o, 0) :: r, R, a, w =>
  if Region.wanted o (yielded ops a.tmps) then ∃ v, (∀ x, R x → (execOp a.eval o).run P x = .ok (.value v) x) ∧ can F n P ops Q r R (a.put o.dst v) w
  else can F n P ops Q r R (a.put o.dst undef) w
 | (o, 1) :: r, R, a, w =>
  if Region.wanted o (yielded ops a.tmps) then o.wpIn F n P a w (fun a' w' => R w' ∧ can F n P ops Q r R a' w') Q
  else (∀ f, o.about P w a.eval = some f → F.fn f) ∧ can F n P ops Q r R (a.put o.dst undef) w
 | (o, _ + 2) :: r, R, a, w =>
  if Region.wanted o (yielded ops a.tmps) then o.wpIn F n P a w (fun a' w' => ∃ R' : World → Prop, R' w' ∧ can F n P ops Q r R' a' w') Q
  else (∀ f, o.about P w a.eval = some f → F.fn f) ∧ can F n P ops Q r R (a.put o.dst undef) w
def pick (l : List Oper) : List (Nat × Nat) → List (Oper × Nat)
 | [] => []
 | (k, e) :: r => match l[k]? with | some o => (o, e) :: pick l r | none => []
structure Can (F : Fence) (n : Nat) (P : Program) (ops : Array Oper) (Q : Exit → Act → World → Prop) (l : List (Oper × Nat)) (R : World → Prop) (a : Act) (w : World) : Prop where
 out : can F n P ops Q l R a w
def barOf (σ : List (Nat × Nat)) (j : Nat) : Bool := σ.any fun p => p.1 == j && decide (2 ≤ p.2)
def noPanic (Q : Exit → Act → World → Prop) : Exit → Act → World → Prop
 | .panic _, _, _ => False
 | e, a, w => Q e a w
theorem can_nil {R : World → Prop} {a : Act} {w : World} (h : Q .normal a w) : Can F n P ops Q [] R a w := ⟨h⟩
theorem can_calm {R : World → Prop} {a : Act} {w : World} (h : Q .normal a w) : Can F n P ops (noPanic Q) [] R a w := ⟨h⟩
end
end Go.Proofs.YtbckjgageofldaaGreat.RegF
namespace Go.Proofs.YtbckjgageofldaaGreat.RegS
open Go RegR
section
variable {P : Program} {ops : Array Oper} {Q : Exit → Act → World → Prop}
structure Can (P : Program) (ops : Array Oper) (Q : Exit → Act → World → Prop) (l : List (Oper × Nat)) (R : World → Prop) (a : Act) (w : World) : Prop where
 out : wpCan P ops Q l R a w
theorem last {R : World → Prop} {a : Act} {w : World} {o : Oper} {r : List (Oper × Nat)}
  (h : ∀ K : Act → World → Prop, (∀ a w, Q .normal a w → K a w) → if Region.wanted o (yielded ops a.tmps) then o.wp P a w K Q else K (a.put o.dst undef) w) :
  Can P ops Q ((o, 2) :: r) R a w := ⟨can_last h⟩
theorem nil {R : World → Prop} {a : Act} {w : World} (h : Q .normal a w) : Can P ops Q [] R a w := ⟨can_nil h⟩
end
end Go.Proofs.YtbckjgageofldaaGreat.RegS
