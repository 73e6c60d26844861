/- Trees: Diff hands back an iterator that keeps the law of iterators. Condition: its blocks lie as they lay while a round goes on. -/
import Derived.Test.YtimhpncdlaildaaTrY
import Derived.RangeFuncFrom
import Derived.Laws.EntriesVeiled
namespace Go.Proofs.Ytimhpncdlaildaa
open Go.RowKit Go.Shelf
attribute [local go_sem] Oper.semAt_some

set_option maxRecDepth 100000 in
set_option maxHeartbeats 1000000 in
theorem diff1G_in (G : Chg → Prop) (n l Ba Bb n₀ Bl : Nat) (A B : Tr) (J Jx : List Chg → World → Prop) (B0 : Nat) (hJ : AbidesFrom B0 J)
    (hY : ∀ m pre x W, J pre W → pre.length < (diffL A.kvs B.kvs).length → G x → YieldAt Fence.wide m Try.prog l #[.string x.key, chgV x] W fun e W' =>
      (e = .returned (.bool true) ∧ J (pre ++ [x]) W' ∧ KeepC n₀ Bl W W') ∨ (e = .returned (.bool false) ∧ Jx (pre ++ [x]) W'))
    (W : World) (hBl : Bl ≤ W.heap.size) (hn₀ : n₀ ≤ W.heap.size) (hBa : W.cell? ⟨Ba, 0, none⟩ = some (.pointer A.ptr)) (hBb : W.cell? ⟨Bb, 0, none⟩ = some (.pointer B.ptr))
    (hA : TreeAt W A) (hB : TreeAt W B) (hoA : A.Out n₀ Bl) (hoB : B.Out n₀ Bl) (haA : Asc A.kvs) (haB : Asc B.kvs) (hc : A.cnt + B.cnt ≤ 4611686018427387904) (h0 : J [] W) (hG : ∀ c ∈ diffL A.kvs B.kvs, G c) :
    CallsIn Fence.wide n Try.prog 66 #[.func (.yield l) #[] #[], .pointer (some ⟨Ba, 0, none⟩), .pointer (some ⟨Bb, 0, none⟩)] W fun e W' => (∃ v, e = .returned v) ∧
      ((∃ ys, ys = diffL A.kvs B.kvs ∧ J ys W') ∨ (∃ pre, pre <+: diffL A.kvs B.kvs ∧ Jx pre W')) := by
  have hJd : ∀ pre W W', J pre W → Below W.heap.size W W' → J pre W' := fun pre W W' h hb => hJ pre W W' none h ⟨hb.os, hb.tape, hb.output, hb.size, fun q hq _ => hb.block q hq⟩ (fun r e => by cases e)
  obtain ⟨PA, hPA⟩ : ∃ P, A.ptr = P := ⟨_, rfl⟩
  obtain ⟨PB, hPB⟩ : ∃ P, B.ptr = P := ⟨_, rfl⟩
  rw [hPA] at hBa
  rw [hPB] at hBb
  have hs1 : (W.alloc (.cells #[.func (.yield l) #[] #[]] 124)).heap.size = W.heap.size + 1 := by simp
  have hb3 : Below W.heap.size W ((W.alloc (.cells #[.func (.yield l) #[] #[]] 124)).alloc (.cells #[(.func (.func 67) #[] #[.pointer (some ⟨W.heap.size + 1, 0, none⟩), .pointer (some ⟨W.heap.size, 0, none⟩)])] 125)) := ((Below.refl _ _).alloc (Nat.le_refl _) _).alloc (by simp) _
  have hi3 : DIterAt ((W.alloc (.cells #[.func (.yield l) #[] #[]] 124)).alloc (.cells #[(.func (.func 67) #[] #[.pointer (some ⟨W.heap.size + 1, 0, none⟩), .pointer (some ⟨W.heap.size, 0, none⟩)])] 125)) l W.heap.size (W.heap.size + 1) :=
    ⟨(Below.heap_alloc _ _ _ (by simp)).trans (heap_alloc_new W _), by
      have := heap_alloc_new (W.alloc (.cells #[.func (.yield l) #[] #[]] 124)) (.cells #[(.func (.func 67) #[] #[.pointer (some ⟨W.heap.size + 1, 0, none⟩), .pointer (some ⟨W.heap.size, 0, none⟩)])] 125)
      rwa [hs1] at this⟩
  have hc1 := hi3.cells.2
  have hlt : ∀ {Bt : Nat} {v : Value}, W.cell? ⟨Bt, 0, none⟩ = some v → Bt < W.heap.size := fun {Bt v} h => by
    rcases Nat.lt_or_ge Bt W.heap.size with h1 | h1
    · exact h1
    · simp [World.cell?, Array.getElem?_eq_none h1] at h
  have hc2 := (hb3.cell (p := ⟨Ba, 0, none⟩) (hlt hBa)).trans hBa
  have hc3 := (hb3.cell (p := ⟨Bb, 0, none⟩) (hlt hBb)).trans hBb
  have hsz := hb3.size
  have Hw := Lib.hid (diffWalkG_any G l W.heap.size (W.heap.size + 1) n₀ Bl (diffL A.kvs B.kvs).length hBl (by omega) J Jx hJd hY _ A B [] _ (Nat.le_refl _) hc (hA.below hb3) (hB.below hb3) hoA hoB haA haB hi3 (Nat.le_trans hBl hsz) (Nat.le_trans hn₀ hsz) hG (hJd _ _ _ h0 hb3) (by simp))
  rw [hPA, hPB] at Hw
  clear hb3 hi3 hs1 hY hA hB hG hJ hJd h0 hBa hBb hlt hPA hPB
  refine callsIn_of_wp Try.func66 rfl trivial ?_ rfl
  simp only [Try.ntmps66, List.size_toArray, List.length_cons, List.length_nil, Nat.reduceAdd, Nat.reduceSub, Array.replicate_succ, Array.replicate_zero, List.push_toArray, List.append_toArray, List.nil_append, List.cons_append]
  gi_wp2_with (refine ⟨trivial, (fun h => (by cases h)), ?_⟩; refine (callsIn_wide.2 Hw.out).mono ?_; rintro e W1 (⟨rfl, hJ1, _⟩ | ⟨rfl, q, hq, hx⟩))
  · go_end0
    exact ⟨⟨_, rfl⟩, .inl ⟨_, rfl, by simpa using hJ1⟩⟩
  · go_end0
    exact ⟨⟨_, rfl⟩, .inr ⟨q, hq, by simpa using hx⟩⟩

theorem diff1_in (n l Ba Bb n₀ Bl : Nat) (A B : Tr) (J Jx : List Chg → World → Prop) (B0 : Nat) (hJ : AbidesFrom B0 J)
    (hY : ∀ m pre x W, J pre W → pre.length < (diffL A.kvs B.kvs).length → YieldAt Fence.wide m Try.prog l #[.string x.key, chgV x] W fun e W' =>
      (e = .returned (.bool true) ∧ J (pre ++ [x]) W' ∧ KeepC n₀ Bl W W') ∨ (e = .returned (.bool false) ∧ Jx (pre ++ [x]) W'))
    (W : World) (hBl : Bl ≤ W.heap.size) (hn₀ : n₀ ≤ W.heap.size) (hBa : W.cell? ⟨Ba, 0, none⟩ = some (.pointer A.ptr)) (hBb : W.cell? ⟨Bb, 0, none⟩ = some (.pointer B.ptr))
    (hA : TreeAt W A) (hB : TreeAt W B) (hoA : A.Out n₀ Bl) (hoB : B.Out n₀ Bl) (haA : Asc A.kvs) (haB : Asc B.kvs) (hc : A.cnt + B.cnt ≤ 4611686018427387904) (h0 : J [] W) :
    CallsIn Fence.wide n Try.prog 66 #[.func (.yield l) #[] #[], .pointer (some ⟨Ba, 0, none⟩), .pointer (some ⟨Bb, 0, none⟩)] W fun e W' => (∃ v, e = .returned v) ∧
      ((∃ ys, ys = diffL A.kvs B.kvs ∧ J ys W') ∨ (∃ pre, pre <+: diffL A.kvs B.kvs ∧ Jx pre W')) :=
  diff1G_in (fun _ => True) n l Ba Bb n₀ Bl A B J Jx B0 hJ (fun m pre x W h h' _ => hY m pre x W h h') W hBl hn₀ hBa hBb hA hB hoA hoB haA haB hc h0 (fun _ _ => trivial)

set_option maxHeartbeats 1000000 in
theorem diff_in (n : Nat) (pa pb : Option Addr) (w : World) :
    CallsIn Fence.wide n Try.prog 48 #[.pointer pa, .pointer pb] w fun e w' => e = .returned (.func (.func 66) #[] #[.pointer (some ⟨w.heap.size, 0, none⟩), .pointer (some ⟨w.heap.size + 1, 0, none⟩)]) ∧
      w' = (w.alloc (.cells #[.pointer pa] 58)).alloc (.cells #[.pointer pb] 58) := by
  refine callsIn_of_wp Try.func48 rfl trivial ?_ rfl
  simp only [Try.ntmps48, List.size_toArray, List.length_cons, List.length_nil, Nat.reduceAdd, Nat.reduceSub, Array.replicate_succ, Array.replicate_zero, List.push_toArray, List.append_toArray, List.nil_append, List.cons_append]
  gi_wp2
  go_ret
  exact ⟨rfl, rfl⟩

theorem diff_stops (n Ba Bb n₀ Bl : Nat) (A B : Tr) (w : World) (hBa : Ba < w.heap.size) (hBb : Bb < w.heap.size) (hBl : Bl ≤ w.heap.size) (hn₀ : n₀ ≤ w.heap.size) (hca : w.cell? ⟨Ba, 0, none⟩ = some (.pointer A.ptr)) (hcb : w.cell? ⟨Bb, 0, none⟩ = some (.pointer B.ptr))
    (hA : TreeAt w A) (hB : TreeAt w B) (hoA : A.Out n₀ Bl) (hoB : B.Out n₀ Bl) (haA : Asc A.kvs) (haB : Asc B.kvs) (hc : A.cnt + B.cnt ≤ 4611686018427387904) :
    SeqStopsK Fence.wide n Try.prog 66 #[.pointer (some ⟨Ba, 0, none⟩), .pointer (some ⟨Bb, 0, none⟩)] (fun x : Chg => #[Value.string x.key, chgV x]) (KeepC n₀ Bl) (fun ys => ys = diffL A.kvs B.kvs) (fun pre => pre <+: diffL A.kvs B.kvs) (diffL A.kvs B.kvs).length w :=
  fun l J Jx W hW hJ _ hY h0 =>
    diff1_in n l Ba Bb n₀ Bl A B J Jx _ hJ (fun m pre x W hj hl => yield_any rfl m (hY pre x W hj hl)) W (Nat.le_trans hBl hW.size) (Nat.le_trans hn₀ hW.size) ((hW.cell (p := ⟨Ba, 0, none⟩) hBa).trans hca) ((hW.cell (p := ⟨Bb, 0, none⟩) hBb).trans hcb)
      (hA.below hW) (hB.below hW) hoA hoB haA haB hc h0
theorem diff_stopsG (G : Chg → Prop) (n Ba Bb n₀ Bl : Nat) (A B : Tr) (w : World) (hBa : Ba < w.heap.size) (hBb : Bb < w.heap.size) (hBl : Bl ≤ w.heap.size) (hn₀ : n₀ ≤ w.heap.size) (hca : w.cell? ⟨Ba, 0, none⟩ = some (.pointer A.ptr)) (hcb : w.cell? ⟨Bb, 0, none⟩ = some (.pointer B.ptr))
    (hA : TreeAt w A) (hB : TreeAt w B) (hoA : A.Out n₀ Bl) (hoB : B.Out n₀ Bl) (haA : Asc A.kvs) (haB : Asc B.kvs) (hc : A.cnt + B.cnt ≤ 4611686018427387904) (hG : ∀ c ∈ diffL A.kvs B.kvs, G c) :
    SeqStopsK Fence.wide n Try.prog 66 #[.pointer (some ⟨Ba, 0, none⟩), .pointer (some ⟨Bb, 0, none⟩)] (fun x : {c : Chg // G c} => #[Value.string x.val.key, chgV x.val]) (KeepC n₀ Bl) (fun ys => ys.map (·.val) = diffL A.kvs B.kvs) (fun pre => pre.map (·.val) <+: diffL A.kvs B.kvs) (diffL A.kvs B.kvs).length w := by
  intro l J Jx W hW hJ _ hY h0
  refine (diff1G_in G n l Ba Bb n₀ Bl A B (fun p W => ∃ q : List {c : Chg // G c}, p = q.map (·.val) ∧ J q W) (fun p W => ∃ q : List {c : Chg // G c}, p = q.map (·.val) ∧ Jx q W) _
    (fun p W W' row h hg hr => by obtain ⟨q, rfl, h⟩ := h; exact ⟨q, rfl, hJ q W W' row h hg hr⟩)
    (fun m pre x W hj hl hx => yield_any rfl m (by
      obtain ⟨q, rfl, hq⟩ := hj
      obtain ⟨fn, tmps, assign, body, hy, hR⟩ := hY q ⟨x, hx⟩ W hq (by simpa using hl)
      refine ⟨fn, tmps, assign, body, hy, hR.mono ?_⟩
      rintro e W' (⟨rfl, h1, h2⟩ | ⟨rfl, h1⟩)
      · exact .inl ⟨rfl, ⟨q ++ [⟨x, hx⟩], by simp, h1⟩, h2⟩
      · exact .inr ⟨rfl, q ++ [⟨x, hx⟩], by simp, h1⟩)) W (Nat.le_trans hBl hW.size) (Nat.le_trans hn₀ hW.size) ((hW.cell (p := ⟨Ba, 0, none⟩) hBa).trans hca) ((hW.cell (p := ⟨Bb, 0, none⟩) hBb).trans hcb)
      (hA.below hW) (hB.below hW) hoA hoB haA haB hc ⟨[], rfl, h0⟩ hG).mono ?_
  rintro e W' ⟨h1, ⟨ys, hys, q, hq, h2⟩ | ⟨pre, hp, q, hq, h2⟩⟩
  · exact ⟨h1, .inl ⟨q, by show q.map (·.val) = _; rw [← hq]; exact hys, h2⟩⟩
  · exact ⟨h1, .inr ⟨q, by show q.map (·.val) <+: _; rw [← hq]; exact hp, h2⟩⟩
end Go.Proofs.Ytimhpncdlaildaa
