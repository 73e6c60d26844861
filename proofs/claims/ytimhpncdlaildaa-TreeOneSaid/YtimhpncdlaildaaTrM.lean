/- Trees: All hands back an iterator that keeps the law of iterators. Condition: its blocks lie as they lay while a round goes on. -/
import Derived.Test.YtimhpncdlaildaaTrL
import Derived.RangeFuncFrom
import Derived.Laws.EntriesVeiled
namespace Go.Proofs.Ytimhpncdlaildaa
open Go.RowKit Go.Shelf
attribute [local go_sem] Oper.semAt_some

theorem frozen_cells {w : World} {b : Nat} {cs : Array Value} {t : TypeId} (h : w.heap[b]? = some (.cells cs t (0, 0))) (j : Nat) : w.frozen? ⟨b, j, none⟩ = false := by simp [World.frozen?, h]
set_option maxRecDepth 100000 in
set_option maxHeartbeats 1000000 in
theorem all1_in (n l Bt n₀ Bl : Nat) (T : Tr) (J Jx : List (ByteArray × ByteArray) → World → Prop) (B0 : Nat) (hJ : AbidesFrom B0 J)
    (hY : ∀ m pre x W, J pre W → pre.length < T.kvs.length → YieldAt Fence.wide m Try.prog l #[.string x.1, .string x.2] W fun e W' =>
      (e = .returned (.bool true) ∧ J (pre ++ [x]) W' ∧ KeepC n₀ Bl W W') ∨ (e = .returned (.bool false) ∧ Jx (pre ++ [x]) W'))
    (W : World) (hBl : Bl ≤ W.heap.size) (_ : n₀ ≤ W.heap.size) (hBt : W.cell? ⟨Bt, 0, none⟩ = some (.pointer T.ptr)) (hat : TreeAt W T) (hlo : T.Lo n₀) (h0 : J [] W) :
    CallsIn Fence.wide n Try.prog 74 #[.func (.yield l) #[] #[], .pointer (some ⟨Bt, 0, none⟩)] W fun e W' => (∃ v, e = .returned v) ∧
      ((∃ ys, ys = T.kvs ∧ J ys W') ∨ (∃ pre, pre <+: T.kvs ∧ Jx pre W')) := by
  have HY := Lib.hid hY; clear hY
  have Hat := Lib.hid hat; clear hat
  have Hlo := Lib.hid hlo; clear hlo
  have hJd : ∀ pre W, J pre W → J pre W.drew := fun pre W h => hJ pre W _ none h ⟨rfl, rfl, rfl, Nat.le_refl _, fun _ _ _ => rfl⟩ (fun r e => by cases e)
  obtain ⟨P, hP⟩ : ∃ P, T.ptr = P := ⟨_, rfl⟩
  rw [hP] at hBt
  have HP := Lib.hid hP; clear hP
  have hs1 : (W.alloc (.cells #[.func (.yield l) #[] #[]] 131)).heap.size = W.heap.size + 1 := by simp
  have hb3 : Below W.heap.size W ((W.alloc (.cells #[.func (.yield l) #[] #[]] 131)).alloc (.cells #[(.func (.func 75) #[] #[.pointer (some ⟨W.heap.size + 1, 0, none⟩), .pointer (some ⟨W.heap.size, 0, none⟩)])] 126)) := ((Below.refl _ _).alloc (Nat.le_refl _) _).alloc (by simp) _
  have hi3 : IterAt ((W.alloc (.cells #[.func (.yield l) #[] #[]] 131)).alloc (.cells #[(.func (.func 75) #[] #[.pointer (some ⟨W.heap.size + 1, 0, none⟩), .pointer (some ⟨W.heap.size, 0, none⟩)])] 126)) l W.heap.size (W.heap.size + 1) :=
    ⟨(Below.heap_alloc _ _ _ (by simp)).trans (heap_alloc_new W _), by
      have := heap_alloc_new (W.alloc (.cells #[.func (.yield l) #[] #[]] 131)) (.cells #[(.func (.func 75) #[] #[.pointer (some ⟨W.heap.size + 1, 0, none⟩), .pointer (some ⟨W.heap.size, 0, none⟩)])] 126)
      rwa [hs1] at this⟩
  have hc1 := hi3.cells.2
  have hc2 : ((W.alloc (.cells #[.func (.yield l) #[] #[]] 131)).alloc (.cells #[(.func (.func 75) #[] #[.pointer (some ⟨W.heap.size + 1, 0, none⟩), .pointer (some ⟨W.heap.size, 0, none⟩)])] 126)).cell? ⟨Bt, 0, none⟩ = some (.pointer P) := by
    have hlt : Bt < W.heap.size := by
      rcases Nat.lt_or_ge Bt W.heap.size with h | h
      · exact h
      · simp [World.cell?, Array.getElem?_eq_none h] at hBt
    exact (hb3.cell (p := ⟨Bt, 0, none⟩) hlt).trans hBt
  have hj3 : J [] ((W.alloc (.cells #[.func (.yield l) #[] #[]] 131)).alloc (.cells #[(.func (.func 75) #[] #[.pointer (some ⟨W.heap.size + 1, 0, none⟩), .pointer (some ⟨W.heap.size, 0, none⟩)])] 126)) := hJ _ _ _ none h0 ⟨hb3.os, hb3.tape, hb3.output, hb3.size, fun q hq _ => hb3.block q hq⟩ (fun r e => by cases e)
  have Hw := Lib.hid (allWalk_in l W.heap.size (W.heap.size + 1) n₀ Bl T.kvs.length hBl (by omega) J Jx hJd HY.out T (n - 1) [] _ (Hat.out.below hb3) Hlo.out hi3 hj3 (by simp))
  rw [HP.out] at Hw
  clear hb3 hi3 hj3 hs1
  refine callsIn_of_wp Try.func74 rfl trivial ?_ rfl
  simp only [Try.ntmps74, List.size_toArray, List.length_cons, List.length_nil, Nat.reduceAdd, Nat.reduceSub, Array.replicate_succ, Array.replicate_zero, List.push_toArray, List.append_toArray, List.nil_append, List.cons_append]
  gi_wp2_with (refine ⟨trivial, (fun h => (by cases h)), ?_⟩; refine Hw.out.mono ?_; rintro e W1 (⟨rfl, hJ1, _⟩ | ⟨rfl, q, hq, hx⟩))
  · go_end0
    exact ⟨⟨_, rfl⟩, .inl ⟨_, rfl, by simpa using hJ1⟩⟩
  · go_end0
    exact ⟨⟨_, rfl⟩, .inr ⟨q, hq, by simpa using hx⟩⟩

set_option maxHeartbeats 1000000 in
theorem all_in (n : Nat) (p0 : Option Addr) (w : World) :
    CallsIn Fence.wide n Try.prog 51 #[.pointer p0] w fun e w' => e = .returned (.func (.func 74) #[] #[.pointer (some ⟨w.heap.size, 0, none⟩)]) ∧ w' = w.alloc (.cells #[.pointer p0] 58) := by
  refine callsIn_of_wp Try.func51 rfl trivial ?_ rfl
  simp only [Try.ntmps51, List.size_toArray, List.length_cons, List.length_nil, Nat.reduceAdd, Nat.reduceSub, Array.replicate_succ, Array.replicate_zero, List.push_toArray, List.append_toArray, List.nil_append, List.cons_append]
  gi_wp2
  go_ret
  exact ⟨rfl, rfl⟩

theorem all_stops (n Bt n₀ Bl : Nat) (T : Tr) (w : World) (hBt : Bt < w.heap.size) (hBl : Bl ≤ w.heap.size) (hn₀ : n₀ ≤ w.heap.size) (hc : w.cell? ⟨Bt, 0, none⟩ = some (.pointer T.ptr)) (hat : TreeAt w T) (hlo : T.Lo n₀) :
    SeqStopsK Fence.wide n Try.prog 74 #[.pointer (some ⟨Bt, 0, none⟩)] (fun x : ByteArray × ByteArray => #[Value.string x.1, Value.string x.2]) (KeepC n₀ Bl) (fun ys => ys = T.kvs) (fun pre => pre <+: T.kvs) T.kvs.length w :=
  fun l J Jx W hW hJ _ hY h0 =>
    all1_in n l Bt n₀ Bl T J Jx _ hJ (fun m pre x W hj hl => yield_any rfl m (hY pre x W hj hl)) W (Nat.le_trans hBl hW.size) (Nat.le_trans hn₀ hW.size) ((hW.cell (p := ⟨Bt, 0, none⟩) hBt).trans hc) (hat.below hW) hlo h0
end Go.Proofs.Ytimhpncdlaildaa
