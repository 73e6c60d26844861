/- Trees: All, an iterator. Condition: its blocks lie as they lay while a round goes on. -/
import Derived.RangeFuncKeeps
import Derived.RangeFuncBound
import Derived.RangeFuncLeaves
import Derived.RangeFuncNested
import Derived.RangeFuncCalls
import Derived.Shelf.Abstract
import Derived.Shelf.RegionOpen
import Derived.OwnWalkIn
import Derived.TacticsInMore
import Derived.LoopNIn
import Derived.LoopIn
import Derived.Test.YtbckjgageofldaaGreatZLearnNil10
import Derived.Test.YtbckjgageofldaaGreatZLearnNil17
import Derived.RangeFuncFrom
import Derived.Laws.EntriesVeiled
import Derived.IntWalk
import Derived.Test.YtbckjgageofldaaGreatZLearnNil13
namespace Go.Proofs.YtbckjgageofldaaGreat
open Go.RowKit Go.Shelf
attribute [local go_sem] Oper.semAt_some
theorem room_none {F : Fence} (hd : F.depth = none) (k : Nat) : F.room k := fun d h => by rw [hd] at h; cases h
theorem round_any {F : Fence} (hd : F.depth = none) {m m' : Nat} {P : Program} {l : Nat} {f : FuncId} {tmps : Array Value} {assign body : Code} {w : World} {R : Ending → World → Prop}
  (h : RoundIn F m P l f tmps assign body w R) : RoundIn F m' P l f tmps assign body w R := ⟨h.1, fun c cs _ => h.2 c cs (room_none hd _)⟩
theorem yield_any {F : Fence} (hd : F.depth = none) {m : Nat} (m' : Nat) {P : Program} {l : Nat} {args : Array Value} {W : World} {R : Ending → World → Prop} (h : YieldAt F m P l args W R) : YieldAt F m' P l args W R := by
 obtain ⟨fn, tmps, assign, body, hy, hR⟩ := h
 exact ⟨fn, tmps, assign, body, hy, round_any hd hR⟩
def KeepC (n₀ Bl : Nat) (W W' : World) : Prop := Below n₀ W W' ∧ ∀ q cs t f, Bl ≤ q → W.heap[q]? = some (.cells cs t f) → W'.heap[q]? = some (.cells cs t f)
theorem KeepC.refl (n₀ Bl : Nat) (W : World) : KeepC n₀ Bl W W := ⟨Below.refl _ _, fun _ _ _ _ _ h => h⟩
theorem KeepC.trans {n₀ Bl : Nat} {A B C : World} (h : KeepC n₀ Bl A B) (k : KeepC n₀ Bl B C) : KeepC n₀ Bl A C := ⟨h.1.trans k.1, fun q cs t f hq e => k.2 q cs t f hq (h.2 q cs t f hq e)⟩
theorem KeepC.of_below {n₀ Bl : Nat} {W W' : World} (h : Below W.heap.size W W') (hn : n₀ ≤ W.heap.size) : KeepC n₀ Bl W W' :=
 ⟨h.mono hn, fun q _ _ _ _ e => (h.block q (Array.getElem?_eq_some_iff.1 e).1).trans e⟩
theorem keepC_b {n₀ Bl : Nat} {w : World} (hn : n₀ ≤ w.heap.size) (W : World) (l : Nat) (o o' : Obj) (hl : w.heap.size ≤ l) (h : W.heap[l]? = some o) (hc : o.isCells = false) (hk : o.isWalk = false) : KeepC n₀ Bl W (W.putObj l o') :=
 ⟨belowK_b hn W l o o' hl h hc hk, fun q cs t f _ e => by
  have hne : q ≠ l := fun e' => by
   subst e'
   rw [e] at h
   cases h
   cases hc
  exact ((grownBy_putObj' W l o').block q (Array.getElem?_eq_some_iff.1 e).1 (fun e' => hne (by cases e'; rfl))).trans e⟩
structure IterAt (W : World) (l Y Wk : Nat) : Prop where
 y : W.heap[Y]? = some (.cells #[.func (.yield l) #[] #[]] 196 (0, 0))
 k : W.heap[Wk]? = some (.cells #[.func (.func 109) #[] #[.pointer (some ⟨Wk, 0, none⟩), .pointer (some ⟨Y, 0, none⟩)]] 197 (0, 0))
theorem IterAt.keep {n₀ Bl : Nat} {W W' : World} {l Y Wk : Nat} (h : IterAt W l Y Wk) (hk : KeepC n₀ Bl W W') (hY : Bl ≤ Y) (hW : Bl ≤ Wk) : IterAt W' l Y Wk := ⟨hk.2 _ _ _ _ hY h.y, hk.2 _ _ _ _ hW h.k⟩
theorem IterAt.cells {W : World} {l Y Wk : Nat} (h : IterAt W l Y Wk) : W.cell? ⟨Y, 0, none⟩ = some (.func (.yield l) #[] #[]) ∧ W.cell? ⟨Wk, 0, none⟩ = some (.func (.func 109) #[] #[.pointer (some ⟨Wk, 0, none⟩), .pointer (some ⟨Y, 0, none⟩)]) :=
 ⟨cell_of_row _ _ _ _ _ _ h.y, cell_of_row _ _ _ _ _ _ h.k⟩
def Tr.kvs (T : Tr) : List (ByteArray × ByteArray) := T.sh.kv
theorem TreeAt.keepC {n₀ Bl : Nat} {W W' : World} {T : Tr} (h : TreeAt W T) (hk : KeepC n₀ Bl W W') (hlo : T.Lo n₀) : TreeAt W' T := h.keep hlo (fun q hq => hk.1.block q hq)
set_option maxRecDepth 100000 in
set_option maxHeartbeats 2000000 in
theorem allWalkG_in (G : ByteArray × ByteArray → Prop) (l Y Wk n₀ Bl N : Nat) (hYB : Bl ≤ Y) (hWB : Bl ≤ Wk) (J Jx : List (ByteArray × ByteArray) → World → Prop) (hJd : ∀ pre W, J pre W → J pre W.drew)
  (hY : ∀ m pre x W, J pre W → pre.length < N → G x → YieldAt Fence.wide m Tryz.prog l #[.string x.1, .string x.2] W fun e W' =>
   (e = .returned (.bool true) ∧ J (pre ++ [x]) W' ∧ KeepC n₀ Bl W W') ∨ (e = .returned (.bool false) ∧ Jx (pre ++ [x]) W')) (T : Tr) :
  ∀ (n : Nat) (pre : List (ByteArray × ByteArray)) (W : World), TreeAt W T → T.Lo n₀ → IterAt W l Y Wk → J pre W → pre.length + T.kvs.length ≤ N → (∀ p ∈ T.kvs, G p) →
   CallsIn Fence.wide n Tryz.prog 109 #[.pointer T.ptr, .pointer (some ⟨Wk, 0, none⟩), .pointer (some ⟨Y, 0, none⟩)] W fun e W' =>
    (e = .returned (.bool true) ∧ J (pre ++ T.kvs) W' ∧ KeepC n₀ Bl W W') ∨ (e = .returned (.bool false) ∧ ∃ q, q <+: T.kvs ∧ Jx (pre ++ q) W') := by
 induction T with
 | nil =>
  intro n pre W hat hlo hit hJ hN _
  change CallsIn _ _ _ _ #[.pointer none, .pointer (some ⟨Wk, 0, none⟩), .pointer (some ⟨Y, 0, none⟩)] W _
  refine callsIn_of_wp Tryz.func109 rfl trivial ?_ rfl
  simp only [Tryz.ntmps109, List.size_toArray, List.length_cons, List.length_nil, Nat.reduceAdd, Nat.reduceSub, Array.replicate_succ, Array.replicate_zero, List.push_toArray, List.append_toArray, List.nil_append, List.cons_append]
  gi_wp2
  refine RegIn.wpIn_region_can (fun _ => True) [(0, 0), (1, 0), (2, 0), (3, 0), (4, 0), (5, 0), (6, 0), (7, 0), (8, 2), (9, 0), (10, 0), (11, 0), (12, 0), (13, 0), (14, 0), (15, 0), (16, 0), (17, 0), (18, 0), (19, 2), (20, 0), (21, 0), (22, 0), (23, 0), (24, 0), (25, 0), (26, 0), (27, 2), (28, 0), (29, 0), (30, 0)] rfl (by kernel_rfl) (by kernel_rfl) (fun _ _ d _ _ h => by cases d <;> exact h) trivial ?_
  dsimp only [RegIn.pick, List.getElem?_cons_zero, List.getElem?_cons_succ]
  have hj1 := hJd _ _ hJ
  have hk1 : KeepC n₀ Bl W W.drew := ⟨⟨rfl, rfl, rfl, Nat.le_refl _, fun _ _ => rfl⟩, fun _ _ _ _ _ h => h⟩
  change RegIn.Can _ _ _ _ _ _ _ _ W.drew
  generalize W.drew = W1 at *
  iterate 8 (refine RegIn.can_reads ?_; intro K hK; go_simp; (first | (refine ⟨_, fun _ _ => rfl, hK _ ?_⟩) | (refine hK _ ?_)); clear hK K)
  refine RegIn.can_frees ?_
  intro K K0 hK hK0
  go_simp
  refine hK0 _ ?_
  clear hK hK0 K K0
  iterate 10 (refine RegIn.can_reads ?_; intro K hK; go_simp; (first | (refine ⟨_, fun _ _ => rfl, hK _ ?_⟩) | (refine hK _ ?_)); clear hK K)
  refine RegIn.can_frees ?_
  intro K K0 hK hK0
  go_simp
  refine hK0 _ ?_
  clear hK hK0 K K0
  iterate 7 (refine RegIn.can_reads ?_; intro K hK; go_simp; (first | (refine ⟨_, fun _ _ => rfl, hK _ ?_⟩) | (refine hK _ ?_)); clear hK K)
  refine RegIn.can_frees ?_
  intro K K0 hK hK0
  go_simp
  refine hK0 _ ?_
  clear hK hK0 K K0
  iterate 3 (refine RegIn.can_reads ?_; intro K hK; go_simp; (first | (refine ⟨_, fun _ _ => rfl, hK _ ?_⟩) | (refine hK _ ?_)); clear hK K)
  refine RegIn.can_nil ?_
  gi_wp2
  go_ret
  exact .inl ⟨rfl, by simpa [Tr.kvs, Tr.sh, Sh.kv] using hj1, hk1⟩
 | node b k v wt tl tr ihl ihr =>
  intro n pre W hat hlo hit hJ hN hG
  have hkv : (Tr.node b k v wt tl tr).kvs = tl.kvs ++ (k, v) :: tr.kvs := rfl
  rw [hkv] at hN hG ⊢
  have HG := Lib.hid hG; clear hG
  simp only [List.length_append, List.length_cons] at hN
  have Hat := Lib.hid hat; clear hat
  have Hlo := Lib.hid hlo; clear hlo
  have Hit := Lib.hid hit; clear hit
  have HY := Lib.hid hY; clear hY
  have Hl := Lib.hid ihl; clear ihl
  have Hr := Lib.hid ihr; clear ihr
  have HJ := Lib.hid hJ; clear hJ
  have HJd := Lib.hid hJd; clear hJd
  have hk0 : KeepC n₀ Bl W W.drew := ⟨⟨rfl, rfl, rfl, Nat.le_refl _, fun _ _ => rfl⟩, fun _ _ _ _ _ h => h⟩
  have Hk0 := Lib.hid hk0; clear hk0
  change CallsIn _ _ _ _ #[.pointer (some ⟨b, 0, none⟩), .pointer (some ⟨Wk, 0, none⟩), .pointer (some ⟨Y, 0, none⟩)] W _
  refine callsIn_of_wp Tryz.func109 rfl trivial ?_ rfl
  simp only [Tryz.ntmps109, List.size_toArray, List.length_cons, List.length_nil, Nat.reduceAdd, Nat.reduceSub, Array.replicate_succ, Array.replicate_zero, List.push_toArray, List.append_toArray, List.nil_append, List.cons_append]
  gi_wp2
  refine RegIn.wpIn_region_can (KeepC n₀ Bl W) [(0, 0), (1, 0), (2, 0), (3, 0), (4, 0), (5, 0), (6, 0), (7, 0), (8, 2), (9, 0), (10, 0), (11, 0), (12, 0), (13, 0), (14, 0), (15, 0), (16, 0), (17, 0), (18, 0), (19, 2), (20, 0), (21, 0), (22, 0), (23, 0), (24, 0), (25, 0), (26, 0), (27, 2), (28, 0), (29, 0), (30, 0)] rfl (by kernel_rfl) (by kernel_rfl) (fun _ _ d _ _ h => by cases d <;> exact h) Hk0.out ?_
  dsimp only [RegIn.pick, List.getElem?_cons_zero, List.getElem?_cons_succ]
  have hj1 := HJd.out _ _ HJ.out
  have hk1 := Hk0.out
  change RegIn.Can _ _ _ _ _ _ _ _ W.drew
  clear Hk0
  generalize W.drew = W0 at *
  have Hj1 := Lib.hid hj1; clear hj1
  have Hk1 := Lib.hid hk1; clear hk1
  iterate 3 (refine RegIn.can_reads ?_; intro K hK; go_simp; (first | (refine ⟨_, fun _ _ => rfl, hK _ ?_⟩) | (refine hK _ ?_)); clear hK K)
  refine RegIn.can_reads ?_
  intro K hK
  go_simp
  refine ⟨.func (.func 109) #[] #[.pointer (some ⟨Wk, 0, none⟩), .pointer (some ⟨Y, 0, none⟩)], fun y hy => ?_, hK _ ?_⟩
  ·
   have f0 := (Hit.out.keep hy hYB hWB).cells.2
   go_simp
  clear hK K
  iterate 3 (refine RegIn.can_reads ?_; intro K hK; go_simp; (first | (refine ⟨_, fun _ _ => rfl, hK _ ?_⟩) | (refine hK _ ?_)); clear hK K)
  refine RegIn.can_reads ?_
  intro K hK
  go_simp
  refine ⟨.pointer tl.ptr, fun y hy => ?_, hK _ ?_⟩
  ·
   obtain ⟨f0, f1, f2, f3, f4, f5, f6⟩ := (show NodeAt y b k v wt tl.ptr tr.ptr _ _ from (Hat.out.keepC hy Hlo.out).1).cells
   clear f2 f5 f6
   go_simp
  clear hK K
  refine RegIn.can_frees ?_
  intro K K0 hK hK0
  go_simp
  refine ⟨trivial, (fun h => (by cases h)), ?_⟩
  refine (Hl.out (n - 1) pre W0 (Hat.out.2.1.keepC Hk1.out Hlo.out.2.1) Hlo.out.2.1 (Hit.out.keep Hk1.out hYB hWB) Hj1.out (by omega) (fun p hp => HG.out p (List.mem_append_left _ hp))).mono ?_
  rintro e W1 (⟨rfl, hJ1, hk2⟩ | ⟨rfl, q, hq, hx1⟩)
  ·
   have Hk2 := Lib.hid (Hk1.out.trans hk2); clear hk2
   have hy1 := HY.out (n - 1) (pre ++ tl.kvs) (k, v) W1 hJ1 (by simp; omega) (HG.out _ (List.mem_append_right _ (List.mem_cons_self ..)))
   obtain ⟨fn, tmps, assign, body, hy, hR⟩ := hy1
   dsimp only at hy
   have HR := Lib.hid hR; clear hR hJ1
   refine hK (KeepC n₀ Bl W) _ _ Hk2.out ?_
   clear hK hK0 K K0
   iterate 1 (refine RegIn.can_reads ?_; intro K hK; go_simp; (first | (refine ⟨_, fun _ _ => rfl, hK _ ?_⟩) | (refine hK _ ?_)); clear hK K)
   refine RegIn.can_reads ?_
   intro K hK
   go_simp
   refine ⟨.func (.yield l) #[] #[], fun y hy => ?_, hK _ ?_⟩
   ·
    have f0 := (Hit.out.keep hy hYB hWB).cells.1
    go_simp
   clear hK K
   iterate 3 (refine RegIn.can_reads ?_; intro K hK; go_simp; (first | (refine ⟨_, fun _ _ => rfl, hK _ ?_⟩) | (refine hK _ ?_)); clear hK K)
   refine RegIn.can_reads ?_
   intro K hK
   go_simp
   refine ⟨.string k, fun y hy => ?_, hK _ ?_⟩
   ·
    obtain ⟨f0, f1, f2, f3, f4, f5, f6⟩ := (show NodeAt y b k v wt tl.ptr tr.ptr _ _ from (Hat.out.keepC hy Hlo.out).1).cells
    clear f2 f5 f6
    go_simp
   clear hK K
   iterate 3 (refine RegIn.can_reads ?_; intro K hK; go_simp; (first | (refine ⟨_, fun _ _ => rfl, hK _ ?_⟩) | (refine hK _ ?_)); clear hK K)
   refine RegIn.can_reads ?_
   intro K hK
   go_simp
   refine ⟨.string v, fun y hy => ?_, hK _ ?_⟩
   ·
    obtain ⟨f0, f1, f2, f3, f4, f5, f6⟩ := (show NodeAt y b k v wt tl.ptr tr.ptr _ _ from (Hat.out.keepC hy Hlo.out).1).cells
    clear f2 f5 f6
    go_simp
   clear hK K
   refine RegIn.can_frees ?_
   intro K K0 hK hK0
   go_simp
   refine ⟨(fun h => (by cases h)), ?_⟩
   refine HR.out.mono ?_
   rintro e W2 (⟨rfl, hJ2, hk3⟩ | ⟨rfl, hx2⟩)
   ·
    have Hk3 := Lib.hid (Hk2.out.trans hk3); clear hk3
    have Hj2 := Lib.hid hJ2; clear hJ2 HR hy
    refine hK (KeepC n₀ Bl W) _ _ Hk3.out ?_
    clear hK hK0 K K0
    iterate 2 (refine RegIn.can_reads ?_; intro K hK; go_simp; (first | (refine ⟨_, fun _ _ => rfl, hK _ ?_⟩) | (refine hK _ ?_)); clear hK K)
    refine RegIn.can_reads ?_
    intro K hK
    go_simp
    refine ⟨.func (.func 109) #[] #[.pointer (some ⟨Wk, 0, none⟩), .pointer (some ⟨Y, 0, none⟩)], fun y hy => ?_, hK _ ?_⟩
    ·
     have f0 := (Hit.out.keep hy hYB hWB).cells.2
     go_simp
    clear hK K
    iterate 3 (refine RegIn.can_reads ?_; intro K hK; go_simp; (first | (refine ⟨_, fun _ _ => rfl, hK _ ?_⟩) | (refine hK _ ?_)); clear hK K)
    refine RegIn.can_reads ?_
    intro K hK
    go_simp
    refine ⟨.pointer tr.ptr, fun y hy => ?_, hK _ ?_⟩
    ·
     obtain ⟨f0, f1, f2, f3, f4, f5, f6⟩ := (show NodeAt y b k v wt tl.ptr tr.ptr _ _ from (Hat.out.keepC hy Hlo.out).1).cells
     clear f2 f5 f6
     go_simp
    clear hK K
    refine RegIn.can_frees ?_
    intro K K0 hK hK0
    go_simp
    refine ⟨trivial, (fun h => (by cases h)), ?_⟩
    refine (Hr.out (n - 1) (pre ++ tl.kvs ++ [(k, v)]) W2 (Hat.out.2.2.keepC Hk3.out Hlo.out.2.2) Hlo.out.2.2 (Hit.out.keep Hk3.out hYB hWB) Hj2.out (by simp; omega) (fun p hp => HG.out p (List.mem_append_right _ (List.mem_cons_of_mem _ hp)))).mono ?_
    rintro e W3 (⟨rfl, hJ3, hk4⟩ | ⟨rfl, q, hq, hx3⟩)
    ·
     have Hj3 := Lib.hid hJ3; clear hJ3
     have Hk4 := Lib.hid (Hk3.out.trans hk4); clear hk4
     refine hK (fun _ => True) _ _ trivial ?_
     clear hK hK0 K K0
     iterate 3 (refine RegIn.can_reads ?_; intro K hK; go_simp; (first | (refine ⟨_, fun _ _ => rfl, hK _ ?_⟩) | (refine hK _ ?_)); clear hK K)
     refine RegIn.can_nil ?_
     gi_wp2
     go_ret
     exact .inl ⟨rfl, by simpa [List.append_assoc] using Hj3.out, Hk4.out⟩
    ·
     have Hx3 := Lib.hid hx3; clear hx3
     refine hK (fun _ => True) _ _ trivial ?_
     clear hK hK0 K K0
     iterate 3 (refine RegIn.can_reads ?_; intro K hK; go_simp; (first | (refine ⟨_, fun _ _ => rfl, hK _ ?_⟩) | (refine hK _ ?_)); clear hK K)
     refine RegIn.can_nil ?_
     gi_wp2
     go_ret
     exact .inr ⟨rfl, tl.kvs ++ (k, v) :: q, (by obtain ⟨r, hr⟩ := hq; exact ⟨r, by rw [← hr]; simp⟩), by simpa [List.append_assoc] using Hx3.out⟩
   ·
    have Hx2 := Lib.hid hx2; clear hx2 HR hy
    refine hK (fun _ => True) _ _ trivial ?_
    clear hK hK0 K K0
    iterate 7 (refine RegIn.can_reads ?_; intro K hK; go_simp; (first | (refine ⟨_, fun _ _ => rfl, hK _ ?_⟩) | (refine hK _ ?_)); clear hK K)
    refine RegIn.can_frees ?_
    intro K K0 hK hK0
    go_simp
    refine hK0 _ ?_
    clear hK hK0 K K0
    iterate 3 (refine RegIn.can_reads ?_; intro K hK; go_simp; (first | (refine ⟨_, fun _ _ => rfl, hK _ ?_⟩) | (refine hK _ ?_)); clear hK K)
    refine RegIn.can_nil ?_
    gi_wp2
    go_ret
    exact .inr ⟨rfl, tl.kvs ++ [(k, v)], ⟨tr.kvs, by simp⟩, by simpa [List.append_assoc] using Hx2.out⟩
  ·
   have Hx1 := Lib.hid hx1; clear hx1
   refine hK (fun _ => True) _ _ trivial ?_
   clear hK hK0 K K0
   iterate 10 (refine RegIn.can_reads ?_; intro K hK; go_simp; (first | (refine ⟨_, fun _ _ => rfl, hK _ ?_⟩) | (refine hK _ ?_)); clear hK K)
   refine RegIn.can_frees ?_
   intro K K0 hK hK0
   go_simp
   refine hK0 _ ?_
   clear hK hK0 K K0
   iterate 7 (refine RegIn.can_reads ?_; intro K hK; go_simp; (first | (refine ⟨_, fun _ _ => rfl, hK _ ?_⟩) | (refine hK _ ?_)); clear hK K)
   refine RegIn.can_frees ?_
   intro K K0 hK hK0
   go_simp
   refine hK0 _ ?_
   clear hK hK0 K K0
   iterate 3 (refine RegIn.can_reads ?_; intro K hK; go_simp; (first | (refine ⟨_, fun _ _ => rfl, hK _ ?_⟩) | (refine hK _ ?_)); clear hK K)
   refine RegIn.can_nil ?_
   gi_wp2
   go_ret
   exact .inr ⟨rfl, q, hq.trans (by simp), Hx1.out⟩
end Go.Proofs.YtbckjgageofldaaGreat
namespace Go.Proofs.YtbckjgageofldaaGreat
open Go.RowKit Go.Shelf
attribute [local go_sem] Oper.semAt_some
theorem frozen_cells {w : World} {b : Nat} {cs : Array Value} {t : TypeId} (h : w.heap[b]? = some (.cells cs t (0, 0))) (j : Nat) : w.frozen? ⟨b, j, none⟩ = false := by simp [World.frozen?, h]
set_option maxRecDepth 100000 in
set_option maxHeartbeats 1000000 in
theorem all1G_in (G : ByteArray × ByteArray → Prop) (n l Bt n₀ Bl : Nat) (T : Tr) (J Jx : List (ByteArray × ByteArray) → World → Prop) (B0 : Nat) (hJ : AbidesFrom B0 J)
  (hY : ∀ m pre x W, J pre W → pre.length < T.kvs.length → G x → YieldAt Fence.wide m Tryz.prog l #[.string x.1, .string x.2] W fun e W' =>
   (e = .returned (.bool true) ∧ J (pre ++ [x]) W' ∧ KeepC n₀ Bl W W') ∨ (e = .returned (.bool false) ∧ Jx (pre ++ [x]) W'))
  (W : World) (hBl : Bl ≤ W.heap.size) (_ : n₀ ≤ W.heap.size) (hBt : W.cell? ⟨Bt, 0, none⟩ = some (.pointer T.ptr)) (hat : TreeAt W T) (hlo : T.Lo n₀) (h0 : J [] W) (hG : ∀ p ∈ T.kvs, G p) :
  CallsIn Fence.wide n Tryz.prog 108 #[.func (.yield l) #[] #[], .pointer (some ⟨Bt, 0, none⟩)] W fun e W' => (∃ v, e = .returned v) ∧
   ((∃ ys, ys = T.kvs ∧ J ys W') ∨ (∃ pre, pre <+: T.kvs ∧ Jx pre W')) := by
 have HY := Lib.hid hY; clear hY
 have Hat := Lib.hid hat; clear hat
 have Hlo := Lib.hid hlo; clear hlo
 have hJd : ∀ pre W, J pre W → J pre W.drew := fun pre W h => hJ pre W _ none h ⟨rfl, rfl, rfl, Nat.le_refl _, fun _ _ _ => rfl⟩ (fun r e => by cases e)
 obtain ⟨P, hP⟩ : ∃ P, T.ptr = P := ⟨_, rfl⟩
 rw [hP] at hBt
 have HP := Lib.hid hP; clear hP
 have hs1 : (W.alloc (.cells #[.func (.yield l) #[] #[]] 196)).heap.size = W.heap.size + 1 := by simp
 have hb3 : Below W.heap.size W ((W.alloc (.cells #[.func (.yield l) #[] #[]] 196)).alloc (.cells #[(.func (.func 109) #[] #[.pointer (some ⟨W.heap.size + 1, 0, none⟩), .pointer (some ⟨W.heap.size, 0, none⟩)])] 197)) := ((Below.refl _ _).alloc (Nat.le_refl _) _).alloc (by simp) _
 have hi3 : IterAt ((W.alloc (.cells #[.func (.yield l) #[] #[]] 196)).alloc (.cells #[(.func (.func 109) #[] #[.pointer (some ⟨W.heap.size + 1, 0, none⟩), .pointer (some ⟨W.heap.size, 0, none⟩)])] 197)) l W.heap.size (W.heap.size + 1) :=
  ⟨(Below.heap_alloc _ _ _ (by simp)).trans (heap_alloc_new W _), by
   have := heap_alloc_new (W.alloc (.cells #[.func (.yield l) #[] #[]] 196)) (.cells #[(.func (.func 109) #[] #[.pointer (some ⟨W.heap.size + 1, 0, none⟩), .pointer (some ⟨W.heap.size, 0, none⟩)])] 197)
   rwa [hs1] at this⟩
 have hc1 := hi3.cells.2
 have hc2 : ((W.alloc (.cells #[.func (.yield l) #[] #[]] 196)).alloc (.cells #[(.func (.func 109) #[] #[.pointer (some ⟨W.heap.size + 1, 0, none⟩), .pointer (some ⟨W.heap.size, 0, none⟩)])] 197)).cell? ⟨Bt, 0, none⟩ = some (.pointer P) := by
  have hlt : Bt < W.heap.size := by
   rcases Nat.lt_or_ge Bt W.heap.size with h | h
   ·
    exact h
   ·
    simp [World.cell?, Array.getElem?_eq_none h] at hBt
  exact (hb3.cell (p := ⟨Bt, 0, none⟩) hlt).trans hBt
 have hj3 : J [] ((W.alloc (.cells #[.func (.yield l) #[] #[]] 196)).alloc (.cells #[(.func (.func 109) #[] #[.pointer (some ⟨W.heap.size + 1, 0, none⟩), .pointer (some ⟨W.heap.size, 0, none⟩)])] 197)) := hJ _ _ _ none h0 ⟨hb3.os, hb3.tape, hb3.output, hb3.size, fun q hq _ => hb3.block q hq⟩ (fun r e => by cases e)
 have Hw := Lib.hid (allWalkG_in G l W.heap.size (W.heap.size + 1) n₀ Bl T.kvs.length hBl (by omega) J Jx hJd HY.out T (n - 1) [] _ (Hat.out.below hb3) Hlo.out hi3 hj3 (by simp) hG)
 rw [HP.out] at Hw
 clear hb3 hi3 hj3 hs1
 refine callsIn_of_wp Tryz.func108 rfl trivial ?_ rfl
 simp only [Tryz.ntmps108, List.size_toArray, List.length_cons, List.length_nil, Nat.reduceAdd, Nat.reduceSub, Array.replicate_succ, Array.replicate_zero, List.push_toArray, List.append_toArray, List.nil_append, List.cons_append]
 gi_wp2_with (refine ⟨trivial, (fun h => (by cases h)), ?_⟩; refine Hw.out.mono ?_; rintro e W1 (⟨rfl, hJ1, _⟩ | ⟨rfl, q, hq, hx⟩))
 ·
  go_end0
  exact ⟨⟨_, rfl⟩, .inl ⟨_, rfl, by simpa using hJ1⟩⟩
 ·
  go_end0
  exact ⟨⟨_, rfl⟩, .inr ⟨q, hq, by simpa using hx⟩⟩
theorem all1_in (n l Bt n₀ Bl : Nat) (T : Tr) (J Jx : List (ByteArray × ByteArray) → World → Prop) (B0 : Nat) (hJ : AbidesFrom B0 J)
  (hY : ∀ m pre x W, J pre W → pre.length < T.kvs.length → YieldAt Fence.wide m Tryz.prog l #[.string x.1, .string x.2] W fun e W' =>
   (e = .returned (.bool true) ∧ J (pre ++ [x]) W' ∧ KeepC n₀ Bl W W') ∨ (e = .returned (.bool false) ∧ Jx (pre ++ [x]) W'))
  (W : World) (hBl : Bl ≤ W.heap.size) (hn : n₀ ≤ W.heap.size) (hBt : W.cell? ⟨Bt, 0, none⟩ = some (.pointer T.ptr)) (hat : TreeAt W T) (hlo : T.Lo n₀) (h0 : J [] W) :
  CallsIn Fence.wide n Tryz.prog 108 #[.func (.yield l) #[] #[], .pointer (some ⟨Bt, 0, none⟩)] W fun e W' => (∃ v, e = .returned v) ∧
   ((∃ ys, ys = T.kvs ∧ J ys W') ∨ (∃ pre, pre <+: T.kvs ∧ Jx pre W')) :=
 all1G_in (fun _ => True) n l Bt n₀ Bl T J Jx B0 hJ (fun m pre x W h1 h2 _ => hY m pre x W h1 h2) W hBl hn hBt hat hlo h0 (fun _ _ => trivial)
set_option maxHeartbeats 1000000 in
theorem all_in (n : Nat) (p0 : Option Addr) (w : World) :
  CallsIn Fence.wide n Tryz.prog 55 #[.pointer p0] w fun e w' => e = .returned (.func (.func 108) #[] #[.pointer (some ⟨w.heap.size, 0, none⟩)]) ∧ w' = w.alloc (.cells #[.pointer p0] 32) := by
 refine callsIn_of_wp Tryz.func55 rfl trivial ?_ rfl
 simp only [Tryz.ntmps55, List.size_toArray, List.length_cons, List.length_nil, Nat.reduceAdd, Nat.reduceSub, Array.replicate_succ, Array.replicate_zero, List.push_toArray, List.append_toArray, List.nil_append, List.cons_append]
 gi_wp2
 go_ret
 exact ⟨rfl, rfl⟩
theorem all_stops (n Bt n₀ Bl : Nat) (T : Tr) (w : World) (hBt : Bt < w.heap.size) (hBl : Bl ≤ w.heap.size) (hn₀ : n₀ ≤ w.heap.size) (hc : w.cell? ⟨Bt, 0, none⟩ = some (.pointer T.ptr)) (hat : TreeAt w T) (hlo : T.Lo n₀) :
  SeqStopsK Fence.wide n Tryz.prog 108 #[.pointer (some ⟨Bt, 0, none⟩)] (fun x : ByteArray × ByteArray => #[Value.string x.1, Value.string x.2]) (KeepC n₀ Bl) (fun ys => ys = T.kvs) (fun pre => pre <+: T.kvs) T.kvs.length w :=
 fun l J Jx W hW hJ _ hY h0 =>
  all1_in n l Bt n₀ Bl T J Jx _ hJ (fun m pre x W hj hl => yield_any rfl m (hY pre x W hj hl)) W (Nat.le_trans hBl hW.size) (Nat.le_trans hn₀ hW.size) ((hW.cell (p := ⟨Bt, 0, none⟩) hBt).trans hc) (hat.below hW) hlo h0
theorem all_stopsG (G : ByteArray × ByteArray → Prop) (n Bt n₀ Bl : Nat) (T : Tr) (w : World) (hBt : Bt < w.heap.size) (hBl : Bl ≤ w.heap.size) (hn₀ : n₀ ≤ w.heap.size) (hc : w.cell? ⟨Bt, 0, none⟩ = some (.pointer T.ptr)) (hat : TreeAt w T) (hlo : T.Lo n₀) (hG : ∀ p ∈ T.kvs, G p) :
  SeqStopsK Fence.wide n Tryz.prog 108 #[.pointer (some ⟨Bt, 0, none⟩)] (fun x : {p : ByteArray × ByteArray // G p} => #[Value.string x.val.1, Value.string x.val.2]) (KeepC n₀ Bl) (fun ys => ys.map (·.val) = T.kvs) (fun pre => pre.map (·.val) <+: T.kvs) T.kvs.length w := by
 intro l J Jx W hW hJ _ hY h0
 refine (all1G_in G n l Bt n₀ Bl T (fun p W => ∃ q : List {p : ByteArray × ByteArray // G p}, p = q.map (·.val) ∧ J q W) (fun p W => ∃ q : List {p : ByteArray × ByteArray // G p}, p = q.map (·.val) ∧ Jx q W) _
  (fun p W W' row h hg hr => by obtain ⟨q, rfl, h⟩ := h; exact ⟨q, rfl, hJ q W W' row h hg hr⟩)
  (fun m pre x W hj hl hx => yield_any rfl m (by
   obtain ⟨q, rfl, hj⟩ := hj
   exact (hY q ⟨x, hx⟩ W hj (by simpa using hl)).mono fun e W' he => by
    rcases he with ⟨h1, h2, h3⟩ | ⟨h1, h2⟩
    ·
     exact .inl ⟨h1, ⟨q ++ [⟨x, hx⟩], by simp, h2⟩, h3⟩
    ·
     exact .inr ⟨h1, ⟨q ++ [⟨x, hx⟩], by simp, h2⟩⟩)) W (Nat.le_trans hBl hW.size) (Nat.le_trans hn₀ hW.size) ((hW.cell (p := ⟨Bt, 0, none⟩) hBt).trans hc) (hat.below hW) hlo ⟨[], rfl, h0⟩ hG).mono ?_
 rintro e W' ⟨h1, h2⟩
 refine ⟨h1, ?_⟩
 rcases h2 with ⟨ys, rfl, q, h3, h4⟩ | ⟨pre, h3, q, rfl, h4⟩
 ·
  exact .inl ⟨q, h3.symm, h4⟩
 ·
  exact .inr ⟨q, h3, h4⟩
end Go.Proofs.YtbckjgageofldaaGreat
namespace Go.Proofs.YtbckjgageofldaaGreat
open Go.RowKit
def crAt (L : Prs) (j : Nat) : Nat := (crcOf (L.getD j pdflt).1).toNat
def TopAt (L : Prs) (t i : Nat) : Prop := (∀ j, j < i → crAt L j ≤ crAt L t) ∧ ∀ j, j < t → crAt L j < crAt L t
theorem getD_left {L M : Prs} {j : Nat} (h : j < L.length) : (L ++ M).getD j pdflt = L.getD j pdflt := by
 simp [List.getD, List.getElem?_append_left h]
theorem getD_right {L M : Prs} {j : Nat} (h : L.length ≤ j) : (L ++ M).getD j pdflt = M.getD (j - L.length) pdflt := by
 simp [List.getD, List.getElem?_append_right h]
theorem getD_in {L : Prs} {j : Nat} (h : j < L.length) : L.getD j pdflt ∈ L := by
 rw [List.getD, List.getElem?_eq_getElem h]
 exact List.getElem_mem _
theorem top_root {k v : ByteArray} {wt : BitVec 64} {l r : Sh} (h : (Sh.node k v wt l r).Heap) : TopAt (l.kv ++ (k, v) :: r.kv) l.kv.length (l.kv ++ (k, v) :: r.kv).length := by
 obtain ⟨h1, h2, h3, _, _⟩ := h
 have hm : crAt (l.kv ++ (k, v) :: r.kv) l.kv.length = wt.toNat := by
  unfold crAt
  rw [getD_right (Nat.le_refl _), Nat.sub_self, h1]
  rfl
 refine ⟨fun j hj => ?_, fun j hj => ?_⟩
 ·
  rw [hm]
  unfold crAt
  rcases Nat.lt_or_ge j l.kv.length with hl | hl
  ·
   rw [getD_left hl]; exact Nat.le_of_lt (h2 _ (getD_in hl))
  ·
   rw [getD_right hl]
   match hj' : j - l.kv.length with
   | 0 => rw [h1]; exact Nat.le_refl _
   | q + 1 =>
    have hq : q < r.kv.length := by simp at hj; omega
    show (crcOf (r.kv.getD q pdflt).1).toNat ≤ _
    exact h3 _ (getD_in hq)
 ·
  rw [hm]
  unfold crAt
  rw [getD_left hj]
  exact h2 _ (getD_in hj)
theorem top_uniq {L : Prs} {t m : Nat} (h : TopAt L t L.length) (g : TopAt L m L.length) (ht : t < L.length) (hm : m < L.length) : t = m := by
 rcases Nat.lt_trichotomy t m with e | e | e
 ·
  have := g.2 t e; have := h.1 m hm; omega
 ·
  exact e
 ·
  have := h.2 m e; have := g.1 t ht; omega
theorem pairs_none {w : World} {A : Option Addr} : PairsAt w A 0 [] := ⟨rfl, Nat.zero_le _, fun i x hi => by simp at hi⟩
theorem Sh.dep_cnt : ∀ S : Sh, S.dep ≤ S.cnt
 | .nil => Nat.le_refl _
 | .node _ _ _ l r => by
  have := l.dep_cnt
  have := r.dep_cnt
  simp only [Sh.dep, Sh.cnt]
  omega
end Go.Proofs.YtbckjgageofldaaGreat
namespace Go.Proofs.YtbckjgageofldaaGreat
open Go.RowKit Go.Shelf
attribute [local go_sem] Oper.semAt_some
def BoxAt (W : World) (B : Nat) (v : Value) (t : TypeId) : Prop := W.heap[B]? = some (.cells #[v] t (0, 0))
theorem BoxAt.cell {W : World} {B : Nat} {v : Value} {t : TypeId} (h : BoxAt W B v t) : W.cell? ⟨B, 0, none⟩ = some v := cell_of_row _ _ _ _ _ _ h
theorem BoxAt.frozen {W : World} {B : Nat} {v : Value} {t : TypeId} (h : BoxAt W B v t) : W.frozen? ⟨B, 0, none⟩ = false := frozen_cells h 0
theorem BoxAt.lt {W : World} {B : Nat} {v : Value} {t : TypeId} (h : BoxAt W B v t) : B < W.heap.size := (Array.getElem?_eq_some_iff.1 h).1
theorem BoxAt.own {B0 : Nat} {β : Type} {B : Nat} {f : β → Value} {t : TypeId} : OwnFrom B0 (fun (s : β) W => BoxAt W B (f s) t) := fun s W W' row hs hg hr => (hg.block B hs.lt (fun e => by
 obtain ⟨_, o, ho, hc⟩ := hr B e.symm
 unfold BoxAt at hs
 rw [hs] at ho
 cases ho
 cases hc)).trans hs
theorem BoxAt.below {W W' : World} {B : Nat} {v : Value} {t : TypeId} (h : BoxAt W B v t) (hb : Below W.heap.size W W') : BoxAt W' B v t := (hb.block B h.lt).trans h
theorem BoxAt.new (W : World) (v : Value) (t : TypeId) : BoxAt (W.alloc (.cells #[v] t)) W.heap.size v t := heap_alloc_new W _
theorem BoxAt.set {W : World} {B : Nat} {v v' : Value} {t : TypeId} (h : BoxAt W B v t) : BoxAt (W.setCell ⟨B, 0, none⟩ v') B v' t := by
 unfold BoxAt
 rw [heap_setCell_same _ _ _ _ _ _ h]
 rfl
theorem BoxAt.other {W : World} {B B' : Nat} {v v' : Value} {t : TypeId} (h : BoxAt W B v t) (hne : B ≠ B') : BoxAt (W.setCell ⟨B', 0, none⟩ v') B v t := (Below.heap_setCell _ _ _ _ (by exact hne)).trans h
end Go.Proofs.YtbckjgageofldaaGreat
