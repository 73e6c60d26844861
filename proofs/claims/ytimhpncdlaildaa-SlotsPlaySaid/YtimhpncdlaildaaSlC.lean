/- The row of slots: New, forget, Keep, Jump, Next, Get, Base, Top, Last: what each computes. No condition. -/
import Derived.Test.YtimhpncdlaildaaSlB
import Derived.Deep.QuietTactic
import Derived.BigQuiet
namespace Go.Proofs.Ytimhpncdlaildaa
open Go.RowKit

theorem below_drewN (w : World) (n : Nat) : Below w.heap.size w (w.drewN n) := ⟨rfl, rfl, rfl, Nat.le_refl _, fun _ _ => rfl⟩
def cutS (s : SRow) (to : BitVec 64) : SRow := { s with l := s.l.filter fun p => !decide (p.1.toNat ≤ to.toNat) }

set_option maxHeartbeats 400000 in
theorem forget_any (R B : Nat) (s : SRow) (to : BitVec 64) (w : World) (h : RowAt w R B s) :
    Calls Try.prog 61 #[.pointer (some ⟨R, 0, none⟩), .int .u64 (to.toNat : Int)] w fun e w' => e = .returned (.tuple #[]) ∧ RowAt w' R B (cutS s to) ∧ Turned R B w w' := by
  have hb : Below w.heap.size w (w.alloc (.cells #[.int .u64 (to.toNat : Int)] 29)) := (Below.refl _ _).alloc (Nat.le_refl _) _
  have h1 := h.below hb
  have hdel := deleteFunc_any B ⟨w.heap.size, 0, none⟩ to (vl s.l) _ h1.vals (by rw [World.cell?_alloc_new]; rfl)
  obtain ⟨c0, c1, c2, c3⟩ := h1.cells
  have hne := h1.ne
  have hfin : ∀ w' : World, MapAt kSlot w' B ((vl s.l).filter fun p => !decide (p.1.toNat ≤ to.toNat)) → (w.alloc (.cells #[.int .u64 (to.toNat : Int)] 29)).grownBy w' (some B) → RowAt w' R B (cutS s to) ∧ Turned R B w w' := fun w' hm hg => by
    refine ⟨⟨(hg.block R h1.ltR (by intro e; cases e; exact hne rfl)).trans h1.blk, ?_⟩, (Turned.below hb).trans (Turned.grown hg)⟩
    have e := vl_filter s.l (fun k => !decide (k.toNat ≤ to.toNat))
    rw [e] at hm
    exact hm
  have Hd := Lib.hid hdel; clear hdel
  have Hf := Lib.hid hfin; clear hfin
  clear h h1 hb hne
  go_enter Try.func61, Try.ntmps61
  go_wp2_with (go_at_call 79; (with_reducible refine Hd.out.mono ?_); rintro e w' ⟨rfl, hm, hg⟩)
  go_end0
  exact ⟨rfl, Hf.out _ hm hg⟩

def keepS (s : SRow) (above : BitVec 64) : SRow := if s.top.toNat < above.toNat then s else { cutS s (maxB s.base above) with base := maxB s.base above }
def errKeep (s : SRow) (above : BitVec 64) : Nat := if s.top.toNat < above.toNat then 2 else 0

set_option maxHeartbeats 400000 in
theorem keep_any (R B : Nat) (s : SRow) (above : BitVec 64) (w : World) (h : RowAt w R B s) :
    Calls Try.prog 20 #[.pointer (some ⟨R, 0, none⟩), .int .u64 (above.toNat : Int)] w fun e w' => e = .returned (.int .i64 (errKeep s above : Nat)) ∧ RowAt w' R B (keepS s above) ∧ Turned R B w w' := by
  obtain ⟨c0, c1, c2, c3⟩ := h.cells
  have f0 := h.thawed 0
  by_cases h1 : s.top.toNat < above.toNat
  · have e1 : errKeep s above = 2 := by unfold errKeep; rw [if_pos h1]
    have e2 : keepS s above = s := by unfold keepS; rw [if_pos h1]
    rw [e1, e2]
    have Hh := Lib.hid h; clear h e1 e2
    have h1' : (s.top.toNat : Int) < (above.toNat : Int) := by omega
    go_enter Try.func20, Try.ntmps20
    go_wp2_with fail
    go_ret
    exact ⟨rfl, Hh.out, Turned.refl _ _ _⟩
  · have e1 : errKeep s above = 0 := by unfold errKeep; rw [if_neg h1]
    have e2 : keepS s above = { cutS s (maxB s.base above) with base := maxB s.base above } := by unfold keepS; rw [if_neg h1]
    rw [e1, e2]
    have h1' : ¬ (s.top.toNat : Int) < (above.toNat : Int) := by omega
    have hrow : RowAt (w.setCell ⟨R, 0, none⟩ (.int .u64 ((maxB s.base above).toNat : Int))) R B { s with base := maxB s.base above } := h.set rfl rfl
    have hforget := forget_any R B _ (maxB s.base above) _ hrow
    obtain ⟨d0, d1, d2, d3⟩ := hrow.cells
    have Hf := Lib.hid hforget; clear hforget
    have hT := Turned.set R B 0 (.int .u64 ((maxB s.base above).toNat : Int)) w
    have HT := Lib.hid hT; clear hT
    clear h e1 e2 hrow
    by_cases hl : s.base.toNat < above.toNat
    · have hl' : (s.base.toNat : Int) < (above.toNat : Int) := by omega
      have em : maxB s.base above = above := by rw [maxB, if_pos hl]
      rw [em] at Hf HT d0 d1 d2 d3 ⊢
      clear em
      go_enter Try.func20, Try.ntmps20
      go_wp2_with (go_at_call 61; (with_reducible refine Hf.out.mono ?_); rintro e w' ⟨rfl, hr, ht⟩)
      go_ret
      exact ⟨rfl, hr, HT.out.trans ht⟩
    · have hl' : ¬ (s.base.toNat : Int) < (above.toNat : Int) := by omega
      have em : maxB s.base above = s.base := by rw [maxB, if_neg hl]
      rw [em] at Hf HT d0 d1 d2 d3 ⊢
      clear em
      go_enter Try.func20, Try.ntmps20
      go_wp2_with (go_at_call 61; (with_reducible refine Hf.out.mono ?_); rintro e w' ⟨rfl, hr, ht⟩)
      go_ret
      exact ⟨rfl, hr, HT.out.trans ht⟩

def jumpS (s : SRow) (to : BitVec 64) : SRow := if 4611686018427387904 < to.toNat ∨ to.toNat < s.top.toNat then s else { cutS s to with base := to, top := to }
def errJump (s : SRow) (to : BitVec 64) : Nat := if 4611686018427387904 < to.toNat ∨ to.toNat < s.top.toNat then 2 else 0

set_option maxRecDepth 100000 in
set_option maxHeartbeats 400000 in
theorem jump_any (R B : Nat) (s : SRow) (to : BitVec 64) (w : World) (h : RowAt w R B s) :
    Calls Try.prog 25 #[.pointer (some ⟨R, 0, none⟩), .int .u64 (to.toNat : Int)] w fun e w' => e = .returned (.int .i64 (errJump s to : Nat)) ∧ RowAt w' R B (jumpS s to) ∧ Turned R B w w' := by
  obtain ⟨c0, c1, c2, c3⟩ := h.cells
  have f0 := h.thawed 0
  have f1 := h.thawed 1
  by_cases h1 : 4611686018427387904 < to.toNat ∨ to.toNat < s.top.toNat
  · have e1 : errJump s to = 2 := by unfold errJump; rw [if_pos h1]
    have e2 : jumpS s to = s := by unfold jumpS; rw [if_pos h1]
    rw [e1, e2]
    have Hh := Lib.hid h; clear h e1 e2
    by_cases ha : 4611686018427387904 < to.toNat
    · have ha' : (4611686018427387904 : Int) < (to.toNat : Int) := by omega
      clear h1 ha
      go_enter Try.func25, Try.ntmps25
      go_wp2_with fail
      go_ret
      exact ⟨rfl, Hh.out, Turned.refl _ _ _⟩
    · have ha' : ¬ (4611686018427387904 : Int) < (to.toNat : Int) := by omega
      have hb' : (to.toNat : Int) < (s.top.toNat : Int) := by omega
      clear h1 ha
      go_enter Try.func25, Try.ntmps25
      go_wp2_with fail
      go_ret
      exact ⟨rfl, Hh.out, Turned.refl _ _ _⟩
  · have e1 : errJump s to = 0 := by unfold errJump; rw [if_neg h1]
    have e2 : jumpS s to = { cutS s to with base := to, top := to } := by unfold jumpS; rw [if_neg h1]
    rw [e1, e2]
    have ha' : ¬ (4611686018427387904 : Int) < (to.toNat : Int) := by omega
    have hb' : ¬ (to.toNat : Int) < (s.top.toNat : Int) := by omega
    have hrow1 : RowAt (w.setCell ⟨R, 0, none⟩ (.int .u64 (to.toNat : Int))) R B { s with base := to } := h.set rfl rfl
    have hrow : RowAt ((w.setCell ⟨R, 0, none⟩ (.int .u64 (to.toNat : Int))).setCell ⟨R, 1, none⟩ (.int .u64 (to.toNat : Int))) R B { s with base := to, top := to } := hrow1.set rfl rfl
    have hforget := forget_any R B _ to _ hrow
    have hT := (Turned.set R B 0 (.int .u64 (to.toNat : Int)) w).trans (Turned.set R B 1 (.int .u64 (to.toNat : Int)) _)
    have Hf := Lib.hid hforget; clear hforget
    have HT := Lib.hid hT; clear hT
    clear h1 e1 e2 hrow hrow1 h
    go_enter Try.func25, Try.ntmps25
    go_wp2_with (go_at_call 61; (with_reducible refine Hf.out.mono ?_); rintro e w' ⟨rfl, hr, ht⟩)
    go_ret
    exact ⟨rfl, hr, HT.out.trans ht⟩

set_option maxHeartbeats 400000 in
theorem base_any (R B : Nat) (s : SRow) (w : World) (h : RowAt w R B s) :
    Calls Try.prog 24 #[.pointer (some ⟨R, 0, none⟩)] w fun e w' => e = .returned (.int .u64 (s.base.toNat : Int)) ∧ w = w' := by
  obtain ⟨c0, c1, c2, c3⟩ := h.cells
  clear h
  go_enter Try.func24, Try.ntmps24
  go_wp2_with fail
  go_ret
  exact ⟨rfl, rfl⟩
set_option maxHeartbeats 400000 in
theorem top_any (R B : Nat) (s : SRow) (w : World) (h : RowAt w R B s) :
    Calls Try.prog 23 #[.pointer (some ⟨R, 0, none⟩)] w fun e w' => e = .returned (.int .u64 (s.top.toNat : Int)) ∧ w = w' := by
  obtain ⟨c0, c1, c2, c3⟩ := h.cells
  clear h
  go_enter Try.func23, Try.ntmps23
  go_wp2_with fail
  go_ret
  exact ⟨rfl, rfl⟩
set_option maxHeartbeats 400000 in
theorem last_any (R B : Nat) (s : SRow) (w : World) (h : RowAt w R B s) :
    Calls Try.prog 26 #[.pointer (some ⟨R, 0, none⟩)] w fun e w' => e = .returned (.int .u64 ((maxB s.last s.top).toNat : Int)) ∧ Below w.heap.size w w' := by
  obtain ⟨c0, c1, c2, c3⟩ := h.cells
  clear h
  by_cases hl : s.last.toNat < s.top.toNat
  · have hl' : (s.last.toNat : Int) < (s.top.toNat : Int) := by omega
    have em : maxB s.last s.top = s.top := by rw [maxB, if_pos hl]
    rw [em]
    clear em
    go_enter Try.func26, Try.ntmps26
    go_wp2_with fail
    go_quiet (fail)
    go_wp2_with fail
    go_ret
    exact ⟨rfl, below_drewN _ _⟩
  · have hl' : ¬ (s.last.toNat : Int) < (s.top.toNat : Int) := by omega
    have em : maxB s.last s.top = s.last := by rw [maxB, if_neg hl]
    rw [em]
    clear em
    go_enter Try.func26, Try.ntmps26
    go_wp2_with fail
    go_quiet (fail)
    go_wp2_with fail
    go_ret
    exact ⟨rfl, below_drewN _ _⟩

set_option maxHeartbeats 400000 in
theorem get_any (R B : Nat) (s : SRow) (slot : BitVec 64) (w : World) (h : RowAt w R B s) :
    Calls Try.prog 31 #[.pointer (some ⟨R, 0, none⟩), .int .u64 (slot.toNat : Int)] w fun e w' => e = .returned (.tuple #[.string ((mget s.l slot).getD ByteArray.empty), .bool (mget s.l slot).isSome]) ∧ w = w' := by
  obtain ⟨c0, c1, c2, c3⟩ := h.cells
  have hlook := look_slot h slot true
  simp only [if_true] at hlook
  generalize (mget s.l slot).getD ByteArray.empty = x at *
  generalize (mget s.l slot).isSome = y at *
  clear h
  go_enter Try.func31, Try.ntmps31
  go_wp2_with fail
  go_ret2
  exact ⟨rfl, rfl⟩

/-- What New leaves: a row at two new blocks. -/
def NewPost (base : BitVec 64) (w : World) (e : Ending) (w' : World) : Prop := ∃ R B, e = .returned (.tuple #[.pointer (some ⟨R, 0, none⟩), .int .i64 0]) ∧ RowAt w' R B ⟨base, base, 0#64, []⟩ ∧ Below w.heap.size w w' ∧ w.heap.size ≤ R ∧ w.heap.size ≤ B
set_option maxRecDepth 100000 in
set_option maxHeartbeats 400000 in
theorem new_any (base : BitVec 64) (hb : base.toNat ≤ 4611686018427387904) (w : World) :
    Calls Try.prog 18 #[.int .u64 (base.toNat : Int)] w (NewPost base w) := by
  have hb' : ¬ (4611686018427387904 : Int) < (base.toNat : Int) := by omega
  have hmm := @run_makeMap Try.prog
  go_enter Try.func18, Try.ntmps18
  go_wp2_with fail
  go_ret2
  have hm := (MapAt.made kSlot w).below kSlot ((Below.refl _ _).alloc (by simp) (.cells (rowCells ⟨base, base, 0#64, []⟩ w.heap.size) 117))
  refine ⟨w.heap.size + 1, w.heap.size, rfl, ⟨?_, hm⟩, ((Below.refl _ _).alloc (Nat.le_refl _) _).alloc (by simp) _, by omega, by omega⟩
  have := heap_alloc_new (w.alloc (.map #[] 0)) (.cells (rowCells ⟨base, base, 0#64, []⟩ w.heap.size) 117)
  rw [World.size_alloc] at this
  exact this
set_option maxRecDepth 100000 in
set_option maxHeartbeats 400000 in
theorem new_none (base : BitVec 64) (hb : ¬ base.toNat ≤ 4611686018427387904) (w : World) :
    Calls Try.prog 18 #[.int .u64 (base.toNat : Int)] w fun e w' => e = .returned (.tuple #[.pointer none, .int .i64 2]) ∧ w = w' := by
  have hb' : (4611686018427387904 : Int) < (base.toNat : Int) := by omega
  go_enter Try.func18, Try.ntmps18
  go_wp2_with fail
  go_ret2
  exact ⟨rfl, rfl⟩
def nextS (s : SRow) : SRow := if (mget s.l (s.top + 1#64)).isSome then { s with top := s.top + 1#64 } else s
def nextV (s : SRow) : Value := match mget s.l (s.top + 1#64) with
  | some v => .tuple #[.agg #[.int .u64 ((s.top + 1#64).toNat : Int), .string v], .bool true]
  | none => .tuple #[.agg #[.int .u64 0, .string ByteArray.empty], .bool false]

set_option maxHeartbeats 400000 in
theorem next_any (R B : Nat) (s : SRow) (w : World) (h : RowAt w R B s) :
    Calls Try.prog 19 #[.pointer (some ⟨R, 0, none⟩)] w fun e w' => e = .returned (nextV s) ∧ RowAt w' R B (nextS s) ∧ Turned R B w w' := by
  have hsz := h.ltR
  obtain ⟨W, hW⟩ : ∃ W, W = w.alloc (.cells #[.int .u64 0, .string ByteArray.empty] 33) := ⟨_, rfl⟩
  have hb : Below w.heap.size w W := by rw [hW]; exact (Below.refl _ _).alloc (Nat.le_refl _) _
  have h1 := h.below hb
  obtain ⟨c0, c1, c2, c3⟩ := h1.cells
  have f1 := h1.thawed 1
  have hlook := look_slot h1 (s.top + 1#64) true
  simp only [if_true] at hlook
  have hadd : IntKind.u64.wrap ((s.top.toNat : Int) + 1) = ((s.top + 1#64).toNat : Int) := by
    rw [IntKind.wrap_u64, BitVec.toNat_add]; simp
  have hitem : W.heap[w.heap.size]? = some (.cells #[.int .u64 0, .string ByteArray.empty] 33 (0, 0)) := by rw [hW]; exact heap_alloc_new w _
  have i0 : W.cell? ⟨w.heap.size, 0, none⟩ = some (.int .u64 0) := cell_of_row _ _ _ _ _ _ hitem
  have i1 : W.cell? ⟨w.heap.size, 1, none⟩ = some (.string ByteArray.empty) := cell_of_row _ _ _ _ _ _ hitem
  have j0 : W.frozen? ⟨w.heap.size, 0, none⟩ = false := by simp [World.frozen?, hitem]
  have j1 : W.frozen? ⟨w.heap.size, 1, none⟩ = false := by simp [World.frozen?, hitem]
  go_enter Try.func19, Try.ntmps19
  go_wp2_with fail
  have hW' : w.alloc (Obj.cells #[Value.int IntKind.u64 0, Value.string { data := #[] }] 33) = W := hW.symm
  rw [hW']
  clear hW' hW
  have H1 := Lib.hid h1; clear h1
  have Hb := Lib.hid hb; clear hb
  have Hi := Lib.hid hitem; clear hitem
  have hsz' := hsz
  have hBlt := h.vals.lt
  clear h
  generalize hG : w.heap.size = G at *
  have HG := Lib.hid hG; clear hG
  have hRG : R ≠ G := by omega
  have hBG : B ≠ G := by have := hBlt; omega
  clear hsz hsz' hBlt
  refine Reg.wp_region_can (fun x => x = W.drew) [(0, 0), (1, 0), (2, 0), (3, 0), (4, 0), (5, 0), (6, 0), (7, 0), (8, 0), (9, 0), (10, 0), (11, 0), (12, 0), (13, 0), (14, 0)] (by kernel_rfl) (by kernel_rfl) (fun _ _ d _ _ h => by cases d <;> exact h) rfl ?_
  dsimp only [Reg.pick, List.getElem?_cons_zero, List.getElem?_cons_succ]
  have hlook' : (Instr.lookup 42 (.map (some B)) (.int .u64 ((s.top + 1#64).toNat : Int)) true).run Try.prog W.drew = .ok (.tuple #[.string ((mget s.l (s.top + 1#64)).getD ByteArray.empty), .bool (mget s.l (s.top + 1#64)).isSome]) W.drew := by
    have := look_slot H1.out.drew (s.top + 1#64) true
    simpa only [if_true] using this
  clear hlook
  generalize hy : s.top + 1#64 = y at *
  have Hy := Lib.hid hy; clear hy
  generalize hg : (mget s.l y).getD ByteArray.empty = g at *
  generalize hq : (mget s.l y).isSome = q at *
  have Hg := Lib.hid hg; clear hg
  have Hq := Lib.hid hq; clear hq
  iterate 15 (refine Reg.can_reads (fun K hK => ?_); go_simp; refine hK _ ?_; clear hK K)
  refine Reg.can_nil ?_
  rintro x rfl
  cases q with
  | false =>
    have hn : nextS s = s := by unfold nextS; rw [Hy.out, Hq.out]; rfl
    have hv : nextV s = .tuple #[.agg #[.int .u64 0, .string ByteArray.empty], .bool false] := by
      unfold nextV; rw [Hy.out]; have := Hq.out; cases hm : mget s.l y with
      | none => rfl
      | some v => rw [hm] at this; cases this
    have Hn := Lib.hid hn; clear hn
    have Hv := Lib.hid hv; clear hv
    go_wp2_with fail
    refine bodyPost_ret (v := .tuple #[.agg #[.int .u64 0, .string ByteArray.empty], .bool false]) (by simp [results, Try.results19, go_sem, i0, i1] <;> rfl) rfl ?_
    have hT : Turned R B w (((W.setCell ⟨G, 0, none⟩ (.int .u64 0)).setCell ⟨G, 1, none⟩ (.string ByteArray.empty)).drew) := by
      have hG := HG.out
      have hb := Hb.out
      subst hG
      exact (Turned.below ((hb.setCell (p := ⟨w.heap.size, 0, none⟩) (Nat.le_refl _) _).setCell (p := ⟨w.heap.size, 1, none⟩) (Nat.le_refl _) _).drew)
    refine ⟨by rw [Hv.out], ?_, hT⟩
    rw [Hn.out]
    have h1 := H1.out
    exact ⟨((Below.heap_setCell _ _ _ _ hRG).trans (Below.heap_setCell _ _ _ _ hRG)).trans h1.blk, h1.vals.of_block kSlot ((Below.heap_setCell _ _ _ _ hBG).trans (Below.heap_setCell _ _ _ _ hBG))⟩
  | true =>
    have hn : nextS s = { s with top := y } := by unfold nextS; rw [Hy.out, Hq.out]; rfl
    have hv : nextV s = .tuple #[.agg #[.int .u64 (y.toNat : Int), .string g], .bool true] := by
      unfold nextV; rw [Hy.out]; have h1 := Hq.out; have h2 := Hg.out; cases hm : mget s.l y with
      | none => rw [hm] at h1; cases h1
      | some v => rw [hm] at h2; simp only [Option.getD_some] at h2; rw [h2]
    have Hn := Lib.hid hn; clear hn
    have Hv := Lib.hid hv; clear hv
    have hrow : RowAt (W.setCell ⟨R, 1, none⟩ (.int .u64 (y.toNat : Int))) R B { s with top := y } := H1.out.set rfl rfl
    obtain ⟨d0, d1, d2, d3⟩ := hrow.cells
    have hk0 : (W.setCell ⟨R, 1, none⟩ (.int .u64 (y.toNat : Int))).cell? ⟨G, 0, none⟩ = some (.int .u64 0) := by rw [World.cell?_setCell_other _ _ _ _ (by intro e; cases e)]; exact i0
    have hk1 : (W.setCell ⟨R, 1, none⟩ (.int .u64 (y.toNat : Int))).cell? ⟨G, 1, none⟩ = some (.string ByteArray.empty) := by rw [World.cell?_setCell_other _ _ _ _ (by intro e; cases e; exact hRG rfl)]; exact i1
    go_wp2_with fail
    refine bodyPost_ret (v := .tuple #[.agg #[.int .u64 (y.toNat : Int), .string g], .bool true]) (by simp [results, Try.results19, go_sem, hk0, hk1] <;> rfl) rfl ?_
    have hT : Turned R B w ((((W.setCell ⟨R, 1, none⟩ (.int .u64 (y.toNat : Int))).setCell ⟨G, 0, none⟩ (.int .u64 (y.toNat : Int))).setCell ⟨G, 1, none⟩ (.string g)).drew) := by
      have hG := HG.out
      have hb := Hb.out
      subst hG
      have h2 := (Turned.below (R := R) (B := B) hb).trans (Turned.set R B 1 (.int .u64 (y.toNat : Int)) W)
      refine ⟨h2.os, h2.tape, h2.output, by simpa [World.setCell] using h2.size, fun k hk h3 h4 => ?_⟩
      have h5 := h2.block k hk h3 h4
      rw [← h5]
      exact (Below.heap_setCell _ _ _ _ (by show k ≠ w.heap.size; omega)).trans (Below.heap_setCell _ _ _ _ (by show k ≠ w.heap.size; omega))
    refine ⟨by rw [Hv.out], ?_, hT⟩
    rw [Hn.out]
    exact ⟨((Below.heap_setCell _ _ _ _ hRG).trans (Below.heap_setCell _ _ _ _ hRG)).trans hrow.blk, hrow.vals.of_block kSlot ((Below.heap_setCell _ _ _ _ hBG).trans (Below.heap_setCell _ _ _ _ hBG))⟩
end Go.Proofs.Ytimhpncdlaildaa
