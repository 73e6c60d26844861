/- Alike: a tree holds these pairs, in order. Condition: at most 1000000 pairs. -/
import Derived.Test.YtkngadbeflepoaaMMachinePlays30
import Derived.RangeFuncFrom
import Derived.RangeFuncNested
import Derived.Test.YtkngadbeflepoaaMMachinePlays17
namespace Go.Proofs.Ytkngadbeflepoaa
open Go.RowKit Go.Shelf
attribute [local go_sem] Oper.semAt_some

/-- A box of one cell. -/
def BoxAt (W : World) (B : Nat) (v : Value) (t : TypeId) : Prop := W.heap[B]? = some (.cells #[v] t (0, 0))
theorem BoxAt.cell {W : World} {B : Nat} {v : Value} {t : TypeId} (h : BoxAt W B v t) : W.cell? ⟨B, 0, none⟩ = some v := cell_of_row _ _ _ _ _ _ h
theorem BoxAt.frozen {W : World} {B : Nat} {v : Value} {t : TypeId} (h : BoxAt W B v t) : W.frozen? ⟨B, 0, none⟩ = false := frozen_cells h 0
theorem BoxAt.lt {W : World} {B : Nat} {v : Value} {t : TypeId} (h : BoxAt W B v t) : B < W.heap.size := (Array.getElem?_eq_some_iff.1 h).1
theorem BoxAt.own {B0 : Nat} {β : Type} {B : Nat} {f : β → Value} {t : TypeId} : OwnFrom B0 (fun (s : β) W => BoxAt W B (f s) t) := fun s W W' row hs hg hr => (hg.block B hs.lt (fun e => by
  obtain ⟨_, o, ho, hc⟩ := hr B e.symm
  unfold BoxAt at hs
  rw [hs] at ho
  cases ho
  cases hc)).trans hs
theorem BoxAt.below {W W' : World} {B : Nat} {v : Value} {t : TypeId} (h : BoxAt W B v t) (hb : Below W.heap.size W W') : BoxAt W' B v t := (hb.block B h.lt).trans h
theorem BoxAt.new (W : World) (v : Value) (t : TypeId) : BoxAt (W.alloc (.cells #[v] t)) W.heap.size v t := heap_alloc_new W _
theorem BoxAt.set {W : World} {B : Nat} {v v' : Value} {t : TypeId} (h : BoxAt W B v t) : BoxAt (W.setCell ⟨B, 0, none⟩ v') B v' t := by
  unfold BoxAt
  rw [heap_setCell_same _ _ _ _ _ _ h]
  rfl
theorem BoxAt.other {W : World} {B B' : Nat} {v v' : Value} {t : TypeId} (h : BoxAt W B v t) (hne : B ≠ B') : BoxAt (W.setCell ⟨B', 0, none⟩ v') B v t := (Below.heap_setCell _ _ _ _ (by exact hne)).trans h

theorem seq_some (w : World) (fn : Fn) (a b : Array Value) : (binOp .eql 92 (.func fn a b) .nilFunc).run Try.prog w = .ok (.bool false) w := by
  have h : ∀ d : Nat, (Op.equalIn (d + 1) 92 (.func fn a b) .nilFunc).run Try.prog w = .ok false w := fun d => by
    simp [Op.equalIn, run_underlying Try.underlying92]
  have h2 : (Op.equal 92 (.func fn a b) .nilFunc).run Try.prog w = .ok false w := h 9999
  simp only [binOp]
  simp only [Sem.run_bind, h2, Result.andThen_ok, Sem.run_pure]
/-- What Alike's loop has between two rounds. -/
structure AlikeI (w0 : World) (A : Option Addr) (n c : Nat) (pre : Prs) (W : World) : Prop where
  bw : BoxAt W w0.heap.size (.slice A n c) 26
  br : BoxAt W (w0.heap.size + 1) (.bool false) 4
  bi : BoxAt W (w0.heap.size + 2) (.int .i64 (pre.length : Int)) 3
  bel : Below w0.heap.size w0 W
theorem AlikeI.own {w0 : World} {A : Option Addr} {n c B0 : Nat} (hB : w0.heap.size ≤ B0) : OwnFrom B0 (AlikeI w0 A n c) := fun s W W' row hs hg hr =>
  ⟨BoxAt.own (f := fun _ => _) s W W' row hs.bw hg hr, BoxAt.own (f := fun _ => _) s W W' row hs.br hg hr, BoxAt.own (f := fun (s : Prs) => .int .i64 (s.length : Int)) s W W' row hs.bi hg hr,
    ⟨hg.os.trans hs.bel.os, hg.tape.trans hs.bel.tape, hg.output.trans hs.bel.output, Nat.le_trans hs.bel.size hg.size, fun q hq => (hg.block q (Nat.lt_of_lt_of_le hq hs.bel.size) (fun e => by have := (hr q e.symm).1; omega)).trans (hs.bel.block q hq)⟩⟩

set_option maxRecDepth 100000 in
set_option maxHeartbeats 4000000 in
theorem alike_in (T : Tr) (A : Option Addr) (n c : Nat) (L : Prs) (w : World) (hat : TreeAt w T) (hp : PairsAt w A n L) (hL : T.kvs = L) (hn : n ≤ 1000000) (m : Nat) (hm : 3 ≤ m) :
    CallsIn Fence.wide m Try.prog 19 #[.pointer T.ptr, .slice A n c] w fun e w' => e = .returned (.bool true) ∧ Below w.heap.size w w' := by
  have hcnt : T.cnt = n := by rw [sh_cnt, cnt_kv, ← hp.hlen, ← hL]; rfl
  have Hat := Lib.hid hat; clear hat
  have Hp := Lib.hid hp; clear hp
  obtain ⟨P, hP⟩ : ∃ P, T.ptr = P := ⟨_, rfl⟩
  rw [hP]
  refine callsIn_of_wp_marks Try.func19 rfl trivial ?_ rfl
  simp only [Try.ntmps19, List.size_toArray, List.length_cons, List.length_nil, Nat.reduceAdd, Nat.reduceSub, Array.replicate_succ, Array.replicate_zero, List.push_toArray, List.append_toArray, List.nil_append, List.cons_append]
  gi_wp2
  have hbw := (BoxAt.new w (.slice A n c) 26).below ((Below.refl _ _).alloc (Nat.le_refl _) (.cells #[.bool false] 4))
  have hbr := BoxAt.new (w.alloc (.cells #[.slice A n c] 26)) (.bool false) 4
  rw [World.size_alloc] at hbr
  have hb2 : Below w.heap.size w ((w.alloc (.cells #[.slice A n c] 26)).alloc (.cells #[.bool false] 4)) := ((Below.refl _ _).alloc (Nat.le_refl _) _).alloc (by simp) _
  have hs2 : ((w.alloc (.cells #[.slice A n c] 26)).alloc (.cells #[.bool false] 4)).heap.size = w.heap.size + 2 := by simp
  generalize (w.alloc (.cells #[.slice A n c] 26)).alloc (.cells #[.bool false] 4) = w2 at *
  have Hbw := Lib.hid hbw; clear hbw
  have Hbr := Lib.hid hbr; clear hbr
  have Hb2 := Lib.hid hb2; clear hb2
  have Hs2 := Lib.hid hs2; clear hs2
  have hkd : KeptW w2 w2.drew := ⟨rfl, rfl, rfl, Nat.le_refl _, fun _ _ => rfl⟩
  refine RegIn.wpIn_region_calm (KeptW w2) [(0, 0), (2, 0), (3, 0), (1, 1), (4, 0)] rfl (by kernel_rfl) (by kernel_rfl) hkd ?_
  dsimp only [RegIn.pick, List.getElem?_cons_zero, List.getElem?_cons_succ]
  have hs3 : w2.drew.heap.size = w.heap.size + 2 := Hs2.out
  have hl3 := len_any T w2.drew ((Hat.out.below Hb2.out).drew)
  rw [hP, hcnt] at hl3
  change RegIn.Can _ _ _ _ _ _ _ _ w2.drew
  generalize w2.drew = w3 at *
  have Hkd := Lib.hid hkd; clear hkd
  have Hs3 := Lib.hid hs3; clear hs3
  have Hl3 := Lib.hid hl3; clear hl3
  iterate 1 (refine RegIn.can_reads ?_; intro K hK; go_simp; (first | (refine ⟨_, fun _ _ => rfl, hK _ ?_⟩) | (refine hK _ ?_)); clear hK K)
  refine RegIn.can_reads ?_
  intro K hK
  go_simp
  refine ⟨.slice A n c, fun y hy => ?_, hK _ ?_⟩
  · have f0 := (Hbw.out.below hy).cell
    go_simp
  clear hK K
  iterate 1 (refine RegIn.can_reads ?_; intro K hK; go_simp; (first | (refine ⟨_, fun _ _ => rfl, hK _ ?_⟩) | (refine hK _ ?_)); clear hK K)
  refine RegIn.can_turns ?_
  intro K K0 hK hK0
  go_simp
  refine ⟨trivial, (fun h => (by cases h)), ?_⟩
  refine (callsIn_wide.2 Hl3.out).mono ?_
  rintro e w' ⟨rfl, rfl⟩
  refine hK _ _ Hkd.out ?_
  clear hK hK0 K K0
  iterate 1 (refine RegIn.can_reads ?_; intro K hK; go_simp; (first | (refine ⟨_, fun _ _ => rfl, hK _ ?_⟩) | (refine hK _ ?_)); clear hK K)
  refine RegIn.can_calm ?_
  have hseq := seq_some
  gi_wp2_with (refine ⟨trivial, (fun h => (by cases h)), ?_⟩; refine (all_in (m - 1) _ _).mono ?_; rintro e w' ⟨rfl, rfl⟩)
  rw [Hs3.out]
  have hbi := BoxAt.new w3 (.int .i64 0) 3
  rw [Hs3.out] at hbi
  have hs4 : (w3.alloc (.cells #[.int .i64 0] 3)).heap.size = w.heap.size + 3 := by rw [World.size_alloc, Hs3.out]
  have hbt := BoxAt.new (w3.alloc (.cells #[.int .i64 0] 3)) (.pointer P) 25
  rw [hs4] at hbt
  have hu1 : Below w3.heap.size w3 ((w3.alloc (.cells #[.int .i64 0] 3)).alloc (.cells #[.pointer P] 25)) := ((Below.refl _ _).alloc (Nat.le_refl _) _).alloc (by simp) _
  have hs5 : ((w3.alloc (.cells #[.int .i64 0] 3)).alloc (.cells #[.pointer P] 25)).heap.size = w.heap.size + 4 := by rw [World.size_alloc, hs4]
  have hbi5 := hbi.below ((Below.refl _ _).alloc (Nat.le_refl _) (.cells #[.pointer P] 25))
  generalize (w3.alloc (.cells #[.int .i64 0] 3)).alloc (.cells #[.pointer P] 25) = w5 at *
  have hb35 : Below w2.heap.size w2 w5 := (KeptW.bel Hkd.out).trans (hu1.mono (KeptW.bel Hkd.out).size)
  have hb5 : Below w.heap.size w w5 := Hb2.out.trans (hb35.mono Hb2.out.size)
  have hI0 : AlikeI w A n c [] w5 := ⟨Hbw.out.below hb35, Hbr.out.below hb35, hbi5, hb5⟩
  have hat5 := Hat.out.below hb5
  have hlo5 : T.Lo w.heap.size := Hat.out.lo
  have hc5 : w5.cell? ⟨w.heap.size + 3, 0, none⟩ = some (.pointer T.ptr) := by rw [hP]; exact hbt.cell
  clear hbi hbt hu1 hbi5 hs4 hb35
  refine wpIn_rangeFunc_ownF (F := Fence.wide) rfl (by omega) (gf := 88) (lb := #[.pointer (some ⟨w.heap.size + 3, 0, none⟩)]) rfl trivial (enters_of Try.func88 (by kernel_rfl) rfl)
    (all_stops (m - 1) (w.heap.size + 3) w.heap.size (w.heap.size + 4) T w5 (by omega) (by omega) (by omega) hc5 hat5 hlo5) (fun h k => h.trans k) (keepC_b (by omega)) (Below.refl _ _) (fun _ => rfl)
    (AlikeI w A n c) (fun c pre _ => c = .ret ∧ ∃ (p : Prs) (x : ByteArray × ByteArray), pre = p ++ [x] ∧ L[p.length]? ≠ some x) (AlikeI.own (by omega)) (fun _ _ _ _ _ h _ _ => h) hI0
    (fun x => { tmps := #[.pointer P, .slice A n c, undef, .pointer (some ⟨w.heap.size, 0, none⟩), .pointer (some ⟨w.heap.size + 1, 0, none⟩), .pointer (some ⟨w.heap.size + 2, 0, none⟩), (.func (.func 88) #[] #[.pointer (some ⟨w.heap.size + 3, 0, none⟩)]), .string x.1, .string x.2, .pointer P, .int .i64 (n : Int), .slice A n c, .int .i64 (n : Int), .bool false, .pointer P, (.func (.func 88) #[] #[.pointer (some ⟨w.heap.size + 3, 0, none⟩)]), (.func (.func 88) #[] #[.pointer (some ⟨w.heap.size + 3, 0, none⟩)]), .bool false, (.func (.func 88) #[] #[.pointer (some ⟨w.heap.size + 3, 0, none⟩)]), .string x.1, .string x.2, undef, undef, undef, undef, undef, undef, undef, undef, undef, undef, undef, undef, undef, undef, undef, undef, undef, undef, undef, undef, undef, undef, undef, undef, undef, undef, undef, undef], defers := [] }) ?assign ?body ?done ?stop
  case assign =>
    intro l x W K hK
    gi_wp2
    exact hK
  case body =>
    rintro l pre x W hI hlen
    have hlen' : pre.length < n := by rw [← Hp.out.hlen, ← hL]; exact hlen
    obtain ⟨b, o, rfl, _, e0, e1⟩ := pairs_get (Hp.out.below hI.bel) hlen'
    have hLat : L[pre.length]? = some (L.getD pre.length pdflt) := by
      have := Hp.out.hlen
      simp [List.getD, List.getElem?_eq_getElem (show pre.length < L.length by omega)]
    have f0 := hI.bw.cell
    have f1 := hI.bi.cell
    have z1 := hI.bi.frozen
    have f2 := hI.br.cell
    have z2 := hI.br.frozen
    have hlt : (pre.length : Int) < (n : Int) := by omega
    have hsucc := tsucc (n := pre.length) (by omega)
    have HI := Lib.hid hI; clear hI
    obtain ⟨q, hq⟩ : ∃ q, L.getD pre.length pdflt = q := ⟨_, rfl⟩
    rw [hq] at hLat e0 e1
    have HLat := Lib.hid hLat; clear hLat hq
    obtain ⟨i, hi⟩ : ∃ i, pre.length = i := ⟨_, rfl⟩
    rw [hi] at e0 e1 f1 hlt hsucc
    have Hi := Lib.hid hi; clear hi hlen hlen'
    obtain ⟨xk, xv⟩ := x
    obtain ⟨qk, qv⟩ := q
    simp only at e0 e1
    by_cases hk : xk = qk
    · subst hk
      by_cases hv : xv = qv
      · subst hv
        gi_wp2
        have hI := HI.out
        refine ⟨KeepsOthers.setCell _ _ _, ⟨below_set (Below.refl _ _) (by omega), fun q cs t f hq e => (Below.heap_setCell _ _ _ _ (by show q ≠ w.heap.size + 2; omega)).trans e⟩, hI.bw.other (by omega), hI.br.other (by omega), ?_, below_set hI.bel (by omega)⟩
        have := hI.bi.set (v' := .int .i64 ((i + 1 : Nat) : Int))
        rw [List.length_append, Hi.out]
        exact this
      · have hne := txt_ne hv
        gi_wp2
        exact ⟨KeepsOthers.setCell _ _ _, rfl, pre, _, rfl, by rw [HLat.out]; intro h; cases h; exact hv rfl⟩
    · have hne := txt_ne hk
      gi_wp2
      exact ⟨KeepsOthers.setCell _ _ _, rfl, pre, _, rfl, by rw [HLat.out]; intro h; cases h; exact hk rfl⟩
  case done =>
    rintro D ys W hD rfl hI hK
    have hn2 : T.kvs.length = n := by rw [hL]; exact Hp.out.hlen
    have f0 := hI.bw.cell
    have f1 := hI.bi.cell
    have f2 := hI.br.cell
    have z2 := hI.br.frozen
    rw [hn2] at f1
    have HI := Lib.hid hI; clear hI
    have HK := Lib.hid hK; clear hK
    gi_wp2
    have hK2 : (W.setCell ⟨w.heap.size + 1, 0, none⟩ (.bool true)).heap[D]? = some (.deferred (some [])) := (Below.heap_setCell _ _ _ _ (by show D ≠ w.heap.size + 1; omega)).trans HK.out
    have hbox : BoxAt (W.setCell ⟨w.heap.size + 1, 0, none⟩ (.bool true)) (w.heap.size + 1) (.bool true) 4 := HI.out.br.set
    have hb6 : Below w.heap.size w (W.setCell ⟨w.heap.size + 1, 0, none⟩ (.bool true)) := below_set HI.out.bel (by omega)
    generalize W.setCell ⟨w.heap.size + 1, 0, none⟩ (.bool true) = W6 at *
    have hc7 := cell_kept hbox.cell (grownBy_putObj' W6 D (.deferred none)) (fun r e => by cases e; exact ⟨_, hK2, rfl⟩)
    have hb7 : Below w.heap.size w (W6.putObj D (.deferred none)) := hb6.trans (belowK_b (w := w) (Nat.le_refl _) W6 D _ _ (by omega) hK2 rfl rfl)
    refine ⟨by simp, .inl ⟨_, _, rfl, run_takeDeferred hK2, ?_⟩⟩
    refine ⟨.bool true, ?_, rfl, hb7⟩
    simp [results, Try.results19, go_sem, hc7]
  case stop =>
    rintro D c pre W hD hpre ⟨rfl, p, x, rfl, hne⟩ _
    exfalso
    obtain ⟨s, hs⟩ := hpre
    apply hne
    rw [← hL, ← hs]
    simp
theorem alike_any (T : Tr) (A : Option Addr) (n c : Nat) (L : Prs) (w : World) (hat : TreeAt w T) (hp : PairsAt w A n L) (hL : T.kvs = L) (hn : n ≤ 1000000) :
    Calls Try.prog 19 #[.pointer T.ptr, .slice A n c] w fun e w' => e = .returned (.bool true) ∧ Below w.heap.size w w' := callsIn_wide.1 (alike_in T A n c L w hat hp hL hn 3 (Nat.le_refl _))
end Go.Proofs.Ytkngadbeflepoaa
/- Plain laws on what differs between two lists of pairs in order. No condition. -/
namespace Go.Proofs.Ytkngadbeflepoaa
open Go.RowKit

structure Chg where
  key : ByteArray
  old : ByteArray
  new : ByteArray
  had : Bool
  has : Bool
deriving DecidableEq
def cDel (p : ByteArray × ByteArray) : Chg := ⟨p.1, p.2, ByteArray.empty, true, false⟩
def cAdd (q : ByteArray × ByteArray) : Chg := ⟨q.1, ByteArray.empty, q.2, false, true⟩
/-- What differs, by the keys' order. -/
def diffL : Prs → Prs → List Chg
  | [], [] => []
  | p :: A, [] => cDel p :: diffL A []
  | [], q :: B => cAdd q :: diffL [] B
  | p :: A, q :: B => if slt p.1 q.1 = true then cDel p :: diffL A (q :: B) else if slt q.1 p.1 = true then cAdd q :: diffL (p :: A) B else if p.2 = q.2 then diffL A B else ⟨p.1, p.2, q.2, true, true⟩ :: diffL A B
termination_by A B => A.length + B.length
theorem diff_nil_nil : diffL [] [] = [] := by rw [diffL]
theorem diff_cons_nil (p : ByteArray × ByteArray) (A : Prs) : diffL (p :: A) [] = cDel p :: diffL A [] := by rw [diffL]
theorem diff_nil_cons (q : ByteArray × ByteArray) (B : Prs) : diffL [] (q :: B) = cAdd q :: diffL [] B := by rw [diffL]
theorem diff_cons_cons (p q : ByteArray × ByteArray) (A B : Prs) : diffL (p :: A) (q :: B) = if slt p.1 q.1 = true then cDel p :: diffL A (q :: B) else if slt q.1 p.1 = true then cAdd q :: diffL (p :: A) B else if p.2 = q.2 then diffL A B else ⟨p.1, p.2, q.2, true, true⟩ :: diffL A B := by rw [diffL]
theorem diff_del {p : ByteArray × ByteArray} {A B : Prs} (h : ∀ q ∈ B, slt p.1 q.1 = true) : diffL (p :: A) B = cDel p :: diffL A B := by
  cases B with
  | nil => rw [diff_cons_nil]
  | cons q B => rw [diff_cons_cons, if_pos (h q (by simp))]
theorem diff_add {q : ByteArray × ByteArray} {A B : Prs} (h : ∀ p ∈ A, slt q.1 p.1 = true) : diffL A (q :: B) = cAdd q :: diffL A B := by
  cases A with
  | nil => rw [diff_nil_cons]
  | cons p A =>
    have h1 := h p (by simp)
    rw [diff_cons_cons, if_neg (by rw [slt_asymm h1]; exact Bool.false_ne_true), if_pos h1]
theorem diff_append : ∀ (n : Nat) {A1 B1 A2 B2 : Prs}, A1.length + B1.length ≤ n → (∀ p ∈ A1 ++ B1, ∀ q ∈ A2 ++ B2, slt p.1 q.1 = true) → diffL (A1 ++ A2) (B1 ++ B2) = diffL A1 B1 ++ diffL A2 B2
  | n, [], [], _, _, _, _ => by rw [diff_nil_nil]; rfl
  | 0, p :: A1, _, _, _, h, _ => by simp at h
  | 0, [], q :: B1, _, _, h, _ => by simp at h
  | n + 1, p :: A1, [], A2, B2, h, hs => by
    have ih := diff_append n (A1 := A1) (B1 := []) (A2 := A2) (B2 := B2) (by simpa using h) (fun x hx y hy => hs x (by simp at hx ⊢; exact .inr hx) y hy)
    show diffL (p :: (A1 ++ A2)) B2 = _
    rw [diff_del (fun q hq => hs p (by simp) q (by simp [hq])), diff_cons_nil, List.cons_append, ← ih]
    rfl
  | n + 1, [], q :: B1, A2, B2, h, hs => by
    have ih := diff_append n (A1 := []) (B1 := B1) (A2 := A2) (B2 := B2) (by simpa using h) (fun x hx y hy => hs x (by simp at hx ⊢; exact .inr hx) y hy)
    show diffL A2 (q :: (B1 ++ B2)) = _
    rw [diff_add (fun p hp => hs q (by simp) p (by simp [hp])), diff_nil_cons, List.cons_append, ← ih]
    rfl
  | n + 1, p :: A1, q :: B1, A2, B2, h, hs => by
    simp only [List.length_cons] at h
    show diffL (p :: (A1 ++ A2)) (q :: (B1 ++ B2)) = _
    rw [diff_cons_cons, diff_cons_cons]
    split
    · have ih := diff_append n (A1 := A1) (B1 := q :: B1) (A2 := A2) (B2 := B2) (by simp; omega) (fun x hx y hy => hs x (by simp at hx ⊢; exact .inr hx) y hy)
      rw [List.cons_append, ← ih]; rfl
    split
    · have ih := diff_append n (A1 := p :: A1) (B1 := B1) (A2 := A2) (B2 := B2) (by simp; omega) (fun x hx y hy => hs x (by simp at hx ⊢; rcases hx with h | h | h <;> simp [h]) y hy)
      rw [List.cons_append, ← ih]; rfl
    have ih := diff_append n (A1 := A1) (B1 := B1) (A2 := A2) (B2 := B2) (by omega) (fun x hx y hy => hs x (by simp at hx ⊢; rcases hx with h | h <;> simp [h]) y hy)
    split
    · exact ih
    · rw [List.cons_append, ← ih]
theorem diff_self : ∀ A : Prs, diffL A A = []
  | [] => diff_nil_nil
  | p :: A => by rw [diff_cons_cons, if_neg (by rw [slt_irrefl]; exact Bool.false_ne_true), if_neg (by rw [slt_irrefl]; exact Bool.false_ne_true), if_pos rfl, diff_self A]

/-- One key's pair, if it has one. -/
def atK (k : ByteArray) : Option ByteArray → Prs
  | some v => [(k, v)]
  | none => []
theorem asc_three (k : ByteArray) : ∀ {S : Sh}, Asc S.kv → S.kv = S.kv.filter (ltB k) ++ (atK k (S.look k) ++ S.kv.filter (gtB k))
  | .nil, _ => rfl
  | .node k0 v0 wt l r, h => by
    have h' : Asc (l.kv ++ (k0, v0) :: r.kv) := h
    obtain ⟨hl, hr, _, _⟩ := asc_node h'
    unfold Sh.look
    simp only [Sh.kv]
    by_cases e : k0 = k
    · subst e
      obtain ⟨f1, f2⟩ := filt_eq h'
      rw [if_pos rfl, f1, f2]
      rfl
    · rw [if_neg e]
      by_cases hk : slt k k0 = true
      · obtain ⟨f1, f2⟩ := filt_lt h' hk
        have ih := asc_three k hl
        rw [if_pos hk, f1, f2]
        conv => lhs; rw [ih]
        simp
      · have hk' : slt k0 k = true := by
          rw [← Bool.not_eq_false]
          intro h2
          exact e (slt_total h2 (by simpa using hk))
        obtain ⟨f1, f2⟩ := filt_gt h' hk'
        have ih := asc_three k hr
        rw [if_neg hk, f1, f2]
        conv => lhs; rw [ih]
        simp
/-- What the change of one key tells. -/
def chgOf (k : ByteArray) (a b : Option ByteArray) : Chg := ⟨k, a.getD ByteArray.empty, b.getD ByteArray.empty, a.isSome, b.isSome⟩
def Chg.real (c : Chg) : Bool := decide (c.had ≠ c.has) || decide (c.old ≠ c.new)
theorem diff_mid (k : ByteArray) (a b : Option ByteArray) : diffL (atK k a) (atK k b) = if (chgOf k a b).real = true then [chgOf k a b] else [] := by
  cases a with
  | none =>
    cases b with
    | none => simp [atK, diff_nil_nil, chgOf, Chg.real]
    | some v => simp [atK, diff_nil_cons, diff_nil_nil, chgOf, Chg.real, cAdd]
  | some v =>
    cases b with
    | none => simp [atK, diff_cons_nil, diff_nil_nil, chgOf, Chg.real, cDel]
    | some u =>
      simp only [atK]
      rw [diff_cons_cons, if_neg (by rw [slt_irrefl]; exact Bool.false_ne_true), if_neg (by rw [slt_irrefl]; exact Bool.false_ne_true), diff_nil_nil]
      by_cases e : v = u
      · subst e; simp [chgOf, Chg.real]
      · simp [chgOf, Chg.real, e]
theorem mem_atK {k : ByteArray} {o : Option ByteArray} {p : ByteArray × ByteArray} (h : p ∈ atK k o) : p.1 = k := by
  cases o <;> simp [atK] at h
  rw [h]
theorem diff_three (k : ByteArray) {S U : Sh} (hS : Asc S.kv) (hU : Asc U.kv) :
    diffL S.kv U.kv = diffL (S.kv.filter (ltB k)) (U.kv.filter (ltB k)) ++ ((if (chgOf k (S.look k) (U.look k)).real = true then [chgOf k (S.look k) (U.look k)] else []) ++ diffL (S.kv.filter (gtB k)) (U.kv.filter (gtB k))) := by
  have e1 := asc_three k hS
  have e2 := asc_three k hU
  have lo : ∀ (L : Prs), ∀ p ∈ L.filter (ltB k), slt p.1 k = true := fun L p hp => (List.mem_filter.1 hp).2
  have hi : ∀ (L : Prs), ∀ p ∈ L.filter (gtB k), slt k p.1 = true := fun L p hp => (List.mem_filter.1 hp).2
  conv => lhs; rw [e1, e2]
  rw [diff_append _ (Nat.le_refl _), diff_append _ (Nat.le_refl _), diff_mid]
  · intro p hp q hq
    have h1 : p.1 = k := by
      rcases List.mem_append.1 hp with h | h <;> exact mem_atK h
    rw [h1]
    rcases List.mem_append.1 hq with h | h <;> exact hi _ q h
  · intro p hp q hq
    have h1 : slt p.1 k = true := by
      rcases List.mem_append.1 hp with h | h <;> exact lo _ p h
    have h2 : q.1 = k ∨ slt k q.1 = true := by
      rcases List.mem_append.1 hq with h | h <;> rcases List.mem_append.1 h with h | h
      · exact .inl (mem_atK h)
      · exact .inr (hi _ q h)
      · exact .inl (mem_atK h)
      · exact .inr (hi _ q h)
    rcases h2 with h2 | h2
    · rw [h2]; exact h1
    · exact slt_trans h1 h2
theorem diff_len : ∀ (n : Nat) {A B : Prs}, A.length + B.length ≤ n → (diffL A B).length ≤ A.length + B.length
  | n, [], [], _ => by rw [diff_nil_nil]; simp
  | 0, p :: A, _, h => by simp at h
  | 0, [], q :: B, h => by simp at h
  | n + 1, p :: A, [], h => by
    have := diff_len n (A := A) (B := []) (by simpa using h)
    rw [diff_cons_nil]
    simp at this ⊢
    omega
  | n + 1, [], q :: B, h => by
    have := diff_len n (A := []) (B := B) (by simpa using h)
    rw [diff_nil_cons]
    simp at this ⊢
    omega
  | n + 1, p :: A, q :: B, h => by
    simp only [List.length_cons] at h
    have h1 := diff_len n (A := A) (B := q :: B) (by simp; omega)
    have h2 := diff_len n (A := p :: A) (B := B) (by simp; omega)
    have h3 := diff_len n (A := A) (B := B) (by omega)
    rw [diff_cons_cons]
    simp only [List.length_cons] at h1 h2 h3 ⊢
    split
    · simp only [List.length_cons]; omega
    split
    · simp only [List.length_cons]; omega
    split
    · omega
    · simp only [List.length_cons]; omega
end Go.Proofs.Ytkngadbeflepoaa
