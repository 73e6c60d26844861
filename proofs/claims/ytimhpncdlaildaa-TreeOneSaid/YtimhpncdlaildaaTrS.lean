/- Alike: a tree holds these pairs, in order. Condition: at most 1000000 pairs. -/
import Derived.Test.YtimhpncdlaildaaTrM
import Derived.Test.YtimhpncdlaildaaTrR
import Derived.RangeFuncFrom
import Derived.RangeFuncNested
namespace Go.Proofs.Ytimhpncdlaildaa
open Go.RowKit Go.Shelf
attribute [local go_sem] Oper.semAt_some

/-- A box of one cell. -/
def BoxAt (W : World) (B : Nat) (v : Value) (t : TypeId) : Prop := W.heap[B]? = some (.cells #[v] t (0, 0))
theorem BoxAt.cell {W : World} {B : Nat} {v : Value} {t : TypeId} (h : BoxAt W B v t) : W.cell? ⟨B, 0, none⟩ = some v := cell_of_row _ _ _ _ _ _ h
theorem BoxAt.frozen {W : World} {B : Nat} {v : Value} {t : TypeId} (h : BoxAt W B v t) : W.frozen? ⟨B, 0, none⟩ = false := frozen_cells h 0
theorem BoxAt.lt {W : World} {B : Nat} {v : Value} {t : TypeId} (h : BoxAt W B v t) : B < W.heap.size := (Array.getElem?_eq_some_iff.1 h).1
theorem BoxAt.own {B0 : Nat} {β : Type} {B : Nat} {f : β → Value} {t : TypeId} : OwnFrom B0 (fun (s : β) W => BoxAt W B (f s) t) := fun s W W' row hs hg hr => (hg.block B hs.lt (fun e => by
  obtain ⟨_, o, ho, hc⟩ := hr B e.symm
  unfold BoxAt at hs
  rw [hs] at ho
  cases ho
  cases hc)).trans hs
theorem BoxAt.below {W W' : World} {B : Nat} {v : Value} {t : TypeId} (h : BoxAt W B v t) (hb : Below W.heap.size W W') : BoxAt W' B v t := (hb.block B h.lt).trans h
theorem BoxAt.new (W : World) (v : Value) (t : TypeId) : BoxAt (W.alloc (.cells #[v] t)) W.heap.size v t := heap_alloc_new W _
theorem BoxAt.set {W : World} {B : Nat} {v v' : Value} {t : TypeId} (h : BoxAt W B v t) : BoxAt (W.setCell ⟨B, 0, none⟩ v') B v' t := by
  unfold BoxAt
  rw [heap_setCell_same _ _ _ _ _ _ h]
  rfl
theorem BoxAt.other {W : World} {B B' : Nat} {v v' : Value} {t : TypeId} (h : BoxAt W B v t) (hne : B ≠ B') : BoxAt (W.setCell ⟨B', 0, none⟩ v') B v t := (Below.heap_setCell _ _ _ _ (by exact hne)).trans h

theorem seq_some (w : World) (fn : Fn) (a b : Array Value) : (binOp .eql 92 (.func fn a b) .nilFunc).run Try.prog w = .ok (.bool false) w := by
  have h : ∀ d : Nat, (Op.equalIn (d + 1) 92 (.func fn a b) .nilFunc).run Try.prog w = .ok false w := fun d => by
    simp [Op.equalIn, run_underlying Try.underlying92]
  have h2 : (Op.equal 92 (.func fn a b) .nilFunc).run Try.prog w = .ok false w := h 9999
  simp only [binOp]
  simp only [Sem.run_bind, h2, Result.andThen_ok, Sem.run_pure]
/-- What Alike's loop has between two rounds. -/
structure AlikeI (w0 : World) (A : Option Addr) (n c : Nat) (pre : Prs) (W : World) : Prop where
  bw : BoxAt W w0.heap.size (.slice A n c) 59
  br : BoxAt W (w0.heap.size + 1) (.bool false) 4
  bi : BoxAt W (w0.heap.size + 2) (.int .i64 (pre.length : Int)) 3
  bel : Below w0.heap.size w0 W
theorem AlikeI.own {w0 : World} {A : Option Addr} {n c B0 : Nat} (hB : w0.heap.size ≤ B0) : OwnFrom B0 (AlikeI w0 A n c) := fun s W W' row hs hg hr =>
  ⟨BoxAt.own (f := fun _ => _) s W W' row hs.bw hg hr, BoxAt.own (f := fun _ => _) s W W' row hs.br hg hr, BoxAt.own (f := fun (s : Prs) => .int .i64 (s.length : Int)) s W W' row hs.bi hg hr,
    ⟨hg.os.trans hs.bel.os, hg.tape.trans hs.bel.tape, hg.output.trans hs.bel.output, Nat.le_trans hs.bel.size hg.size, fun q hq => (hg.block q (Nat.lt_of_lt_of_le hq hs.bel.size) (fun e => by have := (hr q e.symm).1; omega)).trans (hs.bel.block q hq)⟩⟩

set_option maxRecDepth 100000 in
set_option maxHeartbeats 4000000 in
theorem alike_in (T : Tr) (A : Option Addr) (n c : Nat) (L : Prs) (w : World) (hat : TreeAt w T) (hp : PairsAt w A n L) (hL : T.kvs = L) (hn : n ≤ 1000000) (m : Nat) (hm : 3 ≤ m) :
    CallsIn Fence.wide m Try.prog 43 #[.pointer T.ptr, .slice A n c] w fun e w' => e = .returned (.bool true) ∧ Below w.heap.size w w' := by
  have hcnt : T.cnt = n := by rw [sh_cnt, cnt_kv, ← hp.hlen, ← hL]; rfl
  have Hat := Lib.hid hat; clear hat
  have Hp := Lib.hid hp; clear hp
  obtain ⟨P, hP⟩ : ∃ P, T.ptr = P := ⟨_, rfl⟩
  rw [hP]
  refine callsIn_of_wp_marks Try.func43 rfl trivial ?_ rfl
  simp only [Try.ntmps43, List.size_toArray, List.length_cons, List.length_nil, Nat.reduceAdd, Nat.reduceSub, Array.replicate_succ, Array.replicate_zero, List.push_toArray, List.append_toArray, List.nil_append, List.cons_append]
  gi_wp2
  have hbw := (BoxAt.new w (.slice A n c) 59).below ((Below.refl _ _).alloc (Nat.le_refl _) (.cells #[.bool false] 4))
  have hbr := BoxAt.new (w.alloc (.cells #[.slice A n c] 59)) (.bool false) 4
  rw [World.size_alloc] at hbr
  have hb2 : Below w.heap.size w ((w.alloc (.cells #[.slice A n c] 59)).alloc (.cells #[.bool false] 4)) := ((Below.refl _ _).alloc (Nat.le_refl _) _).alloc (by simp) _
  have hs2 : ((w.alloc (.cells #[.slice A n c] 59)).alloc (.cells #[.bool false] 4)).heap.size = w.heap.size + 2 := by simp
  generalize (w.alloc (.cells #[.slice A n c] 59)).alloc (.cells #[.bool false] 4) = w2 at *
  have Hbw := Lib.hid hbw; clear hbw
  have Hbr := Lib.hid hbr; clear hbr
  have Hb2 := Lib.hid hb2; clear hb2
  have Hs2 := Lib.hid hs2; clear hs2
  have hkd : KeptW w2 w2.drew := ⟨rfl, rfl, rfl, Nat.le_refl _, fun _ _ => rfl⟩
  refine RegIn.wpIn_region_calm (KeptW w2) [(0, 0), (2, 0), (3, 0), (1, 1), (4, 0)] rfl (by kernel_rfl) (by kernel_rfl) hkd ?_
  dsimp only [RegIn.pick, List.getElem?_cons_zero, List.getElem?_cons_succ]
  have hs3 : w2.drew.heap.size = w.heap.size + 2 := Hs2.out
  have hl3 := len_any T w2.drew ((Hat.out.below Hb2.out).drew)
  rw [hP, hcnt] at hl3
  change RegIn.Can _ _ _ _ _ _ _ _ w2.drew
  generalize w2.drew = w3 at *
  have Hkd := Lib.hid hkd; clear hkd
  have Hs3 := Lib.hid hs3; clear hs3
  have Hl3 := Lib.hid hl3; clear hl3
  iterate 1 (refine RegIn.can_reads ?_; intro K hK; go_simp; (first | (refine ⟨_, fun _ _ => rfl, hK _ ?_⟩) | (refine hK _ ?_)); clear hK K)
  refine RegIn.can_reads ?_
  intro K hK
  go_simp
  refine ⟨.slice A n c, fun y hy => ?_, hK _ ?_⟩
  · have f0 := (Hbw.out.below hy).cell
    go_simp
  clear hK K
  iterate 1 (refine RegIn.can_reads ?_; intro K hK; go_simp; (first | (refine ⟨_, fun _ _ => rfl, hK _ ?_⟩) | (refine hK _ ?_)); clear hK K)
  refine RegIn.can_turns ?_
  intro K K0 hK hK0
  go_simp
  refine ⟨trivial, (fun h => (by cases h)), ?_⟩
  refine (callsIn_wide.2 Hl3.out).mono ?_
  rintro e w' ⟨rfl, rfl⟩
  refine hK _ _ Hkd.out ?_
  clear hK hK0 K K0
  iterate 1 (refine RegIn.can_reads ?_; intro K hK; go_simp; (first | (refine ⟨_, fun _ _ => rfl, hK _ ?_⟩) | (refine hK _ ?_)); clear hK K)
  refine RegIn.can_calm ?_
  have hseq := seq_some
  gi_wp2_with (refine ⟨trivial, (fun h => (by cases h)), ?_⟩; refine (all_in (m - 1) _ _).mono ?_; rintro e w' ⟨rfl, rfl⟩)
  rw [Hs3.out]
  have hbi := BoxAt.new w3 (.int .i64 0) 3
  rw [Hs3.out] at hbi
  have hs4 : (w3.alloc (.cells #[.int .i64 0] 3)).heap.size = w.heap.size + 3 := by rw [World.size_alloc, Hs3.out]
  have hbt := BoxAt.new (w3.alloc (.cells #[.int .i64 0] 3)) (.pointer P) 58
  rw [hs4] at hbt
  have hu1 : Below w3.heap.size w3 ((w3.alloc (.cells #[.int .i64 0] 3)).alloc (.cells #[.pointer P] 58)) := ((Below.refl _ _).alloc (Nat.le_refl _) _).alloc (by simp) _
  have hs5 : ((w3.alloc (.cells #[.int .i64 0] 3)).alloc (.cells #[.pointer P] 58)).heap.size = w.heap.size + 4 := by rw [World.size_alloc, hs4]
  have hbi5 := hbi.below ((Below.refl _ _).alloc (Nat.le_refl _) (.cells #[.pointer P] 58))
  generalize (w3.alloc (.cells #[.int .i64 0] 3)).alloc (.cells #[.pointer P] 58) = w5 at *
  have hb35 : Below w2.heap.size w2 w5 := (KeptW.bel Hkd.out).trans (hu1.mono (KeptW.bel Hkd.out).size)
  have hb5 : Below w.heap.size w w5 := Hb2.out.trans (hb35.mono Hb2.out.size)
  have hI0 : AlikeI w A n c [] w5 := ⟨Hbw.out.below hb35, Hbr.out.below hb35, hbi5, hb5⟩
  have hat5 := Hat.out.below hb5
  have hlo5 : T.Lo w.heap.size := Hat.out.lo
  have hc5 : w5.cell? ⟨w.heap.size + 3, 0, none⟩ = some (.pointer T.ptr) := by rw [hP]; exact hbt.cell
  clear hbi hbt hu1 hbi5 hs4 hb35
  refine wpIn_rangeFunc_ownF (F := Fence.wide) rfl (by omega) (gf := 74) (lb := #[.pointer (some ⟨w.heap.size + 3, 0, none⟩)]) rfl trivial (enters_of Try.func74 (by kernel_rfl) rfl)
    (all_stops (m - 1) (w.heap.size + 3) w.heap.size (w.heap.size + 4) T w5 (by omega) (by omega) (by omega) hc5 hat5 hlo5) (fun h k => h.trans k) (keepC_b (by omega)) (Below.refl _ _) (fun _ => rfl)
    (AlikeI w A n c) (fun c pre _ => c = .ret ∧ ∃ (p : Prs) (x : ByteArray × ByteArray), pre = p ++ [x] ∧ L[p.length]? ≠ some x) (AlikeI.own (by omega)) (fun _ _ _ _ _ h _ _ => h) hI0
    (fun x => { tmps := #[.pointer P, .slice A n c, undef, .pointer (some ⟨w.heap.size, 0, none⟩), .pointer (some ⟨w.heap.size + 1, 0, none⟩), .pointer (some ⟨w.heap.size + 2, 0, none⟩), (.func (.func 74) #[] #[.pointer (some ⟨w.heap.size + 3, 0, none⟩)]), .string x.1, .string x.2, .pointer P, .int .i64 (n : Int), .slice A n c, .int .i64 (n : Int), .bool false, .pointer P, (.func (.func 74) #[] #[.pointer (some ⟨w.heap.size + 3, 0, none⟩)]), (.func (.func 74) #[] #[.pointer (some ⟨w.heap.size + 3, 0, none⟩)]), .bool false, (.func (.func 74) #[] #[.pointer (some ⟨w.heap.size + 3, 0, none⟩)]), .string x.1, .string x.2, undef, undef, undef, undef, undef, undef, undef, undef, undef, undef, undef, undef, undef, undef, undef, undef, undef, undef, undef, undef, undef, undef, undef, undef, undef, undef, undef, undef], defers := [] }) ?assign ?body ?done ?stop
  case assign =>
    intro l x W K hK
    gi_wp2
    exact hK
  case body =>
    rintro l pre x W hI hlen
    have hlen' : pre.length < n := by rw [← Hp.out.hlen, ← hL]; exact hlen
    obtain ⟨b, o, rfl, _, e0, e1⟩ := pairs_get (Hp.out.below hI.bel) hlen'
    have hLat : L[pre.length]? = some (L.getD pre.length pdflt) := by
      have := Hp.out.hlen
      simp [List.getD, List.getElem?_eq_getElem (show pre.length < L.length by omega)]
    have f0 := hI.bw.cell
    have f1 := hI.bi.cell
    have z1 := hI.bi.frozen
    have f2 := hI.br.cell
    have z2 := hI.br.frozen
    have hlt : (pre.length : Int) < (n : Int) := by omega
    have hsucc := tsucc (n := pre.length) (by omega)
    have HI := Lib.hid hI; clear hI
    obtain ⟨q, hq⟩ : ∃ q, L.getD pre.length pdflt = q := ⟨_, rfl⟩
    rw [hq] at hLat e0 e1
    have HLat := Lib.hid hLat; clear hLat hq
    obtain ⟨i, hi⟩ : ∃ i, pre.length = i := ⟨_, rfl⟩
    rw [hi] at e0 e1 f1 hlt hsucc
    have Hi := Lib.hid hi; clear hi hlen hlen'
    obtain ⟨xk, xv⟩ := x
    obtain ⟨qk, qv⟩ := q
    simp only at e0 e1
    by_cases hk : xk = qk
    · subst hk
      by_cases hv : xv = qv
      · subst hv
        gi_wp2
        have hI := HI.out
        refine ⟨KeepsOthers.setCell _ _ _, ⟨below_set (Below.refl _ _) (by omega), fun q cs t f hq e => (Below.heap_setCell _ _ _ _ (by show q ≠ w.heap.size + 2; omega)).trans e⟩, hI.bw.other (by omega), hI.br.other (by omega), ?_, below_set hI.bel (by omega)⟩
        have := hI.bi.set (v' := .int .i64 ((i + 1 : Nat) : Int))
        rw [List.length_append, Hi.out]
        exact this
      · have hne := txt_ne hv
        gi_wp2
        exact ⟨KeepsOthers.setCell _ _ _, rfl, pre, _, rfl, by rw [HLat.out]; intro h; cases h; exact hv rfl⟩
    · have hne := txt_ne hk
      gi_wp2
      exact ⟨KeepsOthers.setCell _ _ _, rfl, pre, _, rfl, by rw [HLat.out]; intro h; cases h; exact hk rfl⟩
  case done =>
    rintro D ys W hD rfl hI hK
    have hn2 : T.kvs.length = n := by rw [hL]; exact Hp.out.hlen
    have f0 := hI.bw.cell
    have f1 := hI.bi.cell
    have f2 := hI.br.cell
    have z2 := hI.br.frozen
    rw [hn2] at f1
    have HI := Lib.hid hI; clear hI
    have HK := Lib.hid hK; clear hK
    gi_wp2
    have hK2 : (W.setCell ⟨w.heap.size + 1, 0, none⟩ (.bool true)).heap[D]? = some (.deferred (some [])) := (Below.heap_setCell _ _ _ _ (by show D ≠ w.heap.size + 1; omega)).trans HK.out
    have hbox : BoxAt (W.setCell ⟨w.heap.size + 1, 0, none⟩ (.bool true)) (w.heap.size + 1) (.bool true) 4 := HI.out.br.set
    have hb6 : Below w.heap.size w (W.setCell ⟨w.heap.size + 1, 0, none⟩ (.bool true)) := below_set HI.out.bel (by omega)
    generalize W.setCell ⟨w.heap.size + 1, 0, none⟩ (.bool true) = W6 at *
    have hc7 := cell_kept hbox.cell (grownBy_putObj' W6 D (.deferred none)) (fun r e => by cases e; exact ⟨_, hK2, rfl⟩)
    have hb7 : Below w.heap.size w (W6.putObj D (.deferred none)) := hb6.trans (belowK_b (w := w) (Nat.le_refl _) W6 D _ _ (by omega) hK2 rfl rfl)
    refine ⟨by simp, .inl ⟨_, _, rfl, run_takeDeferred hK2, ?_⟩⟩
    refine ⟨.bool true, ?_, rfl, hb7⟩
    simp [results, Try.results43, go_sem, hc7]
  case stop =>
    rintro D c pre W hD hpre ⟨rfl, p, x, rfl, hne⟩ _
    exfalso
    obtain ⟨s, hs⟩ := hpre
    apply hne
    rw [← hL, ← hs]
    simp
theorem alike_any (T : Tr) (A : Option Addr) (n c : Nat) (L : Prs) (w : World) (hat : TreeAt w T) (hp : PairsAt w A n L) (hL : T.kvs = L) (hn : n ≤ 1000000) :
    Calls Try.prog 43 #[.pointer T.ptr, .slice A n c] w fun e w' => e = .returned (.bool true) ∧ Below w.heap.size w w' := callsIn_wide.1 (alike_in T A n c L w hat hp hL hn 3 (Nat.le_refl _))
end Go.Proofs.Ytimhpncdlaildaa
