/- The document's Diff of two lists of pairs. Condition: at most 1000000 pairs each. -/
import Derived.Maps.AppendAt
import Derived.Test.YtkngadbeflepoaaGreatZDeltaTells20
import Derived.Test.YtkngadbeflepoaaGreatZDeltaTells23
namespace Go.Proofs.YtkngadbeflepoaaGreat
open Go.RowKit
def chg5 (c : Chg) : List Value := [.string c.key, .string c.old, .string c.new, .bool c.had, .bool c.has]
def flat5 (L : List Chg) : List Value := L.flatMap chg5
theorem flat5_len (L : List Chg) : (flat5 L).length = L.length * 5 := by
  induction L with
  | nil => rfl
  | cons a L ih => simp only [flat5, List.flatMap_cons, List.length_append, List.length_cons] at ih ⊢; rw [ih]; simp [chg5]; omega
theorem flat5_at : ∀ (l : List Chg) (i : Nat) (x : Chg) (j : Nat) (v : Value), l[i]? = some x → (chg5 x)[j]? = some v → (flat5 l)[i * 5 + j]? = some v
  | [], i, _, _, _, h, _ => by simp at h
  | a :: l, 0, x, j, v, h, hv => by
    simp only [List.getElem?_cons_zero, Option.some.injEq] at h
    subst h
    have hj : j < (chg5 a).length := (List.getElem?_eq_some_iff.1 hv).1
    simp only [flat5, List.flatMap_cons, Nat.zero_mul, Nat.zero_add]
    rw [List.getElem?_append_left hj]
    exact hv
  | a :: l, i + 1, x, j, v, h, hv => by
    have ih := flat5_at l i x j v (by simpa using h) hv
    have hl : (chg5 a).length = 5 := rfl
    simp only [flat5, List.flatMap_cons]
    rw [List.getElem?_append_right (by rw [hl]; omega), hl, show (i + 1) * 5 + j - 5 = i * 5 + j by omega]
    exact ih
/-- A slice of changes in memory. -/
abbrev ChgsAt := SliceAt 5 chg5
theorem info5 : (Tryz.prog.info? 76).map (fun i => (i.zero, i.size, i.bytes)) = some (some (.agg #[.string ByteArray.empty, .string ByteArray.empty, .string ByteArray.empty, .bool false, .bool false]), 5, 56) := by kernel_rfl
theorem five_cells (w : World) (a b c d e : Value) (t : TypeId) : ∀ j u, ([a, b, c, d, e] : List Value)[j]? = some u → (w.alloc (.cells #[a, b, c, d, e] t)).cell? (Addr.add ⟨w.heap.size, 0, none⟩ j) = some u := by
  intro j u hj
  rw [WideShapes.add_plain]
  have h := heap_alloc_new w (.cells #[a, b, c, d, e] t)
  have hj5 : j < 5 := by
    have := (List.getElem?_eq_some_iff.1 hj).1
    simpa using this
  match j, hj5 with
  | 0, _ => rw [cell_of_row _ _ _ _ _ _ h]; simpa using hj
  | 1, _ => rw [cell_of_row _ _ _ _ _ _ h]; simpa using hj
  | 2, _ => rw [cell_of_row _ _ _ _ _ _ h]; simpa using hj
  | 3, _ => rw [cell_of_row _ _ _ _ _ _ h]; simpa using hj
  | 4, _ => rw [cell_of_row _ _ _ _ _ _ h]; simpa using hj
theorem drop_del {L M : Prs} {i k : Nat} (hi : i < L.length) (h : k = M.length ∨ (k < M.length ∧ slt (L.getD i pdflt).1 (M.getD k pdflt).1 = true)) :
    diffL (L.drop i) (M.drop k) = cDel (L.getD i pdflt) :: diffL (L.drop (i + 1)) (M.drop k) := by
  rw [drop_pair hi]
  rcases h with rfl | ⟨hk, hs⟩
  · rw [List.drop_length, diff_cons_nil]
  · rw [drop_pair hk, diff_cons_cons, if_pos hs]
theorem drop_add {L M : Prs} {i k : Nat} (hk : k < M.length) (h : i = L.length ∨ (i < L.length ∧ slt (L.getD i pdflt).1 (M.getD k pdflt).1 = false ∧ slt (M.getD k pdflt).1 (L.getD i pdflt).1 = true)) :
    diffL (L.drop i) (M.drop k) = cAdd (M.getD k pdflt) :: diffL (L.drop i) (M.drop (k + 1)) := by
  rw [drop_pair hk]
  rcases h with rfl | ⟨hi, hs, ht⟩
  · rw [List.drop_length, diff_nil_cons]
  · rw [drop_pair hi, diff_cons_cons, if_neg (by rw [hs]; exact Bool.false_ne_true), if_pos ht]
theorem drop_both {L M : Prs} {i k : Nat} (hi : i < L.length) (hk : k < M.length) (h1 : slt (L.getD i pdflt).1 (M.getD k pdflt).1 = false) (h2 : slt (M.getD k pdflt).1 (L.getD i pdflt).1 = false) :
    diffL (L.drop i) (M.drop k) = if (L.getD i pdflt).2 = (M.getD k pdflt).2 then diffL (L.drop (i + 1)) (M.drop (k + 1)) else ⟨(L.getD i pdflt).1, (L.getD i pdflt).2, (M.getD k pdflt).2, true, true⟩ :: diffL (L.drop (i + 1)) (M.drop (k + 1)) := by
  rw [drop_pair hi, drop_pair hk, diff_cons_cons, if_neg (by rw [h1]; exact Bool.false_ne_true), if_neg (by rw [h2]; exact Bool.false_ne_true)]
theorem flat5_snoc (O : List Chg) (c : Chg) : flat5 (O ++ [c]) = flat5 O ++ chg5 c := by simp [flat5]
theorem own_sl5 {w : World} {base : Nat} {e : TypeId} {size : Nat} {v : Value} {n : Nat} {xs : List Value} (h : w.ownsRow base e size v n xs) : ∃ A c, v = .slice A n c := by
  rcases h.2 with ⟨rfl, e2⟩ | ⟨g, cap, cur, rfl, _⟩
  · exact ⟨none, 0, by subst e2; rfl⟩
  · exact ⟨_, _, rfl⟩
theorem below_own5 {w0 w w' : World} {t : TypeId} {size n : Nat} {v : Value} {xs : List Value} (h : Below w0.heap.size w0 w) (ho : w.ownsRow w0.heap.size t size v n xs) (hg : w.grownBy w' v.ownBlock) : Below w0.heap.size w0 w' :=
  ⟨hg.os.trans h.os, hg.tape.trans h.tape, hg.output.trans h.output, Nat.le_trans h.size hg.size, fun q hq => (hg.block q (Nat.lt_of_lt_of_le hq h.size) (fun e => by have := (ho.lt q e.symm).1; omega)).trans (h.block q hq)⟩
theorem ChgsAt.of_own {w : World} {base : Nat} {t : TypeId} {A : Option Addr} {n c : Nat} {l : List Chg} (h : w.ownsRow base t 5 (.slice A n c) n (flat5 l)) : ChgsAt w A n l := by
  have hl : l.length = n := by have := h.1; rw [flat5_len] at this; omega
  rcases h.2 with ⟨e1, e2⟩ | ⟨g, cap, cur, e1, h2, h3, h4, h5, _, _⟩
  · subst e2
    exact ⟨hl, Nat.zero_le _, fun i x hi => by
      have : l = [] := List.length_eq_zero_iff.1 hl
      rw [this] at hi; simp at hi⟩
  · simp only [Value.slice.injEq] at e1
    obtain ⟨rfl, _, rfl⟩ := e1
    refine ⟨hl, by omega, fun i x hi => ⟨g, 0, rfl, (Array.getElem?_eq_some_iff.1 h3).1, fun j v hj => ?_⟩⟩
    have := h.cells (g := g) rfl (i * 5 + j) v (flat5_at l i x j v hi hj)
    rw [WideShapes.add_plain] at this
    exact this
/-- What Diff's loop has between two rounds. -/
structure DiffI (L M : Prs) (w0 wr : World) (i k r : Nat) (v : Value) (O : List Chg) : Prop where
  own : wr.ownsRow w0.heap.size 76 5 v r (flat5 O)
  bel : Below w0.heap.size w0 wr
  eqn : O ++ diffL (L.drop i) (M.drop k) = diffL L M
  few : r ≤ i + k
set_option maxRecDepth 100000 in
set_option maxHeartbeats 4000000 in
theorem diff10_any (A B : Option Addr) (n c m d : Nat) (L M : Prs) (w : World) (hA : PairsAt w A n L) (hB : PairsAt w B m M) (hn : n ≤ 1000000) (hm : m ≤ 1000000) :
    Calls Tryz.prog 24 #[.slice A n c, .slice B m d] w fun e w' => ∃ C r g, e = .returned (.slice C r g) ∧ ChgsAt w' C r (diffL L M) ∧ Below w.heap.size w w' := by
  have HA := Lib.hid hA; clear hA
  have HB := Lib.hid hB; clear hB
  go_enter Tryz.func24, Tryz.ntmps24
  go_wp2_with fail
  go_loopw [5, 6, 7] (fun s5 s6 s7 wr => ∃ i k r O, i ≤ n ∧ k ≤ m ∧ s6 = .int .i64 (i : Int) ∧ s7 = .int .i64 (k : Int) ∧ DiffI L M w wr i k r s5 O) (fun _ s6 s7 _ => (n - (intOf s6).toNat) + (m - (intOf s7).toNat))
  case atStart => exact ⟨0, 0, 0, [], by omega, by omega, rfl, rfl, ⟨World.ownsRow_nil _ _ _ _, Below.refl _ _, rfl, Nat.le_refl _⟩⟩
  case round =>
    obtain ⟨i, k, r, O, hi, hk, rfl, rfl, hI⟩ := hrel
    obtain ⟨C, g, rfl⟩ := own_sl5 hI.own
    have hlA := HA.out.hlen
    have hlB := HB.out.hlen
    have hAr := HA.out.below hI.bel
    have hBr := HB.out.below hI.bel
    have HI := Lib.hid hI; clear hI
    obtain ⟨i0, hi0, hz0, hz1, hz2⟩ := info_parts info5
    by_cases hkm : k < m
    · have hkm' : (k : Int) < (m : Int) := by omega
      have hke : ((k : Int) == (m : Int)) = false := by simp; omega
      obtain ⟨b2, o2, rfl, hbl2, f0, f1⟩ := pairs_get hBr hkm
      have hsucck : IntKind.i64.wrap ((k : Int) + 1) = ((k + 1 : Nat) : Int) := by rw [IntKind.wrap_i64] <;> omega
      by_cases hin : i < n
      · have hin' : (i : Int) < (n : Int) := by omega
        have hie : ((i : Int) == (n : Int)) = false := by simp; omega
        obtain ⟨b, o, rfl, hbl, e0, e1⟩ := pairs_get hAr hin
        have hsucc : IntKind.i64.wrap ((i : Int) + 1) = ((i + 1 : Nat) : Int) := by rw [IntKind.wrap_i64] <;> omega
        have hdel := drop_del (L := L) (M := M) (i := i) (k := k) (by omega)
        have hadd := drop_add (L := L) (M := M) (i := i) (k := k) (by omega)
        have hboth := drop_both (L := L) (M := M) (i := i) (k := k) (by omega) (by omega)
        generalize L.getD i pdflt = p at *
        obtain ⟨pk, pv⟩ := p
        generalize M.getD k pdflt = q at *
        obtain ⟨qk, qv⟩ := q
        simp only at e0 e1 f0 f1 hdel hadd hboth
        by_cases h1 : slt pk qk = true
        · have Hstep := Lib.hid (hdel (.inr ⟨by omega, h1⟩))
          have h1' : Op.bytesLess pk.toList qk.toList = true := h1
          clear hlA hlB hAr hBr hdel hadd hboth h1
          go_upto_region 9 with (go_quiet (fail))
          refine RegS.wp_region (fun y => Below wr.heap.size wr y) [(0, 0), (1, 0), (2, 0), (3, 0), (4, 0), (5, 0), (6, 0), (7, 0), (8, 0), (9, 0), (10, 0), (11, 0), (12, 1), (13, 3), (14, 0)] (by kernel_rfl) (by kernel_rfl) (fun _ _ d _ _ h => by cases d <;> exact h) ⟨rfl, rfl, rfl, Nat.le_refl _, fun _ _ => rfl⟩ ?_
          dsimp only [RegR.pick, List.getElem?_cons_zero, List.getElem?_cons_succ]
          iterate 5 (refine RegS.reads ?_; intro K hK; go_simp; (first | (refine ⟨_, fun _ _ => rfl, hK _ ?_⟩) | (refine hK _ ?_)); clear hK K)
          refine RegS.reads ?_
          intro K hK
          go_simp
          refine ⟨.string pk, fun y hy => ?_, hK _ ?_⟩
          · have f0 := (hy.cell (p := ⟨b, o + i * 2, none⟩) hbl).trans e0
            go_simp
          clear hK K
          iterate 4 (refine RegS.reads ?_; intro K hK; go_simp; (first | (refine ⟨_, fun _ _ => rfl, hK _ ?_⟩) | (refine hK _ ?_)); clear hK K)
          refine RegS.reads ?_
          intro K hK
          go_simp
          refine ⟨.string pv, fun y hy => ?_, hK _ ?_⟩
          · have f0 := (hy.cell (p := ⟨b, o + i * 2 + 1, none⟩) hbl).trans e1
            go_simp
          clear hK K
          iterate 1 (refine RegS.reads ?_; intro K hK; go_simp; (first | (refine ⟨_, fun _ _ => rfl, hK _ ?_⟩) | (refine hK _ ?_)); clear hK K)
          refine RegS.turn rfl ?_
          intro K hK
          have hbw := (Below.refl _ wr).alloc (Nat.le_refl _) (.cells #[.string pk, .string pv, .string ByteArray.empty, .bool true, .bool false] 76)
          go_simp
          refine hK _ _ ⟨hbw.os, hbw.tape, hbw.output, hbw.size, hbw.block⟩ ?_
          clear hK K
          have hcN := five_cells wr (.string pk) (.string pv) (.string ByteArray.empty) (.bool true) (.bool false) 76
          refine RegS.free rfl ?_
          intro K hK
          refine wp_append_own _ _ _ 73 rfl w.heap.size 76 i0 _ 5 56 Tryz.underlying73 hi0 hz0 hz1 hz2 rfl (by decide) (.slice C r g) r _ rfl (show World.ownsRow _ _ _ _ _ _ _ from HI.out.own.alloc _) ⟨wr.heap.size, 0, none⟩ 1 1 [.string pk, .string pv, .string ByteArray.empty, .bool true, .bool false] rfl rfl hcN (by simp [Value.oneCell']) (by unfold maxLen; have := HI.out.few; omega) (by have := HI.out.few; omega) (by have := HI.out.bel.size; show _ ≤ (wr.alloc _).heap.size; simp; omega) ?_
          intro v' w' hown' hgr hnil
          refine hK _ _ ?_
          clear hK K
          iterate 1 (refine RegS.reads ?_; intro K hK; go_simp; (first | (refine ⟨_, fun _ _ => rfl, hK _ ?_⟩) | (refine hK _ ?_)); clear hK K)
          refine RegS.nil ?_
          obtain ⟨C', g', rfl⟩ := own_sl5 hown'
          have hb' : Below w.heap.size w w' := by
            refine below_own5 (t := 76) (size := 5) (n := r) (xs := flat5 O) ?_ ?_ hgr
            rotate_left
            · exact HI.out.own.alloc _
            · exact HI.out.bel.trans (Below.mono ⟨hbw.os, hbw.tape, hbw.output, hbw.size, hbw.block⟩ HI.out.bel.size)
          have heq : (O ++ [cDel (pk, pv)]) ++ diffL (L.drop (i + 1)) (M.drop (k)) = diffL L M := by
            rw [← HI.out.eqn, Hstep.out, List.append_assoc]
            rfl
          have hfew := HI.out.few
          have Hb' := Lib.hid hb'; clear hb'
          have Heq := Lib.hid heq; clear heq
          have Hown := Lib.hid hown'; clear hown' hgr hnil
          clear hbw hcN
          go_wp2_with fail
          go_roundw
          case rel => exact ⟨i + 1, k, r + 1, O ++ [cDel (pk, pv)], by omega, by omega, rfl, rfl, by rw [flat5_snoc]; exact Hown.out, Hb'.out, Heq.out, by omega⟩
          case measure => simp [intOf]; omega
        · by_cases h2 : slt qk pk = true
          · have Hstep := Lib.hid (hadd (.inr ⟨by omega, by simpa using h1, h2⟩))
            have h1' : Op.bytesLess pk.toList qk.toList = false := by simpa [slt] using h1
            have h2' : Op.bytesLess qk.toList pk.toList = true := h2
            clear hlA hlB hAr hBr hdel hadd hboth h1 h2
            go_upto_region 12 with (go_quiet (fail))
            refine RegS.wp_region (fun y => Below wr.heap.size wr y) [(0, 0), (1, 0), (2, 0), (3, 0), (4, 0), (5, 0), (6, 0), (7, 0), (8, 0), (9, 0), (10, 0), (11, 0), (12, 1), (13, 3), (14, 0)] (by kernel_rfl) (by kernel_rfl) (fun _ _ d _ _ h => by cases d <;> exact h) ⟨rfl, rfl, rfl, Nat.le_refl _, fun _ _ => rfl⟩ ?_
            dsimp only [RegR.pick, List.getElem?_cons_zero, List.getElem?_cons_succ]
            iterate 5 (refine RegS.reads ?_; intro K hK; go_simp; (first | (refine ⟨_, fun _ _ => rfl, hK _ ?_⟩) | (refine hK _ ?_)); clear hK K)
            refine RegS.reads ?_
            intro K hK
            go_simp
            refine ⟨.string qk, fun y hy => ?_, hK _ ?_⟩
            · have g0 := (hy.cell (p := ⟨b2, o2 + k * 2, none⟩) hbl2).trans f0
              go_simp
            clear hK K
            iterate 4 (refine RegS.reads ?_; intro K hK; go_simp; (first | (refine ⟨_, fun _ _ => rfl, hK _ ?_⟩) | (refine hK _ ?_)); clear hK K)
            refine RegS.reads ?_
            intro K hK
            go_simp
            refine ⟨.string qv, fun y hy => ?_, hK _ ?_⟩
            · have g0 := (hy.cell (p := ⟨b2, o2 + k * 2 + 1, none⟩) hbl2).trans f1
              go_simp
            clear hK K
            iterate 1 (refine RegS.reads ?_; intro K hK; go_simp; (first | (refine ⟨_, fun _ _ => rfl, hK _ ?_⟩) | (refine hK _ ?_)); clear hK K)
            refine RegS.turn rfl ?_
            intro K hK
            have hbw := (Below.refl _ wr).alloc (Nat.le_refl _) (.cells #[.string qk, .string ByteArray.empty, .string qv, .bool false, .bool true] 76)
            go_simp
            refine hK _ _ ⟨hbw.os, hbw.tape, hbw.output, hbw.size, hbw.block⟩ ?_
            clear hK K
            have hcN := five_cells wr (.string qk) (.string ByteArray.empty) (.string qv) (.bool false) (.bool true) 76
            refine RegS.free rfl ?_
            intro K hK
            refine wp_append_own _ _ _ 73 rfl w.heap.size 76 i0 _ 5 56 Tryz.underlying73 hi0 hz0 hz1 hz2 rfl (by decide) (.slice C r g) r _ rfl (show World.ownsRow _ _ _ _ _ _ _ from HI.out.own.alloc _) ⟨wr.heap.size, 0, none⟩ 1 1 [.string qk, .string ByteArray.empty, .string qv, .bool false, .bool true] rfl rfl hcN (by simp [Value.oneCell']) (by unfold maxLen; have := HI.out.few; omega) (by have := HI.out.few; omega) (by have := HI.out.bel.size; show _ ≤ (wr.alloc _).heap.size; simp; omega) ?_
            intro v' w' hown' hgr hnil
            refine hK _ _ ?_
            clear hK K
            iterate 1 (refine RegS.reads ?_; intro K hK; go_simp; (first | (refine ⟨_, fun _ _ => rfl, hK _ ?_⟩) | (refine hK _ ?_)); clear hK K)
            refine RegS.nil ?_
            obtain ⟨C', g', rfl⟩ := own_sl5 hown'
            have hb' : Below w.heap.size w w' := by
              refine below_own5 (t := 76) (size := 5) (n := r) (xs := flat5 O) ?_ ?_ hgr
              rotate_left
              · exact HI.out.own.alloc _
              · exact HI.out.bel.trans (Below.mono ⟨hbw.os, hbw.tape, hbw.output, hbw.size, hbw.block⟩ HI.out.bel.size)
            have heq : (O ++ [cAdd (qk, qv)]) ++ diffL (L.drop (i)) (M.drop (k + 1)) = diffL L M := by
              rw [← HI.out.eqn, Hstep.out, List.append_assoc]
              rfl
            have hfew := HI.out.few
            have Hb' := Lib.hid hb'; clear hb'
            have Heq := Lib.hid heq; clear heq
            have Hown := Lib.hid hown'; clear hown' hgr hnil
            clear hbw hcN
            go_wp2_with fail
            go_roundw
            case rel => exact ⟨i, k + 1, r + 1, O ++ [cAdd (qk, qv)], by omega, by omega, rfl, rfl, by rw [flat5_snoc]; exact Hown.out, Hb'.out, Heq.out, by omega⟩
            case measure => simp [intOf]; omega
          · have hst := hboth (by simpa using h1) (by simpa using h2)
            have h1' : Op.bytesLess pk.toList qk.toList = false := by simpa [slt] using h1
            have h2' : Op.bytesLess qk.toList pk.toList = false := by simpa [slt] using h2
            by_cases hv : pv = qv
            · subst hv
              rw [if_pos rfl] at hst
              have heq : O ++ diffL (L.drop (i + 1)) (M.drop (k + 1)) = diffL L M := by rw [← HI.out.eqn, hst]
              have Heq := Lib.hid heq; clear heq hst
              have hfew := HI.out.few
              clear hlA hlB hAr hBr hdel hadd hboth h1 h2
              go_wp2_with (go_quiet (fail))
              go_roundw
              case rel => exact ⟨i + 1, k + 1, r, O, by omega, by omega, rfl, rfl, HI.out.own, HI.out.bel.trans ((bel_drewN wr _).mono HI.out.bel.size), Heq.out, by omega⟩
              case measure => simp [intOf]; omega
            · rw [if_neg hv] at hst
              have hvt := txt_ne hv
              have Hstep := Lib.hid hst; clear hst
              clear hlA hlB hAr hBr hdel hadd hboth h1 h2 hv
              go_upto_region 5 with (go_quiet (fail))
              refine RegS.wp_region (fun y => Below wr.heap.size wr y) [(0, 0), (1, 0), (2, 0), (3, 0), (4, 0), (5, 0), (6, 0), (7, 0), (8, 0), (9, 0), (10, 0), (11, 0), (12, 0), (13, 0), (14, 0), (15, 0), (16, 0), (17, 1), (18, 3), (19, 0)] (by kernel_rfl) (by kernel_rfl) (fun _ _ d _ _ h => by cases d <;> exact h) ⟨rfl, rfl, rfl, Nat.le_refl _, fun _ _ => rfl⟩ ?_
              dsimp only [RegR.pick, List.getElem?_cons_zero, List.getElem?_cons_succ]
              iterate 5 (refine RegS.reads ?_; intro K hK; go_simp; (first | (refine ⟨_, fun _ _ => rfl, hK _ ?_⟩) | (refine hK _ ?_)); clear hK K)
              refine RegS.reads ?_
              intro K hK
              go_simp
              refine ⟨.string pk, fun y hy => ?_, hK _ ?_⟩
              · have f0 := (hy.cell (p := ⟨b, o + i * 2, none⟩) hbl).trans e0
                go_simp
              clear hK K
              iterate 4 (refine RegS.reads ?_; intro K hK; go_simp; (first | (refine ⟨_, fun _ _ => rfl, hK _ ?_⟩) | (refine hK _ ?_)); clear hK K)
              refine RegS.reads ?_
              intro K hK
              go_simp
              refine ⟨.string pv, fun y hy => ?_, hK _ ?_⟩
              · have f0 := (hy.cell (p := ⟨b, o + i * 2 + 1, none⟩) hbl).trans e1
                go_simp
              clear hK K
              iterate 4 (refine RegS.reads ?_; intro K hK; go_simp; (first | (refine ⟨_, fun _ _ => rfl, hK _ ?_⟩) | (refine hK _ ?_)); clear hK K)
              refine RegS.reads ?_
              intro K hK
              go_simp
              refine ⟨.string qv, fun y hy => ?_, hK _ ?_⟩
              · have g0 := (hy.cell (p := ⟨b2, o2 + k * 2 + 1, none⟩) hbl2).trans f1
                go_simp
              clear hK K
              iterate 1 (refine RegS.reads ?_; intro K hK; go_simp; (first | (refine ⟨_, fun _ _ => rfl, hK _ ?_⟩) | (refine hK _ ?_)); clear hK K)
              refine RegS.turn rfl ?_
              intro K hK
              have hbw := (Below.refl _ wr).alloc (Nat.le_refl _) (.cells #[.string pk, .string pv, .string qv, .bool true, .bool true] 76)
              go_simp
              refine hK _ _ ⟨hbw.os, hbw.tape, hbw.output, hbw.size, hbw.block⟩ ?_
              clear hK K
              have hcN := five_cells wr (.string pk) (.string pv) (.string qv) (.bool true) (.bool true) 76
              refine RegS.free rfl ?_
              intro K hK
              refine wp_append_own _ _ _ 73 rfl w.heap.size 76 i0 _ 5 56 Tryz.underlying73 hi0 hz0 hz1 hz2 rfl (by decide) (.slice C r g) r _ rfl (show World.ownsRow _ _ _ _ _ _ _ from HI.out.own.alloc _) ⟨wr.heap.size, 0, none⟩ 1 1 [.string pk, .string pv, .string qv, .bool true, .bool true] rfl rfl hcN (by simp [Value.oneCell']) (by unfold maxLen; have := HI.out.few; omega) (by have := HI.out.few; omega) (by have := HI.out.bel.size; show _ ≤ (wr.alloc _).heap.size; simp; omega) ?_
              intro v' w' hown' hgr hnil
              refine hK _ _ ?_
              clear hK K
              iterate 1 (refine RegS.reads ?_; intro K hK; go_simp; (first | (refine ⟨_, fun _ _ => rfl, hK _ ?_⟩) | (refine hK _ ?_)); clear hK K)
              refine RegS.nil ?_
              obtain ⟨C', g', rfl⟩ := own_sl5 hown'
              have hb' : Below w.heap.size w w' := by
                refine below_own5 (t := 76) (size := 5) (n := r) (xs := flat5 O) ?_ ?_ hgr
                rotate_left
                · exact HI.out.own.alloc _
                · exact HI.out.bel.trans (Below.mono ⟨hbw.os, hbw.tape, hbw.output, hbw.size, hbw.block⟩ HI.out.bel.size)
              have heq : (O ++ [⟨pk, pv, qv, true, true⟩]) ++ diffL (L.drop (i + 1)) (M.drop (k + 1)) = diffL L M := by
                rw [← HI.out.eqn, Hstep.out, List.append_assoc]
                rfl
              have hfew := HI.out.few
              have Hb' := Lib.hid hb'; clear hb'
              have Heq := Lib.hid heq; clear heq
              have Hown := Lib.hid hown'; clear hown' hgr hnil
              clear hbw hcN
              go_wp2_with fail
              go_roundw
              case rel => exact ⟨i + 1, k + 1, r + 1, O ++ [⟨pk, pv, qv, true, true⟩], by omega, by omega, rfl, rfl, by rw [flat5_snoc]; exact Hown.out, Hb'.out, Heq.out, by omega⟩
              case measure => simp [intOf]; omega
      · obtain rfl : i = n := by omega
        have Hstep := Lib.hid (drop_add (L := L) (M := M) (i := i) (k := k) (by omega) (.inl hlA.symm))
        generalize M.getD k pdflt = q at *
        obtain ⟨qk, qv⟩ := q
        simp only at f0 f1
        clear hlA hlB hAr hBr
        go_upto_region 12 with (go_quiet (fail))
        refine RegS.wp_region (fun y => Below wr.heap.size wr y) [(0, 0), (1, 0), (2, 0), (3, 0), (4, 0), (5, 0), (6, 0), (7, 0), (8, 0), (9, 0), (10, 0), (11, 0), (12, 1), (13, 3), (14, 0)] (by kernel_rfl) (by kernel_rfl) (fun _ _ d _ _ h => by cases d <;> exact h) ⟨rfl, rfl, rfl, Nat.le_refl _, fun _ _ => rfl⟩ ?_
        dsimp only [RegR.pick, List.getElem?_cons_zero, List.getElem?_cons_succ]
        iterate 5 (refine RegS.reads ?_; intro K hK; go_simp; (first | (refine ⟨_, fun _ _ => rfl, hK _ ?_⟩) | (refine hK _ ?_)); clear hK K)
        refine RegS.reads ?_
        intro K hK
        go_simp
        refine ⟨.string qk, fun y hy => ?_, hK _ ?_⟩
        · have g0 := (hy.cell (p := ⟨b2, o2 + k * 2, none⟩) hbl2).trans f0
          go_simp
        clear hK K
        iterate 4 (refine RegS.reads ?_; intro K hK; go_simp; (first | (refine ⟨_, fun _ _ => rfl, hK _ ?_⟩) | (refine hK _ ?_)); clear hK K)
        refine RegS.reads ?_
        intro K hK
        go_simp
        refine ⟨.string qv, fun y hy => ?_, hK _ ?_⟩
        · have g0 := (hy.cell (p := ⟨b2, o2 + k * 2 + 1, none⟩) hbl2).trans f1
          go_simp
        clear hK K
        iterate 1 (refine RegS.reads ?_; intro K hK; go_simp; (first | (refine ⟨_, fun _ _ => rfl, hK _ ?_⟩) | (refine hK _ ?_)); clear hK K)
        refine RegS.turn rfl ?_
        intro K hK
        have hbw := (Below.refl _ wr).alloc (Nat.le_refl _) (.cells #[.string qk, .string ByteArray.empty, .string qv, .bool false, .bool true] 76)
        go_simp
        refine hK _ _ ⟨hbw.os, hbw.tape, hbw.output, hbw.size, hbw.block⟩ ?_
        clear hK K
        have hcN := five_cells wr (.string qk) (.string ByteArray.empty) (.string qv) (.bool false) (.bool true) 76
        refine RegS.free rfl ?_
        intro K hK
        refine wp_append_own _ _ _ 73 rfl w.heap.size 76 i0 _ 5 56 Tryz.underlying73 hi0 hz0 hz1 hz2 rfl (by decide) (.slice C r g) r _ rfl (show World.ownsRow _ _ _ _ _ _ _ from HI.out.own.alloc _) ⟨wr.heap.size, 0, none⟩ 1 1 [.string qk, .string ByteArray.empty, .string qv, .bool false, .bool true] rfl rfl hcN (by simp [Value.oneCell']) (by unfold maxLen; have := HI.out.few; omega) (by have := HI.out.few; omega) (by have := HI.out.bel.size; show _ ≤ (wr.alloc _).heap.size; simp; omega) ?_
        intro v' w' hown' hgr hnil
        refine hK _ _ ?_
        clear hK K
        iterate 1 (refine RegS.reads ?_; intro K hK; go_simp; (first | (refine ⟨_, fun _ _ => rfl, hK _ ?_⟩) | (refine hK _ ?_)); clear hK K)
        refine RegS.nil ?_
        obtain ⟨C', g', rfl⟩ := own_sl5 hown'
        have hb' : Below w.heap.size w w' := by
          refine below_own5 (t := 76) (size := 5) (n := r) (xs := flat5 O) ?_ ?_ hgr
          rotate_left
          · exact HI.out.own.alloc _
          · exact HI.out.bel.trans (Below.mono ⟨hbw.os, hbw.tape, hbw.output, hbw.size, hbw.block⟩ HI.out.bel.size)
        have heq : (O ++ [cAdd (qk, qv)]) ++ diffL (L.drop (i)) (M.drop (k + 1)) = diffL L M := by
          rw [← HI.out.eqn, Hstep.out, List.append_assoc]
          rfl
        have hfew := HI.out.few
        have Hb' := Lib.hid hb'; clear hb'
        have Heq := Lib.hid heq; clear heq
        have Hown := Lib.hid hown'; clear hown' hgr hnil
        clear hbw hcN
        go_wp2_with fail
        go_roundw
        case rel => exact ⟨i, k + 1, r + 1, O ++ [cAdd (qk, qv)], by omega, by omega, rfl, rfl, by rw [flat5_snoc]; exact Hown.out, Hb'.out, Heq.out, by omega⟩
        case measure => simp [intOf]; omega
    · obtain rfl : k = m := by omega
      by_cases hin : i < n
      · have hin' : (i : Int) < (n : Int) := by omega
        have hstep := drop_del (L := L) (M := M) (i := i) (k := k) (by omega) (.inl hlB.symm)
        obtain ⟨b, o, rfl, hbl, e0, e1⟩ := pairs_get hAr hin
        have hsucc : IntKind.i64.wrap ((i : Int) + 1) = ((i + 1 : Nat) : Int) := by rw [IntKind.wrap_i64] <;> omega
        generalize L.getD i pdflt = p at *
        obtain ⟨pk, pv⟩ := p
        simp only at e0 e1
        have Hstep := Lib.hid hstep; clear hstep
        clear hlA hlB hAr hBr
        go_upto_region 9 with (go_quiet (fail))
        refine RegS.wp_region (fun y => Below wr.heap.size wr y) [(0, 0), (1, 0), (2, 0), (3, 0), (4, 0), (5, 0), (6, 0), (7, 0), (8, 0), (9, 0), (10, 0), (11, 0), (12, 1), (13, 3), (14, 0)] (by kernel_rfl) (by kernel_rfl) (fun _ _ d _ _ h => by cases d <;> exact h) ⟨rfl, rfl, rfl, Nat.le_refl _, fun _ _ => rfl⟩ ?_
        dsimp only [RegR.pick, List.getElem?_cons_zero, List.getElem?_cons_succ]
        iterate 5 (refine RegS.reads ?_; intro K hK; go_simp; (first | (refine ⟨_, fun _ _ => rfl, hK _ ?_⟩) | (refine hK _ ?_)); clear hK K)
        refine RegS.reads ?_
        intro K hK
        go_simp
        refine ⟨.string pk, fun y hy => ?_, hK _ ?_⟩
        · have f0 := (hy.cell (p := ⟨b, o + i * 2, none⟩) hbl).trans e0
          go_simp
        clear hK K
        iterate 4 (refine RegS.reads ?_; intro K hK; go_simp; (first | (refine ⟨_, fun _ _ => rfl, hK _ ?_⟩) | (refine hK _ ?_)); clear hK K)
        refine RegS.reads ?_
        intro K hK
        go_simp
        refine ⟨.string pv, fun y hy => ?_, hK _ ?_⟩
        · have f0 := (hy.cell (p := ⟨b, o + i * 2 + 1, none⟩) hbl).trans e1
          go_simp
        clear hK K
        iterate 1 (refine RegS.reads ?_; intro K hK; go_simp; (first | (refine ⟨_, fun _ _ => rfl, hK _ ?_⟩) | (refine hK _ ?_)); clear hK K)
        refine RegS.turn rfl ?_
        intro K hK
        have hbw := (Below.refl _ wr).alloc (Nat.le_refl _) (.cells #[.string pk, .string pv, .string ByteArray.empty, .bool true, .bool false] 76)
        go_simp
        refine hK _ _ ⟨hbw.os, hbw.tape, hbw.output, hbw.size, hbw.block⟩ ?_
        clear hK K
        have hcN := five_cells wr (.string pk) (.string pv) (.string ByteArray.empty) (.bool true) (.bool false) 76
        refine RegS.free rfl ?_
        intro K hK
        refine wp_append_own _ _ _ 73 rfl w.heap.size 76 i0 _ 5 56 Tryz.underlying73 hi0 hz0 hz1 hz2 rfl (by decide) (.slice C r g) r _ rfl (show World.ownsRow _ _ _ _ _ _ _ from HI.out.own.alloc _) ⟨wr.heap.size, 0, none⟩ 1 1 [.string pk, .string pv, .string ByteArray.empty, .bool true, .bool false] rfl rfl hcN (by simp [Value.oneCell']) (by unfold maxLen; have := HI.out.few; omega) (by have := HI.out.few; omega) (by have := HI.out.bel.size; show _ ≤ (wr.alloc _).heap.size; simp; omega) ?_
        intro v' w' hown' hgr hnil
        refine hK _ _ ?_
        clear hK K
        iterate 1 (refine RegS.reads ?_; intro K hK; go_simp; (first | (refine ⟨_, fun _ _ => rfl, hK _ ?_⟩) | (refine hK _ ?_)); clear hK K)
        refine RegS.nil ?_
        obtain ⟨C', g', rfl⟩ := own_sl5 hown'
        have hb' : Below w.heap.size w w' := by
          refine below_own5 (t := 76) (size := 5) (n := r) (xs := flat5 O) ?_ ?_ hgr
          rotate_left
          · exact HI.out.own.alloc _
          · exact HI.out.bel.trans (Below.mono ⟨hbw.os, hbw.tape, hbw.output, hbw.size, hbw.block⟩ HI.out.bel.size)
        have heq : (O ++ [cDel (pk, pv)]) ++ diffL (L.drop (i + 1)) (M.drop (k)) = diffL L M := by
          rw [← HI.out.eqn, Hstep.out, List.append_assoc]
          rfl
        have hfew := HI.out.few
        have Hb' := Lib.hid hb'; clear hb'
        have Heq := Lib.hid heq; clear heq
        have Hown := Lib.hid hown'; clear hown' hgr hnil
        clear hbw hcN
        go_wp2_with fail
        go_roundw
        case rel => exact ⟨i + 1, k, r + 1, O ++ [cDel (pk, pv)], by omega, by omega, rfl, rfl, by rw [flat5_snoc]; exact Hown.out, Hb'.out, Heq.out, by omega⟩
        case measure => simp [intOf]; omega
      · obtain rfl : i = n := by omega
        have hfin : ChgsAt wr C r (diffL L M) := by
          rw [← HI.out.eqn, show i = L.length by omega, show k = M.length by omega, List.drop_length, List.drop_length, diff_nil_nil, List.append_nil]
          exact ChgsAt.of_own HI.out.own
        have Hfin := Lib.hid (And.intro hfin HI.out.bel); clear hfin HI
        clear hlA hlB hAr hBr
        go_wp2_with fail
        go_ret
        exact ⟨C, r, g, rfl, Hfin.out.1, Hfin.out.2⟩
end Go.Proofs.YtkngadbeflepoaaGreat
