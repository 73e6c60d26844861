/- The document's pairs (palaverref10): Put, Del. Condition: pairs that lie in a slice, at most 1000000 of them. -/
import Derived.Deep.DeepCutAuto
import Derived.Test.YtbckjgageofldaaGreatZLearnNil11
namespace Go.Proofs.YtbckjgageofldaaGreat
open Go.RowKit
theorem idx_cons (a : ByteArray × ByteArray) (L : Prs) (k : ByteArray) : idxOf (a :: L) k = if ltB k a then idxOf L k + 1 else 0 := by
 unfold idxOf
 by_cases h : ltB k a = true
 ·
  rw [if_pos h, List.takeWhile_cons_of_pos h]; rfl
 ·
  rw [if_neg h, List.takeWhile_cons_of_neg h]; rfl
theorem idx_le (L : Prs) (k : ByteArray) : idxOf L k ≤ L.length := by
 unfold idxOf
 exact (List.takeWhile_sublist _).length_le
theorem isAt_lt {L : Prs} {k : ByteArray} (h : isAt L k = true) : idxOf L k < L.length := by
 unfold isAt at h
 rcases Nat.lt_or_ge (idxOf L k) L.length with h' | h'
 ·
  exact h'
 ·
  rw [List.drop_of_length_le h'] at h; cases h
theorem idx_split (k : ByteArray) : ∀ {L : Prs}, Asc L → L.take (idxOf L k) = L.filter (ltB k) ∧ L.drop (idxOf L k + if isAt L k then 1 else 0) = L.filter (gtB k)
 | [], _ => ⟨rfl, by simp [idxOf, isAt]⟩
 | a :: L, h => by
  obtain ⟨h1, h2⟩ := List.pairwise_cons.1 h
  obtain ⟨e1, e2⟩ := idx_split k h2
  have hi := idx_cons a L k
  by_cases hlt : ltB k a = true
  ·
   rw [if_pos hlt] at hi
   have hat : isAt (a :: L) k = isAt L k := by unfold isAt; rw [hi]; rfl
   have hgt : gtB k a = false := slt_asymm hlt
   rw [hat, hi]
   refine ⟨?_, ?_⟩
   ·
    rw [List.take_succ_cons, e1, List.filter_cons_of_pos hlt]
   ·
    rw [List.filter_cons_of_neg (by rw [hgt]; exact Bool.false_ne_true), ← e2, show idxOf L k + 1 + (if isAt L k then 1 else 0) = (idxOf L k + if isAt L k then 1 else 0) + 1 by omega, List.drop_succ_cons]
  ·
   rw [if_neg hlt] at hi
   have hno : ∀ q ∈ a :: L, ltB k q = false := by
    intro q hq
    rcases List.mem_cons.1 hq with rfl | hq
    ·
     simpa using hlt
    ·
     rw [Bool.eq_false_iff]
     intro hc
     exact hlt (slt_trans (h1 q hq) hc)
   have hat : isAt (a :: L) k = decide (a.1 = k) := by unfold isAt; rw [hi]; rfl
   rw [hi]
   refine ⟨by rw [filter_no hno]; rfl, ?_⟩
   rw [hat]
   by_cases e : a.1 = k
   ·
    have hgt : gtB k a = false := by unfold gtB; rw [e]; exact slt_irrefl k
    simp only [e, decide_true, if_true, Nat.zero_add, List.drop_succ_cons, List.drop_zero]
    rw [List.filter_cons_of_neg (by rw [hgt]; exact Bool.false_ne_true)]
    exact (filter_all fun q hq => by unfold gtB; rw [← e]; exact h1 q hq).symm
   ·
    have hka : slt k a.1 = true := by
     rw [← Bool.not_eq_false]
     intro hc
     exact e (slt_total (by simpa [ltB] using hlt) hc)
    simp only [e, decide_false, Bool.false_eq_true, if_false, Nat.zero_add, List.drop_zero]
    exact (filter_all fun q hq => by
     rcases List.mem_cons.1 hq with rfl | hq
     ·
      exact hka
     ·
      exact slt_trans hka (h1 q hq)).symm
theorem ins_eq {L : Prs} (h : Asc L) (k v : ByteArray) : L.take (idxOf L k) ++ [(k, v)] ++ L.drop (idxOf L k + if isAt L k then 1 else 0) = insL L k v := by
 obtain ⟨e1, e2⟩ := idx_split k h
 rw [e1, e2]
 simp [insL]
theorem rm_eq {L : Prs} (h : Asc L) (k : ByteArray) (ha : isAt L k = true) : L.take (idxOf L k) ++ L.drop (idxOf L k + 1) = rmL L k := by
 obtain ⟨e1, e2⟩ := idx_split k h
 rw [ha, if_pos rfl] at e2
 rw [e1, e2]
 rfl
theorem rm_no {L : Prs} (h : Asc L) (k : ByteArray) (ha : isAt L k = false) : L = rmL L k := by
 obtain ⟨e1, e2⟩ := idx_split k h
 rw [ha] at e2
 simp only [Bool.false_eq_true, if_false, Nat.add_zero] at e2
 unfold rmL
 rw [← e1, ← e2, List.take_append_drop]
theorem own_sl {w : World} {base : Nat} {e : TypeId} {size : Nat} {v : Value} {n : Nat} {xs : List Value} (h : w.ownsRow base e size v n xs) : ∃ A c, v = .slice A n c := by
 rcases h.2 with ⟨e1, e2⟩ | ⟨g, cap, cur, e1, _⟩
 ·
  exact ⟨none, 0, by rw [e1, e2]⟩
 ·
  exact ⟨_, _, e1⟩
def POk (A : Option Addr) (n c : Nat) : Prop := (A = none ∧ n = 0 ∧ c = 0) ∨ ∃ b o, A = some ⟨b, o, none⟩ ∧ n ≤ c ∧ c ≤ maxLen
theorem own_pok {w : World} {base : Nat} {e : TypeId} {size : Nat} {A : Option Addr} {n c : Nat} {xs : List Value} (h : w.ownsRow base e size (.slice A n c) n xs) : POk A n c := by
 rcases h.2 with ⟨e1, e2⟩ | ⟨g, cap, cur, e1, h2, h3, h4, h5, _, _⟩
 ·
  simp only [Value.slice.injEq] at e1
  exact .inl ⟨e1.1, e2, e1.2.2⟩
 ·
  simp only [Value.slice.injEq] at e1
  exact .inr ⟨g, 0, e1.1, by rw [e1.2.2]; exact h4, by rw [e1.2.2]; exact h5⟩
theorem infoPair : (Tryz.prog.info? 204).map (fun i => (i.zero, i.size, i.bytes)) = some (some (.agg #[.string ByteArray.empty, .string ByteArray.empty]), 2, 32) := by kernel_rfl
def PTy (w : World) (A : Option Addr) : Prop := ∀ b o, A = some ⟨b, o, none⟩ → ∃ cs, w.heap[b]? = some (.cells cs 204 (0, 0))
theorem PTy.below {w w' : World} {A : Option Addr} (h : PTy w A) (hb : Below w.heap.size w w') : PTy w' A := fun b o e => by
 obtain ⟨cs, h1⟩ := h b o e
 exact ⟨cs, (hb.block b (Array.getElem?_eq_some_iff.1 h1).1).trans h1⟩
def PrsPost (L : Prs) (w : World) (e : Ending) (w' : World) : Prop := ∃ A n c, e = .returned (.slice A n c) ∧ PairsAt w' A n L ∧ Below w.heap.size w w' ∧ POk A n c ∧ PTy w' A
theorem cells_two (w : World) (u v : Value) (t : TypeId) : ∀ j x, ([u, v] : List Value)[j]? = some x → (w.alloc (.cells #[u, v] t)).cell? (Addr.add ⟨w.heap.size, 0, none⟩ j) = some x := by
 intro j x hx
 have h := heap_alloc_new w (.cells #[u, v] t)
 rw [WideShapes.add_plain, Nat.zero_add, cell_of_row _ _ _ _ _ _ h]
 match j, hx with
 | 0, hx => simpa using hx
 | 1, hx => simpa using hx
 | j + 2, hx => simp at hx
structure Mine (w0 w : World) (v : Value) (n : Nat) (L : Prs) : Prop where
 bel : Below w0.heap.size w0 w
 own : w.ownsRow w0.heap.size 204 2 v n (flatPairs L)
theorem Mine.grow {w0 w w' : World} {v v' : Value} {n n' : Nat} {L L' : Prs} (h : Mine w0 w v n L) (hg : w.grownBy w' v.ownBlock) (ho : w'.ownsRow w0.heap.size 204 2 v' n' (flatPairs L')) : Mine w0 w' v' n' L' :=
 ⟨⟨hg.os.trans h.bel.os, hg.tape.trans h.bel.tape, hg.output.trans h.bel.output, Nat.le_trans h.bel.size hg.size, fun q hq => (hg.block q (Nat.lt_of_lt_of_le hq h.bel.size) (fun e => by have := (h.own.lt q e.symm).1; omega)).trans (h.bel.block q hq)⟩, ho⟩
theorem Mine.alloc {w0 w : World} {v : Value} {n : Nat} {L : Prs} (h : Mine w0 w v n L) (o : Obj) : Mine w0 (w.alloc o) v n L := ⟨h.bel.alloc h.bel.size o, h.own.alloc _⟩
theorem Mine.post {w0 w : World} {A : Option Addr} {n c : Nat} {L : Prs} (h : Mine w0 w (.slice A n c) n L) : PrsPost L w0 (.returned (.slice A n c)) w := ⟨A, n, c, rfl, PairsAt.of_own h.own, h.bel, own_pok h.own, fun b o e => by
 rcases h.own.2 with ⟨e1, _⟩ | ⟨g, cap, cur, e1, _, h3, _⟩
 ·
  simp only [Value.slice.injEq] at e1
  rw [e1.1] at e
  cases e
 ·
  simp only [Value.slice.injEq] at e1
  rw [e1.1] at e
  cases e
  exact ⟨cur, h3⟩⟩
set_option maxRecDepth 100000 in
set_option maxHeartbeats 4000000 in
theorem put10_any (A : Option Addr) (n c : Nat) (L : Prs) (k v : ByteArray) (w : World) (h : PairsAt w A n L) (hok : POk A n c) (hasc : Asc L) (hn : n ≤ 1000000) :
  Calls Tryz.prog 147 #[.slice A n c, .string k, .string v] w (PrsPost (insL L k v) w) := by
 have hins := ins_eq hasc k v
 have hf := find10_any A n c L k w h
 have hil := idx_le L k
 have hl := h.hlen
 have hatl := isAt_lt (L := L) (k := k)
 obtain ⟨R, hR⟩ : ∃ R, insL L k v = R := ⟨_, rfl⟩
 rw [hR] at hins ⊢
 clear hR hasc
 generalize idxOf L k = i at *
 generalize isAt L k = is at *
 have Hf := Lib.hid hf; clear hf
 have H := Lib.hid h; clear h
 have HR := Lib.hid hins; clear hins
 obtain ⟨i0, hi0, hz0, hz1, hz2⟩ := info_parts infoPair
 rcases hok with ⟨rfl, rfl, rfl⟩ | ⟨b, o, rfl, hnc, hcm⟩
 ·
  obtain rfl : L = [] := List.eq_nil_of_length_eq_zero hl
  obtain rfl : i = 0 := by simpa using hil
  have his : is = false := by
   cases is with
   | false => rfl
   | true => have := hatl rfl; simp at this
  subst his
  have hR : R = [(k, v)] := by rw [← HR.out]; rfl
  subst hR
  clear hatl HR
  go_enter Tryz.func147, Tryz.ntmps147
  go_upto_region 2 with ((with_reducible refine Hf.out.mono ?_); rintro e w1 ⟨rfl, hb1⟩)
  have Hm1 := Lib.hid (show Mine w w1 (.slice none 0 0) 0 [] from ⟨hb1, World.ownsRow_nil _ _ _ _⟩); clear hb1
  go_upto_region 3 with (at_builtin; refine wpList_append_own_none rfl _ _ 40 rfl w.heap.size 204 i0 2 Tryz.underlying40 hi0 (.slice none 0 0) 0 _ rfl Hm1.out.own rfl ?_)
  go_upto_region 4 with (at_builtin; refine wpList_append_own_at _ rfl _ _ 40 rfl w.heap.size 204 i0 (.agg #[.string ByteArray.empty, .string ByteArray.empty]) 2 32 Tryz.underlying40 hi0 hz0 hz1 hz2 rfl (by decide) (.slice none 0 0) 0 _ rfl (Hm1.out.own.alloc _) ⟨w1.heap.size, 0, none⟩ 1 1 [.string k, .string v] rfl rfl (cells_two _ _ _ _) (by simp [Value.oneCell']) (by unfold maxLen; omega) (by omega) (by have := Hm1.out.bel.size; simp; omega) ?_; intro v2 w3 hown2 hgr2 hnil2 hat2; have hown2' : w3.ownsRow w.heap.size 204 2 v2 1 (flatPairs [(k, v)]) := hown2; obtain ⟨A2, c2, rfl⟩ := own_sl hown2'; have Hm3 := Lib.hid ((Hm1.out.alloc _).grow hgr2 hown2'); clear hown2 hown2' hgr2 hnil2 hat2)
  go_wp2_with (at_builtin; refine wpList_append_own_none rfl _ _ 40 rfl w.heap.size 204 i0 2 Tryz.underlying40 hi0 (.slice A2 1 c2) 1 _ rfl Hm3.out.own rfl ?_)
  go_ret
  exact Hm3.out.post
 ·
  cases is with
  | true =>
   obtain ⟨j, hj⟩ : ∃ j, i + 1 = j := ⟨_, rfl⟩
   have hjn : j ≤ n := by have := hatl rfl; omega
   have hsucc : IntKind.i64.wrap ((i : Int) + 1) = (j : Int) := by rw [IntKind.wrap_i64] <;> omega
   have hR : R = L.take i ++ [(k, v)] ++ L.drop j := by rw [← HR.out, ← hj]; rfl
   have HR' := Lib.hid hR; clear hR HR
   have Hj := Lib.hid hj; clear hj hatl
   by_cases hlt : j < n
   ·
    have hci : ¬ c = j := by omega
    have hc3 : ∀ w', Below w.heap.size w w' → ∀ q u, (flatPairs (L.drop j))[q]? = some u → w'.cell? (Addr.add ⟨b, o + j * 2, none⟩ q) = some u := fun w' hb q u hq => by
     have hd : (L.drop j).take n = L.drop j := List.take_of_length_le (by simp; omega)
     have := pairs_flat (i := j) (m := n) (H.out.below hb) q u (by rw [hd]; exact hq)
     rw [WideShapes.add_plain]
     exact this
    have Hc3' := Lib.hid hc3; clear hc3
    go_enter Tryz.func147, Tryz.ntmps147
    go_upto_region 2 with ((with_reducible refine Hf.out.mono ?_); rintro e w1 ⟨rfl, hb1⟩)
    have hle1 : (i : Int) ≤ (c : Int) := by omega
    have hc1 : ∀ q u, (flatPairs (L.take i))[q]? = some u → w1.cell? (Addr.add ⟨b, o, none⟩ q) = some u := fun q u hq => by
     have := pairs_flat (i := 0) (m := i) (H.out.below hb1) q u (by simpa using hq)
     rw [WideShapes.add_plain]
     simpa using this
    have hm1 : Mine w w1 (.slice none 0 0) 0 [] := ⟨hb1, World.ownsRow_nil _ _ _ _⟩
    have Hm1 := Lib.hid hm1; clear hm1 hb1
    have Hc1 := Lib.hid hc1; clear hc1
    go_upto_region 3 with (at_builtin; refine wpList_append_own_at _ rfl _ _ 40 rfl w.heap.size 204 i0 (.agg #[.string ByteArray.empty, .string ByteArray.empty]) 2 32 Tryz.underlying40 hi0 hz0 hz1 hz2 rfl (by decide) (.slice none 0 0) 0 _ rfl (World.ownsRow_nil _ _ _ _) ⟨b, o, none⟩ i c (flatPairs (L.take i)) rfl (by rw [pairs_len, List.length_take]; omega) Hc1.out pair_one (by unfold maxLen; omega) (by omega) Hm1.out.bel.size ?_; intro v1 w2 hown1 hgr1 hnil1 hat1; rw [Nat.zero_add, List.nil_append] at hown1; obtain ⟨A1, c1, rfl⟩ := own_sl hown1; have Hm2 := Lib.hid (Hm1.out.grow hgr1 hown1); clear hown1 hgr1 hnil1 hat1)
    clear hle1
    go_upto_region 4 with (at_builtin; refine wpList_append_own_at _ rfl _ _ 40 rfl w.heap.size 204 i0 (.agg #[.string ByteArray.empty, .string ByteArray.empty]) 2 32 Tryz.underlying40 hi0 hz0 hz1 hz2 rfl (by decide) (.slice A1 i c1) i _ rfl (Hm2.out.own.alloc _) ⟨w2.heap.size, 0, none⟩ 1 1 [.string k, .string v] rfl rfl (cells_two _ _ _ _) (by simp [Value.oneCell']) (by unfold maxLen; omega) (by omega) (by have := Hm2.out.bel.size; simp; omega) ?_; intro v2 w3 hown2 hgr2 hnil2 hat2; have hown2' : w3.ownsRow w.heap.size 204 2 v2 (i + 1) (flatPairs (L.take i ++ [(k, v)])) := (by rw [pairs_append]; exact hown2); obtain ⟨A2, c2, rfl⟩ := own_sl hown2'; have Hm3 := Lib.hid ((Hm2.out.alloc _).grow hgr2 hown2'); clear hown2 hown2' hgr2 hnil2 hat2)
    have Hc3 := Lib.hid (Hc3'.out w3 Hm3.out.bel); clear Hc3'
    go_wp2_with (at_builtin; refine wpList_append_own_at _ rfl _ _ 40 rfl w.heap.size 204 i0 (.agg #[.string ByteArray.empty, .string ByteArray.empty]) 2 32 Tryz.underlying40 hi0 hz0 hz1 hz2 rfl (by decide) (.slice A2 (i + 1) c2) (i + 1) _ rfl Hm3.out.own ⟨b, o + j * 2, none⟩ (n - j) (c - j) (flatPairs (L.drop j)) rfl (by rw [pairs_len, List.length_drop]; omega) Hc3.out pair_one (by unfold maxLen; omega) (by omega) Hm3.out.bel.size ?_; intro v3 w4 hown3 hgr3 hnil3 hat3; rw [← pairs_append] at hown3; obtain ⟨A3, c3, rfl⟩ := own_sl hown3; have Hm4 := Lib.hid (Hm3.out.grow hgr3 hown3); clear hown3 hgr3 hnil3 hat3)
    go_ret
    rw [HR'.out]
    exact Hm4.out.post
   ·
    obtain rfl : j = n := by omega
    obtain ⟨ad, had⟩ : ∃ ad, (if c = j then some (⟨b, o, none⟩ : Addr) else some ⟨b, o + j * 2, none⟩) = some ad := by split <;> exact ⟨_, rfl⟩
    go_enter Tryz.func147, Tryz.ntmps147
    go_upto_region 2 with ((with_reducible refine Hf.out.mono ?_); rintro e w1 ⟨rfl, hb1⟩)
    have hle1 : (i : Int) ≤ (c : Int) := by omega
    have hc1 : ∀ q u, (flatPairs (L.take i))[q]? = some u → w1.cell? (Addr.add ⟨b, o, none⟩ q) = some u := fun q u hq => by
     have := pairs_flat (i := 0) (m := i) (H.out.below hb1) q u (by simpa using hq)
     rw [WideShapes.add_plain]
     simpa using this
    have hm1 : Mine w w1 (.slice none 0 0) 0 [] := ⟨hb1, World.ownsRow_nil _ _ _ _⟩
    have Hm1 := Lib.hid hm1; clear hm1 hb1
    have Hc1 := Lib.hid hc1; clear hc1
    go_upto_region 3 with (at_builtin; refine wpList_append_own_at _ rfl _ _ 40 rfl w.heap.size 204 i0 (.agg #[.string ByteArray.empty, .string ByteArray.empty]) 2 32 Tryz.underlying40 hi0 hz0 hz1 hz2 rfl (by decide) (.slice none 0 0) 0 _ rfl (World.ownsRow_nil _ _ _ _) ⟨b, o, none⟩ i c (flatPairs (L.take i)) rfl (by rw [pairs_len, List.length_take]; omega) Hc1.out pair_one (by unfold maxLen; omega) (by omega) Hm1.out.bel.size ?_; intro v1 w2 hown1 hgr1 hnil1 hat1; rw [Nat.zero_add, List.nil_append] at hown1; obtain ⟨A1, c1, rfl⟩ := own_sl hown1; have Hm2 := Lib.hid (Hm1.out.grow hgr1 hown1); clear hown1 hgr1 hnil1 hat1)
    clear hle1
    go_upto_region 4 with (at_builtin; refine wpList_append_own_at _ rfl _ _ 40 rfl w.heap.size 204 i0 (.agg #[.string ByteArray.empty, .string ByteArray.empty]) 2 32 Tryz.underlying40 hi0 hz0 hz1 hz2 rfl (by decide) (.slice A1 i c1) i _ rfl (Hm2.out.own.alloc _) ⟨w2.heap.size, 0, none⟩ 1 1 [.string k, .string v] rfl rfl (cells_two _ _ _ _) (by simp [Value.oneCell']) (by unfold maxLen; omega) (by omega) (by have := Hm2.out.bel.size; simp; omega) ?_; intro v2 w3 hown2 hgr2 hnil2 hat2; have hown2' : w3.ownsRow w.heap.size 204 2 v2 (i + 1) (flatPairs (L.take i ++ [(k, v)])) := (by rw [pairs_append]; exact hown2); obtain ⟨A2, c2, rfl⟩ := own_sl hown2'; have Hm3 := Lib.hid ((Hm2.out.alloc _).grow hgr2 hown2'); clear hown2 hown2' hgr2 hnil2 hat2)
    have hdn : L.drop j = [] := List.drop_of_length_le (by omega)
    go_wp2_with (at_builtin; refine wpList_append_own_at _ rfl _ _ 40 rfl w.heap.size 204 i0 (.agg #[.string ByteArray.empty, .string ByteArray.empty]) 2 32 Tryz.underlying40 hi0 hz0 hz1 hz2 rfl (by decide) (.slice A2 (i + 1) c2) (i + 1) _ rfl Hm3.out.own ad 0 (c - j) [] rfl rfl (fun j u hj => by simp at hj) (fun u hu => by simp at hu) (by unfold maxLen; omega) (by omega) Hm3.out.bel.size ?_; intro v3 w4 hown3 hgr3 hnil3 hat3; rw [List.append_nil] at hown3; obtain ⟨A3, c3, rfl⟩ := own_sl hown3; have Hm4 := Lib.hid (Hm3.out.grow hgr3 hown3); clear hown3 hgr3 hnil3 hat3)
    go_ret
    rw [HR'.out, hdn, List.append_nil]
    exact Hm4.out.post
  | false =>
   have hj : i = i := rfl
   have hjn : i ≤ n := by omega
   have hR : R = L.take i ++ [(k, v)] ++ L.drop i := by rw [← HR.out]; rfl
   have HR' := Lib.hid hR; clear hR HR
   have Hj := Lib.hid hj; clear hj hatl
   by_cases hlt : i < n
   ·
    have hci : ¬ c = i := by omega
    have hc3 : ∀ w', Below w.heap.size w w' → ∀ q u, (flatPairs (L.drop i))[q]? = some u → w'.cell? (Addr.add ⟨b, o + i * 2, none⟩ q) = some u := fun w' hb q u hq => by
     have hd : (L.drop i).take n = L.drop i := List.take_of_length_le (by simp; omega)
     have := pairs_flat (i := i) (m := n) (H.out.below hb) q u (by rw [hd]; exact hq)
     rw [WideShapes.add_plain]
     exact this
    have Hc3' := Lib.hid hc3; clear hc3
    go_enter Tryz.func147, Tryz.ntmps147
    go_upto_region 2 with ((with_reducible refine Hf.out.mono ?_); rintro e w1 ⟨rfl, hb1⟩)
    have hle1 : (i : Int) ≤ (c : Int) := by omega
    have hc1 : ∀ q u, (flatPairs (L.take i))[q]? = some u → w1.cell? (Addr.add ⟨b, o, none⟩ q) = some u := fun q u hq => by
     have := pairs_flat (i := 0) (m := i) (H.out.below hb1) q u (by simpa using hq)
     rw [WideShapes.add_plain]
     simpa using this
    have hm1 : Mine w w1 (.slice none 0 0) 0 [] := ⟨hb1, World.ownsRow_nil _ _ _ _⟩
    have Hm1 := Lib.hid hm1; clear hm1 hb1
    have Hc1 := Lib.hid hc1; clear hc1
    go_upto_region 3 with (at_builtin; refine wpList_append_own_at _ rfl _ _ 40 rfl w.heap.size 204 i0 (.agg #[.string ByteArray.empty, .string ByteArray.empty]) 2 32 Tryz.underlying40 hi0 hz0 hz1 hz2 rfl (by decide) (.slice none 0 0) 0 _ rfl (World.ownsRow_nil _ _ _ _) ⟨b, o, none⟩ i c (flatPairs (L.take i)) rfl (by rw [pairs_len, List.length_take]; omega) Hc1.out pair_one (by unfold maxLen; omega) (by omega) Hm1.out.bel.size ?_; intro v1 w2 hown1 hgr1 hnil1 hat1; rw [Nat.zero_add, List.nil_append] at hown1; obtain ⟨A1, c1, rfl⟩ := own_sl hown1; have Hm2 := Lib.hid (Hm1.out.grow hgr1 hown1); clear hown1 hgr1 hnil1 hat1)
    clear hle1
    go_upto_region 4 with (at_builtin; refine wpList_append_own_at _ rfl _ _ 40 rfl w.heap.size 204 i0 (.agg #[.string ByteArray.empty, .string ByteArray.empty]) 2 32 Tryz.underlying40 hi0 hz0 hz1 hz2 rfl (by decide) (.slice A1 i c1) i _ rfl (Hm2.out.own.alloc _) ⟨w2.heap.size, 0, none⟩ 1 1 [.string k, .string v] rfl rfl (cells_two _ _ _ _) (by simp [Value.oneCell']) (by unfold maxLen; omega) (by omega) (by have := Hm2.out.bel.size; simp; omega) ?_; intro v2 w3 hown2 hgr2 hnil2 hat2; have hown2' : w3.ownsRow w.heap.size 204 2 v2 (i + 1) (flatPairs (L.take i ++ [(k, v)])) := (by rw [pairs_append]; exact hown2); obtain ⟨A2, c2, rfl⟩ := own_sl hown2'; have Hm3 := Lib.hid ((Hm2.out.alloc _).grow hgr2 hown2'); clear hown2 hown2' hgr2 hnil2 hat2)
    have Hc3 := Lib.hid (Hc3'.out w3 Hm3.out.bel); clear Hc3'
    go_wp2_with (at_builtin; refine wpList_append_own_at _ rfl _ _ 40 rfl w.heap.size 204 i0 (.agg #[.string ByteArray.empty, .string ByteArray.empty]) 2 32 Tryz.underlying40 hi0 hz0 hz1 hz2 rfl (by decide) (.slice A2 (i + 1) c2) (i + 1) _ rfl Hm3.out.own ⟨b, o + i * 2, none⟩ (n - i) (c - i) (flatPairs (L.drop i)) rfl (by rw [pairs_len, List.length_drop]; omega) Hc3.out pair_one (by unfold maxLen; omega) (by omega) Hm3.out.bel.size ?_; intro v3 w4 hown3 hgr3 hnil3 hat3; rw [← pairs_append] at hown3; obtain ⟨A3, c3, rfl⟩ := own_sl hown3; have Hm4 := Lib.hid (Hm3.out.grow hgr3 hown3); clear hown3 hgr3 hnil3 hat3)
    go_ret
    rw [HR'.out]
    exact Hm4.out.post
   ·
    obtain rfl : i = n := by omega
    obtain ⟨ad, had⟩ : ∃ ad, (if c = i then some (⟨b, o, none⟩ : Addr) else some ⟨b, o + i * 2, none⟩) = some ad := by split <;> exact ⟨_, rfl⟩
    go_enter Tryz.func147, Tryz.ntmps147
    go_upto_region 2 with ((with_reducible refine Hf.out.mono ?_); rintro e w1 ⟨rfl, hb1⟩)
    have hle1 : (i : Int) ≤ (c : Int) := by omega
    have hc1 : ∀ q u, (flatPairs (L.take i))[q]? = some u → w1.cell? (Addr.add ⟨b, o, none⟩ q) = some u := fun q u hq => by
     have := pairs_flat (i := 0) (m := i) (H.out.below hb1) q u (by simpa using hq)
     rw [WideShapes.add_plain]
     simpa using this
    have hm1 : Mine w w1 (.slice none 0 0) 0 [] := ⟨hb1, World.ownsRow_nil _ _ _ _⟩
    have Hm1 := Lib.hid hm1; clear hm1 hb1
    have Hc1 := Lib.hid hc1; clear hc1
    go_upto_region 3 with (at_builtin; refine wpList_append_own_at _ rfl _ _ 40 rfl w.heap.size 204 i0 (.agg #[.string ByteArray.empty, .string ByteArray.empty]) 2 32 Tryz.underlying40 hi0 hz0 hz1 hz2 rfl (by decide) (.slice none 0 0) 0 _ rfl (World.ownsRow_nil _ _ _ _) ⟨b, o, none⟩ i c (flatPairs (L.take i)) rfl (by rw [pairs_len, List.length_take]; omega) Hc1.out pair_one (by unfold maxLen; omega) (by omega) Hm1.out.bel.size ?_; intro v1 w2 hown1 hgr1 hnil1 hat1; rw [Nat.zero_add, List.nil_append] at hown1; obtain ⟨A1, c1, rfl⟩ := own_sl hown1; have Hm2 := Lib.hid (Hm1.out.grow hgr1 hown1); clear hown1 hgr1 hnil1 hat1)
    clear hle1
    go_upto_region 4 with (at_builtin; refine wpList_append_own_at _ rfl _ _ 40 rfl w.heap.size 204 i0 (.agg #[.string ByteArray.empty, .string ByteArray.empty]) 2 32 Tryz.underlying40 hi0 hz0 hz1 hz2 rfl (by decide) (.slice A1 i c1) i _ rfl (Hm2.out.own.alloc _) ⟨w2.heap.size, 0, none⟩ 1 1 [.string k, .string v] rfl rfl (cells_two _ _ _ _) (by simp [Value.oneCell']) (by unfold maxLen; omega) (by omega) (by have := Hm2.out.bel.size; simp; omega) ?_; intro v2 w3 hown2 hgr2 hnil2 hat2; have hown2' : w3.ownsRow w.heap.size 204 2 v2 (i + 1) (flatPairs (L.take i ++ [(k, v)])) := (by rw [pairs_append]; exact hown2); obtain ⟨A2, c2, rfl⟩ := own_sl hown2'; have Hm3 := Lib.hid ((Hm2.out.alloc _).grow hgr2 hown2'); clear hown2 hown2' hgr2 hnil2 hat2)
    have hdn : L.drop i = [] := List.drop_of_length_le (by omega)
    go_wp2_with (at_builtin; refine wpList_append_own_at _ rfl _ _ 40 rfl w.heap.size 204 i0 (.agg #[.string ByteArray.empty, .string ByteArray.empty]) 2 32 Tryz.underlying40 hi0 hz0 hz1 hz2 rfl (by decide) (.slice A2 (i + 1) c2) (i + 1) _ rfl Hm3.out.own ad 0 (c - i) [] rfl rfl (fun i u hj => by simp at hj) (fun u hu => by simp at hu) (by unfold maxLen; omega) (by omega) Hm3.out.bel.size ?_; intro v3 w4 hown3 hgr3 hnil3 hat3; rw [List.append_nil] at hown3; obtain ⟨A3, c3, rfl⟩ := own_sl hown3; have Hm4 := Lib.hid (Hm3.out.grow hgr3 hown3); clear hown3 hgr3 hnil3 hat3)
    go_ret
    rw [HR'.out, hdn, List.append_nil]
    exact Hm4.out.post
set_option maxRecDepth 100000 in
set_option maxHeartbeats 4000000 in
theorem del10_any (A : Option Addr) (n c : Nat) (L : Prs) (k : ByteArray) (w : World) (h : PairsAt w A n L) (hok : POk A n c) (hty : PTy w A) (hasc : Asc L) (hn : n ≤ 1000000) :
  Calls Tryz.prog 148 #[.slice A n c, .string k] w (PrsPost (rmL L k) w) := by
 have hrm := rm_eq hasc k
 have hno := rm_no hasc k
 have hf := find10_any A n c L k w h
 have hil := idx_le L k
 have hl := h.hlen
 have hatl := isAt_lt (L := L) (k := k)
 obtain ⟨R, hR⟩ : ∃ R, rmL L k = R := ⟨_, rfl⟩
 rw [hR] at hrm hno ⊢
 clear hR hasc
 generalize idxOf L k = i at *
 generalize isAt L k = is at *
 have Hf := Lib.hid hf; clear hf
 have H := Lib.hid h; clear h
 obtain ⟨i0, hi0, hz0, hz1, hz2⟩ := info_parts infoPair
 cases is with
 | false =>
  have hR : L = R := hno rfl
  subst hR
  have Hok := Lib.hid hok; clear hok
  have Hty := Lib.hid hty; clear hty
  clear hrm hno hatl
  go_enter Tryz.func148, Tryz.ntmps148
  go_wp2_with ((with_reducible refine Hf.out.mono ?_); rintro e w1 ⟨rfl, hb1⟩; have Hb1 := Lib.hid hb1; clear hb1)
  go_ret
  exact ⟨A, n, c, rfl, H.out.below Hb1.out, Hb1.out, Hok.out, Hty.out.below Hb1.out⟩
 | true =>
  have hlt0 := hatl rfl
  have hrm' := hrm rfl
  clear hrm hno hatl hty
  rcases hok with ⟨rfl, rfl, rfl⟩ | ⟨b, o, rfl, hnc, hcm⟩
  ·
   omega
  obtain ⟨j, hj⟩ : ∃ j, i + 1 = j := ⟨_, rfl⟩
  have hjn : j ≤ n := by omega
  have hsucc : IntKind.i64.wrap ((i : Int) + 1) = (j : Int) := by rw [IntKind.wrap_i64] <;> omega
  rw [hj] at hrm'
  have HR' := Lib.hid hrm'.symm; clear hrm'
  have Hj := Lib.hid hj; clear hj
  by_cases hlt : j < n
  ·
   have hci : ¬ c = j := by omega
   have hc3 : ∀ w', Below w.heap.size w w' → ∀ q u, (flatPairs (L.drop j))[q]? = some u → w'.cell? (Addr.add ⟨b, o + j * 2, none⟩ q) = some u := fun w' hb q u hq => by
    have hd : (L.drop j).take n = L.drop j := List.take_of_length_le (by simp; omega)
    have := pairs_flat (i := j) (m := n) (H.out.below hb) q u (by rw [hd]; exact hq)
    rw [WideShapes.add_plain]
    exact this
   have Hc3' := Lib.hid hc3; clear hc3
   go_enter Tryz.func148, Tryz.ntmps148
   go_upto_region 4 with ((with_reducible refine Hf.out.mono ?_); rintro e w1 ⟨rfl, hb1⟩)
   have hle1 : (i : Int) ≤ (c : Int) := by omega
   have hc1 : ∀ q u, (flatPairs (L.take i))[q]? = some u → w1.cell? (Addr.add ⟨b, o, none⟩ q) = some u := fun q u hq => by
    have := pairs_flat (i := 0) (m := i) (H.out.below hb1) q u (by simpa using hq)
    rw [WideShapes.add_plain]
    simpa using this
   have hm1 : Mine w w1 (.slice none 0 0) 0 [] := ⟨hb1, World.ownsRow_nil _ _ _ _⟩
   have Hm1 := Lib.hid hm1; clear hm1 hb1
   have Hc1 := Lib.hid hc1; clear hc1
   go_upto_region 5 with (at_builtin; refine wpList_append_own_at _ rfl _ _ 40 rfl w.heap.size 204 i0 (.agg #[.string ByteArray.empty, .string ByteArray.empty]) 2 32 Tryz.underlying40 hi0 hz0 hz1 hz2 rfl (by decide) (.slice none 0 0) 0 _ rfl (World.ownsRow_nil _ _ _ _) ⟨b, o, none⟩ i c (flatPairs (L.take i)) rfl (by rw [pairs_len, List.length_take]; omega) Hc1.out pair_one (by unfold maxLen; omega) (by omega) Hm1.out.bel.size ?_; intro v1 w2 hown1 hgr1 hnil1 hat1; rw [Nat.zero_add, List.nil_append] at hown1; obtain ⟨A1, c1, rfl⟩ := own_sl hown1; have Hm2 := Lib.hid (Hm1.out.grow hgr1 hown1); clear hown1 hgr1 hnil1 hat1)
   clear hle1
   have Hc3 := Lib.hid (Hc3'.out w2 Hm2.out.bel); clear Hc3'
   go_wp2_with (at_builtin; refine wpList_append_own_at _ rfl _ _ 40 rfl w.heap.size 204 i0 (.agg #[.string ByteArray.empty, .string ByteArray.empty]) 2 32 Tryz.underlying40 hi0 hz0 hz1 hz2 rfl (by decide) (.slice A1 i c1) i _ rfl Hm2.out.own ⟨b, o + j * 2, none⟩ (n - j) (c - j) (flatPairs (L.drop j)) rfl (by rw [pairs_len, List.length_drop]; omega) Hc3.out pair_one (by unfold maxLen; omega) (by omega) Hm2.out.bel.size ?_; intro v3 w4 hown3 hgr3 hnil3 hat3; rw [← pairs_append] at hown3; obtain ⟨A3, c3, rfl⟩ := own_sl hown3; have Hm4 := Lib.hid (Hm2.out.grow hgr3 hown3); clear hown3 hgr3 hnil3 hat3)
   go_ret
   rw [HR'.out]
   exact Hm4.out.post
  ·
   obtain rfl : j = n := by omega
   obtain ⟨ad, had⟩ : ∃ ad, (if c = j then some (⟨b, o, none⟩ : Addr) else some ⟨b, o + j * 2, none⟩) = some ad := by split <;> exact ⟨_, rfl⟩
   go_enter Tryz.func148, Tryz.ntmps148
   go_upto_region 4 with ((with_reducible refine Hf.out.mono ?_); rintro e w1 ⟨rfl, hb1⟩)
   have hle1 : (i : Int) ≤ (c : Int) := by omega
   have hc1 : ∀ q u, (flatPairs (L.take i))[q]? = some u → w1.cell? (Addr.add ⟨b, o, none⟩ q) = some u := fun q u hq => by
    have := pairs_flat (i := 0) (m := i) (H.out.below hb1) q u (by simpa using hq)
    rw [WideShapes.add_plain]
    simpa using this
   have hm1 : Mine w w1 (.slice none 0 0) 0 [] := ⟨hb1, World.ownsRow_nil _ _ _ _⟩
   have Hm1 := Lib.hid hm1; clear hm1 hb1
   have Hc1 := Lib.hid hc1; clear hc1
   go_upto_region 5 with (at_builtin; refine wpList_append_own_at _ rfl _ _ 40 rfl w.heap.size 204 i0 (.agg #[.string ByteArray.empty, .string ByteArray.empty]) 2 32 Tryz.underlying40 hi0 hz0 hz1 hz2 rfl (by decide) (.slice none 0 0) 0 _ rfl (World.ownsRow_nil _ _ _ _) ⟨b, o, none⟩ i c (flatPairs (L.take i)) rfl (by rw [pairs_len, List.length_take]; omega) Hc1.out pair_one (by unfold maxLen; omega) (by omega) Hm1.out.bel.size ?_; intro v1 w2 hown1 hgr1 hnil1 hat1; rw [Nat.zero_add, List.nil_append] at hown1; obtain ⟨A1, c1, rfl⟩ := own_sl hown1; have Hm2 := Lib.hid (Hm1.out.grow hgr1 hown1); clear hown1 hgr1 hnil1 hat1)
   clear hle1
   have hdn : L.drop j = [] := List.drop_of_length_le (by omega)
   go_wp2_with (at_builtin; refine wpList_append_own_at _ rfl _ _ 40 rfl w.heap.size 204 i0 (.agg #[.string ByteArray.empty, .string ByteArray.empty]) 2 32 Tryz.underlying40 hi0 hz0 hz1 hz2 rfl (by decide) (.slice A1 i c1) i _ rfl Hm2.out.own ad 0 (c - j) [] rfl rfl (fun j u hj => by simp at hj) (fun u hu => by simp at hu) (by unfold maxLen; omega) (by omega) Hm2.out.bel.size ?_; intro v3 w4 hown3 hgr3 hnil3 hat3; rw [List.append_nil] at hown3; obtain ⟨A3, c3, rfl⟩ := own_sl hown3; have Hm4 := Lib.hid (Hm2.out.grow hgr3 hown3); clear hown3 hgr3 hnil3 hat3)
   go_ret
   rw [HR'.out, hdn, List.append_nil]
   exact Hm4.out.post
end Go.Proofs.YtbckjgageofldaaGreat
