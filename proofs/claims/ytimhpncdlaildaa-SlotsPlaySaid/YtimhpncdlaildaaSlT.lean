/- The document's row (palaverref16): Put. Condition: the row's slots lie in items of their own; at most 1048575 of them. -/
import Derived.Test.YtimhpncdlaildaaSlS
import Derived.Laws.AppendOwnNone
namespace Go.Proofs.Ytimhpncdlaildaa
open Go.RowKit

def lowB (x : BitVec 64) (p : BitVec 64 × ByteArray) : Bool := decide (p.1.toNat < x.toNat)
theorem while_split {L : Its} {q : BitVec 64 × ByteArray → Bool} : ∀ {i : Nat}, i ≤ L.length → (∀ p ∈ L.take i, q p = true) → (∀ p M, L.drop i = p :: M → q p = false) → L.takeWhile q = L.take i ∧ L.dropWhile q = L.drop i := by
  induction L with
  | nil => intro i _ _ _; simp
  | cons a L ih =>
    intro i hi h1 h2
    match i with
    | 0 =>
      have := h2 a L rfl
      simp [this]
    | i + 1 =>
      have ha := h1 a (by simp)
      obtain ⟨e1, e2⟩ := ih (i := i) (by simpa using hi) (fun p hp => h1 p (by simp [hp])) (fun p M hp => h2 p M (by simpa using hp))
      simp [ha, e1, e2]
theorem flat_cell : ∀ (M : Its) (j : Nat) (u : Value), (flatItems M)[j]? = some u → ∃ p, M[j / 2]? = some p ∧ (itemCells p)[j % 2]? = some u
  | [], j, u, h => by simp [flatItems] at h
  | p :: M, 0, u, h => ⟨p, rfl, by simpa [flatItems, itemCells] using h⟩
  | p :: M, 1, u, h => ⟨p, rfl, by simpa [flatItems, itemCells] using h⟩
  | p :: M, j + 2, u, h => by
    have h' : (flatItems M)[j]? = some u := by
      simp only [flatItems, List.flatMap_cons] at h ⊢
      rw [List.getElem?_append_right (by simp [itemCells])] at h
      simpa [itemCells] using h
    obtain ⟨r, h1, h2⟩ := flat_cell M j u h'
    refine ⟨r, ?_, ?_⟩
    · rw [show (j + 2) / 2 = j / 2 + 1 by omega]
      simpa using h1
    · rw [show (j + 2) % 2 = j % 2 by omega]
      exact h2
theorem items_flat {w : World} {b o n i : Nat} {L : Its} (h : ItemsAt w (some ⟨b, o, none⟩) n L) (j : Nat) (u : Value) (hj : (flatItems (L.drop i))[j]? = some u) : w.cell? ⟨b, o + i * 2 + j, none⟩ = some u := by
  obtain ⟨p, h1, h2⟩ := flat_cell _ _ _ hj
  rw [List.getElem?_drop] at h1
  obtain ⟨b', o', e, _, h3⟩ := h.cells _ _ h1
  cases e
  have := h3 _ _ h2
  rw [← this]
  congr 2
  omega
theorem wp_append_none {P : Program} {w : World} {o : Oper} {a : Act} {K : Act → World → Prop} {Q : Exit → Act → World → Prop} (s x : Operand) (t : TypeId)
    (ho : o.op = .call { callee := .builtin .append, args := #[s, x], argTypes := #[t, t] })
    (base : Nat) (e : TypeId) (i : TypeInfo) (size : Nat) (ht : P.underlying t = some (.slice e)) (hi : P.info? e = some i)
    (v : Value) (n : Nat) (xs : List Value) (hs : a.eval s = v) (hown : w.ownsRow base e size v n xs) (hx : a.eval x = .slice none 0 0)
    (h : K (a.put o.dst v) w) : o.wp P a w K Q := by
  have hrun := run_append_owned_none (P := P) (w := w) base t o.type e i size ht hi v n xs hown
  unfold Oper.wp
  simp [execOp, ho, resolve, invoke, builtin, hs, hx, hrun, Result.andThen]
  exact h
section
variable {g5 : Nat} {w0 w w' : World} {x t : BitVec 64} {v v' : Value} {k k' : Nat} {M M' : Its}
theorem Build.steps (h : Build g5 w0 w x t v k M) (hg : w.grownBy w' v.ownBlock) (ho : w'.ownsRow (g5 + 1) 33 2 v' k' (flatItems M')) :
    Build g5 w0 (w'.setCell ⟨g5, 2, none⟩ v') x t v' k' M' := by
  have hb : w'.heap[g5]? = w.heap[g5]? := hg.block g5 h.lt (fun e => by have := h.own.lt g5 e.symm; omega)
  have hs : (w'.setCell ⟨g5, 2, none⟩ v').heap.size = w'.heap.size := by simp [World.setCell]
  have hgr : w'.grownBy (w'.setCell ⟨g5, 2, none⟩ v') (some g5) := ⟨rfl, rfl, rfl, by rw [hs]; exact Nat.le_refl _, fun q _ hq => Below.heap_setCell _ _ _ _ (fun e => hq (by rw [e]))⟩
  refine ⟨⟨hg.os.trans h.old.os, hg.tape.trans h.old.tape, hg.output.trans h.old.output, by rw [hs]; exact Nat.le_trans h.old.size hg.size, fun q hq => ?_⟩, by rw [hs]; exact Nat.lt_of_lt_of_le h.lt hg.size, ?_, ?_⟩
  · have h1 : w'.heap[q]? = w.heap[q]? := hg.block q (by have := h.lt; omega) (fun e => by have := h.own.lt q e.symm; omega)
    rw [Below.heap_setCell _ _ _ _ (by show q ≠ g5; omega), h1]
    exact h.old.block q hq
  · rw [heap_setCell_same _ _ _ _ _ _ (hb.trans h.blk)]
    rfl
  · exact ho.kept hgr (by
      rcases hv : v'.ownBlock with _ | q
      · exact .inl rfl
      · right
        intro e
        have := ho.lt q hv
        cases e
        omega)
theorem Build.toPost {g g4 : Nat} {A : Option Addr} {c : Nat} {W : World} (h : Build g5 w0 w x t (.slice A k c) k M) (hW : Below g W w0) (hg : W.heap.size = g) (h1 : g < g5) (h4 : g4 < g5) (h5 : g ≤ g4) (er : Nat) :
    RefPost2 er x t M W (.returned (.tuple #[refV x t A k c, .int .i64 (er : Int)])) (stored w g4 x t A k c) := by
  refine ⟨A, k, c, rfl, stored_items (ItemsAt.of_own h.own) (fun b o e _ => ?_), ?_, own_ok h.own⟩
  · have := h.own.lt b (by rw [e]; rfl)
    omega
  · rw [hg]
    exact stored_below (hW.trans (h.old.mono (by omega))) h5
end
theorem flat_append (L M : Its) : flatItems (L ++ M) = flatItems L ++ flatItems M := by simp [flatItems]
theorem flat_len (L : Its) : (flatItems L).length = L.length * 2 := by
  induction L with
  | nil => rfl
  | cons a L ih => simp only [flatItems, List.flatMap_cons, List.length_append, List.length_cons] at ih ⊢; rw [ih]; simp [itemCells]; omega
theorem flat_one {L : Its} : ∀ u ∈ flatItems L, u.oneCell' = true := by
  intro u hu
  simp only [flatItems, List.mem_flatMap] at hu
  obtain ⟨p, _, hp⟩ := hu
  simp only [itemCells, List.mem_cons, List.not_mem_nil, or_false] at hp
  rcases hp with rfl | rfl <;> rfl
def insS (L : Its) (x : BitVec 64) (v : ByteArray) : Its := L.takeWhile (lowB x) ++ [(x, v)] ++ L.dropWhile (lowB x)

set_option maxRecDepth 100000 in
set_option maxHeartbeats 4000000 in
theorem refPut_any (b t x : BitVec 64) (v : ByteArray) (A : Option Addr) (n c : Nat) (L : Its) (w : World) (h : ItemsAt w A n L) (hok : SlOk A n c) (hn : n ≤ 1048575) (er : Nat) (L' : Its)
    (hs : (¬ (1 ≤ x.toNat ∧ x.toNat ≤ 4611686018427387904) ∧ er = 2 ∧ L' = L) ∨ ((1 ≤ x.toNat ∧ x.toNat ≤ 4611686018427387904) ∧ x.toNat ≤ b.toNat ∧ er = 0 ∧ L' = L) ∨
      ((1 ≤ x.toNat ∧ x.toNat ≤ 4611686018427387904) ∧ ¬ x.toNat ≤ b.toNat ∧ (∃ o, mget L x = some o ∧ ((o = v ∧ er = 0) ∨ (o ≠ v ∧ er = 14))) ∧ L' = L) ∨
      ((1 ≤ x.toNat ∧ x.toNat ≤ 4611686018427387904) ∧ ¬ x.toNat ≤ b.toNat ∧ mget L x = none ∧ er = 0 ∧ L' = insS L x v)) :
    Calls Try.prog 30 #[refV b t A n c, .int .u64 (x.toNat : Int), .string v] w (RefPost2 er b t L' w) := by
  have Hok := Lib.hid hok; clear hok
  have hold := items_old (w2 := w) h rfl
  have hh := head_of h b t c
  have Hold := Lib.hid hold; clear hold h
  unfold refV
  go_enter Try.func30, Try.ntmps30
  go_upto_region 1 with fail
  change Code.wp _ _ _ _ ((w.alloc (.cells (refCells b t A n c) 46)).alloc (.cells (refCells 0#64 0#64 none 0 0) 46))
  generalize (w.alloc (.cells (refCells b t A n c) 46)).alloc (.cells (refCells 0#64 0#64 none 0 0) 46) = w2 at *
  obtain ⟨g, hg⟩ : ∃ g, w.heap.size = g := ⟨_, rfl⟩
  rw [hg] at hh ⊢
  rw [hg] at Hold
  obtain ⟨r0, r1, r2⟩ := hh.hr.cells
  obtain ⟨o0, o1, o2⟩ := hh.ho.cells
  have z0 := hh.ho.thawed 0
  have z1 := hh.ho.thawed 1
  have z2 := hh.ho.thawed 2
  have Hh := Lib.hid hh; clear hh
  have Hg := Lib.hid hg; clear hg
  obtain ⟨g4, hg4⟩ : ∃ g4, g + 1 = g4 := ⟨_, rfl⟩
  rw [hg4] at o0 o1 o2 z0 z1 z2 ⊢
  have Hg4 := Lib.hid hg4; clear hg4
  have Hs := Lib.hid hs; clear hs
  have hmay := refMay_any x
  rcases Hs.out with ⟨d1, rfl, rfl⟩ | ⟨d1, d2, rfl, rfl⟩ | ⟨d1, d2, ⟨o, d3, d4⟩, rfl⟩ | ⟨d1, d2, d3, rfl, rfl⟩
  · simp only [d1, decide_false] at hmay
    clear Hs d1
    go_wp2_with ((with_reducible refine (hmay _).mono ?_); rintro e w' ⟨rfl, rfl⟩)
    change bodyPost _ _ _ _ _ (stored w2 g4 b t A n c)
    have hst := stored_at (x := b) (t := t) (A := A) (n := n) (c := c) (show RefAt w2 g4 0#64 0#64 none 0 0 by rw [← Hg4.out]; exact Hh.out.ho)
    obtain ⟨s0, s1, s2⟩ := hst.cells
    refine bodyPost_ret (v := .tuple #[refV b t A n c, .int .i64 2]) (by simp [results, Try.results30, go_sem, s0, s1, s2, refV, refCells] <;> rfl) rfl ?_
    refine ⟨A, n, c, rfl, stored_items Hh.out.hi (fun b o e hn => by have := Hold.out b o e hn; have := Hg4.out; omega), ?_, Hok.out⟩
    rw [Hg.out]
    exact stored_below Hh.out.hb (by have := Hg4.out; omega)
  · simp only [d1, and_self, decide_true] at hmay
    have d2' : (x.toNat : Int) ≤ (b.toNat : Int) := by omega
    clear Hs d1 d2
    go_wp2_with ((with_reducible refine (hmay _).mono ?_); rintro e w' ⟨rfl, rfl⟩)
    change bodyPost _ _ _ _ _ (stored w2 g4 b t A n c)
    have hst := stored_at (x := b) (t := t) (A := A) (n := n) (c := c) (show RefAt w2 g4 0#64 0#64 none 0 0 by rw [← Hg4.out]; exact Hh.out.ho)
    obtain ⟨s0, s1, s2⟩ := hst.cells
    refine bodyPost_ret (v := .tuple #[refV b t A n c, .int .i64 0]) (by simp [results, Try.results30, go_sem, s0, s1, s2, refV, refCells] <;> rfl) rfl ?_
    refine ⟨A, n, c, rfl, stored_items Hh.out.hi (fun b o e hn => by have := Hold.out b o e hn; have := Hg4.out; omega), ?_, Hok.out⟩
    rw [Hg.out]
    exact stored_below Hh.out.hb (by have := Hg4.out; omega)
  · simp only [d1, and_self, decide_true] at hmay
    have d2' : ¬ (x.toNat : Int) ≤ (b.toNat : Int) := by omega
    have hv : getV L' x = .tuple #[.string o, .bool true] := by simp only [getV, d3]; rfl
    have hget := refGet_any b t A n c L' x w2 Hh.out.hi
    rw [hv] at hget
    have Hget := Lib.hid hget; clear hget hv d1 d2 d3
    go_wp2_with ((with_reducible refine (hmay _).mono ?_); rintro e w' ⟨rfl, rfl⟩)
    refine Hget.out.mono ?_
    rintro e w4 ⟨rfl, hb4⟩
    clear r0 r1 r2 o0 o1 o2 z0 z1 z2 hmay Hget
    have hh4 : RefAt w4 g4 0#64 0#64 none 0 0 := RefAt.below (show RefAt w2 g4 0#64 0#64 none 0 0 by rw [← Hg4.out]; exact Hh.out.ho) hb4
    obtain ⟨r0, r1, r2⟩ := (Hh.out.hr.below hb4).cells
    obtain ⟨o0, o1, o2⟩ := hh4.cells
    have z0 := hh4.thawed 0
    have z1 := hh4.thawed 1
    have z2 := hh4.thawed 2
    have Hb4 := Lib.hid hb4; clear hb4 hh4 Hs
    rcases d4 with ⟨rfl, rfl⟩ | ⟨d4, rfl⟩
    · go_wp2_with fail
      change bodyPost _ _ _ _ _ (stored w4 g4 b t A n c)
      have hst := stored_at (x := b) (t := t) (A := A) (n := n) (c := c) (RefAt.below (show RefAt w2 g4 0#64 0#64 none 0 0 by rw [← Hg4.out]; exact Hh.out.ho) Hb4.out)
      obtain ⟨s0, s1, s2⟩ := hst.cells
      refine bodyPost_ret (v := .tuple #[refV b t A n c, .int .i64 0]) (by simp [results, Try.results30, go_sem, s0, s1, s2, refV, refCells] <;> rfl) rfl ?_
      refine ⟨A, n, c, rfl, stored_items (Hh.out.hi.below Hb4.out) (fun b o e hn => by have := Hold.out b o e hn; have := Hg4.out; omega), ?_, Hok.out⟩
      rw [Hg.out]
      exact stored_below (Hh.out.hb.trans (Hb4.out.mono (by have := Hh.out.hs; omega))) (by have := Hg4.out; omega)
    · have hb := bytes_ne d4
      clear d4
      go_wp2_with fail
      change bodyPost _ _ _ _ _ (stored w4 g4 b t A n c)
      have hst := stored_at (x := b) (t := t) (A := A) (n := n) (c := c) (RefAt.below (show RefAt w2 g4 0#64 0#64 none 0 0 by rw [← Hg4.out]; exact Hh.out.ho) Hb4.out)
      obtain ⟨s0, s1, s2⟩ := hst.cells
      refine bodyPost_ret (v := .tuple #[refV b t A n c, .int .i64 14]) (by simp [results, Try.results30, go_sem, s0, s1, s2, refV, refCells] <;> rfl) rfl ?_
      refine ⟨A, n, c, rfl, stored_items (Hh.out.hi.below Hb4.out) (fun b o e hn => by have := Hold.out b o e hn; have := Hg4.out; omega), ?_, Hok.out⟩
      rw [Hg.out]
      exact stored_below (Hh.out.hb.trans (Hb4.out.mono (by have := Hh.out.hs; omega))) (by have := Hg4.out; omega)
  · simp only [d1, and_self, decide_true] at hmay
    have d2' : ¬ (x.toNat : Int) ≤ (b.toNat : Int) := by omega
    have hv : getV L x = .tuple #[.string ByteArray.empty, .bool false] := by simp only [getV, d3]; rfl
    have hget := refGet_any b t A n c L x w2 Hh.out.hi
    rw [hv] at hget
    have Hget := Lib.hid hget; clear hget hv d1 d2 d3
    go_wp2_with ((with_reducible refine (hmay _).mono ?_); rintro e w' ⟨rfl, rfl⟩)
    refine Hget.out.mono ?_
    rintro e w4 ⟨rfl, hb4⟩
    clear r0 r1 r2 o0 o1 o2 z0 z1 z2 hmay Hget Hs
    have hr4 := Hh.out.hr.below hb4
    have ho4 : RefAt w4 g4 0#64 0#64 none 0 0 := RefAt.below (show RefAt w2 g4 0#64 0#64 none 0 0 by rw [← Hg4.out]; exact Hh.out.ho) hb4
    have hi4 := Hh.out.hi.below hb4
    have hbw4 := Hh.out.hb.trans (hb4.mono (by have := Hh.out.hs; omega : g ≤ w2.heap.size))
    have hs4 : g4 < w4.heap.size := ho4.lt
    obtain ⟨r0, r1, r2⟩ := hr4.cells
    go_upto_region 11 with fail
    change Code.wp _ _ _ _ (w4.alloc (.cells (refCells b t none 0 0) 46))
    have hup : Below w4.heap.size w4 (w4.alloc (.cells (refCells b t none 0 0) 46)) := (Below.refl _ _).alloc (Nat.le_refl _) _
    have hbd : Build w4.heap.size (w4.alloc (.cells (refCells b t none 0 0) 46)) (w4.alloc (.cells (refCells b t none 0 0) 46)) b t (.slice none 0 0) 0 [] :=
      ⟨Below.refl _ _, by simp, heap_alloc_new w4 _, World.ownsRow_nil _ _ _ _⟩
    have hb3 := hbw4.trans (hup.mono (by have := Hg4.out; omega : g ≤ w4.heap.size))
    have hr3 := (hr4.below hup).cells.2.2
    have ho3 := ho4.below hup
    have hi3 := hi4.below hup
    clear hb4 hup hr4 ho4 hi4 hbw4 r0 r1 r2
    generalize w4.alloc (.cells (refCells b t none 0 0) 46) = w3 at *
    obtain ⟨g5, hg5⟩ : ∃ g5, w4.heap.size = g5 := ⟨_, rfl⟩
    rw [hg5] at hbd hs4 ⊢
    have hg25 : g < g5 ∧ g4 < g5 := by have := Hg4.out; omega
    clear hg5 hs4
    have Hb3 := Lib.hid hb3; clear hb3
    have Ho3 := Lib.hid ho3; clear ho3
    have Hi3 := Lib.hid hi3; clear hi3
    have Hbd := Lib.hid hbd; clear hbd
    have Hr3 := Lib.hid hr3; clear hr3
    go_wp2_with fail
    go_loopw [11] (fun s11 wr => ∃ i vv, i ≤ n ∧ s11 = .int .i64 (i : Int) ∧ Build g5 w3 wr b t vv i (L.take i) ∧ ∀ p ∈ L.take i, lowB x p = true) (fun s11 _ => n - (intOf s11).toNat)
    case atStart => exact ⟨0, _, by omega, rfl, Hbd.out, fun p hp => by simp at hp⟩
    case round =>
      obtain ⟨i, vv, hi, rfl, hbd, hlow⟩ := hrel
      clear Hbd
      have rr : wr.cell? ⟨g, 2, none⟩ = some (.slice A n c) := by
        rw [← Hr3.out]
        exact hbd.cellOld (y := wr) ⟨rfl, rfl, rfl, Nat.le_refl _, fun _ _ _ => rfl⟩ hg25.1
      have hlen := Hi3.out.hlen
      by_cases hlt : i < n
      · have hlt' : (i : Int) < (n : Int) := by omega
        obtain ⟨b', o, hAe, _, _, _⟩ := items_get Hi3.out hlt
        subst hAe
        have hbA := Hold.out b' o rfl (by omega)
        have hcellA : ∀ y : World, wr.grownBy y vv.ownBlock → y.cell? ⟨b', o + i * 2, none⟩ = some (.int .u64 ((L.getD i dflt).1.toNat : Int)) ∧ y.cell? ⟨b', o + i * 2 + 1, none⟩ = some (.string (L.getD i dflt).2) := fun y hy => by
          obtain ⟨b2, o2, e, _, e0, e1⟩ := items_get Hi3.out hlt
          cases e
          exact ⟨(hbd.cellOld hy (by omega)).trans e0, (hbd.cellOld hy (by omega)).trans e1⟩
        obtain ⟨e0, e1⟩ := hcellA wr ⟨rfl, rfl, rfl, Nat.le_refl _, fun _ _ _ => rfl⟩
        have htk : L.take (i + 1) = L.take i ++ [L.getD i dflt] := by
          rw [List.take_add_one]
          simp [List.getD, List.getElem?_eq_getElem (show i < L.length by omega)]
        have hsucc := i64_succ (n := i) (by omega)
        have hdr := drop_getD (show i < L.length by omega)
        generalize L.getD i dflt = p at *
        obtain ⟨kk, val⟩ := p
        simp only at e0 e1 hcellA htk
        by_cases hx : kk.toNat < x.toNat
        · have d1 : decide (kk.toNat < x.toNat) = true := by simpa using hx
          have d1' : (kk.toNat : Int) < (x.toNat : Int) := by omega
          have hlow2 : ∀ p ∈ L.take (i + 1), lowB x p = true := fun p hp => by
            rw [htk, List.mem_append, List.mem_singleton] at hp
            rcases hp with hp | rfl
            · exact hlow p hp
            · exact d1
          have Hlow := Lib.hid hlow2; clear hlow2
          have Htk := Lib.hid htk; clear htk
          have Hbd := Lib.hid hbd; clear hbd
          have HcA := Lib.hid hcellA; clear hcellA
          clear hx hlen hlow hdr
          go_wp2_with fail
          refine RegR.wp_region_can (fun y => Below wr.heap.size wr y) [(0, 0), (1, 0), (2, 0), (3, 0), (4, 0), (5, 0), (6, 0), (7, 1), (8, 3), (9, 0), (10, 2)] (by kernel_rfl) (by kernel_rfl) (fun _ _ d _ _ h => by cases d <;> exact h) ⟨rfl, rfl, rfl, Nat.le_refl _, fun _ _ => rfl⟩ ?_
          dsimp only [RegR.pick, List.getElem?_cons_zero, List.getElem?_cons_succ]
          refine RegR.can_read (.pointer (some ⟨g5, 2, none⟩)) rfl (fun y hy => ?_) ?_
          · go_simp
          refine RegR.can_read vv rfl (fun y hy => ?_) ?_
          · have hc := (Hbd.out.cell (below_grown hy)).1
            go_simp
          refine RegR.can_read (.pointer (some ⟨g, 2, none⟩)) rfl (fun y hy => ?_) ?_
          · go_simp
          refine RegR.can_read (.slice (some ⟨b', o, none⟩) n c) rfl (fun y hy => ?_) ?_
          · have hc : y.cell? ⟨g, 2, none⟩ = some (.slice (some ⟨b', o, none⟩) n c) := by rw [← Hr3.out]; exact Hbd.out.cellOld (below_grown hy) hg25.1
            go_simp
          refine RegR.can_read (.int .i64 (i : Int)) rfl (fun y hy => ?_) ?_
          · go_simp
          refine RegR.can_read (.pointer (some ⟨b', o + i * 2, none⟩)) rfl (fun y hy => ?_) ?_
          · go_simp
          refine RegR.can_read (.agg #[.int .u64 (kk.toNat : Int), .string val]) rfl (fun y hy => ?_) ?_
          · obtain ⟨f0, f1⟩ := HcA.out y (below_grown hy)
            go_simp
          obtain ⟨i0, hi0, hz0, hz1, hz2⟩ := info_parts infoItem
          refine RegR.can_turn rfl ?_
          go_simp
          have hbw : Below wr.heap.size wr ((wr.alloc (.cells #[.int .u64 (kk.toNat : Int), .string val] 33)).drew) := by
            have h := (Below.refl _ wr).alloc (Nat.le_refl _) (.cells #[.int .u64 (kk.toNat : Int), .string val] 33)
            exact ⟨h.os, h.tape, h.output, h.size, h.block⟩
          refine ⟨hbw, ?_⟩
          have hgrow0 := below_grown (row := vv.ownBlock) hbw
          refine RegR.can_free rfl ?_
          refine wp_append_own _ _ _ 38 rfl (g5 + 1) 33 i0 (.agg #[.int .u64 0, .string ByteArray.empty]) 2 24 Try.underlying38 hi0 hz0 hz1 hz2 rfl (by decide) vv i _ rfl (Hbd.out.own.alloc _).drew ⟨wr.heap.size, 0, none⟩ 1 1 [.int .u64 (kk.toNat : Int), .string val] rfl rfl (cells_new _ _ _) (by simp [Value.oneCell']) (by unfold maxLen; omega) (by omega) (by have := Hbd.out.lt; simp; omega) ?_
          intro v' w' hown' hgr hnil
          refine ⟨fun y => y = w', rfl, ?_⟩
          refine RegR.can_read (.pointer (some ⟨g5, 2, none⟩)) rfl (fun y hy => ?_) ?_
          · go_simp
          refine RegR.can_end rfl ?_
          obtain ⟨f0, f1⟩ := Hbd.out.cell (hgrow0.trans hgr)
          obtain ⟨A', c', rfl⟩ := own_slice hown'
          have hbd2 := Hbd.out.step (p := (kk, val)) (hgrow0.trans hgr) hown'
          rw [← Htk.out] at hbd2
          have Hbd2 := Lib.hid hbd2; clear hbd2 hown' hgr hnil
          go_simp
          go_wp2_with fail
          go_roundw
          case rel => exact ⟨i + 1, _, hlt, rfl, Hbd2.out, Hlow.out⟩
          case measure => simp [intOf]; omega
        · have d1 : decide (kk.toNat < x.toNat) = false := by simpa using hx
          have d1' : ¬ (kk.toNat : Int) < (x.toNat : Int) := by omega
          obtain ⟨hw1, hw2⟩ := while_split (q := lowB x) (show i ≤ L.length by omega) hlow (fun p M hp => by rw [hdr] at hp; cases hp; exact d1)
          obtain ⟨A', c', rfl⟩ := own_slice hbd.own
          have hc5 := (hbd.cell (y := wr) ⟨rfl, rfl, rfl, Nat.le_refl _, fun _ _ _ => rfl⟩).1
          have Hw := Lib.hid (show insS L x v = L.take i ++ [(x, v)] ++ L.drop i by unfold insS; rw [hw1, hw2])
          have Hbd := Lib.hid hbd; clear hbd hw1 hw2 htk hlow hdr hcellA hx
          have Hlen := Lib.hid hlen; clear hlen
          obtain ⟨i0, hi0, hz0, hz1, hz2⟩ := info_parts infoItem
          go_upto_region 16 with (at_builtin; refine wpList_append_own_at _ rfl _ _ 38 rfl (g5 + 1) 33 i0 (.agg #[.int .u64 0, .string ByteArray.empty]) 2 24 Try.underlying38 hi0 hz0 hz1 hz2 rfl (by decide) _ _ _ rfl (Hbd.out.own.alloc _) ⟨wr.heap.size, 0, none⟩ 1 1 [.int .u64 (x.toNat : Int), .string v] rfl rfl (cells_new _ _ _) (by simp [Value.oneCell']) (by unfold maxLen; omega) (by omega) (by have := Hbd.out.lt; simp; omega) ?_; intro v' w1 hown' hgrow hnil hat; obtain ⟨A2, c2, rfl⟩ := own_slice hown'; have hgw := (below_grown (row := (Value.slice A' i c').ownBlock) ((Below.refl _ wr).alloc (Nat.le_refl _) (.cells #[.int .u64 (x.toNat : Int), .string v] 33))).trans hgrow; obtain ⟨f0, f1⟩ := Hbd.out.cell hgw; have Hgw := Lib.hid hgw; clear hgw; have Hown := Lib.hid hown'; clear hown' hgrow hnil hat)
          have hbd2 := Hbd.out.step (p := (x, v)) Hgw.out Hown.out
          have hs5 : (w1.setCell ⟨g5, 2, none⟩ (.slice A2 (i + 1) c2)).heap.size = w1.heap.size := by simp [World.setCell]
          clear f0 f1 rr hc5 Hbd Hgw Hown
          generalize w1.setCell ⟨g5, 2, none⟩ (.slice A2 (i + 1) c2) = w5 at *
          have hself : w5.grownBy w5.drew (Value.slice A2 (i + 1) c2).ownBlock := ⟨rfl, rfl, rfl, Nat.le_refl _, fun _ _ _ => rfl⟩
          obtain ⟨f0, f1⟩ := hbd2.cell hself
          have rr : w5.drew.cell? ⟨g, 2, none⟩ = some (.slice (some ⟨b', o, none⟩) n c) := by
            rw [← Hr3.out]
            exact hbd2.cellOld hself hg25.1
          have hsub : IntKind.i64.wrap (((i + 1 : Nat) : Int) - 1) = (i : Int) := by rw [IntKind.wrap_i64] <;> omega
          obtain ⟨q, hq⟩ : ∃ q, i + 1 = q := ⟨_, rfl⟩
          rw [hq] at hsub f0 hbd2 hself ⊢
          have Hbd2 := Lib.hid hbd2; clear hbd2
          have Hself := Lib.hid hself; clear hself
          have Hq := Lib.hid hq; clear hq
          refine RegR.wp_region_can (fun y => y = w5.drew) [(0, 0), (1, 0), (2, 0), (3, 0), (4, 0), (5, 0), (6, 0), (7, 0), (8, 0), (9, 3), (10, 0), (11, 2)] (by kernel_rfl) (by kernel_rfl) (fun _ _ d _ _ h => by cases d <;> exact h) rfl ?_
          dsimp only [RegR.pick, List.getElem?_cons_zero, List.getElem?_cons_succ]
          iterate 8 (refine RegR.can_reads (fun K hK => ?_); go_simp; refine hK _ ?_; clear hK K)
          have hci : ¬ c = i := by
            rcases Hok.out with ⟨e, _, _⟩ | ⟨_, _, _, h1, _⟩
            · cases e
            · omega
          refine RegR.can_reads (fun K hK => ?_)
          go_simp
          refine hK _ ?_
          clear hK K
          refine RegR.can_free rfl ?_
          refine wp_append_own _ _ _ 38 rfl (g5 + 1) 33 i0 (.agg #[.int .u64 0, .string ByteArray.empty]) 2 24 Try.underlying38 hi0 hz0 hz1 hz2 rfl (by decide) (.slice A2 q c2) q _ rfl Hbd2.out.own.drew ⟨b', o + i * 2, none⟩ (n - i) (c - i) (flatItems (L.drop i)) rfl (by rw [flat_len, List.length_drop, Hlen.out]) (fun j u hj => ?_) flat_one (by unfold maxLen; have := Hq.out; omega) (by have := Hq.out; omega) (by have := Hbd2.out.lt; show g5 + 1 ≤ w5.heap.size; omega) ?_
          · rw [← items_flat Hi3.out j u hj]
            rw [show ({ block := b', off := o + i * 2 } : Addr).add j = ⟨b', o + i * 2 + j, none⟩ by simp [Addr.add]]
            exact Hbd2.out.cellOld (b := b') (o := o + i * 2 + j) Hself.out (by omega)
          intro v3 w6 hown3 hgr3 hnil3
          refine ⟨fun y => y = w6, rfl, ?_⟩
          refine RegR.can_read (.pointer (some ⟨g5, 2, none⟩)) rfl (fun y hy => ?_) ?_
          · go_simp
          refine RegR.can_end rfl ?_
          clear f0 f1 rr
          obtain ⟨f0, f1⟩ := Hbd2.out.cell (Hself.out.trans hgr3)
          obtain ⟨A3, c3, rfl⟩ := own_slice hown3
          obtain ⟨q3, hq3⟩ : ∃ q3, q + (n - i) = q3 := ⟨_, rfl⟩
          rw [hq3] at hown3 ⊢
          have hbd3 := Hbd2.out.steps (Hself.out.trans hgr3) (M' := insS L x v) (v' := .slice A3 q3 c3) (k' := q3) (by rw [Hw.out, flat_append, flat_append]; rw [flat_append] at hown3; exact hown3)
          have Hbd3 := Lib.hid hbd3; clear hbd3 hown3 hgr3 hnil3 Hbd2 Hself
          go_simp
          generalize w6.setCell ⟨g5, 2, none⟩ (.slice A3 q3 c3) = w7 at *
          clear f0 f1
          have b0 : w7.cell? ⟨g5, 0, none⟩ = some (.int .u64 (b.toNat : Int)) := cell_of_row _ _ _ _ _ _ Hbd3.out.blk
          have b1 : w7.cell? ⟨g5, 1, none⟩ = some (.int .u64 (t.toNat : Int)) := cell_of_row _ _ _ _ _ _ Hbd3.out.blk
          have b2 : w7.cell? ⟨g5, 2, none⟩ = some (.slice A3 q3 c3) := cell_of_row _ _ _ _ _ _ Hbd3.out.blk
          have ho4 : RefAt w7 g4 0#64 0#64 none 0 0 := (Hbd3.out.old.block g4 hg25.2).trans Ho3.out
          obtain ⟨o0, o1, o2⟩ := ho4.cells
          have z0 := ho4.thawed 0
          have z1 := ho4.thawed 1
          have z2 := ho4.thawed 2
          have Ho4 := Lib.hid ho4; clear ho4
          go_wp2_with fail
          change bodyPost _ _ _ _ _ (stored w7 g4 b t A3 q3 c3)
          have hst := stored_at (x := b) (t := t) (A := A3) (n := q3) (c := c3) Ho4.out
          obtain ⟨s0, s1, s2⟩ := hst.cells
          refine bodyPost_ret (v := .tuple #[refV b t A3 q3 c3, .int .i64 0]) (by simp [results, Try.results30, go_sem, s0, s1, s2, refV, refCells] <;> rfl) rfl ?_
          exact Hbd3.out.toPost Hb3.out Hg.out hg25.1 hg25.2 (by have := Hg4.out; omega) 0
      · have hlt' : ¬ (i : Int) < (n : Int) := by omega
        obtain ⟨hw1, hw2⟩ := while_split (q := lowB x) (show i ≤ L.length by omega) hlow (fun p M hp => by rw [List.drop_of_length_le (by omega)] at hp; cases hp)
        obtain rfl : i = n := by omega
        rcases Hok.out with ⟨rfl, rfl, rfl⟩ | ⟨b', o, rfl, hnc, hcm⟩
        · obtain ⟨A', c', rfl⟩ := own_slice hbd.own
          have hc5 := (hbd.cell (y := wr) ⟨rfl, rfl, rfl, Nat.le_refl _, fun _ _ _ => rfl⟩).1
          have Hw := Lib.hid (show insS L x v = L.take 0 ++ [(x, v)] ++ L.drop 0 by unfold insS; rw [hw1, hw2])
          have Hbd := Lib.hid hbd; clear hbd hw1 hw2 hlow
          have Hlen := Lib.hid hlen; clear hlen
          obtain ⟨i0, hi0, hz0, hz1, hz2⟩ := info_parts infoItem
          go_upto_region 16 with (at_builtin; refine wpList_append_own_at _ rfl _ _ 38 rfl (g5 + 1) 33 i0 (.agg #[.int .u64 0, .string ByteArray.empty]) 2 24 Try.underlying38 hi0 hz0 hz1 hz2 rfl (by decide) _ _ _ rfl (Hbd.out.own.alloc _) ⟨wr.heap.size, 0, none⟩ 1 1 [.int .u64 (x.toNat : Int), .string v] rfl rfl (cells_new _ _ _) (by simp [Value.oneCell']) (by unfold maxLen; omega) (by omega) (by have := Hbd.out.lt; simp; omega) ?_; intro v' w1 hown' hgrow hnil hat; obtain ⟨A2, c2, rfl⟩ := own_slice hown'; have hgw := (below_grown (row := (Value.slice A' 0 c').ownBlock) ((Below.refl _ wr).alloc (Nat.le_refl _) (.cells #[.int .u64 (x.toNat : Int), .string v] 33))).trans hgrow; obtain ⟨f0, f1⟩ := Hbd.out.cell hgw; have Hgw := Lib.hid hgw; clear hgw; have Hown := Lib.hid hown'; clear hown' hgrow hnil hat)
          have hbd2 := Hbd.out.step (p := (x, v)) Hgw.out Hown.out
          have hs5 : (w1.setCell ⟨g5, 2, none⟩ (.slice A2 1 c2)).heap.size = w1.heap.size := by simp [World.setCell]
          clear f0 f1 rr hc5 Hbd Hgw Hown
          generalize w1.setCell ⟨g5, 2, none⟩ (.slice A2 1 c2) = w5 at *
          have hself : w5.grownBy w5.drew (Value.slice A2 1 c2).ownBlock := ⟨rfl, rfl, rfl, Nat.le_refl _, fun _ _ _ => rfl⟩
          obtain ⟨f0, f1⟩ := hbd2.cell hself
          have rr : w5.drew.cell? ⟨g, 2, none⟩ = some (.slice none 0 0) := by
            rw [← Hr3.out]
            exact hbd2.cellOld hself hg25.1
          have hsub : IntKind.i64.wrap (0 : Int) = (0 : Int) := by rw [IntKind.wrap_i64] <;> omega
          have Hbd2 := Lib.hid hbd2; clear hbd2
          have Hself := Lib.hid hself; clear hself
          refine RegR.wp_region_can (fun y => y = w5.drew) [(0, 0), (1, 0), (2, 0), (3, 0), (4, 0), (5, 0), (6, 0), (7, 0), (8, 0), (9, 3), (10, 0), (11, 2)] (by kernel_rfl) (by kernel_rfl) (fun _ _ d _ _ h => by cases d <;> exact h) rfl ?_
          dsimp only [RegR.pick, List.getElem?_cons_zero, List.getElem?_cons_succ]
          iterate 8 (refine RegR.can_reads (fun K hK => ?_); go_simp; refine hK _ ?_; clear hK K)
          refine RegR.can_reads (fun K hK => ?_)
          go_simp
          refine hK _ ?_
          clear hK K
          refine RegR.can_free rfl ?_
          refine wp_append_none _ _ _ rfl (g5 + 1) 33 i0 2 Try.underlying38 hi0 (.slice A2 1 c2) 1 _ rfl Hbd2.out.own.drew rfl ?_
          refine ⟨fun y => y = w5.drew, rfl, ?_⟩
          refine RegR.can_read (.pointer (some ⟨g5, 2, none⟩)) rfl (fun y hy => ?_) ?_
          · go_simp
          refine RegR.can_end rfl ?_
          have hbd3 := Hbd2.out.steps Hself.out (M' := insS L x v) (v' := .slice A2 1 c2) (k' := 1) (by rw [Hw.out]; have := Hlen.out; have hL : L = [] := List.eq_nil_of_length_eq_zero (by omega); have h := Hbd2.out.own.drew; rw [hL] at h ⊢; exact h)
          have Hbd3 := Lib.hid hbd3; clear hbd3 Hbd2 Hself
          go_simp
          change (_ : World → Prop) (w5.drew.setCell ⟨g5, 2, none⟩ (.slice A2 1 c2))
          generalize w5.drew.setCell ⟨g5, 2, none⟩ (.slice A2 1 c2) = w7 at *
          clear f0 f1
          have b0 : w7.cell? ⟨g5, 0, none⟩ = some (.int .u64 (b.toNat : Int)) := cell_of_row _ _ _ _ _ _ Hbd3.out.blk
          have b1 : w7.cell? ⟨g5, 1, none⟩ = some (.int .u64 (t.toNat : Int)) := cell_of_row _ _ _ _ _ _ Hbd3.out.blk
          have b2 : w7.cell? ⟨g5, 2, none⟩ = some (.slice A2 1 c2) := cell_of_row _ _ _ _ _ _ Hbd3.out.blk
          have ho4 : RefAt w7 g4 0#64 0#64 none 0 0 := (Hbd3.out.old.block g4 hg25.2).trans Ho3.out
          obtain ⟨o0, o1, o2⟩ := ho4.cells
          have z0 := ho4.thawed 0
          have z1 := ho4.thawed 1
          have z2 := ho4.thawed 2
          have Ho4 := Lib.hid ho4; clear ho4
          go_wp2_with fail
          change bodyPost _ _ _ _ _ (stored w7 g4 b t A2 1 c2)
          have hst := stored_at (x := b) (t := t) (A := A2) (n := 1) (c := c2) Ho4.out
          obtain ⟨s0, s1, s2⟩ := hst.cells
          refine bodyPost_ret (v := .tuple #[refV b t A2 1 c2, .int .i64 0]) (by simp [results, Try.results30, go_sem, s0, s1, s2, refV, refCells] <;> rfl) rfl ?_
          exact Hbd3.out.toPost Hb3.out Hg.out hg25.1 hg25.2 (by have := Hg4.out; omega) 0
        · obtain ⟨A', c', rfl⟩ := own_slice hbd.own
          have hc5 := (hbd.cell (y := wr) ⟨rfl, rfl, rfl, Nat.le_refl _, fun _ _ _ => rfl⟩).1
          have Hw := Lib.hid (show insS L x v = L.take i ++ [(x, v)] ++ L.drop i by unfold insS; rw [hw1, hw2])
          have Hbd := Lib.hid hbd; clear hbd hw1 hw2 hlow
          have Hlen := Lib.hid hlen; clear hlen
          obtain ⟨i0, hi0, hz0, hz1, hz2⟩ := info_parts infoItem
          go_upto_region 16 with (at_builtin; refine wpList_append_own_at _ rfl _ _ 38 rfl (g5 + 1) 33 i0 (.agg #[.int .u64 0, .string ByteArray.empty]) 2 24 Try.underlying38 hi0 hz0 hz1 hz2 rfl (by decide) _ _ _ rfl (Hbd.out.own.alloc _) ⟨wr.heap.size, 0, none⟩ 1 1 [.int .u64 (x.toNat : Int), .string v] rfl rfl (cells_new _ _ _) (by simp [Value.oneCell']) (by unfold maxLen; omega) (by omega) (by have := Hbd.out.lt; simp; omega) ?_; intro v' w1 hown' hgrow hnil hat; obtain ⟨A2, c2, rfl⟩ := own_slice hown'; have hgw := (below_grown (row := (Value.slice A' i c').ownBlock) ((Below.refl _ wr).alloc (Nat.le_refl _) (.cells #[.int .u64 (x.toNat : Int), .string v] 33))).trans hgrow; obtain ⟨f0, f1⟩ := Hbd.out.cell hgw; have Hgw := Lib.hid hgw; clear hgw; have Hown := Lib.hid hown'; clear hown' hgrow hnil hat)
          have hbd2 := Hbd.out.step (p := (x, v)) Hgw.out Hown.out
          have hs5 : (w1.setCell ⟨g5, 2, none⟩ (.slice A2 (i + 1) c2)).heap.size = w1.heap.size := by simp [World.setCell]
          clear f0 f1 rr hc5 Hbd Hgw Hown
          generalize w1.setCell ⟨g5, 2, none⟩ (.slice A2 (i + 1) c2) = w5 at *
          have hself : w5.grownBy w5.drew (Value.slice A2 (i + 1) c2).ownBlock := ⟨rfl, rfl, rfl, Nat.le_refl _, fun _ _ _ => rfl⟩
          obtain ⟨f0, f1⟩ := hbd2.cell hself
          have rr : w5.drew.cell? ⟨g, 2, none⟩ = some (.slice (some ⟨b', o, none⟩) i c) := by
            rw [← Hr3.out]
            exact hbd2.cellOld hself hg25.1
          have hsub : IntKind.i64.wrap (((i + 1 : Nat) : Int) - 1) = (i : Int) := by rw [IntKind.wrap_i64] <;> omega
          obtain ⟨q, hq⟩ : ∃ q, i + 1 = q := ⟨_, rfl⟩
          rw [hq] at hsub f0 hbd2 hself ⊢
          have Hbd2 := Lib.hid hbd2; clear hbd2
          have Hself := Lib.hid hself; clear hself
          have Hq := Lib.hid hq; clear hq
          refine RegR.wp_region_can (fun y => y = w5.drew) [(0, 0), (1, 0), (2, 0), (3, 0), (4, 0), (5, 0), (6, 0), (7, 0), (8, 0), (9, 3), (10, 0), (11, 2)] (by kernel_rfl) (by kernel_rfl) (fun _ _ d _ _ h => by cases d <;> exact h) rfl ?_
          dsimp only [RegR.pick, List.getElem?_cons_zero, List.getElem?_cons_succ]
          iterate 8 (refine RegR.can_reads (fun K hK => ?_); go_simp; refine hK _ ?_; clear hK K)
          obtain ⟨ad, had⟩ : ∃ ad, (if c = i then some (⟨b', o, none⟩ : Addr) else some ⟨b', o + i * 2, none⟩) = some ad := by split <;> exact ⟨_, rfl⟩
          refine RegR.can_reads (fun K hK => ?_)
          go_simp
          refine hK _ ?_
          clear hK K
          refine RegR.can_free rfl ?_
          refine wp_append_own _ _ _ 38 rfl (g5 + 1) 33 i0 (.agg #[.int .u64 0, .string ByteArray.empty]) 2 24 Try.underlying38 hi0 hz0 hz1 hz2 rfl (by decide) (.slice A2 q c2) q _ rfl Hbd2.out.own.drew ad 0 (c - i) [] rfl rfl (fun j u hj => by simp at hj) (fun u hu => by simp at hu) (by unfold maxLen; have := Hq.out; omega) (by have := Hq.out; omega) (by have := Hbd2.out.lt; show g5 + 1 ≤ w5.heap.size; omega) ?_
          intro v3 w6 hown3 hgr3 hnil3
          refine ⟨fun y => y = w6, rfl, ?_⟩
          refine RegR.can_read (.pointer (some ⟨g5, 2, none⟩)) rfl (fun y hy => ?_) ?_
          · go_simp
          refine RegR.can_end rfl ?_
          clear f0 f1 rr
          obtain ⟨f0, f1⟩ := Hbd2.out.cell (Hself.out.trans hgr3)
          obtain ⟨A3, c3, rfl⟩ := own_slice hown3
          obtain ⟨q3, hq3⟩ : ∃ q3, q + 0 = q3 := ⟨_, rfl⟩
          rw [hq3] at hown3 ⊢
          have hbd3 := Hbd2.out.steps (Hself.out.trans hgr3) (M' := insS L x v) (v' := .slice A3 q3 c3) (k' := q3) (by rw [Hw.out, flat_append, List.drop_of_length_le (by have := Hlen.out; omega)]; exact hown3)
          have Hbd3 := Lib.hid hbd3; clear hbd3 hown3 hgr3 hnil3 Hbd2 Hself
          go_simp
          generalize w6.setCell ⟨g5, 2, none⟩ (.slice A3 q3 c3) = w7 at *
          clear f0 f1
          have b0 : w7.cell? ⟨g5, 0, none⟩ = some (.int .u64 (b.toNat : Int)) := cell_of_row _ _ _ _ _ _ Hbd3.out.blk
          have b1 : w7.cell? ⟨g5, 1, none⟩ = some (.int .u64 (t.toNat : Int)) := cell_of_row _ _ _ _ _ _ Hbd3.out.blk
          have b2 : w7.cell? ⟨g5, 2, none⟩ = some (.slice A3 q3 c3) := cell_of_row _ _ _ _ _ _ Hbd3.out.blk
          have ho4 : RefAt w7 g4 0#64 0#64 none 0 0 := (Hbd3.out.old.block g4 hg25.2).trans Ho3.out
          obtain ⟨o0, o1, o2⟩ := ho4.cells
          have z0 := ho4.thawed 0
          have z1 := ho4.thawed 1
          have z2 := ho4.thawed 2
          have Ho4 := Lib.hid ho4; clear ho4
          go_wp2_with fail
          change bodyPost _ _ _ _ _ (stored w7 g4 b t A3 q3 c3)
          have hst := stored_at (x := b) (t := t) (A := A3) (n := q3) (c := c3) Ho4.out
          obtain ⟨s0, s1, s2⟩ := hst.cells
          refine bodyPost_ret (v := .tuple #[refV b t A3 q3 c3, .int .i64 0]) (by simp [results, Try.results30, go_sem, s0, s1, s2, refV, refCells] <;> rfl) rfl ?_
          exact Hbd3.out.toPost Hb3.out Hg.out hg25.1 hg25.2 (by have := Hg4.out; omega) 0
end Go.Proofs.Ytimhpncdlaildaa
