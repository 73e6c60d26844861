/- Play (plain): how the document reads a line. Condition: as each theorem says. -/
import Derived.Test.YtjjlodeiejobdaaDoorZPlayWrites12
namespace Go.Proofs.YtjjlodeiejobdaaDoor
open Go.RowKit Go.Shelf
/-- The Do of a word: the last one below n. -/
def wdAt (p : Bs) : Nat → Nat
  | 0 => 0
  | n + 1 => if 1 ≤ n ∧ wdN n = p then n else wdAt p n
def kdAt (p : Bs) : Nat → Nat
  | 0 => 0
  | n + 1 => if 1 ≤ n ∧ kdN n = p then n else kdAt p n
theorem wdAt_lt (p : Bs) : ∀ n, wdAt p (n + 1) ≤ n
  | 0 => by simp [wdAt]
  | n + 1 => by
    unfold wdAt
    split
    · exact Nat.le_refl _
    · exact Nat.le_succ_of_le (wdAt_lt p n)
theorem kdAt_lt (p : Bs) : ∀ n, kdAt p (n + 1) ≤ n
  | 0 => by simp [kdAt]
  | n + 1 => by
    unfold kdAt
    split
    · exact Nat.le_refl _
    · exact Nat.le_succ_of_le (kdAt_lt p n)
theorem wdAt_name : ∀ d : Fin 14, 1 ≤ d.val → wdAt (wdN d.val) 14 = d.val := by decide +kernel
theorem kdAt_name : ∀ d : Fin 6, 1 ≤ d.val → kdAt (kdN d.val) 6 = d.val := by decide +kernel
def rdC (S : StpV) (c : UInt8) (t : Bs) : StpV := if c = 75 then { S with y := unV t } else if c = 79 then { S with o := unV t } else if c = 78 then { S with n := unV t } else { S with st := smV t }
def kGo (z : List (UInt8 × Bs)) (S : StpV) : StpV := z.foldl (fun S ct => rdC S ct.1 ct.2) S
def stA (T : Bs) (ws : List Bs) (S : StpV) : StpV := if 1 < ws.length ∧ T ≠ [] then { S with a := smV (ws.getD 1 []) } else S
def stB (T : Bs) (ws : List Bs) (S : StpV) : StpV := if 2 < ws.length ∧ T.getD 1 0 = 66 then { S with b := smV (ws.getD 2 []) } else S
def stK (T : Bs) (ws : List Bs) (S : StpV) : StpV := if T.getLast? = some 75 then { S with k := numV (ws.getD (ws.length - 1) []) } else S
def stC (D : Nat) (ws : List Bs) (S : StpV) : StpV := if D = 12 ∧ 3 < ws.length then kGo ((kdT (kdAt (ws.getD 2 []) 6)).zip (ws.drop 3)) { S with kd := kdAt (ws.getD 2 []) 6 } else S
/-- The step that the document reads out of a line. -/
def stepW (ws : List Bs) : StpV := stC (wdAt (ws.headD []) 14) ws (stK (wdT (wdAt (ws.headD []) 14)) ws (stB (wdT (wdAt (ws.headD []) 14)) ws (stA (wdT (wdAt (ws.headD []) 14)) ws (stp0 (wdAt (ws.headD []) 14) 0))))
theorem rdC_add {s S : StpV} {w : Bs} (hs : s.Ok) {c : UInt8} (hc : c = 75 ∨ c = 79 ∨ c = 78 ∨ c = 83) : rdC S c (fldL s w (kdC c)) = addC s S c := by
  rcases hc with rfl | rfl | rfl | rfl
  · show { S with y := unV (quoL s.y) } = { S with y := s.y }; rw [unV_quo]
  · show { S with o := unV (quoL s.o) } = { S with o := s.o }; rw [unV_quo]
  · show { S with n := unV (quoL s.n) } = { S with n := s.n }; rw [unV_quo]
  · show { S with st := smV (Lib.decDigits s.st) } = { S with st := s.st }; rw [smV_dec _ hs.st]
theorem kGo_add {s : StpV} {w : Bs} (hs : s.Ok) : ∀ (cs : Bs) (S : StpV), (∀ c ∈ cs, c = 75 ∨ c = 79 ∨ c = 78 ∨ c = 83) → kGo (cs.zip ((cs.map kdC).map (fldL s w))) S = cs.foldl (addC s) S
  | [], _, _ => rfl
  | c :: cs, S, h => by
    show kGo (cs.zip ((cs.map kdC).map (fldL s w))) (rdC S c (fldL s w (kdC c))) = _
    rw [rdC_add hs (h c (List.mem_cons_self ..)), kGo_add hs cs _ (fun x hx => h x (List.mem_cons_of_mem _ hx))]
    rfl
theorem say_split {s : StpV} {line : Bs} {f : FormV} (hm : f ∈ FT) (hl : line = lineL f s) : splL 32 line = (if f.d = 12 then INV else f.w) :: f.t.map (fldL s f.w) := by
  obtain ⟨h1, h2, h3, h4, h5, -⟩ := ft_ok f hm
  rw [hl]
  unfold lineL
  refine spl_joi (by simp) fun p hp x hx => ?_
  rcases List.mem_cons.1 hp with rfl | hp
  · split at hx
    · unfold INV at hx
      simp only [List.mem_cons, List.not_mem_nil, or_false] at hx
      rcases hx with rfl | rfl | rfl | rfl | rfl | rfl <;> decide
    · exact (h5 x hx).1
  · obtain ⟨c, _, rfl⟩ := List.mem_map.1 hp
    exact (fld_clean s h5 c x hx).1
/-- A line that can be said is read as its step. -/
theorem step_back {s : StpV} (hs : s.Ok) {line : Bs} (h : sayL s = some line) : stepW (splL 32 line) = s := by
  unfold sayL at h
  split at h
  · next f hf =>
    split at h
    · next hk =>
      have hl : line = lineL f s := (Option.some.inj h).symm
      obtain ⟨hm, hp⟩ := find_mem hf
      obtain ⟨hd, hkd⟩ := of_decide_eq_true hp
      rw [say_split hm hl]
      by_cases h12 : f.d = 12
      · have hd12 : s.d = 12 := by rw [← hd]; exact h12
        have hk5 := (ft_all f hm).2.2.2 h12
        rw [hkd] at hk5
        obtain ⟨g, hg, _, _, g4, _, g6⟩ := kd_ex2 s.kd hk5
        have hfg : f = g := by rw [hd12, hg] at hf; exact (Option.some.inj hf).symm
        have hk6 : kdAt f.w 6 = s.kd := by rw [hfg, g4]; exact kdAt_name ⟨s.kd, by omega⟩ hk5.1
        have hw12 : wdAt INV 14 = 12 := by decide +kernel
        have hfold := fold_keep s hd12 hk5
        have hft : f.t = 97 :: 105 :: (kdT s.kd).map kdC := by rw [hfg, g6]
        have hk3 : 1 ≤ (kdT s.kd).length := by
          have hq : s.kd = 1 ∨ s.kd = 2 ∨ s.kd = 3 ∨ s.kd = 4 ∨ s.kd = 5 := by omega
          rcases hq with q | q | q | q | q <;> rw [q] <;> decide
        rw [if_pos h12, hft]
        unfold stepW
        simp only [List.headD_cons, hw12, List.map_cons]
        have e1 : wdT 12 = [65, 67] := rfl
        rw [e1]
        have eA : stA [65, 67] (INV :: fldL s f.w 97 :: fldL s f.w 105 :: ((kdT s.kd).map kdC).map (fldL s f.w)) (stp0 12 0) = { stp0 12 0 with a := s.a } := by
          unfold stA
          rw [if_pos ⟨by simp, by simp⟩]
          show { stp0 12 0 with a := smV (Lib.decDigits s.a) } = _
          rw [smV_dec _ hs.a]
        rw [eA]
        have eB : ∀ ws S, stB [65, 67] ws S = S := fun ws S => by unfold stB; rw [if_neg (by rintro ⟨_, q⟩; revert q; decide)]
        have eK : ∀ ws S, stK [65, 67] ws S = S := fun ws S => by unfold stK; rw [if_neg (by decide)]
        rw [eB, eK]
        unfold stC
        rw [if_pos ⟨rfl, by simp; omega⟩]
        have e2 : (INV :: fldL s f.w 97 :: fldL s f.w 105 :: ((kdT s.kd).map kdC).map (fldL s f.w)).getD 2 [] = f.w := rfl
        have e3 : (INV :: fldL s f.w 97 :: fldL s f.w 105 :: ((kdT s.kd).map kdC).map (fldL s f.w)).drop 3 = ((kdT s.kd).map kdC).map (fldL s f.w) := rfl
        rw [e2, e3, hk6, kGo_add hs _ _ (fun c hc => kd_mem s.kd hc)]
        rw [hd12] at hfold
        rw [hfold]
        rw [hft, h12, hkd] at hk
        exact hk
      · have hk0 : s.kd = 0 := by rw [← hkd]; exact (ft_all f hm).2.2.1 h12
        have hd14 := (ft_all f hm).2.1
        rcases cls_ex ⟨s.d, by omega⟩ with q | q | ⟨g, _, g1, g2, g3, g4, _, _, g7⟩
        · exact ((ft_all f hm).1 (by rw [hd]; exact q)).elim
        · exact (h12 (by rw [hd]; exact q)).elim
        · have hfg : f = g := by rw [hk0, g1] at hf; exact (Option.some.inj hf).symm
          have hwd : wdAt f.w 14 = s.d := by rw [hfg, g4]; exact wdAt_name ⟨s.d, by omega⟩ (by show 1 ≤ s.d; have := (ft_all f hm).1; omega)
          rw [if_neg h12]
          unfold stepW
          simp only [List.headD_cons, hwd]
          have eC : ∀ ws S, stC s.d ws S = S := fun ws S => by unfold stC; rw [if_neg (fun q => h12 (by rw [hd]; exact q.1))]
          rw [eC]
          rw [← hfg] at g7 g3
          rw [hd, g3] at hk
          rcases g7 with ⟨t1, t2⟩ | ⟨t1, t2⟩ | ⟨t1, t2⟩ | ⟨t1, t2⟩ | ⟨t1, t2⟩ <;> (simp only at t1; rw [t1, t2] ; rw [t2] at hk; simp [keepC] at hk; simp [stA, stB, stK, fldL, smV_dec _ hs.a, smV_dec _ hs.b, numV_itoa _ hs.k.1 hs.k.2]; exact hk)
    · cases h
  · cases h
end Go.Proofs.YtjjlodeiejobdaaDoor
namespace Go.Proofs.YtjjlodeiejobdaaDoor
open Go.RowKit Go.Shelf
/-- What Step holds. -/
structure StI (w : World) (g2 g g5 : Nat) (ps : List ByteArray) (S : StpV) (y : World) : Prop where
  z : StpAt y g2 (stp0 0 0)
  p : StrsAt y g 0 ps
  s : StpAt y g5 S
  bel : Below w.heap.size w y
  r2 : w.heap.size ≤ g2
  r5 : g2 < g5
  rg : g < g5
theorem StI.below {w y y' : World} {g2 g g5 : Nat} {ps : List ByteArray} {S : StpV} (h : StI w g2 g g5 ps S y) (hb : Below y.heap.size y y') : StI w g2 g g5 ps S y' := ⟨h.z.below hb, h.p.below hb, h.s.below hb, h.bel.trans (hb.mono h.bel.size), h.r2, h.r5, h.rg⟩
theorem StI.set {w y : World} {g2 g g5 : Nat} {ps : List ByteArray} {S : StpV} (h : StI w g2 g g5 ps S y) (S' : StpV) (i : Nat) (v : Value) (e : (stpC S).toArray.setIfInBounds i v = (stpC S').toArray) : StI w g2 g g5 ps S' (y.setCell ⟨g5, i, none⟩ v) :=
  ⟨(Below.heap_setCell _ _ _ _ (by show g2 ≠ g5; have := h.r5; omega)).trans h.z, ⟨by simpa using h.p.lt, fun j x hj => (World.cell?_of_block (Below.heap_setCell _ _ _ _ (by show g ≠ g5; have := h.rg; omega))).trans (h.p.at_ j x hj)⟩, h.s.set S' i v e, h.bel.setCell (p := ⟨g5, i, none⟩) (by show w.heap.size ≤ g5; have := h.r2; have := h.r5; omega) _, h.r2, h.r5, h.rg⟩
theorem StI.piece {w y : World} {g2 g g5 : Nat} {ps : List ByteArray} {S : StpV} (h : StI w g2 g g5 ps S y) {j : Nat} {x : ByteArray} (hx : ps[j]? = some x) : y.cell? ⟨g, j, none⟩ = some (.string x) := by
  have := h.p.at_ j x hx
  rwa [Nat.zero_add] at this
theorem un_len : ∀ (n : Nat) (l b : Bs), l.length ≤ n → unGo l = some b → b.length ≤ l.length
  | _, [], b, _, h => by unfold unGo at h; cases h; exact Nat.le_refl _
  | 0, c :: r, b, hn, _ => by simp at hn
  | n + 1, c :: r, b, hn, h => by
    rw [List.length_cons] at hn
    unfold unGo at h
    split at h
    · obtain ⟨b', h1, rfl⟩ := Option.map_eq_some_iff.1 h
      have := un_len n r b' (by omega) h1
      simpa using this
    · split at h
      · split at h
        · next a b2 r' =>
          split at h
          · obtain ⟨b', h1, rfl⟩ := Option.map_eq_some_iff.1 h
            simp only [List.length_cons] at hn
            have := un_len n r' b' (by omega) h1
            simp only [List.length_cons]
            omega
          · cases h
        · cases h
      · cases h
theorem unV_len (q : Bs) : (unV q).length ≤ q.length := by
  unfold unV
  split
  · exact Nat.zero_le _
  · cases h : unGo q with
    | none => exact Nat.zero_le _
    | some b => exact un_len _ q b (Nat.le_refl _) h
theorem rd_few {S : StpV} (hS : S.Ok ∧ S.Few) (z : List (UInt8 × Bs)) (hz : ∀ ct ∈ z, ct.2.length ≤ 30000) : (kGo z S).Ok ∧ (kGo z S).Few := by
  induction z generalizing S with
  | nil => exact hS
  | cons ct z ih =>
    refine ih (S := rdC S ct.1 ct.2) ?_ (fun x hx => hz x (List.mem_cons_of_mem _ hx))
    have h1 := hz ct (List.mem_cons_self ..)
    have h2 := unV_len ct.2
    unfold rdC
    split
    · exact ⟨{ hS.1 with }, { hS.2 with y := by show (unV ct.2).length ≤ 100000; omega }⟩
    · split
      · exact ⟨{ hS.1 with }, { hS.2 with o := by show (unV ct.2).length ≤ 100000; omega }⟩
      · split
        · exact ⟨{ hS.1 with }, { hS.2 with n := by show (unV ct.2).length ≤ 100000; omega }⟩
        · exact ⟨{ hS.1 with st := smV_lt _ }, { hS.2 with }⟩
theorem step_ok (ws : List Bs) (hw : ∀ p ∈ ws, p.length ≤ 30000) : (stepW ws).Ok ∧ (stepW ws).Few := by
  unfold stepW
  have hd : wdAt (ws.headD []) 14 < 256 := Nat.lt_of_le_of_lt (wdAt_lt (ws.headD []) 13) (by decide)
  generalize wdAt (ws.headD []) 14 = d at *
  have h0 : (stp0 d 0).Ok ∧ (stp0 d 0).Few := ⟨stp0_ok hd (by decide), ⟨Nat.zero_le _, Nat.zero_le _, Nat.zero_le _⟩⟩
  have hA : (stA (wdT d) ws (stp0 d 0)).Ok ∧ (stA (wdT d) ws (stp0 d 0)).Few := by
    unfold stA
    split
    · exact ⟨{ h0.1 with a := smV_lt _ }, { h0.2 with }⟩
    · exact h0
  generalize stA (wdT d) ws (stp0 d 0) = s1 at *
  have hB : (stB (wdT d) ws s1).Ok ∧ (stB (wdT d) ws s1).Few := by
    unfold stB
    split
    · exact ⟨{ hA.1 with b := smV_lt _ }, { hA.2 with }⟩
    · exact hA
  generalize stB (wdT d) ws s1 = s2 at *
  have hK : (stK (wdT d) ws s2).Ok ∧ (stK (wdT d) ws s2).Few := by
    unfold stK
    split
    · exact ⟨{ hB.1 with k := num_range _ }, { hB.2 with }⟩
    · exact hB
  generalize stK (wdT d) ws s2 = s3 at *
  unfold stC
  split
  · refine rd_few (S := { s3 with kd := kdAt (ws.getD 2 []) 6 }) ⟨{ hK.1 with kd := Nat.lt_of_le_of_lt (kdAt_lt (ws.getD 2 []) 5) (by decide) }, { hK.2 with }⟩ _ (fun ct hct => ?_)
    have h1 := (List.of_mem_zip (show (ct.1, ct.2) ∈ _ from hct)).2
    exact hw _ (List.mem_of_mem_drop h1)
  · exact hK
theorem fin_yes {line : Bs} {S : StpV} (hok : S.Ok) (h : sayL S = some line) : rdL line = some S := (rd_iff hok).2 h
theorem fin_no {line : Bs} {S : StpV} (hS : S = stepW (splL 32 line)) (h : sayL S ≠ some line) : rdL line = none := by
  cases hr : rdL line with
  | none => rfl
  | some s1 =>
    obtain ⟨h1, h2⟩ := rd_some hr
    rw [step_back h1 h2] at hS
    rw [hS] at h
    exact (h h2).elim
theorem ac_12 (d : Nat) (h : d ≤ 13) (hT : wdT d = [65, 67]) : d = 12 := (show ∀ j : Fin 14, wdT j.val = [65, 67] → j.val = 12 by decide) ⟨d, by omega⟩ hT
theorem cls6 (d : Nat) (h : d ≤ 13) : wdT d = [] ∨ wdT d = [65] ∨ wdT d = [65, 66] ∨ wdT d = [65, 66, 75] ∨ wdT d = [65, 75] ∨ wdT d = [65, 67] := (show ∀ j : Fin 14, wdT j.val = [] ∨ wdT j.val = [65] ∨ wdT j.val = [65, 66] ∨ wdT j.val = [65, 66, 75] ∨ wdT j.val = [65, 75] ∨ wdT j.val = [65, 67] by decide) ⟨d, by omega⟩
end Go.Proofs.YtjjlodeiejobdaaDoor
