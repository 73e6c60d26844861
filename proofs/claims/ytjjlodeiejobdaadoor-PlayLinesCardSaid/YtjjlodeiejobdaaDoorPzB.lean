/- Play (plain): written and parsed, there and back. Condition: as each theorem says. -/
import Derived.Test.YtjjlodeiejobdaaDoorPzA
namespace Go.Proofs.YtjjlodeiejobdaaDoor
open Go.RowKit Go.Shelf Go.Deep
def outL (z : List StpV) : Bs := z.flatMap (fun s => (sayL s).getD [] ++ [10])
def AllS (z : List StpV) : Prop := ∀ s ∈ z, (sayL s).isSome = true
theorem wr_all : ∀ {z : List StpV} {i : Nat} {acc : Bs}, AllS z → wrL z i acc = (acc ++ outL z, 0, 0)
  | [], _, acc, _ => by simp [wrL, outL]
  | s :: r, i, acc, h => by
    obtain ⟨l, hl⟩ := Option.isSome_iff_exists.1 (h s (List.mem_cons_self ..))
    rw [wrL, hl]
    simp only
    rw [wr_all (fun t ht => h t (List.mem_cons_of_mem _ ht))]
    simp [outL, hl]
theorem wr_cut : ∀ {z : List StpV} {i : Nat} {acc : Bs}, ¬ AllS z → ∃ j, j < z.length ∧ AllS (z.take j) ∧ wrL z i acc = ([], i + j + 1, 2)
  | [], _, _, h => (h (fun s hs => by cases hs)).elim
  | s :: r, i, acc, h => by
    cases hl : sayL s with
    | none => exact ⟨0, by simp, fun t ht => (by cases ht), (by rw [wrL, hl])⟩
    | some l =>
      obtain ⟨j, h1, h2, h3⟩ := wr_cut (z := r) (i := i + 1) (acc := acc ++ l ++ [10]) (fun ha => h (fun t ht => by
        rcases List.mem_cons.1 ht with rfl | ht
        · rw [hl]; rfl
        · exact ha t ht))
      refine ⟨j + 1, by simpa using h1, fun t ht => ?_, ?_⟩
      · rw [List.take_succ_cons] at ht
        rcases List.mem_cons.1 ht with rfl | ht
        · rw [hl]; rfl
        · exact h2 t ht
      · rw [wrL, hl]
        simp only
        rw [h3, show i + 1 + j + 1 = i + (j + 1) + 1 by omega]
theorem ft_head : ∀ f ∈ FT, ∃ c r, f.w = c :: r ∧ c ≠ 35 := by
  have h : ∀ f ∈ FT, f.w ≠ [] ∧ f.w.headD 35 ≠ 35 := by decide
  intro f hf
  obtain ⟨h1, h2⟩ := h f hf
  cases hw : f.w with
  | nil => exact (h1 hw).elim
  | cons c r => exact ⟨c, r, rfl, by rw [hw] at h2; exact h2⟩
theorem joi_hd {c : UInt8} {x : UInt8} {r : Bs} : ∀ {l : List Bs}, ∃ t, joiL c ((x :: r) :: l) = x :: t
  | [] => ⟨r, rfl⟩
  | y :: l => ⟨r ++ c :: joiL c (y :: l), rfl⟩
theorem joi_no {c d : UInt8} (hcd : d ≠ c) : ∀ {l : List Bs}, (∀ p ∈ l, d ∉ p) → d ∉ joiL c l
  | [], _ => by simp [joiL]
  | [x], h => by simpa [joiL] using h x (List.mem_cons_self ..)
  | x :: y :: r, h => by
    have ih := joi_no hcd (l := y :: r) (fun p hp => h p (List.mem_cons_of_mem _ hp))
    have hx := h x (List.mem_cons_self ..)
    rw [joiL, List.mem_append, List.mem_cons]
    rintro (q | q | q)
    · exact hx q
    · exact hcd q
    · exact ih q
/-- A line that a step's words make: no line's end, not empty, no remark. -/
theorem say_line {s : StpV} {l : Bs} (h : sayL s = some l) : 10 ∉ l ∧ saysL l = true := by
  obtain ⟨f, hf, hm, rfl⟩ := say_of h
  have hw := (ft_ok f hm).2.2.2.2.1
  refine ⟨joi_no (by decide) (fun p hp => ?_), ?_⟩
  · rcases List.mem_cons.1 hp with rfl | hp
    · split
      · decide
      · exact fun q => (hw 10 q).2 rfl
    · obtain ⟨c, _, rfl⟩ := List.mem_map.1 hp
      exact fun q => (fld_clean s hw c 10 q).2 rfl
  · unfold lineL
    split
    · obtain ⟨t, ht⟩ := joi_hd (c := 32) (x := 105) (r := [110, 118, 111, 107, 101]) (l := f.t.map (fldL s f.w))
      rw [show INV = 105 :: [110, 118, 111, 107, 101] from rfl, ht]
      rfl
    · obtain ⟨c, r, hc, hne⟩ := ft_head f hm
      obtain ⟨t, ht⟩ := joi_hd (c := 32) (x := c) (r := r) (l := f.t.map (fldL s f.w))
      rw [hc] at ht ⊢
      rw [ht]
      simpa [saysL] using hne
theorem spl_line {c : UInt8} : ∀ {l : Bs} {r : Bs}, c ∉ l → splL c (l ++ c :: r) = l :: splL c r
  | [], r, _ => by rw [List.nil_append, splL, if_pos rfl]
  | x :: l, r, h => by
    have hx : x ≠ c := fun e => h (by rw [e]; exact List.mem_cons_self ..)
    rw [List.cons_append, splL, if_neg hx, spl_line (l := l) (fun q => h (List.mem_cons_of_mem _ q))]
theorem spl_out : ∀ {z : List StpV}, AllS z → splL 10 (outL z) = z.map (fun s => (sayL s).getD []) ++ [[]]
  | [], _ => rfl
  | s :: r, h => by
    obtain ⟨l, hl⟩ := Option.isSome_iff_exists.1 (h s (List.mem_cons_self ..))
    have ih := spl_out (z := r) (fun t ht => h t (List.mem_cons_of_mem _ ht))
    show splL 10 (((sayL s).getD [] ++ [10]) ++ outL r) = _
    rw [hl, List.append_assoc]
    show splL 10 (l ++ 10 :: outL r) = _
    rw [spl_line (say_line hl).1, ih, List.map_cons, hl]
    rfl
def numb : Nat → List Bs → List (Nat × ByteArray)
  | _, [] => []
  | i, l :: r => (i + 1, ⟨l.toArray⟩) :: numb (i + 1) r
theorem flt_numb : ∀ {i : Nat} {l : List Bs}, (∀ p ∈ l, saysL p = true) → fltB i ((l ++ [[]]).map (fun q : Bs => (⟨q.toArray⟩ : ByteArray))) = numb i l
  | i, [], _ => by
    show (if saysB ⟨#[]⟩ then _ else _) = _
    rw [if_neg (by rw [says_eq]; decide)]
    rfl
  | i, p :: r, h => by
    have ih := flt_numb (i := i + 1) (l := r) (fun q hq => h q (List.mem_cons_of_mem _ hq))
    show (if saysB ⟨p.toArray⟩ then (i + 1, (⟨p.toArray⟩ : ByteArray)) :: fltB (i + 1) ((r ++ [[]]).map (fun q : Bs => (⟨q.toArray⟩ : ByteArray))) else _) = _
    rw [if_pos (by rw [says_eq]; exact h p (List.mem_cons_self ..)), ih]
    rfl
theorem prs_numb : ∀ {z : List StpV} {i : Nat} {acc : List StpV}, AllS z → (∀ s ∈ z, s.Ok) → acc.length = i → i ≤ 400 → prsL (numb i (z.map (fun s => (sayL s).getD []))) acc = if i + z.length ≤ 400 then (acc ++ z, 0, 0) else ([], 401, 6)
  | [], i, acc, _, _, _, hi => by
    rw [if_pos (by simpa using hi)]
    simp [numb, prsL]
  | s :: r, i, acc, h, hok, ha, hi => by
    obtain ⟨l, hl⟩ := Option.isSome_iff_exists.1 (h s (List.mem_cons_self ..))
    show prsL ((i + 1, ⟨((sayL s).getD []).toArray⟩) :: numb (i + 1) (r.map (fun s => (sayL s).getD []))) acc = _
    rw [prsL, show rdL _ = some s from (rd_iff (hok s (List.mem_cons_self ..))).2 (by rw [hl]; rfl)]
    simp only
    by_cases hq : acc.length = 400
    · rw [if_pos hq, if_neg (by rw [List.length_cons]; omega)]
      rw [show i + 1 = 401 by omega]
    · rw [if_neg hq, prs_numb (fun t ht => h t (List.mem_cons_of_mem _ ht)) (fun t ht => hok t (List.mem_cons_of_mem _ ht)) (by rw [List.length_append, List.length_singleton, ha]) (by omega), List.length_cons, show i + 1 + r.length = i + (r.length + 1) by omega, List.append_assoc]
      rfl
/-- What is written is parsed as itself. -/
theorem prs_out {z : List StpV} (h : AllS z) (hok : ∀ s ∈ z, s.Ok) : prsL (fltB 0 (pcsB 10 ⟨(outL z).toArray⟩)) [] = if z.length ≤ 400 then (z, 0, 0) else ([], 401, 6) := by
  unfold pcsB
  rw [show (⟨(outL z).toArray⟩ : ByteArray).data.toList = outL z from rfl, spl_out h, flt_numb (fun p hp => ?_), prs_numb (i := 0) (acc := []) h hok rfl (Nat.zero_le _), Nat.zero_add, List.nil_append]
  obtain ⟨s, hs, rfl⟩ := List.mem_map.1 hp
  obtain ⟨l, hl⟩ := Option.isSome_iff_exists.1 (h s hs)
  rw [hl]
  exact (say_line hl).2
/-- What Parse tells, in general. -/
theorem prs_cases : ∀ (L : List (Nat × ByteArray)) (acc : List StpV), acc.length ≤ 400 → (∀ p ∈ L, 1 ≤ p.1) →
    (∃ z, prsL L acc = (acc ++ z, 0, 0) ∧ z.map sayL = L.map (fun p => some p.2.data.toList) ∧ (∀ s ∈ z, s.Ok) ∧ (acc ++ z).length ≤ 400) ∨ (∃ n k, prsL L acc = ([], n, k) ∧ 1 ≤ n ∧ (k = 4 ∨ k = 6))
  | [], acc, ha, _ => .inl ⟨[], by simp [prsL], rfl, (fun s hs => by cases hs), (by simpa using ha)⟩
  | (n, p) :: r, acc, ha, hn => by
    rw [prsL]
    cases hr : rdL p.data.toList with
    | none => exact .inr ⟨n, 4, rfl, hn (n, p) (List.mem_cons_self ..), .inl rfl⟩
    | some s =>
      simp only
      by_cases hq : acc.length = 400
      · rw [if_pos hq]
        exact .inr ⟨n, 6, rfl, hn (n, p) (List.mem_cons_self ..), .inr rfl⟩
      · rw [if_neg hq]
        obtain ⟨hok, hsay⟩ := rd_some hr
        rcases prs_cases r (acc ++ [s]) (by rw [List.length_append, List.length_singleton]; omega) (fun q hq => hn q (List.mem_cons_of_mem _ hq)) with ⟨z, h1, h2, h3, h4⟩ | h
        · refine .inl ⟨s :: z, by rw [h1, List.append_assoc]; rfl, by rw [List.map_cons, h2, hsay]; rfl, fun t ht => ?_, by rw [List.append_assoc] at h4; exact h4⟩
          rcases List.mem_cons.1 ht with rfl | ht
          · exact hok
          · exact h3 t ht
        · exact .inr h
theorem flt_pos : ∀ {i : Nat} {l : List ByteArray}, ∀ p ∈ fltB i l, 1 ≤ p.1
  | i, q :: r, p, h => by
    have h : p ∈ (if saysB q then (i + 1, q) :: fltB (i + 1) r else fltB (i + 1) r) := h
    split at h
    · rcases List.mem_cons.1 h with rfl | h
      · exact Nat.le_add_left _ _
      · exact flt_pos p h
    · exact flt_pos p h
theorem flt_said : ∀ {i : Nat} {l : List ByteArray}, (fltB i l).flatMap (fun p => p.2.data.toList ++ [10]) = saidL (l.map (·.data.toList))
  | _, [] => rfl
  | i, q :: r => by
    show (if saysB q then (i + 1, q) :: fltB (i + 1) r else fltB (i + 1) r).flatMap _ = _
    rw [List.map_cons, show saidL (q.data.toList :: r.map (·.data.toList)) = (if saysL q.data.toList then q.data.toList ++ [10] else []) ++ saidL (r.map (·.data.toList)) from rfl, ← says_eq]
    split
    · rw [List.flatMap_cons, flt_said]
    · rw [flt_said]; rfl
theorem out_of : ∀ {z : List StpV} {L : List (Nat × ByteArray)}, z.map sayL = L.map (fun p => some p.2.data.toList) → AllS z ∧ outL z = L.flatMap (fun p => p.2.data.toList ++ [10])
  | [], [], _ => ⟨(fun s hs => by cases hs), rfl⟩
  | s :: z, p :: L, h => by
    rw [List.map_cons, List.map_cons, List.cons.injEq] at h
    obtain ⟨h1, h2⟩ := out_of h.2
    refine ⟨fun t ht => ?_, ?_⟩
    · rcases List.mem_cons.1 ht with rfl | ht
      · rw [h.1]; rfl
      · exact h1 t ht
    · show ((sayL s).getD [] ++ [10]) ++ outL z = _
      rw [h.1, h2]
      rfl
/-- What a text's steps write. -/
theorem prs_back (x : ByteArray) : (∃ z, prsL (fltB 0 (pcsB 10 x)) [] = (z, 0, 0) ∧ AllS z ∧ (∀ s ∈ z, s.Ok) ∧ z.length ≤ 400 ∧ outL z = saidL (splL 10 x.data.toList) ∧ ∀ s ∈ z, ∀ l, sayL s = some l → l.length ≤ x.size) ∨ (∃ n k, prsL (fltB 0 (pcsB 10 x)) [] = ([], n, k) ∧ 1 ≤ n ∧ (k = 4 ∨ k = 6)) := by
  rcases prs_cases (fltB 0 (pcsB 10 x)) [] (Nat.zero_le _) flt_pos with ⟨z, h1, h2, h3, h4⟩ | h
  · obtain ⟨h5, h6⟩ := out_of h2
    refine .inl ⟨z, h1, h5, h3, h4, by rw [h6, flt_said, pcs_back], fun s hs l hl => ?_⟩
    have hm : some l ∈ z.map sayL := List.mem_map.2 ⟨s, hs, hl⟩
    rw [h2] at hm
    obtain ⟨p, hp, he⟩ := List.mem_map.1 hm
    have he2 := Option.some.inj he
    have hz := pcs_size (flt_mem hp)
    rw [← he2]
    exact Nat.le_trans (Nat.le_of_eq Array.length_toList) hz
  · exact .inr h
theorem quo_ge1 : ∀ l : Bs, l.length ≤ (l.flatMap quo1).length
  | [] => Nat.le_refl _
  | c :: r => by
    have ih := quo_ge1 r
    rw [List.flatMap_cons, List.length_append, List.length_cons]
    have : 1 ≤ (quo1 c).length := by unfold quo1; split <;> simp
    omega
theorem quo_ge (l : Bs) : l.length ≤ (quoL l).length := by
  unfold quoL
  split
  · next h => rw [h]; exact Nat.zero_le _
  · exact quo_ge1 l
/-- A step that can be said holds no text longer than its line. -/
theorem say_mid {s : StpV} {l : Bs} (h : sayL s = some l) : s.y.length ≤ l.length ∧ s.o.length ≤ l.length ∧ s.n.length ≤ l.length := by
  have h0 := h
  unfold sayL at h0
  cases hf : formS s.d s.kd with
  | none => rw [hf] at h0; cases h0
  | some f =>
    rw [hf] at h0
    simp only at h0
    split at h0
    · next hk =>
      cases h0
      have hfield : ∀ c ∈ f.t, (fldL s f.w c).length ≤ (lineL f s).length := fun c hc => joi_mem (List.mem_cons_of_mem _ (List.mem_map.2 ⟨c, hc, rfl⟩))
      refine ⟨?_, ?_, ?_⟩
      · by_cases hc : (121 : UInt8) ∈ f.t
        · exact Nat.le_trans (quo_ge s.y) (hfield 121 hc)
        · have e : (keepC f.t s (stp0 f.d f.k)).y = [] := if_neg hc
          rw [hk] at e
          rw [e]
          exact Nat.zero_le _
      · by_cases hc : (111 : UInt8) ∈ f.t
        · exact Nat.le_trans (quo_ge s.o) (hfield 111 hc)
        · have e : (keepC f.t s (stp0 f.d f.k)).o = [] := if_neg hc
          rw [hk] at e
          rw [e]
          exact Nat.zero_le _
      · by_cases hc : (110 : UInt8) ∈ f.t
        · exact Nat.le_trans (quo_ge s.n) (hfield 110 hc)
        · have e : (keepC f.t s (stp0 f.d f.k)).n = [] := if_neg hc
          rw [hk] at e
          rw [e]
          exact Nat.zero_le _
    · cases h0
end Go.Proofs.YtjjlodeiejobdaaDoor
