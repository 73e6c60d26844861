/- Play (plain): a step and its line. Condition: as each theorem says. -/
import Derived.Test.YtjjlodeiejobdaaDoorPyA
namespace Go.Proofs.YtjjlodeiejobdaaDoor
/-- What a word says. -/
structure FormV where
  w : Bs
  d : Nat
  k : Nat
  t : Bs
deriving DecidableEq
/-- All words, the last one first. -/
def FT : List FormV := [⟨[109, 101, 109, 98, 101, 114, 115], 12, 5, [97, 105, 115]⟩,
  ⟨[99, 97, 115], 12, 4, [97, 105, 121, 111, 110]⟩,
  ⟨[112, 117, 116], 12, 2, [97, 105, 121, 110]⟩,
  ⟨[100, 101, 108], 12, 3, [97, 105, 121]⟩,
  ⟨[103, 101, 116], 12, 1, [97, 105, 121]⟩,
  ⟨[116, 117, 114, 110], 11, 0, [97, 107]⟩,
  ⟨[114, 111, 111, 109], 10, 0, [97, 107]⟩,
  ⟨[102, 117, 115, 101], 9, 0, [97, 107]⟩,
  ⟨[99, 114, 97, 115, 104], 7, 0, [97, 107]⟩,
  ⟨[110, 117, 100, 103, 101], 13, 0, [97]⟩,
  ⟨[115, 116, 97, 114, 116], 8, 0, [97]⟩,
  ⟨[116, 105, 99, 107], 6, 0, [97]⟩,
  ⟨[104, 101, 97, 108], 5, 0, []⟩,
  ⟨[99, 117, 116], 4, 0, [97, 98]⟩,
  ⟨[100, 111, 117, 98, 108, 101], 3, 0, [97, 98, 107]⟩,
  ⟨[100, 114, 111, 112], 2, 0, [97, 98, 107]⟩,
  ⟨[100, 101, 108, 105, 118, 101, 114], 1, 0, [97, 98, 107]⟩]
/-- "invoke". -/
def INV : Bs := [105, 110, 118, 111, 107, 101]
/-- A step. -/
structure StpV where
  d : Nat
  a : Nat
  b : Nat
  k : Int
  cl : Nat
  sq : Nat
  kd : Nat
  y : Bs
  o : Bs
  n : Bs
  st : Nat
deriving DecidableEq
structure StpV.Ok (s : StpV) : Prop where
  d : s.d < 256
  a : s.a < 256
  b : s.b < 256
  k : -9223372036854775808 ≤ s.k ∧ s.k ≤ 9223372036854775807
  cl : s.cl < 256
  sq : s.sq < 4294967296
  kd : s.kd < 256
  st : s.st < 256
def stp0 (d kd : Nat) : StpV := ⟨d, 0, 0, 0, 0, 0, kd, [], [], [], 0⟩
theorem stp0_ok {d kd : Nat} (h : d < 256) (h2 : kd < 256) : (stp0 d kd).Ok := ⟨h, (show (0 : Nat) < 256 by decide), (show (0 : Nat) < 256 by decide), (show (-9223372036854775808 : Int) ≤ 0 ∧ (0 : Int) ≤ 9223372036854775807 by decide), (show (0 : Nat) < 256 by decide), (show (0 : Nat) < 4294967296 by decide), h2, (show (0 : Nat) < 256 by decide)⟩
/-- What a line says of a step behind its word. -/
def fldL (s : StpV) (w : Bs) (c : UInt8) : Bs := if c = 97 then Lib.decDigits s.a else if c = 98 then Lib.decDigits s.b else if c = 107 then Lib.itoa s.k else if c = 121 then quoL s.y else if c = 111 then quoL s.o else if c = 110 then quoL s.n else if c = 115 then Lib.decDigits s.st else w
def takeL (w : Bs) (s : StpV) (c : UInt8) (t : Bs) : Option StpV := if c = 97 then (smallL t).map (fun v => { s with a := v }) else if c = 98 then (smallL t).map (fun v => { s with b := v }) else if c = 107 then (numL t).map (fun v => { s with k := v }) else if c = 121 then (unqL t).map (fun v => { s with y := v }) else if c = 111 then (unqL t).map (fun v => { s with o := v }) else if c = 110 then (unqL t).map (fun v => { s with n := v }) else if c = 115 then (smallL t).map (fun v => { s with st := v }) else if c = 105 then (if t = w then some s else none) else none
def takesL (w : Bs) : List (UInt8 × Bs) → StpV → Option StpV
  | [], s => some s
  | (c, t) :: r, s => (takeL w s c t).bind (takesL w r)
def isLet (c : UInt8) : Bool := c == 97 || c == 98 || c == 107 || c == 121 || c == 111 || c == 110 || c == 115 || c == 105
/-- A step, what is taken of it put into another one. -/
def keepC (cs : Bs) (s s0 : StpV) : StpV := { s0 with a := if 97 ∈ cs then s.a else s0.a, b := if 98 ∈ cs then s.b else s0.b, k := if 107 ∈ cs then s.k else s0.k, y := if 121 ∈ cs then s.y else s0.y, o := if 111 ∈ cs then s.o else s0.o, n := if 110 ∈ cs then s.n else s0.n, st := if 115 ∈ cs then s.st else s0.st }
theorem take_some {w : Bs} {s s1 : StpV} {c : UInt8} {t : Bs} (h : takeL w s c t = some s1) (hs : s.Ok) : s1.Ok ∧ t = fldL s1 w c ∧ s1 = keepC [c] s1 s := by
  unfold takeL at h
  unfold fldL
  split at h
  · next hc =>
    subst hc
    obtain ⟨v, hv, rfl⟩ := Option.map_eq_some_iff.1 h
    obtain ⟨h1, rfl⟩ := (small_iff t v).1 hv
    exact ⟨{ hs with a := h1 }, rfl, rfl⟩
  · split at h
    · next hc =>
      subst hc
      obtain ⟨v, hv, rfl⟩ := Option.map_eq_some_iff.1 h
      obtain ⟨h1, rfl⟩ := (small_iff t v).1 hv
      exact ⟨{ hs with b := h1 }, rfl, rfl⟩
    · split at h
      · next hc =>
        subst hc
        obtain ⟨v, hv, rfl⟩ := Option.map_eq_some_iff.1 h
        obtain ⟨h1, rfl⟩ := (num_iff t v).1 hv
        exact ⟨{ hs with k := h1 }, rfl, rfl⟩
      · split at h
        · next hc =>
          subst hc
          obtain ⟨v, hv, rfl⟩ := Option.map_eq_some_iff.1 h
          obtain rfl := (unq_iff t v).1 hv
          exact ⟨{ hs with }, rfl, rfl⟩
        · split at h
          · next hc =>
            subst hc
            obtain ⟨v, hv, rfl⟩ := Option.map_eq_some_iff.1 h
            obtain rfl := (unq_iff t v).1 hv
            exact ⟨{ hs with }, rfl, rfl⟩
          · split at h
            · next hc =>
              subst hc
              obtain ⟨v, hv, rfl⟩ := Option.map_eq_some_iff.1 h
              obtain rfl := (unq_iff t v).1 hv
              exact ⟨{ hs with }, rfl, rfl⟩
            · split at h
              · next hc =>
                subst hc
                obtain ⟨v, hv, rfl⟩ := Option.map_eq_some_iff.1 h
                obtain ⟨h1, rfl⟩ := (small_iff t v).1 hv
                exact ⟨{ hs with st := h1 }, rfl, rfl⟩
              · split at h
                · next hc =>
                  subst hc
                  split at h
                  · next ht => cases h; exact ⟨hs, ht, rfl⟩
                  · cases h
                · cases h
theorem take_back {w : Bs} {s s1 : StpV} {c : UInt8} (hc : isLet c = true) (h1 : s1.Ok) : takeL w s c (fldL s1 w c) = some (keepC [c] s1 s) := by
  unfold isLet at hc
  simp only [Bool.or_eq_true, beq_iff_eq] at hc
  rcases hc with ((((((rfl | rfl) | rfl) | rfl) | rfl) | rfl) | rfl) | rfl
  · show (smallL (Lib.decDigits s1.a)).map _ = _; rw [(small_iff _ _).2 ⟨h1.a, rfl⟩]; rfl
  · show (smallL (Lib.decDigits s1.b)).map _ = _; rw [(small_iff _ _).2 ⟨h1.b, rfl⟩]; rfl
  · show (numL (Lib.itoa s1.k)).map _ = _; rw [(num_iff _ _).2 ⟨h1.k, rfl⟩]; rfl
  · show (unqL (quoL s1.y)).map _ = _; rw [(unq_iff _ _).2 rfl]; rfl
  · show (unqL (quoL s1.o)).map _ = _; rw [(unq_iff _ _).2 rfl]; rfl
  · show (unqL (quoL s1.n)).map _ = _; rw [(unq_iff _ _).2 rfl]; rfl
  · show (smallL (Lib.decDigits s1.st)).map _ = _; rw [(small_iff _ _).2 ⟨h1.st, rfl⟩]; rfl
  · show (if w = w then some s else none) = _; rw [if_pos rfl]; rfl
theorem keep_cons {c : UInt8} {cs : Bs} (hn : c ∉ cs) (s s0 : StpV) : keepC cs s (keepC [c] s s0) = keepC (c :: cs) s s0 := by
  unfold keepC
  simp only [List.mem_cons, List.not_mem_nil, or_false]
  congr 1 <;> (split <;> split <;> first | rfl | (split <;> first | rfl | (exfalso; simp_all; done)) | (exfalso; simp_all; done) | simp_all)
theorem fld_same {w : Bs} {c : UInt8} {s s1 : StpV} (hl : isLet c = true) (h : keepC [c] s s1 = s1) : fldL s1 w c = fldL s w c := by
  unfold isLet at hl
  simp only [Bool.or_eq_true, beq_iff_eq] at hl
  have ha := congrArg StpV.a h
  have hb := congrArg StpV.b h
  have hk := congrArg StpV.k h
  have hy := congrArg StpV.y h
  have ho := congrArg StpV.o h
  have hn := congrArg StpV.n h
  have hs := congrArg StpV.st h
  unfold keepC at ha hb hk hy ho hn hs
  rcases hl with ((((((rfl | rfl) | rfl) | rfl) | rfl) | rfl) | rfl) | rfl <;> simp_all [fldL]
theorem keep_other {c : UInt8} {cs : Bs} (hc : isLet c = true) (hn : c ∉ cs) (s s0 : StpV) : keepC [c] (keepC cs s s0) s0 = s0 := by
  unfold isLet at hc
  simp only [Bool.or_eq_true, beq_iff_eq] at hc
  rcases hc with ((((((rfl | rfl) | rfl) | rfl) | rfl) | rfl) | rfl) | rfl <;> simp_all [keepC]
theorem takes_some {w : Bs} : ∀ (cs : Bs) (ts : List Bs) (s s1 : StpV), cs.Nodup → (∀ c ∈ cs, isLet c = true) → cs.length = ts.length → s.Ok → takesL w (cs.zip ts) s = some s1 → s1.Ok ∧ ts = cs.map (fldL s1 w) ∧ s1 = keepC cs s1 s
  | [], [], s, s1, _, _, _, hs, h => by
    cases h
    exact ⟨hs, rfl, by simp [keepC]⟩
  | [], _ :: _, _, _, _, _, hl, _, _ => by cases hl
  | _ :: _, [], _, _, _, _, hl, _, _ => by cases hl
  | c :: cs, t :: ts, s, s1, hn, hc, hl, hs, h => by
    rw [List.zip_cons_cons, takesL] at h
    obtain ⟨s2, h1, h2⟩ := Option.bind_eq_some_iff.1 h
    obtain ⟨hs2, ht, hk⟩ := take_some h1 hs
    obtain ⟨hs1, hts, hk1⟩ := takes_some cs ts s2 s1 (List.nodup_cons.1 hn).2 (fun x hx => hc x (List.mem_cons_of_mem _ hx)) (by simpa using hl) hs2 h2
    have hcn := (List.nodup_cons.1 hn).1
    have hcl := hc c (List.mem_cons_self ..)
    have h3 : keepC [c] s1 s2 = s2 := by
      rw [hk1]
      exact keep_other hcl hcn s1 s2
    have hf : fldL s2 w c = fldL s1 w c := fld_same hcl h3
    refine ⟨hs1, by rw [List.map_cons, ht, hf, hts], ?_⟩
    have h4 : keepC [c] s1 s = s2 := by
      rw [← h3]
      conv => rhs; rw [hk]
      unfold keepC
      simp only [List.mem_cons, List.not_mem_nil, or_false]
      congr 1 <;> split <;> rfl
    rw [← keep_cons hcn, h4]
    exact hk1
theorem takes_back {w : Bs} : ∀ (cs : Bs) (s s1 : StpV), cs.Nodup → (∀ c ∈ cs, isLet c = true) → s1.Ok → takesL w (cs.zip (cs.map (fldL s1 w))) s = some (keepC cs s1 s)
  | [], s, s1, _, _, _ => by
    show some s = _
    simp [keepC]
  | c :: cs, s, s1, hn, hc, h1 => by
    rw [List.map_cons, List.zip_cons_cons, takesL, take_back (hc c (List.mem_cons_self ..)) h1, Option.bind_some, takes_back cs _ s1 (List.nodup_cons.1 hn).2 (fun x hx => hc x (List.mem_cons_of_mem _ hx)) h1, keep_cons (List.nodup_cons.1 hn).1]
/-- The form of a line's pieces. -/
def formL (ws : List Bs) : Option FormV :=
  if ws.headD [] = INV ∧ ws.length < 3 then none else match FT.find? (fun f => decide (f.w = if ws.headD [] = INV then ws.getD 2 [] else ws.headD [])) with
    | some f => if decide (f.d = 12) = decide (ws.headD [] = INV) then some f else none
    | none => none
/-- The step of a line. -/
def rdL (line : Bs) : Option StpV := match formL (splL 32 line) with
  | some f => if (splL 32 line).tail.length = f.t.length then takesL f.w (f.t.zip (splL 32 line).tail) (stp0 f.d f.k) else none
  | none => none
def formS (d kd : Nat) : Option FormV := FT.find? (fun f => decide (f.d = d ∧ f.k = kd))
def lineL (f : FormV) (s : StpV) : Bs := joiL 32 ((if f.d = 12 then INV else f.w) :: f.t.map (fldL s f.w))
/-- The line of a step that can be said. -/
def sayL (s : StpV) : Option Bs := match formS s.d s.kd with
  | some f => if keepC f.t s (stp0 f.d f.k) = s then some (lineL f s) else none
  | none => none
theorem ft_ok : ∀ f ∈ FT, f.t.Nodup ∧ (∀ c ∈ f.t, isLet c = true) ∧ f.d < 256 ∧ f.k < 256 ∧ (∀ x ∈ f.w, x ≠ 32 ∧ x ≠ 10) ∧ formS f.d f.k = some f ∧ FT.find? (fun g => decide (g.w = f.w)) = some f ∧ (f.d = 12 → ∃ r, f.t = 97 :: 105 :: r) ∧ (f.d ≠ 12 → f.w ≠ INV) := by
  have h : ∀ f ∈ FT, f.t.Nodup ∧ (∀ c ∈ f.t, isLet c = true) ∧ f.d < 256 ∧ f.k < 256 ∧ (∀ x ∈ f.w, x ≠ 32 ∧ x ≠ 10) ∧ formS f.d f.k = some f ∧ FT.find? (fun g => decide (g.w = f.w)) = some f ∧ (f.d = 12 → f.t.take 2 = [97, 105]) ∧ (f.d ≠ 12 → f.w ≠ INV) := by decide +kernel
  intro f hf
  obtain ⟨h1, h2, h3, h4, h5, h6, h7, h8, h9⟩ := h f hf
  exact ⟨h1, h2, h3, h4, h5, h6, h7, fun hd => ⟨f.t.drop 2, by have := List.take_append_drop 2 f.t; rw [h8 hd] at this; exact this.symm⟩, h9⟩
theorem keep_d (cs : Bs) (s s0 : StpV) : (keepC cs s s0).d = s0.d ∧ (keepC cs s s0).kd = s0.kd := ⟨rfl, rfl⟩
theorem find_mem {p : FormV → Bool} {f : FormV} (h : FT.find? p = some f) : f ∈ FT ∧ p f = true := ⟨List.mem_of_find?_eq_some h, List.find?_some h⟩
theorem fld_clean (s : StpV) {w : Bs} (hw : ∀ x ∈ w, x ≠ 32 ∧ x ≠ 10) (c : UInt8) : ∀ x ∈ fldL s w c, x ≠ 32 ∧ x ≠ 10 := by
  have hd : ∀ u : Nat, ∀ x ∈ Lib.decDigits u, x ≠ 32 ∧ x ≠ 10 := fun u x hx => by
    have := dec_digits u u (Nat.le_refl _) x hx
    constructor <;> (rintro rfl; simp at this)
  unfold fldL
  repeat' split
  · exact hd _
  · exact hd _
  · exact itoa_clean _
  · exact quo_clean _
  · exact quo_clean _
  · exact quo_clean _
  · exact hd _
  · exact hw
theorem rd_some {line : Bs} {s : StpV} (h : rdL line = some s) : s.Ok ∧ sayL s = some line := by
  unfold rdL at h
  split at h
  · next f hf =>
    split at h
    · next hl =>
      unfold formL at hf
      split at hf
      · cases hf
      · split at hf
        · next g hg =>
          split at hf
          · next hi =>
            cases hf
            obtain ⟨hm, hp⟩ := find_mem hg
            obtain ⟨h1, h2, h3, h4, h5, h6, h7, h8, h9⟩ := ft_ok f hm
            obtain ⟨q1, q2, q3⟩ := takes_some f.t _ _ s h1 h2 hl.symm (stp0_ok h3 h4) h
            have hd : s.d = f.d := by rw [q3]; rfl
            have hk : s.kd = f.k := by rw [q3]; rfl
            refine ⟨q1, ?_⟩
            unfold sayL
            rw [hd, hk, h6]
            simp only
            rw [if_pos q3.symm]
            congr 1
            unfold lineL
            rw [← q2]
            cases hs : splL 32 line with
            | nil => exact absurd hs (spl_ne 32 line)
            | cons w0 r =>
              rw [hs] at hi hp
              simp only [List.headD_cons] at hi hp
              have hw : (if f.d = 12 then INV else f.w) = w0 := by
                by_cases hd : f.d = 12
                · rw [if_pos hd]
                  have : w0 = INV := of_decide_eq_true (hi.symm.trans (decide_eq_true hd))
                  exact this.symm
                · rw [if_neg hd]
                  have : ¬ w0 = INV := of_decide_eq_false (hi.symm.trans (decide_eq_false hd))
                  simpa [this] using hp
              rw [hw]
              show joiL 32 (w0 :: r) = line
              rw [← hs, joi_spl]
          · cases hf
        · cases hf
    · cases h
  · cases h
theorem say_rd {line : Bs} {s : StpV} (hs : s.Ok) (h : sayL s = some line) : rdL line = some s := by
  unfold sayL at h
  split at h
  · next f hf =>
    split at h
    · next hk =>
      cases h
      obtain ⟨hm, hp⟩ := find_mem hf
      obtain ⟨h1, h2, h3, h4, h5, h6, h7, h8, h9⟩ := ft_ok f hm
      have hsp : splL 32 (lineL f s) = (if f.d = 12 then INV else f.w) :: f.t.map (fldL s f.w) := by
        unfold lineL
        refine spl_joi (by simp) fun p hp x hx => ?_
        rcases List.mem_cons.1 hp with rfl | hp
        · split at hx
          · unfold INV at hx
            simp only [List.mem_cons, List.not_mem_nil, or_false] at hx
            rcases hx with rfl | rfl | rfl | rfl | rfl | rfl <;> decide
          · exact (h5 x hx).1
        · obtain ⟨c, _, rfl⟩ := List.mem_map.1 hp
          exact (fld_clean s h5 c x hx).1
      have hform : formL (splL 32 (lineL f s)) = some f := by
        rw [hsp]
        unfold formL
        by_cases hd : f.d = 12
        · obtain ⟨r, hr⟩ := h8 hd
          simp only [hd, if_true, List.headD_cons, true_and, hr, List.map_cons, List.length_cons]
          rw [if_neg (by omega)]
          rw [show (INV :: fldL s f.w 97 :: fldL s f.w 105 :: List.map (fldL s f.w) r).getD 2 [] = f.w from rfl, h7]
          simp [hd]
        · simp only [hd, if_false, List.headD_cons]
          rw [if_neg (fun q => h9 hd q.1), if_neg (h9 hd), h7]
          simp [hd, h9 hd]
      unfold rdL
      rw [hform]
      simp only
      rw [if_pos (by rw [hsp]; simp), hsp, List.tail_cons, takes_back f.t _ s h1 h2 hs, hk]
    · cases h
  · cases h
theorem rd_iff {line : Bs} {s : StpV} (hs : s.Ok) : rdL line = some s ↔ sayL s = some line := ⟨fun h => (rd_some h).2, say_rd hs⟩
end Go.Proofs.YtjjlodeiejobdaaDoor
