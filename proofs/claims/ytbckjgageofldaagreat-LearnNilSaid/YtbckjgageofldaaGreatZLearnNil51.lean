/- Learning: a shelf of a run's bases; its calls. Condition: the run's parts lie there. -/
import Derived.Test.YtbckjgageofldaaGreatZLearnNil50
import Derived.Test.YtbckjgageofldaaGreatZLearnNil37
namespace Go.Proofs.YtbckjgageofldaaGreat
open Go.RowKit
structure BsI (M0 : MacV) (l : List CmdV) (w : World) (b : BsV) : Prop where
 tree : ∃ X, TreeAt w X ∧ b.P = X.ptr ∧ X.sh = b.M.sh
 m : b.M = macsDo M0 (l.take b.top)
 t : b.t = (runC M0 (l.take b.top)).tail
 pos : 0 < b.top
 le : b.top ≤ l.length
structure ShI (w : World) (base ps : Nat) (sv : Value) (M0 : MacV) (l : List CmdV) (L : List BsV) : Prop where
 at_ : ShAt w base ps sv L
 len : L.length ≤ 3
 asc : L.Pairwise (fun a b => a.top < b.top)
 bs : ∀ b ∈ L, BsI M0 l w b
def newB (L : List BsV) : BsV := L.getLast?.getD bs0
theorem newB_mem {L : List BsV} (h : L ≠ []) : newB L ∈ L ∧ L[L.length - 1]? = some (newB L) := by
 obtain ⟨b, hb⟩ : ∃ b, L.getLast? = some b := by
  cases h2 : L.getLast? with
  | none => exact absurd (List.getLast?_eq_none_iff.1 h2) h
  | some b => exact ⟨b, rfl⟩
 have e : newB L = b := by unfold newB; rw [hb]; rfl
 rw [e]
 rw [List.getLast?_eq_getElem?] at hb
 exact ⟨List.mem_of_getElem? hb, hb⟩
theorem BsI.sorts {M0 : MacV} {l : List CmdV} {w w' : World} {b : BsV} {ts : List TypeId} (h : BsI M0 l w b) (hs : Sorts ts w.heap.size w w') (ht : 195 ∉ ts) : BsI M0 l w' b := by
 obtain ⟨X, h1, h2, h3⟩ := h.tree
 exact ⟨⟨X, TreeAt.sorts hs ht h1, h2, h3⟩, h.m, h.t, h.pos, h.le⟩
theorem BsI.more {M0 : MacV} {l : List CmdV} {w : World} {b : BsV} (h : BsI M0 l w b) (c : CmdV) : BsI M0 (l ++ [c]) w b := by
 have e : (l ++ [c]).take b.top = l.take b.top := List.take_append_of_le_length h.le
 exact ⟨h.tree, by rw [e]; exact h.m, by rw [e]; exact h.t, h.pos, by rw [List.length_append]; have := h.le; omega⟩
theorem ShI.sorts {w w' : World} {base ps : Nat} {sv : Value} {M0 : MacV} {l : List CmdV} {L : List BsV} {ts : List TypeId} (h : ShI w base ps sv M0 l L) (hs : Sorts ts w.heap.size w w') (ht : 195 ∉ ts) (h1 : 114 ∉ ts) (h2 : 110 ∉ ts) : ShI w' base ps sv M0 l L :=
 ⟨h.at_.sorts hs h1 h2, h.len, h.asc, fun b hb => (h.bs b hb).sorts hs ht⟩
theorem ShI.below {w w' : World} {base ps : Nat} {sv : Value} {M0 : MacV} {l : List CmdV} {L : List BsV} (h : ShI w base ps sv M0 l L) (hb : Below w.heap.size w w') : ShI w' base ps sv M0 l L :=
 h.sorts (sorts_of hb []) (by simp) (by simp) (by simp)
theorem ShI.more {w : World} {base ps : Nat} {sv : Value} {M0 : MacV} {l : List CmdV} {L : List BsV} (h : ShI w base ps sv M0 l L) (c : CmdV) : ShI w base ps sv M0 (l ++ [c]) L := ⟨h.at_, h.len, h.asc, fun b hb => (h.bs b hb).more c⟩
theorem newest_sh {base ps : Nat} {sv : Value} {L : List BsV} (hl : L.length ≤ 3) {w : World} (h : ShAt w base ps sv L) : Calls Tryz.prog 39 #[.pointer (some ⟨ps, 0, none⟩)] w fun e w' => e = .returned (bsV (newB L)) ∧ Below w.heap.size w w' := by
 by_cases hL : L = []
 ·
  subst hL
  exact newest_empty base ps sv w h
 ·
  exact newest_last base ps sv L (newB L) (newB_mem hL).2 (by omega) w h
theorem bs_all {M0 : MacV} (h0 : MacAll M0) {l : List CmdV} {w : World} {b : BsV} (h : BsI M0 l w b) : MacAll b.M ∧ b.M.all = M0.all ∧ b.t.length ≤ 3 := by
 rw [h.m, h.t]
 exact ⟨macsDo_all _ h0, nodes_dos _ _, runC_tail _ _⟩
def PutNew (w : World) (base ps : Nat) (M0 : MacV) (l : List CmdV) (L : List BsV) (e : Ending) (w' : World) : Prop := ∃ sv', e = .returned (.int .i64 0) ∧ ShI w' base ps sv' M0 l L ∧ Sorts [114, 110] w.heap.size w w' ∧ ∀ n, n ≤ w.heap.size → n ≤ ps → n ≤ base → Below n w w'
theorem keep_asc {L : List BsV} {b : BsV} (h : L.Pairwise (fun a b => a.top < b.top)) (hb : ∀ x ∈ L, x.top < b.top) : (keep3 (L ++ [b])).Pairwise (fun a b => a.top < b.top) := by
 unfold keep3
 refine List.Pairwise.sublist (List.drop_sublist _ _) (List.pairwise_append.2 ⟨h, List.pairwise_singleton _ _, fun x hx y hy => ?_⟩)
 rw [List.mem_singleton] at hy
 subst hy
 exact hb x hx
theorem asc_new {L : List BsV} (h : L.Pairwise (fun a b => a.top < b.top)) : ∀ x ∈ L, x.top ≤ (newB L).top := by
 intro x hx
 by_cases hL : L = []
 ·
  subst hL; cases hx
 ·
  obtain ⟨i, hi, rfl⟩ := List.getElem_of_mem hx
  have e := (newB_mem hL).2
  have hlt : L.length - 1 < L.length := by omega
  rw [List.getElem?_eq_getElem hlt] at e
  have e2 := Option.some.inj e
  rw [← e2]
  by_cases hil : i = L.length - 1
  ·
   subst hil; exact Nat.le_refl _
  ·
   exact Nat.le_of_lt (List.pairwise_iff_getElem.1 h i (L.length - 1) hi hlt (by omega))
theorem put_new {w : World} {base cb ps p : Nat} {sv cv : Value} {M0 : MacV} {l : List CmdV} {L : List BsV} {R : RnV} {T : Tr} {z : List KeptV} (h0 : MacAll M0) (hR : RunI w cb R T p cv (runC M0 l).D z) (hM : R.M = macsDo M0 l) (hS : ShI w base ps sv M0 l L) (hlt : (newB L).top < l.length) (hb : base ≤ w.heap.size) (hl : l.length ≤ 1000) :
  Calls Tryz.prog 11 #[.pointer (some ⟨ps, 0, none⟩), .pointer R.c, .agg (macCells R.M R.P).toArray] w (PutNew w base ps M0 l (keep3 (L ++ [⟨R.M, R.P, l.length, (runC M0 l).tail⟩]))) := by
 have hDl := runC_len M0 l
 have htop := runC_top M0 l
 rw [hR.cp]
 have hen : endsB (runC M0 l).tail R.M.mem = true := by
  unfold endsB
  rw [runC_tailLast, hM]
  have := mem_nat (macsDo_all l h0).fit
  simp [this]
 have q := put_ok ps (some ⟨p, 0, none⟩) (newB L) R.M R.P l.length (runC M0 l).tail (by omega) (by have := runC_tail M0 l; omega) w
  (fun y hy => newest_sh hS.len (hS.at_.below hy))
  (fun y hy => by
   have k := top_any cb p cv ⟨0, (runC M0 l).D⟩ (by rw [hDl]; omega) (by rw [hDl]; simp; omega) y (hR.ch.below hy)
   have e : (⟨0, (runC M0 l).D⟩ : ChV).top = l.length := htop
   rw [e] at k
   exact k)
  (fun y hy => chtail_any cb p cv ⟨0, (runC M0 l).D⟩ (by rw [hDl]; omega) (by rw [hDl]; omega) y (hR.ch.below hy))
  hlt hen base sv L hS.at_ hb hS.len
 refine q.mono ?_
 rintro e w' ⟨sv', rfl, hsh, hst, hbn⟩
 refine ⟨sv', rfl, ⟨hsh, ?_, ?_, ?_⟩, hst, hbn⟩
 ·
  unfold keep3
  rw [List.length_drop]
  omega
 ·
  exact keep_asc hS.asc (fun x hx => Nat.lt_of_le_of_lt (asc_new hS.asc x hx) hlt)
 ·
  intro b hb2
  have hb3 : b ∈ L ++ [⟨R.M, R.P, l.length, (runC M0 l).tail⟩] := List.mem_of_mem_drop hb2
  rcases List.mem_append.1 hb3 with hb4 | hb4
  ·
   exact (hS.bs b hb4).sorts hst (by decide)
  ·
   rw [List.mem_singleton] at hb4
   subst hb4
   refine ⟨⟨T, TreeAt.sorts hst (by decide) hR.t, hR.tp, hR.ts⟩, ?_, ?_, ?_, ?_⟩
   ·
    show R.M = macsDo M0 (l.take l.length)
    rw [List.take_length, hM]
   ·
    show (runC M0 l).tail = (runC M0 (l.take l.length)).tail
    rw [List.take_length]
   ·
    show 0 < l.length
    omega
   ·
    exact Nat.le_refl _
def leadV (L : List BsV) (n : Nat) : LmV × Bool :=
 if (newB L).top ≤ n then (lm0, false) else
 match L.find? (fun b => b.top == n) with
 | some b => (⟨13, n, (newB L).top, leadB (newB L).t b.M (newB L).M⟩, true)
 | none => (⟨12, 0, (newB L).top, textB (newB L).t (newB L).M⟩, true)
theorem lead_any {w : World} {base ps : Nat} {sv : Value} {M0 : MacV} {l : List CmdV} {L : List BsV} (h0 : MacAll M0) (hS : ShI w base ps sv M0 l L) (hl : l.length ≤ 1000) (n : Nat) :
  Calls Tryz.prog 9 #[.pointer (some ⟨ps, 0, none⟩), .int .u64 (n : Int)] w fun e w' => e = .returned (.tuple #[lmV (leadV L n).1, .bool (leadV L n).2]) ∧ Below w.heap.size w w' := by
 unfold leadV
 by_cases hn : (newB L).top ≤ n
 ·
  rw [if_pos hn]
  exact lead_none (some ⟨ps, 0, none⟩) (newB L) n hn w (fun y hy => newest_sh hS.len (hS.at_.below hy))
 ·
  rw [if_neg hn]
  have hL : L ≠ [] := by
   rintro rfl
   exact hn (Nat.zero_le _)
  obtain ⟨hm, hlast⟩ := newB_mem hL
  obtain ⟨c1, c2, c3⟩ := bs_all h0 (hS.bs _ hm)
  obtain ⟨Y, hY, hYp, hYs⟩ := (hS.bs _ hm).tree
  have hct : (newB L).top < 18446744073709551616 := by have := (hS.bs _ hm).le; omega
  cases hf : L.find? (fun b => b.top == n) with
  | none =>
   refine lead_snap base ps sv L (newB L) hlast (by have := hS.len; omega) n (by omega) (fun x hx e => ?_) c1.fit (by omega) Y hYp hYs w hS.at_ hY
   have k := List.find?_eq_none.1 hf x hx
   simp [e] at k
  | some b =>
   obtain ⟨J, hJ, hJb, hlo⟩ := List.find?_eq_some_iff_getElem.1 hf |>.2
   have hbm : b ∈ L := List.mem_of_find?_eq_some hf
   have hbn : b.top = n := by have := List.find?_some hf; simpa using this
   obtain ⟨b1, b2, b3⟩ := bs_all h0 (hS.bs _ hbm)
   obtain ⟨X, hX, hXp, hXs⟩ := (hS.bs _ hbm).tree
   refine lead_delta base ps sv L (newB L) hlast (by have := hS.len; omega) n (by omega) J b (by rw [List.getElem?_eq_getElem hJ, hJb]) hbn (fun i x hi hx e => ?_) X Y b1 c1 (by rw [b2, c2]) c3 hct hXp hYp hXs hYs w hS.at_ hX hY
   have hiL : i < L.length := (List.getElem?_eq_some_iff.1 hx).1
   have k := hlo i hi
   rw [List.getElem?_eq_getElem hiL] at hx
   cases hx
   simp [e] at k
def newV (L : List BsV) : Value := .tuple #[.int .u64 ((newB L).top : Int), .string ⟨(if (newB L).top = 0 then [] else textB (newB L).t (newB L).M).toArray⟩]
theorem newest_tells {w : World} {base ps : Nat} {sv : Value} {M0 : MacV} {l : List CmdV} {L : List BsV} (h0 : MacAll M0) (hS : ShI w base ps sv M0 l L) :
  Calls Tryz.prog 10 #[.pointer (some ⟨ps, 0, none⟩)] w fun e w' => e = .returned (newV L) ∧ Below w.heap.size w w' := by
 unfold newV
 by_cases hz : (newB L).top = 0
 ·
  rw [if_pos hz, hz]
  exact lnewest_zero _ (newB L) hz w (newest_sh hS.len hS.at_)
 ·
  rw [if_neg hz]
  have hL : L ≠ [] := by
   rintro rfl
   exact hz rfl
  obtain ⟨hm, hlast⟩ := newB_mem hL
  obtain ⟨c1, c2, c3⟩ := bs_all h0 (hS.bs _ hm)
  obtain ⟨Y, hY, hYp, hYs⟩ := (hS.bs _ hm).tree
  exact lnewest_some _ (newB L) Y (by omega) c1.fit (by omega) hYp hYs w hY (newest_sh hS.len hS.at_)
end Go.Proofs.YtbckjgageofldaaGreat
namespace Go.Proofs.YtbckjgageofldaaGreat
open Go.RowKit
structure RunS (w : World) (base g : Nat) (M0 : MacV) (l : List CmdV) (R : RnV) (T : Tr) (p : Nat) (cv : Value) (z : List KeptV) : Prop where
 at_ : RnAt w g R
 ri : RunI w base R T p cv (runC M0 l).D z
 m : R.M = macsDo M0 l
 k : R.r.k ≤ l.length
theorem RunS.below {w w' : World} {base g : Nat} {M0 : MacV} {l : List CmdV} {R : RnV} {T : Tr} {p : Nat} {cv : Value} {z : List KeptV} (h : RunS w base g M0 l R T p cv z) (hb : Below w.heap.size w w') : RunS w' base g M0 l R T p cv z := ⟨h.at_.below hb, h.ri.below hb, h.m, h.k⟩
theorem RunS.sorts {w w' : World} {ts : List TypeId} {base g : Nat} {M0 : MacV} {l : List CmdV} {R : RnV} {T : Tr} {p : Nat} {cv : Value} {z : List KeptV} (h : RunS w base g M0 l R T p cv z) (hs : Sorts ts w.heap.size w w') (h1 : 48 ∉ ts) (ht : ∀ t ∈ runTs, t ∉ ts) : RunS w' base g M0 l R T p cv z := ⟨hs.row h.at_ h1, h.ri.sorts hs ht, h.m, h.k⟩
def DoneRun (w : World) (base g : Nat) (M0 : MacV) (l : List CmdV) (p : Nat) (e : Ending) (w' : World) : Prop := ∃ R T cv z, e = .returned (.tuple #[]) ∧ RunS w' base g M0 l R T p cv z ∧ Sorts doTs w.heap.size w w' ∧ ∀ n, n ≤ w.heap.size → n ≤ g → n ≤ p → n ≤ base → Below n w w'
theorem macsDo_snoc (M : MacV) (l : List CmdV) (c : CmdV) : macsDo M (l ++ [c]) = (macDo (macsDo M l) c).m := by
 unfold macsDo
 rw [List.foldl_append]
 rfl
theorem does_run {w : World} {base g : Nat} {M0 : MacV} {l : List CmdV} {R : RnV} {T : Tr} {p : Nat} {cv : Value} {z : List KeptV} (h0 : MacAll M0) (hb : base ≤ w.heap.size) (hl : l.length ≤ 1000) (h : RunS w base g M0 l R T p cv z) (c : CmdV) :
  Calls Tryz.prog 17 #[.pointer (some ⟨g, 0, none⟩), .agg (cmdCells c).toArray] w (DoneRun w base g M0 (l ++ [c]) p) := by
 have hDl := runC_len M0 l
 have q := does_any c w base g hb R T p cv (runC M0 l).D z (by rw [h.m]; exact macsDo_all _ h0) (by have := h.k; omega) (by omega) (by omega) h.at_ h.ri
 refine q.mono ?_
 rintro e w' ⟨R', T', cv', z', rfl, h1, h2, h3, h4, h5⟩
 have hm : R'.M = macsDo M0 (l ++ [c]) := by rw [h2, h.m, macsDo_snoc]
 have hD : (runC M0 (l ++ [c])).D = (runC M0 l).D ++ [UInt8.ofNat R'.M.mem] := by rw [runC_push, hm]; rfl
 exact ⟨R', T', cv', z', rfl, ⟨h1, by rw [hD]; exact h3, hm, by rw [List.length_append]; have := h.k; simp; omega⟩, h5⟩
theorem begun_run {w : World} {base : Nat} {M0 : MacV} {R : RnV} {p g : Nat} {cv : Value} (hM : R.M = M0) (hI : RunI w base R .nil p cv [UInt8.ofNat M0.mem] []) (hr : R.r = ref0 M0) (hg : RnAt w g R) : RunS w base g M0 [] R .nil p cv [] :=
 ⟨hg, hI, hM, by rw [hr]; exact Nat.le_refl _⟩
def tailC (M0 : MacV) (l : List CmdV) : ChV := ⟨l.length + 1 - (runC M0 l).tail.length, (runC M0 l).tail⟩
theorem tailC_of {M0 : MacV} (h0 : MacAll M0) (l : List CmdV) (hl : l.length ≤ 1000) : chOf l.length (runC M0 l).tail = some (tailC M0 l) := by
 have h := chOf_tail (runC_low M0 l) (by rw [runC_len]; omega) (runC_ok h0 l) (by rw [runC_top]; omega)
 rw [runC_top] at h
 exact h
theorem tailC_top (M0 : MacV) (l : List CmdV) : (tailC M0 l).top = l.length := by
 have h := tail_len (runC M0 l)
 rw [runC_len] at h
 show l.length + 1 - (runC M0 l).tail.length + (runC M0 l).tail.length - 1 = l.length
 omega
theorem tailC_tail (M0 : MacV) (l : List CmdV) : (tailC M0 l).tail = (runC M0 l).tail := by
 have h := runC_tail M0 l
 show (runC M0 l).tail.drop ((runC M0 l).tail.length - 3) = _
 rw [show (runC M0 l).tail.length - 3 = 0 by omega, List.drop_zero]
theorem tailC_len (M0 : MacV) (l : List CmdV) : 0 < (tailC M0 l).D.length ∧ (tailC M0 l).D.length ≤ 3 ∧ (tailC M0 l).low + (tailC M0 l).D.length = l.length + 1 := by
 have h := tail_len (runC M0 l)
 rw [runC_len] at h
 refine ⟨?_, runC_tail M0 l, ?_⟩
 ·
  show 0 < (runC M0 l).tail.length
  omega
 ·
  show l.length + 1 - (runC M0 l).tail.length + (runC M0 l).tail.length = _
  omega
theorem run_ends {M0 : MacV} (h0 : MacAll M0) (l : List CmdV) : endsB (runC M0 l).tail (macsDo M0 l).mem = true := by
 unfold endsB
 rw [runC_tailLast]
 have := mem_nat (macsDo_all l h0).fit
 simp [this]
theorem readE_ok {M0 : MacV} (h0 : MacAll M0) (l : List CmdV) : readE (runC M0 l).tail (macsDo M0 l) 0 = 0 := by
 unfold readE
 rw [if_pos rfl, if_pos (run_ends h0 l)]
end Go.Proofs.YtbckjgageofldaaGreat
