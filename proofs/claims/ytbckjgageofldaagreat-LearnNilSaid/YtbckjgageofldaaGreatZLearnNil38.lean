/- Deltas, plain: how long a delta is, of what few commands changed. Condition: the machines may be told. -/
import Derived.Test.YtbckjgageofldaaGreatZLearnNil37
import Derived.Test.YtbckjgageofldaaGreatZLearnNil13
import Derived.Test.YtbckjgageofldaaGreatZLearnNil21
import Derived.Test.YtbckjgageofldaaGreatZLearnNil3
import Derived.Test.YtbckjgageofldaaGreatZLearnNil28
import Derived.Test.YtbckjgageofldaaGreatZLearnNil30
import Derived.Test.YtbckjgageofldaaGreatZLearnNil22
import Derived.Test.YtbckjgageofldaaGreatZLearnNil25
import Derived.Test.YtbckjgageofldaaGreatZLearnNil24
import Derived.Test.YtbckjgageofldaaGreatZLearnNil23
namespace Go.Proofs.YtbckjgageofldaaGreat
open Go.RowKit
theorem numL_one {n : Nat} (h : n < 248) : (numL n).length = 1 := by
 unfold numL
 rw [if_pos h]
 rfl
theorem numL_five {n : Nat} (h : n < 4294967296) : (numL n).length ≤ 5 := by
 unfold numL
 split
 ·
  simp
 ·
  rw [List.length_cons, bigB_len]
  have : wid n ≤ 4 := by
   unfold wid
   repeat' split
   all_goals omega
  omega
def cliN (s t : TabV) (n : Nat) : List Nat := (List.range n).filter fun c => !lastE (t.at_ c) (s.at_ c)
theorem lastB_short {x : LastV} (h : LastFit x) : (lastB x).length ≤ 72 := by
 have h1 := numL_five x.seq.isLt
 have h2 := h.text
 have h3 : x.text.data.toList.length = x.text.size := rfl
 have h4 := numL_one (n := x.text.size) (by omega)
 unfold lastB strL
 rw [List.length_append]
 split
 ·
  simp; omega
 ·
  rw [List.length_cons, List.length_append]
  omega
theorem cliB_short (s : TabV) {t : TabV} (ht : ∀ n, LastFit (t.at_ n)) : ∀ n, (cliB s t n).length ≤ 72 * (cliN s t n).length
 | 0 => by simp [cliB]
 | n + 1 => by
  have h1 := cliB_short s ht n
  have h2 := lastB_short (ht n)
  unfold cliB cliN
  rw [List.length_append, List.range_succ, List.filter_append, List.length_append]
  unfold cliN at h1
  cases hl : lastE (t.at_ n) (s.at_ n) with
  | true => simp [hl]; omega
  | false => simp [hl]; omega
theorem chgB_short {c : Chg} (h1 : c.key.size ≤ 16) (h2 : c.new.size ≤ 64) : (chgB c).length ≤ 83 := by
 have k1 := numL_one (n := c.key.size) (by omega)
 have k2 := numL_one (n := c.new.size) (by omega)
 have e1 : c.key.data.toList.length = c.key.size := rfl
 have e2 : c.new.data.toList.length = c.new.size := rfl
 have k3 := numL_one (n := 1) (by omega)
 have k4 := numL_one (n := 0) (by omega)
 unfold chgB strL
 rw [List.length_append, List.length_append]
 split
 ·
  rw [List.length_append, List.length_append]; omega
 ·
  omega
theorem chgsB_short : ∀ (l : List Chg), (∀ c ∈ l, c.key.size ≤ 16 ∧ c.new.size ≤ 64) → (chgsB l).length ≤ 83 * l.length
 | [], _ => by simp [chgsB]
 | c :: r, h => by
  have h1 := chgB_short (h c (by simp)).1 (h c (by simp)).2
  have h2 := chgsB_short r (fun x hx => h x (by simp [hx]))
  show (chgB c ++ chgsB r).length ≤ _
  rw [List.length_append, List.length_cons]
  omega
end Go.Proofs.YtbckjgageofldaaGreat
namespace Go.Proofs.YtbckjgageofldaaGreat
open Go.RowKit
theorem lead_len {A B : MacV} (hA : MacAll A) (hB : MacAll B) : (diffM A B).length ≤ 43000 := by
 have h1 := sumB_len A
 have h2 := sumB_len B
 have h3 := cliB_short A.tab hB.fit.tab 4
 have h4 : (cliN A.tab B.tab 4).length ≤ 4 := by
  unfold cliN
  exact Nat.le_trans (List.length_filter_le _ _) (by simp)
 have h5 : (diffL A.sh.kv B.sh.kv).length ≤ 512 := by
  have h6 := diff_len _ (Nat.le_refl _) (A := A.sh.kv) (B := B.sh.kv)
  have h7 := hA.fit.kv.num
  have h8 := hB.fit.kv.num
  rw [cnt_kv] at h7 h8
  omega
 have h6 := chgsB_short (diffL A.sh.kv B.sh.kv) (fun c hc => by
  have e := (diff_elem _ (Nat.le_refl _) hA.fit.kv.asc hB.fit.kv.asc).1 c hc
  refine ⟨?_, ?_⟩
  ·
   rcases diff_keys _ (Nat.le_refl _) hc with ⟨v, k1⟩ | ⟨v, k1⟩
   ·
    exact (hA.fit.key _ k1).2
   ·
    exact (hB.fit.key _ k1).2
  ·
   rcases e.b with ⟨_, k2⟩ | ⟨_, k2, _⟩
   ·
    exact hB.fit.kv.val _ k2
   ·
    rw [k2]; decide)
 have h7 := (numL_len (diffL A.sh.kv B.sh.kv).length).1
 unfold diffM clientsB keysDB
 simp only [List.length_append, List.length_cons, List.length_nil]
 omega
theorem leadB_len {A B : MacV} (hA : MacAll A) (hB : MacAll B) {t : List UInt8} (ht : t.length ≤ 3) : (leadB t A B).length ≤ 43100 := by
 have h1 := lead_len hA hB
 have h2 := (numL_len t.length).1
 unfold leadB
 rw [List.length_append, List.length_append]
 omega
def insideB (f s : Nat) (v : List UInt8) : List UInt8 := ([13] ++ numL f) ++ numL s ++ (numL v.length ++ v)
theorem inside_len {A B : MacV} (hA : MacAll A) (hB : MacAll B) {t : List UInt8} (ht : t.length ≤ 3) (f s : Nat) : (insideB f s (leadB t A B)).length ≤ 43200 := by
 have h1 := leadB_len hA hB ht
 have h2 := (numL_len f).1
 have h3 := (numL_len s).1
 have h4 := (numL_len (leadB t A B).length).1
 unfold insideB
 simp only [List.length_append, List.length_cons, List.length_nil]
 omega
theorem mem_ok {M : MacV} (h : MacAll M) : dirOk (UInt8.ofNat M.mem) = true := by
 obtain ⟨h1, _, h3⟩ := sets_eq h.sets
 have h4 := h.fit.mem
 have e : (UInt8.ofNat M.mem).toNat = M.mem := by simp; omega
 unfold dirOk
 rw [e, decide_eq_true h4, Bool.and_true, decide_eq_true_eq]
 refine Nat.pos_of_ne_zero (fun h0 => ?_)
 rw [h0] at h1
 unfold mayS at h1
 simp [pop8] at h1
theorem mem_nat {M : MacV} (h : MacFit M) : (UInt8.ofNat M.mem).toNat = M.mem := by
 have := h.mem
 simp
 omega
def runC (M : MacV) (l : List CmdV) : ChV := ⟨0, (List.range (l.length + 1)).map fun j => UInt8.ofNat (macsDo M (l.take j)).mem⟩
theorem runC_len (M : MacV) (l : List CmdV) : (runC M l).D.length = l.length + 1 := by simp [runC]
theorem runC_low (M : MacV) (l : List CmdV) : (runC M l).low = 0 := rfl
theorem runC_top (M : MacV) (l : List CmdV) : (runC M l).top = l.length := by
 unfold ChV.top
 rw [runC_len, runC_low]
 omega
theorem runC_push (M : MacV) (l : List CmdV) (c : CmdV) : runC M (l ++ [c]) = (runC M l).push (UInt8.ofNat (macsDo M (l ++ [c])).mem) := by
 unfold runC ChV.push
 rw [List.length_append, List.length_singleton, List.range_succ, List.map_append]
 congr 2
 ·
  refine List.map_congr_left (fun j hj => ?_)
  have hj2 := List.mem_range.1 hj
  rw [List.take_append_of_le_length (by omega)]
 ·
  show [UInt8.ofNat (macsDo M ((l ++ [c]).take (l.length + 1))).mem] = _
  rw [List.take_of_length_le (by simp)]
theorem runC_ok {M : MacV} (h : MacAll M) (l : List CmdV) : (runC M l).D.all dirOk = true := by
 rw [List.all_eq_true]
 intro x hx
 obtain ⟨j, _, rfl⟩ := List.mem_map.1 hx
 exact mem_ok (macsDo_all _ h)
theorem runC_last (M : MacV) (l : List CmdV) : (runC M l).D.getLast? = some (UInt8.ofNat (macsDo M l).mem) := by
 unfold runC
 rw [List.range_succ, List.map_append, List.map_singleton, List.getLast?_append, List.getLast?_singleton, List.take_length]
 rfl
theorem runC_tail (M : MacV) (l : List CmdV) : (runC M l).tail.length ≤ 3 := by
 rw [tail_len]
 omega
theorem runC_tailLast (M : MacV) (l : List CmdV) : (runC M l).tail.getLast? = some (UInt8.ofNat (macsDo M l).mem) := by
 rw [tail_last (by rw [runC_len]; omega), runC_last]
end Go.Proofs.YtbckjgageofldaaGreat
namespace Go.Proofs.YtbckjgageofldaaGreat
open Go.RowKit
structure ChAt (w : World) (base p : Nat) (v : Value) (C : ChV) : Prop where
 row : w.heap[p]? = some (.cells #[.int .u64 (C.low : Int), v] 124 (0, 0))
 own : OwnB w base 24 v C.D
theorem ChAt.lt {w : World} {base p : Nat} {v : Value} {C : ChV} (h : ChAt w base p v C) : p < w.heap.size := (Array.getElem?_eq_some_iff.1 h.row).1
theorem ChAt.below {w w' : World} {base p : Nat} {v : Value} {C : ChV} (h : ChAt w base p v C) (hb : Below w.heap.size w w') : ChAt w' base p v C := ⟨(hb.block p h.lt).trans h.row, h.own.below hb⟩
theorem ChAt.cells {w : World} {base p : Nat} {v : Value} {C : ChV} (h : ChAt w base p v C) : w.cell? ⟨p, 0, none⟩ = some (.int .u64 (C.low : Int)) ∧ w.cell? ⟨p, 1, none⟩ = some v := ⟨cell_of_row _ _ _ _ _ _ h.row, cell_of_row _ _ _ _ _ _ h.row⟩
theorem OwnB.len {w : World} {base : Nat} {t : TypeId} {a : Option Addr} {n c : Nat} {l : List UInt8} (h : OwnB w base t (.slice a n c) l) : n = l.length := by
 rcases h.2 with ⟨e, h3⟩ | ⟨g, cap, cur, e, _⟩
 ·
  cases e; exact h3.symm
 ·
  cases e; rfl
theorem dir_eq : ∀ x : Fin 256, dirOk (UInt8.ofNat x.val) = (decide (0 < pop8 (x.val &&& 127)) && decide (bothS x.val x.val = x.val)) := by decide +kernel
set_option maxHeartbeats 4000000 in
theorem directory_any (x : Nat) (hx : x < 256) (w : World) : Calls Tryz.prog 44 #[.int .u8 (x : Int)] w fun e w' => e = .returned (.bool (dirOk (UInt8.ofNat x))) ∧ w = w' := by
 have hd := dir_eq ⟨x, hx⟩
 simp only at hd
 rw [hd]
 have Hl := Lib.hid (fun y : World => len8_any x hx y)
 have Hb := Lib.hid (fun y : World => both_any x x hx hx y)
 clear hd
 by_cases hp : 0 < pop8 (x &&& 127)
 ·
  have hp' : (0 : Int) < (pop8 (x &&& 127) : Int) := by omega
  rw [decide_eq_true hp, Bool.true_and]
  generalize pop8 (x &&& 127) = n at *
  clear hp
  by_cases hq : bothS x x = x
  ·
   have hq' : ((bothS x x : Int) == (x : Int)) = true := by rw [beq_iff_eq]; omega
   rw [decide_eq_true hq]
   generalize bothS x x = m at *
   clear hq
   go_enter Tryz.func44, Tryz.ntmps44
   go_wp2_with (first
    | ((with_reducible refine (Hl.out _).mono ?_); rintro e w' ⟨rfl, rfl⟩)
    | ((with_reducible refine (Hb.out _).mono ?_); rintro e w' ⟨rfl, rfl⟩))
   go_ret
   exact ⟨rfl, rfl⟩
  ·
   have hq' : ((bothS x x : Int) == (x : Int)) = false := by rw [beq_eq_false_iff_ne]; omega
   rw [decide_eq_false hq]
   generalize bothS x x = m at *
   clear hq
   go_enter Tryz.func44, Tryz.ntmps44
   go_wp2_with (first
    | ((with_reducible refine (Hl.out _).mono ?_); rintro e w' ⟨rfl, rfl⟩)
    | ((with_reducible refine (Hb.out _).mono ?_); rintro e w' ⟨rfl, rfl⟩))
   go_ret
   exact ⟨rfl, rfl⟩
 ·
  have hp' : ¬ (0 : Int) < (pop8 (x &&& 127) : Int) := by omega
  rw [decide_eq_false hp, Bool.false_and]
  generalize pop8 (x &&& 127) = n at *
  clear hp
  go_enter Tryz.func44, Tryz.ntmps44
  go_wp2_with (first
   | ((with_reducible refine (Hl.out _).mono ?_); rintro e w' ⟨rfl, rfl⟩)
   | ((with_reducible refine (Hb.out _).mono ?_); rintro e w' ⟨rfl, rfl⟩))
  go_ret
  exact ⟨rfl, rfl⟩
set_option maxHeartbeats 4000000 in
theorem chnew_any (x : Nat) (hx : x < 256) (h : dirOk (UInt8.ofNat x) = true) (w : World) :
  Calls Tryz.prog 36 #[.int .u8 (x : Int)] w fun e w' => ∃ p v, e = .returned (.tuple #[.pointer (some ⟨p, 0, none⟩), .int .i64 0]) ∧ ChAt w' w.heap.size p v ⟨0, [UInt8.ofNat x]⟩ ∧ w.heap.size ≤ p ∧ Below w.heap.size w w' := by
 have hd := directory_any x hx w
 rw [h] at hd
 have Hd := Lib.hid hd; clear hd h
 go_enter Tryz.func36, Tryz.ntmps36
 go_wp2_with ((with_reducible refine Hd.out.mono ?_); rintro e w' ⟨rfl, rfl⟩)
 refine bodyPost_ret (v := .tuple #[.pointer (some ⟨w.heap.size + 1, 0, none⟩), .int .i64 0]) (by simp [results, Tryz.results36, go_sem]) rfl ?_
 have hx8 : ((UInt8.ofNat x).toNat : Int) = (x : Int) := by simp; omega
 have ho := OwnB.one w (UInt8.ofNat x) 24
 rw [hx8] at ho
 have b1 := (Below.refl w.heap.size w).alloc (Nat.le_refl _) (.cells #[.int .u8 (x : Int)] 24)
 have b2 := (Below.refl _ (w.alloc (.cells #[.int .u8 (x : Int)] 24))).alloc (Nat.le_refl _) (.cells #[.int .u64 0, .slice (some ⟨w.heap.size, 0, none⟩) 1 1] 124)
 have hr := heap_alloc_new (w.alloc (.cells #[.int .u8 (x : Int)] 24)) (.cells #[.int .u64 0, .slice (some ⟨w.heap.size, 0, none⟩) 1 1] 124)
 rw [World.size_alloc] at hr
 exact ⟨w.heap.size + 1, _, rfl, ⟨hr, ho.below b2⟩, Nat.le_succ _, b1.trans (b2.mono b1.size)⟩
set_option maxRecDepth 100000 in
set_option maxHeartbeats 8000000 in
theorem top_any (base p : Nat) (v : Value) (C : ChV) (hD : 0 < C.D.length) (hl : C.low + C.D.length ≤ 9223372036854775807) (w : World) (h : ChAt w base p v C) :
  Calls Tryz.prog 22 #[.pointer (some ⟨p, 0, none⟩)] w fun e w' => e = .returned (.int .u64 (C.top : Int)) ∧ Below w.heap.size w w' := by
 obtain ⟨a, n, c, rfl⟩ := h.own.read.slice
 have hn : n = C.D.length := h.own.len
 have H := Lib.hid h
 have Hlt := Lib.hid h.lt
 have hw1 : IntKind.u64.wrap (n : Int) = (n : Int) := by rw [IntKind.wrap_u64]; omega
 have hw2 : IntKind.u64.wrap ((C.low : Int) + (n : Int)) = (C.low : Int) + (n : Int) := by rw [IntKind.wrap_u64]; omega
 have hw3 : IntKind.u64.wrap ((C.low : Int) + (n : Int) - 1) = (C.top : Int) := by unfold ChV.top; rw [IntKind.wrap_u64]; omega
 have Hn := Lib.hid (And.intro hn (And.intro hD hl)); clear hn hD hl h
 go_enter Tryz.func22, Tryz.ntmps22
 go_upto_region 3 with fail
 refine (wpIn_wide (n := 1)).1 ?_
 refine RegJ.wpIn_region_plan (F := Fence.wide) (KeptW w) (.step 0 0 (.step 1 0 (.step 2 0 (.step 3 0 (.step 4 0 (.step 5 0 (.step 6 0 (.step 7 0 (.step 8 0 (.step 9 0 (.step 10 0 (.step 11 0 (.step 12 0 .nil))))))))))))) (by kernel_rfl) (by kernel_rfl) (by kernel_rfl) (fun _ _ d _ _ h => by cases d <;> exact h) ⟨rfl, rfl, rfl, Nat.le_refl _, fun _ _ => rfl⟩ ?_
 dsimp only [RegJ.pickJ, List.getElem?_cons_zero, List.getElem?_cons_succ]
 change RegJ.Can _ _ _ _ _ _ _ _ w.drew
 have hkd : KeptW w w.drew := ⟨rfl, rfl, rfl, Nat.le_refl _, fun _ _ => rfl⟩
 generalize w.drew = v1 at *
 iterate 3 (refine RegJ.reads ?_; intro K hK; go_simp; (first | refine ⟨_, fun _ _ => rfl, hK _ ?_⟩ | refine hK _ ?_); clear hK K)
 refine RegJ.reads ?_
 intro K hK
 go_simp
 refine ⟨.int .u64 (C.low : Int), fun y hy => ?_, hK _ ?_⟩
 ·
  have f0 : y.cell? ⟨p, 0, none⟩ = some (.int .u64 (C.low : Int)) := cell_of_row _ _ _ _ _ _ (((KeptW.bel hy).block p Hlt.out).trans H.out.row)
  go_simp
 clear hK K
 iterate 3 (refine RegJ.reads ?_; intro K hK; go_simp; (first | refine ⟨_, fun _ _ => rfl, hK _ ?_⟩ | refine hK _ ?_); clear hK K)
 refine RegJ.reads ?_
 intro K hK
 go_simp
 refine ⟨.slice a n c, fun y hy => ?_, hK _ ?_⟩
 ·
  have f0 : y.cell? ⟨p, 1, none⟩ = some (.slice a n c) := cell_of_row _ _ _ _ _ _ (((KeptW.bel hy).block p Hlt.out).trans H.out.row)
  go_simp
 clear hK K
 iterate 5 (refine RegJ.reads ?_; intro K hK; go_simp; (first | refine ⟨_, fun _ _ => rfl, hK _ ?_⟩ | refine hK _ ?_); clear hK K)
 refine RegJ.nil ?_
 go_wp2_with fail
 go_ret
 exact ⟨rfl, KeptW.bel hkd⟩
end Go.Proofs.YtbckjgageofldaaGreat
namespace Go.Proofs.YtbckjgageofldaaGreat
open Go.RowKit
theorem ChAt.thawed {w : World} {base p : Nat} {v : Value} {C : ChV} (h : ChAt w base p v C) (j : Nat) : w.frozen? ⟨p, j, none⟩ = false := by
 unfold World.frozen?
 rw [h.row]
 rfl
theorem ChAt.ne {w : World} {base p : Nat} {v : Value} {C : ChV} (h : ChAt w base p v C) : ∀ k, v.ownBlock = some k → k ≠ p := by
 rintro k hk rfl
 rcases h.own.2 with ⟨rfl, _⟩ | ⟨g, cap, cur, rfl, _, hg, _⟩
 ·
  cases hk
 ·
  have e : g = k := Option.some.inj hk
  subst e
  rw [h.row] at hg
  simp at hg
theorem OwnB.setNe {w : World} {base p i : Nat} {t : TypeId} {v x : Value} {l : List UInt8} (h : OwnB w base t v l) (hne : ∀ k, v.ownBlock = some k → k ≠ p) : OwnB (w.setCell ⟨p, i, none⟩ x) base t v l := by
 unfold OwnB at *
 obtain ⟨h1, h2⟩ := h
 refine ⟨h1, ?_⟩
 rcases h2 with h2 | ⟨q, cap, cur, e, h3, hq, h4⟩
 ·
  exact .inl h2
 ·
  exact .inr ⟨q, cap, cur, e, h3, (Below.heap_setCell _ _ _ _ (by subst e; exact hne q rfl)).trans hq, h4⟩
theorem own_ne {w : World} {base p : Nat} {v : Value} {l : List UInt8} {cs : Array Value} (ho : OwnB w base 24 v l) (hr : w.heap[p]? = some (.cells cs 124 (0, 0))) : ∀ k, v.ownBlock = some k → k ≠ p := by
 rintro k hk rfl
 rcases ho.2 with ⟨rfl, _⟩ | ⟨g, cap, cur, rfl, _, hg, _⟩
 ·
  cases hk
 ·
  have e : g = k := Option.some.inj hk
  subst e
  rw [hr] at hg
  simp at hg
theorem grown_row {w w1 w' : World} {base p : Nat} {v : Value} {C : ChV} (h : ChAt w base p v C) (hb : Below w.heap.size w w1) (hg : w1.grownBy w' v.ownBlock) : w'.heap[p]? = some (.cells #[.int .u64 (C.low : Int), v] 124 (0, 0)) :=
 (hg.block p (Nat.lt_of_lt_of_le h.lt hb.size) (fun e => h.ne p e.symm rfl)).trans ((hb.block p h.lt).trans h.row)
theorem thawed_row {w : World} {p : Nat} {cs : Array Value} {t : TypeId} (j : Nat) (h : w.heap[p]? = some (.cells cs t (0, 0))) : w.frozen? ⟨p, j, none⟩ = false := by
 unfold World.frozen?
 rw [h]
 rfl
theorem ReadB.get {w : World} {v : Value} {l : List UInt8} (h : ReadB w v l) {j : Nat} (hj : j < l.length) : ∃ b o c, v = .slice (some ⟨b, o, none⟩) l.length c ∧ ∀ y : World, Below w.heap.size w y → y.cell? ⟨b, o + j, none⟩ = some (.int .u8 (l[j].toNat : Int)) := by
 obtain ⟨a, cap, e, h0, h2⟩ := h.out
 obtain ⟨b, o, rfl, hb, hc⟩ := h2 j _ (bcells_get hj)
 exact ⟨b, o, cap, e, fun y hy => (hy.cell (p := ⟨b, o + j, none⟩) hb).trans hc⟩
theorem infoSet : (Tryz.prog.info? 24).map (fun i => (i.zero, i.size, i.bytes)) = some (some (.int .u8 0), 1, 1) := by kernel_rfl
set_option maxRecDepth 100000 in
set_option maxHeartbeats 8000000 in
theorem chpush_any (base p : Nat) (v : Value) (C : ChV) (x : Nat) (hx : x < 256) (hok : dirOk (UInt8.ofNat x) = true) (hD : 0 < C.D.length) (hl : C.low + C.D.length ≤ 4611686018427387904) (hsz : C.D.length ≤ 1000000) (w : World) (hbs : base ≤ w.heap.size) (h : ChAt w base p v C) :
  Calls Tryz.prog 14 #[.pointer (some ⟨p, 0, none⟩), .int .u8 (x : Int)] w fun e w' => ∃ v', e = .returned (.int .i64 0) ∧ ChAt w' base p v' (C.push (UInt8.ofNat x)) ∧ Off (p :: v.ownBlock.toList) w.heap.size w w' := by
 obtain ⟨i0, hi0, hz0, hs0, hb0⟩ := info_parts infoSet
 have H := Lib.hid h
 have H0 := Lib.hid h
 have hd := fun y : World => directory_any x hx y
 rw [hok] at hd
 have Hd := Lib.hid hd; clear hd
 have Htop := Lib.hid (top_any base p v C hD (by omega) w h)
 have ht : C.top < 4611686018427387904 := by unfold ChV.top; omega
 have ht' : ((4611686018427387904 : Int) ≤ (C.top : Int)) = False := by rw [eq_iff_iff, iff_false]; omega
 clear ht
 have hone := fun y : World => ReadB.one y (UInt8.ofNat x) 24
 have hx8 : ((UInt8.ofNat x).toNat : Int) = (x : Int) := by simp; omega
 rw [hx8] at hone
 have Hone := Lib.hid hone; clear hone hx8
 have f1 := h.cells.2
 have e1 := h.thawed 1
 have Hsz := Lib.hid (And.intro hsz hbs)
 clear h hok hl hD hsz hbs
 generalize C.top = T at *
 go_enter Tryz.func14, Tryz.ntmps14
 go_wp2_with (first
  | ((with_reducible refine (Hd.out _).mono ?_); rintro e w2 ⟨rfl, rfl⟩)
  | ((with_reducible refine Htop.out.mono ?_); rintro e w3 ⟨rfl, h3⟩; have H3 := Lib.hid (And.intro h3 (H.out.below h3)); clear h3 f1 e1; have f1 := H3.out.2.cells.2; have e1 := H3.out.2.thawed 1)
  | (at_builtin; refine wpList_append_read rfl _ _ 122 rfl base 24 i0 (.int .u8 0) Tryz.underlying122 hi0 hz0 hs0 hb0 rfl _ _ _ rfl (World.ownsRow.alloc H3.out.2.own _) _ _ rfl (Hone.out _) (by simp; have := Hsz.out; omega) (by simp; have := H3.out.1.size; have := Hsz.out; omega) ?_; intro v4 w4 ho4 hg4; have ho5 := OwnB.of (l := C.D) (k := [UInt8.ofNat x]) ho4 rfl rfl; clear ho4; obtain ⟨a4, n4, c4, rfl⟩ := ho5.read.slice; have hr4 := grown_row H3.out.2 ((Below.refl _ w3).alloc (Nat.le_refl _) _) hg4; clear f1 e1; have f1 := cell_of_row _ _ 1 _ _ _ hr4; have e1 := thawed_row 1 hr4; have H4 := Lib.hid (And.intro hr4 (And.intro ho5 hg4)); clear hr4 ho5 hg4))
 go_ret
 obtain ⟨hr4, ho4, hg4⟩ := H4.out
 have hp : p < w.heap.size := H0.out.lt
 refine ⟨_, rfl, ⟨?_, OwnB.setNe ho4 (own_ne ho4 hr4)⟩, ?_⟩
 ·
  rw [heap_setCell_same _ _ _ _ _ _ hr4]
  rfl
 ·
  have hb3 := ((H3.out.1.mono (Nat.le_refl _)).alloc (H3.out.1.size) (.cells #[.int .u8 (x : Int)] 24))
  refine ⟨?_, ?_, ?_, ?_, fun k hk hl => ?_⟩
  ·
   exact (Only.set p 1 w4 (.slice a4 n4 c4)).os.trans (hg4.os.trans hb3.os)
  ·
   exact hg4.tape.trans hb3.tape
  ·
   exact hg4.output.trans hb3.output
  ·
   exact Nat.le_trans (Nat.le_trans hb3.size hg4.size) (by simp)
  ·
   simp only [List.mem_cons, Option.mem_toList, not_or] at hl
   refine (Below.heap_setCell _ _ _ _ (by exact hl.1)).trans ((hg4.block k (Nat.lt_of_lt_of_le hk hb3.size) (fun e => hl.2 e.symm)).trans (hb3.block k hk))
end Go.Proofs.YtbckjgageofldaaGreat
namespace Go.Proofs.YtbckjgageofldaaGreat
open Go.RowKit
theorem OwnB.cap {w : World} {base : Nat} {t : TypeId} {a : Option Addr} {n c : Nat} {l : List UInt8} (h : OwnB w base t (.slice a n c) l) : l.length ≤ c := by
 rcases h.2 with ⟨e, h3⟩ | ⟨g, cap, cur, e, _, _, h4, _⟩
 ·
  cases e; omega
 ·
  cases e; exact h4
theorem ReadB.drop {w : World} {a : Option Addr} {c : Nat} {l : List UInt8} (h : ReadB w (.slice a l.length c) l) (hc : l.length ≤ c) {k : Nat} (hk : k ≤ l.length) : ReadB w (sliced a k l.length c 1) (l.drop k) := by
 obtain ⟨a', cap, e, h0, h2⟩ := h.out
 cases e
 refine ⟨if c = k then a else a.map (·.add (k * 1)), c - k, by unfold sliced; rw [List.length_drop], ?_, ?_⟩
 ·
  intro e
  split at e
  ·
   omega
  ·
   cases a with
   | none => have := h0 rfl; omega
   | some a => simp at e
 ·
  intro j u hj
  have hj' : (bcells l)[k + j]? = some u := by
   unfold bcells at hj ⊢
   rw [List.map_drop, List.getElem?_drop] at hj
   exact hj
  have hl := (List.getElem?_eq_some_iff.1 hj').1
  rw [bcells_len] at hl
  obtain ⟨b, o, rfl, hb, hcell⟩ := h2 _ _ hj'
  rw [if_neg (by omega)]
  exact ⟨b, o + k, by simp [Addr.add], hb, by rw [show o + k + j = o + (k + j) by omega]; exact hcell⟩
set_option maxRecDepth 100000 in
set_option maxHeartbeats 8000000 in
theorem chtail_any (base p : Nat) (v : Value) (C : ChV) (hD : 0 < C.D.length) (hsz : C.D.length ≤ 1000000) (w : World) (h : ChAt w base p v C) :
  Calls Tryz.prog 42 #[.pointer (some ⟨p, 0, none⟩)] w fun e w' => e = .returned (.string ⟨C.tail.toArray⟩) ∧ Below w.heap.size w w' := by
 obtain ⟨i0, hi00, hz0, hs0, hb0⟩ := info_parts info8
 obtain ⟨a, n, c, rfl⟩ := h.own.read.slice
 have hn : n = C.D.length := h.own.len
 subst hn
 have H := Lib.hid h
 have Hlt := Lib.hid h.lt
 have hr := h.own.read
 have hcap := h.own.cap
 obtain ⟨k, hk⟩ : ∃ k, C.D.length - 3 = k := ⟨_, rfl⟩
 have hrd := hr.drop hcap (k := k) (by omega)
 have htl : C.D.drop k = C.tail := by rw [← hk]; rfl
 rw [htl] at hrd
 have hlen : C.tail.length = C.D.length - k := by rw [← htl, List.length_drop]
 have hlen3 : C.tail.length ≤ 3 := by omega
 have hmx : max ((C.D.length : Int) - 3) 0 = (k : Int) := by omega
 have hk1 : (0 : Int) ≤ (k : Int) := by omega
 have hk2 : (k : Int) ≤ (C.D.length : Int) := by omega
 have hw1 : IntKind.i64.wrap ((C.D.length : Int) - 3) = (C.D.length : Int) - 3 := by rw [IntKind.wrap_i64]; omega
 have Hrd := Lib.hid hrd
 have Hlen := Lib.hid (And.intro hlen hlen3); clear hlen hlen3 hrd htl hk hr hcap h
 generalize C.tail = tl at *
 go_enter Tryz.func42, Tryz.ntmps42
 go_upto_region 4 with fail
 refine (wpIn_wide (n := 1)).1 ?_
 refine RegJ.wpIn_region_plan (F := Fence.wide) (KeptW w) (.step 0 0 (.step 1 0 (.step 2 0 (.step 3 0 (.step 4 0 (.step 5 0 (.step 6 0 (.step 7 0 (.step 8 0 (.step 9 0 (.step 10 0 (.step 11 0 (.step 12 0 (.step 13 0 .nil)))))))))))))) (by kernel_rfl) (by kernel_rfl) (by kernel_rfl) (fun _ _ d _ _ h => by cases d <;> exact h) ⟨rfl, rfl, rfl, Nat.le_refl _, fun _ _ => rfl⟩ ?_
 dsimp only [RegJ.pickJ, List.getElem?_cons_zero, List.getElem?_cons_succ]
 change RegJ.Can _ _ _ _ _ _ _ _ w.drew
 have hkd : KeptW w w.drew := ⟨rfl, rfl, rfl, Nat.le_refl _, fun _ _ => rfl⟩
 generalize w.drew = v1 at *
 iterate 3 (refine RegJ.reads ?_; intro K hK; go_simp; (first | refine ⟨_, fun _ _ => rfl, hK _ ?_⟩ | refine hK _ ?_); clear hK K)
 refine RegJ.reads ?_
 intro K hK
 go_simp
 refine ⟨.slice a C.D.length c, fun y hy => ?_, hK _ ?_⟩
 ·
  have f0 : y.cell? ⟨p, 1, none⟩ = some (.slice a C.D.length c) := cell_of_row _ _ _ _ _ _ (((KeptW.bel hy).block p Hlt.out).trans H.out.row)
  go_simp
 clear hK K
 iterate 3 (refine RegJ.reads ?_; intro K hK; go_simp; (first | refine ⟨_, fun _ _ => rfl, hK _ ?_⟩ | refine hK _ ?_); clear hK K)
 refine RegJ.reads ?_
 intro K hK
 go_simp
 refine ⟨.slice a C.D.length c, fun y hy => ?_, hK _ ?_⟩
 ·
  have f0 : y.cell? ⟨p, 1, none⟩ = some (.slice a C.D.length c) := cell_of_row _ _ _ _ _ _ (((KeptW.bel hy).block p Hlt.out).trans H.out.row)
  go_simp
 clear hK K
 iterate 3 (refine RegJ.reads ?_; intro K hK; go_simp; (first | refine ⟨_, fun _ _ => rfl, hK _ ?_⟩ | refine hK _ ?_); clear hK K)
 refine RegJ.reads ?_
 intro K hK
 go_simp
 refine ⟨sliced a k C.D.length c 1, fun y hy => ?_, hK _ ?_⟩
 ·
  have f0 := run_slice_l (P := Tryz.prog) y 122 a C.D.length c Tryz.underlying122 .i64 (k : Int) hk1 hk2
  rw [Int.toNat_natCast] at f0
  go_simp
 clear hK K
 iterate 2 (refine RegJ.reads ?_; intro K hK; go_simp; (first | refine ⟨_, fun _ _ => rfl, hK _ ?_⟩ | refine hK _ ?_); clear hK K)
 refine RegJ.nil ?_
 have Hb1 := Lib.hid (KeptW.bel hkd)
 have Hrd1 := Lib.hid (Hrd.out.below Hb1.out)
 clear Hrd H Hlt
 obtain ⟨a2, c2, he2, hn2, hc2⟩ := Hrd1.out.out
 simp only [sliced, Nat.mul_one, Value.slice.injEq] at he2
 obtain ⟨ea, el, ec⟩ := he2
 have hrd2 : ReadB v1 (.slice a2 tl.length c2) tl := ⟨a2, c2, rfl, hn2, hc2⟩
 rw [ea, el, ec]
 have Hrd2 := Lib.hid hrd2
 have Hl3 := Lib.hid (show tl.length ≤ 3 from Hlen.out.2)
 clear hrd2 ea el ec hn2 hc2 Hrd1 Hlen hmx hk1 hk2 hw1 hkd
 go_wp2_with fail
 go_loopw [3, 5, 21] (fun s3 _ s21 wr => ∃ i : Nat, i ≤ tl.length ∧ s21 = .int .i64 (i : Int) ∧ OwnB wr v1.heap.size 5 s3 (tl.take i) ∧ Below v1.heap.size v1 wr) (fun _ _ s21 _ => tl.length - (intOf s21).toNat)
 case atStart => exact ⟨0, by omega, rfl, ⟨rfl, .inl ⟨rfl, rfl⟩⟩, Below.refl _ _⟩
 case round =>
  obtain ⟨i, hi, rfl, ho, hb⟩ := hrel
  have Ho := Lib.hid ho; clear ho
  have Hb := Lib.hid hb; clear hb
  by_cases hlt : i < tl.length
  ·
   have hlt' : (i : Int) < (tl.length : Int) := by omega
   have hi0 : ¬ (i : Int) < 0 := by omega
   have hsucc := tsucc (n := i) (by have := Hl3.out; omega)
   obtain ⟨b, o, c3, hv, hget⟩ := Hrd2.out.get hlt
   cases hv
   have f0 := hget wr Hb.out
   have hone := ReadB.one wr tl[i] 5
   have Hone := Lib.hid hone; clear hone
   have Hst := Lib.hid (show tl.take (i + 1) = tl.take i ++ [tl[i]] from (List.take_append_getElem hlt).symm)
   generalize tl[i] = x at *
   have Hlen := Lib.hid (show (tl.take i).length ≤ 3 from by rw [List.length_take]; have := Hl3.out; omega)
   clear hget
   go_wp2_with (at_builtin; refine wpList_append_read rfl _ _ 44 rfl v1.heap.size 5 i0 (.int .u8 0) Tryz.underlying44 hi00 hz0 hs0 hb0 rfl _ _ _ rfl (World.ownsRow.alloc Ho.out _) _ _ rfl Hone.out (by show (tl.take i).length + 1 ≤ _; have := Hlen.out; omega) (by simp; have := Hb.out.size; omega) ?_; intro v4 w4 ho4 hg4; have Hg4 := Lib.hid hg4; clear hg4; have Ho4 := Lib.hid ho4; clear ho4)
   go_roundw
   case rel =>
    refine ⟨i + 1, hlt, rfl, ?_, below_grown Hg4.out (Hb.out.alloc Hb.out.size _) (by simp; have := Hb.out.size; omega) (fun q hq => (World.ownsRow.lt Ho.out q hq).1)⟩
    rw [Hst.out]
    exact OwnB.of Ho4.out rfl rfl
   case measure => simp [intOf]; omega
  ·
   have hlt' : ¬ (i : Int) < (tl.length : Int) := by omega
   have hi7 : i = tl.length := by omega
   subst hi7
   have ho := Ho.out
   rw [List.take_length] at ho
   have hcv := ho.read.conv Tryz.underlying44 Tryz.underlying5 Tryz.underlying9
   go_wp2_with fail
   go_ret
   exact ⟨rfl, Hb1.out.trans (Hb.out.mono Hb1.out.size)⟩
end Go.Proofs.YtbckjgageofldaaGreat
