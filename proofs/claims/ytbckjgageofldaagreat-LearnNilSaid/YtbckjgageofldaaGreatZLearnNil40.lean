/- Chains: the shelf; newest. Condition: the chain lies there. -/
import Derived.Test.YtbckjgageofldaaGreatZLearnNil39
import Derived.Deep.MidRow
import Derived.Test.YtbckjgageofldaaGreatZLearnNil14
namespace Go.Proofs.YtbckjgageofldaaGreat
open Go.RowKit
theorem bs_len (b : BsV) : (bsCells b).length = 17 := rfl
theorem bs_one (b : BsV) : ∀ u ∈ bsCells b, u.oneCell' = true := by
 intro u hu
 have e : bsCells b = (bsCells b).toArray.toList := rfl
 rw [e, bs_eta] at hu
 simp only [List.mem_cons, List.not_mem_nil, or_false] at hu
 rcases hu with rfl | rfl | rfl | rfl | rfl | rfl | rfl | rfl | rfl | rfl | rfl | rfl | rfl | rfl | rfl | rfl | rfl <;> rfl
theorem BsAt.thawed {w : World} {g : Nat} {b : BsV} (h : BsAt w g b) (j : Nat) : w.frozen? ⟨g, j, none⟩ = false := by
 unfold BsAt at h
 unfold World.frozen?
 rw [h]
 rfl
theorem bsSt_at {y : World} {g : Nat} {b0 : BsV} (h : BsAt y g b0) (b : BsV) : BsAt (rowSt y g 0 (bsCells b)) g b := rowSt_row (bsCells b) [] (bsCells b0) y h rfl
def bs0 : BsV := ⟨macNone, none, 0, []⟩
structure ShAt (w : World) (base p : Nat) (v : Value) (L : List BsV) : Prop where
 row : w.heap[p]? = some (.cells #[v] 114 (0, 0))
 own : w.ownsRow base 110 17 v L.length (flat bsCells L)
theorem ShAt.lt {w : World} {base p : Nat} {v : Value} {L : List BsV} (h : ShAt w base p v L) : p < w.heap.size := (Array.getElem?_eq_some_iff.1 h.row).1
theorem ShAt.get {w : World} {base p : Nat} {v : Value} {L : List BsV} (h : ShAt w base p v L) : w.cell? ⟨p, 0, none⟩ = some v := cell_of_row _ _ _ _ _ _ h.row
set_option maxRecDepth 100000 in
set_option maxHeartbeats 16000000 in
theorem newest_nil (w : World) : Calls Tryz.prog 39 #[.pointer none] w fun e w' => e = .returned (bsV bs0) ∧ Below w.heap.size w w' := by
 have hb1 := (Below.refl w.heap.size w).alloc (Nat.le_refl _) (.cells (bsCells bs0).toArray 110)
 have hm1 : BsAt (w.alloc (.cells (bsCells bs0).toArray 110)) w.heap.size bs0 := heap_alloc_new _ _
 obtain ⟨g, hg⟩ : ∃ g, w.heap.size = g := ⟨_, rfl⟩
 rw [hg] at hm1
 go_enter Tryz.func39, Tryz.ntmps39
 go_upto_region 1 with fail
 change Code.wp _ _ _ _ (w.alloc (.cells (bsCells bs0).toArray 110))
 generalize w.alloc (.cells (bsCells bs0).toArray 110) = w1 at *
 have Hm1 := Lib.hid hm1
 have Hbel := Lib.hid hb1
 have Hg := Lib.hid (Nat.le_of_eq hg)
 clear hm1 hb1 hg
 obtain ⟨o0, o1, o2, o3, o4, o5, o6, o7, o8, o9, o10, o11, o12, o13, o14, o15, o16⟩ := Hm1.out.cells
 have q0 := Hm1.out.thawed 0
 have q1 := Hm1.out.thawed 1
 have q2 := Hm1.out.thawed 2
 have q3 := Hm1.out.thawed 3
 have q4 := Hm1.out.thawed 4
 have q5 := Hm1.out.thawed 5
 have q6 := Hm1.out.thawed 6
 have q7 := Hm1.out.thawed 7
 have q8 := Hm1.out.thawed 8
 have q9 := Hm1.out.thawed 9
 have q10 := Hm1.out.thawed 10
 have q11 := Hm1.out.thawed 11
 have q12 := Hm1.out.thawed 12
 have q13 := Hm1.out.thawed 13
 have q14 := Hm1.out.thawed 14
 have q15 := Hm1.out.thawed 15
 have q16 := Hm1.out.thawed 16
 go_wp2_with fail
 change bodyPost _ _ _ _ _ (rowSt w1 g 0 (bsCells bs0))
 have HZ := Lib.hid (bsSt_at Hm1.out bs0)
 have Hbz := Lib.hid (rowSt_below Hg.out (bsCells bs0) 0 _ Hbel.out)
 clear o0 o1 o2 o3 o4 o5 o6 o7 o8 o9 o10 o11 o12 o13 o14 o15 o16 q0 q1 q2 q3 q4 q5 q6 q7 q8 q9 q10 q11 q12 q13 q14 q15 q16
 generalize rowSt w1 g 0 (bsCells bs0) = w9 at *
 refine bodyPost_ret (v := bsV bs0) (by simp [results, Tryz.results39]; exact bs_loadVar HZ.out) rfl ?_
 exact ⟨rfl, Hbz.out⟩
end Go.Proofs.YtbckjgageofldaaGreat
namespace Go.Proofs.YtbckjgageofldaaGreat
open Go.RowKit
theorem ShAt.below {w w' : World} {base p : Nat} {v : Value} {L : List BsV} (h : ShAt w base p v L) (hb : Below w.heap.size w w') : ShAt w' base p v L := by
 refine ⟨(hb.block p h.lt).trans h.row, h.own.1, ?_⟩
 rcases h.own.2 with h2 | ⟨g, cap, cur, e, h3, hg, h4⟩
 ·
  exact .inl h2
 ·
  exact .inr ⟨g, cap, cur, e, h3, (hb.block g (Array.getElem?_eq_some_iff.1 hg).1).trans hg, h4⟩
theorem ShAt.at_ {w : World} {base p : Nat} {v : Value} {L : List BsV} (h : ShAt w base p v L) {J : Nat} {b : BsV} (hb : L[J]? = some b) : ∃ B c, v = .slice (some ⟨B, 0, none⟩) L.length c ∧ ∀ y : World, Below w.heap.size w y → y.rangeAt B (J * 17) (bsCells b) := by
 have hJ : J < L.length := (List.getElem?_eq_some_iff.1 hb).1
 rcases h.own.2 with ⟨_, h3⟩ | ⟨g, cap, cur, e, _, hg, _, _, _, ht⟩
 ·
  omega
 ·
  refine ⟨g, cap, e, fun y hy => ?_⟩
  have hy2 := (hy.block g (Array.getElem?_eq_some_iff.1 hg).1).trans hg
  have key : ∀ r u, (bsCells b)[r]? = some u → y.cell? ⟨g, J * 17 + r, none⟩ = some u := by
   intro r u hu
   have e1 := flat_at bs_len L J r b u hb hu
   have hlt : J * 17 + r < L.length * 17 := by
    have := (List.getElem?_eq_some_iff.1 e1).1
    rwa [flat_len bs_len] at this
   rw [← ht, List.getElem?_take, if_pos hlt, Array.getElem?_toList] at e1
   simp only [World.cell?, hy2]
   simpa using e1
  exact key
theorem bs_loads (ρ : Operand → Value) (o : Oper) (a : Operand) (h : o.op = .load 110 a) {g off : Nat} {b : BsV} (ha : ρ a = .pointer (some ⟨g, off, none⟩)) {y : World} (hm : y.rangeAt g off (bsCells b)) :
  (execOp ρ o).run Tryz.prog y = .ok (.value (bsV b)) y := by
 simp only [execOp, h, ha, Instr.loadAt, Instr.sureAddr, Sem.run_bind, Sem.run_pure, Result.andThen_ok, bs_loadMid hm]
set_option maxRecDepth 100000 in
set_option maxHeartbeats 16000000 in
theorem newest_last (base p : Nat) (v : Value) (L : List BsV) (b : BsV) (hL : L[L.length - 1]? = some b) (hsz : L.length ≤ 1000000) (w : World) (h : ShAt w base p v L) :
  Calls Tryz.prog 39 #[.pointer (some ⟨p, 0, none⟩)] w fun e w' => e = .returned (bsV b) ∧ Below w.heap.size w w' := by
 have hb1 := (Below.refl w.heap.size w).alloc (Nat.le_refl _) (.cells (bsCells bs0).toArray 110)
 have hm1 : BsAt (w.alloc (.cells (bsCells bs0).toArray 110)) w.heap.size bs0 := heap_alloc_new _ _
 have hn0 : 0 < L.length := by
  have := (List.getElem?_eq_some_iff.1 hL).1
  omega
 obtain ⟨B, c, rfl, hat⟩ := h.at_ hL
 have H := Lib.hid (h.below hb1)
 have Hat := Lib.hid (fun (y : World) (hy : Below (w.alloc (.cells (bsCells bs0).toArray 110)).heap.size (w.alloc (.cells (bsCells bs0).toArray 110)) y) => hat y (hb1.trans (hy.mono hb1.size)))
 clear hat hL h
 generalize hn : L.length = n at *
 obtain ⟨g, hg⟩ : ∃ g, w.heap.size = g := ⟨_, rfl⟩
 rw [hg] at hm1
 have hne : ((n : Int) == 0) = false := by rw [beq_eq_false_iff_ne]; omega
 have hw1 : IntKind.i64.wrap ((n : Int) - 1) = ((n - 1 : Nat) : Int) := by rw [IntKind.wrap_i64]; omega
 have hj1 : ((n - 1 : Nat) : Int) < (n : Int) := by omega
 have hj0 : ¬ ((n - 1 : Nat) : Int) < 0 := by omega
 clear hn0 hsz
 generalize n - 1 = J at *
 go_enter Tryz.func39, Tryz.ntmps39
 go_upto_region 1 with fail
 change Code.wp _ _ _ _ (w.alloc (.cells (bsCells bs0).toArray 110))
 generalize w.alloc (.cells (bsCells bs0).toArray 110) = w1 at *
 have Hm1 := Lib.hid hm1
 have Hbel := Lib.hid hb1
 have Hg := Lib.hid (Nat.le_of_eq hg)
 have f0 := H.out.get
 clear hm1 hb1 hg
 go_upto_region 3 with fail
 refine (wpIn_wide (n := 1)).1 ?_
 refine RegK.wpIn_region_can (F := Fence.wide) (KeptW w1) [(0, 0), (1, 0), (2, 0), (3, 0), (4, 0), (5, 0), (6, 0), (7, 0), (8, 0), (9, 0), (10, 0), (11, 0), (12, 3)] (by kernel_rfl) (by kernel_rfl) (by kernel_rfl) (fun _ _ d _ _ h => by cases d <;> exact h) ⟨rfl, rfl, rfl, Nat.le_refl _, fun _ _ => rfl⟩ ?_
 dsimp only [RegK.pick, List.getElem?_cons_zero, List.getElem?_cons_succ]
 change RegK.Can _ _ _ _ _ _ _ _ w1.drew
 have hkd : KeptW w1 w1.drew := ⟨rfl, rfl, rfl, Nat.le_refl _, fun _ _ => rfl⟩
 generalize w1.drew = v1 at *
 iterate 3 (refine RegK.can_reads ?_; intro K hK; go_simp; (first | refine ⟨_, fun _ _ => rfl, hK _ ?_⟩ | refine hK _ ?_); clear hK K)
 refine RegK.can_reads ?_
 intro K hK
 go_simp
 refine ⟨.slice (some ⟨B, 0, none⟩) n c, fun y hy => ?_, hK _ ?_⟩
 ·
  have f0 : y.cell? ⟨p, 0, none⟩ = some (.slice (some ⟨B, 0, none⟩) n c) := (H.out.below (KeptW.bel hy)).get
  go_simp
 clear hK K
 iterate 3 (refine RegK.can_reads ?_; intro K hK; go_simp; (first | refine ⟨_, fun _ _ => rfl, hK _ ?_⟩ | refine hK _ ?_); clear hK K)
 refine RegK.can_reads ?_
 intro K hK
 go_simp
 refine ⟨.slice (some ⟨B, 0, none⟩) n c, fun y hy => ?_, hK _ ?_⟩
 ·
  have f0 : y.cell? ⟨p, 0, none⟩ = some (.slice (some ⟨B, 0, none⟩) n c) := (H.out.below (KeptW.bel hy)).get
  go_simp
 clear hK K
 iterate 3 (refine RegK.can_reads ?_; intro K hK; go_simp; (first | refine ⟨_, fun _ _ => rfl, hK _ ?_⟩ | refine hK _ ?_); clear hK K)
 refine RegK.can_reads ?_
 intro K hK
 rw [if_pos (by simp [Region.wanted])]
 refine ⟨bsV b, fun y hy => ?_, hK _ ?_⟩
 ·
  exact bs_loads _ _ _ rfl rfl (Hat.out y (KeptW.bel hy))
 clear hK K
 go_simp
 have Hm2 := Lib.hid (Hm1.out.below (KeptW.bel hkd))
 have Hbel2 := Lib.hid (Hbel.out.trans ((KeptW.bel hkd).mono Hbel.out.size))
 clear Hm1 Hbel f0
 rename_i xx
 unfold bsV
 rw [bs_eta]
 obtain ⟨o0, o1, o2, o3, o4, o5, o6, o7, o8, o9, o10, o11, o12, o13, o14, o15, o16⟩ := Hm2.out.cells
 have q0 := Hm2.out.thawed 0
 have q1 := Hm2.out.thawed 1
 have q2 := Hm2.out.thawed 2
 have q3 := Hm2.out.thawed 3
 have q4 := Hm2.out.thawed 4
 have q5 := Hm2.out.thawed 5
 have q6 := Hm2.out.thawed 6
 have q7 := Hm2.out.thawed 7
 have q8 := Hm2.out.thawed 8
 have q9 := Hm2.out.thawed 9
 have q10 := Hm2.out.thawed 10
 have q11 := Hm2.out.thawed 11
 have q12 := Hm2.out.thawed 12
 have q13 := Hm2.out.thawed 13
 have q14 := Hm2.out.thawed 14
 have q15 := Hm2.out.thawed 15
 have q16 := Hm2.out.thawed 16
 refine RegK.can_frees (fun _ => trivial) ?_
 intro K K0 hK hK0
 go_simp
 refine hK (fun _ => True) _ _ trivial ?_
 clear hK K hK0 K0
 refine RegK.can_nil ?_
 change Exit.then _ _ _ _ (rowSt v1 g 0 (bsCells b))
 have HZ := Lib.hid (bsSt_at Hm2.out b)
 have Hbz := Lib.hid (rowSt_below Hg.out (bsCells b) 0 _ Hbel2.out)
 clear o0 o1 o2 o3 o4 o5 o6 o7 o8 o9 o10 o11 o12 o13 o14 o15 o16 q0 q1 q2 q3 q4 q5 q6 q7 q8 q9 q10 q11 q12 q13 q14 q15 q16
 generalize rowSt v1 g 0 (bsCells b) = w9 at *
 go_wp2_with fail
 refine bodyPost_ret (v := bsV b) (by simp [results, Tryz.results39]; exact bs_loadVar HZ.out) rfl ?_
 exact ⟨rfl, Hbz.out⟩
end Go.Proofs.YtbckjgageofldaaGreat
namespace Go.Proofs.YtbckjgageofldaaGreat
open Go.RowKit
set_option maxHeartbeats 4000000 in
theorem lnew_any (w : World) : Calls Tryz.prog 13 #[] w fun e w' => e = .returned (.pointer (some ⟨w.heap.size, 0, none⟩)) ∧ ShAt w' w.heap.size w.heap.size (.slice none 0 0) [] ∧ Below w.heap.size w w' := by
 have hr := heap_alloc_new w (.cells #[.slice none 0 0] 114)
 have Hs := Lib.hid (show ShAt (w.alloc (.cells #[.slice none 0 0] 114)) w.heap.size w.heap.size (.slice none 0 0) [] from ⟨hr, rfl, .inl ⟨rfl, rfl⟩⟩)
 have Hb := Lib.hid ((Below.refl w.heap.size w).alloc (Nat.le_refl _) (.cells #[.slice none 0 0] 114))
 clear hr
 go_enter Tryz.func13, Tryz.ntmps13
 go_wp2_with fail
 go_ret
 exact ⟨rfl, Hs.out, Hb.out⟩
set_option maxRecDepth 100000 in
set_option maxHeartbeats 16000000 in
theorem newest_empty (base p : Nat) (v : Value) (w : World) (h : ShAt w base p v []) :
  Calls Tryz.prog 39 #[.pointer (some ⟨p, 0, none⟩)] w fun e w' => e = .returned (bsV bs0) ∧ Below w.heap.size w w' := by
 have hb1 := (Below.refl w.heap.size w).alloc (Nat.le_refl _) (.cells (bsCells bs0).toArray 110)
 have hm1 : BsAt (w.alloc (.cells (bsCells bs0).toArray 110)) w.heap.size bs0 := heap_alloc_new _ _
 obtain ⟨A, c, rfl⟩ := own_slice_of h.own
 have H := Lib.hid (h.below hb1)
 clear h
 obtain ⟨g, hg⟩ : ∃ g, w.heap.size = g := ⟨_, rfl⟩
 rw [hg] at hm1
 go_enter Tryz.func39, Tryz.ntmps39
 go_upto_region 1 with fail
 change Code.wp _ _ _ _ (w.alloc (.cells (bsCells bs0).toArray 110))
 generalize w.alloc (.cells (bsCells bs0).toArray 110) = w1 at *
 have Hm1 := Lib.hid hm1
 have Hbel := Lib.hid hb1
 have Hg := Lib.hid (Nat.le_of_eq hg)
 have f0 : w1.cell? ⟨p, 0, none⟩ = some (.slice A 0 c) := H.out.get
 clear hm1 hb1 hg H
 obtain ⟨o0, o1, o2, o3, o4, o5, o6, o7, o8, o9, o10, o11, o12, o13, o14, o15, o16⟩ := Hm1.out.cells
 have q0 := Hm1.out.thawed 0
 have q1 := Hm1.out.thawed 1
 have q2 := Hm1.out.thawed 2
 have q3 := Hm1.out.thawed 3
 have q4 := Hm1.out.thawed 4
 have q5 := Hm1.out.thawed 5
 have q6 := Hm1.out.thawed 6
 have q7 := Hm1.out.thawed 7
 have q8 := Hm1.out.thawed 8
 have q9 := Hm1.out.thawed 9
 have q10 := Hm1.out.thawed 10
 have q11 := Hm1.out.thawed 11
 have q12 := Hm1.out.thawed 12
 have q13 := Hm1.out.thawed 13
 have q14 := Hm1.out.thawed 14
 have q15 := Hm1.out.thawed 15
 have q16 := Hm1.out.thawed 16
 go_wp2_with fail
 change bodyPost _ _ _ _ _ (rowSt w1 g 0 (bsCells bs0))
 have HZ := Lib.hid (bsSt_at Hm1.out bs0)
 have Hbz := Lib.hid (rowSt_below Hg.out (bsCells bs0) 0 _ Hbel.out)
 clear f0 o0 o1 o2 o3 o4 o5 o6 o7 o8 o9 o10 o11 o12 o13 o14 o15 o16 q0 q1 q2 q3 q4 q5 q6 q7 q8 q9 q10 q11 q12 q13 q14 q15 q16
 generalize rowSt w1 g 0 (bsCells bs0) = w9 at *
 refine bodyPost_ret (v := bsV bs0) (by simp [results, Tryz.results39]; exact bs_loadVar HZ.out) rfl ?_
 exact ⟨rfl, Hbz.out⟩
end Go.Proofs.YtbckjgageofldaaGreat
namespace Go.Proofs.YtbckjgageofldaaGreat
open Go.RowKit
set_option maxRecDepth 100000 in
set_option maxHeartbeats 16000000 in
theorem lnewest_zero (P : Option Addr) (b : BsV) (ht : b.top = 0) (w : World) (hN : Calls Tryz.prog 39 #[.pointer P] w fun e w' => e = .returned (bsV b) ∧ Below w.heap.size w w') :
  Calls Tryz.prog 10 #[.pointer P] w fun e w' => e = .returned (.tuple #[.int .u64 0, .string ByteArray.empty]) ∧ Below w.heap.size w w' := by
 have Ht := Lib.hid ht; clear ht
 have HN := Lib.hid (show Calls Tryz.prog 39 #[.pointer P] w fun e w' => e = .returned (.agg #[.int .u8 (b.M.all : Int), .int .u8 (b.M.mem : Int), .int .u32 (b.M.tab.a.seq.toNat : Int), .int .u8 (b.M.tab.a.code : Int), .string b.M.tab.a.text, .int .u32 (b.M.tab.b.seq.toNat : Int), .int .u8 (b.M.tab.b.code : Int), .string b.M.tab.b.text, .int .u32 (b.M.tab.c.seq.toNat : Int), .int .u8 (b.M.tab.c.code : Int), .string b.M.tab.c.text, .int .u32 (b.M.tab.d.seq.toNat : Int), .int .u8 (b.M.tab.d.code : Int), .string b.M.tab.d.text, .pointer b.P, .int .u64 (b.top : Int), .string ⟨b.t.toArray⟩]) ∧ Below w.heap.size w w' from hN)
 clear hN
 go_enter Tryz.func10, Tryz.ntmps10
 go_upto_region 2 with ((with_reducible refine HN.out.mono ?_); rintro e w2 ⟨rfl, h2⟩)
 change Code.wp _ _ _ _ (w2.alloc (.cells (bsCells b).toArray 110))
 have Hm1 := Lib.hid (show BsAt (w2.alloc (.cells (bsCells b).toArray 110)) w2.heap.size b from heap_alloc_new _ _)
 have Hb1 := Lib.hid (h2.trans (((Below.refl w2.heap.size w2).alloc (Nat.le_refl _) (.cells (bsCells b).toArray 110)).mono h2.size))
 clear h2 HN
 generalize w2.alloc (.cells (bsCells b).toArray 110) = w1 at *
 generalize w2.heap.size = g at *
 obtain ⟨_, _, _, _, _, _, _, _, _, _, _, _, _, _, _, f15, _⟩ := Hm1.out.cells
 rw [Ht.out] at f15
 go_wp2_with fail
 refine bodyPost_ret (v := .tuple #[.int .u64 0, .string ByteArray.empty]) (by simp [results, Tryz.results10, go_sem] <;> rfl) rfl ?_
 exact ⟨rfl, Hb1.out⟩
set_option maxRecDepth 100000 in
set_option maxHeartbeats 16000000 in
theorem lnewest_some (P : Option Addr) (b : BsV) (T : Tr) (ht : 0 < b.top) (hM : MacFit b.M) (hl : b.t.length ≤ 1000000) (hP : b.P = T.ptr) (hsh : T.sh = b.M.sh) (w : World) (hat : TreeAt w T) (hN : Calls Tryz.prog 39 #[.pointer P] w fun e w' => e = .returned (bsV b) ∧ Below w.heap.size w w') :
  Calls Tryz.prog 10 #[.pointer P] w fun e w' => e = .returned (.tuple #[.int .u64 (b.top : Int), .string ⟨(textB b.t b.M).toArray⟩]) ∧ Below w.heap.size w w' := by
 have HT := Lib.hid (fun (y : World) (hy : Below w.heap.size w y) => btext_any b T hM hl hP y (hat.below hy) hsh)
 have hne : ((b.top : Int) == 0) = false := by rw [beq_eq_false_iff_ne]; omega
 clear ht hM hl hP hsh hat
 have HN := Lib.hid (show Calls Tryz.prog 39 #[.pointer P] w fun e w' => e = .returned (.agg #[.int .u8 (b.M.all : Int), .int .u8 (b.M.mem : Int), .int .u32 (b.M.tab.a.seq.toNat : Int), .int .u8 (b.M.tab.a.code : Int), .string b.M.tab.a.text, .int .u32 (b.M.tab.b.seq.toNat : Int), .int .u8 (b.M.tab.b.code : Int), .string b.M.tab.b.text, .int .u32 (b.M.tab.c.seq.toNat : Int), .int .u8 (b.M.tab.c.code : Int), .string b.M.tab.c.text, .int .u32 (b.M.tab.d.seq.toNat : Int), .int .u8 (b.M.tab.d.code : Int), .string b.M.tab.d.text, .pointer b.P, .int .u64 (b.top : Int), .string ⟨b.t.toArray⟩]) ∧ Below w.heap.size w w' from hN)
 clear hN
 go_enter Tryz.func10, Tryz.ntmps10
 go_upto_region 2 with ((with_reducible refine HN.out.mono ?_); rintro e w2 ⟨rfl, h2⟩)
 change Code.wp _ _ _ _ (w2.alloc (.cells (bsCells b).toArray 110))
 have Hm1 := Lib.hid (show BsAt (w2.alloc (.cells (bsCells b).toArray 110)) w2.heap.size b from heap_alloc_new _ _)
 have Hb1 := Lib.hid (h2.trans (((Below.refl w2.heap.size w2).alloc (Nat.le_refl _) (.cells (bsCells b).toArray 110)).mono h2.size))
 clear h2 HN
 generalize w2.alloc (.cells (bsCells b).toArray 110) = w1 at *
 generalize w2.heap.size = g at *
 obtain ⟨_, _, _, _, _, _, _, _, _, _, _, _, _, _, _, f15, _⟩ := Hm1.out.cells
 go_upto_region 4 with fail
 refine (wpIn_wide (n := 1)).1 ?_
 refine RegJ.wpIn_region_plan (F := Fence.wide) (KeptW w1) (.step 0 0 (.step 1 0 (.step 2 0 (.step 3 1 (.step 4 0 (.step 5 0 .nil)))))) (by kernel_rfl) (by kernel_rfl) (by kernel_rfl) (fun _ _ d _ _ h => by cases d <;> exact h) ⟨rfl, rfl, rfl, Nat.le_refl _, fun _ _ => rfl⟩ ?_
 dsimp only [RegJ.pickJ, List.getElem?_cons_zero, List.getElem?_cons_succ]
 change RegJ.Can _ _ _ _ _ _ _ _ w1.drew
 have hkd : KeptW w1 w1.drew := ⟨rfl, rfl, rfl, Nat.le_refl _, fun _ _ => rfl⟩
 generalize w1.drew = v1 at *
 refine RegJ.reads ?_; intro K hK; go_simp; (first | refine ⟨_, fun _ _ => rfl, hK _ ?_⟩ | refine hK _ ?_); clear hK K
 refine RegJ.reads ?_
 intro K hK
 go_simp
 refine ⟨.int .u64 (b.top : Int), fun y hy => ?_, hK _ ?_⟩
 ·
  have f0 : y.cell? ⟨g, 15, none⟩ = some (.int .u64 (b.top : Int)) := cell_of_row _ _ _ _ _ _ (Hm1.out.below (KeptW.bel hy))
  go_simp
 clear hK K
 refine RegJ.reads ?_
 intro K hK
 rw [if_pos (by simp [Region.wanted])]
 refine ⟨bsV b, fun y hy => ?_, hK _ ?_⟩
 ·
  exact bs_loads _ _ _ rfl rfl (fun j u hj => by rw [Nat.zero_add]; exact (cell_of_row _ _ _ _ _ _ (Hm1.out.below (KeptW.bel hy))).trans (by simpa using hj))
 clear hK K
 go_simp
 refine RegJ.turns (fun _ => trivial) ?_
 intro K K0 hK hK0
 go_simp
 refine ⟨trivial, ?_⟩
 refine (callsIn_wide.2 (HT.out v1 (Hb1.out.trans ((KeptW.bel hkd).mono Hb1.out.size)))).mono ?_
 rintro e v2 ⟨rfl, hb7⟩
 have v2k : KeptW w1 v2 := KeptW.mono hkd hb7
 refine hK _ _ _ (fun _ h => h) v2k ?_
 clear hK K hK0 K0
 iterate 2 (refine RegJ.reads ?_; intro K hK; go_simp; (first | refine ⟨_, fun _ _ => rfl, hK _ ?_⟩ | refine hK _ ?_); clear hK K)
 refine RegJ.nil ?_
 go_wp2_with fail
 refine bodyPost_ret (v := .tuple #[.int .u64 (b.top : Int), .string ⟨(textB b.t b.M).toArray⟩]) (by simp [results, Tryz.results10, go_sem]) rfl ?_
 exact ⟨rfl, Hb1.out.trans ((KeptW.bel v2k).mono Hb1.out.size)⟩
end Go.Proofs.YtbckjgageofldaaGreat
namespace Go.Proofs.YtbckjgageofldaaGreat
open Go.RowKit
structure LmV where
 k : Nat
 f : Nat
 s : Nat
 x : List UInt8
def lmCells (m : LmV) : List Value := [.int .u8 (m.k : Int), .int .u64 0, .int .u8 0, .int .u64 (m.f : Int), .int .u64 (m.s : Int), .int .u8 0, .string ⟨m.x.toArray⟩, .slice none 0 0, .slice none 0 0, .int .u8 0, .int .u32 0, .int .u8 0, .string ByteArray.empty, .string ByteArray.empty, .string ByteArray.empty, .int .u8 0, .int .u8 0, .string ByteArray.empty]
def lmV (m : LmV) : Value := .agg (lmCells m).toArray
def lm0 : LmV := ⟨0, 0, 0, []⟩
def LmAt (w : World) (g : Nat) (m : LmV) : Prop := w.heap[g]? = some (.cells (lmCells m).toArray 58 (0, 0))
theorem LmAt.lt {w : World} {g : Nat} {m : LmV} (h : LmAt w g m) : g < w.heap.size := (Array.getElem?_eq_some_iff.1 h).1
theorem LmAt.below {w w' : World} {g : Nat} {m : LmV} (h : LmAt w g m) (hb : Below w.heap.size w w') : LmAt w' g m := (hb.block g h.lt).trans h
theorem LmAt.thawed {w : World} {g : Nat} {m : LmV} (h : LmAt w g m) (j : Nat) : w.frozen? ⟨g, j, none⟩ = false := by
 unfold LmAt at h
 unfold World.frozen?
 rw [h]
 rfl
theorem LmAt.cells {w : World} {g : Nat} {m : LmV} (h : LmAt w g m) : w.cell? ⟨g, 0, none⟩ = some (.int .u8 (m.k : Int)) ∧ w.cell? ⟨g, 1, none⟩ = some (.int .u64 0) ∧ w.cell? ⟨g, 2, none⟩ = some (.int .u8 0) ∧ w.cell? ⟨g, 3, none⟩ = some (.int .u64 (m.f : Int)) ∧ w.cell? ⟨g, 4, none⟩ = some (.int .u64 (m.s : Int)) ∧ w.cell? ⟨g, 5, none⟩ = some (.int .u8 0) ∧ w.cell? ⟨g, 6, none⟩ = some (.string ⟨m.x.toArray⟩) ∧ w.cell? ⟨g, 7, none⟩ = some (.slice none 0 0) ∧ w.cell? ⟨g, 8, none⟩ = some (.slice none 0 0) ∧ w.cell? ⟨g, 9, none⟩ = some (.int .u8 0) ∧ w.cell? ⟨g, 10, none⟩ = some (.int .u32 0) ∧ w.cell? ⟨g, 11, none⟩ = some (.int .u8 0) ∧ w.cell? ⟨g, 12, none⟩ = some (.string ByteArray.empty) ∧ w.cell? ⟨g, 13, none⟩ = some (.string ByteArray.empty) ∧ w.cell? ⟨g, 14, none⟩ = some (.string ByteArray.empty) ∧ w.cell? ⟨g, 15, none⟩ = some (.int .u8 0) ∧ w.cell? ⟨g, 16, none⟩ = some (.int .u8 0) ∧ w.cell? ⟨g, 17, none⟩ = some (.string ByteArray.empty) :=
 ⟨cell_of_row _ _ _ _ _ _ h, cell_of_row _ _ _ _ _ _ h, cell_of_row _ _ _ _ _ _ h, cell_of_row _ _ _ _ _ _ h, cell_of_row _ _ _ _ _ _ h, cell_of_row _ _ _ _ _ _ h, cell_of_row _ _ _ _ _ _ h, cell_of_row _ _ _ _ _ _ h, cell_of_row _ _ _ _ _ _ h, cell_of_row _ _ _ _ _ _ h, cell_of_row _ _ _ _ _ _ h, cell_of_row _ _ _ _ _ _ h, cell_of_row _ _ _ _ _ _ h, cell_of_row _ _ _ _ _ _ h, cell_of_row _ _ _ _ _ _ h, cell_of_row _ _ _ _ _ _ h, cell_of_row _ _ _ _ _ _ h, cell_of_row _ _ _ _ _ _ h⟩
theorem lmSt_at {y : World} {g : Nat} {m0 : LmV} (h : LmAt y g m0) (m : LmV) : LmAt (rowSt y g 0 (lmCells m)) g m := rowSt_row (lmCells m) [] (lmCells m0) y h rfl
theorem lm_size : (Tryz.prog.info? 58).map (·.size) = some 18 := by kernel_rfl
theorem lm_loadVar {y : World} {g : Nat} {m : LmV} (h : LmAt y g m) : (loadVar 58 ⟨g, 0, none⟩).run Tryz.prog y = .ok (lmV m) y :=
 run_loadVar_row y g _ _ (lmCells m).toArray (0, 0) _ h Tryz.underlying58 rfl lm_size
set_option maxRecDepth 100000 in
set_option maxHeartbeats 16000000 in
theorem lead_none (P : Option Addr) (b : BsV) (n : Nat) (hn : b.top ≤ n) (w : World) (hN : ∀ y : World, Below w.heap.size w y → Calls Tryz.prog 39 #[.pointer P] y fun e w' => e = .returned (bsV b) ∧ Below y.heap.size y w') :
  Calls Tryz.prog 9 #[.pointer P, .int .u64 (n : Int)] w fun e w' => e = .returned (.tuple #[lmV lm0, .bool false]) ∧ Below w.heap.size w w' := by
 have hb1 := (Below.refl w.heap.size w).alloc (Nat.le_refl _) (.cells (lmCells lm0).toArray 58)
 have hm1 : LmAt (w.alloc (.cells (lmCells lm0).toArray 58)) w.heap.size lm0 := heap_alloc_new _ _
 have HN := Lib.hid (show Calls Tryz.prog 39 #[.pointer P] (w.alloc (.cells (lmCells lm0).toArray 58)) fun e w' => e = .returned (.agg #[.int .u8 (b.M.all : Int), .int .u8 (b.M.mem : Int), .int .u32 (b.M.tab.a.seq.toNat : Int), .int .u8 (b.M.tab.a.code : Int), .string b.M.tab.a.text, .int .u32 (b.M.tab.b.seq.toNat : Int), .int .u8 (b.M.tab.b.code : Int), .string b.M.tab.b.text, .int .u32 (b.M.tab.c.seq.toNat : Int), .int .u8 (b.M.tab.c.code : Int), .string b.M.tab.c.text, .int .u32 (b.M.tab.d.seq.toNat : Int), .int .u8 (b.M.tab.d.code : Int), .string b.M.tab.d.text, .pointer b.P, .int .u64 (b.top : Int), .string ⟨b.t.toArray⟩]) ∧ Below (w.alloc (.cells (lmCells lm0).toArray 58)).heap.size (w.alloc (.cells (lmCells lm0).toArray 58)) w' from hN _ hb1)
 have hge : (b.top : Int) ≤ (n : Int) := by omega
 clear hN hn
 obtain ⟨g, hg⟩ : ∃ g, w.heap.size = g := ⟨_, rfl⟩
 rw [hg] at hm1
 go_enter Tryz.func9, Tryz.ntmps9
 go_upto_region 1 with fail
 change Code.wp _ _ _ _ (w.alloc (.cells (lmCells lm0).toArray 58))
 generalize w.alloc (.cells (lmCells lm0).toArray 58) = w1 at *
 have Hm0 := Lib.hid hm1
 have Hb0 := Lib.hid hb1
 have Hg := Lib.hid (Nat.le_of_eq hg)
 clear hm1 hb1 hg
 go_upto_region 2 with ((with_reducible refine HN.out.mono ?_); rintro e w2 ⟨rfl, h2⟩)
 change Code.wp _ _ _ _ (w2.alloc (.cells (bsCells b).toArray 110))
 have hb3 := ((Below.refl w2.heap.size w2).alloc (Nat.le_refl _) (.cells (bsCells b).toArray 110))
 have Hm2 := Lib.hid (show BsAt (w2.alloc (.cells (bsCells b).toArray 110)) w2.heap.size b from heap_alloc_new _ _)
 have Hm1 := Lib.hid ((Hm0.out.below h2).below hb3)
 have Hbel := Lib.hid (Hb0.out.trans ((h2.trans (hb3.mono h2.size)).mono Hb0.out.size))
 clear h2 HN hb3 Hm0 Hb0
 generalize w2.alloc (.cells (bsCells b).toArray 110) = w3 at *
 generalize w2.heap.size = gb at *
 obtain ⟨_, _, _, _, _, _, _, _, _, _, _, _, _, _, _, f15, _⟩ := Hm2.out.cells
 obtain ⟨o0, o1, o2, o3, o4, o5, o6, o7, o8, o9, o10, o11, o12, o13, o14, o15, o16, o17⟩ := Hm1.out.cells
 have q0 := Hm1.out.thawed 0
 have q1 := Hm1.out.thawed 1
 have q2 := Hm1.out.thawed 2
 have q3 := Hm1.out.thawed 3
 have q4 := Hm1.out.thawed 4
 have q5 := Hm1.out.thawed 5
 have q6 := Hm1.out.thawed 6
 have q7 := Hm1.out.thawed 7
 have q8 := Hm1.out.thawed 8
 have q9 := Hm1.out.thawed 9
 have q10 := Hm1.out.thawed 10
 have q11 := Hm1.out.thawed 11
 have q12 := Hm1.out.thawed 12
 have q13 := Hm1.out.thawed 13
 have q14 := Hm1.out.thawed 14
 have q15 := Hm1.out.thawed 15
 have q16 := Hm1.out.thawed 16
 have q17 := Hm1.out.thawed 17
 go_wp2_with fail
 change bodyPost _ _ _ _ _ (rowSt w3 g 0 (lmCells lm0))
 have HZ := Lib.hid (lmSt_at Hm1.out lm0)
 have Hbz := Lib.hid (rowSt_below Hg.out (lmCells lm0) 0 _ Hbel.out)
 clear f15 o0 o1 o2 o3 o4 o5 o6 o7 o8 o9 o10 o11 o12 o13 o14 o15 o16 o17 q0 q1 q2 q3 q4 q5 q6 q7 q8 q9 q10 q11 q12 q13 q14 q15 q16 q17
 generalize rowSt w3 g 0 (lmCells lm0) = w9 at *
 refine bodyPost_ret (v := .tuple #[lmV lm0, .bool false]) (by simp [results, Tryz.results9, show (asAddr (Value.pointer (some ⟨g, 0, none⟩))).run Tryz.prog w9 = .ok ⟨g, 0, none⟩ w9 from rfl, lm_loadVar HZ.out]) rfl ?_
 exact ⟨rfl, Hbz.out⟩
end Go.Proofs.YtbckjgageofldaaGreat
namespace Go.Proofs.YtbckjgageofldaaGreat
open Go.RowKit
theorem st_eq {g : Nat} : ∀ (vs : List Value) (i : Nat) (y : World), y.setCells g i vs = rowSt y g i vs
 | [], _, _ => rfl
 | _ :: r, i, _ => st_eq r (i + 1) _
theorem range_row {y : World} {g : Nat} {cs : List Value} {t : TypeId} (h : y.heap[g]? = some (.cells cs.toArray t (0, 0))) : y.rangeAt g 0 cs := fun j v hv => by
 rw [Nat.zero_add]
 simp only [World.cell?, h]
 simpa using hv
theorem there_row {y : World} {g : Nat} {cs : List Value} {t : TypeId} (h : y.heap[g]? = some (.cells cs.toArray t (0, 0))) : y.there g 0 cs.length := fun j hj => ⟨by
 rw [Nat.zero_add]
 simp only [World.cell?, h]
 simp [hj], by
 rw [Nat.zero_add]
 unfold World.frozen?
 rw [h]
 rfl⟩
theorem row_loadAt {P : Program} {y : World} {g : Nat} {cs : List Value} {t : TypeId} {d : TypeDesc} (h : y.heap[g]? = some (.cells cs.toArray t (0, 0))) (hu : P.underlying t = some d) (hd : d.isRow = true) (hs : (P.info? t).map (·.size) = some cs.length) :
  (Instr.loadAt t (.pointer (some ⟨g, 0, none⟩))).run P y = .ok (.agg cs.toArray) y := run_loadAt_mid y g 0 t cs d (range_row h) hu hd hs
theorem mid_row {g : Nat} {t : TypeId} : ∀ (vs pre old post : List Value) (y : World), y.heap[g]? = some (.cells (pre ++ old ++ post).toArray t (0, 0)) → old.length = vs.length → (rowSt y g pre.length vs).heap[g]? = some (.cells (pre ++ vs ++ post).toArray t (0, 0))
 | [], pre, old, post, y, h, hl => by
  have : old = [] := List.length_eq_zero_iff.1 hl
  subst this
  exact h
 | v :: r, pre, [], post, y, h, hl => by simp at hl
 | v :: r, pre, o :: old, post, y, h, hl => by
  have e := mid_row r (pre ++ [v]) old post (y.setCell ⟨g, pre.length, none⟩ v) (by
   rw [heap_setCell_same _ _ _ _ _ _ h]
   congr 2
   simp) (by simpa using hl)
  rw [List.length_append, List.length_singleton] at e
  show (rowSt (y.setCell ⟨g, pre.length, none⟩ v) g (pre.length + 1) r).heap[g]? = _
  rw [e]
  simp
theorem mid_loadAt {P : Program} {y : World} {g : Nat} {pre cs post : List Value} {t e : TypeId} {d : TypeDesc} (h : y.heap[g]? = some (.cells (pre ++ cs ++ post).toArray t (0, 0))) (hu : P.underlying e = some d) (hd : d.isRow = true) (hs : (P.info? e).map (·.size) = some cs.length) :
  (Instr.loadAt e (.pointer (some ⟨g, pre.length, none⟩))).run P y = .ok (.agg cs.toArray) y :=
 run_loadAt_mid y g pre.length e cs d (fun j v hv => by
  have k := range_row h (pre.length + j) v (by
   rw [List.append_assoc, List.getElem?_append_right (by omega), Nat.add_sub_cancel_left, List.getElem?_append_left (List.getElem?_eq_some_iff.1 hv).1]
   exact hv)
  rwa [Nat.zero_add] at k) hu hd hs
theorem exec_load {P : Program} {ρ : Operand → Value} {o : Oper} {t : TypeId} {a : Operand} (h : o.op = .load t a) {p : Value} (ha : ρ a = p) {y : World} {V : Value} (hr : (Instr.loadAt t p).run P y = .ok V y) : (execOp ρ o).run P y = .ok (.value V) y := by
 simp only [execOp, h, ha, Sem.run_bind, hr, Result.andThen_ok, Sem.run_pure]
theorem box_row (y : World) (cs0 cs : List Value) (t : TypeId) (hl : cs0.length = cs.length) : ((y.alloc (.cells cs0.toArray t)).setCells y.heap.size 0 cs).heap[y.heap.size]? = some (.cells cs.toArray t (0, 0)) := by
 rw [st_eq]
 exact rowSt_row cs [] cs0 _ (heap_alloc_new _ _) hl
theorem box_below (y : World) (cs0 cs : List Value) (t : TypeId) : Below y.heap.size y ((y.alloc (.cells cs0.toArray t)).setCells y.heap.size 0 cs) := by
 rw [st_eq]
 exact rowSt_below (Nat.le_refl _) cs 0 _ ((Below.refl _ _).alloc (Nat.le_refl _) _)
end Go.Proofs.YtbckjgageofldaaGreat
