/- The document's table of sessions: ref12.Keep. Condition: the command is fresh; few are kept. -/
import Derived.Test.YtkngadbeflepoaaGreatZDeltaTells32
import Derived.Test.YtkngadbeflepoaaGreatZDeltaTells27
import Derived.Test.YtkngadbeflepoaaGreatZDeltaTells29
import Derived.Test.YtkngadbeflepoaaGreatZDeltaTells25
namespace Go.Proofs.YtkngadbeflepoaaGreat
open Go.RowKit
theorem infoKept : (Tryz.prog.info? 68).map (fun i => (i.zero, i.size, i.bytes)) = some (some (.agg #[.int .u8 0, .int .u32 0, .int .u8 0, .string ByteArray.empty]), 4, 32) := by kernel_rfl
theorem kept_len (k : KeptV) : (keptCells k).length = 4 := rfl
theorem kept_one (k : KeptV) : ∀ u ∈ keptCells k, u.oneCell' = true := by simp [keptCells, Value.oneCell']
theorem kept_new (w : World) (k : KeptV) : KeptsAt (w.alloc (.cells (keptCells k).toArray 68)) (some ⟨w.heap.size, 0, none⟩) 1 [k] := by
  refine ⟨rfl, by unfold maxLen; omega, fun i x hx => ?_⟩
  match i, hx with
  | 0, hx =>
    simp at hx
    subst hx
    refine ⟨w.heap.size, 0, rfl, by simp, fun j v hj => ?_⟩
    have h := heap_alloc_new w (.cells (keptCells k).toArray 68)
    simp only [World.cell?, h, Nat.zero_mul, Nat.zero_add]
    simpa using hj
/-- The block of a slice bears a type. -/
def STy (w : World) (t : TypeId) (A : Option Addr) : Prop := ∀ b o, A = some ⟨b, o, none⟩ → ∃ cs, w.heap[b]? = some (.cells cs t (0, 0))
theorem STy.stay {w w' : World} {t : TypeId} {A : Option Addr} (h : STy w t A) (hb : ∀ b o, A = some ⟨b, o, none⟩ → w'.heap[b]? = w.heap[b]?) : STy w' t A := fun b o e => by
  obtain ⟨cs, hc⟩ := h b o e
  exact ⟨cs, (hb b o e).trans hc⟩
theorem STy.below {w w' : World} {t : TypeId} {A : Option Addr} (h : STy w t A) (hb : Below w.heap.size w w') : STy w' t A := fun b o e => by
  obtain ⟨cs, h1⟩ := h b o e
  exact ⟨cs, (hb.block b (Array.getElem?_eq_some_iff.1 h1).1).trans h1⟩
theorem sty_none (w : World) (t : TypeId) : STy w t none := fun b o e => by cases e
theorem own_sty {w : World} {base : Nat} {t : TypeId} {size : Nat} {A : Option Addr} {n c : Nat} {xs : List Value} (h : w.ownsRow base t size (.slice A n c) n xs) : STy w t A := by
  rcases h.2 with ⟨e1, e2⟩ | ⟨g, cap, cur, e1, h2, h3, h4, h5, _, _⟩
  · simp only [Value.slice.injEq] at e1
    rw [e1.1]
    exact sty_none w t
  · simp only [Value.slice.injEq] at e1
    rw [e1.1]
    intro b o e
    cases e
    exact ⟨_, h3⟩
set_option maxRecDepth 100000 in
set_option maxHeartbeats 4000000 in
theorem rkeep_any (A : Option Addr) (n cap : Nat) (z : List KeptV) (t : TabV) (hT : KeptTab t z) (hnil : A = none → n = 0 ∧ cap = 0) (hn : n ≤ 1000000) (k : KeptV) (hcl : k.client.toNat < 4) (hsq : k.seq.toNat ≠ 0) (hf : (lookT t k.client.toNat k.seq).1 = 1) (w : World) (h : KeptsAt w A n z) :
    Calls Tryz.prog 52 #[.slice A n cap, .agg (keptCells k).toArray] w fun e w' => ∃ A' c', e = .returned (.slice A' (n + 1) c') ∧ KeptsAt w' A' (n + 1) (z ++ [k]) ∧ (A' ≠ none ∧ STy w' 68 A') ∧ Below w.heap.size w w' := by
  obtain ⟨i0, hi0, hz0, hs0, hb0⟩ := info_parts infoKept
  have hk0 : KeptRow (w.alloc (.cells (keptCells k).toArray 68)) w.heap.size k := heap_alloc_new _ _
  have hb1 := (Below.refl w.heap.size w).alloc (Nat.le_refl _) (.cells (keptCells k).toArray 68)
  have hl := fun (y : World) (hy : Below w.heap.size w y) => rlook_any A n cap z t hT k.client hcl k.seq hsq y (h.below hy)
  rw [hf] at hl
  obtain ⟨q2, hq2⟩ : ∃ q, (lookT t k.client.toNat k.seq).2.1 = q := ⟨_, rfl⟩
  obtain ⟨q3, hq3⟩ : ∃ q, (lookT t k.client.toNat k.seq).2.2 = q := ⟨_, rfl⟩
  rw [hq2, hq3] at hl
  unfold repV repCells at hl
  have Hl := Lib.hid hl; clear hl hq2 hq3
  have Hnil := Lib.hid hnil; clear hnil
  have H := Lib.hid h; clear h
  clear hf hT hsq
  rw [kept_eta]
  go_enter Tryz.func52, Tryz.ntmps52
  go_upto_region 1 with fail
  change Code.wp _ _ _ _ (w.alloc (.cells (keptCells k).toArray 68))
  generalize w.alloc (.cells (keptCells k).toArray 68) = w1 at *
  have Hk0 := Lib.hid hk0
  have Hb1 := Lib.hid hb1; clear hb1
  obtain ⟨k0, k1, k2, k3⟩ := hk0.cells
  clear hk0
  go_upto_region 4 with ((with_reducible refine (Hl.out _ Hb1.out).mono ?_); rintro e w2 ⟨rfl, hb2⟩; have Hb2 := Lib.hid hb2; clear hb2)
  clear k0 k1 k2 k3 Hl
  have hb3 := Hb2.out.alloc Hb2.out.size (.cells (repCells q2 q3).toArray 28)
  change Code.wp _ _ _ _ (w2.alloc (.cells (repCells q2 q3).toArray 28))
  generalize w2.alloc (.cells (repCells q2 q3).toArray 28) = w3 at *
  have Hk3 := Lib.hid (Hk0.out.below hb3)
  have Hbw := Lib.hid (Hb1.out.trans (hb3.mono Hb1.out.size))
  clear hb3 Hb2 Hb1 Hk0
  have Hlw := Lib.hid (show w.heap.size < w3.heap.size from Hk3.out.lt)
  refine (wpIn_wide (n := 1)).1 ?_
  refine RegJ.wpIn_region_plan (F := Fence.wide) (KeptW w3) (.step 0 0 (.step 2 0 (.fork 1 (.step 3 1 (.step 4 1 (.step 5 0 .nil))) 3 (.step 1 1 (.step 4 1 (.step 5 0 .nil)))))) (by kernel_rfl) (by kernel_rfl) (by kernel_rfl) (fun _ _ d _ _ h => by cases d <;> exact h) ⟨rfl, rfl, rfl, Nat.le_refl _, fun _ _ => rfl⟩ ?_
  dsimp only [RegJ.pickJ, List.getElem?_cons_zero, List.getElem?_cons_succ]
  change RegJ.Can _ _ _ _ _ _ _ _ w3.drew
  have hkd : KeptW w3 w3.drew := ⟨rfl, rfl, rfl, Nat.le_refl _, fun _ _ => rfl⟩
  generalize w3.drew = w4 at *
  refine RegJ.reads ?_
  intro K hK
  go_simp
  refine ⟨_, fun _ _ => rfl, hK _ ?_⟩
  clear hK K
  refine RegJ.reads ?_
  intro K hK
  go_simp
  refine ⟨.agg #[.int .u8 (k.client.toNat : Int), .int .u32 (k.seq.toNat : Int), .int .u8 (k.code : Int), .string k.text], fun y hy => ?_, hK _ ?_⟩
  · obtain ⟨f0, f1, f2, f3⟩ := (Hk3.out.below (KeptW.bel hy)).cells
    go_simp
  clear hK K
  refine RegJ.forks ?_ ?_
  · skip
    refine RegJ.turns (fun _ => trivial) ?_
    intro K K0 hK hK0
    rw [if_pos (by simp [Region.wanted])]
    refine RegK.op_wide rfl ?_
    refine wp_append_slice (enc := keptCells) _ _ 41 rfl w3.heap.size 68 i0 _ 32 Tryz.underlying41 hi0 hz0 hs0 hb0 rfl (by omega) kept_len kept_one (.slice none 0 0) 0 [] rfl (World.ownsRow_nil _ _ _ _) A n cap z rfl (H.out.below (Hbw.out.trans ((KeptW.bel hkd).mono Hbw.out.size))) Hnil.out (by unfold maxLen; omega) (by omega) (KeptW.bel hkd).size ?_
    intro v5 w5 ho5 hg5
    have hb5 : Below w4.heap.size w4 w5 := ⟨hg5.os, hg5.tape, hg5.output, hg5.size, fun q hq => hg5.block q hq (fun e => by cases e)⟩
    have hk5 : KeptW w3 w5 := KeptW.mono hkd hb5
    refine hK _ _ _ (fun _ h => h) hk5 ?_
    clear hK K hK0 K0 hg5
    rw [Nat.zero_add, List.nil_append] at ho5
    refine RegJ.turns (fun _ => trivial) ?_
    intro K K0 hK hK0
    go_simp
    have hb6 := (Below.refl w5.heap.size w5).alloc (Nat.le_refl _) (.cells (keptCells k).toArray 68)
    have qk : KeptW w3 (w5.alloc (.cells (keptCells k).toArray 68)) := KeptW.mono hk5 hb6
    have qn := kept_new w5 k
    have ho6 : (w5.alloc (.cells (keptCells k).toArray 68)).ownsRow w3.heap.size 68 4 v5 n (flat keptCells z) := ho5.alloc _
    refine hK _ _ (w5.alloc (.cells (keptCells k).toArray 68)) (fun _ h => h) qk ?_
    have hk6 := qk
    have hn6 := qn
    clear hK K hK0 K0 hb6 ho5 hk5 qk qn
    generalize w5.alloc (.cells (keptCells k).toArray 68) = w6 at *
    generalize w5.heap.size = g5 at *
    refine RegJ.turns (fun _ => trivial) ?_
    intro K K0 hK hK0
    rw [if_pos (by simp [Region.wanted])]
    refine RegK.op_wide rfl ?_
    refine wp_append_slice (enc := keptCells) _ _ 41 rfl w3.heap.size 68 i0 _ 32 Tryz.underlying41 hi0 hz0 hs0 hb0 rfl (by omega) kept_len kept_one v5 n (flat keptCells z) rfl ho6 (some ⟨g5, 0, none⟩) 1 1 [k] rfl hn6 (fun e => by cases e) (by unfold maxLen; omega) (by omega) (KeptW.bel hk6).size ?_
    intro v7 w7 ho7 hg7
    have hv5 : ∀ q, v5.ownBlock = some q → w3.heap.size ≤ q := fun q hq => (World.ownsRow.lt ho6 q hq).1
    have hk7 : KeptW w3 w7 := (KeptW.bel hk6).trans ⟨hg7.os, hg7.tape, hg7.output, hg7.size, fun q hq => hg7.block q (Nat.lt_of_lt_of_le hq (KeptW.bel hk6).size) (fun e => by have := hv5 q e.symm; omega)⟩
    refine hK _ _ _ (fun _ h => h) hk7 ?_
    clear hK K hK0 K0
    obtain ⟨A', c', rfl⟩ := own_slice_of ho7
    have hne : A' ≠ none ∧ STy w7 68 A' := ⟨fun e => by have := (own_nil ho7 e).1; omega, own_sty ho7⟩
    rw [← flat_app] at ho7
    have hs7 : KeptsAt w7 A' (n + 1) (z ++ [k]) := own_slice kept_len ho7 (by rw [List.length_append, H.out.hlen]; rfl) (by unfold maxLen; omega)
    have hbel := Hbw.out.trans ((KeptW.bel hk7).mono Hbw.out.size)
    have HF := Lib.hid (And.intro hs7 (And.intro hne hbel))
    clear hs7 hne hbel ho7 hg7 hv5 hk7 hk6 hn6 ho6
    refine RegJ.reads ?_
    intro K hK
    go_simp
    refine ⟨_, fun _ _ => rfl, hK _ ?_⟩
    clear hK K
    refine RegJ.nil ?_
    go_wp2_with fail
    go_ret
    exact ⟨A', c', rfl, HF.out.1, HF.out.2.1, HF.out.2.2⟩
  · skip
    refine RegJ.turns (fun _ => trivial) ?_
    intro K K0 hK hK0
    go_simp
    have hb6 := (Below.refl w4.heap.size w4).alloc (Nat.le_refl _) (.cells (keptCells k).toArray 68)
    have qk : KeptW w3 (w4.alloc (.cells (keptCells k).toArray 68)) := KeptW.mono hkd hb6
    have qn := kept_new w4 k
    refine hK _ _ (w4.alloc (.cells (keptCells k).toArray 68)) (fun _ h => h) qk ?_
    clear hK K hK0 K0 hb6
    generalize w4.alloc (.cells (keptCells k).toArray 68) = wq at *
    generalize w4.heap.size = g5 at *
    refine RegJ.turns (fun _ => trivial) ?_
    intro K K0 hK hK0
    rw [if_pos (by simp [Region.wanted])]
    refine RegK.op_wide rfl ?_
    refine wp_append_slice (enc := keptCells) _ _ 41 rfl w3.heap.size 68 i0 _ 32 Tryz.underlying41 hi0 hz0 hs0 hb0 rfl (by omega) kept_len kept_one (.slice none 0 0) 0 [] rfl (World.ownsRow_nil _ _ _ _) A n cap z rfl (H.out.below (Hbw.out.trans ((KeptW.bel qk).mono Hbw.out.size))) Hnil.out (by unfold maxLen; omega) (by omega) (KeptW.bel qk).size ?_
    intro v5 w5 ho5 hg5
    have hb5 : Below wq.heap.size wq w5 := ⟨hg5.os, hg5.tape, hg5.output, hg5.size, fun q hq => hg5.block q hq (fun e => by cases e)⟩
    have hk5 : KeptW w3 w5 := KeptW.mono qk hb5
    refine hK _ _ _ (fun _ h => h) hk5 ?_
    clear hK K hK0 K0 hg5
    rw [Nat.zero_add, List.nil_append] at ho5
    have ho6 := ho5
    have hk6 := hk5
    have hn6 := qn.below hb5
    clear ho5 hk5 hb5 qn qk
    refine RegJ.turns (fun _ => trivial) ?_
    intro K K0 hK hK0
    rw [if_pos (by simp [Region.wanted])]
    refine RegK.op_wide rfl ?_
    refine wp_append_slice (enc := keptCells) _ _ 41 rfl w3.heap.size 68 i0 _ 32 Tryz.underlying41 hi0 hz0 hs0 hb0 rfl (by omega) kept_len kept_one v5 n (flat keptCells z) rfl ho6 (some ⟨g5, 0, none⟩) 1 1 [k] rfl hn6 (fun e => by cases e) (by unfold maxLen; omega) (by omega) (KeptW.bel hk6).size ?_
    intro v7 w7 ho7 hg7
    have hv5 : ∀ q, v5.ownBlock = some q → w3.heap.size ≤ q := fun q hq => (World.ownsRow.lt ho6 q hq).1
    have hk7 : KeptW w3 w7 := (KeptW.bel hk6).trans ⟨hg7.os, hg7.tape, hg7.output, hg7.size, fun q hq => hg7.block q (Nat.lt_of_lt_of_le hq (KeptW.bel hk6).size) (fun e => by have := hv5 q e.symm; omega)⟩
    refine hK _ _ _ (fun _ h => h) hk7 ?_
    clear hK K hK0 K0
    obtain ⟨A', c', rfl⟩ := own_slice_of ho7
    have hne : A' ≠ none ∧ STy w7 68 A' := ⟨fun e => by have := (own_nil ho7 e).1; omega, own_sty ho7⟩
    rw [← flat_app] at ho7
    have hs7 : KeptsAt w7 A' (n + 1) (z ++ [k]) := own_slice kept_len ho7 (by rw [List.length_append, H.out.hlen]; rfl) (by unfold maxLen; omega)
    have hbel := Hbw.out.trans ((KeptW.bel hk7).mono Hbw.out.size)
    have HF := Lib.hid (And.intro hs7 (And.intro hne hbel))
    clear hs7 hne hbel ho7 hg7 hv5 hk7 hk6 hn6 ho6
    refine RegJ.reads ?_
    intro K hK
    go_simp
    refine ⟨_, fun _ _ => rfl, hK _ ?_⟩
    clear hK K
    refine RegJ.nil ?_
    go_wp2_with fail
    go_ret
    exact ⟨A', c', rfl, HF.out.1, HF.out.2.1, HF.out.2.2⟩
end Go.Proofs.YtkngadbeflepoaaGreat
namespace Go.Proofs.YtkngadbeflepoaaGreat
open Go.RowKit
theorem str_app2 (l k : List UInt8) : (⟨l.toArray⟩ : ByteArray) ++ ⟨k.toArray⟩ = ⟨(l ++ k).toArray⟩ := str_app l ⟨k.toArray⟩
set_option maxRecDepth 100000 in
set_option maxHeartbeats 8000000 in
theorem rtab_any (A : Option Addr) (n cap : Nat) (z : List KeptV) (t : TabV) (hT : KeptTab t z) (ht : TabOk t) (w : World) (h : KeptsAt w A n z) :
    Calls Tryz.prog 89 #[.slice A n cap] w fun e w' => e = .returned (.string ⟨(tabB t 4).toArray⟩) ∧ Below w.heap.size w w' := by
  have H := Lib.hid h; clear h
  go_enter Tryz.func89, Tryz.ntmps89
  go_wp2_with fail
  go_loopw [3, 4] (fun s3 s4 wr => ∃ i : Nat, i ≤ 4 ∧ s4 = .int .i64 (i : Int) ∧ s3 = .string ⟨(tabB t i).toArray⟩ ∧ Below w.heap.size w wr) (fun _ s4 _ => 4 - (intOf s4).toNat)
  case atStart => exact ⟨0, by omega, rfl, rfl, Below.refl _ _⟩
  case round =>
    obtain ⟨i, hi, rfl, rfl, hb⟩ := hrel
    have Hb := Lib.hid hb; clear hb
    by_cases h4 : i < 4
    · have h4' : (i : Int) < 4 := by omega
      have hsucc := tsucc (n := i) (by omega)
      have hlen := tabB_len ht i
      have hS : (⟨(tabB t i).toArray⟩ : ByteArray).size ≤ 17000 := by rw [bs_size]; omega
      have hc8 : (BitVec.ofNat 8 i).toNat = i := by simp; omega
      have hlast := rlast_any A n cap z (BitVec.ofNat 8 i) wr (H.out.below Hb.out)
      have hx := hT (BitVec.ofNat 8 i) (by omega)
      rw [hc8] at hlast hx
      have hok := ht.at_ i
      have hstep : tabB t (i + 1) = tabB t i ++ lastB (t.at_ i) := rfl
      rw [← hx] at hok hstep
      obtain ⟨⟨xc, xs, xo, xt⟩, hxe⟩ : ∃ x, lastR (BitVec.ofNat 8 i) z = x := ⟨_, rfl⟩
      rw [hxe] at hlast hok hstep
      change LastOk ⟨xs, xo, xt⟩ at hok
      change tabB t (i + 1) = tabB t i ++ lastB ⟨xs, xo, xt⟩ at hstep
      clear hx hxe hlen hc8
      rw [kept_eta] at hlast
      have Hl := Lib.hid hlast; clear hlast
      have hcode : xo < 256 := hok.code
      have htext : xt.size ≤ 4096 := hok.text
      clear hok
      generalize hn : xs.toNat = m at Hl
      have hm : m < 4294967296 := by rw [← hn]; exact xs.isLt
      have hm' : (m : Int) < 4294967296 := by omega
      have Hn := Lib.hid hn; clear hn
      have hmod : (i : Int) % 256 = (i : Int) := by omega
      have Hst := Lib.hid hstep; clear hstep
      have Hnum := Lib.hid (fun y : World => rnum_any m (by omega) y)
      have hX : (⟨(numL m).toArray⟩ : ByteArray).size ≤ 9 := by rw [bs_size]; exact (numL_len m).1
      obtain ⟨S, hSe⟩ : ∃ S : ByteArray, (⟨(tabB t i).toArray⟩ : ByteArray) = S := ⟨_, rfl⟩
      obtain ⟨X, hXe⟩ : ∃ S : ByteArray, (⟨(numL m).toArray⟩ : ByteArray) = S := ⟨_, rfl⟩
      rw [hSe] at hS ⊢
      rw [hXe] at Hnum hX
      have HS := Lib.hid (And.intro hSe hXe); clear hSe hXe
      go_upto_region 6 with ((with_reducible refine Hl.out.mono ?_); rintro e w2 ⟨rfl, hb2⟩; have Hb2 := Lib.hid hb2; clear hb2)
      change Code.wp _ _ _ _ (w2.alloc (.cells #[.int .u8 (xc.toNat : Int), .int .u32 (m : Int), .int .u8 (xo : Int), .string xt] 68))
      have hk3 := heap_alloc_new w2 (.cells #[.int .u8 (xc.toNat : Int), .int .u32 (m : Int), .int .u8 (xo : Int), .string xt] 68)
      have hb3 := Hb2.out.alloc Hb2.out.size (.cells #[.int .u8 (xc.toNat : Int), .int .u32 (m : Int), .int .u8 (xo : Int), .string xt] 68)
      have hbw := Hb.out.trans (hb3.mono Hb.out.size)
      have hlt3 : w2.heap.size < (w2.alloc (.cells #[.int .u8 (xc.toNat : Int), .int .u32 (m : Int), .int .u8 (xo : Int), .string xt] 68)).heap.size := by simp
      generalize w2.alloc (.cells #[.int .u8 (xc.toNat : Int), .int .u32 (m : Int), .int .u8 (xo : Int), .string xt] 68) = w3 at *
      generalize w2.heap.size = g at *
      clear hb3 Hb2 Hb Hl
      have k1 : w3.cell? ⟨g, 1, none⟩ = some (.int .u32 (m : Int)) := cell_of_row _ _ _ _ _ _ hk3
      have Hk3 := Lib.hid hk3; clear hk3
      have Hbw := Lib.hid hbw; clear hbw
      have Hlt3 := Lib.hid hlt3; clear hlt3
      go_upto_region 7 with ((with_reducible refine (Hnum.out _).mono ?_); rintro e w4 ⟨rfl, hb4⟩; have Hb4 := Lib.hid hb4; clear hb4)
      clear k1 Hnum
      have hk4 := (Hb4.out.block g Hlt3.out).trans Hk3.out
      have k1 : w4.cell? ⟨g, 1, none⟩ = some (.int .u32 (m : Int)) := cell_of_row _ _ _ _ _ _ hk4
      have Hk4 := Lib.hid hk4; clear hk4
      have Hbw4 := Lib.hid (Hbw.out.trans (Hb4.out.mono Hbw.out.size))
      have Hg4 := Lib.hid (show g < w4.heap.size from Nat.lt_of_lt_of_le Hlt3.out Hb4.out.size)
      clear Hbw Hb4 Hk3 Hlt3
      have hSX : (S ++ X).size ≤ 17009 := by rw [ByteArray.size_append]; omega
      obtain ⟨Y, hY⟩ : ∃ Y, S ++ X = Y := ⟨_, rfl⟩
      rw [hY] at hSX ⊢
      have HY := Lib.hid hY; clear hY
      have Hm := Lib.hid hm; clear hm hm'
      by_cases hz : m = 0
      · have hz' : ¬ (0 : Int) < (m : Int) := by omega
        have Hz := Lib.hid hz; clear hz
        go_wp2_with fail
        go_roundw
        case rel =>
          refine ⟨i + 1, h4, rfl, ?_, Hbw4.out⟩
          rw [Hst.out, show lastB ⟨xs, xo, xt⟩ = numL m by unfold lastB; simp only [Hn.out]; rw [if_pos Hz.out, List.append_nil], ← str_app2, HS.out.1, HS.out.2, HY.out]
        case measure => simp [intOf]; omega
      · have hz' : (0 : Int) < (m : Int) := by omega
        have Hz := Lib.hid hz; clear hz
        go_upto_region 8 with fail
        clear k1
        refine (wpIn_wide (n := 1)).1 ?_
        refine RegJ.wpIn_region_plan (F := Fence.wide) (KeptW w4) (.step 0 0 (.step 1 0 (.step 2 0 (.step 3 0 (.step 7 0 (.step 8 0 (.step 9 0 (.fork 4 (.step 5 0 (.step 6 0 (.step 10 1 (.step 11 0 (.step 12 0 .nil))))) 10 (.step 4 1 (.step 5 0 (.step 6 0 (.step 11 0 (.step 12 0 .nil)))))))))))) ) (by kernel_rfl) (by kernel_rfl) (by kernel_rfl) (fun _ _ d _ _ h => by cases d <;> exact h) ⟨rfl, rfl, rfl, Nat.le_refl _, fun _ _ => rfl⟩ ?_
        dsimp only [RegJ.pickJ, List.getElem?_cons_zero, List.getElem?_cons_succ]
        change RegJ.Can _ _ _ _ _ _ _ _ w4.drew
        have hkd : KeptW w4 w4.drew := ⟨rfl, rfl, rfl, Nat.le_refl _, fun _ _ => rfl⟩
        generalize w4.drew = w5 at *
        iterate 3 (refine RegJ.reads ?_; intro K hK; go_simp; (first | (refine ⟨_, fun _ _ => rfl, hK _ ?_⟩) | (refine hK _ ?_)); clear hK K)
        refine RegJ.reads ?_
        intro K hK
        go_simp
        refine ⟨.int .u8 (xo : Int), fun y hy => ?_, hK _ ?_⟩
        · have f0 : y.cell? ⟨g, 2, none⟩ = some (.int .u8 (xo : Int)) := cell_of_row _ _ _ _ _ _ (((KeptW.bel hy).block g Hg4.out).trans Hk4.out)
          go_simp
        clear hK K
        iterate 2 (refine RegJ.reads ?_; intro K hK; go_simp; (first | (refine ⟨_, fun _ _ => rfl, hK _ ?_⟩) | (refine hK _ ?_)); clear hK K)
        refine RegJ.reads ?_
        intro K hK
        go_simp
        refine ⟨.string xt, fun y hy => ?_, hK _ ?_⟩
        · have f0 : y.cell? ⟨g, 3, none⟩ = some (.string xt) := cell_of_row _ _ _ _ _ _ (((KeptW.bel hy).block g Hg4.out).trans Hk4.out)
          go_simp
        clear hK K
        have hc8 : ((UInt8.ofNat xo).toNat : Int) = (xo : Int) := by simp; omega
        have Hone := Lib.hid (fun y : World => (show ReadB (y.alloc (.cells #[.int .u8 (xo : Int)] 5)) (.slice (some ⟨y.heap.size, 0, none⟩) 1 1) [UInt8.ofNat xo] by have h := ReadB.one y (UInt8.ofNat xo) 5; rwa [hc8] at h))
        clear hc8
        have Hstr := Lib.hid (fun y : World => rstr_any xt (by omega) y)
        have hT1 : (⟨(strL xt).toArray⟩ : ByteArray).size ≤ 4200 := by rw [bs_size]; have := strL_len xt; omega
        have hC1 : (⟨[UInt8.ofNat xo].toArray⟩ : ByteArray).size = 1 := rfl
        obtain ⟨T1, hTe⟩ : ∃ S : ByteArray, (⟨(strL xt).toArray⟩ : ByteArray) = S := ⟨_, rfl⟩
        obtain ⟨C1, hCe⟩ : ∃ S : ByteArray, (⟨[UInt8.ofNat xo].toArray⟩ : ByteArray) = S := ⟨_, rfl⟩
        rw [hTe] at Hstr hT1
        rw [hCe] at hC1
        have HTC := Lib.hid (And.intro hTe hCe); clear hTe hCe
        have hYC : (Y ++ C1).size ≤ 17010 := by rw [ByteArray.size_append]; omega
        have Hend := Lib.hid (show (⟨(tabB t (i + 1)).toArray⟩ : ByteArray) = Y ++ C1 ++ T1 by
          rw [Hst.out, show lastB ⟨xs, xo, xt⟩ = numL m ++ ([UInt8.ofNat xo] ++ strL xt) by unfold lastB; simp only [Hn.out]; rw [if_neg Hz.out]; rfl, ← List.append_assoc, ← List.append_assoc, ← str_app2, ← str_app2, ← str_app2, HS.out.1, HS.out.2, HY.out, HTC.out.1, HTC.out.2])
        refine RegJ.forks ?_ ?_
        · skip
          refine RegJ.turns (fun _ => trivial) ?_
          intro K K0 hK hK0
          go_simp
          have hbq := (Below.refl w5.heap.size w5).alloc (Nat.le_refl _) (.cells #[.int .u8 (xo : Int)] 5)
          have hkq : KeptW w4 (w5.alloc (.cells #[.int .u8 (xo : Int)] 5)) := KeptW.mono hkd hbq
          have hone := Hone.out w5
          refine hK (KeptW (w5.alloc (.cells #[.int .u8 (xo : Int)] 5))) _ (w5.alloc (.cells #[.int .u8 (xo : Int)] 5)) (fun y hy => KeptW.mono hkq (KeptW.bel hy)) (Below.refl _ _) ?_
          clear hK K hK0 K0 hbq
          generalize w5.alloc (.cells #[.int .u8 (xo : Int)] 5) = wq at *
          generalize w5.heap.size = gq at *
          refine RegJ.reads ?_
          intro K hK
          go_simp
          refine ⟨.string C1, fun y hy => ?_, hK _ ?_⟩
          · have hcv := (hone.below (KeptW.bel hy)).conv Tryz.underlying61 Tryz.underlying5 Tryz.underlying9
            rw [HTC.out.2] at hcv
            rw [hcv]
            rfl
          clear hK K
          refine RegJ.reads ?_
          intro K hK
          go_simp
          refine ⟨.string (Y ++ C1), fun _ _ => ?_, hK _ ?_⟩
          · first | rfl | (rw [if_neg (by omega)])
          clear hK K
          clear hone
          refine RegJ.turns (fun _ => trivial) ?_
          intro K K0 hK hK0
          go_simp
          refine ⟨trivial, ?_⟩
          refine (callsIn_wide.2 (Hstr.out wq)).mono ?_
          rintro e w7 ⟨rfl, hb7⟩
          have hk7 : KeptW w4 w7 := KeptW.mono hkq hb7
          refine hK _ _ _ (fun _ h => h) (show KeptW wq w7 from hb7) ?_
          clear hK K hK0 K0
          have Hbe := Lib.hid (Hbw4.out.trans ((KeptW.bel hk7).mono Hbw4.out.size))
          refine RegJ.reads ?_
          intro K hK
          go_simp
          refine ⟨.string (Y ++ C1 ++ T1), fun _ _ => ?_, hK _ ?_⟩
          · first | rfl | (rw [if_neg (by omega)]) | (rw [if_neg (by rw [ByteArray.size_append] at hYC; omega)])
          clear hK K
          refine RegJ.reads ?_
          intro K hK
          go_simp
          refine ⟨_, fun _ _ => rfl, hK _ ?_⟩
          clear hK K
          refine RegJ.nil ?_
          go_wp2_with fail
          go_roundw
          case rel => exact ⟨i + 1, h4, rfl, by rw [Hend.out], Hbe.out⟩
          case measure => simp [intOf]; omega
        · skip
          refine RegJ.turns (fun _ => trivial) ?_
          intro K K0 hK hK0
          go_simp
          refine ⟨trivial, ?_⟩
          refine (callsIn_wide.2 (Hstr.out w5)).mono ?_
          rintro e w7 ⟨rfl, hb7⟩
          have hk7 : KeptW w4 w7 := KeptW.mono hkd hb7
          refine hK _ _ _ (fun _ h => h) hk7 ?_
          clear hK K hK0 K0
          refine RegJ.turns (fun _ => trivial) ?_
          intro K K0 hK hK0
          go_simp
          have hbq := (Below.refl w7.heap.size w7).alloc (Nat.le_refl _) (.cells #[.int .u8 (xo : Int)] 5)
          have hkq : KeptW w4 (w7.alloc (.cells #[.int .u8 (xo : Int)] 5)) := KeptW.mono hk7 hbq
          have hone := Hone.out w7
          refine hK (KeptW (w7.alloc (.cells #[.int .u8 (xo : Int)] 5))) _ (w7.alloc (.cells #[.int .u8 (xo : Int)] 5)) (fun y hy => KeptW.mono hkq (KeptW.bel hy)) (Below.refl _ _) ?_
          clear hK K hK0 K0 hbq
          generalize w7.alloc (.cells #[.int .u8 (xo : Int)] 5) = wq at *
          generalize w7.heap.size = gq at *
          refine RegJ.reads ?_
          intro K hK
          go_simp
          refine ⟨.string C1, fun y hy => ?_, hK _ ?_⟩
          · have hcv := (hone.below (KeptW.bel hy)).conv Tryz.underlying61 Tryz.underlying5 Tryz.underlying9
            rw [HTC.out.2] at hcv
            rw [hcv]
            rfl
          clear hK K
          refine RegJ.reads ?_
          intro K hK
          go_simp
          refine ⟨.string (Y ++ C1), fun _ _ => ?_, hK _ ?_⟩
          · first | rfl | (rw [if_neg (by omega)])
          clear hK K
          clear hone
          have Hbe := Lib.hid (Hbw4.out.trans ((KeptW.bel hkq).mono Hbw4.out.size))
          refine RegJ.reads ?_
          intro K hK
          go_simp
          refine ⟨.string (Y ++ C1 ++ T1), fun _ _ => ?_, hK _ ?_⟩
          · first | rfl | (rw [if_neg (by omega)]) | (rw [if_neg (by rw [ByteArray.size_append] at hYC; omega)])
          clear hK K
          refine RegJ.reads ?_
          intro K hK
          go_simp
          refine ⟨_, fun _ _ => rfl, hK _ ?_⟩
          clear hK K
          refine RegJ.nil ?_
          go_wp2_with fail
          go_roundw
          case rel => exact ⟨i + 1, h4, rfl, by rw [Hend.out], Hbe.out⟩
          case measure => simp [intOf]; omega
    · have h4' : ¬ (i : Int) < 4 := by omega
      have hi4 : i = 4 := by omega
      subst hi4
      go_wp2_with fail
      go_ret
      exact ⟨rfl, Hb.out⟩
end Go.Proofs.YtkngadbeflepoaaGreat
