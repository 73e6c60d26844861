/- The law KvApart. No condition. -/
import Derived.Test.YtimhpncdlaildaaKvH
import Derived.Test.YtimhpncdlaildaaKvF
import Derived.Test.YtimhpncdlaildaaKvQ
import Derived.Test.YtimhpncdlaildaaTrAE
namespace Go.Proofs.Ytimhpncdlaildaa
open Go.RowKit Go.Shelf
attribute [local go_sem] Oper.semAt_some

/-- The law's boxes: the two commands, the answer. -/
structure ApS (w0 : World) (a b : CmdV) (w : World) : Prop where
  ba : CmdAt w w0.heap.size a
  bb : CmdAt w (w0.heap.size + 1) b
  br : VarAt w (w0.heap.size + 2) (.bool false) 4
  bel : Below w0.heap.size w0 w
theorem ApS.below {w0 w w' : World} {a b : CmdV} (h : ApS w0 a b w) (hb : Below w.heap.size w w') : ApS w0 a b w' := ⟨h.ba.below hb, h.bb.below hb, h.br.below hb, h.bel.trans (hb.mono h.bel.size)⟩
theorem aps_start (w : World) (a b : CmdV) : ApS w a b (((w.alloc (.cells (cmdCells a).toArray 103)).alloc (.cells (cmdCells b).toArray 103)).alloc (.cells #[.bool false] 4)) := by
  have b1 := (Below.refl w.heap.size w).alloc (Nat.le_refl _) (.cells (cmdCells a).toArray 103)
  have b2 := b1.alloc b1.size (.cells (cmdCells b).toArray 103)
  have s1 : (w.alloc (.cells (cmdCells a).toArray 103)).heap.size = w.heap.size + 1 := by simp
  have s2 : ((w.alloc (.cells (cmdCells a).toArray 103)).alloc (.cells (cmdCells b).toArray 103)).heap.size = w.heap.size + 2 := by simp
  have v1 := CmdAt.new w a
  have v2 := CmdAt.new (w.alloc (.cells (cmdCells a).toArray 103)) b
  have v3 := VarAt.new ((w.alloc (.cells (cmdCells a).toArray 103)).alloc (.cells (cmdCells b).toArray 103)) (.bool false) 4
  rw [s1] at v2
  rw [s2] at v3
  have a1 : ∀ (u : World) (o : Obj), Below u.heap.size u (u.alloc o) := fun u o => (Below.refl _ _).alloc (Nat.le_refl _) _
  exact ⟨(v1.below (a1 _ _)).below (a1 _ _), v2.below (a1 _ _), v3, b2.alloc b2.size _⟩
theorem ApS.set {w0 w : World} {a b : CmdV} {g i : Nat} {x : Value} (h : ApS w0 a b w) (hg : w0.heap.size + 2 < g) : ApS w0 a b (w.setCell ⟨g, i, none⟩ x) :=
  ⟨h.ba.other (by omega), h.bb.other (by omega), h.br.other (by omega), below_setV h.bel (by omega)⟩
theorem ApS.stEnd {w0 y z : World} {a b : CmdV} {gs ga : Nat} {p : Option Addr} {code : Nat} {text : ByteArray} (h : ApS w0 a b y) (hz : StEnd y z gs ga p code text) (h1 : w0.heap.size + 2 < gs) (h2 : w0.heap.size + 2 < ga) : ApS w0 a b z :=
  ⟨(hz.oth _ (by omega) (by omega)).trans h.ba, (hz.oth _ (by omega) (by omega)).trans h.bb, (hz.oth _ (by omega) (by omega)).trans h.br, hz.bel _ _ h.bel (by omega) (by omega)⟩
/-- A new state and a new reply. -/
structure PairNew (w w5 : World) (P : Option Addr) (code : Nat) (text : ByteArray) : Prop where
  st : VarAt w5 w.heap.size (.pointer P) 96
  rep : RepAt w5 (w.heap.size + 1) code text
  bel : Below w.heap.size w w5
theorem pair_new (w : World) (P : Option Addr) (code : Nat) (text : ByteArray) : PairNew w ((w.alloc (.cells #[.pointer P] 96)).alloc (.cells (repCells code text).toArray 98)) P code text := by
  have hb4 := (Below.refl w.heap.size w).alloc (Nat.le_refl _) (.cells #[.pointer P] 96)
  have hs4 : (w.alloc (.cells #[.pointer P] 96)).heap.size = w.heap.size + 1 := by simp
  have hb45 := (Below.refl (w.alloc (.cells #[.pointer P] 96)).heap.size (w.alloc (.cells #[.pointer P] 96))).alloc (Nat.le_refl _) (.cells (repCells code text).toArray 98)
  have hr5 : RepAt ((w.alloc (.cells #[.pointer P] 96)).alloc (.cells (repCells code text).toArray 98)) (w.heap.size + 1) code text := by rw [← hs4]; exact heap_alloc_new _ _
  exact ⟨(VarAt.new w (.pointer P) 96).below hb45, hr5, hb4.trans (hb45.mono hb4.size)⟩
theorem two_at {w : World} {g : Nat} {a b : CmdV} (h : w.heap[g]? = some (.cells (cmdCells a ++ cmdCells b).toArray 103 (0, 0))) : CmdsAt w (some ⟨g, 0, none⟩) 2 [a, b] := by
  have hlt : g < w.heap.size := (Array.getElem?_eq_some_iff.1 h).1
  refine ⟨rfl, by unfold maxLen; omega, fun i x hi => ⟨g, 0, rfl, hlt, fun j v hj => ?_⟩⟩
  have hj7 : j < 7 := by have := (List.getElem?_eq_some_iff.1 hj).1; simpa [cmdCells] using this
  have key : (cmdCells a ++ cmdCells b)[i * 7 + j]? = some v := by
    match i, hi with
    | 0, hi =>
      simp only [List.getElem?_cons_zero, Option.some.injEq] at hi
      subst hi
      rw [List.getElem?_append_left (by simp [cmdCells]; omega)]
      simpa using hj
    | 1, hi =>
      simp only [List.getElem?_cons_succ, List.getElem?_cons_zero, Option.some.injEq] at hi
      subst hi
      rw [List.getElem?_append_right (by simp [cmdCells])]
      simpa [cmdCells] using hj
  rw [Nat.zero_add]
  rw [cell_of_row _ _ _ _ _ _ h]
  simpa using key

set_option maxRecDepth 100000 in
set_option maxHeartbeats 40000000 in
theorem kvApart_in (a0 : Option Addr) (l0 cap0 : Nat) (z0 : List CmdV) (a b : CmdV) (w : World) (h0 : CmdsAt w a0 l0 z0) (mm : Nat) (hmm : 3 ≤ mm) :
    CallsIn Fence.wide mm Try.prog 15 #[.slice a0 l0 cap0, .agg (cmdCells a).toArray, .agg (cmdCells b).toArray] w fun e w' => e = .returned (.bool true) ∧ Below w.heap.size w w' := by
  have hg0 := fun (y : World) (hy : Below w.heap.size w y) => kgreat_any a0 l0 cap0 z0 y (h0.below hy)
  have Hg0 := Lib.hid hg0; clear hg0
  have H0 := Lib.hid h0; clear h0
  have hS := aps_start w a b
  rw [cmd_eta, cmd_eta]
  refine callsIn_of_wp_marks Try.func15 rfl trivial ?_ rfl
  simp only [Try.ntmps15, List.size_toArray, List.length_cons, List.length_nil, Nat.reduceAdd, Nat.reduceSub, Array.replicate_succ, Array.replicate_zero, List.push_toArray, List.append_toArray, List.nil_append, List.cons_append]
  refine wpIn_wide.2 ?_
  go_upto_region 1 with fail
  rw [show w.heap.size + 1 + 1 = w.heap.size + 2 by omega]
  change Code.wp _ _ _ _ (((w.alloc (.cells (cmdCells a).toArray 103)).alloc (.cells (cmdCells b).toArray 103)).alloc (.cells #[.bool false] 4))
  generalize ((w.alloc (.cells (cmdCells a).toArray 103)).alloc (.cells (cmdCells b).toArray 103)).alloc (.cells #[.bool false] 4) = w1 at *
  have hgr := Hg0.out w1 hS.bel
  clear Hg0
  have HS := Lib.hid hS; clear hS
  cases hg : kgreatS z0 with
  | true =>
    rw [hg] at hgr
    have Hgr := Lib.hid hgr; clear hgr
    go_wp2_with (first
      | ((with_reducible refine Hgr.out.mono ?_); clear Hgr; rintro e w' ⟨rfl, rfl⟩)
      | ((with_reducible refine (kwakes_any w1).mono ?_); rintro e w3 ⟨rfl, hw⟩; have Hw := Lib.hid hw; clear hw; have f0 := (HS.out.br.below Hw.out).cell; have f1 := (HS.out.br.below Hw.out).thawed 0))
    have hb3 : Below w.heap.size w (w3.setCell ⟨w.heap.size + 2, 0, none⟩ (.bool true)) := below_setV (HS.out.below Hw.out).bel (by omega)
    have f3 := ((HS.out.below Hw.out).br.set (x := .bool true)).cell
    refine ⟨.bool true, ?_, rfl, hb3⟩
    simp [results, Try.results15, go_sem, f3]
  | false =>
    rw [hg] at hgr
    obtain ⟨hlen0, _⟩ := kgreat_ok hg
    clear hg
    have Hgr := Lib.hid hgr; clear hgr
    have hl0 := H0.out.hlen
    have hlen0' : l0 ≤ 100 := by omega
    clear hlen0 hl0
    have hbq := (Below.refl w1.heap.size w1).alloc (Nat.le_refl _) (.cells (cmdCells a ++ cmdCells b).toArray 103)
    have h2 := two_at (a := a) (b := b) (heap_alloc_new w1 (.cells (cmdCells a ++ cmdCells b).toArray 103))
    have hgr2 := kgreat_any _ 2 2 [a, b] _ h2
    clear h2
    obtain ⟨d0, d1, d2, d3, d4, d5, d6⟩ := HS.out.ba.cells
    obtain ⟨e0, e1, e2, e3, e4, e5, e6⟩ := HS.out.bb.cells
    have HSq := Lib.hid (HS.out.below hbq)
    obtain ⟨gg, hgg⟩ : ∃ g, kgreatS [a, b] = g := ⟨_, rfl⟩
    rw [hgg] at hgr2
    clear hgg hbq
    have Hgr2 := Lib.hid (show Calls Try.prog 56 #[.slice (some ⟨w1.heap.size, 0, none⟩) 2 2] (w1.alloc (.cells #[.int .u8 (a.client.toNat : Int), .int .u32 (a.seq.toNat : Int), .int .u8 (a.kind.toNat : Int), .string a.key, .string a.old, .string a.fresh, .int .u8 (a.set.toNat : Int), .int .u8 (b.client.toNat : Int), .int .u32 (b.seq.toNat : Int), .int .u8 (b.kind.toNat : Int), .string b.key, .string b.old, .string b.fresh, .int .u8 (b.set.toNat : Int)] 103)) _ from hgr2); clear hgr2
    cases gg with
    | true =>
      go_upto_region 2 with (first
        | ((with_reducible refine Hgr.out.mono ?_); clear Hgr; rintro e w' ⟨rfl, rfl⟩)
        | ((with_reducible refine Hgr2.out.mono ?_); clear Hgr2; rintro e w' ⟨rfl, rfl⟩))
      change Code.wp _ _ _ _ (w1.alloc (.cells (cmdCells a ++ cmdCells b).toArray 103))
      generalize w1.alloc (.cells (cmdCells a ++ cmdCells b).toArray 103) = w2 at *
      clear d0 d1 d2 d3 d4 d5 d6 e0 e1 e2 e3 e4 e5 e6
      go_wp2_with ((with_reducible refine (kwakes_any w2).mono ?_); rintro e w3 ⟨rfl, hw⟩; have Hw := Lib.hid hw; clear hw; have f0 := (HSq.out.br.below Hw.out).cell; have f1 := (HSq.out.br.below Hw.out).thawed 0)
      have hb3 : Below w.heap.size w (w3.setCell ⟨w.heap.size + 2, 0, none⟩ (.bool true)) := below_setV (HSq.out.below Hw.out).bel (by omega)
      have f3 := ((HSq.out.below Hw.out).br.set (x := .bool true)).cell
      refine ⟨.bool true, ?_, rfl, hb3⟩
      simp [results, Try.results15, go_sem, f3]
    | false =>
      go_upto_region 3 with (first
        | ((with_reducible refine Hgr.out.mono ?_); clear Hgr; rintro e w' ⟨rfl, rfl⟩)
        | ((with_reducible refine Hgr2.out.mono ?_); clear Hgr2; rintro e w' ⟨rfl, rfl⟩))
      change Code.wp _ _ _ _ (w1.alloc (.cells (cmdCells a ++ cmdCells b).toArray 103))
      generalize w1.alloc (.cells (cmdCells a ++ cmdCells b).toArray 103) = w2 at *
      clear d0 d1 d2 d3 d4 d5 d6 e0 e1 e2 e3 e4 e5 e6 HS
      go_upto_region 4 with fail
      have HSs := Lib.hid (VarAt.new w2 (.pointer none) 96)
      have HS3 := Lib.hid (HSq.out.below ((Below.refl w2.heap.size w2).alloc (Nat.le_refl _) (.cells #[.pointer none] 96)))
      obtain ⟨gs, hgs⟩ : ∃ g, w2.heap.size = g := ⟨_, rfl⟩
      have Hgs := Lib.hid (show w.heap.size + 2 < gs by rw [← hgs]; exact HSq.out.br.lt)
      rw [hgs] at HSs ⊢
      change Code.wp _ _ _ _ (w2.alloc (.cells #[.pointer none] 96))
      generalize w2.alloc (.cells #[.pointer none] 96) = w3 at *
      clear hgs HSq
      go_wp2_with fail
      go_loopw [8] (fun s8 wr => ∃ (i : Nat) (T : Tr), i ≤ l0 ∧ s8 = .int .i64 (i : Int) ∧ VarAt wr gs (.pointer T.ptr) 96 ∧ TreeAt wr T ∧ Asc T.sh.kv ∧ T.cnt ≤ i ∧ ApS w a b wr) (fun s8 _ => l0 - (intOf s8).toNat)
      case atStart => exact ⟨0, .nil, by omega, rfl, HSs.out, trivial, List.Pairwise.nil, Nat.le_refl _, HS3.out⟩
      case round =>
        obtain ⟨i, T, hi, rfl, hs, hat, hasc, hcnt, hap⟩ := hrel
        clear HSs HS3
        have Hs := Lib.hid hs; clear hs
        have Hat := Lib.hid hat; clear hat
        have Hasc := Lib.hid hasc; clear hasc
        have Hap := Lib.hid hap; clear hap
        have Hcnt := Lib.hid hcnt; clear hcnt
        obtain ⟨P, hP⟩ : ∃ P, T.ptr = P := ⟨_, rfl⟩
        rw [hP] at Hs
        have HP := Lib.hid hP; clear hP
        by_cases hlt : i < l0
        · have hlt' : (i : Int) < (l0 : Int) := by omega
          obtain ⟨bq, oq, rfl, hbl, c0, c1, c2, c3, c4, c5, c6⟩ := cmds_cells (H0.out.below Hap.out.bel) hlt
          have hsucc := tsucc (n := i) (by omega)
          have hi1 : i + 1 ≤ l0 := hlt
          generalize z0.getD i default = c at *
          have hcl : ∀ y, Below wr.heap.size wr y → y.cell? ⟨bq, oq + i * 7, none⟩ = some (.int .u8 (c.client.toNat : Int)) ∧ y.cell? ⟨bq, oq + i * 7 + 1, none⟩ = some (.int .u32 (c.seq.toNat : Int)) ∧ y.cell? ⟨bq, oq + i * 7 + 2, none⟩ = some (.int .u8 (c.kind.toNat : Int)) ∧ y.cell? ⟨bq, oq + i * 7 + 3, none⟩ = some (.string c.key) ∧ y.cell? ⟨bq, oq + i * 7 + 4, none⟩ = some (.string c.old) ∧ y.cell? ⟨bq, oq + i * 7 + 5, none⟩ = some (.string c.fresh) ∧ y.cell? ⟨bq, oq + i * 7 + 6, none⟩ = some (.int .u8 (c.set.toNat : Int)) :=
            fun y hy => ⟨(hy.cell (p := ⟨bq, _, none⟩) hbl).trans c0, (hy.cell (p := ⟨bq, _, none⟩) hbl).trans c1, (hy.cell (p := ⟨bq, _, none⟩) hbl).trans c2, (hy.cell (p := ⟨bq, _, none⟩) hbl).trans c3, (hy.cell (p := ⟨bq, _, none⟩) hbl).trans c4, (hy.cell (p := ⟨bq, _, none⟩) hbl).trans c5, (hy.cell (p := ⟨bq, _, none⟩) hbl).trans c6⟩
          have Hc := Lib.hid hcl; clear hcl
          clear c0 c1 c2 c3 c4 c5 c6
          go_upto_region 7 with fail
          refine (wpIn_wide (n := 1)).1 ?_
          refine RegK.wpIn_region_calm (F := Fence.wide) (KeptW wr) [(0, 0), (1, 0), (2, 0), (3, 0), (4, 0), (5, 1), (6, 0), (7, 0), (8, 2), (9, 3)] (by kernel_rfl) (by kernel_rfl) (by kernel_rfl) (KeptW.drew wr) ?_
          dsimp only [RegK.pick, List.getElem?_cons_zero, List.getElem?_cons_succ]
          change RegK.Can _ _ _ _ _ _ _ _ wr.drew
          refine RegK.can_reads ?_
          intro K hK
          go_simp
          refine ⟨.agg #[.pointer P], fun y hy => ?_, hK _ ?_⟩
          · have f0 := (Hs.out.below (KeptW.bel hy)).cell
            go_simp
          clear hK K
          iterate 3 (refine RegK.can_reads ?_; intro K hK; go_simp; (first | (refine ⟨_, fun _ _ => rfl, hK _ ?_⟩) | (refine hK _ ?_)); clear hK K)
          refine RegK.can_reads ?_
          intro K hK
          go_simp
          refine ⟨.agg #[.int .u8 (c.client.toNat : Int), .int .u32 (c.seq.toNat : Int), .int .u8 (c.kind.toNat : Int), .string c.key, .string c.old, .string c.fresh, .int .u8 (c.set.toNat : Int)], fun y hy => ?_, hK _ ?_⟩
          · obtain ⟨f0, f1, f2, f3, f4, f5, f6⟩ := Hc.out y (KeptW.bel hy)
            go_simp
          clear hK K
          refine RegK.can_narrows (fun _ => trivial) ?_
          intro K K0 hK hK0
          go_simp
          refine ⟨trivial, ?_⟩
          have hd := do_any c T wr.drew (Hat.out.below (KeptW.bel (KeptW.drew wr))) (by have := Hcnt.out; omega)
          rw [HP.out, cmd_eta] at hd
          unfold repV repCells at hd
          refine (callsIn_wide.2 hd).mono ?_
          clear hd
          rintro e xc ⟨X, rfl, hX⟩
          have hxc : KeptW wr xc := KeptW.mono (KeptW.drew wr) hX.bel
          refine hK (KeptW wr) _ _ (fun y h => h) hxc ?_
          clear hK K K0 hK0
          iterate 2 (refine RegK.can_reads ?_; intro K hK; go_simp; (first | (refine ⟨_, fun _ _ => rfl, hK _ ?_⟩) | (refine hK _ ?_)); clear hK K)
          refine RegK.can_pure ?_
          intro K hK
          go_simp
          first | (refine ⟨_, fun _ => rfl, hK _ ?_⟩) | (refine hK _ ?_)
          clear hK K
          have f0 := (Hs.out.below (KeptW.bel hxc)).cell
          have f1 := (Hs.out.below (KeptW.bel hxc)).thawed 0
          have HS4 := Lib.hid ((Hs.out.below (KeptW.bel hxc)).set (x := .pointer X.ptr))
          have HT4 := Lib.hid (TreeAt.setC (i := 0) (x := .pointer X.ptr) (Hs.out.below (KeptW.bel hxc)) (by simp) hX.at_)
          have HA4 := Lib.hid ((Hap.out.below (KeptW.bel hxc)).set (i := 0) (x := .pointer X.ptr) Hgs.out)
          have HN4 := Lib.hid (show X.cnt ≤ i + 1 from Nat.le_trans hX.num (by have := Hcnt.out; omega))
          have HK4 := Lib.hid (show Asc X.sh.kv by rw [hX.shp]; exact kv_asc Hasc.out c)
          clear hX hxc
          refine RegK.can_frees (fun _ => trivial) ?_
          intro K K0 hK hK0
          go_simp
          refine hK (fun _ => True) _ _ trivial ?_
          clear hK K hK0 K0
          refine RegK.can_calm ?_
          clear f0 f1
          generalize xc.setCell ⟨gs, 0, none⟩ (.pointer X.ptr) = w4 at *
          go_wp2_with fail
          go_roundw
          case rel => exact ⟨i + 1, X, hi1, rfl, HS4.out, HT4.out, HK4.out, HN4.out, HA4.out⟩
          case measure => simp [intOf]; omega
        · have hlt' : ¬ (i : Int) < (l0 : Int) := by omega
          obtain ⟨⟨SA, pc, pt⟩, hpo⟩ : ∃ o, kvDo T.sh a = o := ⟨_, rfl⟩
          have Hpo := Lib.hid hpo; clear hpo
          have Hcn := Lib.hid (show T.cnt ≤ 100 by have := Hcnt.out; omega); clear Hcnt
          have hd := do_any a T wr Hat.out (by have := Hcn.out; omega)
          rw [HP.out, Hpo.out, cmd_eta] at hd
          unfold repV repCells at hd
          have Hdo1 := Lib.hid hd; clear hd
          obtain ⟨d0, d1, d2, d3, d4, d5, d6⟩ := Hap.out.ba.cells
          have s0 := Hs.out.cell
          go_upto_region 9 with ((with_reducible refine Hdo1.out.mono ?_); clear Hdo1; rintro e w4 ⟨X, rfl, hx⟩; have Hx := Lib.hid hx; clear hx)
          clear d0 d1 d2 d3 d4 d5 d6 s0 hlt hi hlt'
          have HPN := Lib.hid (pair_new w4 X.ptr pc pt)
          change Code.wp _ _ _ _ ((w4.alloc (.cells #[.pointer X.ptr] 96)).alloc (.cells (repCells pc pt).toArray 98))
          generalize (w4.alloc (.cells #[.pointer X.ptr] 96)).alloc (.cells (repCells pc pt).toArray 98) = w5 at *
          have hb45 := Hx.out.bel.trans (HPN.out.bel.mono Hx.out.bel.size)
          have Hgx := Lib.hid (show w.heap.size + 2 < w4.heap.size from Nat.lt_of_lt_of_le Hap.out.br.lt Hx.out.bel.size)
          have Hgx2 := Lib.hid (show gs < w4.heap.size from Nat.lt_of_lt_of_le Hs.out.lt Hx.out.bel.size)
          have Hap5 := Lib.hid (Hap.out.below hb45)
          have Hs5 := Lib.hid (Hs.out.below hb45)
          have Hat5 := Lib.hid (Hat.out.below hb45)
          have Hx5 := Lib.hid HPN.out.st
          have Hp5 := Lib.hid HPN.out.rep
          have HX5 := Lib.hid (Hx.out.at_.below HPN.out.bel)
          have HXs := Lib.hid (show X.sh = SA from Hx.out.shp)
          have HXn := Lib.hid (show X.cnt ≤ 101 from Nat.le_trans Hx.out.num (by have := Hcn.out; omega))
          have HXk := Lib.hid (show Asc X.sh.kv by have h := kv_asc Hasc.out a; rw [Hpo.out] at h; rw [HXs.out]; exact h)
          clear Hap Hs Hat HPN hb45 Hx
          generalize w4.heap.size = gx at *
          obtain ⟨PX, hPX⟩ : ∃ P, X.ptr = P := ⟨_, rfl⟩
          rw [hPX] at Hx5
          rw [hPX]
          have HPX := Lib.hid hPX; clear hPX
          refine (wpIn_wide (n := 1)).1 ?_
          refine RegK.wpIn_region_calm (F := Fence.wide) (KeptW w5) [(0, 0), (2, 0), (1, 1), (3, 1), (4, 1), (5, 0)] (by kernel_rfl) (by kernel_rfl) (by kernel_rfl) (KeptW.drew w5) ?_
          dsimp only [RegK.pick, List.getElem?_cons_zero, List.getElem?_cons_succ]
          change RegK.Can _ _ _ _ _ _ _ _ w5.drew
          refine RegK.can_reads ?_
          intro K hK
          go_simp
          refine ⟨.agg #[.pointer P], fun y hy => ?_, hK _ ?_⟩
          · have f0 := (Hs5.out.below (KeptW.bel hy)).cell
            go_simp
          clear hK K
          refine RegK.can_reads ?_
          intro K hK
          go_simp
          refine ⟨.agg #[.pointer PX], fun y hy => ?_, hK _ ?_⟩
          · have f0 := (Hx5.out.below (KeptW.bel hy)).cell
            go_simp
          clear hK K
          refine RegK.can_narrows (fun _ => trivial) ?_
          intro K K0 hK hK0
          go_simp
          refine ⟨trivial, ?_⟩
          refine (callsIn_wide.2 (tree_any P w5.drew)).mono ?_
          rintro e xa ⟨rfl, hb⟩
          have hxa : KeptW w5 xa := KeptW.mono (KeptW.drew w5) hb
          refine hK (KeptW w5) _ _ (fun y h => h) hxa ?_
          clear hK K K0 hK0 hb
          refine RegK.can_narrows (fun _ => trivial) ?_
          intro K K0 hK hK0
          go_simp
          refine ⟨trivial, ?_⟩
          refine (callsIn_wide.2 (tree_any PX xa)).mono ?_
          rintro e ya ⟨rfl, hb⟩
          have hxb : KeptW w5 ya := KeptW.mono hxa hb
          refine hK (KeptW w5) _ _ (fun y h => h) hxb ?_
          clear hK K K0 hK0 hb hxa
          refine RegK.can_narrows (fun _ => trivial) ?_
          intro K K0 hK hK0
          go_simp
          refine ⟨trivial, ?_⟩
          refine (diff_in _ P PX ya).mono ?_
          rintro e za ⟨rfl, hz⟩
          have hbz : Below ya.heap.size ya za := by rw [hz]; exact ((Below.refl _ _).alloc (Nat.le_refl _) _).alloc (by simp) _
          have hsz : za.heap.size = ya.heap.size + 2 := by rw [hz]; simp
          have hba : VarAt za ya.heap.size (.pointer P) 58 := by
            rw [hz]
            exact (VarAt.new ya (.pointer P) 58).below ((Below.refl _ _).alloc (Nat.le_refl _) _)
          have hbb : VarAt za (ya.heap.size + 1) (.pointer PX) 58 := by
            have h := VarAt.new (ya.alloc (.cells #[.pointer P] 58)) (.pointer PX) 58
            rw [World.size_alloc] at h
            rw [hz]
            exact h
          have hxz : KeptW w5 za := KeptW.mono hxb hbz
          refine hK (KeptW w5) _ _ (fun y h => h) hxz ?_
          clear hK K K0 hK0 hz
          iterate 1 (refine RegK.can_reads ?_; intro K hK; go_simp; (first | (refine ⟨_, fun _ _ => rfl, hK _ ?_⟩) | (refine hK _ ?_)); clear hK K)
          refine RegK.can_calm ?_
          have hseq := dseq_some
          go_wp2_with fail
          clear hseq
          have hloA : T.Lo ya.heap.size := (Hat5.out.below (KeptW.bel hxb)).lo
          have hloB : X.Lo ya.heap.size := (HX5.out.below (KeptW.bel hxb)).lo
          have hstops := diff_stops (mm - 1) ya.heap.size (ya.heap.size + 1) ya.heap.size (ya.heap.size + 2) T X za (by omega) (by omega) (by omega) (by omega) (by rw [HP.out]; exact hba.cell) (by rw [HPX.out]; exact hbb.cell) (Hat5.out.below (KeptW.bel hxz)) (HX5.out.below (KeptW.bel hxz)) hloA.outOf hloB.outOf Hasc.out HXk.out (by have h1 := Hcn.out; have h2 := HXn.out; omega)
          have Hstops := Lib.hid hstops; clear hstops
          have Hsz := Lib.hid hsz; clear hsz
          have Hxz := Lib.hid (KeptW.bel hxz); clear hxz
          clear hloA hloB hba hbb hbz hxb
          obtain ⟨ny, hny⟩ : ∃ n, ya.heap.size = n := ⟨_, rfl⟩
          rw [hny] at Hstops Hsz ⊢
          clear hny
          refine (wpIn_wide (n := mm)).1 ?_
          refine Range.wpIn_range (F := Fence.wide) rfl (by omega) (gf := 66) (lb := #[.pointer (some ⟨ny, 0, none⟩), .pointer (some ⟨ny + 1, 0, none⟩)]) rfl trivial (enters_of Try.func66 (by kernel_rfl) rfl)
            Hstops.out (fun h k => h.trans k) (keepC_b (by have := Hsz.out; omega)) (Below.refl _ _) (fun _ => rfl)
            (fun _ W => Below za.heap.size za W) (fun c pre _ => c = .ret ∧ ∃ (p : List Chg) (x : Chg), pre = p ++ [x] ∧ x.key ≠ a.key) (fun s W W' row hs hg hr => below_own (Nat.le_refl _) hs hg hr) (fun _ _ _ _ _ h _ _ => h) (Below.refl _ _) ?round ?done ?stop
          case round =>
            rintro l pre x W hi hlen
            clear Hstops
            obtain ⟨xk, xo, xn, xa, xb⟩ := x
            have Hi := Lib.hid hi; clear hi
            gi_wp2
            refine ⟨KeepsFrom.refl _ _, KeepC.refl _ _ _, fun W2 hT => ?_⟩
            have hi2 := Hi.out.trans (turned_below (Nat.le_refl _) hT)
            have hap := Hap5.out.below (Hxz.out.trans (hi2.mono Hxz.out.size))
            have Hi2 := Lib.hid hi2; clear hi2 hT Hi
            have f0 := hap.ba.cells.2.2.2.1
            have f1 := hap.br.cell
            have f2 := hap.br.thawed 0
            clear hap
            by_cases hk : xk = a.key
            · have hk' : (xk.toList == a.key.toList) = true := by rw [hk]; simp
              gi_wp2
              exact ⟨KeepsFrom.refl _ _, KeepC.refl _ _ _, Hi2.out⟩
            · have hk' : (xk.toList == a.key.toList) = false := by simp only [beq_eq_false_iff_ne, ne_eq]; exact fun e => hk (tl_inj e)
              gi_wp2
              exact ⟨keepsFrom_set (KeepsFrom.refl _ _), rfl, pre, _, rfl, hk⟩
          case stop =>
            rintro E c pre W hE hpre ⟨rfl, p, x, rfl, hne⟩ _
            exfalso
            obtain ⟨s, hs⟩ := hpre
            have hd := kv_diff Hasc.out a
            rw [Hpo.out] at hd
            apply hne
            apply hd
            show x ∈ diffL T.sh.kv SA.kv
            rw [← HXs.out]
            show x ∈ diffL T.kvs X.kvs
            rw [← hs]
            simp
          case done =>
            rintro E ys W hE _ hI hK
            clear Hstops
            have hW := Hxz.out.trans (hI.mono Hxz.out.size)
            have HapW := Lib.hid (Hap5.out.below hW)
            have HsW := Lib.hid (Hs5.out.below hW)
            have HatW := Lib.hid (Hat5.out.below hW)
            have HxW := Lib.hid (Hx5.out.below hW)
            have HpW := Lib.hid (Hp5.out.below hW)
            have HXW := Lib.hid (HX5.out.below hW)
            have Hg5 := Lib.hid (show w5.heap.size ≤ E from Nat.le_trans Hxz.out.size hE)
            have Hgp := Lib.hid Hp5.out.lt
            have HK := Lib.hid hK; clear hK
            clear Hap5 Hs5 Hat5 Hx5 Hp5 HX5 hW hI hE Hxz Hsz
            obtain ⟨-, -, -, f0, -, -, -⟩ := HapW.out.ba.cells
            obtain ⟨-, -, -, f1, -, -, -⟩ := HapW.out.bb.cells
            by_cases hab : a.key = b.key
            · have hk' : (a.key.toList == b.key.toList) = true := by rw [hab]; simp
              have hk2 := hk'
              rw [hab] at hk2
              have f0' := f0
              have f1' := f1
              clear f0
              have f0 : W.cell? ⟨w.heap.size, 3, none⟩ = some (.string b.key) := by rw [← hab]; exact f0'
              clear f0'
              go_wp2_with ((with_reducible refine (kwakes_any W).mono ?_); rintro e w7 ⟨rfl, hw⟩; have z0 := (HapW.out.br.below hw).cell; have z1 := (HapW.out.br.below hw).thawed 0)
              have l7 := HapW.out.below hw
              have hd7 : w7.heap[E]? = some (.deferred (some [])) := (hw.block E (Array.getElem?_eq_some_iff.1 HK.out).1).trans HK.out
              have hEr : E ≠ w.heap.size + 2 := by have h1 := Hg5.out; have h2 := Hgp.out; have h3 := Hgx.out; omega
              have hbx : VarAt (w7.setCell ⟨w.heap.size + 2, 0, none⟩ (.bool true)) (w.heap.size + 2) (.bool true) 4 := l7.br.set
              have hbl : Below w.heap.size w (w7.setCell ⟨w.heap.size + 2, 0, none⟩ (.bool true)) := below_setV l7.bel (by omega)
              have hx2 : (w7.setCell ⟨w.heap.size + 2, 0, none⟩ (.bool true)).heap[E]? = some (.deferred (some [])) := (Below.heap_setCell _ _ _ _ (by exact hEr)).trans hd7
              generalize w7.setCell ⟨w.heap.size + 2, 0, none⟩ (.bool true) = W6 at *
              have hc7 := cell_kept hbx.cell (grownBy_putObj' W6 E (.deferred none)) (fun r e => by cases e; exact ⟨_, hx2, rfl⟩)
              have hb7 : Below w.heap.size w (W6.putObj E (.deferred none)) := hbl.trans (belowK_b (w := w) (Nat.le_refl _) W6 E _ _ (by have h1 := Hg5.out; have h2 := Hgp.out; have h3 := Hgx.out; omega) hx2 rfl rfl)
              refine ⟨by simp, .inl ⟨_, _, rfl, run_takeDeferred hx2, ?_⟩⟩
              refine ⟨.bool true, ?_, rfl, hb7⟩
              simp [results, Try.results15, go_sem, hc7]
            · have hk' : (a.key.toList == b.key.toList) = false := by simp only [beq_eq_false_iff_ne, ne_eq]; exact fun e => hab (tl_inj e)
              go_upto_region 18 with fail
              clear f0 f1
              have HO := Lib.hid (show w.heap.size + 2 < gs ∧ gs < gx ∧ gx + 1 < E ∧ E < W.heap.size from ⟨Hgs.out, Hgx2.out, Nat.lt_of_lt_of_le Hgp.out Hg5.out, (Array.getElem?_eq_some_iff.1 HK.out).1⟩)
              clear Hg5 Hgp Hgx2
              obtain ⟨⟨S2, qc, qt⟩, hqo⟩ : ∃ o, kvDo SA b = o := ⟨_, rfl⟩
              obtain ⟨⟨SB, rc, rt⟩, hro⟩ : ∃ o, kvDo T.sh b = o := ⟨_, rfl⟩
              obtain ⟨⟨S3, tc, tt⟩, hto⟩ : ∃ o, kvDo SB a = o := ⟨_, rfl⟩
              have Hqo := Lib.hid hqo; clear hqo
              have Hro := Lib.hid hro; clear hro
              have Hto := Lib.hid hto; clear hto
              have hd := do_any b X W HXW.out (by have := HXn.out; omega)
              rw [HPX.out, HXs.out, Hqo.out, cmd_eta] at hd
              unfold repV repCells at hd
              have Hd2 := Lib.hid hd; clear hd
              obtain ⟨d0, d1, d2, d3, d4, d5, d6⟩ := HapW.out.bb.cells
              have s0 := HxW.out.cell
              go_upto_region 19 with ((with_reducible refine Hd2.out.mono ?_); clear Hd2; rintro e w6 ⟨Y, rfl, hx⟩; have Hx := Lib.hid hx; clear hx; have u0 := ((HxW.out.below Hx.out.bel).below ((Below.refl w6.heap.size w6).alloc (Nat.le_refl _) (.cells #[.int .u8 0, .string { data := #[] }] 98))).cell; have u1 := ((HxW.out.below Hx.out.bel).below ((Below.refl w6.heap.size w6).alloc (Nat.le_refl _) (.cells #[.int .u8 0, .string { data := #[] }] 98))).thawed 0; have hre : RepAt (w6.alloc (.cells #[.int .u8 0, .string { data := #[] }] 98)) w6.heap.size 0 ByteArray.empty := heap_alloc_new _ _; obtain ⟨u2, u3⟩ := hre.cells; have u4 := hre.thawed 0; have u5 := hre.thawed 1; clear hre; have n1 : ¬ gx = w6.heap.size := (by have h1 := HxW.out.lt; have h2 := Hx.out.bel.size; omega); have n2 : ¬ w6.heap.size = gx := (by omega))
              clear d0 d1 d2 d3 d4 d5 d6 s0 u0 u1 u2 u3 u4 u5 n2
              change Code.wp _ _ _ _ (stW (w6.alloc (.cells #[.int .u8 0, .string { data := #[] }] 98)) gx w6.heap.size Y.ptr qc qt)
              obtain ⟨g13, hg13⟩ : ∃ g, w6.heap.size = g := ⟨_, rfl⟩
              have hre : RepAt (w6.alloc (.cells #[.int .u8 0, .string { data := #[] }] 98)) g13 0 ByteArray.empty := by rw [← hg13]; exact heap_alloc_new _ _
              have hbu : Below w6.heap.size w6 (w6.alloc (.cells #[.int .u8 0, .string { data := #[] }] 98)) := (Below.refl _ _).alloc (Nat.le_refl _) _
              have hbw := Hx.out.bel.trans (hbu.mono Hx.out.bel.size)
              have hge : W.heap.size ≤ g13 := by rw [← hg13]; exact Hx.out.bel.size
              rw [hg13] at n1
              rw [hg13]
              have HtY := Lib.hid (Hx.out.at_.below hbu)
              generalize w6.alloc (.cells #[.int .u8 0, .string { data := #[] }] 98) = w6u at *
              have Hn1 := Lib.hid n1; clear n1
              have Hge := Lib.hid hge; clear hge hg13 hbu
              have HapW_ku := Lib.hid (HapW.out.below hbw)
              have HsW_ku := Lib.hid (HsW.out.below hbw)
              have HatW_ku := Lib.hid (HatW.out.below hbw)
              have HxW_ku := Lib.hid (HxW.out.below hbw)
              have HpW_ku := Lib.hid (HpW.out.below hbw)
              have HXW_ku := Lib.hid (HXW.out.below hbw)
              have HK_ku := Lib.hid ((hbw.block E (Array.getElem?_eq_some_iff.1 HK.out).1).trans HK.out)
              clear HapW HsW HatW HxW HpW HXW HK
              have HZ := Lib.hid (st_end HxW_ku.out hre (Ne.symm Hn1.out) Y.ptr qc qt)
              generalize stW w6u gx g13 Y.ptr qc qt = w7 at *
              clear hre hbw
              have HapW_k := Lib.hid (HapW_ku.out.stEnd HZ.out (by have h1 := HO.out; have h2 := Hge.out; have h3 := Hn1.out; omega) (by have h1 := HO.out; have h2 := Hge.out; have h3 := Hn1.out; omega))
              have HsW_k := Lib.hid (show VarAt w7 (gs) (.pointer P) 96 from (HZ.out.oth (gs) (by have h1 := HO.out; have h2 := Hge.out; have h3 := Hn1.out; omega) (by have h1 := HO.out; have h2 := Hge.out; have h3 := Hn1.out; omega)).trans HsW_ku.out)
              have HatW_k := Lib.hid (HZ.out.tree _ HatW_ku.out)
              have HpW_k := Lib.hid (show RepAt w7 (gx + 1) pc pt from (HZ.out.oth (gx + 1) (by have h1 := HO.out; have h2 := Hge.out; have h3 := Hn1.out; omega) (by have h1 := HO.out; have h2 := Hge.out; have h3 := Hn1.out; omega)).trans HpW_ku.out)
              have HXW_k := Lib.hid (HZ.out.tree _ HXW_ku.out)
              have HK_k := Lib.hid (show w7.heap[E]? = some (.deferred (some [])) from (HZ.out.oth (E) (by have h1 := HO.out; have h2 := Hge.out; have h3 := Hn1.out; omega) (by have h1 := HO.out; have h2 := Hge.out; have h3 := Hn1.out; omega)).trans HK_ku.out)
              clear HapW_ku HsW_ku HatW_ku HxW_ku HpW_ku HXW_ku HK_ku
              have HyX_k := Lib.hid HZ.out.st
              have HqR_k := Lib.hid HZ.out.rep
              have HYt_k := Lib.hid (HZ.out.tree _ HtY.out)
              have HYs := Lib.hid (show Y.sh = S2 from Hx.out.shp)
              have HYn := Lib.hid (show Y.cnt ≤ 102 from Nat.le_trans Hx.out.num (by have := HXn.out; omega))
              have HYk := Lib.hid (show Asc Y.sh.kv by have h := kv_asc HXk.out b; rw [HXs.out, Hqo.out] at h; rw [HYs.out]; exact h)
              clear HZ Hx HtY
              obtain ⟨PY, hPY⟩ : ∃ P, Y.ptr = P := ⟨_, rfl⟩
              rw [hPY] at HyX_k
              rw [hPY]
              have HPY := Lib.hid hPY; clear hPY
              have HO2 := Lib.hid (show W.heap.size ≤ g13 from Hge.out); clear Hge Hn1
              have hd := do_any b T w7 HatW_k.out (by have := Hcn.out; omega)
              rw [HP.out, Hro.out, cmd_eta] at hd
              unfold repV repCells at hd
              have Hd2 := Lib.hid hd; clear hd
              obtain ⟨d0, d1, d2, d3, d4, d5, d6⟩ := HapW_k.out.bb.cells
              have s0 := HsW_k.out.cell
              go_upto_region 20 with ((with_reducible refine Hd2.out.mono ?_); clear Hd2; rintro e w8 ⟨Z, rfl, hx⟩; have Hx := Lib.hid hx; clear hx)
              clear d0 d1 d2 d3 d4 d5 d6 s0
              have HPN := Lib.hid (pair_new w8 Z.ptr rc rt)
              change Code.wp _ _ _ _ ((w8.alloc (.cells #[.pointer Z.ptr] 96)).alloc (.cells (repCells rc rt).toArray 98))
              generalize (w8.alloc (.cells #[.pointer Z.ptr] 96)).alloc (.cells (repCells rc rt).toArray 98) = w9 at *
              have hb := Hx.out.bel.trans (HPN.out.bel.mono Hx.out.bel.size)
              have HO3 := Lib.hid (show w7.heap.size ≤ w8.heap.size from Hx.out.bel.size)
              have HO4 := Lib.hid (show g13 < w7.heap.size from HqR_k.out.lt)
              have HapW_m := Lib.hid (HapW_k.out.below hb)
              have HsW_m := Lib.hid (HsW_k.out.below hb)
              have HatW_m := Lib.hid (HatW_k.out.below hb)
              have HpW_m := Lib.hid (HpW_k.out.below hb)
              have HXW_m := Lib.hid (HXW_k.out.below hb)
              have HK_m := Lib.hid ((hb.block E (Array.getElem?_eq_some_iff.1 HK_k.out).1).trans HK_k.out)
              have HyX_m := Lib.hid (HyX_k.out.below hb)
              have HqR_m := Lib.hid (HqR_k.out.below hb)
              have HYt_m := Lib.hid (HYt_k.out.below hb)
              clear HapW_k HsW_k HatW_k HpW_k HXW_k HK_k HyX_k HqR_k HYt_k
              have HzZ_m := Lib.hid HPN.out.st
              have HrR_m := Lib.hid HPN.out.rep
              have HZt_m := Lib.hid (Hx.out.at_.below HPN.out.bel)
              have HZs := Lib.hid (show Z.sh = SB from Hx.out.shp)
              have HZn := Lib.hid (show Z.cnt ≤ 101 from Nat.le_trans Hx.out.num (by have := Hcn.out; omega))
              have HZk := Lib.hid (show Asc Z.sh.kv by have h := kv_asc Hasc.out b; rw [Hro.out] at h; rw [HZs.out]; exact h)
              clear HPN hb Hx
              generalize w8.heap.size = g14 at *
              obtain ⟨PZ, hPZ⟩ : ∃ P, Z.ptr = P := ⟨_, rfl⟩
              rw [hPZ] at HzZ_m
              rw [hPZ]
              have HPZ := Lib.hid hPZ; clear hPZ
              have HO5 := Lib.hid (show g14 + 1 < w9.heap.size from HrR_m.out.lt)
              have hd := do_any a Z w9 HZt_m.out (by have := HZn.out; omega)
              rw [HPZ.out, HZs.out, Hto.out, cmd_eta] at hd
              unfold repV repCells at hd
              have Hd2 := Lib.hid hd; clear hd
              obtain ⟨d0, d1, d2, d3, d4, d5, d6⟩ := HapW_m.out.ba.cells
              have s0 := HzZ_m.out.cell
              go_upto_region 21 with ((with_reducible refine Hd2.out.mono ?_); clear Hd2; rintro e w10 ⟨U, rfl, hx⟩; have Hx := Lib.hid hx; clear hx; have u0 := ((HzZ_m.out.below Hx.out.bel).below ((Below.refl w10.heap.size w10).alloc (Nat.le_refl _) (.cells #[.int .u8 0, .string { data := #[] }] 98))).cell; have u1 := ((HzZ_m.out.below Hx.out.bel).below ((Below.refl w10.heap.size w10).alloc (Nat.le_refl _) (.cells #[.int .u8 0, .string { data := #[] }] 98))).thawed 0; have hre : RepAt (w10.alloc (.cells #[.int .u8 0, .string { data := #[] }] 98)) w10.heap.size 0 ByteArray.empty := heap_alloc_new _ _; obtain ⟨u2, u3⟩ := hre.cells; have u4 := hre.thawed 0; have u5 := hre.thawed 1; clear hre; have n1 : ¬ g14 = w10.heap.size := (by have h1 := HzZ_m.out.lt; have h2 := Hx.out.bel.size; omega); have n2 : ¬ w10.heap.size = g14 := (by omega))
              clear d0 d1 d2 d3 d4 d5 d6 s0 u0 u1 u2 u3 u4 u5 n2
              change Code.wp _ _ _ _ (stW (w10.alloc (.cells #[.int .u8 0, .string { data := #[] }] 98)) g14 w10.heap.size U.ptr tc tt)
              obtain ⟨g16, hg16⟩ : ∃ g, w10.heap.size = g := ⟨_, rfl⟩
              have hre : RepAt (w10.alloc (.cells #[.int .u8 0, .string { data := #[] }] 98)) g16 0 ByteArray.empty := by rw [← hg16]; exact heap_alloc_new _ _
              have hbu : Below w10.heap.size w10 (w10.alloc (.cells #[.int .u8 0, .string { data := #[] }] 98)) := (Below.refl _ _).alloc (Nat.le_refl _) _
              have hbw := Hx.out.bel.trans (hbu.mono Hx.out.bel.size)
              have hge : w9.heap.size ≤ g16 := by rw [← hg16]; exact Hx.out.bel.size
              rw [hg16] at n1
              rw [hg16]
              have HtU := Lib.hid (Hx.out.at_.below hbu)
              generalize w10.alloc (.cells #[.int .u8 0, .string { data := #[] }] 98) = w10u at *
              have Hn1 := Lib.hid n1; clear n1
              have Hge := Lib.hid hge; clear hge hg16 hbu
              have HapW_nu := Lib.hid (HapW_m.out.below hbw)
              have HsW_nu := Lib.hid (HsW_m.out.below hbw)
              have HatW_nu := Lib.hid (HatW_m.out.below hbw)
              have HpW_nu := Lib.hid (HpW_m.out.below hbw)
              have HXW_nu := Lib.hid (HXW_m.out.below hbw)
              have HK_nu := Lib.hid ((hbw.block E (Array.getElem?_eq_some_iff.1 HK_m.out).1).trans HK_m.out)
              have HyX_nu := Lib.hid (HyX_m.out.below hbw)
              have HqR_nu := Lib.hid (HqR_m.out.below hbw)
              have HYt_nu := Lib.hid (HYt_m.out.below hbw)
              have HzZ_nu := Lib.hid (HzZ_m.out.below hbw)
              have HrR_nu := Lib.hid (HrR_m.out.below hbw)
              have HZt_nu := Lib.hid (HZt_m.out.below hbw)
              clear HapW_m HsW_m HatW_m HpW_m HXW_m HK_m HyX_m HqR_m HYt_m HzZ_m HrR_m HZt_m
              have HZ := Lib.hid (st_end HzZ_nu.out hre (Ne.symm Hn1.out) U.ptr tc tt)
              generalize stW w10u g14 g16 U.ptr tc tt = w11 at *
              clear hre hbw
              have HapW_n := Lib.hid (HapW_nu.out.stEnd HZ.out (by have h1 := HO.out; have h2 := Hge.out; have h3 := Hn1.out; have h4 := HO2.out; have h5 := HO3.out; have h6 := HO4.out; have h7 := HO5.out; omega) (by have h1 := HO.out; have h2 := Hge.out; have h3 := Hn1.out; have h4 := HO2.out; have h5 := HO3.out; have h6 := HO4.out; have h7 := HO5.out; omega))
              have HsW_n := Lib.hid (show VarAt w11 (gs) (.pointer P) 96 from (HZ.out.oth (gs) (by have h1 := HO.out; have h2 := Hge.out; have h3 := Hn1.out; have h4 := HO2.out; have h5 := HO3.out; have h6 := HO4.out; have h7 := HO5.out; omega) (by have h1 := HO.out; have h2 := Hge.out; have h3 := Hn1.out; have h4 := HO2.out; have h5 := HO3.out; have h6 := HO4.out; have h7 := HO5.out; omega)).trans HsW_nu.out)
              have HatW_n := Lib.hid (HZ.out.tree _ HatW_nu.out)
              have HpW_n := Lib.hid (show RepAt w11 (gx + 1) pc pt from (HZ.out.oth (gx + 1) (by have h1 := HO.out; have h2 := Hge.out; have h3 := Hn1.out; have h4 := HO2.out; have h5 := HO3.out; have h6 := HO4.out; have h7 := HO5.out; omega) (by have h1 := HO.out; have h2 := Hge.out; have h3 := Hn1.out; have h4 := HO2.out; have h5 := HO3.out; have h6 := HO4.out; have h7 := HO5.out; omega)).trans HpW_nu.out)
              have HXW_n := Lib.hid (HZ.out.tree _ HXW_nu.out)
              have HK_n := Lib.hid (show w11.heap[E]? = some (.deferred (some [])) from (HZ.out.oth (E) (by have h1 := HO.out; have h2 := Hge.out; have h3 := Hn1.out; have h4 := HO2.out; have h5 := HO3.out; have h6 := HO4.out; have h7 := HO5.out; omega) (by have h1 := HO.out; have h2 := Hge.out; have h3 := Hn1.out; have h4 := HO2.out; have h5 := HO3.out; have h6 := HO4.out; have h7 := HO5.out; omega)).trans HK_nu.out)
              have HyX_n := Lib.hid (show VarAt w11 (gx) (.pointer PY) 96 from (HZ.out.oth (gx) (by have h1 := HO.out; have h2 := Hge.out; have h3 := Hn1.out; have h4 := HO2.out; have h5 := HO3.out; have h6 := HO4.out; have h7 := HO5.out; omega) (by have h1 := HO.out; have h2 := Hge.out; have h3 := Hn1.out; have h4 := HO2.out; have h5 := HO3.out; have h6 := HO4.out; have h7 := HO5.out; omega)).trans HyX_nu.out)
              have HqR_n := Lib.hid (show RepAt w11 (g13) qc qt from (HZ.out.oth (g13) (by have h1 := HO.out; have h2 := Hge.out; have h3 := Hn1.out; have h4 := HO2.out; have h5 := HO3.out; have h6 := HO4.out; have h7 := HO5.out; omega) (by have h1 := HO.out; have h2 := Hge.out; have h3 := Hn1.out; have h4 := HO2.out; have h5 := HO3.out; have h6 := HO4.out; have h7 := HO5.out; omega)).trans HqR_nu.out)
              have HYt_n := Lib.hid (HZ.out.tree _ HYt_nu.out)
              have HrR_n := Lib.hid (show RepAt w11 (g14 + 1) rc rt from (HZ.out.oth (g14 + 1) (by have h1 := HO.out; have h2 := Hge.out; have h3 := Hn1.out; have h4 := HO2.out; have h5 := HO3.out; have h6 := HO4.out; have h7 := HO5.out; omega) (by have h1 := HO.out; have h2 := Hge.out; have h3 := Hn1.out; have h4 := HO2.out; have h5 := HO3.out; have h6 := HO4.out; have h7 := HO5.out; omega)).trans HrR_nu.out)
              have HZt_n := Lib.hid (HZ.out.tree _ HZt_nu.out)
              clear HapW_nu HsW_nu HatW_nu HpW_nu HXW_nu HK_nu HyX_nu HqR_nu HYt_nu HzZ_nu HrR_nu HZt_nu
              have HuU_n := Lib.hid HZ.out.st
              have HtR_n := Lib.hid HZ.out.rep
              have HUt_n := Lib.hid (HZ.out.tree _ HtU.out)
              have HUs := Lib.hid (show U.sh = S3 from Hx.out.shp)
              have HUn := Lib.hid (show U.cnt ≤ 102 from Nat.le_trans Hx.out.num (by have := HZn.out; omega))
              have HUk := Lib.hid (show Asc U.sh.kv by have h := kv_asc HZk.out a; rw [HZs.out, Hto.out] at h; rw [HUs.out]; exact h)
              clear HZ Hx HtU
              obtain ⟨PU, hPU⟩ : ∃ P, U.ptr = P := ⟨_, rfl⟩
              rw [hPU] at HuU_n
              rw [hPU]
              have HPU := Lib.hid hPU; clear hPU
              have hap := kv_apart Hasc.out a b hab (by have h := Hcn.out; rw [sh_cnt] at h; omega) (by rw [Hpo.out]; show SA.cnt < 256; have h := HXn.out; rw [sh_cnt, HXs.out] at h; omega) (by rw [Hro.out]; show SB.cnt < 256; have h := HZn.out; rw [sh_cnt, HZs.out] at h; omega)
              rw [Hpo.out, Hro.out] at hap
              simp only at hap
              rw [Hqo.out, Hto.out] at hap
              simp only at hap
              obtain ⟨⟨e1, e2⟩, ⟨e3, e4⟩, hnil⟩ := hap
              have hnil' : diffL Y.kvs U.kvs = [] := by
                show diffL Y.sh.kv U.sh.kv = []
                rw [HYs.out, HUs.out]
                exact hnil
              subst e1 e2 e3 e4
              have Hnil := Lib.hid hnil'; clear hnil hnil'
              have HO6 := Lib.hid (show E < w11.heap.size from (Array.getElem?_eq_some_iff.1 HK_n.out).1)
              have HO7 := Lib.hid (show w.heap.size + 2 < E from by have := HO.out; omega)
              clear HO HO2 HO3 HO4 HO5 Hge Hn1 Hqo Hro Hto HZs HZn HZk HXs HXn HXk HPX HPZ Hpo
              refine (wpIn_wide (n := 1)).1 ?_
              refine RegK.wpIn_region_calm (F := Fence.wide) (KeptW w11) [(0, 0), (2, 0), (1, 1), (3, 1), (4, 1), (5, 0)] (by kernel_rfl) (by kernel_rfl) (by kernel_rfl) (KeptW.drew w11) ?_
              dsimp only [RegK.pick, List.getElem?_cons_zero, List.getElem?_cons_succ]
              change RegK.Can _ _ _ _ _ _ _ _ w11.drew
              refine RegK.can_reads ?_
              intro K hK
              go_simp
              refine ⟨.agg #[.pointer PY], fun y hy => ?_, hK _ ?_⟩
              · have f0 := (HyX_n.out.below (KeptW.bel hy)).cell
                go_simp
              clear hK K
              refine RegK.can_reads ?_
              intro K hK
              go_simp
              refine ⟨.agg #[.pointer PU], fun y hy => ?_, hK _ ?_⟩
              · have f0 := (HuU_n.out.below (KeptW.bel hy)).cell
                go_simp
              clear hK K
              refine RegK.can_narrows (fun _ => trivial) ?_
              intro K K0 hK hK0
              go_simp
              refine ⟨trivial, ?_⟩
              refine (callsIn_wide.2 (tree_any PY w11.drew)).mono ?_
              rintro e xd ⟨rfl, hb⟩
              have hxa : KeptW w11 xd := KeptW.mono (KeptW.drew w11) hb
              refine hK (KeptW w11) _ _ (fun y h => h) hxa ?_
              clear hK K K0 hK0 hb
              refine RegK.can_narrows (fun _ => trivial) ?_
              intro K K0 hK hK0
              go_simp
              refine ⟨trivial, ?_⟩
              refine (callsIn_wide.2 (tree_any PU xd)).mono ?_
              rintro e yd ⟨rfl, hb⟩
              have hxb : KeptW w11 yd := KeptW.mono hxa hb
              refine hK (KeptW w11) _ _ (fun y h => h) hxb ?_
              clear hK K K0 hK0 hb hxa
              refine RegK.can_narrows (fun _ => trivial) ?_
              intro K K0 hK hK0
              go_simp
              refine ⟨trivial, ?_⟩
              refine (diff_in _ PY PU yd).mono ?_
              rintro e zd ⟨rfl, hz⟩
              have hbz : Below yd.heap.size yd zd := by rw [hz]; exact ((Below.refl _ _).alloc (Nat.le_refl _) _).alloc (by simp) _
              have hsz : zd.heap.size = yd.heap.size + 2 := by rw [hz]; simp
              have hba : VarAt zd yd.heap.size (.pointer PY) 58 := by
                rw [hz]
                exact (VarAt.new yd (.pointer PY) 58).below ((Below.refl _ _).alloc (Nat.le_refl _) _)
              have hbb : VarAt zd (yd.heap.size + 1) (.pointer PU) 58 := by
                have h := VarAt.new (yd.alloc (.cells #[.pointer PY] 58)) (.pointer PU) 58
                rw [World.size_alloc] at h
                rw [hz]
                exact h
              have hxz : KeptW w11 zd := KeptW.mono hxb hbz
              refine hK (KeptW w11) _ _ (fun y h => h) hxz ?_
              clear hK K K0 hK0 hz
              iterate 1 (refine RegK.can_reads ?_; intro K hK; go_simp; (first | (refine ⟨_, fun _ _ => rfl, hK _ ?_⟩) | (refine hK _ ?_)); clear hK K)
              refine RegK.can_calm ?_
              have hseq := dseq_some
              go_wp2_with fail
              clear hseq
              have hloA : Y.Lo yd.heap.size := (HYt_n.out.below (KeptW.bel hxb)).lo
              have hloB : U.Lo yd.heap.size := (HUt_n.out.below (KeptW.bel hxb)).lo
              have hstops := diff_stops (mm - 1) yd.heap.size (yd.heap.size + 1) yd.heap.size (yd.heap.size + 2) Y U zd (by omega) (by omega) (by omega) (by omega) (by rw [HPY.out]; exact hba.cell) (by rw [HPU.out]; exact hbb.cell) (HYt_n.out.below (KeptW.bel hxz)) (HUt_n.out.below (KeptW.bel hxz)) hloA.outOf hloB.outOf HYk.out HUk.out (by have h1 := HYn.out; have h2 := HUn.out; omega)
              have Hstops := Lib.hid hstops; clear hstops
              have Hsz := Lib.hid hsz; clear hsz
              have Hxz := Lib.hid (KeptW.bel hxz); clear hxz
              clear hloA hloB hba hbb hbz hxb
              obtain ⟨ny, hny⟩ : ∃ n, yd.heap.size = n := ⟨_, rfl⟩
              rw [hny] at Hstops Hsz ⊢
              clear hny
              rw [Hnil.out] at Hstops
              refine (wpIn_wide (n := mm)).1 ?_
              refine Range.wpIn_range (F := Fence.wide) rfl (by omega) (gf := 66) (lb := #[.pointer (some ⟨ny, 0, none⟩), .pointer (some ⟨ny + 1, 0, none⟩)]) rfl trivial (enters_of Try.func66 (by kernel_rfl) rfl)
                Hstops.out (fun h k => h.trans k) (keepC_b (by have := Hsz.out; omega)) (Below.refl _ _) (fun _ => rfl)
                (fun _ W => Below zd.heap.size zd W) (fun _ _ _ => False) (fun s W W' row hs hg hr => below_own (Nat.le_refl _) hs hg hr) (fun _ _ _ _ _ h _ _ => h) (Below.refl _ _) ?round2 ?done2 ?stop2
              case round2 =>
                rintro l pre x V hi hlen
                exact absurd hlen (by simp)
              case stop2 =>
                rintro E2 c pre V hE2 hpre h _
                exact h.elim
              case done2 =>
                rintro E2 ys V hE2 _ hI hK2
                clear Hstops
                have hW := Hxz.out.trans (hI.mono Hxz.out.size)
                have HapV := Lib.hid (HapW_n.out.below hW)
                have HpV := Lib.hid (HpW_n.out.below hW)
                have HqV := Lib.hid (HqR_n.out.below hW)
                have HrV := Lib.hid (HrR_n.out.below hW)
                have HtV := Lib.hid (HtR_n.out.below hW)
                have HKV := Lib.hid ((hW.block E HO6.out).trans HK_n.out)
                have HK2 := Lib.hid hK2; clear hK2
                have HO8 := Lib.hid (show E < E2 from Nat.lt_of_lt_of_le HO6.out (Nat.le_trans Hxz.out.size hE2))
                clear HapW_n HpW_n HqR_n HrR_n HtR_n HK_n hW hI hE2 Hxz Hsz
                obtain ⟨p0, p1⟩ := HpV.out.cells
                obtain ⟨q0, q1⟩ := HqV.out.cells
                obtain ⟨r0, r1⟩ := HrV.out.cells
                obtain ⟨t0, t1⟩ := HtV.out.cells
                go_wp2_with ((with_reducible refine (kwakes_any V).mono ?_); rintro e w12 ⟨rfl, hw⟩; have z0 := (HapV.out.br.below hw).cell; have z1 := (HapV.out.br.below hw).thawed 0)
                have l7 := HapV.out.below hw
                have hd2 : w12.heap[E2]? = some (.deferred (some [])) := (hw.block E2 (Array.getElem?_eq_some_iff.1 HK2.out).1).trans HK2.out
                have hd1 : w12.heap[E]? = some (.deferred (some [])) := (hw.block E (Array.getElem?_eq_some_iff.1 HKV.out).1).trans HKV.out
                have hE1 : E ≠ w.heap.size + 2 := by have := HO7.out; omega
                have hE3 : E2 ≠ w.heap.size + 2 := by have := HO7.out; have := HO8.out; omega
                have hEne : E ≠ E2 := by have := HO8.out; omega
                have hx2 : (w12.setCell ⟨w.heap.size + 2, 0, none⟩ (.bool true)).heap[E2]? = some (.deferred (some [])) := (Below.heap_setCell _ _ _ _ (by exact hE3)).trans hd2
                have hx1 : (w12.setCell ⟨w.heap.size + 2, 0, none⟩ (.bool true)).heap[E]? = some (.deferred (some [])) := (Below.heap_setCell _ _ _ _ (by exact hE1)).trans hd1
                have hbx : VarAt (w12.setCell ⟨w.heap.size + 2, 0, none⟩ (.bool true)) (w.heap.size + 2) (.bool true) 4 := l7.br.set
                have hbl : Below w.heap.size w (w12.setCell ⟨w.heap.size + 2, 0, none⟩ (.bool true)) := below_setV l7.bel (by omega)
                generalize w12.setCell ⟨w.heap.size + 2, 0, none⟩ (.bool true) = W6 at *
                have hy1 : (W6.putObj E2 (.deferred none)).heap[E]? = some (.deferred (some [])) := (World.putObj_heap_other hEne).trans hx1
                have hb2 : Below w.heap.size w (W6.putObj E2 (.deferred none)) := hbl.trans (belowK_b (w := w) (Nat.le_refl _) W6 E2 _ _ (by have := HO7.out; have := HO8.out; omega) hx2 rfl rfl)
                have hbx7 : VarAt (W6.putObj E2 (.deferred none)) (w.heap.size + 2) (.bool true) 4 := (World.putObj_heap_other (Ne.symm hE3)).trans hbx
                have hc3 := cell_kept hbx7.cell (grownBy_putObj' (W6.putObj E2 (.deferred none)) E (.deferred none)) (fun r e => by cases e; exact ⟨_, hy1, rfl⟩)
                have hb4 : Below w.heap.size w ((W6.putObj E2 (.deferred none)).putObj E (.deferred none)) := hb2.trans (belowK_b (w := w) (Nat.le_refl _) (W6.putObj E2 (.deferred none)) E _ _ (by have := HO7.out; omega) hy1 rfl rfl)
                refine ⟨by simp, .inl ⟨_, _, rfl, run_takeDeferred hx2, ?_⟩⟩
                refine ⟨by simp, .inl ⟨_, _, rfl, run_takeDeferred hy1, ?_⟩⟩
                refine ⟨.bool true, ?_, rfl, hb4⟩
                simp [results, Try.results15, go_sem, hc3]
theorem kvApart_law (a0 : Option Addr) (l0 cap0 : Nat) (z0 : List CmdV) (a b : CmdV) {w : World} (h0 : CmdsAt w a0 l0 z0) (_ : World) :
    Calls Try.prog 15 #[.slice a0 l0 cap0, .agg (cmdCells a).toArray, .agg (cmdCells b).toArray] w fun e w' => e = .returned (.bool true) ∧ Below w.heap.size w w' :=
  callsIn_wide.1 (kvApart_in a0 l0 cap0 z0 a b w h0 3 (Nat.le_refl _))
end Go.Proofs.Ytimhpncdlaildaa
