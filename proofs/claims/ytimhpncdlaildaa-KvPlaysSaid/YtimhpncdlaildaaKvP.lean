/- The law KvPlays. No condition. -/
import Derived.Test.YtimhpncdlaildaaKvH
import Derived.Test.YtimhpncdlaildaaKvF
import Derived.Test.YtimhpncdlaildaaKvO
namespace Go.Proofs.Ytimhpncdlaildaa
open Go.RowKit

set_option maxRecDepth 100000 in
theorem ofT_any (P : Option Addr) (w : World) : Calls Try.prog 57 #[.pointer P] w fun e w' => e = .returned (.agg #[.pointer P]) ∧ Below w.heap.size w w' := by
  have hb1 := (Below.refl w.heap.size w).alloc (Nat.le_refl _) (.cells #[.pointer none] 96)
  have h1 := VarAt.new w (.pointer none) 96
  go_enter Try.func57, Try.ntmps57
  go_upto_region 1 with fail
  change Code.wp _ _ _ _ (w.alloc (.cells #[.pointer none] 96))
  generalize w.alloc (.cells #[.pointer none] 96) = w1 at *
  have c0 := h1.cell
  have c1 := h1.thawed 0
  have h2 := (h1.set (x := .pointer P)).cell
  have hb2 := below_setV (i := 0) (x := .pointer P) hb1 (Nat.le_refl _)
  have Hb := Lib.hid hb2; clear hb1 hb2 h1
  go_wp2_with fail
  clear c0 c1
  generalize w1.setCell ⟨w.heap.size, 0, none⟩ (.pointer P) = w2 at *
  refine bodyPost_ret (v := .agg #[.pointer P]) (by simp [results, Try.results57, go_sem, h2] <;> rfl) rfl ?_
  exact ⟨rfl, Hb.out⟩

/-- A tree and the slice of its pairs, that the law keeps. -/
structure KvEnt (w : World) (m : Nat) (T : Tr) (A : Option Addr) (n c : Nat) : Prop where
  tree : TreeAt w T
  pairs : PairsAt w A n T.kvs
  ok : POk A n c
  ty : PTy w A
  asc : Asc T.sh.kv
  few : T.cnt ≤ m
theorem KvEnt.below {w w' : World} {m : Nat} {T : Tr} {A : Option Addr} {n c : Nat} (h : KvEnt w m T A n c) (hb : Below w.heap.size w w') : KvEnt w' m T A n c :=
  ⟨h.tree.below hb, h.pairs.below hb, h.ok, h.ty.below hb, h.asc, h.few⟩
theorem KvEnt.len {w : World} {m : Nat} {T : Tr} {A : Option Addr} {n c : Nat} (h : KvEnt w m T A n c) : n ≤ m := by
  have h1 := h.pairs.hlen
  have h2 := h.few
  rw [sh_cnt, cnt_kv] at h2
  have h3 : T.kvs.length = T.sh.kv.length := rfl
  omega
theorem kvDo_asc {S : Sh} (h : Asc S.kv) (c : CmdV) : Asc (kvDo S c).sh.kv := by
  unfold kvDo
  by_cases hm : mayC c = true
  · rw [if_pos hm]
    by_cases h1 : c.kind = 1
    · rw [if_pos h1]; unfold kvGet; split <;> exact h
    rw [if_neg h1]
    by_cases h2 : c.kind = 2
    · rw [if_pos h2]
      unfold kvPut
      cases S.look c.key with
      | none =>
        by_cases hf : 256 ≤ S.cnt
        · simp only [hf, if_true]; exact h
        · simp only [hf, if_false]; exact asc_put h c.key c.fresh none
      | some v => exact asc_put h c.key c.fresh (some v)
    rw [if_neg h2]
    by_cases h3 : c.kind = 3
    · rw [if_pos h3]
      unfold kvDel
      cases S.look c.key with
      | none => exact h
      | some v => exact asc_del h c.key (some v)
    rw [if_neg h3]
    by_cases h4 : c.kind = 4
    · rw [if_pos h4]
      unfold kvCas
      cases S.look c.key with
      | none => exact h
      | some v =>
        by_cases hf : v = c.old
        · simp only [hf, if_true]; exact asc_put h c.key c.fresh (some c.old)
        · simp only [hf, if_false]; exact h
    rw [if_neg h4]
    exact h
  · rw [if_neg hm]
    exact h
theorem KvEnt.setC {y : World} {g i m n c : Nat} {T : Tr} {A : Option Addr} {x : Value} {cs : Array Value} {t : TypeId} (h : KvEnt y m T A n c) (hr : y.heap[g]? = some (.cells cs t (0, 0))) (hc : cs.size ≠ 7) (ht : t ≠ 70) : KvEnt (y.setCell ⟨g, i, none⟩ x) m T A n c := by
  have key : ∀ b o, A = some ⟨b, o, none⟩ → (y.setCell ⟨g, i, none⟩ x).heap[b]? = y.heap[b]? := fun b o he => by
    obtain ⟨cs', h1⟩ := h.ty b o he
    refine Below.heap_setCell _ _ _ _ (fun e => ?_)
    have e' : b = g := e
    subst e'
    rw [hr] at h1
    cases h1
    exact ht rfl
  refine ⟨TreeAt.setC hr hc h.tree, ⟨h.pairs.hlen, h.pairs.hmax, fun j u hj => ?_⟩, h.ok, fun b o he => ?_, h.asc, h.few⟩
  · obtain ⟨b, o, e1, e2, e3⟩ := h.pairs.cells j u hj
    refine ⟨b, o, e1, by simpa [World.setCell] using e2, fun k v hk => ?_⟩
    rw [← e3 k v hk]
    simp only [World.cell?, key b o e1]
  · obtain ⟨cs', h1⟩ := h.ty b o he
    exact ⟨cs', (key b o he).trans h1⟩

set_option maxRecDepth 100000 in
set_option maxHeartbeats 16000000 in
theorem kvPlays_any (a0 : Option Addr) (l0 cap0 : Nat) (z0 : List TAct) (a1 : Option Addr) (l1 cap1 : Nat) (z1 : List CmdV) (w : World) (h0 : TActsAt w a0 l0 z0) (h1 : CmdsAt w a1 l1 z1) :
    Calls Try.prog 14 #[.slice a0 l0 cap0, .slice a1 l1 cap1] w fun e w' => e = .returned (.bool true) ∧ Below w.heap.size w w' := by
  have hl0 := h0.hlen
  have hl1 := h1.hlen
  have hgr0 := tgreat_any a0 l0 cap0 z0 w h0
  have hgr1 := kgreat_any a1 l1 cap1 z1 w h1
  cases hg0 : tgreatS z0 with
  | true =>
    rw [hg0] at hgr0
    clear h0 hl0 h1 hl1 hgr1
    have Hgr := Lib.hid hgr0; clear hgr0
    go_enter Try.func14, Try.ntmps14
    go_wp2_with (first
      | ((with_reducible refine Hgr.out.mono ?_); clear Hgr; rintro e w' ⟨rfl, rfl⟩)
      | ((with_reducible refine (kwakes_any w).mono ?_); rintro e w3 ⟨rfl, hw⟩; have Hw := Lib.hid hw; clear hw))
    go_ret
    exact ⟨rfl, Hw.out⟩
  | false =>
  rw [hg0] at hgr0
  cases hg1 : kgreatS z1 with
  | true =>
    rw [hg1] at hgr1
    clear h0 hl0 h1 hl1
    have Hgr0 := Lib.hid hgr0; clear hgr0
    have Hgr1 := Lib.hid hgr1; clear hgr1
    go_enter Try.func14, Try.ntmps14
    go_wp2_with (first
      | ((with_reducible refine Hgr0.out.mono ?_); clear Hgr0; rintro e w' ⟨rfl, rfl⟩)
      | ((with_reducible refine Hgr1.out.mono ?_); clear Hgr1; rintro e w' ⟨rfl, rfl⟩)
      | ((with_reducible refine (kwakes_any w).mono ?_); rintro e w3 ⟨rfl, hw⟩; have Hw := Lib.hid hw; clear hw))
    go_ret
    exact ⟨rfl, Hw.out⟩
  | false =>
    rw [hg1] at hgr1
    obtain ⟨hlen0, hsz0⟩ := tgreat_ok hg0
    obtain ⟨hlen1, _⟩ := kgreat_ok hg1
    have hlen0' : l0 ≤ 300 := by omega
    have hlen1' : l1 ≤ 100 := by omega
    have Hl0 := Lib.hid hl0; clear hl0
    have H0 := Lib.hid h0; clear h0
    have H1 := Lib.hid h1; clear h1
    have Hsz := Lib.hid hsz0; clear hsz0 hlen0 hlen1 hg0 hg1 hl1
    have Hgr0 := Lib.hid hgr0; clear hgr0
    have Hgr1 := Lib.hid hgr1; clear hgr1
    go_enter Try.func14, Try.ntmps14
    go_upto_region 4 with (first
      | ((with_reducible refine Hgr0.out.mono ?_); clear Hgr0; rintro e w' ⟨rfl, rfl⟩)
      | ((with_reducible refine Hgr1.out.mono ?_); clear Hgr1; rintro e w' ⟨rfl, rfl⟩)
      | ((with_reducible refine (ofT_any none w).mono ?_); rintro e wo ⟨rfl, hw⟩; have Hwo := Lib.hid hw; clear hw))
    have HS0 := Lib.hid (VarAt.new wo (.pointer none) 96)
    have HB0 := Lib.hid (Hwo.out.alloc Hwo.out.size (.cells #[.pointer none] 96))
    obtain ⟨g, hg⟩ : ∃ g, wo.heap.size = g := ⟨_, rfl⟩
    have Hgl := Lib.hid (show w.heap.size ≤ g by rw [← hg]; exact Hwo.out.size)
    rw [hg] at HS0 ⊢
    change Code.wp _ _ _ _ (wo.alloc (.cells #[.pointer none] 96))
    generalize wo.alloc (.cells #[.pointer none] 96) = w0 at *
    clear Hwo hg
    have s0 := HS0.out.cell
    go_wp2_with ((with_reducible refine (tree_any none w0).mono ?_); rintro e w1 ⟨rfl, hw⟩; have Hw1 := Lib.hid hw; clear hw s0)
    have HS1 := Lib.hid (HS0.out.below Hw1.out)
    have HB1 := Lib.hid (HB0.out.trans (Hw1.out.mono HB0.out.size))
    clear HS0 HB0 Hw1
    go_loopw [6, 7, 8] (fun s6 s7 s8 wr => ∃ (i : Nat) (T : Tr) (A : Option Addr) (n c : Nat), i ≤ l0 ∧ s8 = .int .i64 (i : Int) ∧ s7 = .pointer T.ptr ∧ s6 = .slice A n c ∧ VarAt wr g (.pointer none) 96 ∧ KvEnt wr i T A n c ∧ Below w.heap.size w wr) (fun _ _ s8 _ => l0 - (intOf s8).toNat)
    case atStart => exact ⟨0, .nil, none, 0, 0, by omega, rfl, rfl, rfl, HS1.out, ⟨trivial, pairs_none, .inl ⟨rfl, rfl, rfl⟩, (fun b o e => (by cases e)), List.Pairwise.nil, Nat.le_refl _⟩, HB1.out⟩
    case round =>
      obtain ⟨i, T, A, n, c, hi, rfl, rfl, rfl, hs, hent, hbel⟩ := hrel
      clear HS1 HB1
      have hn := hent.len
      have Hs := Lib.hid hs; clear hs
      have Hent := Lib.hid hent; clear hent
      have Hbel := Lib.hid hbel; clear hbel
      by_cases hlt : i < l0
      · have hlt' : (i : Int) < (l0 : Int) := by omega
        obtain ⟨b, o, rfl, hbl, c0, c1, c2⟩ := tacts_cells (H0.out.below Hbel.out) hlt
        have hsucc := tsucc (n := i) (by omega)
        have hk := (Hsz.out i (by have := Hl0.out; omega)).1
        have hcA : ∀ y, Below wr.heap.size wr y → y.cell? ⟨b, o + i * 3 + 1, none⟩ = some (.string (z0.getD i default).key) := fun y hy => (hy.cell (p := ⟨b, o + i * 3 + 1, none⟩) hbl).trans c1
        have hcB : ∀ y, Below wr.heap.size wr y → y.cell? ⟨b, o + i * 3, none⟩ = some (.int .u8 ((z0.getD i default).act.toNat : Int)) := fun y hy => (hy.cell (p := ⟨b, o + i * 3, none⟩) hbl).trans c0
        have hcC : ∀ y, Below wr.heap.size wr y → y.cell? ⟨b, o + i * 3 + 2, none⟩ = some (.string (z0.getD i default).val) := fun y hy => (hy.cell (p := ⟨b, o + i * 3 + 2, none⟩) hbl).trans c2
        generalize z0.getD i default = x at *
        have hi1 : i + 1 ≤ l0 := hlt
        have hdoes := does_any x (by unfold maxLen; omega) T wr.heap.size wr (Nat.le_refl _) Hent.out.tree.lo Hent.out.tree (by have := Hent.out.few; omega)
        have hput := fun (y : World) (hy : Below wr.heap.size wr y) => put10_any A n c T.kvs x.key x.val y (Hent.out.pairs.below hy) Hent.out.ok Hent.out.asc (by omega)
        have hdel := fun (y : World) (hy : Below wr.heap.size wr y) => del10_any A n c T.kvs x.key y (Hent.out.pairs.below hy) Hent.out.ok (Hent.out.ty.below hy) Hent.out.asc (by omega)
        have hkv := step_kv Hent.out.asc x
        have hasc := asc_step Hent.out.asc x
        obtain ⟨x0, x1, x2⟩ := x
        simp only at c0 c1 c2 hk hcA hcB hcC hput hdel
        have Hdoes := Lib.hid (show Calls Try.prog 38 #[.pointer T.ptr, .agg #[.int .u8 (x0.toNat : Int), .string x1, .string x2]] wr _ from hdoes); clear hdoes
        have Hput := Lib.hid hput; clear hput
        have Hdel := Lib.hid hdel; clear hdel
        have Hkv := Lib.hid (And.intro hkv hasc); clear hkv hasc
        have HcA := Lib.hid hcA; clear hcA
        have HcB := Lib.hid hcB; clear hcB
        have HcC := Lib.hid hcC; clear hcC
        by_cases e0 : x0.toNat = 0
        · have e0' : ((x0.toNat : Int) == 0) = true := by simp; omega
          have E0 := Lib.hid e0; clear e0
          go_upto_region 11 with ((with_reducible refine Hdoes.out.mono ?_); rintro e w3 ⟨X, rfl, hx⟩; have Hx := Lib.hid hx; clear hx Hdoes; have d0 := HcB.out w3 Hx.out.bel)
          have d1 := HcA.out w3 Hx.out.bel
          go_wp2_with ((with_reducible refine (Hdel.out w3 Hx.out.bel).mono ?_); rintro e w4 ⟨A', n', c', rfl, hp4, hb4, hok4, hty4⟩; have Hp4 := Lib.hid (And.intro hp4 hty4); clear hp4 hty4; have Hb4 := Lib.hid hb4; clear hb4; have Hok4 := Lib.hid hok4; clear hok4)
          go_roundw
          case rel =>
            have hsh : X.sh.kv = rmL T.sh.kv x1 := by rw [Hx.out.shp, Hkv.out.1]; unfold saysL; rw [if_pos E0.out]
            exact ⟨i + 1, X, A', n', c', hi1, rfl, rfl, rfl, (Hs.out.below Hx.out.bel).below Hb4.out, ⟨Hx.out.at_.below Hb4.out, by rw [show X.kvs = _ from hsh]; exact Hp4.out.1, Hok4.out, Hp4.out.2, by rw [Hx.out.shp]; exact Hkv.out.2, by have h1 := Hx.out.num; have h2 := Hent.out.few; omega⟩, Hbel.out.trans ((Hx.out.bel.trans (Hb4.out.mono Hx.out.bel.size)).mono Hbel.out.size)⟩
          case measure => simp [intOf]; omega
        · have e0' : ((x0.toNat : Int) == 0) = false := by simp; omega
          have E0 := Lib.hid e0; clear e0
          go_upto_region 12 with ((with_reducible refine Hdoes.out.mono ?_); rintro e w3 ⟨X, rfl, hx⟩; have Hx := Lib.hid hx; clear hx Hdoes; have d0 := HcB.out w3 Hx.out.bel)
          have Hlt := Lib.hid hlt'
          refine (wpIn_wide (n := 1)).1 ?_
          refine RegK.wpIn_region_can (F := Fence.wide) (KeptW w3) [(0, 0), (1, 0), (2, 0), (3, 0), (4, 0), (5, 0), (6, 0), (7, 0), (8, 0), (9, 0), (10, 0), (11, 1), (12, 0)] (by kernel_rfl) (by kernel_rfl) (by kernel_rfl) (fun _ _ d _ _ h => by cases d <;> exact h) ⟨rfl, rfl, rfl, Nat.le_refl _, fun _ _ => rfl⟩ ?_
          dsimp only [RegK.pick, List.getElem?_cons_zero, List.getElem?_cons_succ]
          change RegK.Can _ _ _ _ _ _ _ _ w3.drew
          have hkd : KeptW w3 w3.drew := ⟨rfl, rfl, rfl, Nat.le_refl _, fun _ _ => rfl⟩
          iterate 5 (refine RegK.can_reads ?_; intro K hK; go_simp; (first | (refine ⟨_, fun _ _ => rfl, hK _ ?_⟩) | (refine hK _ ?_)); clear hK K)
          refine RegK.can_reads ?_
          intro K hK
          go_simp
          refine ⟨.string x1, fun y hy => ?_, hK _ ?_⟩
          · have f0 := HcA.out y (Hx.out.bel.trans ((KeptW.bel hy).mono Hx.out.bel.size))
            go_simp
          clear hK K
          iterate 4 (refine RegK.can_reads ?_; intro K hK; go_simp; (first | (refine ⟨_, fun _ _ => rfl, hK _ ?_⟩) | (refine hK _ ?_)); clear hK K)
          refine RegK.can_reads ?_
          intro K hK
          go_simp
          refine ⟨.string x2, fun y hy => ?_, hK _ ?_⟩
          · have f0 := HcC.out y (Hx.out.bel.trans ((KeptW.bel hy).mono Hx.out.bel.size))
            go_simp
          clear hK K
          refine RegK.can_narrows (fun _ => trivial) ?_
          intro K K0 hK hK0
          go_simp
          refine ⟨trivial, ?_⟩
          refine (callsIn_wide.2 (Hput.out w3.drew (Hx.out.bel.trans ((KeptW.bel hkd).mono Hx.out.bel.size)))).mono ?_
          rintro e w4 ⟨A', n', c', rfl, hp4, hb4, hok4, hty4⟩
          have hx4 : KeptW w3 w4 := KeptW.mono hkd hb4
          refine hK (KeptW w3) _ _ (fun y h => h) hx4 ?_
          clear hK K K0 hK0 hkd hb4
          have Hp4 := Lib.hid (And.intro hp4 hty4); clear hp4 hty4
          have Hok4 := Lib.hid hok4; clear hok4
          have Hb4 := Lib.hid (KeptW.bel hx4); clear hx4
          iterate 1 (refine RegK.can_reads ?_; intro K hK; go_simp; (first | (refine ⟨_, fun _ _ => rfl, hK _ ?_⟩) | (refine hK _ ?_)); clear hK K)
          refine RegK.can_nil ?_
          go_wp2_with fail
          go_roundw
          case rel =>
            have hsh : X.sh.kv = insL T.sh.kv x1 x2 := by rw [Hx.out.shp, Hkv.out.1]; unfold saysL; rw [if_neg E0.out]
            exact ⟨i + 1, X, A', n', c', hi1, rfl, rfl, rfl, (Hs.out.below Hx.out.bel).below Hb4.out, ⟨Hx.out.at_.below Hb4.out, by rw [show X.kvs = _ from hsh]; exact Hp4.out.1, Hok4.out, Hp4.out.2, by rw [Hx.out.shp]; exact Hkv.out.2, by have h1 := Hx.out.num; have h2 := Hent.out.few; omega⟩, Hbel.out.trans ((Hx.out.bel.trans (Hb4.out.mono Hx.out.bel.size)).mono Hbel.out.size)⟩
          case measure => simp [intOf]; omega
      · have hlt' : ¬ (i : Int) < (l0 : Int) := by omega
        obtain ⟨P, hP⟩ : ∃ P, T.ptr = P := ⟨_, rfl⟩
        rw [hP]
        have HP := Lib.hid hP; clear hP
        go_upto_region 14 with ((with_reducible refine (ofT_any P wr).mono ?_); rintro e w2 ⟨rfl, hb2⟩; have Hb2 := Lib.hid hb2; clear hb2; have Hs2 := Lib.hid (Hs.out.below Hb2.out); have s0 := Hs2.out.cell; have s1 := Hs2.out.thawed 0)
        have HS3 := Lib.hid (Hs2.out.set (x := .pointer P))
        have hE3 := (Hent.out.below Hb2.out).setC (i := 0) (x := .pointer P) Hs2.out (by simp) (by decide)
        have HE3 := Lib.hid (show KvEnt (w2.setCell ⟨g, 0, none⟩ (.pointer P)) 300 T A n c from ⟨hE3.tree, hE3.pairs, hE3.ok, hE3.ty, hE3.asc, Nat.le_trans hE3.few (by omega)⟩)
        clear hE3
        have HB3 := Lib.hid (below_setV (b := g) (i := 0) (x := .pointer P) (Hbel.out.trans (Hb2.out.mono Hbel.out.size)) Hgl.out)
        clear s0 s1 Hs2 Hb2 Hs Hent Hbel
        generalize w2.setCell ⟨g, 0, none⟩ (.pointer P) = w3 at *
        clear hlt hi hn hlt'
        go_wp2_with fail
        go_loopw [6, 9] (fun s6 s9 wr => ∃ (i : Nat) (T : Tr) (A : Option Addr) (n c : Nat), i ≤ l1 ∧ s9 = .int .i64 (i : Int) ∧ s6 = .slice A n c ∧ VarAt wr g (.pointer T.ptr) 96 ∧ KvEnt wr (300 + i) T A n c ∧ Below w.heap.size w wr) (fun _ s9 _ => l1 - (intOf s9).toNat)
        case atStart => exact ⟨0, T, A, n, c, by omega, rfl, rfl, by rw [HP.out]; exact HS3.out, HE3.out, HB3.out⟩
        case round =>
          clear HS3 HE3 HB3 HP
          obtain ⟨i, T, A, n, cp, hi, rfl, rfl, hs, hent, hbel⟩ := hrel
          have hn := hent.len
          have Hs := Lib.hid hs; clear hs
          have Hent := Lib.hid hent; clear hent
          have Hbel := Lib.hid hbel; clear hbel
          obtain ⟨P, hP⟩ : ∃ P, T.ptr = P := ⟨_, rfl⟩
          rw [hP] at Hs
          have HP := Lib.hid hP; clear hP
          by_cases hlt : i < l1
          · have hlt' : (i : Int) < (l1 : Int) := by omega
            obtain ⟨b, o, rfl, hbl, c0, c1, c2, c3, c4, c5, c6⟩ := cmds_cells (H1.out.below Hbel.out) hlt
            have hsucc := tsucc (n := i) (by omega)
            have hi1 : i + 1 ≤ l1 := hlt
            generalize z1.getD i default = c at *
            have hcl : ∀ y, Below wr.heap.size wr y → y.cell? ⟨b, o + i * 7, none⟩ = some (.int .u8 (c.client.toNat : Int)) ∧ y.cell? ⟨b, o + i * 7 + 1, none⟩ = some (.int .u32 (c.seq.toNat : Int)) ∧ y.cell? ⟨b, o + i * 7 + 2, none⟩ = some (.int .u8 (c.kind.toNat : Int)) ∧ y.cell? ⟨b, o + i * 7 + 3, none⟩ = some (.string c.key) ∧ y.cell? ⟨b, o + i * 7 + 4, none⟩ = some (.string c.old) ∧ y.cell? ⟨b, o + i * 7 + 5, none⟩ = some (.string c.fresh) ∧ y.cell? ⟨b, o + i * 7 + 6, none⟩ = some (.int .u8 (c.set.toNat : Int)) :=
              fun y hy => ⟨(hy.cell (p := ⟨b, _, none⟩) hbl).trans c0, (hy.cell (p := ⟨b, _, none⟩) hbl).trans c1, (hy.cell (p := ⟨b, _, none⟩) hbl).trans c2, (hy.cell (p := ⟨b, _, none⟩) hbl).trans c3, (hy.cell (p := ⟨b, _, none⟩) hbl).trans c4, (hy.cell (p := ⟨b, _, none⟩) hbl).trans c5, (hy.cell (p := ⟨b, _, none⟩) hbl).trans c6⟩
            have Hc := Lib.hid hcl; clear hcl
            have hdo11 := fun (y : World) (hy : Below wr.heap.size wr y) => do11_any c T.sh A n cp y (Hent.out.pairs.below hy) Hent.out.ok (Hent.out.ty.below hy) Hent.out.asc (by omega)
            have hasc := kvDo_asc Hent.out.asc c
            obtain ⟨⟨oS, oc, ot⟩, ho⟩ : ∃ o, kvDo T.sh c = o := ⟨_, rfl⟩
            unfold RefPostD at hdo11
            rw [ho] at hdo11 hasc
            rw [cmd_eta] at hdo11
            unfold repV repCells at hdo11
            have HO := Lib.hid (And.intro ho hasc); clear ho hasc
            have Hdo11 := Lib.hid hdo11; clear hdo11
            clear c0 c1 c2 c3 c4 c5 c6
            go_upto_region 17 with fail
            refine (wpIn_wide (n := 1)).1 ?_
            refine RegL.wpIn_region_lays (F := Fence.wide) (KeptW wr) [⟨9, 10, .cells #[.pointer none] 96 (0, 0)⟩, ⟨10, 11, .cells (repCells 0 ByteArray.empty).toArray 98 (0, 0)⟩] [(0, 0), (1, 0), (2, 0), (3, 0), (4, 0), (5, 1), (6, 2), (7, 2), (8, 2), (11, 3), (12, 3)] (by kernel_rfl) (by kernel_rfl) (by kernel_rfl) (fun p hp => by simp only [List.mem_cons, List.not_mem_nil, or_false] at hp; rcases hp with rfl | rfl; exact lays_any laySt rfl; exact lays_any layRep rfl)
              (fun _ _ d _ _ h => by cases d <;> exact h) (fun _ _ d _ _ h => by cases d <;> exact h) ⟨rfl, rfl, rfl, Nat.le_refl _, fun _ _ => rfl⟩ (keptW_mono wr) ?_
            dsimp only [RegK.pick, List.getElem?_cons_zero, List.getElem?_cons_succ]
            refine RegL.reads ?_
            intro K hK
            go_simp
            refine ⟨.agg #[.pointer P], fun y hy => ?_, hK _ ?_⟩
            · have f0 := (Hs.out.below (KeptW.bel hy)).cell
              go_simp
            clear hK K
            iterate 3 (refine RegL.reads ?_; intro K hK; go_simp; (first | (refine ⟨_, fun _ _ => rfl, hK _ ?_⟩) | (refine hK _ ?_)); clear hK K)
            refine RegL.reads ?_
            intro K hK
            go_simp
            refine ⟨.agg #[.int .u8 (c.client.toNat : Int), .int .u32 (c.seq.toNat : Int), .int .u8 (c.kind.toNat : Int), .string c.key, .string c.old, .string c.fresh, .int .u8 (c.set.toNat : Int)], fun y hy => ?_, hK _ ?_⟩
            · obtain ⟨f0, f1, f2, f3, f4, f5, f6⟩ := Hc.out y (KeptW.bel hy)
              go_simp
            clear hK K
            refine RegL.adds (fun _ => trivial) ?_
            go_simp
            intro x hx K hK
            refine ⟨trivial, ?_⟩
            have hd := do_any c T x (Hent.out.tree.below (KeptW.bel hx)) (by have := Hent.out.few; omega)
            rw [HP.out, HO.out.1, cmd_eta] at hd
            unfold repV repCells at hd
            refine (callsIn_wide.2 hd).mono ?_
            clear hd
            rintro e xc ⟨X, rfl, hX⟩
            have hxc : KeptW wr xc := KeptW.mono hx hX.bel
            refine hK (KeptW xc) _ _ hX.bel (fun y h => KeptW.mono (KeptW.mono hx hX.bel) (KeptW.bel h)) (keptW_mono xc) (Below.refl _ _) ?_
            have HX := Lib.hid (And.intro hX.at_ (And.intro (show X.sh = oS from hX.shp) hX.num))
            clear hK K hX hx
            obtain ⟨PX, hPX⟩ : ∃ P, X.ptr = P := ⟨_, rfl⟩
            rw [hPX]
            have HPX := Lib.hid hPX; clear hPX
            iterate 3 (refine RegL.pures ?_; intro K hK; go_simp; (first | (refine ⟨_, fun _ => rfl, hK _ ?_⟩) | (refine hK _ ?_)); clear hK K)
            refine RegL.last ?_
            intro gg y hF hy
            have hyk : KeptW wr y := KeptW.mono hxc (KeptW.bel hy)
            obtain ⟨hg1, hg2⟩ := hF.1 ⟨9, 10, .cells #[.pointer none] 96 (0, 0)⟩ (by simp) rfl
            obtain ⟨hg3, hg4⟩ := hF.1 ⟨10, 11, .cells (repCells 0 ByteArray.empty).toArray 98 (0, 0)⟩ (by simp) rfl
            have hne : gg 10 ≠ gg 9 := hF.2 ⟨10, 11, .cells (repCells 0 ByteArray.empty).toArray 98 (0, 0)⟩ (by simp) ⟨9, 10, .cells #[.pointer none] 96 (0, 0)⟩ (by simp) rfl rfl (by simp)
            have hs : VarAt y (gg 9) (.pointer none) 96 := hg1
            have hr : RepAt y (gg 10) 0 ByteArray.empty := hg3
            have hsl : wr.heap.size ≤ gg 9 := hg2
            have hrl : wr.heap.size ≤ gg 10 := hg4
            simp only [RegL.putS, RegL.ptr, if_true]
            clear hF hg1 hg2 hg3 hg4
            generalize gg 9 = gs at *
            generalize gg 10 = gr at *
            have hr2 : RepAt (y.setCell ⟨gs, 0, none⟩ (.pointer PX)) gr 0 ByteArray.empty := hr.other hne
            have f0 := hs.cell
            have f1 := hs.thawed 0
            obtain ⟨f2, f3⟩ := hr2.cells
            have f4 := hr2.thawed 0
            have f5 := hr2.thawed 1
            have HZ := Lib.hid (st_end hs hr hne PX oc ot)
            clear hs hr hr2
            refine RegK.can_frees (fun _ => trivial) ?_
            intro K K0 hK hK0
            go_simp
            refine hK (fun _ => True) _ _ trivial ?_
            clear hK K hK0 K0
            refine RegK.can_frees (fun _ => trivial) ?_
            intro K K0 hK hK0
            go_simp
            refine hK (fun _ => True) _ _ trivial ?_
            clear hK K hK0 K0
            refine RegK.can_nil ?_
            clear f0 f1 f2 f3 f4 f5
            change Exit.then _ _ _ _ (stW y gs gr PX oc ot)
            have Hkeep := Lib.hid (HZ.out.bel wr.heap.size wr (KeptW.bel hyk) hsl hrl)
            have HSx := Lib.hid HZ.out.st
            have HRx := Lib.hid HZ.out.rep
            have HTx := Lib.hid (HZ.out.tree _ (HX.out.1.below (KeptW.bel hy)))
            have Hxs := Lib.hid HX.out.2
            clear HZ HX hxc hyk hy hne
            generalize stW y gs gr PX oc ot = w1 at *
            obtain ⟨f0, f1, f2, f3, f4, f5, f6⟩ := Hc.out w1 Hkeep.out
            go_upto_region 19 with ((with_reducible refine (Hdo11.out w1 Hkeep.out).mono ?_); rintro e w2 ⟨A2, n2, c2, rfl, hp2, hb2, hok2, hty2⟩; have HE2 := Lib.hid (And.intro hp2 (And.intro hok2 hty2)); clear hp2 hok2 hty2; have Hb2 := Lib.hid hb2; clear hb2)
            clear f0 f1 f2 f3 f4 f5 f6
            have HR3 := Lib.hid (show RepAt (w2.alloc (.cells (repCells oc ot).toArray 98)) w2.heap.size oc ot from heap_alloc_new _ _)
            have Hb3 := Lib.hid ((Below.refl w2.heap.size w2).alloc (Nat.le_refl _) (.cells (repCells oc ot).toArray 98))
            change Code.wp _ _ _ _ (w2.alloc (.cells (repCells oc ot).toArray 98))
            generalize w2.alloc (.cells (repCells oc ot).toArray 98) = w3 at *
            have hb13 := Hb2.out.trans (Hb3.out.mono Hb2.out.size)
            have hb03 := Hkeep.out.trans (hb13.mono Hkeep.out.size)
            have HEX := Lib.hid (show KvEnt w3 (300 + (i + 1)) X A2 n2 c2 from ⟨HTx.out.below hb13, by rw [show X.kvs = oS.kv from by show X.sh.kv = _; rw [Hxs.out.1]]; exact HE2.out.1.below Hb3.out, HE2.out.2.1, HE2.out.2.2.below Hb3.out, by rw [Hxs.out.1]; exact HO.out.2, by have h1 := Hxs.out.2; have h2 := Hent.out.few; omega⟩)
            have HET := Lib.hid (Hent.out.below hb03)
            have HS3 := Lib.hid (Hs.out.below hb03)
            have HX3 := Lib.hid (HSx.out.below hb13)
            have HB3 := Lib.hid (Hbel.out.trans (hb03.mono Hbel.out.size))
            obtain ⟨r0, r1⟩ := (HRx.out.below hb13).cells
            obtain ⟨q0, q1⟩ := HR3.out.cells
            have x0 := HX3.out.cell
            have s0 := HS3.out.cell
            clear hb13 hb03 Hb2 HE2 Hb3 Hkeep HTx HRx HSx HR3 Hs Hent Hbel Hdo11 hsl hrl Hc Hxs HO
            have hax := fun (y : World) (hy : Below w3.heap.size w3 y) => alike_any X A2 n2 c2 X.kvs y (HEX.out.tree.below hy) (HEX.out.pairs.below hy) rfl (by have := HEX.out.len; omega)
            have hat := fun (y : World) (hy : Below w3.heap.size w3 y) => alike_any T A n cp T.kvs y (HET.out.tree.below hy) (HET.out.pairs.below hy) rfl (by omega)
            rw [HPX.out] at hax
            rw [HP.out] at hat
            have Hax := Lib.hid hax; clear hax
            have Hat := Lib.hid hat; clear hat
            go_upto_region 21 with (first
              | ((with_reducible refine (tree_any PX w3).mono ?_); rintro e w4 ⟨rfl, hb4⟩; have Hb4 := Lib.hid hb4; clear hb4)
              | ((with_reducible refine (Hax.out _ Hb4.out).mono ?_); rintro e w5 ⟨rfl, hb5⟩; have Hb5 := Lib.hid (Hb4.out.trans (hb5.mono Hb4.out.size)); clear hb5; have s5 := (HS3.out.below Hb5.out).cell)
              | ((with_reducible refine (tree_any P _).mono ?_); rintro e w6 ⟨rfl, hb6⟩; have Hb6 := Lib.hid (Hb5.out.trans (hb6.mono Hb5.out.size)); clear hb6)
              | ((with_reducible refine (Hat.out _ Hb6.out).mono ?_); rintro e w7 ⟨rfl, hb7⟩; have Hb7 := Lib.hid (Hb6.out.trans (hb7.mono Hb6.out.size)); clear hb7))
            have HEX7 := Lib.hid (HEX.out.below Hb7.out)
            have HS7 := Lib.hid (HS3.out.below Hb7.out)
            have HX7 := Lib.hid (HX3.out.below Hb7.out)
            have HB7 := Lib.hid (HB3.out.trans (Hb7.out.mono HB3.out.size))
            have y0 := HX7.out.cell
            have y1 := HS7.out.cell
            have y2 := HS7.out.thawed 0
            clear r0 r1 q0 q1 x0 s0 s5 Hb4 Hb5 Hb6 Hb7 HEX HS3 HX3 HB3 Hax Hat HET
            go_wp2_with fail
            go_roundw
            case rel =>
              exact ⟨i + 1, X, A2, n2, c2, hi1, rfl, rfl, by rw [HPX.out]; exact HS7.out.set, HEX7.out.setC HS7.out (by simp) (by decide), below_setV HB7.out Hgl.out⟩
            case measure => simp [intOf]; omega
          · have hlt' : ¬ (i : Int) < (l1 : Int) := by omega
            go_wp2_with ((with_reducible refine (kwakes_any _).mono ?_); rintro e w5 ⟨rfl, hb5⟩; have Hb5 := Lib.hid hb5; clear hb5)
            go_ret
            exact ⟨rfl, Hbel.out.trans (Hb5.out.mono Hbel.out.size)⟩
theorem kvPlays_law (a0 : Option Addr) (l0 cap0 : Nat) (z0 : List TAct) (a1 : Option Addr) (l1 cap1 : Nat) (z1 : List CmdV) {w : World} (h0 : TActsAt w a0 l0 z0) (h1 : CmdsAt w a1 l1 z1) (_ : World) :
    Calls Try.prog 14 #[.slice a0 l0 cap0, .slice a1 l1 cap1] w fun e w' => e = .returned (.bool true) ∧ Below w.heap.size w w' := kvPlays_any a0 l0 cap0 z0 a1 l1 cap1 z1 w h0 h1
end Go.Proofs.Ytimhpncdlaildaa
