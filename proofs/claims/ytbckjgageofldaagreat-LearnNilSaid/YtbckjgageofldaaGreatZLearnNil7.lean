/- Trees: del, put. Condition: few enough nodes that their number is an int. -/
import Derived.Test.YtbckjgageofldaaGreatZLearnNil2
namespace Go.Proofs.YtbckjgageofldaaGreat
open Go.RowKit
def Sh.del (key : ByteArray) : Sh → Sh
 | .nil => .nil
 | .node k v wt l r => if slt key k then .node k v wt (l.del key) r else if slt k key then .node k v wt l (r.del key) else Sh.join l r
def Sh.put (k v : ByteArray) (wt : BitVec 64) : Sh → Sh
 | .nil => .node k v wt .nil .nil
 | .node k0 v0 wt0 l r => if aboveB wt k wt0 k0 then .node k v wt ((Sh.node k0 v0 wt0 l r).split k).1 ((Sh.node k0 v0 wt0 l r).split k).2 else if slt k k0 then .node k0 v0 wt0 (l.put k v wt) r else if slt k0 k then .node k0 v0 wt0 l (r.put k v wt) else .node k v wt l r
section
variable {b : Nat} {k v key : ByteArray} {wt : BitVec 64} {l r : Tr}
theorem has_lt (h : slt key k = true) : (Tr.node b k v wt l r).has key = l.has key := by
 have hf : (Tr.node b k v wt l r).find key = l.find key := by
  conv => lhs; unfold Tr.find
  rw [if_neg (fun e => by rw [e, slt_irrefl] at h; cases h), if_pos h]
 unfold Tr.has
 rw [hf]
theorem has_gt (h : slt k key = true) : (Tr.node b k v wt l r).has key = r.has key := by
 have hf : (Tr.node b k v wt l r).find key = r.find key := by
  conv => lhs; unfold Tr.find
  rw [if_neg (slt_ne h), if_neg (by rw [slt_asymm h]; exact Bool.false_ne_true)]
 unfold Tr.has
 rw [hf]
theorem has_eq : (Tr.node b k v wt l r).has k = 1 := by
 have hf : (Tr.node b k v wt l r).find k = .node b k v wt l r := by
  conv => lhs; unfold Tr.find
  rw [if_pos rfl]
 unfold Tr.has
 rw [hf]
 rfl
theorem NodeAt.drew {w : World} {pl pr : Option Addr} {c d : Nat} (h : NodeAt w b k v wt pl pr c d) : NodeAt w.drew b k v wt pl pr c d := h
end
structure DelPost (n : Nat) (key : ByteArray) (T : Tr) (w w' : World) (D : Tr) : Prop where
 at_ : TreeAt w' D
 bel : Below w.heap.size w w'
 shp : D.sh = T.sh.del key
 mad : Made n T D
 new : D.newc n ≤ D.dep
 num : D.cnt + 1 = T.cnt
structure PutPost (n : Nat) (k v : ByteArray) (wt : BitVec 64) (T : Tr) (w w' : World) (D : Tr) : Prop where
 at_ : TreeAt w' D
 bel : Below w.heap.size w w'
 shp : D.sh = T.sh.put k v wt
 mad : Made n T D
 new : D.newc n ≤ T.dep + 1
 num : D.cnt + T.has k = T.cnt + 1
 root : 1 ≤ D.newc n
set_option maxRecDepth 100000 in
set_option maxHeartbeats 2000000 in
theorem del_any (key : ByteArray) (T : Tr) : ∀ (n : Nat) (w : World), n ≤ w.heap.size → T.Lo n → TreeAt w T → T.cnt ≤ 4611686018427387904 → T.has key = 1 →
  Calls Tryz.prog 177 #[.pointer T.ptr, .string key] w fun e w' => ∃ D, e = .returned (.pointer D.ptr) ∧ DelPost n key T w w' D := by
 induction T with
 | nil => intro n w _ _ _ _ h; cases h
 | node b k v wt l r ihl ihr =>
  intro n w hn hlo hat hc hhas
  have hnode := hat.1
  simp only [Tr.cnt] at hc
  have Hat := Lib.hid hat; clear hat
  have Hlo := Lib.hid hlo; clear hlo
  obtain ⟨c0, c1, c2, c3, c4, c5, c6⟩ := hnode.cells
  clear c1 c2 c3 c4 c5 c6 hnode
  change Calls _ _ #[.pointer (some ⟨b, 0, none⟩), .string key] w _
  by_cases h1 : slt key k = true
  ·
   have h1' : Op.bytesLess key.toList k.toList = true := h1
   rw [has_lt h1] at hhas
   have Hih := Lib.hid (ihl n w.drew hn Hlo.out.2.1 Hat.out.2.1.drew (by omega) hhas); clear ihl ihr
   have H1 := Lib.hid h1; clear h1
   go_enter Tryz.func177, Tryz.ntmps177
   go_upto_region 2 with fail
   clear c0 h1' hhas
   have hkd : KeptW w w.drew := ⟨rfl, rfl, rfl, Nat.le_refl _, fun _ _ => rfl⟩
   have Hkd := Lib.hid hkd; clear hkd
   refine RegR.wp_region_can (KeptW w) [(0, 0), (1, 0), (2, 0), (3, 0), (4, 0), (5, 0), (7, 0), (8, 0), (9, 0), (10, 0), (6, 1), (11, 1), (12, 0)] (by kernel_rfl) (by kernel_rfl) (fun _ _ d _ _ h => by cases d <;> exact h) Hkd.out ?_
   dsimp only [RegR.pick, List.getElem?_cons_zero, List.getElem?_cons_succ]
   iterate 4 (refine RegR.can_reads (fun K hK => ?_); go_simp; refine ⟨_, fun _ _ => rfl, hK _ ?_⟩; clear hK K)
   refine RegR.can_reads (fun K hK => ?_)
   go_simp
   refine ⟨.pointer l.ptr, fun y hy => ?_, hK _ ?_⟩
   ·
    obtain ⟨f0, f1, f2, f3, f4, f5, f6⟩ := ((Hat.out.1).below hy).cells
    clear f0 f1 f2 f5 f6
    go_simp
   clear hK K
   iterate 4 (refine RegR.can_reads (fun K hK => ?_); go_simp; refine ⟨_, fun _ _ => rfl, hK _ ?_⟩; clear hK K)
   refine RegR.can_reads (fun K hK => ?_)
   go_simp
   refine ⟨.pointer r.ptr, fun y hy => ?_, hK _ ?_⟩
   ·
    obtain ⟨f0, f1, f2, f3, f4, f5, f6⟩ := ((Hat.out.1).below hy).cells
    clear f0 f1 f2 f5 f6
    go_simp
   clear hK K
   refine RegR.can_turns (fun K K0 hK hK0 => ?_)
   go_simp
   refine (Hih.out).mono ?_
   rintro e w2 ⟨J, rfl, hj⟩
   refine hK _ _ (Hkd.out.mono hj.bel) ?_
   clear hK hK0 K K0
   have Hk2 := Lib.hid (Hkd.out.mono hj.bel)
   have Hj := Lib.hid hj; clear hj
   have hcnt := Hj.out.num
   refine RegR.can_turns (fun K K0 hK hK0 => ?_)
   go_simp
   refine (with_any J r w2 (Hat.out.1.below Hk2.out) Hj.out.at_ (Hat.out.2.2.below Hk2.out) (by omega)).mono ?_
   rintro e w3 ⟨b2, rfl, hb2, hat3, hbel3⟩
   refine hK _ _ (Hk2.out.mono hbel3) ?_
   clear hK hK0 K K0
   have Hat3 := Lib.hid hat3; clear hat3
   have Hbel3 := Lib.hid hbel3; clear hbel3
   have Hk3 := Lib.hid (Hk2.out.mono Hbel3.out)
   iterate 1 (refine RegR.can_reads (fun K hK => ?_); go_simp; refine ⟨_, fun _ _ => rfl, hK _ ?_⟩; clear hK K)
   refine RegR.can_nil ?_
   go_wp2_with fail
   go_ret
   have hnb : n ≤ b2 := Nat.le_trans hn (Nat.le_trans Hk2.out.bel.size hb2)
   refine ⟨.node b2 k v wt J r, rfl, Hat3.out, Hk3.out, ?_, .new hnb (Hj.out.mad.up (.left (.refl _))) (.old (.right (.refl _))), ?_, ?_⟩
   ·
    have hs := Hj.out.shp
    simp only [Tr.sh]
    rw [Sh.del, if_pos H1.out, hs]
   ·
    have h1 := Hj.out.new
    have h2 := Hlo.out.2.2.newc
    have h3 : ¬ b2 < n := by omega
    simp only [Tr.newc, if_neg h3, h2, Tr.dep]
    omega
   ·
    simp only [Tr.cnt]
    omega
  by_cases h2 : slt k key = true
  ·
   have h1' : Op.bytesLess key.toList k.toList = false := slt_asymm h2
   have hnt := txt_ne (fun e : key = k => slt_ne h2 e.symm)
   rw [has_gt h2] at hhas
   have Hih := Lib.hid (ihr n w.drew hn Hlo.out.2.2 Hat.out.2.2.drew (by omega) hhas); clear ihl ihr
   have H1 := Lib.hid h1; clear h1
   have H2 := Lib.hid h2; clear h2
   go_enter Tryz.func177, Tryz.ntmps177
   go_upto_region 4 with fail
   clear c0 h1' hhas hnt
   have hkd : KeptW w w.drew := ⟨rfl, rfl, rfl, Nat.le_refl _, fun _ _ => rfl⟩
   have Hkd := Lib.hid hkd; clear hkd
   refine RegR.wp_region_can (KeptW w) [(0, 0), (1, 0), (2, 0), (3, 0), (4, 0), (5, 0), (6, 0), (7, 0), (8, 0), (9, 0), (10, 1), (11, 1), (12, 0)] (by kernel_rfl) (by kernel_rfl) (fun _ _ d _ _ h => by cases d <;> exact h) Hkd.out ?_
   dsimp only [RegR.pick, List.getElem?_cons_zero, List.getElem?_cons_succ]
   iterate 4 (refine RegR.can_reads (fun K hK => ?_); go_simp; refine ⟨_, fun _ _ => rfl, hK _ ?_⟩; clear hK K)
   refine RegR.can_reads (fun K hK => ?_)
   go_simp
   refine ⟨.pointer l.ptr, fun y hy => ?_, hK _ ?_⟩
   ·
    obtain ⟨f0, f1, f2, f3, f4, f5, f6⟩ := ((Hat.out.1).below hy).cells
    clear f0 f1 f2 f5 f6
    go_simp
   clear hK K
   iterate 3 (refine RegR.can_reads (fun K hK => ?_); go_simp; refine ⟨_, fun _ _ => rfl, hK _ ?_⟩; clear hK K)
   refine RegR.can_reads (fun K hK => ?_)
   go_simp
   refine ⟨.pointer r.ptr, fun y hy => ?_, hK _ ?_⟩
   ·
    obtain ⟨f0, f1, f2, f3, f4, f5, f6⟩ := ((Hat.out.1).below hy).cells
    clear f0 f1 f2 f5 f6
    go_simp
   clear hK K
   iterate 1 (refine RegR.can_reads (fun K hK => ?_); go_simp; refine ⟨_, fun _ _ => rfl, hK _ ?_⟩; clear hK K)
   refine RegR.can_turns (fun K K0 hK hK0 => ?_)
   go_simp
   refine (Hih.out).mono ?_
   rintro e w2 ⟨J, rfl, hj⟩
   refine hK _ _ (Hkd.out.mono hj.bel) ?_
   clear hK hK0 K K0
   have Hk2 := Lib.hid (Hkd.out.mono hj.bel)
   have Hj := Lib.hid hj; clear hj
   have hcnt := Hj.out.num
   refine RegR.can_turns (fun K K0 hK hK0 => ?_)
   go_simp
   refine (with_any l J w2 (Hat.out.1.below Hk2.out) (Hat.out.2.1.below Hk2.out) Hj.out.at_ (by omega)).mono ?_
   rintro e w3 ⟨b2, rfl, hb2, hat3, hbel3⟩
   refine hK _ _ (Hk2.out.mono hbel3) ?_
   clear hK hK0 K K0
   have Hat3 := Lib.hid hat3; clear hat3
   have Hbel3 := Lib.hid hbel3; clear hbel3
   have Hk3 := Lib.hid (Hk2.out.mono Hbel3.out)
   iterate 1 (refine RegR.can_reads (fun K hK => ?_); go_simp; refine ⟨_, fun _ _ => rfl, hK _ ?_⟩; clear hK K)
   refine RegR.can_nil ?_
   go_wp2_with fail
   go_ret
   have hnb : n ≤ b2 := Nat.le_trans hn (Nat.le_trans Hk2.out.bel.size hb2)
   refine ⟨.node b2 k v wt l J, rfl, Hat3.out, Hk3.out, ?_, .new hnb (.old (.left (.refl _))) (Hj.out.mad.up (.right (.refl _))), ?_, ?_⟩
   ·
    have hs := Hj.out.shp
    simp only [Tr.sh]
    rw [Sh.del, if_neg H1.out, if_pos H2.out, hs]
   ·
    have h1 := Hj.out.new
    have h2 := Hlo.out.2.1.newc
    have h3 : ¬ b2 < n := by omega
    simp only [Tr.newc, if_neg h3, h2, Tr.dep]
    omega
   ·
    simp only [Tr.cnt]
    omega
  ·
   have h1' : Op.bytesLess key.toList k.toList = false := by simpa [slt] using h1
   have he : k = key := (slt_total (by simpa [slt] using h1') (by simpa using h2)).symm
   subst he
   have H1 := Lib.hid h1; clear h1 h2 ihl ihr hhas
   have Hjn := Lib.hid (join_any (.node b k v wt l r) (l.cnt + r.cnt) l r (Nat.le_refl _) n w.drew hn Hlo.out.2.1 Hlo.out.2.2 Hat.out.2.1.drew Hat.out.2.2.drew (.left (.refl _)) (.right (.refl _)) (by omega))
   go_enter Tryz.func177, Tryz.ntmps177
   go_upto_region 5 with fail
   clear c0 h1'
   have hkd : KeptW w w.drew := ⟨rfl, rfl, rfl, Nat.le_refl _, fun _ _ => rfl⟩
   have Hkd := Lib.hid hkd; clear hkd
   refine RegR.wp_region_can (KeptW w) [(0, 0), (1, 0), (2, 0), (3, 0), (4, 0), (5, 0), (6, 0), (7, 0), (8, 1), (9, 0)] (by kernel_rfl) (by kernel_rfl) (fun _ _ d _ _ h => by cases d <;> exact h) Hkd.out ?_
   dsimp only [RegR.pick, List.getElem?_cons_zero, List.getElem?_cons_succ]
   iterate 3 (refine RegR.can_reads (fun K hK => ?_); go_simp; refine ⟨_, fun _ _ => rfl, hK _ ?_⟩; clear hK K)
   refine RegR.can_reads (fun K hK => ?_)
   go_simp
   refine ⟨.pointer l.ptr, fun y hy => ?_, hK _ ?_⟩
   ·
    obtain ⟨f0, f1, f2, f3, f4, f5, f6⟩ := (Hat.out.1.below hy).cells
    clear f0 f1 f2 f5 f6
    go_simp
   clear hK K
   iterate 3 (refine RegR.can_reads (fun K hK => ?_); go_simp; refine ⟨_, fun _ _ => rfl, hK _ ?_⟩; clear hK K)
   refine RegR.can_reads (fun K hK => ?_)
   go_simp
   refine ⟨.pointer r.ptr, fun y hy => ?_, hK _ ?_⟩
   ·
    obtain ⟨f0, f1, f2, f3, f4, f5, f6⟩ := (Hat.out.1.below hy).cells
    clear f0 f1 f2 f5 f6
    go_simp
   clear hK K
   refine RegR.can_turns (fun K K0 hK hK0 => ?_)
   go_simp
   refine (Hjn.out).mono ?_
   rintro e w2 ⟨J, rfl, hj⟩
   refine hK _ _ (Hkd.out.mono hj.bel) ?_
   clear hK hK0 K K0
   have Hk2 := Lib.hid (Hkd.out.mono hj.bel)
   have Hj := Lib.hid hj; clear hj
   iterate 1 (refine RegR.can_reads (fun K hK => ?_); go_simp; refine ⟨_, fun _ _ => rfl, hK _ ?_⟩; clear hK K)
   refine RegR.can_nil ?_
   go_wp2_with fail
   go_ret
   refine ⟨J, rfl, Hj.out.at_, Hk2.out, ?_, Hj.out.mad, Hj.out.new, ?_⟩
   ·
    rw [Hj.out.shp]
    simp only [Tr.sh]
    rw [Sh.del, if_neg H1.out, if_neg H1.out]
   ·
    rw [Hj.out.num]
    simp only [Tr.cnt]
    omega
set_option maxRecDepth 100000 in
set_option maxHeartbeats 2000000 in
theorem put_node (bn : Nat) (k v : ByteArray) (wt : BitVec 64) (T : Tr) : ∀ (n : Nat) (w : World) (pl pr : Option Addr) (c d : Nat), n ≤ w.heap.size → T.Lo n → TreeAt w T → T.cnt ≤ 4611686018427387903 → NodeAt w bn k v wt pl pr c d →
  Calls Tryz.prog 175 #[.pointer T.ptr, .pointer (some ⟨bn, 0, none⟩)] w fun e w' => ∃ D, e = .returned (.pointer D.ptr) ∧ PutPost n k v wt T w w' D := by
 induction T with
 | nil =>
  intro n w pl pr c d hn _ _ _ hnode
  have Hnode := Lib.hid hnode
  obtain ⟨c0, c1, c2, c3, c4, c5, c6⟩ := hnode.cells
  clear c1 c2 c3 c4 c5 c6 hnode
  have Hsp := Lib.hid (show Calls Tryz.prog 190 #[.pointer none, .string k] w _ from split_any k .nil n w hn trivial trivial (Nat.zero_le _))
  change Calls _ _ #[.pointer none, .pointer (some ⟨bn, 0, none⟩)] w _
  go_enter Tryz.func175, Tryz.ntmps175
  go_upto_region 3 with ((with_reducible refine Hsp.out.mono ?_); rintro e w1 ⟨lo, hi, rfl, hp⟩; have Hp := Lib.hid hp; clear hp)
  have hnum := Hp.out.num
  simp only [Tr.cnt] at hnum
  have Hw := Lib.hid (with_any lo hi w1 (Hnode.out.below Hp.out.bel) Hp.out.atLo Hp.out.atHi (by omega))
  clear c0
  go_wp2_with ((with_reducible refine Hw.out.mono ?_); rintro e w2 ⟨b', rfl, hb', hat2, hbel2⟩; have Hb' := Lib.hid hb'; clear hb'; have Hat2 := Lib.hid hat2; clear hat2; have Hbel2 := Lib.hid hbel2; clear hbel2)
  go_ret
  have hs := Hp.out.shp
  simp only [Tr.sh, Sh.split, Prod.mk.injEq] at hs
  have hnb : n ≤ b' := Nat.le_trans hn (Nat.le_trans Hp.out.bel.size Hb'.out)
  have h3 : ¬ b' < n := by omega
  have h4 := Hp.out.new
  simp only [Tr.dep] at h4
  refine ⟨.node b' k v wt lo hi, rfl, Hat2.out, Hp.out.bel.trans (Hbel2.out.mono Hp.out.bel.size), ?_, .new hnb Hp.out.mLo Hp.out.mHi, ?_, ?_, ?_⟩
  ·
   simp only [Tr.sh]
   rw [Sh.put, ← hs.1, ← hs.2]
  ·
   simp only [Tr.newc, if_neg h3, Tr.dep]
   omega
  ·
   simp only [Tr.cnt]
   omega
  ·
   simp only [Tr.newc, if_neg h3]
   omega
 | node b k0 v0 wt0 l r ihl ihr =>
  intro n w pl pr c d hn hlo hat hc hnode
  have hab := above_any w hnode hat.1
  have hsz := hat.1.lt
  simp only [Tr.cnt] at hc
  have Hat := Lib.hid hat; clear hat
  have Hlo := Lib.hid hlo; clear hlo
  have Hnode := Lib.hid hnode; clear hnode
  obtain ⟨ab, hab'⟩ : ∃ ab, aboveB wt k wt0 k0 = ab := ⟨_, rfl⟩
  rw [hab'] at hab
  have Hab := Lib.hid hab; clear hab
  change Calls _ _ #[.pointer (some ⟨b, 0, none⟩), .pointer (some ⟨bn, 0, none⟩)] w _
  go_enter Tryz.func175, Tryz.ntmps175
  cases ab with
  | true =>
   go_upto_region 2 with ((with_reducible refine Hab.out.mono ?_); rintro e w0 ⟨rfl, hb0⟩; have Hb0 := Lib.hid hb0; clear hb0)
   have Hsp := Lib.hid (show Calls Tryz.prog 190 #[.pointer (some ⟨b, 0, none⟩), .string k] w0 _ from split_any k (.node b k0 v0 wt0 l r) n w0 (Nat.le_trans hn Hb0.out.size) Hlo.out (Hat.out.below Hb0.out) (by simp only [Tr.cnt]; omega))
   obtain ⟨c0, c1, c2, c3, c4, c5, c6⟩ := (Hnode.out.below Hb0.out).cells
   clear c1 c2 c3 c4 c5 c6 ihl ihr
   go_upto_region 3 with ((with_reducible refine Hsp.out.mono ?_); rintro e w1 ⟨lo, hi, rfl, hp⟩; have Hp := Lib.hid hp; clear hp)
   have hnum := Hp.out.num
   simp only [Tr.cnt] at hnum
   have Hk1 := Lib.hid (Hb0.out.trans (Hp.out.bel.mono Hb0.out.size))
   have Hw := Lib.hid (with_any lo hi w1 (Hnode.out.below Hk1.out) Hp.out.atLo Hp.out.atHi (by omega))
   clear c0
   go_wp2_with ((with_reducible refine Hw.out.mono ?_); rintro e w2 ⟨b', rfl, hb', hat2, hbel2⟩; have Hb' := Lib.hid hb'; clear hb'; have Hat2 := Lib.hid hat2; clear hat2; have Hbel2 := Lib.hid hbel2; clear hbel2)
   go_ret
   have hs := Hp.out.shp
   have hnb : n ≤ b' := Nat.le_trans hn (Nat.le_trans Hk1.out.size Hb'.out)
   have h3 : ¬ b' < n := by omega
   have h4 := Hp.out.new
   refine ⟨.node b' k v wt lo hi, rfl, Hat2.out, Hk1.out.trans (Hbel2.out.mono Hk1.out.size), ?_, .new hnb Hp.out.mLo Hp.out.mHi, ?_, ?_, ?_⟩
   ·
    simp only [Tr.sh] at hs ⊢
    rw [Sh.put, if_pos hab', hs]
   ·
    simp only [Tr.newc, if_neg h3]
    omega
   ·
    simp only [Tr.cnt]
    omega
   ·
    simp only [Tr.newc, if_neg h3]
    omega
  | false =>
   go_upto_region 4 with ((with_reducible refine Hab.out.mono ?_); rintro e w0 ⟨rfl, hb0⟩; have Hb0 := Lib.hid hb0; clear hb0)
   have Habn := Lib.hid (show ¬ aboveB wt k wt0 k0 = true by rw [hab']; exact Bool.false_ne_true); clear hab' Hab
   obtain ⟨c0, c1, c2, c3, c4, c5, c6⟩ := (Hnode.out.below Hb0.out).cells
   obtain ⟨d0, d1, d2, d3, d4, d5, d6⟩ := (Hat.out.1.below Hb0.out).cells
   clear c1 c2 c3 c4 c5 c6 d1 d2 d3 d4 d5 d6
   by_cases h1 : slt k k0 = true
   ·
    have h1' : Op.bytesLess k.toList k0.toList = true := h1
    have hhas := has_lt (b := b) (v := v0) (wt := wt0) (l := l) (r := r) h1
    have H1 := Lib.hid h1; clear h1
    go_quiet (fail)
    go_upto_region 5 with fail
    clear c0 d0 h1'
    have Hb1 := Lib.hid (show Below w.heap.size w (w0.drewN nq) from Hb0.out.trans ⟨rfl, rfl, rfl, Nat.le_refl _, fun _ _ => rfl⟩)
    generalize w0.drewN nq = w1 at *
    have Hih := Lib.hid (ihl n w1.drew pl pr c d (Nat.le_trans hn Hb1.out.size) Hlo.out.2.1 (Hat.out.2.1.below Hb1.out).drew (by omega) (Hnode.out.below Hb1.out).drew); clear ihl ihr
    have hkd : KeptW w1 w1.drew := ⟨rfl, rfl, rfl, Nat.le_refl _, fun _ _ => rfl⟩
    have Hkd := Lib.hid hkd; clear hkd
    refine RegR.wp_region_can (KeptW w1) [(0, 0), (1, 0), (2, 0), (3, 0), (4, 0), (5, 0), (7, 0), (8, 0), (9, 0), (10, 0), (6, 1), (11, 1), (12, 0)] (by kernel_rfl) (by kernel_rfl) (fun _ _ d _ _ h => by cases d <;> exact h) Hkd.out ?_
    dsimp only [RegR.pick, List.getElem?_cons_zero, List.getElem?_cons_succ]
    iterate 4 (refine RegR.can_reads (fun K hK => ?_); go_simp; refine ⟨_, fun _ _ => rfl, hK _ ?_⟩; clear hK K)
    refine RegR.can_reads (fun K hK => ?_)
    go_simp
    refine ⟨.pointer l.ptr, fun y hy => ?_, hK _ ?_⟩
    ·
     obtain ⟨f0, f1, f2, f3, f4, f5, f6⟩ := ((Hat.out.1.below Hb1.out).below hy).cells
     clear f0 f1 f2 f5 f6
     go_simp
    clear hK K
    iterate 4 (refine RegR.can_reads (fun K hK => ?_); go_simp; refine ⟨_, fun _ _ => rfl, hK _ ?_⟩; clear hK K)
    refine RegR.can_reads (fun K hK => ?_)
    go_simp
    refine ⟨.pointer r.ptr, fun y hy => ?_, hK _ ?_⟩
    ·
     obtain ⟨f0, f1, f2, f3, f4, f5, f6⟩ := ((Hat.out.1.below Hb1.out).below hy).cells
     clear f0 f1 f2 f5 f6
     go_simp
    clear hK K
    refine RegR.can_turns (fun K K0 hK hK0 => ?_)
    go_simp
    refine (Hih.out).mono ?_
    rintro e w2 ⟨J, rfl, hj⟩
    refine hK _ _ (Hkd.out.mono hj.bel) ?_
    clear hK hK0 K K0
    have Hk2 := Lib.hid (Hkd.out.mono hj.bel)
    have Hk2' := Lib.hid (Hb1.out.trans (Hk2.out.bel.mono Hb1.out.size))
    have Hj := Lib.hid hj; clear hj
    have hcnt := Hj.out.num
    refine RegR.can_turns (fun K K0 hK hK0 => ?_)
    go_simp
    refine (with_any J r w2 (Hat.out.1.below Hk2'.out) Hj.out.at_ (Hat.out.2.2.below Hk2'.out) (by omega)).mono ?_
    rintro e w3 ⟨b2, rfl, hb2, hat3, hbel3⟩
    refine hK _ _ (Hk2.out.mono hbel3) ?_
    clear hK hK0 K K0
    have Hat3 := Lib.hid hat3; clear hat3
    have Hbel3 := Lib.hid hbel3; clear hbel3
    iterate 1 (refine RegR.can_reads (fun K hK => ?_); go_simp; refine ⟨_, fun _ _ => rfl, hK _ ?_⟩; clear hK K)
    refine RegR.can_nil ?_
    go_wp2_with fail
    go_ret
    have hnb : n ≤ b2 := Nat.le_trans hn (Nat.le_trans Hk2'.out.size hb2)
    have h3 : ¬ b2 < n := by omega
    refine ⟨.node b2 k0 v0 wt0 J r, rfl, Hat3.out, Hk2'.out.trans (Hbel3.out.mono Hk2'.out.size), ?_, .new hnb (Hj.out.mad.up (.left (.refl _))) (.old (.right (.refl _))), ?_, ?_, ?_⟩
    ·
     have hs := Hj.out.shp
     simp only [Tr.sh]
     rw [Sh.put, if_neg Habn.out, if_pos H1.out, hs]
    ·
     have h1 := Hj.out.new
     have h2 := Hlo.out.2.2.newc
     simp only [Tr.newc, if_neg h3, h2, Tr.dep]
     omega
    ·
     rw [hhas]
     simp only [Tr.cnt]
     omega
    ·
     simp only [Tr.newc, if_neg h3]
     omega
   by_cases h2 : slt k0 k = true
   ·
    have h1' : Op.bytesLess k.toList k0.toList = false := slt_asymm h2
    have hnt := txt_ne (fun e : k = k0 => slt_ne h2 e.symm)
    have hhas := has_gt (b := b) (v := v0) (wt := wt0) (l := l) (r := r) h2
    have H1 := Lib.hid h1; clear h1
    have H2 := Lib.hid h2; clear h2
    go_quiet (fail)
    generalize nq = q1 at *
    go_upto_region 6 with fail
    go_quiet (fail)
    go_upto_region 7 with fail
    clear c0 d0 h1' hnt
    have Hb1 := Lib.hid (show Below w.heap.size w ((w0.drewN q1).drewN nq) from Hb0.out.trans ⟨rfl, rfl, rfl, Nat.le_refl _, fun _ _ => rfl⟩)
    generalize (w0.drewN q1).drewN nq = w1 at *
    have Hih := Lib.hid (ihr n w1.drew pl pr c d (Nat.le_trans hn Hb1.out.size) Hlo.out.2.2 (Hat.out.2.2.below Hb1.out).drew (by omega) (Hnode.out.below Hb1.out).drew); clear ihl ihr
    have hkd : KeptW w1 w1.drew := ⟨rfl, rfl, rfl, Nat.le_refl _, fun _ _ => rfl⟩
    have Hkd := Lib.hid hkd; clear hkd
    refine RegR.wp_region_can (KeptW w1) [(0, 0), (1, 0), (2, 0), (3, 0), (4, 0), (5, 0), (6, 0), (7, 0), (8, 0), (9, 0), (10, 1), (11, 1), (12, 0)] (by kernel_rfl) (by kernel_rfl) (fun _ _ d _ _ h => by cases d <;> exact h) Hkd.out ?_
    dsimp only [RegR.pick, List.getElem?_cons_zero, List.getElem?_cons_succ]
    iterate 4 (refine RegR.can_reads (fun K hK => ?_); go_simp; refine ⟨_, fun _ _ => rfl, hK _ ?_⟩; clear hK K)
    refine RegR.can_reads (fun K hK => ?_)
    go_simp
    refine ⟨.pointer l.ptr, fun y hy => ?_, hK _ ?_⟩
    ·
     obtain ⟨f0, f1, f2, f3, f4, f5, f6⟩ := ((Hat.out.1.below Hb1.out).below hy).cells
     clear f0 f1 f2 f5 f6
     go_simp
    clear hK K
    iterate 3 (refine RegR.can_reads (fun K hK => ?_); go_simp; refine ⟨_, fun _ _ => rfl, hK _ ?_⟩; clear hK K)
    refine RegR.can_reads (fun K hK => ?_)
    go_simp
    refine ⟨.pointer r.ptr, fun y hy => ?_, hK _ ?_⟩
    ·
     obtain ⟨f0, f1, f2, f3, f4, f5, f6⟩ := ((Hat.out.1.below Hb1.out).below hy).cells
     clear f0 f1 f2 f5 f6
     go_simp
    clear hK K
    iterate 1 (refine RegR.can_reads (fun K hK => ?_); go_simp; refine ⟨_, fun _ _ => rfl, hK _ ?_⟩; clear hK K)
    refine RegR.can_turns (fun K K0 hK hK0 => ?_)
    go_simp
    refine (Hih.out).mono ?_
    rintro e w2 ⟨J, rfl, hj⟩
    refine hK _ _ (Hkd.out.mono hj.bel) ?_
    clear hK hK0 K K0
    have Hk2 := Lib.hid (Hkd.out.mono hj.bel)
    have Hk2' := Lib.hid (Hb1.out.trans (Hk2.out.bel.mono Hb1.out.size))
    have Hj := Lib.hid hj; clear hj
    have hcnt := Hj.out.num
    refine RegR.can_turns (fun K K0 hK hK0 => ?_)
    go_simp
    refine (with_any l J w2 (Hat.out.1.below Hk2'.out) (Hat.out.2.1.below Hk2'.out) Hj.out.at_ (by omega)).mono ?_
    rintro e w3 ⟨b2, rfl, hb2, hat3, hbel3⟩
    refine hK _ _ (Hk2.out.mono hbel3) ?_
    clear hK hK0 K K0
    have Hat3 := Lib.hid hat3; clear hat3
    have Hbel3 := Lib.hid hbel3; clear hbel3
    iterate 1 (refine RegR.can_reads (fun K hK => ?_); go_simp; refine ⟨_, fun _ _ => rfl, hK _ ?_⟩; clear hK K)
    refine RegR.can_nil ?_
    go_wp2_with fail
    go_ret
    have hnb : n ≤ b2 := Nat.le_trans hn (Nat.le_trans Hk2'.out.size hb2)
    have h3 : ¬ b2 < n := by omega
    refine ⟨.node b2 k0 v0 wt0 l J, rfl, Hat3.out, Hk2'.out.trans (Hbel3.out.mono Hk2'.out.size), ?_, .new hnb (.old (.left (.refl _))) (Hj.out.mad.up (.right (.refl _))), ?_, ?_, ?_⟩
    ·
     have hs := Hj.out.shp
     simp only [Tr.sh]
     rw [Sh.put, if_neg Habn.out, if_neg H1.out, if_pos H2.out, hs]
    ·
     have h1 := Hj.out.new
     have h2 := Hlo.out.2.1.newc
     simp only [Tr.newc, if_neg h3, h2, Tr.dep]
     omega
    ·
     rw [hhas]
     simp only [Tr.cnt]
     omega
    ·
     simp only [Tr.newc, if_neg h3]
     omega
   ·
    have h1' : Op.bytesLess k.toList k0.toList = false := by simpa [slt] using h1
    have he : k0 = k := (slt_total (by simpa [slt] using h1') (by simpa using h2)).symm
    subst he
    have hhas := has_eq (b := b) (k := k0) (v := v0) (wt := wt0) (l := l) (r := r)
    have H1 := Lib.hid h1; clear h1 h2 ihl ihr
    go_quiet (fail)
    generalize nq = q1 at *
    go_upto_region 6 with fail
    go_quiet (fail)
    go_upto_region 8 with fail
    clear c0 d0 h1'
    have Hb1 := Lib.hid (show Below w.heap.size w ((w0.drewN q1).drewN nq) from Hb0.out.trans ⟨rfl, rfl, rfl, Nat.le_refl _, fun _ _ => rfl⟩)
    generalize (w0.drewN q1).drewN nq = w1 at *
    have hkd : KeptW w1 w1.drew := ⟨rfl, rfl, rfl, Nat.le_refl _, fun _ _ => rfl⟩
    have Hkd := Lib.hid hkd; clear hkd
    refine RegR.wp_region_can (KeptW w1) [(0, 0), (1, 0), (2, 0), (3, 0), (4, 0), (5, 0), (6, 0), (7, 0), (8, 0), (9, 1), (10, 0)] (by kernel_rfl) (by kernel_rfl) (fun _ _ d _ _ h => by cases d <;> exact h) Hkd.out ?_
    dsimp only [RegR.pick, List.getElem?_cons_zero, List.getElem?_cons_succ]
    iterate 4 (refine RegR.can_reads (fun K hK => ?_); go_simp; refine ⟨_, fun _ _ => rfl, hK _ ?_⟩; clear hK K)
    refine RegR.can_reads (fun K hK => ?_)
    go_simp
    refine ⟨.pointer l.ptr, fun y hy => ?_, hK _ ?_⟩
    ·
     obtain ⟨f0, f1, f2, f3, f4, f5, f6⟩ := ((Hat.out.1.below Hb1.out).below hy).cells
     clear f0 f1 f2 f5 f6
     go_simp
    clear hK K
    iterate 3 (refine RegR.can_reads (fun K hK => ?_); go_simp; refine ⟨_, fun _ _ => rfl, hK _ ?_⟩; clear hK K)
    refine RegR.can_reads (fun K hK => ?_)
    go_simp
    refine ⟨.pointer r.ptr, fun y hy => ?_, hK _ ?_⟩
    ·
     obtain ⟨f0, f1, f2, f3, f4, f5, f6⟩ := ((Hat.out.1.below Hb1.out).below hy).cells
     clear f0 f1 f2 f5 f6
     go_simp
    clear hK K
    refine RegR.can_turns (fun K K0 hK hK0 => ?_)
    go_simp
    refine (with_any l r w1.drew (NodeAt.below (Hnode.out.below Hb1.out) Hkd.out) (Hat.out.2.1.below Hb1.out).drew (Hat.out.2.2.below Hb1.out).drew (by omega)).mono ?_
    rintro e w3 ⟨b2, rfl, hb2, hat3, hbel3⟩
    refine hK _ _ (Hkd.out.mono hbel3) ?_
    clear hK hK0 K K0
    have Hat3 := Lib.hid hat3; clear hat3
    have Hk3 := Lib.hid (Hb1.out.trans ((Hkd.out.mono hbel3).bel.mono Hb1.out.size)); clear hbel3
    iterate 1 (refine RegR.can_reads (fun K hK => ?_); go_simp; refine ⟨_, fun _ _ => rfl, hK _ ?_⟩; clear hK K)
    refine RegR.can_nil ?_
    go_wp2_with fail
    go_ret
    have hnb : n ≤ b2 := Nat.le_trans hn (Nat.le_trans Hb1.out.size hb2)
    have h3 : ¬ b2 < n := by omega
    refine ⟨.node b2 k0 v wt l r, rfl, Hat3.out, Hk3.out, ?_, .new hnb (.old (.left (.refl _))) (.old (.right (.refl _))), ?_, ?_, ?_⟩
    ·
     simp only [Tr.sh]
     rw [Sh.put, if_neg Habn.out, if_neg H1.out, if_neg H1.out]
    ·
     have h2 := Hlo.out.2.1.newc
     have h4 := Hlo.out.2.2.newc
     simp only [Tr.newc, if_neg h3, h2, h4, Tr.dep]
     omega
    ·
     rw [hhas]
     simp only [Tr.cnt]
    ·
     simp only [Tr.newc, if_neg h3]
     omega
end Go.Proofs.YtbckjgageofldaaGreat
