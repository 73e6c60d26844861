/- Trees: join. Condition: few enough nodes that their number is an int. -/
import Derived.Test.YtkngadbeflepoaaMMachinePlays3
namespace Go.Proofs.Ytkngadbeflepoaa
open Go.RowKit

/-- A world in which all that was there is as it was. -/
def KeptW (w y : World) : Prop := Below w.heap.size w y
theorem KeptW.mono {w y y' : World} (h : KeptW w y) (hb : Below y.heap.size y y') : KeptW w y' := Below.trans h (Below.mono hb (Below.size h))
theorem KeptW.bel {w y : World} (h : KeptW w y) : Below w.heap.size w y := h
theorem Sub.nil : ∀ T : Tr, Sub .nil T
  | .nil => .refl _
  | .node _ _ _ _ l _ => .left (Sub.nil l)

def Sh.join : Sh → Sh → Sh
  | .nil, b => b
  | .node k v wt l r, .nil => .node k v wt l r
  | .node k v wt l r, .node k' v' wt' l' r' => if aboveB wt k wt' k' then .node k v wt l (Sh.join r (.node k' v' wt' l' r')) else .node k' v' wt' (Sh.join (.node k v wt l r) l') r'
termination_by a b => SizeOf.sizeOf a + SizeOf.sizeOf b
theorem Sh.nil_join (b : Sh) : Sh.join .nil b = b := by rw [Sh.join]
theorem Sh.join_nil (a : Sh) : Sh.join a .nil = a := by cases a <;> rw [Sh.join]

structure JoinPost (n : Nat) (T L H : Tr) (w w' : World) (J : Tr) : Prop where
  at_ : TreeAt w' J
  bel : Below w.heap.size w w'
  shp : J.sh = Sh.join L.sh H.sh
  mad : Made n T J
  new : J.newc n ≤ J.dep
  num : J.cnt = L.cnt + H.cnt

set_option maxRecDepth 100000 in
set_option maxHeartbeats 2000000 in
theorem join_any (T : Tr) : ∀ (m : Nat) (L H : Tr), L.cnt + H.cnt ≤ m → ∀ (n : Nat) (w : World), n ≤ w.heap.size → L.Lo n → H.Lo n → TreeAt w L → TreeAt w H → Sub L T → Sub H T → m ≤ 4611686018427387904 →
    Calls Try.prog 127 #[.pointer L.ptr, .pointer H.ptr] w fun e w' => ∃ J, e = .returned (.pointer J.ptr) ∧ JoinPost n T L H w w' J := by
  intro m
  induction m with
  | zero =>
    intro L H hm n w hn hlL hlH hatL hatH hsL hsH hmm
    have e1 : L = .nil := Tr.cnt_nil.1 (by omega)
    have e2 : H = .nil := Tr.cnt_nil.1 (by omega)
    subst e1 e2
    change Calls _ _ #[.pointer none, .pointer none] w _
    go_enter Try.func127, Try.ntmps127
    go_wp2_with fail
    go_ret
    exact ⟨.nil, rfl, trivial, Below.refl _ _, (Sh.nil_join _).symm, .nil, Nat.le_refl _, rfl⟩
  | succ m ih =>
    intro L H hm n w hn hlL hlH hatL hatH hsL hsH hmm
    match L, hm, hlL, hatL, hsL with
    | .nil, hm, hlL, hatL, hsL =>
      change Calls _ _ #[.pointer none, .pointer H.ptr] w _
      have HH := Lib.hid hatH; clear hatH ih
      go_enter Try.func127, Try.ntmps127
      go_wp2_with fail
      go_ret
      exact ⟨H, rfl, HH.out, Below.refl _ _, (Sh.nil_join _).symm, .old hsH, by rw [hlH.newc]; exact Nat.zero_le _, by simp [Tr.cnt]⟩
    | .node b k v wt l r, hm, hlL, hatL, hsL =>
    match H, hm, hlH, hatH, hsH with
    | .nil, hm, hlH, hatH, hsH =>
      have HL := Lib.hid hatL; clear hatL ih
      change Calls _ _ #[.pointer (some ⟨b, 0, none⟩), .pointer none] w _
      go_enter Try.func127, Try.ntmps127
      go_wp2_with fail
      go_ret
      exact ⟨.node b k v wt l r, rfl, HL.out, Below.refl _ _, (Sh.join_nil _).symm, .old hsL, by rw [hlL.newc]; exact Nat.zero_le _, by simp [Tr.cnt]⟩
    | .node b' k' v' wt' l' r', hm, hlH, hatH, hsH =>
    have hab := above_any w hatL.1 hatH.1
    obtain ⟨ab, hab'⟩ : ∃ ab, aboveB wt k wt' k' = ab := ⟨_, rfl⟩
    rw [hab'] at hab
    simp only [Tr.cnt] at hm
    have HatL := Lib.hid hatL; clear hatL
    have HatH := Lib.hid hatH; clear hatH
    have HlL := Lib.hid hlL; clear hlL
    have HlH := Lib.hid hlH; clear hlH
    have HsL := Lib.hid hsL; clear hsL
    have HsH := Lib.hid hsH; clear hsH
    have Hih := Lib.hid ih; clear ih
    have Hab := Lib.hid hab; clear hab
    change Calls _ _ #[.pointer (some ⟨b, 0, none⟩), .pointer (some ⟨b', 0, none⟩)] w _
    go_enter Try.func127, Try.ntmps127
    cases ab with
    | true =>
      go_upto_region 6 with ((with_reducible refine Hab.out.mono ?_); rintro e w1 ⟨rfl, hb1⟩; have Hb1 := Lib.hid hb1; clear hb1)
      have hkd : KeptW w1 w1.drew := ⟨rfl, rfl, rfl, Nat.le_refl _, fun _ _ => rfl⟩
      have Hkd := Lib.hid hkd; clear hkd
      refine RegR.wp_region_can (KeptW w1) [(0, 0), (1, 0), (2, 0), (3, 0), (4, 0), (5, 0), (6, 0), (7, 0), (8, 0), (9, 0), (10, 1), (11, 1), (12, 0)] (by kernel_rfl) (by kernel_rfl) (fun _ _ d _ _ h => by cases d <;> exact h) Hkd.out ?_
      dsimp only [RegR.pick, List.getElem?_cons_zero, List.getElem?_cons_succ]
      iterate 4 (refine RegR.can_reads (fun K hK => ?_); go_simp; refine ⟨_, fun _ _ => rfl, hK _ ?_⟩; clear hK K)
      refine RegR.can_reads (fun K hK => ?_)
      go_simp
      refine ⟨.pointer l.ptr, fun y hy => ?_, hK _ ?_⟩
      · obtain ⟨f0, f1, f2, f3, f4, f5, f6⟩ := ((HatL.out.1.below Hb1.out).below hy).cells
        clear f0 f1 f2 f5 f6
        go_simp
      clear hK K
      iterate 3 (refine RegR.can_reads (fun K hK => ?_); go_simp; refine ⟨_, fun _ _ => rfl, hK _ ?_⟩; clear hK K)
      refine RegR.can_reads (fun K hK => ?_)
      go_simp
      refine ⟨.pointer r.ptr, fun y hy => ?_, hK _ ?_⟩
      · obtain ⟨f0, f1, f2, f3, f4, f5, f6⟩ := ((HatL.out.1.below Hb1.out).below hy).cells
        clear f0 f1 f2 f5 f6
        go_simp
      clear hK K
      iterate 1 (refine RegR.can_reads (fun K hK => ?_); go_simp; refine ⟨_, fun _ _ => rfl, hK _ ?_⟩; clear hK K)
      refine RegR.can_turns (fun K K0 hK hK0 => ?_)
      go_simp
      refine (Hih.out r (.node b' k' v' wt' l' r') (by simp only [Tr.cnt]; omega) n w1.drew (Nat.le_trans hn Hb1.out.size) HlL.out.2.2 HlH.out (HatL.out.2.2.below Hb1.out).drew (HatH.out.below Hb1.out).drew (.trans (.right (.refl _)) HsL.out) HsH.out (by omega)).mono ?_
      rintro e w2 ⟨J, rfl, hj⟩
      refine hK _ _ (Hkd.out.mono hj.bel) ?_
      clear hK hK0 K K0
      have Hk2 := Lib.hid (Hkd.out.mono hj.bel)
      have Hj := Lib.hid hj; clear hj
      have hcnt := Hj.out.num
      simp only [Tr.cnt] at hcnt
      refine RegR.can_turns (fun K K0 hK hK0 => ?_)
      go_simp
      refine (with_any l J w2 ((HatL.out.1.below Hb1.out).below Hk2.out) ((HatL.out.2.1.below Hb1.out).below Hk2.out) Hj.out.at_ (by omega)).mono ?_
      rintro e w3 ⟨b2, rfl, hb2, hat3, hbel3⟩
      refine hK _ _ (Hk2.out.mono hbel3) ?_
      clear hK hK0 K K0
      have Hat3 := Lib.hid hat3; clear hat3
      have Hbel3 := Lib.hid hbel3; clear hbel3
      have Hk3 := Lib.hid (Hb1.out.trans ((Hk2.out.mono Hbel3.out).bel.mono Hb1.out.size))
      iterate 1 (refine RegR.can_reads (fun K hK => ?_); go_simp; refine ⟨_, fun _ _ => rfl, hK _ ?_⟩; clear hK K)
      refine RegR.can_nil ?_
      go_wp2_with fail
      go_ret
      have hnb : n ≤ b2 := Nat.le_trans hn (Nat.le_trans Hb1.out.size (Nat.le_trans Hk2.out.size hb2))
      refine ⟨.node b2 k v wt l J, rfl, Hat3.out, Hk3.out, ?_, .new hnb (.old (.trans (.left (.refl _)) HsL.out)) Hj.out.mad, ?_, ?_⟩
      · have hs := Hj.out.shp
        simp only [Tr.sh] at hs ⊢
        rw [Sh.join, if_pos hab', hs]
      · have h1 := Hj.out.new
        have h2 := HlL.out.2.1.newc
        have h3 : ¬ b2 < n := by omega
        simp only [Tr.newc, if_neg h3, h2, Tr.dep]
        omega
      · simp only [Tr.cnt]
        omega
    | false =>
      go_upto_region 7 with ((with_reducible refine Hab.out.mono ?_); rintro e w1 ⟨rfl, hb1⟩; have Hb1 := Lib.hid hb1; clear hb1)
      have hkd : KeptW w1 w1.drew := ⟨rfl, rfl, rfl, Nat.le_refl _, fun _ _ => rfl⟩
      have Hkd := Lib.hid hkd; clear hkd
      refine RegR.wp_region_can (KeptW w1) [(0, 0), (1, 0), (2, 0), (3, 0), (4, 0), (5, 0), (7, 0), (8, 0), (9, 0), (10, 0), (6, 1), (11, 1), (12, 0)] (by kernel_rfl) (by kernel_rfl) (fun _ _ d _ _ h => by cases d <;> exact h) Hkd.out ?_
      dsimp only [RegR.pick, List.getElem?_cons_zero, List.getElem?_cons_succ]
      iterate 5 (refine RegR.can_reads (fun K hK => ?_); go_simp; refine ⟨_, fun _ _ => rfl, hK _ ?_⟩; clear hK K)
      refine RegR.can_reads (fun K hK => ?_)
      go_simp
      refine ⟨.pointer l'.ptr, fun y hy => ?_, hK _ ?_⟩
      · obtain ⟨f0, f1, f2, f3, f4, f5, f6⟩ := ((HatH.out.1.below Hb1.out).below hy).cells
        clear f0 f1 f2 f5 f6
        go_simp
      clear hK K
      iterate 3 (refine RegR.can_reads (fun K hK => ?_); go_simp; refine ⟨_, fun _ _ => rfl, hK _ ?_⟩; clear hK K)
      refine RegR.can_reads (fun K hK => ?_)
      go_simp
      refine ⟨.pointer r'.ptr, fun y hy => ?_, hK _ ?_⟩
      · obtain ⟨f0, f1, f2, f3, f4, f5, f6⟩ := ((HatH.out.1.below Hb1.out).below hy).cells
        clear f0 f1 f2 f5 f6
        go_simp
      clear hK K
      refine RegR.can_turns (fun K K0 hK hK0 => ?_)
      go_simp
      refine (Hih.out (.node b k v wt l r) l' (by simp only [Tr.cnt]; omega) n w1.drew (Nat.le_trans hn Hb1.out.size) HlL.out HlH.out.2.1 (HatL.out.below Hb1.out).drew (HatH.out.2.1.below Hb1.out).drew HsL.out (.trans (.left (.refl _)) HsH.out) (by omega)).mono ?_
      rintro e w2 ⟨J, rfl, hj⟩
      refine hK _ _ (Hkd.out.mono hj.bel) ?_
      clear hK hK0 K K0
      have Hk2 := Lib.hid (Hkd.out.mono hj.bel)
      have Hj := Lib.hid hj; clear hj
      have hcnt := Hj.out.num
      simp only [Tr.cnt] at hcnt
      refine RegR.can_turns (fun K K0 hK hK0 => ?_)
      go_simp
      refine (with_any J r' w2 ((HatH.out.1.below Hb1.out).below Hk2.out) Hj.out.at_ ((HatH.out.2.2.below Hb1.out).below Hk2.out) (by omega)).mono ?_
      rintro e w3 ⟨b2, rfl, hb2, hat3, hbel3⟩
      refine hK _ _ (Hk2.out.mono hbel3) ?_
      clear hK hK0 K K0
      have Hat3 := Lib.hid hat3; clear hat3
      have Hbel3 := Lib.hid hbel3; clear hbel3
      have Hk3 := Lib.hid (Hb1.out.trans ((Hk2.out.mono Hbel3.out).bel.mono Hb1.out.size))
      iterate 1 (refine RegR.can_reads (fun K hK => ?_); go_simp; refine ⟨_, fun _ _ => rfl, hK _ ?_⟩; clear hK K)
      refine RegR.can_nil ?_
      go_wp2_with fail
      go_ret
      have hnb : n ≤ b2 := Nat.le_trans hn (Nat.le_trans Hb1.out.size (Nat.le_trans Hk2.out.size hb2))
      refine ⟨.node b2 k' v' wt' J r', rfl, Hat3.out, Hk3.out, ?_, .new hnb Hj.out.mad (.old (.trans (.right (.refl _)) HsH.out)), ?_, ?_⟩
      · have hs := Hj.out.shp
        simp only [Tr.sh] at hs ⊢
        rw [Sh.join, if_neg (by rw [hab']; exact Bool.false_ne_true), hs]
      · have h1 := Hj.out.new
        have h2 := HlH.out.2.2.newc
        have h3 : ¬ b2 < n := by omega
        simp only [Tr.newc, if_neg h3, h2, Tr.dep]
        omega
      · simp only [Tr.cnt]
        omega
end Go.Proofs.Ytkngadbeflepoaa
