/- Trees: Shared. Condition: few enough nodes that their number is an int. -/
import Derived.Test.YtimhpncdlaildaaTrH
namespace Go.Proofs.Ytimhpncdlaildaa
open Go.RowKit

theorem Sub.lo {n : Nat} {S T : Tr} (h : Sub S T) : T.Lo n → S.Lo n := by
  induction h with
  | refl => exact id
  | left _ ih => exact fun h => ih h.2.1
  | right _ ih => exact fun h => ih h.2.2
theorem made_node {n b : Nat} {A : Tr} {k v : ByteArray} {wt : BitVec 64} {l r : Tr} (h : Made n A (.node b k v wt l r)) (hlo : A.Lo n) :
    (b < n ∧ Sub (.node b k v wt l r) A) ∨ (n ≤ b ∧ Made n A l ∧ Made n A r) := by
  cases h with
  | old hs => exact .inl ⟨(hs.lo hlo).1, hs⟩
  | new hb h1 h2 => exact .inr ⟨hb, h1, h2⟩

set_option maxRecDepth 100000 in
set_option maxHeartbeats 2000000 in
theorem shared_any (n : Nat) (A : Tr) (hasc : Asc A.sh.kv) (hlo : A.Lo n) (B : Tr) : ∀ (w : World), Made n A B → TreeAt w A → TreeAt w B → B.cnt ≤ 4611686018427387903 →
    Calls Try.prog 46 #[.pointer A.ptr, .pointer B.ptr] w fun e w' => e = .returned (.int .i64 ((B.cnt - B.newc n : Nat) : Int)) ∧ Below w.heap.size w w' := by
  induction B with
  | nil =>
    intro w _ _ _ _
    change Calls _ _ #[.pointer A.ptr, .pointer none] w _
    go_enter Try.func46, Try.ntmps46
    go_wp2_with fail
    go_ret
    exact ⟨rfl, Below.refl _ _⟩
  | node b k v wt l r ihl ihr =>
    intro w hmade hatA hatB hc
    have hf := find_any k A w hatA
    obtain ⟨c0, c1, c2, c3, c4, c5, c6⟩ := hatB.1.cells
    clear c1 c2 c5 c6
    change Calls _ _ #[.pointer A.ptr, .pointer (some ⟨b, 0, none⟩)] w _
    rcases made_node hmade hlo with ⟨hb, hs⟩ | ⟨hb, hl, hr⟩
    · have hfp := find_part hs hasc
      rw [hfp] at hf
      have Hf := Lib.hid (show Calls Try.prog 64 #[.pointer A.ptr, .string k] w (fun e w' => e = .returned (.pointer (some ⟨b, 0, none⟩)) ∧ w = w') from hf); clear hf
      have hcmp : (binOp .eql 58 (.pointer (some ⟨b, 0, none⟩)) (.pointer (some ⟨b, 0, none⟩))).run Try.prog w = .ok (.bool true) w := tr_same (S := .node b k v wt l r) (T := .node b k v wt l r) rfl
      have Hlen := Lib.hid (show Calls Try.prog 42 #[.pointer (some ⟨b, 0, none⟩)] w _ from len_any (.node b k v wt l r) w hatB)
      have hnew : (Tr.node b k v wt l r).newc n = 0 := (hs.lo hlo).newc
      rw [hnew, Nat.sub_zero]
      generalize (Tr.node b k v wt l r).cnt = cn at *
      clear hfp hs hmade hatA hatB ihl ihr hnew c3 c4 hb
      go_enter Try.func46, Try.ntmps46
      go_wp2_with (first
        | ((with_reducible refine Hf.out.mono ?_); rintro e w' ⟨rfl, rfl⟩)
        | ((with_reducible refine Hlen.out.mono ?_); rintro e w' ⟨rfl, rfl⟩))
      go_ret
      exact ⟨rfl, Below.refl _ _⟩
    · have hne : (A.find k).ptr ≠ (Tr.node b k v wt l r).ptr := by
        intro e
        have hat := find_at hatA k
        rcases A.find_sub k with h | h
        · rw [h] at e; cases e
        · have := TreeAt.uniq hat hatB e
          rw [this] at h
          have := (h.lo hlo).1
          omega
      have hcmp : (binOp .eql 58 (.pointer (A.find k).ptr) (.pointer (some ⟨b, 0, none⟩))).run Try.prog w = .ok (.bool false) w := tr_other (find_at hatA k) hatB hne
      generalize A.find k = F at *
      have Hf := Lib.hid hf; clear hf hne
      simp only [Tr.cnt] at hc
      have hl1 := newc_le n l
      have hr1 := newc_le n r
      have hsum : (Tr.node b k v wt l r).cnt - (Tr.node b k v wt l r).newc n = (l.cnt - l.newc n) + (r.cnt - r.newc n) := by
        have h3 : ¬ b < n := by omega
        simp only [Tr.cnt, Tr.newc, if_neg h3]
        omega
      rw [hsum]
      have hw : IntKind.i64.wrap (((l.cnt - l.newc n : Nat) : Int) + ((r.cnt - r.newc n : Nat) : Int)) = (((l.cnt - l.newc n) + (r.cnt - r.newc n) : Nat) : Int) := by rw [IntKind.wrap_i64] <;> omega
      have Hl := Lib.hid (fun w h1 h2 => ihl w hl h1 h2 (by omega)); clear ihl
      have Hr := Lib.hid (fun w h1 h2 => ihr w hr h1 h2 (by omega)); clear ihr
      clear hsum hl1 hr1
      generalize l.cnt - l.newc n = sl at *
      generalize r.cnt - r.newc n = sr at *
      obtain ⟨sm, hsm⟩ : ∃ sm, sl + sr = sm := ⟨_, rfl⟩
      rw [hsm] at hw ⊢
      clear hsm hmade
      have HA := Lib.hid hatA; clear hatA
      have HB := Lib.hid hatB; clear hatB
      go_enter Try.func46, Try.ntmps46
      go_upto_region 5 with ((with_reducible refine Hf.out.mono ?_); rintro e w' ⟨rfl, rfl⟩)
      clear c0 c3 c4 hcmp Hf
      have hkd : KeptW w w.drew := ⟨rfl, rfl, rfl, Nat.le_refl _, fun _ _ => rfl⟩
      have Hkd := Lib.hid hkd; clear hkd
      refine RegR.wp_region_can (KeptW w) [(0, 0), (1, 0), (2, 0), (3, 0), (4, 0), (6, 0), (7, 0), (8, 0), (9, 0), (10, 0), (5, 1), (11, 1), (12, 0), (13, 0)] (by kernel_rfl) (by kernel_rfl) (fun _ _ d _ _ h => by cases d <;> exact h) Hkd.out ?_
      dsimp only [RegR.pick, List.getElem?_cons_zero, List.getElem?_cons_succ]
      iterate 4 (refine RegR.can_reads (fun K hK => ?_); go_simp; refine ⟨_, fun _ _ => rfl, hK _ ?_⟩; clear hK K)
      refine RegR.can_reads (fun K hK => ?_)
      go_simp
      refine ⟨.pointer l.ptr, fun y hy => ?_, hK _ ?_⟩
      · obtain ⟨f0, f1, f2, f3, f4, f5, f6⟩ := (HB.out.1.below hy).cells
        clear f0 f1 f2 f5 f6
        go_simp
      clear hK K
      iterate 4 (refine RegR.can_reads (fun K hK => ?_); go_simp; refine ⟨_, fun _ _ => rfl, hK _ ?_⟩; clear hK K)
      refine RegR.can_reads (fun K hK => ?_)
      go_simp
      refine ⟨.pointer r.ptr, fun y hy => ?_, hK _ ?_⟩
      · obtain ⟨f0, f1, f2, f3, f4, f5, f6⟩ := (HB.out.1.below hy).cells
        clear f0 f1 f2 f5 f6
        go_simp
      clear hK K
      refine RegR.can_turns (fun K K0 hK hK0 => ?_)
      go_simp
      refine (Hl.out w.drew HA.out.drew HB.out.2.1.drew).mono ?_
      rintro e w2 ⟨rfl, hb2⟩
      refine hK _ _ (Hkd.out.mono hb2) ?_
      clear hK hK0 K K0
      have Hk2 := Lib.hid (Hkd.out.mono hb2); clear hb2
      refine RegR.can_turns (fun K K0 hK hK0 => ?_)
      go_simp
      refine (Hr.out w2 (HA.out.below Hk2.out) (HB.out.2.2.below Hk2.out)).mono ?_
      rintro e w3 ⟨rfl, hb3⟩
      refine hK _ _ (Hk2.out.mono hb3) ?_
      clear hK hK0 K K0
      have Hk3 := Lib.hid (Hk2.out.mono hb3); clear hb3
      iterate 2 (refine RegR.can_reads (fun K hK => ?_); go_simp; refine ⟨_, fun _ _ => rfl, hK _ ?_⟩; clear hK K)
      refine RegR.can_nil ?_
      go_wp2_with fail
      go_ret
      exact ⟨rfl, Hk3.out⟩

/-- A tree's shape, given its parts by shape alone. -/
theorem sh_nil {T : Tr} (h : T.sh = .nil) : T = .nil := by cases T <;> simp [Tr.sh] at h ⊢
def tA : ByteArray := ⟨#[97]⟩
def tB : ByteArray := ⟨#[98]⟩
def t1 : ByteArray := ⟨#[49]⟩
def t2 : ByteArray := ⟨#[50]⟩
def t3 : ByteArray := ⟨#[51]⟩
def s1 : Sh := stepSh ⟨1, tA, t1⟩ .nil
def s2 : Sh := stepSh ⟨1, tB, t2⟩ s1
def s3 : Sh := stepSh ⟨0, tB, tB⟩ s2
def s4 : Sh := stepSh ⟨1, tA, t3⟩ s3
def s5 : Sh := stepSh ⟨0, tA, tA⟩ s4
theorem s_facts : s2.look tA = some t1 ∧ s4.look tA = some t3 ∧ s4.look tB = none ∧ s2.cnt = 2 ∧ s4.cnt = 1 ∧ s2.dep = 2 ∧ s5.cnt = 0 ∧ s1.cnt = 1 ∧ s3.cnt = 1 := by decide +kernel
end Go.Proofs.Ytimhpncdlaildaa
