/- The document's depth of pairs is the tree's. Condition: at most 1000000 pairs; keys that fit in memory. -/
import Derived.Test.YtkngadbeflepoaaMMachineBack15
import Derived.IntWalk
import Derived.Test.YtkngadbeflepoaaMMachineBack21
import Derived.RangeFuncFrom
import Derived.RangeFuncNested
namespace Go.Proofs.Ytkngadbeflepoaa
open Go.RowKit

def crAt (L : Prs) (j : Nat) : Nat := (crcOf (L.getD j pdflt).1).toNat
/-- The first of the greatest, of the first i. -/
def TopAt (L : Prs) (t i : Nat) : Prop := (∀ j, j < i → crAt L j ≤ crAt L t) ∧ ∀ j, j < t → crAt L j < crAt L t
theorem getD_left {L M : Prs} {j : Nat} (h : j < L.length) : (L ++ M).getD j pdflt = L.getD j pdflt := by
  simp [List.getD, List.getElem?_append_left h]
theorem getD_right {L M : Prs} {j : Nat} (h : L.length ≤ j) : (L ++ M).getD j pdflt = M.getD (j - L.length) pdflt := by
  simp [List.getD, List.getElem?_append_right h]
theorem getD_in {L : Prs} {j : Nat} (h : j < L.length) : L.getD j pdflt ∈ L := by
  rw [List.getD, List.getElem?_eq_getElem h]
  exact List.getElem_mem _
theorem top_root {k v : ByteArray} {wt : BitVec 64} {l r : Sh} (h : (Sh.node k v wt l r).Heap) : TopAt (l.kv ++ (k, v) :: r.kv) l.kv.length (l.kv ++ (k, v) :: r.kv).length := by
  obtain ⟨h1, h2, h3, _, _⟩ := h
  have hm : crAt (l.kv ++ (k, v) :: r.kv) l.kv.length = wt.toNat := by
    unfold crAt
    rw [getD_right (Nat.le_refl _), Nat.sub_self, h1]
    rfl
  refine ⟨fun j hj => ?_, fun j hj => ?_⟩
  · rw [hm]
    unfold crAt
    rcases Nat.lt_or_ge j l.kv.length with hl | hl
    · rw [getD_left hl]; exact Nat.le_of_lt (h2 _ (getD_in hl))
    · rw [getD_right hl]
      match hj' : j - l.kv.length with
      | 0 => rw [h1]; exact Nat.le_refl _
      | q + 1 =>
        have hq : q < r.kv.length := by simp at hj; omega
        show (crcOf (r.kv.getD q pdflt).1).toNat ≤ _
        exact h3 _ (getD_in hq)
  · rw [hm]
    unfold crAt
    rw [getD_left hj]
    exact h2 _ (getD_in hj)
theorem top_uniq {L : Prs} {t m : Nat} (h : TopAt L t L.length) (g : TopAt L m L.length) (ht : t < L.length) (hm : m < L.length) : t = m := by
  rcases Nat.lt_trichotomy t m with e | e | e
  · have := g.2 t e; have := h.1 m hm; omega
  · exact e
  · have := h.2 m e; have := g.1 t ht; omega
/-- A part of a slice of pairs. -/
theorem pairs_part {w : World} {b o n i m : Nat} {L : Prs} (h : PairsAt w (some ⟨b, o, none⟩) n L) (hi : i + m ≤ n) : PairsAt w (some ⟨b, o + i * 2, none⟩) m ((L.drop i).take m) := by
  have hl := h.hlen
  have hmx := h.hmax
  refine ⟨by rw [List.length_take, List.length_drop]; omega, by omega, fun q x hq => ?_⟩
  rw [List.getElem?_take] at hq
  split at hq
  · rw [List.getElem?_drop] at hq
    obtain ⟨b', o', e, h2, h3⟩ := h.cells _ _ hq
    cases e
    refine ⟨b, o + i * 2, rfl, h2, fun j v hj => ?_⟩
    rw [← h3 j v hj]
    congr 2
    omega
  · cases hq
theorem pairs_none {w : World} {A : Option Addr} : PairsAt w A 0 [] := ⟨rfl, Nat.zero_le _, fun i x hi => by simp at hi⟩

theorem Sh.dep_cnt : ∀ S : Sh, S.dep ≤ S.cnt
  | .nil => Nat.le_refl _
  | .node _ _ _ l r => by
    have := l.dep_cnt
    have := r.dep_cnt
    simp only [Sh.dep, Sh.cnt]
    omega
set_option maxRecDepth 100000 in
set_option maxHeartbeats 4000000 in
theorem depth10_any (S : Sh) : ∀ (w : World) (A : Option Addr) (n c : Nat), S.Heap → PairsAt w A n S.kv → POk A n c → n ≤ 1000000 → (∀ p ∈ S.kv, p.1.size ≤ maxLen) →
    Calls Try.prog 21 #[.slice A n c] w fun e w' => e = .returned (.int .i64 (S.dep : Int)) ∧ Below w.heap.size w w' := by
  induction S with
  | nil =>
    intro w A n c _ h _ _ _
    have hn : n = 0 := h.hlen.symm
    subst hn
    clear h
    go_enter Try.func21, Try.ntmps21
    go_wp2_with fail
    go_ret
    exact ⟨rfl, Below.refl _ _⟩
  | node k v wt l r ihl ihr =>
    intro w A n c hh h hok hn hks
    have hroot := top_root hh
    have hl := h.hlen
    have hkv : (Sh.node k v wt l r).kv = l.kv ++ (k, v) :: r.kv := rfl
    rw [hkv] at h hl hks
    have hml : l.kv.length < (l.kv ++ (k, v) :: r.kv).length := by simp
    obtain ⟨b, o, rfl, hnc, hcm⟩ : ∃ b o, A = some ⟨b, o, none⟩ ∧ n ≤ c ∧ c ≤ maxLen := by
      rcases hok with ⟨_, e, _⟩ | h
      · omega
      · exact h
    have hlkv : l.kv = ((l.kv ++ (k, v) :: r.kv).drop 0).take l.kv.length := by simp
    have hrkv : r.kv = (l.kv ++ (k, v) :: r.kv).drop (l.kv.length + 1) := by simp [List.drop_append]
    have hdl : l.dep ≤ n := by have h1 := l.dep_cnt; rw [cnt_kv] at h1; omega
    have hdr : r.dep ≤ n := by have h1 := r.dep_cnt; rw [cnt_kv] at h1; simp at hl; omega
    obtain ⟨_, _, _, hhl, hhr⟩ := hh
    have Hl := Lib.hid (fun (w' : World) (hb : Below w.heap.size w w') => ihl w' (some ⟨b, o, none⟩) l.kv.length c hhl (by have := pairs_part (i := 0) (m := l.kv.length) (h.below hb) (by omega); rw [← hlkv] at this; simpa using this) (.inr ⟨b, o, rfl, by omega, hcm⟩) (by omega) (fun p hp => hks p (by simp [hp]))); clear ihl
    have Hr := Lib.hid (fun (w' : World) (hb : Below w.heap.size w w') (A' : Option Addr) (c' : Nat) (hp : PairsAt w' A' (n - (l.kv.length + 1)) r.kv) (hk : POk A' (n - (l.kv.length + 1)) c') => ihr w' A' (n - (l.kv.length + 1)) c' hhr hp hk (by omega) (fun p hp => hks p (by simp [hp]))); clear ihr
    have Hroot := Lib.hid hroot; clear hroot
    have Hrkv := Lib.hid hrkv; clear hrkv hlkv hkv
    show Calls _ _ _ _ (fun e w' => e = .returned (.int .i64 ((1 + max l.dep r.dep : Nat) : Int)) ∧ Below w.heap.size w w')
    obtain ⟨mx, hmx⟩ : ∃ mx, max l.dep r.dep = mx := ⟨_, rfl⟩
    have hif : (if l.dep < r.dep then (r.dep : Int) else (l.dep : Int)) = (mx : Int) := by split <;> omega
    obtain ⟨mx1, hmx1⟩ : ∃ m, 1 + mx = m := ⟨_, rfl⟩
    have hw3 : wrap64 (1 + (mx : Int)) = (mx1 : Int) := by unfold wrap64; omega
    have hw4 : IntKind.i64.wrap (1 + (mx : Int)) = (mx1 : Int) := (IntWalk.i64_left _).trans hw3
    have Hw4 := Lib.hid hw4; clear hw4
    rw [hmx, hmx1]
    clear hmx hmx1 hhl hhr hdl hdr
    generalize hm : l.kv.length = m at *
    generalize hL : l.kv ++ (k, v) :: r.kv = L at *
    generalize l.dep = dl at *
    generalize r.dep = dr at *
    have H := Lib.hid h; clear h
    have Hks := Lib.hid hks; clear hks hL hm
    go_enter Try.func21, Try.ntmps21
    have hn0 : ((n : Int) == 0) = false := by simp; omega
    go_wp2_with fail
    go_loopw [3, 4] (fun s3 s4 wr => ∃ t i, t < i ∧ i ≤ n ∧ s3 = .int .i64 (t : Int) ∧ s4 = .int .i64 (i : Int) ∧ TopAt L t i ∧ Below w.heap.size w wr) (fun _ s4 _ => n - (intOf s4).toNat)
    case atStart => exact ⟨0, 1, by omega, by omega, rfl, rfl, ⟨fun j hj => by have : j = 0 := (by omega); subst this; exact Nat.le_refl _, fun j hj => by omega⟩, Below.refl _ _⟩
    case round =>
      obtain ⟨t, i, hti, hi, rfl, rfl, htop, hbel⟩ := hrel
      have Hbel := Lib.hid hbel; clear hbel
      have Htop := Lib.hid htop; clear htop
      by_cases hlt : i < n
      · have hlt' : (i : Int) < (n : Int) := by omega
        have htn : t < n := by omega
        have htn' : (t : Int) < (n : Int) := by omega
        have hsucc := tsucc (n := i) (by omega)
        have hci : ∀ y, Below w.heap.size w y → y.cell? ⟨b, o + i * 2, none⟩ = some (.string (L.getD i pdflt).1) := fun y hy => by
          obtain ⟨b2, o2, e, _, e0, _⟩ := pairs_get (H.out.below hy) hlt; cases e; exact e0
        have hct : ∀ y, Below w.heap.size w y → y.cell? ⟨b, o + t * 2, none⟩ = some (.string (L.getD t pdflt).1) := fun y hy => by
          obtain ⟨b2, o2, e, _, e0, _⟩ := pairs_get (H.out.below hy) htn; cases e; exact e0
        have hs1 : ∀ y, Calls Try.prog 53 #[.string (L.getD i pdflt).1] y fun e w' => e = .returned (.int .u64 ((crAt L i : Nat) : Int)) ∧ y = w' := fun y => refsum_any _ (Hks.out _ (getD_in (by omega))) y
        have hs2 : ∀ y, Calls Try.prog 53 #[.string (L.getD t pdflt).1] y fun e w' => e = .returned (.int .u64 ((crAt L t : Nat) : Int)) ∧ y = w' := fun y => refsum_any _ (Hks.out _ (getD_in (by omega))) y
        have hnext : TopAt L (if crAt L t < crAt L i then i else t) (i + 1) := by
          obtain ⟨t1, t2⟩ := Htop.out
          split
          · rename_i hgt
            refine ⟨fun j hj => ?_, fun j hj => ?_⟩
            · by_cases e : j = i
              · subst e; exact Nat.le_refl _
              · have := t1 j (by omega); omega
            · have := t1 j (by omega); omega
          · rename_i hgt
            refine ⟨fun j hj => ?_, t2⟩
            by_cases e : j = i
            · subst e; omega
            · exact t1 j (by omega)
        have Hnext := Lib.hid hnext; clear hnext Htop
        generalize (L.getD i pdflt).1 = Ki at *
        generalize (L.getD t pdflt).1 = Kt at *
        have Hci := Lib.hid hci; clear hci
        have Hct := Lib.hid hct; clear hct
        have Hs1 := Lib.hid hs1; clear hs1
        have Hs2 := Lib.hid hs2; clear hs2
        generalize hcri : crAt L i = ci at *
        generalize hcrt : crAt L t = ct at *
        clear hcri hcrt
        go_upto_region 7 with fail
        have hkd : KeptW wr wr.drew := ⟨rfl, rfl, rfl, Nat.le_refl _, fun _ _ => rfl⟩
        have Hkd := Lib.hid hkd; clear hkd
        refine RegR.wp_region_can (KeptW wr) [(0, 0), (1, 0), (2, 0), (3, 0), (4, 0), (6, 0), (7, 0), (8, 0), (9, 0), (10, 0), (5, 1), (11, 1), (12, 0)] (by kernel_rfl) (by kernel_rfl) (fun _ _ d _ _ h => by cases d <;> exact h) Hkd.out ?_
        dsimp only [RegR.pick, List.getElem?_cons_zero, List.getElem?_cons_succ]
        iterate 4 (refine RegR.can_reads (fun K hK => ?_); go_simp; refine ⟨_, fun _ _ => rfl, hK _ ?_⟩; clear hK K)
        refine RegR.can_reads (fun K hK => ?_)
        go_simp
        refine ⟨.string Ki, fun y hy => ?_, hK _ ?_⟩
        · have f0 := Hci.out y (Hbel.out.trans (KeptW.bel hy |>.mono Hbel.out.size))
          go_simp
        clear hK K
        iterate 4 (refine RegR.can_reads (fun K hK => ?_); go_simp; refine ⟨_, fun _ _ => rfl, hK _ ?_⟩; clear hK K)
        refine RegR.can_reads (fun K hK => ?_)
        go_simp
        refine ⟨.string Kt, fun y hy => ?_, hK _ ?_⟩
        · have f0 := Hct.out y (Hbel.out.trans (KeptW.bel hy |>.mono Hbel.out.size))
          go_simp
        clear hK K
        refine RegR.can_turns (fun K K0 hK hK0 => ?_)
        go_simp
        refine (Hs1.out _).mono ?_
        rintro e w' ⟨rfl, rfl⟩
        refine hK _ _ Hkd.out ?_
        clear hK hK0 K K0
        refine RegR.can_turns (fun K K0 hK hK0 => ?_)
        go_simp
        refine (Hs2.out _).mono ?_
        rintro e w' ⟨rfl, rfl⟩
        refine hK _ _ Hkd.out ?_
        clear hK hK0 K K0
        iterate 1 (refine RegR.can_reads (fun K hK => ?_); go_simp; refine ⟨_, fun _ _ => rfl, hK _ ?_⟩; clear hK K)
        refine RegR.can_nil ?_
        have Hb2 := Lib.hid (Hbel.out.trans (KeptW.bel Hkd.out |>.mono Hbel.out.size)); clear Hkd Hbel
        by_cases hgt : ct < ci
        · have hn2 := Hnext.out
          rw [if_pos hgt] at hn2
          have Hn2 := Lib.hid hn2; clear hn2 Hnext
          go_wp2_with fail
          go_roundw
          case rel => exact ⟨i, i + 1, by omega, hlt, rfl, rfl, Hn2.out, Hb2.out⟩
          case measure => simp [intOf]; omega
        · have hn2 := Hnext.out
          rw [if_neg hgt] at hn2
          have Hn2 := Lib.hid hn2; clear hn2 Hnext
          go_wp2_with fail
          go_roundw
          case rel => exact ⟨t, i + 1, by omega, hlt, rfl, rfl, Hn2.out, Hb2.out⟩
          case measure => simp [intOf]; omega
      · have hlt' : ¬ (i : Int) < (n : Int) := by omega
        obtain rfl : i = n := by omega
        obtain rfl : t = m := by
          have h1 := Htop.out
          have h2 := Hroot.out
          rw [← hl] at h1
          exact top_uniq h1 h2 (by omega) hml
        go_upto_region 9 with fail
        obtain ⟨q, hq⟩ : ∃ q, t + 1 = q := ⟨_, rfl⟩
        have hw1 : IntKind.i64.wrap ((t : Int) + 1) = (q : Int) := by rw [IntKind.wrap_i64] <;> omega
        have hqi : q ≤ i := by omega
        have htc : t ≤ c := by omega
        have hqc : q ≤ c := by omega
        obtain ⟨ad, had⟩ : ∃ ad, (if c = q then some (⟨b, o, none⟩ : Addr) else some ⟨b, o + q * 2, none⟩) = some ad := by split <;> exact ⟨_, rfl⟩
        have hpr : ∀ y, Below w.heap.size w y → PairsAt y (some ad) (i - q) r.kv := fun y hy => by
          have hlen : r.kv.length = i - q := by rw [Hrkv.out, List.length_drop]; omega
          by_cases hz : i - q = 0
          · rw [hz] at hlen ⊢
            rw [List.eq_nil_of_length_eq_zero hlen]
            exact pairs_none
          · rw [if_neg (by omega)] at had
            have hp := pairs_part (i := q) (m := i - q) (H.out.below hy) (by omega)
            rw [had] at hp
            rw [Hrkv.out, hq]
            rwa [List.take_of_length_le (by rw [List.length_drop]; omega)] at hp
        have hpk : POk (some ad) (i - q) (c - q) := by
          split at had
          · exact .inr ⟨b, o, had.symm, by omega, by unfold maxLen at *; omega⟩
          · exact .inr ⟨b, o + q * 2, had.symm, by omega, by unfold maxLen at *; omega⟩
        rw [hq] at Hr
        have Hpr := Lib.hid hpr; clear hpr
        have Hpk := Lib.hid hpk; clear hpk
        clear hq hok Htop Hroot hn0
        have hkd : KeptW wr wr.drew := ⟨rfl, rfl, rfl, Nat.le_refl _, fun _ _ => rfl⟩
        have Hkd := Lib.hid hkd; clear hkd
        refine RegR.wp_region_can (KeptW wr) [(0, 0), (1, 0), (2, 0), (4, 0), (5, 0), (6, 0), (7, 0), (3, 1), (8, 1), (9, 0), (10, 0), (11, 0)] (by kernel_rfl) (by kernel_rfl) (fun _ _ d _ _ h => by cases d <;> exact h) Hkd.out ?_
        dsimp only [RegR.pick, List.getElem?_cons_zero, List.getElem?_cons_succ]
        iterate 7 (refine RegR.can_reads (fun K hK => ?_); go_simp; refine ⟨_, fun _ _ => rfl, hK _ ?_⟩; clear hK K)
        have Hk1 := Lib.hid (Hbel.out.trans (KeptW.bel Hkd.out |>.mono Hbel.out.size))
        refine RegR.can_turns (fun K K0 hK hK0 => ?_)
        go_simp
        refine (Hl.out _ Hk1.out).mono ?_
        rintro e w2 ⟨rfl, hb2⟩
        refine hK _ _ (Hkd.out.mono hb2) ?_
        clear hK hK0 K K0
        have Hk2 := Lib.hid (Hk1.out.trans (hb2.mono Hk1.out.size))
        have Hkw2 := Lib.hid (Hkd.out.mono hb2); clear hb2
        refine RegR.can_turns (fun K K0 hK hK0 => ?_)
        go_simp
        refine (Hr.out _ Hk2.out _ _ (Hpr.out _ Hk2.out) Hpk.out).mono ?_
        rintro e w3 ⟨rfl, hb3⟩
        refine hK _ _ (Hkw2.out.mono hb3) ?_
        clear hK hK0 K K0
        have Hk3 := Lib.hid (Hk2.out.trans (hb3.mono Hk2.out.size)); clear hb3
        iterate 3 (refine RegR.can_reads (fun K hK => ?_); go_simp; refine ⟨_, fun _ _ => rfl, hK _ ?_⟩; clear hK K)
        refine RegR.can_nil ?_
        go_wp2_with fail
        go_ret
        exact ⟨by rw [Hw4.out]; rfl, Hk3.out⟩
end Go.Proofs.Ytkngadbeflepoaa
/- Alike: a tree holds these pairs, in order. Condition: at most 1000000 pairs. -/
namespace Go.Proofs.Ytkngadbeflepoaa
open Go.RowKit Go.Shelf
attribute [local go_sem] Oper.semAt_some

/-- A box of one cell. -/
def BoxAt (W : World) (B : Nat) (v : Value) (t : TypeId) : Prop := W.heap[B]? = some (.cells #[v] t (0, 0))
theorem BoxAt.cell {W : World} {B : Nat} {v : Value} {t : TypeId} (h : BoxAt W B v t) : W.cell? ⟨B, 0, none⟩ = some v := cell_of_row _ _ _ _ _ _ h
theorem BoxAt.frozen {W : World} {B : Nat} {v : Value} {t : TypeId} (h : BoxAt W B v t) : W.frozen? ⟨B, 0, none⟩ = false := frozen_cells h 0
theorem BoxAt.lt {W : World} {B : Nat} {v : Value} {t : TypeId} (h : BoxAt W B v t) : B < W.heap.size := (Array.getElem?_eq_some_iff.1 h).1
theorem BoxAt.own {B0 : Nat} {β : Type} {B : Nat} {f : β → Value} {t : TypeId} : OwnFrom B0 (fun (s : β) W => BoxAt W B (f s) t) := fun s W W' row hs hg hr => (hg.block B hs.lt (fun e => by
  obtain ⟨_, o, ho, hc⟩ := hr B e.symm
  unfold BoxAt at hs
  rw [hs] at ho
  cases ho
  cases hc)).trans hs
theorem BoxAt.below {W W' : World} {B : Nat} {v : Value} {t : TypeId} (h : BoxAt W B v t) (hb : Below W.heap.size W W') : BoxAt W' B v t := (hb.block B h.lt).trans h
theorem BoxAt.new (W : World) (v : Value) (t : TypeId) : BoxAt (W.alloc (.cells #[v] t)) W.heap.size v t := heap_alloc_new W _
theorem BoxAt.set {W : World} {B : Nat} {v v' : Value} {t : TypeId} (h : BoxAt W B v t) : BoxAt (W.setCell ⟨B, 0, none⟩ v') B v' t := by
  unfold BoxAt
  rw [heap_setCell_same _ _ _ _ _ _ h]
  rfl
theorem BoxAt.other {W : World} {B B' : Nat} {v v' : Value} {t : TypeId} (h : BoxAt W B v t) (hne : B ≠ B') : BoxAt (W.setCell ⟨B', 0, none⟩ v') B v t := (Below.heap_setCell _ _ _ _ (by exact hne)).trans h

theorem seq_some (w : World) (fn : Fn) (a b : Array Value) : (binOp .eql 92 (.func fn a b) .nilFunc).run Try.prog w = .ok (.bool false) w := by
  have h : ∀ d : Nat, (Op.equalIn (d + 1) 92 (.func fn a b) .nilFunc).run Try.prog w = .ok false w := fun d => by
    simp [Op.equalIn, run_underlying Try.underlying92]
  have h2 : (Op.equal 92 (.func fn a b) .nilFunc).run Try.prog w = .ok false w := h 9999
  simp only [binOp]
  simp only [Sem.run_bind, h2, Result.andThen_ok, Sem.run_pure]
/-- What Alike's loop has between two rounds. -/
structure AlikeI (w0 : World) (A : Option Addr) (n c : Nat) (pre : Prs) (W : World) : Prop where
  bw : BoxAt W w0.heap.size (.slice A n c) 26
  br : BoxAt W (w0.heap.size + 1) (.bool false) 4
  bi : BoxAt W (w0.heap.size + 2) (.int .i64 (pre.length : Int)) 3
  bel : Below w0.heap.size w0 W
theorem AlikeI.own {w0 : World} {A : Option Addr} {n c B0 : Nat} (hB : w0.heap.size ≤ B0) : OwnFrom B0 (AlikeI w0 A n c) := fun s W W' row hs hg hr =>
  ⟨BoxAt.own (f := fun _ => _) s W W' row hs.bw hg hr, BoxAt.own (f := fun _ => _) s W W' row hs.br hg hr, BoxAt.own (f := fun (s : Prs) => .int .i64 (s.length : Int)) s W W' row hs.bi hg hr,
    ⟨hg.os.trans hs.bel.os, hg.tape.trans hs.bel.tape, hg.output.trans hs.bel.output, Nat.le_trans hs.bel.size hg.size, fun q hq => (hg.block q (Nat.lt_of_lt_of_le hq hs.bel.size) (fun e => by have := (hr q e.symm).1; omega)).trans (hs.bel.block q hq)⟩⟩

set_option maxRecDepth 100000 in
set_option maxHeartbeats 4000000 in
theorem alike_in (T : Tr) (A : Option Addr) (n c : Nat) (L : Prs) (w : World) (hat : TreeAt w T) (hp : PairsAt w A n L) (hL : T.kvs = L) (hn : n ≤ 1000000) (m : Nat) (hm : 3 ≤ m) :
    CallsIn Fence.wide m Try.prog 19 #[.pointer T.ptr, .slice A n c] w fun e w' => e = .returned (.bool true) ∧ Below w.heap.size w w' := by
  have hcnt : T.cnt = n := by rw [sh_cnt, cnt_kv, ← hp.hlen, ← hL]; rfl
  have Hat := Lib.hid hat; clear hat
  have Hp := Lib.hid hp; clear hp
  obtain ⟨P, hP⟩ : ∃ P, T.ptr = P := ⟨_, rfl⟩
  rw [hP]
  refine callsIn_of_wp_marks Try.func19 rfl trivial ?_ rfl
  simp only [Try.ntmps19, List.size_toArray, List.length_cons, List.length_nil, Nat.reduceAdd, Nat.reduceSub, Array.replicate_succ, Array.replicate_zero, List.push_toArray, List.append_toArray, List.nil_append, List.cons_append]
  gi_wp2
  have hbw := (BoxAt.new w (.slice A n c) 26).below ((Below.refl _ _).alloc (Nat.le_refl _) (.cells #[.bool false] 4))
  have hbr := BoxAt.new (w.alloc (.cells #[.slice A n c] 26)) (.bool false) 4
  rw [World.size_alloc] at hbr
  have hb2 : Below w.heap.size w ((w.alloc (.cells #[.slice A n c] 26)).alloc (.cells #[.bool false] 4)) := ((Below.refl _ _).alloc (Nat.le_refl _) _).alloc (by simp) _
  have hs2 : ((w.alloc (.cells #[.slice A n c] 26)).alloc (.cells #[.bool false] 4)).heap.size = w.heap.size + 2 := by simp
  generalize (w.alloc (.cells #[.slice A n c] 26)).alloc (.cells #[.bool false] 4) = w2 at *
  have Hbw := Lib.hid hbw; clear hbw
  have Hbr := Lib.hid hbr; clear hbr
  have Hb2 := Lib.hid hb2; clear hb2
  have Hs2 := Lib.hid hs2; clear hs2
  have hkd : KeptW w2 w2.drew := ⟨rfl, rfl, rfl, Nat.le_refl _, fun _ _ => rfl⟩
  refine RegIn.wpIn_region_calm (KeptW w2) [(0, 0), (2, 0), (3, 0), (1, 1), (4, 0)] rfl (by kernel_rfl) (by kernel_rfl) hkd ?_
  dsimp only [RegIn.pick, List.getElem?_cons_zero, List.getElem?_cons_succ]
  have hs3 : w2.drew.heap.size = w.heap.size + 2 := Hs2.out
  have hl3 := len_any T w2.drew ((Hat.out.below Hb2.out).drew)
  rw [hP, hcnt] at hl3
  change RegIn.Can _ _ _ _ _ _ _ _ w2.drew
  generalize w2.drew = w3 at *
  have Hkd := Lib.hid hkd; clear hkd
  have Hs3 := Lib.hid hs3; clear hs3
  have Hl3 := Lib.hid hl3; clear hl3
  iterate 1 (refine RegIn.can_reads ?_; intro K hK; go_simp; (first | (refine ⟨_, fun _ _ => rfl, hK _ ?_⟩) | (refine hK _ ?_)); clear hK K)
  refine RegIn.can_reads ?_
  intro K hK
  go_simp
  refine ⟨.slice A n c, fun y hy => ?_, hK _ ?_⟩
  · have f0 := (Hbw.out.below hy).cell
    go_simp
  clear hK K
  iterate 1 (refine RegIn.can_reads ?_; intro K hK; go_simp; (first | (refine ⟨_, fun _ _ => rfl, hK _ ?_⟩) | (refine hK _ ?_)); clear hK K)
  refine RegIn.can_turns ?_
  intro K K0 hK hK0
  go_simp
  refine ⟨trivial, (fun h => (by cases h)), ?_⟩
  refine (callsIn_wide.2 Hl3.out).mono ?_
  rintro e w' ⟨rfl, rfl⟩
  refine hK _ _ Hkd.out ?_
  clear hK hK0 K K0
  iterate 1 (refine RegIn.can_reads ?_; intro K hK; go_simp; (first | (refine ⟨_, fun _ _ => rfl, hK _ ?_⟩) | (refine hK _ ?_)); clear hK K)
  refine RegIn.can_calm ?_
  have hseq := seq_some
  gi_wp2_with (refine ⟨trivial, (fun h => (by cases h)), ?_⟩; refine (all_in (m - 1) _ _).mono ?_; rintro e w' ⟨rfl, rfl⟩)
  rw [Hs3.out]
  have hbi := BoxAt.new w3 (.int .i64 0) 3
  rw [Hs3.out] at hbi
  have hs4 : (w3.alloc (.cells #[.int .i64 0] 3)).heap.size = w.heap.size + 3 := by rw [World.size_alloc, Hs3.out]
  have hbt := BoxAt.new (w3.alloc (.cells #[.int .i64 0] 3)) (.pointer P) 25
  rw [hs4] at hbt
  have hu1 : Below w3.heap.size w3 ((w3.alloc (.cells #[.int .i64 0] 3)).alloc (.cells #[.pointer P] 25)) := ((Below.refl _ _).alloc (Nat.le_refl _) _).alloc (by simp) _
  have hs5 : ((w3.alloc (.cells #[.int .i64 0] 3)).alloc (.cells #[.pointer P] 25)).heap.size = w.heap.size + 4 := by rw [World.size_alloc, hs4]
  have hbi5 := hbi.below ((Below.refl _ _).alloc (Nat.le_refl _) (.cells #[.pointer P] 25))
  generalize (w3.alloc (.cells #[.int .i64 0] 3)).alloc (.cells #[.pointer P] 25) = w5 at *
  have hb35 : Below w2.heap.size w2 w5 := (KeptW.bel Hkd.out).trans (hu1.mono (KeptW.bel Hkd.out).size)
  have hb5 : Below w.heap.size w w5 := Hb2.out.trans (hb35.mono Hb2.out.size)
  have hI0 : AlikeI w A n c [] w5 := ⟨Hbw.out.below hb35, Hbr.out.below hb35, hbi5, hb5⟩
  have hat5 := Hat.out.below hb5
  have hlo5 : T.Lo w.heap.size := Hat.out.lo
  have hc5 : w5.cell? ⟨w.heap.size + 3, 0, none⟩ = some (.pointer T.ptr) := by rw [hP]; exact hbt.cell
  clear hbi hbt hu1 hbi5 hs4 hb35
  refine wpIn_rangeFunc_ownF (F := Fence.wide) rfl (by omega) (gf := 88) (lb := #[.pointer (some ⟨w.heap.size + 3, 0, none⟩)]) rfl trivial (enters_of Try.func88 (by kernel_rfl) rfl)
    (all_stops (m - 1) (w.heap.size + 3) w.heap.size (w.heap.size + 4) T w5 (by omega) (by omega) (by omega) hc5 hat5 hlo5) (fun h k => h.trans k) (keepC_b (by omega)) (Below.refl _ _) (fun _ => rfl)
    (AlikeI w A n c) (fun c pre _ => c = .ret ∧ ∃ (p : Prs) (x : ByteArray × ByteArray), pre = p ++ [x] ∧ L[p.length]? ≠ some x) (AlikeI.own (by omega)) (fun _ _ _ _ _ h _ _ => h) hI0
    (fun x => { tmps := #[.pointer P, .slice A n c, undef, .pointer (some ⟨w.heap.size, 0, none⟩), .pointer (some ⟨w.heap.size + 1, 0, none⟩), .pointer (some ⟨w.heap.size + 2, 0, none⟩), (.func (.func 88) #[] #[.pointer (some ⟨w.heap.size + 3, 0, none⟩)]), .string x.1, .string x.2, .pointer P, .int .i64 (n : Int), .slice A n c, .int .i64 (n : Int), .bool false, .pointer P, (.func (.func 88) #[] #[.pointer (some ⟨w.heap.size + 3, 0, none⟩)]), (.func (.func 88) #[] #[.pointer (some ⟨w.heap.size + 3, 0, none⟩)]), .bool false, (.func (.func 88) #[] #[.pointer (some ⟨w.heap.size + 3, 0, none⟩)]), .string x.1, .string x.2, undef, undef, undef, undef, undef, undef, undef, undef, undef, undef, undef, undef, undef, undef, undef, undef, undef, undef, undef, undef, undef, undef, undef, undef, undef, undef, undef, undef], defers := [] }) ?assign ?body ?done ?stop
  case assign =>
    intro l x W K hK
    gi_wp2
    exact hK
  case body =>
    rintro l pre x W hI hlen
    have hlen' : pre.length < n := by rw [← Hp.out.hlen, ← hL]; exact hlen
    obtain ⟨b, o, rfl, _, e0, e1⟩ := pairs_get (Hp.out.below hI.bel) hlen'
    have hLat : L[pre.length]? = some (L.getD pre.length pdflt) := by
      have := Hp.out.hlen
      simp [List.getD, List.getElem?_eq_getElem (show pre.length < L.length by omega)]
    have f0 := hI.bw.cell
    have f1 := hI.bi.cell
    have z1 := hI.bi.frozen
    have f2 := hI.br.cell
    have z2 := hI.br.frozen
    have hlt : (pre.length : Int) < (n : Int) := by omega
    have hsucc := tsucc (n := pre.length) (by omega)
    have HI := Lib.hid hI; clear hI
    obtain ⟨q, hq⟩ : ∃ q, L.getD pre.length pdflt = q := ⟨_, rfl⟩
    rw [hq] at hLat e0 e1
    have HLat := Lib.hid hLat; clear hLat hq
    obtain ⟨i, hi⟩ : ∃ i, pre.length = i := ⟨_, rfl⟩
    rw [hi] at e0 e1 f1 hlt hsucc
    have Hi := Lib.hid hi; clear hi hlen hlen'
    obtain ⟨xk, xv⟩ := x
    obtain ⟨qk, qv⟩ := q
    simp only at e0 e1
    by_cases hk : xk = qk
    · subst hk
      by_cases hv : xv = qv
      · subst hv
        gi_wp2
        have hI := HI.out
        refine ⟨KeepsOthers.setCell _ _ _, ⟨below_set (Below.refl _ _) (by omega), fun q cs t f hq e => (Below.heap_setCell _ _ _ _ (by show q ≠ w.heap.size + 2; omega)).trans e⟩, hI.bw.other (by omega), hI.br.other (by omega), ?_, below_set hI.bel (by omega)⟩
        have := hI.bi.set (v' := .int .i64 ((i + 1 : Nat) : Int))
        rw [List.length_append, Hi.out]
        exact this
      · have hne := txt_ne hv
        gi_wp2
        exact ⟨KeepsOthers.setCell _ _ _, rfl, pre, _, rfl, by rw [HLat.out]; intro h; cases h; exact hv rfl⟩
    · have hne := txt_ne hk
      gi_wp2
      exact ⟨KeepsOthers.setCell _ _ _, rfl, pre, _, rfl, by rw [HLat.out]; intro h; cases h; exact hk rfl⟩
  case done =>
    rintro D ys W hD rfl hI hK
    have hn2 : T.kvs.length = n := by rw [hL]; exact Hp.out.hlen
    have f0 := hI.bw.cell
    have f1 := hI.bi.cell
    have f2 := hI.br.cell
    have z2 := hI.br.frozen
    rw [hn2] at f1
    have HI := Lib.hid hI; clear hI
    have HK := Lib.hid hK; clear hK
    gi_wp2
    have hK2 : (W.setCell ⟨w.heap.size + 1, 0, none⟩ (.bool true)).heap[D]? = some (.deferred (some [])) := (Below.heap_setCell _ _ _ _ (by show D ≠ w.heap.size + 1; omega)).trans HK.out
    have hbox : BoxAt (W.setCell ⟨w.heap.size + 1, 0, none⟩ (.bool true)) (w.heap.size + 1) (.bool true) 4 := HI.out.br.set
    have hb6 : Below w.heap.size w (W.setCell ⟨w.heap.size + 1, 0, none⟩ (.bool true)) := below_set HI.out.bel (by omega)
    generalize W.setCell ⟨w.heap.size + 1, 0, none⟩ (.bool true) = W6 at *
    have hc7 := cell_kept hbox.cell (grownBy_putObj' W6 D (.deferred none)) (fun r e => by cases e; exact ⟨_, hK2, rfl⟩)
    have hb7 : Below w.heap.size w (W6.putObj D (.deferred none)) := hb6.trans (belowK_b (w := w) (Nat.le_refl _) W6 D _ _ (by omega) hK2 rfl rfl)
    refine ⟨by simp, .inl ⟨_, _, rfl, run_takeDeferred hK2, ?_⟩⟩
    refine ⟨.bool true, ?_, rfl, hb7⟩
    simp [results, Try.results19, go_sem, hc7]
  case stop =>
    rintro D c pre W hD hpre ⟨rfl, p, x, rfl, hne⟩ _
    exfalso
    obtain ⟨s, hs⟩ := hpre
    apply hne
    rw [← hL, ← hs]
    simp
theorem alike_any (T : Tr) (A : Option Addr) (n c : Nat) (L : Prs) (w : World) (hat : TreeAt w T) (hp : PairsAt w A n L) (hL : T.kvs = L) (hn : n ≤ 1000000) :
    Calls Try.prog 19 #[.pointer T.ptr, .slice A n c] w fun e w' => e = .returned (.bool true) ∧ Below w.heap.size w w' := callsIn_wide.1 (alike_in T A n c L w hat hp hL hn 3 (Nat.le_refl _))
end Go.Proofs.Ytkngadbeflepoaa
