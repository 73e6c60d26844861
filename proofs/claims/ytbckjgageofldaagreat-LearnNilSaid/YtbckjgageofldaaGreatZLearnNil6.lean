/- Commands: Check. No condition. -/
import Derived.Deep.DeepCutAuto
import Derived.Test.YtbckjgageofldaaGreatZLearnNil3
import Derived.Test.YtbckjgageofldaaGreatZLearnNil5
namespace Go.Proofs.YtbckjgageofldaaGreat
open Go.RowKit
theorem lays_any {l : List Oper} {i d : Nat} {z : Obj} {t : TypeId} (h : ∀ (ρ : Operand → Value) (x : World) (o : Oper), o.op = .alloc t → (execOp ρ o).run Tryz.prog x = .ok (.value (RegL.ptr x.heap.size)) (x.alloc z)) (hl : (l[i]?).map (fun o => o.op) = some (.alloc t)) :
  RegL.LayOk Tryz.prog l ⟨i, d, z⟩ := fun o ho ρ x => h ρ x o (by
 have ho' : l[i]? = some o := ho
 rw [ho'] at hl
 simpa using hl)
theorem layU8 (ρ : Operand → Value) (x : World) (o : Oper) (h : o.op = .alloc 5) : (execOp ρ o).run Tryz.prog x = .ok (.value (RegL.ptr x.heap.size)) (x.alloc (.cells #[.int .u8 0] 5 (0, 0))) := by
 simp only [execOp, h]
 go_simp
 exact rfl
def VarAt (w : World) (b : Nat) (v : Value) (t : TypeId) : Prop := w.heap[b]? = some (.cells #[v] t (0, 0))
section
variable {w w' : World} {b b' i : Nat} {v x : Value} {t : TypeId}
theorem VarAt.cell (h : VarAt w b v t) : w.cell? ⟨b, 0, none⟩ = some v := cell_of_row _ _ _ _ _ _ h
theorem VarAt.thawed (h : VarAt w b v t) (j : Nat) : w.frozen? ⟨b, j, none⟩ = false := by
 unfold VarAt at h
 simp [World.frozen?, h]
theorem VarAt.lt (h : VarAt w b v t) : b < w.heap.size := (Array.getElem?_eq_some_iff.1 h).1
theorem VarAt.below (h : VarAt w b v t) (hb : Below w.heap.size w w') : VarAt w' b v t := (hb.block b h.lt).trans h
theorem VarAt.new (w : World) (v : Value) (t : TypeId) : VarAt (w.alloc (.cells #[v] t)) w.heap.size v t := heap_alloc_new w _
theorem VarAt.set (h : VarAt w b v t) : VarAt (w.setCell ⟨b, 0, none⟩ x) b x t := by
 unfold VarAt
 rw [heap_setCell_same _ _ _ _ _ _ h]
 rfl
theorem VarAt.other (h : VarAt w b v t) (hne : b ≠ b') : VarAt (w.setCell ⟨b', i, none⟩ x) b v t := (Below.heap_setCell _ _ _ _ (by exact hne)).trans h
theorem CmdAt.other {c : CmdV} (h : CmdAt w b c) (hne : b ≠ b') : CmdAt (w.setCell ⟨b', i, none⟩ x) b c := (Below.heap_setCell _ _ _ _ (by exact hne)).trans h
theorem below_setV {w0 : World} {n : Nat} (h : Below n w0 w) (hb : n ≤ b) : Below n w0 (w.setCell ⟨b, i, none⟩ x) :=
 ⟨h.os, h.tape, h.output, by simpa [World.setCell] using h.size, fun q hq => (Below.heap_setCell _ _ _ _ (by show q ≠ b; omega)).trans (h.block q hq)⟩
end
theorem zU8 (w : World) : (zeroValue 5).run Tryz.prog w = .ok (.int .u8 0) w := by
 go_simp
theorem keptW_mono (w : World) : RegL.Mono (KeptW w) := fun _ _ h hb => KeptW.mono h hb
set_option maxRecDepth 100000 in
set_option maxHeartbeats 4000000 in
theorem check_any (c : CmdV) (w : World) : Calls Tryz.prog 78 #[.agg (cmdCells c).toArray] w fun e w' => e = .returned (.int .i64 (if mayC c = true then 0 else 2)) ∧ Below w.heap.size w w' := by
 have hc1 := CmdAt.new w c
 have hb1 := (Below.refl w.heap.size w).alloc (Nat.le_refl _) (.cells (cmdCells c).toArray 56)
 have hs1 : (w.alloc (.cells (cmdCells c).toArray 56)).heap.size = w.heap.size + 1 := by simp
 obtain ⟨R, hR⟩ : ∃ R : Int, (if mayC c = true then (0 : Int) else 2) = R := ⟨_, rfl⟩
 rw [hR]
 go_enter Tryz.func78, Tryz.ntmps78
 go_upto_region 1 with fail
 change Code.wp _ _ _ _ (w.alloc (.cells (cmdCells c).toArray 56))
 generalize w.alloc (.cells (cmdCells c).toArray 56) = w1 at *
 have Hc1 := Lib.hid hc1; clear hc1
 refine (wpIn_wide (n := 1)).1 ?_
 refine RegL.wpIn_region_lays (F := Fence.wide) (KeptW w1) [⟨7, 3, .cells #[.int .u8 0] 5 (0, 0)⟩] [(1, 0), (2, 0), (0, 1), (3, 0), (4, 2), (5, 2), (6, 2), (8, 3), (9, 2)] (by kernel_rfl) (by kernel_rfl) (by kernel_rfl) (fun p hp => by rw [List.mem_singleton] at hp; subst hp; exact lays_any layU8 rfl)
  (fun _ _ d _ _ h => by cases d <;> exact h) (fun _ _ d _ _ h => by cases d <;> exact h) ⟨rfl, rfl, rfl, Nat.le_refl _, fun _ _ => rfl⟩ (keptW_mono w1) ?_
 dsimp only [RegK.pick, List.getElem?_cons_zero, List.getElem?_cons_succ]
 iterate 1 (refine RegL.reads ?_; intro K hK; go_simp; (first | (refine ⟨_, fun _ _ => rfl, hK _ ?_⟩) | (refine ⟨_, fun _ => rfl, hK _ ?_⟩) | (refine hK _ ?_)); clear hK K)
 refine RegL.reads ?_
 intro K hK
 go_simp
 refine ⟨.int .u8 (c.kind.toNat : Int), fun y hy => ?_, hK _ ?_⟩
 ·
  have f0 := (Hc1.out.below (KeptW.bel hy)).cells.2.2.1
  go_simp
 clear hK K
 refine RegL.adds (fun _ => trivial) ?_
 go_simp
 intro x hx K hK
 refine ⟨trivial, ?_⟩
 refine (callsIn_wide.2 (kinds_any x)).mono ?_
 rintro e x2 ⟨rfl, hm, hb⟩
 refine hK (fun y => KeptW w1 y ∧ MapAt kKind y x.heap.size kindsL) _ _ hb (fun y h => h.1) (fun y z h hb => ⟨KeptW.mono h.1 hb, h.2.below kKind hb⟩) ⟨KeptW.mono hx hb, hm⟩ ?_
 clear hK K hm hb hx
 obtain ⟨hv, hhv⟩ : ∃ n, (hasOf c.kind).getD 0 = n := ⟨_, rfl⟩
 obtain ⟨ok, hok⟩ : ∃ b, (hasOf c.kind).isSome = b := ⟨_, rfl⟩
 refine RegL.reads ?_
 intro K hK
 go_simp
 refine ⟨.tuple #[.int .u8 (hv : Int), .bool ok], fun y hy hy2 => ?_, hK _ ?_⟩
 ·
  have f0 := run_lookup_at kKind hy2 Tryz.underlying230 (zU8 y) c.kind true
  rw [kinds_get] at f0
  have f1 : (Instr.lookup 230 (.map (some x.heap.size)) (.int .u8 (c.kind.toNat : Int)) true).run Tryz.prog y = .ok (.tuple #[.int .u8 (hv : Int), .bool ok]) y := by
   have f2 : (Instr.lookup 230 (.map (some x.heap.size)) (.int .u8 (c.kind.toNat : Int)) true).run Tryz.prog y = _ := f0
   rw [f2, ← hhv, ← hok]
   cases hasOf c.kind <;> rfl
  clear f0
  go_simp
 clear hK K
 iterate 3 (refine RegL.pures ?_; intro K hK; go_simp; (first | (refine ⟨_, fun _ => rfl, hK _ ?_⟩) | (refine hK _ ?_)); clear hK K)
 refine RegL.last ?_
 intro g y hF hy
 obtain ⟨hg1, hg2⟩ := hF.1 ⟨7, 3, .cells #[.int .u8 0] 5 (0, 0)⟩ (by simp) rfl
 have hg3 : VarAt y (g 7) (.int .u8 0) 5 := hg1
 have hg4 : w.heap.size + 1 ≤ g 7 := hg2
 have hby : Below w.heap.size w y := hb1.trans (hy.1.bel.mono hb1.size)
 have hcy : CmdAt y w.heap.size c := Hc1.out.below hy.1.bel
 simp only [RegL.putS, RegL.ptr, if_true]
 clear hF hg1 hg2 hy
 generalize g 7 = g7 at *
 have f0 := hg3.cell
 have f1 := hg3.thawed 0
 have hv3 : VarAt (y.setCell ⟨g7, 0, none⟩ (.int .u8 (hv : Int))) g7 (.int .u8 (hv : Int)) 5 := hg3.set
 have hc3 : CmdAt (y.setCell ⟨g7, 0, none⟩ (.int .u8 (hv : Int))) w.heap.size c := hcy.other (by omega)
 have hb3 : Below w.heap.size w (y.setCell ⟨g7, 0, none⟩ (.int .u8 (hv : Int))) := below_setV hby (by omega)
 have Hv3 := Lib.hid hv3; clear hv3
 have Hc3 := Lib.hid hc3; clear hc3
 have Hb3 := Lib.hid hb3; clear hb3 hby hcy hg3 hg4 Hc1 hb1 hs1
 refine RegK.can_frees (fun _ => trivial) ?_
 intro K K0 hK hK0
 go_simp
 refine hK (fun _ => True) _ _ trivial ?_
 clear hK K hK0 K0
 iterate 1 (refine RegK.can_pure ?_; intro K hK; go_simp; (first | (refine ⟨_, fun _ => rfl, hK _ ?_⟩) | (refine hK _ ?_)); clear hK K)
 clear f0 f1
 refine RegK.can_nil ?_
 change Exit.then _ _ _ _ (y.setCell ⟨g7, 0, none⟩ (.int .u8 (hv : Int)))
 generalize y.setCell ⟨g7, 0, none⟩ (.int .u8 (hv : Int)) = w3 at *
 have hvs := has_vals c.kind
 rw [hhv] at hvs
 have hRe : R = if ok = true ∧ c.client.toNat < 4 ∧ c.seq.toNat ≠ 0 ∧ mostOf hv 1 1 ≤ c.key.size ∧ c.key.size ≤ mostOf hv 1 16 ∧ c.old.size ≤ mostOf hv 2 64 ∧ c.fresh.size ≤ mostOf hv 4 64 ∧ (c.set.toNat = 0 ∨ hv &&& 8 ≠ 0) then 0 else 2 := by
  rw [← hR]
  unfold mayC
  rw [hhv, hok]
  simp only [Bool.and_eq_true, Bool.or_eq_true, decide_eq_true_eq, and_assoc]
 obtain ⟨n1, hn1⟩ : ∃ n, mostOf hv 1 1 = n := ⟨_, rfl⟩
 obtain ⟨n2, hn2⟩ : ∃ n, mostOf hv 1 16 = n := ⟨_, rfl⟩
 obtain ⟨n3, hn3⟩ : ∃ n, mostOf hv 2 64 = n := ⟨_, rfl⟩
 obtain ⟨n4, hn4⟩ : ∃ n, mostOf hv 4 64 = n := ⟨_, rfl⟩
 rw [hn1, hn2, hn3, hn4] at hRe
 have HRe := Lib.hid hRe; clear hRe
 have Hl1 := Lib.hid hn1; clear hn1
 have Hl2 := Lib.hid hn2; clear hn2
 have Hl3 := Lib.hid hn3; clear hn3
 have Hl4 := Lib.hid hn4; clear hn4
 have Hhv := Lib.hid hvs; clear hvs
 clear hR hhv hok
 rename_i Kx Qx
 obtain ⟨d0, d1, d2, d3, d4, d5, d6⟩ := Hc3.out.cells
 have e0 := Hv3.out.cell
 have Hvw3 := Hv3
 have Hcw3 := Hc3
 have Hbw3 := Hb3
 clear Hv3 Hc3 Hb3
 clear d2 d3 d4 d5 d6
 cases ok with
 | false =>
  have HR2 := Lib.hid (show R = 2 by rw [HRe.out]; simp)
  go_wp2_with fail
  go_ret
  exact ⟨by rw [HR2.out]; rfl, Hbw3.out⟩
 | true =>
  by_cases hcl : c.client.toNat < 4
  ·
   have hcl' : ¬ (4 : Int) ≤ (c.client.toNat : Int) := by omega
   by_cases hsq : c.seq.toNat = 0
   ·
    have hsq' : ((c.seq.toNat : Int) == 0) = true := by simp [hsq]
    have HR2 := Lib.hid (show R = 2 by rw [HRe.out, hsq]; simp)
    go_wp2_with fail
    go_ret
    exact ⟨by rw [HR2.out]; rfl, Hbw3.out⟩
   ·
    have hsq' : ((c.seq.toNat : Int) == 0) = false := by simp; omega
    go_upto_region 7 with fail
    clear d0 d1 e0 hcl' hsq'
    refine (wpIn_wide (n := 1)).1 ?_
    refine RegK.wpIn_region_can (F := Fence.wide) (KeptW w3) [(0, 0), (1, 0), (2, 0), (3, 0), (4, 1), (5, 0), (6, 0)] (by kernel_rfl) (by kernel_rfl) (by kernel_rfl) (fun _ _ d _ _ h => by cases d <;> exact h) ⟨rfl, rfl, rfl, Nat.le_refl _, fun _ _ => rfl⟩ ?_
    dsimp only [RegK.pick, List.getElem?_cons_zero, List.getElem?_cons_succ]
    change RegK.Can _ _ _ _ _ _ _ _ w3.drew
    have hcall := most_any g7 hv 1 1 w3.drew Hhv.out (by simp) (Hvw3.out.below ⟨rfl, rfl, rfl, Nat.le_refl _, fun _ _ => rfl⟩).cell
    rw [Hl1.out] at hcall
    have Hcall := Lib.hid hcall; clear hcall
    iterate 1 (refine RegK.can_reads ?_; intro K hK; go_simp; (first | (refine ⟨_, fun _ _ => rfl, hK _ ?_⟩) | (refine hK _ ?_)); clear hK K)
    refine RegK.can_reads ?_
    intro K hK
    go_simp
    refine ⟨.string c.key, fun y hy => ?_, hK _ ?_⟩
    ·
     have f0 := (Hcw3.out.below (KeptW.bel hy)).cells.2.2.2.1
     go_simp
    clear hK K
    iterate 2 (refine RegK.can_reads ?_; intro K hK; go_simp; (first | (refine ⟨_, fun _ _ => rfl, hK _ ?_⟩) | (refine hK _ ?_)); clear hK K)
    refine RegK.can_turns (fun _ => trivial) ?_
    intro K K0 hK hK0
    go_simp
    refine ⟨trivial, ?_⟩
    refine (callsIn_wide.2 Hcall.out).mono ?_
    rintro e w' ⟨rfl, rfl⟩
    refine hK _ _ ⟨rfl, rfl, rfl, Nat.le_refl _, fun _ _ => rfl⟩ ?_
    clear hK K hK0 K0 Hcall
    iterate 2 (refine RegK.can_reads ?_; intro K hK; go_simp; (first | (refine ⟨_, fun _ _ => rfl, hK _ ?_⟩) | (refine hK _ ?_)); clear hK K)
    refine RegK.can_nil ?_
    have Hvwa := Lib.hid (Hvw3.out.below (show Below w3.heap.size w3 w3.drew from ⟨rfl, rfl, rfl, Nat.le_refl _, fun _ _ => rfl⟩)); clear Hvw3
    have Hcwa := Lib.hid (Hcw3.out.below (show Below w3.heap.size w3 w3.drew from ⟨rfl, rfl, rfl, Nat.le_refl _, fun _ _ => rfl⟩)); clear Hcw3
    have Hbwa := Lib.hid (Hbw3.out.trans ((show Below w3.heap.size w3 w3.drew from ⟨rfl, rfl, rfl, Nat.le_refl _, fun _ _ => rfl⟩).mono Hbw3.out.size)); clear Hbw3
    generalize w3.drew = wa at *
    by_cases a1 : n1 ≤ c.key.size
    ·
     have a1' : ¬ (c.key.size : Int) < (n1 : Int) := by omega
     have a1n : ¬ c.key.size < n1 := by omega
     go_upto_region 8 with fail
     clear a1' a1n
     refine (wpIn_wide (n := 1)).1 ?_
     refine RegK.wpIn_region_can (F := Fence.wide) (KeptW wa) [(0, 0), (1, 0), (2, 0), (3, 0), (4, 1), (5, 0), (6, 0)] (by kernel_rfl) (by kernel_rfl) (by kernel_rfl) (fun _ _ d _ _ h => by cases d <;> exact h) ⟨rfl, rfl, rfl, Nat.le_refl _, fun _ _ => rfl⟩ ?_
     dsimp only [RegK.pick, List.getElem?_cons_zero, List.getElem?_cons_succ]
     change RegK.Can _ _ _ _ _ _ _ _ wa.drew
     have hcall := most_any g7 hv 1 16 wa.drew Hhv.out (by simp) (Hvwa.out.below ⟨rfl, rfl, rfl, Nat.le_refl _, fun _ _ => rfl⟩).cell
     rw [Hl2.out] at hcall
     have Hcall := Lib.hid hcall; clear hcall
     iterate 1 (refine RegK.can_reads ?_; intro K hK; go_simp; (first | (refine ⟨_, fun _ _ => rfl, hK _ ?_⟩) | (refine hK _ ?_)); clear hK K)
     refine RegK.can_reads ?_
     intro K hK
     go_simp
     refine ⟨.string c.key, fun y hy => ?_, hK _ ?_⟩
     ·
      have f0 := (Hcwa.out.below (KeptW.bel hy)).cells.2.2.2.1
      go_simp
     clear hK K
     iterate 2 (refine RegK.can_reads ?_; intro K hK; go_simp; (first | (refine ⟨_, fun _ _ => rfl, hK _ ?_⟩) | (refine hK _ ?_)); clear hK K)
     refine RegK.can_turns (fun _ => trivial) ?_
     intro K K0 hK hK0
     go_simp
     refine ⟨trivial, ?_⟩
     refine (callsIn_wide.2 Hcall.out).mono ?_
     rintro e w' ⟨rfl, rfl⟩
     refine hK _ _ ⟨rfl, rfl, rfl, Nat.le_refl _, fun _ _ => rfl⟩ ?_
     clear hK K hK0 K0 Hcall
     iterate 2 (refine RegK.can_reads ?_; intro K hK; go_simp; (first | (refine ⟨_, fun _ _ => rfl, hK _ ?_⟩) | (refine hK _ ?_)); clear hK K)
     refine RegK.can_nil ?_
     have Hvwb := Lib.hid (Hvwa.out.below (show Below wa.heap.size wa wa.drew from ⟨rfl, rfl, rfl, Nat.le_refl _, fun _ _ => rfl⟩)); clear Hvwa
     have Hcwb := Lib.hid (Hcwa.out.below (show Below wa.heap.size wa wa.drew from ⟨rfl, rfl, rfl, Nat.le_refl _, fun _ _ => rfl⟩)); clear Hcwa
     have Hbwb := Lib.hid (Hbwa.out.trans ((show Below wa.heap.size wa wa.drew from ⟨rfl, rfl, rfl, Nat.le_refl _, fun _ _ => rfl⟩).mono Hbwa.out.size)); clear Hbwa
     generalize wa.drew = wb at *
     by_cases a2 : c.key.size ≤ n2
     ·
      have a2' : ¬ (n2 : Int) < (c.key.size : Int) := by omega
      have a2n : ¬ n2 < c.key.size := by omega
      go_upto_region 10 with fail
      clear a2' a2n
      refine (wpIn_wide (n := 1)).1 ?_
      refine RegK.wpIn_region_can (F := Fence.wide) (KeptW wb) [(0, 0), (1, 0), (2, 0), (3, 0), (4, 1), (5, 0), (6, 0)] (by kernel_rfl) (by kernel_rfl) (by kernel_rfl) (fun _ _ d _ _ h => by cases d <;> exact h) ⟨rfl, rfl, rfl, Nat.le_refl _, fun _ _ => rfl⟩ ?_
      dsimp only [RegK.pick, List.getElem?_cons_zero, List.getElem?_cons_succ]
      change RegK.Can _ _ _ _ _ _ _ _ wb.drew
      have hcall := most_any g7 hv 2 64 wb.drew Hhv.out (by simp) (Hvwb.out.below ⟨rfl, rfl, rfl, Nat.le_refl _, fun _ _ => rfl⟩).cell
      rw [Hl3.out] at hcall
      have Hcall := Lib.hid hcall; clear hcall
      iterate 1 (refine RegK.can_reads ?_; intro K hK; go_simp; (first | (refine ⟨_, fun _ _ => rfl, hK _ ?_⟩) | (refine hK _ ?_)); clear hK K)
      refine RegK.can_reads ?_
      intro K hK
      go_simp
      refine ⟨.string c.old, fun y hy => ?_, hK _ ?_⟩
      ·
       have f0 := (Hcwb.out.below (KeptW.bel hy)).cells.2.2.2.2.1
       go_simp
      clear hK K
      iterate 2 (refine RegK.can_reads ?_; intro K hK; go_simp; (first | (refine ⟨_, fun _ _ => rfl, hK _ ?_⟩) | (refine hK _ ?_)); clear hK K)
      refine RegK.can_turns (fun _ => trivial) ?_
      intro K K0 hK hK0
      go_simp
      refine ⟨trivial, ?_⟩
      refine (callsIn_wide.2 Hcall.out).mono ?_
      rintro e w' ⟨rfl, rfl⟩
      refine hK _ _ ⟨rfl, rfl, rfl, Nat.le_refl _, fun _ _ => rfl⟩ ?_
      clear hK K hK0 K0 Hcall
      iterate 2 (refine RegK.can_reads ?_; intro K hK; go_simp; (first | (refine ⟨_, fun _ _ => rfl, hK _ ?_⟩) | (refine hK _ ?_)); clear hK K)
      refine RegK.can_nil ?_
      have Hvwc := Lib.hid (Hvwb.out.below (show Below wb.heap.size wb wb.drew from ⟨rfl, rfl, rfl, Nat.le_refl _, fun _ _ => rfl⟩)); clear Hvwb
      have Hcwc := Lib.hid (Hcwb.out.below (show Below wb.heap.size wb wb.drew from ⟨rfl, rfl, rfl, Nat.le_refl _, fun _ _ => rfl⟩)); clear Hcwb
      have Hbwc := Lib.hid (Hbwb.out.trans ((show Below wb.heap.size wb wb.drew from ⟨rfl, rfl, rfl, Nat.le_refl _, fun _ _ => rfl⟩).mono Hbwb.out.size)); clear Hbwb
      generalize wb.drew = wc at *
      by_cases a3 : c.old.size ≤ n3
      ·
       have a3' : ¬ (n3 : Int) < (c.old.size : Int) := by omega
       have a3n : ¬ n3 < c.old.size := by omega
       go_upto_region 11 with fail
       clear a3' a3n
       refine (wpIn_wide (n := 1)).1 ?_
       refine RegK.wpIn_region_can (F := Fence.wide) (KeptW wc) [(0, 0), (1, 0), (2, 0), (3, 0), (4, 1), (5, 0), (6, 0)] (by kernel_rfl) (by kernel_rfl) (by kernel_rfl) (fun _ _ d _ _ h => by cases d <;> exact h) ⟨rfl, rfl, rfl, Nat.le_refl _, fun _ _ => rfl⟩ ?_
       dsimp only [RegK.pick, List.getElem?_cons_zero, List.getElem?_cons_succ]
       change RegK.Can _ _ _ _ _ _ _ _ wc.drew
       have hcall := most_any g7 hv 4 64 wc.drew Hhv.out (by simp) (Hvwc.out.below ⟨rfl, rfl, rfl, Nat.le_refl _, fun _ _ => rfl⟩).cell
       rw [Hl4.out] at hcall
       have Hcall := Lib.hid hcall; clear hcall
       iterate 1 (refine RegK.can_reads ?_; intro K hK; go_simp; (first | (refine ⟨_, fun _ _ => rfl, hK _ ?_⟩) | (refine hK _ ?_)); clear hK K)
       refine RegK.can_reads ?_
       intro K hK
       go_simp
       refine ⟨.string c.fresh, fun y hy => ?_, hK _ ?_⟩
       ·
        have f0 := (Hcwc.out.below (KeptW.bel hy)).cells.2.2.2.2.2.1
        go_simp
       clear hK K
       iterate 2 (refine RegK.can_reads ?_; intro K hK; go_simp; (first | (refine ⟨_, fun _ _ => rfl, hK _ ?_⟩) | (refine hK _ ?_)); clear hK K)
       refine RegK.can_turns (fun _ => trivial) ?_
       intro K K0 hK hK0
       go_simp
       refine ⟨trivial, ?_⟩
       refine (callsIn_wide.2 Hcall.out).mono ?_
       rintro e w' ⟨rfl, rfl⟩
       refine hK _ _ ⟨rfl, rfl, rfl, Nat.le_refl _, fun _ _ => rfl⟩ ?_
       clear hK K hK0 K0 Hcall
       iterate 2 (refine RegK.can_reads ?_; intro K hK; go_simp; (first | (refine ⟨_, fun _ _ => rfl, hK _ ?_⟩) | (refine hK _ ?_)); clear hK K)
       refine RegK.can_nil ?_
       have Hvwd := Lib.hid (Hvwc.out.below (show Below wc.heap.size wc wc.drew from ⟨rfl, rfl, rfl, Nat.le_refl _, fun _ _ => rfl⟩)); clear Hvwc
       have Hcwd := Lib.hid (Hcwc.out.below (show Below wc.heap.size wc wc.drew from ⟨rfl, rfl, rfl, Nat.le_refl _, fun _ _ => rfl⟩)); clear Hcwc
       have Hbwd := Lib.hid (Hbwc.out.trans ((show Below wc.heap.size wc wc.drew from ⟨rfl, rfl, rfl, Nat.le_refl _, fun _ _ => rfl⟩).mono Hbwc.out.size)); clear Hbwc
       generalize wc.drew = wd at *
       by_cases a4 : c.fresh.size ≤ n4
       ·
        have a4' : ¬ (n4 : Int) < (c.fresh.size : Int) := by omega
        have a4n : ¬ n4 < c.fresh.size := by omega
        obtain ⟨d0, d1, d2, d3, d4, d5, d6⟩ := Hcwd.out.cells
        have e0 := Hvwd.out.cell
        clear d0 d1 d2 d3 d4 d5
        by_cases hst : c.set.toNat = 0
        ·
         have hst' : ((c.set.toNat : Int) == 0) = true := by simp [hst]
         have HR2 := Lib.hid (show R = 0 by rw [HRe.out]; simp [hcl, hsq, a1, a2, a3, a4, hst])
         go_wp2_with fail
         go_ret
         exact ⟨by rw [HR2.out]; rfl, Hbwd.out⟩
        ·
         have hst' : ((c.set.toNat : Int) == 0) = false := by simp; omega
         have hst2 : ((c.set.toNat : Int) != 0) = true := by simp; omega
         rcases Hhv.out with rfl | rfl | rfl | rfl | rfl
         ·
          have hb8 : (bits BinOp.and IntKind.u8 0 8 == 0) = true := by decide
          have HR2 := Lib.hid (show R = 2 by rw [HRe.out]; simp [hcl, hsq, a1, a2, a3, a4, hst])
          go_wp2_with fail
          go_ret
          exact ⟨by rw [HR2.out]; rfl, Hbwd.out⟩
         ·
          have hb8 : (bits BinOp.and IntKind.u8 1 8 == 0) = true := by decide
          have HR2 := Lib.hid (show R = 2 by rw [HRe.out]; simp [hcl, hsq, a1, a2, a3, a4, hst])
          go_wp2_with fail
          go_ret
          exact ⟨by rw [HR2.out]; rfl, Hbwd.out⟩
         ·
          have hb8 : (bits BinOp.and IntKind.u8 5 8 == 0) = true := by decide
          have HR2 := Lib.hid (show R = 2 by rw [HRe.out]; simp [hcl, hsq, a1, a2, a3, a4, hst])
          go_wp2_with fail
          go_ret
          exact ⟨by rw [HR2.out]; rfl, Hbwd.out⟩
         ·
          have hb8 : (bits BinOp.and IntKind.u8 7 8 == 0) = true := by decide
          have HR2 := Lib.hid (show R = 2 by rw [HRe.out]; simp [hcl, hsq, a1, a2, a3, a4, hst])
          go_wp2_with fail
          go_ret
          exact ⟨by rw [HR2.out]; rfl, Hbwd.out⟩
         ·
          have hb8 : (bits BinOp.and IntKind.u8 8 8 == 0) = false := by decide
          have HR2 := Lib.hid (show R = 0 by rw [HRe.out]; simp [hcl, hsq, a1, a2, a3, a4, hst])
          go_wp2_with fail
          go_ret
          exact ⟨by rw [HR2.out]; rfl, Hbwd.out⟩
       ·
        have a4' : (n4 : Int) < (c.fresh.size : Int) := by omega
        have a4n : n4 < c.fresh.size := by omega
        have HR2 := Lib.hid (show R = 2 by rw [HRe.out]; simp [a4])
        go_wp2_with fail
        go_ret
        exact ⟨by rw [HR2.out]; rfl, Hbwd.out⟩
      ·
       have a3' : (n3 : Int) < (c.old.size : Int) := by omega
       have a3n : n3 < c.old.size := by omega
       have HR2 := Lib.hid (show R = 2 by rw [HRe.out]; simp [a3])
       go_wp2_with fail
       go_ret
       exact ⟨by rw [HR2.out]; rfl, Hbwc.out⟩
     ·
      have a2' : (n2 : Int) < (c.key.size : Int) := by omega
      have a2n : n2 < c.key.size := by omega
      have HR2 := Lib.hid (show R = 2 by rw [HRe.out]; simp [a2])
      go_wp2_with fail
      go_ret
      exact ⟨by rw [HR2.out]; rfl, Hbwb.out⟩
    ·
     have a1' : (c.key.size : Int) < (n1 : Int) := by omega
     have a1n : c.key.size < n1 := by omega
     have HR2 := Lib.hid (show R = 2 by rw [HRe.out]; simp [a1])
     go_wp2_with fail
     go_ret
     exact ⟨by rw [HR2.out]; rfl, Hbwa.out⟩
  ·
   have hcl' : (4 : Int) ≤ (c.client.toNat : Int) := by omega
   have HR2 := Lib.hid (show R = 2 by rw [HRe.out]; simp [hcl])
   go_wp2_with fail
   go_ret
   exact ⟨by rw [HR2.out]; rfl, Hbw3.out⟩
end Go.Proofs.YtbckjgageofldaaGreat
