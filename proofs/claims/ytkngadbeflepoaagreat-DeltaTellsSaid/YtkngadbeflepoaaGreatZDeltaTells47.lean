/- Machines: MachinePlays, one of its regions. No condition. -/
import Derived.Test.YtkngadbeflepoaaGreatZDeltaTells17
import Derived.Test.YtkngadbeflepoaaGreatZDeltaTells46
import Derived.Test.YtkngadbeflepoaaGreatZDeltaTells6
import Derived.Test.YtkngadbeflepoaaGreatZDeltaTells5
import Derived.Test.YtkngadbeflepoaaGreatZDeltaTells34
import Derived.Test.YtkngadbeflepoaaGreatZDeltaTells26
import Derived.Test.YtkngadbeflepoaaGreatZDeltaTells24
import Derived.Test.YtkngadbeflepoaaGreatZDeltaTells19
import Derived.Test.YtkngadbeflepoaaGreatZDeltaTells30
import Derived.WalkKit
import Derived.Laws.IdiomStrings
import Derived.Test.YtkngadbeflepoaaGreatZDeltaTells42
import Derived.Test.YtkngadbeflepoaaGreatZDeltaTells0
namespace Go.Proofs.YtkngadbeflepoaaGreat
open Go.RowKit
theorem ref_store {y : World} {g : Nat} {r0 : RefM} (hs : RefRow y g r0) {r : RefM} {V : Value} (hV : Value.agg (refCells r).toArray = V) :
    V.cells.size = 4 ∧ (storeCells ⟨g, 0, none⟩ V.cells.toList).run Tryz.prog y = .ok () (rowSt y g 0 (refCells r)) := by
  subst hV
  exact ⟨rfl, store_row (refCells r) 0 _ y hs (Nat.le_refl _) (by simp [refCells, Value.oneCell'])⟩
theorem RefAt.row {w : World} {r : RefM} {M : MacV} {z : List KeptV} {g : Nat} {r0 : RefM} (h : RefAt w r M z) (hg : RefRow w g r0) (x : RefM) : RefAt (rowSt w g 0 (refCells x)) r M z :=
  h.stay (rowSt_below (Nat.zero_le _) (refCells x) 0 _ (Below.refl 0 w)).size (fun b o e => rowSt_other ((h.ne hg).1 b o e) _ _ _) (fun b o e => rowSt_other ((h.ne hg).2 b o e) _ _ _)
theorem RefAt.repSt {w : World} {r : RefM} {M : MacV} {z : List KeptV} {g c0 : Nat} {t0 : ByteArray} (h : RefAt w r M z) (hg : RepAt w g c0 t0) (code : Nat) (text : ByteArray) : RefAt (repSt w g code text) r M z :=
  h.stay (repSt_size _ _ _ _) (fun b o e => repSt_other _ ((h.ne2 hg).1 b o e) _ _) (fun b o e => repSt_other _ ((h.ne2 hg).2 b o e) _ _)
end Go.Proofs.YtkngadbeflepoaaGreat
namespace Go.Proofs.YtkngadbeflepoaaGreat
open Go.RowKit
set_option maxRecDepth 100000 in
set_option maxHeartbeats 16000000 in
theorem begun_reg8 (w0 : World) (g b o len cap i : Nat) (r : RefM) (M : MacV) (z : List KeptV) (c : CmdV) {Q : Exit → Act → World → Prop}
    (hQ : ∀ c a d v w, Q (.panic c) (Act.put a d v) w → Q (.panic c) a w) (HR : Hid (RefRow w0 g r ∧ RefAt w0 r M z)) (Hlim : Hid (M.all < 256 ∧ r.n ≤ 1000000 ∧ r.k ≤ 1000000)) (hlt : (i : Int) < (len : Int)) (Hc : Hid (CmdStay w0 b (o + i * 7) c))
    (u0 u1 u3 u4 u5 u6 u7 u8 u9 u10 u13 u14 u15 u16 u17 u18 u19 u20 u21 u22 u23 u24 u25 u26 u27 u28 u29 u30 u31 u32 u33 u34 u35 u36 u37 u38 u39 u40 u41 u42 u43 u44 u45 u46 u47 : Value)
    (Hk : Hid (∀ (s34 s35 s36 s37 s38 s39 s40 s41 s42 s43 : Value) (r2 : RefM) (z2 : List KeptV) (y w2 : World), Below w0.heap.size w0 y ∧ RefAt y r2 (macDo M c).m z2 ∧ r2.k ≤ r.k + 1 ∧ w2 = rowSt y g 0 (refCells r2) → Q .normal ⟨List.toArray (u0 :: u1 :: Value.slice (some ⟨b, o, none⟩) len cap :: u3 :: u4 :: u5 :: u6 :: u7 :: u8 :: u9 :: u10 :: Value.pointer (some ⟨g, 0, none⟩) :: Value.int .i64 (i : Int) :: u13 :: u14 :: u15 :: u16 :: u17 :: u18 :: u19 :: u20 :: u21 :: u22 :: u23 :: u24 :: u25 :: u26 :: u27 :: u28 :: u29 :: u30 :: u31 :: u32 :: u33 :: s34 :: s35 :: s36 :: s37 :: s38 :: s39 :: s40 :: s41 :: s42 :: s43 :: u44 :: u45 :: u46 :: u47 :: []), []⟩ w2)) :
    Code.wp Tryz.prog (findR 8 (Tryz.f6.body.getD .skip)) Q ⟨List.toArray (u0 :: u1 :: Value.slice (some ⟨b, o, none⟩) len cap :: u3 :: u4 :: u5 :: u6 :: u7 :: u8 :: u9 :: u10 :: Value.pointer (some ⟨g, 0, none⟩) :: Value.int .i64 (i : Int) :: u13 :: u14 :: u15 :: u16 :: u17 :: u18 :: u19 :: u20 :: u21 :: u22 :: u23 :: u24 :: u25 :: u26 :: u27 :: u28 :: u29 :: u30 :: u31 :: u32 :: u33 :: u34 :: u35 :: u36 :: u37 :: u38 :: u39 :: u40 :: u41 :: u42 :: u43 :: u44 :: u45 :: u46 :: u47 :: []), []⟩ w0 := by
  conv => arg 2; whnf
  obtain ⟨⟨M2, code, text, fresh⟩, hO⟩ : ∃ r, macDo M c = r := ⟨_, rfl⟩
  have hdo := fun (y : World) (hy : KeptW w0 y) => rdo_any r M z c Hlim.out.2.1 Hlim.out.2.2 Hlim.out.1 y (HR.out.2.below (KeptW.bel hy))
  unfold RDoPost at hdo
  rw [hO] at Hk hdo
  obtain ⟨VA, hVA⟩ : ∃ V, Value.agg (refCells r).toArray = V := ⟨_, rfl⟩
  rw [hVA] at hdo
  unfold repV repCells at hdo
  have Hdo := Lib.hid hdo; clear hdo hO
  have HVA := Lib.hid hVA; clear hVA
  refine (wpIn_wide (n := 1)).1 ?_
  refine RegK.wpIn_region_can (F := Fence.wide) (KeptW w0) [(0, 0), (1, 0), (2, 0), (3, 0), (4, 0), (5, 1), (6, 2), (7, 2), (8, 2), (9, 2), (10, 3)] (by kernel_rfl) (by kernel_rfl) (by kernel_rfl) hQ ⟨rfl, rfl, rfl, Nat.le_refl _, fun _ _ => rfl⟩ ?_
  dsimp only [RegK.pick, List.getElem?_cons_zero, List.getElem?_cons_succ]
  change RegK.Can _ _ _ _ _ _ _ _ w0.drew
  have hkd : KeptW w0 w0.drew := ⟨rfl, rfl, rfl, Nat.le_refl _, fun _ _ => rfl⟩
  generalize w0.drew = v1 at *
  refine RegK.can_reads ?_
  intro K hK
  go_simp
  refine ⟨VA, fun y hy => ?_, hK _ ?_⟩
  · rw [← HVA.out, ref_eta]
    obtain ⟨m0, m1, m2, m3⟩ := (HR.out.1.below (KeptW.bel hy)).cells
    go_simp
  clear hK K
  iterate 3 (refine RegK.can_reads ?_; intro K hK; go_simp; (first | refine ⟨_, fun _ _ => rfl, hK _ ?_⟩ | refine hK _ ?_); clear hK K)
  refine RegK.can_reads ?_
  intro K hK
  go_simp
  refine ⟨.agg (cmdCells c).toArray, fun y hy => ?_, hK _ ?_⟩
  · obtain ⟨f0, f1, f2, f3, f4, f5, f6⟩ := Hc.out y (KeptW.bel hy)
    rw [cmd_eta]
    go_simp
  clear hK K
  refine RegK.can_turns (fun _ => trivial) ?_
  intro K K0 hK hK0
  go_simp
  refine ⟨trivial, ?_⟩
  refine (callsIn_wide.2 (Hdo.out v1 hkd)).mono ?_
  rintro e v2 ⟨r2, z2, rfl, hr2, hk2, hb7⟩
  have v2k : KeptW w0 v2 := KeptW.mono hkd hb7
  refine hK _ _ v2k ?_
  clear hK K hK0 K0
  have HZ := Lib.hid (And.intro hr2 hk2)
  clear hr2 hk2
  dsimp only
  obtain ⟨VZ, hVZ⟩ : ∃ V, Value.agg (refCells r2).toArray = V := ⟨_, rfl⟩
  rw [hVZ]
  have HVZ := Lib.hid hVZ; clear hVZ
  iterate 4 (refine RegK.can_pure ?_; intro K hK; go_simp; (first | refine ⟨_, fun _ => rfl, hK _ ?_⟩ | refine hK _ ?_); clear hK K)
  obtain ⟨q0, q1⟩ := ref_store (HR.out.1.below (KeptW.bel v2k)) HVZ.out
  simp only [Value.cells] at q0 q1
  refine RegK.can_frees (fun _ => trivial) ?_
  intro K K0 hK hK0
  go_simp
  refine hK (fun _ => True) _ _ trivial ?_
  clear hK K hK0 K0
  refine RegK.can_nil ?_
  exact Hk.out _ _ _ _ _ _ _ _ _ _ r2 z2 v2 _ ⟨KeptW.bel v2k, HZ.out.1, HZ.out.2, rfl⟩
end Go.Proofs.YtkngadbeflepoaaGreat
namespace Go.Proofs.YtkngadbeflepoaaGreat
open Go.RowKit
set_option maxRecDepth 100000 in
set_option maxHeartbeats 16000000 in
theorem begun_reg9 (w0 : World) (g6 g7 g9 g11 : Nat) (M : MacV) (r : RefM) (a : Option Addr) (l cap : Nat) (z : List CmdV) {Q : Exit → Act → World → Prop}
    (hQ : ∀ c a d v w, Q (.panic c) (Act.put a d v) w → Q (.panic c) a w) (HM : Hid (MacAt w0 g9 M none ∧ RefRow w0 g11 r)) (H0 : Hid (MacAt w0 g6 macNone none ∧ RefRow w0 g7 refNone)) (hne : g6 < g7 ∧ g7 < g9 ∧ g9 < g11) (HA : Hid (MacOk M ∧ M.sh = .nil)) (Hz : Hid (CmdsAt w0 a l z))
    (u0 u1 u3 u4 u5 u8 u10 u12 u13 u14 u15 u16 u17 u18 u19 u20 u21 u22 u23 u24 u25 u26 u27 u28 u29 u30 u31 u32 u33 u34 u35 u36 u37 u38 u39 u40 u41 u42 u43 u44 u45 u46 u47 : Value)
    (Hk : Hid (∀ (s44 s45 s46 s47 : Value) (Y : Tr) (y w2 : World), Below w0.heap.size w0 y ∧ TreeAt y Y ∧ Y.sh = (macsDo M z).sh ∧ w2 = rowSt (rowSt y g6 0 (macCells (macsDo M z) Y.ptr)) g7 0 (refCells r) → Q .normal ⟨List.toArray (u0 :: u1 :: Value.slice a l cap :: u3 :: u4 :: u5 :: Value.pointer (some ⟨g6, 0, none⟩) :: Value.pointer (some ⟨g7, 0, none⟩) :: Value.bool true :: Value.pointer (some ⟨g9, 0, none⟩) :: u10 :: Value.pointer (some ⟨g11, 0, none⟩) :: u12 :: u13 :: u14 :: u15 :: u16 :: u17 :: u18 :: u19 :: u20 :: u21 :: u22 :: u23 :: u24 :: u25 :: u26 :: u27 :: u28 :: u29 :: u30 :: u31 :: u32 :: u33 :: u34 :: u35 :: u36 :: u37 :: u38 :: u39 :: u40 :: u41 :: u42 :: u43 :: s44 :: s45 :: s46 :: s47 :: []), []⟩ w2)) :
    Code.wp Tryz.prog (findR 9 (Tryz.f6.body.getD .skip)) Q ⟨List.toArray (u0 :: u1 :: Value.slice a l cap :: u3 :: u4 :: u5 :: Value.pointer (some ⟨g6, 0, none⟩) :: Value.pointer (some ⟨g7, 0, none⟩) :: u8 :: Value.pointer (some ⟨g9, 0, none⟩) :: u10 :: Value.pointer (some ⟨g11, 0, none⟩) :: u12 :: u13 :: u14 :: u15 :: u16 :: u17 :: u18 :: u19 :: u20 :: u21 :: u22 :: u23 :: u24 :: u25 :: u26 :: u27 :: u28 :: u29 :: u30 :: u31 :: u32 :: u33 :: u34 :: u35 :: u36 :: u37 :: u38 :: u39 :: u40 :: u41 :: u42 :: u43 :: u44 :: u45 :: u46 :: u47 :: []), []⟩ w0 := by
  conv => arg 2; whnf
  have hfo := fun (y : World) (hy : KeptW w0 y) => fold_any M .nil a l cap z y HA.out.1 trivial HA.out.2.symm (Hz.out.below (KeptW.bel hy))
  rw [show (Tr.nil).ptr = none from rfl] at hfo
  generalize macsDo M z = B at *
  obtain ⟨VA, hVA⟩ : ∃ V, macV M none = V := ⟨_, rfl⟩
  rw [hVA] at hfo
  have Hfo := Lib.hid hfo; clear hfo
  have HVA := Lib.hid hVA; clear hVA
  obtain ⟨VR, hVR⟩ : ∃ V, Value.agg (refCells r).toArray = V := ⟨_, rfl⟩
  have HVR := Lib.hid hVR; clear hVR
  obtain ⟨R, hR⟩ : ∃ R : World → Prop, (fun x => MacAt x g9 M none ∧ RefRow x g11 r) = R := ⟨_, rfl⟩
  have hRi : ∀ x, MacAt x g9 M none → RefRow x g11 r → R x := fun x h1 h2 => by rw [← hR]; exact ⟨h1, h2⟩
  have hRe : ∀ x, R x → MacAt x g9 M none ∧ RefRow x g11 r := fun x h => by rw [← hR] at h; exact h
  have HRi := Lib.hid hRi; clear hRi
  have HRe := Lib.hid hRe; clear hRe
  clear hR
  refine (wpIn_wide (n := 1)).1 ?_
  refine RegK.wpIn_region_can (F := Fence.wide) R [(0, 0), (1, 0), (3, 0), (2, 1), (4, 1), (5, 3), (6, 0)] (by kernel_rfl) (by kernel_rfl) (by kernel_rfl) hQ (HRi.out _ (HM.out.1.below (KeptW.bel (KeptW.drew w0))) (HM.out.2.below (KeptW.bel (KeptW.drew w0)))) ?_
  dsimp only [RegK.pick, List.getElem?_cons_zero, List.getElem?_cons_succ]
  change RegK.Can _ _ _ _ _ _ _ _ w0.drew
  have hkd : KeptW w0 w0.drew := KeptW.drew w0
  generalize w0.drew = v1 at *
  refine RegK.can_reads ?_
  intro K hK
  go_simp
  refine ⟨VA, fun y hy => ?_, hK _ ?_⟩
  · rw [← HVA.out]
    unfold macV
    rw [mac_eta M none]
    obtain ⟨⟨m0, m1, m14⟩, ⟨m2, m3, m4⟩, ⟨m5, m6, m7⟩, ⟨m8, m9, m10⟩, ⟨m11, m12, m13⟩⟩ := (HRe.out y hy).1.cells
    go_simp
  clear hK K
  refine RegK.can_reads ?_
  intro K hK
  go_simp
  refine ⟨_, fun _ _ => rfl, hK _ ?_⟩
  clear hK K
  refine RegK.can_reads ?_
  intro K hK
  go_simp
  refine ⟨VR, fun y hy => ?_, hK _ ?_⟩
  · rw [← HVR.out, ref_eta]
    obtain ⟨m0, m1, m2, m3⟩ := (HRe.out y hy).2.cells
    go_simp
  clear hK K
  refine RegK.can_turns (fun _ => trivial) ?_
  intro K K0 hK hK0
  go_simp
  refine ⟨trivial, ?_⟩
  refine (callsIn_wide.2 (Hfo.out v1 hkd)).mono ?_
  rintro e v2 ⟨Y, rfl, hY, hYs, hb⟩
  have v2k : KeptW w0 v2 := KeptW.mono hkd hb
  refine hK _ _ (HRi.out _ (HM.out.1.below (KeptW.bel v2k)) (HM.out.2.below (KeptW.bel v2k))) ?_
  clear hK K hK0 K0 hb hkd
  have HY := Lib.hid (And.intro hY hYs); clear hY hYs
  obtain ⟨VB, hVB⟩ : ∃ V, macV B Y.ptr = V := ⟨_, rfl⟩
  rw [hVB]
  have HVB := Lib.hid hVB; clear hVB
  have HM2 := Lib.hid (HM.out.1.below (KeptW.bel v2k)); have HR2 := Lib.hid (HM.out.2.below (KeptW.bel v2k))
  have h60 := H0.out.1.below (KeptW.bel v2k)
  have h70 := H0.out.2.below (KeptW.bel v2k)
  obtain ⟨q0, q1⟩ := mac_store h60 HVB.out
  simp only [Value.cells] at q0 q1
  have hr3 : R (rowSt v2 g6 0 (macCells B Y.ptr)) := HRi.out _ ((rowSt_other (by omega) _ _ _).trans HM2.out) ((rowSt_other (by omega) _ _ _).trans HR2.out)
  have h73 : RefRow (rowSt v2 g6 0 (macCells B Y.ptr)) g7 refNone := (rowSt_other (by omega) _ _ _).trans h70
  have HR3 := Lib.hid hr3; clear hr3
  have H73 := Lib.hid h73; clear h73 h60 h70
  refine RegK.can_turns (fun _ => trivial) ?_
  intro K K0 hK hK0
  go_simp
  refine hK _ _ HR3.out ?_
  clear hK K hK0 K0 q0 q1
  generalize hw3 : rowSt v2 g6 0 (macCells B Y.ptr) = w3 at *
  obtain ⟨q0, q1⟩ := ref_store H73.out HVR.out
  simp only [Value.cells] at q0 q1
  refine RegK.can_frees (fun _ => trivial) ?_
  intro K K0 hK hK0
  go_simp
  refine hK (fun _ => True) _ _ trivial ?_
  clear hK K hK0 K0 q0 q1
  refine RegK.can_reads ?_
  intro K hK
  go_simp
  refine hK _ ?_
  clear hK K
  refine RegK.can_nil ?_
  exact Hk.out _ _ _ _ Y v2 _ ⟨KeptW.bel v2k, HY.out.1, HY.out.2, by rw [hw3]⟩
end Go.Proofs.YtkngadbeflepoaaGreat
namespace Go.Proofs.YtkngadbeflepoaaGreat
open Go.RowKit
def ref0 (M : MacV) : RefM := ⟨none, 0, 0, M.all, M.mem, none, 0, 0⟩
theorem refAt0 (M : MacV) (ht : M.tab = tabNone) (hs : M.sh = .nil) (w : World) : RefAt w (ref0 M) M [] :=
  ⟨by rw [hs]; exact pairs_none, ⟨rfl, Nat.zero_le _, fun i x hx => by simp at hx⟩, rfl, rfl, by rw [ht]; exact keptTab_nil, .inl ⟨rfl, rfl, rfl⟩, sty_none _ _, by rw [hs]; exact List.Pairwise.nil, fun _ => ⟨rfl, rfl⟩, sty_none _ _⟩
end Go.Proofs.YtkngadbeflepoaaGreat
namespace Go.Proofs.YtkngadbeflepoaaGreat
open Go.RowKit
theorem new_parts {al fi : Nat} (h : mayS fi al = true) : newM al fi = ⟨al % 128, fi % 128, tabNone, .nil⟩ := by
  unfold newM
  rw [if_pos h, both_self, both_self]
theorem new_none {al fi : Nat} (h : mayS fi al = false) : newM al fi = macNone := by
  unfold newM
  rw [h]
  rfl
theorem macsDo_fit : ∀ (l : List CmdV) {M : MacV}, MacFit M → MacFit (macsDo M l)
  | [], _, h => h
  | c :: r, _, h => macsDo_fit r (macDo_fit h c)
/-- The results' blocks, the machine, the document's machine. -/
structure BgI (w y : World) (g9 g11 : Nat) (M0 M : MacV) (r : RefM) (z : List KeptV) : Prop where
  a : MacAt y w.heap.size macNone none
  b : RefRow y (w.heap.size + 1) refNone
  m : MacAt y g9 M0 none
  rr : RefRow y g11 r
  at_ : RefAt y r M z
  bel : Below w.heap.size w y
  ne : w.heap.size + 1 < g9 ∧ g9 < g11
theorem BgI.step {w y y' : World} {g9 g11 : Nat} {M0 M M2 : MacV} {r r2 : RefM} {z z2 : List KeptV} (h : BgI w y g9 g11 M0 M r z) (hb : Below y.heap.size y y') (hr : RefAt y' r2 M2 z2) : BgI w (rowSt y' g11 0 (refCells r2)) g9 g11 M0 M2 r2 z2 := by
  obtain ⟨n1, n2⟩ := h.ne
  have hr11 := h.rr.below hb
  exact ⟨(rowSt_other (by omega) _ _ _).trans (h.a.below hb), (rowSt_other (by omega) _ _ _).trans (h.b.below hb), (rowSt_other (by omega) _ _ _).trans (h.m.below hb), hr11.set r2, hr.row hr11 r2, rowSt_below (by omega) _ _ _ (h.bel.trans (hb.mono h.bel.size)), h.ne⟩
theorem bg_start (w : World) : MacAt ((w.alloc (.cells (macCells macNone none).toArray 39)).alloc (.cells (refCells refNone).toArray 43)) w.heap.size macNone none ∧ RefRow ((w.alloc (.cells (macCells macNone none).toArray 39)).alloc (.cells (refCells refNone).toArray 43)) (w.heap.size + 1) refNone ∧
    Below w.heap.size w ((w.alloc (.cells (macCells macNone none).toArray 39)).alloc (.cells (refCells refNone).toArray 43)) ∧ ((w.alloc (.cells (macCells macNone none).toArray 39)).alloc (.cells (refCells refNone).toArray 43)).heap.size = w.heap.size + 2 := by
  have b1 := (Below.refl w.heap.size w).alloc (Nat.le_refl _) (.cells (macCells macNone none).toArray 39)
  have m1 : MacAt (w.alloc (.cells (macCells macNone none).toArray 39)) w.heap.size macNone none := heap_alloc_new _ _
  have b2 := (Below.refl _ (w.alloc (.cells (macCells macNone none).toArray 39))).alloc (Nat.le_refl _) (.cells (refCells refNone).toArray 43)
  have r2 : RefRow ((w.alloc (.cells (macCells macNone none).toArray 39)).alloc (.cells (refCells refNone).toArray 43)) (w.heap.size + 1) refNone := by
    have := heap_alloc_new (w.alloc (.cells (macCells macNone none).toArray 39)) (.cells (refCells refNone).toArray 43)
    rw [World.size_alloc] at this
    exact this
  exact ⟨m1.below b2, r2, b1.trans (b2.mono b1.size), by simp⟩
theorem bg_end {y : World} {g : Nat} {M1 : MacV} {P1 : Option Addr} {r1 : RefM} (ha : MacAt y g M1 P1) (hb : RefRow y (g + 1) r1) (M : MacV) (P : Option Addr) (r : RefM) :
    MacAt (rowSt (rowSt y g 0 (macCells M P)) (g + 1) 0 (refCells r)) g M P ∧ RefRow (rowSt (rowSt y g 0 (macCells M P)) (g + 1) 0 (refCells r)) (g + 1) r ∧ (∀ w, Below g w y → Below g w (rowSt (rowSt y g 0 (macCells M P)) (g + 1) 0 (refCells r))) ∧
      (∀ X, TreeAt y X → TreeAt (rowSt (rowSt y g 0 (macCells M P)) (g + 1) 0 (refCells r)) X) ∧ ∀ r2 M2 z, RefAt y r2 M2 z → RefAt (rowSt (rowSt y g 0 (macCells M P)) (g + 1) 0 (refCells r)) r2 M2 z := by
  obtain ⟨s1, s2, s3, s4⟩ := ma_st ha M P
  have hb1 : RefRow (rowSt y g 0 (macCells M P)) (g + 1) r1 := (s2 _ (by omega)).trans hb
  refine ⟨(rowSt_other (by omega) _ _ _).trans s1, hb1.set r, fun w h => rowSt_below (by omega) _ _ _ (s3 _ _ h (Nat.le_refl _)), fun X h => TreeAt.row hb1 (by decide) _ _ (s4 _ h), fun r2 M2 z h => ?_⟩
  refine RefAt.row ?_ hb1 r
  exact h.stay (rowSt_below (Nat.zero_le _) (macCells M P) 0 _ (Below.refl 0 y)).size (fun b o e => s2 _ (STy.ne (t := 112) h.ty ha (by decide) b o e)) (fun b o e => s2 _ (STy.ne h.kty ha (by decide) b o e))
set_option maxRecDepth 100000 in
set_option maxHeartbeats 16000000 in
theorem begun_not (al fi : Nat) (hal : al < 256) (hfi : fi < 256) (hm : mayS fi al = false) (a : Option Addr) (l cap : Nat) (w : World) :
    Calls Tryz.prog 6 #[.int .u8 (al : Int), .int .u8 (fi : Int), .slice a l cap] w fun e w' => e = .returned (.tuple #[macV macNone none, .agg (refCells refNone).toArray, .bool false]) ∧ Below w.heap.size w w' := by
  have hnew := fun y : World => new_any al fi hal hfi y
  rw [new_none hm, hm] at hnew
  simp only [Bool.false_eq_true, if_false] at hnew
  unfold macV at hnew ⊢
  rw [mac_eta] at hnew ⊢
  have Hnew := Lib.hid hnew; clear hnew
  have hS := bg_start w
  go_enter Tryz.func6, Tryz.ntmps6
  go_upto_region 1 with fail
  change Code.wp _ _ _ _ ((w.alloc (.cells (macCells macNone none).toArray 39)).alloc (.cells (refCells refNone).toArray 43))
  generalize (w.alloc (.cells (macCells macNone none).toArray 39)).alloc (.cells (refCells refNone).toArray 43) = w1 at *
  have HS := Lib.hid hS; clear hS
  go_upto_region 2 with ((with_reducible refine (Hnew.out _).mono ?_); rintro e wn ⟨rfl, hbn⟩; have HBn := Lib.hid hbn; clear hbn)
  change Code.wp _ _ _ _ (wn.alloc (.cells (macCells macNone none).toArray 39))
  have hbn := HBn.out.alloc HBn.out.size (.cells (macCells macNone none).toArray 39)
  have HM9 := Lib.hid (show MacAt (wn.alloc (.cells (macCells macNone none).toArray 39)) wn.heap.size macNone none from heap_alloc_new _ _)
  have H0 := Lib.hid (And.intro (HS.out.1.below hbn) (HS.out.2.1.below hbn))
  have Hb := Lib.hid (HS.out.2.2.1.trans (hbn.mono HS.out.2.2.1.size))
  have Hlt := Lib.hid (show w.heap.size + 1 < wn.heap.size by have := HBn.out.size; have := HS.out.2.2.2; omega)
  clear HBn hbn HS Hnew
  generalize wn.alloc (.cells (macCells macNone none).toArray 39) = w2 at *
  generalize wn.heap.size = g9 at *
  obtain ⟨⟨m0, m1, m14⟩, ⟨m2, m3, m4⟩, ⟨m5, m6, m7⟩, ⟨m8, m9, m10⟩, ⟨m11, m12, m13⟩⟩ := HM9.out.cells
  obtain ⟨⟨h0, h1, h14⟩, ⟨h2, h3, h4⟩, ⟨h5, h6, h7⟩, ⟨h8, h9, h10⟩, ⟨h11, h12, h13⟩⟩ := H0.out.1.cells
  have q0 := H0.out.1.thawed 0; have q1 := H0.out.1.thawed 1; have q2 := H0.out.1.thawed 2; have q3 := H0.out.1.thawed 3; have q4 := H0.out.1.thawed 4; have q5 := H0.out.1.thawed 5; have q6 := H0.out.1.thawed 6; have q7 := H0.out.1.thawed 7; have q8 := H0.out.1.thawed 8; have q9 := H0.out.1.thawed 9; have q10 := H0.out.1.thawed 10; have q11 := H0.out.1.thawed 11; have q12 := H0.out.1.thawed 12; have q13 := H0.out.1.thawed 13; have q14 := H0.out.1.thawed 14
  obtain ⟨v0, v1, v2, v3⟩ := H0.out.2.cells
  have p0 := H0.out.2.thawed 0; have p1 := H0.out.2.thawed 1; have p2 := H0.out.2.thawed 2; have p3 := H0.out.2.thawed 3
  go_upto_region 3 with fail
  go_wp2_with fail
  clear h0 h1 h2 h3 h4 h5 h6 h7 h8 h9 h10 h11 h12 h13 h14 q0 q1 q2 q3 q4 q5 q6 q7 q8 q9 q10 q11 q12 q13 q14 m2 m3 m4 m5 m6 m7 m8 m9 m10 m11 m12 m13 m14 m0 m1 v0 v1 v2 v3 p0 p1 p2 p3
  change bodyPost _ _ _ _ _ (rowSt (rowSt w2 w.heap.size 0 (macCells macNone none)) (w.heap.size + 1) 0 (refCells refNone))
  have HE := Lib.hid (bg_end H0.out.1 H0.out.2 macNone none refNone)
  generalize rowSt (rowSt w2 w.heap.size 0 (macCells macNone none)) (w.heap.size + 1) 0 (refCells refNone) = w9 at *
  obtain ⟨⟨o0, o1, o14⟩, ⟨o2, o3, o4⟩, ⟨o5, o6, o7⟩, ⟨o8, o9, o10⟩, ⟨o11, o12, o13⟩⟩ := HE.out.1.cells
  obtain ⟨u0, u1, u2, u3⟩ := HE.out.2.1.cells
  refine bodyPost_ret (v := .tuple #[.agg (macCells macNone none).toArray, .agg (refCells refNone).toArray, .bool false]) (by rw [mac_eta, ref_eta]; simp [results, Tryz.results6, go_sem, o0, o1, o2, o3, o4, o5, o6, o7, o8, o9, o10, o11, o12, o13, o14, u0, u1, u2, u3] <;> rfl) rfl ?_
  exact ⟨rfl, HE.out.2.2.1 _ Hb.out⟩
set_option maxRecDepth 100000 in
set_option maxHeartbeats 16000000 in
theorem begun_is (al fi : Nat) (hal : al < 256) (hfi : fi < 256) (hm : mayS fi al = true) (a : Option Addr) (l cap : Nat) (z : List CmdV) (hl : l ≤ 1000) (w : World) (hz : CmdsAt w a l z) :
    Calls Tryz.prog 6 #[.int .u8 (al : Int), .int .u8 (fi : Int), .slice a l cap] w fun e w' => ∃ Y r zk, e = .returned (.tuple #[macV (macsDo (newM al fi) z) Y.ptr, .agg (refCells r).toArray, .bool true]) ∧ TreeAt w' Y ∧ Y.sh = (macsDo (newM al fi) z).sh ∧ RefAt w' r (macsDo (newM al fi) z) zk ∧ Below w.heap.size w w' := by
  have hnew := fun y : World => new_any al fi hal hfi y
  have hfit := macFit_new al fi
  rw [hm, new_parts hm] at hnew
  rw [new_parts hm] at hfit ⊢
  simp only [if_true] at hnew
  have hr0 : ref0 ⟨al % 128, fi % 128, tabNone, .nil⟩ = ⟨none, 0, 0, al % 128, fi % 128, none, 0, 0⟩ := rfl
  have hra := refAt0 ⟨al % 128, fi % 128, tabNone, .nil⟩ rfl rfl
  rw [hr0] at hra
  obtain ⟨x1, hx1⟩ : ∃ x, al % 128 = x := ⟨_, rfl⟩
  obtain ⟨x2, hx2⟩ : ∃ x, fi % 128 = x := ⟨_, rfl⟩
  have hm1 : (al : Int) % 128 = (x1 : Int) := by omega
  have hm2 : (fi : Int) % 128 = (x2 : Int) := by omega
  rw [hx1, hx2] at hnew hfit hra ⊢
  clear hx1 hx2 hm hr0
  obtain ⟨M0, hM0⟩ : ∃ M : MacV, (⟨x1, x2, tabNone, .nil⟩ : MacV) = M := ⟨_, rfl⟩
  have hsh : M0.sh = .nil := by rw [← hM0]
  rw [hM0] at hnew hfit hra ⊢
  clear hM0
  unfold macV at hnew
  rw [mac_eta] at hnew
  have Hnew := Lib.hid hnew; clear hnew
  have Hra := Lib.hid hra; clear hra
  have HM0 := Lib.hid (And.intro hfit hsh); clear hfit hsh
  have Hz := Lib.hid hz; clear hz
  have hS := bg_start w
  go_enter Tryz.func6, Tryz.ntmps6
  go_upto_region 1 with fail
  change Code.wp _ _ _ _ ((w.alloc (.cells (macCells macNone none).toArray 39)).alloc (.cells (refCells refNone).toArray 43))
  generalize (w.alloc (.cells (macCells macNone none).toArray 39)).alloc (.cells (refCells refNone).toArray 43) = w1 at *
  have HS := Lib.hid hS; clear hS
  go_upto_region 2 with ((with_reducible refine (Hnew.out _).mono ?_); rintro e wn ⟨rfl, hbn⟩; have HBn := Lib.hid hbn; clear hbn)
  change Code.wp _ _ _ _ (wn.alloc (.cells (macCells M0 none).toArray 39))
  have hbn := HBn.out.alloc HBn.out.size (.cells (macCells M0 none).toArray 39)
  have HM9 := Lib.hid (show MacAt (wn.alloc (.cells (macCells M0 none).toArray 39)) wn.heap.size M0 none from heap_alloc_new _ _)
  have H0 := Lib.hid (And.intro (HS.out.1.below hbn) (HS.out.2.1.below hbn))
  have Hb := Lib.hid (HS.out.2.2.1.trans (hbn.mono HS.out.2.2.1.size))
  have Hlt := Lib.hid (show w.heap.size + 1 < wn.heap.size by have := HBn.out.size; have := HS.out.2.2.2; omega)
  clear HBn hbn HS Hnew
  generalize wn.alloc (.cells (macCells M0 none).toArray 39) = w2 at *
  generalize wn.heap.size = g9 at *
  go_upto_region 5 with fail
  change Code.wp _ _ _ _ (w2.alloc (.cells (refCells ⟨none, 0, 0, x1, x2, none, 0, 0⟩).toArray 43))
  have hb3 := (Below.refl w2.heap.size w2).alloc (Nat.le_refl _) (.cells (refCells ⟨none, 0, 0, x1, x2, none, 0, 0⟩).toArray 43)
  have hI : BgI w (w2.alloc (.cells (refCells ⟨none, 0, 0, x1, x2, none, 0, 0⟩).toArray 43)) g9 w2.heap.size M0 M0 ⟨none, 0, 0, x1, x2, none, 0, 0⟩ [] :=
    ⟨H0.out.1.below hb3, H0.out.2.below hb3, HM9.out.below hb3, heap_alloc_new _ _, Hra.out _, Hb.out.trans (hb3.mono Hb.out.size), Hlt.out, HM9.out.lt⟩
  have HI := Lib.hid hI; clear hI hb3 H0 HM9 Hb Hlt
  generalize w2.alloc (.cells (refCells ⟨none, 0, 0, x1, x2, none, 0, 0⟩).toArray 43) = w3 at *
  generalize w2.heap.size = g11 at *
  clear hm1 hm2
  have hlz := Hz.out.hlen
  go_wp2_with fail
  go_loopw [12] (fun s12 wr => ∃ (i : Nat) (r : RefM) (zk : List KeptV), i ≤ l ∧ s12 = .int .i64 (i : Int) ∧ BgI w wr g9 g11 M0 (macsDo M0 (z.take i)) r zk ∧ r.k ≤ i) (fun s12 _ => l - (intOf s12).toNat)
  case atStart => exact ⟨0, _, _, by omega, rfl, HI.out, Nat.le_refl _⟩
  case round =>
    obtain ⟨i, r, zk, hi, rfl, hI, hk⟩ := hrel
    clear HI
    have HI := Lib.hid hI; clear hI
    have Hk2 := Lib.hid hk; clear hk
    have Hfit := Lib.hid (macsDo_fit (z.take i) HM0.out.1)
    by_cases hil : i < l
    · have hil' : (i : Int) < (l : Int) := by omega
      have hsucc := tsucc (n := i) (by omega)
      have Hnext := Lib.hid (macsDo_take M0 z (i := i) (by omega))
      obtain ⟨b, o, rfl, hbl, hcs⟩ := cmd_stay (Hz.out.below HI.out.bel) hil
      obtain ⟨c, hc⟩ : ∃ c, z.getD i default = c := ⟨_, rfl⟩
      rw [hc] at hcs Hnext
      have Hcs := Lib.hid hcs; clear hcs hc hbl
      generalize macsDo M0 (z.take i) = M at *
      have Hlim := Lib.hid (show M.all < 256 ∧ r.n ≤ 1000000 ∧ r.k ≤ 1000000 from ⟨by have := Hfit.out.all; omega, by have h1 := HI.out.at_.pairs.hlen; have h2 := cnt_kv M.sh; have h3 := Hfit.out.kv.num; omega, by have := Hk2.out; omega⟩)
      go_upto_region 8 with fail
      refine begun_reg8 wr g11 b o l cap i r M zk c (fun _ _ d _ _ h => by cases d <;> exact h) (Lib.hid ⟨HI.out.rr, HI.out.at_⟩) Hlim hil' Hcs _ _ _ _ _ _ _ _ _ _ _ _ _ _ _ _ _ _ _ _ _ _ _ _ _ _ _ _ _ _ _ _ _ _ _ _ _ _ _ _ _ _ _ _ _ (Lib.hid ?_)
      intro s34 s35 s36 s37 s38 s39 s40 s41 s42 s43 r2 z2 y w5 hE
      have HI5 := Lib.hid (show BgI w w5 g9 g11 M0 (macDo M c).m r2 z2 by rw [hE.2.2.2]; exact HI.out.step hE.1 hE.2.1)
      have Hk5 := Lib.hid (show r2.k ≤ i + 1 by have := hE.2.2.1; have := Hk2.out; omega)
      clear hE HI Hk2 Hcs Hlim Hfit
      go_wp2_with fail
      go_roundw
      case rel => exact ⟨i + 1, r2, z2, hil, rfl, by rw [Hnext.out]; exact HI5.out, Hk5.out⟩
      case measure => simp [intOf]; omega
    · have hil' : ¬ (i : Int) < (l : Int) := by omega
      obtain rfl : i = l := by omega
      have htk : z.take i = z := by rw [← hlz]; exact List.take_length
      rw [htk] at HI Hfit
      obtain ⟨n1, n2⟩ := HI.out.ne
      clear hil hi htk
      go_upto_region 9 with fail
      refine begun_reg9 wr w.heap.size (w.heap.size + 1) g9 g11 M0 r a i cap z (fun _ _ d _ _ h => by cases d <;> exact h) (Lib.hid ⟨HI.out.m, HI.out.rr⟩) (Lib.hid ⟨HI.out.a, HI.out.b⟩) ⟨Nat.lt_succ_self _, n1, n2⟩ (Lib.hid ⟨HM0.out.1.ok, HM0.out.2⟩) (Lib.hid (Hz.out.below HI.out.bel)) _ _ _ _ _ _ _ _ _ _ _ _ _ _ _ _ _ _ _ _ _ _ _ _ _ _ _ _ _ _ _ _ _ _ _ _ _ _ _ _ _ _ _ (Lib.hid ?_)
      intro s44 s45 s46 s47 Y y w5 hE
      obtain ⟨e1, e2, e3, e4⟩ := hE
      subst e4
      have Hat := Lib.hid (HI.out.at_.below e1)
      have HA1 := Lib.hid (HI.out.a.below e1)
      have HB1 := Lib.hid (HI.out.b.below e1)
      have Hbe := Lib.hid (HI.out.bel.trans (e1.mono HI.out.bel.size))
      have Ht := Lib.hid (And.intro e2 e3)
      clear e1 e2 e3 HI n1 n2
      go_wp2_with fail
      change bodyPost _ _ _ _ _ (rowSt (rowSt y w.heap.size 0 (macCells (macsDo M0 z) Y.ptr)) (w.heap.size + 1) 0 (refCells r))
      have HE := Lib.hid (bg_end HA1.out HB1.out (macsDo M0 z) Y.ptr r)
      generalize rowSt (rowSt y w.heap.size 0 (macCells (macsDo M0 z) Y.ptr)) (w.heap.size + 1) 0 (refCells r) = w9 at *
      obtain ⟨⟨o0, o1, o14⟩, ⟨o2, o3, o4⟩, ⟨o5, o6, o7⟩, ⟨o8, o9, o10⟩, ⟨o11, o12, o13⟩⟩ := HE.out.1.cells
      obtain ⟨u0, u1, u2, u3⟩ := HE.out.2.1.cells
      refine bodyPost_ret (v := .tuple #[.agg (macCells (macsDo M0 z) Y.ptr).toArray, .agg (refCells r).toArray, .bool true]) (by rw [mac_eta, ref_eta]; simp [results, Tryz.results6, go_sem, o0, o1, o2, o3, o4, o5, o6, o7, o8, o9, o10, o11, o12, o13, o14, u0, u1, u2, u3] <;> rfl) rfl ?_
      exact ⟨Y, r, rfl, HE.out.2.2.2.1 _ Ht.out.1, Ht.out.2, ⟨zk, HE.out.2.2.2.2 _ _ _ Hat.out⟩, HE.out.2.2.1 _ Hbe.out⟩
end Go.Proofs.YtkngadbeflepoaaGreat
