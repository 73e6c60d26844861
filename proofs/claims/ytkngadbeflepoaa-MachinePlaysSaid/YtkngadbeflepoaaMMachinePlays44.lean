/- Machines: MachinePlays, one of its regions. No condition. -/
import Derived.Test.YtkngadbeflepoaaMMachinePlays21
import Derived.Test.YtkngadbeflepoaaMMachinePlays43
import Derived.Test.YtkngadbeflepoaaMMachinePlays8
import Derived.Test.YtkngadbeflepoaaMMachinePlays39
import Derived.Test.YtkngadbeflepoaaMMachinePlays26
import Derived.Test.YtkngadbeflepoaaMMachinePlays37
import Derived.Test.YtkngadbeflepoaaMMachinePlays31
namespace Go.Proofs.Ytkngadbeflepoaa
open Go.RowKit

theorem layRef (ρ : Operand → Value) (x : World) (o : Oper) (h : o.op = .alloc 79) : (execOp ρ o).run Try.prog x = .ok (.value (RegL.ptr x.heap.size)) (x.alloc (.cells (refCells refNone).toArray 79 (0, 0))) := by
  simp only [execOp, h]
  go_simp
  exact ⟨rfl, rfl⟩
theorem ref_store {y : World} {g : Nat} {r0 : RefM} (hs : RefRow y g r0) {r : RefM} {V : Value} (hV : Value.agg (refCells r).toArray = V) :
    V.cells.size = 4 ∧ (storeCells ⟨g, 0, none⟩ V.cells.toList).run Try.prog y = .ok () (rowSt y g 0 (refCells r)) := by
  subst hV
  exact ⟨rfl, store_row (refCells r) 0 _ y hs (Nat.le_refl _) (by simp [refCells, Value.oneCell'])⟩
structure REnd (w w' : World) (gs gr : Nat) (r0 r : RefM) (M : MacV) (z : List KeptV) (code : Nat) (text : ByteArray) : Prop where
  st : RefRow w' gs r
  rep : RepAt w' gr code text
  at_ : RefAt w' r M z
  k : r.k ≤ r0.k + 1
  bel : Below w.heap.size w w'
  lo : w.heap.size ≤ gs
  lo2 : w.heap.size ≤ gr
  ne : gr ≠ gs
theorem RefAt.row {w : World} {r : RefM} {M : MacV} {z : List KeptV} {g : Nat} {r0 : RefM} (h : RefAt w r M z) (hg : RefRow w g r0) (x : RefM) : RefAt (rowSt w g 0 (refCells x)) r M z :=
  h.stay (rowSt_below (Nat.zero_le _) (refCells x) 0 _ (Below.refl 0 w)).size (fun b o e => rowSt_other ((h.ne hg).1 b o e) _ _ _) (fun b o e => rowSt_other ((h.ne hg).2 b o e) _ _ _)
theorem RefAt.repSt {w : World} {r : RefM} {M : MacV} {z : List KeptV} {g c0 : Nat} {t0 : ByteArray} (h : RefAt w r M z) (hg : RepAt w g c0 t0) (code : Nat) (text : ByteArray) : RefAt (repSt w g code text) r M z :=
  h.stay (repSt_size _ _ _ _) (fun b o e => repSt_other _ ((h.ne2 hg).1 b o e) _ _) (fun b o e => repSt_other _ ((h.ne2 hg).2 b o e) _ _)
theorem refm_end {y : World} {gs gr : Nat} {r0 r : RefM} {M : MacV} {z : List KeptV} {c0 : Nat} {t0 : ByteArray} (hs : RefRow y gs r0) (hr : RepAt y gr c0 t0) (hne : gr ≠ gs) (h : RefAt y r M z) (code : Nat) (text : ByteArray) :
    RefRow (Go.Proofs.Ytkngadbeflepoaa.repSt (rowSt y gs 0 (refCells r)) gr code text) gs r ∧ RepAt (Go.Proofs.Ytkngadbeflepoaa.repSt (rowSt y gs 0 (refCells r)) gr code text) gr code text ∧ RefAt (Go.Proofs.Ytkngadbeflepoaa.repSt (rowSt y gs 0 (refCells r)) gr code text) r M z ∧
      ∀ n w0, Below n w0 y → n ≤ gs → n ≤ gr → Below n w0 (Go.Proofs.Ytkngadbeflepoaa.repSt (rowSt y gs 0 (refCells r)) gr code text) := by
  have h1 := hs.set r
  have r1 : RepAt (rowSt y gs 0 (refCells r)) gr c0 t0 := (rowSt_other hne _ _ _).trans hr
  exact ⟨(repSt_other _ (Ne.symm hne) code text).trans h1, repSt_at r1 code text, (h.row hs r).repSt r1 code text, fun n w hb h1 h2 => repSt_below (rowSt_below h1 _ _ _ hb) h2 _ _⟩

set_option maxRecDepth 100000 in
set_option maxHeartbeats 16000000 in
theorem plays_reg17 (w0 : World) (g : Nat) (r : RefM) (M : MacV) (z : List KeptV) (b o len cap i : Nat) (c : CmdV) (M2 : MacV) (code : Nat) (text : ByteArray) (fresh : Bool) {Q : Exit → Act → World → Prop}
    (hQ : ∀ c a d v w, Q (.panic c) (Act.put a d v) w → Q (.panic c) a w) (hQ2 : ∀ c a d v w, Q (.panic c) a w → Q (.panic c) (Act.put a d v) w)
    (HRm : Hid (RefRow w0 g r)) (HRa : Hid (RefAt w0 r M z)) (Hlim : Hid (M.all < 256 ∧ r.n ≤ 1000000 ∧ r.k ≤ 1000000)) (HO : Hid (macDo M c = ⟨M2, code, text, fresh⟩)) (hlt' : (i : Int) < (len : Int)) (Hc : Hid (CmdStay w0 b (o + i * 7) c))
    (u0 u1 u3 u4 u5 u6 u7 u8 u10 u11 u13 u14 u15 u16 u17 u18 u19 u20 u21 u22 u23 u24 u25 u26 u27 u28 u29 u30 u31 u32 u33 u34 u35 u36 u37 u38 u39 u40 u41 u42 u43 u44 u45 u46 u47 u48 u49 u50 u51 u52 u53 u54 u55 u56 u57 u58 u59 u60 u61 u62 u63 u64 u65 u66 u67 u68 u69 u70 u71 u72 u73 u74 u75 u76 u77 u78 u79 u80 u81 u82 u83 u84 u85 u86 u87 u88 u89 u90 u91 u92 u93 u94 u95 u96 u97 u98 u99 u100 u101 u102 u103 u104 u105 u106 u107 u108 u109 u110 u111 : Value)
    (Hk : Hid (∀ (s63 s64 s65 s66 s67 s68 s69 s70 s71 s72 : Value) (gs gr : Nat) (r2 : RefM) (z2 : List KeptV) (w2 : World), REnd w0 w2 gs gr r r2 M2 z2 code text → Q .normal ⟨List.toArray (u0 :: u1 :: Value.slice (some ⟨b, o, none⟩) len cap :: u3 :: u4 :: u5 :: u6 :: u7 :: u8 :: Value.pointer (some ⟨g, 0, none⟩) :: u10 :: u11 :: Value.int .i64 (i : Int) :: u13 :: u14 :: u15 :: Value.pointer (some ⟨gs, 0, none⟩) :: Value.pointer (some ⟨gr, 0, none⟩) :: Value.bool fresh :: u19 :: u20 :: u21 :: u22 :: u23 :: u24 :: u25 :: u26 :: u27 :: u28 :: u29 :: u30 :: u31 :: u32 :: u33 :: u34 :: u35 :: u36 :: u37 :: u38 :: u39 :: u40 :: u41 :: u42 :: u43 :: u44 :: u45 :: u46 :: u47 :: u48 :: u49 :: u50 :: u51 :: u52 :: u53 :: u54 :: u55 :: u56 :: u57 :: u58 :: u59 :: u60 :: u61 :: u62 :: s63 :: s64 :: s65 :: s66 :: s67 :: s68 :: s69 :: s70 :: s71 :: s72 :: u73 :: u74 :: u75 :: u76 :: u77 :: u78 :: u79 :: u80 :: u81 :: u82 :: u83 :: u84 :: u85 :: u86 :: u87 :: u88 :: u89 :: u90 :: u91 :: u92 :: u93 :: u94 :: u95 :: u96 :: u97 :: u98 :: u99 :: u100 :: u101 :: u102 :: u103 :: u104 :: u105 :: u106 :: u107 :: u108 :: u109 :: u110 :: u111 :: []), []⟩ w2)) :
    Code.wp Try.prog (findR 17 (Try.f6.body.getD .skip)) Q ⟨List.toArray (u0 :: u1 :: Value.slice (some ⟨b, o, none⟩) len cap :: u3 :: u4 :: u5 :: u6 :: u7 :: u8 :: Value.pointer (some ⟨g, 0, none⟩) :: u10 :: u11 :: Value.int .i64 (i : Int) :: u13 :: u14 :: u15 :: u16 :: u17 :: u18 :: u19 :: u20 :: u21 :: u22 :: u23 :: u24 :: u25 :: u26 :: u27 :: u28 :: u29 :: u30 :: u31 :: u32 :: u33 :: u34 :: u35 :: u36 :: u37 :: u38 :: u39 :: u40 :: u41 :: u42 :: u43 :: u44 :: u45 :: u46 :: u47 :: u48 :: u49 :: u50 :: u51 :: u52 :: u53 :: u54 :: u55 :: u56 :: u57 :: u58 :: u59 :: u60 :: u61 :: u62 :: u63 :: u64 :: u65 :: u66 :: u67 :: u68 :: u69 :: u70 :: u71 :: u72 :: u73 :: u74 :: u75 :: u76 :: u77 :: u78 :: u79 :: u80 :: u81 :: u82 :: u83 :: u84 :: u85 :: u86 :: u87 :: u88 :: u89 :: u90 :: u91 :: u92 :: u93 :: u94 :: u95 :: u96 :: u97 :: u98 :: u99 :: u100 :: u101 :: u102 :: u103 :: u104 :: u105 :: u106 :: u107 :: u108 :: u109 :: u110 :: u111 :: []), []⟩ w0 := by
  conv => arg 2; whnf
  refine (wpIn_wide (n := 1)).1 ?_
  refine RegL.wpIn_region_lays (F := Fence.wide) (KeptW w0) [⟨10, 16, .cells (refCells refNone).toArray 79 (0, 0)⟩, ⟨11, 17, .cells (repCells 0 ByteArray.empty).toArray 51 (0, 0)⟩] [(0, 0), (1, 0), (2, 0), (3, 0), (4, 0), (5, 1), (6, 2), (7, 2), (8, 2), (9, 2), (12, 3), (13, 3), (14, 3)] (by kernel_rfl) (by kernel_rfl) (by kernel_rfl) (fun p hp => by simp only [List.mem_cons, List.not_mem_nil, or_false] at hp; rcases hp with rfl | rfl; exact lays_any layRef rfl; exact lays_any layRep rfl)
    hQ hQ2 ⟨rfl, rfl, rfl, Nat.le_refl _, fun _ _ => rfl⟩ (keptW_mono w0) ?_
  clear hQ hQ2
  dsimp only [RegK.pick, List.getElem?_cons_zero, List.getElem?_cons_succ]
  obtain ⟨S1, hS1⟩ : ∃ V, Value.agg (refCells r).toArray = V := ⟨_, rfl⟩
  have HV1 := Lib.hid hS1; clear hS1
  refine RegL.reads ?_
  intro K hK
  go_simp
  refine ⟨S1, fun y hy => ?_, hK _ ?_⟩
  · rw [← HV1.out, ref_eta]
    obtain ⟨m0, m1, m2, m3⟩ := (HRm.out.below (KeptW.bel hy)).cells
    go_simp
  clear hK K
  iterate 3 (refine RegL.reads ?_; intro K hK; go_simp; (first | refine ⟨_, fun _ _ => rfl, hK _ ?_⟩ | refine hK _ ?_); clear hK K)
  refine RegL.reads ?_
  intro K hK
  go_simp
  refine ⟨.agg (cmdCells c).toArray, fun y hy => ?_, hK _ ?_⟩
  · obtain ⟨f0, f1, f2, f3, f4, f5, f6⟩ := Hc.out y (KeptW.bel hy)
    rw [cmd_eta]
    go_simp
  clear hK K
  refine RegL.adds (fun _ => trivial) ?_
  go_simp
  intro x hx K hK
  refine ⟨trivial, ?_⟩
  have hd := rdo_any r M z c Hlim.out.2.1 Hlim.out.2.2 Hlim.out.1 x (HRa.out.below (KeptW.bel hx))
  unfold RDoPost at hd
  rw [HO.out, HV1.out] at hd
  unfold repV repCells at hd
  refine (callsIn_wide.2 hd).mono ?_
  clear hd
  rintro e xc1 ⟨r2, z2, rfl, hr2, hk2, hb2⟩
  have hxc : KeptW w0 xc1 := KeptW.mono hx hb2
  refine hK (KeptW xc1) _ _ hb2 (fun y h => KeptW.mono (KeptW.mono hx hb2) (KeptW.bel h)) (keptW_mono xc1) (Below.refl _ _) ?_
  have HX1 := Lib.hid (And.intro hr2 hk2)
  clear hK K hb2 hx HV1 hr2 hk2
  obtain ⟨V1, hV1⟩ : ∃ V, Value.agg (refCells r2).toArray = V := ⟨_, rfl⟩
  dsimp only
  rw [hV1]
  have HV1 := Lib.hid hV1; clear hV1
  iterate 4 (refine RegL.pures ?_; intro K hK; go_simp; (first | (refine ⟨_, fun _ => rfl, hK _ ?_⟩) | (refine hK _ ?_)); clear hK K)
  refine RegL.last ?_
  intro g' y hF hy
  have hyk : KeptW w0 y := KeptW.mono hxc (KeptW.bel hy)
  obtain ⟨hg1, hg2⟩ := hF.1 ⟨10, 16, .cells (refCells refNone).toArray 79 (0, 0)⟩ (by simp) rfl
  obtain ⟨hg3, hg4⟩ := hF.1 ⟨11, 17, .cells (repCells 0 ByteArray.empty).toArray 51 (0, 0)⟩ (by simp) rfl
  have hne : g' 11 ≠ g' 10 := hF.2 ⟨11, 17, .cells (repCells 0 ByteArray.empty).toArray 51 (0, 0)⟩ (by simp) ⟨10, 16, .cells (refCells refNone).toArray 79 (0, 0)⟩ (by simp) rfl rfl (by simp)
  have hs : RefRow y (g' 10) refNone := hg1
  have hr : RepAt y (g' 11) 0 ByteArray.empty := hg3
  have hsl : w0.heap.size ≤ g' 10 := hg2
  have hrl : w0.heap.size ≤ g' 11 := hg4
  simp only [RegL.putS, RegL.ptr, if_true]
  clear hF hg1 hg2 hg3 hg4
  generalize g' 10 = gs at *
  generalize g' 11 = gr at *
  have hr2 : RepAt (rowSt y gs 0 (refCells r2)) gr 0 ByteArray.empty := (rowSt_other hne _ _ _).trans hr
  obtain ⟨f2, f3⟩ := hr2.cells
  have f4 := hr2.thawed 0
  have f5 := hr2.thawed 1
  have HZ1 := Lib.hid (refm_end hs hr hne (HX1.out.1.below (KeptW.bel hy)) code text)
  obtain ⟨q0, q1⟩ := ref_store hs HV1.out
  simp only [Value.cells] at q0 q1
  clear hs hr hr2
  generalize hwr : rowSt y gs 0 (refCells r2) = wr at *
  refine RegK.can_frees (fun _ => trivial) ?_
  intro K K0 hK hK0
  go_simp
  refine hK (fun _ => True) _ _ trivial ?_
  clear hK K hK0 K0 q0 q1
  refine RegK.can_frees (fun _ => trivial) ?_
  intro K K0 hK hK0
  go_simp
  refine hK (fun _ => True) _ _ trivial ?_
  clear hK K hK0 K0
  refine RegK.can_frees (fun _ => trivial) ?_
  intro K K0 hK hK0
  go_simp
  refine hK (fun _ => True) _ _ trivial ?_
  clear hK K hK0 K0
  refine RegK.can_nil ?_
  clear f2 f3 f4 f5 HV1
  change Q _ _ (repSt wr gr code text)
  subst hwr
  have HE := Lib.hid (show REnd w0 (repSt (rowSt y gs 0 (refCells r2)) gr code text) gs gr r r2 M2 z2 code text from ⟨HZ1.out.1, HZ1.out.2.1, HZ1.out.2.2.1, HX1.out.2, HZ1.out.2.2.2 _ _ (KeptW.bel hyk) hsl hrl, hsl, hrl, hne⟩)
  clear HZ1 HX1
  generalize repSt (rowSt y gs 0 (refCells r2)) gr code text = wE at *
  exact Hk.out _ _ _ _ _ _ _ _ _ _ gs gr r2 z2 wE HE.out
end Go.Proofs.Ytkngadbeflepoaa
/- Machines: is a machine what the document says (law13.Alike)? Condition: the document's machine has few pairs. -/
namespace Go.Proofs.Ytkngadbeflepoaa
open Go.RowKit

theorem tab_cell {w : World} {g : Nat} {t : TabV} (h : TabAt w g t) {i : Nat} (hi : i < 4) : w.cell? ⟨g, i * 3, none⟩ = some (.int .u32 ((t.at_ i).seq.toNat : Int)) ∧ w.cell? ⟨g, i * 3 + 1, none⟩ = some (.int .u8 ((t.at_ i).code : Int)) ∧ w.cell? ⟨g, i * 3 + 2, none⟩ = some (.string (t.at_ i).text) := by
  obtain ⟨⟨a0, a1, a2⟩, ⟨b0, b1, b2⟩, ⟨c0, c1, c2⟩, ⟨d0, d1, d2⟩⟩ := h.cells
  have h1 : i = 0 ∨ i = 1 ∨ i = 2 ∨ i = 3 := by omega
  rcases h1 with rfl | rfl | rfl | rfl
  · exact ⟨a0, a1, a2⟩
  · exact ⟨b0, b1, b2⟩
  · exact ⟨c0, c1, c2⟩
  · exact ⟨d0, d1, d2⟩
theorem TabAt.below' {w w' : World} {g : Nat} {t : TabV} (h : TabAt w g t) (hb : Below w.heap.size w w') : TabAt w' g t := (hb.block g (Array.getElem?_eq_some_iff.1 h).1).trans h
/-- What lies there in a round of Alike. -/
structure AlkI (w0 : World) (M : MacV) (P : Option Addr) (r : RefM) (gt : Nat) (w : World) : Prop where
  m : MacAt w w0.heap.size M P
  r : RefRow w (w0.heap.size + 1) r
  t : TabAt w gt M.tab
  bel : Below w0.heap.size w0 w
theorem AlkI.below {w0 w w' : World} {M : MacV} {P : Option Addr} {r : RefM} {gt : Nat} (h : AlkI w0 M P r gt w) (hb : Below w.heap.size w w') : AlkI w0 M P r gt w' := ⟨h.m.below hb, h.r.below hb, h.t.below' hb, h.bel.trans (hb.mono h.bel.size)⟩
set_option maxRecDepth 100000 in
set_option maxHeartbeats 16000000 in
theorem alike13_any (M : MacV) (T : Tr) (P : Option Addr) (r : RefM) (z : List KeptV) (w : World) (hat : TreeAt w T) (hp : T.ptr = P) (hsh : T.sh = M.sh) (hr : RefAt w r M z) (hn : r.n ≤ 1000000) :
    Calls Try.prog 35 #[macV M P, .agg (refCells r).toArray] w fun e w' => e = .returned (.bool true) ∧ Below w.heap.size w w' := by
  have hm0 : MacAt (w.alloc (.cells (macCells M P).toArray 69)) w.heap.size M P := heap_alloc_new _ _
  have s0 : (w.alloc (.cells (macCells M P).toArray 69)).heap.size = w.heap.size + 1 := by simp
  have hm1 := hm0.below ((Below.refl _ _).alloc (Nat.le_refl _) (.cells (refCells r).toArray 79))
  have hr1 : RefRow ((w.alloc (.cells (macCells M P).toArray 69)).alloc (.cells (refCells r).toArray 79)) (w.heap.size + 1) r := by rw [← s0]; exact heap_alloc_new _ _
  have hb := ((Below.refl w.heap.size w).alloc (Nat.le_refl _) (.cells (macCells M P).toArray 69)).alloc (by simp) (.cells (refCells r).toArray 79)
  clear hm0 s0
  have htb := fun y : World => mtable_any M P y
  unfold macV at htb
  rw [mac_eta M P, tab_eta] at htb
  have Htb := Lib.hid htb; clear htb
  have Hat := Lib.hid (And.intro hat (And.intro hp hsh)); clear hat hp hsh
  have Hr := Lib.hid (And.intro hr hn); clear hr hn
  unfold macV
  rw [mac_eta M P, ref_eta]
  go_enter Try.func35, Try.ntmps35
  go_upto_region 1 with fail
  change Code.wp _ _ _ _ ((w.alloc (.cells (macCells M P).toArray 69)).alloc (.cells (refCells r).toArray 79))
  generalize (w.alloc (.cells (macCells M P).toArray 69)).alloc (.cells (refCells r).toArray 79) = w1 at *
  have Hm1 := Lib.hid hm1; clear hm1
  have Hr1 := Lib.hid hr1; clear hr1
  have Hb := Lib.hid hb; clear hb
  obtain ⟨⟨m0, m1, m14⟩, ⟨m2, m3, m4⟩, ⟨m5, m6, m7⟩, ⟨m8, m9, m10⟩, ⟨m11, m12, m13⟩⟩ := Hm1.out.cells
  go_upto_region 2 with ((with_reducible refine (Htb.out _).mono ?_); rintro e w2 ⟨rfl, hb2⟩; have Hb2 := Lib.hid hb2; clear hb2)
  clear m0 m1 m2 m3 m4 m5 m6 m7 m8 m9 m10 m11 m12 m13 m14 Htb
  change Code.wp _ _ _ _ (w2.alloc (.cells (tabCells M.tab).toArray 65))
  have HI := Lib.hid (show AlkI w M P r w2.heap.size (w2.alloc (.cells (tabCells M.tab).toArray 65)) from
    have hb3 := Hb2.out.alloc Hb2.out.size (.cells (tabCells M.tab).toArray 65)
    ⟨Hm1.out.below hb3, Hr1.out.below hb3, heap_alloc_new _ _, Hb.out.trans (hb3.mono Hb.out.size)⟩)
  clear Hm1 Hr1 Hb Hb2
  generalize w2.alloc (.cells (tabCells M.tab).toArray 65) = w3 at *
  generalize w2.heap.size = gt at *
  go_wp2_with fail
  go_loopw [6] (fun s6 wr => ∃ i : Nat, i ≤ 4 ∧ s6 = .int .i64 (i : Int) ∧ AlkI w M P r gt wr) (fun s6 _ => 4 - (intOf s6).toNat)
  case atStart => exact ⟨0, by omega, rfl, HI.out⟩
  case round =>
    clear HI
    obtain ⟨i, hi, rfl, hI⟩ := hrel
    have HI := Lib.hid hI; clear hI
    by_cases hlt : i < 4
    · have hlt' : (i : Int) < 4 := by omega
      have hsucc := tsucc (n := i) (by omega)
      have hwrap : IntKind.u8.wrap (i : Int) = (i : Int) := by rw [IntKind.wrap_u8]; omega
      have hcl : (BitVec.ofNat 8 i).toNat = i := by simp; omega
      have hla := fun (y : World) (hy : Below w.heap.size w y) => rlast_any r.B r.k r.d z (BitVec.ofNat 8 i) y (Hr.out.1.keeps.below hy)
      have hx := Hr.out.1.tab (BitVec.ofNat 8 i) (by rw [hcl]; exact hlt)
      rw [hcl] at hx hla
      obtain ⟨x, hxe⟩ : ∃ x, lastR (BitVec.ofNat 8 i) z = x := ⟨_, rfl⟩
      rw [hxe] at hla hx
      rw [kept_eta] at hla
      have Hla := Lib.hid hla; clear hla
      have Hx := Lib.hid hx; clear hx hcl hxe
      obtain ⟨q0, q1, q2, q3⟩ := HI.out.r.cells
      go_upto_region 6 with ((with_reducible refine (Hla.out _ HI.out.bel).mono ?_); rintro e w4 ⟨rfl, hb4⟩; have Hb4 := Lib.hid hb4; clear hb4)
      clear q0 q1 q2 q3 Hla
      change Code.wp _ _ _ _ (w4.alloc (.cells (keptCells x).toArray 131))
      have hk5 : KeptRow (w4.alloc (.cells (keptCells x).toArray 131)) w4.heap.size x := heap_alloc_new _ _
      have HJ := Lib.hid (HI.out.below (Hb4.out.alloc Hb4.out.size (.cells (keptCells x).toArray 131)))
      clear HI Hb4
      generalize w4.alloc (.cells (keptCells x).toArray 131) = w5 at *
      generalize w4.heap.size = g4 at *
      have Hk5 := Lib.hid hk5; clear hk5
      obtain ⟨xc, xs, xo, xt⟩ := x
      have e1 : (M.tab.at_ i).seq = xs := (congrArg LastV.seq Hx.out).symm
      have e2 : (M.tab.at_ i).code = xo := (congrArg LastV.code Hx.out).symm
      have e3 : (M.tab.at_ i).text = xt := (congrArg LastV.text Hx.out).symm
      have Htc := Lib.hid (fun (y : World) (hy : KeptW w5 y) => (show y.cell? ⟨gt, i * 3, none⟩ = some (.int .u32 (xs.toNat : Int)) ∧ y.cell? ⟨gt, i * 3 + 1, none⟩ = some (.int .u8 (xo : Int)) ∧ y.cell? ⟨gt, i * 3 + 2, none⟩ = some (.string xt) by
        have h := tab_cell (HJ.out.t.below' (KeptW.bel hy)) hlt
        rw [e1, e2, e3] at h
        exact h))
      clear e1 e2 e3 Hx
      refine (wpIn_wide (n := 1)).1 ?_
      refine RegJ.wpIn_region_plan (F := Fence.wide) (KeptW w5) (.step 0 0 (.step 1 0 (.step 2 0 (.step 3 0 (.step 4 0 (.step 5 0 (.step 6 0 (.step 7 0 (.step 8 0 (.step 9 0 (.step 10 0 (.step 11 0 (.step 12 0 (.step 13 0 (.step 14 0 (.step 15 0 .nil)))))))))))))))) (by kernel_rfl) (by kernel_rfl) (by kernel_rfl) (fun _ _ d _ _ h => by cases d <;> exact h) ⟨rfl, rfl, rfl, Nat.le_refl _, fun _ _ => rfl⟩ ?_
      dsimp only [RegJ.pickJ, List.getElem?_cons_zero, List.getElem?_cons_succ]
      change RegJ.Can _ _ _ _ _ _ _ _ w5.drew
      have hkd : KeptW w5 w5.drew := ⟨rfl, rfl, rfl, Nat.le_refl _, fun _ _ => rfl⟩
      generalize w5.drew = w6 at *
      iterate 3 (refine RegJ.reads ?_; intro K hK; go_simp; (first | refine ⟨_, fun _ _ => rfl, hK _ ?_⟩ | refine hK _ ?_); clear hK K)
      refine RegJ.reads ?_
      intro K hK
      go_simp
      refine ⟨.int .u32 (xs.toNat : Int), fun y hy => ?_, hK _ ?_⟩
      · obtain ⟨f0, f1, f2⟩ := Htc.out y hy
        go_simp
      clear hK K
      refine RegJ.reads ?_; intro K hK; go_simp; (first | refine ⟨_, fun _ _ => rfl, hK _ ?_⟩ | refine hK _ ?_); clear hK K
      refine RegJ.reads ?_
      intro K hK
      go_simp
      refine ⟨.int .u32 (xs.toNat : Int), fun y hy => ?_, hK _ ?_⟩
      · obtain ⟨f0, f1, f2, f3⟩ := (Hk5.out.below (KeptW.bel hy)).cells
        go_simp
      clear hK K
      iterate 5 (refine RegJ.reads ?_; intro K hK; go_simp; (first | refine ⟨_, fun _ _ => rfl, hK _ ?_⟩ | refine hK _ ?_); clear hK K)
      refine RegJ.reads ?_
      intro K hK
      go_simp
      refine ⟨.agg #[.int .u8 (xo : Int), .string xt], fun y hy => ?_, hK _ ?_⟩
      · obtain ⟨f0, f1, f2⟩ := Htc.out y hy
        go_simp
      clear hK K
      refine RegJ.reads ?_; intro K hK; go_simp; (first | refine ⟨_, fun _ _ => rfl, hK _ ?_⟩ | refine hK _ ?_); clear hK K
      refine RegJ.reads ?_
      intro K hK
      go_simp
      refine ⟨.agg #[.int .u8 (xo : Int), .string xt], fun y hy => ?_, hK _ ?_⟩
      · obtain ⟨f0, f1, f2, f3⟩ := (Hk5.out.below (KeptW.bel hy)).cells
        go_simp
      clear hK K
      iterate 2 (refine RegJ.reads ?_; intro K hK; go_simp; (first | refine ⟨_, fun _ _ => rfl, hK _ ?_⟩ | refine hK _ ?_); clear hK K)
      refine RegJ.nil ?_
      have HJ2 := Lib.hid (HJ.out.below (KeptW.bel hkd))
      go_wp2_with fail
      go_roundw
      case rel => exact ⟨i + 1, hlt, rfl, HJ2.out⟩
      case measure => simp [intOf]; omega
    · have hlt' : ¬ (i : Int) < 4 := by omega
      have Ham := Lib.hid (fun y : World => mall_any M P y)
      have Hmm := Lib.hid (fun y : World => mmem_any M P y)
      have Hmt := Lib.hid (fun y : World => mtree_any M P y)
      have Hal := Lib.hid (fun (y : World) (hy : Below w.heap.size w y) => (show Calls Try.prog 19 #[.pointer P, .slice r.A r.n r.c] y fun e w' => e = .returned (.bool true) ∧ Below y.heap.size y w' by
        rw [← Hat.out.2.1]
        exact alike_any T r.A r.n r.c M.sh.kv y (Hat.out.1.below hy) (Hr.out.1.pairs.below hy) (by rw [← Hat.out.2.2]; rfl) Hr.out.2))
      obtain ⟨V1, hV1⟩ : ∃ V, macV M P = V := ⟨_, rfl⟩
      rw [hV1] at Ham Hmm Hmt
      have HV1 := Lib.hid hV1; clear hV1
      have Hloc := Lib.hid (fun (y : World) (hy : KeptW wr y) => HI.out.below (KeptW.bel hy))
      have hra := Hr.out.1.all
      have hrm := Hr.out.1.mem
      rw [← hra] at Ham
      rw [← hrm] at Hmm
      clear hra hrm
      go_upto_region 8 with fail
      refine (wpIn_wide (n := 1)).1 ?_
      refine RegJ.wpIn_region_plan (F := Fence.wide) (KeptW wr) (.step 0 0 (.step 2 0 (.step 3 0 (.step 1 1 (.step 4 0 (.step 5 0 (.step 6 0 (.step 8 0 (.step 9 0 (.step 7 1 (.step 10 0 (.step 11 0 (.step 12 0 (.step 13 0 (.step 15 0 (.step 16 0 (.step 14 1 (.step 17 1 (.step 18 0 (.step 19 0 .nil)))))))))))))))))))) (by kernel_rfl) (by kernel_rfl) (by kernel_rfl) (fun _ _ d _ _ h => by cases d <;> exact h) ⟨rfl, rfl, rfl, Nat.le_refl _, fun _ _ => rfl⟩ ?_
      dsimp only [RegJ.pickJ, List.getElem?_cons_zero, List.getElem?_cons_succ]
      change RegJ.Can _ _ _ _ _ _ _ _ wr.drew
      have hkd : KeptW wr wr.drew := ⟨rfl, rfl, rfl, Nat.le_refl _, fun _ _ => rfl⟩
      generalize wr.drew = v1 at *
      refine RegJ.reads ?_
      intro K hK
      go_simp
      refine ⟨V1, fun y hy => ?_, hK _ ?_⟩
      · rw [← HV1.out]
        unfold macV
        rw [mac_eta M P]
        obtain ⟨⟨m0, m1, m14⟩, ⟨m2, m3, m4⟩, ⟨m5, m6, m7⟩, ⟨m8, m9, m10⟩, ⟨m11, m12, m13⟩⟩ := (Hloc.out y hy).m.cells
        go_simp
      clear hK K
      refine RegJ.reads ?_; intro K hK; go_simp; (first | refine ⟨_, fun _ _ => rfl, hK _ ?_⟩ | refine hK _ ?_); clear hK K
      refine RegJ.reads ?_
      intro K hK
      go_simp
      refine ⟨.int .u8 (r.all : Int), fun y hy => ?_, hK _ ?_⟩
      · obtain ⟨f0, f1, f2, f3⟩ := (Hloc.out y hy).r.cells
        go_simp
      clear hK K
      refine RegJ.turns (fun _ => trivial) ?_
      intro K K0 hK hK0
      go_simp
      refine ⟨trivial, ?_⟩
      refine (callsIn_wide.2 (Ham.out v1)).mono ?_
      rintro e v2 ⟨rfl, hb7⟩
      have v2k : KeptW wr v2 := KeptW.mono hkd hb7
      refine hK _ _ _ (fun _ h => h) v2k ?_
      clear hK K hK0 K0
      iterate 2 (refine RegJ.reads ?_; intro K hK; go_simp; (first | refine ⟨_, fun _ _ => rfl, hK _ ?_⟩ | refine hK _ ?_); clear hK K)
      refine RegJ.reads ?_
      intro K hK
      go_simp
      refine ⟨V1, fun y hy => ?_, hK _ ?_⟩
      · rw [← HV1.out]
        unfold macV
        rw [mac_eta M P]
        obtain ⟨⟨m0, m1, m14⟩, ⟨m2, m3, m4⟩, ⟨m5, m6, m7⟩, ⟨m8, m9, m10⟩, ⟨m11, m12, m13⟩⟩ := (Hloc.out y hy).m.cells
        go_simp
      clear hK K
      refine RegJ.reads ?_; intro K hK; go_simp; (first | refine ⟨_, fun _ _ => rfl, hK _ ?_⟩ | refine hK _ ?_); clear hK K
      refine RegJ.reads ?_
      intro K hK
      go_simp
      refine ⟨.int .u8 (r.mem : Int), fun y hy => ?_, hK _ ?_⟩
      · obtain ⟨f0, f1, f2, f3⟩ := (Hloc.out y hy).r.cells
        go_simp
      clear hK K
      refine RegJ.turns (fun _ => trivial) ?_
      intro K K0 hK hK0
      go_simp
      refine ⟨trivial, ?_⟩
      refine (callsIn_wide.2 (Hmm.out v2)).mono ?_
      rintro e v3 ⟨rfl, hb7⟩
      have v3k : KeptW wr v3 := KeptW.mono v2k hb7
      refine hK _ _ _ (fun _ h => h) v3k ?_
      clear hK K hK0 K0
      iterate 3 (refine RegJ.reads ?_; intro K hK; go_simp; (first | refine ⟨_, fun _ _ => rfl, hK _ ?_⟩ | refine hK _ ?_); clear hK K)
      refine RegJ.reads ?_
      intro K hK
      go_simp
      refine ⟨V1, fun y hy => ?_, hK _ ?_⟩
      · rw [← HV1.out]
        unfold macV
        rw [mac_eta M P]
        obtain ⟨⟨m0, m1, m14⟩, ⟨m2, m3, m4⟩, ⟨m5, m6, m7⟩, ⟨m8, m9, m10⟩, ⟨m11, m12, m13⟩⟩ := (Hloc.out y hy).m.cells
        go_simp
      clear hK K
      refine RegJ.reads ?_; intro K hK; go_simp; (first | refine ⟨_, fun _ _ => rfl, hK _ ?_⟩ | refine hK _ ?_); clear hK K
      refine RegJ.reads ?_
      intro K hK
      go_simp
      refine ⟨.slice r.A r.n r.c, fun y hy => ?_, hK _ ?_⟩
      · obtain ⟨f0, f1, f2, f3⟩ := (Hloc.out y hy).r.cells
        go_simp
      clear hK K
      refine RegJ.turns (fun _ => trivial) ?_
      intro K K0 hK hK0
      go_simp
      refine ⟨trivial, ?_⟩
      refine (callsIn_wide.2 (Hmt.out v3)).mono ?_
      rintro e v4 ⟨rfl, hb7⟩
      have v4k : KeptW wr v4 := KeptW.mono v3k hb7
      refine hK _ _ _ (fun _ h => h) v4k ?_
      clear hK K hK0 K0
      refine RegJ.turns (fun _ => trivial) ?_
      intro K K0 hK hK0
      go_simp
      refine ⟨trivial, ?_⟩
      refine (callsIn_wide.2 (Hal.out v4 (HI.out.bel.trans ((KeptW.bel v4k).mono HI.out.bel.size)))).mono ?_
      rintro e v5 ⟨rfl, hb7⟩
      have v5k : KeptW wr v5 := KeptW.mono v4k hb7
      refine hK _ _ _ (fun _ h => h) v5k ?_
      clear hK K hK0 K0
      iterate 2 (refine RegJ.reads ?_; intro K hK; go_simp; (first | refine ⟨_, fun _ _ => rfl, hK _ ?_⟩ | refine hK _ ?_); clear hK K)
      refine RegJ.nil ?_
      have HJ2 := Lib.hid (HI.out.bel.trans ((KeptW.bel v5k).mono HI.out.bel.size))
      go_wp2_with fail
      go_ret
      exact ⟨rfl, HJ2.out⟩
end Go.Proofs.Ytkngadbeflepoaa
