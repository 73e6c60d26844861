/- Machines: MachinePlays, the comparison in a round. No condition. -/
import Derived.Test.YtkngadbeflepoaaMMachinePlays21
import Derived.Test.YtkngadbeflepoaaMMachinePlays44
import Derived.Test.YtkngadbeflepoaaMMachinePlays38
import Derived.Test.YtkngadbeflepoaaMMachinePlays45
namespace Go.Proofs.Ytkngadbeflepoaa
open Go.RowKit

theorem macFit_by {M : MacV} (h : MacFit M) : MacBy M := by
  have ht : ∀ n, LastOk (M.tab.at_ n) := fun n => ⟨by have := (h.tab n).code; omega, by have := (h.tab n).text; omega⟩
  exact ⟨by have := h.all; omega, by have := h.mem; omega, ⟨ht 0, ht 1, ht 2, ht 3⟩, by have := h.kv.num; omega, fun p hp => ⟨by have := (h.key p hp).2; omega, by have := h.kv.val p hp; omega⟩⟩
/-- What lies there in a round, behind both steps. -/
structure PlaysI (y : World) (gm gw ga ra gs rs : Nat) (M M2 : MacV) (P P1 : Option Addr) (T X : Tr) (r r2 : RefM) (z z2 : List KeptV) (code : Nat) (text : ByteArray) : Prop where
  m : MacAt y gm M P
  w : RefRow y gw r
  a : MacAt y ga M2 P1
  ra : RepAt y ra code text
  s : RefRow y gs r2
  rs : RepAt y rs code text
  tm : TreeAt y T
  tx : TreeAt y X
  rm : RefAt y r M z
  rx : RefAt y r2 M2 z2
theorem PlaysI.below {y y' : World} {gm gw ga ra gs rs : Nat} {M M2 : MacV} {P P1 : Option Addr} {T X : Tr} {r r2 : RefM} {z z2 : List KeptV} {code : Nat} {text : ByteArray} (h : PlaysI y gm gw ga ra gs rs M M2 P P1 T X r r2 z z2 code text) (hb : Below y.heap.size y y') : PlaysI y' gm gw ga ra gs rs M M2 P P1 T X r r2 z z2 code text :=
  ⟨h.m.below hb, h.w.below hb, h.a.below hb, h.ra.below hb, h.s.below hb, h.rs.below hb, h.tm.below hb, h.tx.below hb, h.rm.below hb, h.rx.below hb⟩
structure PlaysE (M M2 : MacV) (P P1 : Option Addr) (T X : Tr) (r r2 : RefM) : Prop where
  em : T.ptr = P ∧ T.sh = M.sh
  ex : X.ptr = P1 ∧ X.sh = M2.sh
  rn : r.n ≤ 1000000
  r2n : r2.n ≤ 1000000
  by_ : MacBy M2

set_option maxRecDepth 100000 in
set_option maxHeartbeats 16000000 in
theorem plays_reg18 (w0 : World) (gm gw ga ra gs rs : Nat) (M M2 : MacV) (P P1 : Option Addr) (T X : Tr) (r r2 : RefM) (z z2 : List KeptV) (code : Nat) (text : ByteArray) (fresh : Bool) {Q : Exit → Act → World → Prop}
    (hQ : ∀ c a d v w, Q (.panic c) (Act.put a d v) w → Q (.panic c) a w) (HI : Hid (PlaysI w0 gm gw ga ra gs rs M M2 P P1 T X r r2 z z2 code text)) (HE : Hid (PlaysE M M2 P P1 T X r r2))
    (u0 u1 u2 u3 u4 u5 u6 u8 u10 u11 u12 u19 u20 u21 u22 u23 u24 u25 u26 u27 u28 u29 u30 u31 u32 u33 u34 u35 u36 u37 u38 u39 u40 u41 u42 u43 u44 u45 u46 u47 u48 u49 u50 u51 u52 u53 u54 u55 u56 u57 u58 u59 u60 u61 u62 u63 u64 u65 u66 u67 u68 u69 u70 u71 u72 u73 u74 u75 u76 u77 u78 u79 u80 u81 u82 u83 u84 u85 u86 u87 u88 u89 u90 u91 u92 u93 u94 u95 u96 u97 u98 u99 u100 u101 u102 u103 u104 u105 u106 u107 u108 u109 u110 u111 : Value)
    (Hk : Hid (∀ (s73 s74 s75 s76 s77 s78 s79 s80 s81 s82 s83 s84 s85 s86 s87 s88 s89 s90 s91 s92 s93 s94 s95 s96 s97 s98 : Value) (w2 : World), Below w0.heap.size w0 w2 → Q .normal ⟨List.toArray (u0 :: u1 :: u2 :: u3 :: u4 :: u5 :: u6 :: Value.pointer (some ⟨gm, 0, none⟩) :: u8 :: Value.pointer (some ⟨gw, 0, none⟩) :: u10 :: u11 :: u12 :: Value.pointer (some ⟨ga, 0, none⟩) :: Value.pointer (some ⟨ra, 0, none⟩) :: Value.bool fresh :: Value.pointer (some ⟨gs, 0, none⟩) :: Value.pointer (some ⟨rs, 0, none⟩) :: Value.bool fresh :: u19 :: u20 :: u21 :: u22 :: u23 :: u24 :: u25 :: u26 :: u27 :: u28 :: u29 :: u30 :: u31 :: u32 :: u33 :: u34 :: u35 :: u36 :: u37 :: u38 :: u39 :: u40 :: u41 :: u42 :: u43 :: u44 :: u45 :: u46 :: u47 :: u48 :: u49 :: u50 :: u51 :: u52 :: u53 :: u54 :: u55 :: u56 :: u57 :: u58 :: u59 :: u60 :: u61 :: u62 :: u63 :: u64 :: u65 :: u66 :: u67 :: u68 :: u69 :: u70 :: u71 :: u72 :: s73 :: s74 :: s75 :: s76 :: s77 :: s78 :: s79 :: s80 :: s81 :: s82 :: s83 :: s84 :: s85 :: s86 :: s87 :: s88 :: s89 :: s90 :: s91 :: s92 :: s93 :: s94 :: s95 :: s96 :: s97 :: s98 :: Value.bool false :: u100 :: u101 :: u102 :: u103 :: u104 :: u105 :: u106 :: u107 :: u108 :: u109 :: u110 :: u111 :: []), []⟩ w2)) :
    Code.wp Try.prog (findR 18 (Try.f6.body.getD .skip)) Q ⟨List.toArray (u0 :: u1 :: u2 :: u3 :: u4 :: u5 :: u6 :: Value.pointer (some ⟨gm, 0, none⟩) :: u8 :: Value.pointer (some ⟨gw, 0, none⟩) :: u10 :: u11 :: u12 :: Value.pointer (some ⟨ga, 0, none⟩) :: Value.pointer (some ⟨ra, 0, none⟩) :: Value.bool fresh :: Value.pointer (some ⟨gs, 0, none⟩) :: Value.pointer (some ⟨rs, 0, none⟩) :: Value.bool fresh :: u19 :: u20 :: u21 :: u22 :: u23 :: u24 :: u25 :: u26 :: u27 :: u28 :: u29 :: u30 :: u31 :: u32 :: u33 :: u34 :: u35 :: u36 :: u37 :: u38 :: u39 :: u40 :: u41 :: u42 :: u43 :: u44 :: u45 :: u46 :: u47 :: u48 :: u49 :: u50 :: u51 :: u52 :: u53 :: u54 :: u55 :: u56 :: u57 :: u58 :: u59 :: u60 :: u61 :: u62 :: u63 :: u64 :: u65 :: u66 :: u67 :: u68 :: u69 :: u70 :: u71 :: u72 :: u73 :: u74 :: u75 :: u76 :: u77 :: u78 :: u79 :: u80 :: u81 :: u82 :: u83 :: u84 :: u85 :: u86 :: u87 :: u88 :: u89 :: u90 :: u91 :: u92 :: u93 :: u94 :: u95 :: u96 :: u97 :: u98 :: u99 :: u100 :: u101 :: u102 :: u103 :: u104 :: u105 :: u106 :: u107 :: u108 :: u109 :: u110 :: u111 :: []), []⟩ w0 := by
  conv => arg 2; whnf
  have Hloc := Lib.hid (fun (y : World) (hy : KeptW w0 y) => HI.out.below (KeptW.bel hy))
  obtain ⟨V0, hV0⟩ : ∃ V, macV M P = V := ⟨_, rfl⟩
  obtain ⟨V1, hV1⟩ : ∃ V, macV M2 P1 = V := ⟨_, rfl⟩
  obtain ⟨R0, hR0⟩ : ∃ V, Value.agg (refCells r).toArray = V := ⟨_, rfl⟩
  obtain ⟨R1, hR1⟩ : ∃ V, Value.agg (refCells r2).toArray = V := ⟨_, rfl⟩
  obtain ⟨S1, hS1⟩ : ∃ S : ByteArray, (⟨(macB M2).toArray⟩ : ByteArray) = S := ⟨_, rfl⟩
  have HA1 := Lib.hid (fun (y : World) (hy : KeptW w0 y) => (show Calls Try.prog 35 #[V1, R1] y fun e w' => e = .returned (.bool true) ∧ Below y.heap.size y w' by
    have h := Hloc.out y hy
    rw [← hV1, ← hR1]
    exact alike13_any M2 X P1 r2 z2 y h.tx HE.out.ex.1 HE.out.ex.2 h.rx HE.out.r2n))
  have HA0 := Lib.hid (fun (y : World) (hy : KeptW w0 y) => (show Calls Try.prog 35 #[V0, R0] y fun e w' => e = .returned (.bool true) ∧ Below y.heap.size y w' by
    have h := Hloc.out y hy
    rw [← hV0, ← hR0]
    exact alike13_any M T P r z y h.tm HE.out.em.1 HE.out.em.2 h.rm HE.out.rn))
  have HB1 := Lib.hid (fun (y : World) (hy : KeptW w0 y) => (show Calls Try.prog 37 #[V1] y fun e w' => e = .returned (.string S1) ∧ Below y.heap.size y w' by
    have h := Hloc.out y hy
    rw [← hV1, ← hS1, ← HE.out.ex.1]
    exact mbytes_any M2 X HE.out.by_ y h.tx HE.out.ex.2))
  have HB2 := Lib.hid (fun (y : World) (hy : KeptW w0 y) => (show Calls Try.prog 38 #[R1] y fun e w' => e = .returned (.string S1) ∧ Below y.heap.size y w' by
    have h := Hloc.out y hy
    rw [← hR1, ← hS1]
    exact rbytes_any r2 M2 z2 HE.out.by_ y h.rx))
  have HV0 := Lib.hid hV0; clear hV0
  have HV1 := Lib.hid hV1; clear hV1
  have HR0 := Lib.hid hR0; clear hR0
  have HR1 := Lib.hid hR1; clear hR1 hS1
  refine (wpIn_wide (n := 1)).1 ?_
  refine RegJ.wpIn_region_plan (F := Fence.wide) (KeptW w0) (.step 0 0 (.step 1 0 (.step 2 0 (.step 3 0 (.step 4 0 (.step 5 0 (.step 6 0 (.step 7 0 (.step 8 0 (.step 9 0 (.step 10 0 (.step 11 1 (.step 12 0 (.step 13 0 (.step 14 0 (.step 15 0 (.step 16 0 (.step 17 1 (.step 18 0 (.step 19 0 (.step 20 0 (.step 21 0 (.step 23 0 (.step 22 1 (.step 24 1 (.step 25 0 (.step 26 0 .nil))))))))))))))))))))))))))) (by kernel_rfl) (by kernel_rfl) (by kernel_rfl) hQ ⟨rfl, rfl, rfl, Nat.le_refl _, fun _ _ => rfl⟩ ?_
  dsimp only [RegJ.pickJ, List.getElem?_cons_zero, List.getElem?_cons_succ]
  change RegJ.Can _ _ _ _ _ _ _ _ w0.drew
  have hkd : KeptW w0 w0.drew := ⟨rfl, rfl, rfl, Nat.le_refl _, fun _ _ => rfl⟩
  generalize w0.drew = v1 at *
  refine RegJ.reads ?_
  intro K hK
  go_simp
  refine ⟨.agg #[.int .u8 (code : Int), .string text], fun y hy => ?_, hK _ ?_⟩
  · obtain ⟨f0, f1⟩ := (Hloc.out y hy).ra.cells
    go_simp
  clear hK K
  refine RegJ.reads ?_
  intro K hK
  go_simp
  refine ⟨.agg #[.int .u8 (code : Int), .string text], fun y hy => ?_, hK _ ?_⟩
  · obtain ⟨f0, f1⟩ := (Hloc.out y hy).rs.cells
    go_simp
  clear hK K
  iterate 7 (refine RegJ.reads ?_; intro K hK; go_simp; (first | refine ⟨_, fun _ _ => rfl, hK _ ?_⟩ | refine hK _ ?_); clear hK K)
  refine RegJ.reads ?_
  intro K hK
  go_simp
  refine ⟨V1, fun y hy => ?_, hK _ ?_⟩
  · rw [← HV1.out]
    unfold macV
    rw [mac_eta M2 P1]
    obtain ⟨⟨m0, m1, m14⟩, ⟨m2, m3, m4⟩, ⟨m5, m6, m7⟩, ⟨m8, m9, m10⟩, ⟨m11, m12, m13⟩⟩ := (Hloc.out y hy).a.cells
    go_simp
  clear hK K
  refine RegJ.reads ?_
  intro K hK
  go_simp
  refine ⟨R1, fun y hy => ?_, hK _ ?_⟩
  · rw [← HR1.out, ref_eta]
    obtain ⟨f0, f1, f2, f3⟩ := (Hloc.out y hy).s.cells
    go_simp
  clear hK K
  refine RegJ.turns (fun _ => trivial) ?_
  intro K K0 hK hK0
  go_simp
  refine ⟨trivial, ?_⟩
  refine (callsIn_wide.2 (HA1.out v1 (hkd))).mono ?_
  rintro e v2 ⟨rfl, hb7⟩
  have v2k : KeptW w0 v2 := KeptW.mono hkd hb7
  refine hK _ _ _ (fun _ h => h) v2k ?_
  clear hK K hK0 K0
  iterate 3 (refine RegJ.reads ?_; intro K hK; go_simp; (first | refine ⟨_, fun _ _ => rfl, hK _ ?_⟩ | refine hK _ ?_); clear hK K)
  refine RegJ.reads ?_
  intro K hK
  go_simp
  refine ⟨V0, fun y hy => ?_, hK _ ?_⟩
  · rw [← HV0.out]
    unfold macV
    rw [mac_eta M P]
    obtain ⟨⟨m0, m1, m14⟩, ⟨m2, m3, m4⟩, ⟨m5, m6, m7⟩, ⟨m8, m9, m10⟩, ⟨m11, m12, m13⟩⟩ := (Hloc.out y hy).m.cells
    go_simp
  clear hK K
  refine RegJ.reads ?_
  intro K hK
  go_simp
  refine ⟨R0, fun y hy => ?_, hK _ ?_⟩
  · rw [← HR0.out, ref_eta]
    obtain ⟨f0, f1, f2, f3⟩ := (Hloc.out y hy).w.cells
    go_simp
  clear hK K
  refine RegJ.turns (fun _ => trivial) ?_
  intro K K0 hK hK0
  go_simp
  refine ⟨trivial, ?_⟩
  refine (callsIn_wide.2 (HA0.out v2 (v2k))).mono ?_
  rintro e v3 ⟨rfl, hb7⟩
  have v3k : KeptW w0 v3 := KeptW.mono v2k hb7
  refine hK _ _ _ (fun _ h => h) v3k ?_
  clear hK K hK0 K0
  iterate 3 (refine RegJ.reads ?_; intro K hK; go_simp; (first | refine ⟨_, fun _ _ => rfl, hK _ ?_⟩ | refine hK _ ?_); clear hK K)
  refine RegJ.reads ?_
  intro K hK
  go_simp
  refine ⟨V1, fun y hy => ?_, hK _ ?_⟩
  · rw [← HV1.out]
    unfold macV
    rw [mac_eta M2 P1]
    obtain ⟨⟨m0, m1, m14⟩, ⟨m2, m3, m4⟩, ⟨m5, m6, m7⟩, ⟨m8, m9, m10⟩, ⟨m11, m12, m13⟩⟩ := (Hloc.out y hy).a.cells
    go_simp
  clear hK K
  refine RegJ.reads ?_
  intro K hK
  go_simp
  refine ⟨R1, fun y hy => ?_, hK _ ?_⟩
  · rw [← HR1.out, ref_eta]
    obtain ⟨f0, f1, f2, f3⟩ := (Hloc.out y hy).s.cells
    go_simp
  clear hK K
  refine RegJ.turns (fun _ => trivial) ?_
  intro K K0 hK hK0
  go_simp
  refine ⟨trivial, ?_⟩
  refine (callsIn_wide.2 (HB1.out v3 (v3k))).mono ?_
  rintro e v4 ⟨rfl, hb7⟩
  have v4k : KeptW w0 v4 := KeptW.mono v3k hb7
  refine hK _ _ _ (fun _ h => h) v4k ?_
  clear hK K hK0 K0
  refine RegJ.turns (fun _ => trivial) ?_
  intro K K0 hK hK0
  go_simp
  refine ⟨trivial, ?_⟩
  refine (callsIn_wide.2 (HB2.out v4 (v4k))).mono ?_
  rintro e v5 ⟨rfl, hb7⟩
  have v5k : KeptW w0 v5 := KeptW.mono v4k hb7
  refine hK _ _ _ (fun _ h => h) v5k ?_
  clear hK K hK0 K0
  iterate 2 (refine RegJ.reads ?_; intro K hK; go_simp; (first | refine ⟨_, fun _ _ => rfl, hK _ ?_⟩ | refine hK _ ?_); clear hK K)
  refine RegJ.nil ?_
  exact Hk.out _ _ _ _ _ _ _ _ _ _ _ _ _ _ _ _ _ _ _ _ _ _ _ _ _ _ _ (KeptW.bel v5k)
end Go.Proofs.Ytkngadbeflepoaa
/- Machines: Fold. Condition: the commands lie in a slice. -/
namespace Go.Proofs.Ytkngadbeflepoaa
open Go.RowKit

/-- The machine behind commands. -/
def macsDo (M : MacV) (l : List CmdV) : MacV := l.foldl (fun M c => (macDo M c).m) M
theorem macsDo_ok : ∀ (l : List CmdV) {M : MacV}, MacOk M → MacOk (macsDo M l)
  | [], _, h => h
  | c :: r, _, h => macsDo_ok r (macDo_ok h c)
theorem macsDo_take (M : MacV) (l : List CmdV) {i : Nat} (hi : i < l.length) : macsDo M (l.take (i + 1)) = (macDo (macsDo M (l.take i)) (l.getD i default)).m := by
  unfold macsDo
  rw [List.take_succ_eq_append_getElem hi, List.foldl_append]
  simp [List.getD, List.getElem?_eq_getElem hi]
/-- What lies there in a round of Fold. -/
structure FoldI (w0 : World) (M : MacV) (T : Tr) (w : World) : Prop where
  m : MacAt w w0.heap.size M T.ptr
  z : MacAt w (w0.heap.size + 1) macNone none
  t : TreeAt w T
  sh : T.sh = M.sh
  bel : Below w0.heap.size w0 w
theorem FoldI.below {w0 w w' : World} {M : MacV} {T : Tr} (h : FoldI w0 M T w) (hb : Below w.heap.size w w') : FoldI w0 M T w' := ⟨h.m.below hb, h.z.below hb, h.t.below hb, h.sh, h.bel.trans (hb.mono h.bel.size)⟩
theorem FoldI.set {w0 w : World} {M : MacV} {T : Tr} (h : FoldI w0 M T w) (M2 : MacV) (X : Tr) (hX : TreeAt w X) (hs : X.sh = M2.sh) : FoldI w0 M2 X (rowSt w w0.heap.size 0 (macCells M2 X.ptr)) := by
  obtain ⟨h1, h2, h3, h4⟩ := ma_st h.m M2 X.ptr
  exact ⟨h1, (h2 _ (by omega)).trans h.z, h4 _ hX, hs, h3 _ _ h.bel (Nat.le_refl _)⟩
set_option maxRecDepth 100000 in
set_option maxHeartbeats 16000000 in
theorem fold_any (M : MacV) (T : Tr) (a : Option Addr) (n cap : Nat) (z : List CmdV) (w : World) (hok : MacOk M) (hat : TreeAt w T) (hsh : T.sh = M.sh) (h : CmdsAt w a n z) :
    Calls Try.prog 39 #[macV M T.ptr, .slice a n cap] w fun e w' => ∃ X, e = .returned (macV (macsDo M z) X.ptr) ∧ TreeAt w' X ∧ X.sh = (macsDo M z).sh ∧ Below w.heap.size w w' := by
  have hm0 : MacAt (w.alloc (.cells (macCells M T.ptr).toArray 69)) w.heap.size M T.ptr := heap_alloc_new _ _
  have s0 : (w.alloc (.cells (macCells M T.ptr).toArray 69)).heap.size = w.heap.size + 1 := by simp
  have hm1 := hm0.below ((Below.refl _ _).alloc (Nat.le_refl _) (.cells (macCells macNone none).toArray 69))
  have hz1 : MacAt ((w.alloc (.cells (macCells M T.ptr).toArray 69)).alloc (.cells (macCells macNone none).toArray 69)) (w.heap.size + 1) macNone none := by rw [← s0]; exact heap_alloc_new _ _
  have hb := ((Below.refl w.heap.size w).alloc (Nat.le_refl _) (.cells (macCells M T.ptr).toArray 69)).alloc (by simp) (.cells (macCells macNone none).toArray 69)
  have HI := Lib.hid (show FoldI w M T _ from ⟨hm1, hz1, hat.below hb, hsh, hb⟩)
  clear hm0 s0 hm1 hz1 hb hat hsh
  have hlen := h.hlen
  have hmax := h.hmax
  unfold maxLen at hmax
  have H := Lib.hid h; clear h
  have Hok := Lib.hid hok; clear hok
  have Hlen := Lib.hid hlen; clear hlen
  unfold macV
  rw [mac_eta M T.ptr]
  go_enter Try.func39, Try.ntmps39
  go_upto_region 1 with fail
  change Code.wp _ _ _ _ ((w.alloc (.cells (macCells M T.ptr).toArray 69)).alloc (.cells (macCells macNone none).toArray 69))
  generalize (w.alloc (.cells (macCells M T.ptr).toArray 69)).alloc (.cells (macCells macNone none).toArray 69) = w1 at *
  go_wp2_with fail
  go_loopw [9] (fun s9 wr => ∃ (i : Nat) (N : MacV) (X : Tr), i ≤ n ∧ s9 = .int .i64 (i : Int) ∧ N = macsDo M (z.take i) ∧ FoldI w N X wr) (fun s9 _ => n - (intOf s9).toNat)
  case atStart => exact ⟨0, M, T, by omega, rfl, rfl, HI.out⟩
  case round =>
    clear HI
    obtain ⟨i, N, X, hi, rfl, hN, hI⟩ := hrel
    have HI := Lib.hid hI; clear hI
    have HN := Lib.hid hN; clear hN
    by_cases hlt : i < n
    · have hlt' : (i : Int) < (n : Int) := by omega
      have hsucc := tsucc (n := i) (by omega)
      obtain ⟨b, o, rfl, hbl, hcs⟩ := cmd_stay (H.out.below HI.out.bel) hlt
      have hst := macsDo_take M z (i := i) (by rw [Hlen.out]; exact hlt)
      rw [← HN.out] at hst
      obtain ⟨c, hc⟩ : ∃ c, z.getD i default = c := ⟨_, rfl⟩
      rw [hc] at hcs hst
      have hokN : MacOk N := by rw [HN.out]; exact macsDo_ok _ Hok.out
      have Hcs := Lib.hid hcs; clear hcs hc
      have hcw : CmdAt (wr.alloc (.cells (cmdCells c).toArray 56)) wr.heap.size c := heap_alloc_new _ _
      obtain ⟨c0, c1, c2, c3, c4, c5, c6⟩ := Hcs.out wr (Below.refl _ _)
      have Hst := Lib.hid hst; clear hst
      have HokN := Lib.hid hokN; clear hokN
      go_upto_region 4 with fail
      change Code.wp _ _ _ _ (wr.alloc (.cells (cmdCells c).toArray 56))
      clear c0 c1 c2 c3 c4 c5 c6 Hcs hbl
      have HJ := Lib.hid (HI.out.below ((Below.refl _ _).alloc (Nat.le_refl _) (.cells (cmdCells c).toArray 56)))
      clear HI
      generalize wr.alloc (.cells (cmdCells c).toArray 56) = w2 at *
      generalize wr.heap.size = gc at *
      obtain ⟨c0, c1, c2, c3, c4, c5, c6⟩ := hcw.cells
      clear hcw
      obtain ⟨⟨m0, m1, m14⟩, ⟨m2, m3, m4⟩, ⟨m5, m6, m7⟩, ⟨m8, m9, m10⟩, ⟨m11, m12, m13⟩⟩ := HJ.out.m.cells
      have hd := mdo_any c N X w2 HokN.out.all HJ.out.t HJ.out.sh (by rw [sh_cnt, HJ.out.sh]; have := HokN.out.kv.num; omega)
      obtain ⟨⟨N2, code, text, fresh⟩, hO⟩ : ∃ O, macDo N c = O := ⟨_, rfl⟩
      rw [hO] at hd
      have HO := Lib.hid hO; clear hO
      obtain ⟨P, hP⟩ : ∃ P, X.ptr = P := ⟨_, rfl⟩
      rw [hP] at hd m14
      have HP := Lib.hid hP; clear hP
      unfold macV repV repCells at hd
      rw [mac_eta N P, cmd_eta] at hd
      have Hd := Lib.hid hd; clear hd
      go_upto_region 5 with ((with_reducible refine Hd.out.mono ?_); rintro e w5 ⟨Y, rfl, hY⟩; clear Hd; have HY := Lib.hid (And.intro hY.at_ (And.intro hY.bel (show Y.sh = N2.sh from hY.shp))); clear hY; rw [mac_eta]; have HK := Lib.hid (HJ.out.below HY.out.2.1); clear m0 m1 m2 m3 m4 m5 m6 m7 m8 m9 m10 m11 m12 m13 m14 c0 c1 c2 c3 c4 c5 c6; obtain ⟨⟨m0, m1, m14⟩, ⟨m2, m3, m4⟩, ⟨m5, m6, m7⟩, ⟨m8, m9, m10⟩, ⟨m11, m12, m13⟩⟩ := HK.out.m.cells; have q0 := HK.out.m.thawed 0; have q1 := HK.out.m.thawed 1; have q2 := HK.out.m.thawed 2; have q3 := HK.out.m.thawed 3; have q4 := HK.out.m.thawed 4; have q5 := HK.out.m.thawed 5; have q6 := HK.out.m.thawed 6; have q7 := HK.out.m.thawed 7; have q8 := HK.out.m.thawed 8; have q9 := HK.out.m.thawed 9; have q10 := HK.out.m.thawed 10; have q11 := HK.out.m.thawed 11; have q12 := HK.out.m.thawed 12; have q13 := HK.out.m.thawed 13; have q14 := HK.out.m.thawed 14)
      change Code.wp _ _ _ _ (rowSt w5 w.heap.size 0 (macCells N2 Y.ptr))
      have HE := Lib.hid (HK.out.set N2 Y HY.out.1 HY.out.2.2)
      clear m0 m1 m2 m3 m4 m5 m6 m7 m8 m9 m10 m11 m12 m13 m14 q0 q1 q2 q3 q4 q5 q6 q7 q8 q9 q10 q11 q12 q13 q14 HK HY
      generalize rowSt w5 w.heap.size 0 (macCells N2 Y.ptr) = w6 at *
      go_wp2_with fail
      go_roundw
      case rel => exact ⟨i + 1, N2, Y, hlt, rfl, by rw [Hst.out, HO.out], HE.out⟩
      case measure => simp [intOf]; omega
    · have hlt' : ¬ (i : Int) < (n : Int) := by omega
      have hall : N = macsDo M z := by rw [HN.out, List.take_of_length_le (by rw [Hlen.out]; omega)]
      subst hall
      obtain ⟨⟨m0, m1, m14⟩, ⟨m2, m3, m4⟩, ⟨m5, m6, m7⟩, ⟨m8, m9, m10⟩, ⟨m11, m12, m13⟩⟩ := HI.out.m.cells
      obtain ⟨⟨n0, n1, n14⟩, ⟨n2, n3, n4⟩, ⟨n5, n6, n7⟩, ⟨n8, n9, n10⟩, ⟨n11, n12, n13⟩⟩ := HI.out.z.cells
      have q0 := HI.out.z.thawed 0
      have q1 := HI.out.z.thawed 1
      have q2 := HI.out.z.thawed 2
      have q3 := HI.out.z.thawed 3
      have q4 := HI.out.z.thawed 4
      have q5 := HI.out.z.thawed 5
      have q6 := HI.out.z.thawed 6
      have q7 := HI.out.z.thawed 7
      have q8 := HI.out.z.thawed 8
      have q9 := HI.out.z.thawed 9
      have q10 := HI.out.z.thawed 10
      have q11 := HI.out.z.thawed 11
      have q12 := HI.out.z.thawed 12
      have q13 := HI.out.z.thawed 13
      have q14 := HI.out.z.thawed 14
      obtain ⟨h1, h2, h3, h4⟩ := ma_st HI.out.z (macsDo M z) X.ptr
      have HE := Lib.hid (And.intro h1 (And.intro (h4 _ HI.out.t) (h3 _ _ HI.out.bel (by omega))))
      clear h1 h2 h3 h4
      have Hs := Lib.hid HI.out.sh
      go_wp2_with fail
      change bodyPost _ _ _ _ _ (rowSt wr (w.heap.size + 1) 0 (macCells (macsDo M z) X.ptr))
      clear m0 m1 m2 m3 m4 m5 m6 m7 m8 m9 m10 m11 m12 m13 m14 n0 n1 n2 n3 n4 n5 n6 n7 n8 n9 n10 n11 n12 n13 n14 q0 q1 q2 q3 q4 q5 q6 q7 q8 q9 q10 q11 q12 q13 q14 HI HN
      generalize rowSt wr (w.heap.size + 1) 0 (macCells (macsDo M z) X.ptr) = w9 at *
      generalize macsDo M z = N at *
      obtain ⟨⟨o0, o1, o14⟩, ⟨o2, o3, o4⟩, ⟨o5, o6, o7⟩, ⟨o8, o9, o10⟩, ⟨o11, o12, o13⟩⟩ := HE.out.1.cells
      refine bodyPost_ret (v := .agg (macCells N X.ptr).toArray) (by rw [mac_eta]; simp [results, Try.results39, go_sem, o0, o1, o2, o3, o4, o5, o6, o7, o8, o9, o10, o11, o12, o13, o14] <;> rfl) rfl ?_
      exact ⟨X, rfl, HE.out.2.1, Hs.out, HE.out.2.2⟩
end Go.Proofs.Ytkngadbeflepoaa
