/- Machines, plain: what stays true of a machine behind commands. No condition. -/
import Derived.Test.YtkngadbeflepoaaMMachineOnce21
import Derived.Test.YtkngadbeflepoaaMMachineOnce23
import Derived.Test.YtkngadbeflepoaaMMachineOnce15
import Derived.Test.YtkngadbeflepoaaMMachineOnce8
namespace Go.Proofs.Ytkngadbeflepoaa
open Go.RowKit

theorem u8s_open {H : Type} {enc : TypeId × Value → H} {w : World} {base : Nat} {spare : Nat → Bool} {held : Bool} {a : Option Addr} {len cap : Nat} {d : DataW H} {pl : List MemPlace}
    (h : DataW.Trod enc Try.prog w base spare held 60 (.slice a len cap) d pl) : ∃ z : List (BitVec 8), U8sAt w a len z :=
  ones_open (fun x : BitVec 8 => Value.int .u8 (x.toNat : Int)) Try.underlying60 (by kernel_rfl) (fun v y n hv => by
    obtain ⟨m, q, _, f⟩ := DataW.trod_int Try.underlying5 hv
    obtain ⟨x, rfl⟩ := tr_u8 f
    simp only [List.cons.injEq, and_true] at q
    exact ⟨x, q⟩) h
structure MacOk (M : MacV) : Prop where
  all : M.all < 256
  kv : KvInv M.sh
theorem both_lt (x y : Nat) : bothS x y < 256 := by
  have : bothS x y ≤ 127 := Nat.and_le_right
  omega
theorem macOk_new (al fi : Nat) : MacOk ⟨bothS al al, bothS fi fi, tabNone, .nil⟩ := ⟨both_lt al al, KvInv.nil⟩
theorem macFresh_ok {M : MacV} (h : MacOk M) (c : CmdV) : MacOk (macFresh M c).1 := by
  unfold macFresh
  split
  · split
    · exact ⟨h.all, h.kv⟩
    · exact h
  · exact ⟨h.all, (kv_says h.kv c).1⟩
theorem macDo_ok {M : MacV} (h : MacOk M) (c : CmdV) : MacOk (macDo M c).m := by
  unfold macDo
  split
  · split
    · exact ⟨(macFresh_ok h c).all, (macFresh_ok h c).kv⟩
    · exact h
  · exact h
theorem macDo_not {M : MacV} {c : CmdV} (h : (macDo M c).fresh = false) : (macDo M c).m = M := by
  unfold macDo at *
  split
  · rename_i h1
    rw [if_pos h1] at h
    split
    · rename_i h2
      rw [if_pos h2] at h
      cases h
    · rfl
  · rfl
/-- What lies there in a round of MachineOnce, behind both machines' steps. -/
structure OncePost (y w : World) (gm gn ga ra gb rb : Nat) (M : MacV) (P Q : Option Addr) (M2 : MacV) (P1 Q1 : Option Addr) (code : Nat) (text : ByteArray) (T X Y : Tr) : Prop where
  m : MacAt y gm M P
  n : MacAt y gn M Q
  a : MacAt y ga M2 P1
  r : RepAt y ra code text
  b : MacAt y gb M2 Q1
  s : RepAt y rb code text
  tm : TreeAt y T
  ta : TreeAt y X
  tb : TreeAt y Y
  ea : X.ptr = P1 ∧ X.sh = M2.sh
  eb : Y.ptr = Q1 ∧ Y.sh = M2.sh
  bel : Below w.heap.size w y
  lo : w.heap.size ≤ gm ∧ gm < gn ∧ gn < ga ∧ gn < ra ∧ ra ≠ ga ∧ ga < gb ∧ ra < gb ∧ ga < rb ∧ ra < rb ∧ rb ≠ gb
theorem OncePost.below {y w y' : World} {gm gn ga ra gb rb : Nat} {M : MacV} {P Q : Option Addr} {M2 : MacV} {P1 Q1 : Option Addr} {code : Nat} {text : ByteArray} {T X Y : Tr} (h : OncePost y w gm gn ga ra gb rb M P Q M2 P1 Q1 code text T X Y) (hb : Below y.heap.size y y') :
    OncePost y' w gm gn ga ra gb rb M P Q M2 P1 Q1 code text T X Y :=
  ⟨h.m.below hb, h.n.below hb, h.a.below hb, h.r.below hb, h.b.below hb, h.s.below hb, h.tm.below hb, h.ta.below hb, h.tb.below hb, h.ea, h.eb, h.bel.trans (hb.mono h.bel.size), h.lo⟩
/-- b's variable holds another machine of the same values. -/
theorem once_set {y w : World} {gm gn ga ra gb rb : Nat} {M : MacV} {P Q : Option Addr} {M2 : MacV} {P1 Q1 : Option Addr} {code : Nat} {text : ByteArray} {T X Y Z : Tr} {Z1 : Option Addr} (h : OncePost y w gm gn ga ra gb rb M P Q M2 P1 Q1 code text T X Y) (hz : TreeAt y Z) (hp : Z.ptr = Z1) (hs : Z.sh = M2.sh) :
    OncePost (rowSt y gb 0 (macCells M2 Z1)) w gm gn ga ra gb rb M P Q M2 P1 Z1 code text T X Z := by
  obtain ⟨h1, h2, h3, h4⟩ := ma_st h.b M2 Z1
  obtain ⟨l1, l2, l3, l4, l5, l6, l7, l8, l9, l10⟩ := h.lo
  exact ⟨(h2 _ (by omega)).trans h.m, (h2 _ (by omega)).trans h.n, (h2 _ (by omega)).trans h.a, (h2 _ (by omega)).trans h.r, h1, (h2 _ (by omega)).trans h.s, h4 _ h.tm, h4 _ h.ta, h4 _ hz, h.ea, ⟨hp, hs⟩,
    h3 _ _ h.bel (by omega), h.lo⟩
/-- Behind the store of m. -/
structure OnceEnd (y w : World) (gm gn gb : Nat) (M : MacV) (P Q : Option Addr) (M2 : MacV) (P1 Q1 : Option Addr) (X Y : Tr) : Prop where
  m : MacAt y gm M2 P
  n : MacAt y gn M Q
  b : MacAt y gb M2 Q1
  ta : TreeAt y X
  tb : TreeAt y Y
  ea : X.ptr = P1 ∧ X.sh = M2.sh
  eb : Y.ptr = Q1 ∧ Y.sh = M2.sh
  bel : Below w.heap.size w y
  lo : w.heap.size ≤ gm ∧ gm < gn
structure OnceAll (y w : World) (gm gn : Nat) (M2 : MacV) (P Q P1 : Option Addr) (X Y : Tr) : Prop where
  m : MacAt y gm M2 P
  n : MacAt y gn M2 Q
  ta : TreeAt y X
  tb : TreeAt y Y
  ea : X.ptr = P1 ∧ X.sh = M2.sh
  eb : Y.ptr = Q ∧ Y.sh = M2.sh
  bel : Below w.heap.size w y
/-- m's variable holds a's machine; then n's holds b's. -/
theorem once_setM {y w : World} {gm gn ga ra gb rb : Nat} {M : MacV} {P Q : Option Addr} {M2 : MacV} {P1 Q1 : Option Addr} {code : Nat} {text : ByteArray} {T X Y : Tr} (h : OncePost y w gm gn ga ra gb rb M P Q M2 P1 Q1 code text T X Y) :
    OnceEnd (rowSt y gm 0 (macCells M2 P1)) w gm gn gb M P1 Q M2 P1 Q1 X Y := by
  obtain ⟨h1, h2, h3, h4⟩ := ma_st h.m M2 P1
  obtain ⟨l1, l2, l3, l4, l5, l6, l7, l8, l9, l10⟩ := h.lo
  exact ⟨h1, (h2 _ (by omega)).trans h.n, (h2 _ (by omega)).trans h.b, h4 _ h.ta, h4 _ h.tb, h.ea, h.eb, h3 _ _ h.bel l1, by omega, by omega⟩
theorem once_setN {y w : World} {gm gn gb : Nat} {M : MacV} {P Q : Option Addr} {M2 : MacV} {P1 Q1 : Option Addr} {X Y : Tr} (h : OnceEnd y w gm gn gb M P Q M2 P1 Q1 X Y) :
    OnceAll (rowSt y gn 0 (macCells M2 Q1)) w gm gn M2 P Q1 P1 X Y := by
  obtain ⟨h1, h2, h3, h4⟩ := ma_st h.n M2 Q1
  obtain ⟨l1, l2⟩ := h.lo
  exact ⟨(h2 _ (by omega)).trans h.m, h1, h4 _ h.ta, h4 _ h.tb, h.ea, h.eb, h3 _ _ h.bel (by omega)⟩
end Go.Proofs.Ytkngadbeflepoaa
/- MachineOnce, the ways that end at once. No condition. -/
namespace Go.Proofs.Ytkngadbeflepoaa
open Go.RowKit

set_option maxRecDepth 100000 in
set_option maxHeartbeats 32000000 in
theorem once_easy (al fi : Nat) (hal : al < 256) (hfi : fi < 256) (a1 : Option Addr) (l1 cap1 : Nat) (z1 : List CmdV) (a2 : Option Addr) (l2 cap2 : Nat) (w : World) (h1 : CmdsAt w a1 l1 z1) (he : ¬ (kgreatS z1 = false ∧ l2 ≤ 100 ∧ mayS fi al = true)) :
    Calls Try.prog 5 #[.int .u8 (al : Int), .int .u8 (fi : Int), .slice a1 l1 cap1, .slice a2 l2 cap2] w fun e w' => e = .returned (.bool true) ∧ Below w.heap.size w w' := by
  have hl1 := h1.hlen
  have hgr1 := kgreat_any a1 l1 cap1 z1 w h1
  cases hg1 : kgreatS z1 with
  | true =>
    rw [hg1] at hgr1
    clear h1 hl1 he
    have Hgr := Lib.hid hgr1; clear hgr1
    go_enter Try.func5, Try.ntmps5
    go_wp2_with (first
      | ((with_reducible refine Hgr.out.mono ?_); clear Hgr; rintro e w' ⟨rfl, rfl⟩)
      | ((with_reducible refine (mwakes_any _).mono ?_); rintro e wz ⟨rfl, hw⟩; have Hw := Lib.hid hw; clear hw))
    go_ret
    exact ⟨rfl, Hw.out⟩
  | false =>
  rw [hg1] at hgr1
  clear h1 hl1
  have Hgr := Lib.hid hgr1; clear hgr1
  by_cases hb : 100 < l2
  · have hb' : (100 : Int) < (l2 : Int) := by omega
    clear he
    go_enter Try.func5, Try.ntmps5
    go_wp2_with (first
      | ((with_reducible refine Hgr.out.mono ?_); clear Hgr; rintro e w' ⟨rfl, rfl⟩)
      | ((with_reducible refine (mwakes_any _).mono ?_); rintro e wz ⟨rfl, hw⟩; have Hw := Lib.hid hw; clear hw))
    go_ret
    exact ⟨rfl, Hw.out⟩
  have hb' : ¬ (100 : Int) < (l2 : Int) := by omega
  have hnew := fun y : World => new_any al fi hal hfi y
  unfold newM macV at hnew
  have hm : mayS fi al = false := by
    cases h : mayS fi al with
    | false => rfl
    | true => exact absurd ⟨hg1, by omega, h⟩ he
  rw [hm] at hnew
  simp only [Bool.false_eq_true, if_false] at hnew
  rw [mac_eta] at hnew
  clear he
  have Hnew := Lib.hid hnew; clear hnew
  go_enter Try.func5, Try.ntmps5
  go_upto_region 4 with (first
    | ((with_reducible refine Hgr.out.mono ?_); clear Hgr; rintro e w' ⟨rfl, rfl⟩)
    | ((with_reducible refine (Hnew.out _).mono ?_); rintro e wn ⟨rfl, hbn⟩; have HBn := Lib.hid hbn; clear hbn))
  change Code.wp _ _ _ _ (wn.alloc (.cells (macCells macNone none).toArray 69))
  have HB0 := Lib.hid (HBn.out.alloc HBn.out.size (.cells (macCells macNone none).toArray 69))
  generalize wn.alloc (.cells (macCells macNone none).toArray 69) = w0 at *
  clear Hnew HBn
  go_wp2_with ((with_reducible refine (mwakes_any _).mono ?_); rintro e wz ⟨rfl, hw⟩; have Hw := Lib.hid hw; clear hw)
  go_ret
  exact ⟨rfl, HB0.out.trans (Hw.out.mono HB0.out.size)⟩
end Go.Proofs.Ytkngadbeflepoaa
/- Machines: what a region that drives a machine into new variables leaves; a region found by its number. No condition. -/
namespace Go.Proofs.Ytkngadbeflepoaa
open Go.RowKit

/-- The region of a number. -/
def findRO (k : Nat) : Code → Option Code
  | .region i o d => if i = k then some (.region i o d) else none
  | .seq a b => match findRO k a with
    | some c => some c
    | none => findRO k b
  | .loop c => findRO k c
  | .block _ c => findRO k c
  | .scope c => findRO k c
  | .cond _ a b => match findRO k a with
    | some c => some c
    | none => findRO k b
  | _ => none
def findR (k : Nat) (c : Code) : Code := (findRO k c).getD .skip
/-- A command lies there, and stays. -/
def CmdStay (w : World) (b o : Nat) (c : CmdV) : Prop :=
  ∀ y, Below w.heap.size w y → y.cell? ⟨b, o, none⟩ = some (.int .u8 (c.client.toNat : Int)) ∧ y.cell? ⟨b, o + 1, none⟩ = some (.int .u32 (c.seq.toNat : Int)) ∧ y.cell? ⟨b, o + 2, none⟩ = some (.int .u8 (c.kind.toNat : Int)) ∧
    y.cell? ⟨b, o + 3, none⟩ = some (.string c.key) ∧ y.cell? ⟨b, o + 4, none⟩ = some (.string c.old) ∧ y.cell? ⟨b, o + 5, none⟩ = some (.string c.fresh) ∧ y.cell? ⟨b, o + 6, none⟩ = some (.int .u8 (c.set.toNat : Int))
theorem cmd_stay {w : World} {a : Option Addr} {len : Nat} {z : List CmdV} (h : CmdsAt w a len z) {i : Nat} (hi : i < len) : ∃ b o, a = some ⟨b, o, none⟩ ∧ b < w.heap.size ∧ CmdStay w b (o + i * 7) (z.getD i default) := by
  obtain ⟨b, o, e, hbl, c0, c1, c2, c3, c4, c5, c6⟩ := cmds_cells h hi
  exact ⟨b, o, e, hbl, fun y hy => ⟨(hy.cell (p := ⟨b, _, none⟩) hbl).trans c0, (hy.cell (p := ⟨b, _, none⟩) hbl).trans c1, (hy.cell (p := ⟨b, _, none⟩) hbl).trans c2, (hy.cell (p := ⟨b, _, none⟩) hbl).trans c3,
    (hy.cell (p := ⟨b, _, none⟩) hbl).trans c4, (hy.cell (p := ⟨b, _, none⟩) hbl).trans c5, (hy.cell (p := ⟨b, _, none⟩) hbl).trans c6⟩⟩
theorem CmdStay.below {w w' : World} {b o : Nat} {c : CmdV} (h : CmdStay w b o c) (hb : Below w.heap.size w w') : CmdStay w' b o c := fun y hy => h y (hb.trans (hy.mono hb.size))
structure BEnd (w w' : World) (gs gr : Nat) (M : MacV) (P : Option Addr) (code : Nat) (text : ByteArray) (X : Tr) : Prop where
  st : MacAt w' gs M P
  rep : RepAt w' gr code text
  tr : TreeAt w' X
  ptr : X.ptr = P
  sh : X.sh = M.sh
  bel : Below w.heap.size w w'
  lo : w.heap.size ≤ gs
  lo2 : w.heap.size ≤ gr
  ne : gr ≠ gs
end Go.Proofs.Ytkngadbeflepoaa
/- Machines: MachineOnce, one of its regions. No condition. -/
namespace Go.Proofs.Ytkngadbeflepoaa
open Go.RowKit

set_option maxRecDepth 100000 in
set_option maxHeartbeats 16000000 in
theorem once_reg23 (w0 : World) (g : Nat) (M : MacV) (T : Tr) (P : Option Addr) (b o len cap i : Nat) (c : CmdV) (M2 : MacV) (code : Nat) (text : ByteArray) (fresh : Bool) {Q : Exit → Act → World → Prop}
    (hQ : ∀ c a d v w, Q (.panic c) (Act.put a d v) w → Q (.panic c) a w) (hQ2 : ∀ c a d v w, Q (.panic c) a w → Q (.panic c) (Act.put a d v) w)
    (HSm : Hid (MacAt w0 g M P)) (HTm : Hid (TreeAt w0 T)) (HEm : Hid (T.ptr = P ∧ T.sh = M.sh)) (Hlim : Hid (M.all < 256 ∧ T.cnt ≤ 4611686018427387903)) (HO : Hid (macDo M c = ⟨M2, code, text, fresh⟩)) (hlt' : (i : Int) < (len : Int)) (Hc : Hid (CmdStay w0 b (o + i * 7) c))
    (u0 u1 u3 u4 u5 u6 u7 u8 u9 u10 u11 u12 u13 u14 u15 u17 u18 u19 u20 u21 u22 u24 u25 u26 u27 u28 u29 u30 u31 u32 u33 u34 u35 u36 u37 u38 u39 u40 u41 u42 u43 u44 u45 u46 u47 u48 u49 u50 u51 u52 u53 u54 u55 u56 u57 u58 u59 u60 u61 u62 u63 u64 u65 u66 u67 u68 u69 u70 u71 u72 u73 u74 u75 u76 u77 u78 u79 u80 u81 u82 u83 u84 u85 u86 u87 u88 u89 u90 u91 u92 u93 u94 u95 u96 u97 u98 u99 u100 u101 u102 u103 u104 u105 u106 u107 u108 u109 u110 u111 u112 u113 u114 u115 u116 u117 u118 u119 u120 u121 u122 u123 u124 u125 u126 u127 u128 u129 u130 u131 u132 u133 u134 u135 u136 u137 u138 u139 u140 u141 u142 u143 u144 u145 u146 u147 u148 u149 u150 u151 u152 u153 u154 u155 : Value)
    (Hk : Hid (∀ (s135 s136 s137 s138 s139 s140 s141 s142 s143 s144 : Value) (gs gr : Nat) (X : Tr) (P2 : Option Addr) (w2 : World), BEnd w0 w2 gs gr M2 P2 code text X → Q .normal ⟨List.toArray (u0 :: u1 :: Value.slice (some ⟨b, o, none⟩) len cap :: u3 :: u4 :: u5 :: u6 :: u7 :: u8 :: u9 :: u10 :: u11 :: u12 :: u13 :: u14 :: u15 :: Value.pointer (some ⟨g, 0, none⟩) :: u17 :: u18 :: u19 :: u20 :: u21 :: u22 :: Value.int .i64 (i : Int) :: Value.pointer (some ⟨gs, 0, none⟩) :: Value.pointer (some ⟨gr, 0, none⟩) :: Value.bool fresh :: u27 :: u28 :: u29 :: u30 :: u31 :: u32 :: u33 :: u34 :: u35 :: u36 :: u37 :: u38 :: u39 :: u40 :: u41 :: u42 :: u43 :: u44 :: u45 :: u46 :: u47 :: u48 :: u49 :: u50 :: u51 :: u52 :: u53 :: u54 :: u55 :: u56 :: u57 :: u58 :: u59 :: u60 :: u61 :: u62 :: u63 :: u64 :: u65 :: u66 :: u67 :: u68 :: u69 :: u70 :: u71 :: u72 :: u73 :: u74 :: u75 :: u76 :: u77 :: u78 :: u79 :: u80 :: u81 :: u82 :: u83 :: u84 :: u85 :: u86 :: u87 :: u88 :: u89 :: u90 :: u91 :: u92 :: u93 :: u94 :: u95 :: u96 :: u97 :: u98 :: u99 :: u100 :: u101 :: u102 :: u103 :: u104 :: u105 :: u106 :: u107 :: u108 :: u109 :: u110 :: u111 :: u112 :: u113 :: u114 :: u115 :: u116 :: u117 :: u118 :: u119 :: u120 :: u121 :: u122 :: u123 :: u124 :: u125 :: u126 :: u127 :: u128 :: u129 :: u130 :: u131 :: u132 :: u133 :: u134 :: s135 :: s136 :: s137 :: s138 :: s139 :: s140 :: s141 :: s142 :: s143 :: s144 :: u145 :: u146 :: u147 :: u148 :: u149 :: u150 :: u151 :: u152 :: u153 :: u154 :: u155 :: []), []⟩ w2)) :
    Code.wp Try.prog (findR 23 (Try.f5.body.getD .skip)) Q ⟨List.toArray (u0 :: u1 :: Value.slice (some ⟨b, o, none⟩) len cap :: u3 :: u4 :: u5 :: u6 :: u7 :: u8 :: u9 :: u10 :: u11 :: u12 :: u13 :: u14 :: u15 :: Value.pointer (some ⟨g, 0, none⟩) :: u17 :: u18 :: u19 :: u20 :: u21 :: u22 :: Value.int .i64 (i : Int) :: u24 :: u25 :: u26 :: u27 :: u28 :: u29 :: u30 :: u31 :: u32 :: u33 :: u34 :: u35 :: u36 :: u37 :: u38 :: u39 :: u40 :: u41 :: u42 :: u43 :: u44 :: u45 :: u46 :: u47 :: u48 :: u49 :: u50 :: u51 :: u52 :: u53 :: u54 :: u55 :: u56 :: u57 :: u58 :: u59 :: u60 :: u61 :: u62 :: u63 :: u64 :: u65 :: u66 :: u67 :: u68 :: u69 :: u70 :: u71 :: u72 :: u73 :: u74 :: u75 :: u76 :: u77 :: u78 :: u79 :: u80 :: u81 :: u82 :: u83 :: u84 :: u85 :: u86 :: u87 :: u88 :: u89 :: u90 :: u91 :: u92 :: u93 :: u94 :: u95 :: u96 :: u97 :: u98 :: u99 :: u100 :: u101 :: u102 :: u103 :: u104 :: u105 :: u106 :: u107 :: u108 :: u109 :: u110 :: u111 :: u112 :: u113 :: u114 :: u115 :: u116 :: u117 :: u118 :: u119 :: u120 :: u121 :: u122 :: u123 :: u124 :: u125 :: u126 :: u127 :: u128 :: u129 :: u130 :: u131 :: u132 :: u133 :: u134 :: u135 :: u136 :: u137 :: u138 :: u139 :: u140 :: u141 :: u142 :: u143 :: u144 :: u145 :: u146 :: u147 :: u148 :: u149 :: u150 :: u151 :: u152 :: u153 :: u154 :: u155 :: []), []⟩ w0 := by
  conv => arg 2; whnf
  refine (wpIn_wide (n := 1)).1 ?_
  refine RegL.wpIn_region_lays (F := Fence.wide) (KeptW w0) [⟨10, 24, .cells (macCells macNone none).toArray 69 (0, 0)⟩, ⟨11, 25, .cells (repCells 0 ByteArray.empty).toArray 51 (0, 0)⟩] [(0, 0), (1, 0), (2, 0), (3, 0), (4, 0), (5, 1), (6, 2), (7, 2), (8, 2), (9, 2), (12, 3), (13, 3), (14, 3)] (by kernel_rfl) (by kernel_rfl) (by kernel_rfl) (fun p hp => by simp only [List.mem_cons, List.not_mem_nil, or_false] at hp; rcases hp with rfl | rfl; exact lays_any layMac rfl; exact lays_any layRep rfl)
    hQ hQ2 ⟨rfl, rfl, rfl, Nat.le_refl _, fun _ _ => rfl⟩ (keptW_mono w0) ?_
  clear hQ hQ2
  dsimp only [RegK.pick, List.getElem?_cons_zero, List.getElem?_cons_succ]
  obtain ⟨S1, hS1⟩ : ∃ V, macV M P = V := ⟨_, rfl⟩
  have HV1 := Lib.hid hS1; clear hS1
  refine RegL.reads ?_
  intro K hK
  go_simp
  refine ⟨S1, fun y hy => ?_, hK _ ?_⟩
  · rw [← HV1.out]
    unfold macV
    rw [mac_eta M P]
    obtain ⟨⟨m0, m1, m14⟩, ⟨m2, m3, m4⟩, ⟨m5, m6, m7⟩, ⟨m8, m9, m10⟩, ⟨m11, m12, m13⟩⟩ := (HSm.out.below (KeptW.bel hy)).cells
    go_simp
  clear hK K
  iterate 3 (refine RegL.reads ?_; intro K hK; go_simp; (first | refine ⟨_, fun _ _ => rfl, hK _ ?_⟩ | refine hK _ ?_); clear hK K)
  refine RegL.reads ?_
  intro K hK
  go_simp
  refine ⟨.agg (cmdCells c).toArray, fun y hy => ?_, hK _ ?_⟩
  · obtain ⟨f0, f1, f2, f3, f4, f5, f6⟩ := Hc.out y (KeptW.bel hy)
    rw [cmd_eta]
    go_simp
  clear hK K
  refine RegL.adds (fun _ => trivial) ?_
  go_simp
  intro x hx K hK
  refine ⟨trivial, ?_⟩
  have hd := mdo_any c M T x Hlim.out.1 (HTm.out.below (KeptW.bel hx)) HEm.out.2 Hlim.out.2
  rw [HEm.out.1, HO.out, HV1.out] at hd
  unfold repV repCells at hd
  refine (callsIn_wide.2 hd).mono ?_
  clear hd
  rintro e xc1 ⟨X1, rfl, hX⟩
  have hxc : KeptW w0 xc1 := KeptW.mono hx hX.bel
  refine hK (KeptW xc1) _ _ hX.bel (fun y h => KeptW.mono (KeptW.mono hx hX.bel) (KeptW.bel h)) (keptW_mono xc1) (Below.refl _ _) ?_
  have HX1 := Lib.hid (And.intro hX.at_ (show X1.sh = M2.sh from hX.shp))
  clear hK K hX hx HV1
  obtain ⟨P1, hP1⟩ : ∃ P, X1.ptr = P := ⟨_, rfl⟩
  rw [hP1]
  have HP1 := Lib.hid hP1; clear hP1
  obtain ⟨V1, hV1⟩ : ∃ V, macV M2 P1 = V := ⟨_, rfl⟩
  dsimp only
  rw [hV1]
  have HV1 := Lib.hid hV1; clear hV1
  iterate 4 (refine RegL.pures ?_; intro K hK; go_simp; (first | (refine ⟨_, fun _ => rfl, hK _ ?_⟩) | (refine hK _ ?_)); clear hK K)
  refine RegL.last ?_
  intro g' y hF hy
  have hyk : KeptW w0 y := KeptW.mono hxc (KeptW.bel hy)
  obtain ⟨hg1, hg2⟩ := hF.1 ⟨10, 24, .cells (macCells macNone none).toArray 69 (0, 0)⟩ (by simp) rfl
  obtain ⟨hg3, hg4⟩ := hF.1 ⟨11, 25, .cells (repCells 0 ByteArray.empty).toArray 51 (0, 0)⟩ (by simp) rfl
  have hne : g' 11 ≠ g' 10 := hF.2 ⟨11, 25, .cells (repCells 0 ByteArray.empty).toArray 51 (0, 0)⟩ (by simp) ⟨10, 24, .cells (macCells macNone none).toArray 69 (0, 0)⟩ (by simp) rfl rfl (by simp)
  have hs : MacAt y (g' 10) macNone none := hg1
  have hr : RepAt y (g' 11) 0 ByteArray.empty := hg3
  have hsl : w0.heap.size ≤ g' 10 := hg2
  have hrl : w0.heap.size ≤ g' 11 := hg4
  simp only [RegL.putS, RegL.ptr, if_true]
  clear hF hg1 hg2 hg3 hg4
  generalize g' 10 = gs at *
  generalize g' 11 = gr at *
  have hr2 : RepAt (rowSt y gs 0 (macCells M2 P1)) gr 0 ByteArray.empty := (rowSt_other hne _ _ _).trans hr
  obtain ⟨f2, f3⟩ := hr2.cells
  have f4 := hr2.thawed 0
  have f5 := hr2.thawed 1
  have HZ1 := Lib.hid (ma_end hs hr hne M2 P1 code text)
  obtain ⟨q0, q1⟩ := mac_store hs HV1.out
  simp only [Value.cells] at q0 q1
  clear hs hr hr2
  generalize hwr : rowSt y gs 0 (macCells M2 P1) = wr at *
  refine RegK.can_frees (fun _ => trivial) ?_
  intro K K0 hK hK0
  go_simp
  refine hK (fun _ => True) _ _ trivial ?_
  clear hK K hK0 K0 q0 q1
  refine RegK.can_frees (fun _ => trivial) ?_
  intro K K0 hK hK0
  go_simp
  refine hK (fun _ => True) _ _ trivial ?_
  clear hK K hK0 K0
  refine RegK.can_frees (fun _ => trivial) ?_
  intro K K0 hK hK0
  go_simp
  refine hK (fun _ => True) _ _ trivial ?_
  clear hK K hK0 K0
  refine RegK.can_nil ?_
  clear f2 f3 f4 f5 HV1
  change Q _ _ (repSt wr gr code text)
  rw [← hwr]
  clear hwr
  change Q _ _ (maW y gs gr M2 P1 code text)
  exact Hk.out _ _ _ _ _ _ _ _ _ _ gs gr X1 P1 _ ⟨HZ1.out.st, HZ1.out.rep, HZ1.out.tree _ (HX1.out.1.below (KeptW.bel hy)), HP1.out, HX1.out.2, HZ1.out.bel _ _ (KeptW.bel hyk) hsl hrl, hsl, hrl, hne⟩
end Go.Proofs.Ytkngadbeflepoaa
