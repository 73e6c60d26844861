/- Machines, plain: what stays true of a machine behind commands. No condition. -/
import Derived.Test.YtkngadbeflepoaaMMachineBack18
import Derived.Test.YtkngadbeflepoaaMMachineBack6
import Derived.ChangeKeysEq
namespace Go.Proofs.Ytkngadbeflepoaa
open Go.RowKit

theorem u8s_open {H : Type} {enc : TypeId × Value → H} {w : World} {base : Nat} {spare : Nat → Bool} {held : Bool} {a : Option Addr} {len cap : Nat} {d : DataW H} {pl : List MemPlace}
    (h : DataW.Trod enc Try.prog w base spare held 60 (.slice a len cap) d pl) : ∃ z : List (BitVec 8), U8sAt w a len z :=
  ones_open (fun x : BitVec 8 => Value.int .u8 (x.toNat : Int)) Try.underlying60 (by kernel_rfl) (fun v y n hv => by
    obtain ⟨m, q, _, f⟩ := DataW.trod_int Try.underlying5 hv
    obtain ⟨x, rfl⟩ := tr_u8 f
    simp only [List.cons.injEq, and_true] at q
    exact ⟨x, q⟩) h
structure MacOk (M : MacV) : Prop where
  all : M.all < 256
  kv : KvInv M.sh
theorem both_lt (x y : Nat) : bothS x y < 256 := by
  have : bothS x y ≤ 127 := Nat.and_le_right
  omega
theorem macOk_new (al fi : Nat) : MacOk ⟨bothS al al, bothS fi fi, tabNone, .nil⟩ := ⟨both_lt al al, KvInv.nil⟩
theorem macFresh_ok {M : MacV} (h : MacOk M) (c : CmdV) : MacOk (macFresh M c).1 := by
  unfold macFresh
  split
  · split
    · exact ⟨h.all, h.kv⟩
    · exact h
  · exact ⟨h.all, (kv_says h.kv c).1⟩
theorem macDo_ok {M : MacV} (h : MacOk M) (c : CmdV) : MacOk (macDo M c).m := by
  unfold macDo
  split
  · split
    · exact ⟨(macFresh_ok h c).all, (macFresh_ok h c).kv⟩
    · exact h
  · exact h
theorem macDo_not {M : MacV} {c : CmdV} (h : (macDo M c).fresh = false) : (macDo M c).m = M := by
  unfold macDo at *
  split
  · rename_i h1
    rw [if_pos h1] at h
    split
    · rename_i h2
      rw [if_pos h2] at h
      cases h
    · rfl
  · rfl
/-- What lies there in a round of MachineOnce, behind both machines' steps. -/
structure OncePost (y w : World) (gm gn ga ra gb rb : Nat) (M : MacV) (P Q : Option Addr) (M2 : MacV) (P1 Q1 : Option Addr) (code : Nat) (text : ByteArray) (T X Y : Tr) : Prop where
  m : MacAt y gm M P
  n : MacAt y gn M Q
  a : MacAt y ga M2 P1
  r : RepAt y ra code text
  b : MacAt y gb M2 Q1
  s : RepAt y rb code text
  tm : TreeAt y T
  ta : TreeAt y X
  tb : TreeAt y Y
  ea : X.ptr = P1 ∧ X.sh = M2.sh
  eb : Y.ptr = Q1 ∧ Y.sh = M2.sh
  bel : Below w.heap.size w y
  lo : w.heap.size ≤ gm ∧ gm < gn ∧ gn < ga ∧ gn < ra ∧ ra ≠ ga ∧ ga < gb ∧ ra < gb ∧ ga < rb ∧ ra < rb ∧ rb ≠ gb
theorem OncePost.below {y w y' : World} {gm gn ga ra gb rb : Nat} {M : MacV} {P Q : Option Addr} {M2 : MacV} {P1 Q1 : Option Addr} {code : Nat} {text : ByteArray} {T X Y : Tr} (h : OncePost y w gm gn ga ra gb rb M P Q M2 P1 Q1 code text T X Y) (hb : Below y.heap.size y y') :
    OncePost y' w gm gn ga ra gb rb M P Q M2 P1 Q1 code text T X Y :=
  ⟨h.m.below hb, h.n.below hb, h.a.below hb, h.r.below hb, h.b.below hb, h.s.below hb, h.tm.below hb, h.ta.below hb, h.tb.below hb, h.ea, h.eb, h.bel.trans (hb.mono h.bel.size), h.lo⟩
/-- b's variable holds another machine of the same values. -/
theorem once_set {y w : World} {gm gn ga ra gb rb : Nat} {M : MacV} {P Q : Option Addr} {M2 : MacV} {P1 Q1 : Option Addr} {code : Nat} {text : ByteArray} {T X Y Z : Tr} {Z1 : Option Addr} (h : OncePost y w gm gn ga ra gb rb M P Q M2 P1 Q1 code text T X Y) (hz : TreeAt y Z) (hp : Z.ptr = Z1) (hs : Z.sh = M2.sh) :
    OncePost (rowSt y gb 0 (macCells M2 Z1)) w gm gn ga ra gb rb M P Q M2 P1 Z1 code text T X Z := by
  obtain ⟨h1, h2, h3, h4⟩ := ma_st h.b M2 Z1
  obtain ⟨l1, l2, l3, l4, l5, l6, l7, l8, l9, l10⟩ := h.lo
  exact ⟨(h2 _ (by omega)).trans h.m, (h2 _ (by omega)).trans h.n, (h2 _ (by omega)).trans h.a, (h2 _ (by omega)).trans h.r, h1, (h2 _ (by omega)).trans h.s, h4 _ h.tm, h4 _ h.ta, h4 _ hz, h.ea, ⟨hp, hs⟩,
    h3 _ _ h.bel (by omega), h.lo⟩
/-- Behind the store of m. -/
structure OnceEnd (y w : World) (gm gn gb : Nat) (M : MacV) (P Q : Option Addr) (M2 : MacV) (P1 Q1 : Option Addr) (X Y : Tr) : Prop where
  m : MacAt y gm M2 P
  n : MacAt y gn M Q
  b : MacAt y gb M2 Q1
  ta : TreeAt y X
  tb : TreeAt y Y
  ea : X.ptr = P1 ∧ X.sh = M2.sh
  eb : Y.ptr = Q1 ∧ Y.sh = M2.sh
  bel : Below w.heap.size w y
  lo : w.heap.size ≤ gm ∧ gm < gn
structure OnceAll (y w : World) (gm gn : Nat) (M2 : MacV) (P Q P1 : Option Addr) (X Y : Tr) : Prop where
  m : MacAt y gm M2 P
  n : MacAt y gn M2 Q
  ta : TreeAt y X
  tb : TreeAt y Y
  ea : X.ptr = P1 ∧ X.sh = M2.sh
  eb : Y.ptr = Q ∧ Y.sh = M2.sh
  bel : Below w.heap.size w y
/-- m's variable holds a's machine; then n's holds b's. -/
theorem once_setM {y w : World} {gm gn ga ra gb rb : Nat} {M : MacV} {P Q : Option Addr} {M2 : MacV} {P1 Q1 : Option Addr} {code : Nat} {text : ByteArray} {T X Y : Tr} (h : OncePost y w gm gn ga ra gb rb M P Q M2 P1 Q1 code text T X Y) :
    OnceEnd (rowSt y gm 0 (macCells M2 P1)) w gm gn gb M P1 Q M2 P1 Q1 X Y := by
  obtain ⟨h1, h2, h3, h4⟩ := ma_st h.m M2 P1
  obtain ⟨l1, l2, l3, l4, l5, l6, l7, l8, l9, l10⟩ := h.lo
  exact ⟨h1, (h2 _ (by omega)).trans h.n, (h2 _ (by omega)).trans h.b, h4 _ h.ta, h4 _ h.tb, h.ea, h.eb, h3 _ _ h.bel l1, by omega, by omega⟩
theorem once_setN {y w : World} {gm gn gb : Nat} {M : MacV} {P Q : Option Addr} {M2 : MacV} {P1 Q1 : Option Addr} {X Y : Tr} (h : OnceEnd y w gm gn gb M P Q M2 P1 Q1 X Y) :
    OnceAll (rowSt y gn 0 (macCells M2 Q1)) w gm gn M2 P Q1 P1 X Y := by
  obtain ⟨h1, h2, h3, h4⟩ := ma_st h.n M2 Q1
  obtain ⟨l1, l2⟩ := h.lo
  exact ⟨(h2 _ (by omega)).trans h.m, h1, h4 _ h.ta, h4 _ h.tb, h.ea, h.eb, h3 _ _ h.bel (by omega)⟩
end Go.Proofs.Ytkngadbeflepoaa
/- Machines: Fold. Condition: the commands lie in a slice. -/
namespace Go.Proofs.Ytkngadbeflepoaa
open Go.RowKit

/-- The machine behind commands. -/
def macsDo (M : MacV) (l : List CmdV) : MacV := l.foldl (fun M c => (macDo M c).m) M
theorem macsDo_ok : ∀ (l : List CmdV) {M : MacV}, MacOk M → MacOk (macsDo M l)
  | [], _, h => h
  | c :: r, _, h => macsDo_ok r (macDo_ok h c)
theorem macsDo_take (M : MacV) (l : List CmdV) {i : Nat} (hi : i < l.length) : macsDo M (l.take (i + 1)) = (macDo (macsDo M (l.take i)) (l.getD i default)).m := by
  unfold macsDo
  rw [List.take_succ_eq_append_getElem hi, List.foldl_append]
  simp [List.getD, List.getElem?_eq_getElem hi]
/-- What lies there in a round of Fold. -/
structure FoldI (w0 : World) (M : MacV) (T : Tr) (w : World) : Prop where
  m : MacAt w w0.heap.size M T.ptr
  z : MacAt w (w0.heap.size + 1) macNone none
  t : TreeAt w T
  sh : T.sh = M.sh
  bel : Below w0.heap.size w0 w
theorem FoldI.below {w0 w w' : World} {M : MacV} {T : Tr} (h : FoldI w0 M T w) (hb : Below w.heap.size w w') : FoldI w0 M T w' := ⟨h.m.below hb, h.z.below hb, h.t.below hb, h.sh, h.bel.trans (hb.mono h.bel.size)⟩
theorem FoldI.set {w0 w : World} {M : MacV} {T : Tr} (h : FoldI w0 M T w) (M2 : MacV) (X : Tr) (hX : TreeAt w X) (hs : X.sh = M2.sh) : FoldI w0 M2 X (rowSt w w0.heap.size 0 (macCells M2 X.ptr)) := by
  obtain ⟨h1, h2, h3, h4⟩ := ma_st h.m M2 X.ptr
  exact ⟨h1, (h2 _ (by omega)).trans h.z, h4 _ hX, hs, h3 _ _ h.bel (Nat.le_refl _)⟩
set_option maxRecDepth 100000 in
set_option maxHeartbeats 16000000 in
theorem fold_any (M : MacV) (T : Tr) (a : Option Addr) (n cap : Nat) (z : List CmdV) (w : World) (hok : MacOk M) (hat : TreeAt w T) (hsh : T.sh = M.sh) (h : CmdsAt w a n z) :
    Calls Try.prog 39 #[macV M T.ptr, .slice a n cap] w fun e w' => ∃ X, e = .returned (macV (macsDo M z) X.ptr) ∧ TreeAt w' X ∧ X.sh = (macsDo M z).sh ∧ Below w.heap.size w w' := by
  have hm0 : MacAt (w.alloc (.cells (macCells M T.ptr).toArray 69)) w.heap.size M T.ptr := heap_alloc_new _ _
  have s0 : (w.alloc (.cells (macCells M T.ptr).toArray 69)).heap.size = w.heap.size + 1 := by simp
  have hm1 := hm0.below ((Below.refl _ _).alloc (Nat.le_refl _) (.cells (macCells macNone none).toArray 69))
  have hz1 : MacAt ((w.alloc (.cells (macCells M T.ptr).toArray 69)).alloc (.cells (macCells macNone none).toArray 69)) (w.heap.size + 1) macNone none := by rw [← s0]; exact heap_alloc_new _ _
  have hb := ((Below.refl w.heap.size w).alloc (Nat.le_refl _) (.cells (macCells M T.ptr).toArray 69)).alloc (by simp) (.cells (macCells macNone none).toArray 69)
  have HI := Lib.hid (show FoldI w M T _ from ⟨hm1, hz1, hat.below hb, hsh, hb⟩)
  clear hm0 s0 hm1 hz1 hb hat hsh
  have hlen := h.hlen
  have hmax := h.hmax
  unfold maxLen at hmax
  have H := Lib.hid h; clear h
  have Hok := Lib.hid hok; clear hok
  have Hlen := Lib.hid hlen; clear hlen
  unfold macV
  rw [mac_eta M T.ptr]
  go_enter Try.func39, Try.ntmps39
  go_upto_region 1 with fail
  change Code.wp _ _ _ _ ((w.alloc (.cells (macCells M T.ptr).toArray 69)).alloc (.cells (macCells macNone none).toArray 69))
  generalize (w.alloc (.cells (macCells M T.ptr).toArray 69)).alloc (.cells (macCells macNone none).toArray 69) = w1 at *
  go_wp2_with fail
  go_loopw [9] (fun s9 wr => ∃ (i : Nat) (N : MacV) (X : Tr), i ≤ n ∧ s9 = .int .i64 (i : Int) ∧ N = macsDo M (z.take i) ∧ FoldI w N X wr) (fun s9 _ => n - (intOf s9).toNat)
  case atStart => exact ⟨0, M, T, by omega, rfl, rfl, HI.out⟩
  case round =>
    clear HI
    obtain ⟨i, N, X, hi, rfl, hN, hI⟩ := hrel
    have HI := Lib.hid hI; clear hI
    have HN := Lib.hid hN; clear hN
    by_cases hlt : i < n
    · have hlt' : (i : Int) < (n : Int) := by omega
      have hsucc := tsucc (n := i) (by omega)
      obtain ⟨b, o, rfl, hbl, hcs⟩ := cmd_stay (H.out.below HI.out.bel) hlt
      have hst := macsDo_take M z (i := i) (by rw [Hlen.out]; exact hlt)
      rw [← HN.out] at hst
      obtain ⟨c, hc⟩ : ∃ c, z.getD i default = c := ⟨_, rfl⟩
      rw [hc] at hcs hst
      have hokN : MacOk N := by rw [HN.out]; exact macsDo_ok _ Hok.out
      have Hcs := Lib.hid hcs; clear hcs hc
      have hcw : CmdAt (wr.alloc (.cells (cmdCells c).toArray 56)) wr.heap.size c := heap_alloc_new _ _
      obtain ⟨c0, c1, c2, c3, c4, c5, c6⟩ := Hcs.out wr (Below.refl _ _)
      have Hst := Lib.hid hst; clear hst
      have HokN := Lib.hid hokN; clear hokN
      go_upto_region 4 with fail
      change Code.wp _ _ _ _ (wr.alloc (.cells (cmdCells c).toArray 56))
      clear c0 c1 c2 c3 c4 c5 c6 Hcs hbl
      have HJ := Lib.hid (HI.out.below ((Below.refl _ _).alloc (Nat.le_refl _) (.cells (cmdCells c).toArray 56)))
      clear HI
      generalize wr.alloc (.cells (cmdCells c).toArray 56) = w2 at *
      generalize wr.heap.size = gc at *
      obtain ⟨c0, c1, c2, c3, c4, c5, c6⟩ := hcw.cells
      clear hcw
      obtain ⟨⟨m0, m1, m14⟩, ⟨m2, m3, m4⟩, ⟨m5, m6, m7⟩, ⟨m8, m9, m10⟩, ⟨m11, m12, m13⟩⟩ := HJ.out.m.cells
      have hd := mdo_any c N X w2 HokN.out.all HJ.out.t HJ.out.sh (by rw [sh_cnt, HJ.out.sh]; have := HokN.out.kv.num; omega)
      obtain ⟨⟨N2, code, text, fresh⟩, hO⟩ : ∃ O, macDo N c = O := ⟨_, rfl⟩
      rw [hO] at hd
      have HO := Lib.hid hO; clear hO
      obtain ⟨P, hP⟩ : ∃ P, X.ptr = P := ⟨_, rfl⟩
      rw [hP] at hd m14
      have HP := Lib.hid hP; clear hP
      unfold macV repV repCells at hd
      rw [mac_eta N P, cmd_eta] at hd
      have Hd := Lib.hid hd; clear hd
      go_upto_region 5 with ((with_reducible refine Hd.out.mono ?_); rintro e w5 ⟨Y, rfl, hY⟩; clear Hd; have HY := Lib.hid (And.intro hY.at_ (And.intro hY.bel (show Y.sh = N2.sh from hY.shp))); clear hY; rw [mac_eta]; have HK := Lib.hid (HJ.out.below HY.out.2.1); clear m0 m1 m2 m3 m4 m5 m6 m7 m8 m9 m10 m11 m12 m13 m14 c0 c1 c2 c3 c4 c5 c6; obtain ⟨⟨m0, m1, m14⟩, ⟨m2, m3, m4⟩, ⟨m5, m6, m7⟩, ⟨m8, m9, m10⟩, ⟨m11, m12, m13⟩⟩ := HK.out.m.cells; have q0 := HK.out.m.thawed 0; have q1 := HK.out.m.thawed 1; have q2 := HK.out.m.thawed 2; have q3 := HK.out.m.thawed 3; have q4 := HK.out.m.thawed 4; have q5 := HK.out.m.thawed 5; have q6 := HK.out.m.thawed 6; have q7 := HK.out.m.thawed 7; have q8 := HK.out.m.thawed 8; have q9 := HK.out.m.thawed 9; have q10 := HK.out.m.thawed 10; have q11 := HK.out.m.thawed 11; have q12 := HK.out.m.thawed 12; have q13 := HK.out.m.thawed 13; have q14 := HK.out.m.thawed 14)
      change Code.wp _ _ _ _ (rowSt w5 w.heap.size 0 (macCells N2 Y.ptr))
      have HE := Lib.hid (HK.out.set N2 Y HY.out.1 HY.out.2.2)
      clear m0 m1 m2 m3 m4 m5 m6 m7 m8 m9 m10 m11 m12 m13 m14 q0 q1 q2 q3 q4 q5 q6 q7 q8 q9 q10 q11 q12 q13 q14 HK HY
      generalize rowSt w5 w.heap.size 0 (macCells N2 Y.ptr) = w6 at *
      go_wp2_with fail
      go_roundw
      case rel => exact ⟨i + 1, N2, Y, hlt, rfl, by rw [Hst.out, HO.out], HE.out⟩
      case measure => simp [intOf]; omega
    · have hlt' : ¬ (i : Int) < (n : Int) := by omega
      have hall : N = macsDo M z := by rw [HN.out, List.take_of_length_le (by rw [Hlen.out]; omega)]
      subst hall
      obtain ⟨⟨m0, m1, m14⟩, ⟨m2, m3, m4⟩, ⟨m5, m6, m7⟩, ⟨m8, m9, m10⟩, ⟨m11, m12, m13⟩⟩ := HI.out.m.cells
      obtain ⟨⟨n0, n1, n14⟩, ⟨n2, n3, n4⟩, ⟨n5, n6, n7⟩, ⟨n8, n9, n10⟩, ⟨n11, n12, n13⟩⟩ := HI.out.z.cells
      have q0 := HI.out.z.thawed 0
      have q1 := HI.out.z.thawed 1
      have q2 := HI.out.z.thawed 2
      have q3 := HI.out.z.thawed 3
      have q4 := HI.out.z.thawed 4
      have q5 := HI.out.z.thawed 5
      have q6 := HI.out.z.thawed 6
      have q7 := HI.out.z.thawed 7
      have q8 := HI.out.z.thawed 8
      have q9 := HI.out.z.thawed 9
      have q10 := HI.out.z.thawed 10
      have q11 := HI.out.z.thawed 11
      have q12 := HI.out.z.thawed 12
      have q13 := HI.out.z.thawed 13
      have q14 := HI.out.z.thawed 14
      obtain ⟨h1, h2, h3, h4⟩ := ma_st HI.out.z (macsDo M z) X.ptr
      have HE := Lib.hid (And.intro h1 (And.intro (h4 _ HI.out.t) (h3 _ _ HI.out.bel (by omega))))
      clear h1 h2 h3 h4
      have Hs := Lib.hid HI.out.sh
      go_wp2_with fail
      change bodyPost _ _ _ _ _ (rowSt wr (w.heap.size + 1) 0 (macCells (macsDo M z) X.ptr))
      clear m0 m1 m2 m3 m4 m5 m6 m7 m8 m9 m10 m11 m12 m13 m14 n0 n1 n2 n3 n4 n5 n6 n7 n8 n9 n10 n11 n12 n13 n14 q0 q1 q2 q3 q4 q5 q6 q7 q8 q9 q10 q11 q12 q13 q14 HI HN
      generalize rowSt wr (w.heap.size + 1) 0 (macCells (macsDo M z) X.ptr) = w9 at *
      generalize macsDo M z = N at *
      obtain ⟨⟨o0, o1, o14⟩, ⟨o2, o3, o4⟩, ⟨o5, o6, o7⟩, ⟨o8, o9, o10⟩, ⟨o11, o12, o13⟩⟩ := HE.out.1.cells
      refine bodyPost_ret (v := .agg (macCells N X.ptr).toArray) (by rw [mac_eta]; simp [results, Try.results39, go_sem, o0, o1, o2, o3, o4, o5, o6, o7, o8, o9, o10, o11, o12, o13, o14] <;> rfl) rfl ?_
      exact ⟨X, rfl, HE.out.2.1, Hs.out, HE.out.2.2⟩
end Go.Proofs.Ytkngadbeflepoaa
/- Machines: MachineBack, one of its regions. No condition. -/
namespace Go.Proofs.Ytkngadbeflepoaa
open Go.RowKit

structure BackI (w w' : World) (gs gt : Nat) (A B : MacV) (X Y : Tr) : Prop where
  a : MacAt w' gs A X.ptr
  b : MacAt w' gt B Y.ptr
  ta : TreeAt w' X
  tb : TreeAt w' Y
  sa : X.sh = A.sh
  sb : Y.sh = B.sh
  bel : Below w.heap.size w w'
theorem BackI.below {w w' w2 : World} {gs gt : Nat} {A B : MacV} {X Y : Tr} (h : BackI w w' gs gt A B X Y) (hb : Below w'.heap.size w' w2) : BackI w w2 gs gt A B X Y := ⟨h.a.below hb, h.b.below hb, h.ta.below hb, h.tb.below hb, h.sa, h.sb, h.bel.trans (hb.mono h.bel.size)⟩

set_option maxRecDepth 100000 in
set_option maxHeartbeats 16000000 in
theorem back_reg6 (w0 : World) (g : Nat) (M0 : MacV) (a1 : Option Addr) (l1 cap1 : Nat) (z1 : List CmdV) (a2 : Option Addr) (l2 cap2 : Nat) (z2 : List CmdV) {Q : Exit → Act → World → Prop}
    (hQ : ∀ c a d v w, Q (.panic c) (Act.put a d v) w → Q (.panic c) a w) (hQ2 : ∀ c a d v w, Q (.panic c) a w → Q (.panic c) (Act.put a d v) w) (HM : Hid (MacAt w0 g M0 none)) (H0 : Hid (MacOk M0 ∧ M0.sh = .nil)) (H1 : Hid (CmdsAt w0 a1 l1 z1)) (H2 : Hid (CmdsAt w0 a2 l2 z2))
    (u2 u3 u4 u5 u6 u8 u9 u10 u11 u12 u13 u14 u15 u16 u17 u18 u19 u20 u21 u22 u23 u24 u25 u26 u27 u28 u29 u30 u31 u32 u33 u34 u35 u36 u37 u38 u39 u40 u41 u42 u43 u44 u45 u46 u47 u48 u49 u50 u51 u52 u53 u54 u55 u56 u57 u58 u59 u60 u61 u62 u63 u64 u65 u66 u67 u68 u69 u70 u71 u72 u73 u74 u75 u76 u77 u78 u79 u80 u81 u82 u83 u84 u85 u86 u87 u88 u89 u90 u91 : Value)
    (Hk : Hid (∀ (s33 s34 s35 s36 s37 s38 : Value) (gs gt : Nat) (X Y : Tr) (w2 : World), BackI w0 w2 gs gt (macsDo M0 z1) (macsDo M0 z2) X Y → Q .normal ⟨List.toArray (Value.slice a1 l1 cap1 :: Value.slice a2 l2 cap2 :: u2 :: u3 :: u4 :: u5 :: u6 :: Value.pointer (some ⟨g, 0, none⟩) :: u8 :: Value.pointer (some ⟨gs, 0, none⟩) :: Value.pointer (some ⟨gt, 0, none⟩) :: u11 :: u12 :: u13 :: u14 :: u15 :: u16 :: u17 :: u18 :: u19 :: u20 :: u21 :: u22 :: u23 :: u24 :: u25 :: u26 :: u27 :: u28 :: u29 :: u30 :: u31 :: u32 :: s33 :: s34 :: s35 :: s36 :: s37 :: s38 :: u39 :: u40 :: u41 :: u42 :: u43 :: u44 :: u45 :: u46 :: u47 :: u48 :: u49 :: u50 :: u51 :: u52 :: u53 :: u54 :: u55 :: u56 :: u57 :: u58 :: u59 :: u60 :: u61 :: u62 :: u63 :: u64 :: u65 :: u66 :: u67 :: u68 :: u69 :: u70 :: u71 :: u72 :: u73 :: u74 :: u75 :: u76 :: u77 :: u78 :: u79 :: u80 :: u81 :: u82 :: u83 :: u84 :: u85 :: u86 :: u87 :: u88 :: u89 :: u90 :: u91 :: []), []⟩ w2)) :
    Code.wp Try.prog (findR 6 (Try.f7.body.getD .skip)) Q ⟨List.toArray (Value.slice a1 l1 cap1 :: Value.slice a2 l2 cap2 :: u2 :: u3 :: u4 :: u5 :: u6 :: Value.pointer (some ⟨g, 0, none⟩) :: u8 :: u9 :: u10 :: u11 :: u12 :: u13 :: u14 :: u15 :: u16 :: u17 :: u18 :: u19 :: u20 :: u21 :: u22 :: u23 :: u24 :: u25 :: u26 :: u27 :: u28 :: u29 :: u30 :: u31 :: u32 :: u33 :: u34 :: u35 :: u36 :: u37 :: u38 :: u39 :: u40 :: u41 :: u42 :: u43 :: u44 :: u45 :: u46 :: u47 :: u48 :: u49 :: u50 :: u51 :: u52 :: u53 :: u54 :: u55 :: u56 :: u57 :: u58 :: u59 :: u60 :: u61 :: u62 :: u63 :: u64 :: u65 :: u66 :: u67 :: u68 :: u69 :: u70 :: u71 :: u72 :: u73 :: u74 :: u75 :: u76 :: u77 :: u78 :: u79 :: u80 :: u81 :: u82 :: u83 :: u84 :: u85 :: u86 :: u87 :: u88 :: u89 :: u90 :: u91 :: []), []⟩ w0 := by
  conv => arg 2; whnf
  refine (wpIn_wide (n := 1)).1 ?_
  refine RegL.wpIn_region_lays (F := Fence.wide) (KeptW w0) [⟨6, 9, .cells (macCells macNone none).toArray 69 (0, 0)⟩, ⟨7, 10, .cells (macCells macNone none).toArray 69 (0, 0)⟩] [(0, 0), (1, 0), (3, 0), (4, 0), (2, 1), (5, 1), (8, 3), (9, 3)] (by kernel_rfl) (by kernel_rfl) (by kernel_rfl) (fun p hp => by simp only [List.mem_cons, List.not_mem_nil, or_false] at hp; rcases hp with rfl | rfl; exact lays_any layMac rfl; exact lays_any layMac rfl)
    hQ hQ2 ⟨rfl, rfl, rfl, Nat.le_refl _, fun _ _ => rfl⟩ (keptW_mono w0) ?_
  clear hQ hQ2
  dsimp only [RegK.pick, List.getElem?_cons_zero, List.getElem?_cons_succ]
  obtain ⟨S1, hS1⟩ : ∃ V, macV M0 none = V := ⟨_, rfl⟩
  have HV1 := Lib.hid hS1; clear hS1
  refine RegL.reads ?_
  intro K hK
  go_simp
  refine ⟨S1, fun y hy => ?_, hK _ ?_⟩
  · rw [← HV1.out]
    unfold macV
    rw [mac_eta M0 none]
    obtain ⟨⟨m0, m1, m14⟩, ⟨m2, m3, m4⟩, ⟨m5, m6, m7⟩, ⟨m8, m9, m10⟩, ⟨m11, m12, m13⟩⟩ := (HM.out.below (KeptW.bel hy)).cells
    go_simp
  clear hK K
  iterate 1 (refine RegL.reads ?_; intro K hK; go_simp; (first | refine ⟨_, fun _ _ => rfl, hK _ ?_⟩ | refine hK _ ?_); clear hK K)
  refine RegL.reads ?_
  intro K hK
  go_simp
  refine ⟨S1, fun y hy => ?_, hK _ ?_⟩
  · rw [← HV1.out]
    unfold macV
    rw [mac_eta M0 none]
    obtain ⟨⟨m0, m1, m14⟩, ⟨m2, m3, m4⟩, ⟨m5, m6, m7⟩, ⟨m8, m9, m10⟩, ⟨m11, m12, m13⟩⟩ := (HM.out.below (KeptW.bel hy)).cells
    go_simp
  clear hK K
  iterate 1 (refine RegL.reads ?_; intro K hK; go_simp; (first | refine ⟨_, fun _ _ => rfl, hK _ ?_⟩ | refine hK _ ?_); clear hK K)
  refine RegL.adds (fun _ => trivial) ?_
  go_simp
  intro x1 hx1 K hK
  refine ⟨trivial, ?_⟩
  have hkx1 : KeptW w0 x1 := hx1
  have hd := fold_any M0 .nil a1 l1 cap1 z1 x1 H0.out.1 trivial H0.out.2.symm (H1.out.below (KeptW.bel hkx1))
  rw [show (Tr.nil).ptr = none from rfl, HV1.out] at hd
  refine (callsIn_wide.2 hd).mono ?_
  clear hd
  rintro e xc1 ⟨X, rfl, hX1, hs1, hb1⟩
  have hxc1 : KeptW w0 xc1 := KeptW.mono hkx1 hb1
  refine hK (KeptW xc1) _ _ hb1 (fun y h => KeptW.mono hxc1 (KeptW.bel h)) (keptW_mono xc1) (Below.refl _ _) ?_
  clear hK K
  obtain ⟨W1, hW1⟩ : ∃ V, macV (macsDo M0 z1) X.ptr = V := ⟨_, rfl⟩
  rw [hW1]
  have HW1 := Lib.hid hW1; clear hW1
  refine RegL.adds (fun _ => trivial) ?_
  go_simp
  intro x2 hx2 K hK
  refine ⟨trivial, ?_⟩
  have hkx2 : KeptW w0 x2 := KeptW.mono hxc1 (KeptW.bel hx2)
  have hd := fold_any M0 .nil a2 l2 cap2 z2 x2 H0.out.1 trivial H0.out.2.symm (H2.out.below (KeptW.bel hkx2))
  rw [show (Tr.nil).ptr = none from rfl, HV1.out] at hd
  refine (callsIn_wide.2 hd).mono ?_
  clear hd
  rintro e xc2 ⟨Y, rfl, hX2, hs2, hb2⟩
  have hxc2 : KeptW w0 xc2 := KeptW.mono hkx2 hb2
  refine hK (KeptW xc2) _ _ hb2 (fun y h => KeptW.mono (KeptW.bel hx2) (Below.trans hb2 ((KeptW.bel h).mono hb2.size))) (keptW_mono xc2) (Below.refl _ _) ?_
  clear hK K
  obtain ⟨W2, hW2⟩ : ∃ V, macV (macsDo M0 z2) Y.ptr = V := ⟨_, rfl⟩
  rw [hW2]
  have HW2 := Lib.hid hW2; clear hW2
  refine RegL.last ?_
  intro g' y hF hy
  have hy1 : KeptW xc1 y := KeptW.mono (KeptW.mono hx2 hb2) (KeptW.bel hy)
  have hyk : KeptW w0 y := KeptW.mono hxc1 (KeptW.bel hy1)
  obtain ⟨hg1, hg2⟩ := hF.1 ⟨6, 9, .cells (macCells macNone none).toArray 69 (0, 0)⟩ (by simp) rfl
  obtain ⟨hg3, hg4⟩ := hF.1 ⟨7, 10, .cells (macCells macNone none).toArray 69 (0, 0)⟩ (by simp) rfl
  have hne : g' 7 ≠ g' 6 := hF.2 ⟨7, 10, .cells (macCells macNone none).toArray 69 (0, 0)⟩ (by simp) ⟨6, 9, .cells (macCells macNone none).toArray 69 (0, 0)⟩ (by simp) rfl rfl (by simp)
  have hs : MacAt y (g' 6) macNone none := hg1
  have hr : MacAt y (g' 7) macNone none := hg3
  have hsl : w0.heap.size ≤ g' 6 := hg2
  have hrl : w0.heap.size ≤ g' 7 := hg4
  simp only [RegL.putS, RegL.ptr, if_true]
  clear hF hg1 hg2 hg3 hg4
  generalize g' 6 = gs at *
  generalize g' 7 = gt at *
  obtain ⟨s1, s2, s3, s4⟩ := ma_st hs (macsDo M0 z1) X.ptr
  have hr2 : MacAt (rowSt y gs 0 (macCells (macsDo M0 z1) X.ptr)) gt macNone none := (s2 _ hne).trans hr
  obtain ⟨t1, t2, t3, t4⟩ := ma_st hr2 (macsDo M0 z2) Y.ptr
  have HB := Lib.hid (show BackI w0 (rowSt (rowSt y gs 0 (macCells (macsDo M0 z1) X.ptr)) gt 0 (macCells (macsDo M0 z2) Y.ptr)) gs gt (macsDo M0 z1) (macsDo M0 z2) X Y from
    ⟨(t2 _ (Ne.symm hne)).trans s1, t1, t4 _ (s4 _ (hX1.below (KeptW.bel hy1))), t4 _ (s4 _ (hX2.below (KeptW.bel hy))), hs1, hs2, t3 _ _ (s3 _ _ (KeptW.bel hyk) hsl) hrl⟩)
  obtain ⟨q0, q1⟩ := mac_store hs HW1.out
  obtain ⟨q2, q3⟩ := mac_store hr2 HW2.out
  simp only [Value.cells] at q0 q1 q2 q3
  clear hs hr hr2 s1 s2 s3 s4 t1 t2 t3 t4 hX1 hX2
  generalize rowSt y gs 0 (macCells (macsDo M0 z1) X.ptr) = wr at *
  generalize rowSt wr gt 0 (macCells (macsDo M0 z2) Y.ptr) = wE at *
  refine RegK.can_frees (fun _ => trivial) ?_
  intro K K0 hK hK0
  go_simp
  refine hK (fun _ => True) _ _ trivial ?_
  clear hK K hK0 K0 q0 q1
  refine RegK.can_frees (fun _ => trivial) ?_
  intro K K0 hK hK0
  go_simp
  refine hK (fun _ => True) _ _ trivial ?_
  clear hK K hK0 K0
  refine RegK.can_nil ?_
  exact Hk.out _ _ _ _ _ _ gs gt X Y wE HB.out
end Go.Proofs.Ytkngadbeflepoaa
/- Machines: Table. No condition. -/
namespace Go.Proofs.Ytkngadbeflepoaa
open Go.RowKit

set_option maxRecDepth 100000 in
set_option maxHeartbeats 4000000 in
theorem mtable_any (M : MacV) (P : Option Addr) (w : World) : Calls Try.prog 45 #[macV M P] w fun e w' => e = .returned (.agg (tabCells M.tab).toArray) ∧ Below w.heap.size w w' := by
  have hb1 := (Below.refl w.heap.size w).alloc (Nat.le_refl _) (.cells (macCells M P).toArray 69)
  have hm0 : MacAt (w.alloc (.cells (macCells M P).toArray 69)) w.heap.size M P := heap_alloc_new _ _
  have hs1 : (w.alloc (.cells (macCells M P).toArray 69)).heap.size = w.heap.size + 1 := by simp
  have hm1 := hm0.below ((Below.refl _ _).alloc (Nat.le_refl _) (.cells (tabCells tabNone).toArray 65))
  have hb2 := hb1.alloc hb1.size (.cells (tabCells tabNone).toArray 65)
  have hZ : TabAt ((w.alloc (.cells (macCells M P).toArray 69)).alloc (.cells (tabCells tabNone).toArray 65)) (w.heap.size + 1) tabNone := by rw [← hs1]; exact heap_alloc_new _ _
  clear hb1 hm0 hs1
  unfold macV
  go_enter Try.func45, Try.ntmps45
  go_upto_region 1 with fail
  change Code.wp _ _ _ _ ((w.alloc (.cells (macCells M P).toArray 69)).alloc (.cells (tabCells tabNone).toArray 65))
  generalize (w.alloc (.cells (macCells M P).toArray 69)).alloc (.cells (tabCells tabNone).toArray 65) = w1 at *
  obtain ⟨⟨m0, m1, m14⟩, ⟨m2, m3, m4⟩, ⟨m5, m6, m7⟩, ⟨m8, m9, m10⟩, ⟨m11, m12, m13⟩⟩ := hm1.cells
  obtain ⟨⟨z0, z1, z2⟩, ⟨z3, z4, z5⟩, ⟨z6, z7, z8⟩, ⟨z9, z10, z11⟩⟩ := hZ.cells
  have g0 := hZ.thawed 0
  have g1 := hZ.thawed 1
  have g2 := hZ.thawed 2
  have g3 := hZ.thawed 3
  have g4 := hZ.thawed 4
  have g5 := hZ.thawed 5
  have g6 := hZ.thawed 6
  have g7 := hZ.thawed 7
  have g8 := hZ.thawed 8
  have g9 := hZ.thawed 9
  have g10 := hZ.thawed 10
  have g11 := hZ.thawed 11
  have HT5 := Lib.hid (tabSt_at hZ M.tab)
  have Hb5 := Lib.hid (rowSt_below (g := w.heap.size + 1) (by omega) (tabCells M.tab) 0 _ hb2)
  clear hm1 hZ hb2
  go_wp2_with fail
  change bodyPost _ _ _ _ _ (rowSt w1 (w.heap.size + 1) 0 (tabCells M.tab))
  clear m0 m1 m2 m3 m4 m5 m6 m7 m8 m9 m10 m11 m12 m13 m14 z0 z1 z2 z3 z4 z5 z6 z7 z8 z9 z10 z11 g0 g1 g2 g3 g4 g5 g6 g7 g8 g9 g10 g11
  generalize rowSt w1 (w.heap.size + 1) 0 (tabCells M.tab) = w5 at *
  obtain ⟨⟨a0, a1, a2⟩, ⟨b0, b1, b2⟩, ⟨c0, c1, c2⟩, ⟨d0, d1, d2⟩⟩ := HT5.out.cells
  refine bodyPost_ret (v := .agg (tabCells M.tab).toArray) (by rw [tab_eta]; simp [results, Try.results45, go_sem, a0, a1, a2, b0, b1, b2, c0, c1, c2, d0, d1, d2] <;> rfl) rfl ?_
  exact ⟨rfl, Hb5.out⟩
end Go.Proofs.Ytkngadbeflepoaa
/- Tables of sessions: one is itself. No condition. -/
namespace Go.Proofs.Ytkngadbeflepoaa
open Go.RowKit
theorem infoLast : (Try.prog.info? 63).map (fun i => i.size) = some 3 := by kernel_rfl
theorem last_eql (l : LastV) (d : Nat) (w : World) : (Op.equalIn (d + 3) 63 (.agg (lastCells l).toArray) (.agg (lastCells l).toArray)).run Try.prog w = .ok true w := by
  unfold lastCells
  go_simp
theorem tab_eql (t : TabV) (w : World) : (Op.equalIn 10000 65 (.agg (tabCells t).toArray) (.agg (tabCells t).toArray)).run Try.prog w = .ok true w := by
  obtain ⟨i, hi, hz⟩ : ∃ i, Try.prog.info? 63 = some i ∧ i.size = 3 := by
    have h := infoLast
    cases hc : Try.prog.info? 63 with
    | none => rw [hc] at h; cases h
    | some i => rw [hc] at h; exact ⟨i, rfl, by simpa using h⟩
  rw [run_equalIn_array w 9999 _ _ Try.underlying65 hi]
  rw [show Try.prog.cellsOf 63 = 3 by kernel_rfl, show List.range 4 = [0, 1, 2, 3] from rfl]
  have fa := last_eql t.a 9996 w
  have fb := last_eql t.b 9996 w
  have fc := last_eql t.c 9996 w
  have fd := last_eql t.d 9996 w
  have pt : ∀ (j : Nat) (l : LastV), List.take 3 (List.drop (j * 3) (tabCells t)) = lastCells l → (part 63 (tabCells t).toArray (j * 3)).run Try.prog w = .ok (.agg (lastCells l).toArray) w := fun j l h => by
    simp [part, Sem.run_bind, typeInfo, sizeOf, hi, hz, h]
  have p0 := pt 0 t.a rfl
  have p1 := pt 1 t.b rfl
  have p2 := pt 2 t.c rfl
  have p3 := pt 3 t.d rfl
  simp only [Op.eqItems, Sem.run_bind, p0, fa, Result.andThen_ok]
  simp [Sem.run_bind, p1, p2, p3, fb, fc, fd, Sem.run_pure]
end Go.Proofs.Ytkngadbeflepoaa
