/- Log: the law's known log; LogNil. Condition: the library's variables hold what the program's text lays. -/
import Derived.Test.YtogfladmgbldcaaGreatDoorZLogLasts12
import Derived.Test.YtogfladmgbldcaaGreatDoorZLogLasts1
namespace Go.Proofs.YtogfladmgbldcaaGreatDoor
open Go.RowKit Go.Shelf
theorem row_one {w : World} {base : Nat} {v : Value} {x : Bs} (h : w.ownsRow base 9 1 v 1 (encS [x])) : ∃ g c, v = .slice (some ⟨g, 0, none⟩) 1 c ∧ v.ownBlock = some g ∧ w.cell? ⟨g, 0, none⟩ = some (.string ⟨x.toArray⟩) := by
  obtain ⟨A, c, rfl, Y, h1, h2⟩ := names_row (l := [x]) rfl h
  obtain ⟨g, rfl, h3⟩ := h2 0 x rfl
  exact ⟨g, c, rfl, rfl, h3 w (KeptZ.refl _ _)⟩
/-- A disk with logs, and the library's variables. -/
structure LwV (N p bb : Nat) (K ls : List Nat) (D : DskV) (w : World) : Prop where
  lw : Lw N p bb K ls D w
  pv : PVB N w
  sz : N ≤ w.heap.size
theorem LwV.of {N p bb p' bb' : Nat} {K ls K' ls' : List Nat} {D D' : DskV} {w w' : World} (h : LwV N p bb K ls D w) (h2 : Lw N p' bb' K' ls' D' w') (hb : Below N w w') : LwV N p' bb' K' ls' D' w' := ⟨h2, h.pv.on hb, Nat.le_trans h.sz hb.size⟩
set_option maxRecDepth 100000 in
set_option maxHeartbeats 16000000 in
theorem wakes05_any (w : World) (hv0 : PV w) : Calls Tryz.prog 31 #[] w fun e w' => e = .returned (.bool true) ∧ Below w.heap.size w w' := by
  obtain ⟨N, hN⟩ : ∃ N, N = w.heap.size := ⟨_, rfl⟩
  have hv : PVB N w := by rw [hN]; exact PVB.of hv0
  have hN0 : N ≤ w.heap.size := by omega
  rw [← hN]
  clear hN hv0
  obtain ⟨D2, D3, D4, D5, D7, V⟩ := wakes5
  have hA2 : laddD D2 [] = (D2, 6) := by unfold laddD; rw [if_pos (fun q => absurd q.1 (by decide))]
  have Hnew := Lib.hid (fun (y : World) (hy : N ≤ y.heap.size) => lw_new N y hy)
  have Hop1 := Lib.hid (fun (p bb : Nat) (y : World) (h : LwV N p bb [] [] dsk0 y) => (show Calls Tryz.prog 26 #[.pointer (some ⟨p, 0, none⟩)] y (fun e w' => ∃ l a c q, e = .returned (.tuple #[.pointer (some ⟨l, 0, none⟩), .slice a 0 c, .int .i64 0]) ∧ LwV N p bb [l, q] [l] dsk0 w' ∧ Below N y w') from (lw_open h.sz h.pv (by decide) h.lw rfl (LgT.good (s := 0) (c := 0) (.inl ⟨lg00, rfl, rfl⟩)).1 (by rw [lg0_open lg00])).mono (by
    rintro e w' ⟨l, v, q, rfl, h2, ho, _, hb⟩
    rw [lg0_open lg00] at h2
    obtain ⟨a, c, rfl⟩ := own_slice_of ho
    exact ⟨l, a, c, q, rfl, h.of h2 hb.bel, hb.bel⟩)))
  have Had := Lib.hid (fun (l q p bb : Nat) (y : World) (h : LwV N p bb [l, q] [l] dsk0 y) => (show Calls Tryz.prog 27 #[.pointer (some ⟨l, 0, none⟩), .string ⟨#[97]⟩] y (fun e w' => e = .returned (.int .i64 0) ∧ LwV N p bb [l, q] [l] D2 w' ∧ Below N y w') from by
    have h2 := lw_add (l := l) (by simp) h.sz h.pv (by decide) (fun x hx => by cases hx) ⟨#[97]⟩ (by decide) h.lw
    rw [show (⟨#[97]⟩ : ByteArray).data.toList = [97] from rfl, V.e2] at h2
    exact h2.mono (by rintro e w' ⟨rfl, h3, hb⟩; exact ⟨rfl, h.of h3 hb.bel, hb.bel⟩)))
  have Ha2 := Lib.hid (fun (l q p bb : Nat) (y : World) (h : LwV N p bb [l, q] [l] D2 y) => (show Calls Tryz.prog 27 #[.pointer (some ⟨l, 0, none⟩), .string ⟨#[]⟩] y (fun e w' => e = .returned (.int .i64 6) ∧ LwV N p bb [l, q] [l] D2 w' ∧ Below N y w') from by
    have h2 := lw_add (l := l) (by simp) h.sz h.pv (by have := V.g2.flen; omega) (fun x hx => Nat.le_trans (V.g2.nums x hx) (by decide)) ⟨#[]⟩ (by decide) h.lw
    rw [show (⟨#[]⟩ : ByteArray).data.toList = [] from rfl, hA2] at h2
    exact h2.mono (by rintro e w' ⟨rfl, h3, hb⟩; exact ⟨rfl, h.of h3 hb.bel, hb.bel⟩)))
  have Hsy := Lib.hid (fun (l q p bb : Nat) (y : World) (h : LwV N p bb [l, q] [l] D2 y) => (show Calls Tryz.prog 28 #[.pointer (some ⟨l, 0, none⟩)] y (fun e w' => e = .returned (.int .i64 0) ∧ LwV N p bb [l, q] [l] D3 w' ∧ Below N y w') from by
    have h2 := lw_sync (l := l) (by simp) h.sz h.pv (by have := V.g2.flen; omega) h.lw
    rw [V.e3] at h2
    exact h2.mono (by rintro e w' ⟨rfl, h3, hb⟩; exact ⟨rfl, h.of h3 hb.bel, hb.bel⟩)))
  have Hap := Lib.hid (fun (l q p bb : Nat) (y : World) (h : LwV N p bb [l, q] [l] D3 y) => (show Calls Tryz.prog 18 #[.pointer (some ⟨p, 0, none⟩), .string ⟨#[115, 48, 48, 48, 48, 48, 48, 48, 49]⟩, .string ⟨#[5, 120]⟩] y (fun e w' => e = .returned (.int .i64 0) ∧ LwV N p bb [l, q] [l] D4 w' ∧ Below N y w') from by
    have h2 := lw_act (R := appD D3 (sname 1) [5, 120]) (f := 18) (args := #[.pointer (some ⟨p, 0, none⟩), .string ⟨#[115, 48, 48, 48, 48, 48, 48, 48, 49]⟩, .string ⟨#[5, 120]⟩]) h.sz h.lw (fun n C L hd hlt => by
      have h3 := append_any ⟨#[115, 48, 48, 48, 48, 48, 48, 48, 49]⟩ ⟨#[5, 120]⟩ (by decide) (by decide) y hd hlt
      rw [sname1]
      exact h3)
    rw [V.e4] at h2
    exact h2.mono (by rintro e w' ⟨rfl, h3, hb⟩; exact ⟨rfl, h.of h3 hb.bel, hb.bel⟩)))
  have Hop2 := Lib.hid (fun (l q p bb : Nat) (y : World) (h : LwV N p bb [l, q] [l] D4 y) => (show Calls Tryz.prog 26 #[.pointer (some ⟨p, 0, none⟩)] y (fun e w' => ∃ l2 g c, e = .returned (.tuple #[.pointer (some ⟨l2, 0, none⟩), .slice (some ⟨g, 0, none⟩) 1 c, .int .i64 0]) ∧ LwV N p bb [l2, g, l, q] [l2, l] D5 w' ∧ Below N y w' ∧ w'.cell? ⟨g, 0, none⟩ = some (.string ⟨#[97]⟩)) from by
    have hgd : LgT D4 [[97]] 1 1 := .inr ⟨1, [], [[97]], [5, 120], 1, V.g4, rfl, rfl, by decide⟩
    refine (lw_open h.sz h.pv (by have := V.g4.flen; omega) h.lw V.d4 hgd.good.1 (by rw [V.e5])).mono ?_
    rintro e w' ⟨l2, v, q2, rfl, h2, ho, hob, hb⟩
    rw [hgd.good.2] at ho
    rw [V.e5] at h2
    obtain ⟨g, c, rfl, hvb, hc⟩ := row_one ho
    have hgq := hob g hvb
    subst hgq
    exact ⟨l2, g, c, rfl, h.of h2 hb.bel, hb.bel, hc⟩))
  have Hre := Lib.hid (fun (l2 g0 l q p bb g c : Nat) (y : World) (h : LwV N p bb [l2, g0, l, q] [l2, l] D5 y) (hst : StrS y (.slice (some ⟨g, 0, none⟩) 1 c) [[98]]) => (show Calls Tryz.prog 29 #[.pointer (some ⟨l, 0, none⟩), .slice (some ⟨g, 0, none⟩) 1 c] y (fun e w' => e = .returned (.int .i64 0) ∧ LwV N p bb [l2, g0, l, q] [l2, l] D7 w' ∧ Hd N [l2, g0, l, q] y w') from by
    have h2 := lw_renew (l := l) (by simp) h.sz h.pv (by have := V.g5.flen; omega) (fun x hx => Nat.le_trans (V.g5.nums x hx) (by decide)) [[98]] (oks1 98) (by rw [frsL_one, frL1_len]; decide) _ hst V.r7 h.lw
    rw [V.e7] at h2
    exact h2.mono (by rintro e w' ⟨rfl, h3, hb⟩; exact ⟨rfl, h.of h3 hb.bel, hb⟩)))
  have hf7 : D7.fs = [segW 2 [[98]]] := by rw [V.g7.fs]; show whs 2 [] ++ [lastF (2 + 0) [[98]] [] 1] = _; rw [show (1 : Nat) = ([[98]] : List Bs).length from rfl, lastF_whole]; rfl
  have Hfi := Lib.hid (fun (l2 g0 l q p bb : Nat) (y : World) (h : LwV N p bb [l2, g0, l, q] [l2, l] D7 y) => lw_files (by have := V.g7.flen; omega) h.lw)
  have hs7 : (segL D7.fs).length = 1 := by rw [V.g7.seg]; rfl
  have Hsn := Lib.hid (fun (l2 g0 l q p bb : Nat) (y : World) (h : LwV N p bb [l2, g0, l, q] [l2, l] D7 y) => (show Calls Tryz.prog 30 #[.pointer (some ⟨l, 0, none⟩)] y (fun e w' => e = .returned (.int .i64 1) ∧ Below y.heap.size y w') from by
    have h2 := lw_segs (l := l) (by simp) h.sz h.pv (by have := V.g7.flen; omega) h.lw
    rw [hs7] at h2
    exact h2.mono (by rintro e w' ⟨rfl, h3, hb⟩; exact ⟨rfl, hb⟩)))
  have HF := Lib.hid hf7
  have HW := Lib.hid (And.intro hv hN0)
  clear V hA2 hf7 hs7 hv hN0
  go_enter Tryz.func31, Tryz.ntmps31
  go_upto_region 10 with (first
    | (go_at_call 16; (with_reducible refine (Hnew.out _ HW.out.2).mono ?_); rintro e w1 ⟨p, bb, rfl, hd, hb⟩; have H1 := Lib.hid (LwV.mk hd (HW.out.1.on hb) (Nat.le_trans HW.out.2 hb.size)); have HB1 := Lib.hid hb; clear hd hb)
    | (go_at_call 26; (with_reducible refine (Hop1.out p bb _ H1.out).mono ?_); rintro e w2 ⟨l, a, c, q, rfl, hd, hb⟩; have H2 := Lib.hid hd; have HB2 := Lib.hid (HB1.out.trans hb); clear hd hb)
    | (go_at_call 27; (with_reducible refine (Had.out l q p bb _ H2.out).mono ?_); rintro e w3 ⟨rfl, hd, hb⟩; have H3 := Lib.hid hd; have HB3 := Lib.hid (HB2.out.trans hb); clear hd hb)
    | (go_at_call 27; (with_reducible refine (Ha2.out l q p bb _ H3.out).mono ?_); rintro e w4 ⟨rfl, hd, hb⟩; have H4 := Lib.hid hd; have HB4 := Lib.hid (HB3.out.trans hb); clear hd hb)
    | (go_at_call 28; (with_reducible refine (Hsy.out l q p bb _ H4.out).mono ?_); rintro e w5 ⟨rfl, hd, hb⟩; have H5 := Lib.hid hd; have HB5 := Lib.hid (HB4.out.trans hb); clear hd hb)
    | (go_at_call 18; (with_reducible refine (Hap.out l q p bb _ H5.out).mono ?_); rintro e w6 ⟨rfl, hd, hb⟩; have H6 := Lib.hid hd; have HB6 := Lib.hid (HB5.out.trans hb); clear hd hb)
    | (go_at_call 26; (with_reducible refine (Hop2.out l q p bb _ H6.out).mono ?_); rintro e w7 ⟨l2, g0, c0, rfl, hd, hb, hc⟩; have H7 := Lib.hid (And.intro hd hc); have HB7 := Lib.hid (HB6.out.trans hb); clear hd hb hc)
    | (go_at_call 29; have hbA := (Below.refl w7.heap.size w7).alloc (Nat.le_refl _) (.cells #[.string ⟨#[98]⟩] 9)
       have hst : StrS (w7.alloc (.cells #[.string ⟨#[98]⟩] 9)) (.slice (some ⟨w7.heap.size, 0, none⟩) 1 1) [[98]] := ⟨_, 1, rfl, fun i x hx => by
         have hi := (List.getElem?_eq_some_iff.1 hx).1
         simp at hi
         subst hi
         cases hx
         exact ⟨_, 0, rfl, by simp, cell_of_row _ _ 0 _ _ _ (heap_alloc_new w7 _)⟩⟩
       have hA : LwV N p bb [l2, g0, l, q] [l2, l] D5 (w7.alloc (.cells #[.string ⟨#[98]⟩] 9)) := H7.out.1.of (H7.out.1.lw.below hbA) (hbA.mono H7.out.1.sz)
       (with_reducible refine (Hre.out l2 g0 l q p bb _ _ _ hA hst).mono ?_); rintro e w8 ⟨rfl, hd, hb⟩
       have hc8 := (World.cell?_of_block (a := ⟨g0, 0, none⟩) (hb.keep g0 (by simp))).trans ((World.cell?_of_block (hbA.block g0 (cell_lt H7.out.2))).trans H7.out.2)
       have H8 := Lib.hid (And.intro hd hc8); have HB8 := Lib.hid (HB7.out.trans ((hbA.mono H7.out.1.sz).trans hb.bel)); clear hd hb hbA hst hA hc8)
    | (go_at_call 19; (with_reducible refine (Hfi.out l2 g0 l q p bb _ H8.out.1).mono ?_); rintro e w9 ⟨v, rfl, ho, hb⟩; obtain ⟨gf, cf, rfl, hgf, hcf⟩ := one_file HF.out ho; have HC9 := Lib.hid hcf; have H9 := Lib.hid (And.intro (H8.out.1.of (H8.out.1.lw.below hb) (hb.mono H8.out.1.sz)) ((World.cell?_of_block (a := ⟨g0, 0, none⟩) (hb.block g0 (cell_lt H8.out.2))).trans H8.out.2)); have HB9 := Lib.hid (HB8.out.trans (hb.mono H8.out.1.sz)); clear ho hb hgf hcf))
  obtain ⟨k0, k1, k2⟩ := HC9.out w9 (Below.refl _ _)
  have c0' := H9.out.2
  rw [show (segW 2 [[98]]).nm = _ from sname2] at k0
  rw [show (((segW 2 [[98]]).sy : Nat) : Int) = 10 from by show (((frsL [[98]]).length : Nat) : Int) = 10; rw [frsL_one, frL1_len]; rfl] at k2
  go_wp2_with (go_at_call 30; (with_reducible refine (Hsn.out l2 g0 l q p bb _ H9.out.1).mono ?_); rintro e w10 ⟨rfl, hb⟩; have HB10 := Lib.hid (HB9.out.trans (hb.mono H9.out.1.sz)); clear hb)
  go_ret
  exact ⟨rfl, HB10.out⟩
end Go.Proofs.YtogfladmgbldcaaGreatDoor
namespace Go.Proofs.YtogfladmgbldcaaGreatDoor
open Go.ChangeShapes Go.WideShapes Go.Deep Go.RowKit Go.Shelf
/-- An append behind a guard that says yes. Over any program. -/
theorem wpList_append_grd {P : Program} {w : World} {ops : Array Oper} {rest : List Oper} {o : Oper} {a : Act} {Q : Exit → Act → World → Prop} (s x : Operand) (t : TypeId)
    (ho : o.op = .call { callee := .builtin .append, args := #[s, x], argTypes := #[t, t] }) (hw : Region.wanted o (yielded ops a.tmps) = true)
    (base : Nat) (e : TypeId) (i : TypeInfo) (z : Value) (size bytes : Nat) (ht : P.underlying t = some (.slice e)) (hi : P.info? e = some i) (hz : i.zero = some z)
    (hsize : i.size = size) (hby : i.bytes = bytes) (hzs : z.cells.size = size) (hsz : 0 < size)
    (v : Value) (n : Nat) (xs : List Value) (hs : a.eval s = v) (hown : w.ownsRow base e size v n xs)
    (V : Value) (m : Nat) (news : List Value) (hx : a.eval x = V) (hl : news.length = m * size)
    (hV : (V = .slice none 0 0 ∧ m = 0) ∨ ∃ ad c, V = .slice (some ad) m c ∧ ∀ j u, news[j]? = some u → w.cell? (ad.add j) = some u) (h1 : ∀ u ∈ news, u.oneCell' = true)
    (h63 : n + m ≤ maxLen) (hbytes : (n + m) * bytes ≤ 140737488355328) (hbase : base ≤ w.heap.size)
    (h : ∀ v' w', w'.ownsRow base e size v' (n + m) (xs ++ news) → w.grownBy w' v.ownBlock → wpList P ops Q rest (a.put o.dst v') w') :
    wpList P ops Q (o :: rest) a w := by
  refine BigFrame.wpList_want hw fun _ hK => ?_
  rcases hV with ⟨rfl, rfl⟩ | ⟨ad, c, rfl, hc⟩
  · have h0 : news = [] := List.length_eq_zero_iff.1 (by omega)
    subst h0
    have hrun := run_append_owned_none (P := P) (w := w) base t o.type e i size ht hi v n xs hown
    unfold Oper.wp
    simp [execOp, ho, resolve, invoke, builtin, hs, hx, hrun, Result.andThen]
    exact hK _ _ (h v w (by simpa using hown) ⟨rfl, rfl, rfl, Nat.le_refl _, fun _ _ _ => rfl⟩)
  · obtain ⟨v', w', hr, h2, h3, h4, h5⟩ := run_append_own_at (P := P) w base t o.type e i z size bytes ht hi hz hsize hby hzs hsz v n xs hown ad m c news hl hc h1 h63 hbytes hbase
    unfold Oper.wp execOp
    simp only [ho, resolve, invoke, builtin, Sem.run_bind, Sem.run_pure, Result.andThen_ok, List.map_toArray, List.map_cons, List.map_nil, hs, hx, hr]
    exact hK _ _ (h v' w' h2 h3)
/-- A row of texts that lies in a block of its own. -/
structure GotR (B q : Nat) (v : Value) (X : List Bs) (w : World) : Prop where
  own : w.ownsRow B 9 1 v X.length (encS X)
  blk : ∀ g, v.ownBlock = some g → g = q
theorem GotR.str {B q : Nat} {v : Value} {X : List Bs} {w : World} (h : GotR B q v X w) : StrS w v X := strS_own h.own
theorem GotR.below {B q : Nat} {v : Value} {X : List Bs} {w w' : World} (h : GotR B q v X w) (hb : Below w.heap.size w w') : GotR B q v X w' := ⟨own_stay h.own (fun k _ _ hl => hb.block k hl), h.blk⟩
theorem GotR.hd {N B q : Nat} {K : List Nat} {v : Value} {X : List Bs} {w w' : World} (h : GotR B q v X w) (hh : Hd N K w w') (hq : q ∈ K) : GotR B q v X w' := ⟨own_stay h.own (fun k hk _ _ => by rw [h.blk k hk]; exact hh.keep q hq), h.blk⟩
section
variable {N p bb : Nat} {K ls : List Nat} {D D' : DskV} {w : World} {X : List Bs} {s c k : Nat}
theorem LwV.below {w' : World} (h : LwV N p bb K ls D w) (hb : Below w.heap.size w w') : LwV N p bb K ls D w' := h.of (h.lw.below hb) (hb.mono h.sz)
theorem lo_open (h : LwV N p bb K ls D w) (hg : LgT D X s c) (hd : D.dead = false) :
    Calls Tryz.prog 26 #[.pointer (some ⟨p, 0, none⟩)] w fun e w' => ∃ l v q D', e = .returned (.tuple #[.pointer (some ⟨l, 0, none⟩), v, .int .i64 0]) ∧ LwV N p bb (l :: q :: K) (l :: ls) D' w' ∧ LgS D' X X.length c ∧ D'.dead = false ∧ D'.fuse = D.fuse ∧ GotR w.heap.size q v X w' ∧ Hd N K w w' := by
  obtain ⟨D', e1, e2, e3, e4⟩ := lgt_open hg hd
  refine (lw_open h.sz h.pv (by have := hg.names.2; omega) h.lw hd hg.good.1 (by rw [e1])).mono ?_
  rintro e w' ⟨l, v, q, rfl, h2, ho, hob, hb⟩
  rw [hg.good.2] at ho
  rw [e1] at h2
  exact ⟨l, v, q, D', rfl, h.of h2 hb.bel, e2, e3, e4, ⟨ho, hob⟩, hb⟩
theorem lo_add {l : Nat} (hl : l ∈ ls) (h : LwV N p bb K ls D w) (hg : LgT D X s c) (hc : c ≤ 200) (x : ByteArray) (hx : x.size ≤ 1000000) (he : laddD D x.data.toList = (D', k)) :
    Calls Tryz.prog 27 #[.pointer (some ⟨l, 0, none⟩), .string x] w fun e w' => e = .returned (.int .i64 (k : Int)) ∧ LwV N p bb K ls D' w' ∧ Hd N K w w' := by
  have h2 := lw_add hl h.sz h.pv (by have := hg.names.2; omega) (hg.nums hc) x hx h.lw
  rw [he] at h2
  refine h2.mono ?_
  rintro e w' ⟨rfl, h3, hb⟩
  exact ⟨rfl, h.of h3 hb.bel, hb⟩
theorem lo_sync {l : Nat} (hl : l ∈ ls) (h : LwV N p bb K ls D w) (hg : LgT D X s c) (he : lsyncD D = (D', k)) :
    Calls Tryz.prog 28 #[.pointer (some ⟨l, 0, none⟩)] w fun e w' => e = .returned (.int .i64 (k : Int)) ∧ LwV N p bb K ls D' w' ∧ Hd N K w w' := by
  have h2 := lw_sync hl h.sz h.pv (by have := hg.names.2; omega) h.lw
  rw [he] at h2
  refine h2.mono ?_
  rintro e w' ⟨rfl, h3, hb⟩
  exact ⟨rfl, h.of h3 hb.bel, hb⟩
theorem lo_fuse (h : LwV N p bb K ls D w) (hd : D.dead = false) (m : Int) (hm : m ≤ 9223372036854775807) :
    Calls Tryz.prog 21 #[.pointer (some ⟨p, 0, none⟩), .int .i64 m] w fun e w' => ∃ D', e = .returned (.int .i64 0) ∧ D'.fs = D.fs ∧ D'.room = D.room ∧ D'.dead = false ∧ LwV N p bb K ls D' w' ∧ Hd N K w w' := by
  have h2 := lw_act (R := fuseD D m) (f := 21) (args := #[.pointer (some ⟨p, 0, none⟩), .int .i64 m]) h.sz h.lw (fun n C L h1 hl => fuse_any m hm w h1 hl)
  refine h2.mono ?_
  have e2 : fuseD D m = ({ D with fuse := if m < 0 then none else some m.toNat }, 0) := by unfold fuseD; rw [if_neg (by rw [hd]; simp)]
  rintro e w' ⟨rfl, h3, hb⟩
  rw [e2] at h3 ⊢
  exact ⟨{ D with fuse := if m < 0 then none else some m.toNat }, rfl, rfl, rfl, hd, h.of h3 hb.bel, hb⟩
theorem lo_crash (h : LwV N p bb K ls D w) (hg : LgS D X s c) (hd : D.dead = false) (m : Int) (hm : m ≤ 9223372036854775807) :
    Calls Tryz.prog 23 #[.pointer (some ⟨p, 0, none⟩), .int .i64 m] w fun e w' => ∃ D' X', e = .returned (.int .i64 0) ∧ LgT D' X' s c ∧ X' <+: X ∧ s ≤ X'.length ∧ D'.dead = true ∧ D'.fuse = none ∧ LwV N p bb K ls D' w' ∧ Hd N K w w' := by
  obtain ⟨D', X', e1, e2, e3, e4, e5, e6⟩ := lgs_crash hg hd m h.lw.syn
  have h2 := lw_act (R := crashD D m) (f := 23) (args := #[.pointer (some ⟨p, 0, none⟩), .int .i64 m]) h.sz h.lw (fun n C L h1 hl => crash_any m hm (by have := hg.t.names.2; omega) w h1 hl)
  rw [e1] at h2
  refine h2.mono ?_
  rintro e w' ⟨rfl, h3, hb⟩
  exact ⟨D', X', rfl, e2, e3, e4, e5, e6, h.of h3 hb.bel, hb⟩
theorem lo_start (h : LwV N p bb K ls D w) :
    Calls Tryz.prog 24 #[.pointer (some ⟨p, 0, none⟩)] w fun e w' => e = .returned (.int .i64 0) ∧ LwV N p bb K ls { D with dead := false } w' ∧ Hd N K w w' := by
  refine (lw_start h.sz h.lw).mono ?_
  rintro e w' ⟨rfl, h3, hb⟩
  exact ⟨rfl, h.of h3 hb.bel, hb⟩
theorem lo_new (N : Nat) (w : World) (hv : PVB N w) (hN : N ≤ w.heap.size) : Calls Tryz.prog 16 #[] w fun e w' => ∃ p bb, e = .returned (.pointer (some ⟨p, 0, none⟩)) ∧ LwV N p bb [] [] dsk0 w' ∧ Below N w w' := by
  refine (lw_new N w hN).mono ?_
  rintro e w' ⟨p, bb, rfl, h, hb⟩
  exact ⟨p, bb, rfl, ⟨h, hv.on hb, Nat.le_trans hN hb.size⟩, hb⟩
end
/-- A row of texts, as an argument. -/
structure TxsIn (w : World) (a : Option Addr) (len cap : Nat) (z : List ByteArray) : Prop where
  at_ : SliceAt 1 (fun s : ByteArray => [Value.string s]) w a len z
  cap : len ≤ cap
theorem txs_open {H : Type} {enc : TypeId × Value → H} {w : World} {base : Nat} {spare : Nat → Bool} {held : Bool} {a : Option Addr} {len cap : Nat} {d : DataW H} {pl : List MemPlace}
    (h : DataW.Trod enc Tryz.prog w base spare held 52 (.slice a len cap) d pl) : ∃ z : List ByteArray, TxsIn w a len cap z := by
  obtain ⟨z, hz⟩ := ones_open (P := Tryz.prog) (fun s : ByteArray => Value.string s) Tryz.underlying52 (by kernel_rfl) (fun v y n hv => by
    obtain ⟨m, q, _, _⟩ := DataW.trod_string Tryz.underlying9 hv
    simp only [List.cons.injEq, and_true] at q
    exact ⟨m, q⟩) h
  refine ⟨z, hz, ?_⟩
  obtain ⟨m, hm⟩ := h
  rcases open_slice Tryz.underlying52 hm with ⟨h0, _⟩ | ⟨_, len', cap', _, _, _, _, h0, _, hl, _⟩
  · have h0' : [Value.slice a len cap] = [Value.slice none 0 0] := h0
    simp only [List.cons.injEq, Value.slice.injEq, and_true] at h0'
    omega
  · have h0' : [Value.slice a len cap] = [Value.slice _ len' cap'] := h0
    simp only [List.cons.injEq, Value.slice.injEq, and_true] at h0'
    omega
theorem str_back5 (x : ByteArray) : (⟨x.data.toList.toArray⟩ : ByteArray) = x := by cases x; simp
/-- Each of its texts, and each beginning of it. -/
theorem TxsIn.str {w : World} {a : Option Addr} {len cap : Nat} {z : List ByteArray} (h : TxsIn w a len cap z) : (z.map (fun x => x.data.toList)).length = len ∧ ∀ i x, (z.map (fun x => x.data.toList))[i]? = some x → ∃ b o, a = some ⟨b, o, none⟩ ∧ b < w.heap.size ∧ w.cell? ⟨b, o + i, none⟩ = some (.string ⟨x.toArray⟩) := by
  refine ⟨by rw [List.length_map]; exact h.at_.hlen, fun i x hx => ?_⟩
  rw [List.getElem?_map] at hx
  cases hz : z[i]? with
  | none => rw [hz] at hx; cases hx
  | some y =>
    rw [hz] at hx
    cases hx
    obtain ⟨b, o, h1, h2, h3⟩ := h.at_.cells i y hz
    refine ⟨b, o, h1, h2, ?_⟩
    have h4 := h3 0 _ rfl
    rw [str_back5]
    rwa [show o + (i * 1 + 0) = o + i by omega] at h4
end Go.Proofs.YtogfladmgbldcaaGreatDoor
