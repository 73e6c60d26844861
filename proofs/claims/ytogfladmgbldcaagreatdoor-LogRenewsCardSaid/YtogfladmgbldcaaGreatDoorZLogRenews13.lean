/- Log: the law's known log; LogNil. Condition: the library's variables hold what the program's text lays. -/
import Derived.Test.YtogfladmgbldcaaGreatDoorZLogRenews12
import Derived.Test.YtogfladmgbldcaaGreatDoorZLogRenews1
namespace Go.Proofs.YtogfladmgbldcaaGreatDoor
open Go.RowKit Go.Shelf
theorem row_one {w : World} {base : Nat} {v : Value} {x : Bs} (h : w.ownsRow base 9 1 v 1 (encS [x])) : ∃ g c, v = .slice (some ⟨g, 0, none⟩) 1 c ∧ v.ownBlock = some g ∧ w.cell? ⟨g, 0, none⟩ = some (.string ⟨x.toArray⟩) := by
  obtain ⟨A, c, rfl, Y, h1, h2⟩ := names_row (l := [x]) rfl h
  obtain ⟨g, rfl, h3⟩ := h2 0 x rfl
  exact ⟨g, c, rfl, rfl, h3 w (KeptZ.refl _ _)⟩
/-- A disk with logs, and the library's variables. -/
structure LwV (N p bb : Nat) (K ls : List Nat) (D : DskV) (w : World) : Prop where
  lw : Lw N p bb K ls D w
  pv : PVB N w
  sz : N ≤ w.heap.size
theorem LwV.of {N p bb p' bb' : Nat} {K ls K' ls' : List Nat} {D D' : DskV} {w w' : World} (h : LwV N p bb K ls D w) (h2 : Lw N p' bb' K' ls' D' w') (hb : Below N w w') : LwV N p' bb' K' ls' D' w' := ⟨h2, h.pv.on hb, Nat.le_trans h.sz hb.size⟩
set_option maxRecDepth 100000 in
set_option maxHeartbeats 16000000 in
theorem wakes05_any (w : World) (hv0 : PV w) : Calls Tryz.prog 31 #[] w fun e w' => e = .returned (.bool true) ∧ Below w.heap.size w w' := by
  obtain ⟨N, hN⟩ : ∃ N, N = w.heap.size := ⟨_, rfl⟩
  have hv : PVB N w := by rw [hN]; exact PVB.of hv0
  have hN0 : N ≤ w.heap.size := by omega
  rw [← hN]
  clear hN hv0
  obtain ⟨D2, D3, D4, D5, D7, V⟩ := wakes5
  have hA2 : laddD D2 [] = (D2, 6) := by unfold laddD; rw [if_pos (fun q => absurd q.1 (by decide))]
  have Hnew := Lib.hid (fun (y : World) (hy : N ≤ y.heap.size) => lw_new N y hy)
  have Hop1 := Lib.hid (fun (p bb : Nat) (y : World) (h : LwV N p bb [] [] dsk0 y) => (show Calls Tryz.prog 26 #[.pointer (some ⟨p, 0, none⟩)] y (fun e w' => ∃ l a c q, e = .returned (.tuple #[.pointer (some ⟨l, 0, none⟩), .slice a 0 c, .int .i64 0]) ∧ LwV N p bb [l, q] [l] dsk0 w' ∧ Below N y w') from (lw_open h.sz h.pv (by decide) h.lw rfl (LgT.good (s := 0) (c := 0) (.inl ⟨lg00, rfl, rfl⟩)).1 (by rw [lg0_open lg00])).mono (by
    rintro e w' ⟨l, v, q, rfl, h2, ho, _, hb⟩
    rw [lg0_open lg00] at h2
    obtain ⟨a, c, rfl⟩ := own_slice_of ho
    exact ⟨l, a, c, q, rfl, h.of h2 hb.bel, hb.bel⟩)))
  have Had := Lib.hid (fun (l q p bb : Nat) (y : World) (h : LwV N p bb [l, q] [l] dsk0 y) => (show Calls Tryz.prog 27 #[.pointer (some ⟨l, 0, none⟩), .string ⟨#[97]⟩] y (fun e w' => e = .returned (.int .i64 0) ∧ LwV N p bb [l, q] [l] D2 w' ∧ Below N y w') from by
    have h2 := lw_add (l := l) (by simp) h.sz h.pv (by decide) (fun x hx => by cases hx) ⟨#[97]⟩ (by decide) h.lw
    rw [show (⟨#[97]⟩ : ByteArray).data.toList = [97] from rfl, V.e2] at h2
    exact h2.mono (by rintro e w' ⟨rfl, h3, hb⟩; exact ⟨rfl, h.of h3 hb.bel, hb.bel⟩)))
  have Ha2 := Lib.hid (fun (l q p bb : Nat) (y : World) (h : LwV N p bb [l, q] [l] D2 y) => (show Calls Tryz.prog 27 #[.pointer (some ⟨l, 0, none⟩), .string ⟨#[]⟩] y (fun e w' => e = .returned (.int .i64 6) ∧ LwV N p bb [l, q] [l] D2 w' ∧ Below N y w') from by
    have h2 := lw_add (l := l) (by simp) h.sz h.pv (by have := V.g2.flen; omega) (fun x hx => Nat.le_trans (V.g2.nums x hx) (by decide)) ⟨#[]⟩ (by decide) h.lw
    rw [show (⟨#[]⟩ : ByteArray).data.toList = [] from rfl, hA2] at h2
    exact h2.mono (by rintro e w' ⟨rfl, h3, hb⟩; exact ⟨rfl, h.of h3 hb.bel, hb.bel⟩)))
  have Hsy := Lib.hid (fun (l q p bb : Nat) (y : World) (h : LwV N p bb [l, q] [l] D2 y) => (show Calls Tryz.prog 28 #[.pointer (some ⟨l, 0, none⟩)] y (fun e w' => e = .returned (.int .i64 0) ∧ LwV N p bb [l, q] [l] D3 w' ∧ Below N y w') from by
    have h2 := lw_sync (l := l) (by simp) h.sz h.pv (by have := V.g2.flen; omega) h.lw
    rw [V.e3] at h2
    exact h2.mono (by rintro e w' ⟨rfl, h3, hb⟩; exact ⟨rfl, h.of h3 hb.bel, hb.bel⟩)))
  have Hap := Lib.hid (fun (l q p bb : Nat) (y : World) (h : LwV N p bb [l, q] [l] D3 y) => (show Calls Tryz.prog 18 #[.pointer (some ⟨p, 0, none⟩), .string ⟨#[115, 48, 48, 48, 48, 48, 48, 48, 49]⟩, .string ⟨#[5, 120]⟩] y (fun e w' => e = .returned (.int .i64 0) ∧ LwV N p bb [l, q] [l] D4 w' ∧ Below N y w') from by
    have h2 := lw_act (R := appD D3 (sname 1) [5, 120]) (f := 18) (args := #[.pointer (some ⟨p, 0, none⟩), .string ⟨#[115, 48, 48, 48, 48, 48, 48, 48, 49]⟩, .string ⟨#[5, 120]⟩]) h.sz h.lw (fun n C L hd hlt => by
      have h3 := append_any ⟨#[115, 48, 48, 48, 48, 48, 48, 48, 49]⟩ ⟨#[5, 120]⟩ (by decide) (by decide) y hd hlt
      rw [sname1]
      exact h3)
    rw [V.e4] at h2
    exact h2.mono (by rintro e w' ⟨rfl, h3, hb⟩; exact ⟨rfl, h.of h3 hb.bel, hb.bel⟩)))
  have Hop2 := Lib.hid (fun (l q p bb : Nat) (y : World) (h : LwV N p bb [l, q] [l] D4 y) => (show Calls Tryz.prog 26 #[.pointer (some ⟨p, 0, none⟩)] y (fun e w' => ∃ l2 g c, e = .returned (.tuple #[.pointer (some ⟨l2, 0, none⟩), .slice (some ⟨g, 0, none⟩) 1 c, .int .i64 0]) ∧ LwV N p bb [l2, g, l, q] [l2, l] D5 w' ∧ Below N y w' ∧ w'.cell? ⟨g, 0, none⟩ = some (.string ⟨#[97]⟩)) from by
    have hgd : LgT D4 [[97]] 1 1 := .inr ⟨1, [], [[97]], [5, 120], 1, V.g4, rfl, rfl, by decide⟩
    refine (lw_open h.sz h.pv (by have := V.g4.flen; omega) h.lw V.d4 hgd.good.1 (by rw [V.e5])).mono ?_
    rintro e w' ⟨l2, v, q2, rfl, h2, ho, hob, hb⟩
    rw [hgd.good.2] at ho
    rw [V.e5] at h2
    obtain ⟨g, c, rfl, hvb, hc⟩ := row_one ho
    have hgq := hob g hvb
    subst hgq
    exact ⟨l2, g, c, rfl, h.of h2 hb.bel, hb.bel, hc⟩))
  have Hre := Lib.hid (fun (l2 g0 l q p bb g c : Nat) (y : World) (h : LwV N p bb [l2, g0, l, q] [l2, l] D5 y) (hst : StrS y (.slice (some ⟨g, 0, none⟩) 1 c) [[98]]) => (show Calls Tryz.prog 29 #[.pointer (some ⟨l, 0, none⟩), .slice (some ⟨g, 0, none⟩) 1 c] y (fun e w' => e = .returned (.int .i64 0) ∧ LwV N p bb [l2, g0, l, q] [l2, l] D7 w' ∧ Hd N [l2, g0, l, q] y w') from by
    have h2 := lw_renew (l := l) (by simp) h.sz h.pv (by have := V.g5.flen; omega) (fun x hx => Nat.le_trans (V.g5.nums x hx) (by decide)) [[98]] (oks1 98) (by rw [frsL_one, frL1_len]; decide) _ hst V.r7 h.lw
    rw [V.e7] at h2
    exact h2.mono (by rintro e w' ⟨rfl, h3, hb⟩; exact ⟨rfl, h.of h3 hb.bel, hb⟩)))
  have hf7 : D7.fs = [segW 2 [[98]]] := by rw [V.g7.fs]; show whs 2 [] ++ [lastF (2 + 0) [[98]] [] 1] = _; rw [show (1 : Nat) = ([[98]] : List Bs).length from rfl, lastF_whole]; rfl
  have Hfi := Lib.hid (fun (l2 g0 l q p bb : Nat) (y : World) (h : LwV N p bb [l2, g0, l, q] [l2, l] D7 y) => lw_files (by have := V.g7.flen; omega) h.lw)
  have hs7 : (segL D7.fs).length = 1 := by rw [V.g7.seg]; rfl
  have Hsn := Lib.hid (fun (l2 g0 l q p bb : Nat) (y : World) (h : LwV N p bb [l2, g0, l, q] [l2, l] D7 y) => (show Calls Tryz.prog 30 #[.pointer (some ⟨l, 0, none⟩)] y (fun e w' => e = .returned (.int .i64 1) ∧ Below y.heap.size y w') from by
    have h2 := lw_segs (l := l) (by simp) h.sz h.pv (by have := V.g7.flen; omega) h.lw
    rw [hs7] at h2
    exact h2.mono (by rintro e w' ⟨rfl, h3, hb⟩; exact ⟨rfl, hb⟩)))
  have HF := Lib.hid hf7
  have HW := Lib.hid (And.intro hv hN0)
  clear V hA2 hf7 hs7 hv hN0
  go_enter Tryz.func31, Tryz.ntmps31
  go_upto_region 10 with (first
    | (go_at_call 16; (with_reducible refine (Hnew.out _ HW.out.2).mono ?_); rintro e w1 ⟨p, bb, rfl, hd, hb⟩; have H1 := Lib.hid (LwV.mk hd (HW.out.1.on hb) (Nat.le_trans HW.out.2 hb.size)); have HB1 := Lib.hid hb; clear hd hb)
    | (go_at_call 26; (with_reducible refine (Hop1.out p bb _ H1.out).mono ?_); rintro e w2 ⟨l, a, c, q, rfl, hd, hb⟩; have H2 := Lib.hid hd; have HB2 := Lib.hid (HB1.out.trans hb); clear hd hb)
    | (go_at_call 27; (with_reducible refine (Had.out l q p bb _ H2.out).mono ?_); rintro e w3 ⟨rfl, hd, hb⟩; have H3 := Lib.hid hd; have HB3 := Lib.hid (HB2.out.trans hb); clear hd hb)
    | (go_at_call 27; (with_reducible refine (Ha2.out l q p bb _ H3.out).mono ?_); rintro e w4 ⟨rfl, hd, hb⟩; have H4 := Lib.hid hd; have HB4 := Lib.hid (HB3.out.trans hb); clear hd hb)
    | (go_at_call 28; (with_reducible refine (Hsy.out l q p bb _ H4.out).mono ?_); rintro e w5 ⟨rfl, hd, hb⟩; have H5 := Lib.hid hd; have HB5 := Lib.hid (HB4.out.trans hb); clear hd hb)
    | (go_at_call 18; (with_reducible refine (Hap.out l q p bb _ H5.out).mono ?_); rintro e w6 ⟨rfl, hd, hb⟩; have H6 := Lib.hid hd; have HB6 := Lib.hid (HB5.out.trans hb); clear hd hb)
    | (go_at_call 26; (with_reducible refine (Hop2.out l q p bb _ H6.out).mono ?_); rintro e w7 ⟨l2, g0, c0, rfl, hd, hb, hc⟩; have H7 := Lib.hid (And.intro hd hc); have HB7 := Lib.hid (HB6.out.trans hb); clear hd hb hc)
    | (go_at_call 29; have hbA := (Below.refl w7.heap.size w7).alloc (Nat.le_refl _) (.cells #[.string ⟨#[98]⟩] 9)
       have hst : StrS (w7.alloc (.cells #[.string ⟨#[98]⟩] 9)) (.slice (some ⟨w7.heap.size, 0, none⟩) 1 1) [[98]] := ⟨_, 1, rfl, fun i x hx => by
         have hi := (List.getElem?_eq_some_iff.1 hx).1
         simp at hi
         subst hi
         cases hx
         exact ⟨_, 0, rfl, by simp, cell_of_row _ _ 0 _ _ _ (heap_alloc_new w7 _)⟩⟩
       have hA : LwV N p bb [l2, g0, l, q] [l2, l] D5 (w7.alloc (.cells #[.string ⟨#[98]⟩] 9)) := H7.out.1.of (H7.out.1.lw.below hbA) (hbA.mono H7.out.1.sz)
       (with_reducible refine (Hre.out l2 g0 l q p bb _ _ _ hA hst).mono ?_); rintro e w8 ⟨rfl, hd, hb⟩
       have hc8 := (World.cell?_of_block (a := ⟨g0, 0, none⟩) (hb.keep g0 (by simp))).trans ((World.cell?_of_block (hbA.block g0 (cell_lt H7.out.2))).trans H7.out.2)
       have H8 := Lib.hid (And.intro hd hc8); have HB8 := Lib.hid (HB7.out.trans ((hbA.mono H7.out.1.sz).trans hb.bel)); clear hd hb hbA hst hA hc8)
    | (go_at_call 19; (with_reducible refine (Hfi.out l2 g0 l q p bb _ H8.out.1).mono ?_); rintro e w9 ⟨v, rfl, ho, hb⟩; obtain ⟨gf, cf, rfl, hgf, hcf⟩ := one_file HF.out ho; have HC9 := Lib.hid hcf; have H9 := Lib.hid (And.intro (H8.out.1.of (H8.out.1.lw.below hb) (hb.mono H8.out.1.sz)) ((World.cell?_of_block (a := ⟨g0, 0, none⟩) (hb.block g0 (cell_lt H8.out.2))).trans H8.out.2)); have HB9 := Lib.hid (HB8.out.trans (hb.mono H8.out.1.sz)); clear ho hb hgf hcf))
  obtain ⟨k0, k1, k2⟩ := HC9.out w9 (Below.refl _ _)
  have c0' := H9.out.2
  rw [show (segW 2 [[98]]).nm = _ from sname2] at k0
  rw [show (((segW 2 [[98]]).sy : Nat) : Int) = 10 from by show (((frsL [[98]]).length : Nat) : Int) = 10; rw [frsL_one, frL1_len]; rfl] at k2
  go_wp2_with (go_at_call 30; (with_reducible refine (Hsn.out l2 g0 l q p bb _ H9.out.1).mono ?_); rintro e w10 ⟨rfl, hb⟩; have HB10 := Lib.hid (HB9.out.trans (hb.mono H9.out.1.sz)); clear hb)
  go_ret
  exact ⟨rfl, HB10.out⟩
end Go.Proofs.YtogfladmgbldcaaGreatDoor
namespace Go.Proofs.YtogfladmgbldcaaGreatDoor
open Go.ChangeShapes Go.WideShapes Go.Deep Go.RowKit Go.Shelf
/-- A row of texts that lies in a block of its own. -/
structure GotR (B q : Nat) (v : Value) (X : List Bs) (w : World) : Prop where
  own : w.ownsRow B 9 1 v X.length (encS X)
  blk : ∀ g, v.ownBlock = some g → g = q
theorem GotR.str {B q : Nat} {v : Value} {X : List Bs} {w : World} (h : GotR B q v X w) : StrS w v X := strS_own h.own
theorem GotR.below {B q : Nat} {v : Value} {X : List Bs} {w w' : World} (h : GotR B q v X w) (hb : Below w.heap.size w w') : GotR B q v X w' := ⟨own_stay h.own (fun k _ _ hl => hb.block k hl), h.blk⟩
theorem GotR.hd {N B q : Nat} {K : List Nat} {v : Value} {X : List Bs} {w w' : World} (h : GotR B q v X w) (hh : Hd N K w w') (hq : q ∈ K) : GotR B q v X w' := ⟨own_stay h.own (fun k hk _ _ => by rw [h.blk k hk]; exact hh.keep q hq), h.blk⟩
section
variable {N p bb : Nat} {K ls : List Nat} {D D' : DskV} {w : World} {X : List Bs} {s c k : Nat}
theorem LwV.below {w' : World} (h : LwV N p bb K ls D w) (hb : Below w.heap.size w w') : LwV N p bb K ls D w' := h.of (h.lw.below hb) (hb.mono h.sz)
theorem lo_open (h : LwV N p bb K ls D w) (hg : LgT D X s c) (hd : D.dead = false) :
    Calls Tryz.prog 26 #[.pointer (some ⟨p, 0, none⟩)] w fun e w' => ∃ l v q D', e = .returned (.tuple #[.pointer (some ⟨l, 0, none⟩), v, .int .i64 0]) ∧ LwV N p bb (l :: q :: K) (l :: ls) D' w' ∧ LgS D' X X.length c ∧ D'.dead = false ∧ D'.fuse = D.fuse ∧ GotR w.heap.size q v X w' ∧ Hd N K w w' := by
  obtain ⟨D', e1, e2, e3, e4⟩ := lgt_open hg hd
  refine (lw_open h.sz h.pv (by have := hg.names.2; omega) h.lw hd hg.good.1 (by rw [e1])).mono ?_
  rintro e w' ⟨l, v, q, rfl, h2, ho, hob, hb⟩
  rw [hg.good.2] at ho
  rw [e1] at h2
  exact ⟨l, v, q, D', rfl, h.of h2 hb.bel, e2, e3, e4, ⟨ho, hob⟩, hb⟩
theorem lo_add {l : Nat} (hl : l ∈ ls) (h : LwV N p bb K ls D w) (hg : LgT D X s c) (hc : c ≤ 200) (x : ByteArray) (hx : x.size ≤ 1000000) (he : laddD D x.data.toList = (D', k)) :
    Calls Tryz.prog 27 #[.pointer (some ⟨l, 0, none⟩), .string x] w fun e w' => e = .returned (.int .i64 (k : Int)) ∧ LwV N p bb K ls D' w' ∧ Hd N K w w' := by
  have h2 := lw_add hl h.sz h.pv (by have := hg.names.2; omega) (hg.nums hc) x hx h.lw
  rw [he] at h2
  refine h2.mono ?_
  rintro e w' ⟨rfl, h3, hb⟩
  exact ⟨rfl, h.of h3 hb.bel, hb⟩
theorem lo_sync {l : Nat} (hl : l ∈ ls) (h : LwV N p bb K ls D w) (hg : LgT D X s c) (he : lsyncD D = (D', k)) :
    Calls Tryz.prog 28 #[.pointer (some ⟨l, 0, none⟩)] w fun e w' => e = .returned (.int .i64 (k : Int)) ∧ LwV N p bb K ls D' w' ∧ Hd N K w w' := by
  have h2 := lw_sync hl h.sz h.pv (by have := hg.names.2; omega) h.lw
  rw [he] at h2
  refine h2.mono ?_
  rintro e w' ⟨rfl, h3, hb⟩
  exact ⟨rfl, h.of h3 hb.bel, hb⟩
theorem lo_segs {l : Nat} (hl : l ∈ ls) (h : LwV N p bb K ls D w) (hlen : D.fs.length ≤ 100000) :
    Calls Tryz.prog 30 #[.pointer (some ⟨l, 0, none⟩)] w fun e w' => e = .returned (.int .i64 ((segL D.fs).length : Int)) ∧ Below w.heap.size w w' := by
  refine (lw_segs hl h.sz h.pv hlen h.lw).mono ?_
  rintro e w' ⟨rfl, _, hb⟩
  exact ⟨rfl, hb⟩
theorem lo_renew {l : Nat} (hl : l ∈ ls) (h : LwV N p bb K ls D w) (hg : LgT D X s c) (hc : c ≤ 200) (rs : List Bs) (hrs : Oks rs) (hF : (frsL rs).length ≤ 1000000) (v : Value) (hst : StrS w v rs) (hrem : (lnewD D rs).2 = 0 → RemOk (lnewD D rs).1 (nmsL D)) (he : lrenD D rs = (D', k)) :
    Calls Tryz.prog 29 #[.pointer (some ⟨l, 0, none⟩), v] w fun e w' => e = .returned (.int .i64 (k : Int)) ∧ LwV N p bb K ls D' w' ∧ Hd N K w w' := by
  have h2 := lw_renew hl h.sz h.pv (by have := hg.names.2; omega) (hg.nums hc) rs hrs hF v hst hrem h.lw
  rw [he] at h2
  refine h2.mono ?_
  rintro e w' ⟨rfl, h3, hb⟩
  exact ⟨rfl, h.of h3 hb.bel, hb⟩
theorem lo_fuse (h : LwV N p bb K ls D w) (hd : D.dead = false) (m : Int) (hm : m ≤ 9223372036854775807) :
    Calls Tryz.prog 21 #[.pointer (some ⟨p, 0, none⟩), .int .i64 m] w fun e w' => ∃ D', e = .returned (.int .i64 0) ∧ D'.fs = D.fs ∧ D'.room = D.room ∧ D'.dead = false ∧ LwV N p bb K ls D' w' ∧ Hd N K w w' := by
  have h2 := lw_act (R := fuseD D m) (f := 21) (args := #[.pointer (some ⟨p, 0, none⟩), .int .i64 m]) h.sz h.lw (fun n C L h1 hl => fuse_any m hm w h1 hl)
  refine h2.mono ?_
  have e2 : fuseD D m = ({ D with fuse := if m < 0 then none else some m.toNat }, 0) := by unfold fuseD; rw [if_neg (by rw [hd]; simp)]
  rintro e w' ⟨rfl, h3, hb⟩
  rw [e2] at h3 ⊢
  exact ⟨{ D with fuse := if m < 0 then none else some m.toNat }, rfl, rfl, rfl, hd, h.of h3 hb.bel, hb⟩
theorem lo_start (h : LwV N p bb K ls D w) :
    Calls Tryz.prog 24 #[.pointer (some ⟨p, 0, none⟩)] w fun e w' => e = .returned (.int .i64 0) ∧ LwV N p bb K ls { D with dead := false } w' ∧ Hd N K w w' := by
  refine (lw_start h.sz h.lw).mono ?_
  rintro e w' ⟨rfl, h3, hb⟩
  exact ⟨rfl, h.of h3 hb.bel, hb⟩
theorem lo_new (N : Nat) (w : World) (hv : PVB N w) (hN : N ≤ w.heap.size) : Calls Tryz.prog 16 #[] w fun e w' => ∃ p bb, e = .returned (.pointer (some ⟨p, 0, none⟩)) ∧ LwV N p bb [] [] dsk0 w' ∧ Below N w w' := by
  refine (lw_new N w hN).mono ?_
  rintro e w' ⟨p, bb, rfl, h, hb⟩
  exact ⟨p, bb, rfl, ⟨h, hv.on hb, Nat.le_trans hN hb.size⟩, hb⟩
end
/-- A row of texts, as an argument. -/
structure TxsIn (w : World) (a : Option Addr) (len cap : Nat) (z : List ByteArray) : Prop where
  at_ : SliceAt 1 (fun s : ByteArray => [Value.string s]) w a len z
  cap : len ≤ cap
theorem txs_open {H : Type} {enc : TypeId × Value → H} {w : World} {base : Nat} {spare : Nat → Bool} {held : Bool} {a : Option Addr} {len cap : Nat} {d : DataW H} {pl : List MemPlace}
    (h : DataW.Trod enc Tryz.prog w base spare held 52 (.slice a len cap) d pl) : ∃ z : List ByteArray, TxsIn w a len cap z := by
  obtain ⟨z, hz⟩ := ones_open (P := Tryz.prog) (fun s : ByteArray => Value.string s) Tryz.underlying52 (by kernel_rfl) (fun v y n hv => by
    obtain ⟨m, q, _, _⟩ := DataW.trod_string Tryz.underlying9 hv
    simp only [List.cons.injEq, and_true] at q
    exact ⟨m, q⟩) h
  refine ⟨z, hz, ?_⟩
  obtain ⟨m, hm⟩ := h
  rcases open_slice Tryz.underlying52 hm with ⟨h0, _⟩ | ⟨_, len', cap', _, _, _, _, h0, _, hl, _⟩
  · have h0' : [Value.slice a len cap] = [Value.slice none 0 0] := h0
    simp only [List.cons.injEq, Value.slice.injEq, and_true] at h0'
    omega
  · have h0' : [Value.slice a len cap] = [Value.slice _ len' cap'] := h0
    simp only [List.cons.injEq, Value.slice.injEq, and_true] at h0'
    omega
theorem str_back5 (x : ByteArray) : (⟨x.data.toList.toArray⟩ : ByteArray) = x := by cases x; simp
/-- Each of its texts, and each beginning of it. -/
theorem TxsIn.str {w : World} {a : Option Addr} {len cap : Nat} {z : List ByteArray} (h : TxsIn w a len cap z) : (z.map (fun x => x.data.toList)).length = len ∧ ∀ i x, (z.map (fun x => x.data.toList))[i]? = some x → ∃ b o, a = some ⟨b, o, none⟩ ∧ b < w.heap.size ∧ w.cell? ⟨b, o + i, none⟩ = some (.string ⟨x.toArray⟩) := by
  refine ⟨by rw [List.length_map]; exact h.at_.hlen, fun i x hx => ?_⟩
  rw [List.getElem?_map] at hx
  cases hz : z[i]? with
  | none => rw [hz] at hx; cases hx
  | some y =>
    rw [hz] at hx
    cases hx
    obtain ⟨b, o, h1, h2, h3⟩ := h.at_.cells i y hz
    refine ⟨b, o, h1, h2, ?_⟩
    have h4 := h3 0 _ rfl
    rw [str_back5]
    rwa [show o + (i * 1 + 0) = o + i by omega] at h4
end Go.Proofs.YtogfladmgbldcaaGreatDoor
namespace Go.Proofs.YtogfladmgbldcaaGreatDoor
open Go.RowKit Go.Shelf
theorem lo_openk {N p bb s c k : Nat} {K ls : List Nat} {D : DskV} {w : World} {X : List Bs} (h : LwV N p bb K ls D w) (hg : LgT D X s c) (hd : D.dead = false) (hk : k = X.length) :
    Calls Tryz.prog 26 #[.pointer (some ⟨p, 0, none⟩)] w fun e w' => ∃ l a ca q D', e = .returned (.tuple #[.pointer (some ⟨l, 0, none⟩), .slice a k ca, .int .i64 0]) ∧ LwV N p bb (l :: q :: K) (l :: ls) D' w' ∧ LgS D' X X.length c ∧ D'.dead = false ∧ D'.fuse = D.fuse ∧ GotR w.heap.size q (.slice a k ca) X w' ∧ Hd N K w w' := by
  refine (lo_open h hg hd).mono ?_
  rintro e w' ⟨l, v, q, D', rfl, h1, h2, h3, h4, h5, h6⟩
  obtain ⟨a, ca, rfl⟩ := own_slice_of h5.own
  rw [← hk] at h5 ⊢
  exact ⟨l, a, ca, q, D', rfl, h1, by rw [hk] at *; exact h2, h3, h4, h5, h6⟩
end Go.Proofs.YtogfladmgbldcaaGreatDoor
namespace Go.Proofs.YtogfladmgbldcaaGreatDoor
open Go.ChangeShapes Go.WideShapes Go.Deep Go.RowKit Go.Shelf
theorem sync9 (D : DskV) (nm : Bs) : (syncD D nm).2 ≠ 9 := by
  unfold syncD withD
  split
  · simp
  · split
    · simp
    · simp
theorem lsync9 (D : DskV) : (lsyncD D).2 ≠ 9 := by
  unfold lsyncD
  split
  · simp
  · exact sync9 _ _
theorem app9 (D : DskV) (nm : Bs) : (appD D nm []).2 ≠ 9 := by
  unfold appD
  split
  · simp
  · split
    · simp
    · split
      · simp
      · split
        · rw [if_neg (by simp)]
          simp
        · simp
theorem lnew9 {D : DskV} {rs : List Bs} (h : (lnewD D rs).2 = 9) : rs ≠ [] := by
  rintro rfl
  revert h
  unfold lnewD
  split
  · exact lsync9 _
  · split
    · simp
    · split
      · exact app9 _ _
      · exact lsync9 _
/-- 'append(s, x...)' as an operation, x nil or a row that can be read. -/
theorem opIn_append_rd {F : Fence} {n : Nat} {P : Program} (w : World) {o : Oper} {a : Act} {K : Act → World → Prop} {Q : Exit → Act → World → Prop}
    (s x : Operand) (t : TypeId) (hop : o.op = Op.call { callee := Callee.builtin Builtin.append, args := #[s, x], argTypes := #[t, t] })
    (base : Nat) (e : TypeId) (i : TypeInfo) (z : Value) (size bytes : Nat) (h1 : P.underlying t = some (.slice e)) (h2 : P.info? e = some i) (h3 : i.zero = some z) (h4 : i.size = size) (h5 : i.bytes = bytes) (h6 : z.cells.size = size) (h7 : 0 < size)
    (v : Value) (k : Nat) (xs : List Value) (hs : a.eval s = v) (hown : w.ownsRow base e size v k xs) (V : Value) (m : Nat) (news : List Value) (hx : a.eval x = V) (hn : news.length = m * size)
    (hV : (V = .slice none 0 0 ∧ m = 0) ∨ ∃ ad c, V = .slice (some ad) m c ∧ ∀ j u, news[j]? = some u → w.cell? (ad.add j) = some u) (h1c : ∀ u ∈ news, u.oneCell' = true) (b1 : k + m ≤ maxLen) (b2 : (k + m) * bytes ≤ 140737488355328) (b3 : base ≤ w.heap.size)
    (hK : ∀ v' w', w'.ownsRow base e size v' (k + m) (xs ++ news) → w.grownBy w' v.ownBlock → K (a.put o.dst v') w') :
    o.wpIn F n P a w K Q := by
  rcases hV with ⟨rfl, rfl⟩ | ⟨ad, c, rfl, hc⟩
  · have h0 : news = [] := List.length_eq_zero_iff.1 (by omega)
    subst h0
    have hrun := run_append_owned_none (P := P) (w := w) base t o.type e i size h1 h2 v k xs hown
    unfold Oper.wpIn
    refine ⟨?_, ?_⟩
    · simp [Oper.about, hop, resolve, Target.leads, Sem.run_pure]
    · rw [Oper.semAt_plain F _ _ (by rw [hop]; intro c hc'; cases hc')]
      simp [execOp, hop, resolve, invoke, builtin, hs, hx, hrun, Result.andThen]
      exact hK v w (by simpa using hown) ⟨rfl, rfl, rfl, Nat.le_refl _, fun _ _ _ => rfl⟩
  · exact opIn_append2 w s x t hop base e i z size bytes h1 h2 h3 h4 h5 h6 h7 v k xs hs hown ad m c news hx hn hc h1c b1 b2 b3 (fun v' w' q1 q2 _ => hK v' w' q1 q2)
/-- An end of a row that can be read. -/
theorem StrS.drop {w : World} {b : Option Addr} {m c q k : Nat} {B : List Bs} (h : StrS w (.slice b m c) B) (hk : k = m - q) (hq : q ≤ m) : StrS w (.slice (b.map (fun x => x.add q)) k (c - q)) (B.drop q) := by
  subst hk
  obtain ⟨a, c', hv, h2⟩ := h
  injection hv with e1 e2 e3
  subst e1 e2 e3
  refine ⟨_, c - q, by rw [List.length_drop], fun i x hx => ?_⟩
  rw [List.getElem?_drop] at hx
  obtain ⟨g, o, rfl, hb, hc⟩ := h2 (q + i) x hx
  exact ⟨g, o + q, by rw [Option.map_some, WideShapes.add_plain], hb, by rwa [Nat.add_assoc]⟩
theorem StrS.drop0 {w : World} {b b' : Option Addr} {m c c2 q k : Nat} {B : List Bs} (h : StrS w (.slice b m c) B) (hk : k = m - q) (hc : m ≤ c) (hq : c = q) : StrS w (.slice b' k c2) (B.drop q) := by
  obtain ⟨a, c', hv, h2⟩ := h
  injection hv with e1 e2 e3
  have h0 : B.drop q = [] := List.drop_eq_nil_of_le (by omega)
  rw [h0, show k = 0 by omega]
  exact ⟨_, _, rfl, fun i x hx => by simp at hx⟩
theorem own_cap {w : World} {base : Nat} {e : TypeId} {size : Nat} {a : Option Addr} {n m c : Nat} {xs : List Value} (h : w.ownsRow base e size (.slice a n c) m xs) : n ≤ c := by
  rcases h.2 with ⟨hv, _⟩ | ⟨g, cap, cur, hv, _, _, hc, _⟩
  · injection hv with e1 e2 e3
    omega
  · injection hv with e1 e2 e3
    omega
/-- A beginning. -/
theorem StrS.take {w : World} {a : Option Addr} {c : Nat} {X : List Bs} {n : Nat} (h : StrS w (.slice a X.length c) X) (hn : n ≤ X.length) : StrS w (.slice a n c) (X.take n) := by
  obtain ⟨a', c', hv, h2⟩ := h
  injection hv with e1 _ e3
  subst e1 e3
  refine ⟨_, c, by rw [List.length_take, Nat.min_eq_left hn], fun i x hx => ?_⟩
  rw [List.getElem?_take] at hx
  split at hx
  · exact h2 i x hx
  · cases hx
/-- Some Boolean is told. -/
def BoolE (e : Ending) : Prop := ∃ v : Bool, e = .returned (.bool v)
set_option maxRecDepth 100000 in
set_option maxHeartbeats 4000000 in
theorem ends_any (A B : List Bs) (a b : Option Addr) (ac bc : Nat) (n m : Nat) (hn : n = A.length) (hm : m = B.length) (w : World) (hA : StrS w (.slice a n ac) A) (hB : StrS w (.slice b m bc) B) (hbc : m ≤ bc) (hl : n ≤ 1000 ∧ m ≤ 1000) :
    Calls Tryz.prog 34 #[.slice a n ac, .slice b m bc] w fun e w' => BoolE e ∧ Below w.heap.size w w' := by
  by_cases hnm : n ≤ m
  · have HS := Lib.hid (fun (b' : Option Addr) (k c' : Nat) (hs : StrS w (.slice b' k c') (B.drop (m - n))) => (show Calls Tryz.prog 33 #[.slice a n ac, .slice b' k c'] w (fun e w' => ∃ v : Bool, e = .returned (.bool v) ∧ Below w.heap.size w w') from (same3_any A (B.drop (m - n)) _ _ w hA hs (by omega)).mono (by
      rintro e w' ⟨rfl, hb⟩
      exact ⟨_, rfl, hb⟩)))
    have HD1 := Lib.hid (fun (k : Nat) (hk : k = m - (m - n)) => hB.drop (q := m - n) hk (by omega))
    have HD2 := Lib.hid (fun (b' : Option Addr) (k c2 : Nat) (hk : k = m - (m - n)) (hc : bc = m - n) => hB.drop0 (b' := b') (c2 := c2) hk hbc hc)
    have hni : (n : Int) ≤ (m : Int) := by omega
    have h1 : n ≤ 1000 := hl.1
    have h2 : m ≤ 1000 := hl.2
    have HN := Lib.hid (And.intro hn hm)
    clear hA hB hl hn hm
    by_cases hcc : bc = m - n
    · subst hcc
      go_enter Tryz.func34, Tryz.ntmps34
      go_wp2_with (go_at_call 33; (with_reducible refine (HS.out _ _ _ ?_).mono ?_); (first | exact HD2.out _ _ _ (by omega) rfl | exact HD1.out _ (by omega)); rintro e w' ⟨v, rfl, hb⟩; have HB := Lib.hid hb; clear hb)
      go_ret
      exact ⟨⟨v, rfl⟩, HB.out⟩
    · have hcn : ¬ (bc - (m - n) = 0) := by omega
      go_enter Tryz.func34, Tryz.ntmps34
      go_wp2_with (go_at_call 33; (with_reducible refine (HS.out _ _ _ ?_).mono ?_); (first | exact HD1.out _ (by omega) | exact absurd rfl hcc | (exfalso; omega)); rintro e w' ⟨v, rfl, hb⟩; have HB := Lib.hid hb; clear hb)
      go_ret
      exact ⟨⟨v, rfl⟩, HB.out⟩
  · have hni : ¬ ((n : Int) ≤ (m : Int)) := by omega
    clear hA hB hl hn hm
    go_enter Tryz.func34, Tryz.ntmps34
    go_wp2
    go_ret
    exact ⟨⟨_, rfl⟩, Below.refl _ _⟩
/-- A row of texts, as an argument; nil has no room. -/
structure TxsI2 (w : World) (a : Option Addr) (len cap : Nat) (z : List ByteArray) : Prop where
  txs : TxsIn w a len cap z
  nil : a = none → len = 0 ∧ cap = 0
theorem txs2_open {H : Type} {enc : TypeId × Value → H} {w : World} {base : Nat} {spare : Nat → Bool} {held : Bool} {a : Option Addr} {len cap : Nat} {d : DataW H} {pl : List MemPlace}
    (h : DataW.Trod enc Tryz.prog w base spare held 52 (.slice a len cap) d pl) : ∃ z : List ByteArray, TxsI2 w a len cap z := by
  obtain ⟨z, hz⟩ := txs_open h
  refine ⟨z, hz, fun ha => ?_⟩
  obtain ⟨m, hm⟩ := h
  rcases open_slice Tryz.underlying52 hm with ⟨h0, _⟩ | ⟨_, len', cap', _, _, _, _, h0, _, hl, _⟩
  · have h0' : [Value.slice a len cap] = [Value.slice none 0 0] := h0
    simp only [List.cons.injEq, Value.slice.injEq, and_true] at h0'
    omega
  · have h0' : [Value.slice a len cap] = [Value.slice _ len' cap'] := h0
    simp only [List.cons.injEq, Value.slice.injEq, and_true] at h0'
    rw [ha] at h0'
    cases h0'.1
/-- .. as an append reads it. -/
theorem arg_read {y : World} {a : Option Addr} {n c : Nat} {e : List Bs} (h : ∀ i x, e[i]? = some x → ∃ b o, a = some ⟨b, o, none⟩ ∧ b < y.heap.size ∧ y.cell? ⟨b, o + i, none⟩ = some (.string ⟨x.toArray⟩)) (hnil : a = none → n = 0 ∧ c = 0) :
    ((.slice a n c : Value) = .slice none 0 0 ∧ n = 0) ∨ ∃ ad c', (.slice a n c : Value) = .slice (some ad) n c' ∧ ∀ j u, (encS e)[j]? = some u → y.cell? (ad.add j) = some u := by
  cases a with
  | none =>
    obtain ⟨rfl, rfl⟩ := hnil rfl
    exact .inl ⟨rfl, rfl⟩
  | some ad =>
    refine .inr ⟨ad, c, rfl, fun j u hj => ?_⟩
    unfold encS at hj
    rw [List.getElem?_map] at hj
    cases hx : e[j]? with
    | none => rw [hx] at hj; cases hj
    | some x =>
      rw [hx] at hj
      cases hj
      obtain ⟨b, o, e1, _, hc⟩ := h j x hx
      injection e1 with e1
      subst e1
      rw [WideShapes.add_plain]
      exact hc
end Go.Proofs.YtogfladmgbldcaaGreatDoor
