/- Log: LogRenews' law. Condition: the library's variables hold what the program's text lays. -/
import Derived.Test.YtogfladmgbldcaaGreatDoorZLogRenews13
namespace Go.Proofs.YtogfladmgbldcaaGreatDoor
open Go.RowKit Go.Shelf
theorem args_cells {w : World} {a : Option Addr} {len cap N : Nat} {z : List ByteArray} (hN : N = w.heap.size) (hz : TxsIn w a len cap z) (y : World) (hy : Below N w y) (i : Nat) (x : Bs) (hx : (z.map (fun x => x.data.toList))[i]? = some x) : ∃ b o, a = some ⟨b, o, none⟩ ∧ b < y.heap.size ∧ y.cell? ⟨b, o + i, none⟩ = some (.string ⟨x.toArray⟩) := by
  obtain ⟨b, o, h1, h2, h3⟩ := hz.str.2 i x hx
  exact ⟨b, o, h1, Nat.lt_of_lt_of_le h2 hy.size, (World.cell?_of_block (a := ⟨b, o + i, none⟩) (hy.block b (by omega))).trans h3⟩
/-- A log between two elder records. -/
structure LbI (N p bb x q : Nat) (e : List Bs) (w0 : World) (i : Nat) (D : DskV) (s : Nat) (wr : World) : Prop where
  lw : LwV N p bb [x, q] [x] D wr
  bel : Below N w0 wr
  lg : LgS D (e.take i) s i
  dd : D.dead = false
  fz : D.fuse = none
  good : ∀ j y, j < i → e[j]? = some y → 1 ≤ y.length ∧ y.length ≤ 300
theorem few_of {l : List Bs} {n : Nat} (hn : l.length = n) (h : ∀ j y, j < n → l[j]? = some y → 1 ≤ y.length ∧ y.length ≤ 300) : Few l := fun y hy => by
  obtain ⟨j, hj⟩ := List.getElem?_of_mem hy
  exact h j y (by rw [← hn]; exact (List.getElem?_eq_some_iff.1 hj).1) hj
set_option maxRecDepth 100000 in
set_option maxHeartbeats 16000000 in
theorem logRenews_any (a1 : Option Addr) (n1 c1 : Nat) (z1 : List ByteArray) (a2 : Option Addr) (n2 c2 : Nat) (z2 : List ByteArray) (fuse keep : Int) (hfu : fuse ≤ 9223372036854775807) (hke : keep ≤ 9223372036854775807) {w : World} (hz1 : TxsI2 w a1 n1 c1 z1) (hz2 : TxsI2 w a2 n2 c2 z2) (hv0 : PV w) :
    Calls Tryz.prog 10 #[.slice a1 n1 c1, .slice a2 n2 c2, .int .i64 fuse, .int .i64 keep] w fun e w' => e = .returned (.bool true) ∧ Below w.heap.size w w' := by
  obtain ⟨N, hN⟩ : ∃ N, N = w.heap.size := ⟨_, rfl⟩
  have HV := Lib.hid (show PVB N w from by rw [hN]; exact PVB.of hv0)
  have HNZ := Lib.hid hN
  have HC1 := Lib.hid (args_cells hN hz1.txs)
  have HC2 := Lib.hid (args_cells hN hz2.txs)
  have HL1 := Lib.hid hz1.txs.str
  have HL2 := Lib.hid hz2.txs.str
  have HCAP := Lib.hid (And.intro (And.intro hz1.txs.cap hz2.txs.cap) (And.intro hz1.nil hz2.nil))
  have HB := Lib.hid (And.intro hfu hke)
  obtain ⟨e, he⟩ : ∃ e : List Bs, e = z1.map (fun x => x.data.toList) := ⟨_, rfl⟩
  obtain ⟨l, hl⟩ : ∃ l : List Bs, l = z2.map (fun x => x.data.toList) := ⟨_, rfl⟩
  rw [← he] at HC1 HL1
  rw [← hl] at HC2 HL2
  clear hz1 hz2 hv0 hfu hke hN he hl
  by_cases hn1 : 60 < n1
  · have hb1 : 60 < n1 := hn1
    go_enter Tryz.func10, Tryz.ntmps10
    go_wp2_with (go_at_call 31; (with_reducible refine (wakes05_any _ HV.out.here).mono ?_); rintro e w5 ⟨rfl, hb⟩; have HB5 := Lib.hid hb; clear hb)
    go_ret
    exact ⟨rfl, HB5.out⟩
  by_cases hn2 : 60 < n2
  · have hb1 : ¬ (60 < n1) := hn1
    have hb2 : 60 < n2 := hn2
    go_enter Tryz.func10, Tryz.ntmps10
    go_wp2_with (go_at_call 31; (with_reducible refine (wakes05_any _ HV.out.here).mono ?_); rintro e w5 ⟨rfl, hb⟩; have HB5 := Lib.hid hb; clear hb)
    go_ret
    exact ⟨rfl, HB5.out⟩
  have hm1 : n1 ≤ 60 := by omega
  have hm2 : n2 ≤ 60 := by omega
  have Hop := Lib.hid (fun (p bb : Nat) (y : World) (h : LwV N p bb [] [] dsk0 y) => lo_open (s := 0) (c := 0) (X := []) h (.inl ⟨lg00, rfl, rfl⟩) rfl)
  obtain ⟨w0, rfl⟩ : ∃ w0, w0 = w := ⟨_, rfl⟩
  go_enter Tryz.func10, Tryz.ntmps10
  go_upto_region 7 with (first
    | (go_at_call 16; (with_reducible refine (lo_new N _ HV.out (by have := HNZ.out; omega)).mono ?_); rintro e w1 ⟨p, bb, rfl, hd, hb⟩; have H1 := Lib.hid (And.intro hd hb); clear hd hb)
    | (go_at_call 26; (with_reducible refine (Hop.out p bb _ H1.out.1).mono ?_); rintro e w2 ⟨x, v0, q, D0, rfl, h1, h2, h3, h4, h5, h6⟩
       obtain ⟨a0, c0, rfl⟩ := own_slice_of h5.own
       have H2 := Lib.hid (And.intro h1 (And.intro (H1.out.2.trans h6.bel) (And.intro h2 (And.intro h3 h4)))); clear h1 h2 h3 h4 h5 h6))
  have hI0 : LbI N p bb x q e w0 0 D0 0 w2 := ⟨H2.out.1, H2.out.2.1, H2.out.2.2.1, H2.out.2.2.2.1, H2.out.2.2.2.2, fun j y hj => by omega⟩
  have HI0 := Lib.hid hI0
  clear hI0 Hop hn1 hn2
  obtain ⟨lx, hlx⟩ : ∃ lx, lx = x := ⟨_, rfl⟩
  rw [← hlx] at HI0 ⊢
  clear hlx
  go_wp2
  go_loopw [13] (fun s13 wr => ∃ (i : Nat) (D : DskV) (s : Nat), s13 = .int .i64 (i : Int) ∧ i ≤ n1 ∧ LbI N p bb lx q e w0 i D s wr) (fun s13 _ => n1 - (intOf s13).toNat)
  case atStart => exact ⟨0, D0, 0, rfl, Nat.zero_le _, HI0.out⟩
  case round =>
    clear HI0
    obtain ⟨i, D, s, rfl, hi, hI⟩ := hrel
    have HI := Lib.hid hI
    clear hI
    by_cases hin : i < n1
    · have hiI : (i : Int) < (n1 : Int) := by omega
      have hil : i < e.length := by rw [HL1.out.1]; exact hin
      obtain ⟨x, hx⟩ : ∃ x, x = e[i] := ⟨_, rfl⟩
      have hxs : e[i]? = some x := by rw [List.getElem?_eq_getElem hil, hx]
      obtain ⟨gb, go, rfl, hgb, hc⟩ := HC1.out wr HI.out.bel i x hxs
      obtain ⟨xb, hxb⟩ : ∃ xb : ByteArray, xb = ⟨x.toArray⟩ := ⟨_, rfl⟩
      have hxz : xb.size = x.length := by rw [hxb]; simp [ByteArray.size]
      rw [← hxb] at hc
      have hw1 : wrap64 ((i : Int) + 1) = ((i + 1 : Nat) : Int) := by unfold wrap64; omega
      have HX := Lib.hid (And.intro hxs (And.intro hxz hxb))
      clear hil hx hxs hgb hxb
      go_upto_region 10 with fail
      obtain ⟨bq, hbq⟩ : ∃ bq : Bool, bq = decide (x.length = 0 ∨ 300 < x.length) := ⟨_, rfl⟩
      have HBQ := Lib.hid hbq
      clear hbq
      go_cut [64] (fun s wx => s = .bool bq ∧ wx = wr)
      case first =>
        by_cases h0 : x.length = 0
        · have hxe : xb = ⟨#[]⟩ := by rw [HX.out.2.2, List.length_eq_zero_iff.1 h0]
          have HBT := Lib.hid (show bq = true from by rw [HBQ.out]; exact decide_eq_true (.inl h0))
          clear h0
          rw [hxe] at hc
          clear hxe hxz
          go_wp2_with fail
          go_meet
          exact ⟨by rw [HBT.out], rfl⟩
        · have hne : xb.data.toList ≠ [] := fun e => h0 (by rw [← hxz]; show xb.data.size = 0; rw [← Array.length_toList, e]; rfl)
          have hem : xb.toList.isEmpty = false := by rw [Lib.toList_data, List.isEmpty_eq_false_iff]; exact hne
          have HBT := Lib.hid (show bq = decide (300 < x.length) from by rw [HBQ.out]; simp [h0])
          clear h0 hne
          by_cases h3 : 300 < x.length
          · have h3' : 300 < xb.size := by omega
            have HB3 := Lib.hid h3
            clear h3 hxz
            go_wp2_with fail
            go_meet
            exact ⟨by rw [HBT.out, decide_eq_true HB3.out]; congr 1; exact decide_eq_true (by omega), rfl⟩
          · have h3' : ¬ (300 < xb.size) := by omega
            have HB3 := Lib.hid h3
            clear h3 hxz
            go_wp2_with fail
            go_meet
            exact ⟨by rw [HBT.out, decide_eq_false HB3.out]; congr 1; exact decide_eq_false (by omega), rfl⟩
      case rest =>
        obtain ⟨rfl, rfl⟩ := hcut
        cases bq
        case true =>
          go_wp2_with (go_at_call 31; (with_reducible refine (wakes05_any _ HI.out.lw.pv.here).mono ?_); rintro e w5 ⟨rfl, hb⟩; have HB5 := Lib.hid hb; clear hb)
          go_ret
          exact ⟨rfl, by rw [← HNZ.out]; exact HI.out.bel.trans (HB5.out.mono HI.out.lw.sz)⟩
        case false =>
          have hgx : 1 ≤ x.length ∧ x.length ≤ 300 := by
            have h1 := of_decide_eq_false HBQ.out.symm
            omega
          have hI := HI.out
          have htk : e.take (i + 1) = e.take i ++ [x] := by rw [List.take_add_one, HX.out.1]; rfl
          have hfew : Few (e.take i) := fun y hy => by
            obtain ⟨j, hj⟩ := List.getElem?_of_mem hy
            have hjl := (List.getElem?_eq_some_iff.1 hj).1
            rw [List.length_take] at hjl
            rw [List.getElem?_take, if_pos (by omega)] at hj
            exact hI.good j y (by omega) hj
          have hxl2 : xb.data.toList = x := by rw [HX.out.2.2]
          have hroom : (frL x).length + (frsL (e.take i)).length ≤ 4194304 := by
            have h1 := few_len _ hfew
            have h2 := frL_len x
            have h3 := (numL_len x.length).1
            rw [List.length_take] at h1
            omega
          rcases lgs_add hI.lg hI.dd (by omega) (r := x) ⟨hgx.1, by omega⟩ hroom with ⟨D', s', e1, g1, k1, d1, f1⟩ | ⟨D', X, s', e1, g1, p1, p2, k1, d1, f1, n1⟩
          · have Had := Lib.hid (lo_add (l := lx) (by simp) hI.lw hI.lg.t (by omega) xb (by rw [HX.out.2.1]; omega) (show laddD D xb.data.toList = (D', 0) from by rw [hxl2]; exact e1))
            have HG := Lib.hid (And.intro g1 (And.intro d1 (f1 hI.fz)))
            have HGX := Lib.hid hgx
            clear e1 g1 k1 d1 f1 hI hgx htk hfew hxl2 hroom
            go_wp2_with (go_at_call 27; (with_reducible refine Had.out.mono ?_); rintro e w7 ⟨rfl, h1, h2⟩; have H7 := Lib.hid (And.intro h1 h2); clear h1 h2)
            refine ⟨⟨i + 1, D', s', by rw [Int.natCast_add]; rfl, by omega, ⟨H7.out.1, HI.out.bel.trans H7.out.2.bel, ?_, HG.out.2.1, HG.out.2.2, fun j y hj hy => ?_⟩⟩, by simp only [intOf]; omega⟩
            · rw [show e.take (i + 1) = e.take i ++ [x] by rw [List.take_add_one, HX.out.1]; rfl]
              exact HG.out.1
            · by_cases hji : j = i
              · subst hji
                rw [HX.out.1] at hy
                cases hy
                exact HGX.out
              · exact HI.out.good j y (by omega) hy
          · exact (n1 hI.fz).elim
    · have hiI : ¬ (i : Int) < (n1 : Int) := by omega
      obtain rfl : i = n1 := by omega
      have hI := HI.out
      have hgA := hI.lg
      rw [show e.take i = e from by rw [← HL1.out.1, List.take_length]] at hgA
      have HA := Lib.hid (show LwV N p bb [lx, q] [lx] D wr ∧ Below N w0 wr ∧ LgS D e s 60 ∧ D.dead = false ∧ D.fuse = none ∧ Few e from ⟨hI.lw, hI.bel, hgA.wide (by omega), hI.dd, hI.fz, few_of HL1.out.1 hI.good⟩)
      clear hI hgA HI hi hin
      obtain ⟨w3, rfl⟩ : ∃ w3, w3 = wr := ⟨_, rfl⟩
      obtain ⟨n1, rfl⟩ : ∃ n1, n1 = i := ⟨_, rfl⟩
      go_wp2
      go_loopw [14] (fun s14 wr => ∃ i : Nat, s14 = .int .i64 (i : Int) ∧ i ≤ n2 ∧ (∀ j x, j < i → l[j]? = some x → 1 ≤ x.length ∧ x.length ≤ 300) ∧ wr = w3) (fun s14 _ => n2 - (intOf s14).toNat)
      case atStart => exact ⟨0, rfl, Nat.zero_le _, fun j x hj => by omega, rfl⟩
      case round =>
        obtain ⟨i, rfl, hi, hgood, rfl⟩ := hrel
        have HG := Lib.hid hgood
        clear hgood
        by_cases hin : i < n2
        · have hiI : (i : Int) < (n2 : Int) := by omega
          have hil : i < l.length := by rw [HL2.out.1]; exact hin
          obtain ⟨x, hx⟩ : ∃ x, x = l[i] := ⟨_, rfl⟩
          have hxs : l[i]? = some x := by rw [List.getElem?_eq_getElem hil, hx]
          obtain ⟨gb, go, rfl, hgb, hc⟩ := HC2.out wr HA.out.2.1 i x hxs
          obtain ⟨xb, hxb⟩ : ∃ xb : ByteArray, xb = ⟨x.toArray⟩ := ⟨_, rfl⟩
          have hxz : xb.size = x.length := by rw [hxb]; simp [ByteArray.size]
          rw [← hxb] at hc
          have hw1 : wrap64 ((i : Int) + 1) = ((i + 1 : Nat) : Int) := by unfold wrap64; omega
          have HX := Lib.hid (And.intro hxs (And.intro hxz hxb))
          clear hil hx hxs hgb hxb
          go_upto_region 17 with fail
          obtain ⟨bq, hbq⟩ : ∃ bq : Bool, bq = decide (x.length = 0 ∨ 300 < x.length) := ⟨_, rfl⟩
          have HBQ := Lib.hid hbq
          clear hbq
          go_cut [91] (fun s wx => s = .bool bq ∧ wx = wr)
          case first =>
            by_cases h0 : x.length = 0
            · have hxe : xb = ⟨#[]⟩ := by rw [HX.out.2.2, List.length_eq_zero_iff.1 h0]
              have HBT := Lib.hid (show bq = true from by rw [HBQ.out]; exact decide_eq_true (.inl h0))
              clear h0
              rw [hxe] at hc
              clear hxe hxz
              go_wp2_with fail
              go_meet
              exact ⟨by rw [HBT.out], rfl⟩
            · have hne : xb.data.toList ≠ [] := fun e => h0 (by rw [← hxz]; show xb.data.size = 0; rw [← Array.length_toList, e]; rfl)
              have hem : xb.toList.isEmpty = false := by rw [Lib.toList_data, List.isEmpty_eq_false_iff]; exact hne
              have HBT := Lib.hid (show bq = decide (300 < x.length) from by rw [HBQ.out]; simp [h0])
              clear h0 hne
              by_cases h3 : 300 < x.length
              · have h3' : 300 < xb.size := by omega
                have HB3 := Lib.hid h3
                clear h3 hxz
                go_wp2_with fail
                go_meet
                exact ⟨by rw [HBT.out, decide_eq_true HB3.out]; congr 1; exact decide_eq_true (by omega), rfl⟩
              · have h3' : ¬ (300 < xb.size) := by omega
                have HB3 := Lib.hid h3
                clear h3 hxz
                go_wp2_with fail
                go_meet
                exact ⟨by rw [HBT.out, decide_eq_false HB3.out]; congr 1; exact decide_eq_false (by omega), rfl⟩
          case rest =>
            obtain ⟨rfl, rfl⟩ := hcut
            cases bq
            case true =>
              go_wp2_with (go_at_call 31; (with_reducible refine (wakes05_any _ HA.out.1.pv.here).mono ?_); rintro e w5 ⟨rfl, hb⟩; have HB5 := Lib.hid hb; clear hb)
              go_ret
              exact ⟨rfl, by rw [← HNZ.out]; exact HA.out.2.1.trans (HB5.out.mono HA.out.1.sz)⟩
            case false =>
              have hgx : 1 ≤ x.length ∧ x.length ≤ 300 := by
                have h1 := of_decide_eq_false HBQ.out.symm
                omega
              have HGX := Lib.hid hgx
              clear hgx
              go_wp2
              refine ⟨⟨i + 1, by rw [Int.natCast_add]; rfl, by omega, fun j y hj hy => ?_, by first | rfl | trivial⟩, by simp only [intOf]; omega⟩
              by_cases hji : j = i
              · subst hji
                rw [HX.out.1] at hy
                cases hy
                exact HGX.out
              · exact HG.out j y (by omega) hy
        · have hiI : ¬ (i : Int) < (n2 : Int) := by omega
          obtain rfl : i = n2 := by omega
          have HFL := Lib.hid (few_of HL2.out.1 HG.out)
          clear HG hi hin
          obtain ⟨w3, rfl⟩ : ∃ w3, w3 = wr := ⟨_, rfl⟩
          obtain ⟨n2, rfl⟩ : ∃ n2, n2 = i := ⟨_, rfl⟩
          obtain ⟨D1, e1, g1, d1, f1⟩ := lgs_sync HA.out.2.2.1 HA.out.2.2.2.1
          have Hsy := Lib.hid (lo_sync (l := lx) (by simp) HA.out.1 HA.out.2.2.1.t e1)
          have Hfu := Lib.hid (fun (y : World) (h : LwV N p bb [lx, q] [lx] D1 y) => lo_fuse h d1 fuse HB.out.1)
          have HG1 := Lib.hid g1
          clear e1 g1 d1 f1
          go_upto_region 22 with (first
            | (go_at_call 28; (with_reducible refine Hsy.out.mono ?_); rintro e w5 ⟨rfl, h1, h2⟩; have H5 := Lib.hid (And.intro h1 h2); clear h1 h2)
            | (go_at_call 21; (with_reducible refine (Hfu.out _ H5.out.1).mono ?_); rintro e w6 ⟨D2, rfl, h1, h2, h3, h4, h5⟩; have H6 := Lib.hid (And.intro (HG1.out.same h1 h2) (And.intro h3 (And.intro h4 (HA.out.2.1.trans (H5.out.2.bel.trans h5.bel))))); clear h1 h2 h3 h4 h5))
          have hroom : (frsL l).length + (frsL e).length ≤ 4194304 := by
            have h1 := few_len _ HFL.out
            have h2 := few_len _ HA.out.2.2.2.2.2
            rw [HL1.out.1] at h2
            rw [HL2.out.1] at h1
            omega
          have hstl : StrS w6 (.slice a2 n2 c2) l := ⟨a2, c2, by rw [HL2.out.1], fun i x hx => HC2.out w6 H6.out.2.2.2 i x hx⟩
          have hFl : (frsL l).length ≤ 1000000 := by
            have h1 := few_len _ HFL.out
            rw [HL2.out.1] at h1
            omega
          clear Hsy Hfu HG1
          rcases lgs_renew H6.out.1 H6.out.2.1 (by decide) HFL.out.oks hroom with ⟨D', n, e1, r1, g1, hn, d1, f1⟩ | ⟨D3, j, e1, g1, d1, f1, m1⟩
          · obtain ⟨D3, hD3⟩ : ∃ D3, D3 = rems D' (nmsL D2) := ⟨_, rfl⟩
            have e2 : lrenD D2 l = (D3, 0) := by unfold lrenD; rw [e1, if_pos rfl, hD3]
            rw [← hD3] at g1 d1
            have Hre := Lib.hid (lo_renew (l := lx) (by simp) H6.out.2.2.1 H6.out.1.t (by decide) l HFL.out.oks hFl _ hstl (fun _ => by rw [e1]; exact r1) e2)
            have hfs3 : D3.fs = [segW n l] := by rw [g1.fs]; show whs n [] ++ [lastF (n + 0) l [] l.length] = _; rw [lastF_whole]; rfl
            obtain ⟨D4, hD4⟩ : ∃ D4 : DskV, D4 = { D3 with fuse := none, dead := true } := ⟨_, rfl⟩
            have hcr : crashD D3 keep = (D4, 0) := by
              rw [hD4]
              exact crash_all keep g1.rise d1 (fun f hf => by rw [hfs3] at hf; rw [List.mem_singleton.1 hf]; rfl)
            have g4 : Lg D4 n [] l [] l.length := g1.same (by rw [hD4]) (by rw [hD4])
            obtain ⟨D5, hD5⟩ : ∃ D5 : DskV, D5 = { D4 with dead := false } := ⟨_, rfl⟩
            have g5 : Lg D5 n [] l [] l.length := g4.same (by rw [hD5]) (by rw [hD5])
            have d5 : D5.dead = false := by rw [hD5]
            obtain ⟨D6, e6, g6, d6, -⟩ := lg_open g5 d5
            have hs6 : (segL D6.fs).length = 1 := by rw [g6.seg]; rfl
            have hrec : recL (segL D5.fs) = l := by rw [g5.recs]; rfl
            have Hde := Lib.hid (fun (y : World) (h : LwV N p bb [lx, q] [lx] D3 y) => (show Calls Tryz.prog 22 #[.pointer (some ⟨p, 0, none⟩)] y (fun e w' => e = .returned (.bool false) ∧ y = w') from by have h2 := lw_dead h.lw; rw [d1] at h2; exact h2))
            have Hcr := Lib.hid (fun (y : World) (h : LwV N p bb [lx, q] [lx] D3 y) => (show Calls Tryz.prog 23 #[.pointer (some ⟨p, 0, none⟩), .int .i64 keep] y (fun e w' => e = .returned (.int .i64 0) ∧ LwV N p bb [lx, q] [lx] D4 w' ∧ Hd N [lx, q] y w') from by
              have h2 := lw_act (R := crashD D3 keep) (f := 23) (args := #[.pointer (some ⟨p, 0, none⟩), .int .i64 keep]) h.sz h.lw (fun n C L h1 hl => crash_any keep HB.out.2 (by rw [hfs3]; show 1 ≤ _; decide) y h1 hl)
              rw [hcr] at h2
              exact h2.mono (by rintro e w' ⟨rfl, h3, hb⟩; exact ⟨rfl, h.of h3 hb.bel, hb⟩)))
            have Hst := Lib.hid (fun (y : World) (h : LwV N p bb [lx, q] [lx] D4 y) => by have h2 := lo_start h; rw [← hD5] at h2; exact h2)
            have Hop := Lib.hid (fun (y : World) (h : LwV N p bb [lx, q] [lx] D5 y) => (show Calls Tryz.prog 26 #[.pointer (some ⟨p, 0, none⟩)] y (fun e w' => ∃ l1 a3 c3 q3, e = .returned (.tuple #[.pointer (some ⟨l1, 0, none⟩), .slice a3 n2 c3, .int .i64 0]) ∧ LwV N p bb [l1, q3, lx, q] [l1, lx] D6 w' ∧ StrS w' (.slice a3 n2 c3) l ∧ Hd N [lx, q] y w') from (lw_open h.sz h.pv (by have := g5.flen; omega) h.lw d5 g5.good (by rw [e6])).mono (by
              rintro e w' ⟨l1, v, q3, rfl, h2, ho, _, hb⟩
              rw [hrec] at ho
              rw [e6] at h2
              obtain ⟨a3, c3, rfl⟩ := own_slice_of ho
              have hst := strS_own ho
              rw [HL2.out.1] at hst ⊢
              exact ⟨l1, a3, c3, q3, rfl, h.of h2 hb.bel, hst, hb⟩)))
            have Hsn := Lib.hid (fun (l1 q3 : Nat) (y : World) (h : LwV N p bb [l1, q3, lx, q] [l1, lx] D6 y) => (show Calls Tryz.prog 30 #[.pointer (some ⟨l1, 0, none⟩)] y (fun e w' => e = .returned (.int .i64 1) ∧ Below y.heap.size y w') from by have h2 := lo_segs (l := l1) (by simp) h (by have := g6.flen; omega); rw [hs6] at h2; exact h2))
            have hsa := Lib.hid (fun (y : World) (a3 : Option Addr) (c3 : Nat) (h : StrS y (.slice a3 n2 c3) l) (hb : Below N w0 y) => (show Calls Tryz.prog 33 #[.slice a3 n2 c3, .slice a2 n2 c2] y (fun e w' => e = .returned (.bool true) ∧ Below y.heap.size y w') from by
              have h2 := same3_any l l _ _ y h ⟨a2, c2, by rw [HL2.out.1], fun i x hx => HC2.out y hb i x hx⟩ (by rw [HL2.out.1]; omega)
              rw [decide_eq_true rfl] at h2
              exact h2))
            clear e1 r1 g1 hn d1 f1 hD3 e2 hfs3 hD4 hcr g4 hD5 g5 d5 e6 g6 d6 hs6 hrec hroom hFl
            go_wp2_with (first
              | (go_at_call 29; (with_reducible refine Hre.out.mono ?_); rintro e w7 ⟨rfl, h1, h2⟩; have H7 := Lib.hid (And.intro h1 (H6.out.2.2.2.trans h2.bel)); clear h1 h2)
              | (go_at_call 22; (with_reducible refine (Hde.out _ H7.out.1).mono ?_); rintro e w8 ⟨rfl, rfl⟩)
              | (go_at_call 23; (with_reducible refine (Hcr.out _ H7.out.1).mono ?_); rintro e w8 ⟨rfl, h1, h2⟩; have H8 := Lib.hid (And.intro h1 (H7.out.2.trans h2.bel)); clear h1 h2)
              | (go_at_call 24; (with_reducible refine (Hst.out _ H8.out.1).mono ?_); rintro e w9 ⟨rfl, h1, h2⟩; have H9 := Lib.hid (And.intro h1 (H8.out.2.trans h2.bel)); clear h1 h2)
              | (go_at_call 26; (with_reducible refine (Hop.out _ H9.out.1).mono ?_); rintro e w10 ⟨l1, a3, c3, q3, rfl, h1, h2, h3⟩; have H10 := Lib.hid (And.intro h1 (And.intro h2 (H9.out.2.trans h3.bel))); clear h1 h2 h3)
              | (go_at_call 33; (with_reducible refine (hsa.out _ a3 c3 H10.out.2.1 H10.out.2.2).mono ?_); rintro e w11 ⟨rfl, hb⟩; have H11 := Lib.hid (And.intro (H10.out.1.below hb) (H10.out.2.2.trans (hb.mono H10.out.1.sz))); clear hb)
              | (go_at_call 30; (with_reducible refine (Hsn.out l1 q3 _ H11.out.1).mono ?_); rintro e w12 ⟨rfl, hb⟩; have H12 := Lib.hid (And.intro (H11.out.1.below hb) (H11.out.2.trans (hb.mono H11.out.1.sz))); clear hb)
              | (go_at_call 31; (with_reducible refine (wakes05_any _ H12.out.1.pv.here).mono ?_); rintro e w13 ⟨rfl, hb⟩; have H13 := Lib.hid (H12.out.2.trans (hb.mono H12.out.1.sz)); clear hb))
            go_ret
            exact ⟨rfl, by rw [← HNZ.out]; exact H13.out⟩
          · have hl0 : 1 ≤ n2 := by
              rw [← HL2.out.1]
              exact List.length_pos_iff.2 (lnew9 (by rw [e1]))
            have e2 : lrenD D2 l = (D3, 9) := by unfold lrenD; rw [e1, if_neg (by simp)]
            have Hre := Lib.hid (lo_renew (l := lx) (by simp) H6.out.2.2.1 H6.out.1.t (by decide) l HFL.out.oks hFl _ hstl (fun h => by rw [e1] at h; cases h) e2)
            obtain ⟨t, ht⟩ : ∃ t, t = l.take j := ⟨_, rfl⟩
            have htp : t <+: l := by rw [ht]; exact List.take_prefix _ _
            rw [← ht] at g1
            obtain ⟨r, hr⟩ : ∃ r, r = t.length := ⟨_, rfl⟩
            have hr2 : r ≤ n2 := by rw [hr, ← HL2.out.1]; exact htp.length_le
            obtain ⟨X, hX⟩ : ∃ X, X = e ++ t := ⟨_, rfl⟩
            rw [← hX] at g1
            have hXl : n1 + r = X.length := by rw [hX, List.length_append, HL1.out.1, hr]
            obtain ⟨D5, hD5⟩ : ∃ D5 : DskV, D5 = { D3 with dead := false } := ⟨_, rfl⟩
            have g5 : LgT D5 X e.length 61 := g1.same (by rw [hD5]) (by rw [hD5])
            have d5 : D5.dead = false := by rw [hD5]
            have Hde := Lib.hid (fun (y : World) (h : LwV N p bb [lx, q] [lx] D3 y) => (show Calls Tryz.prog 22 #[.pointer (some ⟨p, 0, none⟩)] y (fun e w' => e = .returned (.bool true) ∧ y = w') from by have h2 := lw_dead h.lw; rw [d1] at h2; exact h2))
            have Hst := Lib.hid (fun (y : World) (h : LwV N p bb [lx, q] [lx] D3 y) => by have h2 := lo_start h; rw [← hD5] at h2; exact h2)
            have Hop := Lib.hid (fun (y : World) (h : LwV N p bb [lx, q] [lx] D5 y) => lo_openk h g5 d5 hXl)
            have HXX := Lib.hid (And.intro hX (And.intro htp (And.intro hr hXl)))
            clear e1 g1 d1 f1 m1 e2 ht htp hr hX hXl hD5 g5 d5 hroom hFl hstl
            go_upto_region 33 with (first
              | (go_at_call 29; (with_reducible refine Hre.out.mono ?_); rintro e w7 ⟨rfl, h1, h2⟩; have H7 := Lib.hid (And.intro h1 (H6.out.2.2.2.trans h2.bel)); clear h1 h2)
              | (go_at_call 22; (with_reducible refine (Hde.out _ H7.out.1).mono ?_); rintro e w8 ⟨rfl, rfl⟩)
              | (go_at_call 24; (with_reducible refine (Hst.out _ H7.out.1).mono ?_); rintro e w9 ⟨rfl, h1, h2⟩; have H9 := Lib.hid (And.intro h1 (H7.out.2.trans h2.bel)); clear h1 h2)
              | (go_at_call 26; (with_reducible refine (Hop.out _ H9.out.1).mono ?_); rintro e w10 ⟨l1, a3, c3, q3, D6, rfl, h1, h2, h3, h4, h5, h6⟩; have H10 := Lib.hid (And.intro h1 (And.intro h5 (H9.out.2.trans h6.bel))); clear h1 h2 h3 h4 h5 h6))
            rw [show (n1 : Int) + (r : Int) - (n1 : Int) = (r : Int) by omega]
            obtain ⟨iS, hiS, hzS, hsS, hbS⟩ := info_parts infoStr
            have HiS := Lib.hid (And.intro hiS (And.intro hzS (And.intro hsS hbS)))
            have HTC := Lib.hid (fun (y : World) (hy : Below N w0 y) (i : Nat) (x : Bs) (hx : t[i]? = some x) => HC2.out y hy i x (by
              obtain ⟨u, hu⟩ := HXX.out.2.1
              rw [← hu, List.getElem?_append_left (List.getElem?_eq_some_iff.1 hx).1]
              exact hx))
            have hrc : r ≤ c2 := Nat.le_trans hr2 HCAP.out.1.2
            have HRR := Lib.hid hrc
            have h10 : N ≤ w10.heap.size := H10.out.1.sz
            clear hiS hzS hsS hbS
            refine (wpIn_wide (n := 1)).1 ?_
            refine RegK.wpIn_region_can (F := Fence.wide) (KeptW w10) [(0, 0), (1, 0), (2, 0), (3, 0), (4, 0), (5, 0), (6, 0), (7, 0), (8, 0), (9, 0), (10, 0), (12, 0), (13, 0), (14, 0), (15, 0), (11, 1), (16, 1), (17, 1), (18, 0), (19, 0)] (by kernel_rfl) (by kernel_rfl) (by kernel_rfl) (fun _ _ d _ _ h => by cases d <;> exact h) ⟨rfl, rfl, rfl, Nat.le_refl _, fun _ _ => rfl⟩ ?_
            dsimp only [RegK.pick, List.getElem?_cons_zero, List.getElem?_cons_succ]
            change RegK.Can _ _ _ _ _ _ _ _ w10.drew
            have hkd : KeptW w10 w10.drew := ⟨rfl, rfl, rfl, Nat.le_refl _, fun _ _ => rfl⟩
            generalize w10.drew = v8 at *
            iterate 15 (refine RegK.can_reads ?_; intro K hK; go_simp; (first | refine ⟨_, fun _ _ => rfl, hK _ ?_⟩ | refine hK _ ?_); clear hK K)
            refine RegK.can_turns (fun _ => trivial) ?_
            intro K K0 hK hK0
            rw [if_pos (by first | (simp [Region.wanted]; done) | (go_simp; done))]
            refine opIn_append_rd _ _ _ 52 rfl w10.heap.size 9 iS _ 1 16 Tryz.underlying52 HiS.out.1 HiS.out.2.1 HiS.out.2.2.1 HiS.out.2.2.2 rfl (by decide) (.slice none 0 0) 0 [] rfl (World.ownsRow_nil _ _ _ _) (.slice a1 n1 c1) n1 (encS e) rfl (by rw [← HL1.out.1]; simp [encS]) (arg_read (HC1.out v8 (H10.out.2.2.trans ((KeptW.bel hkd).mono h10))) HCAP.out.2.1) (encS_one _) (by unfold maxLen; omega) (by omega) (KeptW.bel hkd).size ?_
            intro v4 w14 ho4 hg4
            simp only [Nat.zero_add, List.nil_append] at ho4
            obtain ⟨a4, c4, rfl⟩ := own_slice_of ho4
            have hb4 : Below w10.heap.size w10 w14 := below_grown hg4 (KeptW.bel hkd) (KeptW.bel hkd).size (fun k e => by cases e)
            have w14k : KeptW w10 w14 := ⟨hb4.os, hb4.tape, hb4.output, hb4.size, fun g hg => hb4.block g hg⟩
            have H14 := Lib.hid (And.intro ho4 hb4)
            refine hK _ _ w14k ?_
            clear hK K hK0 K0 ho4 hg4 hb4
            refine RegK.can_turns (fun _ => trivial) ?_
            intro K K0 hK hK0
            rw [if_pos (by first | (simp [Region.wanted]; done) | (go_simp; done))]
            refine opIn_append_rd _ _ _ 52 rfl w10.heap.size 9 iS _ 1 16 Tryz.underlying52 HiS.out.1 HiS.out.2.1 HiS.out.2.2.1 HiS.out.2.2.2 rfl (by decide) (.slice a4 n1 c4) n1 (encS e) rfl H14.out.1 (.slice a2 r c2) r (encS t) rfl (by rw [HXX.out.2.2.1]; simp [encS]) (arg_read (HTC.out w14 (H10.out.2.2.trans (H14.out.2.mono h10))) (fun h => by have := HCAP.out.2.2 h; omega)) (encS_one _) (by unfold maxLen; omega) (by omega) H14.out.2.size ?_
            intro v5 w15 ho5 hg5
            obtain ⟨a5, c5, rfl⟩ := own_slice_of ho5
            have hb5 : Below w10.heap.size w10 w15 := below_grown hg5 H14.out.2 H14.out.2.size (fun k e => (own_at H14.out.1 e).1)
            have w15k : KeptW w10 w15 := ⟨hb5.os, hb5.tape, hb5.output, hb5.size, fun g hg => hb5.block g hg⟩
            have H15 := Lib.hid (show Calls Tryz.prog 33 #[.slice a3 (n1 + r) c3, .slice a5 (n1 + r) c5] w15 (fun e w' => e = .returned (.bool true) ∧ Below w15.heap.size w15 w') from by
              have h3 : w15.ownsRow w10.heap.size 9 1 (.slice a5 (n1 + r) c5) X.length (encS X) := by
                rw [← HXX.out.2.2.2, HXX.out.1, show encS (e ++ t) = encS e ++ encS t by simp [encS]]
                exact ho5
              have h2 := same3_any X X _ _ w15 (H10.out.2.1.below hb5).str (strS_own h3) (by rw [← HXX.out.2.2.2]; omega)
              rw [decide_eq_true rfl] at h2
              exact h2)
            refine hK _ _ w15k ?_
            clear hK K hK0 K0 ho5 hg5 hb5
            refine RegK.can_turns (fun _ => trivial) ?_
            intro K K0 hK hK0
            go_simp
            refine ⟨trivial, ?_⟩
            refine (callsIn_wide.2 (H15.out)).mono ?_
            rintro e v2 ⟨rfl, hb7⟩
            have v2k : KeptW w10 v2 := KeptW.mono w15k hb7
            refine hK _ _ v2k ?_
            clear hK K hK0 K0
            iterate 2 (refine RegK.can_reads ?_; intro K hK; go_simp; (first | refine ⟨_, fun _ _ => rfl, hK _ ?_⟩ | refine hK _ ?_); clear hK K)
            refine RegK.can_nil ?_
            have HV2 := Lib.hid (show Below w10.heap.size w10 v2 ∧ Below N w0 v2 from ⟨KeptW.bel v2k, H10.out.2.2.trans ((KeptW.bel v2k).mono h10)⟩)
            clear v2k w14k w15k hkd hb7
            have hcap3 : n1 + r ≤ c3 := own_cap H10.out.2.1.own
            go_upto_region 35 with fail
            obtain ⟨kk, hkk⟩ : ∃ kk : Int, kk = (n1 : Int) + (r : Int) - (n2 : Int) := ⟨_, rfl⟩
            rw [← hkk]
            by_cases hq : n2 ≤ n1 + r
            · obtain ⟨qq, hqq⟩ : ∃ qq, qq = n1 + r - n2 := ⟨_, rfl⟩
              have hkq : kk = (qq : Int) := by omega
              rw [hkq]
              have hql : qq < n1 + r := by omega
              have hstX : StrS v2 (.slice a3 (n1 + r) c3) X := (H10.out.2.1.below HV2.out.1).str
              have HD1 := Lib.hid (fun (k : Nat) (hk : k = (n1 + r) - qq) => hstX.drop (q := qq) hk (by omega))
              have hTK : StrS v2 (.slice a3 qq c3) (X.take qq) := by
                have h2 := hstX
                rw [HXX.out.2.2.2] at h2
                exact h2.take (by rw [← HXX.out.2.2.2]; omega)
              obtain ⟨dv, hdv⟩ : ∃ dv : Bool, dv = decide (X.drop qq = l) := ⟨_, rfl⟩
              have HSb := Lib.hid (fun (b' : Option Addr) (k c' : Nat) (hs : StrS v2 (.slice b' k c') (X.drop qq)) => (show Calls Tryz.prog 33 #[.slice b' k c', .slice a2 n2 c2] v2 (fun e w' => e = .returned (.bool dv) ∧ Below v2.heap.size v2 w') from by
                have h2 := same3_any (X.drop qq) l _ _ v2 hs ⟨a2, c2, by rw [HL2.out.1], fun i x hx => HC2.out v2 HV2.out.2 i x hx⟩ (by rw [List.length_drop, ← HXX.out.2.2.2]; omega)
                rw [← hdv] at h2
                exact h2))
              have HEN := Lib.hid (fun (y : World) (hy : Below v2.heap.size v2 y) => (show Calls Tryz.prog 34 #[.slice a3 qq c3, .slice a1 n1 c1] y (fun e w' => ∃ v : Bool, e = .returned (.bool v) ∧ Below y.heap.size y w') from (ends_any (X.take qq) e a3 a1 c3 c1 qq n1 (by rw [List.length_take, ← HXX.out.2.2.2]; omega) HL1.out.1.symm y (hTK.below hy) ⟨a1, c1, by rw [HL1.out.1], fun i x hx => HC1.out y (HV2.out.2.trans (hy.mono (Nat.le_trans (show N ≤ w0.heap.size by have := HNZ.out; omega) HV2.out.2.size))) i x hx⟩ HCAP.out.1.1 (by omega)).mono (by
                rintro e w' ⟨⟨v, rfl⟩, hb⟩
                exact ⟨v, rfl, hb⟩)))
              have hq0 : 0 ≤ qq := Nat.zero_le _
              have hqc : qq ≤ c3 := by omega
              have hqcn : ¬ (c3 - qq = 0) := by omega
              have hqcn2 : c3 ≠ qq := by omega
              have hn0v : N ≤ v2.heap.size := Nat.le_trans h10 HV2.out.1.size
              clear hkk hkq hqq hstX hTK hdv
              cases dv
              · go_wp2_with (first
                  | (go_at_call 33; (with_reducible refine (HSb.out _ _ _ ?_).mono ?_); exact HD1.out _ (by omega); rintro e w20 ⟨rfl, hb⟩; have HB20 := Lib.hid (HV2.out.2.trans (hb.mono hn0v)); clear hb)
                  | (go_at_call 31; (with_reducible refine (wakes05_any _ (HV.out.on HB20.out).here).mono ?_); rintro e w13 ⟨rfl, hb⟩; have H13 := Lib.hid ((HB20.out).trans (hb.mono (Nat.le_trans (show N ≤ w0.heap.size by have := HNZ.out; omega) (HB20.out).size))); clear hb))
                go_ret
                exact ⟨rfl, by rw [← HNZ.out]; exact H13.out⟩
              · go_wp2_with (first
                  | (go_at_call 33; (with_reducible refine (HSb.out _ _ _ ?_).mono ?_); exact HD1.out _ (by omega); rintro e w20 ⟨rfl, hb⟩; have HB20 := Lib.hid (And.intro hb (HV2.out.2.trans (hb.mono hn0v))); clear hb)
                  | (go_at_call 34; (with_reducible refine (HEN.out _ HB20.out.1).mono ?_); rintro e w21 ⟨vv, rfl, hb⟩; have HB21 := Lib.hid (HB20.out.2.trans (hb.mono (Nat.le_trans hn0v HB20.out.1.size))); clear hb)
                  | (go_at_call 31; (with_reducible refine (wakes05_any _ (HV.out.on HB21.out).here).mono ?_); rintro e w13 ⟨rfl, hb⟩; have H13 := Lib.hid ((HB21.out).trans (hb.mono (Nat.le_trans (show N ≤ w0.heap.size by have := HNZ.out; omega) (HB21.out).size))); clear hb))
                go_ret
                exact ⟨rfl, by rw [← HNZ.out]; exact H13.out⟩
            · have hkq : ¬ (0 ≤ kk) := by omega
              clear hkk
              go_wp2_with (first
                | (go_at_call 31; (with_reducible refine (wakes05_any _ (HV.out.on HV2.out.2).here).mono ?_); rintro e w13 ⟨rfl, hb⟩; have H13 := Lib.hid ((HV2.out.2).trans (hb.mono (Nat.le_trans (show N ≤ w0.heap.size by have := HNZ.out; omega) (HV2.out.2).size))); clear hb)
                | fail)
              go_ret
              exact ⟨rfl, by rw [← HNZ.out]; exact H13.out⟩
end Go.Proofs.YtogfladmgbldcaaGreatDoor
namespace Go.Proofs.YtogfladmgbldcaaGreatDoor
open Go.RowKit
theorem i64_high {n : Int} (h : (Lit.int .i64 n).wf = true) : n ≤ 9223372036854775807 := by
  have h' : -9223372036854775808 ≤ n ∧ n ≤ 9223372036854775807 := by simpa [Lit.wf, IntKind.min, IntKind.max, IntKind.signed, IntKind.bits] using h
  exact h'.2
theorem logRenews_row (a1 : Option Addr) (n1 c1 : Nat) (z1 : List ByteArray) (a2 : Option Addr) (n2 c2 : Nat) (z2 : List ByteArray) (f k : Int) {W : World} (hz1 : TxsI2 W a1 n1 c1 z1) (hz2 : TxsI2 W a2 n2 c2 z2) (hf : (Lit.int .i64 f).wf = true) (hk : (Lit.int .i64 k).wf = true) (hv : PV W) :
    Calls Tryz.prog 10 #[.slice a1 n1 c1, .slice a2 n2 c2, .int .i64 f, .int .i64 k] W fun e w' => e = .returned (.bool true) ∧ Below W.heap.size W w' :=
  logRenews_any a1 n1 c1 z1 a2 n2 c2 z2 f k (i64_high hf) (i64_high hk) hz1 hz2 hv
end Go.Proofs.YtogfladmgbldcaaGreatDoor
