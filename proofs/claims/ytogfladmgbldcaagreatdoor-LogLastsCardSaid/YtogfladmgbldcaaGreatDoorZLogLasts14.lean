/- Log: LogLasts' law. Condition: the library's variables hold what the program's text lays. -/
import Derived.Test.YtogfladmgbldcaaGreatDoorZLogLasts13
namespace Go.Proofs.YtogfladmgbldcaaGreatDoor
open Go.RowKit Go.Shelf
theorem few_take {l : List Bs} (h : Few l) (n : Nat) : Few (l.take n) := fun x hx => h x (List.take_subset _ _ hx)
theorem few_pre {X l : List Bs} (h : Few l) (hp : X <+: l) : Few X := fun x hx => h x (hp.subset hx)
theorem lo_openk {N p bb s c k : Nat} {K ls : List Nat} {D : DskV} {w : World} {X : List Bs} (h : LwV N p bb K ls D w) (hg : LgT D X s c) (hd : D.dead = false) (hk : k = X.length) :
    Calls Tryz.prog 26 #[.pointer (some ⟨p, 0, none⟩)] w fun e w' => ∃ l a ca q D', e = .returned (.tuple #[.pointer (some ⟨l, 0, none⟩), .slice a k ca, .int .i64 0]) ∧ LwV N p bb (l :: q :: K) (l :: ls) D' w' ∧ LgS D' X X.length c ∧ D'.dead = false ∧ D'.fuse = D.fuse ∧ GotR w.heap.size q (.slice a k ca) X w' ∧ Hd N K w w' := by
  refine (lo_open h hg hd).mono ?_
  rintro e w' ⟨l, v, q, D', rfl, h1, h2, h3, h4, h5, h6⟩
  obtain ⟨a, ca, rfl⟩ := own_slice_of h5.own
  rw [← hk] at h5 ⊢
  exact ⟨l, a, ca, q, D', rfl, h1, by rw [hk] at *; exact h2, h3, h4, h5, h6⟩
/-- A log between two records. -/
structure LaI (N p bb x q : Nat) (l : List Bs) (w : World) (sure i : Nat) (strict : Prop) (D : DskV) (s : Nat) (wr : World) : Prop where
  lw : LwV N p bb [x, q] [x] D wr
  bel : Below N w wr
  lg : LgS D (l.take i) s i
  dd : D.dead = false
  fz : (i < sure ∨ (i = sure ∧ strict)) → D.fuse = none
  sy : (sure < i ∨ (i = sure ∧ ¬ strict)) → sure ≤ s
set_option maxRecDepth 100000 in
set_option maxHeartbeats 16000000 in
theorem logLasts_any (a : Option Addr) (len cap : Nat) (z : List ByteArray) (sy : Nat) (hsy : sy < 256) (fuse keep : Int) (hfu : fuse ≤ 9223372036854775807) (hke : keep ≤ 9223372036854775807) {w : World} (hz : TxsIn w a len cap z) (hv0 : PV w) :
    Calls Tryz.prog 9 #[.slice a len cap, .int .u8 (sy : Int), .int .i64 fuse, .int .i64 keep] w fun e w' => e = .returned (.bool true) ∧ Below w.heap.size w w' := by
  obtain ⟨N, hN⟩ : ∃ N, N = w.heap.size := ⟨_, rfl⟩
  have HV := Lib.hid (show PVB N w from by rw [hN]; exact PVB.of hv0)
  have hN0 : N ≤ w.heap.size := by omega
  have HNZ := Lib.hid hN
  by_cases hlen : 60 < len
  · have hl : (60 : Int) < (len : Int) := by omega
    clear hz hlen hv0 hfu hke hN
    go_enter Tryz.func9, Tryz.ntmps9
    go_wp2_with (go_at_call 31; (with_reducible refine (wakes05_any _ HV.out.here).mono ?_); rintro e w5 ⟨rfl, hb⟩; have HB5 := Lib.hid hb; clear hb)
    go_ret
    exact ⟨rfl, HB5.out⟩
  have hl : ¬ ((60 : Int) < (len : Int)) := by omega
  have hlen6 : len ≤ 60 := by omega
  obtain ⟨l, hld⟩ : ∃ l : List Bs, l = z.map (fun x => x.data.toList) := ⟨_, rfl⟩
  have hst := hz.str
  rw [← hld] at hst
  have HL := Lib.hid hst
  have HC := Lib.hid (fun (y : World) (hy : Below N w y) (i : Nat) (x : Bs) (hx : l[i]? = some x) => (show ∃ b o, a = some ⟨b, o, none⟩ ∧ b < y.heap.size ∧ y.cell? ⟨b, o + i, none⟩ = some (.string ⟨x.toArray⟩) from by
    obtain ⟨b, o, h1, h2, h3⟩ := hst.2 i x hx
    exact ⟨b, o, h1, Nat.lt_of_lt_of_le h2 hy.size, (World.cell?_of_block (a := ⟨b, o + i, none⟩) (hy.block b (by omega))).trans h3⟩))
  have HCAP := Lib.hid hz.cap
  have HB := Lib.hid (And.intro hsy (And.intro hfu hke))
  clear hz hlen hv0 hfu hke hN hst hld hsy
  go_enter Tryz.func9, Tryz.ntmps9
  go_wp2
  go_loopw [9] (fun s9 wr => ∃ i : Nat, s9 = .int .i64 (i : Int) ∧ i ≤ len ∧ (∀ j x, j < i → l[j]? = some x → 1 ≤ x.length ∧ x.length ≤ 300) ∧ wr = w) (fun s9 _ => len - (intOf s9).toNat)
  case atStart => exact ⟨0, rfl, Nat.zero_le _, fun j x hj => by omega, rfl⟩
  case round =>
    obtain ⟨i, rfl, hi, hgood, rfl⟩ := hrel
    have HG := Lib.hid hgood
    clear hgood
    by_cases hin : i < len
    · have hiI : (i : Int) < (len : Int) := by omega
      have hil : i < l.length := by rw [HL.out.1]; exact hin
      obtain ⟨x, hx⟩ : ∃ x, x = l[i] := ⟨_, rfl⟩
      have hxs : l[i]? = some x := by rw [List.getElem?_eq_getElem hil, hx]
      obtain ⟨gb, go, rfl, hgb, hc⟩ := HC.out wr (Below.refl _ _) i x hxs
      obtain ⟨xb, hxb⟩ : ∃ xb : ByteArray, xb = ⟨x.toArray⟩ := ⟨_, rfl⟩
      have hxz : xb.size = x.length := by rw [hxb]; simp [ByteArray.size]
      rw [← hxb] at hc
      have hw1 : wrap64 ((i : Int) + 1) = ((i + 1 : Nat) : Int) := by unfold wrap64; omega
      have HX := Lib.hid (And.intro hxs (And.intro hxz hxb))
      clear hil hx hxs hgb hxb
      go_upto_region 6 with fail
      obtain ⟨bq, hbq⟩ : ∃ bq : Bool, bq = decide (x.length = 0 ∨ 300 < x.length) := ⟨_, rfl⟩
      have HBQ := Lib.hid hbq
      clear hbq
      go_cut [48] (fun s48 wx => s48 = .bool bq ∧ wx = wr)
      case first =>
        by_cases h0 : x.length = 0
        · have hxe : xb = ⟨#[]⟩ := by rw [HX.out.2.2, List.length_eq_zero_iff.1 h0]
          have HBT := Lib.hid (show bq = true from by rw [HBQ.out]; exact decide_eq_true (.inl h0))
          clear h0
          rw [hxe] at hc
          clear hxe hxz
          go_wp2_with fail
          go_meet
          exact ⟨by rw [HBT.out], rfl⟩
        · have hcm := bs_beq xb ⟨#[]⟩
          have hne : xb.data.toList ≠ [] := fun e => h0 (by rw [← hxz]; show xb.data.size = 0; rw [← Array.length_toList, e]; rfl)
          have hem : xb.toList.isEmpty = false := by rw [Lib.toList_data, List.isEmpty_eq_false_iff]; exact hne
          have HBT := Lib.hid (show bq = decide (300 < x.length) from by rw [HBQ.out]; simp [h0])
          clear h0 hne
          by_cases h3 : 300 < x.length
          · have h3' : 300 < xb.size := by omega
            have HB3 := Lib.hid h3
            clear h3 hxz
            go_wp2_with fail
            go_meet
            exact ⟨by rw [HBT.out, decide_eq_true HB3.out]; congr 1; exact decide_eq_true (by omega), rfl⟩
          · have h3' : ¬ (300 < xb.size) := by omega
            have HB3 := Lib.hid h3
            clear h3 hxz
            go_wp2_with fail
            go_meet
            exact ⟨by rw [HBT.out, decide_eq_false HB3.out]; congr 1; exact decide_eq_false (by omega), rfl⟩
      case rest =>
        obtain ⟨rfl, rfl⟩ := hcut
        cases bq
        case true =>
          go_wp2_with (go_at_call 31; (with_reducible refine (wakes05_any _ HV.out.here).mono ?_); rintro e w5 ⟨rfl, hb⟩; have HB5 := Lib.hid hb; clear hb)
          go_ret
          exact ⟨rfl, by rw [← HNZ.out]; exact HB5.out.mono (by have := HNZ.out; omega)⟩
        case false =>
          go_wp2
          refine ⟨⟨i + 1, by rw [Int.natCast_add]; rfl, by omega, fun j y hj hy => ?_, by first | rfl | trivial⟩, by simp only [intOf]; omega⟩
          by_cases hji : j = i
          · subst hji
            have h1 := of_decide_eq_false HBQ.out.symm
            rw [HX.out.1] at hy
            cases hy
            omega
          · exact HG.out j y (by omega) hy
    · have hiI : ¬ (i : Int) < (len : Int) := by omega
      obtain rfl : i = len := by omega
      have HFW := Lib.hid (show Few l from fun y hy => by
        obtain ⟨j, hj⟩ := List.getElem?_of_mem hy
        exact HG.out j y (by rw [← HL.out.1]; exact (List.getElem?_eq_some_iff.1 hj).1) hj)
      clear HG hi hin
      obtain ⟨len, hlenE⟩ : ∃ len, len = i := ⟨_, rfl⟩
      rw [← hlenE] at HL HCAP hlen6 hiI ⊢
      clear hlenE
      obtain ⟨w0, rfl⟩ : ∃ w0, w0 = wr := ⟨_, rfl⟩
      have Hop := Lib.hid (fun (p bb : Nat) (y : World) (h : LwV N p bb [] [] dsk0 y) => lo_open (s := 0) (c := 0) (X := []) h (.inl ⟨lg00, rfl, rfl⟩) rfl)
      go_upto_region 13 with (first
        | (go_at_call 16; (with_reducible refine (lo_new N _ HV.out (by have := HNZ.out; omega)).mono ?_); rintro e w1 ⟨p, bb, rfl, hd, hb⟩; have H1 := Lib.hid (And.intro hd hb); clear hd hb)
        | (go_at_call 26; (with_reducible refine (Hop.out p bb _ H1.out.1).mono ?_); rintro e w2 ⟨x, v0, q, D0, rfl, h1, h2, h3, h4, h5, h6⟩
           obtain ⟨a0, c0, rfl⟩ := own_slice_of h5.own
           have H2 := Lib.hid (And.intro h1 (And.intro (H1.out.2.trans h6.bel) (And.intro h2 (And.intro h3 h4)))); clear h1 h2 h3 h4 h5 h6))
      obtain ⟨sure, hsu⟩ : ∃ sure, sure = sy % (len + 1) := ⟨_, rfl⟩
      have hsv : (wrap64 (sy : Int)).tmod ((len : Int) + 1) = (sure : Int) := by
        have h1 : wrap64 (sy : Int) = (sy : Int) := by have := HB.out.1; unfold wrap64; omega
        rw [h1, Int.tmod_eq_emod_of_nonneg (by omega), hsu]
        push_cast
        rfl
      have hsl : sure ≤ len := by rw [hsu]; exact Nat.le_of_lt_succ (Nat.mod_lt _ (Nat.succ_pos _))
      rw [hsv]
      clear hsv hsu Hop
      have hI0 : LaI N p bb x q l w0 sure 0 True D0 0 w2 := ⟨H2.out.1, H2.out.2.1, H2.out.2.2.1, H2.out.2.2.2.1, fun _ => H2.out.2.2.2.2, fun h => h.elim (fun h => absurd h (by omega)) (fun h => (h.2 trivial).elim)⟩
      have HI0 := Lib.hid hI0
      clear hI0
      go_wp2
      go_loopw [15, 16] (fun s15 s16 wy => ∃ (i : Nat) (D : DskV) (s : Nat), s16 = .int .i64 (i : Int) ∧ s15 = .int .i64 (i : Int) ∧ i ≤ len ∧ LaI N p bb x q l w0 sure i True D s wy) (fun _ s16 _ => len - (intOf s16).toNat)
      case atStart => exact ⟨0, D0, 0, rfl, rfl, Nat.zero_le _, HI0.out⟩
      case round =>
        clear HI0
        obtain ⟨i, D, s, rfl, rfl, hi, hI⟩ := hrel
        have HI := Lib.hid hI
        clear hI
        by_cases hin : i < len
        · have hiI : (i : Int) < (len : Int) := by omega
          have hil : i < l.length := by rw [HL.out.1]; exact hin
          obtain ⟨r, hr⟩ : ∃ r, r = l[i] := ⟨_, rfl⟩
          have hrs : l[i]? = some r := by rw [List.getElem?_eq_getElem hil, hr]
          have hrf := HFW.out r (by rw [hr]; exact List.getElem_mem hil)
          obtain ⟨gb, go, rfl, hgb, -⟩ := HC.out w0 (Below.refl _ _) i r hrs
          have htk : l.take (i + 1) = l.take i ++ [r] := by rw [List.take_add_one, hrs]; rfl
          have hw1 : wrap64 ((i : Int) + 1) = ((i + 1 : Nat) : Int) := by unfold wrap64; omega
          have HX := Lib.hid (And.intro hrs (And.intro hrf htk))
          clear hil hr hrs hrf hgb htk
          go_upto_if 77 with fail
          go_cut [77] (fun _ wx => ∃ D s, LaI N p bb x q l w0 sure i False D s wx)
          case first =>
            by_cases his : i = sure
            · obtain ⟨D1, e1, g1, d1, f1⟩ := lgs_sync HI.out.lg HI.out.dd
              have Hsy := Lib.hid (lo_sync (l := x) (by simp) HI.out.lw HI.out.lg.t e1)
              have Hfu := Lib.hid (fun (y : World) (h : LwV N p bb [x, q] [x] D1 y) => lo_fuse h d1 fuse HB.out.2.1)
              have HG := Lib.hid (And.intro g1 d1)
              have hlx : (l.take i).length = i := by rw [List.length_take, HL.out.1]; omega
              have HLX := Lib.hid hlx
              clear e1 g1 d1 f1 hlx
              subst his
              go_wp2_with (first
                | (go_at_call 28; (with_reducible refine Hsy.out.mono ?_); rintro e w5 ⟨rfl, h1, h2⟩; have H5 := Lib.hid (And.intro h1 h2); clear h1 h2)
                | (go_at_call 21; (with_reducible refine (Hfu.out _ H5.out.1).mono ?_); rintro e w6 ⟨D2, rfl, h1, h2, h3, h4, h5⟩; have H6 := Lib.hid (And.intro h1 (And.intro h2 (And.intro h3 (And.intro h4 h5)))); clear h1 h2 h3 h4 h5))
              go_meet
              obtain ⟨h1, h2, h3, h4, h5⟩ := H6.out
              refine ⟨D2, (l.take i).length, ⟨h4, HI.out.bel.trans (H5.out.2.bel.trans h5.bel), HG.out.1.same h1 h2, h3, fun h => ?_, fun _ => by rw [HLX.out]; exact Nat.le_refl _⟩⟩
              rcases h with h | ⟨_, h⟩
              · omega
              · exact h.elim
            · have hne : ((i : Int) == (sure : Int)) = false := by rw [beq_eq_false_iff_ne]; omega
              have HN := Lib.hid his
              clear his
              go_wp2_with fail
              go_meet
              have his := HN.out
              exact ⟨D, s, ⟨HI.out.lw, HI.out.bel, HI.out.lg, HI.out.dd, fun h => HI.out.fz (.inl (h.elim id (fun h => h.2.elim))), fun h => HI.out.sy (.inl (h.elim id (fun h => (his h.1).elim)))⟩⟩
          case rest =>
            clear HI
            obtain ⟨D, s, hI⟩ := hcut
            obtain ⟨rb, hrb⟩ : ∃ rb : ByteArray, rb = ⟨r.toArray⟩ := ⟨_, rfl⟩
            have hrbl : rb.data.toList = r := by rw [hrb]
            have hrbs : rb.size ≤ 1000000 := by
              show rb.data.size ≤ _
              rw [← Array.length_toList, hrbl]
              have := HX.out.2.1.2
              omega
            obtain ⟨gb2, go2, hge, hgl, hgc⟩ := HC.out wc hI.bel i r HX.out.1
            injection hge with hge
            injection hge with hg1 hg2
            subst hg1 hg2
            rw [← hrb] at hgc
            have hroom : (frL r).length + (frsL (l.take i)).length ≤ 4194304 := by
              have h1 := few_len _ (few_take HFW.out i)
              have h2 := frL_len r
              have h3 := (numL_len r.length).1
              have h4 := HX.out.2.1.2
              rw [List.length_take] at h1
              omega
            have hok : frOk r := ⟨HX.out.2.1.1, by have := HX.out.2.1.2; omega⟩
            rcases lgs_add hI.lg hI.dd (by omega) hok hroom with ⟨D', s', e1, g1, k1, d1, f1⟩ | ⟨D', X, s', e1, g1, p1, p2, k1, d1, f1, n1⟩
            · have Had := Lib.hid (lo_add (l := x) (by simp) hI.lw hI.lg.t (by omega) rb hrbs (show laddD D rb.data.toList = (D', 0) from by rw [hrbl]; exact e1))
              have HG := Lib.hid (And.intro g1 (And.intro k1 (And.intro d1 f1)))
              have HI := Lib.hid hI
              clear e1 g1 k1 d1 f1 hI hrb hrbl hrbs hgl hroom hok
              go_wp2_with (go_at_call 27; (with_reducible refine Had.out.mono ?_); rintro e w7 ⟨rfl, h1, h2⟩; have H7 := Lib.hid (And.intro h1 h2); clear h1 h2)
              refine ⟨⟨i + 1, D', s', by rw [Int.natCast_add]; rfl, by rw [Int.natCast_add]; rfl, by omega, ⟨H7.out.1, HI.out.bel.trans H7.out.2.bel, by rw [HX.out.2.2]; exact HG.out.1, HG.out.2.2.1, fun h => HG.out.2.2.2 (HI.out.fz (.inl ?_)), fun h => Nat.le_trans (HI.out.sy ?_) HG.out.2.1⟩⟩, by simp only [intOf]; omega⟩
              · rcases h with h | ⟨h, _⟩ <;> omega
              · rcases h with h | ⟨_, h⟩
                · rcases Nat.lt_or_ge sure i with h2 | h2
                  · exact .inl h2
                  · exact .inr ⟨by omega, fun h => h⟩
                · exact (h trivial).elim
            · have Had := Lib.hid (lo_add (l := x) (by simp) hI.lw hI.lg.t (by omega) rb hrbs (show laddD D rb.data.toList = (D', 9) from by rw [hrbl]; exact e1))
              have hsi : sure ≤ i := by
                rcases Nat.lt_or_ge i sure with h2 | h2
                · exact (n1 (hI.fz (.inl h2))).elim
                · exact h2
              have hss : sure ≤ s' := Nat.le_trans (hI.sy (by
                rcases Nat.lt_or_ge sure i with h2 | h2
                · exact .inl h2
                · exact .inr ⟨by omega, fun h => h⟩)) k1
              have hXp : X <+: l := p2.trans (by rw [← HX.out.2.2]; exact List.take_prefix _ _)
              have hXl : X.length ≤ i + 1 := by have := p2.length_le; rw [← HX.out.2.2, List.length_take] at this; omega
              have HG := Lib.hid (And.intro (g1.wide (c' := 61) (by omega)) (And.intro hXp (And.intro hss (And.intro hXl f1))))
              have hne1 : ¬ (i < sure) := by omega
              have hne2 : ((sure : Int) == (len : Int)) = false := by rw [beq_eq_false_iff_ne]; omega
              have HDD := Lib.hid d1
              have HI := Lib.hid hI
              clear e1 g1 p1 p2 k1 d1 f1 n1 hI hrb hrbl hrbs hgl hroom hok hss hXp hXl
              go_upto_region 31 with (first
                | (go_at_call 27; (with_reducible refine Had.out.mono ?_); rintro e w7 ⟨rfl, h1, h2⟩; have H7 := Lib.hid (And.intro h1 h2); clear h1 h2)
                | (go_at_call 22; (with_reducible refine (lw_dead H7.out.1.lw).mono ?_); rw [HDD.out]; rintro e w8 ⟨rfl, rfl⟩))
              have hai : (i : Int) + 1 = ((i + 1 : Nat) : Int) := (Int.natCast_add i 1).symm
              rw [hai]
              obtain ⟨ad, had⟩ : ∃ ad, ad = i + 1 := ⟨_, rfl⟩
              rw [← had]
              have HT := Lib.hid (show LwV N p bb [x, q] [x] D' w7 ∧ Below N w0 w7 ∧ LgT D' X s' 61 ∧ X <+: l ∧ sure ≤ s' ∧ X.length ≤ ad ∧ D'.fuse = none from ⟨H7.out.1, HI.out.bel.trans H7.out.2.bel, HG.out.1, HG.out.2.1, HG.out.2.2.1, by rw [had]; exact HG.out.2.2.2.1, HG.out.2.2.2.2⟩)
              clear hai had hsi hne1 hne2 Had HG HI HDD HX
              obtain ⟨D, rfl⟩ : ∃ D, D = D' := ⟨_, rfl⟩
              obtain ⟨s, rfl⟩ : ∃ s, s = s' := ⟨_, rfl⟩
              obtain ⟨k, hk⟩ : ∃ k, k = X.length := ⟨_, rfl⟩
              obtain ⟨D1, hD1⟩ : ∃ D1 : DskV, D1 = { D with dead := false } := ⟨_, rfl⟩
              have HD1 := Lib.hid (show LgT D1 X s 61 ∧ D1.dead = false ∧ D1.fuse = none from by rw [hD1]; exact ⟨HT.out.2.2.1.same rfl rfl, rfl, HT.out.2.2.2.2.2.2⟩)
              have Hst := Lib.hid (by have h2 := lo_start HT.out.1; rw [← hD1] at h2; exact h2)
              have Hop1 := Lib.hid (fun (y : World) (h : LwV N p bb [x, q] [x] D1 y) => lo_openk h HD1.out.1 HD1.out.2.1 hk)
              have Hop2 := Lib.hid (fun (l1 q1 : Nat) (D2 : DskV) (h2 : LgS D2 X X.length 61) (d2 : D2.dead = false) (y : World) (h : LwV N p bb [l1, q1, x, q] [l1, x] D2 y) => lo_openk h h2.t d2 hk)
              have hkl : k ≤ len := by rw [hk, ← HL.out.1]; exact HT.out.2.2.2.1.length_le
              have hkc : k ≤ cap := Nat.le_trans hkl HCAP.out
              have hks : ¬ (k < sure) := by rw [hk]; have := HT.out.2.2.1.le; have := HT.out.2.2.2.2.1; omega
              have hka : ¬ (ad < k) := by rw [hk]; have := HT.out.2.2.2.2.2.1; omega
              have HK := Lib.hid hk
              clear hk hD1
              go_upto_region 34 with (first
                | (go_at_call 24; (with_reducible refine Hst.out.mono ?_); rintro e w20 ⟨rfl, h1, h2⟩; have H20 := Lib.hid (And.intro h1 (HT.out.2.1.trans h2.bel)); clear h1 h2)
                | (go_at_call 26; (with_reducible refine (Hop1.out _ H20.out.1).mono ?_); rintro e w21 ⟨l1, a1, c1, q1, D2, rfl, h1, h2, h3, h4, h5, h6⟩; have H21 := Lib.hid (And.intro h1 (And.intro h2 (And.intro h3 (And.intro h4 (And.intro h5 (H20.out.2.trans h6.bel)))))); clear h1 h2 h3 h4 h5 h6)
                | (go_at_call 26; (with_reducible refine (Hop2.out l1 q1 D2 H21.out.2.1 H21.out.2.2.1 _ H21.out.1).mono ?_); rintro e w22 ⟨l2, a2, c2, q2, D3, rfl, h1, h2, h3, h4, h5, h6⟩; have H22 := Lib.hid (And.intro h1 (And.intro h2 (And.intro h3 (And.intro (h4.trans (H21.out.2.2.2.1.trans HD1.out.2.2)) (And.intro h5 (And.intro (H21.out.2.2.2.2.1.hd h6 (by simp)) (H21.out.2.2.2.2.2.trans h6.bel))))))); clear h1 h2 h3 h4 h5 h6))
              have HKL := Lib.hid (And.intro hkl (show X.length ≤ 1000000 from by rw [← HK.out]; omega))
              have HS1 := Lib.hid (fun (y : World) (hy : Below w22.heap.size w22 y) => (show Calls Tryz.prog 33 #[.slice a1 k c1, .slice (some ⟨gb, go, none⟩) k cap] y (fun e w' => e = .returned (.bool true) ∧ Below y.heap.size y w') from by
                have hbel := H22.out.2.2.2.2.2.2.trans (hy.mono H22.out.1.sz)
                have h2 := same3_any X X (.slice a1 k c1) (.slice (some ⟨gb, go, none⟩) k cap) y (H22.out.2.2.2.2.2.1.below hy).str ⟨(some ⟨gb, go, none⟩), cap, by rw [HK.out], fun i x hx => HC.out y hbel i x (by
                  obtain ⟨t, ht⟩ := HT.out.2.2.2.1
                  rw [← ht, List.getElem?_append_left (List.getElem?_eq_some_iff.1 hx).1]
                  exact hx)⟩ HKL.out.2
                rw [decide_eq_true rfl] at h2
                exact h2))
              have HS2 := Lib.hid (fun (y : World) (hy : Below w22.heap.size w22 y) => (show Calls Tryz.prog 33 #[.slice a2 k c2, .slice a1 k c1] y (fun e w' => e = .returned (.bool true) ∧ Below y.heap.size y w') from by
                have h2 := same3_any X X (.slice a2 k c2) (.slice a1 k c1) y (H22.out.2.2.2.2.1.below hy).str (H22.out.2.2.2.2.2.1.below hy).str HKL.out.2
                rw [decide_eq_true rfl] at h2
                exact h2))
              obtain ⟨D4, s4, e4, g4, -, d4, f4⟩ : ∃ D4 s4, laddD D3 [109, 111, 114, 101] = (D4, 0) ∧ LgS D4 (X ++ [[109, 111, 114, 101]]) s4 62 ∧ X.length ≤ s4 ∧ D4.dead = false ∧ D4.fuse = none := by
                have hroom : (frL [109, 111, 114, 101]).length + (frsL X).length ≤ 4194304 := by
                  have h1 := few_len X (few_pre HFW.out HT.out.2.2.2.1)
                  have h2 := frL_len [109, 111, 114, 101]
                  have h3 := (numL_len ([109, 111, 114, 101] : Bs).length).1
                  have h4 := HKL.out.1
                  rw [HK.out] at h4
                  have h5 : ([109, 111, 114, 101] : Bs).length = 4 := rfl
                  rw [h5] at h2 h3
                  omega
                rcases lgs_add H22.out.2.1 H22.out.2.2.1 (by decide) (r := [109, 111, 114, 101]) ⟨by decide, by decide⟩ hroom with ⟨D', s', e1, g1, k1, d1, f1⟩ | ⟨D', X', s', e1, g1, p1, p2, k1, d1, f1, n1⟩
                · exact ⟨D', s', e1, g1, k1, d1, f1 H22.out.2.2.2.1⟩
                · exact (n1 H22.out.2.2.2.1).elim
              obtain ⟨D5, e5, g5, d5, f5⟩ := lgs_sync g4 d4
              have Had := Lib.hid (fun (y : World) (h : LwV N p bb [l2, q2, l1, q1, x, q] [l2, l1, x] D3 y) => (show Calls Tryz.prog 27 #[.pointer (some ⟨l2, 0, none⟩), .string ⟨#[109, 111, 114, 101]⟩] y (fun e w' => e = .returned (.int .i64 0) ∧ LwV N p bb [l2, q2, l1, q1, x, q] [l2, l1, x] D4 w' ∧ Hd N [l2, q2, l1, q1, x, q] y w') from lo_add (l := l2) (by simp) h H22.out.2.1.t (by decide) ⟨#[109, 111, 114, 101]⟩ (by decide) e4))
              have Hsy := Lib.hid (fun (y : World) (h : LwV N p bb [l2, q2, l1, q1, x, q] [l2, l1, x] D4 y) => (show Calls Tryz.prog 28 #[.pointer (some ⟨l2, 0, none⟩)] y (fun e w' => e = .returned (.int .i64 0) ∧ LwV N p bb [l2, q2, l1, q1, x, q] [l2, l1, x] D5 w' ∧ Hd N [l2, q2, l1, q1, x, q] y w') from lo_sync (l := l2) (by simp) h g4.t e5))
              have Hop3 := Lib.hid (fun (y : World) (h : LwV N p bb [l2, q2, l1, q1, x, q] [l2, l1, x] D5 y) => lo_openk (k := k + 1) h g5.t d5 (by rw [List.length_append, HK.out]; rfl))
              have HK1 := Lib.hid (show ¬ (k < sure) ∧ ¬ (ad < k) from ⟨hks, hka⟩)
              clear e4 g4 d4 f4 e5 g5 d5 f5
              go_upto_region 39 with (first
                | (go_at_call 33; (with_reducible refine (HS1.out _ (Below.refl _ _)).mono ?_); rintro e w23 ⟨rfl, hb⟩; have HB23 := Lib.hid hb; clear hb)
                | (go_at_call 33; (with_reducible refine (HS2.out _ HB23.out).mono ?_); rintro e w24 ⟨rfl, hb⟩; have HB24 := Lib.hid (HB23.out.trans (hb.mono HB23.out.size)); have H24 := Lib.hid (And.intro (H22.out.1.below HB24.out) (And.intro (H22.out.2.2.2.2.2.1.below HB24.out) (H22.out.2.2.2.2.2.2.trans (HB24.out.mono H22.out.1.sz)))); clear hb)
                | (go_at_call 27; (with_reducible refine (Had.out _ H24.out.1).mono ?_); rintro e w25 ⟨rfl, h1, h2⟩; have H25 := Lib.hid (And.intro h1 (And.intro (H24.out.2.1.hd h2 (by simp)) (H24.out.2.2.trans h2.bel))); clear h1 h2)
                | (go_at_call 28; (with_reducible refine (Hsy.out _ H25.out.1).mono ?_); rintro e w26 ⟨rfl, h1, h2⟩; have H26 := Lib.hid (And.intro h1 (And.intro (H25.out.2.1.hd h2 (by simp)) (H25.out.2.2.trans h2.bel))); clear h1 h2)
                | (go_at_call 26; (with_reducible refine (Hop3.out _ H26.out.1).mono ?_); rintro e w27 ⟨l3, a3, c3, q3, D6, rfl, h1, h2, h3, h4, h5, h6⟩; have H27 := Lib.hid (And.intro h1 (And.intro h5 (And.intro (H26.out.2.1.hd h6 (by simp)) (H26.out.2.2.trans h6.bel)))); clear h1 h2 h3 h4 h5 h6))
              obtain ⟨iS, hiS, hzS, hsS, hbS⟩ := info_parts infoStr
              have HiS := Lib.hid (And.intro hiS (And.intro hzS (And.intro hsS hbS)))
              clear hiS hzS hsS hbS
              have hk6 : k ≤ 60 := by have := HKL.out.1; omega
              have HA1 := Lib.hid (show (encS X).length = k * 1 ∧ ((.slice a1 k c1 : Value) = .slice none 0 0 ∧ k = 0 ∨ ∃ ad c, (.slice a1 k c1 : Value) = .slice (some ad) k c ∧ ∀ j u, (encS X)[j]? = some u → w27.cell? (ad.add j) = some u) ∧ 0 + k ≤ maxLen ∧ (0 + k) * 16 ≤ 140737488355328 from ⟨by rw [HK.out]; simp [encS], by
                have h2 := own_read H27.out.2.2.1.own
                rw [← HK.out] at h2
                exact h2, by unfold maxLen; omega, by omega⟩)
              go_wp2_with (first
                | ((with_reducible refine wpList_append_grd _ _ 52 rfl ?_ w27.heap.size 9 iS _ 1 16 Tryz.underlying52 HiS.out.1 HiS.out.2.1 HiS.out.2.2.1 HiS.out.2.2.2 rfl ?_ (.slice none 0 0) 0 [] rfl (World.ownsRow_nil _ _ _ _) (.slice a1 k c1) k (encS X) rfl HA1.out.1 HA1.out.2.1 (encS_one _) HA1.out.2.2.1 HA1.out.2.2.2 (Nat.le_refl _) ?_); exact (Eq.refl true); exact Nat.zero_lt_one; intro v4 w28 ho4 hg4; simp only [Nat.zero_add, List.nil_append] at ho4; obtain ⟨a4, c4, rfl⟩ := own_slice_of ho4
                   have hb28 := below_grown hg4 (Below.refl w27.heap.size w27) (Nat.le_refl _) (fun k e => by cases e)
                   have H28 := Lib.hid (And.intro ho4 hb28)
                   have HA2 := Lib.hid (show ([.string ⟨#[109, 111, 114, 101]⟩] : List Value).length = 1 * 1 ∧ (((.slice (some ⟨w28.heap.size, 0, none⟩) 1 1 : Value) = .slice none 0 0 ∧ 1 = 0) ∨ ∃ ad c, (.slice (some ⟨w28.heap.size, 0, none⟩) 1 1 : Value) = .slice (some ad) 1 c ∧ ∀ j u, ([.string ⟨#[109, 111, 114, 101]⟩] : List Value)[j]? = some u → (w28.alloc (.cells #[.string ⟨#[109, 111, 114, 101]⟩] 9)).cell? (ad.add j) = some u) ∧ k + 1 ≤ maxLen ∧ (k + 1) * 16 ≤ 140737488355328 ∧ w27.heap.size ≤ (w28.alloc (.cells #[.string ⟨#[109, 111, 114, 101]⟩] 9)).heap.size ∧ (∀ u ∈ ([.string ⟨#[109, 111, 114, 101]⟩] : List Value), u.oneCell' = true) from
                     ⟨rfl, .inr ⟨_, 1, rfl, cells_newF w28 [.string ⟨#[109, 111, 114, 101]⟩] _⟩, by unfold maxLen; omega, by omega, by have := hb28.size; simp; omega, fun u hu => by simp at hu; subst hu; rfl⟩)
                   clear ho4 hg4 hb28)
                | ((with_reducible refine wpList_append_grd _ _ 52 rfl ?_ w27.heap.size 9 iS _ 1 16 Tryz.underlying52 HiS.out.1 HiS.out.2.1 HiS.out.2.2.1 HiS.out.2.2.2 rfl ?_ (.slice a4 k c4) k (encS X) rfl (World.ownsRow.alloc H28.out.1 _) (.slice (some ⟨w28.heap.size, 0, none⟩) 1 1) 1 [.string ⟨#[109, 111, 114, 101]⟩] rfl HA2.out.1 HA2.out.2.1 HA2.out.2.2.2.2.2 HA2.out.2.2.1 HA2.out.2.2.2.1 HA2.out.2.2.2.2.1 ?_); exact (Eq.refl true); exact Nat.zero_lt_one; intro v5 w29 ho5 hg5; obtain ⟨a5, c5, rfl⟩ := own_slice_of ho5
                   have hb29 : Below w27.heap.size w27 w29 := below_grown hg5 (H28.out.2.alloc H28.out.2.size _) (by have := H28.out.2.size; simp; omega) (fun k e => (own_at H28.out.1 e).1)
                   have HS3 := Lib.hid (show Calls Tryz.prog 33 #[.slice a3 (k + 1) c3, .slice a5 (k + 1) c5] w29 (fun e w' => e = .returned (.bool true) ∧ Below w29.heap.size w29 w') from by
                     have hl1 : (X ++ [[109, 111, 114, 101]]).length = k + 1 := by rw [List.length_append, HK.out]; rfl
                     have h3 : w29.ownsRow w27.heap.size 9 1 (.slice a5 (k + 1) c5) (X ++ [[109, 111, 114, 101]]).length (encS (X ++ [[109, 111, 114, 101]])) := by
                       rw [hl1, show encS (X ++ [[109, 111, 114, 101]]) = encS X ++ [.string ⟨#[109, 111, 114, 101]⟩] by simp [encS, encStr]]
                       exact ho5
                     have h2 := same3_any _ _ _ _ w29 (H27.out.2.1.below hb29).str (strS_own h3) (by rw [hl1]; omega)
                     rw [decide_eq_true rfl] at h2
                     exact h2)
                   have HB29 := Lib.hid hb29
                   clear ho5 hg5 hb29)
                | (go_at_call 33; (with_reducible refine HS3.out.mono ?_); rintro e w30 ⟨rfl, hb⟩; have HB30 := Lib.hid (H27.out.2.2.2.trans ((HB29.out.mono H27.out.1.sz).trans (hb.mono (Nat.le_trans H27.out.1.sz HB29.out.size)))); clear hb)
                | (go_at_call 31; (with_reducible refine (wakes05_any _ (HV.out.on HB30.out).here).mono ?_); rintro e w31 ⟨rfl, hb⟩; have HB31 := Lib.hid (HB30.out.trans (hb.mono (Nat.le_trans (show N ≤ w0.heap.size by have := HNZ.out; omega) HB30.out.size))); clear hb))
              go_ret
              exact ⟨rfl, by rw [← HNZ.out]; exact HB31.out⟩
        · have hiI : ¬ (i : Int) < (len : Int) := by omega
          have hil : i = len := by omega
          have htk : l.take i = l := by rw [hil, ← HL.out.1, List.take_length]
          have hI := HI.out
          have hgA := hI.lg
          rw [htk] at hgA
          have hIA := Lib.hid (show LwV N p bb [x, q] [x] D wr ∧ Below N w0 wr ∧ LgS D l s 60 ∧ D.dead = false ∧ (sure < len → sure ≤ s) from ⟨hI.lw, hI.bel, hgA.wide (by omega), hI.dd, fun h => hI.sy (.inl (by omega))⟩)
          clear hI hgA htk HI
          subst hil
          have hne1 : ¬ (i < sure) := by omega
          go_upto_region 27 with fail
          go_cut [110] (fun s110 wx => s110 = .bool false ∧ ∃ D s, LwV N p bb [x, q] [x] D wx ∧ Below N w0 wx ∧ LgS D l s 60 ∧ D.dead = false ∧ sure ≤ s)
          case first =>
            by_cases hse : sure = i
            · obtain ⟨D1, e1, g1, d1, f1⟩ := lgs_sync hIA.out.2.2.1 hIA.out.2.2.2.1
              have Hsy := Lib.hid (lo_sync (l := x) (by simp) hIA.out.1 hIA.out.2.2.1.t e1)
              have HG := Lib.hid (And.intro g1 d1)
              clear e1 g1 d1 f1
              subst hse
              go_wp2_with (go_at_call 28; (with_reducible refine Hsy.out.mono ?_); rintro e w5 ⟨rfl, h1, h2⟩; have H5 := Lib.hid (And.intro h1 h2); clear h1 h2)
              go_meet
              exact ⟨rfl, D1, l.length, H5.out.1, hIA.out.2.1.trans H5.out.2.bel, HG.out.1, HG.out.2, by rw [HL.out.1]; exact Nat.le_refl _⟩
            · have hne : ((sure : Int) == (i : Int)) = false := by rw [beq_eq_false_iff_ne]; omega
              have HN := Lib.hid (show sure < i by omega)
              clear hse
              go_wp2_with fail
              go_meet
              exact ⟨rfl, D, s, hIA.out.1, hIA.out.2.1, hIA.out.2.2.1, hIA.out.2.2.2.1, hIA.out.2.2.2.2 HN.out⟩
          case rest =>
            clear hIA
            obtain ⟨rfl, D, s, hlw, hbel, hlg, hdd, hss⟩ := hcut
            have Hcr := Lib.hid (lo_crash hlw hlg hdd keep HB.out.2.2)
            have Hde := Lib.hid (by have h2 := lw_dead hlw.lw; rw [hdd] at h2; exact h2)
            have HS5 := Lib.hid (And.intro hbel hss)
            clear hlw hbel hlg hdd hss
            go_upto_region 31 with (first
              | (go_at_call 22; (with_reducible refine Hde.out.mono ?_); rintro e w8 ⟨rfl, rfl⟩)
              | (go_at_call 23; (with_reducible refine Hcr.out.mono ?_); rintro e w7 ⟨D', X, rfl, h1, h2, h3, h4, h5, h6, h7⟩; have H7 := Lib.hid (And.intro h1 (And.intro h2 (And.intro h3 (And.intro h4 (And.intro h5 (And.intro h6 h7)))))); clear h1 h2 h3 h4 h5 h6 h7))
            have HT := Lib.hid (show LwV N p bb [x, q] [x] D' w7 ∧ Below N w0 w7 ∧ LgT D' X s 61 ∧ X <+: l ∧ sure ≤ s ∧ X.length ≤ i ∧ D'.fuse = none from ⟨H7.out.2.2.2.2.2.1, HS5.out.1.trans H7.out.2.2.2.2.2.2.bel, H7.out.1.wide (by omega), H7.out.2.1, HS5.out.2, by rw [← HL.out.1]; exact H7.out.2.1.length_le, H7.out.2.2.2.2.1⟩)
            clear H7 HS5 hne1
            clear D
            obtain ⟨D, rfl⟩ : ∃ D, D = D' := ⟨_, rfl⟩
            obtain ⟨len, rfl⟩ : ∃ len, len = i := ⟨_, rfl⟩
            obtain ⟨k, hk⟩ : ∃ k, k = X.length := ⟨_, rfl⟩
            obtain ⟨D1, hD1⟩ : ∃ D1 : DskV, D1 = { D with dead := false } := ⟨_, rfl⟩
            have HD1 := Lib.hid (show LgT D1 X s 61 ∧ D1.dead = false ∧ D1.fuse = none from by rw [hD1]; exact ⟨HT.out.2.2.1.same rfl rfl, rfl, HT.out.2.2.2.2.2.2⟩)
            have Hst := Lib.hid (by have h2 := lo_start HT.out.1; rw [← hD1] at h2; exact h2)
            have Hop1 := Lib.hid (fun (y : World) (h : LwV N p bb [x, q] [x] D1 y) => lo_openk h HD1.out.1 HD1.out.2.1 hk)
            have Hop2 := Lib.hid (fun (l1 q1 : Nat) (D2 : DskV) (h2 : LgS D2 X X.length 61) (d2 : D2.dead = false) (y : World) (h : LwV N p bb [l1, q1, x, q] [l1, x] D2 y) => lo_openk h h2.t d2 hk)
            have hkl : k ≤ len := by rw [hk, ← HL.out.1]; exact HT.out.2.2.2.1.length_le
            have hkc : k ≤ cap := Nat.le_trans hkl HCAP.out
            have hks : ¬ (k < sure) := by rw [hk]; have := HT.out.2.2.1.le; have := HT.out.2.2.2.2.1; omega
            have hka : ¬ (len < k) := by rw [hk]; have := HT.out.2.2.2.2.2.1; omega
            have HK := Lib.hid hk
            clear hk hD1
            go_upto_region 34 with (first
              | (go_at_call 24; (with_reducible refine Hst.out.mono ?_); rintro e w20 ⟨rfl, h1, h2⟩; have H20 := Lib.hid (And.intro h1 (HT.out.2.1.trans h2.bel)); clear h1 h2)
              | (go_at_call 26; (with_reducible refine (Hop1.out _ H20.out.1).mono ?_); rintro e w21 ⟨l1, a1, c1, q1, D2, rfl, h1, h2, h3, h4, h5, h6⟩; have H21 := Lib.hid (And.intro h1 (And.intro h2 (And.intro h3 (And.intro h4 (And.intro h5 (H20.out.2.trans h6.bel)))))); clear h1 h2 h3 h4 h5 h6)
              | (go_at_call 26; (with_reducible refine (Hop2.out l1 q1 D2 H21.out.2.1 H21.out.2.2.1 _ H21.out.1).mono ?_); rintro e w22 ⟨l2, a2, c2, q2, D3, rfl, h1, h2, h3, h4, h5, h6⟩; have H22 := Lib.hid (And.intro h1 (And.intro h2 (And.intro h3 (And.intro (h4.trans (H21.out.2.2.2.1.trans HD1.out.2.2)) (And.intro h5 (And.intro (H21.out.2.2.2.2.1.hd h6 (by simp)) (H21.out.2.2.2.2.2.trans h6.bel))))))); clear h1 h2 h3 h4 h5 h6))
            have HKL := Lib.hid (And.intro hkl (show X.length ≤ 1000000 from by rw [← HK.out]; omega))
            have HS1 := Lib.hid (fun (y : World) (hy : Below w22.heap.size w22 y) => (show Calls Tryz.prog 33 #[.slice a1 k c1, .slice a k cap] y (fun e w' => e = .returned (.bool true) ∧ Below y.heap.size y w') from by
              have hbel := H22.out.2.2.2.2.2.2.trans (hy.mono H22.out.1.sz)
              have h2 := same3_any X X (.slice a1 k c1) (.slice a k cap) y (H22.out.2.2.2.2.2.1.below hy).str ⟨a, cap, by rw [HK.out], fun i x hx => HC.out y hbel i x (by
                obtain ⟨t, ht⟩ := HT.out.2.2.2.1
                rw [← ht, List.getElem?_append_left (List.getElem?_eq_some_iff.1 hx).1]
                exact hx)⟩ HKL.out.2
              rw [decide_eq_true rfl] at h2
              exact h2))
            have HS2 := Lib.hid (fun (y : World) (hy : Below w22.heap.size w22 y) => (show Calls Tryz.prog 33 #[.slice a2 k c2, .slice a1 k c1] y (fun e w' => e = .returned (.bool true) ∧ Below y.heap.size y w') from by
              have h2 := same3_any X X (.slice a2 k c2) (.slice a1 k c1) y (H22.out.2.2.2.2.1.below hy).str (H22.out.2.2.2.2.2.1.below hy).str HKL.out.2
              rw [decide_eq_true rfl] at h2
              exact h2))
            obtain ⟨D4, s4, e4, g4, -, d4, f4⟩ : ∃ D4 s4, laddD D3 [109, 111, 114, 101] = (D4, 0) ∧ LgS D4 (X ++ [[109, 111, 114, 101]]) s4 62 ∧ X.length ≤ s4 ∧ D4.dead = false ∧ D4.fuse = none := by
              have hroom : (frL [109, 111, 114, 101]).length + (frsL X).length ≤ 4194304 := by
                have h1 := few_len X (few_pre HFW.out HT.out.2.2.2.1)
                have h2 := frL_len [109, 111, 114, 101]
                have h3 := (numL_len ([109, 111, 114, 101] : Bs).length).1
                have h4 := HKL.out.1
                rw [HK.out] at h4
                have h5 : ([109, 111, 114, 101] : Bs).length = 4 := rfl
                rw [h5] at h2 h3
                omega
              rcases lgs_add H22.out.2.1 H22.out.2.2.1 (by decide) (r := [109, 111, 114, 101]) ⟨by decide, by decide⟩ hroom with ⟨D', s', e1, g1, k1, d1, f1⟩ | ⟨D', X', s', e1, g1, p1, p2, k1, d1, f1, n1⟩
              · exact ⟨D', s', e1, g1, k1, d1, f1 H22.out.2.2.2.1⟩
              · exact (n1 H22.out.2.2.2.1).elim
            obtain ⟨D5, e5, g5, d5, f5⟩ := lgs_sync g4 d4
            have Had := Lib.hid (fun (y : World) (h : LwV N p bb [l2, q2, l1, q1, x, q] [l2, l1, x] D3 y) => (show Calls Tryz.prog 27 #[.pointer (some ⟨l2, 0, none⟩), .string ⟨#[109, 111, 114, 101]⟩] y (fun e w' => e = .returned (.int .i64 0) ∧ LwV N p bb [l2, q2, l1, q1, x, q] [l2, l1, x] D4 w' ∧ Hd N [l2, q2, l1, q1, x, q] y w') from lo_add (l := l2) (by simp) h H22.out.2.1.t (by decide) ⟨#[109, 111, 114, 101]⟩ (by decide) e4))
            have Hsy := Lib.hid (fun (y : World) (h : LwV N p bb [l2, q2, l1, q1, x, q] [l2, l1, x] D4 y) => (show Calls Tryz.prog 28 #[.pointer (some ⟨l2, 0, none⟩)] y (fun e w' => e = .returned (.int .i64 0) ∧ LwV N p bb [l2, q2, l1, q1, x, q] [l2, l1, x] D5 w' ∧ Hd N [l2, q2, l1, q1, x, q] y w') from lo_sync (l := l2) (by simp) h g4.t e5))
            have Hop3 := Lib.hid (fun (y : World) (h : LwV N p bb [l2, q2, l1, q1, x, q] [l2, l1, x] D5 y) => lo_openk (k := k + 1) h g5.t d5 (by rw [List.length_append, HK.out]; rfl))
            have HK1 := Lib.hid (show ¬ (k < sure) ∧ ¬ (len < k) from ⟨hks, hka⟩)
            clear e4 g4 d4 f4 e5 g5 d5 f5
            go_upto_region 39 with (first
              | (go_at_call 33; (with_reducible refine (HS1.out _ (Below.refl _ _)).mono ?_); rintro e w23 ⟨rfl, hb⟩; have HB23 := Lib.hid hb; clear hb)
              | (go_at_call 33; (with_reducible refine (HS2.out _ HB23.out).mono ?_); rintro e w24 ⟨rfl, hb⟩; have HB24 := Lib.hid (HB23.out.trans (hb.mono HB23.out.size)); have H24 := Lib.hid (And.intro (H22.out.1.below HB24.out) (And.intro (H22.out.2.2.2.2.2.1.below HB24.out) (H22.out.2.2.2.2.2.2.trans (HB24.out.mono H22.out.1.sz)))); clear hb)
              | (go_at_call 27; (with_reducible refine (Had.out _ H24.out.1).mono ?_); rintro e w25 ⟨rfl, h1, h2⟩; have H25 := Lib.hid (And.intro h1 (And.intro (H24.out.2.1.hd h2 (by simp)) (H24.out.2.2.trans h2.bel))); clear h1 h2)
              | (go_at_call 28; (with_reducible refine (Hsy.out _ H25.out.1).mono ?_); rintro e w26 ⟨rfl, h1, h2⟩; have H26 := Lib.hid (And.intro h1 (And.intro (H25.out.2.1.hd h2 (by simp)) (H25.out.2.2.trans h2.bel))); clear h1 h2)
              | (go_at_call 26; (with_reducible refine (Hop3.out _ H26.out.1).mono ?_); rintro e w27 ⟨l3, a3, c3, q3, D6, rfl, h1, h2, h3, h4, h5, h6⟩; have H27 := Lib.hid (And.intro h1 (And.intro h5 (And.intro (H26.out.2.1.hd h6 (by simp)) (H26.out.2.2.trans h6.bel)))); clear h1 h2 h3 h4 h5 h6))
            obtain ⟨iS, hiS, hzS, hsS, hbS⟩ := info_parts infoStr
            have HiS := Lib.hid (And.intro hiS (And.intro hzS (And.intro hsS hbS)))
            clear hiS hzS hsS hbS
            have hk6 : k ≤ 60 := by have := HKL.out.1; omega
            have HA1 := Lib.hid (show (encS X).length = k * 1 ∧ ((.slice a1 k c1 : Value) = .slice none 0 0 ∧ k = 0 ∨ ∃ ad c, (.slice a1 k c1 : Value) = .slice (some ad) k c ∧ ∀ j u, (encS X)[j]? = some u → w27.cell? (ad.add j) = some u) ∧ 0 + k ≤ maxLen ∧ (0 + k) * 16 ≤ 140737488355328 from ⟨by rw [HK.out]; simp [encS], by
              have h2 := own_read H27.out.2.2.1.own
              rw [← HK.out] at h2
              exact h2, by unfold maxLen; omega, by omega⟩)
            go_wp2_with (first
              | ((with_reducible refine wpList_append_grd _ _ 52 rfl ?_ w27.heap.size 9 iS _ 1 16 Tryz.underlying52 HiS.out.1 HiS.out.2.1 HiS.out.2.2.1 HiS.out.2.2.2 rfl ?_ (.slice none 0 0) 0 [] rfl (World.ownsRow_nil _ _ _ _) (.slice a1 k c1) k (encS X) rfl HA1.out.1 HA1.out.2.1 (encS_one _) HA1.out.2.2.1 HA1.out.2.2.2 (Nat.le_refl _) ?_); exact (Eq.refl true); exact Nat.zero_lt_one; intro v4 w28 ho4 hg4; simp only [Nat.zero_add, List.nil_append] at ho4; obtain ⟨a4, c4, rfl⟩ := own_slice_of ho4
                 have hb28 := below_grown hg4 (Below.refl w27.heap.size w27) (Nat.le_refl _) (fun k e => by cases e)
                 have H28 := Lib.hid (And.intro ho4 hb28)
                 have HA2 := Lib.hid (show ([.string ⟨#[109, 111, 114, 101]⟩] : List Value).length = 1 * 1 ∧ (((.slice (some ⟨w28.heap.size, 0, none⟩) 1 1 : Value) = .slice none 0 0 ∧ 1 = 0) ∨ ∃ ad c, (.slice (some ⟨w28.heap.size, 0, none⟩) 1 1 : Value) = .slice (some ad) 1 c ∧ ∀ j u, ([.string ⟨#[109, 111, 114, 101]⟩] : List Value)[j]? = some u → (w28.alloc (.cells #[.string ⟨#[109, 111, 114, 101]⟩] 9)).cell? (ad.add j) = some u) ∧ k + 1 ≤ maxLen ∧ (k + 1) * 16 ≤ 140737488355328 ∧ w27.heap.size ≤ (w28.alloc (.cells #[.string ⟨#[109, 111, 114, 101]⟩] 9)).heap.size ∧ (∀ u ∈ ([.string ⟨#[109, 111, 114, 101]⟩] : List Value), u.oneCell' = true) from
                   ⟨rfl, .inr ⟨_, 1, rfl, cells_newF w28 [.string ⟨#[109, 111, 114, 101]⟩] _⟩, by unfold maxLen; omega, by omega, by have := hb28.size; simp; omega, fun u hu => by simp at hu; subst hu; rfl⟩)
                 clear ho4 hg4 hb28)
              | ((with_reducible refine wpList_append_grd _ _ 52 rfl ?_ w27.heap.size 9 iS _ 1 16 Tryz.underlying52 HiS.out.1 HiS.out.2.1 HiS.out.2.2.1 HiS.out.2.2.2 rfl ?_ (.slice a4 k c4) k (encS X) rfl (World.ownsRow.alloc H28.out.1 _) (.slice (some ⟨w28.heap.size, 0, none⟩) 1 1) 1 [.string ⟨#[109, 111, 114, 101]⟩] rfl HA2.out.1 HA2.out.2.1 HA2.out.2.2.2.2.2 HA2.out.2.2.1 HA2.out.2.2.2.1 HA2.out.2.2.2.2.1 ?_); exact (Eq.refl true); exact Nat.zero_lt_one; intro v5 w29 ho5 hg5; obtain ⟨a5, c5, rfl⟩ := own_slice_of ho5
                 have hb29 : Below w27.heap.size w27 w29 := below_grown hg5 (H28.out.2.alloc H28.out.2.size _) (by have := H28.out.2.size; simp; omega) (fun k e => (own_at H28.out.1 e).1)
                 have HS3 := Lib.hid (show Calls Tryz.prog 33 #[.slice a3 (k + 1) c3, .slice a5 (k + 1) c5] w29 (fun e w' => e = .returned (.bool true) ∧ Below w29.heap.size w29 w') from by
                   have hl1 : (X ++ [[109, 111, 114, 101]]).length = k + 1 := by rw [List.length_append, HK.out]; rfl
                   have h3 : w29.ownsRow w27.heap.size 9 1 (.slice a5 (k + 1) c5) (X ++ [[109, 111, 114, 101]]).length (encS (X ++ [[109, 111, 114, 101]])) := by
                     rw [hl1, show encS (X ++ [[109, 111, 114, 101]]) = encS X ++ [.string ⟨#[109, 111, 114, 101]⟩] by simp [encS, encStr]]
                     exact ho5
                   have h2 := same3_any _ _ _ _ w29 (H27.out.2.1.below hb29).str (strS_own h3) (by rw [hl1]; omega)
                   rw [decide_eq_true rfl] at h2
                   exact h2)
                 have HB29 := Lib.hid hb29
                 clear ho5 hg5 hb29)
              | (go_at_call 33; (with_reducible refine HS3.out.mono ?_); rintro e w30 ⟨rfl, hb⟩; have HB30 := Lib.hid (H27.out.2.2.2.trans ((HB29.out.mono H27.out.1.sz).trans (hb.mono (Nat.le_trans H27.out.1.sz HB29.out.size)))); clear hb)
              | (go_at_call 31; (with_reducible refine (wakes05_any _ (HV.out.on HB30.out).here).mono ?_); rintro e w31 ⟨rfl, hb⟩; have HB31 := Lib.hid (HB30.out.trans (hb.mono (Nat.le_trans (show N ≤ w0.heap.size by have := HNZ.out; omega) HB30.out.size))); clear hb))
            go_ret
            exact ⟨rfl, by rw [← HNZ.out]; exact HB31.out⟩
end Go.Proofs.YtogfladmgbldcaaGreatDoor
namespace Go.Proofs.YtogfladmgbldcaaGreatDoor
open Go.RowKit
theorem i64_top {n : Int} (h : (Lit.int .i64 n).wf = true) : n ≤ 9223372036854775807 := by
  have h' : -9223372036854775808 ≤ n ∧ n ≤ 9223372036854775807 := by simpa [Lit.wf, IntKind.min, IntKind.max, IntKind.signed, IntKind.bits] using h
  exact h'.2
theorem logLasts_row (a : Option Addr) (len cap : Nat) (z : List ByteArray) (n f k : Int) {W : World} (hz : TxsIn W a len cap z) (hn : (Lit.int .u8 n).wf = true) (hf : (Lit.int .i64 f).wf = true) (hk : (Lit.int .i64 k).wf = true) (hv : PV W) :
    Calls Tryz.prog 9 #[.slice a len cap, .int .u8 n, .int .i64 f, .int .i64 k] W fun e w' => e = .returned (.bool true) ∧ Below W.heap.size W w' := by
  have h' : 0 ≤ n ∧ n ≤ 255 := by simpa [Lit.wf, IntKind.min, IntKind.max, IntKind.signed, IntKind.bits] using hn
  rw [show n = ((n.toNat : Nat) : Int) by omega]
  exact logLasts_any a len cap z n.toNat (by omega) f k (i64_top hf) (i64_top hk) hz hv
end Go.Proofs.YtogfladmgbldcaaGreatDoor
