/- ProposeOnce: the law. Condition: the acts lie there. -/
import Derived.Deep.DeepCutAuto
import Derived.Deep.CutBlock
import Derived.StillTailTactics
import Derived.Test.YtoleiiicbnmhpaaZProposeOnce7
namespace Go.Proofs.Ytoleiiicbnmhpaa
open Go.RowKit
open Go.Maps (Keyed)
open Go.ChangeMaps Go.MapKept
def actZ : List Value := [.int .u8 0, .int .u64 0, .string ByteArray.empty, .int .u8 0, .int .u8 0]
/-- An act's cells. -/
def actC (d s : Nat) (x : ByteArray) (c nd : Nat) : List Value := [.int .u8 (d : Int), .int .u64 (s : Int), .string x, .int .u8 (c : Int), .int .u8 (nd : Int)]
theorem actC_one (d s : Nat) (x : ByteArray) (c nd : Nat) : ∀ u ∈ actC d s x c nd, u.oneCell' = true := by simp [actC, Value.oneCell']
theorem actC_size (d s : Nat) (x : ByteArray) (c nd : Nat) : (Try.prog.info? 40).map (·.size) = some (actC d s x c nd).length := (by kernel_rfl : (Try.prog.info? 40).map (·.size) = some 5)
def ActC (w : World) (gx d s : Nat) (x : ByteArray) (c nd : Nat) : Prop := w.heap[gx]? = some (.cells (actC d s x c nd).toArray 40 (0, 0))
theorem ActC.below {w w' : World} {gx d s : Nat} {x : ByteArray} {c nd : Nat} (h : ActC w gx d s x c nd) (hb : Below w.heap.size w w') : ActC w' gx d s x c nd := (hb.block gx (Array.getElem?_eq_some_iff.1 h).1).trans h
theorem ActC.cells {w : World} {gx d s : Nat} {x : ByteArray} {c nd : Nat} (h : ActC w gx d s x c nd) : w.cell? ⟨gx, 0, none⟩ = some (.int .u8 (d : Int)) ∧ w.cell? ⟨gx, 1, none⟩ = some (.int .u64 (s : Int)) ∧ w.cell? ⟨gx, 2, none⟩ = some (.string x) ∧ w.cell? ⟨gx, 3, none⟩ = some (.int .u8 (c : Int)) ∧ w.cell? ⟨gx, 4, none⟩ = some (.int .u8 (nd : Int)) :=
  ⟨cell_of_row _ _ _ _ _ _ h, cell_of_row _ _ _ _ _ _ h, cell_of_row _ _ _ _ _ _ h, cell_of_row _ _ _ _ _ _ h, cell_of_row _ _ _ _ _ _ h⟩
theorem came_nat {α : Type} {enc : α → Value} {V : Nat → Option α} {D : DataW Value} (hh : ∀ x : Int, Maps.has D (.int .u64 x) = (mpN enc V (.int .u64 x)).isSome) {ss : List Int} (h : Came D (fun _ => false) ss) :
    (ss.map Int.toNat).Nodup ∧ (∀ s, s ∈ ss.map Int.toNat ↔ (V s).isSome = true) ∧ ∀ f : Nat → Bool, ((ss.map Int.toNat).filter f).length = (ss.filter (fun x => f x.toNat)).length := by
  have hx : ∀ x ∈ ss, 0 ≤ x := fun x hx => by
    have h1 := ((h.2 x).1 hx).1
    rw [hh] at h1
    unfold mpN at h1
    simp only at h1
    split at h1
    · assumption
    · cases h1
  refine ⟨?_, fun s => ?_, fun f => ?_⟩
  · rw [List.Nodup, List.pairwise_map]
    exact h.1.imp_of_mem (fun ha hb hne e => hne (by have := hx _ ha; have := hx _ hb; omega))
  · have h2 := h.2 (s : Int)
    rw [hh, show mpN enc V (.int .u64 (s : Int)) = (V s).map enc from mpN_at enc V s] at h2
    constructor
    · intro q
      obtain ⟨x, hxs, e⟩ := List.mem_map.1 q
      have hxe : x = (s : Int) := by have := hx x hxs; omega
      rw [hxe] at hxs
      have := (h2.1 hxs).1
      simpa using this
    · intro q
      exact List.mem_map.2 ⟨(s : Int), h2.2 ⟨by simpa using q, rfl⟩, rfl⟩
  · rw [List.filter_map, List.length_map]
    rfl
theorem onc_look {w0 wr : World} {p g bv bc bw bg k : Nat} {D : Nat → Option OpR} {last : Nat} {V : Nat → Option ByteArray} {C W : Nat → Option Nat} {G : Nat → Option Bool} (h : OncI w0 wr p g bv bc bw bg k D last V C W G) : (∃ n, MpAt Try.prog 31 wr bv n (mpN encS V)) ∧ (∃ n, MpAt Try.prog 31 wr bc n (mpN encU C)) ∧ (∃ n, MpAt Try.prog 31 wr bw n (mpN encU W)) ∧ (∃ n, MpAt Try.prog 31 wr bg n (mpN encB G)) := by
  obtain ⟨n2, _, v⟩ := h.v
  obtain ⟨n3, _, c⟩ := h.c
  obtain ⟨n4, _, e⟩ := h.w
  obtain ⟨n5, _, g5⟩ := h.gg
  exact ⟨⟨n2, v⟩, ⟨n3, c⟩, ⟨n4, e⟩, ⟨n5, g5⟩⟩
set_option maxRecDepth 100000 in
set_option maxHeartbeats 16000000 in
theorem once_any (a : Option Addr) (len cap : Nat) (z : List PAct) (w : World) (hz : PactsAt w a len z) :
    Calls Try.prog 6 #[.slice a len cap] w fun e w' => e = .returned (.bool true) ∧ Below w.heap.size w w' := by
  have Hwk := Lib.hid (fun y : World => pwakes_any y)
  have hgr := pgreat_any a len cap z w hz
  cases hg : pgreatS z with
  | true =>
    rw [hg] at hgr
    have Hgr := Lib.hid hgr
    clear hgr hg hz
    go_enter Try.func6, Try.ntmps6
    go_wp2_with (first
      | ((with_reducible refine Hgr.out.mono ?_); rintro e w1 ⟨rfl, rfl⟩)
      | ((with_reducible refine (Hwk.out _).mono ?_); rintro e w2 ⟨rfl, h2⟩; have H2 := Lib.hid h2; clear h2))
    go_ret
    exact ⟨rfl, H2.out⟩
  | false =>
    rw [hg] at hgr
    have Hgr := Lib.hid hgr
    have hok := pgreat_ok hg
    have Hl := Lib.hid (And.intro hz.hlen hok.1)
    have hlen : len ≤ 200 := by have := hz.hlen; omega
    have Hz := Lib.hid hz
    have Hnw := Lib.hid (fun y : World => dnew_any y)
    clear hgr hg hz hok
    go_enter Try.func6, Try.ntmps6
    go_upto_region 4 with (first
      | ((with_reducible refine Hgr.out.mono ?_); rintro e w1 ⟨rfl, rfl⟩)
      | ((with_reducible refine (Hnw.out _).mono ?_); rintro e w2 ⟨rfl, hd2, hb2⟩; have Hst := Lib.hid (onc_start hd2 hb2 (Nat.le_refl _) (Nat.lt_succ_self _)); clear hd2 hb2))
    have hmm := @run_makeMap Try.prog
    go_upto_region 9 with fail
    clear hmm
    change Code.wp _ _ _ _ ((((w2.alloc (.map #[] 0)).alloc (.map #[] 0)).alloc (.map #[] 0)).alloc (.map #[] 0))
    generalize (((w2.alloc (.map #[] 0)).alloc (.map #[] 0)).alloc (.map #[] 0)).alloc (.map #[] 0) = w3 at *
    obtain ⟨p, hp⟩ : ∃ p, p = w.heap.size + 1 := ⟨_, rfl⟩
    obtain ⟨g, hg⟩ : ∃ g, g = w.heap.size := ⟨_, rfl⟩
    obtain ⟨bv, hbv⟩ : ∃ b, b = w2.heap.size := ⟨_, rfl⟩
    obtain ⟨bc, hbc⟩ : ∃ b, b = w2.heap.size + 1 := ⟨_, rfl⟩
    obtain ⟨bw, hbw⟩ : ∃ b, b = w2.heap.size + 2 := ⟨_, rfl⟩
    obtain ⟨bg, hbg⟩ : ∃ b, b = w2.heap.size + 3 := ⟨_, rfl⟩
    rw [← hbg, ← hbw, ← hbc, ← hbv, ← hp, ← hg] at Hst
    rw [← hbg, ← hbw, ← hbc, ← hbv, ← hp]
    clear hp hg hbv hbc hbw hbg
    have HS := Lib.hid (show OncI w w3 p g bv bc bw bg 0 (fun _ => none) 0 (fun _ => none) (fun _ => none) (fun _ => none) (fun _ => none) from Hst.out)
    clear Hst Hnw Hgr
    have Hlen := Lib.hid hlen
    go_loopw [8] (fun s8 wr => ∃ (i last : Nat) (D : Nat → Option OpR) (V : Nat → Option ByteArray) (C W : Nat → Option Nat) (G : Nat → Option Bool), s8 = .int .i64 (i : Int) ∧ i ≤ len ∧ PInv D last V C W G ∧ OncI w wr p g bv bc bw bg (4 * i) D last V C W G) (fun s8 _ => len - (intOf s8).toNat)
    case atStart => exact ⟨0, 0, _, _, _, _, _, rfl, Nat.zero_le _, inv_none, HS.out⟩
    case round =>
      clear HS
      obtain ⟨i, last, D, V, C, W, G, rfl, hi, hv, hI⟩ := hrel
      have HV := Lib.hid hv
      have HI := Lib.hid hI
      clear hv hI
      by_cases hil : i < len
      · have hil' : (i : Int) < (len : Int) := by omega
        obtain ⟨ab, ao, rfl, hab, hrow⟩ := pacts_row (Hz.out.below HI.out.bel) hil
        obtain ⟨Act, hAct⟩ : ∃ A, A = z.getD i default := ⟨_, rfl⟩
        rw [← hAct] at hrow
        clear hAct
        obtain ⟨d0, s0, x, c0, n0⟩ := Act
        obtain ⟨d, hd⟩ : ∃ d, d = d0.toNat := ⟨_, rfl⟩
        obtain ⟨s, hs⟩ : ∃ d, d = s0.toNat := ⟨_, rfl⟩
        obtain ⟨c, hc⟩ : ∃ d, d = c0.toNat := ⟨_, rfl⟩
        obtain ⟨nd, hn⟩ : ∃ d, d = n0.toNat := ⟨_, rfl⟩
        have hs64 : s < 18446744073709551616 := by rw [hs]; exact s0.isLt
        have hc8 : c < 256 := by rw [hc]; exact c0.isLt
        have hn8 : nd < 256 := by rw [hn]; exact n0.isLt
        have hrow2 : wr.rangeAt ab (ao + i * 5) (actC d s x c nd) := by rw [hd, hs, hc, hn]; exact hrow
        have Hr := Lib.hid hrow2
        have HB := Lib.hid (And.intro hs64 (And.intro hc8 hn8))
        clear hrow hrow2 hd hs hc hn hs64 hc8 hn8
        clear d0 s0 c0 n0
        go_upto_region 12 with (first
          | (with_reducible refine wpList_load_mid rfl 40 _ rfl ab (ao + i * 5) rfl (actC d s x c nd) _ Hr.out Try.underlying40 rfl (actC_size d s x c nd) ?_)
          | ((with_reducible refine wpList_store_mid rfl 40 _ _ rfl wr.heap.size 0 _ rfl rfl ?_ ?_ ?_ ?_); exact th_new wr actZ 40; exact actC_size d s x c nd; exact all_oneCell_toArray (actC_one d s x c nd)))
        change Code.wp _ _ _ _ ((wr.alloc (.cells actZ.toArray 40)).setCells wr.heap.size 0 (actC d s x c nd))
        have hbx := box_below wr actZ (actC d s x c nd) 40
        have HX := Lib.hid (show ActC _ _ d s x c nd from box_row wr actZ (actC d s x c nd) 40 rfl)
        have HI2 := Lib.hid (HI.out.below hbx)
        have Hgx := Lib.hid (show bg < wr.heap.size from HI.out.ord.2.2.2.2.2.2)
        clear hbx HI Hr
        generalize (wr.alloc (.cells actZ.toArray 40)).setCells wr.heap.size 0 (actC d s x c nd) = w4 at *
        generalize wr.heap.size = gx at *
        obtain ⟨f0, f1, f2, f3, f4⟩ := HX.out.cells
        have hk := key_ku HB.out.1
        obtain ⟨⟨nv, hLv⟩, ⟨nc, hLc⟩, ⟨nw, hLw⟩, ⟨ng, hLg⟩⟩ := onc_look HI2.out
        have HLv := Lib.hid hLv
        have HLc := Lib.hid hLc
        have HLw := Lib.hid hLw
        have HLg := Lib.hid hLg
        obtain ⟨n0, hn0, hD0⟩ := HI2.out.d
        have HD := Lib.hid (And.intro hn0 hD0)
        clear hLv hLc hLw hLg hn0 hD0
        by_cases hd0 : d = 0
        · have hd0' : ((d : Int) == 0) = true := by simp [hd0]
          clear hd0
          go_upto_region 23 with (at_lookup; refine wpList_lookok_mp rfl _ _ 57 9 rfl lawU Try.underlying57 zero_str rfl HLv.out _ (ku s) rfl hk ?_)
          have hopen := fun (y : World) (n : Nat) (hy : DeskAt y p g n D last) => And.intro (fun hbad => dopen_bad p g n last D s x c hbad y hy) (And.intro (fun hbad hl => dopen_state p g n last D s x c hbad hl y hy) (fun hbad hl hn => dopen_ok p g n last D s x c hbad hl HB.out.2.1 hn y hy))
          cases hbad : badOpen s c
          · by_cases hl : last < s
            · have HO := Lib.hid ((hopen w4 n0 HD.out.2).2.2 hbad hl (by have := HD.out.1; omega))
              have HP := Lib.hid (HV.out.opened x hl HB.out.2.1 HB.out.1)
              have HF := Lib.hid (HV.out.fresh hl)
              clear hopen hbad hl
              have hMV : mpN encS V (ku s) = none := by rw [mpN_at, HF.out]; rfl
              go_upto_region 24 with ((with_reducible refine HO.out.mono ?_); rintro e w5 ⟨rfl, hd5, hb5⟩; have H5 := Lib.hid (And.intro hd5 hb5); clear hd5 hb5)
              have HI3 := Lib.hid (HI2.out.desk ⟨n0 + 1, by have := HD.out.1; omega, H5.out.1⟩ H5.out.2)
              have HX := Lib.hid (show ActC w5 gx d s x c nd from (H5.out.2.block gx (Array.getElem?_eq_some_iff.1 HX.out).1 (by have := Hgx.out; have := HI2.out.ord; omega) (by have := Hgx.out; have := HI2.out.ord; omega)).trans HX.out)
              clear f0 f1 f2 f3 f4
              obtain ⟨f0, f1, f2, f3, f4⟩ := HX.out.cells
              obtain ⟨nq, hnq, hmq⟩ := HI3.out.v
              have HLv3 := Lib.hid (And.intro hnq hmq)
              clear hnq hmq
              go_upto_region 27 with (at_mapUpdate; refine wpList_store_mp rfl _ _ _ 57 9 rfl lawU Try.underlying57 rfl HLv3.out.2 (by have := HLv3.out.1; have := Hlen.out; unfold maxLen; omega) _ (encS x) (ku s) rfl rfl hk ?_; intro w6 hm ht; have H6 := Lib.hid (And.intro hm ht); clear hm ht)
              have hm6 := H6.out.1
              rw [mpN_put] at hm6
              have HI4 := Lib.hid (HI3.out.set_v (by have := HLv3.out.1; omega) hm6 H6.out.2)
              clear hm6
              have HX := Lib.hid (show ActC w6 gx d s x c nd from (turned_block H6.out.2 (by have := Hgx.out; have := HI2.out.ord; omega)).trans HX.out)
              clear f0 f1 f2 f3 f4
              obtain ⟨f0, f1, f2, f3, f4⟩ := HX.out.cells
              obtain ⟨nq, hnq, hmq⟩ := HI4.out.c
              have HLc4 := Lib.hid (And.intro hnq hmq)
              clear hnq hmq
              go_wp2_with (at_mapUpdate; refine wpList_store_mp rfl _ _ _ 58 24 rfl lawU Try.underlying58 rfl HLc4.out.2 (by have := HLc4.out.1; have := Hlen.out; unfold maxLen; omega) _ (encU c) (ku s) rfl rfl hk ?_; intro w7 hm ht; have H7 := Lib.hid (And.intro hm ht); clear hm ht)
              have hm7 := H7.out.1
              rw [mpN_put] at hm7
              have HI5 := Lib.hid (HI4.out.set_c (by have := HLc4.out.1; omega) hm7 H7.out.2)
              clear hm7
              exact ⟨⟨i + 1, s, _, _, _, _, _, rfl, by omega, HP.out, HI5.out.mono (by omega)⟩, by simp only [intOf]; omega⟩
            · have HO := Lib.hid ((hopen w4 n0 HD.out.2).2.1 hbad (by omega))
              clear hopen hbad hl
              go_wp2_with ((with_reducible refine HO.out.mono ?_); rintro e w5 ⟨rfl, hb5⟩; have HI3 := Lib.hid (HI2.out.below hb5); clear hb5)
              exact ⟨⟨i + 1, last, D, V, C, W, G, rfl, by omega, HV.out, HI3.out.mono (by omega)⟩, by simp only [intOf]; omega⟩
          · have HO := Lib.hid ((hopen w4 n0 HD.out.2).1 hbad)
            clear hopen hbad
            go_wp2_with ((with_reducible refine HO.out.mono ?_); rintro e w5 ⟨rfl, hb5⟩; have HI3 := Lib.hid (HI2.out.below hb5); clear hb5)
            exact ⟨⟨i + 1, last, D, V, C, W, G, rfl, by omega, HV.out, HI3.out.mono (by omega)⟩, by simp only [intOf]; omega⟩
        · have hd0' : ((d : Int) == 0) = false := by simp [hd0]
          clear hd0
          by_cases hd1 : d = 1
          · have hd1' : ((d : Int) == 1) = true := by simp [hd1]
            clear hd1
            have HO := Lib.hid (dclose_any p g n0 last D s HB.out.1 w4 HD.out.2)
            go_upto_region 30 with ((with_reducible refine HO.out.mono ?_); rintro e w5 ⟨rfl, hd5, hb5⟩; have H5 := Lib.hid (And.intro hd5 hb5); clear hd5 hb5)
            have HI3 := Lib.hid (HI2.out.desk ⟨n0, by have := HD.out.1; omega, H5.out.1⟩ H5.out.2)
            have HX := Lib.hid (show ActC w5 gx d s x c nd from (H5.out.2.block gx (Array.getElem?_eq_some_iff.1 HX.out).1 (by have := Hgx.out; have := HI2.out.ord; omega) (by have := Hgx.out; have := HI2.out.ord; omega)).trans HX.out)
            clear f0 f1 f2 f3 f4
            obtain ⟨f0, f1, f2, f3, f4⟩ := HX.out.cells
            obtain ⟨nq, hnq, hmq⟩ := HI3.out.v
            have HLv3 := Lib.hid (And.intro hnq hmq)
            clear hnq hmq
            obtain ⟨nq, hnq, hmq⟩ := HI3.out.gg
            have HLg3 := Lib.hid (And.intro hnq hmq)
            clear hnq hmq
            go_wp2_with (first | (at_lookup; refine wpList_lookok_mp rfl _ _ 57 9 rfl lawU Try.underlying57 zero_str rfl HLv3.out.2 _ (ku s) rfl hk ?_) | (at_mapUpdate; refine wpList_store_mp rfl _ _ _ 59 4 rfl lawU Try.underlying59 rfl HLg3.out.2 (by have := HLg3.out.1; have := Hlen.out; unfold maxLen; omega) _ (encB (mpN encS V (ku s)).isSome) (ku s) rfl rfl hk ?_; intro w6 hm ht; have H6 := Lib.hid (And.intro hm ht); clear hm ht))
            have hm6 := H6.out.1
            rw [show (mpN encS V (ku s)).isSome = (V s).isSome by rw [mpN_at]; cases V s <;> rfl, mpN_put] at hm6
            have HI4 := Lib.hid (HI3.out.set_gg (by have := HLg3.out.1; omega) hm6 H6.out.2)
            exact ⟨⟨i + 1, last, _, _, _, _, _, rfl, by omega, HV.out.closed s, HI4.out.mono (by omega)⟩, by simp only [intOf]; omega⟩
          · have hd1' : ((d : Int) == 1) = false := by rw [beq_eq_false_iff_ne]; omega
            clear hd1
            have HVt := Lib.hid (voted_any p g n0 last D nd s (fun r hr => ⟨(HV.out.op s r hr).2.2.2.2.1, (HV.out.op s r hr).2.2.2.2.2.1⟩) HB.out.2.2 (by have := HD.out.1; omega) HB.out.1 w4 HD.out.2)
            obtain ⟨R, hR⟩ : ∃ R, R = votedS D s nd := ⟨_, rfl⟩
            rw [← hR] at HVt
            have HR := Lib.hid hR
            clear hR
            obtain ⟨D', ⟨xs, xx⟩, is⟩ := R
            simp only at HVt
            go_upto_region 14 with (first
              | ((with_reducible refine HVt.out.mono ?_); rintro e w5 ⟨rfl, h5⟩; have H5 := Lib.hid h5; clear h5)
              | ((with_reducible refine wpList_store_mid rfl 34 _ _ rfl w5.heap.size 0 _ rfl rfl ?_ ?_ ?_ ?_); exact th_new w5 (itCells 0 ByteArray.empty) 34; exact it_size xs xx; exact all_oneCell_toArray (it_one xs xx)))
            change Code.wp _ _ _ _ ((w5.alloc (.cells (itCells 0 ByteArray.empty).toArray 34)).setCells w5.heap.size 0 (itCells xs xx))
            have hbx := box_below w5 (itCells 0 ByteArray.empty) (itCells xs xx) 34
            have HY := Lib.hid (show ItAt _ _ xs xx from box_row w5 (itCells 0 ByteArray.empty) (itCells xs xx) 34 rfl)
            have hd5 := H5.out.d
            rw [← HR.out] at hd5
            simp only at hd5
            have HI3 := Lib.hid (HI2.out.desk (by obtain ⟨n', h1, h2⟩ := hd5; exact ⟨n', by have := HD.out.1; omega, h2⟩) H5.out.two)
            have HX5 := Lib.hid (show ActC w5 gx d s x c nd from (H5.out.two.block gx (Array.getElem?_eq_some_iff.1 HX.out).1 (by have := Hgx.out; have := HI2.out.ord; omega) (by have := Hgx.out; have := HI2.out.ord; omega)).trans HX.out)
            have HI6 := Lib.hid (HI3.out.below hbx)
            clear HX f0 f1 f2 f3 f4
            have HX := Lib.hid (HX5.out.below hbx)
            have Hgy := Lib.hid (show gx < w5.heap.size from (Array.getElem?_eq_some_iff.1 HX5.out).1)
            clear hbx HI3 HX5 hd5 HLv HLc HLw HLg HVt
            generalize (w5.alloc (.cells (itCells 0 ByteArray.empty).toArray 34)).setCells w5.heap.size 0 (itCells xs xx) = w6 at *
            generalize w5.heap.size = gy at *
            obtain ⟨f0, f1, f2, f3, f4⟩ := HX.out.cells
            obtain ⟨nq, hnq, hmq⟩ := HI6.out.v
            have HLv := Lib.hid (And.intro hnq hmq)
            clear hnq hmq
            obtain ⟨nq, hnq, hmq⟩ := HI6.out.gg
            have HLg := Lib.hid (And.intro hnq hmq)
            clear hnq hmq
            obtain ⟨nq, hnq, hmq⟩ := HI6.out.c
            have HLc := Lib.hid (And.intro hnq hmq)
            clear hnq hmq
            obtain ⟨nq, hnq, hmq⟩ := HI6.out.w
            have HLw := Lib.hid (And.intro hnq hmq)
            clear hnq hmq
            cases hvs : V s with
            | none =>
              have hMV : mpN encS V (ku s) = none := by rw [mpN_at, hvs]; rfl
              have hg0 := (HV.out.vw s hvs).2
              have hDn : D s = none := by
                cases hq : D s with
                | none => rfl
                | some r => rw [(HV.out.op s r hq).1] at hvs; cases hvs
              have hRe : (D', (xs, xx), is) = (D, (0, ByteArray.empty), false) := by rw [HR.out]; unfold votedS; rw [hDn]
              cases hRe
              have hMG : (mpN encB G (ku s)).getD (.bool false) = .bool false := by
                rw [mpN_at]
                cases hq : G s with
                | none => rfl
                | some q => rw [hq] at hg0; simp only [Option.getD_some] at hg0; rw [hg0]; rfl
              have hA := HV.out.again s
              rw [hg0] at hA
              have HA := Lib.hid hA
              clear hA hg0 hDn hvs
              go_upto_region 15 with (at_lookup; refine wpList_lookok_mp rfl _ _ 57 9 rfl lawU Try.underlying57 zero_str rfl HLv.out.2 _ (ku s) rfl hk ?_)
              go_upto_region 20 with fail
              obtain ⟨nq, hnq, hmq⟩ := HI6.out.gg
              have HLg9 := Lib.hid (And.intro hnq hmq)
              clear hnq hmq
              go_wp2_with (first | (at_lookup; refine wpList_look_mp rfl _ _ 59 4 rfl lawU Try.underlying59 zero_bool rfl HLg9.out.2 _ (ku s) rfl hk ?_) | ((with_reducible refine wpList_look_grd _ _ 59 4 rfl lawU Try.underlying59 zero_bool rfl HLg9.out.2 _ (ku s) rfl hk ?_ ?_); exact (Eq.refl true)) | (at_mapUpdate; refine wpList_store_mp rfl _ _ _ 59 4 rfl lawU Try.underlying59 rfl HLg9.out.2 (by have := HLg9.out.1; have := Hlen.out; unfold maxLen; omega) _ (encB false) (ku s) rfl rfl hk ?_; intro w9 hm ht; have H9 := Lib.hid (And.intro hm ht); clear hm ht))
              have hm9 := H9.out.1
              rw [mpN_put] at hm9
              have HI9 := Lib.hid (HI6.out.set_gg (by have := HLg9.out.1; omega) hm9 H9.out.2)
              exact ⟨⟨i + 1, last, _, _, _, _, _, rfl, by omega, HA.out, HI9.out.mono (by omega)⟩, by simp only [intOf]; omega⟩
            | some v => 
              have hMV : mpN encS V (ku s) = some (.string v) := by rw [mpN_at, hvs]; rfl
              cases hgs : (G s).getD false with
              | true =>
                have hDn : D s = none := by
                  cases hq : D s with
                  | none => rfl
                  | some r => rw [(HV.out.op s r hq).2.2.2.1] at hgs; cases hgs
                have hRe : (D', (xs, xx), is) = (D, (0, ByteArray.empty), false) := by rw [HR.out]; unfold votedS; rw [hDn]
                cases hRe
                have hMG : (mpN encB G (ku s)).getD (.bool false) = .bool true := by
                  rw [mpN_at]
                  cases hq : G s with
                  | none => rw [hq] at hgs; cases hgs
                  | some q => rw [hq] at hgs; simp only [Option.getD_some] at hgs; rw [hgs]; rfl
                have hA := HV.out.again s
                rw [hgs] at hA
                have HA := Lib.hid hA
                clear hA hgs hDn hvs
                go_upto_region 15 with (at_lookup; refine wpList_lookok_mp rfl _ _ 57 9 rfl lawU Try.underlying57 zero_str rfl HLv.out.2 _ (ku s) rfl hk ?_)
                have kg : (Instr.lookup 59 (.map (some bg)) (.int .u64 (s : Int)) false).run Try.prog w6 = .ok (.bool true) w6 := by rw [HLg.out.2.look lawU Try.underlying59 (zero_bool _) hk, hMG]
                go_upto_region 20 with fail
                obtain ⟨nq, hnq, hmq⟩ := HI6.out.gg
                have HLg9 := Lib.hid (And.intro hnq hmq)
                clear hnq hmq
                go_wp2_with (first | (at_lookup; refine wpList_look_mp rfl _ _ 59 4 rfl lawU Try.underlying59 zero_bool rfl HLg9.out.2 _ (ku s) rfl hk ?_) | ((with_reducible refine wpList_look_grd _ _ 59 4 rfl lawU Try.underlying59 zero_bool rfl HLg9.out.2 _ (ku s) rfl hk ?_ ?_); exact (Eq.refl true)) | (at_mapUpdate; refine wpList_store_mp rfl _ _ _ 59 4 rfl lawU Try.underlying59 rfl HLg9.out.2 (by have := HLg9.out.1; have := Hlen.out; unfold maxLen; omega) _ (encB true) (ku s) rfl rfl hk ?_; intro w9 hm ht; have H9 := Lib.hid (And.intro hm ht); clear hm ht))
                have hm9 := H9.out.1
                rw [mpN_put] at hm9
                have HI9 := Lib.hid (HI6.out.set_gg (by have := HLg9.out.1; omega) hm9 H9.out.2)
                exact ⟨⟨i + 1, last, _, _, _, _, _, rfl, by omega, HA.out, HI9.out.mono (by omega)⟩, by simp only [intOf]; omega⟩
              | false =>
                obtain ⟨r, hr⟩ := Option.isSome_iff_exists.1 (HV.out.vd s v hvs hgs)
                have hop := HV.out.op s r hr
                have hvx : v = r.x := Option.some.inj (hvs.symm.trans hop.1)
                subst hvx
                have hMG : (mpN encB G (ku s)).getD (.bool false) = .bool false := by
                  rw [mpN_at]
                  cases hq : G s with
                  | none => rfl
                  | some q => rw [hq] at hgs; simp only [Option.getD_some] at hgs; rw [hgs]; rfl
                have hMC : (mpN encU C (ku s)).getD (.int .u8 0) = .int .u8 (r.c : Int) := by rw [mpN_at, hop.2.1]; rfl
                have hMW : (mpN encU W (ku s)).getD (.int .u8 0) = .int .u8 (r.who : Int) := by
                  rw [mpN_at]
                  have h1 := hop.2.2.1
                  cases hq : W s with
                  | none => rw [hq] at h1; simp only [Option.getD_none] at h1; rw [← h1]; rfl
                  | some q => rw [hq] at h1; simp only [Option.getD_some] at h1; rw [← h1]; rfl
                cases hh : hasS r.c nd with
                | false =>
                  have hRe : (D', (xs, xx), is) = (D, (0, ByteArray.empty), false) := by rw [HR.out]; unfold votedS; rw [hr]; simp [hh]
                  cases hRe
                  have hA := HV.out.again s
                  rw [hgs] at hA
                  have HA := Lib.hid hA
                  have hha := fun y : World => has_any r.c nd hop.2.2.2.2.1 HB.out.2.2 y
                  rw [hh] at hha
                  have Hha := Lib.hid hha
                  have hma := fun y : World => pure_bel (major_any r.c r.who hop.2.2.2.2.1 hop.2.2.2.2.2.1 y)
                  rw [hop.2.2.2.2.2.2] at hma
                  have Hma := Lib.hid hma
                  clear hA hgs hvs hha hma hop hr hh
                  go_upto_region 15 with (at_lookup; refine wpList_lookok_mp rfl _ _ 57 9 rfl lawU Try.underlying57 zero_str rfl HLv.out.2 _ (ku s) rfl hk ?_)
                  have kg : (Instr.lookup 59 (.map (some bg)) (.int .u64 (s : Int)) false).run Try.prog w6 = .ok (.bool false) w6 := by rw [HLg.out.2.look lawU Try.underlying59 (zero_bool _) hk, hMG]
                  have kc : (Instr.lookup 58 (.map (some bc)) (.int .u64 (s : Int)) false).run Try.prog w6 = .ok (.int .u8 (r.c : Int)) w6 := by rw [HLc.out.2.look lawU Try.underlying58 (zero_set _) hk, hMC]
                  go_upto_region 17 with ((with_reducible refine (Hha.out _).mono ?_); rintro e w7 ⟨rfl, h7⟩; have H7 := Lib.hid h7; clear h7)
                  have HI7 := Lib.hid (HI6.out.below H7.out)
                  have HX7 := Lib.hid (HX.out.below H7.out)
                  clear HX f0 f1 f2 f3 f4
                  have HX := HX7
                  obtain ⟨f0, f1, f2, f3, f4⟩ := HX.out.cells
                  clear HX7
                  have HYn := Lib.hid (HY.out.below H7.out)
                  clear HY
                  have HY := HYn
                  clear HYn
                  obtain ⟨nq, hnq, hmq⟩ := HI7.out.gg
                  have HLg7 := Lib.hid (And.intro hnq hmq)
                  clear hnq hmq
                  obtain ⟨nq, hnq, hmq⟩ := HI7.out.c
                  have HLc7 := Lib.hid (And.intro hnq hmq)
                  clear hnq hmq
                  obtain ⟨nq, hnq, hmq⟩ := HI7.out.w
                  have HLw7 := Lib.hid (And.intro hnq hmq)
                  clear hnq hmq
                  clear kg kc
                  have kg : (Instr.lookup 59 (.map (some bg)) (.int .u64 (s : Int)) false).run Try.prog w7 = .ok (.bool false) w7 := by rw [HLg7.out.2.look lawU Try.underlying59 (zero_bool _) hk, hMG]
                  have kc : (Instr.lookup 58 (.map (some bc)) (.int .u64 (s : Int)) false).run Try.prog w7 = .ok (.int .u8 (r.c : Int)) w7 := by rw [HLc7.out.2.look lawU Try.underlying58 (zero_set _) hk, hMC]
                  have kw : (Instr.lookup 58 (.map (some bw)) (.int .u64 (s : Int)) false).run Try.prog w7 = .ok (.int .u8 (r.who : Int)) w7 := by rw [HLw7.out.2.look lawU Try.underlying58 (zero_set _) hk, hMW]
                  go_upto_region 20 with ((with_reducible refine (Hma.out _).mono ?_); rintro e w8 ⟨rfl, h8⟩; have H8 := Lib.hid h8; clear h8)
                  have HI8 := Lib.hid (HI7.out.below H8.out)
                  have HX8 := Lib.hid (HX.out.below H8.out)
                  clear f0 f1 f2 f3 f4
                  obtain ⟨f0, f1, f2, f3, f4⟩ := HX8.out.cells
                  obtain ⟨nq, hnq, hmq⟩ := HI8.out.gg
                  have HLg9 := Lib.hid (And.intro hnq hmq)
                  clear hnq hmq
                  go_wp2_with (first | (at_lookup; refine wpList_look_mp rfl _ _ 59 4 rfl lawU Try.underlying59 zero_bool rfl HLg9.out.2 _ (ku s) rfl hk ?_) | ((with_reducible refine wpList_look_grd _ _ 59 4 rfl lawU Try.underlying59 zero_bool rfl HLg9.out.2 _ (ku s) rfl hk ?_ ?_); exact (Eq.refl true)) | (at_mapUpdate; refine wpList_store_mp rfl _ _ _ 59 4 rfl lawU Try.underlying59 rfl HLg9.out.2 (by have := HLg9.out.1; have := Hlen.out; unfold maxLen; omega) _ (encB false) (ku s) rfl rfl hk ?_; intro w9 hm ht; have H9 := Lib.hid (And.intro hm ht); clear hm ht))
                  have hm9 := H9.out.1
                  rw [mpN_put] at hm9
                  have HI9 := Lib.hid (HI8.out.set_gg (by have := HLg9.out.1; omega) hm9 H9.out.2)
                  exact ⟨⟨i + 1, last, _, _, _, _, _, rfl, by omega, HA.out, HI9.out.mono (by omega)⟩, by simp only [intOf]; omega⟩
                | true =>
                  have hha := fun y : World => has_any r.c nd hop.2.2.2.2.1 HB.out.2.2 y
                  rw [hh] at hha
                  have Hha := Lib.hid hha
                  obtain ⟨q, hq⟩ : ∃ q, q = withS r.who (ofS nd) := ⟨_, rfl⟩
                  have hq8 : q < 256 := by rw [hq]; exact with_lt _ _
                  have hRe : (D', (xs, xx), is) = if majorS r.c q then (updD D s none, (s, r.x), true) else (updD D s (some ⟨r.x, r.c, q⟩), (0, ByteArray.empty), false) := by rw [HR.out, hq]; unfold votedS; rw [hr]; simp only [hh, if_true]
                  have his : is = majorS r.c q := by
                    cases hm : majorS r.c q <;> rw [hm] at hRe <;> simp at hRe <;> exact hRe.2.2
                  have Hof := Lib.hid (fun (y : World) (g o c : Nat) (h : y.cell? ⟨g, o, none⟩ = some (.int .u8 (nd : Int))) => pure_bel (of_any nd HB.out.2.2 g o c y h))
                  have Hwi := Lib.hid (fun y : World => pure_bel (with_any r.who (ofS nd) hop.2.2.2.2.2.1 (by have := of_lt nd; omega) y))
                  rw [← hq] at Hwi
                  have Hma := Lib.hid (fun y : World => pure_bel (major_any r.c q hop.2.2.2.2.1 hq8 y))
                  rw [← his] at Hma
                  have HRE := Lib.hid hRe
                  have HIS := Lib.hid his
                  have HQ := Lib.hid hq
                  have HRR := Lib.hid hr
                  have hvx2 := hvs
                  clear hgs hvs hvx2 hha hop hr hh hRe his hq hq8
                  go_upto_region 15 with (at_lookup; refine wpList_lookok_mp rfl _ _ 57 9 rfl lawU Try.underlying57 zero_str rfl HLv.out.2 _ (ku s) rfl hk ?_)
                  have kg : (Instr.lookup 59 (.map (some bg)) (.int .u64 (s : Int)) false).run Try.prog w6 = .ok (.bool false) w6 := by rw [HLg.out.2.look lawU Try.underlying59 (zero_bool _) hk, hMG]
                  have kc : (Instr.lookup 58 (.map (some bc)) (.int .u64 (s : Int)) false).run Try.prog w6 = .ok (.int .u8 (r.c : Int)) w6 := by rw [HLc.out.2.look lawU Try.underlying58 (zero_set _) hk, hMC]
                  go_upto_region 16 with ((with_reducible refine (Hha.out _).mono ?_); rintro e w7 ⟨rfl, h7⟩; have H7 := Lib.hid h7; clear h7)
                  have HI7 := Lib.hid (HI6.out.below H7.out)
                  have HX7 := Lib.hid (HX.out.below H7.out)
                  clear HX f0 f1 f2 f3 f4
                  have HX := HX7
                  obtain ⟨f0, f1, f2, f3, f4⟩ := HX.out.cells
                  clear HX7
                  have HYn := Lib.hid (HY.out.below H7.out)
                  clear HY
                  have HY := HYn
                  clear HYn
                  obtain ⟨nq, hnq, hmq⟩ := HI7.out.gg
                  have HLg7 := Lib.hid (And.intro hnq hmq)
                  clear hnq hmq
                  obtain ⟨nq, hnq, hmq⟩ := HI7.out.c
                  have HLc7 := Lib.hid (And.intro hnq hmq)
                  clear hnq hmq
                  obtain ⟨nq, hnq, hmq⟩ := HI7.out.w
                  have HLw7 := Lib.hid (And.intro hnq hmq)
                  clear hnq hmq
                  clear kg kc
                  refine (wpIn_wide (n := 1)).1 ?_
                  refine RegK.wpIn_region_can (F := Fence.wide) (KeptW w7) [(0, 0), (1, 0), (2, 0), (3, 0), (4, 0), (5, 0), (6, 0), (7, 0), (8, 0), (9, 1), (10, 1), (11, 1), (12, 3)] (by kernel_rfl) (by kernel_rfl) (by kernel_rfl) (fun _ _ d _ _ h => by cases d <;> exact h) ⟨rfl, rfl, rfl, Nat.le_refl _, fun _ _ => rfl⟩ ?_
                  dsimp only [RegK.pick, List.getElem?_cons_zero, List.getElem?_cons_succ]
                  change RegK.Can _ _ _ _ _ _ _ _ w7.drew
                  have hkd : KeptW w7 w7.drew := ⟨rfl, rfl, rfl, Nat.le_refl _, fun _ _ => rfl⟩
                  generalize w7.drew = v1 at *
                  iterate 2 (refine RegK.can_reads ?_; intro K hK; go_simp; (first | refine ⟨_, fun _ _ => rfl, hK _ ?_⟩ | refine hK _ ?_); clear hK K)
                  refine RegK.can_reads ?_
                  intro K hK
                  go_simp
                  refine ⟨.int .u64 (s : Int), fun y hy => ?_, hK _ ?_⟩
                  · have f1 : y.cell? ⟨gx, 1, none⟩ = some (.int .u64 (s : Int)) := cell_of_row _ _ _ _ _ _ (HX.out.below (KeptW.bel hy))
                    go_simp
                  clear hK K
                  iterate 2 (refine RegK.can_reads ?_; intro K hK; go_simp; (first | refine ⟨_, fun _ _ => rfl, hK _ ?_⟩ | refine hK _ ?_); clear hK K)
                  refine RegK.can_reads ?_
                  intro K hK
                  go_simp
                  refine ⟨.int .u64 (s : Int), fun y hy => ?_, hK _ ?_⟩
                  · have f1 : y.cell? ⟨gx, 1, none⟩ = some (.int .u64 (s : Int)) := cell_of_row _ _ _ _ _ _ (HX.out.below (KeptW.bel hy))
                    go_simp
                  clear hK K
                  refine RegK.can_reads ?_
                  intro K hK
                  go_simp
                  refine ⟨.int .u8 (r.who : Int), fun y hy => ?_, hK _ ?_⟩
                  · have kw : (Instr.lookup 58 (.map (some bw)) (.int .u64 (s : Int)) false).run Try.prog y = .ok (.int .u8 (r.who : Int)) y := by rw [(HLw7.out.2.below (KeptW.bel hy)).look lawU Try.underlying58 (zero_set _) hk, hMW]
                    go_simp
                  clear hK K
                  refine RegK.can_reads ?_; intro K hK; go_simp; (first | refine ⟨_, fun _ _ => rfl, hK _ ?_⟩ | refine hK _ ?_); clear hK K
                  refine RegK.can_reads ?_
                  intro K hK
                  go_simp
                  refine ⟨.int .u8 (nd : Int), fun y hy => ?_, hK _ ?_⟩
                  · have f4 : y.cell? ⟨gx, 4, none⟩ = some (.int .u8 (nd : Int)) := cell_of_row _ _ _ _ _ _ (HX.out.below (KeptW.bel hy))
                    go_simp
                  clear hK K
                  refine RegK.can_turns (fun _ => trivial) ?_
                  intro K K0 hK hK0
                  go_simp
                  have hb6 := (Below.refl v1.heap.size v1).alloc (Nat.le_refl _) (.cells #[.int .u8 (nd : Int)] 5)
                  have hc6 : (v1.alloc (.cells #[.int .u8 (nd : Int)] 5)).cell? ⟨v1.heap.size, 0, none⟩ = some (.int .u8 (nd : Int)) := cell_of_row _ _ _ _ _ _ (heap_alloc_new _ _)
                  have wbk : KeptW w7 (v1.alloc (.cells #[.int .u8 (nd : Int)] 5)) := KeptW.mono hkd hb6
                  refine hK _ _ wbk ?_
                  clear hK K hK0 K0
                  generalize v1.alloc (.cells #[.int .u8 (nd : Int)] 5) = wb at *
                  generalize v1.heap.size = g5 at *
                  refine RegK.can_turns (fun _ => trivial) ?_
                  intro K K0 hK hK0
                  go_simp
                  refine ⟨trivial, ?_⟩
                  refine (callsIn_wide.2 (Hof.out wb g5 0 1 hc6)).mono ?_
                  rintro e v2 ⟨rfl, hb7⟩
                  have v2k : KeptW w7 v2 := KeptW.mono wbk hb7
                  refine hK _ _ v2k ?_
                  clear hK K hK0 K0
                  refine RegK.can_turns (fun _ => trivial) ?_
                  intro K K0 hK hK0
                  go_simp
                  refine ⟨trivial, ?_⟩
                  refine (callsIn_wide.2 (Hwi.out v2)).mono ?_
                  rintro e v3 ⟨rfl, hb7⟩
                  have v3k : KeptW w7 v3 := KeptW.mono v2k hb7
                  refine hK _ _ v3k ?_
                  clear hK K hK0 K0
                  obtain ⟨w10, hrun, hm10, ht10⟩ := (HLw7.out.2.below (KeptW.bel v3k)).store lawU Try.underlying58 (by have := HLw7.out.1; have := Hlen.out; unfold maxLen; omega) (val := .int .u8 (q : Int)) hk
                  have H10 := Lib.hid (And.intro hm10 ht10)
                  clear hm10 ht10
                  refine RegK.can_frees (fun _ => trivial) ?_
                  intro K K0 hK hK0
                  go_simp
                  refine hK (fun _ => True) _ _ trivial ?_
                  clear hK K hK0 K0
                  refine RegK.can_nil ?_
                  have HIq := Lib.hid (HI7.out.below (KeptW.bel v3k))
                  have HXq := Lib.hid (HX.out.below (KeptW.bel v3k))
                  have HYq := Lib.hid (HY.out.below (KeptW.bel v3k))
                  have hmq := H10.out.1
                  rw [mpN_put] at hmq
                  have HI10 := Lib.hid (HIq.out.set_w (by have := HLw7.out.1; omega) hmq H10.out.2)
                  clear HX HY hrun f0 f1 f2 f3 f4
                  have HX := Lib.hid (show ActC w10 gx d s x c nd from (turned_block H10.out.2 (by have := Hgx.out; have := HI2.out.ord; omega)).trans HXq.out)
                  have HY := Lib.hid (show ItAt w10 gy xs xx from (turned_block H10.out.2 (by have := Hgx.out; have := Hgy.out; have := HI2.out.ord; omega)).trans HYq.out)
                  obtain ⟨f0, f1, f2, f3, f4⟩ := HX.out.cells
                  clear HI7 HLg7 HLc7 HLw7 HIq HXq HYq hmq hkd wbk hb6 hc6
                  obtain ⟨nq, hnq, hmq⟩ := HI10.out.gg
                  have HLg10 := Lib.hid (And.intro hnq hmq)
                  clear hnq hmq
                  obtain ⟨nq, hnq, hmq⟩ := HI10.out.c
                  have HLc10 := Lib.hid (And.intro hnq hmq)
                  clear hnq hmq
                  obtain ⟨nq, hnq, hmq⟩ := HI10.out.w
                  have HLw10 := Lib.hid (And.intro hnq hmq)
                  clear hnq hmq
                  have hMW2 : (mpN encU (updN W s (some q)) (ku s)).getD (.int .u8 0) = .int .u8 (q : Int) := by rw [mpN_at, updN_same]; rfl
                  have kg : (Instr.lookup 59 (.map (some bg)) (.int .u64 (s : Int)) false).run Try.prog w10 = .ok (.bool false) w10 := by rw [HLg10.out.2.look lawU Try.underlying59 (zero_bool _) hk, hMG]
                  have kc : (Instr.lookup 58 (.map (some bc)) (.int .u64 (s : Int)) false).run Try.prog w10 = .ok (.int .u8 (r.c : Int)) w10 := by rw [HLc10.out.2.look lawU Try.underlying58 (zero_set _) hk, hMC]
                  have kw : (Instr.lookup 58 (.map (some bw)) (.int .u64 (s : Int)) false).run Try.prog w10 = .ok (.int .u8 (q : Int)) w10 := by rw [HLw10.out.2.look lawU Try.underlying58 (zero_set _) hk, hMW2]
                  go_upto_region 18 with ((with_reducible refine (Hma.out _).mono ?_); rintro e w8 ⟨rfl, h8⟩; have H8 := Lib.hid h8; clear h8)
                  have HI11 := Lib.hid (HI10.out.below H8.out)
                  have HX8 := Lib.hid (HX.out.below H8.out)
                  have HY8 := Lib.hid (HY.out.below H8.out)
                  clear HX HY f0 f1 f2 f3 f4 kg kc kw hMW hMW2 HLg10 HLc10 HLw10
                  obtain ⟨f0, f1, f2, f3, f4⟩ := HX8.out.cells
                  cases is with
                  | false =>
                    have hm := HIS.out.symm
                    have hRe := HRE.out
                    rw [hm] at hRe
                    simp only [Bool.false_eq_true, if_false, Prod.mk.injEq] at hRe
                    obtain ⟨rfl, ⟨rfl, rfl⟩, _⟩ := hRe
                    have hA := HV.out.more (nd := nd) HRR.out (by rw [← HQ.out]; exact hm)
                    rw [← HQ.out] at hA
                    have HA := Lib.hid hA
                    clear hA hm
                    go_upto_region 20 with fail
                    obtain ⟨nq, hnq, hmq⟩ := HI11.out.gg
                    have HLg9 := Lib.hid (And.intro hnq hmq)
                    clear hnq hmq
                    go_wp2_with (first | (at_lookup; refine wpList_look_mp rfl _ _ 59 4 rfl lawU Try.underlying59 zero_bool rfl HLg9.out.2 _ (ku s) rfl hk ?_) | ((with_reducible refine wpList_look_grd _ _ 59 4 rfl lawU Try.underlying59 zero_bool rfl HLg9.out.2 _ (ku s) rfl hk ?_ ?_); exact (Eq.refl true)) | (at_mapUpdate; refine wpList_store_mp rfl _ _ _ 59 4 rfl lawU Try.underlying59 rfl HLg9.out.2 (by have := HLg9.out.1; have := Hlen.out; unfold maxLen; omega) _ (encB false) (ku s) rfl rfl hk ?_; intro w9 hm ht; have H9 := Lib.hid (And.intro hm ht); clear hm ht))
                    have hm9 := H9.out.1
                    rw [mpN_put] at hm9
                    have HI9 := Lib.hid (HI11.out.set_gg (by have := HLg9.out.1; omega) hm9 H9.out.2)
                    exact ⟨⟨i + 1, last, _, _, _, _, _, rfl, by omega, HA.out, HI9.out.mono (by omega)⟩, by simp only [intOf]; omega⟩
                  | true =>
                    have hm := HIS.out.symm
                    have hRe := HRE.out
                    rw [hm] at hRe
                    simp only [if_true, Prod.mk.injEq] at hRe
                    obtain ⟨rfl, ⟨hxs, rfl⟩, _⟩ := hRe
                    have hxs2 := hxs.symm
                    subst hxs2
                    have hA := HV.out.wins (nd := nd) HRR.out
                    rw [← HQ.out] at hA
                    have HA := Lib.hid hA
                    have y0 : w8.cell? ⟨gy, 0, none⟩ = some (.int .u64 (s : Int)) := cell_of_row _ _ _ _ _ _ HY8.out
                    have y1 : w8.cell? ⟨gy, 1, none⟩ = some (.string r.x) := cell_of_row _ _ _ _ _ _ HY8.out
                    clear hA hm
                    go_upto_region 20 with fail
                    clear y0 y1
                    obtain ⟨nq, hnq, hmq⟩ := HI11.out.gg
                    have HLg9 := Lib.hid (And.intro hnq hmq)
                    clear hnq hmq
                    go_wp2_with (first | (at_lookup; refine wpList_look_mp rfl _ _ 59 4 rfl lawU Try.underlying59 zero_bool rfl HLg9.out.2 _ (ku s) rfl hk ?_) | ((with_reducible refine wpList_look_grd _ _ 59 4 rfl lawU Try.underlying59 zero_bool rfl HLg9.out.2 _ (ku s) rfl hk ?_ ?_); exact (Eq.refl true)) | (at_mapUpdate; refine wpList_store_mp rfl _ _ _ 59 4 rfl lawU Try.underlying59 rfl HLg9.out.2 (by have := HLg9.out.1; have := Hlen.out; unfold maxLen; omega) _ (encB true) (ku s) rfl rfl hk ?_; intro w9 hm ht; have H9 := Lib.hid (And.intro hm ht); clear hm ht))
                    have hm9 := H9.out.1
                    rw [mpN_put] at hm9
                    have HI9 := Lib.hid (HI11.out.set_gg (by have := HLg9.out.1; omega) hm9 H9.out.2)
                    exact ⟨⟨i + 1, last, _, _, _, _, _, rfl, by omega, HA.out, HI9.out.mono (by omega)⟩, by simp only [intOf]; omega⟩
      · have hie : i = len := by omega
        subst hie
        have hil' : ¬ (i : Int) < (i : Int) := by omega
        obtain ⟨nv, hnv, Dv, hown, hMv⟩ := HI.out.v
        have HOWN := Lib.hid hown
        have hsz := hown.size_le
        have HSZ := Lib.hid hsz
        have HMV := Lib.hid (fun x : Int => (hMv (.int .u64 x) trivial).1)
        clear hown hMv hsz
        go_upto_region 34 with (at_range; refine wpList_range_own _ rfl _ 57 rfl 31 9 lawU Try.underlying57 Rv bv nv _ rfl HOWN.out ?_; intro w0 hrg0 hg0 hs0)
        have hI0 : Below wr.heap.size wr w0 := ⟨hg0.os, hg0.tape, hg0.output, hg0.size, fun q hq => hg0.block q hq (fun e => by cases e)⟩
        have HI0 := Lib.hid hI0
        have HRG := Lib.hid hrg0
        clear hrg0 hg0 hs0 hI0
        generalize hr : wr.heap.size = rr at *
        have HRR := Lib.hid hr
        clear hr
        have HIB := Lib.hid (fun (y : World) (h : Below rr wr y) => HI.out.below (show Below wr.heap.size wr y by rw [HRR.out]; exact h))
        have HBW := Lib.hid (HI.out.bel)
        go_loopw [19] (fun s19 wx => ∃ (left : Lit → Bool) (cnt : Nat) (ss : List Int), wx.ranges Try.prog 31 Rv bv rr nv Dv left cnt ∧ ss.length + cnt ≤ Maps.size Dv ∧ Came Dv left ss ∧ s19 = .int .i64 ((ss.filter (fun x => !(G x.toNat).getD false)).length : Int) ∧ Below rr wr wx) (fun _ wx => wx.rangeLeft bv rr)
        case atStart => exact ⟨_, _, [], HRG.out, by simp, came_start Dv, rfl, HI0.out⟩
        case round =>
          clear HRG HI0 HOWN
          obtain ⟨left, cnt, ss, hrg, hcs, hC, rfl, hbx⟩ := hrel
          have HBX := Lib.hid hbx
          have HIx := Lib.hid (HIB.out _ hbx)
          have HC := Lib.hid hC
          have HCS := Lib.hid (Nat.le_trans hcs HSZ.out)
          clear hbx hC
          obtain ⟨m, hm⟩ : ∃ m, m = (ss.filter (fun x => !(G x.toNat).getD false)).length := ⟨_, rfl⟩
          rw [← hm]
          have hm2 : m ≤ ss.length := by rw [hm]; exact List.length_filter_le _ _
          have HM := Lib.hid hm
          have hm3 : m < 1152921504606846976 := by have := HCS.out; have := Hlen.out; omega
          clear hm hm2
          go_upto_region 35 with (at_next; refine wpList_next_ranges _ rfl _ rfl 31 lawU Rv u64v id (fun key kl hk => by obtain ⟨x, hx, _⟩ := key_inv hk; exact ⟨x, hx⟩) (fun v _ _ => ⟨v, rfl⟩) bv rr nv _ _ _ rfl hrg ?_ ?_)
          · intro hc0 hl0
            have hC2 := HC.out
            rw [show left = fun _ => false from funext hl0] at hC2
            have hcm := came_nat HMV.out hC2
            obtain ⟨n1, hn1, hD1⟩ := HIx.out.d
            have HAL := Lib.hid (all_any p g n1 last D (by have := Hlen.out; omega) (fun s r hr => by have h1 := HV.out.vl s r.x (HV.out.op s r hr).1; have h2 := HV.out.ll; omega) wr hD1)
            have HCNT := Lib.hid (fun (ns : List Nat) (hn : SlotsOf D ns) => (HV.out.count hn hcm.1 hcm.2.1).trans ((hcm.2.2 (fun s => !(G s).getD false)).trans HM.out.symm))
            have HBF := Lib.hid (HIx.out.bel)
            clear hC2 hcm hc0 hl0 hD1 hrg hcs
            go_wp2_with (first
              | ((with_reducible refine HAL.out.mono ?_); rintro e w5 ⟨A5, c5, ns, rfl, hsl, hb5, ho5⟩; have e5 := HCNT.out ns hsl; rw [e5]; have H5 := Lib.hid hb5; clear hb5 ho5 e5 hsl)
              | ((with_reducible refine (Hwk.out _).mono ?_); rintro e w6 ⟨rfl, h6⟩; have H6 := Lib.hid h6; clear h6))
            go_ret
            exact ⟨rfl, (HBF.out.trans (H5.out.mono HBF.out.size)).trans (H6.out.mono (HBF.out.trans (H5.out.mono HBF.out.size)).size)⟩
          · intro x c kl yd yp w4 cnt2 hkey hlk hv hat hrg2 hlt hg2 hs2 hen
            obtain ⟨x', ex, rfl, hwf⟩ := key_inv hkey
            obtain rfl : x = x' := by cases ex; rfl
            have hx0 : 0 ≤ x := by have q : 0 ≤ x ∧ x ≤ 18446744073709551615 := by simpa [Lit.wf, IntKind.min, IntKind.max, IntKind.signed, IntKind.bits] using hwf
                                   exact q.1
            obtain ⟨s, rfl⟩ : ∃ s : Nat, x = (s : Int) := ⟨x.toNat, by omega⟩
            have hk : keyOf Try.prog 31 (.int .u64 (s : Int)) = some (ku s) := hkey
            have hhas : Maps.has Dv (.int .u64 (s : Int)) = true := Maps.has_true_of_atKey hat
            have hC2 := HC.out.step hlk hhas
            have hb4 : Below rr _ w4 := HBX.out.trans ⟨hg2.os, hg2.tape, hg2.output, hg2.size, fun q hq => hg2.block q (by have := HBX.out.size; have := HRR.out; omega) (fun e => by cases e; omega)⟩
            have HB4 := Lib.hid hb4
            have HI4 := Lib.hid (HIB.out _ hb4)
            have HC2 := Lib.hid hC2
            have hfl : ((ss ++ [(s : Int)]).filter (fun x => !(G x.toNat).getD false)).length = m + (if (G s).getD false then 0 else 1) := by
              rw [List.filter_append, List.length_append, ← HM.out]
              congr 1
              cases hq : (G s).getD false <;> simp [hq]
            obtain ⟨nq, hnq, hmq⟩ := HI4.out.gg
            have HLg := Lib.hid (And.intro hnq hmq)
            have hMG : (mpN encB G (ku s)).getD (.bool false) = .bool ((G s).getD false) := by rw [mpN_at]; cases G s <;> rfl
            have Hlt := Lib.hid hlt
            have HRG2 := Lib.hid hrg2
            have HRG1 := Lib.hid hrg
            have HFL := Lib.hid hfl
            have HL2 := Lib.hid (show (ss ++ [(s : Int)]).length + cnt2 ≤ Maps.size Dv by simp; omega)
            clear hkey hlk hv hat hrg2 hlt hg2 hs2 hC2 hb4 hnq hmq hhas hwf hx0 ex hfl hrg hcs
            cases hgs : (G s).getD false with
            | true =>
              rw [hgs] at hMG HFL
              have kg : (Instr.lookup 59 (.map (some bg)) (.int .u64 (s : Int)) false).run Try.prog w4 = .ok (.bool true) w4 := by rw [HLg.out.2.look lawU Try.underlying59 (zero_bool _) hk, hMG]
              go_wp2_with fail
              refine ⟨⟨_, cnt2, ss ++ [(s : Int)], HRG2.out, HL2.out, HC2.out, ?_, HB4.out⟩, ?_⟩
              · rw [HFL.out]; rfl
              · rw [HRG2.out.left_eq, HRG1.out.left_eq]; exact Hlt.out
            | false =>
              rw [hgs] at hMG HFL
              have kg : (Instr.lookup 59 (.map (some bg)) (.int .u64 (s : Int)) false).run Try.prog w4 = .ok (.bool false) w4 := by rw [HLg.out.2.look lawU Try.underlying59 (zero_bool _) hk, hMG]
              go_wp2_with fail
              refine ⟨⟨_, cnt2, ss ++ [(s : Int)], HRG2.out, HL2.out, HC2.out, ?_, HB4.out⟩, ?_⟩
              · rw [HFL.out]; rfl
              · rw [HRG2.out.left_eq, HRG1.out.left_eq]; exact Hlt.out
end Go.Proofs.Ytoleiiicbnmhpaa
namespace Go.Proofs.Ytoleiiicbnmhpaa
open Go.RowKit
theorem once_row (a1 : Option Addr) (l1 cap1 : Nat) (z : List PAct) {w : World} (h1 : PactsAt w a1 l1 z) (_W : World) :
    Calls Try.prog 6 #[.slice a1 l1 cap1] w fun e w' => e = .returned (.bool true) ∧ Below w.heap.size w w' :=
  once_any a1 l1 cap1 z w h1
end Go.Proofs.Ytoleiiicbnmhpaa
