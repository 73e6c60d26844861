/- The law KvStays. No condition. -/
import Derived.Test.YtimhpncdlaildaaKvH
import Derived.Test.YtimhpncdlaildaaKvI
namespace Go.Proofs.Ytimhpncdlaildaa
open Go.RowKit

theorem ptr_neq (p : Option Addr) (w : World) : (binOp .neq 58 (.pointer p) (.pointer p)).run Try.prog w = .ok (.bool false) w := by
  obtain ⟨j, hj, hz⟩ := infoTree
  have hu : Try.prog.underlying 58 = some (.pointer 122) := Try.underlying58
  have h : ∀ d : Nat, (Op.equalIn (d + 1) 58 (.pointer p) (.pointer p)).run Try.prog w = .ok true w := fun d => by
    cases p with
    | none => simp [Op.equalIn, run_underlying hu]
    | some a => simp [Op.equalIn, run_underlying hu, sizeOf, typeInfo, hj, run_sameAddr_same]
  have h2 : (Op.equal 58 (.pointer p) (.pointer p)).run Try.prog w = .ok true w := h 9999
  simp only [binOp]
  simp only [Sem.run_bind, h2, Result.andThen_ok, Sem.run_pure]
  rfl

set_option maxRecDepth 100000 in
set_option maxHeartbeats 16000000 in
theorem kvStays_any (a : Option Addr) (len cap : Nat) (z : List CmdV) (w : World) (h : CmdsAt w a len z) :
    Calls Try.prog 13 #[.slice a len cap] w fun e w' => e = .returned (.bool true) ∧ Below w.heap.size w w' := by
  have hl := h.hlen
  have hgr := kgreat_any a len cap z w h
  cases hg : kgreatS z with
  | true =>
    rw [hg] at hgr
    clear h hl
    have Hgr := Lib.hid hgr; clear hgr
    go_enter Try.func13, Try.ntmps13
    go_wp2_with (first
      | ((with_reducible refine Hgr.out.mono ?_); clear Hgr; rintro e w' ⟨rfl, rfl⟩)
      | ((with_reducible refine (kwakes_any w).mono ?_); rintro e w3 ⟨rfl, hw⟩; have Hw := Lib.hid hw; clear hw))
    go_ret
    exact ⟨rfl, Hw.out⟩
  | false =>
    rw [hg] at hgr
    obtain ⟨hlen, hsz⟩ := kgreat_ok hg
    have hlen' : len ≤ 100 := by omega
    have Hl := Lib.hid hl; clear hl
    have H := Lib.hid h; clear h
    have Hsz := Lib.hid hsz; clear hsz hlen hg
    have Hgr := Lib.hid hgr; clear hgr
    have HS0 := Lib.hid (VarAt.new w (.pointer none) 96)
    have HB0 := Lib.hid ((Below.refl w.heap.size w).alloc (Nat.le_refl _) (.cells #[.pointer none] 96))
    go_enter Try.func13, Try.ntmps13
    go_upto_region 4 with ((with_reducible refine Hgr.out.mono ?_); clear Hgr; rintro e w' ⟨rfl, rfl⟩)
    change Code.wp _ _ _ _ (w.alloc (.cells #[.pointer none] 96))
    generalize w.alloc (.cells #[.pointer none] 96) = w0 at *
    go_wp2_with fail
    go_loopw [4] (fun s4 wr => ∃ i T, i ≤ len ∧ s4 = .int .i64 (i : Int) ∧ VarAt wr w.heap.size (.pointer (Tr.ptr T)) 96 ∧ TreeAt wr T ∧ KvInv T.sh ∧ Below w.heap.size w wr) (fun s4 _ => len - (intOf s4).toNat)
    case atStart => exact ⟨0, .nil, by omega, rfl, HS0.out, trivial, KvInv.nil, HB0.out⟩
    case round =>
      obtain ⟨i, T, hi, rfl, hs, hat, hinv, hbel⟩ := hrel
      clear HS0 HB0
      have Hbel := Lib.hid hbel; clear hbel
      have Hat := Lib.hid hat; clear hat
      have Hinv := Lib.hid hinv; clear hinv
      have Hs := Lib.hid hs; clear hs
      obtain ⟨P, hP⟩ : ∃ P, T.ptr = P := ⟨_, rfl⟩
      rw [hP] at Hs
      have HP := Lib.hid hP; clear hP
      by_cases hlt : i < len
      · have hlt' : (i : Int) < (len : Int) := by omega
        obtain ⟨b, o, rfl, hbl, c0, c1, c2, c3, c4, c5, c6⟩ := cmds_cells (H.out.below Hbel.out) hlt
        have hsucc := tsucc (n := i) (by omega)
        generalize z.getD i default = c at *
        have hi1 : i + 1 ≤ len := hlt
        have HC0 := Lib.hid (CmdAt.new wr c)
        have HBc := Lib.hid ((Below.refl wr.heap.size wr).alloc (Nat.le_refl _) (.cells (cmdCells c).toArray 103))
        go_upto_region 8 with fail
        change Code.wp _ _ _ _ (wr.alloc (.cells (cmdCells c).toArray 103))
        generalize wr.alloc (.cells (cmdCells c).toArray 103) = w1 at *
        obtain ⟨L, hL⟩ : ∃ L, T.look c.key = L := ⟨_, rfl⟩
        have HL := Lib.hid hL; clear hL
        clear c0 c1 c2 c3 c4 c5 c6 hbl
        have Hs1 := Lib.hid (Hs.out.below HBc.out)
        have Ht1 := Lib.hid (Hat.out.below HBc.out)
        have HB1 := Lib.hid (Hbel.out.trans (Below.mono HBc.out Hbel.out.size))
        have Hlt := Lib.hid (show w.heap.size < wr.heap.size from Hs.out.lt)
        clear Hs Hat Hbel HBc
        refine (wpIn_wide (n := 1)).1 ?_
        refine RegK.wpIn_region_can (F := Fence.wide) (KeptW w1) [(0, 0), (2, 0), (3, 0), (1, 1), (4, 1), (5, 0), (6, 0), (7, 0), (8, 0), (9, 0)] (by kernel_rfl) (by kernel_rfl) (by kernel_rfl) (fun _ _ d _ _ h => by cases d <;> exact h) ⟨rfl, rfl, rfl, Nat.le_refl _, fun _ _ => rfl⟩ ?_
        dsimp only [RegK.pick, List.getElem?_cons_zero, List.getElem?_cons_succ]
        change RegK.Can _ _ _ _ _ _ _ _ w1.drew
        have hkd : KeptW w1 w1.drew := ⟨rfl, rfl, rfl, Nat.le_refl _, fun _ _ => rfl⟩
        refine RegK.can_reads ?_
        intro K hK
        go_simp
        refine ⟨.agg #[.pointer P], fun y hy => ?_, hK _ ?_⟩
        · have f0 := (Hs1.out.below (KeptW.bel hy)).cell
          go_simp
        clear hK K
        refine RegK.can_reads ?_
        intro K hK
        go_simp
        first | (refine ⟨_, fun _ _ => rfl, hK _ ?_⟩) | (refine hK _ ?_)
        clear hK K
        refine RegK.can_reads ?_
        intro K hK
        go_simp
        refine ⟨.string c.key, fun y hy => ?_, hK _ ?_⟩
        · have f0 := (HC0.out.below (KeptW.bel hy)).cells.2.2.2.1
          go_simp
        clear hK K
        refine RegK.can_narrows (fun _ => trivial) ?_
        intro K K0 hK hK0
        go_simp
        refine ⟨trivial, ?_⟩
        refine (callsIn_wide.2 (tree_any P w1.drew)).mono ?_
        rintro e x ⟨rfl, hb⟩
        have hx : KeptW w1 x := KeptW.mono hkd hb
        refine hK (KeptW w1) _ _ (fun y h => h) hx ?_
        clear hK K K0 hK0 hb hkd
        refine RegK.can_narrows (fun _ => trivial) ?_
        intro K K0 hK hK0
        go_simp
        refine ⟨trivial, ?_⟩
        have hget := get_any c.key T x (Ht1.out.below (KeptW.bel hx))
        rw [HP.out, HL.out] at hget
        refine (callsIn_wide.2 hget).mono ?_
        clear hget
        rintro e x2 ⟨rfl, rfl⟩
        refine hK (KeptW w1) _ _ (fun y h => h) hx ?_
        clear hK K K0 hK0
        iterate 5 (refine RegK.can_reads ?_; intro K hK; go_simp; (first | (refine ⟨_, fun _ _ => rfl, hK _ ?_⟩) | (refine hK _ ?_)); clear hK K)
        refine RegK.can_nil ?_
        have HC2 := Lib.hid (HC0.out.below (KeptW.bel hx))
        have Hs2 := Lib.hid (Hs1.out.below (KeptW.bel hx))
        have Ht2 := Lib.hid (Ht1.out.below (KeptW.bel hx))
        have HB2 := Lib.hid (HB1.out.trans (Below.mono (KeptW.bel hx) HB1.out.size))
        clear HC0 Hs1 Ht1 HB1 hx w1
        obtain ⟨d0, d1, d2, d3, d4, d5, d6⟩ := HC2.out.cells
        have s0 := Hs2.out.cell
        have hdo := do_any c T x Ht2.out (by have := Hinv.out.num; rw [sh_cnt]; omega)
        obtain ⟨hinv2, hsay⟩ := kv_says Hinv.out c
        rw [HP.out] at hdo
        obtain ⟨⟨oS, oc, ot⟩, ho⟩ : ∃ o, kvDo T.sh c = o := ⟨_, rfl⟩
        rw [ho] at hdo hinv2 hsay
        have Hinv2 := Lib.hid hinv2
        have Hsay := Lib.hid hsay
        clear ho hinv2 hsay
        have Hdo := Lib.hid (show Calls Try.prog 52 #[.agg #[.pointer P], .agg #[.int .u8 (c.client.toNat : Int), .int .u32 (c.seq.toNat : Int), .int .u8 (c.kind.toNat : Int), .string c.key, .string c.old, .string c.fresh, .int .u8 (c.set.toNat : Int)]] x (fun e w' => ∃ X, e = .returned (.tuple #[.agg #[.pointer X.ptr], .agg #[.int .u8 (oc : Int), .string ot]]) ∧ KvPost T ⟨oS, oc, ot⟩ _ x w' X) from hdo); clear hdo
        go_upto_region 10 with ((with_reducible refine Hdo.out.mono ?_); clear Hdo; rintro e w3 ⟨X, rfl, hx⟩; have Hx := Lib.hid hx; clear hx)
        have hv5 := VarAt.new w3 (.pointer X.ptr) 96
        have hb4 := (Below.refl w3.heap.size w3).alloc (Nat.le_refl _) (.cells #[.pointer X.ptr] 96)
        have hs4 : (w3.alloc (.cells #[.pointer X.ptr] 96)).heap.size = w3.heap.size + 1 := by simp
        have hb45 := (Below.refl (w3.alloc (.cells #[.pointer X.ptr] 96)).heap.size (w3.alloc (.cells #[.pointer X.ptr] 96))).alloc (Nat.le_refl _) (.cells (repCells oc ot).toArray 98)
        have hr5 : RepAt ((w3.alloc (.cells #[.pointer X.ptr] 96)).alloc (.cells (repCells oc ot).toArray 98)) (w3.heap.size + 1) oc ot := by rw [← hs4]; exact heap_alloc_new _ _
        have hb5 := hb4.trans (hb45.mono hb4.size)
        replace hv5 := hv5.below hb45
        have HB5 := Lib.hid hb5
        have Hv5 := Lib.hid hv5
        have Hr5 := Lib.hid hr5
        clear hv5 hb4 hs4 hb45 hr5 hb5
        change Code.wp _ _ _ _ ((w3.alloc (.cells #[.pointer X.ptr] 96)).alloc (.cells (repCells oc ot).toArray 98))
        generalize (w3.alloc (.cells #[.pointer X.ptr] 96)).alloc (.cells (repCells oc ot).toArray 98) = w5 at *
        have hb25 : Below x.heap.size x w5 := Hx.out.bel.trans (Below.mono HB5.out Hx.out.bel.size)
        have HC5 := Lib.hid (HC2.out.below hb25)
        have Hs5 := Lib.hid (Hs2.out.below hb25)
        have Ht5 := Lib.hid (Hx.out.at_.below HB5.out)
        have HB55 := Lib.hid (HB2.out.trans (Below.mono hb25 HB2.out.size))
        have Hlt3 := Lib.hid (show w.heap.size < w3.heap.size from Nat.lt_of_lt_of_le Hs2.out.lt Hx.out.bel.size)
        have Hxs := Lib.hid Hx.out.shp
        have Hxk := Lib.hid Hx.out.keep
        clear HC2 Hs2 Ht2 HB2 HB5 Hx hb25 d0 d1 d2 d3 d4 d5 d6 s0
        obtain ⟨PX, hPX⟩ : ∃ P, X.ptr = P := ⟨_, rfl⟩
        rw [hPX] at Hv5
        rw [hPX]
        have HPX := Lib.hid hPX; clear hPX
        obtain ⟨L2, hL2⟩ : ∃ L, X.look c.key = L := ⟨_, rfl⟩
        have HL2 := Lib.hid hL2; clear hL2
        refine (wpIn_wide (n := 1)).1 ?_
        refine RegK.wpIn_region_can (F := Fence.wide) (KeptW w5) [(0, 0), (2, 0), (3, 0), (1, 1), (4, 1), (5, 0), (6, 0), (7, 0), (8, 0), (9, 0)] (by kernel_rfl) (by kernel_rfl) (by kernel_rfl) (fun _ _ d _ _ h => by cases d <;> exact h) ⟨rfl, rfl, rfl, Nat.le_refl _, fun _ _ => rfl⟩ ?_
        dsimp only [RegK.pick, List.getElem?_cons_zero, List.getElem?_cons_succ]
        change RegK.Can _ _ _ _ _ _ _ _ w5.drew
        have hkd : KeptW w5 w5.drew := ⟨rfl, rfl, rfl, Nat.le_refl _, fun _ _ => rfl⟩
        refine RegK.can_reads ?_
        intro K hK
        go_simp
        refine ⟨.agg #[.pointer PX], fun y hy => ?_, hK _ ?_⟩
        · have f0 := (Hv5.out.below (KeptW.bel hy)).cell
          go_simp
        clear hK K
        refine RegK.can_reads ?_
        intro K hK
        go_simp
        first | (refine ⟨_, fun _ _ => rfl, hK _ ?_⟩) | (refine hK _ ?_)
        clear hK K
        refine RegK.can_reads ?_
        intro K hK
        go_simp
        refine ⟨.string c.key, fun y hy => ?_, hK _ ?_⟩
        · have f0 := (HC5.out.below (KeptW.bel hy)).cells.2.2.2.1
          go_simp
        clear hK K
        refine RegK.can_narrows (fun _ => trivial) ?_
        intro K K0 hK hK0
        go_simp
        refine ⟨trivial, ?_⟩
        refine (callsIn_wide.2 (tree_any PX w5.drew)).mono ?_
        rintro e x6 ⟨rfl, hb⟩
        have hx : KeptW w5 x6 := KeptW.mono hkd hb
        refine hK (KeptW w5) _ _ (fun y h => h) hx ?_
        clear hK K K0 hK0 hb hkd
        refine RegK.can_narrows (fun _ => trivial) ?_
        intro K K0 hK hK0
        go_simp
        refine ⟨trivial, ?_⟩
        have hget := get_any c.key X x6 (Ht5.out.below (KeptW.bel hx))
        rw [HPX.out, HL2.out] at hget
        refine (callsIn_wide.2 hget).mono ?_
        clear hget
        rintro e x6b ⟨rfl, rfl⟩
        refine hK (KeptW w5) _ _ (fun y h => h) hx ?_
        clear hK K K0 hK0
        iterate 5 (refine RegK.can_reads ?_; intro K hK; go_simp; (first | (refine ⟨_, fun _ _ => rfl, hK _ ?_⟩) | (refine hK _ ?_)); clear hK K)
        refine RegK.can_nil ?_
        have HC6 := Lib.hid (HC5.out.below (KeptW.bel hx))
        have Hs6 := Lib.hid (Hs5.out.below (KeptW.bel hx))
        have Ht6 := Lib.hid (Ht5.out.below (KeptW.bel hx))
        have HB6 := Lib.hid (HB55.out.trans (Below.mono (KeptW.bel hx) HB55.out.size))
        have Hv6 := Lib.hid (Hv5.out.below (KeptW.bel hx))
        have Hr6 := Lib.hid (Hr5.out.below (KeptW.bel hx))
        clear HC5 Hs5 Ht5 HB55 Hv5 Hr5 hx w5
        obtain ⟨kn, hkn⟩ : ∃ k, c.kind = k := ⟨_, rfl⟩
        go_upto_region 11 with fail
        rcases Hsay.out with ⟨e1, e2, e3, e4⟩ | ⟨e2, e3, e4⟩ | ⟨e1, e2, e3, e4⟩ | ⟨e1, e3, e4, e5⟩ | ⟨e1, e3, e4, e5⟩ | ⟨e1, e3, e4, e5, e6⟩
        · simp only at e2 e3 e4
          subst e3 e4
          obtain rfl : L = none := by rw [← HL.out, sh_look]; exact e1
          clear e1 e2
          clear Hsay
          by_cases hk1 : kn = 1
          · skip
            subst hk1
            have Hkc := Lib.hid (fun y (hb : Below x6.heap.size x6 y) => show y.cell? ⟨wr.heap.size, 2, none⟩ = some (.int .u8 1) by have := (HC6.out.below hb).cells.2.2.1; rwa [hkn] at this)
            have Hr6' := Lib.hid (show x6.cell? ⟨w3.heap.size + 1, 0, none⟩ = some (.int .u8 1) ∧ x6.cell? ⟨w3.heap.size + 1, 1, none⟩ = some (.string { data := #[] }) from Hr6.out.cells)
            have Hr6r := Lib.hid (show RepAt x6 (w3.heap.size + 1) 1 { data := #[] } from Hr6.out)
            clear Hr6 Hr6'
            obtain rfl : X = T := Hxk.out (by simp [hkn])
            obtain rfl : PX = P := by rw [← HPX.out, HP.out]

            refine (wpIn_wide (n := 1)).1 ?_
            refine RegK.wpIn_region_can (F := Fence.wide) (KeptW x6) [(0, 0), (1, 0), (2, 0), (3, 0), (4, 0), (5, 0), (6, 0), (7, 0), (8, 0), (9, 0), (11, 0), (10, 1), (12, 1), (13, 0), (14, 0)] (by kernel_rfl) (by kernel_rfl) (by kernel_rfl) (fun _ _ d _ _ h => by cases d <;> exact h) ⟨rfl, rfl, rfl, Nat.le_refl _, fun _ _ => rfl⟩ ?_
            dsimp only [RegK.pick, List.getElem?_cons_zero, List.getElem?_cons_succ]
            change RegK.Can _ _ _ _ _ _ _ _ x6.drew
            have hkd : KeptW x6 x6.drew := ⟨rfl, rfl, rfl, Nat.le_refl _, fun _ _ => rfl⟩
            iterate 1 (refine RegK.can_reads ?_; intro K hK; go_simp; (first | (refine ⟨_, fun _ _ => rfl, hK _ ?_⟩) | (refine hK _ ?_)); clear hK K)
            refine RegK.can_reads ?_
            intro K hK
            go_simp
            refine ⟨.int .u8 1, fun y hy => ?_, hK _ ?_⟩
            · have f0 := (Hkc.out _ (KeptW.bel hy))
              go_simp
            clear hK K
            iterate 3 (refine RegK.can_reads ?_; intro K hK; go_simp; (first | (refine ⟨_, fun _ _ => rfl, hK _ ?_⟩) | (refine hK _ ?_)); clear hK K)
            iterate 4 (refine RegK.can_reads ?_; intro K hK; go_simp; (first | (refine ⟨_, fun _ _ => rfl, hK _ ?_⟩) | (refine hK _ ?_)); clear hK K)
            refine RegK.can_reads ?_
            intro K hK
            go_simp
            refine ⟨.agg #[.pointer PX], fun y hy => ?_, hK _ ?_⟩
            · have f0 := (Hv6.out.below (KeptW.bel hy)).cell
              go_simp
            clear hK K
            refine RegK.can_reads ?_
            intro K hK
            go_simp
            refine ⟨.agg #[.pointer PX], fun y hy => ?_, hK _ ?_⟩
            · have f0 := (Hs6.out.below (KeptW.bel hy)).cell
              go_simp
            clear hK K
            refine RegK.can_narrows (fun _ => trivial) ?_
            intro K K0 hK hK0
            go_simp
            refine ⟨trivial, ?_⟩
            refine (callsIn_wide.2 (tree_any PX x6.drew)).mono ?_
            rintro e xa ⟨rfl, hb⟩
            have hxa : KeptW x6 xa := KeptW.mono hkd hb
            refine hK (KeptW x6) _ _ (fun y h => h) hxa ?_
            clear hK K K0 hK0 hb
            refine RegK.can_narrows (fun _ => trivial) ?_
            intro K K0 hK hK0
            go_simp
            refine ⟨trivial, ?_⟩
            refine (callsIn_wide.2 (tree_any PX xa)).mono ?_
            rintro e xb ⟨rfl, hb⟩
            have hxb : KeptW x6 xb := KeptW.mono hxa hb
            refine hK (KeptW x6) _ _ (fun y h => h) hxb ?_
            clear hK K K0 hK0 hb
            have hx7 := hxb
            refine RegK.can_reads ?_
            intro K hK
            go_simp
            refine ⟨.bool false, fun y hy => ?_, hK _ ?_⟩
            · have f0 := ptr_neq PX y
              go_simp
            clear hK K
            iterate 1 (refine RegK.can_reads ?_; intro K hK; go_simp; (first | (refine ⟨_, fun _ _ => rfl, hK _ ?_⟩) | (refine hK _ ?_)); clear hK K)
            refine RegK.can_nil ?_
            have Hs7 := Lib.hid (Hs6.out.below (KeptW.bel hx7))
            have Ht7 := Lib.hid (Ht6.out.below (KeptW.bel hx7))
            have HB7 := Lib.hid (HB6.out.trans (Below.mono (KeptW.bel hx7) HB6.out.size))
            have Hv7 := Lib.hid (Hv6.out.below (KeptW.bel hx7))
            have s0 := Hs7.out.cell
            have s1 := Hs7.out.thawed 0
            have v0 := Hv7.out.cell
            obtain ⟨r0, r1⟩ := (Hr6r.out.below (KeptW.bel hx7)).cells
            have d2 := Hkc.out _ (KeptW.bel hx7)
            obtain ⟨_, _, _, d3, d4, d5, _⟩ := (HC6.out.below (KeptW.bel hx7)).cells
            clear Hs6 Ht6 HB6 Hv6 Hr6r HC6 Hkc hxa hxb hx7 hkd
            generalize xb = x7 at *
            go_wp2_with fail
            go_roundw
            case rel =>
              exact ⟨i + 1, X, hi1, rfl, by have := Hs7.out.set (x := .pointer X.ptr); rwa [HPX.out] at this ⊢, TreeAt.setC Hs7.out (by simp) Ht7.out, by rw [Hxs.out]; exact Hinv2.out, below_setV HB7.out (Nat.le_refl _)⟩
            case measure => simp [intOf]; omega
          · skip
            obtain ⟨n, hn⟩ : ∃ n : Int, (kn.toNat : Int) = n := ⟨_, rfl⟩
            have Hkc := Lib.hid (fun y (hb : Below x6.heap.size x6 y) => show y.cell? ⟨wr.heap.size, 2, none⟩ = some (.int .u8 n) by have := (HC6.out.below hb).cells.2.2.1; rwa [hkn, hn] at this)
            have hn1 : (n == (1 : Int)) = false := by
              rw [← hn]
              simp only [beq_eq_false_iff_ne, ne_eq]
              intro e
              exact hk1 (UInt8.toNat_inj.1 (show kn.toNat = (1 : UInt8).toNat by show kn.toNat = 1; omega))
            clear hn
            have Hr6' := Lib.hid (show x6.cell? ⟨w3.heap.size + 1, 0, none⟩ = some (.int .u8 1) ∧ x6.cell? ⟨w3.heap.size + 1, 1, none⟩ = some (.string { data := #[] }) from Hr6.out.cells)
            have Hr6r := Lib.hid (show RepAt x6 (w3.heap.size + 1) 1 { data := #[] } from Hr6.out)
            clear Hr6 Hr6'
            obtain rfl : X = T := Hxk.out (by simp [hkn])
            obtain rfl : PX = P := by rw [← HPX.out, HP.out]

            refine (wpIn_wide (n := 1)).1 ?_
            refine RegK.wpIn_region_can (F := Fence.wide) (KeptW x6) [(0, 0), (1, 0), (2, 0), (3, 0), (4, 0), (5, 0), (6, 0), (7, 0), (8, 0), (9, 0), (11, 0), (10, 1), (12, 1), (13, 0), (14, 0)] (by kernel_rfl) (by kernel_rfl) (by kernel_rfl) (fun _ _ d _ _ h => by cases d <;> exact h) ⟨rfl, rfl, rfl, Nat.le_refl _, fun _ _ => rfl⟩ ?_
            dsimp only [RegK.pick, List.getElem?_cons_zero, List.getElem?_cons_succ]
            change RegK.Can _ _ _ _ _ _ _ _ x6.drew
            have hkd : KeptW x6 x6.drew := ⟨rfl, rfl, rfl, Nat.le_refl _, fun _ _ => rfl⟩
            iterate 1 (refine RegK.can_reads ?_; intro K hK; go_simp; (first | (refine ⟨_, fun _ _ => rfl, hK _ ?_⟩) | (refine hK _ ?_)); clear hK K)
            refine RegK.can_reads ?_
            intro K hK
            go_simp
            refine ⟨.int .u8 n, fun y hy => ?_, hK _ ?_⟩
            · have f0 := (Hkc.out _ (KeptW.bel hy))
              go_simp
            clear hK K
            iterate 3 (refine RegK.can_reads ?_; intro K hK; go_simp; (first | (refine ⟨_, fun _ _ => rfl, hK _ ?_⟩) | (refine hK _ ?_)); clear hK K)
            refine RegK.can_reads ?_
            intro K hK
            go_simp
            refine ⟨.int .u8 1, fun y hy => ?_, hK _ ?_⟩
            · have f0 := (Hr6r.out.below (KeptW.bel hy)).cells.1
              go_simp
            clear hK K
            iterate 3 (refine RegK.can_reads ?_; intro K hK; go_simp; (first | (refine ⟨_, fun _ _ => rfl, hK _ ?_⟩) | (refine hK _ ?_)); clear hK K)
            refine RegK.can_reads ?_
            intro K hK
            go_simp
            refine ⟨.agg #[.pointer PX], fun y hy => ?_, hK _ ?_⟩
            · have f0 := (Hv6.out.below (KeptW.bel hy)).cell
              go_simp
            clear hK K
            refine RegK.can_reads ?_
            intro K hK
            go_simp
            refine ⟨.agg #[.pointer PX], fun y hy => ?_, hK _ ?_⟩
            · have f0 := (Hs6.out.below (KeptW.bel hy)).cell
              go_simp
            clear hK K
            refine RegK.can_narrows (fun _ => trivial) ?_
            intro K K0 hK hK0
            go_simp
            refine ⟨trivial, ?_⟩
            refine (callsIn_wide.2 (tree_any PX x6.drew)).mono ?_
            rintro e xa ⟨rfl, hb⟩
            have hxa : KeptW x6 xa := KeptW.mono hkd hb
            refine hK (KeptW x6) _ _ (fun y h => h) hxa ?_
            clear hK K K0 hK0 hb
            refine RegK.can_narrows (fun _ => trivial) ?_
            intro K K0 hK hK0
            go_simp
            refine ⟨trivial, ?_⟩
            refine (callsIn_wide.2 (tree_any PX xa)).mono ?_
            rintro e xb ⟨rfl, hb⟩
            have hxb : KeptW x6 xb := KeptW.mono hxa hb
            refine hK (KeptW x6) _ _ (fun y h => h) hxb ?_
            clear hK K K0 hK0 hb
            have hx7 := hxb
            refine RegK.can_reads ?_
            intro K hK
            go_simp
            refine ⟨.bool false, fun y hy => ?_, hK _ ?_⟩
            · have f0 := ptr_neq PX y
              go_simp
            clear hK K
            iterate 1 (refine RegK.can_reads ?_; intro K hK; go_simp; (first | (refine ⟨_, fun _ _ => rfl, hK _ ?_⟩) | (refine hK _ ?_)); clear hK K)
            refine RegK.can_nil ?_
            have Hs7 := Lib.hid (Hs6.out.below (KeptW.bel hx7))
            have Ht7 := Lib.hid (Ht6.out.below (KeptW.bel hx7))
            have HB7 := Lib.hid (HB6.out.trans (Below.mono (KeptW.bel hx7) HB6.out.size))
            have Hv7 := Lib.hid (Hv6.out.below (KeptW.bel hx7))
            have s0 := Hs7.out.cell
            have s1 := Hs7.out.thawed 0
            have v0 := Hv7.out.cell
            obtain ⟨r0, r1⟩ := (Hr6r.out.below (KeptW.bel hx7)).cells
            have d2 := Hkc.out _ (KeptW.bel hx7)
            obtain ⟨_, _, _, d3, d4, d5, _⟩ := (HC6.out.below (KeptW.bel hx7)).cells
            clear Hs6 Ht6 HB6 Hv6 Hr6r HC6 Hkc hxa hxb hx7 hkd
            generalize xb = x7 at *
            go_wp2_with fail
            go_roundw
            case rel =>
              exact ⟨i + 1, X, hi1, rfl, by have := Hs7.out.set (x := .pointer X.ptr); rwa [HPX.out] at this ⊢, TreeAt.setC Hs7.out (by simp) Ht7.out, by rw [Hxs.out]; exact Hinv2.out, below_setV HB7.out (Nat.le_refl _)⟩
            case measure => simp [intOf]; omega
        · simp only at e2 e3 e4
          subst e3
          have ht : ¬ (64 : Int) < (ot.size : Int) := by omega
          clear e2 e4
          clear Hsay
          by_cases hk1 : kn = 1
          · skip
            subst hk1
            have Hkc := Lib.hid (fun y (hb : Below x6.heap.size x6 y) => show y.cell? ⟨wr.heap.size, 2, none⟩ = some (.int .u8 1) by have := (HC6.out.below hb).cells.2.2.1; rwa [hkn] at this)
            have Hr6' := Lib.hid (show x6.cell? ⟨w3.heap.size + 1, 0, none⟩ = some (.int .u8 2) ∧ x6.cell? ⟨w3.heap.size + 1, 1, none⟩ = some (.string ot) from Hr6.out.cells)
            have Hr6r := Lib.hid (show RepAt x6 (w3.heap.size + 1) 2 ot from Hr6.out)
            clear Hr6 Hr6'
            obtain rfl : X = T := Hxk.out (by simp [hkn])
            obtain rfl : PX = P := by rw [← HPX.out, HP.out]

            refine (wpIn_wide (n := 1)).1 ?_
            refine RegK.wpIn_region_can (F := Fence.wide) (KeptW x6) [(0, 0), (1, 0), (2, 0), (3, 0), (4, 0), (5, 0), (6, 0), (7, 0), (8, 0), (9, 0), (11, 0), (10, 1), (12, 1), (13, 0), (14, 0)] (by kernel_rfl) (by kernel_rfl) (by kernel_rfl) (fun _ _ d _ _ h => by cases d <;> exact h) ⟨rfl, rfl, rfl, Nat.le_refl _, fun _ _ => rfl⟩ ?_
            dsimp only [RegK.pick, List.getElem?_cons_zero, List.getElem?_cons_succ]
            change RegK.Can _ _ _ _ _ _ _ _ x6.drew
            have hkd : KeptW x6 x6.drew := ⟨rfl, rfl, rfl, Nat.le_refl _, fun _ _ => rfl⟩
            iterate 1 (refine RegK.can_reads ?_; intro K hK; go_simp; (first | (refine ⟨_, fun _ _ => rfl, hK _ ?_⟩) | (refine hK _ ?_)); clear hK K)
            refine RegK.can_reads ?_
            intro K hK
            go_simp
            refine ⟨.int .u8 1, fun y hy => ?_, hK _ ?_⟩
            · have f0 := (Hkc.out _ (KeptW.bel hy))
              go_simp
            clear hK K
            iterate 3 (refine RegK.can_reads ?_; intro K hK; go_simp; (first | (refine ⟨_, fun _ _ => rfl, hK _ ?_⟩) | (refine hK _ ?_)); clear hK K)
            iterate 4 (refine RegK.can_reads ?_; intro K hK; go_simp; (first | (refine ⟨_, fun _ _ => rfl, hK _ ?_⟩) | (refine hK _ ?_)); clear hK K)
            refine RegK.can_reads ?_
            intro K hK
            go_simp
            refine ⟨.agg #[.pointer PX], fun y hy => ?_, hK _ ?_⟩
            · have f0 := (Hv6.out.below (KeptW.bel hy)).cell
              go_simp
            clear hK K
            refine RegK.can_reads ?_
            intro K hK
            go_simp
            refine ⟨.agg #[.pointer PX], fun y hy => ?_, hK _ ?_⟩
            · have f0 := (Hs6.out.below (KeptW.bel hy)).cell
              go_simp
            clear hK K
            refine RegK.can_narrows (fun _ => trivial) ?_
            intro K K0 hK hK0
            go_simp
            refine ⟨trivial, ?_⟩
            refine (callsIn_wide.2 (tree_any PX x6.drew)).mono ?_
            rintro e xa ⟨rfl, hb⟩
            have hxa : KeptW x6 xa := KeptW.mono hkd hb
            refine hK (KeptW x6) _ _ (fun y h => h) hxa ?_
            clear hK K K0 hK0 hb
            refine RegK.can_narrows (fun _ => trivial) ?_
            intro K K0 hK hK0
            go_simp
            refine ⟨trivial, ?_⟩
            refine (callsIn_wide.2 (tree_any PX xa)).mono ?_
            rintro e xb ⟨rfl, hb⟩
            have hxb : KeptW x6 xb := KeptW.mono hxa hb
            refine hK (KeptW x6) _ _ (fun y h => h) hxb ?_
            clear hK K K0 hK0 hb
            have hx7 := hxb
            refine RegK.can_reads ?_
            intro K hK
            go_simp
            refine ⟨.bool false, fun y hy => ?_, hK _ ?_⟩
            · have f0 := ptr_neq PX y
              go_simp
            clear hK K
            iterate 1 (refine RegK.can_reads ?_; intro K hK; go_simp; (first | (refine ⟨_, fun _ _ => rfl, hK _ ?_⟩) | (refine hK _ ?_)); clear hK K)
            refine RegK.can_nil ?_
            have Hs7 := Lib.hid (Hs6.out.below (KeptW.bel hx7))
            have Ht7 := Lib.hid (Ht6.out.below (KeptW.bel hx7))
            have HB7 := Lib.hid (HB6.out.trans (Below.mono (KeptW.bel hx7) HB6.out.size))
            have Hv7 := Lib.hid (Hv6.out.below (KeptW.bel hx7))
            have s0 := Hs7.out.cell
            have s1 := Hs7.out.thawed 0
            have v0 := Hv7.out.cell
            obtain ⟨r0, r1⟩ := (Hr6r.out.below (KeptW.bel hx7)).cells
            have d2 := Hkc.out _ (KeptW.bel hx7)
            obtain ⟨_, _, _, d3, d4, d5, _⟩ := (HC6.out.below (KeptW.bel hx7)).cells
            clear Hs6 Ht6 HB6 Hv6 Hr6r HC6 Hkc hxa hxb hx7 hkd
            generalize xb = x7 at *
            go_wp2_with fail
            go_roundw
            case rel =>
              exact ⟨i + 1, X, hi1, rfl, by have := Hs7.out.set (x := .pointer X.ptr); rwa [HPX.out] at this ⊢, TreeAt.setC Hs7.out (by simp) Ht7.out, by rw [Hxs.out]; exact Hinv2.out, below_setV HB7.out (Nat.le_refl _)⟩
            case measure => simp [intOf]; omega
          · skip
            obtain ⟨n, hn⟩ : ∃ n : Int, (kn.toNat : Int) = n := ⟨_, rfl⟩
            have Hkc := Lib.hid (fun y (hb : Below x6.heap.size x6 y) => show y.cell? ⟨wr.heap.size, 2, none⟩ = some (.int .u8 n) by have := (HC6.out.below hb).cells.2.2.1; rwa [hkn, hn] at this)
            have hn1 : (n == (1 : Int)) = false := by
              rw [← hn]
              simp only [beq_eq_false_iff_ne, ne_eq]
              intro e
              exact hk1 (UInt8.toNat_inj.1 (show kn.toNat = (1 : UInt8).toNat by show kn.toNat = 1; omega))
            clear hn
            have Hr6' := Lib.hid (show x6.cell? ⟨w3.heap.size + 1, 0, none⟩ = some (.int .u8 2) ∧ x6.cell? ⟨w3.heap.size + 1, 1, none⟩ = some (.string ot) from Hr6.out.cells)
            have Hr6r := Lib.hid (show RepAt x6 (w3.heap.size + 1) 2 ot from Hr6.out)
            clear Hr6 Hr6'
            obtain rfl : X = T := Hxk.out (by simp [hkn])
            obtain rfl : PX = P := by rw [← HPX.out, HP.out]

            refine (wpIn_wide (n := 1)).1 ?_
            refine RegK.wpIn_region_can (F := Fence.wide) (KeptW x6) [(0, 0), (1, 0), (2, 0), (3, 0), (4, 0), (5, 0), (6, 0), (7, 0), (8, 0), (9, 0), (11, 0), (10, 1), (12, 1), (13, 0), (14, 0)] (by kernel_rfl) (by kernel_rfl) (by kernel_rfl) (fun _ _ d _ _ h => by cases d <;> exact h) ⟨rfl, rfl, rfl, Nat.le_refl _, fun _ _ => rfl⟩ ?_
            dsimp only [RegK.pick, List.getElem?_cons_zero, List.getElem?_cons_succ]
            change RegK.Can _ _ _ _ _ _ _ _ x6.drew
            have hkd : KeptW x6 x6.drew := ⟨rfl, rfl, rfl, Nat.le_refl _, fun _ _ => rfl⟩
            iterate 1 (refine RegK.can_reads ?_; intro K hK; go_simp; (first | (refine ⟨_, fun _ _ => rfl, hK _ ?_⟩) | (refine hK _ ?_)); clear hK K)
            refine RegK.can_reads ?_
            intro K hK
            go_simp
            refine ⟨.int .u8 n, fun y hy => ?_, hK _ ?_⟩
            · have f0 := (Hkc.out _ (KeptW.bel hy))
              go_simp
            clear hK K
            iterate 3 (refine RegK.can_reads ?_; intro K hK; go_simp; (first | (refine ⟨_, fun _ _ => rfl, hK _ ?_⟩) | (refine hK _ ?_)); clear hK K)
            refine RegK.can_reads ?_
            intro K hK
            go_simp
            refine ⟨.int .u8 2, fun y hy => ?_, hK _ ?_⟩
            · have f0 := (Hr6r.out.below (KeptW.bel hy)).cells.1
              go_simp
            clear hK K
            iterate 3 (refine RegK.can_reads ?_; intro K hK; go_simp; (first | (refine ⟨_, fun _ _ => rfl, hK _ ?_⟩) | (refine hK _ ?_)); clear hK K)
            refine RegK.can_reads ?_
            intro K hK
            go_simp
            refine ⟨.agg #[.pointer PX], fun y hy => ?_, hK _ ?_⟩
            · have f0 := (Hv6.out.below (KeptW.bel hy)).cell
              go_simp
            clear hK K
            refine RegK.can_reads ?_
            intro K hK
            go_simp
            refine ⟨.agg #[.pointer PX], fun y hy => ?_, hK _ ?_⟩
            · have f0 := (Hs6.out.below (KeptW.bel hy)).cell
              go_simp
            clear hK K
            refine RegK.can_narrows (fun _ => trivial) ?_
            intro K K0 hK hK0
            go_simp
            refine ⟨trivial, ?_⟩
            refine (callsIn_wide.2 (tree_any PX x6.drew)).mono ?_
            rintro e xa ⟨rfl, hb⟩
            have hxa : KeptW x6 xa := KeptW.mono hkd hb
            refine hK (KeptW x6) _ _ (fun y h => h) hxa ?_
            clear hK K K0 hK0 hb
            refine RegK.can_narrows (fun _ => trivial) ?_
            intro K K0 hK hK0
            go_simp
            refine ⟨trivial, ?_⟩
            refine (callsIn_wide.2 (tree_any PX xa)).mono ?_
            rintro e xb ⟨rfl, hb⟩
            have hxb : KeptW x6 xb := KeptW.mono hxa hb
            refine hK (KeptW x6) _ _ (fun y h => h) hxb ?_
            clear hK K K0 hK0 hb
            have hx7 := hxb
            refine RegK.can_reads ?_
            intro K hK
            go_simp
            refine ⟨.bool false, fun y hy => ?_, hK _ ?_⟩
            · have f0 := ptr_neq PX y
              go_simp
            clear hK K
            iterate 1 (refine RegK.can_reads ?_; intro K hK; go_simp; (first | (refine ⟨_, fun _ _ => rfl, hK _ ?_⟩) | (refine hK _ ?_)); clear hK K)
            refine RegK.can_nil ?_
            have Hs7 := Lib.hid (Hs6.out.below (KeptW.bel hx7))
            have Ht7 := Lib.hid (Ht6.out.below (KeptW.bel hx7))
            have HB7 := Lib.hid (HB6.out.trans (Below.mono (KeptW.bel hx7) HB6.out.size))
            have Hv7 := Lib.hid (Hv6.out.below (KeptW.bel hx7))
            have s0 := Hs7.out.cell
            have s1 := Hs7.out.thawed 0
            have v0 := Hv7.out.cell
            obtain ⟨r0, r1⟩ := (Hr6r.out.below (KeptW.bel hx7)).cells
            have d2 := Hkc.out _ (KeptW.bel hx7)
            obtain ⟨_, _, _, d3, d4, d5, _⟩ := (HC6.out.below (KeptW.bel hx7)).cells
            clear Hs6 Ht6 HB6 Hv6 Hr6r HC6 Hkc hxa hxb hx7 hkd
            generalize xb = x7 at *
            go_wp2_with fail
            go_roundw
            case rel =>
              exact ⟨i + 1, X, hi1, rfl, by have := Hs7.out.set (x := .pointer X.ptr); rwa [HPX.out] at this ⊢, TreeAt.setC Hs7.out (by simp) Ht7.out, by rw [Hxs.out]; exact Hinv2.out, below_setV HB7.out (Nat.le_refl _)⟩
            case measure => simp [intOf]; omega
        · simp only at e2 e3 e4
          subst e3
          rw [hkn] at e1
          subst e1
          have ht : ¬ (64 : Int) < (ot.size : Int) := by have := Hinv.out.look e4; omega
          obtain rfl : L = some ot := by rw [← HL.out, sh_look]; exact e4
          clear e2 e4
          clear Hsay
          have Hkc := Lib.hid (fun y (hb : Below x6.heap.size x6 y) => show y.cell? ⟨wr.heap.size, 2, none⟩ = some (.int .u8 1) by have := (HC6.out.below hb).cells.2.2.1; rwa [hkn] at this)
          have Hr6' := Lib.hid (show x6.cell? ⟨w3.heap.size + 1, 0, none⟩ = some (.int .u8 0) ∧ x6.cell? ⟨w3.heap.size + 1, 1, none⟩ = some (.string ot) from Hr6.out.cells)
          have Hr6r := Lib.hid (show RepAt x6 (w3.heap.size + 1) 0 ot from Hr6.out)
          clear Hr6 Hr6'
          obtain rfl : X = T := Hxk.out (by simp [hkn])
          obtain rfl : PX = P := by rw [← HPX.out, HP.out]

          refine (wpIn_wide (n := 1)).1 ?_
          refine RegK.wpIn_region_can (F := Fence.wide) (KeptW x6) [(0, 0), (1, 0), (2, 0), (3, 0), (4, 0), (5, 0), (6, 0), (7, 0), (8, 0), (9, 0), (11, 0), (10, 1), (12, 1), (13, 0), (14, 0)] (by kernel_rfl) (by kernel_rfl) (by kernel_rfl) (fun _ _ d _ _ h => by cases d <;> exact h) ⟨rfl, rfl, rfl, Nat.le_refl _, fun _ _ => rfl⟩ ?_
          dsimp only [RegK.pick, List.getElem?_cons_zero, List.getElem?_cons_succ]
          change RegK.Can _ _ _ _ _ _ _ _ x6.drew
          have hkd : KeptW x6 x6.drew := ⟨rfl, rfl, rfl, Nat.le_refl _, fun _ _ => rfl⟩
          iterate 1 (refine RegK.can_reads ?_; intro K hK; go_simp; (first | (refine ⟨_, fun _ _ => rfl, hK _ ?_⟩) | (refine hK _ ?_)); clear hK K)
          refine RegK.can_reads ?_
          intro K hK
          go_simp
          refine ⟨.int .u8 1, fun y hy => ?_, hK _ ?_⟩
          · have f0 := (Hkc.out _ (KeptW.bel hy))
            go_simp
          clear hK K
          iterate 3 (refine RegK.can_reads ?_; intro K hK; go_simp; (first | (refine ⟨_, fun _ _ => rfl, hK _ ?_⟩) | (refine hK _ ?_)); clear hK K)
          iterate 4 (refine RegK.can_reads ?_; intro K hK; go_simp; (first | (refine ⟨_, fun _ _ => rfl, hK _ ?_⟩) | (refine hK _ ?_)); clear hK K)
          refine RegK.can_reads ?_
          intro K hK
          go_simp
          refine ⟨.agg #[.pointer PX], fun y hy => ?_, hK _ ?_⟩
          · have f0 := (Hv6.out.below (KeptW.bel hy)).cell
            go_simp
          clear hK K
          refine RegK.can_reads ?_
          intro K hK
          go_simp
          refine ⟨.agg #[.pointer PX], fun y hy => ?_, hK _ ?_⟩
          · have f0 := (Hs6.out.below (KeptW.bel hy)).cell
            go_simp
          clear hK K
          refine RegK.can_narrows (fun _ => trivial) ?_
          intro K K0 hK hK0
          go_simp
          refine ⟨trivial, ?_⟩
          refine (callsIn_wide.2 (tree_any PX x6.drew)).mono ?_
          rintro e xa ⟨rfl, hb⟩
          have hxa : KeptW x6 xa := KeptW.mono hkd hb
          refine hK (KeptW x6) _ _ (fun y h => h) hxa ?_
          clear hK K K0 hK0 hb
          refine RegK.can_narrows (fun _ => trivial) ?_
          intro K K0 hK hK0
          go_simp
          refine ⟨trivial, ?_⟩
          refine (callsIn_wide.2 (tree_any PX xa)).mono ?_
          rintro e xb ⟨rfl, hb⟩
          have hxb : KeptW x6 xb := KeptW.mono hxa hb
          refine hK (KeptW x6) _ _ (fun y h => h) hxb ?_
          clear hK K K0 hK0 hb
          have hx7 := hxb
          refine RegK.can_reads ?_
          intro K hK
          go_simp
          refine ⟨.bool false, fun y hy => ?_, hK _ ?_⟩
          · have f0 := ptr_neq PX y
            go_simp
          clear hK K
          iterate 1 (refine RegK.can_reads ?_; intro K hK; go_simp; (first | (refine ⟨_, fun _ _ => rfl, hK _ ?_⟩) | (refine hK _ ?_)); clear hK K)
          refine RegK.can_nil ?_
          have Hs7 := Lib.hid (Hs6.out.below (KeptW.bel hx7))
          have Ht7 := Lib.hid (Ht6.out.below (KeptW.bel hx7))
          have HB7 := Lib.hid (HB6.out.trans (Below.mono (KeptW.bel hx7) HB6.out.size))
          have Hv7 := Lib.hid (Hv6.out.below (KeptW.bel hx7))
          have s0 := Hs7.out.cell
          have s1 := Hs7.out.thawed 0
          have v0 := Hv7.out.cell
          obtain ⟨r0, r1⟩ := (Hr6r.out.below (KeptW.bel hx7)).cells
          have d2 := Hkc.out _ (KeptW.bel hx7)
          obtain ⟨_, _, _, d3, d4, d5, _⟩ := (HC6.out.below (KeptW.bel hx7)).cells
          clear Hs6 Ht6 HB6 Hv6 Hr6r HC6 Hkc hxa hxb hx7 hkd
          generalize xb = x7 at *
          go_wp2_with fail
          go_roundw
          case rel =>
            exact ⟨i + 1, X, hi1, rfl, by have := Hs7.out.set (x := .pointer X.ptr); rwa [HPX.out] at this ⊢, TreeAt.setC Hs7.out (by simp) Ht7.out, by rw [Hxs.out]; exact Hinv2.out, below_setV HB7.out (Nat.le_refl _)⟩
          case measure => simp [intOf]; omega
        · simp only at e3 e4 e5
          subst e3 e4
          rw [hkn] at e1
          subst e1
          obtain rfl : L2 = some c.fresh := by rw [← HL2.out, sh_look, Hxs.out]; exact e5
          clear e5
          clear Hsay
          have Hkc := Lib.hid (fun y (hb : Below x6.heap.size x6 y) => show y.cell? ⟨wr.heap.size, 2, none⟩ = some (.int .u8 2) by have := (HC6.out.below hb).cells.2.2.1; rwa [hkn] at this)
          have Hr6' := Lib.hid (show x6.cell? ⟨w3.heap.size + 1, 0, none⟩ = some (.int .u8 0) ∧ x6.cell? ⟨w3.heap.size + 1, 1, none⟩ = some (.string { data := #[] }) from Hr6.out.cells)
          have Hr6r := Lib.hid (show RepAt x6 (w3.heap.size + 1) 0 { data := #[] } from Hr6.out)
          clear Hr6 Hr6'

          refine (wpIn_wide (n := 1)).1 ?_
          refine RegK.wpIn_region_can (F := Fence.wide) (KeptW x6) [(0, 0), (1, 0), (2, 0), (3, 0), (4, 0), (5, 0), (6, 0), (7, 0), (8, 0), (9, 0), (11, 0), (10, 1), (12, 1), (13, 0), (14, 0)] (by kernel_rfl) (by kernel_rfl) (by kernel_rfl) (fun _ _ d _ _ h => by cases d <;> exact h) ⟨rfl, rfl, rfl, Nat.le_refl _, fun _ _ => rfl⟩ ?_
          dsimp only [RegK.pick, List.getElem?_cons_zero, List.getElem?_cons_succ]
          change RegK.Can _ _ _ _ _ _ _ _ x6.drew
          have hkd : KeptW x6 x6.drew := ⟨rfl, rfl, rfl, Nat.le_refl _, fun _ _ => rfl⟩
          iterate 1 (refine RegK.can_reads ?_; intro K hK; go_simp; (first | (refine ⟨_, fun _ _ => rfl, hK _ ?_⟩) | (refine hK _ ?_)); clear hK K)
          refine RegK.can_reads ?_
          intro K hK
          go_simp
          refine ⟨.int .u8 2, fun y hy => ?_, hK _ ?_⟩
          · have f0 := (Hkc.out _ (KeptW.bel hy))
            go_simp
          clear hK K
          iterate 3 (refine RegK.can_reads ?_; intro K hK; go_simp; (first | (refine ⟨_, fun _ _ => rfl, hK _ ?_⟩) | (refine hK _ ?_)); clear hK K)
          refine RegK.can_reads ?_
          intro K hK
          go_simp
          refine ⟨.int .u8 0, fun y hy => ?_, hK _ ?_⟩
          · have f0 := (Hr6r.out.below (KeptW.bel hy)).cells.1
            go_simp
          clear hK K
          iterate 3 (refine RegK.can_reads ?_; intro K hK; go_simp; (first | (refine ⟨_, fun _ _ => rfl, hK _ ?_⟩) | (refine hK _ ?_)); clear hK K)
          iterate 2 (refine RegK.can_reads ?_; intro K hK; go_simp; (first | (refine ⟨_, fun _ _ => rfl, hK _ ?_⟩) | (refine hK _ ?_)); clear hK K)
          refine RegK.can_narrows (fun _ => trivial) ?_
          intro K K0 hK hK0
          go_simp
          refine hK0 _ ?_
          clear hK K K0 hK0
          refine RegK.can_narrows (fun _ => trivial) ?_
          intro K K0 hK hK0
          go_simp
          refine hK0 _ ?_
          clear hK K K0 hK0
          have hx7 : KeptW x6 x6.drew := hkd
          iterate 2 (refine RegK.can_reads ?_; intro K hK; go_simp; (first | (refine ⟨_, fun _ _ => rfl, hK _ ?_⟩) | (refine hK _ ?_)); clear hK K)
          refine RegK.can_nil ?_
          have Hs7 := Lib.hid (Hs6.out.below (KeptW.bel hx7))
          have Ht7 := Lib.hid (Ht6.out.below (KeptW.bel hx7))
          have HB7 := Lib.hid (HB6.out.trans (Below.mono (KeptW.bel hx7) HB6.out.size))
          have Hv7 := Lib.hid (Hv6.out.below (KeptW.bel hx7))
          have s0 := Hs7.out.cell
          have s1 := Hs7.out.thawed 0
          have v0 := Hv7.out.cell
          obtain ⟨r0, r1⟩ := (Hr6r.out.below (KeptW.bel hx7)).cells
          have d2 := Hkc.out _ (KeptW.bel hx7)
          obtain ⟨_, _, _, d3, d4, d5, _⟩ := (HC6.out.below (KeptW.bel hx7)).cells
          clear Hs6 Ht6 HB6 Hv6 Hr6r HC6 Hkc hx7 hkd
          generalize x6.drew = x7 at *
          go_wp2_with fail
          go_roundw
          case rel =>
            exact ⟨i + 1, X, hi1, rfl, by have := Hs7.out.set (x := .pointer X.ptr); rwa [HPX.out] at this ⊢, TreeAt.setC Hs7.out (by simp) Ht7.out, by rw [Hxs.out]; exact Hinv2.out, below_setV HB7.out (Nat.le_refl _)⟩
          case measure => simp [intOf]; omega
        · simp only at e3 e4 e5
          subst e3
          rw [hkn] at e1
          subst e1
          have ht : ¬ (64 : Int) < (ot.size : Int) := by have := Hinv.out.look e4; omega
          obtain rfl : L = some ot := by rw [← HL.out, sh_look]; exact e4
          obtain rfl : L2 = none := by rw [← HL2.out, sh_look, Hxs.out]; exact e5
          clear e4 e5
          clear Hsay
          have Hkc := Lib.hid (fun y (hb : Below x6.heap.size x6 y) => show y.cell? ⟨wr.heap.size, 2, none⟩ = some (.int .u8 3) by have := (HC6.out.below hb).cells.2.2.1; rwa [hkn] at this)
          have Hr6' := Lib.hid (show x6.cell? ⟨w3.heap.size + 1, 0, none⟩ = some (.int .u8 0) ∧ x6.cell? ⟨w3.heap.size + 1, 1, none⟩ = some (.string ot) from Hr6.out.cells)
          have Hr6r := Lib.hid (show RepAt x6 (w3.heap.size + 1) 0 ot from Hr6.out)
          clear Hr6 Hr6'

          refine (wpIn_wide (n := 1)).1 ?_
          refine RegK.wpIn_region_can (F := Fence.wide) (KeptW x6) [(0, 0), (1, 0), (2, 0), (3, 0), (4, 0), (5, 0), (6, 0), (7, 0), (8, 0), (9, 0), (11, 0), (10, 1), (12, 1), (13, 0), (14, 0)] (by kernel_rfl) (by kernel_rfl) (by kernel_rfl) (fun _ _ d _ _ h => by cases d <;> exact h) ⟨rfl, rfl, rfl, Nat.le_refl _, fun _ _ => rfl⟩ ?_
          dsimp only [RegK.pick, List.getElem?_cons_zero, List.getElem?_cons_succ]
          change RegK.Can _ _ _ _ _ _ _ _ x6.drew
          have hkd : KeptW x6 x6.drew := ⟨rfl, rfl, rfl, Nat.le_refl _, fun _ _ => rfl⟩
          iterate 1 (refine RegK.can_reads ?_; intro K hK; go_simp; (first | (refine ⟨_, fun _ _ => rfl, hK _ ?_⟩) | (refine hK _ ?_)); clear hK K)
          refine RegK.can_reads ?_
          intro K hK
          go_simp
          refine ⟨.int .u8 3, fun y hy => ?_, hK _ ?_⟩
          · have f0 := (Hkc.out _ (KeptW.bel hy))
            go_simp
          clear hK K
          iterate 3 (refine RegK.can_reads ?_; intro K hK; go_simp; (first | (refine ⟨_, fun _ _ => rfl, hK _ ?_⟩) | (refine hK _ ?_)); clear hK K)
          refine RegK.can_reads ?_
          intro K hK
          go_simp
          refine ⟨.int .u8 0, fun y hy => ?_, hK _ ?_⟩
          · have f0 := (Hr6r.out.below (KeptW.bel hy)).cells.1
            go_simp
          clear hK K
          iterate 3 (refine RegK.can_reads ?_; intro K hK; go_simp; (first | (refine ⟨_, fun _ _ => rfl, hK _ ?_⟩) | (refine hK _ ?_)); clear hK K)
          iterate 2 (refine RegK.can_reads ?_; intro K hK; go_simp; (first | (refine ⟨_, fun _ _ => rfl, hK _ ?_⟩) | (refine hK _ ?_)); clear hK K)
          refine RegK.can_narrows (fun _ => trivial) ?_
          intro K K0 hK hK0
          go_simp
          refine hK0 _ ?_
          clear hK K K0 hK0
          refine RegK.can_narrows (fun _ => trivial) ?_
          intro K K0 hK hK0
          go_simp
          refine hK0 _ ?_
          clear hK K K0 hK0
          have hx7 : KeptW x6 x6.drew := hkd
          iterate 2 (refine RegK.can_reads ?_; intro K hK; go_simp; (first | (refine ⟨_, fun _ _ => rfl, hK _ ?_⟩) | (refine hK _ ?_)); clear hK K)
          refine RegK.can_nil ?_
          have Hs7 := Lib.hid (Hs6.out.below (KeptW.bel hx7))
          have Ht7 := Lib.hid (Ht6.out.below (KeptW.bel hx7))
          have HB7 := Lib.hid (HB6.out.trans (Below.mono (KeptW.bel hx7) HB6.out.size))
          have Hv7 := Lib.hid (Hv6.out.below (KeptW.bel hx7))
          have s0 := Hs7.out.cell
          have s1 := Hs7.out.thawed 0
          have v0 := Hv7.out.cell
          obtain ⟨r0, r1⟩ := (Hr6r.out.below (KeptW.bel hx7)).cells
          have d2 := Hkc.out _ (KeptW.bel hx7)
          obtain ⟨_, _, _, d3, d4, d5, _⟩ := (HC6.out.below (KeptW.bel hx7)).cells
          clear Hs6 Ht6 HB6 Hv6 Hr6r HC6 Hkc hx7 hkd
          generalize x6.drew = x7 at *
          go_wp2_with fail
          go_roundw
          case rel =>
            exact ⟨i + 1, X, hi1, rfl, by have := Hs7.out.set (x := .pointer X.ptr); rwa [HPX.out] at this ⊢, TreeAt.setC Hs7.out (by simp) Ht7.out, by rw [Hxs.out]; exact Hinv2.out, below_setV HB7.out (Nat.le_refl _)⟩
          case measure => simp [intOf]; omega
        · simp only at e3 e4 e5 e6
          subst e3 e4
          rw [hkn] at e1
          subst e1
          obtain rfl : L = some c.old := by rw [← HL.out, sh_look]; exact e5
          obtain rfl : L2 = some c.fresh := by rw [← HL2.out, sh_look, Hxs.out]; exact e6
          clear e5 e6
          clear Hsay
          have Hkc := Lib.hid (fun y (hb : Below x6.heap.size x6 y) => show y.cell? ⟨wr.heap.size, 2, none⟩ = some (.int .u8 4) by have := (HC6.out.below hb).cells.2.2.1; rwa [hkn] at this)
          have Hr6' := Lib.hid (show x6.cell? ⟨w3.heap.size + 1, 0, none⟩ = some (.int .u8 0) ∧ x6.cell? ⟨w3.heap.size + 1, 1, none⟩ = some (.string { data := #[] }) from Hr6.out.cells)
          have Hr6r := Lib.hid (show RepAt x6 (w3.heap.size + 1) 0 { data := #[] } from Hr6.out)
          clear Hr6 Hr6'

          refine (wpIn_wide (n := 1)).1 ?_
          refine RegK.wpIn_region_can (F := Fence.wide) (KeptW x6) [(0, 0), (1, 0), (2, 0), (3, 0), (4, 0), (5, 0), (6, 0), (7, 0), (8, 0), (9, 0), (11, 0), (10, 1), (12, 1), (13, 0), (14, 0)] (by kernel_rfl) (by kernel_rfl) (by kernel_rfl) (fun _ _ d _ _ h => by cases d <;> exact h) ⟨rfl, rfl, rfl, Nat.le_refl _, fun _ _ => rfl⟩ ?_
          dsimp only [RegK.pick, List.getElem?_cons_zero, List.getElem?_cons_succ]
          change RegK.Can _ _ _ _ _ _ _ _ x6.drew
          have hkd : KeptW x6 x6.drew := ⟨rfl, rfl, rfl, Nat.le_refl _, fun _ _ => rfl⟩
          iterate 1 (refine RegK.can_reads ?_; intro K hK; go_simp; (first | (refine ⟨_, fun _ _ => rfl, hK _ ?_⟩) | (refine hK _ ?_)); clear hK K)
          refine RegK.can_reads ?_
          intro K hK
          go_simp
          refine ⟨.int .u8 4, fun y hy => ?_, hK _ ?_⟩
          · have f0 := (Hkc.out _ (KeptW.bel hy))
            go_simp
          clear hK K
          iterate 3 (refine RegK.can_reads ?_; intro K hK; go_simp; (first | (refine ⟨_, fun _ _ => rfl, hK _ ?_⟩) | (refine hK _ ?_)); clear hK K)
          refine RegK.can_reads ?_
          intro K hK
          go_simp
          refine ⟨.int .u8 0, fun y hy => ?_, hK _ ?_⟩
          · have f0 := (Hr6r.out.below (KeptW.bel hy)).cells.1
            go_simp
          clear hK K
          iterate 3 (refine RegK.can_reads ?_; intro K hK; go_simp; (first | (refine ⟨_, fun _ _ => rfl, hK _ ?_⟩) | (refine hK _ ?_)); clear hK K)
          iterate 2 (refine RegK.can_reads ?_; intro K hK; go_simp; (first | (refine ⟨_, fun _ _ => rfl, hK _ ?_⟩) | (refine hK _ ?_)); clear hK K)
          refine RegK.can_narrows (fun _ => trivial) ?_
          intro K K0 hK hK0
          go_simp
          refine hK0 _ ?_
          clear hK K K0 hK0
          refine RegK.can_narrows (fun _ => trivial) ?_
          intro K K0 hK hK0
          go_simp
          refine hK0 _ ?_
          clear hK K K0 hK0
          have hx7 : KeptW x6 x6.drew := hkd
          iterate 2 (refine RegK.can_reads ?_; intro K hK; go_simp; (first | (refine ⟨_, fun _ _ => rfl, hK _ ?_⟩) | (refine hK _ ?_)); clear hK K)
          refine RegK.can_nil ?_
          have Hs7 := Lib.hid (Hs6.out.below (KeptW.bel hx7))
          have Ht7 := Lib.hid (Ht6.out.below (KeptW.bel hx7))
          have HB7 := Lib.hid (HB6.out.trans (Below.mono (KeptW.bel hx7) HB6.out.size))
          have Hv7 := Lib.hid (Hv6.out.below (KeptW.bel hx7))
          have s0 := Hs7.out.cell
          have s1 := Hs7.out.thawed 0
          have v0 := Hv7.out.cell
          obtain ⟨r0, r1⟩ := (Hr6r.out.below (KeptW.bel hx7)).cells
          have d2 := Hkc.out _ (KeptW.bel hx7)
          obtain ⟨_, _, _, d3, d4, d5, _⟩ := (HC6.out.below (KeptW.bel hx7)).cells
          clear Hs6 Ht6 HB6 Hv6 Hr6r HC6 Hkc hx7 hkd
          generalize x6.drew = x7 at *
          go_wp2_with fail
          go_roundw
          case rel =>
            exact ⟨i + 1, X, hi1, rfl, by have := Hs7.out.set (x := .pointer X.ptr); rwa [HPX.out] at this ⊢, TreeAt.setC Hs7.out (by simp) Ht7.out, by rw [Hxs.out]; exact Hinv2.out, below_setV HB7.out (Nat.le_refl _)⟩
          case measure => simp [intOf]; omega
      · have hlt' : ¬ (i : Int) < (len : Int) := by omega
        have s0 := Hs.out.cell
        go_upto_region 29 with fail
        have hc256 : (T.cnt : Int) ≤ 256 := by have := Hinv.out.num; rw [sh_cnt]; omega
        have hlenT := len_any T
        rw [HP.out] at hlenT
        obtain ⟨nt, hnt⟩ : ∃ n : Int, (T.cnt : Int) = n := ⟨_, rfl⟩
        rw [hnt] at hlenT hc256
        have Hlen := Lib.hid hlenT; clear hlenT hnt
        go_wp2_with (first
          | ((with_reducible refine (tree_any P wr).mono ?_); rintro e w4 ⟨rfl, hb4⟩; have Hb4 := Lib.hid hb4; clear hb4)
          | ((with_reducible refine (Hlen.out _ (Hat.out.below Hb4.out)).mono ?_); clear Hlen; rintro e w5 ⟨rfl, rfl⟩)
          | ((with_reducible refine (kwakes_any _).mono ?_); rintro e w5 ⟨rfl, hb5⟩; have Hb5 := Lib.hid hb5; clear hb5))
        go_ret
        exact ⟨rfl, (Hbel.out.trans (Below.mono Hb4.out Hbel.out.size)).trans (Below.mono Hb5.out (Below.size (Hbel.out.trans (Below.mono Hb4.out Hbel.out.size))))⟩
end Go.Proofs.Ytimhpncdlaildaa
