/- Log: Renew. Condition: as each theorem says. -/
import Derived.Test.YtogfladmgbldcaaGreatDoorZLogKnown11
import Derived.Test.YtogfladmgbldcaaGreatDoorZLogKnown9
import Derived.WalkKit
import Derived.Deep.Slices
import Derived.Deep.Fields
import Derived.ChangeSame
import Derived.Below
namespace Go.Proofs.YtogfladmgbldcaaGreatDoor
open Go.RowKit Go.Shelf
theorem three_cells (y : World) (u v x : Value) (t : TypeId) : (y.alloc (.cells #[u, v, x] t)).cell? ⟨y.heap.size, 0, none⟩ = some u ∧ (y.alloc (.cells #[u, v, x] t)).cell? ⟨y.heap.size, 1, none⟩ = some v ∧ (y.alloc (.cells #[u, v, x] t)).cell? ⟨y.heap.size, 2, none⟩ = some x := ⟨cell_of_row _ _ 0 _ _ _ (heap_alloc_new y _), cell_of_row _ _ 1 _ _ _ (heap_alloc_new y _), cell_of_row _ _ 2 _ _ _ (heap_alloc_new y _)⟩
theorem nms_at {D : DskV} {j : Nat} {x : Nat × FilV} (h : (segL D.fs)[j]? = some x) : (nmsL D)[j]? = some x.2.nm := by unfold nmsL; rw [List.getElem?_map, h]; rfl
/-- What Renew leaves. -/
def lrenD (D : DskV) (rs : List Bs) : DskV × Nat := if (lnewD D rs).2 = 0 then (rems (lnewD D rs).1 (nmsL D), 0) else lnewD D rs
/-- Renew, while it writes the frames. -/
structure RenW (l : Nat) (F : Bs) (vb : Value) (b2 b5 : Nat) (y wr : World) : Prop where
  bel : Below y.heap.size y wr
  r2 : wr.heap[b2]? = some (.cells #[.pointer (some ⟨l, 0, none⟩)] 51 (0, 0))
  r5 : wr.heap[b5]? = some (.cells #[vb] 42 (0, 0))
  own : OwnB wr (b5 + 1) 5 vb F
  far : y.heap.size ≤ b2 ∧ b2 < b5
theorem RenW.below {l b2 b5 : Nat} {F : Bs} {vb : Value} {y w w' : World} (h : RenW l F vb b2 b5 y w) (hb : Below w.heap.size w w') : RenW l F vb b2 b5 y w' :=
  ⟨h.bel.trans (hb.mono h.bel.size), (hb.block _ (Array.getElem?_eq_some_iff.1 h.r2).1).trans h.r2, (hb.block _ (Array.getElem?_eq_some_iff.1 h.r5).1).trans h.r5, h.own.below hb, h.far⟩
theorem RenW.put {l b2 b5 : Nat} {F F' : Bs} {vb v' : Value} {y w z : World} (h : RenW l F vb b2 b5 y w) (hb : Below w.heap.size w z) (ho : OwnB z w.heap.size 5 v' F') : RenW l F' v' b2 b5 y (z.setCell ⟨b5, 0, none⟩ v') := by
  have h1 := h.below hb
  have hfar := h.far
  have hlt := (Array.getElem?_eq_some_iff.1 h.r5).1
  refine ⟨h1.bel.setCell (p := ⟨b5, 0, none⟩) (by show y.heap.size ≤ b5; omega) v', (setC_other (by omega)).trans h1.r2, heap_setCell_same z b5 0 #[vb] _ v' h1.r5, ?_, h.far⟩
  exact (ho.mono (by omega)).setCell (by omega)
set_option maxRecDepth 100000 in
set_option maxHeartbeats 16000000 in
theorem lrenew_any {l p bb : Nat} {L : List Nat} {D : DskV} {w0 y : World} (h0 : LoR l p bb L D w0 y) (hlen : D.fs.length ≤ 100000) (hsm : ∀ x ∈ segL D.fs, x.1 ≤ 208) (rs : List Bs) (hrs : Oks rs) (hF : (frsL rs).length ≤ 1000000) (v : Value) (hv : StrS y v rs)
    (hrem : (lnewD D rs).2 = 0 → RemOk (lnewD D rs).1 (nmsL D)) :
    Calls Tryz.prog 29 #[.pointer (some ⟨l, 0, none⟩), v] y fun e y' => e = .returned (.int .i64 ((lrenD D rs).2 : Int)) ∧ LoR l p bb L (lrenD D rs).1 w0 y' := by
  obtain ⟨L1, h, hL1, hback⟩ := h0.re
  have HBK := Lib.hid hback
  clear h0 hback
  have H := Lib.hid (And.intro h (And.intro hL1 (And.intro hlen hsm)))
  have HRS := Lib.hid (And.intro hrs (And.intro hF hrem))
  obtain ⟨K, hK⟩ : ∃ K, K = rs.length := ⟨_, rfl⟩
  have hKl : K ≤ 1000000 := by
    have key : ∀ l : List Bs, l.length ≤ (frsL l).length := fun l => by
      induction l with
      | nil => exact Nat.le_refl _
      | cons x r ih =>
        rw [frsL_cons, List.length_append, List.length_cons, frL_len]
        omega
    have := key rs
    omega
  obtain ⟨va, vc, rfl, hvc⟩ := hv
  rw [← hK]
  have HV := Lib.hid (And.intro hK hvc)
  clear h hL1 hlen hsm hrs hF hrem hK hvc
  go_enter Tryz.func29, Tryz.ntmps29
  go_upto_region 4 with fail
  have hR0 : RenW l (frsL (rs.take 0)) (.slice none 0 0) y.heap.size (y.heap.size + 1) y ((y.alloc (.cells #[.pointer (some ⟨l, 0, none⟩)] 51)).alloc (.cells #[.slice none 0 0] 42)) := by
    have hb1 := (Below.refl y.heap.size y).alloc (Nat.le_refl _) (.cells #[.pointer (some ⟨l, 0, none⟩)] 51)
    have r2 := heap_alloc_new y (.cells #[.pointer (some ⟨l, 0, none⟩)] 51)
    have r5 := heap_alloc_new (y.alloc (.cells #[.pointer (some ⟨l, 0, none⟩)] 51)) (.cells #[.slice none 0 0] 42)
    rw [World.size_alloc] at r5
    exact ⟨hb1.alloc hb1.size _, (heap_alloc_old _ _ (Array.getElem?_eq_some_iff.1 r2).1).trans r2, r5, OwnB.nil _ _ _, Nat.le_refl _, by omega⟩
  have HR0 := Lib.hid hR0
  clear hR0
  change Code.wp _ _ _ _ ((y.alloc (.cells #[.pointer (some ⟨l, 0, none⟩)] 51)).alloc (.cells #[.slice none 0 0] 42))
  generalize (y.alloc (.cells #[.pointer (some ⟨l, 0, none⟩)] 51)).alloc (.cells #[.slice none 0 0] 42) = W1 at *
  obtain ⟨b2, hb2⟩ : ∃ b2, b2 = y.heap.size := ⟨_, rfl⟩
  obtain ⟨b5, hb5⟩ : ∃ b5, b5 = y.heap.size + 1 := ⟨_, rfl⟩
  rw [← hb5, ← hb2] at HR0 ⊢
  have HBB := Lib.hid (And.intro hb2 hb5)
  clear hb2 hb5
  go_wp2
  go_loopw [19] (fun s19 wr => ∃ (i : Nat) (vb : Value), s19 = .int .i64 (i : Int) ∧ i ≤ K ∧ RenW l (frsL (rs.take i)) vb b2 b5 y wr) (fun s19 _ => K - (intOf s19).toNat)
  case atStart => exact ⟨0, _, rfl, Nat.zero_le _, HR0.out⟩
  case round =>
    clear HR0
    obtain ⟨i, vb, rfl, hi, hR⟩ := hrel
    obtain ⟨ba, bn, bc, rfl⟩ := hR.own.read.slice
    have q5 := cell_of_row _ _ 0 _ _ _ hR.r5
    rw [show (#[Value.slice ba bn bc] : Array Value)[0]? = some (.slice ba bn bc) from rfl] at q5
    have HR := Lib.hid hR
    clear hR
    by_cases hiK : i < K
    · have hiI : (i : Int) < (K : Int) := by omega
      have hil : i < rs.length := by rw [← HV.out.1]; exact hiK
      obtain ⟨x, hx⟩ : ∃ x, x = rs[i] := ⟨_, rfl⟩
      have hxs : rs[i]? = some x := by rw [List.getElem?_eq_getElem hil, hx]
      have hxo := HRS.out.1 x (by rw [hx]; exact List.getElem_mem hil)
      obtain ⟨vg, vo, rfl, hvl, hvx⟩ := HV.out.2 i x hxs
      have k0 := (World.cell?_of_block (a := ⟨vg, vo + i, none⟩) (HR.out.bel.block vg hvl)).trans hvx
      have htk : rs.take (i + 1) = rs.take i ++ [x] := by rw [List.take_add_one, hxs]; rfl
      have hfl : (frsL (rs.take i)).length ≤ 1000000 := Nat.le_trans (frsL_take rs i).length_le HRS.out.2.1
      obtain ⟨xb, hxb⟩ : ∃ xb : ByteArray, xb = ⟨x.toArray⟩ := ⟨_, rfl⟩
      rw [← hxb] at k0
      have HP := Lib.hid (show Calls Tryz.prog 37 #[.slice ba bn bc, .string xb] wr (fun e w' => ∃ v', e = .returned (.tuple #[v', .int .i64 0]) ∧ OwnB w' wr.heap.size 5 v' (frsL (rs.take (i + 1))) ∧ Below wr.heap.size wr w') from by
        have h2 := fput_any (.slice ba bn bc) (frsL (rs.take i)) xb hfl (by rw [hxb]; show x.toArray.size ≤ _; rw [List.size_toArray]; have := hxo.2; unfold maxLen; omega) wr HR.out.own.read
        rw [show xb.data.toList = x from by rw [hxb]] at h2
        unfold putF3 at h2
        rw [if_pos hxo] at h2
        rw [htk, frsL_app, frsL_one]
        exact h2)
      have hw1 : wrap64 ((i : Int) + 1) = ((i + 1 : Nat) : Int) := by unfold wrap64; omega
      clear hil hx hxs hxo hvl hvx htk hfl hxb
      go_wp2_with (go_at_call 37; (with_reducible refine HP.out.mono ?_); rintro e w3 ⟨v3, rfl, ho, hb⟩
                   obtain ⟨ca, cn, cc, rfl⟩ := ho.read.slice
                   have r53 := (hb.block _ (Array.getElem?_eq_some_iff.1 HR.out.r5).1).trans HR.out.r5
                   have q53 := cell_of_row _ _ 0 _ _ _ r53
                   have t53 := thaw0 0 r53
                   have HX := Lib.hid (HR.out.put hb ho)
                   clear ho hb r53 q5 k0)
      exact ⟨⟨i + 1, _, by rw [Int.natCast_add]; rfl, by omega, HX.out⟩, by simp only [intOf]; omega⟩
    · have hiI : ¬ (i : Int) < (K : Int) := by omega
      obtain rfl : i = K := by omega
      have htk : rs.take i = rs := by rw [HV.out.1, List.take_length]
      rw [htk] at HR
      clear htk hi hiK
      obtain ⟨F, hFF⟩ : ∃ F, F = frsL rs := ⟨_, rfl⟩
      rw [← hFF] at HR
      have HFF := Lib.hid hFF
      clear hFF
      have hq2 := cell_of_row _ _ 0 _ _ _ HR.out.r2
      rw [show (#[Value.pointer (some ⟨l, 0, none⟩)] : Array Value)[0]? = some (.pointer (some ⟨l, 0, none⟩)) from rfl] at hq2
      have hLw : LoR l p bb L1 D wr wr := H.out.1.at H.out.2.1 HR.out.bel
      have q3 := hLw.cell
      have HSG := Lib.hid (hLw.segs (by have := H.out.2.2.1; omega))
      clear hLw
      go_upto_region 13 with (go_at_call 51; (with_reducible refine HSG.out.mono ?_); rintro e w4 ⟨sv, rfl, hs, -, hb⟩; have H4 := Lib.hid (And.intro (HR.out.below hb) hs); obtain ⟨A, c, rfl, -⟩ := hs; clear hb hq2 q3 q5)
      go_upto_if 40 with fail
      obtain ⟨N, hN⟩ : ∃ N, N = (segL D.fs).length := ⟨_, rfl⟩
      have HNN := Lib.hid hN
      have hN6 : N ≤ 100000 := by rw [hN]; exact Nat.le_trans (segL_len D.fs) H.out.2.2.1
      rw [← hN]
      have HSG4 := Lib.hid (by have h2 := H4.out.2; rw [← hN] at h2; exact h2)
      obtain ⟨n, hn⟩ : ∃ n, n = nextN D := ⟨_, rfl⟩
      have HNX := Lib.hid hn
      clear hN hn
      go_cut [40] (fun _ wx => Below w4.heap.size w4 wx ∧ wx.heap[w4.heap.size]? = some (.cells #[.int .i64 (n : Int)] 3 (0, 0)))
      case first =>
        have hb5 := (Below.refl w4.heap.size w4).alloc (Nat.le_refl _) (.cells #[.int .i64 1] 3)
        have r8 : (w4.alloc (.cells #[.int .i64 1] 3)).heap[w4.heap.size]? = some (.cells #[.int .i64 1] 3 (0, 0)) := heap_alloc_new _ _
        cases hl : lastS D with
        | none =>
          have hs : segL D.fs = [] := List.getLast?_eq_none_iff.1 hl
          have hn0 : N = 0 := by rw [HNN.out, hs]; rfl
          have hn1 : n = 1 := by rw [HNX.out]; unfold nextN; rw [hl]
          have H5 := Lib.hid (And.intro hb5 r8)
          clear hl hs hb5 r8
          subst hn0
          subst hn1
          go_wp2_with fail
          go_meet
          exact H5.out
        | some s =>
          obtain ⟨M, hM, hxs, hxm⟩ := last_at hl
          have hNM : N = M + 1 := by rw [HNN.out]; exact hM
          obtain ⟨A', c', hv, Y, hY1, hY2⟩ := HSG4.out.below hb5
          injection hv with e1 e2 e3
          subst e1 e3
          obtain ⟨gk, rfl, hck⟩ := hY2 M s hxs
          obtain ⟨k0, -, -, -⟩ := hck _ (KeptZ.refl _ _)
          have hn1 : n = s.1 + 1 := by rw [HNX.out]; unfold nextN; rw [hl]
          have hs8 := H.out.2.2.2 s hxm
          have hNz : 0 < N := by omega
          have hw2 : wrap64 ((s.1 : Int) + 1) = (s.1 : Int) + 1 := by unfold wrap64; omega
          rw [show M = N - 1 by omega] at k0
          have q8 := cell_of_row _ _ 0 _ _ _ r8
          have t8 := thaw0 0 r8
          have H5 := Lib.hid (And.intro hb5 (And.intro r8 hn1))
          clear hl hM hxs hxm hNM e2 hY1 hY2 hck hs8 hb5 r8 hn1
          go_wp2_with fail
          go_meet
          refine ⟨(Below.refl _ _).alloc (Nat.le_refl _) _, ?_⟩
          rw [H5.out.2.2, Int.natCast_add]
          exact heap_alloc_new _ _
      case rest =>
        obtain ⟨hbc, r8⟩ := hcut
        obtain ⟨g8, hg8⟩ : ∃ g8, g8 = w4.heap.size := ⟨_, rfl⟩
        rw [← hg8] at r8 ⊢
        have hRV := H4.out.1.below hbc
        have hbw := hRV.bel
        have hg8y : y.heap.size ≤ g8 := by rw [hg8]; exact H4.out.1.bel.size
        have hn9 : 1 ≤ n ∧ n ≤ 209 := by
          rw [HNX.out]
          unfold nextN
          cases hl : lastS D with
          | none => dsimp only; omega
          | some s =>
            obtain ⟨M, hM, hxs, hxm⟩ := last_at hl
            have := H.out.2.2.2 s hxm
            dsimp only
            omega
        have q2 := cell_of_row _ _ 0 _ _ _ hRV.r2
        rw [show (#[Value.pointer (some ⟨l, 0, none⟩)] : Array Value)[0]? = some (.pointer (some ⟨l, 0, none⟩)) from rfl] at q2
        have HC := Lib.hid (And.intro hRV (And.intro r8 (And.intro (HSG4.out.below hbc) (And.intro hg8y HR.out.bel.size))))
        obtain ⟨T, hT⟩ : ∃ T, T = lnewD D rs := ⟨_, rfl⟩
        obtain ⟨AA, hAA⟩ : ∃ AA, AA = appD (lsyncD D).1 (sname n) F := ⟨_, rfl⟩
        have hTT : T = if (lsyncD D).2 ≠ 0 then lsyncD D else if AA.2 ≠ 0 then AA else lsyncD AA.1 := by
          rw [hT]
          unfold lnewD
          rw [← HNX.out, ← HFF.out, ← hAA]
          by_cases hq : (lsyncD D).2 ≠ 0
          · rw [if_pos hq, if_pos hq]
          · rw [if_neg hq, if_neg hq, if_neg (by omega)]
        have HTT := Lib.hid (And.intro hT (And.intro hAA hTT))
        clear hT hAA hTT hbc r8 hg8 hRV hbw
        have HST := Lib.hid (show Calls Tryz.prog 53 #[.slice (some ⟨wc.heap.size, 0, none⟩) 3 3] (wc.alloc (.cells #[.func (.func 28) #[.pointer (some ⟨l, 0, none⟩)] #[], .func (.func 58) #[] #[.pointer (some ⟨g8, 0, none⟩), .pointer (some ⟨b2, 0, none⟩), .pointer (some ⟨b5, 0, none⟩)], .func (.func 28) #[.pointer (some ⟨l, 0, none⟩)] #[]] 47)) (fun e y' => e = .returned (.int .i64 (T.2 : Int)) ∧ LoR l p bb L1 T.1 (wc.alloc (.cells #[.func (.func 28) #[.pointer (some ⟨l, 0, none⟩)] #[], .func (.func 58) #[] #[.pointer (some ⟨g8, 0, none⟩), .pointer (some ⟨b2, 0, none⟩), .pointer (some ⟨b5, 0, none⟩)], .func (.func 28) #[.pointer (some ⟨l, 0, none⟩)] #[]] 47)) y') from by
          have hcs := three_cells wc (.func (.func 28) #[.pointer (some ⟨l, 0, none⟩)] #[]) (.func (.func 58) #[] #[.pointer (some ⟨g8, 0, none⟩), .pointer (some ⟨b2, 0, none⟩), .pointer (some ⟨b5, 0, none⟩)]) (.func (.func 28) #[.pointer (some ⟨l, 0, none⟩)] #[]) 47
          have hb7 := (Below.refl wc.heap.size wc).alloc (Nat.le_refl _) (.cells #[.func (.func 28) #[.pointer (some ⟨l, 0, none⟩)] #[], .func (.func 58) #[] #[.pointer (some ⟨g8, 0, none⟩), .pointer (some ⟨b2, 0, none⟩), .pointer (some ⟨b5, 0, none⟩)], .func (.func 28) #[.pointer (some ⟨l, 0, none⟩)] #[]] 47)
          have hz7 : wc.heap.size < ((wc.alloc (.cells #[.func (.func 28) #[.pointer (some ⟨l, 0, none⟩)] #[], .func (.func 58) #[] #[.pointer (some ⟨g8, 0, none⟩), .pointer (some ⟨b2, 0, none⟩), .pointer (some ⟨b5, 0, none⟩)], .func (.func 28) #[.pointer (some ⟨l, 0, none⟩)] #[]] 47))).heap.size := by simp
          generalize (wc.alloc (.cells #[.func (.func 28) #[.pointer (some ⟨l, 0, none⟩)] #[], .func (.func 58) #[] #[.pointer (some ⟨g8, 0, none⟩), .pointer (some ⟨b2, 0, none⟩), .pointer (some ⟨b5, 0, none⟩)], .func (.func 28) #[.pointer (some ⟨l, 0, none⟩)] #[]] 47)) = W7 at *
          have hbel := HC.out.1.bel
          have hbz := hbel.size
          have hW7 : AddW l p bb L1 D y.heap.size F (.slice ba bn bc) b2 b5 W7 W7 := by
            have h1 := HC.out.1.below hb7
            have hfar := h1.far
            exact ⟨H.out.1.at H.out.2.1 h1.bel, h1.r2, h1.r5, h1.own.mono (by omega), ⟨H.out.2.1, hfar.1, by omega, by omega⟩⟩
          have r8 := (hb7.block g8 (Array.getElem?_eq_some_iff.1 HC.out.2.1).1).trans HC.out.2.1
          have hfar := hW7.far.1
          have hFl : F.length ≤ 10000000 := by rw [HFF.out]; have := HRS.out.2.1; omega
          refine (steps_any wc.heap.size 3 3 [(28, #[.pointer (some ⟨l, 0, none⟩)], #[]), (58, #[], #[.pointer (some ⟨g8, 0, none⟩), .pointer (some ⟨b2, 0, none⟩), .pointer (some ⟨b5, 0, none⟩)]), (28, #[.pointer (some ⟨l, 0, none⟩)], #[])] rfl (by decide)
            (fun i y => match i with | 0 => LoR l p bb L1 D W7 y | 1 => (lsyncD D).2 = 0 ∧ LoR l p bb L1 (lsyncD D).1 W7 y | 2 => ((lsyncD D).2 = 0 ∧ AA.2 = 0) ∧ LoR l p bb L1 AA.1 W7 y | _ => T.2 = 0 ∧ LoR l p bb L1 T.1 W7 y) (fun k y => k = (T.2 : Int) ∧ LoR l p bb L1 T.1 W7 y) W7 hW7.lor ?_ ?_ ?_).mono ?_
          · intro f hf xs y
            rcases List.mem_cons.1 hf with rfl | hf
            · exact enters_of Tryz.func28 (by kernel_rfl) rfl xs y
            · rcases List.mem_cons.1 hf with rfl | hf
              · exact enters_of Tryz.func58 (by kernel_rfl) rfl xs y
              · rw [List.mem_singleton.1 hf]
                exact enters_of Tryz.func28 (by kernel_rfl) rfl xs y
          · intro i f y' hf hI
            have tt : Turns L1 W7 y' := by
              match i, hI with
              | 0, hI => exact hI.t
              | 1, hI => exact hI.2.t
              | 2, hI => exact hI.2.t
              | n + 3, hI => exact hI.2.t
            have cc : ∀ j, y'.cell? ⟨wc.heap.size, j, none⟩ = W7.cell? ⟨wc.heap.size, j, none⟩ := fun j => World.cell?_of_block (tt.block _ hz7 (fun q => by have h1 : wc.heap.size < y.heap.size := hfar _ q; omega))
            match i, hf with
            | 0, hf => cases hf; exact (cc 0).trans hcs.1
            | 1, hf => cases hf; exact (cc 1).trans hcs.2.1
            | 2, hf => cases hf; exact (cc 2).trans hcs.2.2
            | n + 3, hf => simp at hf
          · intro i f y' hf hI
            match i, hf, hI with
            | 0, hf, hI =>
              cases hf
              have hI : LoR l p bb L1 D W7 y' := hI
              refine (lsync_any hI (by have := H.out.2.2.1; omega)).mono ?_
              rintro e y2 ⟨rfl, hq⟩
              by_cases h0 : (lsyncD D).2 = 0
              · exact ⟨_, rfl, .inl ⟨by rw [h0]; rfl, h0, hq⟩⟩
              · refine ⟨_, rfl, .inr ⟨by omega, ?_⟩⟩
                rw [HTT.out.2.2, if_pos h0]
                exact ⟨rfl, hq⟩
            | 1, hf, hI =>
              cases hf
              obtain ⟨h0, hI⟩ : (lsyncD D).2 = 0 ∧ LoR l p bb L1 (lsyncD D).1 W7 y' := hI
              have hA := hW7.on rfl hI
              have r8' := (hI.t.block g8 (Array.getElem?_eq_some_iff.1 r8).1 (fun q => by have := hfar _ q; omega)).trans r8
              refine (lren1_any hI g8 b2 b5 n (.slice ba bn bc) F hn9 hFl (fun z hz => ?_)).mono ?_
              · obtain ⟨c1, c2, c3⟩ := (hA.below hz).cells
                exact ⟨cell_of_row _ _ 0 _ _ _ ((hz.block _ (Array.getElem?_eq_some_iff.1 r8').1).trans r8'), c2.2.1, c2.2.2, c3⟩
              · rintro e y2 ⟨rfl, hq⟩
                rw [← HTT.out.2.1] at hq ⊢
                by_cases hr0 : AA.2 = 0
                · exact ⟨_, rfl, .inl ⟨by rw [hr0]; rfl, ⟨h0, hr0⟩, hq⟩⟩
                · refine ⟨_, rfl, .inr ⟨by omega, ?_⟩⟩
                  rw [HTT.out.2.2, if_neg (fun q => q h0), if_pos hr0]
                  exact ⟨rfl, hq⟩
            | 2, hf, hI =>
              cases hf
              obtain ⟨⟨h0, h1⟩, hI⟩ : ((lsyncD D).2 = 0 ∧ AA.2 = 0) ∧ LoR l p bb L1 AA.1 W7 y' := hI
              refine (lsync_any hI (by rw [HTT.out.2.1]; have := app_len (lsyncD D).1 (sname n) F; have := lsync_len D; have := H.out.2.2.1; omega)).mono ?_
              rintro e y2 ⟨rfl, hq⟩
              have hTe : T = lsyncD AA.1 := by rw [HTT.out.2.2, if_neg (fun q => q h0), if_neg (fun q => q h1)]
              rw [← hTe] at hq ⊢
              by_cases hr0 : T.2 = 0
              · exact ⟨_, rfl, .inl ⟨by rw [hr0]; rfl, hr0, hq⟩⟩
              · exact ⟨_, rfl, .inr ⟨by omega, rfl, hq⟩⟩
            | n + 3, hf, _ => simp at hf
          · rintro e y2 ⟨k, rfl, ⟨rfl, hI⟩ | ⟨_, rfl, hI⟩⟩
            · have hI : T.2 = 0 ∧ LoR l p bb L1 T.1 W7 y2 := hI
              exact ⟨by rw [hI.1]; rfl, hI.2⟩
            · exact ⟨rfl, hI⟩)
        go_upto_region 17 with (go_at_call 53; (with_reducible refine HST.out.mono ?_); rintro e w9 ⟨rfl, hz⟩; have HZ := Lib.hid hz; clear hz q2)
        have hb7 := (Below.refl wc.heap.size wc).alloc (Nat.le_refl _) (.cells #[.func (.func 28) #[.pointer (some ⟨l, 0, none⟩)] #[], .func (.func 58) #[] #[.pointer (some ⟨g8, 0, none⟩), .pointer (some ⟨b2, 0, none⟩), .pointer (some ⟨b5, 0, none⟩)], .func (.func 28) #[.pointer (some ⟨l, 0, none⟩)] #[]] 47)
        have HB7 := Lib.hid hb7
        clear HST hb7
        generalize (wc.alloc (.cells #[.func (.func 28) #[.pointer (some ⟨l, 0, none⟩)] #[], .func (.func 58) #[] #[.pointer (some ⟨g8, 0, none⟩), .pointer (some ⟨b2, 0, none⟩), .pointer (some ⟨b5, 0, none⟩)], .func (.func 28) #[.pointer (some ⟨l, 0, none⟩)] #[]] 47)) = W7 at *
        by_cases hT0 : T.2 = 0
        · have hTz : ((T.2 : Int) != 0) = false := by rw [hT0]; rfl
          have HRM := Lib.hid (by have h2 := HRS.out.2.2; rw [← HTT.out.1] at h2; exact h2 hT0)
          have HF := Lib.hid (show lrenD D rs = (rems T.1 (nmsL D), 0) from by unfold lrenD; rw [← HTT.out.1, if_pos hT0])
          clear hT0
          have hNl : (nmsL D).length = N := by rw [HNN.out]; unfold nmsL; rw [List.length_map]
          have HNL := Lib.hid hNl
          obtain ⟨A', c', hv, Y, hY1, hY2⟩ := HC.out.2.2.1
          injection hv with e1 e2 e3
          subst e1 e3
          have hbA := HC.out.1.bel
          have HY := Lib.hid (And.intro hY1 hY2)
          have hkp : ∀ (D' : DskV) (z z2 : World), LoR l p bb L1 D' W7 z → Below z.heap.size z z2 → ∀ g o, y.heap.size ≤ g → wc.heap[g]? = some o → z2.heap[g]? = some o := fun D' z z2 hz hb g o hg ho => by
            have h1 := (HB7.out.block g (Array.getElem?_eq_some_iff.1 ho).1).trans ho
            have h2 := (hz.t.block g (Array.getElem?_eq_some_iff.1 h1).1 (fun q => by have := H.out.2.1 g q; omega)).trans h1
            exact (hb.block g (Array.getElem?_eq_some_iff.1 h2).1).trans h2
          have HKP := Lib.hid hkp
          have HW7 := Lib.hid (hbA.trans (HB7.out.mono hbA.size))
          clear e2 hY1 hY2 hkp hbA hNl
          go_wp2
          go_loopw [61] (fun s61 wr => ∃ i : Nat, s61 = .int .i64 (i : Int) ∧ i ≤ N ∧ LoR l p bb L1 (rems T.1 ((nmsL D).take i)) W7 wr) (fun s61 _ => N - (intOf s61).toNat)
          case atStart => exact ⟨0, rfl, Nat.zero_le _, HZ.out⟩
          case round =>
            obtain ⟨j, rfl, hj, hL⟩ := hrel
            have HL := Lib.hid hL
            clear hL
            by_cases hjN : j < N
            · have hjI : (j : Int) < (N : Int) := by omega
              have hjl : j < (segL D.fs).length := by rw [← HNN.out]; exact hjN
              obtain ⟨x, hx⟩ : ∃ x, x = (segL D.fs)[j] := ⟨_, rfl⟩
              have hxs : (segL D.fs)[j]? = some x := by rw [List.getElem?_eq_getElem hjl, hx]
              have hxm : x ∈ segL D.fs := by rw [hx]; exact List.getElem_mem hjl
              obtain ⟨gk, rfl, hck⟩ := HY.out.2 j x hxs
              obtain ⟨k0, k1, k2, k3⟩ := hck _ (fun r o hr ho => HKP.out _ _ _ HL.out (Below.refl _ _) r o (by have := (HY.out.1 r hr).1; have := HC.out.2.2.2.2; omega) ho)
              obtain ⟨nb, hnb⟩ : ∃ nb : ByteArray, nb = ⟨x.2.nm.toArray⟩ := ⟨_, rfl⟩
              obtain ⟨sb, hsb⟩ : ∃ sb : ByteArray, sb = ⟨x.2.by_.toArray⟩ := ⟨_, rfl⟩
              rw [← hnb] at k1
              rw [← hsb] at k2
              have hnl := seg_nm hxm
              have hjn : j < (nmsL D).length := by rw [HNL.out]; exact hjN
              have hnm : x.2.nm = (nmsL D)[j] := by
                have h2 := nms_at hxs
                rw [List.getElem?_eq_getElem hjn] at h2
                exact (Option.some.inj h2).symm
              obtain ⟨fj, hfj, hdj⟩ := rems_find HRM.out.dead HRM.out.nd HRM.out.mem hjn hnm
              have htk : (nmsL D).take (j + 1) = (nmsL D).take j ++ [x.2.nm] := by rw [List.take_add_one, List.getElem?_eq_getElem hjn, hnm]; rfl
              have hrm : remD (rems T.1 ((nmsL D).take j)) x.2.nm = (rems T.1 ((nmsL D).take (j + 1)), 0) := by
                have h2 := rem_one hdj hfj
                rw [htk, rems_snoc, h2]
              have HAC := Lib.hid (fun (z : World) (hz : Below wr.heap.size wr z) => (show Calls Tryz.prog 32 #[.pointer (some ⟨p, 0, none⟩), .string nb] z (fun e w' => e = .returned (.int .i64 0) ∧ LoR l p bb L1 (rems T.1 ((nmsL D).take (j + 1))) W7 w') from by
                have h2 := (HL.out.below hz).act (R := remD (rems T.1 ((nmsL D).take j)) nb.data.toList) (f := 32) (args := #[.pointer (some ⟨p, 0, none⟩), .string nb]) (fun n C L1 hd hlt => remove_any nb (by rw [hnb]; show x.2.nm.toArray.size ≤ _; rw [List.size_toArray, hnl]; decide) z hd hlt)
                rw [show nb.data.toList = x.2.nm from by rw [hnb], hrm] at h2
                exact h2))
              have hw1 : wrap64 ((j : Int) + 1) = ((j + 1 : Nat) : Int) := by unfold wrap64; omega
              clear hjl hx hxs hxm hck hnb hsb hnl hjn hnm hfj hdj htk hrm
              go_upto_region 22 with fail
              have hb5 := (Below.refl wr.heap.size wr).alloc (Nat.le_refl _) (.cells #[.int .i64 (x.1 : Int), .string nb, .string sb, .int .i64 (x.2.sy : Int)] 97)
              have r13 : (wr.alloc (.cells #[.int .i64 (x.1 : Int), .string nb, .string sb, .int .i64 (x.2.sy : Int)] 97)).heap[wr.heap.size]? = some (.cells #[.int .i64 (x.1 : Int), .string nb, .string sb, .int .i64 (x.2.sy : Int)] 97 (0, 0)) := heap_alloc_new _ _
              change Code.wp _ _ _ _ (wr.alloc (.cells #[.int .i64 (x.1 : Int), .string nb, .string sb, .int .i64 (x.2.sy : Int)] 97))
              generalize wr.alloc (.cells #[.int .i64 (x.1 : Int), .string nb, .string sb, .int .i64 (x.2.sy : Int)] 97) = W9 at *
              obtain ⟨g13, hg13⟩ : ∃ g13, g13 = wr.heap.size := ⟨_, rfl⟩
              rw [← hg13] at r13 ⊢
              have HCK := Lib.hid (fun (z : World) (hz : Below W9.heap.size W9 z) => (show z.cell? ⟨l, 0, none⟩ = some (.pointer (some ⟨p, 0, none⟩)) ∧ z.cell? ⟨b2, 0, none⟩ = some (.pointer (some ⟨l, 0, none⟩)) ∧ z.cell? ⟨g13, 1, none⟩ = some (.string nb) from by
                have hbz := hb5.trans (hz.mono hb5.size)
                refine ⟨(HL.out.below hbz).cell, cell_of_row _ _ 0 _ _ _ (HKP.out _ _ _ HL.out hbz _ _ HC.out.1.far.1 HC.out.1.r2), cell_of_row _ _ 1 _ _ _ ((hz.block _ (Array.getElem?_eq_some_iff.1 r13).1).trans r13)⟩))
              have HAC2 := Lib.hid (fun (z : World) (hz : Below W9.heap.size W9 z) => HAC.out z (hb5.trans (hz.mono hb5.size)))
              clear hb5 r13 hg13 k0 k1 k2 k3
              refine (wpIn_wide (n := 1)).1 ?_
              refine RegK.wpIn_region_can (F := Fence.wide) (KeptW W9) [(0, 0), (1, 0), (2, 0), (3, 0), (4, 0), (5, 0), (6, 0), (7, 3), (8, 0)] (by kernel_rfl) (by kernel_rfl) (by kernel_rfl) (fun _ _ d _ _ h => by cases d <;> exact h) ⟨rfl, rfl, rfl, Nat.le_refl _, fun _ _ => rfl⟩ ?_
              dsimp only [RegK.pick, List.getElem?_cons_zero, List.getElem?_cons_succ]
              change RegK.Can _ _ _ _ _ _ _ _ W9.drew
              have hkd : KeptW W9 W9.drew := ⟨rfl, rfl, rfl, Nat.le_refl _, fun _ _ => rfl⟩
              generalize W9.drew = v8 at *
              refine RegK.can_reads ?_
              intro K hK
              go_simp
              refine ⟨.pointer (some ⟨l, 0, none⟩), fun q hy => ?_, hK _ ?_⟩
              · have c0 := (HCK.out _ (KeptW.bel hy)).2.1
                go_simp
              clear hK K
              iterate 2 (refine RegK.can_reads ?_; intro K hK; go_simp; (first | refine ⟨_, fun _ _ => rfl, hK _ ?_⟩ | refine hK _ ?_); clear hK K)
              refine RegK.can_reads ?_
              intro K hK
              go_simp
              refine ⟨.pointer (some ⟨p, 0, none⟩), fun q hy => ?_, hK _ ?_⟩
              · have c0 := (HCK.out _ (KeptW.bel hy)).1
                go_simp
              clear hK K
              iterate 2 (refine RegK.can_reads ?_; intro K hK; go_simp; (first | refine ⟨_, fun _ _ => rfl, hK _ ?_⟩ | refine hK _ ?_); clear hK K)
              refine RegK.can_reads ?_
              intro K hK
              go_simp
              refine ⟨.string nb, fun q hy => ?_, hK _ ?_⟩
              · have c0 := (HCK.out _ (KeptW.bel hy)).2.2
                go_simp
              clear hK K
              refine RegK.can_frees (fun _ => trivial) ?_
              intro K K0 hK hK0
              go_simp
              refine ⟨trivial, ?_⟩
              refine (callsIn_wide.2 (HAC2.out v8 (KeptW.bel hkd))).mono ?_
              rintro e w12 ⟨rfl, hz9⟩
              refine hK (fun _ => True) _ _ trivial ?_
              clear hK K hK0 K0
              refine RegK.can_reads ?_; intro K hK; go_simp; (first | refine ⟨_, fun _ _ => rfl, hK _ ?_⟩ | refine hK _ ?_); clear hK K
              refine RegK.can_nil ?_
              have HZ2 := Lib.hid hz9
              clear hz9
              go_wp2
              exact ⟨⟨j + 1, by rw [Int.natCast_add]; rfl, by omega, HZ2.out⟩, by simp only [intOf]; omega⟩
            · have hjI : ¬ (j : Int) < (N : Int) := by omega
              obtain rfl : j = N := by omega
              have HZ2 := Lib.hid (by have h2 := HL.out; rw [show (nmsL D).take j = nmsL D from by rw [← HNL.out, List.take_length]] at h2; exact h2)
              go_wp2
              go_ret
              rw [HF.out]
              exact ⟨rfl, HBK.out _ _ (HZ2.out.base HW7.out H.out.1.far)⟩
        · have hTz : ((T.2 : Int) != 0) = true := by rw [bne_iff_ne]; omega
          have HF := Lib.hid (show lrenD D rs = T from by unfold lrenD; rw [← HTT.out.1, if_neg hT0])
          clear hT0
          go_wp2
          go_ret
          rw [HF.out]
          have hbA := HC.out.1.bel
          exact ⟨rfl, HBK.out _ _ (HZ.out.base (hbA.trans (HB7.out.mono hbA.size)) H.out.1.far)⟩
end Go.Proofs.YtogfladmgbldcaaGreatDoor
namespace Go.Proofs.YtogfladmgbldcaaGreatDoor
open Go.RowKit Go.Shelf
/-- A disk, logs on it, blocks that are not the disk's; all of them lie at N or behind. -/
def Lw (N p bb : Nat) (K ls : List Nat) (D : DskV) (w : World) : Prop := ∃ n C L, DskAt w p bb n C L D ∧ (∀ g ∈ L, N ≤ g ∧ g < w.heap.size) ∧ (∀ g ∈ K, N ≤ g ∧ g < w.heap.size ∧ g ∉ L) ∧ ∀ l ∈ ls, l ∈ K ∧ LogAt w l p
/-- What lies below N, and the kept blocks, have not turned. -/
structure Hd (N : Nat) (K : List Nat) (w w' : World) : Prop where
  bel : Below N w w'
  keep : ∀ g ∈ K, w'.heap[g]? = w.heap[g]?
theorem Hd.refl (N : Nat) (K : List Nat) (w : World) : Hd N K w w := ⟨Below.refl _ _, fun _ _ => rfl⟩
theorem Hd.trans {N : Nat} {K : List Nat} {a b c : World} (h : Hd N K a b) (k : Hd N K b c) : Hd N K a c := ⟨h.bel.trans k.bel, fun g hg => (k.keep g hg).trans (h.keep g hg)⟩
theorem Hd.less {N : Nat} {K K' : List Nat} {a b : World} (h : Hd N K a b) (hk : ∀ g ∈ K', g ∈ K) : Hd N K' a b := ⟨h.bel, fun g hg => h.keep g (hk g hg)⟩
section
variable {N p bb : Nat} {K ls : List Nat} {D : DskV} {w w' : World}
theorem Lw.hd (h : Lw N p bb K ls D w) (hN : N ≤ w.heap.size) (hb : Below w.heap.size w w') : Hd N K w w' := by
  obtain ⟨n, C, L, h1, h2, h3, h4⟩ := h
  exact ⟨hb.mono hN, fun g hg => hb.block g (h3 g hg).2.1⟩
theorem Lw.below (h : Lw N p bb K ls D w) (hb : Below w.heap.size w w') : Lw N p bb K ls D w' := by
  obtain ⟨n, C, L, h1, h2, h3, h4⟩ := h
  exact ⟨n, C, L, h1.keep (fun g hg => hb.block g (h2 g hg).2), fun g hg => ⟨(h2 g hg).1, Nat.lt_of_lt_of_le (h2 g hg).2 hb.size⟩, fun g hg => ⟨(h3 g hg).1, Nat.lt_of_lt_of_le (h3 g hg).2.1 hb.size, (h3 g hg).2.2⟩, fun l hl => ⟨(h4 l hl).1, (hb.block l (h3 l (h4 l hl).1).2.1).trans (h4 l hl).2⟩⟩
theorem Lw.less (h : Lw N p bb K ls D w) {ks : List Nat} (hk : ∀ l ∈ ks, l ∈ ls) : Lw N p bb K ks D w := by
  obtain ⟨n, C, L, h1, h2, h3, h4⟩ := h
  exact ⟨n, C, L, h1, h2, h3, fun l hl => h4 l (hk l hl)⟩
theorem Lw.dk (h : Lw N p bb K ls D w) : Dk N p bb D w := by
  obtain ⟨n, C, L, h1, h2, _⟩ := h
  exact ⟨n, C, L, h1, h2⟩
theorem Lw.syn (h : Lw N p bb K ls D w) : ∀ f ∈ D.fs, f.sy ≤ f.by_.length := by
  obtain ⟨n, C, L, h1, h2, h3⟩ := h
  exact h1.syn
theorem Dk.lw (h : Dk N p bb D w) : Lw N p bb [] [] D w := by
  obtain ⟨n, C, L, h1, h2⟩ := h
  exact ⟨n, C, L, h1, h2, fun l hl => (by cases hl), fun l hl => (by cases hl)⟩
theorem Lw.lo {l : Nat} (h : Lw N p bb K ls D w) (hl : l ∈ ls) (hN : N ≤ w.heap.size) (hv : PVB N w) : ∃ L, LoR l p bb L D w w ∧ (∀ g ∈ L, N ≤ g ∧ g < w.heap.size) ∧ (∀ g ∈ K, N ≤ g ∧ g < w.heap.size ∧ g ∉ L) ∧ ∀ l ∈ ls, l ∈ K ∧ LogAt w l p := by
  obtain ⟨n, C, L, h1, h2, h3, h4⟩ := h
  exact ⟨L, ⟨(h4 l hl).2, ⟨L, n, C, h1, fun g hg => ⟨(h2 g hg).2, .inl hg⟩, (h3 l (h4 l hl).1).2.2⟩, Turns.refl _ _, ⟨N, hv, hN, fun g hg => (h2 g hg).1⟩⟩, h2, h3, h4⟩
theorem LoR.lw {l : Nat} {L : List Nat} {D' : DskV} {y : World} (h : LoR l p bb L D' w y) (hN : N ≤ w.heap.size) (h2 : ∀ g ∈ L, N ≤ g ∧ g < w.heap.size) (h3 : ∀ g ∈ K, N ≤ g ∧ g < w.heap.size ∧ g ∉ L) (h4 : ∀ l ∈ ls, l ∈ K ∧ LogAt w l p) : Lw N p bb K ls D' y ∧ Hd N K w y ∧ (N ≤ l → ∀ q ∉ L, N ≤ q → q < w.heap.size → Lw N p bb (l :: q :: K) (l :: ls) D' y) := by
  obtain ⟨L1, n, C, k1, k2, k3⟩ := h.dsk
  have hg1 : ∀ g ∈ L1, N ≤ g ∧ g < y.heap.size := fun g hg => ⟨by
    rcases (k2 g hg).2 with q | q
    · exact (h2 g q).1
    · omega, (k2 g hg).1⟩
  have off : ∀ g, g < w.heap.size → g ∉ L → g ∉ L1 := fun g hg hn q => by
    rcases (k2 g q).2 with z | z
    · exact hn z
    · omega
  have hK1 : ∀ g ∈ K, N ≤ g ∧ g < y.heap.size ∧ g ∉ L1 := fun g hg => ⟨(h3 g hg).1, Nat.lt_of_lt_of_le (h3 g hg).2.1 h.t.size, off g (h3 g hg).2.1 (h3 g hg).2.2⟩
  have hkp : ∀ g ∈ K, y.heap[g]? = w.heap[g]? := fun g hg => h.t.block g (h3 g hg).2.1 (h3 g hg).2.2
  have hl1 : ∀ l ∈ ls, l ∈ K ∧ LogAt y l p := fun l hl => ⟨(h4 l hl).1, (hkp l (h4 l hl).1).trans (h4 l hl).2⟩
  refine ⟨⟨n, C, L1, k1, hg1, hK1, hl1⟩, ⟨h.t.below (Below.refl _ _) hN (fun g hg => (h2 g hg).1), hkp⟩, fun hNl g hg hNg hgs => ⟨n, C, L1, k1, hg1, fun q hq => ?_, fun q hq => ?_⟩⟩
  · rcases List.mem_cons.1 hq with rfl | hq
    · exact ⟨hNl, (Array.getElem?_eq_some_iff.1 h.log).1, k3⟩
    · rcases List.mem_cons.1 hq with rfl | hq
      · exact ⟨hNg, Nat.lt_of_lt_of_le hgs h.t.size, off _ hgs hg⟩
      · exact hK1 q hq
  · rcases List.mem_cons.1 hq with rfl | hq
    · exact ⟨List.mem_cons_self .., h.log⟩
    · exact ⟨List.mem_cons_of_mem _ (List.mem_cons_of_mem _ (hl1 q hq).1), (hl1 q hq).2⟩
theorem lw_new (N : Nat) (w : World) (hN : N ≤ w.heap.size) : Calls Tryz.prog 16 #[] w fun e w' => ∃ p bb, e = .returned (.pointer (some ⟨p, 0, none⟩)) ∧ Lw N p bb [] [] dsk0 w' ∧ Below N w w' := by
  refine (new_dk N w hN).mono ?_
  rintro e w' ⟨p, bb, rfl, h, hb⟩
  exact ⟨p, bb, rfl, h.lw, hb⟩
theorem lw_act {R : DskV × Nat} {f : FuncId} {args : Array Value} (hN : N ≤ w.heap.size) (h : Lw N p bb K ls D w)
    (hc : ∀ n C L, DskAt w p bb n C L D → (∀ g ∈ L, g < w.heap.size) → Calls Tryz.prog f args w (fun e w' => ∃ k, e = .returned (.int .i64 k) ∧ DkR p bb L R w k w')) :
    Calls Tryz.prog f args w fun e w' => e = .returned (.int .i64 (R.2 : Int)) ∧ Lw N p bb K ls R.1 w' ∧ Hd N K w w' := by
  obtain ⟨n, C, L, h1, h2, h3, h4⟩ := h
  refine (hc n C L h1 (fun g hg => (h2 g hg).2)).mono ?_
  rintro e w' ⟨k, rfl, rfl, n', C', L', hd, ht, hl⟩
  obtain ⟨L2, hd2, hl2⟩ := hd.trim
  have hkp : ∀ g ∈ K, w'.heap[g]? = w.heap[g]? := fun g hg => ht.block g (h3 g hg).2.1 (h3 g hg).2.2
  refine ⟨rfl, ⟨n', C', L2, hd2, fun g hg => ⟨?_, (hl2 g hg).2⟩, fun g hg => ⟨(h3 g hg).1, Nat.lt_of_lt_of_le (h3 g hg).2.1 ht.size, fun q => ?_⟩, fun l hls => ⟨(h4 l hls).1, (hkp l (h4 l hls).1).trans (h4 l hls).2⟩⟩, turns_below ht hN (fun g hg => (h2 g hg).1), hkp⟩
  · rcases hl g (hl2 g hg).1 with q | q
    · exact (h2 g q).1
    · omega
  · rcases hl g (hl2 g q).1 with z | z
    · exact (h3 g hg).2.2 z
    · have := (h3 g hg).2.1; omega
theorem lw_open (hN : N ≤ w.heap.size) (hv : PVB N w) (hlen : D.fs.length ≤ 100000) (h : Lw N p bb K ls D w) (hdd : D.dead = false) (hs : ¬ Spoilt (segL D.fs)) (hok : (lopenD D).2 = 0) :
    Calls Tryz.prog 26 #[.pointer (some ⟨p, 0, none⟩)] w fun e w' => ∃ l v q, e = .returned (.tuple #[.pointer (some ⟨l, 0, none⟩), v, .int .i64 0]) ∧ Lw N p bb (l :: q :: K) (l :: ls) (lopenD D).1 w' ∧ w'.ownsRow w.heap.size 9 1 v (recL (segL D.fs)).length (encS (recL (segL D.fs))) ∧ (∀ g, v.ownBlock = some g → g = q) ∧ Hd N K w w' := by
  obtain ⟨n, C, L, h1, h2, h3, h4⟩ := h
  refine (lopen_any hlen w ⟨N, hv, hN, fun g hg => (h2 g hg).1⟩ h1 (fun g hg => (h2 g hg).2) hdd (fun _ => hok)).mono ?_
  rintro e w' (⟨q, _⟩ | ⟨_, l, v, W, rfl, hbW, hl, hlw, hlW, ho⟩)
  · exact (hs q).elim
  · have h2W : ∀ g ∈ L, N ≤ g ∧ g < W.heap.size := fun g hg => ⟨(h2 g hg).1, Nat.lt_of_lt_of_le (h2 g hg).2 hbW.size⟩
    have h3W : ∀ g ∈ K, N ≤ g ∧ g < W.heap.size ∧ g ∉ L := fun g hg => ⟨(h3 g hg).1, Nat.lt_of_lt_of_le (h3 g hg).2.1 hbW.size, (h3 g hg).2.2⟩
    have h4W : ∀ l ∈ ls, l ∈ K ∧ LogAt W l p := fun l hl => ⟨(h4 l hl).1, (hbW.block l (h3 l (h4 l hl).1).2.1).trans (h4 l hl).2⟩
    have hNW : N ≤ W.heap.size := Nat.le_trans hN hbW.size
    obtain ⟨_, k2, k3⟩ := hl.lw hNW h2W h3W h4W
    have offL : ∀ g, w.heap.size ≤ g → g ∉ L := fun g hg q => by have := (h2 g q).2; omega
    have hHd : Hd N K w w' := ⟨(hbW.mono hN).trans k2.bel, fun g hg => (k2.keep g hg).trans (hbW.block g (h3 g hg).2.1)⟩
    have hrow : w'.ownsRow w.heap.size 9 1 v (recL (segL D.fs)).length (encS (recL (segL D.fs))) := own_stay ho (fun k hk hB hlk => hl.t.block k hlk (offL k hB))
    cases hvb : v.ownBlock with
    | none => exact ⟨l, v, l, rfl, k3 (by omega) l (offL l hlw) (by omega) hlW, hrow, fun g hg => (by rw [hvb] at hg; cases hg), hHd⟩
    | some q =>
      have hq := own_at ho hvb
      exact ⟨l, v, q, rfl, k3 (by omega) q (offL q hq.1) (by omega) hq.2, hrow, fun g hg => (by rw [hvb] at hg; injection hg with hg; exact hg.symm), hHd⟩
theorem lw_halt (hN : N ≤ w.heap.size) (hv : PVB N w) (hlen : D.fs.length ≤ 100000) (h : Lw N p bb K ls D w) (hdd : D.dead = false) (hs : Spoilt (segL D.fs)) :
    Calls Tryz.prog 26 #[.pointer (some ⟨p, 0, none⟩)] w fun e w' => e = .returned (.tuple #[.pointer none, .slice none 0 0, .int .i64 10]) ∧ Lw N p bb K ls D w' ∧ Below w.heap.size w w' := by
  obtain ⟨n, C, L, h1, h2, h3⟩ := id h
  refine (lopen_any hlen w ⟨N, hv, hN, fun g hg => (h2 g hg).1⟩ h1 (fun g hg => (h2 g hg).2) hdd (fun q => (q hs).elim)).mono ?_
  rintro e w' (⟨_, rfl, hb⟩ | ⟨q, _⟩)
  · exact ⟨rfl, h.below hb, hb⟩
  · exact (q hs).elim
theorem lw_add {l : Nat} (hl : l ∈ ls) (hN : N ≤ w.heap.size) (hv : PVB N w) (hlen : D.fs.length ≤ 100000) (hsm : ∀ x ∈ segL D.fs, x.1 ≤ 208) (x : ByteArray) (hx : x.size ≤ 1000000) (h : Lw N p bb K ls D w) :
    Calls Tryz.prog 27 #[.pointer (some ⟨l, 0, none⟩), .string x] w fun e w' => e = .returned (.int .i64 ((laddD D x.data.toList).2 : Int)) ∧ Lw N p bb K ls (laddD D x.data.toList).1 w' ∧ Hd N K w w' := by
  obtain ⟨L, h1, h2, h3, h4⟩ := h.lo hl hN hv
  refine (ladd_any h1 hlen hsm x hx).mono ?_
  rintro e w' ⟨rfl, hq⟩
  obtain ⟨k1, k2, _⟩ := hq.lw hN h2 h3 h4
  exact ⟨rfl, k1, k2⟩
theorem lw_sync {l : Nat} (hl : l ∈ ls) (hN : N ≤ w.heap.size) (hv : PVB N w) (hlen : D.fs.length ≤ 100000) (h : Lw N p bb K ls D w) :
    Calls Tryz.prog 28 #[.pointer (some ⟨l, 0, none⟩)] w fun e w' => e = .returned (.int .i64 ((lsyncD D).2 : Int)) ∧ Lw N p bb K ls (lsyncD D).1 w' ∧ Hd N K w w' := by
  obtain ⟨L, h1, h2, h3, h4⟩ := h.lo hl hN hv
  refine (lsync_any h1 (by omega)).mono ?_
  rintro e w' ⟨rfl, hq⟩
  obtain ⟨k1, k2, _⟩ := hq.lw hN h2 h3 h4
  exact ⟨rfl, k1, k2⟩
theorem lw_segs {l : Nat} (hl : l ∈ ls) (hN : N ≤ w.heap.size) (hv : PVB N w) (hlen : D.fs.length ≤ 100000) (h : Lw N p bb K ls D w) :
    Calls Tryz.prog 30 #[.pointer (some ⟨l, 0, none⟩)] w fun e w' => e = .returned (.int .i64 ((segL D.fs).length : Int)) ∧ Lw N p bb K ls D w' ∧ Below w.heap.size w w' := by
  obtain ⟨L, h1, h2, h3, h4⟩ := h.lo hl hN hv
  refine (lsegs_any h1 (by omega)).mono ?_
  rintro e w' ⟨rfl, _, hb⟩
  exact ⟨rfl, h.below hb, hb⟩
theorem lw_renew {l : Nat} (hl : l ∈ ls) (hN : N ≤ w.heap.size) (hv : PVB N w) (hlen : D.fs.length ≤ 100000) (hsm : ∀ x ∈ segL D.fs, x.1 ≤ 208) (rs : List Bs) (hrs : Oks rs) (hF : (frsL rs).length ≤ 1000000) (v : Value) (hst : StrS w v rs)
    (hrem : (lnewD D rs).2 = 0 → RemOk (lnewD D rs).1 (nmsL D)) (h : Lw N p bb K ls D w) :
    Calls Tryz.prog 29 #[.pointer (some ⟨l, 0, none⟩), v] w fun e w' => e = .returned (.int .i64 ((lrenD D rs).2 : Int)) ∧ Lw N p bb K ls (lrenD D rs).1 w' ∧ Hd N K w w' := by
  obtain ⟨L, h1, h2, h3, h4⟩ := h.lo hl hN hv
  refine (lrenew_any h1 hlen hsm rs hrs hF v hst hrem).mono ?_
  rintro e w' ⟨rfl, hq⟩
  obtain ⟨k1, k2, _⟩ := hq.lw hN h2 h3 h4
  exact ⟨rfl, k1, k2⟩
theorem lw_files (hlen : D.fs.length ≤ 1000000) (h : Lw N p bb K ls D w) :
    Calls Tryz.prog 19 #[.pointer (some ⟨p, 0, none⟩)] w fun e w' => ∃ v, e = .returned v ∧ w'.ownsRow w.heap.size 35 3 v D.fs.length (flat filE D.fs) ∧ Below w.heap.size w w' := files_dk hlen h.dk
end
end Go.Proofs.YtogfladmgbldcaaGreatDoor
namespace Go.Proofs.YtogfladmgbldcaaGreatDoor
section
variable {D : DskV} {a : Nat} {P : List (List Bs)} {R : List Bs} {t : Bs} {y : Nat}
theorem Lg.nums (h : Lg D a P R t y) : ∀ x ∈ segL D.fs, x.1 ≤ a + P.length := fun x hx => by
  rw [h.seg] at hx
  rcases List.mem_append.1 hx with q | q
  · obtain ⟨i, hi⟩ := List.getElem?_of_mem q
    have hl := (List.getElem?_eq_some_iff.1 hi).1
    rw [whsN_len] at hl
    rw [whsN_at, List.getElem?_eq_getElem hl] at hi
    simp only [Option.map_some, Option.some.injEq] at hi
    rw [← hi]
    show a + i ≤ _
    omega
  · rw [List.mem_singleton.1 q]
    exact Nat.le_refl _
theorem LgT.nums {X : List Bs} {s c : Nat} (h : LgT D X s c) (hc : c ≤ 200) : ∀ x ∈ segL D.fs, x.1 ≤ 208 := fun x hx => by
  rcases h with ⟨h1, _⟩ | ⟨a, P, R, t, y, h1, _, _, h4⟩
  · rw [h1.fs] at hx
    cases hx
  · have := h1.nums x hx
    omega
theorem lg_renew (h : Lg D a P R [] y) (hd : D.dead = false) (hq : a + P.length + 1 ≤ 200) {rs : List Bs} (hr : Oks rs) (hroom : (frsL rs).length ≤ D.room) (hf : D.fuse = none) :
    ∃ D', lnewD D rs = (D', 0) ∧ RemOk D' (nmsL D) ∧ Lg (rems D' (nmsL D)) (a + P.length + 1) [] rs [] rs.length ∧ (rems D' (nmsL D)).dead = false ∧ (rems D' (nmsL D)).fuse = none := by
  unfold lnewD
  obtain ⟨D1, e1, e2, e3, e4⟩ := lg_sync h hd
  have hn : nextN D = a + P.length + 1 := by unfold nextN; rw [h.last]
  have hrm1 : D1.room = D.room := by
    have q1 := e2.tot
    have q2 := e2.sum
    have q3 := h.tot
    have q4 := h.sum
    omega
  rw [e1, if_neg (by simp), hn, if_neg (by omega), h.nms]
  dsimp only
  rcases lg_new e2 (by omega) e3 hr (by rw [hrm1]; omega) with ⟨D', k1, k2, k3, k4⟩ | ⟨D', j, t, k1, k2, k3, k4, k5, k6⟩
  · rw [k1, if_neg (by simp)]
    dsimp only
    obtain ⟨D2, f1, f2, f3, f4⟩ := lg_sync k2 k3
    obtain ⟨g1, g2, g3, g4⟩ := lg_rem (n := a + P.length + 1) f2 f3 (by rw [List.length_append, List.length_singleton]; omega)
    exact ⟨D2, f1, g1, g2, g3, g4.trans (f4.trans (k4 (e4.trans hf)))⟩
  · exact (k6 (e4.trans hf)).elim
end
theorem tor_5x : Tor [5, 120] := (by decide +kernel : (splD [5, 120]).1 = [] ∧ (splD [5, 120]).2.1 = 0)
theorem sname1 : sname 1 = [115, 48, 48, 48, 48, 48, 48, 48, 49] := by decide +kernel
theorem sname2 : sname 2 = [115, 48, 48, 48, 48, 48, 48, 48, 50] := by decide +kernel
theorem lg00 : Lg0 dsk0 := ⟨rfl, rfl⟩
theorem frL1_len (b : UInt8) : (frL [b]).length = 10 := by rw [frL_len]; rfl
/-- What the known log's disk becomes. -/
structure WakeV (D2 D3 D4 D5 D7 : DskV) : Prop where
  e2 : laddD dsk0 [97] = (D2, 0)
  g2 : Lg D2 1 [] [[97]] [] 0
  d2 : D2.dead = false
  e3 : lsyncD D2 = (D3, 0)
  g3 : Lg D3 1 [] [[97]] [] 1
  d3 : D3.dead = false
  e4 : appD D3 (sname 1) [5, 120] = (D4, 0)
  g4 : Lg D4 1 [] [[97]] [5, 120] 1
  d4 : D4.dead = false
  e5 : lopenD D4 = (D5, 0)
  g5 : Lg D5 1 [] [[97]] [] 1
  d5 : D5.dead = false
  e7 : lrenD D5 [[98]] = (D7, 0)
  r7 : (lnewD D5 [[98]]).2 = 0 → RemOk (lnewD D5 [[98]]).1 (nmsL D5)
  g7 : Lg D7 2 [] [[98]] [] 1
  d7 : D7.dead = false
theorem ok1 (b : UInt8) : frOk [b] := ⟨Nat.le_refl _, by simp⟩
theorem oks1 (b : UInt8) : Oks [[b]] := fun x hx => by rw [List.mem_singleton.1 hx]; exact ok1 b
theorem wakes5 : ∃ D2 D3 D4 D5 D7, WakeV D2 D3 D4 D5 D7 := by
  obtain ⟨D2, e2, g2, d2, n2⟩ : ∃ D2, laddD dsk0 [97] = (D2, 0) ∧ Lg D2 1 [] [[97]] [] 0 ∧ D2.dead = false ∧ D2.fuse = none := by
    rcases lg0_new lg00 rfl (oks1 97) (by rw [frsL_one, frL1_len]; decide) with ⟨D', k1, k2, k3, k4⟩ | ⟨_, _, _, _, _, _, _, _, k6⟩
    · refine ⟨D', ?_, k2, k3, k4 rfl⟩
      unfold laddD
      rw [if_neg (fun q => q (ok1 97)), lg00.last]
      rw [frsL_one] at k1
      exact k1
    · exact (k6 rfl).elim
  obtain ⟨D3, e3, g3, d3, n3⟩ := lg_sync g2 d2
  have hr3 : totF D3.fs = 10 := by
    rw [g3.tot, show frsL ([[97]] : List Bs) = frL [97] from frsL_one _, frL1_len]
    rfl
  have hs3 := g3.sum
  obtain ⟨D4, e4, g4, d4, n4⟩ : ∃ D4, appD D3 (sname 1) [5, 120] = (D4, 0) ∧ Lg D4 1 [] [[97]] [5, 120] 1 ∧ D4.dead = false ∧ D4.fuse = none := by
    have hf := g3.find
    rw [show 1 + ([] : List (List Bs)).length = 1 from rfl] at hf
    rcases app_cases d3 (nm := sname 1) (s := [5, 120]) (by rw [sname1]; decide) (by show 2 ≤ _; omega) (by rw [hf]; intro q; cases q) with ⟨o, h1, h2⟩ | ⟨k, h0, _⟩
    · refine ⟨_, h1, ?_, d3, h2 (n3.trans n2)⟩
      refine g3.set (R' := [[97]]) (t' := [5, 120]) (y' := 1) ?_ g3.okR (Nat.le_refl _) tor_5x (by show D3.room - 2 + _ + 2 = _ + _ + 0; omega)
      rw [hf]
      show putF _ D3.fs = putF _ D3.fs
      congr 1
      all_goals (unfold lastF; simp)
    · rw [n3, n2] at h0
      cases h0
  obtain ⟨D5, e5, g5, d5, n5⟩ := lg_open g4 d4
  have hr5 : totF D5.fs = 10 := by
    rw [g5.tot, show frsL ([[97]] : List Bs) = frL [97] from frsL_one _, frL1_len]
    rfl
  have hs5 := g5.sum
  obtain ⟨D6, e6, r6, g6, d6, n6⟩ := lg_renew g5 d5 (by decide) (oks1 98) (by rw [frsL_one, frL1_len]; omega) (n5.trans n4)
  refine ⟨D2, D3, D4, D5, _, e2, g2, d2, e3, g3, d3, e4, g4, d4, e5, g5, d5, ?_, fun _ => by rw [e6]; exact r6, g6, d6⟩
  unfold lrenD
  rw [e6, if_pos rfl]
end Go.Proofs.YtogfladmgbldcaaGreatDoor
namespace Go.Proofs.YtogfladmgbldcaaGreatDoor
open Go.RowKit Go.Shelf
theorem row_one {w : World} {base : Nat} {v : Value} {x : Bs} (h : w.ownsRow base 9 1 v 1 (encS [x])) : ∃ g c, v = .slice (some ⟨g, 0, none⟩) 1 c ∧ v.ownBlock = some g ∧ w.cell? ⟨g, 0, none⟩ = some (.string ⟨x.toArray⟩) := by
  obtain ⟨A, c, rfl, Y, h1, h2⟩ := names_row (l := [x]) rfl h
  obtain ⟨g, rfl, h3⟩ := h2 0 x rfl
  exact ⟨g, c, rfl, rfl, h3 w (KeptZ.refl _ _)⟩
/-- A disk with logs, and the library's variables. -/
structure LwV (N p bb : Nat) (K ls : List Nat) (D : DskV) (w : World) : Prop where
  lw : Lw N p bb K ls D w
  pv : PVB N w
  sz : N ≤ w.heap.size
theorem LwV.of {N p bb p' bb' : Nat} {K ls K' ls' : List Nat} {D D' : DskV} {w w' : World} (h : LwV N p bb K ls D w) (h2 : Lw N p' bb' K' ls' D' w') (hb : Below N w w') : LwV N p' bb' K' ls' D' w' := ⟨h2, h.pv.on hb, Nat.le_trans h.sz hb.size⟩
set_option maxRecDepth 100000 in
set_option maxHeartbeats 16000000 in
theorem wakes05_any (w : World) (hv0 : PV w) : Calls Tryz.prog 31 #[] w fun e w' => e = .returned (.bool true) ∧ Below w.heap.size w w' := by
  obtain ⟨N, hN⟩ : ∃ N, N = w.heap.size := ⟨_, rfl⟩
  have hv : PVB N w := by rw [hN]; exact PVB.of hv0
  have hN0 : N ≤ w.heap.size := by omega
  rw [← hN]
  clear hN hv0
  obtain ⟨D2, D3, D4, D5, D7, V⟩ := wakes5
  have hA2 : laddD D2 [] = (D2, 6) := by unfold laddD; rw [if_pos (fun q => absurd q.1 (by decide))]
  have Hnew := Lib.hid (fun (y : World) (hy : N ≤ y.heap.size) => lw_new N y hy)
  have Hop1 := Lib.hid (fun (p bb : Nat) (y : World) (h : LwV N p bb [] [] dsk0 y) => (show Calls Tryz.prog 26 #[.pointer (some ⟨p, 0, none⟩)] y (fun e w' => ∃ l a c q, e = .returned (.tuple #[.pointer (some ⟨l, 0, none⟩), .slice a 0 c, .int .i64 0]) ∧ LwV N p bb [l, q] [l] dsk0 w' ∧ Below N y w') from (lw_open h.sz h.pv (by decide) h.lw rfl (LgT.good (s := 0) (c := 0) (.inl ⟨lg00, rfl, rfl⟩)).1 (by rw [lg0_open lg00])).mono (by
    rintro e w' ⟨l, v, q, rfl, h2, ho, _, hb⟩
    rw [lg0_open lg00] at h2
    obtain ⟨a, c, rfl⟩ := own_slice_of ho
    exact ⟨l, a, c, q, rfl, h.of h2 hb.bel, hb.bel⟩)))
  have Had := Lib.hid (fun (l q p bb : Nat) (y : World) (h : LwV N p bb [l, q] [l] dsk0 y) => (show Calls Tryz.prog 27 #[.pointer (some ⟨l, 0, none⟩), .string ⟨#[97]⟩] y (fun e w' => e = .returned (.int .i64 0) ∧ LwV N p bb [l, q] [l] D2 w' ∧ Below N y w') from by
    have h2 := lw_add (l := l) (by simp) h.sz h.pv (by decide) (fun x hx => by cases hx) ⟨#[97]⟩ (by decide) h.lw
    rw [show (⟨#[97]⟩ : ByteArray).data.toList = [97] from rfl, V.e2] at h2
    exact h2.mono (by rintro e w' ⟨rfl, h3, hb⟩; exact ⟨rfl, h.of h3 hb.bel, hb.bel⟩)))
  have Ha2 := Lib.hid (fun (l q p bb : Nat) (y : World) (h : LwV N p bb [l, q] [l] D2 y) => (show Calls Tryz.prog 27 #[.pointer (some ⟨l, 0, none⟩), .string ⟨#[]⟩] y (fun e w' => e = .returned (.int .i64 6) ∧ LwV N p bb [l, q] [l] D2 w' ∧ Below N y w') from by
    have h2 := lw_add (l := l) (by simp) h.sz h.pv (by have := V.g2.flen; omega) (fun x hx => Nat.le_trans (V.g2.nums x hx) (by decide)) ⟨#[]⟩ (by decide) h.lw
    rw [show (⟨#[]⟩ : ByteArray).data.toList = [] from rfl, hA2] at h2
    exact h2.mono (by rintro e w' ⟨rfl, h3, hb⟩; exact ⟨rfl, h.of h3 hb.bel, hb.bel⟩)))
  have Hsy := Lib.hid (fun (l q p bb : Nat) (y : World) (h : LwV N p bb [l, q] [l] D2 y) => (show Calls Tryz.prog 28 #[.pointer (some ⟨l, 0, none⟩)] y (fun e w' => e = .returned (.int .i64 0) ∧ LwV N p bb [l, q] [l] D3 w' ∧ Below N y w') from by
    have h2 := lw_sync (l := l) (by simp) h.sz h.pv (by have := V.g2.flen; omega) h.lw
    rw [V.e3] at h2
    exact h2.mono (by rintro e w' ⟨rfl, h3, hb⟩; exact ⟨rfl, h.of h3 hb.bel, hb.bel⟩)))
  have Hap := Lib.hid (fun (l q p bb : Nat) (y : World) (h : LwV N p bb [l, q] [l] D3 y) => (show Calls Tryz.prog 18 #[.pointer (some ⟨p, 0, none⟩), .string ⟨#[115, 48, 48, 48, 48, 48, 48, 48, 49]⟩, .string ⟨#[5, 120]⟩] y (fun e w' => e = .returned (.int .i64 0) ∧ LwV N p bb [l, q] [l] D4 w' ∧ Below N y w') from by
    have h2 := lw_act (R := appD D3 (sname 1) [5, 120]) (f := 18) (args := #[.pointer (some ⟨p, 0, none⟩), .string ⟨#[115, 48, 48, 48, 48, 48, 48, 48, 49]⟩, .string ⟨#[5, 120]⟩]) h.sz h.lw (fun n C L hd hlt => by
      have h3 := append_any ⟨#[115, 48, 48, 48, 48, 48, 48, 48, 49]⟩ ⟨#[5, 120]⟩ (by decide) (by decide) y hd hlt
      rw [sname1]
      exact h3)
    rw [V.e4] at h2
    exact h2.mono (by rintro e w' ⟨rfl, h3, hb⟩; exact ⟨rfl, h.of h3 hb.bel, hb.bel⟩)))
  have Hop2 := Lib.hid (fun (l q p bb : Nat) (y : World) (h : LwV N p bb [l, q] [l] D4 y) => (show Calls Tryz.prog 26 #[.pointer (some ⟨p, 0, none⟩)] y (fun e w' => ∃ l2 g c, e = .returned (.tuple #[.pointer (some ⟨l2, 0, none⟩), .slice (some ⟨g, 0, none⟩) 1 c, .int .i64 0]) ∧ LwV N p bb [l2, g, l, q] [l2, l] D5 w' ∧ Below N y w' ∧ w'.cell? ⟨g, 0, none⟩ = some (.string ⟨#[97]⟩)) from by
    have hgd : LgT D4 [[97]] 1 1 := .inr ⟨1, [], [[97]], [5, 120], 1, V.g4, rfl, rfl, by decide⟩
    refine (lw_open h.sz h.pv (by have := V.g4.flen; omega) h.lw V.d4 hgd.good.1 (by rw [V.e5])).mono ?_
    rintro e w' ⟨l2, v, q2, rfl, h2, ho, hob, hb⟩
    rw [hgd.good.2] at ho
    rw [V.e5] at h2
    obtain ⟨g, c, rfl, hvb, hc⟩ := row_one ho
    have hgq := hob g hvb
    subst hgq
    exact ⟨l2, g, c, rfl, h.of h2 hb.bel, hb.bel, hc⟩))
  have Hre := Lib.hid (fun (l2 g0 l q p bb g c : Nat) (y : World) (h : LwV N p bb [l2, g0, l, q] [l2, l] D5 y) (hst : StrS y (.slice (some ⟨g, 0, none⟩) 1 c) [[98]]) => (show Calls Tryz.prog 29 #[.pointer (some ⟨l, 0, none⟩), .slice (some ⟨g, 0, none⟩) 1 c] y (fun e w' => e = .returned (.int .i64 0) ∧ LwV N p bb [l2, g0, l, q] [l2, l] D7 w' ∧ Hd N [l2, g0, l, q] y w') from by
    have h2 := lw_renew (l := l) (by simp) h.sz h.pv (by have := V.g5.flen; omega) (fun x hx => Nat.le_trans (V.g5.nums x hx) (by decide)) [[98]] (oks1 98) (by rw [frsL_one, frL1_len]; decide) _ hst V.r7 h.lw
    rw [V.e7] at h2
    exact h2.mono (by rintro e w' ⟨rfl, h3, hb⟩; exact ⟨rfl, h.of h3 hb.bel, hb⟩)))
  have hf7 : D7.fs = [segW 2 [[98]]] := by rw [V.g7.fs]; show whs 2 [] ++ [lastF (2 + 0) [[98]] [] 1] = _; rw [show (1 : Nat) = ([[98]] : List Bs).length from rfl, lastF_whole]; rfl
  have Hfi := Lib.hid (fun (l2 g0 l q p bb : Nat) (y : World) (h : LwV N p bb [l2, g0, l, q] [l2, l] D7 y) => lw_files (by have := V.g7.flen; omega) h.lw)
  have hs7 : (segL D7.fs).length = 1 := by rw [V.g7.seg]; rfl
  have Hsn := Lib.hid (fun (l2 g0 l q p bb : Nat) (y : World) (h : LwV N p bb [l2, g0, l, q] [l2, l] D7 y) => (show Calls Tryz.prog 30 #[.pointer (some ⟨l, 0, none⟩)] y (fun e w' => e = .returned (.int .i64 1) ∧ Below y.heap.size y w') from by
    have h2 := lw_segs (l := l) (by simp) h.sz h.pv (by have := V.g7.flen; omega) h.lw
    rw [hs7] at h2
    exact h2.mono (by rintro e w' ⟨rfl, h3, hb⟩; exact ⟨rfl, hb⟩)))
  have HF := Lib.hid hf7
  have HW := Lib.hid (And.intro hv hN0)
  clear V hA2 hf7 hs7 hv hN0
  go_enter Tryz.func31, Tryz.ntmps31
  go_upto_region 10 with (first
    | (go_at_call 16; (with_reducible refine (Hnew.out _ HW.out.2).mono ?_); rintro e w1 ⟨p, bb, rfl, hd, hb⟩; have H1 := Lib.hid (LwV.mk hd (HW.out.1.on hb) (Nat.le_trans HW.out.2 hb.size)); have HB1 := Lib.hid hb; clear hd hb)
    | (go_at_call 26; (with_reducible refine (Hop1.out p bb _ H1.out).mono ?_); rintro e w2 ⟨l, a, c, q, rfl, hd, hb⟩; have H2 := Lib.hid hd; have HB2 := Lib.hid (HB1.out.trans hb); clear hd hb)
    | (go_at_call 27; (with_reducible refine (Had.out l q p bb _ H2.out).mono ?_); rintro e w3 ⟨rfl, hd, hb⟩; have H3 := Lib.hid hd; have HB3 := Lib.hid (HB2.out.trans hb); clear hd hb)
    | (go_at_call 27; (with_reducible refine (Ha2.out l q p bb _ H3.out).mono ?_); rintro e w4 ⟨rfl, hd, hb⟩; have H4 := Lib.hid hd; have HB4 := Lib.hid (HB3.out.trans hb); clear hd hb)
    | (go_at_call 28; (with_reducible refine (Hsy.out l q p bb _ H4.out).mono ?_); rintro e w5 ⟨rfl, hd, hb⟩; have H5 := Lib.hid hd; have HB5 := Lib.hid (HB4.out.trans hb); clear hd hb)
    | (go_at_call 18; (with_reducible refine (Hap.out l q p bb _ H5.out).mono ?_); rintro e w6 ⟨rfl, hd, hb⟩; have H6 := Lib.hid hd; have HB6 := Lib.hid (HB5.out.trans hb); clear hd hb)
    | (go_at_call 26; (with_reducible refine (Hop2.out l q p bb _ H6.out).mono ?_); rintro e w7 ⟨l2, g0, c0, rfl, hd, hb, hc⟩; have H7 := Lib.hid (And.intro hd hc); have HB7 := Lib.hid (HB6.out.trans hb); clear hd hb hc)
    | (go_at_call 29; have hbA := (Below.refl w7.heap.size w7).alloc (Nat.le_refl _) (.cells #[.string ⟨#[98]⟩] 9)
       have hst : StrS (w7.alloc (.cells #[.string ⟨#[98]⟩] 9)) (.slice (some ⟨w7.heap.size, 0, none⟩) 1 1) [[98]] := ⟨_, 1, rfl, fun i x hx => by
         have hi := (List.getElem?_eq_some_iff.1 hx).1
         simp at hi
         subst hi
         cases hx
         exact ⟨_, 0, rfl, by simp, cell_of_row _ _ 0 _ _ _ (heap_alloc_new w7 _)⟩⟩
       have hA : LwV N p bb [l2, g0, l, q] [l2, l] D5 (w7.alloc (.cells #[.string ⟨#[98]⟩] 9)) := H7.out.1.of (H7.out.1.lw.below hbA) (hbA.mono H7.out.1.sz)
       (with_reducible refine (Hre.out l2 g0 l q p bb _ _ _ hA hst).mono ?_); rintro e w8 ⟨rfl, hd, hb⟩
       have hc8 := (World.cell?_of_block (a := ⟨g0, 0, none⟩) (hb.keep g0 (by simp))).trans ((World.cell?_of_block (hbA.block g0 (cell_lt H7.out.2))).trans H7.out.2)
       have H8 := Lib.hid (And.intro hd hc8); have HB8 := Lib.hid (HB7.out.trans ((hbA.mono H7.out.1.sz).trans hb.bel)); clear hd hb hbA hst hA hc8)
    | (go_at_call 19; (with_reducible refine (Hfi.out l2 g0 l q p bb _ H8.out.1).mono ?_); rintro e w9 ⟨v, rfl, ho, hb⟩; obtain ⟨gf, cf, rfl, hgf, hcf⟩ := one_file HF.out ho; have HC9 := Lib.hid hcf; have H9 := Lib.hid (And.intro (H8.out.1.of (H8.out.1.lw.below hb) (hb.mono H8.out.1.sz)) ((World.cell?_of_block (a := ⟨g0, 0, none⟩) (hb.block g0 (cell_lt H8.out.2))).trans H8.out.2)); have HB9 := Lib.hid (HB8.out.trans (hb.mono H8.out.1.sz)); clear ho hb hgf hcf))
  obtain ⟨k0, k1, k2⟩ := HC9.out w9 (Below.refl _ _)
  have c0' := H9.out.2
  rw [show (segW 2 [[98]]).nm = _ from sname2] at k0
  rw [show (((segW 2 [[98]]).sy : Nat) : Int) = 10 from by show (((frsL [[98]]).length : Nat) : Int) = 10; rw [frsL_one, frL1_len]; rfl] at k2
  go_wp2_with (go_at_call 30; (with_reducible refine (Hsn.out l2 g0 l q p bb _ H9.out.1).mono ?_); rintro e w10 ⟨rfl, hb⟩; have HB10 := Lib.hid (HB9.out.trans (hb.mono H9.out.1.sz)); clear hb)
  go_ret
  exact ⟨rfl, HB10.out⟩
end Go.Proofs.YtogfladmgbldcaaGreatDoor
namespace Go.Proofs.YtogfladmgbldcaaGreatDoor
open Go.ChangeShapes Go.WideShapes Go.Deep Go.RowKit Go.Shelf
section
variable {N p bb : Nat} {K ls : List Nat} {D D' : DskV} {w : World} {X : List Bs} {s c k : Nat}
theorem LwV.below {w' : World} (h : LwV N p bb K ls D w) (hb : Below w.heap.size w w') : LwV N p bb K ls D w' := h.of (h.lw.below hb) (hb.mono h.sz)
theorem lo_segs {l : Nat} (hl : l ∈ ls) (h : LwV N p bb K ls D w) (hlen : D.fs.length ≤ 100000) :
    Calls Tryz.prog 30 #[.pointer (some ⟨l, 0, none⟩)] w fun e w' => e = .returned (.int .i64 ((segL D.fs).length : Int)) ∧ Below w.heap.size w w' := by
  refine (lw_segs hl h.sz h.pv hlen h.lw).mono ?_
  rintro e w' ⟨rfl, _, hb⟩
  exact ⟨rfl, hb⟩
theorem lo_new (N : Nat) (w : World) (hv : PVB N w) (hN : N ≤ w.heap.size) : Calls Tryz.prog 16 #[] w fun e w' => ∃ p bb, e = .returned (.pointer (some ⟨p, 0, none⟩)) ∧ LwV N p bb [] [] dsk0 w' ∧ Below N w w' := by
  refine (lw_new N w hN).mono ?_
  rintro e w' ⟨p, bb, rfl, h, hb⟩
  exact ⟨p, bb, rfl, ⟨h, hv.on hb, Nat.le_trans hN hb.size⟩, hb⟩
end
end Go.Proofs.YtogfladmgbldcaaGreatDoor
namespace Go.Proofs.YtogfladmgbldcaaGreatDoor
open Go.RowKit Go.Shelf
/-- A row of files as it is read. -/
structure FilsAt (w : World) (a : Option Addr) (l : List FilV) : Prop where
  at_ : ∀ (i : Nat) (f : FilV), l[i]? = some f → ∃ g, a = some ⟨g, 0, none⟩ ∧ g < w.heap.size ∧ w.rangeAt g (i * 3) (filE f)
theorem FilsAt.below {w w' : World} {a : Option Addr} {l : List FilV} {B : Nat} (h : FilsAt w a l) (hb : Below B w w') (hB : w.heap.size ≤ B) : FilsAt w' a l := ⟨fun i f hf => by
  obtain ⟨g, h1, h2, h3⟩ := h.at_ i f hf
  exact ⟨g, h1, Nat.lt_of_lt_of_le h2 hb.size, fun j v hv => (World.cell?_of_block (a := ⟨g, i * 3 + j, none⟩) (hb.block g (by omega))).trans (h3 j v hv)⟩⟩
theorem fils_own {w : World} {base N : Nat} {a : Option Addr} {c : Nat} {l : List FilV} (hN : l.length = N) (h : w.ownsRow base 35 3 (.slice a N c) N (flat filE l)) : FilsAt w a l := ⟨fun i f hf => by
  obtain ⟨A, c2, hv, Y, hY, h1⟩ := files_row hN h
  cases hv
  obtain ⟨g, rfl, h2⟩ := h1 i f hf
  have h3 := h2 w (fun r o hr ho => ho)
  refine ⟨g, rfl, (own_at h rfl).2, fun j v hv => ?_⟩
  match j, hv with
  | 0, hv => cases hv; exact h3.1
  | 1, hv => cases hv; exact h3.2.1
  | 2, hv => cases hv; exact h3.2.2
  | j + 3, hv => simp [filE, filR] at hv⟩
end Go.Proofs.YtogfladmgbldcaaGreatDoor
