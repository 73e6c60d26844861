/- The law TreeShares. No condition. -/
import Derived.Test.YtimhpncdlaildaaTrJ
namespace Go.Proofs.Ytimhpncdlaildaa
open Go.RowKit

def TActAt (w : World) (b : Nat) (x : TAct) : Prop := w.heap[b]? = some (.cells (tactCells x).toArray 64 (0, 0))
theorem TActAt.new (w : World) (x : TAct) : TActAt (w.alloc (.cells (tactCells x).toArray 64)) w.heap.size x := heap_alloc_new w _
theorem TActAt.below {w w' : World} {b : Nat} {x : TAct} (h : TActAt w b x) (hb : Below w.heap.size w w') : TActAt w' b x := (hb.block b (Array.getElem?_eq_some_iff.1 h).1).trans h
theorem TActAt.cells {w : World} {b : Nat} {x : TAct} (h : TActAt w b x) : w.cell? ⟨b, 0, none⟩ = some (.int .u8 (x.act.toNat : Int)) ∧ w.cell? ⟨b, 1, none⟩ = some (.string x.key) ∧ w.cell? ⟨b, 2, none⟩ = some (.string x.val) :=
  ⟨cell_of_row _ _ _ _ _ _ h, cell_of_row _ _ _ _ _ _ h, cell_of_row _ _ _ _ _ _ h⟩
theorem made_few {n : Nat} {T X : Tr} (h : Made n T X) (h0 : X.newc n = 0) : X.cnt ≤ T.cnt := by
  cases h with
  | nil => exact Nat.zero_le _
  | old hs => exact hs.cnt
  | new hb h1 h2 =>
    simp only [Tr.newc, if_neg (show ¬ _ < n from Nat.not_lt.2 hb)] at h0
    omega

set_option maxRecDepth 100000 in
set_option maxHeartbeats 4000000 in
theorem treeShares_any (a : Option Addr) (len cap : Nat) (z : List TAct) (w : World) (h : TActsAt w a len z) :
    Calls Try.prog 8 #[.slice a len cap] w fun e w' => e = .returned (.bool true) ∧ Below w.heap.size w w' := by
  have hl := h.hlen
  have hgr := tgreat_any a len cap z w h
  cases hg : tgreatS z with
  | true =>
    rw [hg] at hgr
    clear h hl
    have Hgr := Lib.hid hgr; clear hgr
    go_enter Try.func8, Try.ntmps8
    go_wp2_with (first
      | ((with_reducible refine Hgr.out.mono ?_); clear Hgr; rintro e w' ⟨rfl, rfl⟩)
      | ((with_reducible refine (trWakes_any w).mono ?_); rintro e w3 ⟨rfl, hw⟩; have Hw := Lib.hid hw; clear hw))
    go_ret
    exact ⟨rfl, Hw.out⟩
  | false =>
    rw [hg] at hgr
    obtain ⟨hlen, hsz⟩ := tgreat_ok hg
    have hlen' : len ≤ 300 := by omega
    have Hl := Lib.hid hl; clear hl
    have H := Lib.hid h; clear h
    have Hsz := Lib.hid hsz; clear hsz hlen hg
    have Hgr := Lib.hid hgr; clear hgr
    go_enter Try.func8, Try.ntmps8
    go_wp2_with ((with_reducible refine Hgr.out.mono ?_); clear Hgr; rintro e w' ⟨rfl, rfl⟩)
    go_loopw [3, 4] (fun s3 s4 wr => ∃ i T, i ≤ len ∧ s4 = .int .i64 (i : Int) ∧ s3 = .pointer (Tr.ptr T) ∧ TreeAt wr T ∧ Asc T.sh.kv ∧ T.cnt ≤ i ∧ Below w.heap.size w wr) (fun _ s4 _ => len - (intOf s4).toNat)
    case atStart => exact ⟨0, .nil, by omega, rfl, rfl, trivial, .nil, Nat.le_refl _, Below.refl _ _⟩
    case round =>
      obtain ⟨i, T, hi, rfl, rfl, hat, hasc, hcnt, hbel⟩ := hrel
      have Hbel := Lib.hid hbel; clear hbel
      have Hat := Lib.hid hat; clear hat
      have Hasc := Lib.hid hasc; clear hasc
      have Hcnt := Lib.hid hcnt; clear hcnt
      by_cases hlt : i < len
      · have hlt' : (i : Int) < (len : Int) := by omega
        obtain ⟨b, o, rfl, hbl, c0, c1, c2⟩ := tacts_cells (H.out.below Hbel.out) hlt
        have hsucc := tsucc (n := i) (by omega)
        have hk := (Hsz.out i (by have := Hl.out; omega)).1
        generalize z.getD i default = x at *
        have hi1 : i + 1 ≤ len := hlt
        go_upto_region 8 with fail
        have hup := (Below.refl wr.heap.size wr).alloc (Nat.le_refl _) (.cells (tactCells x).toArray 64)
        have hact := TActAt.new wr x
        have hata := Hat.out.below hup
        have hbela := Hbel.out.trans (hup.mono Hbel.out.size)
        clear c0 c1 c2 hbl Hat Hbel hup
        change Code.wp _ _ _ _ (wr.alloc (.cells (tactCells x).toArray 64))
        generalize wr.alloc (.cells (tactCells x).toArray 64) = wa at *
        generalize wr.heap.size = ba at *
        obtain ⟨c0, c1, c2⟩ := hact.cells
        have Hact := Lib.hid hact; clear hact
        have Hat := Lib.hid hata; clear hata
        have Hbel := Lib.hid hbela; clear hbela
        obtain ⟨n, hn⟩ : ∃ n, wa.heap.size = n := ⟨_, rfl⟩
        have Hget := Lib.hid (get_any x.key T wa Hat.out)
        have hdoes := does_any x (by unfold maxLen; omega) T n wa (by omega) (by rw [← hn]; exact Hat.out.lo) Hat.out (by have := Hcnt.out; omega)
        have Hn := Lib.hid hn; clear hn
        have hsame : sameB x T = if x.act.toNat = 0 then (T.look x.key).isNone else decide (T.look x.key = some x.val) := rfl
        obtain ⟨x0, x1, x2⟩ := x
        simp only at c0 c1 c2 hk hsame
        have Hdoes := Lib.hid (show Calls Try.prog 38 #[.pointer T.ptr, .agg #[.int .u8 (x0.toNat : Int), .string x1, .string x2]] wa _ from hdoes); clear hdoes
        generalize T.look x1 = lk at *
        obtain ⟨sb, hsb⟩ : ∃ sb, sameB ⟨x0, x1, x2⟩ T = sb := ⟨_, rfl⟩
        rw [hsb] at Hdoes hsame
        have Hsame := Lib.hid hsame; clear hsame hsb
        go_upto_region 9 with ((with_reducible refine Hget.out.mono ?_); rintro e w' ⟨rfl, rfl⟩)
        clear Hget
        go_upto_region 10 with ((with_reducible refine Hdoes.out.mono ?_); rintro e w3 ⟨X, rfl, hx⟩; have Hx := Lib.hid hx; clear hx)
        clear c0 c1 c2 Hdoes
        obtain ⟨c0, c1, c2⟩ := (Hact.out.below Hx.out.bel).cells
        simp only at c0 c1 c2
        have Hat3 := Lib.hid (Hat.out.below Hx.out.bel)
        have hlo : T.Lo n := by rw [← Hn.out]; exact Hat.out.lo
        have Hlo := Lib.hid hlo; clear hlo
        have Hbel3 := Lib.hid (Hbel.out.trans (Hx.out.bel.mono Hbel.out.size))
        have hcx := Hx.out.num
        have hcT := Hcnt.out
        have hascX : Asc X.sh.kv := by rw [Hx.out.shp]; exact asc_step Hasc.out _
        have Hsh := Lib.hid (shared_any n T Hasc.out Hlo.out X w3 Hx.out.mad Hat3.out Hx.out.at_ (by omega))
        have hcmp : ∀ y, Below w3.heap.size w3 y → (binOp .eql 58 (.pointer X.ptr) (.pointer T.ptr)).run Try.prog y = .ok (.bool sb) y := by
          intro y hy
          cases sb with
          | true => exact tr_same (by rw [Hx.out.eqT rfl])
          | false => exact tr_other (Hx.out.at_.below hy) (Hat3.out.below hy) (fun e => Hx.out.neT rfl (TreeAt.uniq Hx.out.at_ Hat3.out e))
        have Hcmp := Lib.hid hcmp; clear hcmp
        have hd1 : T.dep ≤ T.cnt := T.dep_cnt
        have hd2 : X.dep ≤ X.cnt := X.dep_cnt
        have hnew := Hx.out.new
        have hnw := newc_le n X
        have hfew : X.newc n = 0 → X.cnt ≤ T.cnt := made_few Hx.out.mad
        have lX := fun y (hb : Below w3.heap.size w3 y) => len_any X y (Hx.out.at_.below hb)
        have lT := fun y (hb : Below w3.heap.size w3 y) => len_any T y (Hat3.out.below hb)
        have pX := fun y (hb : Below w3.heap.size w3 y) => depth_any X y (Hx.out.at_.below hb)
        have pT := fun y (hb : Below w3.heap.size w3 y) => depth_any T y (Hat3.out.below hb)
        have HcX := Lib.hid (show X.cnt ≤ i + 1 by omega)
        have hsxx := shared_any w3.heap.size X hascX Hx.out.at_.lo X
        have hxx : X.newc w3.heap.size = 0 := Hx.out.at_.lo.newc
        obtain ⟨sn, hsn⟩ : ∃ sn, X.cnt - X.newc n = sn := ⟨_, rfl⟩
        rw [hsn] at Hsh
        have q1 : decide (X.cnt < sn) = false := by simp; omega
        have q2 : decide (T.cnt < sn) = false := by simp; omega
        obtain ⟨z1, hz1⟩ : ∃ z1 : Int, (X.cnt : Int) - (T.dep : Int) = z1 := ⟨_, rfl⟩
        have hw1 : IntKind.i64.wrap ((X.cnt : Int) - (T.dep : Int)) = z1 := by rw [IntKind.wrap_i64] <;> omega
        obtain ⟨z2, hz2⟩ : ∃ z2 : Int, z1 - (X.dep : Int) = z2 := ⟨_, rfl⟩
        have hw2 : IntKind.i64.wrap (z1 - (X.dep : Int)) = z2 := by rw [IntKind.wrap_i64] <;> omega
        have q3 : ¬ (sn : Int) < z2 := by omega
        have Hsxx := Lib.hid (fun w' (hb : Below w3.heap.size w3 w') => hsxx w' (.old (.refl _)) (Hx.out.at_.below hb) (Hx.out.at_.below hb) (by omega)); clear hsxx
        rw [hxx, Nat.sub_zero] at Hsxx
        clear hd1 hd2 hnew hnw hfew hz1 hz2 hsn hcx hcT hxx
        have HX := Lib.hid hascX; clear hascX
        generalize hcX : X.cnt = cX at *
        have HeX := Lib.hid hcX; clear hcX
        generalize T.cnt = cT at *
        generalize X.dep = dX at *
        generalize T.dep = dT at *
        have LX := Lib.hid lX; clear lX
        have LT := Lib.hid lT; clear lT
        have PX := Lib.hid pX; clear pX
        have PT := Lib.hid pT; clear pT
        clear hk Hlo Hasc Hcnt Hn Hbel Hat
        go_upto_region 11 with ((with_reducible refine Hsh.out.mono ?_); rintro e w4 ⟨rfl, hb4⟩; have Hb4 := Lib.hid hb4; clear hb4)
        clear c0 c1 c2 Hsh
        obtain ⟨c0, c1, c2⟩ := ((Hact.out.below Hx.out.bel).below Hb4.out).cells
        simp only at c0 c1 c2
        have lX := LX.out w4 Hb4.out
        have lT := LT.out w4 Hb4.out
        have pX := PX.out w4 Hb4.out
        have pT := PT.out w4 Hb4.out
        have HlX := Lib.hid lX; clear lX LX
        have HlT := Lib.hid lT; clear lT LT
        have HpX := Lib.hid pX; clear pX PX
        have HpT := Lib.hid pT; clear pT PT
        go_upto_region 13 with (first
          | ((with_reducible refine HlX.out.mono ?_); rintro e w' ⟨rfl, rfl⟩)
          | ((with_reducible refine HlT.out.mono ?_); rintro e w' ⟨rfl, rfl⟩)
          | ((with_reducible refine HpX.out.mono ?_); rintro e w' ⟨rfl, rfl⟩)
          | ((with_reducible refine HpT.out.mono ?_); rintro e w' ⟨rfl, rfl⟩))
        clear hw1 hw2 q1 q2 q3
        have hcmp := Hcmp.out w4 Hb4.out
        have Hs2 := Lib.hid (Hsxx.out w4 Hb4.out); clear Hsxx Hcmp
        have Hfin := Lib.hid (show TreeAt w4 X ∧ Below w.heap.size w w4 from ⟨Hx.out.at_.below Hb4.out, Hbel3.out.trans (Hb4.out.mono Hbel3.out.size)⟩)
        clear Hx Hbel3 Hb4 Hat3 Hact
        have hs := Hsame.out
        clear Hsame
        by_cases e0 : x0.toNat = 0
        · rw [if_pos e0] at hs
          rw [e0] at c0
          clear e0
          cases lk with
          | none =>
            have hs' : sb = true := by simpa using hs
            subst hs'
            clear hs
            go_wp2_with (first
              | ((with_reducible refine HlX.out.mono ?_); rintro e w' ⟨rfl, rfl⟩)
              | ((with_reducible refine Hs2.out.mono ?_); rintro e w5 ⟨rfl, hb5⟩; have Hb5 := Lib.hid hb5; clear hb5; have hlX5 := len_any X w5 (Hfin.out.1.below Hb5.out); rw [HeX.out] at hlX5; have HlX := Lib.hid hlX5; clear hlX5))
            go_roundw
            case rel => exact ⟨i + 1, X, hi1, rfl, rfl, Hfin.out.1.below Hb5.out, HX.out, by rw [HeX.out]; exact HcX.out, Hfin.out.2.trans (Hb5.out.mono Hfin.out.2.size)⟩
            case measure => simp [intOf]; omega
          | some o =>
            have hs' : sb = false := by simpa using hs
            subst hs'
            clear hs
            go_wp2_with (first
              | ((with_reducible refine HlX.out.mono ?_); rintro e w' ⟨rfl, rfl⟩)
              | ((with_reducible refine Hs2.out.mono ?_); rintro e w5 ⟨rfl, hb5⟩; have Hb5 := Lib.hid hb5; clear hb5; have hlX5 := len_any X w5 (Hfin.out.1.below Hb5.out); rw [HeX.out] at hlX5; have HlX := Lib.hid hlX5; clear hlX5))
            go_roundw
            case rel => exact ⟨i + 1, X, hi1, rfl, rfl, Hfin.out.1.below Hb5.out, HX.out, by rw [HeX.out]; exact HcX.out, Hfin.out.2.trans (Hb5.out.mono Hfin.out.2.size)⟩
            case measure => simp [intOf]; omega
        · rw [if_neg e0] at hs
          have e0' : ((x0.toNat : Int) == 0) = false := by simp; omega
          have e0n : ((x0.toNat : Int) != 0) = true := by simp; omega
          clear e0
          cases lk with
          | none =>
            have hs' : sb = false := by simpa using hs
            subst hs'
            clear hs
            go_wp2_with (first
              | ((with_reducible refine HlX.out.mono ?_); rintro e w' ⟨rfl, rfl⟩)
              | ((with_reducible refine Hs2.out.mono ?_); rintro e w5 ⟨rfl, hb5⟩; have Hb5 := Lib.hid hb5; clear hb5; have hlX5 := len_any X w5 (Hfin.out.1.below Hb5.out); rw [HeX.out] at hlX5; have HlX := Lib.hid hlX5; clear hlX5))
            go_roundw
            case rel => exact ⟨i + 1, X, hi1, rfl, rfl, Hfin.out.1.below Hb5.out, HX.out, by rw [HeX.out]; exact HcX.out, Hfin.out.2.trans (Hb5.out.mono Hfin.out.2.size)⟩
            case measure => simp [intOf]; omega
          | some o =>
            by_cases e : o = x2
            · subst e
              have hs' : sb = true := by simpa using hs
              subst hs'
              clear hs
              go_wp2_with (first
                | ((with_reducible refine HlX.out.mono ?_); rintro e w' ⟨rfl, rfl⟩)
                | ((with_reducible refine Hs2.out.mono ?_); rintro e w5 ⟨rfl, hb5⟩; have Hb5 := Lib.hid hb5; clear hb5; have hlX5 := len_any X w5 (Hfin.out.1.below Hb5.out); rw [HeX.out] at hlX5; have HlX := Lib.hid hlX5; clear hlX5))
              go_roundw
              case rel => exact ⟨i + 1, X, hi1, rfl, rfl, Hfin.out.1.below Hb5.out, HX.out, by rw [HeX.out]; exact HcX.out, Hfin.out.2.trans (Hb5.out.mono Hfin.out.2.size)⟩
              case measure => simp [intOf]; omega
            · have hs' : sb = false := by rw [hs]; simpa using e
              subst hs'
              have hne := txt_ne e
              clear hs e
              go_wp2_with (first
                | ((with_reducible refine HlX.out.mono ?_); rintro e w' ⟨rfl, rfl⟩)
                | ((with_reducible refine Hs2.out.mono ?_); rintro e w5 ⟨rfl, hb5⟩; have Hb5 := Lib.hid hb5; clear hb5; have hlX5 := len_any X w5 (Hfin.out.1.below Hb5.out); rw [HeX.out] at hlX5; have HlX := Lib.hid hlX5; clear hlX5))
              go_roundw
              case rel => exact ⟨i + 1, X, hi1, rfl, rfl, Hfin.out.1.below Hb5.out, HX.out, by rw [HeX.out]; exact HcX.out, Hfin.out.2.trans (Hb5.out.mono Hfin.out.2.size)⟩
              case measure => simp [intOf]; omega
      · have hlt' : ¬ (i : Int) < (len : Int) := by omega
        go_wp2_with ((with_reducible refine (trWakes_any wr).mono ?_); rintro e w3 ⟨rfl, hw⟩; have Hw := Lib.hid hw; clear hw)
        go_ret
        exact ⟨rfl, Hbel.out.trans (Hw.out.mono Hbel.out.size)⟩
theorem treeShares_law (a : Option Addr) (len cap : Nat) (z : List TAct) {w : World} (h : TActsAt w a len z) (_ : World) :
    Calls Try.prog 8 #[.slice a len cap] w fun e w' => e = .returned (.bool true) ∧ Below w.heap.size w w' := treeShares_any a len cap z w h
end Go.Proofs.Ytimhpncdlaildaa
