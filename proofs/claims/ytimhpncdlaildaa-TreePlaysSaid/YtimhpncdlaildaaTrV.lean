/- The law TreePlays (under way). No condition. -/
import Derived.Test.YtimhpncdlaildaaTrU
import Derived.Test.YtimhpncdlaildaaTrK
import Derived.Maps.AppendAt
namespace Go.Proofs.Ytimhpncdlaildaa
open Go.RowKit

def ptrV (e : Ent) : Value := .pointer e.T.ptr
def slV (e : Ent) : Value := .slice e.A e.n e.c
theorem infoPtr : (Try.prog.info? 58).map (fun i => (i.zero, i.size, i.bytes)) = some (some (.pointer none), 1, 8) := by kernel_rfl
theorem infoSl : (Try.prog.info? 59).map (fun i => (i.zero, i.size, i.bytes)) = some (some (.slice none 0 0), 1, 24) := by kernel_rfl
theorem kvs_len (T : Tr) : T.kvs.length = T.cnt := by rw [sh_cnt, cnt_kv]; rfl
theorem own_apart {w : World} {base n n' : Nat} {t t' : TypeId} {v v' : Value} {xs xs' : List Value} (h : w.ownsRow base t 1 v n xs) (h' : w.ownsRow base t' 1 v' n' xs') (ht : t ≠ t') : v.ownBlock = none ∨ v.ownBlock ≠ v'.ownBlock := by
  rcases h.2 with ⟨rfl, _⟩ | ⟨g, cap, cur, rfl, _, h3, _⟩
  · exact .inl rfl
  rcases h'.2 with ⟨rfl, _⟩ | ⟨g', cap', cur', rfl, _, h3', _⟩
  · exact .inr (by simp [Value.ownBlock])
  · refine .inr (fun e => ?_)
    simp only [Value.ownBlock, Option.some.injEq] at e
    subst e
    rw [h3] at h3'
    cases h3'
    exact ht rfl
theorem own_rest {w w' : World} {base n size : Nat} {t : TypeId} {v : Value} {xs : List Value} (h : w.ownsRow base t size v n xs) (hg : w.grownBy w' none) : w'.ownsRow base t size v n xs :=
  h.kept hg (by
    cases hv : v.ownBlock with
    | none => exact .inl rfl
    | some g => exact .inr (by simp))
theorem below_row {w y : World} {row : Option Nat} (h : Below w.heap.size w y) : w.grownBy y row := ⟨h.os, h.tape, h.output, h.size, fun k hk _ => h.block k hk⟩
theorem below_none {w w' : World} (h : Below w.heap.size w w') : w.grownBy w' none := ⟨h.os, h.tape, h.output, h.size, fun q hq _ => h.block q hq⟩
theorem Below.grownOwn {w0 w w' : World} {t : TypeId} {size n : Nat} {v : Value} {xs : List Value} (h : Below w0.heap.size w0 w) (ho : w.ownsRow w0.heap.size t size v n xs) (hg : w.grownBy w' v.ownBlock) : Below w0.heap.size w0 w' :=
  ⟨hg.os.trans h.os, hg.tape.trans h.tape, hg.output.trans h.output, Nat.le_trans h.size hg.size, fun q hq => (hg.block q (Nat.lt_of_lt_of_le hq h.size) (fun e => by have := (ho.lt q e.symm).1; omega)).trans (h.block q hq)⟩
/-- What TreePlays's first loop has between two rounds: the trees so far, each with its pairs. -/
structure PlayI (w0 wr : World) (i : Nat) (H : List Ent) (e : Ent) (v5 v6 : Value) : Prop where
  len : H.length = i + 1
  last : H.getLast? = some e
  own5 : wr.ownsRow w0.heap.size 58 1 v5 (i + 1) (H.map ptrV)
  own6 : wr.ownsRow w0.heap.size 59 1 v6 (i + 1) (H.map slV)
  all : ∀ x ∈ H, EntOk wr i x
  bel : Below w0.heap.size w0 wr
theorem PlayI.cur {w0 wr : World} {i : Nat} {H : List Ent} {e : Ent} {v5 v6 : Value} (h : PlayI w0 wr i H e v5 v6) : EntOk wr i e := h.all e (List.mem_of_getLast? h.last)

theorem PlayI.below {w0 wr wr' : World} {i : Nat} {H : List Ent} {e : Ent} {v5 v6 : Value} (h : PlayI w0 wr i H e v5 v6) (hb : Below wr.heap.size wr wr') : PlayI w0 wr' i H e v5 v6 :=
  ⟨h.len, h.last, own_rest h.own5 (below_none hb), own_rest h.own6 (below_none hb), fun x hx => (h.all x hx).below hb, h.bel.trans (hb.mono h.bel.size)⟩
theorem row_some {w : World} {base n : Nat} {t : TypeId} {A : Option Addr} {c : Nat} {xs : List Value} (h : w.ownsRow base t 1 (.slice A (n + 1) c) (n + 1) xs) : ∃ g, A = some ⟨g, 0, none⟩ ∧ (∀ j u, xs[j]? = some u → w.cell? ⟨g, j, none⟩ = some u) ∧ n + 1 ≤ c := by
  rcases h.2 with ⟨_, e⟩ | ⟨g, cap, cur, e, _, _, h4, _⟩
  · omega
  · simp only [Value.slice.injEq] at e
    obtain ⟨rfl, _, rfl⟩ := e
    refine ⟨g, rfl, fun j u hu => ?_, h4⟩
    have := h.cells (g := g) rfl j u hu
    rwa [WideShapes.add_plain, Nat.zero_add] at this

set_option maxRecDepth 100000 in
set_option maxHeartbeats 1500000 in
theorem treePlays_any (a : Option Addr) (len cap : Nat) (z : List TAct) (w : World) (h : TActsAt w a len z) :
    Calls Try.prog 7 #[.slice a len cap] w fun e w' => e = .returned (.bool true) ∧ Below w.heap.size w w' := by
  have hl := h.hlen
  have hgr := tgreat_any a len cap z w h
  cases hg : tgreatS z with
  | true =>
    rw [hg] at hgr
    clear h hl
    have Hgr := Lib.hid hgr; clear hgr
    go_enter Try.func7, Try.ntmps7
    go_wp2_with (first
      | ((with_reducible refine Hgr.out.mono ?_); clear Hgr; rintro e w' ⟨rfl, rfl⟩)
      | ((with_reducible refine (trWakes_any w).mono ?_); rintro e w3 ⟨rfl, hw⟩; have Hw := Lib.hid hw; clear hw))
    go_ret
    exact ⟨rfl, Hw.out⟩
  | false =>
    rw [hg] at hgr
    obtain ⟨hlen, hsz⟩ := tgreat_ok hg
    have hlen' : len ≤ 300 := by omega
    have Hl := Lib.hid hl; clear hl
    have H := Lib.hid h; clear h
    have Hsz := Lib.hid hsz; clear hsz hlen hg
    have Hgr := Lib.hid hgr; clear hgr
    go_enter Try.func7, Try.ntmps7
    go_upto_region 7 with ((with_reducible refine Hgr.out.mono ?_); clear Hgr; rintro e w' ⟨rfl, rfl⟩)
    have ho5 := World.ownsRow_lit (base := w.heap.size) (e := 58) (size := 1) w #[.pointer none] 1 (Nat.le_refl _) (by decide) rfl
    have hb5 := (Below.refl w.heap.size w).alloc (Nat.le_refl _) (.cells #[.pointer none] 58)
    have ho6 := World.ownsRow_lit (base := w.heap.size) (e := 59) (size := 1) (w.alloc (.cells #[.pointer none] 58)) #[.slice none 0 0] 1 hb5.size (by decide) rfl
    have hI0 : PlayI w ((w.alloc (.cells #[.pointer none] 58)).alloc (.cells #[.slice none 0 0] 59)) 0 [⟨.nil, none, 0, 0⟩] ⟨.nil, none, 0, 0⟩ (.slice (some ⟨w.heap.size, 0, none⟩) 1 1) (.slice (some ⟨(w.alloc (.cells #[.pointer none] 58)).heap.size, 0, none⟩) 1 1) :=
      ⟨rfl, rfl, ho5.alloc _, ho6, fun x hx => by rw [List.mem_singleton] at hx; subst hx; exact EntOk.nil _, hb5.alloc hb5.size _⟩
    rw [World.size_alloc] at hI0
    clear ho5 hb5 ho6
    generalize (w.alloc (.cells #[.pointer none] 58)).alloc (.cells #[.slice none 0 0] 59) = w1 at *
    have HI0 := Lib.hid hI0; clear hI0
    go_wp2_with fail
    go_loopw [3, 4, 5, 6, 7] (fun s3 s4 s5 s6 s7 wr => ∃ i H e, i ≤ len ∧ s7 = .int .i64 (i : Int) ∧ s3 = ptrV e ∧ s4 = slV e ∧ PlayI w wr i H e s5 s6) (fun _ _ _ _ s7 _ => len - (intOf s7).toNat)
    case atStart => exact ⟨0, _, _, by omega, rfl, rfl, rfl, HI0.out⟩
    case round =>
      clear HI0
      obtain ⟨i, Hs, e, hi, rfl, rfl, rfl, hI⟩ := hrel
      have hcur := hI.cur
      obtain ⟨A5, c5, rfl⟩ : ∃ A c, u5 = .slice A (i + 1) c := own_sl hI.own5
      obtain ⟨A6, c6, rfl⟩ : ∃ A c, u6 = .slice A (i + 1) c := own_sl hI.own6
      have HI := Lib.hid hI; clear hI
      obtain ⟨T, A, n, c⟩ := e
      have hn : n ≤ 300 := by
        have h1 := hcur.pairs.hlen
        have h2 := hcur.few
        rw [kvs_len] at h1
        simp only at h1 h2
        omega
      unfold ptrV slV
      simp only
      have Hcur := Lib.hid hcur; clear hcur
      by_cases hlt : i < len
      · have hlt' : (i : Int) < (len : Int) := by omega
        obtain ⟨b, o, rfl, hbl, c0, c1, c2⟩ := tacts_cells (H.out.below HI.out.bel) hlt
        have hsucc := tsucc (n := i) (by omega)
        have hk := (Hsz.out i (by have := Hl.out; omega)).1
        have hcA : ∀ y, Below wr.heap.size wr y → y.cell? ⟨b, o + i * 3 + 1, none⟩ = some (.string (z.getD i default).key) := fun y hy => (hy.cell (p := ⟨b, o + i * 3 + 1, none⟩) hbl).trans c1
        have hcB : ∀ y, Below wr.heap.size wr y → y.cell? ⟨b, o + i * 3, none⟩ = some (.int .u8 ((z.getD i default).act.toNat : Int)) := fun y hy => (hy.cell (p := ⟨b, o + i * 3, none⟩) hbl).trans c0
        have hcC : ∀ y, Below wr.heap.size wr y → y.cell? ⟨b, o + i * 3 + 2, none⟩ = some (.string (z.getD i default).val) := fun y hy => (hy.cell (p := ⟨b, o + i * 3 + 2, none⟩) hbl).trans c2
        generalize z.getD i default = x at *
        have hi1 : i + 1 ≤ len := hlt
        have hdoes := does_any x (by unfold maxLen; omega) T wr.heap.size wr (Nat.le_refl _) Hcur.out.tree.lo Hcur.out.tree (by have := Hcur.out.few; simp only at this; omega)
        have hsays := fun (y : World) (hy : Below wr.heap.size wr y) => says_any x A n c T.kvs y (Hcur.out.pairs.below hy) Hcur.out.ok (Hcur.out.ty.below hy) Hcur.out.asc (by omega)
        obtain ⟨x0, x1, x2⟩ := x
        simp only at c0 c1 c2 hk hcA hcB hcC
        have Hdoes := Lib.hid (show Calls Try.prog 38 #[.pointer T.ptr, .agg #[.int .u8 (x0.toNat : Int), .string x1, .string x2]] wr _ from hdoes); clear hdoes
        have Hsays := Lib.hid (fun (y : World) (hy : Below wr.heap.size wr y) => show Calls Try.prog 39 #[.slice A n c, .agg #[.int .u8 (x0.toNat : Int), .string x1, .string x2]] y _ from hsays y hy); clear hsays
        have HcA := Lib.hid hcA; clear hcA
        have HcB := Lib.hid hcB; clear hcB
        have HcC := Lib.hid hcC; clear hcC
        go_upto_region 11 with ((with_reducible refine Hdoes.out.mono ?_); rintro e w3 ⟨X, rfl, hx⟩; have Hx := Lib.hid hx; clear hx)
        clear c0 c1 c2 Hdoes
        have c0 := HcB.out w3 Hx.out.bel
        have c1 := HcA.out w3 Hx.out.bel
        have c2 := HcC.out w3 Hx.out.bel
        have Hs3 := Lib.hid (Hsays.out w3 Hx.out.bel); clear Hsays
        go_upto_region 12 with ((with_reducible refine Hs3.out.mono ?_); rintro e w4 ⟨A', n', c', rfl, hp4, hb4, hok4, hty4⟩; have Hp4 := Lib.hid hp4; clear hp4; have Hb4 := Lib.hid hb4; clear hb4; have Hok4 := Lib.hid hok4; clear hok4; have Hty4 := Lib.hid hty4; clear hty4)
        clear c0 c1 c2 Hs3
        have hb14 := Hx.out.bel.trans (Hb4.out.mono Hx.out.bel.size)
        have c1 := HcA.out w4 hb14
        have Hb14 := Lib.hid hb14; clear hb14
        have hXkv : X.kvs = saysL ⟨x0, x1, x2⟩ T.kvs := by
          show X.sh.kv = _
          rw [Hx.out.shp, step_kv Hcur.out.asc]
          rfl
        rw [← hXkv] at Hp4
        have hent : EntOk w4 (i + 1) ⟨X, A', n', c'⟩ := ⟨Hx.out.at_.below Hb4.out, Hp4.out, Hok4.out, Hty4.out, by rw [Hx.out.shp]; exact asc_step Hcur.out.asc _, by rw [Hx.out.shp]; exact heap_step Hcur.out.heap Hcur.out.asc _, by have h1 := Hx.out.num; have h2 := Hcur.out.few; simp only at h2 ⊢; omega, by rw [show (Ent.mk X A' n' c').T.kvs = saysL ⟨x0, x1, x2⟩ T.kvs from hXkv]; exact says_keys Hcur.out.keys hk⟩
        have Hent := Lib.hid hent; clear hent hXkv
        have hget := get_any x1 X w4 Hent.out.tree
        have hfind := find10_any A' n' c' X.kvs x1 w4 Hent.out.pairs
        obtain ⟨hfl1, hfl2⟩ := find_look Hent.out.asc x1
        rw [← sh_look] at hfl1 hfl2
        rw [show isAt X.kvs x1 = (X.look x1).isSome from hfl1] at hfind
        have Hget := Lib.hid hget; clear hget
        have Hfind := Lib.hid hfind; clear hfind
        have Hfl2 := Lib.hid hfl2; clear hfl1 hfl2
        go_upto_region 13 with ((with_reducible refine Hget.out.mono ?_); rintro e w' ⟨rfl, rfl⟩)
        go_upto_region 14 with ((with_reducible refine Hfind.out.mono ?_); rintro e w5 ⟨rfl, hb5⟩; have Hb5 := Lib.hid hb5; clear hb5)
        obtain ⟨i5, hi5, hz50, hz51, hz52⟩ := info_parts infoPtr
        obtain ⟨i6, hi6, hz60, hz61, hz62⟩ := info_parts infoSl
        have hb15 := Hb14.out.trans (Hb5.out.mono Hb14.out.size)
        have Hent5 := Lib.hid (Hent.out.below Hb5.out)
        have hall5 : ∀ x ∈ Hs ++ [⟨X, A', n', c'⟩], EntOk w5 (i + 1) x := fun x hx => by
          rcases List.mem_append.1 hx with hx | hx
          · exact ((HI.out.all x hx).below hb15).mono (Nat.le_succ i)
          · rw [List.mem_singleton] at hx; subst hx; exact Hent5.out
        have Hall5 := Lib.hid hall5; clear hall5
        have Ho5 := Lib.hid (own_rest HI.out.own5 (below_none hb15))
        have Ho6 := Lib.hid (own_rest HI.out.own6 (below_none hb15))
        have Hbel5 := Lib.hid (HI.out.bel.trans (hb15.mono HI.out.bel.size))
        have hlenX := len_any X w5 Hent5.out.tree
        have hn' : X.cnt = n' := by rw [← kvs_len]; exact Hent5.out.pairs.hlen
        have hn'' : n' ≤ 301 := by have := Hent5.out.few; simp only at this; omega
        rw [hn'] at hlenX
        obtain ⟨bz, hbz⟩ : ∃ bz, X.ptr.isNone = bz := ⟨_, rfl⟩
        have hnz : ((n' : Int) == 0) = bz := by
          rw [← hbz, Bool.eq_iff_iff, Option.isNone_iff_eq_none, Tr.ptr_nil, ← Tr.cnt_nil, hn']
          simp
        have Hlook := Lib.hid (show ∀ v, X.look x1 = some v → w5.cell? (Addr.mk 0 0 none) = w5.cell? (Addr.mk 0 0 none) from fun _ _ => rfl)
        clear c1 hb15 Hent Hb5 Hb14 HcA HcB HcC Hget Hfind Hx Hp4 Hb4 Hok4 Hty4 Hcur hn' Hlook
        obtain ⟨P, hP⟩ : ∃ P, X.ptr = P := ⟨_, rfl⟩
        rw [hP] at hlenX hbz ⊢
        have HP := Lib.hid hP; clear hP
        have HlX := Lib.hid hlenX; clear hlenX
        cases hlk : X.look x1 with
        | none =>
          go_upto_region 16 with ((with_reducible refine HlX.out.mono ?_); rintro e w' ⟨rfl, rfl⟩)
          go_upto_region 17 with (at_builtin; refine wpList_append_own_at _ rfl _ _ 60 rfl w.heap.size 58 i5 (.pointer none) 1 8 Try.underlying60 hi5 hz50 hz51 hz52 rfl (by decide) (.slice A5 (i + 1) c5) (i + 1) _ rfl (Ho5.out.alloc _) ⟨w5.heap.size, 0, none⟩ 1 1 [.pointer P] rfl rfl (cell_one_new _ _ _) (by simp [Value.oneCell']) (by unfold maxLen; omega) (by omega) (by have := Hbel5.out.size; simp; omega) ?_; intro v1 w6 hown1 hgr1 hnil1 hat1; obtain ⟨A1, c1, rfl⟩ := own_sl hown1; have Hown1 := Lib.hid hown1; have Hgr1 := Lib.hid hgr1; clear hown1 hgr1 hnil1 hat1)
          have hgA : w5.grownBy w6 (Value.slice A5 (i + 1) c5).ownBlock := (below_row ((Below.refl _ _).alloc (Nat.le_refl _) _)).trans Hgr1.out
          have Helse := Lib.hid (own_elsewhere Ho5.out (by decide) (by decide))
          have Hbel6 := Lib.hid (Below.grownOwn Hbel5.out Ho5.out hgA)
          have Ho6' := Lib.hid (Ho6.out.kept hgA (own_apart Ho6.out Ho5.out (by decide)))
          have Hall6 := Lib.hid (fun x hx => (Hall5.out x hx).grown hgA Helse.out)
          clear Ho6 hgA Helse
          have Ho6 := Ho6'
          clear Ho6'
          go_wp2_with (at_builtin; refine wpList_append_own_at _ rfl _ _ 61 rfl w.heap.size 59 i6 (.slice none 0 0) 1 24 Try.underlying61 hi6 hz60 hz61 hz62 rfl (by decide) (.slice A6 (i + 1) c6) (i + 1) _ rfl (Ho6.out.alloc _) ⟨w6.heap.size, 0, none⟩ 1 1 [.slice A' n' c'] rfl rfl (cell_one_new _ _ _) (by simp [Value.oneCell']) (by unfold maxLen; omega) (by omega) (by have := Hbel6.out.size; simp; omega) ?_; intro v2 w7 hown2 hgr2 hnil2 hat2; obtain ⟨A2, c2, rfl⟩ := own_sl hown2; have Hown2 := Lib.hid hown2; have Hgr2 := Lib.hid hgr2; clear hown2 hgr2 hnil2 hat2)
          have hgB : w6.grownBy w7 (Value.slice A6 (i + 1) c6).ownBlock := (below_row ((Below.refl _ _).alloc (Nat.le_refl _) _)).trans Hgr2.out
          have Helse := Lib.hid (own_elsewhere Ho6.out (by decide) (by decide))
          go_roundw
          case rel =>
            refine ⟨i + 1, Hs ++ [⟨X, A', n', c'⟩], ⟨X, A', n', c'⟩, hi1, rfl, by show Value.pointer P = .pointer X.ptr; rw [HP.out], rfl, ?_⟩
            refine ⟨by rw [List.length_append, HI.out.len]; rfl, by simp, ?_, ?_, fun x hx => (Hall6.out x hx).grown hgB Helse.out, Below.grownOwn Hbel6.out Ho6.out hgB⟩
            · rw [List.map_append, show List.map ptrV [⟨X, A', n', c'⟩] = [.pointer P] by simp [ptrV, HP.out]]
              exact Hown1.out.kept hgB (own_apart Hown1.out Ho6.out (by decide))
            · rw [List.map_append]
              exact Hown2.out
          case measure => simp [intOf]; omega
        | some v =>
          have hq := Hfl2.out v hlk
          have hidx : idxOf X.kvs x1 < n' := by
            have h1 := (find_look Hent5.out.asc x1).1
            rw [← sh_look, hlk] at h1
            have h2 := isAt_lt h1
            have h3 := Hent5.out.pairs.hlen
            simp only at h3
            rw [← h3]
            exact h2
          obtain ⟨b2, o2, hA', _, e0, e1⟩ := pairs_get Hent5.out.pairs hidx
          simp only at hA'
          subst hA'
          rw [show (Ent.mk X (some ⟨b2, o2, none⟩) n' c').T.kvs.getD (idxOf X.kvs x1) pdflt = (x1, v) from hq] at e0 e1
          simp only at e0 e1
          generalize idxOf X.kvs x1 = q at *
          have hidx' : (q : Int) < (n' : Int) := by omega
          clear hq e0
          go_upto_region 16 with ((with_reducible refine HlX.out.mono ?_); rintro e w' ⟨rfl, rfl⟩)
          clear e1
          go_upto_region 17 with (at_builtin; refine wpList_append_own_at _ rfl _ _ 60 rfl w.heap.size 58 i5 (.pointer none) 1 8 Try.underlying60 hi5 hz50 hz51 hz52 rfl (by decide) (.slice A5 (i + 1) c5) (i + 1) _ rfl (Ho5.out.alloc _) ⟨w5.heap.size, 0, none⟩ 1 1 [.pointer P] rfl rfl (cell_one_new _ _ _) (by simp [Value.oneCell']) (by unfold maxLen; omega) (by omega) (by have := Hbel5.out.size; simp; omega) ?_; intro v1 w6 hown1 hgr1 hnil1 hat1; obtain ⟨A1, c1, rfl⟩ := own_sl hown1; have Hown1 := Lib.hid hown1; have Hgr1 := Lib.hid hgr1; clear hown1 hgr1 hnil1 hat1)
          have hgA : w5.grownBy w6 (Value.slice A5 (i + 1) c5).ownBlock := (below_row ((Below.refl _ _).alloc (Nat.le_refl _) _)).trans Hgr1.out
          have Helse := Lib.hid (own_elsewhere Ho5.out (by decide) (by decide))
          have Hbel6 := Lib.hid (Below.grownOwn Hbel5.out Ho5.out hgA)
          have Ho6' := Lib.hid (Ho6.out.kept hgA (own_apart Ho6.out Ho5.out (by decide)))
          have Hall6 := Lib.hid (fun x hx => (Hall5.out x hx).grown hgA Helse.out)
          clear Ho6 hgA Helse
          have Ho6 := Ho6'
          clear Ho6'
          go_wp2_with (at_builtin; refine wpList_append_own_at _ rfl _ _ 61 rfl w.heap.size 59 i6 (.slice none 0 0) 1 24 Try.underlying61 hi6 hz60 hz61 hz62 rfl (by decide) (.slice A6 (i + 1) c6) (i + 1) _ rfl (Ho6.out.alloc _) ⟨w6.heap.size, 0, none⟩ 1 1 [.slice (some ⟨b2, o2, none⟩) n' c'] rfl rfl (cell_one_new _ _ _) (by simp [Value.oneCell']) (by unfold maxLen; omega) (by omega) (by have := Hbel6.out.size; simp; omega) ?_; intro v2 w7 hown2 hgr2 hnil2 hat2; obtain ⟨A2, c2, rfl⟩ := own_sl hown2; have Hown2 := Lib.hid hown2; have Hgr2 := Lib.hid hgr2; clear hown2 hgr2 hnil2 hat2)
          have hgB : w6.grownBy w7 (Value.slice A6 (i + 1) c6).ownBlock := (below_row ((Below.refl _ _).alloc (Nat.le_refl _) _)).trans Hgr2.out
          have Helse := Lib.hid (own_elsewhere Ho6.out (by decide) (by decide))
          go_roundw
          case rel =>
            refine ⟨i + 1, Hs ++ [⟨X, some ⟨b2, o2, none⟩, n', c'⟩], ⟨X, some ⟨b2, o2, none⟩, n', c'⟩, hi1, rfl, by show Value.pointer P = .pointer X.ptr; rw [HP.out], rfl, ?_⟩
            refine ⟨by rw [List.length_append, HI.out.len]; rfl, by simp, ?_, ?_, fun x hx => (Hall6.out x hx).grown hgB Helse.out, Below.grownOwn Hbel6.out Ho6.out hgB⟩
            · rw [List.map_append, show List.map ptrV [⟨X, some ⟨b2, o2, none⟩, n', c'⟩] = [.pointer P] by simp [ptrV, HP.out]]
              exact Hown1.out.kept hgB (own_apart Hown1.out Ho6.out (by decide))
            · rw [List.map_append]
              exact Hown2.out
          case measure => simp [intOf]; omega
      · have hlt' : ¬ (i : Int) < (len : Int) := by omega
        obtain rfl : i = len := by omega
        clear hlt hlt' hi
        generalize wr = wq at *
        obtain ⟨g5, rfl, _, hc5⟩ := row_some HI.out.own5
        obtain ⟨g6, rfl, _, hc6⟩ := row_some HI.out.own6
        have hcells : ∀ y, Below wq.heap.size wq y → ∀ j e', Hs[j]? = some e' → y.cell? ⟨g5, j, none⟩ = some (.pointer e'.T.ptr) ∧ y.cell? ⟨g6, j, none⟩ = some (.slice e'.A e'.n e'.c) ∧ EntOk y i e' := fun y hy j e' he => by
          have hp := HI.out.below hy
          obtain ⟨g, hg, h1, _⟩ := row_some hp.own5
          cases hg
          obtain ⟨g', hg', h2, _⟩ := row_some hp.own6
          cases hg'
          exact ⟨h1 j _ (by simp [he, ptrV]), h2 j _ (by simp [he, slV]), hp.all e' (List.mem_of_getElem? he)⟩
        have hlenH := HI.out.len
        have hlast : Hs[i]? = some ⟨T, A, n, c⟩ := by
          have := HI.out.last
          rw [List.getLast?_eq_getElem?, HI.out.len] at this
          exact this
        have Hlast := Lib.hid hlast; clear hlast
        have Hcells := Lib.hid hcells; clear hcells
        have Hbq := Lib.hid HI.out.bel; clear HI
        obtain ⟨N, hN⟩ : ∃ N, i + 1 = N := ⟨_, rfl⟩
        rw [hN] at hc5 hc6 hlenH ⊢
        have HN := Lib.hid hN; clear hN
        go_wp2_with fail
        go_loopw [12] (fun s12 wy => ∃ j : Nat, j ≤ N ∧ s12 = .int .i64 (j : Int) ∧ Below wq.heap.size wq wy) (fun s12 _ => N - (intOf s12).toNat)
        case atStart => exact ⟨0, by omega, rfl, Below.refl _ _⟩
        case round =>
          obtain ⟨j, hj, rfl, hby⟩ := hrel
          have Hby := Lib.hid hby; clear hby
          by_cases hjl : j < N
          · have hjl' : (j : Int) < (N : Int) := by omega
            have hsucc := tsucc (n := j) (by have := HN.out; omega)
            have hje : Hs[j]? = some Hs[j] := List.getElem?_eq_getElem (by omega)
            generalize Hs[j] = e at hje
            have hall := fun (y : World) (hy : Below wq.heap.size wq y) => Hcells.out y hy j e hje
            obtain ⟨S, A1, n1, k1⟩ := e
            simp only at hall
            have hent := (hall wq (Below.refl _ _)).2.2
            have hn1 : n1 ≤ 301 := by
              have h1 := hent.pairs.hlen
              have h2 := hent.few
              rw [kvs_len] at h1
              simp only at h1 h2
              omega
            have Hal := Lib.hid (fun (y : World) (hy : Below wq.heap.size wq y) => alike_any S A1 n1 k1 S.kvs y (hall y hy).2.2.tree (hall y hy).2.2.pairs rfl (by omega))
            have Hd1 := Lib.hid (fun (y : World) (hy : Below wq.heap.size wq y) => depth_any S y (hall y hy).2.2.tree)
            have hd2 := fun (y : World) (hy : Below wq.heap.size wq y) => depth10_any S.sh y A1 n1 k1 hent.heap (hall y hy).2.2.pairs hent.ok (by omega) (fun p hp => Nat.le_trans (hent.keys p hp) (by unfold maxLen; omega))
            rw [← sh_dep] at hd2
            have Hd2 := Lib.hid hd2; clear hd2
            have Hc5 := Lib.hid (fun (y : World) (hy : Below wq.heap.size wq y) => (hall y hy).1)
            have Hc6 := Lib.hid (fun (y : World) (hy : Below wq.heap.size wq y) => (hall y hy).2.1)
            clear hall hent hje
            generalize S.dep = dS at *
            generalize S.ptr = P at *
            obtain ⟨r, hr⟩ : ∃ r : Int, (j : Int).tmod 16 = r := ⟨_, rfl⟩
            obtain ⟨bz, hbz⟩ : ∃ bz, (r == (0 : Int)) = bz := ⟨_, rfl⟩
            go_upto_region 21 with fail
            have hkd : KeptW wr wr.drew := ⟨rfl, rfl, rfl, Nat.le_refl _, fun _ _ => rfl⟩
            have Hkd := Lib.hid hkd; clear hkd
            refine (wpIn_wide (n := 1)).1 ?_
            refine RegIn.wpIn_region_can (F := Fence.wide) (KeptW wr) [(0, 0), (1, 0), (2, 0), (3, 0), (4, 0), (5, 0), (6, 0), (7, 0), (8, 1), (9, 0), (10, 0), (11, 0), (12, 0), (13, 0), (14, 0), (15, 0), (16, 0), (17, 0), (18, 0), (20, 0), (21, 0), (22, 0), (23, 0), (19, 1), (24, 1), (25, 0), (26, 0), (27, 0)] rfl (by kernel_rfl) (by kernel_rfl) (fun _ _ d _ _ h => by cases d <;> exact h) Hkd.out ?_
            dsimp only [RegIn.pick, List.getElem?_cons_zero, List.getElem?_cons_succ]
            change RegIn.Can _ _ _ _ _ _ _ _ wr.drew
            generalize wr.drew = wd at *
            iterate 3 (refine RegIn.can_reads ?_; intro K hK; go_simp; (first | (refine ⟨_, fun _ _ => rfl, hK _ ?_⟩) | (refine hK _ ?_)); clear hK K)
            refine RegIn.can_reads ?_
            intro K hK
            go_simp
            refine ⟨.pointer P, fun y hy => ?_, hK _ ?_⟩
            · have f0 := Hc5.out y (Hby.out.trans (KeptW.bel hy |>.mono Hby.out.size))
              go_simp
            clear hK K
            iterate 3 (refine RegIn.can_reads ?_; intro K hK; go_simp; (first | (refine ⟨_, fun _ _ => rfl, hK _ ?_⟩) | (refine hK _ ?_)); clear hK K)
            refine RegIn.can_reads ?_
            intro K hK
            go_simp
            refine ⟨.slice A1 n1 k1, fun y hy => ?_, hK _ ?_⟩
            · have f0 := Hc6.out y (Hby.out.trans (KeptW.bel hy |>.mono Hby.out.size))
              go_simp
            clear hK K
            have Hk0 := Lib.hid (Hby.out.trans (KeptW.bel Hkd.out |>.mono Hby.out.size))
            refine RegIn.can_turns ?_
            intro K K0 hK hK0
            go_simp
            refine ⟨trivial, ?_⟩
            refine (callsIn_wide.2 (Hal.out _ Hk0.out)).mono ?_
            rintro e w2 ⟨rfl, hb2⟩
            refine hK _ _ (Hkd.out.mono hb2) ?_
            clear hK hK0 K K0
            have Hk2 := Lib.hid (Hk0.out.trans (hb2.mono Hk0.out.size))
            have Hw2 := Lib.hid (Hkd.out.mono hb2); clear hb2
            iterate 6 (refine RegIn.can_reads ?_; intro K hK; go_simp; refine ⟨_, fun _ _ => rfl, hK _ ?_⟩; clear hK K)
            cases bz with
            | true =>
              iterate 3 (refine RegIn.can_reads ?_; intro K hK; go_simp; (first | (refine ⟨_, fun _ _ => rfl, hK _ ?_⟩) | (refine hK _ ?_)); clear hK K)
              refine RegIn.can_reads ?_
              intro K hK
              go_simp
              refine ⟨.pointer P, fun y hy => ?_, hK _ ?_⟩
              · have f0 := Hc5.out y (Hby.out.trans (KeptW.bel hy |>.mono Hby.out.size))
                go_simp
              clear hK K
              iterate 3 (refine RegIn.can_reads ?_; intro K hK; go_simp; (first | (refine ⟨_, fun _ _ => rfl, hK _ ?_⟩) | (refine hK _ ?_)); clear hK K)
              refine RegIn.can_reads ?_
              intro K hK
              go_simp
              refine ⟨.slice A1 n1 k1, fun y hy => ?_, hK _ ?_⟩
              · have f0 := Hc6.out y (Hby.out.trans (KeptW.bel hy |>.mono Hby.out.size))
                go_simp
              clear hK K
              refine RegIn.can_turns ?_
              intro K K0 hK hK0
              go_simp
              refine ⟨trivial, ?_⟩
              refine (callsIn_wide.2 (Hd1.out _ Hk2.out)).mono ?_
              rintro e w' ⟨rfl, rfl⟩
              refine hK _ _ Hw2.out ?_
              clear hK hK0 K K0
              refine RegIn.can_turns ?_
              intro K K0 hK hK0
              go_simp
              refine ⟨trivial, ?_⟩
              refine (callsIn_wide.2 (Hd2.out _ Hk2.out)).mono ?_
              rintro e w3 ⟨rfl, hb3⟩
              refine hK _ _ (Hw2.out.mono hb3) ?_
              clear hK hK0 K K0
              have Hk3 := Lib.hid (Hk2.out.trans (hb3.mono Hk2.out.size)); clear hb3
              iterate 3 (refine RegIn.can_reads ?_; intro K hK; go_simp; (first | (refine ⟨_, fun _ _ => rfl, hK _ ?_⟩) | (refine hK _ ?_)); clear hK K)
              refine RegIn.can_nil ?_
              go_wp2_with fail
              go_roundw
              case rel => exact ⟨j + 1, hjl, rfl, Hk3.out⟩
              case measure => simp [intOf]; omega
            | false =>
              iterate 8 (refine RegIn.can_reads ?_; intro K hK; go_simp; (first | (refine ⟨_, fun _ _ => rfl, hK _ ?_⟩) | (refine hK _ ?_)); clear hK K)
              refine RegIn.can_turns ?_
              intro K K0 hK hK0
              go_simp
              refine hK0 _ ?_
              clear hK hK0 K K0
              refine RegIn.can_turns ?_
              intro K K0 hK hK0
              go_simp
              refine hK0 _ ?_
              clear hK hK0 K K0
              iterate 3 (refine RegIn.can_reads ?_; intro K hK; go_simp; (first | (refine ⟨_, fun _ _ => rfl, hK _ ?_⟩) | (refine hK _ ?_)); clear hK K)
              refine RegIn.can_nil ?_
              go_wp2_with fail
              go_roundw
              case rel => exact ⟨j + 1, hjl, rfl, Hk2.out⟩
              case measure => simp [intOf]; omega
          · have hjl' : ¬ (j : Int) < (N : Int) := by omega
            have hent := (Hcells.out wr Hby.out i ⟨T, A, n, c⟩ Hlast.out).2.2
            have Hd1 := Lib.hid (depth_any T wr hent.tree)
            have hd2 := depth10_any T.sh wr A n c hent.heap hent.pairs hent.ok (by omega) (fun p hp => Nat.le_trans (hent.keys p hp) (by unfold maxLen; omega))
            rw [← sh_dep] at hd2
            have Hd2 := Lib.hid hd2; clear hd2 hent
            have Hbz := Lib.hid (Hbq.out.trans (Hby.out.mono Hbq.out.size))
            go_wp2_with (first
              | ((with_reducible refine Hd1.out.mono ?_); rintro e w' ⟨rfl, rfl⟩; clear Hd1)
              | ((with_reducible refine Hd2.out.mono ?_); rintro e w3 ⟨rfl, hb3⟩; have Hb3 := Lib.hid (Hbz.out.trans (hb3.mono Hbz.out.size)); clear hb3 Hd2; have Hwk := Lib.hid (trWakes_any w3))
              | ((with_reducible refine Hwk.out.mono ?_); rintro e w4 ⟨rfl, hb4⟩; have Hb4 := Lib.hid (Hb3.out.trans (hb4.mono Hb3.out.size)); clear hb4))
            go_ret
            exact ⟨rfl, Hb4.out⟩
theorem treePlays_law (a : Option Addr) (len cap : Nat) (z : List TAct) {w : World} (h : TActsAt w a len z) (_ : World) :
    Calls Try.prog 7 #[.slice a len cap] w fun e w' => e = .returned (.bool true) ∧ Below w.heap.size w w' := treePlays_any a len cap z w h
end Go.Proofs.Ytimhpncdlaildaa
