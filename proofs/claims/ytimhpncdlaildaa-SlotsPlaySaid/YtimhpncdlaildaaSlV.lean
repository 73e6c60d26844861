/- The law SlotsPlay. No condition. -/
import Derived.Test.YtimhpncdlaildaaSlU
import Derived.Deep.CutBlock
namespace Go.Proofs.Ytimhpncdlaildaa
open Go.RowKit

/-- The program's row (blocks R, B), the document's row (block g; its slots' items at A). -/
structure Both (w0 w : World) (R B g : Nat) (s : SRow) (b t : BitVec 64) (A : Option Addr) (n c : Nat) (L : Its) : Prop where
  row : RowIn w0 w R B s
  ref : RefAt w g b t A n c
  its : ItemsAt w A n L
  ok : SlOk A n c
  hg : w0.heap.size ≤ g

section
variable {w0 w w' : World} {R B g n c n' c' : Nat} {s s' : SRow} {b t b' t' : BitVec 64} {A A' : Option Addr} {L L' : Its}
theorem Both.gR (h : Both w0 w R B g s b t A n c L) : g ≠ R := by
  intro e
  subst e
  have h1 := h.row.row.blk
  rw [h.ref] at h1
  simp [refCells, rowCells] at h1
theorem Both.gB (h : Both w0 w R B g s b t A n c L) : g ≠ B := by
  intro e
  subst e
  obtain ⟨es, k, h1, _⟩ := h.row.row.vals
  rw [h.ref] at h1
  cases h1
theorem row_ne {m : Nat} (h : RowAt w R B s) (hi : ItemsAt w A m L) : ∀ b o, A = some ⟨b, o, none⟩ → 0 < m → b ≠ R ∧ b ≠ B := by
  intro b' o e hm
  obtain ⟨b2, o2, e2, _, h0, h1⟩ := items_get hi hm
  rw [e] at e2
  cases e2
  constructor
  · intro hbg
    subst hbg
    rw [cell_of_row _ _ _ _ _ _ h.blk] at h1
    match o, h1 with
    | 0, h1 => simp [rowCells] at h1
    | 1, h1 => simp [rowCells] at h1
    | 2, h1 => simp [rowCells] at h1
    | o + 3, h1 => simp [rowCells] at h1
  · intro hbg
    subst hbg
    obtain ⟨es, k, h2, _⟩ := h.vals
    simp [World.cell?, h2] at h1
theorem items_block {m : Nat} (hi : ItemsAt w A m L) (hs : w.heap.size ≤ w'.heap.size) (hb : ∀ b o, A = some ⟨b, o, none⟩ → 0 < m → w'.heap[b]? = w.heap[b]?) : ItemsAt w' A m L := by
  refine ⟨hi.hlen, hi.hmax, fun i y hy => ?_⟩
  obtain ⟨b, o, e1, e2, e3⟩ := hi.cells i y hy
  have hl := hi.hlen
  have hi' : i < L.length := (List.getElem?_eq_some_iff.1 hy).1
  refine ⟨b, o, e1, Nat.lt_of_lt_of_le e2 hs, fun j v hj => ?_⟩
  rw [← e3 j v hj]
  simp only [World.cell?, hb b o e1 (by omega)]
theorem Both.below (h : Both w0 w R B g s b t A n c L) (hb : Below w.heap.size w w') : Both w0 w' R B g s b t A n c L :=
  ⟨h.row.below hb, h.ref.below hb, h.its.below hb, h.ok, h.hg⟩
theorem Both.turn (h : Both w0 w R B g s b t A n c L) (hr : RowIn w0 w' R B s') (ht : Turned R B w w') : Both w0 w' R B g s' b t A n c L :=
  ⟨hr, (ht.block g h.ref.lt h.gR h.gB).trans h.ref, items_block h.its ht.size fun b o e hn => by
    obtain ⟨b2, o2, e2, hlt, _⟩ := items_get h.its hn
    rw [e] at e2
    cases e2
    obtain ⟨h1, h2⟩ := row_ne h.row.row h.its b o e hn
    exact ht.block b hlt h1 h2, h.ok, h.hg⟩
theorem Both.put (h : Both w0 w R B g s b t A n c L) (hi : ItemsAt w A' n' L') (hok : SlOk A' n' c') : Both w0 (stored w g b' t' A' n' c') R B g s b' t' A' n' c' L' :=
  ⟨⟨⟨(stored_other h.gR.symm).trans h.row.row.blk, h.row.row.vals.of_block kSlot (stored_other h.gB.symm)⟩, stored_below h.row.bel h.hg, h.row.hR, h.row.hB⟩, stored_at h.ref, stored_items hi (ref_ne h.ref hi), hok, h.hg⟩
theorem act_ne {x : SAct} {ba : Nat} (h : Both w0 w R B g s b t A n c L) (ha : ActAt w ba x) : ba ≠ g ∧ ba ≠ R ∧ ba ≠ B := by
  refine ⟨fun e => ?_, fun e => ?_, fun e => ?_⟩
  · subst e
    have h1 := h.ref
    unfold RefAt at h1
    unfold ActAt at ha
    rw [ha] at h1
    simp [refCells, actCells] at h1
  · subst e
    have h1 := h.row.row.blk
    unfold ActAt at ha
    rw [ha] at h1
    simp [rowCells, actCells] at h1
  · subst e
    obtain ⟨es, k, h1, _⟩ := h.row.row.vals
    unfold ActAt at ha
    rw [ha] at h1
    cases h1
end

section
variable {s : SRow} {L : Its} {m : Nat}
theorem next_both (hrel : Rel s L m) (htm : s.top.toNat ≤ 4611686018427387904) : ∃ (xk : BitVec 64) (v : ByteArray) (ok : Bool), nextV s = .tuple #[.agg #[.int .u64 (xk.toNat : Int), .string v], .bool ok] ∧
    ∀ (A : Option Addr) (n c : Nat) (w : World), ItemsAt w A n L → SlOk A n c → Calls Try.prog 27 #[refV s.base s.top A n c] w (RefPost3 (nextS s).base (nextS s).top L xk v ok w) := by
  cases hg : mget s.l (s.top + 1#64) with
  | none =>
    refine ⟨0#64, ByteArray.empty, false, by simp [nextV, hg], fun A n c w hi hok => ?_⟩
    have hs : nextS s = s := by simp [nextS, hg]
    rw [hs]
    exact refNext_none _ _ A n c L w hi hok htm (by rw [hrel.get, hg])
  | some v =>
    refine ⟨s.top + 1#64, v, true, by simp only [nextV, hg], fun A n c w hi hok => ?_⟩
    have hs : nextS s = { s with top := s.top + 1#64 } := by simp [nextS, hg]
    rw [hs]
    exact refNext_some _ _ A n c L w hi hok htm v (by rw [hrel.get, hg])
theorem Fit.any (hf : Fit s m) : Fit s (m + 1) := hf.mono (Nat.le_succ m)
end
/-- A world in which all that was there is as it was. -/
def KeptW (w y : World) : Prop := Below w.heap.size w y
theorem KeptW.mono {w y y' : World} (h : KeptW w y) (hb : Below y.heap.size y y') : KeptW w y' := Below.trans h (Below.mono hb (Below.size h))

set_option maxRecDepth 100000 in
set_option maxHeartbeats 4000000 in
theorem slotsPlay_any (base fr : BitVec 64) (most : Int) (hm1 : -9223372036854775808 ≤ most) (hm2 : most ≤ 9223372036854775807) (a : Option Addr) (len cap : Nat) (z : List SAct) (w : World) (h : ActsAt w a len z) :
    Calls Try.prog 5 #[.int .u64 (base.toNat : Int), .slice a len cap, .int .u64 (fr.toNat : Int), .int .i64 most] w fun e w' => e = .returned (.bool true) ∧ Below w.heap.size w w' := by
  have hl := h.hlen
  have hm := h.hmax
  unfold maxLen at hm
  have hgr := great_any a len cap z w h
  cases hg : greatS z with
  | true =>
    rw [hg] at hgr
    clear h hl
    go_enter Try.func5, Try.ntmps5
    go_wp2_with ((with_reducible refine hgr.mono ?_); clear hgr; rintro e w' ⟨rfl, rfl⟩)
    refine (slWakes_any w).mono ?_
    rintro e w3 ⟨rfl, hw⟩
    go_wp2_with fail
    go_ret
    exact ⟨rfl, hw⟩
  | false =>
  by_cases hbs : base.toNat ≤ 4611686018427387904
  case neg =>
    have hbs' : (4611686018427387904 : Int) < (base.toNat : Int) := by omega
    rw [hg] at hgr
    clear h hl
    go_enter Try.func5, Try.ntmps5
    go_wp2_with ((with_reducible refine hgr.mono ?_); clear hgr; rintro e w' ⟨rfl, rfl⟩)
    refine (new_none base hbs w).mono ?_
    rintro e w1 ⟨rfl, rfl⟩
    go_wp2_with fail
    refine (slWakes_any w).mono ?_
    rintro e w3 ⟨rfl, hw⟩
    go_wp2_with fail
    go_ret
    exact ⟨rfl, hw⟩
  case pos =>
    have hbs' : ¬ (4611686018427387904 : Int) < (base.toNat : Int) := by omega
    rw [hg] at hgr
    have hlen : len ≤ 200 := by
      have : ¬ 200 < z.length := by
        intro h
        simp [greatS, h] at hg
      omega
    clear hg hm
    have Hl := Lib.hid hl; clear hl
    have H := Lib.hid h; clear h
    go_enter Try.func5, Try.ntmps5
    go_wp2_with ((with_reducible refine hgr.mono ?_); clear hgr; rintro e w' ⟨rfl, rfl⟩)
    refine (new_any base hbs w).mono ?_
    rintro e w1 ⟨R, B, rfl, hr, hb, hR, hB⟩
    have h0 : RowIn w w1 R B ⟨base, base, 0#64, []⟩ := ⟨hr, hb, hR, hB⟩
    have hbo : Both w (w1.alloc (.cells (refCells base base none 0 0) 46)) R B w1.heap.size ⟨base, base, 0#64, []⟩ base base none 0 0 [] :=
      ⟨h0.alloc _, RefAt.new _ _ _ _ _ _, ⟨rfl, by decide, fun i x hi => by simp at hi⟩, .inl ⟨rfl, rfl, rfl⟩, hb.size⟩
    clear hr hb hR hB h0
    have Hbo := Lib.hid hbo; clear hbo
    go_upto_region 9 with fail
    change Code.wp _ _ _ _ (w1.alloc (.cells (refCells base base none 0 0) 46))
    clear hbs'
    generalize w1.alloc (.cells (refCells base base none 0 0) 46) = w2 at *
    generalize w1.heap.size = g at *
    go_wp2_with fail
    go_loopw [12] (fun s12 wr => ∃ i s A n c L, i ≤ len ∧ s12 = .int .i64 (i : Int) ∧ Both w wr R B g s s.base s.top A n c L ∧ Rel s L i ∧ Fit s i) (fun s12 _ => len - (intOf s12).toNat)
    case atStart => exact ⟨0, _, _, _, _, _, by omega, rfl, Hbo.out, Rel.new _, Fit.new hbs _⟩
    case round =>
      obtain ⟨i, s, A, n, c, L, hi, rfl, hbo, hrel, hfit⟩ := hrel
      clear Hbo
      have Hrel := Lib.hid hrel; clear hrel
      have Hfit := Lib.hid hfit; clear hfit
      by_cases hlt : i < len
      · have hlt' : (i : Int) < (len : Int) := by omega
        obtain ⟨b, o, rfl, hbl, c0, c1, c2⟩ := acts_cells (H.out.below hbo.row.bel) hlt
        have hsucc := i64_succ (n := i) (by omega)
        generalize hx : z.getD i default = x at *
        clear hx
        have Hbo := Lib.hid hbo; clear hbo
        have hi1 : i + 1 ≤ len := hlt
        go_upto_region 13 with fail
        have hboa := Hbo.out.below ((Below.refl _ wr).alloc (Nat.le_refl _) (.cells (actCells x).toArray 31))
        have hact := ActAt.new wr x
        clear c0 c1 c2 hbl Hbo
        change Code.wp _ _ _ _ (wr.alloc (.cells (actCells x).toArray 31))
        generalize wr.alloc (.cells (actCells x).toArray 31) = wa at *
        generalize wr.heap.size = ba at *
        obtain ⟨c0, c1, c2⟩ := hact.cells
        have Hbo := Lib.hid hboa; clear hboa
        have Hact := Lib.hid hact; clear hact
        obtain ⟨x0, x1, x2⟩ := x
        simp only at c0 c1 c2
        go_upto_block 2 with fail
        go_cut [14, 15, 64] (fun s14 s15 s64 wx => s64 = .int .u8 (x0.toNat : Int) ∧ ∃ er s' A' n' c' L', s14 = .int .i64 er ∧ s15 = .int .i64 er ∧ Both w wx R B g s' s'.base s'.top A' n' c' L' ∧ ActAt wx ba ⟨x0, x1, x2⟩ ∧ Rel s' L' (i + 1) ∧ Fit s' (i + 1))
        case first =>
          by_cases e0 : x0.toNat = 0
          · have e0' : (x0.toNat : Int) = 0 := by omega
            rw [e0']
            obtain ⟨xk, v, ok, hv, hnx⟩ := next_both Hrel.out Hfit.out.tm
            obtain ⟨s', hs⟩ : ∃ s', nextS s = s' := ⟨_, rfl⟩
            have hin := next_in Hbo.out.row hs hv
            have hrel' := (Hrel.out.next Hfit.out.tm).mono (Nat.le_succ i)
            have hfit' := Hfit.out.next
            rw [hs] at hrel' hfit' hnx
            clear hs e0 hv
            have Hrel' := Lib.hid hrel'; clear hrel'
            have Hfit' := Lib.hid hfit'; clear hfit'
            have Hnx := Lib.hid hnx; clear hnx
            have Hin := Lib.hid hin; clear hin
            clear Hrel Hfit c0 c1 c2
            go_upto_region 19 with ((with_reducible refine Hin.out.mono ?_); rintro e wn ⟨rfl, hrow', ht⟩; have Ht := Lib.hid ht; clear ht; have Hrow' := Lib.hid hrow'; clear hrow')
            have hb2 := Hbo.out.turn Hrow'.out Ht.out
            have hact2 : ActAt wn ba ⟨x0, x1, x2⟩ := Hact.out.of_block (Ht.out.block ba Hact.out.lt (act_ne Hbo.out Hact.out).2.1 (act_ne Hbo.out Hact.out).2.2)
            have hne := (act_ne hb2 hact2).1
            have hup := (Below.refl wn.heap.size wn).alloc (Nat.le_refl _) (.cells #[.int .u64 (xk.toNat : Int), .string v] 33)
            have hit := ItemAt.new wn (xk.toNat : Int) v
            have hgi : wn.heap.size ≠ g := by have := hb2.ref.lt; omega
            have Hb2 := Lib.hid (hb2.below hup)
            have Hact2 := Lib.hid (hact2.of_block (hup.block ba hact2.lt))
            clear hb2 hact2 hup Hbo Hact Hin Hrow' Ht
            change Code.wp _ _ _ _ (wn.alloc (.cells #[.int .u64 (xk.toNat : Int), .string v] 33))
            generalize wn.alloc (.cells #[.int .u64 (xk.toNat : Int), .string v] 33) = wi at *
            generalize wn.heap.size = gi at *
            have Hit := Lib.hid hit; clear hit
            obtain ⟨g0, g1, g2⟩ := Hb2.out.ref.cells
            have href := Hnx.out A n c wi Hb2.out.its Hb2.out.ok
            unfold refV refCells at href
            have Href := Lib.hid href; clear href Hnx
            go_upto_region 20 with ((with_reducible refine Href.out.mono ?_); rintro e w3 ⟨A3, n3, k3, rfl, hi3, hb3, hok3⟩; unfold refV refCells; have Hi3 := Lib.hid hi3; clear hi3; have Hok3 := Lib.hid hok3; clear hok3; have Hb3 := Lib.hid hb3; clear hb3 g0 g1 g2)
            have hu1 := (Below.refl w3.heap.size w3).alloc (Nat.le_refl _) (.cells (refCells s'.base s'.top A3 n3 k3) 46)
            have hu2 := hu1.alloc hu1.size (.cells #[.int .u64 (xk.toNat : Int), .string v] 33)
            have hb5 := (Hb2.out.below Hb3.out).below hu2
            have hact5 : ActAt _ ba ⟨x0, x1, x2⟩ := (Hact2.out.of_block (Hb3.out.block ba Hact2.out.lt)).of_block (hu2.block ba (Nat.lt_of_lt_of_le Hact2.out.lt Hb3.out.size))
            have hl5 := hb5.ref.lt
            have hlt5 := (Hb2.out.below Hb3.out).ref.lt
            have hit5 : ItemAt _ gi (xk.toNat : Int) v := (hu2.block gi (Nat.lt_of_lt_of_le Hit.out.lt Hb3.out.size)).trans ((Hb3.out.block gi Hit.out.lt).trans Hit.out)
            have hi5 := Hi3.out.below hu2
            have hrow5 := (RefAt.new w3 s'.base s'.top A3 n3 k3).below ((Below.refl _ _).alloc (Nat.le_refl _) (.cells #[.int .u64 (xk.toNat : Int), .string v] 33))
            have hnew5 := ItemAt.new (w3.alloc (.cells (refCells s'.base s'.top A3 n3 k3) 46)) (xk.toNat : Int) v
            have hsz5 : (w3.alloc (.cells (refCells s'.base s'.top A3 n3 k3) 46)).heap.size = w3.heap.size + 1 := by simp
            rw [hsz5] at hnew5
            have hg18 : w3.heap.size ≠ g := by omega
            have hg19 : w3.heap.size + 1 ≠ g := by omega
            clear hu1 hu2 hl5 hlt5 hsz5 Hb2 Hb3 Hact2 Hit Hi3
            change Code.wp _ _ _ _ ((w3.alloc (.cells (refCells s'.base s'.top A3 n3 k3) 46)).alloc (.cells #[.int .u64 (xk.toNat : Int), .string v] 33))
            generalize (w3.alloc (.cells (refCells s'.base s'.top A3 n3 k3) 46)).alloc (.cells #[.int .u64 (xk.toNat : Int), .string v] 33) = w5 at *
            generalize w3.heap.size + 1 = g19 at *
            generalize w3.heap.size = g18 at *
            obtain ⟨g0, g1, g2⟩ := hb5.ref.cells
            have z0 := hb5.ref.thawed 0
            have z1 := hb5.ref.thawed 1
            have z2 := hb5.ref.thawed 2
            obtain ⟨f0, f1, f2⟩ := hrow5.cells
            have hit6 : ItemAt (stored w5 g s'.base s'.top A3 n3 k3) gi (xk.toNat : Int) v := (stored_other hgi).trans hit5
            have hnew6 : ItemAt (stored w5 g s'.base s'.top A3 n3 k3) g19 (xk.toNat : Int) v := (stored_other hg19).trans hnew5
            have hact6 : ActAt (stored w5 g s'.base s'.top A3 n3 k3) ba ⟨x0, x1, x2⟩ := (stored_other hne).trans hact5
            have hb6 : Both w (stored w5 g s'.base s'.top A3 n3 k3) R B g s' s'.base s'.top A3 n3 k3 L := hb5.put hi5 Hok3.out
            have Hb6 := Lib.hid hb6; clear hb6 hb5 hi5 hit5 hnew5 hact5 hrow5
            have Hact6 := Lib.hid hact6; clear hact6
            have Hit6 := Lib.hid hit6; clear hit6
            have Hnew6 := Lib.hid hnew6; clear hnew6
            go_upto_region 21 with fail
            change Code.wp _ _ _ _ (stored w5 g s'.base s'.top A3 n3 k3)
            generalize stored w5 g s'.base s'.top A3 n3 k3 = w6 at *
            clear g0 g1 g2 z0 z1 z2 f0 f1 f2
            obtain ⟨i0, i1⟩ := Hit6.out.cells
            obtain ⟨j0, j1⟩ := Hnew6.out.cells
            go_wp2_with fail
            go_meet
            exact ⟨congrArg (Value.int .u8) e0'.symm, 0, s', A3, n3, k3, L, rfl, rfl, Hb6.out, Hact6.out, Hrel'.out, Hfit'.out⟩
          by_cases e1 : x0.toNat = 1
          · have e1' : (x0.toNat : Int) = 1 := by omega
            rw [e1']
            obtain ⟨L', hrel', hdis⟩ := Hrel.out.keep Hfit.out.bt x1
            obtain ⟨s', hs⟩ : ∃ s', keepS s x1 = s' := ⟨_, rfl⟩
            obtain ⟨er, her⟩ : ∃ er, errKeep s x1 = er := ⟨_, rfl⟩
            have hfit' := (Hfit.out.keep x1).any
            have hrel' := hrel'.mono (Nat.le_succ i)
            have htop := keepS_top s x1
            have hin := keep_in Hbo.out.row hs her
            rw [hs] at hrel' hdis hfit' htop
            rw [her] at hdis
            clear hs her e0 e1
            have Htop := Lib.hid htop; clear htop
            have Hrel' := Lib.hid hrel'; clear hrel'
            have Hfit' := Lib.hid hfit'; clear hfit'
            have Hdis := Lib.hid hdis; clear hdis
            have Hin := Lib.hid hin; clear hin
            have hn0 : n ≤ 1048575 := by have := Hrel.out.len; have := Hbo.out.its.hlen; omega
            clear Hrel Hfit
            go_upto_region 25 with ((with_reducible refine Hin.out.mono ?_); rintro e wn ⟨rfl, hrow', ht⟩; have Ht := Lib.hid ht; clear ht; have Hrow' := Lib.hid hrow'; clear hrow')
            have hb2 := Hbo.out.turn Hrow'.out Ht.out
            have hact2 : ActAt wn ba ⟨x0, x1, x2⟩ := Hact.out.of_block (Ht.out.block ba Hact.out.lt (act_ne Hbo.out Hact.out).2.1 (act_ne Hbo.out Hact.out).2.2)
            clear c0 c1 c2 Hin Hrow' Ht
            obtain ⟨c0, c1, c2⟩ := hact2.cells
            obtain ⟨g0, g1, g2⟩ := hb2.ref.cells
            simp only at c0 c1 c2
            have hne := (act_ne hb2 hact2).1
            have Hb2 := Lib.hid hb2; clear hb2
            have Hact2 := Lib.hid hact2; clear hact2
            clear Hbo Hact
            have href := refKeep_any s.base s.top x1 A n c L wn Hb2.out.its Hb2.out.ok (by omega) er s'.base L' Hdis.out
            unfold refV refCells at href
            have Href := Lib.hid href; clear href
            go_wp2_with ((with_reducible refine Href.out.mono ?_); rintro e w3 ⟨A3, n3, k3, rfl, hi3, hb3, hok3⟩; unfold refV refCells; have Hi3 := Lib.hid hi3; clear hi3; have Hok3 := Lib.hid hok3; clear hok3; have hb23 := Hb2.out.below hb3; have hact3 : ActAt w3 ba ⟨x0, x1, x2⟩ := Hact2.out.of_block (hb3.block ba Hact2.out.lt); clear hb3 c0 c1 c2 g0 g1 g2; obtain ⟨g0, g1, g2⟩ := hb23.ref.cells; have z0 := hb23.ref.thawed 0; have z1 := hb23.ref.thawed 1; have z2 := hb23.ref.thawed 2; have Hb23 := Lib.hid hb23; clear hb23; have Hact3 := Lib.hid hact3; clear hact3)
            go_meet
            exact ⟨congrArg (Value.int .u8) e1'.symm, er, s', A3, n3, k3, L', rfl, rfl, (by rw [Htop.out]; exact Hb23.out.put Hi3.out Hok3.out), (stored_other hne).trans Hact3.out, Hrel'.out, Hfit'.out⟩
          by_cases e2 : x0.toNat = 2
          · have e2' : (x0.toNat : Int) = 2 := by omega
            rw [e2']
            obtain ⟨L', hrel', hdis⟩ := Hrel.out.jump x1
            obtain ⟨s', hs⟩ : ∃ s', jumpS s x1 = s' := ⟨_, rfl⟩
            obtain ⟨er, her⟩ : ∃ er, errJump s x1 = er := ⟨_, rfl⟩
            have hfit' := (Hfit.out.jump x1).any
            have hrel' := hrel'.mono (Nat.le_succ i)
            have hin := jump_in Hbo.out.row hs her
            rw [hs] at hrel' hdis hfit'
            rw [her] at hdis
            clear hs her e0 e1 e2
            have Hrel' := Lib.hid hrel'; clear hrel'
            have Hfit' := Lib.hid hfit'; clear hfit'
            have Hdis := Lib.hid hdis; clear hdis
            have Hin := Lib.hid hin; clear hin
            have hn0 : n ≤ 1048575 := by have := Hrel.out.len; have := Hbo.out.its.hlen; omega
            clear Hrel Hfit
            go_upto_region 28 with ((with_reducible refine Hin.out.mono ?_); rintro e wn ⟨rfl, hrow', ht⟩; have Ht := Lib.hid ht; clear ht; have Hrow' := Lib.hid hrow'; clear hrow')
            have hb2 := Hbo.out.turn Hrow'.out Ht.out
            have hact2 : ActAt wn ba ⟨x0, x1, x2⟩ := Hact.out.of_block (Ht.out.block ba Hact.out.lt (act_ne Hbo.out Hact.out).2.1 (act_ne Hbo.out Hact.out).2.2)
            clear c0 c1 c2 Hin Hrow' Ht
            obtain ⟨c0, c1, c2⟩ := hact2.cells
            obtain ⟨g0, g1, g2⟩ := hb2.ref.cells
            simp only at c0 c1 c2
            have hne := (act_ne hb2 hact2).1
            have Hb2 := Lib.hid hb2; clear hb2
            have Hact2 := Lib.hid hact2; clear hact2
            clear Hbo Hact
            have href := refJump_any s.base s.top x1 A n c L wn Hb2.out.its Hb2.out.ok (by omega) er s'.base s'.top L' Hdis.out
            unfold refV refCells at href
            have Href := Lib.hid href; clear href
            go_wp2_with ((with_reducible refine Href.out.mono ?_); rintro e w3 ⟨A3, n3, k3, rfl, hi3, hb3, hok3⟩; unfold refV refCells; have Hi3 := Lib.hid hi3; clear hi3; have Hok3 := Lib.hid hok3; clear hok3; have hb23 := Hb2.out.below hb3; have hact3 : ActAt w3 ba ⟨x0, x1, x2⟩ := Hact2.out.of_block (hb3.block ba Hact2.out.lt); clear hb3 c0 c1 c2 g0 g1 g2; obtain ⟨g0, g1, g2⟩ := hb23.ref.cells; have z0 := hb23.ref.thawed 0; have z1 := hb23.ref.thawed 1; have z2 := hb23.ref.thawed 2; have Hb23 := Lib.hid hb23; clear hb23; have Hact3 := Lib.hid hact3; clear hact3)
            go_meet
            exact ⟨congrArg (Value.int .u8) e2'.symm, er, s', A3, n3, k3, L', rfl, rfl, Hb23.out.put Hi3.out Hok3.out, (stored_other hne).trans Hact3.out, Hrel'.out, Hfit'.out⟩
          · have e0' := eq_int_false (b := 0) (show (x0.toNat : Int) ≠ 0 by omega)
            have e1' := eq_int_false (b := 1) (show (x0.toNat : Int) ≠ 1 by omega)
            have e2' := eq_int_false (b := 2) (show (x0.toNat : Int) ≠ 2 by omega)
            obtain ⟨L', hrel', hdis⟩ := Hrel.out.put x1 x2
            obtain ⟨s', hs⟩ : ∃ s', putS s x1 x2 = s' := ⟨_, rfl⟩
            obtain ⟨er, her⟩ : ∃ er, errPut s x1 x2 = er := ⟨_, rfl⟩
            have hfit' := (Hfit.out.put x1 x2).any
            have htop := putS_top s x1 x2
            have hin := put_in Hbo.out.row hs her
            rw [hs] at hrel' hfit' htop
            rw [her] at hdis
            clear hs her e0 e1 e2
            have Htop := Lib.hid htop; clear htop
            have Hrel' := Lib.hid hrel'; clear hrel'
            have Hfit' := Lib.hid hfit'; clear hfit'
            have Hdis := Lib.hid hdis; clear hdis
            have Hin := Lib.hid hin; clear hin
            have hn0 : n ≤ 1048575 := by have := Hrel.out.len; have := Hbo.out.its.hlen; omega
            clear Hrel Hfit
            go_upto_region 16 with ((with_reducible refine Hin.out.mono ?_); rintro e wn ⟨rfl, hrow', ht⟩; have Ht := Lib.hid ht; clear ht; have Hrow' := Lib.hid hrow'; clear hrow')
            have hb2 := Hbo.out.turn Hrow'.out Ht.out
            have hact2 : ActAt wn ba ⟨x0, x1, x2⟩ := Hact.out.of_block (Ht.out.block ba Hact.out.lt (act_ne Hbo.out Hact.out).2.1 (act_ne Hbo.out Hact.out).2.2)
            clear c0 c1 c2 Hin Hrow' Ht
            obtain ⟨c0, c1, c2⟩ := hact2.cells
            obtain ⟨g0, g1, g2⟩ := hb2.ref.cells
            simp only at c0 c1 c2
            have hne := (act_ne hb2 hact2).1
            have Hb2 := Lib.hid hb2; clear hb2
            have Hact2 := Lib.hid hact2; clear hact2
            clear Hbo Hact
            have href := refPut_any s.base s.top x1 x2 A n c L wn Hb2.out.its Hb2.out.ok (by omega) er L' Hdis.out
            unfold refV refCells at href
            have Href := Lib.hid href; clear href
            go_wp2_with ((with_reducible refine Href.out.mono ?_); rintro e w3 ⟨A3, n3, k3, rfl, hi3, hb3, hok3⟩; unfold refV refCells; have Hi3 := Lib.hid hi3; clear hi3; have Hok3 := Lib.hid hok3; clear hok3; have hb23 := Hb2.out.below hb3; have hact3 : ActAt w3 ba ⟨x0, x1, x2⟩ := Hact2.out.of_block (hb3.block ba Hact2.out.lt); clear hb3 c0 c1 c2 g0 g1 g2; obtain ⟨g0, g1, g2⟩ := hb23.ref.cells; have z0 := hb23.ref.thawed 0; have z1 := hb23.ref.thawed 1; have z2 := hb23.ref.thawed 2; have Hb23 := Lib.hid hb23; clear hb23; have Hact3 := Lib.hid hact3; clear hact3)
            go_meet
            exact ⟨rfl, er, s', A3, n3, k3, L', rfl, rfl, (by rw [Htop.out.1, Htop.out.2]; exact Hb23.out.put Hi3.out Hok3.out), (stored_other hne).trans Hact3.out, Hrel'.out, Hfit'.out⟩
        case rest =>
          obtain ⟨rfl, er, s1, A1, n1, k1, L1, rfl, rfl, hbo, hact, hrel, hfit⟩ := hcut
          clear Hbo Hact Hrel Hfit c0 c1 c2
          have hget0 := get_any R B s1 x1 wc hbo.row.row
          have hget1 := refGet_any s1.base s1.top A1 n1 k1 L1 x1 wc hbo.its
          have hv : getV L1 x1 = .tuple #[.string ((mget s1.l x1).getD ByteArray.empty), .bool (mget s1.l x1).isSome] := by rw [getV, hrel.get]
          rw [hv] at hget1
          clear hv
          generalize (mget s1.l x1).getD ByteArray.empty = gv at *
          generalize (mget s1.l x1).isSome = gb at *
          have hlen1 := hrel.len
          have hl1 := hbo.its.hlen
          have hn1 : n1 ≤ 1048575 := by omega
          have hlast := hrel.lastS
          have hitems := hrel.items hfit
          obtain ⟨c0, c1, c2⟩ := hact.cells
          obtain ⟨g0, g1, g2⟩ := hbo.ref.cells
          simp only at c0 c1 c2
          unfold refV refCells at hget1
          have Hget0 := Lib.hid hget0; clear hget0
          have Hget1 := Lib.hid hget1; clear hget1
          have Hlast := Lib.hid hlast; clear hlast
          have Hitems := Lib.hid hitems; clear hitems
          have Hrel := Lib.hid hrel; clear hrel
          have Hfit := Lib.hid hfit; clear hfit
          have Hbo := Lib.hid hbo; clear hbo
          have Hact := Lib.hid hact; clear hact
          clear hlen1 hl1
          go_upto_region 30 with ((with_reducible refine Hget0.out.mono ?_); rintro e w' ⟨rfl, rfl⟩)
          go_upto_region 31 with ((with_reducible refine Hget1.out.mono ?_); rintro e wd ⟨rfl, hbd⟩; have Hbd := Lib.hid hbd; clear hbd)
          have hbo2 := Hbo.out.below Hbd.out
          clear c0 c1 c2 g0 g1 g2 Hbo Hbd Hget0 Hget1 Hact
          obtain ⟨g0, g1, g2⟩ := hbo2.ref.cells
          have Hbo := Lib.hid hbo2; clear hbo2
          have hkd : KeptW wd wd.drew := below_drewN wd 1
          have Hkd := Lib.hid hkd; clear hkd
          refine RegR.wp_region_can (KeptW wd) [(0, 0), (1, 0), (2, 0), (3, 0), (4, 0), (5, 0), (6, 0), (7, 0), (8, 0), (9, 0), (10, 0), (11, 0), (12, 0), (13, 0), (14, 0), (16, 0), (17, 0), (15, 1), (18, 0), (19, 0), (20, 0), (21, 0), (23, 0), (24, 0), (22, 1), (25, 0), (26, 0), (27, 0), (28, 0), (30, 0), (29, 1), (31, 1), (32, 0), (33, 0), (34, 0), (35, 0), (36, 0), (37, 0), (39, 0), (40, 0), (41, 0), (38, 1), (42, 1), (43, 1), (44, 0), (45, 0)] (by kernel_rfl) (by kernel_rfl) (fun _ _ d _ _ h => by cases d <;> exact h) Hkd.out ?_
          dsimp only [RegR.pick, List.getElem?_cons_zero, List.getElem?_cons_succ]
          iterate 16 (refine RegR.can_reads (fun K hK => ?_); go_simp; refine ⟨_, fun _ _ => rfl, hK _ ?_⟩; clear hK K)
          refine RegR.can_reads (fun K hK => ?_)
          go_simp
          refine ⟨.int .u64 (s1.base.toNat : Int), fun y hy => ?_, hK _ ?_⟩
          · obtain ⟨f0, f1, f2⟩ := (Hbo.out.ref.below hy).cells
            go_simp
          clear hK K
          refine RegR.can_turns (fun K K0 hK hK0 => ?_)
          go_simp
          refine (base_any R B s1 _ Hbo.out.row.row.drew).mono ?_
          rintro e w' ⟨rfl, rfl⟩
          refine hK _ _ Hkd.out ?_
          clear hK hK0 K K0
          iterate 5 (refine RegR.can_reads (fun K hK => ?_); go_simp; refine ⟨_, fun _ _ => rfl, hK _ ?_⟩; clear hK K)
          refine RegR.can_reads (fun K hK => ?_)
          go_simp
          refine ⟨.int .u64 (s1.top.toNat : Int), fun y hy => ?_, hK _ ?_⟩
          · obtain ⟨f0, f1, f2⟩ := (Hbo.out.ref.below hy).cells
            go_simp
          clear hK K
          refine RegR.can_turns (fun K K0 hK hK0 => ?_)
          go_simp
          refine (top_any R B s1 _ Hbo.out.row.row.drew).mono ?_
          rintro e w' ⟨rfl, rfl⟩
          refine hK _ _ Hkd.out ?_
          clear hK hK0 K K0
          iterate 4 (refine RegR.can_reads (fun K hK => ?_); go_simp; refine ⟨_, fun _ _ => rfl, hK _ ?_⟩; clear hK K)
          refine RegR.can_reads (fun K hK => ?_)
          go_simp
          refine ⟨.agg #[.int .u64 (s1.base.toNat : Int), .int .u64 (s1.top.toNat : Int), .slice A1 n1 k1], fun y hy => ?_, hK _ ?_⟩
          · obtain ⟨f0, f1, f2⟩ := (Hbo.out.ref.below hy).cells
            go_simp
          clear hK K
          refine RegR.can_turns (fun K K0 hK hK0 => ?_)
          go_simp
          refine (last_any R B s1 _ Hbo.out.row.row.drew).mono ?_
          rintro e w3 ⟨rfl, hb3⟩
          refine hK _ _ (Hkd.out.mono hb3) ?_
          clear hK hK0 K K0
          have Hk3 := Lib.hid (Hkd.out.mono hb3); clear hb3
          refine RegR.can_turns (fun K K0 hK hK0 => ?_)
          go_simp
          refine (refLast_any s1.base s1.top A1 n1 k1 L1 w3 (Hbo.out.its.below Hk3.out)).mono ?_
          rintro e w4 ⟨rfl, hb4⟩
          rw [Hlast.out]
          refine hK _ _ (Hk3.out.mono hb4) ?_
          clear hK hK0 K K0
          have Hk4 := Lib.hid (Hk3.out.mono hb4); clear hb4
          iterate 6 (refine RegR.can_reads (fun K hK => ?_); go_simp; refine ⟨_, fun _ _ => rfl, hK _ ?_⟩; clear hK K)
          refine RegR.can_reads (fun K hK => ?_)
          go_simp
          refine ⟨.agg #[.int .u64 (s1.base.toNat : Int), .int .u64 (s1.top.toNat : Int), .slice A1 n1 k1], fun y hy => ?_, hK _ ?_⟩
          · obtain ⟨f0, f1, f2⟩ := (Hbo.out.ref.below hy).cells
            go_simp
          clear hK K
          iterate 2 (refine RegR.can_reads (fun K hK => ?_); go_simp; refine ⟨_, fun _ _ => rfl, hK _ ?_⟩; clear hK K)
          refine RegR.can_turns (fun K K0 hK hK0 => ?_)
          go_simp
          refine (items_in (Hbo.out.row.below Hk4.out) Hfit.out (by omega) fr most hm1 hm2 rfl rfl).mono ?_
          rintro e w5 ⟨A2, k2, rfl, hi2, _, hb5⟩
          refine hK _ _ (Hk4.out.mono hb5) ?_
          clear hK hK0 K K0
          have Hk5 := Lib.hid (Hk4.out.mono hb5); clear hb5
          have Hi2 := Lib.hid hi2; clear hi2
          refine RegR.can_turns (fun K K0 hK hK0 => ?_)
          go_simp
          refine (refItems_any s1.base s1.top fr most A1 n1 k1 L1 w5 (Hbo.out.its.below Hk5.out) (by omega)).mono ?_
          rintro e w6 ⟨A3, n3, k3, rfl, hi3, hb6⟩
          refine hK _ _ (Hk5.out.mono hb6) ?_
          clear hK hK0 K K0
          have hi2 := Hi2.out.below hb6
          rw [Hitems.out] at hi3
          have Hk6 := Lib.hid (Hk5.out.mono hb6); clear hb6 Hi2
          obtain rfl : n3 = itemsCount s1 fr most := hi3.hlen.symm.trans hi2.hlen
          have Hsm := Lib.hid (refSame_any _ _ _ k2 k3 _ _ hi2 hi3); clear hi2 hi3
          refine RegR.can_turns (fun K K0 hK hK0 => ?_)
          go_simp
          refine (Hsm.out).mono ?_
          rintro e w7 ⟨rfl, hb7⟩
          refine hK _ _ (Hk6.out.mono hb7) ?_
          clear hK hK0 K K0
          have Hk7 := Lib.hid (Hk6.out.mono hb7); clear hb7 Hsm
          iterate 2 (refine RegR.can_reads (fun K hK => ?_); go_simp; refine ⟨_, fun _ _ => rfl, hK _ ?_⟩; clear hK K)
          refine RegR.can_nil ?_
          clear g0 g1 g2
          go_wp2_with fail
          go_roundw
          case rel => exact ⟨i + 1, s1, A1, n1, k1, L1, hi1, rfl, Hbo.out.below Hk7.out, Hrel.out, Hfit.out⟩
          case measure => simp [intOf]; omega
      · have hlt' : ¬ (i : Int) < (len : Int) := by omega
        have hlen1 := Hrel.out.len
        have hl1 := hbo.its.hlen
        have hn1 : n ≤ 1048575 := by omega
        have hitems := Hrel.out.items Hfit.out 0#64 300
        have Hitems := Lib.hid hitems; clear hitems hlen1 hl1
        have Hbo := Lib.hid hbo; clear hbo
        go_upto_region 33 with fail
        have hkd : KeptW wr wr.drew := below_drewN wr 1
        have Hkd := Lib.hid hkd; clear hkd
        obtain ⟨g0, g1, g2⟩ := Hbo.out.ref.cells
        refine RegR.wp_region_can (KeptW wr) [(0, 0), (2, 0), (1, 1), (3, 1), (4, 1), (5, 0), (6, 1), (7, 0), (8, 0)] (by kernel_rfl) (by kernel_rfl) (fun _ _ d _ _ h => by cases d <;> exact h) Hkd.out ?_
        dsimp only [RegR.pick, List.getElem?_cons_zero, List.getElem?_cons_succ]
        iterate 1 (refine RegR.can_reads (fun K hK => ?_); go_simp; refine ⟨_, fun _ _ => rfl, hK _ ?_⟩; clear hK K)
        refine RegR.can_reads (fun K hK => ?_)
        go_simp
        refine ⟨.agg #[.int .u64 (s.base.toNat : Int), .int .u64 (s.top.toNat : Int), .slice A n c], fun y hy => ?_, hK _ ?_⟩
        · obtain ⟨f0, f1, f2⟩ := (Hbo.out.ref.below hy).cells
          go_simp
        clear hK K
        refine RegR.can_turns (fun K K0 hK hK0 => ?_)
        go_simp
        refine (items_in (Hbo.out.row.below Hkd.out) Hfit.out (by omega) 0#64 300 (by decide) (by decide) rfl rfl).mono ?_
        rintro e w5 ⟨A2, k2, rfl, hi2, _, hb5⟩
        refine hK _ _ (Hkd.out.mono hb5) ?_
        clear hK hK0 K K0
        have Hk5 := Lib.hid (Hkd.out.mono hb5); clear hb5
        have Hi2 := Lib.hid hi2; clear hi2
        refine RegR.can_turns (fun K K0 hK hK0 => ?_)
        go_simp
        refine (refItems_any s.base s.top 0#64 300 A n c L w5 (Hbo.out.its.below Hk5.out) (by omega)).mono ?_
        rintro e w6 ⟨A3, n3, k3, rfl, hi3, hb6⟩
        refine hK _ _ (Hk5.out.mono hb6) ?_
        clear hK hK0 K K0
        have hi2 := Hi2.out.below hb6
        rw [Hitems.out] at hi3
        have Hk6 := Lib.hid (Hk5.out.mono hb6); clear hb6 Hi2
        obtain rfl : n3 = itemsCount s 0#64 300 := hi3.hlen.symm.trans hi2.hlen
        have Hsm := Lib.hid (refSame_any _ _ _ k2 k3 _ _ hi2 hi3); clear hi2 hi3
        refine RegR.can_turns (fun K K0 hK hK0 => ?_)
        go_simp
        refine (Hsm.out).mono ?_
        rintro e w7 ⟨rfl, hb7⟩
        refine hK _ _ (Hk6.out.mono hb7) ?_
        clear hK hK0 K K0
        have Hk7 := Lib.hid (Hk6.out.mono hb7); clear hb7 Hsm
        iterate 1 (refine RegR.can_reads (fun K hK => ?_); go_simp; refine ⟨_, fun _ _ => rfl, hK _ ?_⟩; clear hK K)
        refine RegR.can_turns (fun K K0 hK hK0 => ?_)
        go_simp
        refine (slWakes_any w7).mono ?_
        rintro e w8 ⟨rfl, hb8⟩
        refine hK _ _ (Hk7.out.mono hb8) ?_
        clear hK hK0 K K0
        have Hk8 := Lib.hid (Hk7.out.mono hb8); clear hb8
        iterate 2 (refine RegR.can_reads (fun K hK => ?_); go_simp; refine ⟨_, fun _ _ => rfl, hK _ ?_⟩; clear hK K)
        refine RegR.can_nil ?_
        clear g0 g1 g2
        have hfin := Hbo.out.row.bel.trans (Below.mono Hk8.out Hbo.out.row.bel.size)
        have Hfin := Lib.hid hfin; clear hfin Hk8 Hk7 Hk6 Hk5 Hkd
        go_wp2_with fail
        go_ret
        exact ⟨rfl, Hfin.out⟩
theorem slotsPlay_law (x : Int) (a : Option Addr) (len cap : Nat) (z : List SAct) (y most : Int) {w : World} (hx : (Lit.int .u64 x).wf = true) (h : ActsAt w a len z) (hy : (Lit.int .u64 y).wf = true) (hm : (Lit.int .i64 most).wf = true) (_ : World) :
    Calls Try.prog 5 #[.int .u64 x, .slice a len cap, .int .u64 y, .int .i64 most] w fun e w' => e = .returned (.bool true) ∧ Below w.heap.size w w' := by
  obtain ⟨x, rfl⟩ := sl_u64 hx
  obtain ⟨y, rfl⟩ := sl_u64 hy
  have hm' : -9223372036854775808 ≤ most ∧ most ≤ 9223372036854775807 := by simpa [Lit.wf, IntKind.min, IntKind.max, IntKind.signed, IntKind.bits] using hm
  exact slotsPlay_any x y most hm'.1 hm'.2 a len cap z w h
end Go.Proofs.Ytimhpncdlaildaa
