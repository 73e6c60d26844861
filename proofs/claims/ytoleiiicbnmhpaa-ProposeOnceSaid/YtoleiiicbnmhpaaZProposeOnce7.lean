/- ProposeOnce and ProposePlays: acts, opened; those that are too great; a vote. Condition: the desk lies there. -/
import Derived.Test.YtoleiiicbnmhpaaZProposeOnce6
import Derived.Test.YtoleiiicbnmhpaaZProposeOnce1
namespace Go.Proofs.Ytoleiiicbnmhpaa
open Go.ChangeShapes Go.WideShapes Go.Deep Go.RowKit
instance : Inhabited PAct := ⟨⟨0, 0, ByteArray.empty, 0, 0⟩⟩
abbrev PactsAt := SliceAt 5 pactCells
theorem pacts_open {H : Type} {enc : TypeId × Value → H} {w : World} {base : Nat} {spare : Nat → Bool} {held : Bool} {a : Option Addr} {len cap : Nat} {d : DataW H} {pl : List MemPlace}
    (h : DataW.Trod enc Try.prog w base spare held 46 (.slice a len cap) d pl) : ∃ z : List PAct, PactsAt w a len z :=
  open_rows pactCells Try.underlying46 Try.underlying40 (by kernel_rfl) (by kernel_rfl) (by decide) (pact_hx Try.underlying40) h
theorem pacts_row {w : World} {a : Option Addr} {len : Nat} {z : List PAct} (h : PactsAt w a len z) {i : Nat} (hi : i < len) : ∃ b o, a = some ⟨b, o, none⟩ ∧ b < w.heap.size ∧ w.rangeAt b (o + i * 5) (pactCells (z.getD i default)) := by
  have hl := h.hlen
  have hz : z[i]? = some (z.getD i default) := by simp [List.getD, List.getElem?_eq_getElem (show i < z.length by omega)]
  obtain ⟨b, o, h1, h2, h3⟩ := h.cells i _ hz
  exact ⟨b, o, h1, h2, fun j v hv => by rw [← h3 j v hv, Nat.add_assoc]⟩
/-- What great tells. -/
def pgreatS (z : List PAct) : Bool := decide (200 < z.length) || z.any fun x => decide (100 < x.x.size)
theorem pgreat_ok {z : List PAct} (h : pgreatS z = false) : z.length ≤ 200 ∧ ∀ i, i < z.length → (z.getD i default).x.size ≤ 100 := by
  simp only [pgreatS, Bool.or_eq_false_iff, decide_eq_false_iff_not, List.any_eq_false] at h
  refine ⟨by omega, fun i hi => ?_⟩
  have := h.2 (z.getD i default) (by rw [List.getD, List.getElem?_eq_getElem hi]; exact List.getElem_mem _)
  simp only [decide_eq_true_eq] at this
  omega
set_option maxHeartbeats 2000000 in
theorem pgreat_any (a : Option Addr) (len cap : Nat) (z : List PAct) (w : World) (h : PactsAt w a len z) :
    Calls Try.prog 18 #[.slice a len cap] w fun e w' => e = .returned (.bool (pgreatS z)) ∧ w = w' := by
  have hl := h.hlen
  have hm := h.hmax
  unfold maxLen at hm
  by_cases hbig : 200 < len
  · have hg : pgreatS z = true := by simp [pgreatS, hl, hbig]
    have hbig' : (200 : Int) < (len : Int) := by omega
    have H := Lib.hid h; clear h
    have Hg := Lib.hid hg; clear hg
    clear hl
    go_enter Try.func18, Try.ntmps18
    go_wp2_with fail
    go_ret
    exact ⟨by rw [Hg.out]; rfl, rfl⟩
  · have hbig' : ¬ (200 : Int) < (len : Int) := by omega
    have Hl := Lib.hid hl; clear hl
    have H := Lib.hid h; clear h
    go_enter Try.func18, Try.ntmps18
    go_upto_region 4 with fail
    go_loopw [3] (fun s3 wr => w = wr ∧ ∃ i : Nat, i ≤ len ∧ s3 = .int .i64 (i : Int) ∧ ∀ j, j < i → (z.getD j default).x.size ≤ 100) (fun s3 _ => len - (intOf s3).toNat)
    case atStart => exact ⟨rfl, 0, by omega, rfl, by omega⟩
    case round =>
      obtain ⟨rfl, i, hi, rfl, hall⟩ := hrel
      have Hall := Lib.hid hall; clear hall
      by_cases hlt : i < len
      · have hlt' : (i : Int) < (len : Int) := by omega
        obtain ⟨b, o, rfl, _, hr⟩ := pacts_row H.out hlt
        have c2 : w.cell? ⟨b, o + i * 5 + 2, none⟩ = some (.string (z.getD i default).x) := hr 2 _ rfl
        have hgt : 100 < (z.getD i default).x.size → pgreatS z = true := by
          intro hg
          have hm' : z.getD i default ∈ z := by
            have := Hl.out
            simp only [List.getD, List.getElem?_eq_getElem (show i < z.length by omega), Option.getD_some]
            exact List.getElem_mem _
          simp only [pgreatS, Bool.or_eq_true, List.any_eq_true, decide_eq_true_eq]
          exact .inr ⟨_, hm', hg⟩
        have Hgt := Lib.hid hgt; clear hgt hr
        have bi : i < 1152921504606846976 := by omega
        generalize hv : (z.getD i default).x = u at *
        have Hv := Lib.hid hv; clear hv
        by_cases hg : 100 < u.size
        · have hg' : (100 : Int) < (u.size : Int) := by omega
          go_wp2_with fail
          go_ret
          exact ⟨by rw [Hgt.out hg]; rfl, rfl⟩
        · have hg' : ¬ (100 : Int) < (u.size : Int) := by omega
          go_wp2_with fail
          refine ⟨⟨by first | rfl | trivial, i + 1, by omega, rfl, fun j hj => ?_⟩, by simp only [intOf]; omega⟩
          by_cases e : j = i
          · subst e; rw [Hv.out]; omega
          · exact Hall.out j (by omega)
      · have hlt' : ¬ (i : Int) < (len : Int) := by omega
        have hie : i = len := by omega
        subst hie
        have hfin : pgreatS z = false := by
          simp only [pgreatS, Bool.or_eq_false_iff, decide_eq_false_iff_not, List.any_eq_false]
          refine ⟨by rw [Hl.out]; exact hbig, fun x hx => ?_⟩
          obtain ⟨j, hj, rfl⟩ := List.getElem_of_mem hx
          have h2 := Hall.out j (by rw [← Hl.out]; exact hj)
          rw [List.getD, List.getElem?_eq_getElem hj] at h2
          have h3 : z[j].x.size ≤ 100 := h2
          simp
          omega
        have Hfin := Lib.hid hfin; clear hfin
        go_wp2_with fail
        go_ret
        exact ⟨by rw [Hfin.out]; rfl, rfl⟩
/-- A vote: the desk behind it, the item, and whether it decides. -/
def votedS (D : Nat → Option OpR) (s nd : Nat) : (Nat → Option OpR) × (Nat × ByteArray) × Bool :=
  match D s with
  | none => (D, (0, ByteArray.empty), false)
  | some r => if hasS r.c nd then (if majorS r.c (withS r.who (ofS nd)) then (updD D s none, (s, r.x), true) else (updD D s (some ⟨r.x, r.c, withS r.who (ofS nd)⟩), (0, ByteArray.empty), false)) else (D, (0, ByteArray.empty), false)
/-- What Voted leaves. -/
structure VotedTo (w w' : World) (p g n last : Nat) (D : Nat → Option OpR) (s nd : Nat) : Prop where
  d : ∃ n', n' ≤ n + 1 ∧ DeskAt w' p g n' (votedS D s nd).1 last
  two : ButTwo p g w w'
theorem voted_any (p g n last : Nat) (D : Nat → Option OpR) (nd s : Nat) (hr : ∀ r, D s = some r → r.c < 256 ∧ r.who < 256) (hn : nd < 256) (hn5 : n < 100000) (hs : s < 18446744073709551616) (w : World) (h : DeskAt w p g n D last) :
    Calls Try.prog 13 #[.pointer (some ⟨p, 0, none⟩), .int .u8 (nd : Int), .int .u64 (s : Int)] w fun e w' => e = .returned (.tuple #[itV (votedS D s nd).2.1.1 (votedS D s nd).2.1.2, .bool (votedS D s nd).2.2]) ∧ VotedTo w w' p g n last D s nd := by
  cases hD : D s with
  | none =>
    have e : votedS D s nd = (D, (0, ByteArray.empty), false) := by unfold votedS; rw [hD]
    refine (voted_none p g n last D nd s hD hs w h).mono ?_
    rintro _ w' ⟨rfl, hb⟩
    exact ⟨by rw [e], ⟨⟨n, by omega, by rw [e]; exact h.below hb⟩, two_of hb⟩⟩
  | some r =>
    obtain ⟨hc, hw⟩ := hr r hD
    cases hh : hasS r.c nd with
    | false =>
      have e : votedS D s nd = (D, (0, ByteArray.empty), false) := by unfold votedS; rw [hD]; simp [hh]
      refine (voted_not p g n last D nd s r hD hc hn hh hs w h).mono ?_
      rintro _ w' ⟨rfl, hb⟩
      exact ⟨by rw [e], ⟨⟨n, by omega, by rw [e]; exact h.below hb⟩, two_of hb⟩⟩
    | true =>
      cases hm : majorS r.c (withS r.who (ofS nd)) with
      | false =>
        have e : votedS D s nd = (updD D s (some ⟨r.x, r.c, withS r.who (ofS nd)⟩), (0, ByteArray.empty), false) := by unfold votedS; rw [hD]; simp [hh, hm]
        refine (voted_more p g n last D nd s r hD hc hw hn hn5 hh hm hs w h).mono ?_
        rintro _ w' ⟨rfl, hd, hb⟩
        exact ⟨by rw [e], ⟨⟨_, Nat.le_refl _, by rw [e]; exact hd⟩, hb⟩⟩
      | true =>
        have e : votedS D s nd = (updD D s none, (s, r.x), true) := by unfold votedS; rw [hD]; simp [hh, hm]
        refine (voted_wins p g n last D nd s r hD hc hw hn hh hm hs w h).mono ?_
        rintro _ w' ⟨rfl, hd, hb⟩
        exact ⟨by rw [e], ⟨⟨n, by omega, by rw [e]; exact hd⟩, hb⟩⟩
end Go.Proofs.Ytoleiiicbnmhpaa
namespace Go.Proofs.Ytoleiiicbnmhpaa
open Go.RowKit
open Go.Maps (Keyed)
open Go.ChangeMaps Go.MapKept
abbrev encS (x : ByteArray) : Value := .string x
abbrev encU (n : Nat) : Value := .int .u8 (n : Int)
abbrev encB (b : Bool) : Value := .bool b
theorem zero_str (w : World) : (zeroValue 9).run Try.prog w = .ok (.string ByteArray.empty) w := by kernel_rfl
theorem zero_set (w : World) : (zeroValue 24).run Try.prog w = .ok (.int .u8 0) w := by kernel_rfl
theorem zero_bool (w : World) : (zeroValue 4).run Try.prog w = .ok (.bool false) w := by kernel_rfl
/-- Between two acts. -/
structure OncI (w0 wr : World) (p g bv bc bw bg k : Nat) (D : Nat → Option OpR) (last : Nat) (V : Nat → Option ByteArray) (C W : Nat → Option Nat) (G : Nat → Option Bool) : Prop where
  d : ∃ n, n ≤ k ∧ DeskAt wr p g n D last
  v : ∃ n, n ≤ k ∧ MpAt Try.prog 31 wr bv n (mpN encS V)
  c : ∃ n, n ≤ k ∧ MpAt Try.prog 31 wr bc n (mpN encU C)
  w : ∃ n, n ≤ k ∧ MpAt Try.prog 31 wr bw n (mpN encU W)
  gg : ∃ n, n ≤ k ∧ MpAt Try.prog 31 wr bg n (mpN encB G)
  bel : Below w0.heap.size w0 wr
  ord : w0.heap.size ≤ g ∧ g < p ∧ p < bv ∧ bv < bc ∧ bc < bw ∧ bw < bg ∧ bg < wr.heap.size
section
variable {w0 wr y : World} {p g bv bc bw bg k k' : Nat} {D D' : Nat → Option OpR} {last last' : Nat} {V V' : Nat → Option ByteArray} {C W C' W' : Nat → Option Nat} {G G' : Nat → Option Bool}
theorem OncI.mono (h : OncI w0 wr p g bv bc bw bg k D last V C W G) (hk : k ≤ k') : OncI w0 wr p g bv bc bw bg k' D last V C W G := by
  obtain ⟨n1, h1, d⟩ := h.d
  obtain ⟨n2, h2, v⟩ := h.v
  obtain ⟨n3, h3, c⟩ := h.c
  obtain ⟨n4, h4, e⟩ := h.w
  obtain ⟨n5, h5, g5⟩ := h.gg
  exact ⟨⟨n1, by omega, d⟩, ⟨n2, by omega, v⟩, ⟨n3, by omega, c⟩, ⟨n4, by omega, e⟩, ⟨n5, by omega, g5⟩, h.bel, h.ord⟩
theorem OncI.below (h : OncI w0 wr p g bv bc bw bg k D last V C W G) (hb : Below wr.heap.size wr y) : OncI w0 y p g bv bc bw bg k D last V C W G := by
  obtain ⟨n1, h1, d⟩ := h.d
  obtain ⟨n2, h2, v⟩ := h.v
  obtain ⟨n3, h3, c⟩ := h.c
  obtain ⟨n4, h4, e⟩ := h.w
  obtain ⟨n5, h5, g5⟩ := h.gg
  have o := h.ord
  have s := hb.size
  exact ⟨⟨n1, h1, d.below hb⟩, ⟨n2, h2, v.below hb⟩, ⟨n3, h3, c.below hb⟩, ⟨n4, h4, e.below hb⟩, ⟨n5, h5, g5.below hb⟩, h.bel.trans (hb.mono h.bel.size), by omega⟩
theorem OncI.desk (h : OncI w0 wr p g bv bc bw bg k D last V C W G) (hd : ∃ n, n ≤ k + 1 ∧ DeskAt y p g n D' last') (hb : ButTwo p g wr y) : OncI w0 y p g bv bc bw bg (k + 1) D' last' V C W G := by
  obtain ⟨n2, h2, v⟩ := h.v
  obtain ⟨n3, h3, c⟩ := h.c
  obtain ⟨n4, h4, e⟩ := h.w
  obtain ⟨n5, h5, g5⟩ := h.gg
  have o := h.ord
  have s := hb.size
  exact ⟨hd, ⟨n2, by omega, v.stay (hb.block bv v.lt (by omega) (by omega))⟩, ⟨n3, by omega, c.stay (hb.block bc c.lt (by omega) (by omega))⟩, ⟨n4, by omega, e.stay (hb.block bw e.lt (by omega) (by omega))⟩, ⟨n5, by omega, g5.stay (hb.block bg g5.lt (by omega) (by omega))⟩, hb.below h.bel h.bel.size (by omega) o.1, by omega⟩
theorem turned_size {w w' : World} {b : Nat} (h : w.mapTurned w' b) : w'.heap.size = w.heap.size := by
  obtain ⟨es, clock, es', clock', hb, rfl⟩ := h
  simp [setBlock]
theorem OncI.set_v (h : OncI w0 wr p g bv bc bw bg k D last V C W G) {n : Nat} (hn : n ≤ k + 1) (hm : MpAt Try.prog 31 y bv n (mpN encS V')) (ht : wr.mapTurned y bv) : OncI w0 y p g bv bc bw bg (k + 1) D last V' C W G := by
  obtain ⟨n1, h1, d⟩ := h.d
  obtain ⟨n3, h3, c⟩ := h.c
  obtain ⟨n4, h4, e⟩ := h.w
  obtain ⟨n5, h5, g5⟩ := h.gg
  have o := h.ord
  have s := turned_size ht
  exact ⟨⟨n1, by omega, d.stay (turned_block ht (by omega)) (turned_block ht (by omega))⟩, ⟨n, hn, hm⟩, ⟨n3, by omega, c.stay (turned_block ht (by omega))⟩, ⟨n4, by omega, e.stay (turned_block ht (by omega))⟩, ⟨n5, by omega, g5.stay (turned_block ht (by omega))⟩, turned_below ht h.bel (by omega), by omega⟩
theorem OncI.set_c (h : OncI w0 wr p g bv bc bw bg k D last V C W G) {n : Nat} (hn : n ≤ k + 1) (hm : MpAt Try.prog 31 y bc n (mpN encU C')) (ht : wr.mapTurned y bc) : OncI w0 y p g bv bc bw bg (k + 1) D last V C' W G := by
  obtain ⟨n1, h1, d⟩ := h.d
  obtain ⟨n2, h2, v⟩ := h.v
  obtain ⟨n4, h4, e⟩ := h.w
  obtain ⟨n5, h5, g5⟩ := h.gg
  have o := h.ord
  have s := turned_size ht
  exact ⟨⟨n1, by omega, d.stay (turned_block ht (by omega)) (turned_block ht (by omega))⟩, ⟨n2, by omega, v.stay (turned_block ht (by omega))⟩, ⟨n, hn, hm⟩, ⟨n4, by omega, e.stay (turned_block ht (by omega))⟩, ⟨n5, by omega, g5.stay (turned_block ht (by omega))⟩, turned_below ht h.bel (by omega), by omega⟩
theorem OncI.set_w (h : OncI w0 wr p g bv bc bw bg k D last V C W G) {n : Nat} (hn : n ≤ k + 1) (hm : MpAt Try.prog 31 y bw n (mpN encU W')) (ht : wr.mapTurned y bw) : OncI w0 y p g bv bc bw bg (k + 1) D last V C W' G := by
  obtain ⟨n1, h1, d⟩ := h.d
  obtain ⟨n2, h2, v⟩ := h.v
  obtain ⟨n3, h3, c⟩ := h.c
  obtain ⟨n5, h5, g5⟩ := h.gg
  have o := h.ord
  have s := turned_size ht
  exact ⟨⟨n1, by omega, d.stay (turned_block ht (by omega)) (turned_block ht (by omega))⟩, ⟨n2, by omega, v.stay (turned_block ht (by omega))⟩, ⟨n3, by omega, c.stay (turned_block ht (by omega))⟩, ⟨n, hn, hm⟩, ⟨n5, by omega, g5.stay (turned_block ht (by omega))⟩, turned_below ht h.bel (by omega), by omega⟩
theorem OncI.set_gg (h : OncI w0 wr p g bv bc bw bg k D last V C W G) {n : Nat} (hn : n ≤ k + 1) (hm : MpAt Try.prog 31 y bg n (mpN encB G')) (ht : wr.mapTurned y bg) : OncI w0 y p g bv bc bw bg (k + 1) D last V C W G' := by
  obtain ⟨n1, h1, d⟩ := h.d
  obtain ⟨n2, h2, v⟩ := h.v
  obtain ⟨n3, h3, c⟩ := h.c
  obtain ⟨n4, h4, e⟩ := h.w
  have o := h.ord
  have s := turned_size ht
  exact ⟨⟨n1, by omega, d.stay (turned_block ht (by omega)) (turned_block ht (by omega))⟩, ⟨n2, by omega, v.stay (turned_block ht (by omega))⟩, ⟨n3, by omega, c.stay (turned_block ht (by omega))⟩, ⟨n4, by omega, e.stay (turned_block ht (by omega))⟩, ⟨n, hn, hm⟩, turned_below ht h.bel (by omega), by omega⟩
end
/-- What makes the desk and the four maps. -/
theorem onc_start {w0 y : World} {p g : Nat} (hd : DeskAt y p g 0 (fun _ => none) 0) (hb : Below w0.heap.size w0 y) (hg : w0.heap.size ≤ g) (hp : g < p) :
    OncI w0 ((((y.alloc (.map #[] 0)).alloc (.map #[] 0)).alloc (.map #[] 0)).alloc (.map #[] 0)) p g y.heap.size (y.heap.size + 1) (y.heap.size + 2) (y.heap.size + 3) 0 (fun _ => none) 0 (fun _ => none) (fun _ => none) (fun _ => none) (fun _ => none) := by
  have b1 := (Below.refl y.heap.size y).alloc (Nat.le_refl _) (.map #[] 0)
  have s1 : (y.alloc (.map #[] 0)).heap.size = y.heap.size + 1 := by simp
  have m1 := mp_new Try.prog 31 y
  generalize y.alloc (.map #[] 0) = y1 at *
  have b2 := (Below.refl y1.heap.size y1).alloc (Nat.le_refl _) (.map #[] 0)
  have s2 : (y1.alloc (.map #[] 0)).heap.size = y1.heap.size + 1 := by simp
  have m2 := mp_new Try.prog 31 y1
  generalize y1.alloc (.map #[] 0) = y2 at *
  have b3 := (Below.refl y2.heap.size y2).alloc (Nat.le_refl _) (.map #[] 0)
  have s3 : (y2.alloc (.map #[] 0)).heap.size = y2.heap.size + 1 := by simp
  have m3 := mp_new Try.prog 31 y2
  generalize y2.alloc (.map #[] 0) = y3 at *
  have b4 := (Below.refl y3.heap.size y3).alloc (Nat.le_refl _) (.map #[] 0)
  have s4 : (y3.alloc (.map #[] 0)).heap.size = y3.heap.size + 1 := by simp
  have m4 := mp_new Try.prog 31 y3
  generalize y3.alloc (.map #[] 0) = y4 at *
  have hlt := hd.lt
  rw [s3, s2, s1] at m4
  rw [s2, s1] at m3
  rw [s1] at m2
  have hd4 := (((hd.below b1).below b2).below b3).below b4
  refine ⟨⟨0, Nat.le_refl _, hd4⟩, ⟨0, Nat.le_refl _, ?_⟩, ⟨0, Nat.le_refl _, ?_⟩, ⟨0, Nat.le_refl _, ?_⟩, ⟨0, Nat.le_refl _, ?_⟩, ?_, ?_⟩
  · rw [mpN_none]; exact ((m1.below b2).below b3).below b4
  · rw [mpN_none]; exact (m2.below b3).below b4
  · rw [mpN_none]; exact m3.below b4
  · rw [mpN_none]; exact m4
  · have e1 : Below w0.heap.size w0 y1 := hb.trans (b1.mono hb.size)
    have e2 : Below w0.heap.size w0 y2 := e1.trans (b2.mono e1.size)
    have e3 : Below w0.heap.size w0 y3 := e2.trans (b3.mono e2.size)
    exact e3.trans (b4.mono e3.size)
  · omega
end Go.Proofs.Ytoleiiicbnmhpaa
