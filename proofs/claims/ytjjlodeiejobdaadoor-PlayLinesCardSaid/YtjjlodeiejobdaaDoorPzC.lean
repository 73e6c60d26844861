/- Play: the law PlayBack, walked. Condition: the rows lie there; the library's variables hold what the program's text lays. -/
import Derived.Test.YtjjlodeiejobdaaDoorPzB
namespace Go.Proofs.YtjjlodeiejobdaaDoor
open Go.RowKit Go.Shelf Go.Deep
theorem quo_100 {l : Bs} (h : l.length ≤ 100) : (quoL l).length ≤ 300 := by
  unfold quoL
  split
  · decide
  · have := quo_len l; omega
theorem fld_100 {s : StpV} (hok : s.Ok) (hf : s.y.length ≤ 100 ∧ s.o.length ≤ 100 ∧ s.n.length ≤ 100) {w : Bs} (hw : w.length ≤ 300) (c : UInt8) : (fldL s w c).length ≤ 300 := by
  unfold fldL
  repeat' split
  · have := dec_len hok.a; omega
  · have := dec_len hok.b; omega
  · have := Lib.itoa_length_le s.k hok.k.1 hok.k.2; omega
  · exact quo_100 hf.1
  · exact quo_100 hf.2.1
  · exact quo_100 hf.2.2
  · have := dec_len hok.st; omega
  · exact hw
theorem line_100 {s : StpV} (hok : s.Ok) (hf : s.y.length ≤ 100 ∧ s.o.length ≤ 100 ∧ s.n.length ≤ 100) {l : Bs} (h : sayL s = some l) : l.length ≤ 1806 := by
  obtain ⟨f, _, hm, rfl⟩ := say_of h
  obtain ⟨h1, h2⟩ := ft_len f hm
  have h3 := joi_le (c := 32) (B := 300) (l := (if f.d = 12 then INV else f.w) :: f.t.map (fldL s f.w)) (fun p hp => by
    rcases List.mem_cons.1 hp with rfl | hp
    · split
      · exact Nat.le_trans (show INV.length ≤ 6 by decide) (by decide)
      · omega
    · obtain ⟨c, _, rfl⟩ := List.mem_map.1 hp
      exact fld_100 hok hf (by omega) c)
  rw [List.length_cons, List.length_map] at h3
  have h4 : (f.t.length + 1) * 301 ≤ 6 * 301 := Nat.mul_le_mul_right _ (by omega)
  exact Nat.le_trans h3 (by omega)
theorem out_len : ∀ {z : List StpV}, (∀ s ∈ z, s.Ok) → (∀ s ∈ z, s.y.length ≤ 100 ∧ s.o.length ≤ 100 ∧ s.n.length ≤ 100) → (outL z).length ≤ z.length * 1807
  | [], _, _ => Nat.zero_le _
  | s :: r, hok, hf => by
    have ih := out_len (z := r) (fun t ht => hok t (List.mem_cons_of_mem _ ht)) (fun t ht => hf t (List.mem_cons_of_mem _ ht))
    have h1 : ((sayL s).getD []).length ≤ 1806 := by
      cases hl : sayL s with
      | none => exact Nat.zero_le _
      | some l => exact line_100 (hok s (List.mem_cons_self ..)) (hf s (List.mem_cons_self ..)) hl
    show (((sayL s).getD [] ++ [10]) ++ outL r).length ≤ _
    rw [List.length_append, List.length_append, List.length_singleton, List.length_cons, Nat.succ_mul]
    omega
theorem sl_take {w : World} {a : Option Addr} {la j : Nat} {z : List StpV} (h : SlAt w a la z) (hj : j ≤ la) : SlAt w a j (z.take j) := by
  refine ⟨by rw [List.length_take, h.hlen]; omega, Nat.le_trans hj h.hmax, fun i x hx => ?_⟩
  have hi : i < j := by
    have := (List.getElem?_eq_some_iff.1 hx).1
    rw [List.length_take] at this
    omega
  rw [List.getElem?_take, if_pos hi] at hx
  exact h.cells i x hx
theorem same_tt {a b : Option Addr} {la c d : Nat} {lb : Nat} {z : List StpV} {w : World} (h1 : SlAt w a la z) (h2 : SlAt w b lb z) : Calls Tryd.prog 13 #[.slice a la c, .slice b lb d] w (OneB true w) := by
  have h := same_any a b la c lb d z z w h1 h2
  rwa [decide_eq_true rfl] at h
/-- What the law knows of its steps. -/
structure Small (z : List StpV) : Prop where
  len : z.length ≤ 500
  ok : ∀ s ∈ z, s.Ok
  txt : ∀ s ∈ z, s.y.length ≤ 100 ∧ s.o.length ≤ 100 ∧ s.n.length ≤ 100
theorem Small.mid {z : List StpV} (h : Small z) : ∀ s ∈ z, s.Mid := fun s hs => ⟨by have := (h.txt s hs).1; omega, by have := (h.txt s hs).2.1; omega, by have := (h.txt s hs).2.2; omega⟩
theorem Small.take {z : List StpV} (h : Small z) (j : Nat) : Small (z.take j) := ⟨by have := h.len; rw [List.length_take]; omega, fun s hs => h.ok s (List.mem_of_mem_take hs), fun s hs => h.txt s (List.mem_of_mem_take hs)⟩
def WrB (z : List StpV) (w : World) (e : Ending) (w' : World) : Prop := e = .returned (.tuple #[.string ⟨(outL z).toArray⟩, .int .i64 0, .int .i64 0]) ∧ Below w.heap.size w w'
theorem write_all {a : Option Addr} {len cap : Nat} {z : List StpV} (hs : z.length ≤ 100000 ∧ (∀ s ∈ z, s.Ok) ∧ ∀ s ∈ z, s.Mid) (ha : AllS z) {w : World} (hz : SlAt w a len z) (hv : PV w) :
    Calls Tryd.prog 9 #[.slice a len cap] w (WrB z w) :=
  (Write_all a len cap z (by have := hz.hlen; omega) hs.2.1 hs.2.2 w hz hv).mono fun e w' h => ⟨(h.to (wr_all ha)).2, (h.to (wr_all ha)).1⟩
theorem Small.wr {z : List StpV} (h : Small z) : z.length ≤ 100000 ∧ (∀ s ∈ z, s.Ok) ∧ ∀ s ∈ z, s.Mid := ⟨by have := h.len; omega, h.ok, h.mid⟩
theorem write_cut {a : Option Addr} {len cap : Nat} {z : List StpV} (hs : Small z) {j : Nat} (hj : wrL z 0 [] = ([], 0 + j + 1, 2)) {w : World} (hz : SlAt w a len z) (hv : PV w) :
    Calls Tryd.prog 9 #[.slice a len cap] w fun e w' => e = .returned (.tuple #[.string ⟨#[]⟩, .int .i64 ((j : Int) + 1), .int .i64 2]) ∧ Below w.heap.size w w' :=
  (Write_all a len cap z (by have := hz.hlen; have := hs.len; omega) hs.ok hs.mid w hz hv).mono fun e w' h => ⟨by have q := (h.to hj).2; rw [Nat.zero_add] at q; exact q, (h.to hj).1⟩
theorem parse_out {z : List StpV} (hs : Small z) (ha : AllS z) (w : World) (hv : PV w) :
    Calls Tryd.prog 11 #[.string ⟨(outL z).toArray⟩] w (PrsR (if z.length ≤ 400 then (z, 0, 0) else ([], 401, 6)) w) := by
  have h := Parse_any ⟨(outL z).toArray⟩ (by have h1 := out_len hs.ok hs.txt; have h2 := hs.len; show (outL z).toArray.size ≤ _; rw [List.size_toArray]; have h3 : z.length * 1807 ≤ 500 * 1807 := Nat.mul_le_mul_right _ h2; omega) w hv
  rwa [prs_out ha hs.ok] at h
set_option maxRecDepth 100000 in
set_option maxHeartbeats 16000000 in
theorem back_any (a : Option Addr) (la ca : Nat) (z : List StpV) (x : ByteArray) (hok : ∀ s ∈ z, s.Ok) (hca : la ≤ ca) (w : World) (hz : SlAt w a la z) (hv : PV w) :
    Calls Tryd.prog 5 #[.slice a la ca, .string x] w (OneB true w) := by
  have HPV := Lib.hid (PVB.of hv)
  have Hz := Lib.hid hz
  have Hca := Lib.hid hca
  have Hok := Lib.hid hok
  have HG := Lib.hid (great_any a la ca z w hz)
  clear hv hz hca hok
  cases hg : greatS z with
  | true =>
    rw [hg] at HG
    clear hg
    go_enter Tryd.func5, Tryd.ntmps5
    go_upto_region 2 with (go_at_call 7; refine HG.out.mono ?_; rintro e w1 ⟨rfl, hb1⟩; have HB1 := Lib.hid hb1; have HW := Lib.hid (wakes_any w1 (HPV.out.on hb1).here); clear hb1)
    go_wp2_with (go_at_call 8; refine HW.out.mono ?_; rintro e w2 ⟨rfl, hb2⟩; have H2 := Lib.hid (HB1.out.trans (hb2.mono HB1.out.size)); clear hb2)
    go_ret
    exact .of H2.out rfl
  | false =>
    have hn := great_no hg
    rw [hg] at HG
    have HS := Lib.hid (show Small z from ⟨hn.1, Hok.out, hn.2⟩)
    clear hg hn
    by_cases h3 : 30000 < x.size
    · have h3' : (x.size : Int) > 30000 := by omega
      go_enter Tryd.func5, Tryd.ntmps5
      go_upto_region 2 with (go_at_call 7; refine HG.out.mono ?_; rintro e w1 ⟨rfl, hb1⟩; have HB1 := Lib.hid hb1; have HW := Lib.hid (wakes_any w1 (HPV.out.on hb1).here); clear hb1)
      go_wp2_with (go_at_call 8; refine HW.out.mono ?_; rintro e w2 ⟨rfl, hb2⟩; have H2 := Lib.hid (HB1.out.trans (hb2.mono HB1.out.size)); clear hb2)
      go_ret
      exact .of H2.out rfl
    · have h3' : ¬ (x.size : Int) > 30000 := by omega
      have HX := Lib.hid (show x.size ≤ 30000 by omega)
      clear h3
      go_enter Tryd.func5, Tryd.ntmps5
      go_upto_region 3 with (go_at_call 7; refine HG.out.mono ?_; rintro e w1 ⟨rfl, hb1⟩; have HB1 := Lib.hid hb1; have Hz1 := Lib.hid (Hz.out.below hb1); have HV1 := Lib.hid (HPV.out.on hb1).here; clear hb1)
      clear HG h3'
      by_cases hall : AllS z
      · have HW := Lib.hid (write_all (cap := ca) HS.out.wr hall Hz1.out HV1.out)
        have HA := Lib.hid hall
        clear hall
        go_upto_region 9 with (go_at_call 9; refine HW.out.mono ?_; rintro e w2 ⟨rfl, hb2⟩; have H2 := Lib.hid (And.intro (HB1.out.trans (hb2.mono HB1.out.size)) (Hz1.out.below hb2)); clear hb2)
        have hzl := H2.out.2.hlen
        have HP := Lib.hid (parse_out HS.out HA.out w2 (HPV.out.on H2.out.1).here)
        by_cases h4 : z.length ≤ 400
        · rw [if_pos h4] at HP
          have h4' : (la : Int) ≤ 400 := by omega
          have h5' : ¬ (la : Int) > 400 := by omega
          clear h4 hzl
          go_upto_region 12 with (go_at_call 11; refine HP.out.mono ?_; rintro e w3 q3; obtain ⟨hb3, A3, c3, rfl, h3s⟩ := q3.to rfl; have H3 := Lib.hid (And.intro (H2.out.1.trans (hb3.mono H2.out.1.size)) (And.intro (H2.out.2.below hb3) h3s)); have HSM := Lib.hid (same_tt (c := c3) (d := ca) h3s (H2.out.2.below hb3)); clear hb3 q3 h3s)
          clear HP
          go_upto_region 14 with (go_at_call 13; refine HSM.out.mono ?_; rintro e w4 ⟨rfl, hb4⟩; have H4 := Lib.hid (H3.out.1.trans (hb4.mono H3.out.1.size)); clear hb4)
          clear HSM
          have HP := Lib.hid (Parse_any x (by have := HX.out; omega) w4 (HPV.out.on H4.out).here)
          rcases prs_back x with ⟨y, hp, hya, hyo, hyl, hyw, hym⟩ | ⟨n, k, hp, hn, hk⟩
          · rw [hp] at HP
            have HY := Lib.hid (show y.length ≤ 100000 ∧ (∀ s ∈ y, s.Ok) ∧ ∀ s ∈ y, s.Mid from ⟨by omega, hyo, fun s hs => by
              obtain ⟨l, hl⟩ := Option.isSome_iff_exists.1 (hya s hs)
              have h1 := hym s hs l hl
              have h2 := say_mid hl
              have h3 := HX.out
              exact ⟨by omega, by omega, by omega⟩⟩)
            have HYA := Lib.hid hya
            have HYW := Lib.hid hyw
            clear hp hya hyo hyl hyw hym
            go_upto_region 15 with (go_at_call 11; refine HP.out.mono ?_; rintro e w5 q5; obtain ⟨hb5, A5, c5, rfl, h5s⟩ := q5.to rfl; have H5 := Lib.hid (And.intro (H4.out.trans (hb5.mono H4.out.size)) h5s); clear hb5 q5 h5s)
            clear HP
            have HW2 := Lib.hid (write_all (cap := c5) HY.out HYA.out H5.out.2 (HPV.out.on H5.out.1).here)
            unfold WrB at HW2
            rw [HYW.out] at HW2
            have HSD := Lib.hid (fun (v : World) => said31_any x (by have := HX.out; omega) v)
            go_upto_region 18 with (go_at_call 9; refine HW2.out.mono ?_; rintro e w6 ⟨rfl, hb6⟩; have H6 := Lib.hid (H5.out.1.trans (hb6.mono H5.out.1.size)); have HWK := Lib.hid (wakes_any w6 (HPV.out.on (H5.out.1.trans (hb6.mono H5.out.1.size))).here); clear hb6)
            clear HW2
            go_wp2_with (first
              | (go_at_call 14; refine (HSD.out _).mono ?_; rintro e w7 ⟨rfl, rfl⟩)
              | (go_at_call 8; refine HWK.out.mono ?_; rintro e w8 ⟨rfl, hb8⟩; have H8 := Lib.hid (H6.out.trans (hb8.mono H6.out.size)); clear hb8))
            go_ret
            exact .of H8.out rfl
          · rw [hp] at HP
            clear hp
            have hn' : (n : Int) > 0 := by omega
            go_upto_region 15 with (go_at_call 11; refine HP.out.mono ?_; rintro e w5 q5; obtain ⟨hb5, A5, c5, rfl, h5s⟩ := q5.to rfl; have H5 := Lib.hid (H4.out.trans (hb5.mono H4.out.size)); have HWK := Lib.hid (wakes_any w5 (HPV.out.on (H4.out.trans (hb5.mono H4.out.size))).here); clear hb5 q5 h5s)
            clear HP
            rcases hk with rfl | rfl
            · go_wp2_with (go_at_call 8; refine HWK.out.mono ?_; rintro e w8 ⟨rfl, hb8⟩; have H8 := Lib.hid (H5.out.trans (hb8.mono H5.out.size)); clear hb8)
              go_ret
              exact .of H8.out rfl
            · go_wp2_with (go_at_call 8; refine HWK.out.mono ?_; rintro e w8 ⟨rfl, hb8⟩; have H8 := Lib.hid (H5.out.trans (hb8.mono H5.out.size)); clear hb8)
              go_ret
              exact .of H8.out rfl
        · rw [if_neg h4] at HP
          have h4' : ¬ (la : Int) ≤ 400 := by omega
          have h5' : (la : Int) > 400 := by omega
          clear h4 hzl
          go_upto_region 12 with (go_at_call 11; refine HP.out.mono ?_; rintro e w4 q3; obtain ⟨hb3, A3, c3, rfl, h3s⟩ := q3.to rfl; have H4 := Lib.hid (H2.out.1.trans (hb3.mono H2.out.1.size)); clear hb3 q3 h3s)
          clear HP
          go_upto_region 14 with fail
          have HP := Lib.hid (Parse_any x (by have := HX.out; omega) w4 (HPV.out.on H4.out).here)
          rcases prs_back x with ⟨y, hp, hya, hyo, hyl, hyw, hym⟩ | ⟨n, k, hp, hn, hk⟩
          · rw [hp] at HP
            have HY := Lib.hid (show y.length ≤ 100000 ∧ (∀ s ∈ y, s.Ok) ∧ ∀ s ∈ y, s.Mid from ⟨by omega, hyo, fun s hs => by
              obtain ⟨l, hl⟩ := Option.isSome_iff_exists.1 (hya s hs)
              have h1 := hym s hs l hl
              have h2 := say_mid hl
              have h3 := HX.out
              exact ⟨by omega, by omega, by omega⟩⟩)
            have HYA := Lib.hid hya
            have HYW := Lib.hid hyw
            clear hp hya hyo hyl hyw hym
            go_upto_region 15 with (go_at_call 11; refine HP.out.mono ?_; rintro e w5 q5; obtain ⟨hb5, A5, c5, rfl, h5s⟩ := q5.to rfl; have H5 := Lib.hid (And.intro (H4.out.trans (hb5.mono H4.out.size)) h5s); clear hb5 q5 h5s)
            clear HP
            have HW2 := Lib.hid (write_all (cap := c5) HY.out HYA.out H5.out.2 (HPV.out.on H5.out.1).here)
            unfold WrB at HW2
            rw [HYW.out] at HW2
            have HSD := Lib.hid (fun (v : World) => said31_any x (by have := HX.out; omega) v)
            go_upto_region 18 with (go_at_call 9; refine HW2.out.mono ?_; rintro e w6 ⟨rfl, hb6⟩; have H6 := Lib.hid (H5.out.1.trans (hb6.mono H5.out.1.size)); have HWK := Lib.hid (wakes_any w6 (HPV.out.on (H5.out.1.trans (hb6.mono H5.out.1.size))).here); clear hb6)
            clear HW2
            go_wp2_with (first
              | (go_at_call 14; refine (HSD.out _).mono ?_; rintro e w7 ⟨rfl, rfl⟩)
              | (go_at_call 8; refine HWK.out.mono ?_; rintro e w8 ⟨rfl, hb8⟩; have H8 := Lib.hid (H6.out.trans (hb8.mono H6.out.size)); clear hb8))
            go_ret
            exact .of H8.out rfl
          · rw [hp] at HP
            clear hp
            have hn' : (n : Int) > 0 := by omega
            go_upto_region 15 with (go_at_call 11; refine HP.out.mono ?_; rintro e w5 q5; obtain ⟨hb5, A5, c5, rfl, h5s⟩ := q5.to rfl; have H5 := Lib.hid (H4.out.trans (hb5.mono H4.out.size)); have HWK := Lib.hid (wakes_any w5 (HPV.out.on (H4.out.trans (hb5.mono H4.out.size))).here); clear hb5 q5 h5s)
            clear HP
            rcases hk with rfl | rfl
            · go_wp2_with (go_at_call 8; refine HWK.out.mono ?_; rintro e w8 ⟨rfl, hb8⟩; have H8 := Lib.hid (H5.out.trans (hb8.mono H5.out.size)); clear hb8)
              go_ret
              exact .of H8.out rfl
            · go_wp2_with (go_at_call 8; refine HWK.out.mono ?_; rintro e w8 ⟨rfl, hb8⟩; have H8 := Lib.hid (H5.out.trans (hb8.mono H5.out.size)); clear hb8)
              go_ret
              exact .of H8.out rfl
      · obtain ⟨j, hj, htk, hwr⟩ := wr_cut (i := 0) (acc := []) hall
        have hla := Hz.out.hlen
        have hjl : j < la := by omega
        obtain ⟨s0, hs0⟩ : ∃ s, z[j]? = some s := ⟨_, List.getElem?_eq_getElem hj⟩
        obtain ⟨b0, o0, rfl, hx1, hx2⟩ := sl_row Hz1.out hs0
        clear hx1 hx2
        have HW := Lib.hid (write_cut (cap := ca) HS.out hwr Hz1.out HV1.out)
        have hq1 : ¬ ((j : Int) + 1 < 1) := by omega
        have hq2 : ¬ ((j : Int) + 1 > (la : Int)) := by omega
        have hw0 : wrap64 (j : Int) = (j : Int) := by have := HS.out.len; unfold wrap64; omega
        have hc1 : j ≤ ca := by have := Hca.out; omega
        have HJ := Lib.hid (And.intro htk (show j ≤ la by omega))
        clear hall htk hwr hs0 hj hla hjl s0
        go_upto_region 4 with (go_at_call 9; refine HW.out.mono ?_; rintro e w1b ⟨rfl, hb2⟩; have H1 := Lib.hid (And.intro (HB1.out.trans (hb2.mono HB1.out.size)) (Hz1.out.below hb2)); clear hb2)
        clear HW
        go_upto_region 8 with fail
        obtain ⟨Zt, hZt⟩ : ∃ Zt, Zt = z.take j := ⟨_, rfl⟩
        have HST := Lib.hid (show Small Zt by rw [hZt]; exact HS.out.take j)
        have HA := Lib.hid (show AllS Zt by rw [hZt]; exact HJ.out.1)
        have H1z := Lib.hid (show SlAt w1b (some ⟨b0, o0, none⟩) j Zt by rw [hZt]; exact sl_take H1.out.2 HJ.out.2)
        clear hZt
        have HW := Lib.hid (write_all (cap := ca) HST.out.wr HA.out H1z.out (HPV.out.on H1.out.1).here)
        go_upto_region 9 with (go_at_call 9; refine HW.out.mono ?_; rintro e w2 ⟨rfl, hb2⟩; have H2 := Lib.hid (And.intro (H1.out.1.trans (hb2.mono H1.out.1.size)) (H1z.out.below hb2)); clear hb2)
        clear HW
        have hzl := H2.out.2.hlen
        have HP := Lib.hid (parse_out HST.out HA.out w2 (HPV.out.on H2.out.1).here)
        by_cases h4 : Zt.length ≤ 400
        · rw [if_pos h4] at HP
          have h4' : (j : Int) ≤ 400 := by omega
          have h5' : ¬ (j : Int) > 400 := by omega
          clear h4 hzl
          go_upto_region 12 with (go_at_call 11; refine HP.out.mono ?_; rintro e w3 q3; obtain ⟨hb3, A3, c3, rfl, h3s⟩ := q3.to rfl; have H3 := Lib.hid (And.intro (H2.out.1.trans (hb3.mono H2.out.1.size)) (And.intro (H2.out.2.below hb3) h3s)); have HSM := Lib.hid (same_tt (c := c3) (d := ca) h3s (H2.out.2.below hb3)); clear hb3 q3 h3s)
          clear HP
          go_upto_region 14 with (go_at_call 13; refine HSM.out.mono ?_; rintro e w4 ⟨rfl, hb4⟩; have H4 := Lib.hid (H3.out.1.trans (hb4.mono H3.out.1.size)); clear hb4)
          clear HSM
          have HP := Lib.hid (Parse_any x (by have := HX.out; omega) w4 (HPV.out.on H4.out).here)
          rcases prs_back x with ⟨y, hp, hya, hyo, hyl, hyw, hym⟩ | ⟨n, k, hp, hn, hk⟩
          · rw [hp] at HP
            have HY := Lib.hid (show y.length ≤ 100000 ∧ (∀ s ∈ y, s.Ok) ∧ ∀ s ∈ y, s.Mid from ⟨by omega, hyo, fun s hs => by
              obtain ⟨l, hl⟩ := Option.isSome_iff_exists.1 (hya s hs)
              have h1 := hym s hs l hl
              have h2 := say_mid hl
              have h3 := HX.out
              exact ⟨by omega, by omega, by omega⟩⟩)
            have HYA := Lib.hid hya
            have HYW := Lib.hid hyw
            clear hp hya hyo hyl hyw hym
            go_upto_region 15 with (go_at_call 11; refine HP.out.mono ?_; rintro e w5 q5; obtain ⟨hb5, A5, c5, rfl, h5s⟩ := q5.to rfl; have H5 := Lib.hid (And.intro (H4.out.trans (hb5.mono H4.out.size)) h5s); clear hb5 q5 h5s)
            clear HP
            have HW2 := Lib.hid (write_all (cap := c5) HY.out HYA.out H5.out.2 (HPV.out.on H5.out.1).here)
            unfold WrB at HW2
            rw [HYW.out] at HW2
            have HSD := Lib.hid (fun (v : World) => said31_any x (by have := HX.out; omega) v)
            go_upto_region 18 with (go_at_call 9; refine HW2.out.mono ?_; rintro e w6 ⟨rfl, hb6⟩; have H6 := Lib.hid (H5.out.1.trans (hb6.mono H5.out.1.size)); have HWK := Lib.hid (wakes_any w6 (HPV.out.on (H5.out.1.trans (hb6.mono H5.out.1.size))).here); clear hb6)
            clear HW2
            go_wp2_with (first
              | (go_at_call 14; refine (HSD.out _).mono ?_; rintro e w7 ⟨rfl, rfl⟩)
              | (go_at_call 8; refine HWK.out.mono ?_; rintro e w8 ⟨rfl, hb8⟩; have H8 := Lib.hid (H6.out.trans (hb8.mono H6.out.size)); clear hb8))
            go_ret
            exact .of H8.out rfl
          · rw [hp] at HP
            clear hp
            have hn' : (n : Int) > 0 := by omega
            go_upto_region 15 with (go_at_call 11; refine HP.out.mono ?_; rintro e w5 q5; obtain ⟨hb5, A5, c5, rfl, h5s⟩ := q5.to rfl; have H5 := Lib.hid (H4.out.trans (hb5.mono H4.out.size)); have HWK := Lib.hid (wakes_any w5 (HPV.out.on (H4.out.trans (hb5.mono H4.out.size))).here); clear hb5 q5 h5s)
            clear HP
            rcases hk with rfl | rfl
            · go_wp2_with (go_at_call 8; refine HWK.out.mono ?_; rintro e w8 ⟨rfl, hb8⟩; have H8 := Lib.hid (H5.out.trans (hb8.mono H5.out.size)); clear hb8)
              go_ret
              exact .of H8.out rfl
            · go_wp2_with (go_at_call 8; refine HWK.out.mono ?_; rintro e w8 ⟨rfl, hb8⟩; have H8 := Lib.hid (H5.out.trans (hb8.mono H5.out.size)); clear hb8)
              go_ret
              exact .of H8.out rfl
        · rw [if_neg h4] at HP
          have h4' : ¬ (j : Int) ≤ 400 := by omega
          have h5' : (j : Int) > 400 := by omega
          clear h4 hzl
          go_upto_region 12 with (go_at_call 11; refine HP.out.mono ?_; rintro e w4 q3; obtain ⟨hb3, A3, c3, rfl, h3s⟩ := q3.to rfl; have H4 := Lib.hid (H2.out.1.trans (hb3.mono H2.out.1.size)); clear hb3 q3 h3s)
          clear HP
          go_upto_region 14 with fail
          have HP := Lib.hid (Parse_any x (by have := HX.out; omega) w4 (HPV.out.on H4.out).here)
          rcases prs_back x with ⟨y, hp, hya, hyo, hyl, hyw, hym⟩ | ⟨n, k, hp, hn, hk⟩
          · rw [hp] at HP
            have HY := Lib.hid (show y.length ≤ 100000 ∧ (∀ s ∈ y, s.Ok) ∧ ∀ s ∈ y, s.Mid from ⟨by omega, hyo, fun s hs => by
              obtain ⟨l, hl⟩ := Option.isSome_iff_exists.1 (hya s hs)
              have h1 := hym s hs l hl
              have h2 := say_mid hl
              have h3 := HX.out
              exact ⟨by omega, by omega, by omega⟩⟩)
            have HYA := Lib.hid hya
            have HYW := Lib.hid hyw
            clear hp hya hyo hyl hyw hym
            go_upto_region 15 with (go_at_call 11; refine HP.out.mono ?_; rintro e w5 q5; obtain ⟨hb5, A5, c5, rfl, h5s⟩ := q5.to rfl; have H5 := Lib.hid (And.intro (H4.out.trans (hb5.mono H4.out.size)) h5s); clear hb5 q5 h5s)
            clear HP
            have HW2 := Lib.hid (write_all (cap := c5) HY.out HYA.out H5.out.2 (HPV.out.on H5.out.1).here)
            unfold WrB at HW2
            rw [HYW.out] at HW2
            have HSD := Lib.hid (fun (v : World) => said31_any x (by have := HX.out; omega) v)
            go_upto_region 18 with (go_at_call 9; refine HW2.out.mono ?_; rintro e w6 ⟨rfl, hb6⟩; have H6 := Lib.hid (H5.out.1.trans (hb6.mono H5.out.1.size)); have HWK := Lib.hid (wakes_any w6 (HPV.out.on (H5.out.1.trans (hb6.mono H5.out.1.size))).here); clear hb6)
            clear HW2
            go_wp2_with (first
              | (go_at_call 14; refine (HSD.out _).mono ?_; rintro e w7 ⟨rfl, rfl⟩)
              | (go_at_call 8; refine HWK.out.mono ?_; rintro e w8 ⟨rfl, hb8⟩; have H8 := Lib.hid (H6.out.trans (hb8.mono H6.out.size)); clear hb8))
            go_ret
            exact .of H8.out rfl
          · rw [hp] at HP
            clear hp
            have hn' : (n : Int) > 0 := by omega
            go_upto_region 15 with (go_at_call 11; refine HP.out.mono ?_; rintro e w5 q5; obtain ⟨hb5, A5, c5, rfl, h5s⟩ := q5.to rfl; have H5 := Lib.hid (H4.out.trans (hb5.mono H4.out.size)); have HWK := Lib.hid (wakes_any w5 (HPV.out.on (H4.out.trans (hb5.mono H4.out.size))).here); clear hb5 q5 h5s)
            clear HP
            rcases hk with rfl | rfl
            · go_wp2_with (go_at_call 8; refine HWK.out.mono ?_; rintro e w8 ⟨rfl, hb8⟩; have H8 := Lib.hid (H5.out.trans (hb8.mono H5.out.size)); clear hb8)
              go_ret
              exact .of H8.out rfl
            · go_wp2_with (go_at_call 8; refine HWK.out.mono ?_; rintro e w8 ⟨rfl, hb8⟩; have H8 := Lib.hid (H5.out.trans (hb8.mono H5.out.size)); clear hb8)
              go_ret
              exact .of H8.out rfl
end Go.Proofs.YtjjlodeiejobdaaDoor
