/- Play: write. Condition: the step's texts are not too long; the library's variables hold what the program's text lays. -/
import Derived.Lib.ItoaLen
import Derived.Deep.AppendLies
import Derived.Test.YtjjlodeiejobdaaDoorZPlayWrites6
import Derived.Test.YtjjlodeiejobdaaDoorZPlayWrites1
namespace Go.Proofs.YtjjlodeiejobdaaDoor
open Go.RowKit Go.Shelf
open Go.Maps (Keyed)
open Go.ChangeMaps Go.MapKept
/-- What write tells. -/
def WriteR (R : Option Bs) (w : World) (e : Ending) (w' : World) : Prop := Below w.heap.size w w' ∧ match R with
  | some l => e = .returned (.tuple #[.string ⟨l.toArray⟩, .bool true])
  | none => e = .returned (.tuple #[.string ⟨#[]⟩, .bool false])
theorem WriteR.good {R : Option Bs} {w w' : World} {l : Bs} (hb : Below w.heap.size w w') (h : R = some l) : WriteR R w (.returned (.tuple #[.string ⟨l.toArray⟩, .bool true])) w' := by
  subst h
  exact ⟨hb, rfl⟩
theorem WriteR.bad {R : Option Bs} {w w' : World} (hb : Below w.heap.size w w') (h : R = none) : WriteR R w (.returned (.tuple #[.string ⟨#[]⟩, .bool false])) w' := by
  subst h
  exact ⟨hb, rfl⟩
theorem formS_none {d kd : Nat} (h : ∀ f ∈ FT, ¬ (f.d = d ∧ f.k = kd)) : formS d kd = none := by
  unfold formS
  rw [List.find?_eq_none]
  intro f hf
  simpa using h f hf
theorem formS_some {d kd : Nat} {f : FormV} (hf : f ∈ FT) (h : f.d = d ∧ f.k = kd) : formS d kd = some f := by
  obtain ⟨rfl, rfl⟩ := h
  exact (ft_ok f hf).2.2.2.2.2.1
def strV (l : Bs) : Value := .string ⟨l.toArray⟩
theorem dec_len {u : Nat} (h : u < 256) : (Lib.decDigits u).length ≤ 20 := by
  rw [Lib.decDigits_length]
  by_cases h0 : u = 0
  · subst h0
    rw [Lib.nDigits, dif_pos (by decide)]
    decide
  · have := Lib.numDigits_eq u (by omega) (by omega)
    split at this <;> omega
theorem quo_most {l : Bs} (h : l.length ≤ 100000) : (quoL l).length ≤ 400000 := by
  unfold quoL
  split
  · decide
  · have := quo_len l; omega
theorem fld_len {s : StpV} (hok : s.Ok) (hf : s.Few) {w : Bs} (hw : w.length ≤ 400000) (c : UInt8) : (fldL s w c).length ≤ 400000 := by
  unfold fldL
  repeat' split
  · have := dec_len hok.a; omega
  · have := dec_len hok.b; omega
  · have := Lib.itoa_length_le s.k hok.k.1 hok.k.2; omega
  · exact quo_most hf.y
  · exact quo_most hf.o
  · exact quo_most hf.n
  · have := dec_len hok.st; omega
  · exact hw
theorem joi_le {c : UInt8} {B : Nat} : ∀ {l : List Bs}, (∀ p ∈ l, p.length ≤ B) → (joiL c l).length ≤ l.length * (B + 1)
  | [], _ => Nat.zero_le _
  | [x], h => by have := h x (List.mem_cons_self ..); simp [joiL]; omega
  | x :: y :: r, h => by
    have ih := joi_le (c := c) (l := y :: r) (fun p hp => h p (List.mem_cons_of_mem _ hp))
    have hx := h x (List.mem_cons_self ..)
    rw [joiL, List.length_append, List.length_cons, List.length_cons (a := x), Nat.succ_mul]
    omega
theorem ft_len : ∀ f ∈ FT, f.t.length ≤ 5 ∧ f.w.length ≤ 8 := by decide
theorem infoS : (Tryd.prog.info? 9).map (fun i => (i.zero, i.size, i.bytes)) = some (some (.string ByteArray.empty), 1, 16) := by kernel_rfl
theorem one_str (w : World) (x : ByteArray) : ∀ j u, ([.string x] : List Value)[j]? = some u → (w.alloc (.cells #[.string x] 9)).cell? (Addr.add ⟨w.heap.size, 0, none⟩ j) = some u := by
  intro j u hj
  have h0 : j = 0 := by
    have := (List.getElem?_eq_some_iff.1 hj).1
    simp at this
    omega
  subst h0
  rw [WideShapes.add_plain]
  simp only [List.getElem?_cons_zero] at hj
  show (w.alloc (.cells #[.string x] 9)).cell? ⟨w.heap.size, 0 + 0, none⟩ = _
  rw [World.cell?_alloc_new]
  simp [hj]
section
variable {w w' : World} {B n k it p p' : Nat} {e : TypeId} {v : Value} {xs : List Value} {tk : ByteArray}
theorem own_iter (h : w.ownsRow B e k v n xs) (hit : w.heap[it]? = some (.stringIter tk p)) : (w.iterAt it tk p').ownsRow B e k v n xs := by
  obtain ⟨h1, h2⟩ := h
  refine ⟨h1, h2.imp id ?_⟩
  rintro ⟨g, cap, cur, hv, hb, hg, r⟩
  exact ⟨g, cap, cur, hv, hb, (Lib.iterAt_other w it g tk p' (fun q => by rw [q, hit] at hg; cases hg)).trans hg, r⟩
theorem own_not (h : w.ownsRow B e k v n xs) (hit : w.heap[it]? = some (.stringIter tk p)) : some it ≠ v.ownBlock := by
  obtain ⟨_, h2⟩ := h
  rcases h2 with ⟨rfl, _⟩ | ⟨g, cap, cur, rfl, _, hg, _⟩
  · intro q; cases q
  · intro q
    cases q
    rw [hit] at hg
    cases hg
theorem own_cap {g cap : Nat} (h : w.ownsRow B e k (.slice (some ⟨g, 0, none⟩) n cap) n xs) : n ≤ cap := by
  obtain ⟨_, h2⟩ := h
  rcases h2 with ⟨q, _⟩ | ⟨g, cap, cur, q, _, _, hc, _⟩
  · cases q
  · cases q; exact hc
theorem one_one (x : ByteArray) : ∀ u ∈ ([.string x] : List Value), u.oneCell' = true := by simp [Value.oneCell']
theorem big_size {g : Nat} {o : Obj} (h : g < w.heap.size) (h2 : w.heap.size ≤ w'.heap.size) : g + 1 ≤ (w'.alloc o).heap.size := by simp; omega
theorem own_blw (h : w.ownsRow B e k v n xs) (hb : Below w.heap.size w w') : w'.ownsRow B e k v n xs := by
  obtain ⟨h1, h2⟩ := h
  refine ⟨h1, h2.imp id ?_⟩
  rintro ⟨g, cap, cur, hv, hb1, hg, r⟩
  exact ⟨g, cap, cur, hv, hb1, (hb.block g (Array.getElem?_eq_some_iff.1 hg).1).trans hg, r⟩
end
/-- An entry of the table. -/
theorem form_entry {Dv : DataW Value} (hM : ∀ l, WideAt.IsKeyLit l → Maps.has Dv l = (formM l).isSome ∧ ∀ v, formM l = some v → ∀ z, Dv.atKey l z = .held v) {x : ByteArray} {c : Value} {kl : Lit} {y : DataW Value × List MemPlace} (hkey : keyOf Tryd.prog 9 (.string x) = some kl) (hv : Rv c = some y) (hat : ∀ zd, Dv.atKey kl zd = y.1) : ∃ f ∈ FT, f.w = x.data.toList ∧ c = formV f ∧ kl = .string f.w := by
  obtain ⟨x2, e2, hkl, _⟩ := WideMaps.string_of_keyOf Tryd.underlying9 hkey
  cases e2
  have hk := lawS.key hkey
  have hhas := Maps.has_true_of_atKey hat
  rw [(hM kl hk).1] at hhas
  obtain ⟨v, hv2⟩ := Option.isSome_iff_exists.1 hhas
  have h3 := (hM kl hk).2 v hv2 (.held c)
  rw [hkl, formM_at] at hv2
  obtain ⟨f, hf, rfl⟩ := Option.map_eq_some_iff.1 hv2
  obtain ⟨hm, hp⟩ := find_mem hf
  have hw : f.w = x.data.toList := of_decide_eq_true hp
  cases hv
  rw [hat] at h3
  cases h3
  exact ⟨f, hm, hw, rfl, by rw [hkl, hw]⟩
set_option maxRecDepth 100000 in
set_option maxHeartbeats 16000000 in
theorem write_any (s : StpV) (hok : s.Ok) (hf : s.Few) (w : World) (hv : PV w) :
    Calls Tryd.prog 15 #[stpV s] w (WriteR ((formS s.d s.kd).map (fun f => lineL f s)) w) := by
  change Calls Tryd.prog 15 #[.agg #[.int .u8 (s.d : Int), .int .u8 (s.a : Int), .int .u8 (s.b : Int), .int .i64 s.k, .int .u8 (s.cl : Int), .int .u32 (s.sq : Int), .int .u8 (s.kd : Int), .string ⟨s.y.toArray⟩, .string ⟨s.o.toArray⟩, .string ⟨s.n.toArray⟩, .int .u8 (s.st : Int)]] w _
  have hb1 := (Below.refl w.heap.size w).alloc (Nat.le_refl _) (.cells (stpC s).toArray 39)
  have hs1 : StpAt (w.alloc (.cells (stpC s).toArray 39)) w.heap.size s := heap_alloc_new _ _
  have H1 := Lib.hid (And.intro hb1 hs1)
  have HPV := Lib.hid (PVB.of hv)
  have Hfm := Lib.hid (fun y : World => forms_any y)
  clear hb1 hs1 hv
  go_enter Tryd.func15, Tryd.ntmps15
  go_upto_region 1 with fail
  change Code.wp _ _ _ _ (w.alloc (.cells (stpC s).toArray 39))
  generalize w.alloc (.cells (stpC s).toArray 39) = w1 at *
  go_upto_region 2 with (first
    | (go_at_call 24; refine (Hfm.out _).mono ?_; rintro e w2 ⟨rfl, ⟨Dv, hown, hM⟩, hb2⟩; have HOWN := Lib.hid hown; have HM := Lib.hid hM; have HB2 := Lib.hid hb2; clear hb2 hown hM)
    | (at_range; refine wpList_range_own _ rfl _ 59 rfl 9 62 lawS Tryd.underlying59 Rv w1.heap.size 17 _ rfl HOWN.out ?_; intro w3 hrg0 hg0 hs0; have HRG := Lib.hid (And.intro hrg0 (And.intro hg0 hs0)); clear hrg0 hg0 hs0))
  have hb3 : Below w.heap.size w w3 := (H1.out.1.trans (HB2.out.mono H1.out.1.size)).trans ⟨HRG.out.2.1.os, HRG.out.2.1.tape, HRG.out.2.1.output, HRG.out.2.1.size, fun q hq => HRG.out.2.1.block q (Nat.lt_of_lt_of_le hq (H1.out.1.trans (HB2.out.mono H1.out.1.size)).size) (fun e => by cases e)⟩
  have hs3 : StpAt w3 w.heap.size s := (HRG.out.2.1.block _ (H1.out.2.below HB2.out).lt (fun e => by cases e)).trans (H1.out.2.below HB2.out)
  have H3 := Lib.hid (And.intro hb3 hs3)
  have hord : w.heap.size < w1.heap.size ∧ w1.heap.size < w2.heap.size ∧ w2.heap.size < w3.heap.size := ⟨H1.out.2.lt, HOWN.out.lt, by rw [HRG.out.2.2]; exact Nat.lt_succ_self _⟩
  have HO := Lib.hid hord
  have hr0 := HRG.out.1
  have HR0 := Lib.hid hr0
  clear hb3 hs3 hord hr0 HRG H1 HB2 HOWN Hfm
  generalize w1.heap.size = bm at *
  generalize w2.heap.size = rr at *
  go_simp
  go_loopw [8] (fun _ wx => ∃ (left : Lit → Bool) (cnt : Nat), wx.ranges Tryd.prog 9 Rv bm rr 17 Dv left cnt ∧ (∀ f ∈ FT, f.d = s.d ∧ f.k = s.kd → left (.string f.w) = true) ∧ Below w.heap.size w wx ∧ StpAt wx w.heap.size s ∧ rr < wx.heap.size) (fun _ wx => wx.rangeLeft bm rr)
  case atStart => exact ⟨_, _, HR0.out, fun f hf _ => by rw [(HM.out (.string f.w) (by trivial)).1, formM_at, (ft_ok f hf).2.2.2.2.2.2.1]; rfl, H3.out.1, H3.out.2, HO.out.2.2⟩
  case round =>
    clear HR0 H3
    obtain ⟨left, cnt, hrg, hall, hbx, hsx, hrx⟩ := hrel
    have HA := Lib.hid (And.intro hall (And.intro hbx (And.intro hsx hrx)))
    clear hall hbx hsx hrx
    go_upto_region 3 with (at_next; refine wpList_next_ranges _ rfl _ rfl 9 lawS Rv Value.string id (fun key kl hk => by obtain ⟨x, hx, _⟩ := WideMaps.string_of_keyOf Tryd.underlying9 hk; exact ⟨x, hx⟩) (fun v _ _ => ⟨v, rfl⟩) bm rr 17 _ _ _ rfl hrg ?_ ?_)
    · intro hc0 hl0
      have HN := Lib.hid (show (formS s.d s.kd).map (fun f => lineL f s) = none by rw [formS_none (fun f hf h => by have := HA.out.1 f hf h; rw [hl0] at this; cases this)]; rfl)
      clear hc0 hl0 hrg
      go_wp2_with fail
      go_ret2
      exact .bad HA.out.2.1 HN.out
    · intro x c kl yd yp w4 cnt2 hkey hlk hv hat hrg2 hlt hg2 hs2 hen
      obtain ⟨f, hfm, hfw, hcv, hkl⟩ := form_entry HM.out hkey hv hat
      subst hcv hkl
      have hb4 : Below w.heap.size w w4 := HA.out.2.1.trans ⟨hg2.os, hg2.tape, hg2.output, hg2.size, fun q hq => hg2.block q (Nat.lt_of_lt_of_le hq HA.out.2.1.size) (fun e => by cases e; have := HO.out; omega)⟩
      have hs4 : StpAt w4 w.heap.size s := (hg2.block _ HA.out.2.2.1.lt (fun e => by cases e; have := HO.out; omega)).trans HA.out.2.2.1
      have H4 := Lib.hid (And.intro hb4 (And.intro hs4 (Nat.lt_of_lt_of_le HA.out.2.2.2 hg2.size)))
      have HRG2 := Lib.hid (And.intro hrg2 (And.intro hrg hlt))
      have HF := Lib.hid (And.intro hfm hfw)
      rw [show formV f = Value.agg #[.int .u8 (f.d : Int), .int .u8 (f.k : Int), .string ⟨f.t.toArray⟩] from rfl] at hen ⊢
      clear hb4 hs4 hkey hlk hv hat hrg2 hrg hlt hg2 hs2 hfm hfw
      go_upto_region 4 with fail
      change Code.wp _ _ _ _ (w4.alloc (.cells (formC f).toArray 62))
      have hb5 := (Below.refl _ w4).alloc (Nat.le_refl _) (.cells (formC f).toArray 62)
      have hF5 : FormAt (w4.alloc (.cells (formC f).toArray 62)) w4.heap.size f := heap_alloc_new _ _
      have H5 := Lib.hid (And.intro (H4.out.1.trans (hb5.mono H4.out.1.size)) (And.intro (H4.out.2.1.below hb5) (And.intro hF5 (And.intro (HRG2.out.1.alloc (.cells (formC f).toArray 62)) (Nat.lt_of_lt_of_le H4.out.2.2 hb5.size)))))
      clear hb5 hF5 hen H4
      generalize w4.alloc (.cells (formC f).toArray 62) = w5 at *
      generalize w4.heap.size = g5 at *
      obtain ⟨f0, f1, f2⟩ := FormAt.cells H5.out.2.2.1
      obtain ⟨q0, q1, q2, q3, q6, q7, q8, q9, q10⟩ := StpAt.cells H5.out.2.1
      have HNM := Lib.hid (fun (hne : ¬ (f.d = s.d ∧ f.k = s.kd)) => (show (∃ (left : Lit → Bool) (cnt : Nat), w5.ranges Tryd.prog 9 Rv bm rr 17 Dv left cnt ∧ (∀ f ∈ FT, f.d = s.d ∧ f.k = s.kd → left (.string f.w) = true) ∧ Below w.heap.size w w5 ∧ StpAt w5 w.heap.size s ∧ rr < w5.heap.size) ∧ w5.rangeLeft bm rr < wr.rangeLeft bm rr from ⟨⟨_, cnt2, H5.out.2.2.2.1, fun g hg hgd => by
        rw [HA.out.1 g hg hgd]
        have hne2 : g.w ≠ f.w := fun e => by
          have h1 := (ft_ok g hg).2.2.2.2.2.2.1
          have h2 := (ft_ok f HF.out.1).2.2.2.2.2.2.1
          rw [e, h2] at h1
          cases h1
          exact hne hgd
        show (true && !(g.w == f.w)) = true
        simp [hne2], H5.out.1, H5.out.2.1, H5.out.2.2.2.2⟩, by rw [H5.out.2.2.2.1.left_eq, HRG2.out.2.1.left_eq]; exact HRG2.out.2.2⟩))
      by_cases hd : f.d = s.d
      · have e1 : ((f.d : Int) != (s.d : Int)) = false := by rw [hd]; simp
        by_cases hk : f.k = s.kd
        · have e2 : ((f.k : Int) != (s.kd : Int)) = false := by rw [hk]; simp
          have HR := Lib.hid (show (formS s.d s.kd).map (fun f => lineL f s) = some (lineL f s) by rw [formS_some HF.out.1 ⟨hd, hk⟩]; rfl)
          clear HNM hd hk
          obtain ⟨iS, hiS, hzS, hsS, hbS⟩ := info_parts infoS
          go_upto_region 6 with fail
          change Code.wp _ _ _ _ (w5.alloc (.cells #[.string x] 9))
          have hb6 := (Below.refl _ w5).alloc (Nat.le_refl _) (.cells #[.string x] 9)
          have ho6 := World.ownsRow_lit (base := w.heap.size + 1) (e := 9) (size := 1) w5 #[.string x] 1 (by have := H5.out.2.1.lt; omega) (by decide) rfl
          have H6 := Lib.hid (And.intro (H5.out.1.trans (hb6.mono H5.out.1.size)) (And.intro (H5.out.2.2.1.below hb6) (And.intro (H5.out.2.1.below hb6) ho6)))
          have HGQ := Lib.hid (show w.heap.size < w5.heap.size from H5.out.2.1.lt)
          have HG5 := Lib.hid (show g5 < w5.heap.size from H5.out.2.2.1.lt)
          clear hb6 ho6 f0 f1 f2 q0 q1 q2 q3 q6 q7 q8 q9 q10
          generalize w5.alloc (.cells #[.string x] 9) = w6 at *
          clear H5 HRG2
          generalize w5.heap.size = gq at *
          obtain ⟨f0, f1, f2⟩ := FormAt.cells H6.out.2.1
          have hxx : Value.string x = strV f.w := by unfold strV; rw [HF.out.2]
          have HXX := Lib.hid hxx
          clear hxx
          by_cases hd12 : f.d = 12
          · have e3 : ((f.d : Int) == 12) = true := by rw [hd12]; rfl
            have HD12 := Lib.hid hd12
            clear hd12
            have hst := World.ownsRow.stored H6.out.2.2.2 0 (strV INV)
            have hq0 : w6.cell? ⟨gq, 0, none⟩ = some (.string x) := (World.ownsRow.cellAt H6.out.2.2.2 0 (by decide)).trans rfl
            have hqf := World.ownsRow.frozenAt H6.out.2.2.2 0
            go_upto_region 8 with fail
            change Code.wp _ _ _ _ (w6.setCell ⟨gq, 0, none⟩ (strV INV))
            have hbb : Below w.heap.size w (w6.setCell ⟨gq, 0, none⟩ (strV INV)) := H6.out.1.setCell (p := ⟨gq, 0, none⟩) (Nat.le_of_lt HGQ.out) _
            have hff : FormAt (w6.setCell ⟨gq, 0, none⟩ (strV INV)) g5 f := (Below.heap_setCell _ _ _ _ (by show g5 ≠ gq; have := HG5.out; omega)).trans H6.out.2.1
            have hss : StpAt (w6.setCell ⟨gq, 0, none⟩ (strV INV)) w.heap.size s := (Below.heap_setCell _ _ _ _ (by show w.heap.size ≠ gq; have := HGQ.out; omega)).trans H6.out.2.2.1
            have H6' := Lib.hid (And.intro hbb (And.intro hff (And.intro hss (And.intro hst.1 trivial))))
            clear hbb hff hss hst hq0 hqf f0 f1 f2 H6
            have H6 := H6'
            clear H6'
            generalize w6.setCell ⟨gq, 0, none⟩ (strV INV) = w6 at *
            have HD := Lib.hid (show (if f.d = 12 then INV else f.w) = INV from if_pos HD12.out)
            obtain ⟨tk, htk⟩ : ∃ tk : ByteArray, tk = ⟨f.t.toArray⟩ := ⟨_, rfl⟩
            have f2 := H6.out.2.1.cells.2.2
            rw [← htk] at f2
            have htl : tk.data.toList = f.t := by rw [htk]
            have htz : tk.size = f.t.length := by rw [htk]; simp [ByteArray.size]
            have HH := Lib.hid (And.intro htl htz)
            have hit0 := World.iter_heap w6 tk 0
            have hb7 := (Below.refl _ w6).alloc (Nat.le_refl _) (.stringIter tk 0)
            have HI0 := Lib.hid (show (w6.iter tk 0).heap[w6.heap.size]? = some (.stringIter tk 0) ∧ Below w.heap.size w (w6.iter tk 0) ∧ StpAt (w6.iter tk 0) w.heap.size s ∧ (w6.iter tk 0).ownsRow (w.heap.size + 1) 9 1 (.slice (some ⟨gq, 0, none⟩) 1 1) 1 [strV INV] from ⟨hit0, H6.out.1.trans (hb7.mono H6.out.1.size), H6.out.2.2.1.below hb7, World.ownsRow.alloc H6.out.2.2.2.1 (.stringIter tk 0)⟩)
            clear htk htl htz hit0 hb7
            go_upto_region 9 with fail
            clear f2
            have Hord := Lib.hid (show w.heap.size < w6.heap.size from H6.out.2.2.1.lt)
            clear H6
            generalize w6.iter tk 0 = w7 at *
            generalize w6.heap.size = it at *
            go_loopw [6] (fun s6 wy => ∃ i : Nat, i ≤ f.t.length ∧ wy.heap[it]? = some (.stringIter tk i) ∧ Below w.heap.size w wy ∧ StpAt wy w.heap.size s ∧ wy.ownsRow (w.heap.size + 1) 9 1 s6 (i + 1) ((INV :: (f.t.take i).map (fldL s f.w)).map strV)) (fun _ wy => f.t.length - wy.iterPos it)
            case atStart => exact ⟨0, Nat.zero_le _, HI0.out.1, HI0.out.2.1, HI0.out.2.2.1, HI0.out.2.2.2⟩
            case round =>
              clear HI0
              obtain ⟨i, hi, hit, hby, hsy, hoy⟩ := hrel
              have hmu : wr.iterPos it = i := by simp [World.iterPos, hit]
              have HMU := Lib.hid hmu
              clear hmu
              by_cases hlt : i < f.t.length
              · have htk : i < tk.size := by rw [HH.out.2]; exact hlt
                obtain ⟨hil, hget⟩ := bs_at htk
                have hgc : tk[i] = f.t[i] := by rw [hget]; simp only [HH.out.1]
                obtain ⟨c, hc⟩ : ∃ c, c = f.t[i] := ⟨_, rfl⟩
                have hlet := (ft_ok f HF.out.1).2.1 c (by rw [hc]; exact List.getElem_mem hlt)
                have hnext : ∀ ty, (Instr.next (.pointer (some ⟨it, 0, none⟩)) true ty).run Tryd.prog wr = _ := fun ty => Lib.run_next_ascii_at wr it tk i ty hit htk (by rw [hgc, ← hc]; exact let_small hlet)
                rw [hgc, ← hc] at hnext
                have hk1 := Lib.iterAt_heap wr it tk i (i + 1) hit
                have hb1 : Below w.heap.size w (wr.iterAt it tk (i + 1)) := Lib.below_iterAt hby (Nat.le_of_lt Hord.out) tk (i + 1)
                have hs1 : StpAt (wr.iterAt it tk (i + 1)) w.heap.size s := (Lib.iterAt_other wr it _ tk (i + 1) (Nat.ne_of_lt Hord.out)).trans hsy
                have ho1 : (wr.iterAt it tk (i + 1)).ownsRow (w.heap.size + 1) 9 1 u6 (i + 1) ((INV :: (f.t.take i).map (fldL s f.w)).map strV) := own_iter hoy hit
                have H8 := Lib.hid (And.intro hk1 (And.intro hb1 (And.intro hs1 ho1)))
                have hst : (INV :: (f.t.take (i + 1)).map (fldL s f.w)).map strV = (INV :: (f.t.take i).map (fldL s f.w)).map strV ++ [strV (fldL s f.w c)] := by
                  rw [List.take_add_one, List.getElem?_eq_getElem hlt, ← hc]
                  simp
                have HST := Lib.hid hst
                clear hk1 hb1 hs1 ho1 hgc hget hil hit hby hsy hoy hst hc htk
                generalize wr.iterAt it tk (i + 1) = w8 at *
                have Hsd := Lib.hid (said_any c hlet s hok hf x w8 (HPV.out.on H8.out.2.1).here)
                have HR8 := Lib.hid (show w8.rangeAt w.heap.size 0 (stpC s) from range_row H8.out.2.2.1)
                have HM2 := Lib.hid (show i + 1 + 1 ≤ maxLen ∧ (i + 1 + 1) * 16 ≤ 140737488355328 from by have := (ft_len f HF.out.1).1; unfold maxLen; omega)
                go_wp2_with (first
                  | (with_reducible refine wpList_load_mid rfl 39 _ rfl w.heap.size 0 rfl (stpC s) _ HR8.out Tryd.underlying39 rfl (stpC_size s) ?_)
                  | (go_at_call 25; refine Hsd.out.mono ?_; rintro e w9 ⟨rfl, hb9⟩; have HB9 := Lib.hid hb9; have HO9 := Lib.hid (own_blw H8.out.2.2.2 hb9); clear hb9)
                  | (at_builtin; refine wpList_append_own _ rfl _ _ 57 rfl (w.heap.size + 1) 9 iS (.string ByteArray.empty) 1 16 Tryd.underlying57 hiS hzS hsS hbS rfl Nat.zero_lt_one _ _ _ rfl (World.ownsRow.alloc HO9.out _) ⟨w9.heap.size, 0, none⟩ 1 1 [.string ⟨(fldL s x.data.toList c).toArray⟩] rfl rfl (one_str w9 _) (one_one _) HM2.out.1 HM2.out.2 (big_size H8.out.2.2.1.lt HB9.out.size) ?_; intro v4 w10 ho4 hg4 _; have HO4 := Lib.hid (And.intro ho4 hg4); clear ho4 hg4))
                have hit9 := (HB9.out.block it (Array.getElem?_eq_some_iff.1 H8.out.1).1).trans H8.out.1
                have hb9 := H8.out.2.1.trans (HB9.out.mono H8.out.2.1.size)
                have hs9 := H8.out.2.2.1.below HB9.out
                have hba := (Below.refl _ w9).alloc (Nat.le_refl _) (.cells #[.string ⟨(fldL s x.data.toList c).toArray⟩] 9)
                have hnt := own_not HO9.out hit9
                have hge := fun k hk => (World.ownsRow.lt HO9.out k hk).1
                have hit10 : w10.heap[it]? = some (.stringIter tk (i + 1)) := (HO4.out.2.block it (Nat.lt_of_lt_of_le (Array.getElem?_eq_some_iff.1 hit9).1 hba.size) hnt).trans ((hba.block it (Array.getElem?_eq_some_iff.1 hit9).1).trans hit9)
                have hs10 : StpAt w10 w.heap.size s := (HO4.out.2.block _ (Nat.lt_of_lt_of_le hs9.lt hba.size) (fun q => by have := hge _ q.symm; omega)).trans (hs9.below hba)
                have hmu2 : w10.iterPos it = i + 1 := by simp [World.iterPos, hit10]
                go_roundw
                case rel =>
                  refine ⟨i + 1, hlt, hit10, below_grown HO4.out.2 (hb9.trans (hba.mono hb9.size)) (Nat.le_trans hb9.size hba.size) (fun k hk => by have := hge k hk; omega), hs10, ?_⟩
                  rw [HST.out]
                  have h := HO4.out.1
                  rw [← HF.out.2] at h
                  exact h
                case measure => rw [HMU.out, hmu2]; omega
              · have hend : ∀ ty, (Instr.next (.pointer (some ⟨it, 0, none⟩)) true ty).run Tryd.prog wr = _ := fun ty => Lib.run_next_end_at wr it tk i ty hit (by rw [HH.out.2]; exact hlt)
                have hie : i = f.t.length := by omega
                subst hie
                rw [List.take_of_length_le (Nat.le_refl _)] at hoy
                obtain ⟨gq, cap, rfl, hgq, hgl⟩ := World.ownsRow.form hoy (by omega)
                obtain ⟨xs, hxs⟩ : ∃ xs : List ByteArray, xs = (INV :: f.t.map (fldL s f.w)).map (fun l => ⟨l.toArray⟩) := ⟨_, rfl⟩
                have hxl : xs.length = f.t.length + 1 := by rw [hxs]; simp
                have hxv : (INV :: f.t.map (fldL s f.w)).map strV = xs.map Value.string := by rw [hxs, List.map_map]; rfl
                have hxd : xs.map (·.data.toList) = INV :: f.t.map (fldL s f.w) := by
                  rw [hxs, List.map_map]
                  conv => rhs; rw [← List.map_id (INV :: f.t.map (fldL s f.w))]
                  exact List.map_congr_left fun x _ => by simp
                have hl5 := ft_len f HF.out.1
                have hll : (joiL 32 (xs.map (·.data.toList))).length ≤ 140737488355328 := by
                  refine Nat.le_trans (joi_le (B := 400000) ?_) (by rw [List.length_map, hxl]; omega)
                  rw [hxd]
                  intro p hp
                  rcases List.mem_cons.1 hp with rfl | hp
                  · decide
                  · obtain ⟨c, _, rfl⟩ := List.mem_map.1 hp
                    exact fld_len hok hf (by omega) c
                have hj := join_any gq 0 cap xs 32 wr (fun j y hj => by
                  rw [Nat.zero_add, World.ownsRow.cellAt hoy j (by have := (List.getElem?_eq_some_iff.1 hj).1; omega), hxv, List.getElem?_map, hj]
                  rfl) hgl (by omega) (by rw [hxl]; exact own_cap hoy) hll
                rw [hxl, hxd] at hj
                have Hj := Lib.hid hj
                have HE := Lib.hid (show lineL f s = joiL 32 (INV :: f.t.map (fldL s f.w)) by unfold lineL; rw [HD.out])
                have HBY := Lib.hid hby
                clear hj hll hxd hxv hxs hxl hl5 hoy hit hby hsy
                go_wp2_with (go_at_call 26; refine Hj.out.mono ?_; rintro e w9 ⟨rfl, hb9⟩; have HB9 := Lib.hid hb9; clear hb9)
                go_ret2
                exact .good (HBY.out.trans (HB9.out.mono HBY.out.size)) (by rw [HR.out, HE.out])
          · have e3 : ((f.d : Int) == 12) = false := by rw [beq_eq_false_iff_ne]; omega
            have HD12 := Lib.hid hd12
            clear hd12
            go_upto_region 8 with fail
            have H6' := Lib.hid (And.intro H6.out.1 (And.intro H6.out.2.1 (And.intro H6.out.2.2.1 (And.intro (show w6.ownsRow (w.heap.size + 1) 9 1 (.slice (some ⟨gq, 0, none⟩) 1 1) 1 [strV f.w] by rw [← HXX.out]; exact H6.out.2.2.2) trivial))))
            clear H6 f0 f1 f2
            have H6 := H6'
            clear H6'
            have HD := Lib.hid (show (if f.d = 12 then INV else f.w) = f.w from if_neg HD12.out)
            obtain ⟨tk, htk⟩ : ∃ tk : ByteArray, tk = ⟨f.t.toArray⟩ := ⟨_, rfl⟩
            have f2 := H6.out.2.1.cells.2.2
            rw [← htk] at f2
            have htl : tk.data.toList = f.t := by rw [htk]
            have htz : tk.size = f.t.length := by rw [htk]; simp [ByteArray.size]
            have HH := Lib.hid (And.intro htl htz)
            have hit0 := World.iter_heap w6 tk 0
            have hb7 := (Below.refl _ w6).alloc (Nat.le_refl _) (.stringIter tk 0)
            have HI0 := Lib.hid (show (w6.iter tk 0).heap[w6.heap.size]? = some (.stringIter tk 0) ∧ Below w.heap.size w (w6.iter tk 0) ∧ StpAt (w6.iter tk 0) w.heap.size s ∧ (w6.iter tk 0).ownsRow (w.heap.size + 1) 9 1 (.slice (some ⟨gq, 0, none⟩) 1 1) 1 [strV f.w] from ⟨hit0, H6.out.1.trans (hb7.mono H6.out.1.size), H6.out.2.2.1.below hb7, World.ownsRow.alloc H6.out.2.2.2.1 (.stringIter tk 0)⟩)
            clear htk htl htz hit0 hb7
            go_upto_region 9 with fail
            clear f2
            have Hord := Lib.hid (show w.heap.size < w6.heap.size from H6.out.2.2.1.lt)
            clear H6
            generalize w6.iter tk 0 = w7 at *
            generalize w6.heap.size = it at *
            go_loopw [6] (fun s6 wy => ∃ i : Nat, i ≤ f.t.length ∧ wy.heap[it]? = some (.stringIter tk i) ∧ Below w.heap.size w wy ∧ StpAt wy w.heap.size s ∧ wy.ownsRow (w.heap.size + 1) 9 1 s6 (i + 1) ((f.w :: (f.t.take i).map (fldL s f.w)).map strV)) (fun _ wy => f.t.length - wy.iterPos it)
            case atStart => exact ⟨0, Nat.zero_le _, HI0.out.1, HI0.out.2.1, HI0.out.2.2.1, HI0.out.2.2.2⟩
            case round =>
              clear HI0
              obtain ⟨i, hi, hit, hby, hsy, hoy⟩ := hrel
              have hmu : wr.iterPos it = i := by simp [World.iterPos, hit]
              have HMU := Lib.hid hmu
              clear hmu
              by_cases hlt : i < f.t.length
              · have htk : i < tk.size := by rw [HH.out.2]; exact hlt
                obtain ⟨hil, hget⟩ := bs_at htk
                have hgc : tk[i] = f.t[i] := by rw [hget]; simp only [HH.out.1]
                obtain ⟨c, hc⟩ : ∃ c, c = f.t[i] := ⟨_, rfl⟩
                have hlet := (ft_ok f HF.out.1).2.1 c (by rw [hc]; exact List.getElem_mem hlt)
                have hnext : ∀ ty, (Instr.next (.pointer (some ⟨it, 0, none⟩)) true ty).run Tryd.prog wr = _ := fun ty => Lib.run_next_ascii_at wr it tk i ty hit htk (by rw [hgc, ← hc]; exact let_small hlet)
                rw [hgc, ← hc] at hnext
                have hk1 := Lib.iterAt_heap wr it tk i (i + 1) hit
                have hb1 : Below w.heap.size w (wr.iterAt it tk (i + 1)) := Lib.below_iterAt hby (Nat.le_of_lt Hord.out) tk (i + 1)
                have hs1 : StpAt (wr.iterAt it tk (i + 1)) w.heap.size s := (Lib.iterAt_other wr it _ tk (i + 1) (Nat.ne_of_lt Hord.out)).trans hsy
                have ho1 : (wr.iterAt it tk (i + 1)).ownsRow (w.heap.size + 1) 9 1 u6 (i + 1) ((f.w :: (f.t.take i).map (fldL s f.w)).map strV) := own_iter hoy hit
                have H8 := Lib.hid (And.intro hk1 (And.intro hb1 (And.intro hs1 ho1)))
                have hst : (f.w :: (f.t.take (i + 1)).map (fldL s f.w)).map strV = (f.w :: (f.t.take i).map (fldL s f.w)).map strV ++ [strV (fldL s f.w c)] := by
                  rw [List.take_add_one, List.getElem?_eq_getElem hlt, ← hc]
                  simp
                have HST := Lib.hid hst
                clear hk1 hb1 hs1 ho1 hgc hget hil hit hby hsy hoy hst hc htk
                generalize wr.iterAt it tk (i + 1) = w8 at *
                have Hsd := Lib.hid (said_any c hlet s hok hf x w8 (HPV.out.on H8.out.2.1).here)
                have HR8 := Lib.hid (show w8.rangeAt w.heap.size 0 (stpC s) from range_row H8.out.2.2.1)
                have HM2 := Lib.hid (show i + 1 + 1 ≤ maxLen ∧ (i + 1 + 1) * 16 ≤ 140737488355328 from by have := (ft_len f HF.out.1).1; unfold maxLen; omega)
                go_wp2_with (first
                  | (with_reducible refine wpList_load_mid rfl 39 _ rfl w.heap.size 0 rfl (stpC s) _ HR8.out Tryd.underlying39 rfl (stpC_size s) ?_)
                  | (go_at_call 25; refine Hsd.out.mono ?_; rintro e w9 ⟨rfl, hb9⟩; have HB9 := Lib.hid hb9; have HO9 := Lib.hid (own_blw H8.out.2.2.2 hb9); clear hb9)
                  | (at_builtin; refine wpList_append_own _ rfl _ _ 57 rfl (w.heap.size + 1) 9 iS (.string ByteArray.empty) 1 16 Tryd.underlying57 hiS hzS hsS hbS rfl Nat.zero_lt_one _ _ _ rfl (World.ownsRow.alloc HO9.out _) ⟨w9.heap.size, 0, none⟩ 1 1 [.string ⟨(fldL s x.data.toList c).toArray⟩] rfl rfl (one_str w9 _) (one_one _) HM2.out.1 HM2.out.2 (big_size H8.out.2.2.1.lt HB9.out.size) ?_; intro v4 w10 ho4 hg4 _; have HO4 := Lib.hid (And.intro ho4 hg4); clear ho4 hg4))
                have hit9 := (HB9.out.block it (Array.getElem?_eq_some_iff.1 H8.out.1).1).trans H8.out.1
                have hb9 := H8.out.2.1.trans (HB9.out.mono H8.out.2.1.size)
                have hs9 := H8.out.2.2.1.below HB9.out
                have hba := (Below.refl _ w9).alloc (Nat.le_refl _) (.cells #[.string ⟨(fldL s x.data.toList c).toArray⟩] 9)
                have hnt := own_not HO9.out hit9
                have hge := fun k hk => (World.ownsRow.lt HO9.out k hk).1
                have hit10 : w10.heap[it]? = some (.stringIter tk (i + 1)) := (HO4.out.2.block it (Nat.lt_of_lt_of_le (Array.getElem?_eq_some_iff.1 hit9).1 hba.size) hnt).trans ((hba.block it (Array.getElem?_eq_some_iff.1 hit9).1).trans hit9)
                have hs10 : StpAt w10 w.heap.size s := (HO4.out.2.block _ (Nat.lt_of_lt_of_le hs9.lt hba.size) (fun q => by have := hge _ q.symm; omega)).trans (hs9.below hba)
                have hmu2 : w10.iterPos it = i + 1 := by simp [World.iterPos, hit10]
                go_roundw
                case rel =>
                  refine ⟨i + 1, hlt, hit10, below_grown HO4.out.2 (hb9.trans (hba.mono hb9.size)) (Nat.le_trans hb9.size hba.size) (fun k hk => by have := hge k hk; omega), hs10, ?_⟩
                  rw [HST.out]
                  have h := HO4.out.1
                  rw [← HF.out.2] at h
                  exact h
                case measure => rw [HMU.out, hmu2]; omega
              · have hend : ∀ ty, (Instr.next (.pointer (some ⟨it, 0, none⟩)) true ty).run Tryd.prog wr = _ := fun ty => Lib.run_next_end_at wr it tk i ty hit (by rw [HH.out.2]; exact hlt)
                have hie : i = f.t.length := by omega
                subst hie
                rw [List.take_of_length_le (Nat.le_refl _)] at hoy
                obtain ⟨gq, cap, rfl, hgq, hgl⟩ := World.ownsRow.form hoy (by omega)
                obtain ⟨xs, hxs⟩ : ∃ xs : List ByteArray, xs = (f.w :: f.t.map (fldL s f.w)).map (fun l => ⟨l.toArray⟩) := ⟨_, rfl⟩
                have hxl : xs.length = f.t.length + 1 := by rw [hxs]; simp
                have hxv : (f.w :: f.t.map (fldL s f.w)).map strV = xs.map Value.string := by rw [hxs, List.map_map]; rfl
                have hxd : xs.map (·.data.toList) = f.w :: f.t.map (fldL s f.w) := by
                  rw [hxs, List.map_map]
                  conv => rhs; rw [← List.map_id (f.w :: f.t.map (fldL s f.w))]
                  exact List.map_congr_left fun x _ => by simp
                have hl5 := ft_len f HF.out.1
                have hll : (joiL 32 (xs.map (·.data.toList))).length ≤ 140737488355328 := by
                  refine Nat.le_trans (joi_le (B := 400000) ?_) (by rw [List.length_map, hxl]; omega)
                  rw [hxd]
                  intro p hp
                  rcases List.mem_cons.1 hp with rfl | hp
                  · omega
                  · obtain ⟨c, _, rfl⟩ := List.mem_map.1 hp
                    exact fld_len hok hf (by omega) c
                have hj := join_any gq 0 cap xs 32 wr (fun j y hj => by
                  rw [Nat.zero_add, World.ownsRow.cellAt hoy j (by have := (List.getElem?_eq_some_iff.1 hj).1; omega), hxv, List.getElem?_map, hj]
                  rfl) hgl (by omega) (by rw [hxl]; exact own_cap hoy) hll
                rw [hxl, hxd] at hj
                have Hj := Lib.hid hj
                have HE := Lib.hid (show lineL f s = joiL 32 (f.w :: f.t.map (fldL s f.w)) by unfold lineL; rw [HD.out])
                have HBY := Lib.hid hby
                clear hj hll hxd hxv hxs hxl hl5 hoy hit hby hsy
                go_wp2_with (go_at_call 26; refine Hj.out.mono ?_; rintro e w9 ⟨rfl, hb9⟩; have HB9 := Lib.hid hb9; clear hb9)
                go_ret2
                exact .good (HBY.out.trans (HB9.out.mono HBY.out.size)) (by rw [HR.out, HE.out])
        · have e2 : ((f.k : Int) != (s.kd : Int)) = true := by rw [bne_iff_ne]; omega
          have hno := HNM.out (fun h => hk h.2)
          go_wp2_with fail
          exact hno
      · have e1 : ((f.d : Int) != (s.d : Int)) = true := by rw [bne_iff_ne]; omega
        have hno := HNM.out (fun h => hd h.1)
        go_wp2_with fail
        exact hno
end Go.Proofs.YtjjlodeiejobdaaDoor
namespace Go.Proofs.YtjjlodeiejobdaaDoor
open Go.ChangeShapes Go.WideShapes Go.Deep Go.RowKit
theorem open_deep {H : Type} {enc : TypeId × Value → H} {P : Program} {w : World} {base : Nat} {spare : Nat → Bool} {held : Bool} {α : Type} [Inhabited α] (toCells : α → List Value) (k : Nat) {t e : TypeId} {a : Option Addr} {len cap : Nat} {d : DataW H} {pl : List MemPlace} (ht : P.underlying t = some (.slice e))
    (hC : P.cellsOf e = k) (hpos : 0 < k) (hx : ∀ (vs : List Value) (n : Nat) (y : DataW H × List MemPlace), vs.length = k → DataW.trod enc P w base spare held n e vs = some y → ∃ x : α, vs = toCells x)
    (h : DataW.Trod enc P w base spare held t (.slice a len cap) d pl) : ∃ z : List α, SliceAt k toCells w a len z := by
  obtain ⟨m, hm⟩ := h
  rcases open_slice ht hm with ⟨h0, _⟩ | ⟨p, ln, cp, mm, n, D, Pl, hcs, hb, hl, hmx, hmm, _, hi⟩
  · have h0' : [Value.slice a len cap] = [Value.slice none 0 0] := h0
    simp only [List.cons.injEq, Value.slice.injEq, and_true] at h0'
    obtain ⟨rfl, rfl, rfl⟩ := h0'
    exact ⟨[], rfl, Nat.zero_le _, fun i x hx => by simp at hx⟩
  · have h0' : [Value.slice a len cap] = [Value.slice (some p) ln cp] := hcs
    simp only [List.cons.injEq, Value.slice.injEq, and_true] at h0'
    obtain ⟨rfl, rfl, rfl⟩ := h0'
    have hlm : len ≤ mm := by rw [hmm]; split <;> omega
    obtain ⟨g, hg⟩ := choose_lt (n := len) (p := fun i (x : α) => w.cells? base (p.add (i * k)) k = some (toCells x) ∧ (toCells x).length = k) (fun i hil => by
      obtain ⟨cs', h1, h2⟩ := hi i (by omega)
      rw [hC] at h1
      obtain ⟨_, hcl, _⟩ := World.cells?_some h1
      obtain ⟨x, rfl⟩ := hx cs' _ _ hcl h2
      exact ⟨x, h1, hcl⟩)
    refine ⟨(List.range len).map g, by simp, by omega, fun i x hix => ?_⟩
    have hil : i < len := by
      have := (List.getElem?_eq_some_iff.1 hix).1
      simpa using this
    have hgx : g i = x := by simpa [hil] using hix
    obtain ⟨h1, h2⟩ := hg i hil
    rw [hgx] at h1 h2
    obtain ⟨_, _, hcell⟩ := World.cells?_some h1
    obtain ⟨b, o, sp⟩ := p
    obtain ⟨g1, g2⟩ := hg 0 (by omega)
    obtain ⟨_, _, gcell⟩ := World.cells?_some g1
    have h00 := gcell 0 hpos
    rw [List.getElem?_eq_getElem (by omega)] at h00
    have hspot : sp = none := by simpa [Addr.add] using World.cell?_spot h00
    subst hspot
    have hlt := World.block_lt_of_cell? _ _ h00
    refine ⟨b, o, rfl, ?_, fun j v hj => ?_⟩
    · simpa [Addr.add] using hlt
    · have hjl : j < k := by
        have := (List.getElem?_eq_some_iff.1 hj).1
        omega
      have := hcell j hjl
      rw [add_add, hj] at this
      rw [← this, add_plain]
theorem wf_u8 {x : Int} (h : (Lit.int .u8 x).wf = true) : ∃ n : Nat, n < 256 ∧ x = (n : Int) := by
  have q : 0 ≤ x ∧ x ≤ 255 := by simpa [Lit.wf, IntKind.min, IntKind.max, IntKind.signed, IntKind.bits] using h
  exact ⟨x.toNat, by omega, by omega⟩
theorem wf_u32 {x : Int} (h : (Lit.int .u32 x).wf = true) : ∃ n : Nat, n < 4294967296 ∧ x = (n : Int) := by
  have q : 0 ≤ x ∧ x ≤ 4294967295 := by simpa [Lit.wf, IntKind.min, IntKind.max, IntKind.signed, IntKind.bits] using h
  exact ⟨x.toNat, by omega, by omega⟩
theorem wf_i64 {x : Int} (h : (Lit.int .i64 x).wf = true) : -9223372036854775808 ≤ x ∧ x ≤ 9223372036854775807 := by
  simpa [Lit.wf, IntKind.min, IntKind.max, IntKind.signed, IntKind.bits] using h
abbrev StpO := { s : StpV // s.Ok }
instance : Inhabited StpO := ⟨⟨stp0 0 0, stp0_ok (by decide) (by decide)⟩⟩
def stoC (s : StpO) : List Value := stpC s.val
theorem stp_hx {H : Type} {enc : TypeId × Value → H} {w : World} {base : Nat} {spare : Nat → Bool} {held : Bool} (vs : List Value) (n : Nat) (y : DataW H × List MemPlace) (hl : vs.length = 11) (h : DataW.trod enc Tryd.prog w base spare held n 39 vs = some y) : ∃ x : StpO, vs = stoC x := by
  have c8 : Tryd.prog.cellsOf 5 = 1 := by kernel_rfl
  have c32 : Tryd.prog.cellsOf 35 = 1 := by kernel_rfl
  have ci : Tryd.prog.cellsOf 3 = 1 := by kernel_rfl
  have cs : Tryd.prog.cellsOf 9 = 1 := by kernel_rfl
  have cc : Tryd.prog.cellsOf 37 = 7 := by kernel_rfl
  match vs, hl with
  | [v0, v1, v2, v3, v4, v5, v6, v7, v8, v9, v10], _ =>
    obtain ⟨xs, n1, _, _, _, xsl, hf⟩ := DataW.trod_struct Tryd.underlying39 h
    have g0 : DataW.trod enc Tryd.prog w base spare held n1 5 [v0] = some (xs[0]'(by rw [xsl]; decide)) := by
      have g : DataW.trod enc Tryd.prog w base spare held n1 5 (List.take (Tryd.prog.cellsOf 5) (List.drop 0 [v0, v1, v2, v3, v4, v5, v6, v7, v8, v9, v10])) = xs[0]? := hf 0 _ rfl
      rw [c8, List.getElem?_eq_getElem (by rw [xsl]; decide)] at g
      exact g
    have g1 : DataW.trod enc Tryd.prog w base spare held n1 5 [v1] = some (xs[1]'(by rw [xsl]; decide)) := by
      have g : DataW.trod enc Tryd.prog w base spare held n1 5 (List.take (Tryd.prog.cellsOf 5) (List.drop 1 [v0, v1, v2, v3, v4, v5, v6, v7, v8, v9, v10])) = xs[1]? := hf 1 _ rfl
      rw [c8, List.getElem?_eq_getElem (by rw [xsl]; decide)] at g
      exact g
    have g2 : DataW.trod enc Tryd.prog w base spare held n1 5 [v2] = some (xs[2]'(by rw [xsl]; decide)) := by
      have g : DataW.trod enc Tryd.prog w base spare held n1 5 (List.take (Tryd.prog.cellsOf 5) (List.drop 2 [v0, v1, v2, v3, v4, v5, v6, v7, v8, v9, v10])) = xs[2]? := hf 2 _ rfl
      rw [c8, List.getElem?_eq_getElem (by rw [xsl]; decide)] at g
      exact g
    have g3 : DataW.trod enc Tryd.prog w base spare held n1 3 [v3] = some (xs[3]'(by rw [xsl]; decide)) := by
      have g : DataW.trod enc Tryd.prog w base spare held n1 3 (List.take (Tryd.prog.cellsOf 3) (List.drop 3 [v0, v1, v2, v3, v4, v5, v6, v7, v8, v9, v10])) = xs[3]? := hf 3 _ rfl
      rw [ci, List.getElem?_eq_getElem (by rw [xsl]; decide)] at g
      exact g
    have g4 : DataW.trod enc Tryd.prog w base spare held n1 37 [v4, v5, v6, v7, v8, v9, v10] = some (xs[4]'(by rw [xsl]; decide)) := by
      have g : DataW.trod enc Tryd.prog w base spare held n1 37 (List.take (Tryd.prog.cellsOf 37) (List.drop 4 [v0, v1, v2, v3, v4, v5, v6, v7, v8, v9, v10])) = xs[4]? := hf 4 _ rfl
      rw [cc, List.getElem?_eq_getElem (by rw [xsl]; decide)] at g
      exact g
    obtain ⟨ys, n2, _, _, _, ysl, hk⟩ := DataW.trod_struct Tryd.underlying37 g4
    have k0 : DataW.trod enc Tryd.prog w base spare held n2 5 [v4] = some (ys[0]'(by rw [ysl]; decide)) := by
      have g : DataW.trod enc Tryd.prog w base spare held n2 5 (List.take (Tryd.prog.cellsOf 5) (List.drop 0 [v4, v5, v6, v7, v8, v9, v10])) = ys[0]? := hk 0 _ rfl
      rw [c8, List.getElem?_eq_getElem (by rw [ysl]; decide)] at g
      exact g
    have k1 : DataW.trod enc Tryd.prog w base spare held n2 35 [v5] = some (ys[1]'(by rw [ysl]; decide)) := by
      have g : DataW.trod enc Tryd.prog w base spare held n2 35 (List.take (Tryd.prog.cellsOf 35) (List.drop 1 [v4, v5, v6, v7, v8, v9, v10])) = ys[1]? := hk 1 _ rfl
      rw [c32, List.getElem?_eq_getElem (by rw [ysl]; decide)] at g
      exact g
    have k2 : DataW.trod enc Tryd.prog w base spare held n2 5 [v6] = some (ys[2]'(by rw [ysl]; decide)) := by
      have g : DataW.trod enc Tryd.prog w base spare held n2 5 (List.take (Tryd.prog.cellsOf 5) (List.drop 2 [v4, v5, v6, v7, v8, v9, v10])) = ys[2]? := hk 2 _ rfl
      rw [c8, List.getElem?_eq_getElem (by rw [ysl]; decide)] at g
      exact g
    have k3 : DataW.trod enc Tryd.prog w base spare held n2 9 [v7] = some (ys[3]'(by rw [ysl]; decide)) := by
      have g : DataW.trod enc Tryd.prog w base spare held n2 9 (List.take (Tryd.prog.cellsOf 9) (List.drop 3 [v4, v5, v6, v7, v8, v9, v10])) = ys[3]? := hk 3 _ rfl
      rw [cs, List.getElem?_eq_getElem (by rw [ysl]; decide)] at g
      exact g
    have k4 : DataW.trod enc Tryd.prog w base spare held n2 9 [v8] = some (ys[4]'(by rw [ysl]; decide)) := by
      have g : DataW.trod enc Tryd.prog w base spare held n2 9 (List.take (Tryd.prog.cellsOf 9) (List.drop 4 [v4, v5, v6, v7, v8, v9, v10])) = ys[4]? := hk 4 _ rfl
      rw [cs, List.getElem?_eq_getElem (by rw [ysl]; decide)] at g
      exact g
    have k5 : DataW.trod enc Tryd.prog w base spare held n2 9 [v9] = some (ys[5]'(by rw [ysl]; decide)) := by
      have g : DataW.trod enc Tryd.prog w base spare held n2 9 (List.take (Tryd.prog.cellsOf 9) (List.drop 5 [v4, v5, v6, v7, v8, v9, v10])) = ys[5]? := hk 5 _ rfl
      rw [cs, List.getElem?_eq_getElem (by rw [ysl]; decide)] at g
      exact g
    have k6 : DataW.trod enc Tryd.prog w base spare held n2 5 [v10] = some (ys[6]'(by rw [ysl]; decide)) := by
      have g : DataW.trod enc Tryd.prog w base spare held n2 5 (List.take (Tryd.prog.cellsOf 5) (List.drop 6 [v4, v5, v6, v7, v8, v9, v10])) = ys[6]? := hk 6 _ rfl
      rw [c8, List.getElem?_eq_getElem (by rw [ysl]; decide)] at g
      exact g
    obtain ⟨m0, q0, _, w0⟩ := DataW.trod_int Tryd.underlying5 g0
    obtain ⟨x0, b0, rfl⟩ := wf_u8 w0
    obtain ⟨m1, q1, _, w1⟩ := DataW.trod_int Tryd.underlying5 g1
    obtain ⟨x1, b1, rfl⟩ := wf_u8 w1
    obtain ⟨m2, q2, _, w2⟩ := DataW.trod_int Tryd.underlying5 g2
    obtain ⟨x2, b2, rfl⟩ := wf_u8 w2
    obtain ⟨x3, q3, _, w3⟩ := DataW.trod_int Tryd.underlying3 g3
    have b3 := wf_i64 w3
    obtain ⟨m4, q4, _, w4⟩ := DataW.trod_int Tryd.underlying5 k0
    obtain ⟨x4, b4, rfl⟩ := wf_u8 w4
    obtain ⟨m5, q5, _, w5⟩ := DataW.trod_int Tryd.underlying35 k1
    obtain ⟨x5, b5, rfl⟩ := wf_u32 w5
    obtain ⟨m6, q6, _, w6⟩ := DataW.trod_int Tryd.underlying5 k2
    obtain ⟨x6, b6, rfl⟩ := wf_u8 w6
    obtain ⟨x7, q7, _, _⟩ := DataW.trod_string Tryd.underlying9 k3
    obtain ⟨x8, q8, _, _⟩ := DataW.trod_string Tryd.underlying9 k4
    obtain ⟨x9, q9, _, _⟩ := DataW.trod_string Tryd.underlying9 k5
    obtain ⟨m10, q10, _, w10⟩ := DataW.trod_int Tryd.underlying5 k6
    obtain ⟨x10, b10, rfl⟩ := wf_u8 w10
    simp only [List.cons.injEq, and_true] at q0 q1 q2 q3 q4 q5 q6 q7 q8 q9 q10
    subst q0 q1 q2 q3 q4 q5 q6 q7 q8 q9 q10
    refine ⟨⟨⟨x0, x1, x2, x3, x4, x5, x6, x7.data.toList, x8.data.toList, x9.data.toList, x10⟩, ⟨b0, b1, b2, b3, b4, b5, b6, b10⟩⟩, ?_⟩
    simp [stoC, stpC]
theorem stps_open {H : Type} {enc : TypeId × Value → H} {w : World} {base : Nat} {spare : Nat → Bool} {held : Bool} {a : Option Addr} {len cap : Nat} {d : DataW H} {pl : List MemPlace}
    (h : DataW.Trod enc Tryd.prog w base spare held 22 (.slice a len cap) d pl) : ∃ z : List StpO, SliceAt 11 stoC w a len z :=
  open_deep stoC 11 Tryd.underlying22 (by kernel_rfl) (by decide) (fun vs n y => stp_hx vs n y) h
abbrev StpsAt := SliceAt 11 stoC
theorem stps_row {w : World} {a : Option Addr} {len : Nat} {z : List StpO} (h : StpsAt w a len z) {i : Nat} (hi : i < len) : ∃ b o, a = some ⟨b, o, none⟩ ∧ b < w.heap.size ∧ w.rangeAt b (o + i * 11) (stpC (z.getD i default).val) := by
  have hl := h.hlen
  have hz : z[i]? = some (z.getD i default) := by simp [List.getD, List.getElem?_eq_getElem (show i < z.length by omega)]
  obtain ⟨b, o, h1, h2, h3⟩ := h.cells i _ hz
  exact ⟨b, o, h1, h2, fun j v hv => by rw [← h3 j v hv, Nat.add_assoc]⟩
end Go.Proofs.YtjjlodeiejobdaaDoor
