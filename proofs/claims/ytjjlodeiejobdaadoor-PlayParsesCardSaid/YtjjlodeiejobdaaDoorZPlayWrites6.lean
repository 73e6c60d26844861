/- Play: read. Condition: the line is not too long; the library's variables hold what the program's text lays. -/
import Derived.Lib.OthersKept
import Derived.Test.YtjjlodeiejobdaaDoorZPlayWrites5
import Derived.Laws.AppendOwn
import Derived.Laws.AppendOwnNone
import Derived.OwnWalk
import Derived.Test.YtjjlodeiejobdaaDoorZPlayWrites1
namespace Go.Proofs.YtjjlodeiejobdaaDoor
open Go.RowKit Go.Shelf
/-- What read tells. -/
def ReadR (R : Option StpV) (w : World) (e : Ending) (w' : World) : Prop := Below w.heap.size w w' ∧ ∃ s, e = .returned (.tuple #[stpV s, .bool R.isSome]) ∧ ∀ s1, R = some s1 → s = s1
theorem ReadR.bad {R : Option StpV} {w w' : World} (hb : Below w.heap.size w w') (h : R = none) (s : StpV) : ReadR R w (.returned (.tuple #[stpV s, .bool false])) w' := by
  subst h
  exact ⟨hb, s, rfl, fun s1 h => by cases h⟩
theorem ReadR.good {R : Option StpV} {w w' : World} (hb : Below w.heap.size w w') {s : StpV} (h : R = some s) : ReadR R w (.returned (.tuple #[stpV s, .bool true])) w' := by
  subst h
  exact ⟨hb, s, rfl, fun s1 h => by cases h; rfl⟩
theorem joi_mem {c : UInt8} : ∀ {l : List Bs} {p : Bs}, p ∈ l → p.length ≤ (joiL c l).length
  | [x], p, h => by rw [List.mem_singleton.1 h]; exact Nat.le_refl _
  | x :: y :: r, p, h => by
    rw [joiL, List.length_append, List.length_cons]
    rcases List.mem_cons.1 h with rfl | h
    · omega
    · have := joi_mem (c := c) h
      omega
theorem joi_count {c : UInt8} : ∀ {l : List Bs}, l ≠ [] → l.length ≤ (joiL c l).length + 1
  | [], h => absurd rfl h
  | [x], _ => by simp
  | x :: y :: r, _ => by
    have := joi_count (c := c) (l := y :: r) (by simp)
    rw [joiL, List.length_append, List.length_cons]
    simp only [List.length_cons] at this ⊢
    omega
theorem pcs_back (c : UInt8) (s : ByteArray) : (pcsB c s).map (·.data.toList) = splL c s.data.toList := by
  unfold pcsB
  rw [List.map_map]
  conv => rhs; rw [← List.map_id (splL c s.data.toList)]
  exact List.map_congr_left fun x _ => by simp
theorem pcs_size {c : UInt8} {s p : ByteArray} (h : p ∈ pcsB c s) : p.size ≤ s.size := by
  have h1 : p.data.toList ∈ splL c s.data.toList := by rw [← pcs_back]; exact List.mem_map.2 ⟨p, h, rfl⟩
  have h2 := joi_mem (c := c) h1
  rw [joi_spl] at h2
  simpa using h2
theorem pcs_many (c : UInt8) (s : ByteArray) : (pcsB c s).length ≤ s.size + 1 := by
  have h := joi_count (c := c) (spl_ne c s.data.toList)
  rw [joi_spl] at h
  unfold pcsB
  rw [List.length_map]
  simpa using h
theorem pcs_cons (c : UInt8) (s : ByteArray) : ∃ x0 r, pcsB c s = x0 :: r := by
  cases h : pcsB c s with
  | nil =>
    have h2 := pcs_back c s
    rw [h] at h2
    exact absurd h2.symm (spl_ne c _)
  | cons x r => exact ⟨x, r, rfl⟩
theorem strs_new (w : World) (l : List ByteArray) : StrsAt (w.alloc (.cells (l.map Value.string).toArray 9)) w.heap.size 0 l := ⟨by simp, fun j x hj => by
  rw [World.cell?_alloc_new, Nat.zero_add]
  simp [hj]⟩
theorem formL_mem {ws : List Bs} {f : FormV} (h : formL ws = some f) : f ∈ FT := by
  unfold formL at h
  split at h
  · cases h
  · split at h
    · next g hg =>
      split at h
      · cases h; exact (find_mem hg).1
      · cases h
    · cases h
/-- Read's loop. -/
structure RdI (w4 wr : World) (g9 it : Nat) (tk : ByteArray) (i : Nat) (s' : StpV) : Prop where
  bel : Below w4.heap.size w4 wr
  it : wr.heap[it]? = some (.stringIter tk i)
  st : StpAt wr g9 s'
theorem zip_drop {cs : Bs} {ts : List Bs} {i : Nat} (h : i < cs.length) (h2 : i < ts.length) : (cs.drop i).zip (ts.drop i) = (cs[i], ts[i]) :: (cs.drop (i + 1)).zip (ts.drop (i + 1)) := by
  rw [List.drop_eq_getElem_cons h, List.drop_eq_getElem_cons h2, List.zip_cons_cons]
theorem let_small {c : UInt8} (h : isLet c = true) : c.toNat < 128 := by
  unfold isLet at h
  simp only [Bool.or_eq_true, beq_iff_eq] at h
  rcases h with ((((((rfl | rfl) | rfl) | rfl) | rfl) | rfl) | rfl) | rfl <;> decide
theorem two_box (y : World) (f : FormV) (wd : ByteArray) : FormAt ((y.alloc (.cells (formC f).toArray 62)).alloc (.cells #[.string wd] 9)) y.heap.size f ∧ WdAt ((y.alloc (.cells (formC f).toArray 62)).alloc (.cells #[.string wd] 9)) (y.heap.size + 1) wd ∧ Below y.heap.size y ((y.alloc (.cells (formC f).toArray 62)).alloc (.cells #[.string wd] 9)) := by
  have h1 : FormAt (y.alloc (.cells (formC f).toArray 62)) y.heap.size f := heap_alloc_new _ _
  have e : (y.alloc (.cells (formC f).toArray 62)).heap.size = y.heap.size + 1 := by simp
  have hb := (Below.refl _ (y.alloc (.cells (formC f).toArray 62))).alloc (Nat.le_refl _) (.cells #[.string wd] 9)
  refine ⟨h1.below hb, ?_, ((Below.refl _ y).alloc (Nat.le_refl _) _).alloc (by simp) _⟩
  have := heap_alloc_new (y.alloc (.cells (formC f).toArray 62)) (.cells #[.string wd] 9)
  rw [e] at this
  exact this
set_option maxRecDepth 100000 in
set_option maxHeartbeats 8000000 in
theorem read_any (x : ByteArray) (hx : x.size ≤ 1000000) (w : World) (hv : PV w) :
    Calls Tryd.prog 16 #[.string x] w (ReadR (rdL x.data.toList) w) := by
  obtain ⟨x0, rs, hp⟩ := pcs_cons 32 x
  have hsz : ∀ p ∈ x0 :: rs, p.size ≤ 1000000 := fun p h => Nat.le_trans (pcs_size (by rw [hp]; exact h)) hx
  have hmany : rs.length ≤ 1000000 := by have h := pcs_many 32 x; rw [hp] at h; simp at h; omega
  have hbk := pcs_back 32 x
  rw [hp] at hbk
  have hb0 := (Below.refl w.heap.size w).alloc (Nat.le_refl _) (.cells (stpC (stp0 0 0)).toArray 39)
  have hG0 : StpAt (w.alloc (.cells (stpC (stp0 0 0)).toArray 39)) w.heap.size (stp0 0 0) := heap_alloc_new _ _
  have hsp := split_any 32 x (by omega) (w.alloc (.cells (stpC (stp0 0 0)).toArray 39)) (hv.below hb0)
  rw [hp] at hsp
  have Hsp := Lib.hid hsp
  have HB0 := Lib.hid (And.intro hb0 hG0)
  have HBK := Lib.hid hbk
  have HPV := Lib.hid (PVB.of hv)
  clear hp hbk hb0 hG0 hsp hv
  go_enter Tryd.func16, Tryd.ntmps16
  go_upto_region 2 with (go_at_call 27; refine Hsp.out.mono ?_; rintro e w2 ⟨rfl, hw2⟩; have HW2 := Lib.hid hw2; clear hw2)
  have hs2 := strs_new (w.alloc (.cells (stpC (stp0 0 0)).toArray 39)) (x0 :: rs)
  have hb2 := (Below.refl _ (w.alloc (.cells (stpC (stp0 0 0)).toArray 39))).alloc (Nat.le_refl _) (.cells ((x0 :: rs).map Value.string).toArray 9)
  rw [← HW2.out] at hs2 hb2
  have hg2 := HB0.out.2.below hb2
  have hbw := HB0.out.1.trans (hb2.mono HB0.out.1.size)
  have HB2 := Lib.hid (And.intro hbw (And.intro hg2 hs2))
  clear hs2 hb2 hg2 hbw HB0 HW2 Hsp
  rw [show (w.alloc (.cells (stpC (stp0 0 0)).toArray 39)).heap.size = w.heap.size + 1 by simp] at HB2
  obtain ⟨g, hg⟩ : ∃ g, g = w.heap.size + 1 := ⟨_, rfl⟩
  rw [← hg] at HB2 ⊢
  have HG := Lib.hid hg
  clear hg
  have Hfo := Lib.hid (formOf_any x0 rs hsz hmany g 0 (rs.length + 1) w2 HB2.out.2.2)
  rw [HBK.out] at Hfo
  cases hR : formL (splL 32 x.data.toList) with
  | none =>
    have HN := Lib.hid (show rdL x.data.toList = none by unfold rdL; rw [hR])
    rw [hR] at Hfo
    clear hR
    go_upto_region 3 with (go_at_call 28; refine Hfo.out.mono ?_; rintro e w3 ⟨hb3, f, wd, rfl, -⟩; have HB3 := Lib.hid hb3; clear hb3; rw [show formV f = Value.agg #[.int .u8 (f.d : Int), .int .u8 (f.k : Int), .string ⟨f.t.toArray⟩] from rfl])
    change Code.wp _ _ _ _ ((w3.alloc (.cells (formC f).toArray 62)).alloc (.cells #[.string wd] 9))
    obtain ⟨hF, hW, hb4⟩ := two_box w3 f wd
    have hb5 := HB3.out.trans (hb4.mono HB3.out.size)
    have HZ := Lib.hid (And.intro (HB2.out.1.trans (hb5.mono HB2.out.1.size)) (And.intro (HB2.out.2.1.below hb5) (HB2.out.2.2.below hb5)))
    have HF := Lib.hid (And.intro hF hW)
    have HSZ := Lib.hid (show w.heap.size < w3.heap.size from Nat.lt_of_lt_of_le HB2.out.2.1.lt HB3.out.size)
    clear hF hW hb4 hb5 HB2 HB3 Hfo
    generalize (w3.alloc (.cells (formC f).toArray 62)).alloc (.cells #[.string wd] 9) = w4 at *
    generalize w3.heap.size = g5 at *
    go_upto_region 4 with fail
    obtain ⟨o1, ho1, hS4⟩ : ∃ o1, ((if rs = [] then some (⟨g, 0, none⟩ : Addr) else some ⟨g, 1, none⟩) = some ⟨g, o1, none⟩) ∧ StrsAt w4 g o1 rs := by
      by_cases h : rs = []
      · exact ⟨0, if_pos h, HZ.out.2.2.lt, fun j y hj => by rw [h] at hj; simp at hj⟩
      · exact ⟨1, if_neg h, HZ.out.2.2.tail⟩
    rw [ho1]
    have HS4 := Lib.hid hS4
    clear hS4 ho1
    have h6 := HZ.out.2.1
    go_wp2_with ((with_reducible refine wpList_store_mid rfl 39 _ _ rfl w.heap.size 0 _ rfl rfl ?_ ?_ ?_ ?_); exact there_row (cs := stpC (stp0 0 0)) h6; exact stpC_size (stp0 0 0); exact all_oneCell_toArray (stpC_one (stp0 0 0)))
    change bodyPost _ _ _ _ _ (w4.setCells w.heap.size 0 (stpC (stp0 0 0)))
    have hza : StpAt (w4.setCells w.heap.size 0 (stpC (stp0 0 0))) w.heap.size (stp0 0 0) := by rw [st_eq]; exact rowSt_row (stpC (stp0 0 0)) [] (stpC (stp0 0 0)) w4 h6 rfl
    have hzb : Below w.heap.size w (w4.setCells w.heap.size 0 (stpC (stp0 0 0))) := by rw [st_eq]; exact rowSt_below (g := w.heap.size) (n := w.heap.size) (Nat.le_refl _) (stpC (stp0 0 0)) 0 _ HZ.out.1
    have HZ9 := Lib.hid (And.intro hza hzb)
    clear hza hzb h6
    generalize w4.setCells w.heap.size 0 (stpC (stp0 0 0)) = wz at *
    refine bodyPost_ret (v := .tuple #[stpV (stp0 0 0), .bool false]) (by simp [results, Tryd.results16, show (asAddr (Value.pointer (some ⟨w.heap.size, 0, none⟩))).run Tryd.prog wz = .ok ⟨w.heap.size, 0, none⟩ wz from rfl, stp_loadVar HZ9.out.1]) rfl ?_
    exact .bad HZ9.out.2 HN.out _
  | some f =>
    rw [hR] at Hfo
    have hf := formL_mem hR
    have HR := Lib.hid hR
    clear hR
    go_upto_region 3 with (go_at_call 28; refine Hfo.out.mono ?_; rintro e w3 ⟨hb3, f0, wd, rfl, hfw⟩; obtain ⟨hf0, hwd⟩ := hfw f rfl; rw [hf0, show formV f = Value.agg #[.int .u8 (f.d : Int), .int .u8 (f.k : Int), .string ⟨f.t.toArray⟩] from rfl]; have HB3 := Lib.hid hb3; have HWD := Lib.hid hwd; clear hb3 hf0 hfw hwd)
    change Code.wp _ _ _ _ ((w3.alloc (.cells (formC f).toArray 62)).alloc (.cells #[.string wd] 9))
    obtain ⟨hF, hW, hb4⟩ := two_box w3 f wd
    have hb5 := HB3.out.trans (hb4.mono HB3.out.size)
    have HZ := Lib.hid (And.intro (HB2.out.1.trans (hb5.mono HB2.out.1.size)) (And.intro (HB2.out.2.1.below hb5) (HB2.out.2.2.below hb5)))
    have HF := Lib.hid (And.intro hF hW)
    have HSZ := Lib.hid (show w.heap.size < w3.heap.size from Nat.lt_of_lt_of_le HB2.out.2.1.lt HB3.out.size)
    clear hF hW hb4 hb5 HB2 HB3 Hfo
    generalize (w3.alloc (.cells (formC f).toArray 62)).alloc (.cells #[.string wd] 9) = w4 at *
    generalize w3.heap.size = g5 at *
    go_upto_region 4 with fail
    obtain ⟨o1, ho1, hS4⟩ : ∃ o1, ((if rs = [] then some (⟨g, 0, none⟩ : Addr) else some ⟨g, 1, none⟩) = some ⟨g, o1, none⟩) ∧ StrsAt w4 g o1 rs := by
      by_cases h : rs = []
      · exact ⟨0, if_pos h, HZ.out.2.2.lt, fun j y hj => by rw [h] at hj; simp at hj⟩
      · exact ⟨1, if_neg h, HZ.out.2.2.tail⟩
    rw [ho1]
    have HS4 := Lib.hid hS4
    clear hS4 ho1
    by_cases hlen : rs.length = f.t.length
    · have hne : ((rs.length : Int) != (f.t.length : Int)) = false := by rw [hlen]; simp
      have H1 := Lib.hid (show rdL x.data.toList = takesL f.w (f.t.zip (rs.map (·.data.toList))) (stp0 f.d f.k) by unfold rdL; rw [HR.out]; simp only; rw [← HBK.out, if_pos (by simp [hlen])]; rfl)
      have HFT := Lib.hid (ft_ok f hf)
      obtain ⟨f0', f1', f2'⟩ := FormAt.cells HF.out.1
      obtain ⟨tk, htk⟩ : ∃ tk : ByteArray, tk = ⟨f.t.toArray⟩ := ⟨_, rfl⟩
      have htl : tk.data.toList = f.t := by rw [htk]
      have htz : tk.size = f.t.length := by rw [htk]; simp [ByteArray.size]
      go_upto_region 8 with fail
      change Code.wp _ _ _ _ (w4.alloc (.cells (stpC (stp0 f.d f.k)).toArray 39))
      have hb5 := (Below.refl _ w4).alloc (Nat.le_refl _) (.cells (stpC (stp0 f.d f.k)).toArray 39)
      have hs5 : StpAt (w4.alloc (.cells (stpC (stp0 f.d f.k)).toArray 39)) w4.heap.size (stp0 f.d f.k) := heap_alloc_new _ _
      have hz5 : (w4.alloc (.cells (stpC (stp0 f.d f.k)).toArray 39)).heap.size = w4.heap.size + 1 := by simp
      have H5 := Lib.hid (And.intro hb5 hs5)
      clear hb5 hs5 f0' f1' f2'
      generalize w4.alloc (.cells (stpC (stp0 f.d f.k)).toArray 39) = w5 at *
      have f2 := (FormAt.cells (HF.out.1.below H5.out.1)).2.2
      rw [← htk] at f2
      have HTK := Lib.hid htk
      clear htk
      have hit0 := World.iter_heap w5 tk 0
      have hb6 := (Below.refl _ w5).alloc (Nat.le_refl _) (.stringIter tk 0)
      rw [hz5] at hit0
      have HI0 := Lib.hid (show RdI w4 (w5.iter tk 0) w4.heap.size (w4.heap.size + 1) tk 0 (stp0 f.d f.k) from ⟨H5.out.1.trans (hb6.mono H5.out.1.size), hit0, H5.out.2.below hb6⟩)
      clear hit0 hb6
      go_upto_region 9 with fail
      clear f2
      have HH := Lib.hid (And.intro htl (And.intro htz hlen))
      clear hz5 H5 htl htz hlen hne
      generalize w5.iter tk 0 = w6 at *
      have hg9 : w.heap.size ≤ w4.heap.size := HZ.out.1.size
      obtain ⟨g9, hg9e⟩ : ∃ g9, g9 = w4.heap.size := ⟨_, rfl⟩
      rw [← hg9e] at HI0 hg9 ⊢
      have HG9 := Lib.hid (And.intro hg9e hg9)
      clear hg9e hg9
      go_loopw [11] (fun _ wr => ∃ (i : Nat) (s' : StpV), i ≤ f.t.length ∧ RdI w4 wr g9 (g9 + 1) tk i s' ∧ takesL f.w (f.t.zip (rs.map (·.data.toList))) (stp0 f.d f.k) = takesL f.w ((f.t.drop i).zip ((rs.map (·.data.toList)).drop i)) s') (fun _ wr => f.t.length - wr.iterPos (g9 + 1))
      case atStart => exact ⟨0, _, Nat.zero_le _, HI0.out, rfl⟩
      case round =>
        obtain ⟨i, s', hi, hI, hT⟩ := hrel
        have HT := Lib.hid hT
        have hmu : wr.iterPos (g9 + 1) = i := by simp [World.iterPos, hI.it]
        have HMU := Lib.hid hmu
        clear hT hmu HI0
        by_cases hlt : i < f.t.length
        · have htk : i < tk.size := by rw [HH.out.2.1]; exact hlt
          obtain ⟨hil, hget⟩ := bs_at htk
          have hgc : tk[i] = f.t[i] := by rw [hget]; simp only [HH.out.1]
          obtain ⟨c, hc⟩ : ∃ c, c = f.t[i] := ⟨_, rfl⟩
          have hlet := HFT.out.2.1 c (by rw [hc]; exact List.getElem_mem hlt)
          have hnext : ∀ ty, (Instr.next (.pointer (some ⟨g9 + 1, 0, none⟩)) true ty).run Tryd.prog wr = _ := fun ty => Lib.run_next_ascii_at wr (g9 + 1) tk i ty hI.it htk (by rw [hgc, ← hc]; exact let_small hlet)
          rw [hgc, ← hc] at hnext
          have hk1 := Lib.iterAt_heap wr (g9 + 1) tk i (i + 1) hI.it
          have hb1 : Below w4.heap.size w4 (wr.iterAt (g9 + 1) tk (i + 1)) := Lib.below_iterAt hI.bel (by rw [HG9.out.1]; exact Nat.le_succ _) tk (i + 1)
          have hs1 : StpAt (wr.iterAt (g9 + 1) tk (i + 1)) g9 s' := (Lib.iterAt_other wr (g9 + 1) g9 tk (i + 1) (by omega)).trans hI.st
          have HI1 := Lib.hid (show RdI w4 (wr.iterAt (g9 + 1) tk (i + 1)) g9 (g9 + 1) tk (i + 1) s' from ⟨hb1, hk1, hs1⟩)
          clear hk1 hb1 hs1 hgc hget hil hI
          generalize wr.iterAt (g9 + 1) tk (i + 1) = w7 at *
          have hir : i < rs.length := by rw [HH.out.2.2]; exact hlt
          obtain ⟨t, ht⟩ : ∃ t, t = rs[i] := ⟨_, rfl⟩
          have f4 : w7.cell? ⟨g, o1 + i, none⟩ = some (.string t) := (StrsAt.below HS4.out HI1.out.bel).at_ i t (by rw [ht]; exact List.getElem?_eq_getElem hir)
          have htz : t.size ≤ 1000000 := hsz t (by rw [ht]; exact List.mem_cons_of_mem _ (List.getElem_mem hir))
          have hpv : PV w7 := (HPV.out.on (HZ.out.1.trans (HI1.out.bel.mono HZ.out.1.size))).here
          have hta := take_any c hlet t htz g9 (g5 + 1) s' wd w7 HI1.out.st ((HI1.out.bel.block _ (Array.getElem?_eq_some_iff.1 HF.out.2).1).trans HF.out.2) hpv
          have hzd := zip_drop (cs := f.t) (ts := rs.map (·.data.toList)) hlt (by rw [List.length_map]; exact hir)
          rw [List.getElem_map, ← ht, ← hc] at hzd
          have hwf : wd.data.toList = f.w := by rw [HWD.out]
          rw [hwf] at hta
          have Hta := Lib.hid hta
          have HT2 := Lib.hid (show takesL f.w (f.t.zip (rs.map (·.data.toList))) (stp0 f.d f.k) = (takeL f.w s' c t.data.toList).bind (takesL f.w ((f.t.drop (i + 1)).zip ((rs.map (·.data.toList)).drop (i + 1)))) by rw [HT.out, hzd]; rfl)
          clear hta hzd hwf hpv htz ht hc hlet HT
          cases hR1 : takeL f.w s' c t.data.toList with
          | none =>
            have HN := Lib.hid (show rdL x.data.toList = none by rw [H1.out, HT2.out, hR1]; rfl)
            rw [hR1] at Hta
            clear hR1 HT2
            have hz6 := HZ.out.2.1.below HI1.out.bel
            go_upto_region 12 with (go_at_call 29; refine Hta.out.mono ?_; rintro e w8 ⟨rfl, hb8, s8, hs8, -⟩; have HB8 := Lib.hid hb8; clear hb8 hs8)
            have h6 : StpAt w8 w.heap.size (stp0 0 0) := (HB8.out.block _ hz6.lt (by have := HG9.out; have := HZ.out.2.1.lt; omega)).trans hz6
            have h7 : Below w.heap.size w w8 := HB8.out.below (HZ.out.1.trans (HI1.out.bel.mono HZ.out.1.size)) (HZ.out.1.trans (HI1.out.bel.mono HZ.out.1.size)).size HG9.out.2
            go_wp2_with ((with_reducible refine wpList_store_mid rfl 39 _ _ rfl w.heap.size 0 _ rfl rfl ?_ ?_ ?_ ?_); exact there_row (cs := stpC (stp0 0 0)) h6; exact stpC_size (stp0 0 0); exact all_oneCell_toArray (stpC_one (stp0 0 0)))
            change bodyPost _ _ _ _ _ (w8.setCells w.heap.size 0 (stpC (stp0 0 0)))
            have hza : StpAt (w8.setCells w.heap.size 0 (stpC (stp0 0 0))) w.heap.size (stp0 0 0) := by rw [st_eq]; exact rowSt_row (stpC (stp0 0 0)) [] (stpC (stp0 0 0)) w8 h6 rfl
            have hzb : Below w.heap.size w (w8.setCells w.heap.size 0 (stpC (stp0 0 0))) := by rw [st_eq]; exact rowSt_below (g := w.heap.size) (n := w.heap.size) (Nat.le_refl _) (stpC (stp0 0 0)) 0 _ h7
            have HZ9 := Lib.hid (And.intro hza hzb)
            clear hza hzb h6 h7
            generalize w8.setCells w.heap.size 0 (stpC (stp0 0 0)) = wz at *
            refine bodyPost_ret (v := .tuple #[stpV (stp0 0 0), .bool false]) (by simp [results, Tryd.results16, show (asAddr (Value.pointer (some ⟨w.heap.size, 0, none⟩))).run Tryd.prog wz = .ok ⟨w.heap.size, 0, none⟩ wz from rfl, stp_loadVar HZ9.out.1]) rfl ?_
            exact .bad HZ9.out.2 HN.out _
          | some s1 =>
            rw [hR1] at Hta
            have HT3 := Lib.hid (show takesL f.w (f.t.zip (rs.map (·.data.toList))) (stp0 f.d f.k) = takesL f.w ((f.t.drop (i + 1)).zip ((rs.map (·.data.toList)).drop (i + 1))) s1 by rw [HT2.out, hR1]; rfl)
            clear hR1 HT2
            go_wp2_with (go_at_call 29; refine Hta.out.mono ?_; rintro e w8 ⟨rfl, hb8, s8, hs8, hq8⟩; have hs9 := hq8 s1 rfl; subst hs9; have HB8 := Lib.hid (And.intro hb8 hs8); clear hb8 hs8 hq8)
            have hI8 : RdI w4 w8 g9 (g9 + 1) tk (i + 1) s8 := ⟨HB8.out.1.below HI1.out.bel HI1.out.bel.size (by rw [HG9.out.1]; exact Nat.le_refl _), (HB8.out.1.block _ (Array.getElem?_eq_some_iff.1 HI1.out.it).1 (by omega)).trans HI1.out.it, HB8.out.2⟩
            have hmu2 : w8.iterPos (g9 + 1) = i + 1 := by simp [World.iterPos, hI8.it]
            go_roundw
            case rel => exact ⟨i + 1, s8, hlt, hI8, HT3.out⟩
            case measure => rw [HMU.out, hmu2]; omega
        · have hnext : ∀ ty, (Instr.next (.pointer (some ⟨g9 + 1, 0, none⟩)) true ty).run Tryd.prog wr = _ := fun ty => Lib.run_next_end_at wr (g9 + 1) tk i ty hI.it (by rw [HH.out.2.1]; exact hlt)
          have hsome : rdL x.data.toList = some s' := by
            rw [H1.out, HT.out, List.drop_of_length_le (by omega)]
            rfl
          have HSM := Lib.hid hsome
          have HI9 := Lib.hid hI
          clear hsome hI
          have h6 : StpAt wr w.heap.size (stp0 0 0) := HZ.out.2.1.below HI9.out.bel
          have h7 : Below w.heap.size w wr := HZ.out.1.trans (HI9.out.bel.mono HZ.out.1.size)
          have HR9 := Lib.hid (show wr.rangeAt g9 0 (stpC s') from range_row HI9.out.st)
          go_wp2_with (first
            | (with_reducible refine wpList_load_mid rfl 39 _ rfl g9 0 rfl (stpC s') _ HR9.out Tryd.underlying39 rfl (stpC_size s') ?_)
            | ((with_reducible refine wpList_store_mid rfl 39 _ _ rfl w.heap.size 0 _ rfl rfl ?_ ?_ ?_ ?_); exact there_row (cs := stpC (stp0 0 0)) h6; exact stpC_size s'; exact all_oneCell_toArray (stpC_one s')))
          change bodyPost _ _ _ _ _ (wr.setCells w.heap.size 0 (stpC s'))
          have hza : StpAt (wr.setCells w.heap.size 0 (stpC s')) w.heap.size s' := by rw [st_eq]; exact rowSt_row (stpC s') [] (stpC (stp0 0 0)) wr h6 rfl
          have hzb : Below w.heap.size w (wr.setCells w.heap.size 0 (stpC s')) := by rw [st_eq]; exact rowSt_below (g := w.heap.size) (n := w.heap.size) (Nat.le_refl _) (stpC s') 0 _ h7
          have HZ9 := Lib.hid (And.intro hza hzb)
          clear hza hzb h6 h7
          generalize wr.setCells w.heap.size 0 (stpC s') = wz at *
          refine bodyPost_ret (v := .tuple #[stpV s', .bool true]) (by simp [results, Tryd.results16, show (asAddr (Value.pointer (some ⟨w.heap.size, 0, none⟩))).run Tryd.prog wz = .ok ⟨w.heap.size, 0, none⟩ wz from rfl, stp_loadVar HZ9.out.1]) rfl ?_
          exact .good HZ9.out.2 HSM.out
    · have hne : ((rs.length : Int) != (f.t.length : Int)) = true := by rw [bne_iff_ne]; omega
      have HN := Lib.hid (show rdL x.data.toList = none by unfold rdL; rw [HR.out]; simp only; rw [if_neg (fun q => hlen (by rw [← q, ← HBK.out]; simp))])
      have f2 := (FormAt.cells HF.out.1).2.2
      have h6 := HZ.out.2.1
      go_wp2_with ((with_reducible refine wpList_store_mid rfl 39 _ _ rfl w.heap.size 0 _ rfl rfl ?_ ?_ ?_ ?_); exact there_row (cs := stpC (stp0 0 0)) h6; exact stpC_size (stp0 0 0); exact all_oneCell_toArray (stpC_one (stp0 0 0)))
      change bodyPost _ _ _ _ _ (w4.setCells w.heap.size 0 (stpC (stp0 0 0)))
      have hza : StpAt (w4.setCells w.heap.size 0 (stpC (stp0 0 0))) w.heap.size (stp0 0 0) := by rw [st_eq]; exact rowSt_row (stpC (stp0 0 0)) [] (stpC (stp0 0 0)) w4 h6 rfl
      have hzb : Below w.heap.size w (w4.setCells w.heap.size 0 (stpC (stp0 0 0))) := by rw [st_eq]; exact rowSt_below (g := w.heap.size) (n := w.heap.size) (Nat.le_refl _) (stpC (stp0 0 0)) 0 _ HZ.out.1
      have HZ9 := Lib.hid (And.intro hza hzb)
      clear hza hzb h6
      generalize w4.setCells w.heap.size 0 (stpC (stp0 0 0)) = wz at *
      refine bodyPost_ret (v := .tuple #[stpV (stp0 0 0), .bool false]) (by simp [results, Tryd.results16, show (asAddr (Value.pointer (some ⟨w.heap.size, 0, none⟩))).run Tryd.prog wz = .ok ⟨w.heap.size, 0, none⟩ wz from rfl, stp_loadVar HZ9.out.1]) rfl ?_
      exact .bad HZ9.out.2 HN.out _
  end Go.Proofs.YtjjlodeiejobdaaDoor
namespace Go.Proofs.YtjjlodeiejobdaaDoor
open Go.RowKit Go.Shelf
/-- A step's texts are not too long. -/
structure StpV.Few (s : StpV) : Prop where
  y : s.y.length ≤ 100000
  o : s.o.length ≤ 100000
  n : s.n.length ≤ 100000
def OneStr (l : Bs) (w : World) (e : Ending) (w' : World) : Prop := e = .returned (.string ⟨l.toArray⟩) ∧ Below w.heap.size w w'
theorem OneStr.of {l l' : Bs} {w w' : World} (hb : Below w.heap.size w w') (h : l' = l) : OneStr l w (.returned (.string ⟨l'.toArray⟩)) w' := by
  subst h
  exact ⟨rfl, hb⟩
set_option maxRecDepth 100000 in
set_option maxHeartbeats 8000000 in
theorem said_any (c : UInt8) (hc : isLet c = true) (s : StpV) (hok : s.Ok) (hf : s.Few) (wd : ByteArray) (w : World) (hv : PV w) :
    Calls Tryd.prog 25 #[.int .i32 (c.toNat : Int), stpV s, .string wd] w (OneStr (fldL s wd.data.toList c) w) := by
  unfold isLet at hc
  simp only [Bool.or_eq_true, beq_iff_eq] at hc
  have hb1 := (Below.refl w.heap.size w).alloc (Nat.le_refl _) (.cells (stpC s).toArray 39)
  have hs1 : StpAt (w.alloc (.cells (stpC s).toArray 39)) w.heap.size s := heap_alloc_new _ _
  have H1 := Lib.hid (And.intro hb1 (And.intro hs1 (hv.below hb1)))
  clear hb1 hs1 hv
  rcases hc with ((((((rfl | rfl) | rfl) | rfl) | rfl) | rfl) | rfl) | rfl
  · change Calls Tryd.prog 25 #[.int .i32 97, .agg #[.int .u8 (s.d : Int), .int .u8 (s.a : Int), .int .u8 (s.b : Int), .int .i64 s.k, .int .u8 (s.cl : Int), .int .u32 (s.sq : Int), .int .u8 (s.kd : Int), .string ⟨s.y.toArray⟩, .string ⟨s.o.toArray⟩, .string ⟨s.n.toArray⟩, .int .u8 (s.st : Int)], .string wd] w _
    have hwr : IntKind.i64.wrap (s.a : Int) = (s.a : Int) := by rw [IntKind.wrap_i64]; have := hok.a; omega
    have Hcall := Lib.hid (fun y (hy : PV y) => itoa_any (s.a : Int) (by omega) (by have := hok.a; omega) y hy)
    obtain ⟨f0, f1, f2, f3, f6, f7, f8, f9, f10⟩ := StpAt.cells H1.out.2.1
    go_enter Tryd.func25, Tryd.ntmps25
    go_upto_region 1 with fail
    change Code.wp _ _ _ _ (w.alloc (.cells (stpC s).toArray 39))
    generalize w.alloc (.cells (stpC s).toArray 39) = w1 at *
    go_wp2_with (go_at_call 43; refine (Hcall.out w1 H1.out.2.2).mono ?_; rintro e w2 ⟨rfl, hb2⟩; have HB2 := Lib.hid hb2; clear hb2)
    go_ret
    exact .of (H1.out.1.trans (HB2.out.mono H1.out.1.size)) (Lib.itoa_nonneg _)
  · change Calls Tryd.prog 25 #[.int .i32 98, .agg #[.int .u8 (s.d : Int), .int .u8 (s.a : Int), .int .u8 (s.b : Int), .int .i64 s.k, .int .u8 (s.cl : Int), .int .u32 (s.sq : Int), .int .u8 (s.kd : Int), .string ⟨s.y.toArray⟩, .string ⟨s.o.toArray⟩, .string ⟨s.n.toArray⟩, .int .u8 (s.st : Int)], .string wd] w _
    have hwr : IntKind.i64.wrap (s.b : Int) = (s.b : Int) := by rw [IntKind.wrap_i64]; have := hok.b; omega
    have Hcall := Lib.hid (fun y (hy : PV y) => itoa_any (s.b : Int) (by omega) (by have := hok.b; omega) y hy)
    obtain ⟨f0, f1, f2, f3, f6, f7, f8, f9, f10⟩ := StpAt.cells H1.out.2.1
    go_enter Tryd.func25, Tryd.ntmps25
    go_upto_region 1 with fail
    change Code.wp _ _ _ _ (w.alloc (.cells (stpC s).toArray 39))
    generalize w.alloc (.cells (stpC s).toArray 39) = w1 at *
    go_wp2_with (go_at_call 43; refine (Hcall.out w1 H1.out.2.2).mono ?_; rintro e w2 ⟨rfl, hb2⟩; have HB2 := Lib.hid hb2; clear hb2)
    go_ret
    exact .of (H1.out.1.trans (HB2.out.mono H1.out.1.size)) (Lib.itoa_nonneg _)
  · change Calls Tryd.prog 25 #[.int .i32 107, .agg #[.int .u8 (s.d : Int), .int .u8 (s.a : Int), .int .u8 (s.b : Int), .int .i64 s.k, .int .u8 (s.cl : Int), .int .u32 (s.sq : Int), .int .u8 (s.kd : Int), .string ⟨s.y.toArray⟩, .string ⟨s.o.toArray⟩, .string ⟨s.n.toArray⟩, .int .u8 (s.st : Int)], .string wd] w _
    have Hcall := Lib.hid (fun y (hy : PV y) => itoa_any s.k hok.k.1 hok.k.2 y hy)
    obtain ⟨f0, f1, f2, f3, f6, f7, f8, f9, f10⟩ := StpAt.cells H1.out.2.1
    go_enter Tryd.func25, Tryd.ntmps25
    go_upto_region 1 with fail
    change Code.wp _ _ _ _ (w.alloc (.cells (stpC s).toArray 39))
    generalize w.alloc (.cells (stpC s).toArray 39) = w1 at *
    go_wp2_with (go_at_call 43; refine (Hcall.out w1 H1.out.2.2).mono ?_; rintro e w2 ⟨rfl, hb2⟩; have HB2 := Lib.hid hb2; clear hb2)
    go_ret
    exact .of (H1.out.1.trans (HB2.out.mono H1.out.1.size)) (rfl)
  · change Calls Tryd.prog 25 #[.int .i32 121, .agg #[.int .u8 (s.d : Int), .int .u8 (s.a : Int), .int .u8 (s.b : Int), .int .i64 s.k, .int .u8 (s.cl : Int), .int .u32 (s.sq : Int), .int .u8 (s.kd : Int), .string ⟨s.y.toArray⟩, .string ⟨s.o.toArray⟩, .string ⟨s.n.toArray⟩, .int .u8 (s.st : Int)], .string wd] w _
    have Hcall := Lib.hid (fun y (_ : PV y) => quote_any ⟨s.y.toArray⟩ (by have := hf.y; show s.y.toArray.size ≤ 1000000; simp; omega) y)
    obtain ⟨f0, f1, f2, f3, f6, f7, f8, f9, f10⟩ := StpAt.cells H1.out.2.1
    go_enter Tryd.func25, Tryd.ntmps25
    go_upto_region 1 with fail
    change Code.wp _ _ _ _ (w.alloc (.cells (stpC s).toArray 39))
    generalize w.alloc (.cells (stpC s).toArray 39) = w1 at *
    go_wp2_with (go_at_call 44; refine (Hcall.out w1 H1.out.2.2).mono ?_; rintro e w2 ⟨rfl, hb2⟩; have HB2 := Lib.hid hb2; clear hb2)
    go_ret
    exact .of (H1.out.1.trans (HB2.out.mono H1.out.1.size)) (rfl)
  · change Calls Tryd.prog 25 #[.int .i32 111, .agg #[.int .u8 (s.d : Int), .int .u8 (s.a : Int), .int .u8 (s.b : Int), .int .i64 s.k, .int .u8 (s.cl : Int), .int .u32 (s.sq : Int), .int .u8 (s.kd : Int), .string ⟨s.y.toArray⟩, .string ⟨s.o.toArray⟩, .string ⟨s.n.toArray⟩, .int .u8 (s.st : Int)], .string wd] w _
    have Hcall := Lib.hid (fun y (_ : PV y) => quote_any ⟨s.o.toArray⟩ (by have := hf.o; show s.o.toArray.size ≤ 1000000; simp; omega) y)
    obtain ⟨f0, f1, f2, f3, f6, f7, f8, f9, f10⟩ := StpAt.cells H1.out.2.1
    go_enter Tryd.func25, Tryd.ntmps25
    go_upto_region 1 with fail
    change Code.wp _ _ _ _ (w.alloc (.cells (stpC s).toArray 39))
    generalize w.alloc (.cells (stpC s).toArray 39) = w1 at *
    go_wp2_with (go_at_call 44; refine (Hcall.out w1 H1.out.2.2).mono ?_; rintro e w2 ⟨rfl, hb2⟩; have HB2 := Lib.hid hb2; clear hb2)
    go_ret
    exact .of (H1.out.1.trans (HB2.out.mono H1.out.1.size)) (rfl)
  · change Calls Tryd.prog 25 #[.int .i32 110, .agg #[.int .u8 (s.d : Int), .int .u8 (s.a : Int), .int .u8 (s.b : Int), .int .i64 s.k, .int .u8 (s.cl : Int), .int .u32 (s.sq : Int), .int .u8 (s.kd : Int), .string ⟨s.y.toArray⟩, .string ⟨s.o.toArray⟩, .string ⟨s.n.toArray⟩, .int .u8 (s.st : Int)], .string wd] w _
    have Hcall := Lib.hid (fun y (_ : PV y) => quote_any ⟨s.n.toArray⟩ (by have := hf.n; show s.n.toArray.size ≤ 1000000; simp; omega) y)
    obtain ⟨f0, f1, f2, f3, f6, f7, f8, f9, f10⟩ := StpAt.cells H1.out.2.1
    go_enter Tryd.func25, Tryd.ntmps25
    go_upto_region 1 with fail
    change Code.wp _ _ _ _ (w.alloc (.cells (stpC s).toArray 39))
    generalize w.alloc (.cells (stpC s).toArray 39) = w1 at *
    go_wp2_with (go_at_call 44; refine (Hcall.out w1 H1.out.2.2).mono ?_; rintro e w2 ⟨rfl, hb2⟩; have HB2 := Lib.hid hb2; clear hb2)
    go_ret
    exact .of (H1.out.1.trans (HB2.out.mono H1.out.1.size)) (rfl)
  · change Calls Tryd.prog 25 #[.int .i32 115, .agg #[.int .u8 (s.d : Int), .int .u8 (s.a : Int), .int .u8 (s.b : Int), .int .i64 s.k, .int .u8 (s.cl : Int), .int .u32 (s.sq : Int), .int .u8 (s.kd : Int), .string ⟨s.y.toArray⟩, .string ⟨s.o.toArray⟩, .string ⟨s.n.toArray⟩, .int .u8 (s.st : Int)], .string wd] w _
    have hwr : IntKind.i64.wrap (s.st : Int) = (s.st : Int) := by rw [IntKind.wrap_i64]; have := hok.st; omega
    have Hcall := Lib.hid (fun y (hy : PV y) => itoa_any (s.st : Int) (by omega) (by have := hok.st; omega) y hy)
    obtain ⟨f0, f1, f2, f3, f6, f7, f8, f9, f10⟩ := StpAt.cells H1.out.2.1
    go_enter Tryd.func25, Tryd.ntmps25
    go_upto_region 1 with fail
    change Code.wp _ _ _ _ (w.alloc (.cells (stpC s).toArray 39))
    generalize w.alloc (.cells (stpC s).toArray 39) = w1 at *
    go_wp2_with (go_at_call 43; refine (Hcall.out w1 H1.out.2.2).mono ?_; rintro e w2 ⟨rfl, hb2⟩; have HB2 := Lib.hid hb2; clear hb2)
    go_ret
    exact .of (H1.out.1.trans (HB2.out.mono H1.out.1.size)) (Lib.itoa_nonneg _)
  · change Calls Tryd.prog 25 #[.int .i32 105, .agg #[.int .u8 (s.d : Int), .int .u8 (s.a : Int), .int .u8 (s.b : Int), .int .i64 s.k, .int .u8 (s.cl : Int), .int .u32 (s.sq : Int), .int .u8 (s.kd : Int), .string ⟨s.y.toArray⟩, .string ⟨s.o.toArray⟩, .string ⟨s.n.toArray⟩, .int .u8 (s.st : Int)], .string wd] w _
    go_enter Tryd.func25, Tryd.ntmps25
    go_upto_region 1 with fail
    change Code.wp _ _ _ _ (w.alloc (.cells (stpC s).toArray 39))
    generalize w.alloc (.cells (stpC s).toArray 39) = w1 at *
    go_wp2
    go_ret
    exact ⟨rfl, H1.out.1⟩
end Go.Proofs.YtjjlodeiejobdaaDoor
namespace Go.Proofs.YtjjlodeiejobdaaDoor
open Go.RowKit
section
variable {α : Type} {enc : α → List Value} {k : Nat}
/-- The cells of a row. -/
def flat (enc : α → List Value) (z : List α) : List Value := z.flatMap enc
theorem flat_len (hk : ∀ x, (enc x).length = k) : ∀ z : List α, (flat enc z).length = z.length * k
  | [] => by simp [flat]
  | x :: r => by
    have h := flat_len hk r
    unfold flat at *
    rw [List.flatMap_cons, List.length_append, hk, h, List.length_cons, Nat.succ_mul]
    omega
theorem flat_at (hk : ∀ x, (enc x).length = k) : ∀ (z : List α) (i r : Nat) (x : α) (u : Value), z[i]? = some x → (enc x)[r]? = some u → (flat enc z)[i * k + r]? = some u
  | [], _, _, _, _, h, _ => by simp at h
  | y :: l, 0, r, x, u, h, hu => by
    simp at h
    subst h
    have hr : r < (enc y).length := (List.getElem?_eq_some_iff.1 hu).1
    unfold flat
    rw [List.flatMap_cons, Nat.zero_mul, Nat.zero_add, List.getElem?_append_left hr, hu]
  | y :: l, i + 1, r, x, u, h, hu => by
    simp at h
    have ih := flat_at hk l i r x u h hu
    unfold flat at *
    rw [List.flatMap_cons, List.getElem?_append_right (by rw [hk, Nat.succ_mul]; omega), hk, Nat.succ_mul, show i * k + k + r - k = i * k + r by omega]
    exact ih
/-- An owned row reads as its elements. -/
theorem own_slice {w : World} {base : Nat} {e : TypeId} {A : Option Addr} {n c : Nat} {z : List α} (hk : ∀ x, (enc x).length = k) (h : w.ownsRow base e k (.slice A n c) n (flat enc z)) (hz : z.length = n) (hm : n ≤ maxLen) : SliceAt k enc w A n z := by
  obtain ⟨h1, h2⟩ := h
  refine ⟨hz, hm, fun i x hx => ?_⟩
  have hi : i < z.length := (List.getElem?_eq_some_iff.1 hx).1
  rcases h2 with ⟨_, h3⟩ | ⟨g, cap, cur, e1, _, hg, _, _, _, ht⟩
  · omega
  · cases e1
    refine ⟨g, 0, rfl, (Array.getElem?_eq_some_iff.1 hg).1, fun j v hj => ?_⟩
    have e := flat_at hk z i j x v hx hj
    have hlt : i * k + j < n * k := by
      have := (List.getElem?_eq_some_iff.1 e).1
      rwa [flat_len hk, hz] at this
    rw [← ht, List.getElem?_take, if_pos hlt, Array.getElem?_toList] at e
    simp only [World.cell?, hg, Nat.zero_add]
    simpa using e
theorem own_slice_of {w : World} {base : Nat} {e : TypeId} {v : Value} {n : Nat} {xs : List Value} (h : w.ownsRow base e k v n xs) : ∃ A c, v = .slice A n c := by
  rcases h.2 with ⟨rfl, rfl⟩ | ⟨g, cap, cur, rfl, _⟩
  · exact ⟨none, 0, rfl⟩
  · exact ⟨_, _, rfl⟩
end
end Go.Proofs.YtjjlodeiejobdaaDoor
