/- Play: Write. Condition: the steps' texts are not too long; the library's variables hold what the program's text lays. -/
import Derived.Test.YtjjlodeiejobdaaDoorPyD
namespace Go.Proofs.YtjjlodeiejobdaaDoor
open Go.RowKit Go.Shelf Go.Deep
structure StpV.Mid (s : StpV) : Prop where
  y : s.y.length ≤ 30000
  o : s.o.length ≤ 30000
  n : s.n.length ≤ 30000
theorem StpV.Mid.few {s : StpV} (h : s.Mid) : s.Few := ⟨Nat.le_trans h.y (by decide), Nat.le_trans h.o (by decide), Nat.le_trans h.n (by decide)⟩
theorem quo_mid {l : Bs} (h : l.length ≤ 30000) : (quoL l).length ≤ 120000 := by
  unfold quoL
  split
  · decide
  · have := quo_len l; omega
theorem fld_mid {s : StpV} (hok : s.Ok) (hf : s.Mid) {w : Bs} (hw : w.length ≤ 120000) (c : UInt8) : (fldL s w c).length ≤ 120000 := by
  unfold fldL
  repeat' split
  · have := dec_len hok.a; omega
  · have := dec_len hok.b; omega
  · have := Lib.itoa_length_le s.k hok.k.1 hok.k.2; omega
  · exact quo_mid hf.y
  · exact quo_mid hf.o
  · exact quo_mid hf.n
  · have := dec_len hok.st; omega
  · exact hw
theorem line_len {s : StpV} (hok : s.Ok) (hf : s.Mid) {f : FormV} (h : f ∈ FT) : (lineL f s).length ≤ 900000 := by
  obtain ⟨h1, h2⟩ := ft_len f h
  have h3 := joi_le (c := 32) (B := 120000) (l := (if f.d = 12 then INV else f.w) :: f.t.map (fldL s f.w)) (fun p hp => by
    rcases List.mem_cons.1 hp with rfl | hp
    · split
      · exact Nat.le_trans (show INV.length ≤ 6 by decide) (by decide)
      · omega
    · obtain ⟨c, _, rfl⟩ := List.mem_map.1 hp
      exact fld_mid hok hf (by omega) c)
  rw [List.length_cons, List.length_map] at h3
  have h4 : (f.t.length + 1) * 120001 ≤ 6 * 120001 := Nat.mul_le_mul_right _ (by omega)
  exact Nat.le_trans h3 (by omega)
theorem say_of {s : StpV} {l : Bs} (h : sayL s = some l) : ∃ f, formS s.d s.kd = some f ∧ f ∈ FT ∧ lineL f s = l := by
  unfold sayL at h
  cases hf : formS s.d s.kd with
  | none => rw [hf] at h; cases h
  | some f =>
    rw [hf] at h
    simp only at h
    split at h
    · cases h; exact ⟨f, rfl, (find_mem hf).1, rfl⟩
    · cases h
/-- What Write tells. -/
def wrL : List StpV → Nat → Bs → Bs × Nat × Nat
  | [], _, acc => (acc, 0, 0)
  | s :: r, i, acc => match sayL s with
    | some l => wrL r (i + 1) (acc ++ l ++ [10])
    | none => ([], i + 1, 2)
theorem wr_end {z : List StpV} {i : Nat} {acc : Bs} (h : z.length ≤ i) : wrL (z.drop i) i acc = (acc, 0, 0) := by
  rw [List.drop_eq_nil_of_le h]
  rfl
theorem wr_some {z : List StpV} {i : Nat} {acc : Bs} {s : StpV} {l : Bs} (hz : z[i]? = some s) (h : sayL s = some l) : wrL (z.drop i) i acc = wrL (z.drop (i + 1)) (i + 1) (acc ++ l ++ [10]) := by
  obtain ⟨hi, rfl⟩ := List.getElem?_eq_some_iff.1 hz
  rw [List.drop_eq_getElem_cons hi, wrL, h]
theorem wr_none {z : List StpV} {i : Nat} {acc : Bs} {s : StpV} (hz : z[i]? = some s) (h : sayL s = none) : wrL (z.drop i) i acc = ([], i + 1, 2) := by
  obtain ⟨hi, rfl⟩ := List.getElem?_eq_some_iff.1 hz
  rw [List.drop_eq_getElem_cons hi, wrL, h]
def WrtR (R : Bs × Nat × Nat) (w : World) (e : Ending) (w' : World) : Prop := Below w.heap.size w w' ∧ e = .returned (.tuple #[.string ⟨R.1.toArray⟩, .int .i64 (R.2.1 : Int), .int .i64 (R.2.2 : Int)])
theorem WrtR.of {R : Bs × Nat × Nat} {w w' : World} {l : Bs} {n e : Nat} (hb : Below w.heap.size w w') (h : R = (l, n, e)) {v : Value} (hv : v = .tuple #[.string ⟨l.toArray⟩, .int .i64 (n : Int), .int .i64 (e : Int)]) : WrtR R w (.returned v) w' := by
  subst h hv
  exact ⟨hb, rfl⟩
theorem wpList_load_grd {P : Program} {ops : Array Oper} {rest : List Oper} {op : Oper} {a : Act} {w : World} {Q : Exit → Act → World → Prop} (ty : TypeId) (x : Operand) (ho : op.op = .load ty x)
    (b o : Nat) (hx : a.eval x = .pointer (some ⟨b, o, none⟩)) (cs : List Value) (d : TypeDesc) (hc : w.rangeAt b o cs) (hu : P.underlying ty = some d) (hd : d.isRow = true) (hi : (P.info? ty).map (·.size) = some cs.length)
    (hw : Region.wanted op (yielded ops a.tmps) = true) (h : wpList P ops Q rest (a.put op.dst (.agg cs.toArray)) w) : wpList P ops Q (op :: rest) a w :=
  BigFrame.wpList_want hw fun _ hK => wp_load_mid ty x ho b o hx cs d hc hu hd hi (hK _ _ h)
theorem bld_below {T e : TypeId} {B b : Nat} {bs : List Value} {W W' : World} (h : Lib.IsBuilderF T e B b bs W) (hb : Below W.heap.size W W') : Lib.IsBuilderF T e B b bs W' := by
  have hg : W.grownBy W' none := ⟨hb.os, hb.tape, hb.output, hb.size, fun k hk _ => hb.block k hk⟩
  rcases h with h | h
  all_goals
    have hl := h.lt
    obtain ⟨q1, v, q2, q3, q4⟩ := h
  · exact .inl ⟨q1, v, (hb.block b hl).trans q2, q3.kept hg (Classical.em _), q4⟩
  · exact .inr ⟨q1, v, (hb.block b hl).trans q2, q3.kept hg (Classical.em _), q4⟩
set_option maxRecDepth 100000 in
theorem stp_eql (s t : StpV) (w : World) : (Op.equal 39 (.agg (stpC s).toArray) (.agg (stpC t).toArray)).run Tryd.prog w = .ok (decide (s = t)) w := by
  have h : ∀ d : Nat, (Op.equalIn (d + 4) 39 (.agg (stpC s).toArray) (.agg (stpC t).toArray)).run Tryd.prog w = .ok (decide (s = t)) w := by
    intro d
    unfold stpC
    go_simp
    simp only [Int.natCast_inj]
    by_cases h : s = t
    · subst h
      simp
    · rw [decide_eq_false h]
      repeat' split
      all_goals first
        | rfl
        | (refine (h ?_).elim; cases s; cases t; simp_all)
  exact h 9996
theorem stp_exec (ρ : Operand → Value) (o : Oper) (b : Bool) (x y : Operand) (h : o.op = .binOp (bif b then .eql else .neq) 39 x y 39) (s t : StpV) (hx : ρ x = .agg (stpC s).toArray) (hy : ρ y = .agg (stpC t).toArray) (w : World) :
    (execOp ρ o).run Tryd.prog w = .ok (.value (.bool (decide (s = t) == b))) w := by
  have h0 := stp_eql s t w
  cases b
  · have hg : (eqGuard .neq 39 x y (.agg (stpC s).toArray) (.agg (stpC t).toArray)).run Tryd.prog w = .ok () w := by go_simp
    have he : (binOp .neq 39 (.agg (stpC s).toArray) (.agg (stpC t).toArray)).run Tryd.prog w = .ok (.bool (decide (s = t) == false)) w := by
      simp only [binOp]
      simp only [Sem.run_bind, h0, Result.andThen_ok, Sem.run_pure]
      cases decide (s = t) <;> rfl
    simp only [execOp, h, hx, hy, Sem.run_bind, cond_false, hg, he, Result.andThen_ok, Sem.run_pure]
  · have hg : (eqGuard .eql 39 x y (.agg (stpC s).toArray) (.agg (stpC t).toArray)).run Tryd.prog w = .ok () w := by go_simp
    have he : (binOp .eql 39 (.agg (stpC s).toArray) (.agg (stpC t).toArray)).run Tryd.prog w = .ok (.bool (decide (s = t) == true)) w := by
      simp only [binOp]
      simp only [Sem.run_bind, h0, Result.andThen_ok, Sem.run_pure]
      cases decide (s = t) <;> rfl
    simp only [execOp, h, hx, hy, Sem.run_bind, cond_true, hg, he, Result.andThen_ok, Sem.run_pure]
theorem wpList_eql_stp {ops : Array Oper} {rest : List Oper} {op : Oper} {a : Act} {w : World} {Q : Exit → Act → World → Prop} (b : Bool) (x y : Operand) (ho : op.op = .binOp (bif b then .eql else .neq) 39 x y 39)
    (s t : StpV) (hx : a.eval x = .agg (stpC s).toArray) (hy : a.eval y = .agg (stpC t).toArray) (c : Bool) (hc : (decide (s = t) == b) = c)
    (hw : Region.wanted op (yielded ops a.tmps) = true) (h : wpList Tryd.prog ops Q rest (a.put op.dst (.bool c)) w) : wpList Tryd.prog ops Q (op :: rest) a w :=
  BigFrame.wpList_want hw fun _ hK => by
    unfold Oper.wp
    rw [stp_exec a.eval op b x y ho s t hx hy, hc]
    exact hK _ _ h
abbrev BldAt (w : World) (B : Nat) (l : Bs) (wr : World) : Prop := Lib.IsBuilderF 43 5 w.heap.size B (Lib.byteCells l) wr
theorem ws_any (B b : Nat) (l x : Bs) (w : World) (h : Lib.IsBuilderF 43 5 B b (Lib.byteCells l) w) (hlen : l.length + x.length ≤ 140737488355328) (hBw : B ≤ w.heap.size) :
    Calls Tryd.prog 17 #[.pointer (some ⟨b, 0, none⟩), .string ⟨x.toArray⟩] w fun e w' => (∃ v, e = .returned v) ∧ Lib.IsBuilderF 43 5 B b (Lib.byteCells (l ++ x)) w' ∧ Below B w w' :=
  (Any.Builder_WriteString_k lay_ws lay_ex B b (Lib.byteCells l) ⟨x.toArray⟩ w h (by simpa [Lib.byteCells, ByteArray.size] using hlen) hBw).mono fun e w' ⟨he, h1, h2, _⟩ => ⟨⟨_, he⟩, .inr (by rw [show Lib.byteCells (l ++ x) = Lib.byteCells l ++ Lib.strCells ⟨x.toArray⟩ by simp [Lib.byteCells, Lib.strCells]]; exact h1), h2⟩
theorem wb_any (B b : Nat) (l : Bs) (w : World) (h : Lib.IsBuilderF 43 5 B b (Lib.byteCells l) w) (hlen : l.length + 1 ≤ 140737488355328) (hBw : B ≤ w.heap.size) :
    Calls Tryd.prog 18 #[.pointer (some ⟨b, 0, none⟩), .int .u8 10] w fun e w' => e = .returned .nilIface ∧ Lib.IsBuilderF 43 5 B b (Lib.byteCells (l ++ [10])) w' ∧ Below B w w' :=
  (Any.Builder_WriteByte_k lay_wb lay_ex B b (Lib.byteCells l) 10 w h (by simpa [Lib.byteCells] using hlen) hBw).mono fun e w' ⟨he, h1, h2, _⟩ => ⟨he, .inr (by rw [show Lib.byteCells (l ++ [10]) = Lib.byteCells l ++ [.int .u8 10] by simp [Lib.byteCells]]; exact h1), h2⟩
theorem str_any (B b : Nat) (l : Bs) (w : World) (h : Lib.IsBuilderF 43 5 B b (Lib.byteCells l) w) (hBw : B ≤ w.heap.size) :
    Calls Tryd.prog 19 #[.pointer (some ⟨b, 0, none⟩)] w fun e w' => e = .returned (.string ⟨l.toArray⟩) ∧ Below B w w' :=
  (Any.Builder_String_any_k lay_str lay_ex B b l w h hBw).mono fun _ _ ⟨he, _, h2, _⟩ => ⟨he, h2⟩
theorem fresh_bld (w : World) : Lib.IsBuilderF 43 5 w.heap.size w.heap.size (Lib.byteCells []) (w.alloc (.cells #[.pointer none, .slice none 0 0] 43)) := Lib.IsBuilderF.of (Lib.fresh_isBuilder 43 5 w)
set_option maxRecDepth 100000 in
set_option maxHeartbeats 16000000 in
theorem Write_any (a : Option Addr) (len cap : Nat) (z : List StpO) (hlen : len ≤ 100000) (hmid : ∀ s ∈ z, s.val.Mid) (w : World) (hz : StpsAt w a len z) (hv : PV w) :
    Calls Tryd.prog 9 #[.slice a len cap] w (WrtR (wrL (z.map (·.val)) 0 []) w) := by
  have hzl := hz.hlen
  have Hz := Lib.hid hz
  have HPV := Lib.hid (PVB.of hv)
  have hf0 := fresh_bld w
  have hb0 := (Below.refl w.heap.size w).alloc (Nat.le_refl _) (.cells #[.pointer none, .slice none 0 0] 43)
  have H0 := Lib.hid (And.intro hf0 hb0)
  have Hlen := Lib.hid (And.intro hzl hlen)
  have Hmid := Lib.hid hmid
  clear hz hv hf0 hb0 hlen hzl hmid
  go_enter Tryd.func9, Tryd.ntmps9
  go_upto_region 2 with fail
  change Code.wp _ _ _ _ (w.alloc (.cells #[.pointer none, .slice none 0 0] 43))
  generalize w.alloc (.cells #[.pointer none, .slice none 0 0] 43) = w0 at *
  obtain ⟨B, hB⟩ : ∃ B, B = w.heap.size := ⟨_, rfl⟩
  rw [← hB]
  have HB := Lib.hid hB
  obtain ⟨zz, hzz⟩ : ∃ zz, zz = z.map (·.val) := ⟨_, rfl⟩
  have HZZ := Lib.hid hzz
  clear hB hzz
  go_upto_region 3 with fail
  go_simp
  go_loopw [14] (fun s14 wr => ∃ (i : Nat) (acc : Bs), s14 = .int .i64 (i : Int) ∧ i ≤ len ∧ wrL zz 0 [] = wrL (zz.drop i) i acc ∧ acc.length ≤ i * 1000001 ∧ Lib.IsBuilderF 43 5 w.heap.size B (Lib.byteCells acc) wr ∧ Below w.heap.size w wr) (fun s14 _ => len - (intOf s14).toNat)
  case atStart => exact ⟨0, [], rfl, Nat.zero_le _, rfl, Nat.zero_le _, by rw [HB.out]; exact H0.out.1, H0.out.2⟩
  case round =>
    clear H0
    obtain ⟨i, acc, rfl, hi, hsp, hal, hbl, hbw⟩ := hrel
    have HA := Lib.hid (And.intro hsp (And.intro hal (And.intro hbl hbw)))
    clear hsp hal hbl hbw
    by_cases hil : i < len
    · have hil' : (i : Int) < (len : Int) := by omega
      have HW1 := Lib.hid (show wrap64 ((i : Int) + 1) = (i : Int) + 1 by have := Hlen.out; unfold wrap64; omega)
      obtain ⟨ab, ao, rfl, hab, hrow⟩ := stps_row (Hz.out.below HA.out.2.2.2) hil
      obtain ⟨S, hS⟩ : ∃ S, S = z.getD i default := ⟨_, rfl⟩
      rw [← hS] at hrow
      have hzi : z[i]? = some S := by rw [hS]; simp [List.getD, List.getElem?_eq_getElem (show i < z.length by have := Hlen.out; omega)]
      have hzz2 : zz[i]? = some S.val := by rw [HZZ.out, List.getElem?_map, hzi]; rfl
      have HS := Lib.hid (And.intro (Hmid.out S (List.mem_of_getElem? hzi)) (And.intro S.property hzz2))
      obtain ⟨s, hs⟩ : ∃ s, s = S.val := ⟨_, rfl⟩
      rw [← hs] at hrow hzz2 HS
      have hok : s.Ok := by rw [hs]; exact S.property
      have HS := Lib.hid (And.intro HS.out.1 (And.intro hok hzz2))
      have Hr := Lib.hid hrow
      have HNN : sayL s = none → wrL (z.map (·.val)) 0 [] = ([], i + 1, 2) := fun h => by rw [← HZZ.out]; exact HA.out.1.trans (wr_none HS.out.2.2 h)
      have HYY : ∀ l, sayL s = some l → wrL zz 0 [] = wrL (zz.drop (i + 1)) (i + 1) (acc ++ l ++ [10]) := fun l h => HA.out.1.trans (wr_some HS.out.2.2 h)
      clear hrow hS hzi hzz2 hok hs
      clear S
      go_upto_region 5 with (first
        | (with_reducible refine wpList_load_mid rfl 39 _ rfl ab (ao + i * 11) rfl (stpC s) _ Hr.out Tryd.underlying39 rfl (stpC_size s) ?_)
        | ((with_reducible refine wpList_store_mid rfl 39 _ _ rfl wr.heap.size 0 _ rfl rfl ?_ ?_ ?_ ?_); exact th_new3 wr (stpC (stp0 0 0)) 39; exact stpC_size s; exact all_oneCell_toArray (stpC_one s)))
      change Code.wp _ _ _ _ ((wr.alloc (.cells (stpC (stp0 0 0)).toArray 39)).setCells wr.heap.size 0 (stpC s))
      have hbx := box_below wr (stpC (stp0 0 0)) (stpC s) 39
      have hs1 : StpAt _ _ s := box_row wr (stpC (stp0 0 0)) (stpC s) 39 rfl
      have H1 := Lib.hid (And.intro hs1 (And.intro (bld_below HA.out.2.2.1 hbx) (HA.out.2.2.2.trans (hbx.mono HA.out.2.2.2.size))))
      clear hbx hs1 Hr
      generalize (wr.alloc (.cells (stpC (stp0 0 0)).toArray 39)).setCells wr.heap.size 0 (stpC s) = w1 at *
      generalize wr.heap.size = g1 at *
      have HR1 := Lib.hid (range_row H1.out.1)
      have Hwr := Lib.hid (write_any s HS.out.2.1 HS.out.1.few w1 (HPV.out.on H1.out.2.2).here)
      cases hfs : formS s.d s.kd with
      | none =>
        rw [hfs] at Hwr
        have HN := Lib.hid (show sayL s = none from by
          cases h : sayL s with
          | none => rfl
          | some l => obtain ⟨f, hf, _⟩ := say_of h; rw [hfs] at hf; cases hf)
        clear hfs
        go_upto_region 6 with (first
          | (with_reducible refine wpList_load_mid rfl 39 _ rfl g1 0 rfl (stpC s) _ HR1.out Tryd.underlying39 rfl (stpC_size s) ?_)
          | (go_at_call 15; refine Hwr.out.mono ?_; rintro e w2 ⟨hb2, rfl⟩; have HB2 := Lib.hid hb2; clear hb2))
        go_wp2
        go_ret3
        exact .of (H1.out.2.2.trans (HB2.out.mono H1.out.2.2.size)) (l := []) (n := i + 1) (e := 2) (HNN HN.out) (by show Value.tuple #[_, .int .i64 (wrap64 ((i : Int) + 1)), _] = _; rw [HW1.out]; rfl)
      | some f =>
        rw [hfs] at Hwr
        have HF := Lib.hid hfs
        have HFM := Lib.hid (find_mem hfs).1
        clear hfs
        obtain ⟨ln, hln⟩ : ∃ ln, ln = lineL f s := ⟨_, rfl⟩
        have HLN := Lib.hid (show ln.length ≤ 900000 by rw [hln]; exact line_len HS.out.2.1 HS.out.1 HFM.out)
        have Hwr2 : Hid (Calls Tryd.prog 15 #[stpV s] w1 (WriteR (some ln) w1)) := by rw [hln]; exact Hwr
        have HL := Lib.hid hln
        clear hln Hwr
        go_upto_region 6 with (first
          | (with_reducible refine wpList_load_mid rfl 39 _ rfl g1 0 rfl (stpC s) _ HR1.out Tryd.underlying39 rfl (stpC_size s) ?_)
          | (go_at_call 15; refine Hwr2.out.mono ?_; rintro e w2 ⟨hb2, rfl⟩; have HB2 := Lib.hid hb2; clear hb2))
        have H2 := Lib.hid (And.intro (H1.out.1.below HB2.out) (And.intro (bld_below H1.out.2.1 HB2.out) (H1.out.2.2.trans (HB2.out.mono H1.out.2.2.size))))
        clear H1 HB2 Hwr2 HR1
        have HRd := Lib.hid (read_any ⟨ln.toArray⟩ (by have := HLN.out; simpa [ByteArray.size] using Nat.le_trans this (by decide)) w2 (HPV.out.on H2.out.2.2).here)
        rw [show (⟨ln.toArray⟩ : ByteArray).data.toList = ln from rfl] at HRd
        go_upto_region 8 with (first
          | (go_at_call 16; refine HRd.out.mono ?_; rintro e w3 ⟨hb3, s2, rfl, hs2⟩; have H3 := Lib.hid (And.intro hb3 hs2); clear hb3 hs2)
          | ((with_reducible refine wpList_store_mid rfl 39 _ _ rfl w3.heap.size 0 _ rfl rfl ?_ ?_ ?_ ?_); exact th_new3 w3 (stpC (stp0 0 0)) 39; exact stpC_size s2; exact all_oneCell_toArray (stpC_one s2)))
        change Code.wp _ _ _ _ ((w3.alloc (.cells (stpC (stp0 0 0)).toArray 39)).setCells w3.heap.size 0 (stpC s2))
        have hbx := (box_below w3 (stpC (stp0 0 0)) (stpC s2) 39)
        have hs4 : StpAt _ _ s2 := box_row w3 (stpC (stp0 0 0)) (stpC s2) 39 rfl
        have hb4 := H3.out.1.trans (hbx.mono H3.out.1.size)
        have H4 := Lib.hid (And.intro hs4 (And.intro (H2.out.1.below hb4) (And.intro (bld_below H2.out.2.1 hb4) (H2.out.2.2.trans (hb4.mono H2.out.2.2.size)))))
        have HRd2 := Lib.hid H3.out.2
        clear hbx hs4 hb4 H2 H3 HRd
        generalize (w3.alloc (.cells (stpC (stp0 0 0)).toArray 39)).setCells w3.heap.size 0 (stpC s2) = w4 at *
        generalize w3.heap.size = g4 at *
        have HR4 := Lib.hid (range_row H4.out.1)
        have HR1 := Lib.hid (range_row H4.out.2.1)
        have hff := HF.out
        cases hrd : rdL ln with
        | none =>
          rw [hrd] at HRd2
          have HN := Lib.hid (show sayL s = none from by
            cases h : sayL s with
            | none => rfl
            | some l =>
              obtain ⟨f', hf', _, hl⟩ := say_of h
              rw [hff] at hf'
              cases hf'
              rw [← HL.out] at hl
              subst hl
              rw [(rd_iff HS.out.2.1).2 h] at hrd
              cases hrd)
          clear hff hrd
          go_wp2
          go_ret3
          exact .of H4.out.2.2.2 (l := []) (n := i + 1) (e := 2) (HNN HN.out) (by show Value.tuple #[_, .int .i64 (wrap64 ((i : Int) + 1)), _] = _; rw [HW1.out]; rfl)
        | some s3 =>
          rw [hrd] at HRd2
          obtain rfl := HRd2.out s3 rfl
          clear HRd2
          by_cases he : s2 = s
          · subst he
            have HY := Lib.hid ((rd_iff HS.out.2.1).1 hrd)
            have HQ := Lib.hid (show (decide (s2 = s2) == true) = true by rw [decide_eq_true rfl]; rfl)
            clear hff hrd
            have HW := Lib.hid (ws_any w.heap.size B acc ln w4 H4.out.2.2.1 (by have h1 := HLN.out; have h2 := HA.out.2.1; have h3 := Hlen.out; omega) H4.out.2.2.2.size)
            go_upto_region 12 with (first
              | ((with_reducible refine wpList_load_grd 39 _ rfl g4 0 rfl (stpC s2) _ HR4.out Tryd.underlying39 rfl (stpC_size _) ?_ ?_); exact (Eq.refl true))
              | ((with_reducible refine wpList_load_grd 39 _ rfl g1 0 rfl (stpC s2) _ HR1.out Tryd.underlying39 rfl (stpC_size _) ?_ ?_); exact (Eq.refl true))
              | ((with_reducible refine wpList_eql_stp true _ _ rfl s2 s2 rfl rfl true HQ.out ?_ ?_); exact (Eq.refl true))
              | (go_at_call 17; refine HW.out.mono ?_; rintro e w5 ⟨⟨v5, rfl⟩, h5, hb5⟩; have H5 := Lib.hid (And.intro h5 (H4.out.2.2.2.trans hb5)); clear h5 hb5))
            clear HQ
            have HW2 := Lib.hid (wb_any w.heap.size B (acc ++ ln) w5 H5.out.1 (by have h1 := HLN.out; have h2 := HA.out.2.1; have h3 := Hlen.out; rw [List.length_append]; omega) H5.out.2.size)
            go_wp2_with (go_at_call 18; refine HW2.out.mono ?_; rintro e w6 ⟨rfl, h6, hb6⟩; have H6 := Lib.hid (And.intro h6 (H5.out.2.trans hb6)); clear h6 hb6)
            go_roundw
            case rel => exact ⟨i + 1, _, by show Value.int .i64 (wrap64 ((i : Int) + 1)) = _; rw [HW1.out]; rfl, by omega, HYY _ HY.out, by have h1 := HLN.out; have h2 := HA.out.2.1; rw [List.length_append, List.length_append, List.length_singleton]; omega, H6.out.1, H6.out.2⟩
            case measure => show len - (intOf (.int .i64 (wrap64 ((i : Int) + 1)))).toNat < _; rw [HW1.out]; simp only [intOf]; omega
          · have HN := Lib.hid (show sayL s = none from by
              cases h : sayL s with
              | none => rfl
              | some l =>
                obtain ⟨f', hf', _, hl⟩ := say_of h
                rw [hff] at hf'
                cases hf'
                rw [← HL.out] at hl
                subst hl
                rw [(rd_iff HS.out.2.1).2 h] at hrd
                cases hrd
                exact (he rfl).elim)
            have HQ := Lib.hid (show (decide (s2 = s) == true) = false by rw [decide_eq_false he]; rfl)
            clear hff hrd he
            go_wp2_with (first
              | ((with_reducible refine wpList_load_grd 39 _ rfl g4 0 rfl (stpC s2) _ HR4.out Tryd.underlying39 rfl (stpC_size _) ?_ ?_); exact (Eq.refl true))
              | ((with_reducible refine wpList_load_grd 39 _ rfl g1 0 rfl (stpC s) _ HR1.out Tryd.underlying39 rfl (stpC_size _) ?_ ?_); exact (Eq.refl true))
              | ((with_reducible refine wpList_eql_stp true _ _ rfl s2 s rfl rfl false HQ.out ?_ ?_); exact (Eq.refl true)))
            go_ret3
            exact .of H4.out.2.2.2 (l := []) (n := i + 1) (e := 2) (HNN HN.out) (by show Value.tuple #[_, .int .i64 (wrap64 ((i : Int) + 1)), _] = _; rw [HW1.out]; rfl)
    · have hil' : ¬ (i : Int) < (len : Int) := by omega
      have HE := Lib.hid (show wrL zz 0 [] = (acc, 0, 0) from HA.out.1.trans (wr_end (by rw [HZZ.out, List.length_map]; have := Hlen.out; omega)))
      have HW := Lib.hid (str_any w.heap.size B acc wr HA.out.2.2.1 HA.out.2.2.2.size)
      go_wp2_with (go_at_call 19; refine HW.out.mono ?_; rintro e w5 ⟨rfl, hb5⟩; have H5 := Lib.hid (HA.out.2.2.2.trans hb5); clear hb5)
      go_ret3
      exact .of H5.out (by rw [← HZZ.out]; exact HE.out) rfl
end Go.Proofs.YtjjlodeiejobdaaDoor
