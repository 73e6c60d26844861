/- Play: Write. Condition: the steps' texts are not too long; the library's variables hold what the program's text lays. -/
import Derived.Test.YtjjlodeiejobdaaDoorZPlayWrites7
import Derived.RangeFuncWrites
import Derived.Shelf.Strings.Search3
import Derived.Lib.IndexLaws
import Derived.RangeFuncNested
import Derived.RangeFuncBound
import Derived.RangeFuncCalls
import Derived.RangeFuncLeaves
import Derived.OwnWalkIn
import Derived.TacticsInMore
import Derived.LoopNIn
import Derived.LoopIn
namespace Go.Proofs.YtjjlodeiejobdaaDoor
open Go.RowKit Go.Shelf Go.Deep
structure StpV.Mid (s : StpV) : Prop where
  y : s.y.length ≤ 30000
  o : s.o.length ≤ 30000
  n : s.n.length ≤ 30000
theorem StpV.Mid.few {s : StpV} (h : s.Mid) : s.Few := ⟨Nat.le_trans h.y (by decide), Nat.le_trans h.o (by decide), Nat.le_trans h.n (by decide)⟩
theorem quo_mid {l : Bs} (h : l.length ≤ 30000) : (quoL l).length ≤ 120000 := by
  unfold quoL
  split
  · decide
  · have := quo_len l; omega
theorem fld_mid {s : StpV} (hok : s.Ok) (hf : s.Mid) {w : Bs} (hw : w.length ≤ 120000) (c : UInt8) : (fldL s w c).length ≤ 120000 := by
  unfold fldL
  repeat' split
  · have := dec_len hok.a; omega
  · have := dec_len hok.b; omega
  · have := Lib.itoa_length_le s.k hok.k.1 hok.k.2; omega
  · exact quo_mid hf.y
  · exact quo_mid hf.o
  · exact quo_mid hf.n
  · have := dec_len hok.st; omega
  · exact hw
theorem line_len {s : StpV} (hok : s.Ok) (hf : s.Mid) {f : FormV} (h : f ∈ FT) : (lineL f s).length ≤ 900000 := by
  obtain ⟨h1, h2⟩ := ft_len f h
  have h3 := joi_le (c := 32) (B := 120000) (l := (if f.d = 12 then INV else f.w) :: f.t.map (fldL s f.w)) (fun p hp => by
    rcases List.mem_cons.1 hp with rfl | hp
    · split
      · exact Nat.le_trans (show INV.length ≤ 6 by decide) (by decide)
      · omega
    · obtain ⟨c, _, rfl⟩ := List.mem_map.1 hp
      exact fld_mid hok hf (by omega) c)
  rw [List.length_cons, List.length_map] at h3
  have h4 : (f.t.length + 1) * 120001 ≤ 6 * 120001 := Nat.mul_le_mul_right _ (by omega)
  exact Nat.le_trans h3 (by omega)
theorem say_of {s : StpV} {l : Bs} (h : sayL s = some l) : ∃ f, formS s.d s.kd = some f ∧ f ∈ FT ∧ lineL f s = l := by
  unfold sayL at h
  cases hf : formS s.d s.kd with
  | none => rw [hf] at h; cases h
  | some f =>
    rw [hf] at h
    simp only at h
    split at h
    · cases h; exact ⟨f, rfl, (find_mem hf).1, rfl⟩
    · cases h
/-- What Write tells. -/
def wrL : List StpV → Nat → Bs → Bs × Nat × Nat
  | [], _, acc => (acc, 0, 0)
  | s :: r, i, acc => match sayL s with
    | some l => wrL r (i + 1) (acc ++ l ++ [10])
    | none => ([], i + 1, 2)
theorem wr_end {z : List StpV} {i : Nat} {acc : Bs} (h : z.length ≤ i) : wrL (z.drop i) i acc = (acc, 0, 0) := by
  rw [List.drop_eq_nil_of_le h]
  rfl
theorem wr_some {z : List StpV} {i : Nat} {acc : Bs} {s : StpV} {l : Bs} (hz : z[i]? = some s) (h : sayL s = some l) : wrL (z.drop i) i acc = wrL (z.drop (i + 1)) (i + 1) (acc ++ l ++ [10]) := by
  obtain ⟨hi, rfl⟩ := List.getElem?_eq_some_iff.1 hz
  rw [List.drop_eq_getElem_cons hi, wrL, h]
theorem wr_none {z : List StpV} {i : Nat} {acc : Bs} {s : StpV} (hz : z[i]? = some s) (h : sayL s = none) : wrL (z.drop i) i acc = ([], i + 1, 2) := by
  obtain ⟨hi, rfl⟩ := List.getElem?_eq_some_iff.1 hz
  rw [List.drop_eq_getElem_cons hi, wrL, h]
def WrtR (R : Bs × Nat × Nat) (w : World) (e : Ending) (w' : World) : Prop := Below w.heap.size w w' ∧ e = .returned (.tuple #[.string ⟨R.1.toArray⟩, .int .i64 (R.2.1 : Int), .int .i64 (R.2.2 : Int)])
theorem WrtR.of {R : Bs × Nat × Nat} {w w' : World} {l : Bs} {n e : Nat} (hb : Below w.heap.size w w') (h : R = (l, n, e)) {v : Value} (hv : v = .tuple #[.string ⟨l.toArray⟩, .int .i64 (n : Int), .int .i64 (e : Int)]) : WrtR R w (.returned v) w' := by
  subst h hv
  exact ⟨hb, rfl⟩
theorem wpList_load_grd {P : Program} {ops : Array Oper} {rest : List Oper} {op : Oper} {a : Act} {w : World} {Q : Exit → Act → World → Prop} (ty : TypeId) (x : Operand) (ho : op.op = .load ty x)
    (b o : Nat) (hx : a.eval x = .pointer (some ⟨b, o, none⟩)) (cs : List Value) (d : TypeDesc) (hc : w.rangeAt b o cs) (hu : P.underlying ty = some d) (hd : d.isRow = true) (hi : (P.info? ty).map (·.size) = some cs.length)
    (hw : Region.wanted op (yielded ops a.tmps) = true) (h : wpList P ops Q rest (a.put op.dst (.agg cs.toArray)) w) : wpList P ops Q (op :: rest) a w :=
  BigFrame.wpList_want hw fun _ hK => wp_load_mid ty x ho b o hx cs d hc hu hd hi (hK _ _ h)
theorem bld_below {T e : TypeId} {B b : Nat} {bs : List Value} {W W' : World} (h : Lib.IsBuilderF T e B b bs W) (hb : Below W.heap.size W W') : Lib.IsBuilderF T e B b bs W' := by
  have hg : W.grownBy W' none := ⟨hb.os, hb.tape, hb.output, hb.size, fun k hk _ => hb.block k hk⟩
  rcases h with h | h
  all_goals
    have hl := h.lt
    obtain ⟨q1, v, q2, q3, q4⟩ := h
  · exact .inl ⟨q1, v, (hb.block b hl).trans q2, q3.kept hg (Classical.em _), q4⟩
  · exact .inr ⟨q1, v, (hb.block b hl).trans q2, q3.kept hg (Classical.em _), q4⟩
set_option maxRecDepth 100000 in
theorem stp_eql (s t : StpV) (w : World) : (Op.equal 39 (.agg (stpC s).toArray) (.agg (stpC t).toArray)).run Tryd.prog w = .ok (decide (s = t)) w := by
  have h : ∀ d : Nat, (Op.equalIn (d + 4) 39 (.agg (stpC s).toArray) (.agg (stpC t).toArray)).run Tryd.prog w = .ok (decide (s = t)) w := by
    intro d
    unfold stpC
    go_simp
    simp only [Int.natCast_inj]
    by_cases h : s = t
    · subst h
      simp
    · rw [decide_eq_false h]
      repeat' split
      all_goals first
        | rfl
        | (refine (h ?_).elim; cases s; cases t; simp_all)
  exact h 9996
theorem stp_exec (ρ : Operand → Value) (o : Oper) (b : Bool) (x y : Operand) (h : o.op = .binOp (bif b then .eql else .neq) 39 x y 39) (s t : StpV) (hx : ρ x = .agg (stpC s).toArray) (hy : ρ y = .agg (stpC t).toArray) (w : World) :
    (execOp ρ o).run Tryd.prog w = .ok (.value (.bool (decide (s = t) == b))) w := by
  have h0 := stp_eql s t w
  cases b
  · have hg : (eqGuard .neq 39 x y (.agg (stpC s).toArray) (.agg (stpC t).toArray)).run Tryd.prog w = .ok () w := by go_simp
    have he : (binOp .neq 39 (.agg (stpC s).toArray) (.agg (stpC t).toArray)).run Tryd.prog w = .ok (.bool (decide (s = t) == false)) w := by
      simp only [binOp]
      simp only [Sem.run_bind, h0, Result.andThen_ok, Sem.run_pure]
      cases decide (s = t) <;> rfl
    simp only [execOp, h, hx, hy, Sem.run_bind, cond_false, hg, he, Result.andThen_ok, Sem.run_pure]
  · have hg : (eqGuard .eql 39 x y (.agg (stpC s).toArray) (.agg (stpC t).toArray)).run Tryd.prog w = .ok () w := by go_simp
    have he : (binOp .eql 39 (.agg (stpC s).toArray) (.agg (stpC t).toArray)).run Tryd.prog w = .ok (.bool (decide (s = t) == true)) w := by
      simp only [binOp]
      simp only [Sem.run_bind, h0, Result.andThen_ok, Sem.run_pure]
      cases decide (s = t) <;> rfl
    simp only [execOp, h, hx, hy, Sem.run_bind, cond_true, hg, he, Result.andThen_ok, Sem.run_pure]
theorem wpList_eql_stp {ops : Array Oper} {rest : List Oper} {op : Oper} {a : Act} {w : World} {Q : Exit → Act → World → Prop} (b : Bool) (x y : Operand) (ho : op.op = .binOp (bif b then .eql else .neq) 39 x y 39)
    (s t : StpV) (hx : a.eval x = .agg (stpC s).toArray) (hy : a.eval y = .agg (stpC t).toArray) (c : Bool) (hc : (decide (s = t) == b) = c)
    (hw : Region.wanted op (yielded ops a.tmps) = true) (h : wpList Tryd.prog ops Q rest (a.put op.dst (.bool c)) w) : wpList Tryd.prog ops Q (op :: rest) a w :=
  BigFrame.wpList_want hw fun _ hK => by
    unfold Oper.wp
    rw [stp_exec a.eval op b x y ho s t hx hy, hc]
    exact hK _ _ h
theorem ws_any (B b : Nat) (l x : Bs) (w : World) (h : Lib.IsBuilderF 43 5 B b (Lib.byteCells l) w) (hlen : l.length + x.length ≤ 140737488355328) (hBw : B ≤ w.heap.size) :
    Calls Tryd.prog 17 #[.pointer (some ⟨b, 0, none⟩), .string ⟨x.toArray⟩] w fun e w' => (∃ v, e = .returned v) ∧ Lib.IsBuilderF 43 5 B b (Lib.byteCells (l ++ x)) w' ∧ Below B w w' :=
  (Any.Builder_WriteString_k lay_ws lay_ex B b (Lib.byteCells l) ⟨x.toArray⟩ w h (by simpa [Lib.byteCells, ByteArray.size] using hlen) hBw).mono fun e w' ⟨he, h1, h2, _⟩ => ⟨⟨_, he⟩, .inr (by rw [show Lib.byteCells (l ++ x) = Lib.byteCells l ++ Lib.strCells ⟨x.toArray⟩ by simp [Lib.byteCells, Lib.strCells]]; exact h1), h2⟩
theorem wb_any (B b : Nat) (l : Bs) (w : World) (h : Lib.IsBuilderF 43 5 B b (Lib.byteCells l) w) (hlen : l.length + 1 ≤ 140737488355328) (hBw : B ≤ w.heap.size) :
    Calls Tryd.prog 18 #[.pointer (some ⟨b, 0, none⟩), .int .u8 10] w fun e w' => e = .returned .nilIface ∧ Lib.IsBuilderF 43 5 B b (Lib.byteCells (l ++ [10])) w' ∧ Below B w w' :=
  (Any.Builder_WriteByte_k lay_wb lay_ex B b (Lib.byteCells l) 10 w h (by simpa [Lib.byteCells] using hlen) hBw).mono fun e w' ⟨he, h1, h2, _⟩ => ⟨he, .inr (by rw [show Lib.byteCells (l ++ [10]) = Lib.byteCells l ++ [.int .u8 10] by simp [Lib.byteCells]]; exact h1), h2⟩
theorem str_any (B b : Nat) (l : Bs) (w : World) (h : Lib.IsBuilderF 43 5 B b (Lib.byteCells l) w) (hBw : B ≤ w.heap.size) :
    Calls Tryd.prog 19 #[.pointer (some ⟨b, 0, none⟩)] w fun e w' => e = .returned (.string ⟨l.toArray⟩) ∧ Below B w w' :=
  (Any.Builder_String_any_k lay_str lay_ex B b l w h hBw).mono fun _ _ ⟨he, _, h2, _⟩ => ⟨he, h2⟩
theorem fresh_bld (w : World) : Lib.IsBuilderF 43 5 w.heap.size w.heap.size (Lib.byteCells []) (w.alloc (.cells #[.pointer none, .slice none 0 0] 43)) := Lib.IsBuilderF.of (Lib.fresh_isBuilder 43 5 w)
set_option maxRecDepth 100000 in
set_option maxHeartbeats 16000000 in
theorem Write_any (a : Option Addr) (len cap : Nat) (z : List StpO) (hlen : len ≤ 100000) (hmid : ∀ s ∈ z, s.val.Mid) (w : World) (hz : StpsAt w a len z) (hv : PV w) :
    Calls Tryd.prog 9 #[.slice a len cap] w (WrtR (wrL (z.map (·.val)) 0 []) w) := by
  have hzl := hz.hlen
  have Hz := Lib.hid hz
  have HPV := Lib.hid (PVB.of hv)
  have hf0 := fresh_bld w
  have hb0 := (Below.refl w.heap.size w).alloc (Nat.le_refl _) (.cells #[.pointer none, .slice none 0 0] 43)
  have H0 := Lib.hid (And.intro hf0 hb0)
  have Hlen := Lib.hid (And.intro hzl hlen)
  have Hmid := Lib.hid hmid
  clear hz hv hf0 hb0 hlen hzl hmid
  go_enter Tryd.func9, Tryd.ntmps9
  go_upto_region 2 with fail
  change Code.wp _ _ _ _ (w.alloc (.cells #[.pointer none, .slice none 0 0] 43))
  generalize w.alloc (.cells #[.pointer none, .slice none 0 0] 43) = w0 at *
  obtain ⟨B, hB⟩ : ∃ B, B = w.heap.size := ⟨_, rfl⟩
  rw [← hB]
  have HB := Lib.hid hB
  obtain ⟨zz, hzz⟩ : ∃ zz, zz = z.map (·.val) := ⟨_, rfl⟩
  have HZZ := Lib.hid hzz
  clear hB hzz
  go_upto_region 3 with fail
  go_simp
  go_loopw [14] (fun s14 wr => ∃ (i : Nat) (acc : Bs), s14 = .int .i64 (i : Int) ∧ i ≤ len ∧ wrL zz 0 [] = wrL (zz.drop i) i acc ∧ acc.length ≤ i * 1000001 ∧ Lib.IsBuilderF 43 5 w.heap.size B (Lib.byteCells acc) wr ∧ Below w.heap.size w wr) (fun s14 _ => len - (intOf s14).toNat)
  case atStart => exact ⟨0, [], rfl, Nat.zero_le _, rfl, Nat.zero_le _, by rw [HB.out]; exact H0.out.1, H0.out.2⟩
  case round =>
    clear H0
    obtain ⟨i, acc, rfl, hi, hsp, hal, hbl, hbw⟩ := hrel
    have HA := Lib.hid (And.intro hsp (And.intro hal (And.intro hbl hbw)))
    clear hsp hal hbl hbw
    by_cases hil : i < len
    · have hil' : (i : Int) < (len : Int) := by omega
      have HW1 := Lib.hid (show wrap64 ((i : Int) + 1) = (i : Int) + 1 by have := Hlen.out; unfold wrap64; omega)
      obtain ⟨ab, ao, rfl, hab, hrow⟩ := stps_row (Hz.out.below HA.out.2.2.2) hil
      obtain ⟨S, hS⟩ : ∃ S, S = z.getD i default := ⟨_, rfl⟩
      rw [← hS] at hrow
      have hzi : z[i]? = some S := by rw [hS]; simp [List.getD, List.getElem?_eq_getElem (show i < z.length by have := Hlen.out; omega)]
      have hzz2 : zz[i]? = some S.val := by rw [HZZ.out, List.getElem?_map, hzi]; rfl
      have HS := Lib.hid (And.intro (Hmid.out S (List.mem_of_getElem? hzi)) (And.intro S.property hzz2))
      obtain ⟨s, hs⟩ : ∃ s, s = S.val := ⟨_, rfl⟩
      rw [← hs] at hrow hzz2 HS
      have hok : s.Ok := by rw [hs]; exact S.property
      have HS := Lib.hid (And.intro HS.out.1 (And.intro hok hzz2))
      have Hr := Lib.hid hrow
      have HNN : sayL s = none → wrL (z.map (·.val)) 0 [] = ([], i + 1, 2) := fun h => by rw [← HZZ.out]; exact HA.out.1.trans (wr_none HS.out.2.2 h)
      have HYY : ∀ l, sayL s = some l → wrL zz 0 [] = wrL (zz.drop (i + 1)) (i + 1) (acc ++ l ++ [10]) := fun l h => HA.out.1.trans (wr_some HS.out.2.2 h)
      clear hrow hS hzi hzz2 hok hs
      clear S
      go_upto_region 5 with (first
        | (with_reducible refine wpList_load_mid rfl 39 _ rfl ab (ao + i * 11) rfl (stpC s) _ Hr.out Tryd.underlying39 rfl (stpC_size s) ?_)
        | ((with_reducible refine wpList_store_mid rfl 39 _ _ rfl wr.heap.size 0 _ rfl rfl ?_ ?_ ?_ ?_); exact th_new3 wr (stpC (stp0 0 0)) 39; exact stpC_size s; exact all_oneCell_toArray (stpC_one s)))
      change Code.wp _ _ _ _ ((wr.alloc (.cells (stpC (stp0 0 0)).toArray 39)).setCells wr.heap.size 0 (stpC s))
      have hbx := box_below wr (stpC (stp0 0 0)) (stpC s) 39
      have hs1 : StpAt _ _ s := box_row wr (stpC (stp0 0 0)) (stpC s) 39 rfl
      have H1 := Lib.hid (And.intro hs1 (And.intro (bld_below HA.out.2.2.1 hbx) (HA.out.2.2.2.trans (hbx.mono HA.out.2.2.2.size))))
      clear hbx hs1 Hr
      generalize (wr.alloc (.cells (stpC (stp0 0 0)).toArray 39)).setCells wr.heap.size 0 (stpC s) = w1 at *
      generalize wr.heap.size = g1 at *
      have HR1 := Lib.hid (range_row H1.out.1)
      have Hwr := Lib.hid (write_any s HS.out.2.1 HS.out.1.few w1 (HPV.out.on H1.out.2.2).here)
      cases hfs : formS s.d s.kd with
      | none =>
        rw [hfs] at Hwr
        have HN := Lib.hid (show sayL s = none from by
          cases h : sayL s with
          | none => rfl
          | some l => obtain ⟨f, hf, _⟩ := say_of h; rw [hfs] at hf; cases hf)
        clear hfs
        go_upto_region 6 with (first
          | (with_reducible refine wpList_load_mid rfl 39 _ rfl g1 0 rfl (stpC s) _ HR1.out Tryd.underlying39 rfl (stpC_size s) ?_)
          | (go_at_call 15; refine Hwr.out.mono ?_; rintro e w2 ⟨hb2, rfl⟩; have HB2 := Lib.hid hb2; clear hb2))
        go_wp2
        go_ret3
        exact .of (H1.out.2.2.trans (HB2.out.mono H1.out.2.2.size)) (l := []) (n := i + 1) (e := 2) (HNN HN.out) (by show Value.tuple #[_, .int .i64 (wrap64 ((i : Int) + 1)), _] = _; rw [HW1.out]; rfl)
      | some f =>
        rw [hfs] at Hwr
        have HF := Lib.hid hfs
        have HFM := Lib.hid (find_mem hfs).1
        clear hfs
        obtain ⟨ln, hln⟩ : ∃ ln, ln = lineL f s := ⟨_, rfl⟩
        have HLN := Lib.hid (show ln.length ≤ 900000 by rw [hln]; exact line_len HS.out.2.1 HS.out.1 HFM.out)
        have Hwr2 : Hid (Calls Tryd.prog 15 #[stpV s] w1 (WriteR (some ln) w1)) := by rw [hln]; exact Hwr
        have HL := Lib.hid hln
        clear hln Hwr
        go_upto_region 6 with (first
          | (with_reducible refine wpList_load_mid rfl 39 _ rfl g1 0 rfl (stpC s) _ HR1.out Tryd.underlying39 rfl (stpC_size s) ?_)
          | (go_at_call 15; refine Hwr2.out.mono ?_; rintro e w2 ⟨hb2, rfl⟩; have HB2 := Lib.hid hb2; clear hb2))
        have H2 := Lib.hid (And.intro (H1.out.1.below HB2.out) (And.intro (bld_below H1.out.2.1 HB2.out) (H1.out.2.2.trans (HB2.out.mono H1.out.2.2.size))))
        clear H1 HB2 Hwr2 HR1
        have HRd := Lib.hid (read_any ⟨ln.toArray⟩ (by have := HLN.out; simpa [ByteArray.size] using Nat.le_trans this (by decide)) w2 (HPV.out.on H2.out.2.2).here)
        rw [show (⟨ln.toArray⟩ : ByteArray).data.toList = ln from rfl] at HRd
        go_upto_region 8 with (first
          | (go_at_call 16; refine HRd.out.mono ?_; rintro e w3 ⟨hb3, s2, rfl, hs2⟩; have H3 := Lib.hid (And.intro hb3 hs2); clear hb3 hs2)
          | ((with_reducible refine wpList_store_mid rfl 39 _ _ rfl w3.heap.size 0 _ rfl rfl ?_ ?_ ?_ ?_); exact th_new3 w3 (stpC (stp0 0 0)) 39; exact stpC_size s2; exact all_oneCell_toArray (stpC_one s2)))
        change Code.wp _ _ _ _ ((w3.alloc (.cells (stpC (stp0 0 0)).toArray 39)).setCells w3.heap.size 0 (stpC s2))
        have hbx := (box_below w3 (stpC (stp0 0 0)) (stpC s2) 39)
        have hs4 : StpAt _ _ s2 := box_row w3 (stpC (stp0 0 0)) (stpC s2) 39 rfl
        have hb4 := H3.out.1.trans (hbx.mono H3.out.1.size)
        have H4 := Lib.hid (And.intro hs4 (And.intro (H2.out.1.below hb4) (And.intro (bld_below H2.out.2.1 hb4) (H2.out.2.2.trans (hb4.mono H2.out.2.2.size)))))
        have HRd2 := Lib.hid H3.out.2
        clear hbx hs4 hb4 H2 H3 HRd
        generalize (w3.alloc (.cells (stpC (stp0 0 0)).toArray 39)).setCells w3.heap.size 0 (stpC s2) = w4 at *
        generalize w3.heap.size = g4 at *
        have HR4 := Lib.hid (range_row H4.out.1)
        have HR1 := Lib.hid (range_row H4.out.2.1)
        have hff := HF.out
        cases hrd : rdL ln with
        | none =>
          rw [hrd] at HRd2
          have HN := Lib.hid (show sayL s = none from by
            cases h : sayL s with
            | none => rfl
            | some l =>
              obtain ⟨f', hf', _, hl⟩ := say_of h
              rw [hff] at hf'
              cases hf'
              rw [← HL.out] at hl
              subst hl
              rw [(rd_iff HS.out.2.1).2 h] at hrd
              cases hrd)
          clear hff hrd
          go_wp2
          go_ret3
          exact .of H4.out.2.2.2 (l := []) (n := i + 1) (e := 2) (HNN HN.out) (by show Value.tuple #[_, .int .i64 (wrap64 ((i : Int) + 1)), _] = _; rw [HW1.out]; rfl)
        | some s3 =>
          rw [hrd] at HRd2
          obtain rfl := HRd2.out s3 rfl
          clear HRd2
          by_cases he : s2 = s
          · subst he
            have HY := Lib.hid ((rd_iff HS.out.2.1).1 hrd)
            have HQ := Lib.hid (show (decide (s2 = s2) == true) = true by rw [decide_eq_true rfl]; rfl)
            clear hff hrd
            have HW := Lib.hid (ws_any w.heap.size B acc ln w4 H4.out.2.2.1 (by have h1 := HLN.out; have h2 := HA.out.2.1; have h3 := Hlen.out; omega) H4.out.2.2.2.size)
            go_upto_region 12 with (first
              | ((with_reducible refine wpList_load_grd 39 _ rfl g4 0 rfl (stpC s2) _ HR4.out Tryd.underlying39 rfl (stpC_size _) ?_ ?_); exact (Eq.refl true))
              | ((with_reducible refine wpList_load_grd 39 _ rfl g1 0 rfl (stpC s2) _ HR1.out Tryd.underlying39 rfl (stpC_size _) ?_ ?_); exact (Eq.refl true))
              | ((with_reducible refine wpList_eql_stp true _ _ rfl s2 s2 rfl rfl true HQ.out ?_ ?_); exact (Eq.refl true))
              | (go_at_call 17; refine HW.out.mono ?_; rintro e w5 ⟨⟨v5, rfl⟩, h5, hb5⟩; have H5 := Lib.hid (And.intro h5 (H4.out.2.2.2.trans hb5)); clear h5 hb5))
            clear HQ
            have HW2 := Lib.hid (wb_any w.heap.size B (acc ++ ln) w5 H5.out.1 (by have h1 := HLN.out; have h2 := HA.out.2.1; have h3 := Hlen.out; rw [List.length_append]; omega) H5.out.2.size)
            go_wp2_with (go_at_call 18; refine HW2.out.mono ?_; rintro e w6 ⟨rfl, h6, hb6⟩; have H6 := Lib.hid (And.intro h6 (H5.out.2.trans hb6)); clear h6 hb6)
            go_roundw
            case rel => exact ⟨i + 1, _, by show Value.int .i64 (wrap64 ((i : Int) + 1)) = _; rw [HW1.out]; rfl, by omega, HYY _ HY.out, by have h1 := HLN.out; have h2 := HA.out.2.1; rw [List.length_append, List.length_append, List.length_singleton]; omega, H6.out.1, H6.out.2⟩
            case measure => show len - (intOf (.int .i64 (wrap64 ((i : Int) + 1)))).toNat < _; rw [HW1.out]; simp only [intOf]; omega
          · have HN := Lib.hid (show sayL s = none from by
              cases h : sayL s with
              | none => rfl
              | some l =>
                obtain ⟨f', hf', _, hl⟩ := say_of h
                rw [hff] at hf'
                cases hf'
                rw [← HL.out] at hl
                subst hl
                rw [(rd_iff HS.out.2.1).2 h] at hrd
                cases hrd
                exact (he rfl).elim)
            have HQ := Lib.hid (show (decide (s2 = s) == true) = false by rw [decide_eq_false he]; rfl)
            clear hff hrd he
            go_wp2_with (first
              | ((with_reducible refine wpList_load_grd 39 _ rfl g4 0 rfl (stpC s2) _ HR4.out Tryd.underlying39 rfl (stpC_size _) ?_ ?_); exact (Eq.refl true))
              | ((with_reducible refine wpList_load_grd 39 _ rfl g1 0 rfl (stpC s) _ HR1.out Tryd.underlying39 rfl (stpC_size _) ?_ ?_); exact (Eq.refl true))
              | ((with_reducible refine wpList_eql_stp true _ _ rfl s2 s rfl rfl false HQ.out ?_ ?_); exact (Eq.refl true)))
            go_ret3
            exact .of H4.out.2.2.2 (l := []) (n := i + 1) (e := 2) (HNN HN.out) (by show Value.tuple #[_, .int .i64 (wrap64 ((i : Int) + 1)), _] = _; rw [HW1.out]; rfl)
    · have hil' : ¬ (i : Int) < (len : Int) := by omega
      have HE := Lib.hid (show wrL zz 0 [] = (acc, 0, 0) from HA.out.1.trans (wr_end (by rw [HZZ.out, List.length_map]; have := Hlen.out; omega)))
      have HW := Lib.hid (str_any w.heap.size B acc wr HA.out.2.2.1 HA.out.2.2.2.size)
      go_wp2_with (go_at_call 19; refine HW.out.mono ?_; rintro e w5 ⟨rfl, hb5⟩; have H5 := Lib.hid (HA.out.2.2.2.trans hb5); clear hb5)
      go_ret3
      exact .of H5.out (by rw [← HZZ.out]; exact HE.out) rfl
end Go.Proofs.YtjjlodeiejobdaaDoor
namespace Go.Proofs.YtjjlodeiejobdaaDoor
open Go Go.RowKit
/-- Whatever turns blocks of Z alone, J stands. -/
def AbidesZ {β : Type} (Z : Nat → Prop) (J : β → World → Prop) : Prop := ∀ s A B row, J s A → A.grownBy B row → (∀ r, row = some r → Z r) → J s B
/-- The blocks of Z lie as they lay. -/
def KeptZ (Z : Nat → Prop) (A B : World) : Prop := ∀ r o, Z r → A.heap[r]? = some o → B.heap[r]? = some o
theorem KeptZ.trans {Z : Nat → Prop} {A B C : World} (h : KeptZ Z A B) (k : KeptZ Z B C) : KeptZ Z A C := fun r o hr e => k r o hr (h r o hr e)
theorem KeptZ.sub {Z Y : Nat → Prop} {A B : World} (h : KeptZ Z A B) (hs : ∀ r, Y r → Z r) : KeptZ Y A B := fun r o hr e => h r o (hs r hr) e
theorem KeptZ.put {Z : Nat → Prop} {A : World} {l : Nat} (h : ¬ Z l) (o : Obj) : KeptZ Z A (A.putObj l o) := fun r o' hr e => (World.putObj_heap_other (fun q => h (by first | (rw [q]; exact hr) | (rw [← q]; exact hr)))).trans e
/-- An iterator's law: the blocks of Zs, and k more that it lays ahead of its first round, are its own. -/
def SeqZ {α : Type} (F : Fence) (n : Nat) (P : Program) (g : Nat) (lb : Array Value) (encs : α → Array Value) (Zs : Nat → Prop) (k : Nat) (S Sp : List α → Prop) (w : World) : Prop :=
  ∀ (l : Nat) (J Jx : List α → World → Prop) (W : World) (Z : Nat → Prop), (∀ r, Z r ↔ Zs r ∨ (W.heap.size ≤ r ∧ r < W.heap.size + k)) → Below w.heap.size w W → AbidesZ Z J → AbidesZ Z Jx →
    (∀ pre x W1, J pre W1 → (∀ r, Z r → r < W1.heap.size) → Sp (pre ++ [x]) → YieldAt F (n - 1) P l (encs x) W1 fun e W' =>
      (e = .returned (.bool true) ∧ J (pre ++ [x]) W' ∧ KeptZ Z W1 W') ∨ (e = .returned (.bool false) ∧ Jx (pre ++ [x]) W' ∧ KeptZ Z W1 W')) →
    J [] W →
    CallsIn F n P g (#[.func (.yield l) #[] #[]] ++ lb) W fun e W' => (∃ v, e = .returned v) ∧ ((∃ xs, S xs ∧ J xs W') ∨ (∃ pre, Sp pre ∧ Jx pre W'))
/-- How a round may be left. -/
def ownPostZ {α : Type} (Z : Nat → Prop) (I : List α → World → Prop) (Ix : Code → List α → World → Prop) (xs : List α) (W : World) : Exit → Act → World → Prop
  | .normal, _, W' => KeptZ Z W W' ∧ I xs W'
  | .ret, _, W' => KeptZ Z W W' ∧ Ix .ret xs W'
  | .exit id, _, W' => KeptZ Z W W' ∧ Ix (.exit id) xs W'
  | .goto t, _, W' => KeptZ Z W W' ∧ Ix (.goto t) xs W'
  | .panic _, _, _ => False
  | .outgrown, _, _ => False
variable {F : Fence} {n : Nat} {P : Program}
theorem wpIn_rangeZ {α : Type} {g : Operand} {ps : Array Tmp} {assign body : Code} {Q : Exit → Act → World → Prop} {a : Act} {w : World}
    (hro : F.round = none) (h1 : 1 ≤ n) {gf : Nat} {lb : Array Value} (hg : a.eval g = .func (.func gf) #[] lb) (hFg : F.fn gf) (eg : ∀ args w, (callFunc gf args).run P w = .ok (.enter gf args) w)
    {encs : α → Array Value} {Zs : Nat → Prop} {k : Nat} {S Sp : List α → Prop} {w0 : World} (hseq : SeqZ F (n - 1) P gf lb encs Zs k S Sp w0) (hb0 : Below w0.heap.size w0 w) (hZs : ∀ r, Zs r → r < w.heap.size) (hps : ∀ x, (encs x).size = ps.size)
    {Z : Nat → Prop} (hZ : ∀ r, Z r ↔ Zs r ∨ (w.heap.size ≤ r ∧ r < w.heap.size + 2 + k))
    (I : List α → World → Prop) (Ix : Code → List α → World → Prop) (hI : AbidesZ Z I) (hIx : ∀ c, AbidesZ Z (Ix c)) (h0 : I [] w) (a₁ : α → Act)
    (hassign : ∀ (l : Nat) (x : α) (W : World) (K : Act → World → Prop), K (a₁ x) W →
      assign.wpIn (F.inRound l) (n - 1 - 1) P (Exit.then K (fun _ _ _ => False)) { tmps := (ps.zip (encs x)).foldl (fun t (p, v) => t.setIfInBounds p v) a.tmps, defers := [] } W)
    (hbody : ∀ (l : Nat) (pre : List α) (x : α) (W : World), I pre W → w.heap.size + 2 + k ≤ W.heap.size → Sp (pre ++ [x]) → body.wpIn (F.inRound l) (n - 1 - 1) P (ownPostZ Z I Ix (pre ++ [x]) W) (a₁ x) W)
    (hdone : ∀ (xs : List α) (W : World), S xs → I xs W → W.heap[w.heap.size]? = some (.deferred (some [])) → Q .normal { a with defers := { target := .collected w.heap.size, args := #[] } :: a.defers } W)
    (hstop : ∀ (c : Code) (pre : List α) (W : World), Sp pre → Ix c pre W → W.heap[w.heap.size]? = some (.deferred (some [])) → c.wpIn F n P Q { a with defers := { target := .collected w.heap.size, args := #[] } :: a.defers } W) :
    (Code.rangeFunc g ps assign body).wpIn F n P Q a w := by
  refine wpIn_rangeFunc (fun fn hfn => ?_)
  rw [hro]
  generalize hD : w.heap.size = D at *
  let rec0 : LoopState → Option Code → Obj := fun st pe => .loop { state := st, pending := pe, fn, tmps := a.tmps, params := ps, assign, body, defers := D }
  let V := (w.alloc (.deferred (some []))).alloc (rec0 .ready none)
  have sV : V.heap.size = D + 2 := by simp [V, hD]
  have rV : V.heap[D + 1]? = some (rec0 .ready none) := by
    have h := World.alloc_heap_new (w.alloc (.deferred (some []))) (rec0 .ready none)
    rwa [World.size_alloc, hD] at h
  have dV : V.heap[D]? = some (.deferred (some [])) := by
    have h := World.alloc_heap_new w (.deferred (some []))
    rw [hD] at h
    exact (Below.heap_alloc _ _ _ (by rw [World.size_alloc]; omega)).trans h
  have bw : Below w.heap.size w V := ((Below.refl _ w).alloc (Nat.le_refl _) _).alloc (by simp) _
  have iV : I [] V := hI _ _ _ none h0 ⟨bw.os, bw.tape, bw.output, bw.size, fun q hq _ => bw.block q hq⟩ (fun r e => by cases e)
  have bV : Below w0.heap.size w0 V := hb0.trans (bw.mono hb0.size)
  have zD : Z D := (hZ D).2 (.inr ⟨Nat.le_refl _, by omega⟩)
  have zL : Z (D + 1) := (hZ (D + 1)).2 (.inr ⟨by omega, by omega⟩)
  have turn : ∀ {β : Type} {J : β → World → Prop} (_ : AbidesZ Z J) {s : β} {A : World} (o : Obj), J s A → J s (A.putObj (D + 1) o) := @fun β J hJ s A o h => hJ s A _ (some (D + 1)) h (grownBy_putObj' A (D + 1) o) (fun r e => by cases e; exact zL)
  refine ⟨D + 1, [{ target := .collected D, args := #[] }], V, { target := .fn (.func gf) lb, args := #[.func (.yield (D + 1)) #[] #[]] }, V, gf, #[.func (.yield (D + 1)) #[] #[]] ++ lb, V, ?_, ?_, ?_, ?_, fun _ => h1, ?_⟩
  · subst hD; exact run_enterLoop_outer _ _ _ _ _
  · simp only [resolve, hg]; simp [go_sem]
  · intro f' hf'; simp [Target.leads] at hf'; subst hf'; exact hFg
  · simp [invoke, go_sem, eg]
  -- the iterator's blocks
  let Y : Nat → Prop := fun r => Zs r ∨ (V.heap.size ≤ r ∧ r < V.heap.size + k)
  have yZ : ∀ r, Y r → Z r := fun r hr => (hZ r).2 (hr.imp id (fun h => ⟨by omega, by omega⟩))
  have yD : ¬ Y D := fun h => by rcases h with h | h; · have := hZs _ h; omega
                                 · omega
  have yL : ¬ Y (D + 1) := fun h => by rcases h with h | h; · have := hZs _ h; omega
                                       · omega
  have abide : ∀ {A B : World} {row : Option Nat} {q : Nat} {o : Obj}, A.grownBy B row → (∀ r, row = some r → Y r) → ¬ Y q → A.heap[q]? = some o → B.heap[q]? = some o := fun hg hr hq h =>
    (hg.block _ (Array.getElem?_eq_some_iff.1 h).1 (fun e => hq (hr _ e.symm))).trans h
  refine (hseq (D + 1) (fun pre W => I pre W ∧ W.heap[D + 1]? = some (rec0 .ready none) ∧ W.heap[D]? = some (.deferred (some [])))
    (fun pre W => ∃ c, Ix c pre W ∧ W.heap[D + 1]? = some (rec0 .done (some c)) ∧ W.heap[D]? = some (.deferred (some []))) V Y (fun _ => Iff.rfl) bV
    (fun s A B row hs hg' hr => ⟨hI s A B row hs.1 hg' (fun r e => yZ r (hr r e)), abide hg' hr yL hs.2.1, abide hg' hr yD hs.2.2⟩)
    (fun s A B row hs hg' hr => hs.elim fun c hc => ⟨c, hIx c s A B row hc.1 hg' (fun r e => yZ r (hr r e)), abide hg' hr yL hc.2.1, abide hg' hr yD hc.2.2⟩) ?_ ⟨iV, rV, dV⟩).mono ?_
  · rintro pre x W ⟨hi, hl, hk⟩ hsz hSp
    have hlt : D + 1 < W.heap.size := (Array.getElem?_eq_some_iff.1 hl).1
    have hbig : D + 2 + k ≤ W.heap.size := by
      rcases Nat.eq_zero_or_pos k with h | h
      · omega
      · have := hsz (V.heap.size + k - 1) (.inr ⟨by omega, by omega⟩); omega
    refine ⟨fn, _, assign, body, run_yield (P := P) (args := encs x) hl (hps x), roundIn_of_wpIn hfn (wpIn_mono (hassign (D + 1) x W (fun a' W' => a' = a₁ x ∧ W' = W) ⟨rfl, rfl⟩) (fun e a1 W1 he => ?_))⟩
    cases e with
    | normal =>
      obtain ⟨rfl, rfl⟩ := he
      refine ⟨_, run_beginRound hl rfl, wpIn_mono (hbody (D + 1) pre x _ (turn hI _ hi) (by simpa using hbig) hSp) ?_⟩
      generalize hW2 : W1.putObj (D + 1) _ = W2
      have hl2 : W2.heap[D + 1]? = some (rec0 .busy none) := by rw [← hW2]; exact World.putObj_heap_same hlt
      have hk2 : W2.heap[D]? = some (.deferred (some [])) := by rw [← hW2]; exact (World.putObj_heap_other (by omega)).trans hk
      have ky : KeptZ Y W1 W2 := by rw [← hW2]; exact KeptZ.put yL _
      have fin : ∀ (jump : Option Code) (W3 : World), KeptZ Z W2 W3 → W3.heap[D + 1]? = some (rec0 .busy none) ∧ W3.heap[D]? = some (.deferred (some [])) ∧
          (Instr.endRound (D + 1) jump).run P W3 = .ok (.bool jump.isNone) (W3.putObj (D + 1) (rec0 (if jump.isNone then .ready else .done) jump)) := fun jump W3 k3 =>
        ⟨k3 _ _ zL hl2, k3 _ _ zD hk2, run_endRound (P := P) jump (k3 _ _ zL hl2)⟩
      have rest : ∀ (st : LoopState) (pe : Option Code) (W3 : World), W3.heap[D + 1]? = some (rec0 .busy none) → W3.heap[D]? = some (.deferred (some [])) →
          (W3.putObj (D + 1) (rec0 st pe)).heap[D + 1]? = some (rec0 st pe) ∧ (W3.putObj (D + 1) (rec0 st pe)).heap[D]? = some (.deferred (some [])) := fun st pe W3 h2 h3 =>
        ⟨World.putObj_heap_same (Array.getElem?_eq_some_iff.1 h2).1, (World.putObj_heap_other (by omega)).trans h3⟩
      intro e2 a3 W3 hp
      cases e2 with
      | normal =>
        obtain ⟨k3, i3⟩ := hp
        obtain ⟨h2, h3, hrun⟩ := fin none W3 k3
        exact ⟨_, _, hrun, .inl ⟨rfl, ⟨turn hI _ i3, rest _ _ _ h2 h3⟩, (ky.trans (k3.sub yZ)).trans (KeptZ.put yL _)⟩⟩
      | ret =>
        obtain ⟨h2, h3, hrun⟩ := fin (some .ret) W3 hp.1
        exact ⟨_, _, hrun, .inr ⟨rfl, ⟨.ret, turn (hIx _) _ hp.2, rest _ _ _ h2 h3⟩, (ky.trans (hp.1.sub yZ)).trans (KeptZ.put yL _)⟩⟩
      | exit id =>
        obtain ⟨h2, h3, hrun⟩ := fin (some (.exit id)) W3 hp.1
        exact ⟨_, _, hrun, .inr ⟨rfl, ⟨.exit id, turn (hIx _) _ hp.2, rest _ _ _ h2 h3⟩, (ky.trans (hp.1.sub yZ)).trans (KeptZ.put yL _)⟩⟩
      | goto t =>
        obtain ⟨h2, h3, hrun⟩ := fin (some (.goto t)) W3 hp.1
        exact ⟨_, _, hrun, .inr ⟨rfl, ⟨.goto t, turn (hIx _) _ hp.2, rest _ _ _ h2 h3⟩, (ky.trans (hp.1.sub yZ)).trans (KeptZ.put yL _)⟩⟩
      | panic ch => exact hp.elim
      | outgrown => exact hp.elim
    | exit id => exact he.elim
    | goto t => exact he.elim
    | ret => exact he.elim
    | panic ch => exact he.elim
    | outgrown => exact he.elim
  · rintro e W2 ⟨⟨v, rfl⟩, (⟨xs, hS, hi, hl, hk⟩ | ⟨pre, hSp, c, hi, hl, hk⟩)⟩
    · exact ⟨none, _, run_endLoop (P := P) hl (by simp), hdone xs _ hS (turn hI _ hi) ((World.putObj_heap_other (by omega)).trans hk)⟩
    · exact ⟨some c, _, run_endLoop (P := P) hl (by simp), hstop c pre _ hSp (turn (hIx c) _ hi) ((World.putObj_heap_other (by omega)).trans hk)⟩
end Go.Proofs.YtjjlodeiejobdaaDoor
namespace Go.Proofs.YtjjlodeiejobdaaDoor
open Go.RowKit Go.Shelf
attribute [local go_sem] Oper.semAt_some
def nmRen2 : Go.Shelf.Ren := ⟨(fun | 143 => 60 | 217 => 83 | 219 => 71 | 224 => 85 | 225 => 84 | 266 => 94 | 267 => 86 | 314 => 95 | n => n), (fun | 3 => 3 | 4 => 4 | 5 => 5 | 9 => 9 | 46 => 97 | 51 => 35 | 146 => 129 | n => n), (fun | 1 => 0 | n => n)⟩
theorem lay_index : Lays.n143 Tryd.prog nmRen2 :=
  { mixed := by kernel_rfl,
    f143 := Tryd.func60.trans (congrArg some (by kernel_rfl)),
    f217 := Tryd.func83.trans (congrArg some (by kernel_rfl)),
    f219 := Tryd.func71.trans (congrArg some (by kernel_rfl)),
    f224 := Tryd.func85.trans (congrArg some (by kernel_rfl)),
    f225 := Tryd.func84.trans (congrArg some (by kernel_rfl)),
    f266 := Tryd.func94.trans (congrArg some (by kernel_rfl)),
    f267 := Tryd.func86.trans (congrArg some (by kernel_rfl)),
    f314 := Tryd.func95.trans (congrArg some (by kernel_rfl)),
    t3 := Tryd.underlying3,
    a3 := Tryd.isAgg3,
    z3 := Tryd.sizeOf3,
    v3 := Tryd.zeroValue3,
    t4 := Tryd.underlying4,
    a4 := Tryd.isAgg4,
    z4 := Tryd.sizeOf4,
    v4 := Tryd.zeroValue4,
    t5 := Tryd.underlying5,
    a5 := Tryd.isAgg5,
    z5 := Tryd.sizeOf5,
    v5 := Tryd.zeroValue5,
    t9 := Tryd.underlying9,
    a9 := Tryd.isAgg9,
    z9 := Tryd.sizeOf9,
    v9 := Tryd.zeroValue9,
    t46 := Tryd.underlying97,
    a46 := Tryd.isAgg97,
    z46 := Tryd.sizeOf97,
    v46 := Tryd.zeroValue97,
    t51 := Tryd.underlying35,
    a51 := Tryd.isAgg35,
    z51 := Tryd.sizeOf35,
    v51 := Tryd.zeroValue35,
    t146 := Tryd.underlying129,
    a146 := Tryd.isAgg129,
    z146 := Tryd.sizeOf129,
    v146 := Tryd.zeroValue129,
    g1 := by kernel_rfl }
theorem spl_none {c : UInt8} : ∀ {l : Bs}, Lib.indexByte l c = -1 → splL c l = [l]
  | [], _ => rfl
  | x :: r, h => by
    unfold Lib.indexByte at h
    have hg := Lib.indexByte_ge r c
    split at h
    · cases h
    · next hx =>
      split at h
      · next h1 =>
        have hxc : x ≠ c := by simpa using hx
        rw [splL, if_neg hxc, spl_none (by simpa using h1)]
      · omega
theorem spl_some {c : UInt8} : ∀ {l : Bs} {o : Nat}, Lib.indexByte l c = (o : Int) → o < l.length ∧ splL c l = l.take o :: splL c (l.drop (o + 1))
  | [], o, h => by
    unfold Lib.indexByte at h
    omega
  | x :: r, o, h => by
    unfold Lib.indexByte at h
    have hg := Lib.indexByte_ge r c
    split at h
    · next hx =>
      obtain rfl : o = 0 := by omega
      have hxc : x = c := by simpa using hx
      rw [splL, if_pos hxc]
      simp
    · next hx =>
      have hxc : x ≠ c := by simpa using hx
      split at h
      · omega
      · next hm =>
        have hm2 : Lib.indexByte r c ≠ -1 := by simpa using hm
        obtain ⟨o', rfl⟩ : ∃ o', o = o' + 1 := ⟨o - 1, by omega⟩
        obtain ⟨h1, h2⟩ := spl_some (c := c) (l := r) (o := o') (by omega)
        refine ⟨by simpa using h1, ?_⟩
        rw [splL, if_neg hxc, h2]
        rfl
theorem pcs_none {c : UInt8} {x : ByteArray} (h : Lib.indexByte x.data.toList c = -1) : pcsB c x = [x] := by
  unfold pcsB
  rw [spl_none h]
  simp
theorem pcs_some {c : UInt8} {x : ByteArray} {o : Nat} (h : Lib.indexByte x.data.toList c = (o : Int)) : o < x.size ∧ pcsB c x = x.extract 0 o :: pcsB c (x.extract (o + 1) x.size) := by
  obtain ⟨h1, h2⟩ := spl_some h
  have hsz : x.data.toList.length = x.size := Array.length_toList
  refine ⟨by omega, ?_⟩
  have e1 : (⟨(x.data.toList.take o).toArray⟩ : ByteArray) = x.extract 0 o := by
    apply ByteArray.ext
    apply Array.toList_inj.1
    rw [ByteArray.data_extract, Array.toList_extract, List.extract_eq_take_drop, Nat.sub_zero, List.drop_zero]
  have e2 : (x.extract (o + 1) x.size).data.toList = x.data.toList.drop (o + 1) := by
    rw [ByteArray.data_extract, Array.toList_extract, List.extract_eq_take_drop]
    rw [List.take_of_length_le (by rw [List.length_drop]; omega)]
  unfold pcsB
  rw [h2, List.map_cons, e1, e2]
theorem grown_set (W : World) (b : Nat) (v : Value) : W.grownBy (W.setCell ⟨b, 0, none⟩ v) (some b) := ⟨rfl, rfl, rfl, by simp, fun k _ hk => Below.heap_setCell _ _ _ _ (fun e => hk (by rw [e]))⟩
set_option maxRecDepth 100000 in
set_option maxHeartbeats 4000000 in
theorem sq_in (n l Bs Bp Bv : Nat) (x : ByteArray) (Z : Nat → Prop) (hzs : Z Bs ∧ Z Bp ∧ Z Bv) (J Jx : List ByteArray → World → Prop) (hJ : AbidesZ Z J) (hJx : AbidesZ Z Jx)
    (hY : ∀ pre p W1, J pre W1 → (W1.heap[Bs]?.isSome = true ∧ W1.heap[Bp]?.isSome = true ∧ W1.heap[Bv]?.isSome = true) → (pre ++ [p]) <+: pcsB 10 x → YieldAt Fence.wide (n - 1) Tryd.prog l #[.string p] W1 fun e W' =>
      (e = .returned (.bool true) ∧ J (pre ++ [p]) W' ∧ KeptZ Z W1 W') ∨ (e = .returned (.bool false) ∧ Jx (pre ++ [p]) W' ∧ KeptZ Z W1 W'))
    (hxs : x.size ≤ 1000000) (W : World) (hne : Bs ≠ Bp ∧ Bs ≠ Bv) (hs : W.heap[Bs]? = some (.cells #[.string x] 9 (0, 0))) (hp : W.heap[Bp]? = some (.cells #[.string ⟨#[10]⟩] 9 (0, 0))) (hv : W.heap[Bv]? = some (.cells #[.int .i64 0] 3 (0, 0))) (h0 : J [] W) :
    CallsIn Fence.wide n Tryd.prog 66 #[.func (.yield l) #[] #[], .pointer (some ⟨Bp, 0, none⟩), .pointer (some ⟨Bs, 0, none⟩), .pointer (some ⟨Bv, 0, none⟩)] W fun e W' => (∃ v, e = .returned v) ∧
      ((∃ ys, ys = pcsB 10 x ∧ J ys W') ∨ (∃ pre, pre <+: pcsB 10 x ∧ Jx pre W')) := by
  refine callsIn_of_wp Tryd.func66 rfl trivial ?_ rfl
  simp only [Tryd.ntmps66, List.size_toArray, List.length_cons, List.length_nil, Nat.reduceAdd, Nat.reduceSub, Array.replicate_succ, Array.replicate_zero, List.push_toArray, List.append_toArray, List.nil_append, List.cons_append]
  have cp : W.cell? ⟨Bp, 0, none⟩ = some (.string ⟨#[10]⟩) := cell_of_row _ _ _ _ _ _ hp
  have H0 := Lib.hid (And.intro hs (And.intro hp (And.intro hv h0)))
  have HY := Lib.hid hY
  have HJ := Lib.hid (And.intro hJ hJx)
  clear hs hp hv h0 hY hJ hJx
  gi_wp2
  gi_loopw [7] (fun _ wr => ∃ (pre : List ByteArray) (r : ByteArray), wr.heap[Bs]? = some (.cells #[.string r] 9 (0, 0)) ∧ wr.heap[Bp]? = some (.cells #[.string ⟨#[10]⟩] 9 (0, 0)) ∧ wr.heap[Bv]? = some (.cells #[.int .i64 0] 3 (0, 0)) ∧ J pre wr ∧ pcsB 10 x = pre ++ pcsB 10 r ∧ r.size ≤ x.size)
    (fun _ wr => match wr.heap[Bs]? with | some (.cells #[.string r] _ _) => r.size | _ => 0)
  case atStart => exact ⟨[], x, H0.out.1, H0.out.2.1, H0.out.2.2.1, H0.out.2.2.2, rfl, Nat.le_refl _⟩
  case round =>
    obtain ⟨pre, r, hs, hp, hv, hj, hx, hsz⟩ := hrel
    have c1 : wr.cell? ⟨Bs, 0, none⟩ = some (.string r) := cell_of_row _ _ _ _ _ _ hs
    have c2 : wr.cell? ⟨Bp, 0, none⟩ = some (.string ⟨#[10]⟩) := cell_of_row _ _ _ _ _ _ hp
    have c3 : wr.cell? ⟨Bv, 0, none⟩ = some (.int .i64 0) := cell_of_row _ _ _ _ _ _ hv
    have HI := Lib.hid (And.intro hs (And.intro hp (And.intro hv (And.intro hj (And.intro hx hsz)))))
    have hsome : wr.heap[Bs]?.isSome = true ∧ wr.heap[Bp]?.isSome = true ∧ wr.heap[Bv]?.isSome = true := by rw [hs, hp, hv]; exact ⟨rfl, rfl, rfl⟩
    have HM := Lib.hid (show (match wr.heap[Bs]? with | some (.cells #[.string r] _ _) => r.size | _ => 0) = r.size by rw [hs]; rfl)
    clear hs hp hv
    by_cases hi : Lib.indexByte r.data.toList 10 = -1
    · have Hix := Lib.hid (show Calls Tryd.prog 60 #[.string r, .string ⟨#[10]⟩] wr fun e w' => e = .returned (.int .i64 (-1)) ∧ w' = wr by rw [← hi]; exact Any.strings_Index_one lay_index r 10 wr)
      have hpc := pcs_none hi
      rw [hpc] at hx
      have HE := Lib.hid hx
      obtain ⟨fn, tmps, assign, body, hy, hR⟩ := HY.out pre r wr hj hsome (by rw [hx]; exact List.prefix_rfl)
      have HR := Lib.hid hR
      clear hR hj hx hpc hsome
      gi_wp2_with (first
        | (refine ⟨trivial, (fun h => (by cases h)), ?_⟩; refine (callsIn_wide.2 Hix.out).mono ?_; rintro e w1 ⟨rfl, rfl⟩; dsimp only)
        | gi_in)
      refine ⟨fun h => (by cases h), HR.out.mono ?_⟩
      rintro e W3 (⟨rfl, hJ3, _⟩ | ⟨rfl, hJ3, _⟩)
      · have H3 := Lib.hid hJ3
        clear hJ3
        dsimp only
        gi_wp2
        go_end0
        exact ⟨⟨_, rfl⟩, .inl ⟨_, rfl, by rw [HE.out]; exact H3.out⟩⟩
      · have H3 := Lib.hid hJ3
        clear hJ3
        dsimp only
        gi_wp2
        go_end0
        exact ⟨⟨_, rfl⟩, .inr ⟨_, by rw [HE.out]; exact List.prefix_rfl, H3.out⟩⟩
    · obtain ⟨o, ho⟩ : ∃ o : Nat, Lib.indexByte r.data.toList 10 = (o : Int) := ⟨(Lib.indexByte r.data.toList 10).toNat, by have := Lib.indexByte_ge r.data.toList 10; omega⟩
      obtain ⟨hol, hpc⟩ := pcs_some ho
      have Hix := Lib.hid (show Calls Tryd.prog 60 #[.string r, .string ⟨#[10]⟩] wr fun e w' => e = .returned (.int .i64 (o : Int)) ∧ w' = wr by rw [← ho]; exact Any.strings_Index_one lay_index r 10 wr)
      rw [hpc] at hx
      have hrs : o + 1 ≤ r.size := hol
      have hw0 : wrap64 (o : Int) = (o : Int) := by unfold wrap64; omega
      have hw1 : wrap64 ((o : Int) + 1) = (o : Int) + 1 := by unfold wrap64; omega
      obtain ⟨fn, tmps, assign, body, hy, hR⟩ := HY.out pre (r.extract 0 o) wr hj hsome (by rw [hx]; exact ⟨pcsB 10 (r.extract (o + 1) r.size), by simp⟩)
      have HR := Lib.hid hR
      have HE := Lib.hid hx
      have HO := Lib.hid (And.intro hrs (And.intro hsz hxs))
      clear hR hj hx hpc hsome ho hi
      gi_wp2_with (first
        | (refine ⟨trivial, (fun h => (by cases h)), ?_⟩; refine (callsIn_wide.2 Hix.out).mono ?_; rintro e w1 ⟨rfl, rfl⟩; dsimp only)
        | gi_in)
      refine ⟨fun h => (by cases h), HR.out.mono ?_⟩
      rintro e W3 (⟨rfl, hJ3, hk3⟩ | ⟨rfl, hJ3, _⟩)
      · have H3 := Lib.hid (And.intro hJ3 (And.intro (hk3 _ _ hzs.1 HI.out.1) (And.intro (hk3 _ _ hzs.2.1 HI.out.2.1) (hk3 _ _ hzs.2.2 HI.out.2.2.1))))
        have d1 : W3.cell? ⟨Bs, 0, none⟩ = some (.string r) := cell_of_row _ _ _ _ _ _ H3.out.2.1
        have d2 : W3.cell? ⟨Bp, 0, none⟩ = some (.string ⟨#[10]⟩) := cell_of_row _ _ _ _ _ _ H3.out.2.2.1
        have d3 := thaw_row 0 H3.out.2.1
        clear hJ3 hk3 c1 c2 c3
        dsimp only
        gi_wp2
        have hsame := heap_setCell_same W3 Bs 0 #[.string r] 9 (.string (r.extract (o + 1) r.size)) H3.out.2.1
        rw [show (#[Value.string r].setIfInBounds 0 (.string (r.extract (o + 1) r.size))) = #[.string (r.extract (o + 1) r.size)] from rfl] at hsame
        have hrz : (r.extract (o + 1) r.size).size = r.size - (o + 1) := by simp
        have hZs : ∀ q, some Bs = some q → Z q := fun q e => by cases e; exact hzs.1
        go_roundw
        case rel => exact ⟨_, _, _, _, _, _, _, _, _, _, _, _, _, _, _, _, _, _, _, _, _, _, ⟨pre ++ [r.extract 0 o], _, hsame, (Below.heap_setCell W3 ⟨Bs, 0, none⟩ _ Bp hne.1.symm).trans H3.out.2.2.1, (Below.heap_setCell W3 ⟨Bs, 0, none⟩ _ Bv hne.2.symm).trans H3.out.2.2.2, HJ.out.1 _ _ _ (some Bs) H3.out.1 (grown_set W3 Bs _) hZs, by rw [HE.out]; simp, by have := HO.out; omega⟩, rfl⟩
        case measure => rw [HM.out, hsame]; show (r.extract (o + 1) r.size).size < r.size; have := HO.out; omega
      · have H3 := Lib.hid hJ3
        clear hJ3
        dsimp only
        gi_wp2
        refine bodyPost_ret (results_none rfl _ _ _) rfl ?_
        exact ⟨⟨_, rfl⟩, .inr ⟨_, ⟨pcsB 10 (r.extract (o + 1) r.size), by rw [HE.out]; simp⟩, H3.out⟩⟩
theorem sq_stops (n Bs Bp Bv : Nat) (x : ByteArray) (hxs : x.size ≤ 1000000) (hne : Bs ≠ Bp ∧ Bs ≠ Bv) (w : World) (hs : w.heap[Bs]? = some (.cells #[.string x] 9 (0, 0))) (hp : w.heap[Bp]? = some (.cells #[.string ⟨#[10]⟩] 9 (0, 0))) (hv : w.heap[Bv]? = some (.cells #[.int .i64 0] 3 (0, 0))) :
    SeqZ Fence.wide n Tryd.prog 66 #[.pointer (some ⟨Bp, 0, none⟩), .pointer (some ⟨Bs, 0, none⟩), .pointer (some ⟨Bv, 0, none⟩)] (fun p : ByteArray => #[Value.string p]) (fun r => r = Bs ∨ r = Bp ∨ r = Bv) 0 (fun ys => ys = pcsB 10 x) (fun pre => pre <+: pcsB 10 x) w := by
  intro l J Jx W Z hZ hW hJ hJx hY h0
  have up : ∀ {b : Nat} {o : Obj}, w.heap[b]? = some o → W.heap[b]? = some o := fun {b o} h => (hW.block b (Array.getElem?_eq_some_iff.1 h).1).trans h
  refine sq_in n l Bs Bp Bv x Z ⟨(hZ Bs).2 (.inl (.inl rfl)), (hZ Bp).2 (.inl (.inr (.inl rfl))), (hZ Bv).2 (.inl (.inr (.inr rfl)))⟩ J Jx hJ hJx (fun pre p W1 hj hsm hpre => hY pre p W1 hj (fun r hr => ?_) hpre) hxs W hne (up hs) (up hp) (up hv) h0
  have lt : ∀ {b : Nat}, W1.heap[b]?.isSome = true → b < W1.heap.size := fun {b} h => by
    obtain ⟨o, ho⟩ := Option.isSome_iff_exists.1 h
    exact (Array.getElem?_eq_some_iff.1 ho).1
  rcases (hZ r).1 hr with (rfl | rfl | rfl) | h
  · exact lt hsm.1
  · exact lt hsm.2.1
  · exact lt hsm.2.2
  · omega
theorem ssq_in (n : Nat) (x s : ByteArray) (i : Int) (w : World) :
    CallsIn Fence.wide n Tryd.prog 53 #[.string x, .string s, .int .i64 i] w fun e w' => e = .returned (.func (.func 66) #[] #[.pointer (some ⟨w.heap.size + 1, 0, none⟩), .pointer (some ⟨w.heap.size, 0, none⟩), .pointer (some ⟨w.heap.size + 2, 0, none⟩)]) ∧
      w' = ((w.alloc (.cells #[.string x] 9)).alloc (.cells #[.string s] 9)).alloc (.cells #[.int .i64 i] 3) := by
  refine callsIn_of_wp Tryd.func53 rfl trivial ?_ rfl
  simp only [Tryd.ntmps53, List.size_toArray, List.length_cons, List.length_nil, Nat.reduceAdd, Nat.reduceSub, Array.replicate_succ, Array.replicate_zero, List.push_toArray, List.append_toArray, List.nil_append, List.cons_append]
  gi_wp2
  go_ret
  exact ⟨rfl, rfl⟩
theorem sps_in (n : Nat) (x s : ByteArray) (w : World) :
    CallsIn Fence.wide n Tryd.prog 39 #[.string x, .string s] w fun e w' => e = .returned (.func (.func 66) #[] #[.pointer (some ⟨w.heap.size + 1, 0, none⟩), .pointer (some ⟨w.heap.size, 0, none⟩), .pointer (some ⟨w.heap.size + 2, 0, none⟩)]) ∧
      w' = ((w.alloc (.cells #[.string x] 9)).alloc (.cells #[.string s] 9)).alloc (.cells #[.int .i64 0] 3) := by
  refine callsIn_of_wp Tryd.func39 rfl trivial ?_ rfl
  simp only [Tryd.ntmps39, List.size_toArray, List.length_cons, List.length_nil, Nat.reduceAdd, Nat.reduceSub, Array.replicate_succ, Array.replicate_zero, List.push_toArray, List.append_toArray, List.nil_append, List.cons_append]
  have Hc := Lib.hid (ssq_in (n - 1) x s 0 w)
  gi_wp2_with (refine ⟨trivial, (fun h => (by cases h)), ?_⟩; refine Hc.out.mono ?_; rintro e w1 ⟨rfl, rfl⟩; dsimp only)
  go_ret
  exact ⟨rfl, rfl⟩
end Go.Proofs.YtjjlodeiejobdaaDoor
