/- Play: great, same. Condition: the rows lie there. -/
import Derived.Test.YtjjlodeiejobdaaDoorPyJ
import Derived.Test.YtjjlodeiejobdaaDoorRegJ
import Derived.Test.YtjjlodeiejobdaaDoorRegK
namespace Go.Proofs.YtjjlodeiejobdaaDoor
open Go.RowKit Go.Shelf Go.Deep
abbrev SlAt := SliceAt 11 stpC
instance : Inhabited StpV := ⟨stp0 0 0⟩
theorem sl_map {w : World} {a : Option Addr} {len : Nat} {z : List StpO} (h : StpsAt w a len z) : SlAt w a len (z.map (·.val)) := by
  refine ⟨by rw [List.length_map]; exact h.hlen, h.hmax, fun i x hx => ?_⟩
  rw [List.getElem?_map] at hx
  obtain ⟨y, hy, rfl⟩ := Option.map_eq_some_iff.1 hx
  exact h.cells i y hy
theorem sl_row {w : World} {a : Option Addr} {len : Nat} {z : List StpV} (h : SlAt w a len z) {i : Nat} {s : StpV} (hz : z[i]? = some s) : ∃ b o, a = some ⟨b, o, none⟩ ∧ b < w.heap.size ∧ w.rangeAt b (o + i * 11) (stpC s) := by
  obtain ⟨b, o, h1, h2, h3⟩ := h.cells i _ hz
  exact ⟨b, o, h1, h2, fun j v hv => by rw [← h3 j v hv, Nat.add_assoc]⟩
theorem sl_keep {w y : World} {b o : Nat} {cs : List Value} (h : w.rangeAt b o cs) (hb : b < w.heap.size) (hk : Below w.heap.size w y) : y.rangeAt b o cs := fun j v hv => (hk.cell (p := ⟨b, o + j, none⟩) hb).trans (h j v hv)
theorem loadAt_stp {y : World} {b o : Nat} {s : StpV} (h : y.rangeAt b o (stpC s)) : (Instr.loadAt 39 (.pointer (some ⟨b, o, none⟩))).run Tryd.prog y = .ok (.agg (stpC s).toArray) y := by
  simp only [Instr.loadAt, Instr.sureAddr, Sem.run_bind, Sem.run_pure, Result.andThen_ok, run_loadVar_mid y b o 39 (stpC s) _ h Tryd.underlying39 rfl (stpC_size s)]
/-- More than 500 steps, or a text of more than 100 bytes? -/
def bigS (s : StpV) : Bool := decide (100 < s.y.length) || (decide (100 < s.o.length) || decide (100 < s.n.length))
def greatS (z : List StpV) : Bool := decide (500 < z.length) || z.any bigS
theorem great_no {z : List StpV} (h : greatS z = false) : z.length ≤ 500 ∧ ∀ s ∈ z, s.y.length ≤ 100 ∧ s.o.length ≤ 100 ∧ s.n.length ≤ 100 := by
  unfold greatS at h
  rw [Bool.or_eq_false_iff] at h
  refine ⟨by have := of_decide_eq_false h.1; omega, fun s hs => ?_⟩
  have h2 := List.any_eq_false.1 h.2 s hs
  unfold bigS at h2
  simp only [Bool.or_eq_true, decide_eq_true_eq, not_or, Nat.not_lt] at h2
  exact ⟨h2.1, h2.2.1, h2.2.2⟩
theorem great_long {z : List StpV} (h : 500 < z.length) : greatS z = true := by unfold greatS; simp [h]
theorem great_big {z : List StpV} {i : Nat} {s : StpV} (h : z[i]? = some s) (hb : bigS s = true) : greatS z = true := by
  unfold greatS
  rw [Bool.or_eq_true]
  exact .inr (List.any_eq_true.2 ⟨s, List.mem_of_getElem? h, hb⟩)
theorem great_end {z : List StpV} (hl : z.length ≤ 500) (h : ∀ (i : Nat) (s : StpV), z[i]? = some s → bigS s = false) : greatS z = false := by
  unfold greatS
  rw [Bool.or_eq_false_iff]
  refine ⟨decide_eq_false (by omega), List.any_eq_false.2 fun s hs => ?_⟩
  obtain ⟨i, hi⟩ := List.getElem?_of_mem hs
  rw [h i s hi]
  decide
def OneB (b : Bool) (w : World) (e : Ending) (w' : World) : Prop := e = .returned (.bool b) ∧ Below w.heap.size w w'
theorem OneB.of {b c : Bool} {w w' : World} (hb : Below w.heap.size w w') (h : b = c) : OneB b w (.returned (.bool c)) w' := by
  subst h
  exact ⟨rfl, hb⟩
set_option maxRecDepth 100000 in
set_option maxHeartbeats 16000000 in
theorem same_any (a b : Option Addr) (la ca lb cb : Nat) (z y : List StpV) (w : World) (hz : SlAt w a la z) (hy : SlAt w b lb y) :
    Calls Tryd.prog 13 #[.slice a la ca, .slice b lb cb] w (OneB (decide (z = y)) w) := by
  have hzl := hz.hlen
  have hyl := hy.hlen
  have Hz := Lib.hid hz
  have Hy := Lib.hid hy
  have Hmax := Lib.hid hz.hmax
  clear hz hy
  by_cases hab : la = lb
  · have he : ((la : Int) != (lb : Int)) = false := by rw [hab]; simp
    subst hab
    have HL := Lib.hid (And.intro hzl hyl)
    clear hzl hyl
    go_enter Tryd.func13, Tryd.ntmps13
    go_upto_region 4 with fail
    clear he
    go_loopw [5] (fun s5 wr => ∃ i : Nat, s5 = .int .i64 (i : Int) ∧ i ≤ la ∧ z.take i = y.take i ∧ Below w.heap.size w wr) (fun s5 _ => la - (intOf s5).toNat)
    case atStart => exact ⟨0, rfl, Nat.zero_le _, rfl, Below.refl _ _⟩
    case round =>
      obtain ⟨i, rfl, hi, htk, hbw⟩ := hrel
      have HA := Lib.hid (And.intro htk hbw)
      clear htk hbw
      by_cases hil : i < la
      · have hil' : (i : Int) < (la : Int) := by omega
        have HW1 := Lib.hid (show wrap64 ((i : Int) + 1) = (i : Int) + 1 by have := Hmax.out; unfold maxLen at this; unfold wrap64; omega)
        obtain ⟨s, hs⟩ : ∃ s, z[i]? = some s := ⟨_, List.getElem?_eq_getElem (show i < z.length by have := HL.out; omega)⟩
        obtain ⟨t, ht⟩ : ∃ t, y[i]? = some t := ⟨_, List.getElem?_eq_getElem (show i < y.length by have := HL.out; omega)⟩
        obtain ⟨b1, o1, rfl, h1, r1⟩ := sl_row (Hz.out.below HA.out.2) hs
        obtain ⟨b2, o2, rfl, h2, r2⟩ := sl_row (Hy.out.below HA.out.2) ht
        have HS := Lib.hid (And.intro hs ht)
        have HR1 := Lib.hid (fun (v : World) (hv : Below wr.heap.size wr v) => loadAt_stp (sl_keep r1 h1 hv))
        have HR2 := Lib.hid (fun (v : World) (hv : Below wr.heap.size wr v) => loadAt_stp (sl_keep r2 h2 hv))
        clear hs ht r1 r2 h1 h2
        go_upto_region 6 with fail
        refine (wpIn_wide (n := 1)).1 ?_
        refine RegJ.wpIn_region_plan (F := Fence.wide) (KeptW wr) (.step 0 0 (.step 1 0 (.step 2 0 (.step 3 0 (.step 4 0 (.step 5 0 (.step 6 0 (.step 7 0 (.step 8 0 .nil))))))))) (by kernel_rfl) (by kernel_rfl) (by kernel_rfl) (fun _ _ d _ _ h => by cases d <;> exact h) ⟨rfl, rfl, rfl, Nat.le_refl _, fun _ _ => rfl⟩ ?_
        dsimp only [RegJ.pickJ, List.getElem?_cons_zero, List.getElem?_cons_succ]
        change RegJ.Can _ _ _ _ _ _ _ _ wr.drew
        have hkd : KeptW wr wr.drew := ⟨rfl, rfl, rfl, Nat.le_refl _, fun _ _ => rfl⟩
        generalize wr.drew = v1 at *
        iterate 3 (refine RegJ.reads ?_; intro K hK; go_simp; (first | refine ⟨_, fun _ _ => rfl, hK _ ?_⟩ | refine hK _ ?_); clear hK K)
        refine RegJ.reads ?_
        intro K hK
        rw [if_pos (by first | (simp [Region.wanted]; done) | (go_simp; done))]
        refine ⟨.agg (stpC s).toArray, fun y hy => exec_load rfl rfl (HR1.out y (KeptW.bel hy)), hK _ ?_⟩
        clear hK K
        go_simp
        iterate 3 (refine RegJ.reads ?_; intro K hK; go_simp; (first | refine ⟨_, fun _ _ => rfl, hK _ ?_⟩ | refine hK _ ?_); clear hK K)
        refine RegJ.reads ?_
        intro K hK
        rw [if_pos (by first | (simp [Region.wanted]; done) | (go_simp; done))]
        refine ⟨.agg (stpC t).toArray, fun y hy => exec_load rfl rfl (HR2.out y (KeptW.bel hy)), hK _ ?_⟩
        clear hK K
        go_simp
        refine RegJ.reads ?_
        intro K hK
        rw [if_pos (by simp [Region.wanted])]
        refine ⟨.bool (decide (s = t) == false), fun y hy => stp_exec _ _ false _ _ rfl s t rfl rfl y, hK _ ?_⟩
        clear hK K
        go_simp
        refine RegJ.nil ?_
        have hk1 : Below wr.heap.size wr v1 := KeptW.bel hkd
        have H1 := Lib.hid (HA.out.2.trans (hk1.mono HA.out.2.size))
        clear hk1 hkd
        by_cases he : s = t
        · rw [decide_eq_true he]
          have HT := Lib.hid (show z.take (i + 1) = y.take (i + 1) by rw [List.take_add_one, List.take_add_one, HA.out.1, HS.out.1, HS.out.2, he])
          clear he
          go_wp2
          go_roundw
          case rel => exact ⟨i + 1, by show Value.int .i64 (wrap64 ((i : Int) + 1)) = _; rw [HW1.out]; rfl, by omega, HT.out, H1.out⟩
          case measure => show la - (intOf (.int .i64 (wrap64 ((i : Int) + 1)))).toNat < _; rw [HW1.out]; simp only [intOf]; omega
        · rw [decide_eq_false he]
          have HN := Lib.hid (show decide (z = y) = false from decide_eq_false (fun e => he (by have h := HS.out.1; rw [e, HS.out.2] at h; cases h; rfl)))
          clear he
          go_wp2
          go_ret
          exact .of H1.out HN.out
      · have hil' : ¬ (i : Int) < (la : Int) := by omega
        have HN := Lib.hid (show decide (z = y) = true from decide_eq_true (by
          have h1 := HA.out.1
          rwa [List.take_of_length_le (by have := HL.out; omega), List.take_of_length_le (by have := HL.out; omega)] at h1))
        go_wp2
        go_ret
        exact .of HA.out.2 HN.out
  · have he : ((la : Int) != (lb : Int)) = true := by rw [bne_iff_ne]; omega
    have HN := Lib.hid (show decide (z = y) = false from decide_eq_false (fun e => hab (by rw [← hzl, ← hyl, e])))
    clear hab hzl hyl
    go_enter Tryd.func13, Tryd.ntmps13
    go_wp2
    go_ret
    exact .of (Below.refl _ _) HN.out
def cmdC (s : StpV) : List Value := [.int .u8 (s.cl : Int), .int .u32 (s.sq : Int), .int .u8 (s.kd : Int), .string ⟨s.y.toArray⟩, .string ⟨s.o.toArray⟩, .string ⟨s.n.toArray⟩, .int .u8 (s.st : Int)]
theorem cmdC_one (s : StpV) : ∀ u ∈ cmdC s, u.oneCell' = true := by simp [cmdC, Value.oneCell']
theorem cmdC_size (s : StpV) : (Tryd.prog.info? 37).map (·.size) = some (cmdC s).length := (by kernel_rfl : (Tryd.prog.info? 37).map (·.size) = some 7)
theorem cmd_range {y : World} {b o : Nat} {s : StpV} (h : y.rangeAt b o (stpC s)) : y.rangeAt b (o + 4) (cmdC s) := fun j v hv => by
  have hj : j < 7 := (List.getElem?_eq_some_iff.1 hv).1
  rw [Nat.add_assoc]
  refine h (4 + j) v ?_
  rw [← hv]
  match j, hj with
  | 0, _ => rfl
  | 1, _ => rfl
  | 2, _ => rfl
  | 3, _ => rfl
  | 4, _ => rfl
  | 5, _ => rfl
  | 6, _ => rfl
set_option maxRecDepth 100000 in
set_option maxHeartbeats 16000000 in
theorem great_any (a : Option Addr) (la ca : Nat) (z : List StpV) (w : World) (hz : SlAt w a la z) :
    Calls Tryd.prog 7 #[.slice a la ca] w (OneB (greatS z) w) := by
  have hzl := hz.hlen
  have Hz := Lib.hid hz
  clear hz
  by_cases h500 : 500 < la
  · have hgt : ((la : Int) > 500) := by omega
    have HN := Lib.hid (great_long (z := z) (by omega))
    clear h500 hzl
    go_enter Tryd.func7, Tryd.ntmps7
    go_wp2
    go_ret
    exact .of (Below.refl _ _) HN.out
  · have hgt : ¬ ((la : Int) > 500) := by omega
    have HL := Lib.hid (And.intro hzl h500)
    clear hzl h500
    go_enter Tryd.func7, Tryd.ntmps7
    go_upto_region 4 with fail
    clear hgt
    go_loopw [3] (fun s3 wr => ∃ i : Nat, s3 = .int .i64 (i : Int) ∧ i ≤ la ∧ (∀ j s, j < i → z[j]? = some s → bigS s = false) ∧ Below w.heap.size w wr) (fun s3 _ => la - (intOf s3).toNat)
    case atStart => exact ⟨0, rfl, Nat.zero_le _, fun j s hj => by omega, Below.refl _ _⟩
    case round =>
      obtain ⟨i, rfl, hi, hno, hbw⟩ := hrel
      have HA := Lib.hid (And.intro hno hbw)
      clear hno hbw
      by_cases hil : i < la
      · have hil' : (i : Int) < (la : Int) := by omega
        have HW1 := Lib.hid (show wrap64 ((i : Int) + 1) = (i : Int) + 1 by have := HL.out; unfold wrap64; omega)
        obtain ⟨s, hs⟩ : ∃ s, z[i]? = some s := ⟨_, List.getElem?_eq_getElem (show i < z.length by have := HL.out; omega)⟩
        obtain ⟨b1, o1, rfl, h1, r1⟩ := sl_row (Hz.out.below HA.out.2) hs
        have HS := Lib.hid hs
        have HR := Lib.hid (cmd_range r1)
        clear hs r1
        go_upto_region 7 with (first
          | (with_reducible refine wpList_load_mid rfl 37 _ rfl b1 (o1 + i * 11 + 4) rfl (cmdC s) _ HR.out Tryd.underlying37 rfl (cmdC_size s) ?_)
          | ((with_reducible refine wpList_store_mid rfl 37 _ _ rfl wr.heap.size 0 _ rfl rfl ?_ ?_ ?_ ?_); exact th_new3 wr (cmdC (stp0 0 0)) 37; exact cmdC_size s; exact all_oneCell_toArray (cmdC_one s)))
        change Code.wp _ _ _ _ ((wr.alloc (.cells (cmdC (stp0 0 0)).toArray 37)).setCells wr.heap.size 0 (cmdC s))
        have hbx := box_below wr (cmdC (stp0 0 0)) (cmdC s) 37
        have hs1 := box_row wr (cmdC (stp0 0 0)) (cmdC s) 37 rfl
        have H1 := Lib.hid (HA.out.2.trans (hbx.mono HA.out.2.size))
        clear hbx HR h1
        generalize (wr.alloc (.cells (cmdC (stp0 0 0)).toArray 37)).setCells wr.heap.size 0 (cmdC s) = w1 at *
        generalize wr.heap.size = g1 at *
        have c3 : w1.cell? ⟨g1, 3, none⟩ = some (.string ⟨s.y.toArray⟩) := cell_of_row _ _ _ _ _ _ hs1
        have c4 : w1.cell? ⟨g1, 4, none⟩ = some (.string ⟨s.o.toArray⟩) := cell_of_row _ _ _ _ _ _ hs1
        have c5 : w1.cell? ⟨g1, 5, none⟩ = some (.string ⟨s.n.toArray⟩) := cell_of_row _ _ _ _ _ _ hs1
        have z3 : (⟨s.y.toArray⟩ : ByteArray).size = s.y.length := by simp [ByteArray.size]
        have z4 : (⟨s.o.toArray⟩ : ByteArray).size = s.o.length := by simp [ByteArray.size]
        have z5 : (⟨s.n.toArray⟩ : ByteArray).size = s.n.length := by simp [ByteArray.size]
        clear hs1
        cases hb : bigS s with
        | true =>
          have HN := Lib.hid (great_big HS.out hb)
          unfold bigS at hb
          simp only [Bool.or_eq_true, decide_eq_true_eq] at hb
          by_cases q3 : 100 < s.y.length
          · have p3 : (s.y.length : Int) > 100 := by omega
            clear hb q3
            go_wp2
            go_ret
            exact .of H1.out HN.out
          · have p3 : ¬ (s.y.length : Int) > 100 := by omega
            by_cases q4 : 100 < s.o.length
            · have p4 : (s.o.length : Int) > 100 := by omega
              clear hb q3 q4
              go_wp2
              go_ret
              exact .of H1.out HN.out
            · have p4 : ¬ (s.o.length : Int) > 100 := by omega
              have p5 : (s.n.length : Int) > 100 := by omega
              clear hb q3 q4
              go_wp2
              go_ret
              exact .of H1.out HN.out
        | false =>
          have HB := Lib.hid hb
          unfold bigS at hb
          simp only [Bool.or_eq_false_iff, decide_eq_false_iff_not] at hb
          have p3 : ¬ (s.y.length : Int) > 100 := by omega
          have p4 : ¬ (s.o.length : Int) > 100 := by omega
          have p5 : ¬ (s.n.length : Int) > 100 := by omega
          clear hb
          go_wp2
          go_roundw
          case rel => exact ⟨i + 1, by show Value.int .i64 (wrap64 ((i : Int) + 1)) = _; rw [HW1.out]; rfl, by omega, fun j t hj ht => by
            rcases Nat.lt_or_ge j i with h | h
            · exact HA.out.1 j t h ht
            · obtain rfl : j = i := by omega
              rw [HS.out] at ht
              cases ht
              exact HB.out, H1.out⟩
          case measure => show la - (intOf (.int .i64 (wrap64 ((i : Int) + 1)))).toNat < _; rw [HW1.out]; simp only [intOf]; omega
      · have hil' : ¬ (i : Int) < (la : Int) := by omega
        have HN := Lib.hid (great_end (z := z) (by have := HL.out; omega) (fun j s hj => HA.out.1 j s (by have := (List.getElem?_eq_some_iff.1 hj).1; have := HL.out; omega) hj))
        go_wp2
        go_ret
        exact .of HA.out.2 HN.out
end Go.Proofs.YtjjlodeiejobdaaDoor
