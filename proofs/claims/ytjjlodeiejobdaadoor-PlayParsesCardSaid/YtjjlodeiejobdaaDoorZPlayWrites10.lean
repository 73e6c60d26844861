/- Play: great, same. Condition: the rows lie there. -/
import Derived.Test.YtjjlodeiejobdaaDoorZPlayWrites9
import Derived.Test.YtjjlodeiejobdaaDoorZPlayWrites2
import Derived.Test.YtjjlodeiejobdaaDoorZPlayWrites1
import Derived.Test.YtjjlodeiejobdaaDoorZPlayWrites4
import Derived.Test.YtjjlodeiejobdaaDoorZPlayWrites7
namespace Go.Proofs.YtjjlodeiejobdaaDoor
open Go.RowKit Go.Shelf Go.Deep
abbrev SlAt := SliceAt 11 stpC
instance : Inhabited StpV := ⟨stp0 0 0⟩
theorem sl_map {w : World} {a : Option Addr} {len : Nat} {z : List StpO} (h : StpsAt w a len z) : SlAt w a len (z.map (·.val)) := by
  refine ⟨by rw [List.length_map]; exact h.hlen, h.hmax, fun i x hx => ?_⟩
  rw [List.getElem?_map] at hx
  obtain ⟨y, hy, rfl⟩ := Option.map_eq_some_iff.1 hx
  exact h.cells i y hy
theorem sl_row {w : World} {a : Option Addr} {len : Nat} {z : List StpV} (h : SlAt w a len z) {i : Nat} {s : StpV} (hz : z[i]? = some s) : ∃ b o, a = some ⟨b, o, none⟩ ∧ b < w.heap.size ∧ w.rangeAt b (o + i * 11) (stpC s) := by
  obtain ⟨b, o, h1, h2, h3⟩ := h.cells i _ hz
  exact ⟨b, o, h1, h2, fun j v hv => by rw [← h3 j v hv, Nat.add_assoc]⟩
theorem sl_keep {w y : World} {b o : Nat} {cs : List Value} (h : w.rangeAt b o cs) (hb : b < w.heap.size) (hk : Below w.heap.size w y) : y.rangeAt b o cs := fun j v hv => (hk.cell (p := ⟨b, o + j, none⟩) hb).trans (h j v hv)
theorem loadAt_stp {y : World} {b o : Nat} {s : StpV} (h : y.rangeAt b o (stpC s)) : (Instr.loadAt 39 (.pointer (some ⟨b, o, none⟩))).run Tryd.prog y = .ok (.agg (stpC s).toArray) y := by
  simp only [Instr.loadAt, Instr.sureAddr, Sem.run_bind, Sem.run_pure, Result.andThen_ok, run_loadVar_mid y b o 39 (stpC s) _ h Tryd.underlying39 rfl (stpC_size s)]
/-- More than 500 steps, or a text of more than 100 bytes? -/
def bigS (s : StpV) : Bool := decide (100 < s.y.length) || (decide (100 < s.o.length) || decide (100 < s.n.length))
def greatS (z : List StpV) : Bool := decide (500 < z.length) || z.any bigS
theorem great_no {z : List StpV} (h : greatS z = false) : z.length ≤ 500 ∧ ∀ s ∈ z, s.y.length ≤ 100 ∧ s.o.length ≤ 100 ∧ s.n.length ≤ 100 := by
  unfold greatS at h
  rw [Bool.or_eq_false_iff] at h
  refine ⟨by have := of_decide_eq_false h.1; omega, fun s hs => ?_⟩
  have h2 := List.any_eq_false.1 h.2 s hs
  unfold bigS at h2
  simp only [Bool.or_eq_true, decide_eq_true_eq, not_or, Nat.not_lt] at h2
  exact ⟨h2.1, h2.2.1, h2.2.2⟩
theorem great_long {z : List StpV} (h : 500 < z.length) : greatS z = true := by unfold greatS; simp [h]
theorem great_big {z : List StpV} {i : Nat} {s : StpV} (h : z[i]? = some s) (hb : bigS s = true) : greatS z = true := by
  unfold greatS
  rw [Bool.or_eq_true]
  exact .inr (List.any_eq_true.2 ⟨s, List.mem_of_getElem? h, hb⟩)
theorem great_end {z : List StpV} (hl : z.length ≤ 500) (h : ∀ (i : Nat) (s : StpV), z[i]? = some s → bigS s = false) : greatS z = false := by
  unfold greatS
  rw [Bool.or_eq_false_iff]
  refine ⟨decide_eq_false (by omega), List.any_eq_false.2 fun s hs => ?_⟩
  obtain ⟨i, hi⟩ := List.getElem?_of_mem hs
  rw [h i s hi]
  decide
def OneB (b : Bool) (w : World) (e : Ending) (w' : World) : Prop := e = .returned (.bool b) ∧ Below w.heap.size w w'
theorem OneB.of {b c : Bool} {w w' : World} (hb : Below w.heap.size w w') (h : b = c) : OneB b w (.returned (.bool c)) w' := by
  subst h
  exact ⟨rfl, hb⟩
set_option maxRecDepth 100000 in
set_option maxHeartbeats 16000000 in
theorem same_any (a b : Option Addr) (la ca lb cb : Nat) (z y : List StpV) (w : World) (hz : SlAt w a la z) (hy : SlAt w b lb y) :
    Calls Tryd.prog 13 #[.slice a la ca, .slice b lb cb] w (OneB (decide (z = y)) w) := by
  have hzl := hz.hlen
  have hyl := hy.hlen
  have Hz := Lib.hid hz
  have Hy := Lib.hid hy
  have Hmax := Lib.hid hz.hmax
  clear hz hy
  by_cases hab : la = lb
  · have he : ((la : Int) != (lb : Int)) = false := by rw [hab]; simp
    subst hab
    have HL := Lib.hid (And.intro hzl hyl)
    clear hzl hyl
    go_enter Tryd.func13, Tryd.ntmps13
    go_upto_region 4 with fail
    clear he
    go_loopw [5] (fun s5 wr => ∃ i : Nat, s5 = .int .i64 (i : Int) ∧ i ≤ la ∧ z.take i = y.take i ∧ Below w.heap.size w wr) (fun s5 _ => la - (intOf s5).toNat)
    case atStart => exact ⟨0, rfl, Nat.zero_le _, rfl, Below.refl _ _⟩
    case round =>
      obtain ⟨i, rfl, hi, htk, hbw⟩ := hrel
      have HA := Lib.hid (And.intro htk hbw)
      clear htk hbw
      by_cases hil : i < la
      · have hil' : (i : Int) < (la : Int) := by omega
        have HW1 := Lib.hid (show wrap64 ((i : Int) + 1) = (i : Int) + 1 by have := Hmax.out; unfold maxLen at this; unfold wrap64; omega)
        obtain ⟨s, hs⟩ : ∃ s, z[i]? = some s := ⟨_, List.getElem?_eq_getElem (show i < z.length by have := HL.out; omega)⟩
        obtain ⟨t, ht⟩ : ∃ t, y[i]? = some t := ⟨_, List.getElem?_eq_getElem (show i < y.length by have := HL.out; omega)⟩
        obtain ⟨b1, o1, rfl, h1, r1⟩ := sl_row (Hz.out.below HA.out.2) hs
        obtain ⟨b2, o2, rfl, h2, r2⟩ := sl_row (Hy.out.below HA.out.2) ht
        have HS := Lib.hid (And.intro hs ht)
        have HR1 := Lib.hid (fun (v : World) (hv : Below wr.heap.size wr v) => loadAt_stp (sl_keep r1 h1 hv))
        have HR2 := Lib.hid (fun (v : World) (hv : Below wr.heap.size wr v) => loadAt_stp (sl_keep r2 h2 hv))
        clear hs ht r1 r2 h1 h2
        go_upto_region 6 with fail
        refine (wpIn_wide (n := 1)).1 ?_
        refine RegJ.wpIn_region_plan (F := Fence.wide) (KeptW wr) (.step 0 0 (.step 1 0 (.step 2 0 (.step 3 0 (.step 4 0 (.step 5 0 (.step 6 0 (.step 7 0 (.step 8 0 .nil))))))))) (by kernel_rfl) (by kernel_rfl) (by kernel_rfl) (fun _ _ d _ _ h => by cases d <;> exact h) ⟨rfl, rfl, rfl, Nat.le_refl _, fun _ _ => rfl⟩ ?_
        dsimp only [RegJ.pickJ, List.getElem?_cons_zero, List.getElem?_cons_succ]
        change RegJ.Can _ _ _ _ _ _ _ _ wr.drew
        have hkd : KeptW wr wr.drew := ⟨rfl, rfl, rfl, Nat.le_refl _, fun _ _ => rfl⟩
        generalize wr.drew = v1 at *
        iterate 3 (refine RegJ.reads ?_; intro K hK; go_simp; (first | refine ⟨_, fun _ _ => rfl, hK _ ?_⟩ | refine hK _ ?_); clear hK K)
        refine RegJ.reads ?_
        intro K hK
        rw [if_pos (by first | (simp [Region.wanted]; done) | (go_simp; done))]
        refine ⟨.agg (stpC s).toArray, fun y hy => exec_load rfl rfl (HR1.out y (KeptW.bel hy)), hK _ ?_⟩
        clear hK K
        go_simp
        iterate 3 (refine RegJ.reads ?_; intro K hK; go_simp; (first | refine ⟨_, fun _ _ => rfl, hK _ ?_⟩ | refine hK _ ?_); clear hK K)
        refine RegJ.reads ?_
        intro K hK
        rw [if_pos (by first | (simp [Region.wanted]; done) | (go_simp; done))]
        refine ⟨.agg (stpC t).toArray, fun y hy => exec_load rfl rfl (HR2.out y (KeptW.bel hy)), hK _ ?_⟩
        clear hK K
        go_simp
        refine RegJ.reads ?_
        intro K hK
        rw [if_pos (by simp [Region.wanted])]
        refine ⟨.bool (decide (s = t) == false), fun y hy => stp_exec _ _ false _ _ rfl s t rfl rfl y, hK _ ?_⟩
        clear hK K
        go_simp
        refine RegJ.nil ?_
        have hk1 : Below wr.heap.size wr v1 := KeptW.bel hkd
        have H1 := Lib.hid (HA.out.2.trans (hk1.mono HA.out.2.size))
        clear hk1 hkd
        by_cases he : s = t
        · rw [decide_eq_true he]
          have HT := Lib.hid (show z.take (i + 1) = y.take (i + 1) by rw [List.take_add_one, List.take_add_one, HA.out.1, HS.out.1, HS.out.2, he])
          clear he
          go_wp2
          go_roundw
          case rel => exact ⟨i + 1, by show Value.int .i64 (wrap64 ((i : Int) + 1)) = _; rw [HW1.out]; rfl, by omega, HT.out, H1.out⟩
          case measure => show la - (intOf (.int .i64 (wrap64 ((i : Int) + 1)))).toNat < _; rw [HW1.out]; simp only [intOf]; omega
        · rw [decide_eq_false he]
          have HN := Lib.hid (show decide (z = y) = false from decide_eq_false (fun e => he (by have h := HS.out.1; rw [e, HS.out.2] at h; cases h; rfl)))
          clear he
          go_wp2
          go_ret
          exact .of H1.out HN.out
      · have hil' : ¬ (i : Int) < (la : Int) := by omega
        have HN := Lib.hid (show decide (z = y) = true from decide_eq_true (by
          have h1 := HA.out.1
          rwa [List.take_of_length_le (by have := HL.out; omega), List.take_of_length_le (by have := HL.out; omega)] at h1))
        go_wp2
        go_ret
        exact .of HA.out.2 HN.out
  · have he : ((la : Int) != (lb : Int)) = true := by rw [bne_iff_ne]; omega
    have HN := Lib.hid (show decide (z = y) = false from decide_eq_false (fun e => hab (by rw [← hzl, ← hyl, e])))
    clear hab hzl hyl
    go_enter Tryd.func13, Tryd.ntmps13
    go_wp2
    go_ret
    exact .of (Below.refl _ _) HN.out
def cmdC (s : StpV) : List Value := [.int .u8 (s.cl : Int), .int .u32 (s.sq : Int), .int .u8 (s.kd : Int), .string ⟨s.y.toArray⟩, .string ⟨s.o.toArray⟩, .string ⟨s.n.toArray⟩, .int .u8 (s.st : Int)]
theorem cmdC_one (s : StpV) : ∀ u ∈ cmdC s, u.oneCell' = true := by simp [cmdC, Value.oneCell']
theorem cmdC_size (s : StpV) : (Tryd.prog.info? 37).map (·.size) = some (cmdC s).length := (by kernel_rfl : (Tryd.prog.info? 37).map (·.size) = some 7)
theorem cmd_range {y : World} {b o : Nat} {s : StpV} (h : y.rangeAt b o (stpC s)) : y.rangeAt b (o + 4) (cmdC s) := fun j v hv => by
  have hj : j < 7 := (List.getElem?_eq_some_iff.1 hv).1
  rw [Nat.add_assoc]
  refine h (4 + j) v ?_
  rw [← hv]
  match j, hj with
  | 0, _ => rfl
  | 1, _ => rfl
  | 2, _ => rfl
  | 3, _ => rfl
  | 4, _ => rfl
  | 5, _ => rfl
  | 6, _ => rfl
set_option maxRecDepth 100000 in
set_option maxHeartbeats 16000000 in
theorem great_any (a : Option Addr) (la ca : Nat) (z : List StpV) (w : World) (hz : SlAt w a la z) :
    Calls Tryd.prog 7 #[.slice a la ca] w (OneB (greatS z) w) := by
  have hzl := hz.hlen
  have Hz := Lib.hid hz
  clear hz
  by_cases h500 : 500 < la
  · have hgt : ((la : Int) > 500) := by omega
    have HN := Lib.hid (great_long (z := z) (by omega))
    clear h500 hzl
    go_enter Tryd.func7, Tryd.ntmps7
    go_wp2
    go_ret
    exact .of (Below.refl _ _) HN.out
  · have hgt : ¬ ((la : Int) > 500) := by omega
    have HL := Lib.hid (And.intro hzl h500)
    clear hzl h500
    go_enter Tryd.func7, Tryd.ntmps7
    go_upto_region 4 with fail
    clear hgt
    go_loopw [3] (fun s3 wr => ∃ i : Nat, s3 = .int .i64 (i : Int) ∧ i ≤ la ∧ (∀ j s, j < i → z[j]? = some s → bigS s = false) ∧ Below w.heap.size w wr) (fun s3 _ => la - (intOf s3).toNat)
    case atStart => exact ⟨0, rfl, Nat.zero_le _, fun j s hj => by omega, Below.refl _ _⟩
    case round =>
      obtain ⟨i, rfl, hi, hno, hbw⟩ := hrel
      have HA := Lib.hid (And.intro hno hbw)
      clear hno hbw
      by_cases hil : i < la
      · have hil' : (i : Int) < (la : Int) := by omega
        have HW1 := Lib.hid (show wrap64 ((i : Int) + 1) = (i : Int) + 1 by have := HL.out; unfold wrap64; omega)
        obtain ⟨s, hs⟩ : ∃ s, z[i]? = some s := ⟨_, List.getElem?_eq_getElem (show i < z.length by have := HL.out; omega)⟩
        obtain ⟨b1, o1, rfl, h1, r1⟩ := sl_row (Hz.out.below HA.out.2) hs
        have HS := Lib.hid hs
        have HR := Lib.hid (cmd_range r1)
        clear hs r1
        go_upto_region 7 with (first
          | (with_reducible refine wpList_load_mid rfl 37 _ rfl b1 (o1 + i * 11 + 4) rfl (cmdC s) _ HR.out Tryd.underlying37 rfl (cmdC_size s) ?_)
          | ((with_reducible refine wpList_store_mid rfl 37 _ _ rfl wr.heap.size 0 _ rfl rfl ?_ ?_ ?_ ?_); exact th_new3 wr (cmdC (stp0 0 0)) 37; exact cmdC_size s; exact all_oneCell_toArray (cmdC_one s)))
        change Code.wp _ _ _ _ ((wr.alloc (.cells (cmdC (stp0 0 0)).toArray 37)).setCells wr.heap.size 0 (cmdC s))
        have hbx := box_below wr (cmdC (stp0 0 0)) (cmdC s) 37
        have hs1 := box_row wr (cmdC (stp0 0 0)) (cmdC s) 37 rfl
        have H1 := Lib.hid (HA.out.2.trans (hbx.mono HA.out.2.size))
        clear hbx HR h1
        generalize (wr.alloc (.cells (cmdC (stp0 0 0)).toArray 37)).setCells wr.heap.size 0 (cmdC s) = w1 at *
        generalize wr.heap.size = g1 at *
        have c3 : w1.cell? ⟨g1, 3, none⟩ = some (.string ⟨s.y.toArray⟩) := cell_of_row _ _ _ _ _ _ hs1
        have c4 : w1.cell? ⟨g1, 4, none⟩ = some (.string ⟨s.o.toArray⟩) := cell_of_row _ _ _ _ _ _ hs1
        have c5 : w1.cell? ⟨g1, 5, none⟩ = some (.string ⟨s.n.toArray⟩) := cell_of_row _ _ _ _ _ _ hs1
        have z3 : (⟨s.y.toArray⟩ : ByteArray).size = s.y.length := by simp [ByteArray.size]
        have z4 : (⟨s.o.toArray⟩ : ByteArray).size = s.o.length := by simp [ByteArray.size]
        have z5 : (⟨s.n.toArray⟩ : ByteArray).size = s.n.length := by simp [ByteArray.size]
        clear hs1
        cases hb : bigS s with
        | true =>
          have HN := Lib.hid (great_big HS.out hb)
          unfold bigS at hb
          simp only [Bool.or_eq_true, decide_eq_true_eq] at hb
          by_cases q3 : 100 < s.y.length
          · have p3 : (s.y.length : Int) > 100 := by omega
            clear hb q3
            go_wp2
            go_ret
            exact .of H1.out HN.out
          · have p3 : ¬ (s.y.length : Int) > 100 := by omega
            by_cases q4 : 100 < s.o.length
            · have p4 : (s.o.length : Int) > 100 := by omega
              clear hb q3 q4
              go_wp2
              go_ret
              exact .of H1.out HN.out
            · have p4 : ¬ (s.o.length : Int) > 100 := by omega
              have p5 : (s.n.length : Int) > 100 := by omega
              clear hb q3 q4
              go_wp2
              go_ret
              exact .of H1.out HN.out
        | false =>
          have HB := Lib.hid hb
          unfold bigS at hb
          simp only [Bool.or_eq_false_iff, decide_eq_false_iff_not] at hb
          have p3 : ¬ (s.y.length : Int) > 100 := by omega
          have p4 : ¬ (s.o.length : Int) > 100 := by omega
          have p5 : ¬ (s.n.length : Int) > 100 := by omega
          clear hb
          go_wp2
          go_roundw
          case rel => exact ⟨i + 1, by show Value.int .i64 (wrap64 ((i : Int) + 1)) = _; rw [HW1.out]; rfl, by omega, fun j t hj ht => by
            rcases Nat.lt_or_ge j i with h | h
            · exact HA.out.1 j t h ht
            · obtain rfl : j = i := by omega
              rw [HS.out] at ht
              cases ht
              exact HB.out, H1.out⟩
          case measure => show la - (intOf (.int .i64 (wrap64 ((i : Int) + 1)))).toNat < _; rw [HW1.out]; simp only [intOf]; omega
      · have hil' : ¬ (i : Int) < (la : Int) := by omega
        have HN := Lib.hid (great_end (z := z) (by have := HL.out; omega) (fun j s hj => HA.out.1 j s (by have := (List.getElem?_eq_some_iff.1 hj).1; have := HL.out; omega) hj))
        go_wp2
        go_ret
        exact .of HA.out.2 HN.out
end Go.Proofs.YtjjlodeiejobdaaDoor
namespace Go.Proofs.YtjjlodeiejobdaaDoor
open Go.RowKit Go.Shelf
theorem spl_at {c : UInt8} : ∀ {l : Bs} {k : Nat}, (∀ j, j < k → l[j]? ≠ some c) → l[k]? = some c → splL c l = l.take k :: splL c (l.drop (k + 1))
  | x :: r, 0, _, h => by
    simp at h
    subst h
    rw [splL, if_pos rfl]
    simp
  | x :: r, k + 1, hn, h => by
    have hx : x ≠ c := fun e => hn 0 (by omega) (by simp [e])
    have ih := spl_at (l := r) (k := k) (fun j hj => by have := hn (j + 1) (by omega); simpa using this) (by simpa using h)
    rw [splL, if_neg hx, ih]
    simp
theorem spl_last {c : UInt8} : ∀ {l : Bs}, (∀ j : Nat, l[j]? ≠ some c) → splL c l = [l]
  | [], _ => rfl
  | x :: r, hn => by
    have hx : x ≠ c := fun e => hn 0 (by simp [e])
    rw [splL, if_neg hx, spl_last (l := r) (fun j => by have := hn (j + 1); simpa using this)]
theorem bs_list {x : ByteArray} {i : Nat} (h : i < x.size) : x.data.toList[i]? = some (x[i]'h) := by
  rw [Array.getElem?_toList, Array.getElem?_eq_getElem (show i < x.data.size from h)]
  rfl
theorem ext_list (x : ByteArray) (f i : Nat) : (x.extract f i).data.toList = (x.data.toList.drop f).take (i - f) := by
  rw [ByteArray.data_extract, Array.toList_extract, List.extract_eq_take_drop]
theorem app_list (A B : ByteArray) : (A ++ B).data.toList = A.data.toList ++ B.data.toList := by
  rw [ByteArray.data_append, Array.toList_append]
theorem byte_ne {c d : UInt8} (h : c ≠ d) : ((c.toNat : Int) != (d.toNat : Int)) = true := by
  rw [bne_iff_ne]
  intro e
  exact h (UInt8.toNat_inj.1 (by omega))
end Go.Proofs.YtjjlodeiejobdaaDoor
namespace Go.Proofs.YtjjlodeiejobdaaDoor
open Go.RowKit Go.Shelf
theorem hx_ext : ∀ a : Fin 16, (⟨#[48, 49, 50, 51, 52, 53, 54, 55, 56, 57, 97, 98, 99, 100, 101, 102]⟩ : ByteArray).extract a.val (a.val + 1) = ⟨#[hxB a.val]⟩ := by decide
theorem one_ext {x : ByteArray} {i : Nat} (h : i < x.size) : (x.extract i (i + 1)).data.toList = [x[i]'h] := by
  rw [ext_list, show i + 1 - i = 1 by omega, List.drop_eq_getElem_cons (by simpa using h)]
  simp [ByteArray.getElem_eq_getElem_data]
set_option maxRecDepth 100000 in
set_option maxHeartbeats 4000000 in
theorem quote31_any (s : ByteArray) (hs : s.size ≤ 1000000) (w : World) :
    Calls Tryd.prog 37 #[.string s] w fun e w' => e = .returned (.string ⟨(quoL s.data.toList).toArray⟩) ∧ Below w.heap.size w w' := by
  have Hit := Lib.hid (fun (c : UInt8) (y : World) => plain_any c y)
  cases he : s.toList.isEmpty with
  | true =>
    have Hq := Lib.hid (quo_empty he)
    go_enter Tryd.func37, Tryd.ntmps37
    go_wp2_with fail
    go_ret
    exact ⟨by rw [Hq.out]; rfl, Below.refl _ _⟩
  | false =>
    have hq : quoL s.data.toList = s.data.toList.flatMap quo1 := by
      unfold quoL
      rw [if_neg (fun h => by rw [ByteArray.toList_eq, h] at he; simp at he)]
    have Hq := Lib.hid hq
    clear hq
    go_enter Tryd.func37, Tryd.ntmps37
    go_upto_region 5 with fail
    go_loopw [3, 4] (fun s3 s4 wr => ∃ (i : Nat) (A : ByteArray), s4 = .int .i64 (i : Int) ∧ s3 = .string A ∧ i ≤ s.size ∧ A.data.toList = (s.data.toList.take i).flatMap quo1 ∧ Below w.heap.size w wr) (fun _ s4 _ => s.size - (intOf s4).toNat)
    case atStart => exact ⟨0, ⟨#[]⟩, rfl, rfl, Nat.zero_le _, rfl, Below.refl _ _⟩
    case round =>
      obtain ⟨i, A, rfl, rfl, hi, ha, hb⟩ := hrel
      have Ha := Lib.hid ha
      have Hb := Lib.hid hb
      have Hlen := Lib.hid (show A.size ≤ 3000000 by
        have h := quo_len (s.data.toList.take i)
        have h2 : (s.data.toList.take i).length ≤ i := List.length_take_le _ _
        have h3 : A.data.toList.length = A.size := Array.length_toList
        rw [ha] at h3
        omega)
      clear ha hb
      by_cases hlt : i < s.size
      · have hlt' : (i : Int) < (s.size : Int) := by omega
        obtain ⟨hil, hget⟩ := bs_at hlt
        have hst := quo_step hil
        rw [← hget, ← Ha.out] at hst
        have Hst := Lib.hid hst
        have Hone := Lib.hid (one_ext hlt)
        have HW1 := Lib.hid (show wrap64 ((i : Int) + 1) = (i : Int) + 1 by unfold wrap64; omega)
        have hi1 : i + 1 ≤ s.size := hlt
        have hi0 : i ≤ i + 1 := Nat.le_succ i
        clear hst hget
        have hwc : wrap64 (((s[i]'hlt).toNat : Nat) : Int) = (((s[i]'hlt).toNat : Nat) : Int) := wrap64_id (by have := (s[i]'hlt).toNat_lt; omega)
        cases hits : itsB (s[i]'hlt) with
        | true =>
          have hq1 : quo1 (s[i]'hlt) = [s[i]'hlt] := by unfold quo1; rw [hits]; rfl
          rw [hq1] at Hst
          have Hits := Lib.hid hits
          have ha1 : ¬ 9223372036854775807 < A.size + 1 := by have := Hlen.out; omega
          clear hits hq1
          go_wp2_with (go_at_call 52; refine (Hit.out (s[i]'hlt) _).mono ?_; rintro e w' ⟨rfl, rfl⟩; rw [Hits.out])
          go_roundw
          case rel => exact ⟨i + 1, _, (by first | rfl | (show Value.int .i64 (wrap64 ((i : Int) + 1)) = _; rw [HW1.out]; rfl)), rfl, hlt, by rw [app_list, Hone.out, Hst.out], Hb.out⟩
          case measure => (first | (simp only [intOf]; omega) | (show s.size - (intOf (.int .i64 (wrap64 ((i : Int) + 1)))).toNat < _; rw [HW1.out]; simp only [intOf]; omega))
        | false =>
          have hq1 : quo1 (s[i]'hlt) = [37, hxB ((s[i]'hlt).toNat / 16), hxB ((s[i]'hlt).toNat % 16)] := by unfold quo1; rw [hits]; rfl
          rw [hq1] at Hst
          have Hits := Lib.hid hits
          clear hits hq1
          have hc256 := (s[i]'hlt).toNat_lt
          obtain ⟨a, ha⟩ : ∃ a, a = (s[i]'hlt).toNat / 16 := ⟨_, rfl⟩
          obtain ⟨b, hb⟩ : ∃ b, b = (s[i]'hlt).toNat % 16 := ⟨_, rfl⟩
          rw [← ha, ← hb] at Hst
          have ea : ((s[i]'hlt).toNat : Int) / 16 = (a : Int) := by omega
          have eb : ((s[i]'hlt).toNat : Int) % 16 = (b : Int) := by omega
          have et : ((s[i]'hlt).toNat : Int).tmod 16 = (b : Int) := by rw [Int.tmod_eq_emod_of_nonneg (by omega)]; exact eb
          have ha16 : a < 16 := by omega
          have hb16 : b < 16 := by omega
          have HXa := Lib.hid (hx_ext ⟨a, ha16⟩)
          have HXb := Lib.hid (hx_ext ⟨b, hb16⟩)
          have ha1 : ¬ 9223372036854775807 < A.size + 1 := by have := Hlen.out; omega
          have ha2 : ¬ 9223372036854775807 < A.size + 1 + 1 := by have := Hlen.out; omega
          have ha3 : ¬ 9223372036854775807 < A.size + 1 + 1 + 1 := by have := Hlen.out; omega
          have wa1 : IntKind.i64.wrap (a : Int) = (a : Int) := IntWalk.i64_in _ (by omega)
          have wa2 : IntKind.i64.wrap ((a : Int) + 1) = (a : Int) + 1 := IntWalk.i64_in _ (by omega)
          have wb1 : IntKind.i64.wrap (b : Int) = (b : Int) := IntWalk.i64_in _ (by omega)
          have wb2 : IntKind.i64.wrap ((b : Int) + 1) = (b : Int) + 1 := IntWalk.i64_in _ (by omega)
          have da1 : (a : Int) ≤ (a : Int) + 1 := by omega
          have db1 : (b : Int) ≤ (b : Int) + 1 := by omega
          have ca1 : (0 : Int) ≤ (a : Int) + 1 ∧ (a : Int) + 1 ≤ 16 := by omega
          have cb1 : (0 : Int) ≤ (b : Int) + 1 ∧ (b : Int) + 1 ≤ 16 := by omega
          have ba1 : a ≤ a + 1 := by omega
          have ba2 : a + 1 ≤ 16 := by omega
          have bb1 : b ≤ b + 1 := by omega
          have bb2 : b + 1 ≤ 16 := by omega
          clear ha hb
          go_upto_region 10 with (go_at_call 52; refine (Hit.out (s[i]'hlt) _).mono ?_; rintro e w' ⟨rfl, rfl⟩; rw [Hits.out])
          refine (wpIn_wide (n := 1)).1 ?_
          refine RegJ.wpIn_region_plan (F := Fence.wide) (KeptW wr) (.step 0 0 (.step 1 0 (.step 2 0 (.step 3 0 (.step 4 0 (.step 5 0 (.step 6 0 (.step 7 0 (.step 8 0 (.step 9 0 (.step 10 0 (.step 11 0 (.step 12 0 (.step 13 0 (.step 14 0 (.step 15 0 (.step 16 0 .nil))))))))))))))))) (by kernel_rfl) (by kernel_rfl) (by kernel_rfl) (fun _ _ d _ _ h => by cases d <;> exact h) ⟨rfl, rfl, rfl, Nat.le_refl _, fun _ _ => rfl⟩ ?_
          dsimp only [RegJ.pickJ, List.getElem?_cons_zero, List.getElem?_cons_succ]
          change RegJ.Can _ _ _ _ _ _ _ _ wr.drew
          have hkd : KeptW wr wr.drew := ⟨rfl, rfl, rfl, Nat.le_refl _, fun _ _ => rfl⟩
          generalize wr.drew = v1 at *
          iterate 17 (refine RegJ.reads ?_; intro K hK; go_simp; (first | refine ⟨_, fun _ _ => rfl, hK _ ?_⟩ | refine hK _ ?_); clear hK K)
          refine RegJ.nil ?_
          have Hvk := Lib.hid (KeptW.bel hkd)
          clear hkd
          go_wp2_with fail
          go_roundw
          case rel => exact ⟨i + 1, _, (by first | rfl | (show Value.int .i64 (wrap64 ((i : Int) + 1)) = _; rw [HW1.out]; rfl)), rfl, hlt, by rw [app_list, app_list, app_list, HXa.out, HXb.out, Hst.out]; simp, Hb.out.trans (Hvk.out.mono Hb.out.size)⟩
          case measure => (first | (simp only [intOf]; omega) | (show s.size - (intOf (.int .i64 (wrap64 ((i : Int) + 1)))).toNat < _; rw [HW1.out]; simp only [intOf]; omega))
      · have hlt' : ¬ (i : Int) < (s.size : Int) := by omega
        have HE := Lib.hid (show A.data.toList = quoL s.data.toList by rw [Ha.out, Hq.out, List.take_of_length_le (by simpa using hlt)])
        go_wp2_with fail
        go_ret
        exact ⟨by rw [← HE.out]; rfl, Hb.out⟩
end Go.Proofs.YtjjlodeiejobdaaDoor
namespace Go.Proofs.YtjjlodeiejobdaaDoor
open Go.RowKit Go.Shelf
def Num31 (S : Bs) (w : World) (e : Ending) (w' : World) : Prop := (∃ b, e = .returned (.tuple #[.int .i64 (numV S), .bool b])) ∧ w = w'
/-- Between two rounds. -/
def NmI (S : Bs) (i : Nat) (n : Int) : Prop := (-9223372036854775808 ≤ n ∧ n ≤ 9223372036854775807) ∧ ((i = 0 ∧ n = 0) ∨ (1 ≤ i ∧ numQ S = numGo n (S.drop i) ∧ (i = 1 ∨ S.length ≤ 20)))
theorem NmI.go {S : Bs} {i : Nat} {n : Int} {c : UInt8} (h : NmI S i n) (hi : S[i]? = some c) (hc : ¬ (i = 0 ∧ c = 45)) : numQ S = numGo n (c :: S.drop (i + 1)) := by
  obtain ⟨hl, rfl⟩ := List.getElem?_eq_some_iff.1 hi
  rcases h.2 with ⟨rfl, rfl⟩ | ⟨_, h1, _⟩
  · rw [← List.drop_eq_getElem_cons hl, List.drop_zero]
    cases S with
    | nil => simp at hl
    | cons d r =>
      unfold numQ
      simp only
      exact if_neg (fun e => hc ⟨rfl, e⟩)
  · rw [h1, List.drop_eq_getElem_cons hl]
theorem NmI.bad {S : Bs} {i : Nat} {n : Int} {c : UInt8} (h : NmI S i n) (hi : S[i]? = some c) (hc : ¬ (i = 0 ∧ c = 45)) (hd : digB c = false ∨ 20 < S.length) : numV S = 0 := by
  unfold numV
  split
  · rfl
  · next hl =>
    rw [h.go hi hc, numGo, if_neg (by rcases hd with hd | hd; · rw [hd]; decide
                                      · exact absurd hd hl)]
theorem NmI.next {S : Bs} {i : Nat} {n : Int} {c : UInt8} (h : NmI S i n) (hi : S[i]? = some c) (hc : ¬ (i = 0 ∧ c = 45)) (hd : digB c = true) (hl : S.length ≤ 20) : NmI S (i + 1) (stepZ n c) :=
  ⟨wrap64_range _, .inr ⟨by omega, by rw [h.go hi hc, numGo, if_pos hd], .inr hl⟩⟩
theorem NmI.sign {S : Bs} (hi : S[0]? = some 45) : NmI S 1 0 := by
  refine ⟨by decide, .inr ⟨Nat.le_refl _, ?_, .inl rfl⟩⟩
  cases S with
  | nil => cases hi
  | cons c r =>
    simp only [List.getElem?_cons_zero, Option.some.injEq] at hi
    unfold numQ
    simp only
    rw [if_pos hi]
    rfl
theorem NmI.last {S : Bs} {i : Nat} {n : Int} (h : NmI S i n) (hi : i = S.length) : numV S = if negB S then n else wrap64 (-n) := by
  unfold numV
  have hl : ¬ 20 < S.length := by
    rcases h.2 with ⟨h1, _⟩ | ⟨_, _, h1⟩
    · omega
    · omega
  have hq : numQ S = some n := by
    rcases h.2 with ⟨h1, rfl⟩ | ⟨_, h1, _⟩
    · rw [List.length_eq_zero_iff.1 (show S.length = 0 by omega)]; rfl
    · rw [h1, List.drop_of_length_le (by omega)]; rfl
  rw [if_neg hl, hq]
theorem neg_at {s : ByteArray} (h : 0 < s.size) : negB s.data.toList = decide (s[0]'h = 45) := by
  have := bs_list h
  cases hs : s.data.toList with
  | nil => rw [hs] at this; cases this
  | cons c r =>
    rw [hs] at this
    simp only [List.getElem?_cons_zero, Option.some.injEq] at this
    unfold negB
    rw [this]
theorem digB_iff (c : UInt8) : digB c = true ↔ 48 ≤ c.toNat ∧ c.toNat ≤ 57 := by unfold digB; simp
set_option maxRecDepth 100000 in
set_option maxHeartbeats 4000000 in
theorem number31_any (s : ByteArray) (hs : s.size ≤ 1000000) (w : World) : Calls Tryd.prog 41 #[.string s] w (Num31 s.data.toList w) := by
  have hsl : s.data.toList.length = s.size := Array.length_toList
  obtain ⟨S, hS⟩ : ∃ S, S = s.data.toList := ⟨_, rfl⟩
  have HS := Lib.hid hS
  rw [← hS] at hsl ⊢
  have HL := Lib.hid hsl
  clear hS hsl
  go_enter Tryd.func41, Tryd.ntmps41
  go_upto_region 3 with fail
  go_loopw [4, 5] (fun s4 s5 wr => ∃ (i : Nat) (n : Int), s5 = .int .i64 (i : Int) ∧ s4 = .int .i64 n ∧ i ≤ s.size ∧ NmI S i n ∧ wr = w) (fun _ s5 _ => s.size - (intOf s5).toNat)
  case atStart => exact ⟨0, 0, rfl, rfl, Nat.zero_le _, ⟨by decide, .inl ⟨rfl, rfl⟩⟩, rfl⟩
  case round =>
    obtain ⟨i, n, rfl, rfl, hi, hI, rfl⟩ := hrel
    have HI := Lib.hid hI
    clear hI
    by_cases hlt : i < s.size
    · have hlt' : (i : Int) < (s.size : Int) := by omega
      have hget := Lib.hid (bs_list hlt)
      rw [← HS.out] at hget
      have HW1 := Lib.hid (show wrap64 ((i : Int) + 1) = (i : Int) + 1 by unfold wrap64; omega)
      by_cases h45 : i = 0 ∧ s[i]'hlt = 45
      · obtain ⟨rfl, hc⟩ := h45
        obtain rfl : n = 0 := by
          rcases HI.out.2 with ⟨_, h⟩ | ⟨h, _⟩
          · exact h
          · omega
        have hcv : (((s[0]'hlt).toNat : Int) == 45) = true := by rw [hc]; rfl
        have HN := Lib.hid (NmI.sign (S := S) (by rw [hget.out, hc]))
        clear hc
        go_wp2
        go_roundw
        case rel => exact ⟨1, 0, rfl, rfl, hlt, HN.out, by trivial⟩
        case measure => simp only [intOf]; omega
      · have HC45 := Lib.hid h45
        have hs0 : 0 < s.size := by omega
        rcases (show (((i : Int) == 0) = true ∧ (((s[0]'hs0).toNat : Int) == 45) = false) ∨ ((i : Int) == 0) = false by
          by_cases h0 : i = 0
          · subst h0
            exact .inl ⟨rfl, by have := byte_ne (d := 45) (c := s[0]'hs0) (fun e => h45 ⟨rfl, e⟩); simpa [bne] using this⟩
          · exact .inr (by rw [beq_eq_false_iff_ne]; omega)) with ⟨q1, q2⟩ | q1
        · by_cases c1 : (s[i]'hlt).toNat < 48
          · have c1' : ((s[i]'hlt).toNat : Int) < 48 := by omega
            have HB := Lib.hid (HI.out.bad hget.out h45 (.inl (by cases h : digB (s[i]'hlt) with | false => rfl | true => have := (digB_iff _).1 h; omega)))
            clear h45 c1
            go_wp2
            go_ret2
            exact ⟨⟨false, by rw [HB.out]; rfl⟩, by trivial⟩
          have c1' : ¬ ((s[i]'hlt).toNat : Int) < 48 := by omega
          by_cases c2 : 57 < (s[i]'hlt).toNat
          · have c2' : ((s[i]'hlt).toNat : Int) > 57 := by omega
            have HB := Lib.hid (HI.out.bad hget.out h45 (.inl (by cases h : digB (s[i]'hlt) with | false => rfl | true => have := (digB_iff _).1 h; omega)))
            clear h45 c1 c2
            go_wp2
            go_ret2
            exact ⟨⟨false, by rw [HB.out]; rfl⟩, by trivial⟩
          have c2' : ¬ ((s[i]'hlt).toNat : Int) > 57 := by omega
          by_cases c3 : 20 < s.size
          · have c3' : (s.size : Int) > 20 := by omega
            have HB := Lib.hid (HI.out.bad hget.out h45 (.inr (by have := HL.out; omega)))
            clear h45 c1 c2 c3
            go_wp2
            go_ret2
            exact ⟨⟨false, by rw [HB.out]; rfl⟩, by trivial⟩
          have c3' : ¬ (s.size : Int) > 20 := by omega
          have HN := Lib.hid (HI.out.next hget.out h45 ((digB_iff _).2 (by omega)) (by have := HL.out; omega))
          have e1 : IntKind.u8.wrap (((s[i]'hlt).toNat : Int) - 48) = ((s[i]'hlt).toNat : Int) - 48 := by rw [IntKind.wrap_u8']; omega
          have e2 : wrap64 (((s[i]'hlt).toNat : Int) - 48) = ((s[i]'hlt).toNat : Int) - 48 := wrap64_id (by omega)
          clear h45 c1 c2 c3
          go_wp2
          go_roundw
          case rel => exact ⟨i + 1, _, rfl, rfl, hlt, HN.out, by trivial⟩
          case measure => simp only [intOf]; omega
        · by_cases c1 : (s[i]'hlt).toNat < 48
          · have c1' : ((s[i]'hlt).toNat : Int) < 48 := by omega
            have HB := Lib.hid (HI.out.bad hget.out h45 (.inl (by cases h : digB (s[i]'hlt) with | false => rfl | true => have := (digB_iff _).1 h; omega)))
            clear h45 c1
            go_wp2
            go_ret2
            exact ⟨⟨false, by rw [HB.out]; rfl⟩, by trivial⟩
          have c1' : ¬ ((s[i]'hlt).toNat : Int) < 48 := by omega
          by_cases c2 : 57 < (s[i]'hlt).toNat
          · have c2' : ((s[i]'hlt).toNat : Int) > 57 := by omega
            have HB := Lib.hid (HI.out.bad hget.out h45 (.inl (by cases h : digB (s[i]'hlt) with | false => rfl | true => have := (digB_iff _).1 h; omega)))
            clear h45 c1 c2
            go_wp2
            go_ret2
            exact ⟨⟨false, by rw [HB.out]; rfl⟩, by trivial⟩
          have c2' : ¬ ((s[i]'hlt).toNat : Int) > 57 := by omega
          by_cases c3 : 20 < s.size
          · have c3' : (s.size : Int) > 20 := by omega
            have HB := Lib.hid (HI.out.bad hget.out h45 (.inr (by have := HL.out; omega)))
            clear h45 c1 c2 c3
            go_wp2
            go_ret2
            exact ⟨⟨false, by rw [HB.out]; rfl⟩, by trivial⟩
          have c3' : ¬ (s.size : Int) > 20 := by omega
          have HN := Lib.hid (HI.out.next hget.out h45 ((digB_iff _).2 (by omega)) (by have := HL.out; omega))
          have e1 : IntKind.u8.wrap (((s[i]'hlt).toNat : Int) - 48) = ((s[i]'hlt).toNat : Int) - 48 := by rw [IntKind.wrap_u8']; omega
          have e2 : wrap64 (((s[i]'hlt).toNat : Int) - 48) = ((s[i]'hlt).toNat : Int) - 48 := wrap64_id (by omega)
          clear h45 c1 c2 c3
          go_wp2
          go_roundw
          case rel => exact ⟨i + 1, _, rfl, rfl, hlt, HN.out, by trivial⟩
          case measure => simp only [intOf]; omega
    · have hlt' : ¬ (i : Int) < (s.size : Int) := by omega
      have HE := Lib.hid (HI.out.last (show i = S.length by have := HL.out; omega))
      have hnr := HI.out.1
      by_cases hs0 : s.size = 0
      · have he : s.toList.isEmpty = true := by rw [ByteArray.toList_eq, List.isEmpty_iff]; exact List.length_eq_zero_iff.1 (by simpa using hs0)
        have HNG := Lib.hid (show negB S = false by rw [HS.out, show s.data.toList = [] from List.length_eq_zero_iff.1 (by simpa using hs0)]; rfl)
        have HD := Lib.hid (fun w => decimal_any (wrap64 (-n)) (wrap64_range _) w)
        clear hs0 hnr
        go_wp2_with (go_at_call 35; refine (HD.out _).mono ?_; rintro e w1 ⟨rfl, rfl⟩)
        go_ret2
        exact ⟨⟨_, by rw [HE.out, HNG.out]; rfl⟩, by trivial⟩
      · have hs0' : 0 < s.size := by omega
        have he : s.toList.isEmpty = false := by rw [Bool.eq_false_iff]; intro h; rw [ByteArray.toList_eq, List.isEmpty_iff] at h; exact hs0 (by have := congrArg List.length h; simpa using this)
        have HNG := Lib.hid (show negB S = decide (s[0]'hs0' = 45) by rw [HS.out]; exact neg_at hs0')
        by_cases hc : s[0]'hs0' = 45
        · have hcv : (((s[0]'hs0').toNat : Int) != 45) = false := by rw [hc]; rfl
          have HD := Lib.hid (fun w => decimal_any n hnr w)
          have HC := Lib.hid hc
          clear hs0 hnr hc
          go_wp2_with (go_at_call 35; refine (HD.out _).mono ?_; rintro e w1 ⟨rfl, rfl⟩)
          go_ret2
          exact ⟨⟨_, by rw [HE.out, HNG.out, HC.out]; rfl⟩, by trivial⟩
        · have hcv : (((s[0]'hs0').toNat : Int) != 45) = true := byte_ne (d := 45) hc
          have HD := Lib.hid (fun w => decimal_any (wrap64 (-n)) (wrap64_range _) w)
          have HC := Lib.hid hc
          clear hs0 hnr hc
          go_wp2_with (go_at_call 35; refine (HD.out _).mono ?_; rintro e w1 ⟨rfl, rfl⟩)
          go_ret2
          exact ⟨⟨_, by rw [HE.out, HNG.out, decide_eq_false HC.out]; rfl⟩, by trivial⟩
def Sm31 (S : Bs) (w : World) (e : Ending) (w' : World) : Prop := (∃ b, e = .returned (.tuple #[.int .u8 (smV S : Int), .bool b])) ∧ w = w'
set_option maxRecDepth 100000 in
theorem small31_any (s : ByteArray) (hs : s.size ≤ 1000000) (w : World) : Calls Tryd.prog 40 #[.string s] w (Sm31 s.data.toList w) := by
  have HN := Lib.hid (number31_any s hs w)
  have HV := Lib.hid (show IntKind.u8.wrap (numV s.data.toList) = (smV s.data.toList : Int) by rw [IntKind.wrap_u8']; unfold smV; omega)
  generalize hv : numV s.data.toList = v at *
  go_enter Tryd.func40, Tryd.ntmps40
  go_upto_region 2 with (go_at_call 41; refine HN.out.mono ?_; rintro e w1 ⟨⟨b, rfl⟩, rfl⟩; rw [hv])
  cases b
  · go_wp2
    go_ret2
    exact ⟨⟨_, by rw [← HV.out]; rfl⟩, by trivial⟩
  · go_wp2
    all_goals (go_ret2; exact ⟨⟨_, by rw [← HV.out]; rfl⟩, by trivial⟩)
end Go.Proofs.YtjjlodeiejobdaaDoor
namespace Go.Proofs.YtjjlodeiejobdaaDoor
open Go.RowKit Go.Shelf
def Un31 (S : Bs) (w : World) (e : Ending) (w' : World) : Prop := Below w.heap.size w w' ∧ ∃ b, e = .returned (.tuple #[.string ⟨(unV S).toArray⟩, .bool b])
theorem Un31.none {S : Bs} {w w' : World} (hb : Below w.heap.size w w') (h : unV S = []) {x : ByteArray} (hx : x = ⟨#[]⟩) : Un31 S w (.returned (.tuple #[.string x, .bool false])) w' := by
  subst hx
  exact ⟨hb, false, by rw [h]⟩
theorem unV_no {S : Bs} (h45 : ¬ S = [45]) {l : Bs} {r : Bs} (h : unGo S = (unGo r).map (l ++ ·)) (hr : unGo r = none) : unV S = [] := by
  unfold unV
  rw [if_neg h45, h, hr]
  rfl
theorem un_step {S : Bs} {l r : Bs} {c : UInt8} {t : Bs} (h : unGo S = (unGo r).map (l ++ ·)) (hr : unGo r = (unGo t).map (c :: ·)) : unGo S = (unGo t).map ((l ++ [c]) ++ ·) := by
  rw [h, hr, Option.map_map]
  congr 1
  funext x
  simp
theorem byteV_val {a b : UInt8} (ha : 0 ≤ digV a) (hb : 0 ≤ digV b) : ((byteV a b).toNat : Int) = 16 * digV a + digV b := by
  have h1 := digV_range a
  have h2 := digV_range b
  unfold byteV
  simp
  omega
set_option maxRecDepth 100000 in
set_option maxHeartbeats 8000000 in
theorem unquote31_any (s : ByteArray) (hs : s.size ≤ 1000000) (w : World) :
    Calls Tryd.prog 42 #[.string s] w (Un31 s.data.toList w) := by
  have Hit := Lib.hid (fun (c : UInt8) (y : World) => plain_any c y)
  have Hdg := Lib.hid (fun (c : UInt8) (y : World) => digit_any c y)
  obtain ⟨i0, hi0, hz0, hs0, hb0⟩ := info_parts info8
  by_cases h45 : s.data.toList = [45]
  · have he : (s.toList == [45]) = true := by rw [beq_iff_eq, ByteArray.toList_eq]; exact h45
    have HU := Lib.hid (show unV s.data.toList = [] by unfold unV; rw [if_pos h45])
    clear h45
    go_enter Tryd.func42, Tryd.ntmps42
    go_wp2_with fail
    go_ret2
    exact ⟨Below.refl _ _, true, by rw [HU.out]; rfl⟩
  · have he : (s.toList == [45]) = false := by rw [beq_eq_false_iff_ne, ByteArray.toList_eq]; exact h45
    have hsz : s.data.toList.length = s.size := by simp
    obtain ⟨S, hS⟩ : ∃ S, S = s.data.toList := ⟨_, rfl⟩
    have HS := Lib.hid hS
    rw [← hS] at hsz h45 ⊢
    have Hsz := Lib.hid hsz
    have H45 := Lib.hid h45
    clear hS hsz h45
    go_enter Tryd.func42, Tryd.ntmps42
    go_upto_region 5 with fail
    go_loopw [4, 5] (fun s4 s5 wr => ∃ (i : Nat) (l : Bs), s5 = .int .i64 (i : Int) ∧ i ≤ s.size ∧ OwnB wr w.heap.size 5 s4 l ∧ l.length ≤ i ∧ unGo S = (unGo (S.drop i)).map (l ++ ·) ∧ Below w.heap.size w wr) (fun _ s5 _ => s.size - (intOf s5).toNat)
    case atStart => exact ⟨0, [], rfl, Nat.zero_le _, ⟨rfl, .inl ⟨rfl, rfl⟩⟩, Nat.le_refl _, by rw [List.drop_zero]; simp, Below.refl _ _⟩
    case round =>
      obtain ⟨i, l, rfl, hi, ho, hl, hd, hb⟩ := hrel
      have Ho := Lib.hid ho; clear ho
      have Hb := Lib.hid hb; clear hb
      have Hd := Lib.hid hd; clear hd
      have Hlw := Lib.hid (show w.heap.size ≤ wr.heap.size from Hb.out.size)
      have Hll := Lib.hid (show l.length ≤ 1000000 by omega)
      by_cases hlt : i < s.size
      · have hlt' : (i : Int) < (s.size : Int) := by omega
        obtain ⟨hil, hget⟩ := bs_at hlt
        have hil2 : i < S.length := by rw [HS.out]; exact hil
        have hget2 : s[i]'hlt = S[i] := by simp only [HS.out]; exact hget
        have Hdr := Lib.hid (drop_get hil2)
        rw [← hget2] at Hdr
        clear hget hget2
        have HW1 := Lib.hid (show wrap64 ((i : Int) + 1) = (i : Int) + 1 by unfold wrap64; omega)
        cases hits : itsB (s[i]'hlt) with
        | true =>
          have Hits := Lib.hid hits
          have Hone := Lib.hid (ReadB.one wr (s[i]'hlt) 5)
          have Hst := Lib.hid (un_step Hd.out (by rw [Hdr.out]; exact un_plain _ hits))
          clear hits
          go_wp2_with (first
            | (go_at_call 52; (with_reducible refine (Hit.out (s[i]'hlt) _).mono ?_); rintro e w' ⟨rfl, rfl⟩; rw [Hits.out])
            | (at_builtin; refine wpList_append_read rfl _ _ 41 rfl w.heap.size 5 i0 (.int .u8 0) Tryd.underlying41 hi0 hz0 hs0 hb0 rfl _ _ _ rfl (World.ownsRow.alloc Ho.out _) _ _ rfl Hone.out (by have := Hll.out; simp; omega) (by simp; have := Hlw.out; omega) ?_; intro v4 w4 ho4 hg4; have Hg4 := Lib.hid hg4; clear hg4; have Ho4 := Lib.hid ho4; clear ho4))
          go_roundw
          case rel =>
            exact ⟨i + 1, l ++ [s[i]'hlt], rfl, by omega, OwnB.of Ho4.out rfl rfl, by rw [List.length_append]; show l.length + 1 ≤ _; omega, Hst.out, below_grown Hg4.out (Hb.out.alloc Hlw.out _) (by simp; have := Hlw.out; omega) (fun k hk => (World.ownsRow.lt Ho.out k hk).1)⟩
          case measure => simp only [intOf]; omega
        | false =>
          have Hits := Lib.hid hits
          by_cases hc : s[i]'hlt = 37
          · have hcv : (((s[i]'hlt).toNat : Int) != 37) = false := by rw [hc]; rfl
            rw [hc] at Hdr
            by_cases hsh : s.size < i + 3
            · have e2 : ((i : Int) + 3 > (s.size : Int)) = True := by simp; omega
              have HN := Lib.hid (unV_no H45.out Hd.out (by rw [Hdr.out]; exact un_short (by rw [List.length_drop, Hsz.out]; omega)))
              clear hc hsh hits
              go_wp2_with (go_at_call 52; (with_reducible refine (Hit.out (s[i]'hlt) _).mono ?_); rintro e w' ⟨rfl, rfl⟩; rw [Hits.out])
              go_ret2
              exact .none Hb.out HN.out rfl
            · have e2 : ((i : Int) + 3 > (s.size : Int)) = False := by simp; omega
              have hl1 : i + 1 < s.size := by omega
              have hl2 : i + 2 < s.size := by omega
              have hd2 : S.drop (i + 1) = (s[i + 1]'hl1) :: (s[i + 2]'hl2) :: S.drop (i + 3) := by
                obtain ⟨p1, p2⟩ := bs_at hl1
                obtain ⟨p3, p4⟩ := bs_at hl2
                rw [drop_get (show i + 1 < S.length by rw [Hsz.out]; omega), drop_get (show i + 2 < S.length by rw [Hsz.out]; omega), p2, p4]
                simp only [HS.out]
              rw [hd2] at Hdr
              have m1 : (i : Int) + 1 < (s.size : Int) := by omega
              have m2 : (i : Int) + 2 < (s.size : Int) := by omega
              have r1 := digV_range (s[i + 1]'hl1)
              have r2 := digV_range (s[i + 2]'hl2)
              by_cases ha : digV (s[i + 1]'hl1) < 0
              · have HN := Lib.hid (unV_no H45.out Hd.out (by rw [Hdr.out, un_hex, if_neg (fun h => by have := h.1; omega)]))
                clear hc hsh hits r1 r2 hd2
                go_wp2_with (first
                  | (go_at_call 52; (with_reducible refine (Hit.out (s[i]'hlt) _).mono ?_); rintro e w' ⟨rfl, rfl⟩; rw [Hits.out])
                  | (go_at_call 54; (with_reducible refine (Hdg.out (s[i + 1]'hl1) _).mono ?_); rintro e w' ⟨rfl, rfl⟩))
                go_ret2
                exact .none Hb.out HN.out rfl
              · by_cases hb : digV (s[i + 2]'hl2) < 0
                · have HN := Lib.hid (unV_no H45.out Hd.out (by rw [Hdr.out, un_hex, if_neg (fun h => by have := h.2.1; omega)]))
                  clear hc hsh hits r1 r2 hd2
                  go_wp2_with (first
                    | (go_at_call 52; (with_reducible refine (Hit.out (s[i]'hlt) _).mono ?_); rintro e w' ⟨rfl, rfl⟩; rw [Hits.out])
                    | (go_at_call 54; (with_reducible refine (Hdg.out (s[i + 1]'hl1) _).mono ?_); rintro e w' ⟨rfl, rfl⟩)
                    | (go_at_call 54; (with_reducible refine (Hdg.out (s[i + 2]'hl2) _).mono ?_); rintro e w' ⟨rfl, rfl⟩))
                  go_ret2
                  exact .none Hb.out HN.out rfl
                · have HBV := Lib.hid (byteV_val (show 0 ≤ digV (s[i + 1]'hl1) by omega) (show 0 ≤ digV (s[i + 2]'hl2) by omega))
                  have HRA := Lib.hid r1
                  have HRB := Lib.hid r2
                  have HP := Lib.hid (And.intro (show 0 ≤ digV (s[i + 1]'hl1) by omega) (show 0 ≤ digV (s[i + 2]'hl2) by omega))
                  clear hc hsh hits hd2 r1 r2
                  go_upto_region 11 with (first
                    | (go_at_call 52; (with_reducible refine (Hit.out (s[i]'hlt) _).mono ?_); rintro e w' ⟨rfl, rfl⟩; rw [Hits.out])
                    | (go_at_call 54; (with_reducible refine (Hdg.out (s[i + 1]'hl1) _).mono ?_); rintro e w' ⟨rfl, rfl⟩)
                    | (go_at_call 54; (with_reducible refine (Hdg.out (s[i + 2]'hl2) _).mono ?_); rintro e w' ⟨rfl, rfl⟩))
                  have xw1 : IntKind.i64.wrap ((i : Int) + 1) = (i : Int) + 1 := IntWalk.i64_in _ (by omega)
                  have xw2 : IntKind.i64.wrap ((i : Int) + 2) = (i : Int) + 2 := IntWalk.i64_in _ (by omega)
                  obtain ⟨da, hda⟩ : ∃ d, d = digV (s[i + 1]'hl1) := ⟨_, rfl⟩
                  obtain ⟨db, hdb⟩ : ∃ d, d = digV (s[i + 2]'hl2) := ⟨_, rfl⟩
                  rw [← hda, ← hdb] at HBV HP
                  rw [← hda] at HRA
                  rw [← hdb] at HRB
                  have xm : IntKind.i64.wrap (16 * da) = 16 * da := IntWalk.i64_in _ (by have := HRA.out; omega)
                  have xa : IntKind.i64.wrap (16 * da + db) = 16 * da + db := IntWalk.i64_in _ (by have := HRA.out; have := HRB.out; omega)
                  obtain ⟨B, hB⟩ : ∃ B, B = byteV (s[i + 1]'hl1) (s[i + 2]'hl2) := ⟨_, rfl⟩
                  rw [← hB] at HBV
                  have xb : IntKind.u8.wrap (16 * da + db) = (B.toNat : Int) := by rw [IntKind.wrap_u8', HBV.out]; have := HRA.out; have := HRB.out; have := HP.out; omega
                  have HBB := Lib.hid hB
                  clear hB
                  have Hda := Lib.hid hda
                  have Hdb := Lib.hid hdb
                  clear hda hdb
                  refine (wpIn_wide (n := 1)).1 ?_
                  refine RegJ.wpIn_region_plan (F := Fence.wide) (KeptW wr) (.step 0 0 (.step 1 0 (.step 2 0 (.step 3 0 (.step 6 0 (.step 7 0 (.step 8 0 (.step 9 0 (.step 4 1 (.step 5 0 (.step 10 1 (.step 11 0 (.step 12 0 (.step 13 0 .nil)))))))))))))) (by kernel_rfl) (by kernel_rfl) (by kernel_rfl) (fun _ _ d _ _ h => by cases d <;> exact h) ⟨rfl, rfl, rfl, Nat.le_refl _, fun _ _ => rfl⟩ ?_
                  dsimp only [RegJ.pickJ, List.getElem?_cons_zero, List.getElem?_cons_succ]
                  change RegJ.Can _ _ _ _ _ _ _ _ wr.drew
                  have hkd : KeptW wr wr.drew := ⟨rfl, rfl, rfl, Nat.le_refl _, fun _ _ => rfl⟩
                  generalize wr.drew = v1 at *
                  iterate 8 (refine RegJ.reads ?_; intro K hK; go_simp; (first | refine ⟨_, fun _ _ => rfl, hK _ ?_⟩ | refine hK _ ?_); clear hK K)
                  refine RegJ.turns (fun _ => trivial) ?_
                  intro K K0 hK hK0
                  go_simp
                  refine ⟨trivial, ?_⟩
                  refine (callsIn_wide.2 (Hdg.out (s[i + 1]'hl1) v1)).mono ?_
                  rintro e v2 ⟨rfl, hw2⟩
                  have v2k : KeptW wr v2 := KeptW.mono hkd (by rw [← hw2]; exact Below.refl _ _)
                  refine hK _ _ _ (fun _ h => h) v2k ?_
                  clear hK K hK0 K0
                  rw [← Hda.out]
                  refine RegJ.reads ?_; intro K hK; go_simp; (first | refine ⟨_, fun _ _ => rfl, hK _ ?_⟩ | refine hK _ ?_); clear hK K
                  refine RegJ.turns (fun _ => trivial) ?_
                  intro K K0 hK hK0
                  go_simp
                  refine ⟨trivial, ?_⟩
                  refine (callsIn_wide.2 (Hdg.out (s[i + 2]'hl2) v2)).mono ?_
                  rintro e v3 ⟨rfl, hw3⟩
                  have v3k : KeptW wr v3 := KeptW.mono v2k (by rw [← hw3]; exact Below.refl _ _)
                  refine hK _ _ _ (fun _ h => h) v3k ?_
                  clear hK K hK0 K0
                  rw [← Hdb.out]
                  iterate 3 (refine RegJ.reads ?_; intro K hK; go_simp; (first | refine ⟨_, fun _ _ => rfl, hK _ ?_⟩ | refine hK _ ?_); clear hK K)
                  refine RegJ.nil ?_
                  have Hvk := Lib.hid (KeptW.bel v3k)
                  have Hk3 := Lib.hid v3k
                  have Hw3 := Lib.hid (Hb.out.trans (Hvk.out.mono Hb.out.size))
                  have Ho3 := Lib.hid (Ho.out.below Hvk.out)
                  have Hlw3 := Lib.hid (show w.heap.size ≤ v3.heap.size from Hw3.out.size)
                  clear v3k
                  clear v2k hkd hw2 hw3
                  cases hitb : itsB B with
                  | true =>
                    have HitB := Lib.hid hitb
                    have HN := Lib.hid (unV_no H45.out Hd.out (by rw [Hdr.out, un_hex, if_neg (fun h => by rw [← HBB.out, hitb] at h; cases h.2.2)]))
                    clear hitb
                    go_wp2_with (first
                      | (go_at_call 52; (with_reducible refine (Hit.out B _).mono ?_); rintro e w' ⟨rfl, rfl⟩; rw [HitB.out])
                      | fail)
                    go_ret2
                    exact .none Hw3.out HN.out rfl
                  | false =>
                    have HitB := Lib.hid hitb
                    have Hone := Lib.hid (ReadB.one v3 B 5)
                    have Hst := Lib.hid (un_step (c := B) (t := S.drop (i + 3)) Hd.out (by rw [Hdr.out, un_hex, if_pos ⟨by rw [← Hda.out]; exact HP.out.1, by rw [← Hdb.out]; exact HP.out.2, by rw [← HBB.out]; exact hitb⟩, ← HBB.out]))
                    clear hitb
                    go_wp2_with (first
                      | (go_at_call 52; (with_reducible refine (Hit.out B _).mono ?_); rintro e w' ⟨rfl, rfl⟩; rw [HitB.out])
                      | (at_builtin; refine wpList_append_read rfl _ _ 41 rfl w.heap.size 5 i0 (.int .u8 0) Tryd.underlying41 hi0 hz0 hs0 hb0 rfl _ _ _ rfl (World.ownsRow.alloc Ho3.out _) _ _ rfl Hone.out (by have := Hll.out; simp; omega) (by simp; have := Hlw3.out; omega) ?_; intro v4 w4 ho4 hg4; have Hg4 := Lib.hid hg4; clear hg4; have Ho4 := Lib.hid ho4; clear ho4))
                    go_roundw
                    case rel =>
                      exact ⟨i + 3, l ++ [B], rfl, by omega, OwnB.of Ho4.out rfl rfl, by rw [List.length_append]; show l.length + 1 ≤ _; omega, Hst.out, below_grown Hg4.out (Hw3.out.alloc Hlw3.out _) (by simp; have := Hlw3.out; omega) (fun k hk => (World.ownsRow.lt Ho3.out k hk).1)⟩
                    case measure => simp only [intOf]; omega
          · have hcv : (((s[i]'hlt).toNat : Int) != 37) = true := byte_ne (d := 37) hc
            have HN := Lib.hid (unV_no H45.out Hd.out (by rw [Hdr.out, un_bad _ hits hc]))
            clear hc hits
            go_wp2_with (go_at_call 52; (with_reducible refine (Hit.out (s[i]'hlt) _).mono ?_); rintro e w' ⟨rfl, rfl⟩; rw [Hits.out])
            go_ret2
            exact .none Hb.out HN.out rfl
      · have hie : i = s.size := by omega
        subst hie
        have hlt' : ¬ (s.size : Int) < (s.size : Int) := by omega
        have HE := Lib.hid (show unV S = l by
          unfold unV
          rw [if_neg H45.out, Hd.out, List.drop_of_length_le (by rw [Hsz.out]; exact Nat.le_refl _)]
          show l ++ [] = l
          rw [List.append_nil])
        have hcv := (Ho.out.read).conv (P := Tryd.prog) (src := 41) (dst := 9) Tryd.underlying41 Tryd.underlying5 Tryd.underlying9
        obtain ⟨A4, c4, rfl, _, _⟩ := Ho.out.read.out
        go_wp2_with fail
        go_ret2
        exact ⟨Hb.out, _, by rw [HE.out]; rfl⟩
end Go.Proofs.YtjjlodeiejobdaaDoor
namespace Go.Proofs.YtjjlodeiejobdaaDoor
open Go.RowKit Go.Shelf
/-- What Split knows between two rounds. -/
structure SpI (c : UInt8) (L : Bs) (i f : Nat) (pre : List Bs) : Prop where
  eqn : splL c L = pre ++ splL c (L.drop f)
  ord : f ≤ i ∧ i ≤ L.length
  no : ∀ j, f ≤ j → j < i → L[j]? ≠ some c
  len : pre.length ≤ f
theorem SpI.step {c : UInt8} {L : Bs} {i f : Nat} {pre : List Bs} (h : SpI c L i f pre) (hi : i < L.length) (hc : L[i]? ≠ some c) : SpI c L (i + 1) f pre :=
  ⟨h.eqn, ⟨by have := h.ord; omega, hi⟩, fun j h1 h2 => by
    rcases Nat.lt_or_ge j i with q | q
    · exact h.no j h1 q
    · obtain rfl : j = i := by omega
      exact hc, h.len⟩
theorem SpI.piece {c : UInt8} {L : Bs} {i f : Nat} {pre : List Bs} (h : SpI c L i f pre) (hi : i < L.length) (hc : L[i]? = some c) : SpI c L (i + 1) (i + 1) (pre ++ [(L.drop f).take (i - f)]) := by
  have ho := h.ord
  refine ⟨?_, ⟨Nat.le_refl _, hi⟩, fun j q1 q2 => by omega, by rw [List.length_append, List.length_singleton]; have := h.len; omega⟩
  rw [h.eqn, spl_at (c := c) (l := L.drop f) (k := i - f) (fun j hj => by rw [List.getElem?_drop]; exact h.no _ (by omega) (by omega)) (by rw [List.getElem?_drop, show f + (i - f) = i by omega]; exact hc), List.drop_drop, show f + (i - f + 1) = i + 1 by omega]
  simp
theorem SpI.last {c : UInt8} {L : Bs} {i f : Nat} {pre : List Bs} (h : SpI c L i f pre) (hi : i = L.length) : splL c L = pre ++ [L.drop f] := by
  have ho := h.ord
  rw [h.eqn, spl_last (l := L.drop f) (fun j => ?_)]
  rcases Nat.lt_or_ge (f + j) L.length with q | q
  · rw [List.getElem?_drop]; exact h.no _ (by omega) (by omega)
  · rw [List.getElem?_drop, List.getElem?_eq_none q]; intro e; cases e
def SplR (ps : List ByteArray) (w : World) (e : Ending) (w' : World) : Prop := ∃ g cap, e = .returned (.slice (some ⟨g, 0, none⟩) ps.length cap) ∧ StrsAt w' g 0 ps ∧ Below w.heap.size w w'
theorem SplR.own {ps : List ByteArray} {w w' : World} {v : Value} (hn : 0 < ps.length) (h : w'.ownsRow w.heap.size 9 1 v ps.length (ps.map Value.string)) (hb : Below w.heap.size w w') : SplR ps w (.returned v) w' := by
  obtain ⟨g, cap, rfl, hg, hl⟩ := World.ownsRow.form h hn
  refine ⟨g, cap, rfl, ⟨hl, fun j x hj => ?_⟩, hb⟩
  rw [Nat.zero_add, World.ownsRow.cellAt h j (by have := (List.getElem?_eq_some_iff.1 hj).1; omega), List.getElem?_map, hj]
  rfl
theorem ba_str {l : List Bs} {x : ByteArray} {p : Bs} (h : x.data.toList = p) : (l ++ [p]).map strV = l.map strV ++ [.string x] := by
  rw [List.map_append]
  show _ ++ [Value.string ⟨p.toArray⟩] = _
  rw [← h]
set_option maxRecDepth 100000 in
set_option maxHeartbeats 8000000 in
theorem split31_any (c : UInt8) (s : ByteArray) (hs : s.size ≤ 1000000) (w : World) :
    Calls Tryd.prog 22 #[.string s, .int .u8 (c.toNat : Int)] w (SplR (pcsB c s) w) := by
  have hsz : s.data.toList.length = s.size := by simp
  obtain ⟨S, hS⟩ : ∃ S, S = s.data.toList := ⟨_, rfl⟩
  have HP := Lib.hid (show pcsB c s = (splL c S).map (fun l => ⟨l.toArray⟩) by rw [hS]; rfl)
  have HS := Lib.hid hS
  rw [← hS] at hsz
  have Hsz := Lib.hid hsz
  clear hS hsz
  obtain ⟨iS, hiS, hzS, hsS, hbS⟩ := info_parts infoS
  go_enter Tryd.func22, Tryd.ntmps22
  go_upto_region 4 with fail
  go_loopw [5, 6, 7] (fun s5 s6 s7 wr => ∃ (i f : Nat) (pre : List Bs), s7 = .int .i64 (i : Int) ∧ s6 = .int .i64 (f : Int) ∧ SpI c S i f pre ∧ wr.ownsRow w.heap.size 9 1 s5 pre.length (pre.map strV) ∧ Below w.heap.size w wr) (fun _ _ s7 _ => s.size - (intOf s7).toNat)
  case atStart => exact ⟨0, 0, [], rfl, rfl, ⟨rfl, ⟨Nat.le_refl _, Nat.zero_le _⟩, fun j h1 h2 => by omega, Nat.zero_le _⟩, World.ownsRow_nil _ _ _ _, Below.refl _ _⟩
  case round =>
    obtain ⟨i, f, pre, rfl, rfl, hI, ho, hb⟩ := hrel
    have HI := Lib.hid hI
    have Ho := Lib.hid ho
    have Hb := Lib.hid hb
    have hord := hI.ord
    have HM := Lib.hid (show pre.length + 1 ≤ maxLen ∧ (pre.length + 1) * 16 ≤ 140737488355328 from by have := hI.len; have := Hsz.out; unfold maxLen; omega)
    have HZ := Lib.hid (show ∀ o : Obj, w.heap.size ≤ (wr.alloc o).heap.size from fun o => by have := hb.size; simp; omega)
    clear hI ho hb
    have HW1 := Lib.hid (show wrap64 ((i : Int) + 1) = (i : Int) + 1 by have := Hsz.out; unfold wrap64; omega)
    by_cases hlt : i < s.size
    · have hlt' : (i : Int) < (s.size : Int) := by omega
      have hget := Lib.hid (bs_list hlt)
      rw [← HS.out] at hget
      by_cases hc : s[i]'hlt = c
      · have hcv : (((s[i]'hlt).toNat : Int) == (c.toNat : Int)) = true := by rw [hc]; simp
        have HN := Lib.hid (HI.out.piece (by have := Hsz.out; omega) (by rw [hget.out, hc]))
        have HX := Lib.hid (ba_str (l := pre) (ext_list s f i))
        rw [← HS.out] at HX
        have hfi : f ≤ i := hord.1
        have his : i ≤ s.size := by have := Hsz.out; omega
        clear hc
        go_wp2_with (at_builtin; refine wpList_append_own _ rfl _ _ 57 rfl w.heap.size 9 iS (.string ByteArray.empty) 1 16 Tryd.underlying57 hiS hzS hsS hbS rfl Nat.zero_lt_one _ _ _ rfl (World.ownsRow.alloc Ho.out _) ⟨wr.heap.size, 0, none⟩ 1 1 [.string (s.extract f i)] rfl rfl (one_str wr _) (one_one _) HM.out.1 HM.out.2 (HZ.out _) ?_; intro v4 w4 ho4 hg4 _; have HO4 := Lib.hid (And.intro ho4 hg4); clear ho4 hg4)
        go_roundw
        case rel =>
          exact ⟨i + 1, i + 1, _, (by first | rfl | (show Value.int .i64 (wrap64 ((i : Int) + 1)) = _; rw [HW1.out]; rfl)), (by first | rfl | (show Value.int .i64 (wrap64 ((i : Int) + 1)) = _; rw [HW1.out]; rfl)), HN.out, (by rw [HX.out, List.length_append, List.length_singleton]; exact HO4.out.1), below_grown HO4.out.2 (Hb.out.alloc (Hb.out.size) _) (HZ.out _) (fun k hk => (World.ownsRow.lt Ho.out k hk).1)⟩
        case measure => (first | (simp only [intOf]; omega) | (show s.size - (intOf (.int .i64 (wrap64 ((i : Int) + 1)))).toNat < _; rw [HW1.out]; simp only [intOf]; omega))
      · have hcv : (((s[i]'hlt).toNat : Int) == (c.toNat : Int)) = false := by have := byte_ne hc; simpa [bne] using this
        have HN := Lib.hid (HI.out.step (by have := Hsz.out; omega) (by rw [hget.out]; intro e; exact hc (Option.some.inj e)))
        clear hc
        go_wp2
        go_roundw
        case rel =>
          exact ⟨i + 1, f, pre, (by first | rfl | (show Value.int .i64 (wrap64 ((i : Int) + 1)) = _; rw [HW1.out]; rfl)), rfl, HN.out, Ho.out, Hb.out⟩
        case measure => (first | (simp only [intOf]; omega) | (show s.size - (intOf (.int .i64 (wrap64 ((i : Int) + 1)))).toNat < _; rw [HW1.out]; simp only [intOf]; omega))
    · have hlt' : ¬ (i : Int) < (s.size : Int) := by omega
      have HN := Lib.hid (HI.out.last (by have := Hsz.out; omega))
      have HX := Lib.hid (ba_str (l := pre) (ext_list s f s.size))
      rw [← HS.out, show (S.drop f).take (s.size - f) = S.drop f from List.take_of_length_le (by rw [List.length_drop, Hsz.out]; exact Nat.le_refl _)] at HX
      have hfs : f ≤ s.size := by have := Hsz.out; omega
      go_wp2_with (at_builtin; refine wpList_append_own _ rfl _ _ 57 rfl w.heap.size 9 iS (.string ByteArray.empty) 1 16 Tryd.underlying57 hiS hzS hsS hbS rfl Nat.zero_lt_one _ _ _ rfl (World.ownsRow.alloc Ho.out _) ⟨wr.heap.size, 0, none⟩ 1 1 [.string (s.extract f s.size)] rfl rfl (one_str wr _) (one_one _) HM.out.1 HM.out.2 (HZ.out _) ?_; intro v4 w4 ho4 hg4 _; have HO4 := Lib.hid (And.intro ho4 hg4); clear ho4 hg4)
      go_ret
      have hpl : (pcsB c s).length = pre.length + 1 := by rw [HP.out, HN.out]; simp
      refine SplR.own (by omega) ?_ (below_grown HO4.out.2 (Hb.out.alloc (Hb.out.size) _) (HZ.out _) (fun k hk => (World.ownsRow.lt Ho.out k hk).1))
      rw [hpl, show (pcsB c s).map Value.string = (splL c S).map strV by rw [HP.out, List.map_map]; rfl, HN.out, HX.out]
      exact HO4.out.1
end Go.Proofs.YtjjlodeiejobdaaDoor
