/- Play: strings.SplitSeq at a text of one byte. Condition: the iterator's blocks are its own. -/
import Derived.Test.YtjjlodeiejobdaaDoorPyZ
import Derived.Test.YtjjlodeiejobdaaDoorPyE
import Derived.Shelf.Strings.Search3
import Derived.Lib.IndexLaws
import Derived.RangeFuncNested
import Derived.RangeFuncBound
import Derived.RangeFuncCalls
import Derived.RangeFuncLeaves
import Derived.OwnWalkIn
import Derived.TacticsInMore
import Derived.LoopNIn
import Derived.LoopIn
namespace Go.Proofs.YtjjlodeiejobdaaDoor
open Go.RowKit Go.Shelf
attribute [local go_sem] Oper.semAt_some
def nmRen2 : Go.Shelf.Ren := ⟨(fun | 143 => 60 | 217 => 83 | 219 => 71 | 224 => 85 | 225 => 84 | 266 => 94 | 267 => 86 | 314 => 95 | n => n), (fun | 3 => 3 | 4 => 4 | 5 => 5 | 9 => 9 | 46 => 97 | 51 => 35 | 146 => 129 | n => n), (fun | 1 => 0 | n => n)⟩
theorem lay_index : Lays.n143 Tryd.prog nmRen2 :=
  { mixed := by kernel_rfl,
    f143 := Tryd.func60.trans (congrArg some (by kernel_rfl)),
    f217 := Tryd.func83.trans (congrArg some (by kernel_rfl)),
    f219 := Tryd.func71.trans (congrArg some (by kernel_rfl)),
    f224 := Tryd.func85.trans (congrArg some (by kernel_rfl)),
    f225 := Tryd.func84.trans (congrArg some (by kernel_rfl)),
    f266 := Tryd.func94.trans (congrArg some (by kernel_rfl)),
    f267 := Tryd.func86.trans (congrArg some (by kernel_rfl)),
    f314 := Tryd.func95.trans (congrArg some (by kernel_rfl)),
    t3 := Tryd.underlying3,
    a3 := Tryd.isAgg3,
    z3 := Tryd.sizeOf3,
    v3 := Tryd.zeroValue3,
    t4 := Tryd.underlying4,
    a4 := Tryd.isAgg4,
    z4 := Tryd.sizeOf4,
    v4 := Tryd.zeroValue4,
    t5 := Tryd.underlying5,
    a5 := Tryd.isAgg5,
    z5 := Tryd.sizeOf5,
    v5 := Tryd.zeroValue5,
    t9 := Tryd.underlying9,
    a9 := Tryd.isAgg9,
    z9 := Tryd.sizeOf9,
    v9 := Tryd.zeroValue9,
    t46 := Tryd.underlying97,
    a46 := Tryd.isAgg97,
    z46 := Tryd.sizeOf97,
    v46 := Tryd.zeroValue97,
    t51 := Tryd.underlying35,
    a51 := Tryd.isAgg35,
    z51 := Tryd.sizeOf35,
    v51 := Tryd.zeroValue35,
    t146 := Tryd.underlying129,
    a146 := Tryd.isAgg129,
    z146 := Tryd.sizeOf129,
    v146 := Tryd.zeroValue129,
    g1 := by kernel_rfl }
theorem spl_none {c : UInt8} : ∀ {l : Bs}, Lib.indexByte l c = -1 → splL c l = [l]
  | [], _ => rfl
  | x :: r, h => by
    unfold Lib.indexByte at h
    have hg := Lib.indexByte_ge r c
    split at h
    · cases h
    · next hx =>
      split at h
      · next h1 =>
        have hxc : x ≠ c := by simpa using hx
        rw [splL, if_neg hxc, spl_none (by simpa using h1)]
      · omega
theorem spl_some {c : UInt8} : ∀ {l : Bs} {o : Nat}, Lib.indexByte l c = (o : Int) → o < l.length ∧ splL c l = l.take o :: splL c (l.drop (o + 1))
  | [], o, h => by
    unfold Lib.indexByte at h
    omega
  | x :: r, o, h => by
    unfold Lib.indexByte at h
    have hg := Lib.indexByte_ge r c
    split at h
    · next hx =>
      obtain rfl : o = 0 := by omega
      have hxc : x = c := by simpa using hx
      rw [splL, if_pos hxc]
      simp
    · next hx =>
      have hxc : x ≠ c := by simpa using hx
      split at h
      · omega
      · next hm =>
        have hm2 : Lib.indexByte r c ≠ -1 := by simpa using hm
        obtain ⟨o', rfl⟩ : ∃ o', o = o' + 1 := ⟨o - 1, by omega⟩
        obtain ⟨h1, h2⟩ := spl_some (c := c) (l := r) (o := o') (by omega)
        refine ⟨by simpa using h1, ?_⟩
        rw [splL, if_neg hxc, h2]
        rfl
theorem pcs_none {c : UInt8} {x : ByteArray} (h : Lib.indexByte x.data.toList c = -1) : pcsB c x = [x] := by
  unfold pcsB
  rw [spl_none h]
  simp
theorem pcs_some {c : UInt8} {x : ByteArray} {o : Nat} (h : Lib.indexByte x.data.toList c = (o : Int)) : o < x.size ∧ pcsB c x = x.extract 0 o :: pcsB c (x.extract (o + 1) x.size) := by
  obtain ⟨h1, h2⟩ := spl_some h
  have hsz : x.data.toList.length = x.size := Array.length_toList
  refine ⟨by omega, ?_⟩
  have e1 : (⟨(x.data.toList.take o).toArray⟩ : ByteArray) = x.extract 0 o := by
    apply ByteArray.ext
    apply Array.toList_inj.1
    rw [ByteArray.data_extract, Array.toList_extract, List.extract_eq_take_drop, Nat.sub_zero, List.drop_zero]
  have e2 : (x.extract (o + 1) x.size).data.toList = x.data.toList.drop (o + 1) := by
    rw [ByteArray.data_extract, Array.toList_extract, List.extract_eq_take_drop]
    rw [List.take_of_length_le (by rw [List.length_drop]; omega)]
  unfold pcsB
  rw [h2, List.map_cons, e1, e2]
theorem grown_set (W : World) (b : Nat) (v : Value) : W.grownBy (W.setCell ⟨b, 0, none⟩ v) (some b) := ⟨rfl, rfl, rfl, by simp, fun k _ hk => Below.heap_setCell _ _ _ _ (fun e => hk (by rw [e]))⟩
set_option maxRecDepth 100000 in
set_option maxHeartbeats 4000000 in
theorem sq_in (n l Bs Bp Bv : Nat) (x : ByteArray) (Z : Nat → Prop) (hzs : Z Bs ∧ Z Bp ∧ Z Bv) (J Jx : List ByteArray → World → Prop) (hJ : AbidesZ Z J) (hJx : AbidesZ Z Jx)
    (hY : ∀ pre p W1, J pre W1 → (W1.heap[Bs]?.isSome = true ∧ W1.heap[Bp]?.isSome = true ∧ W1.heap[Bv]?.isSome = true) → (pre ++ [p]) <+: pcsB 10 x → YieldAt Fence.wide (n - 1) Tryd.prog l #[.string p] W1 fun e W' =>
      (e = .returned (.bool true) ∧ J (pre ++ [p]) W' ∧ KeptZ Z W1 W') ∨ (e = .returned (.bool false) ∧ Jx (pre ++ [p]) W' ∧ KeptZ Z W1 W'))
    (hxs : x.size ≤ 1000000) (W : World) (hne : Bs ≠ Bp ∧ Bs ≠ Bv) (hs : W.heap[Bs]? = some (.cells #[.string x] 9 (0, 0))) (hp : W.heap[Bp]? = some (.cells #[.string ⟨#[10]⟩] 9 (0, 0))) (hv : W.heap[Bv]? = some (.cells #[.int .i64 0] 3 (0, 0))) (h0 : J [] W) :
    CallsIn Fence.wide n Tryd.prog 66 #[.func (.yield l) #[] #[], .pointer (some ⟨Bp, 0, none⟩), .pointer (some ⟨Bs, 0, none⟩), .pointer (some ⟨Bv, 0, none⟩)] W fun e W' => (∃ v, e = .returned v) ∧
      ((∃ ys, ys = pcsB 10 x ∧ J ys W') ∨ (∃ pre, pre <+: pcsB 10 x ∧ Jx pre W')) := by
  refine callsIn_of_wp Tryd.func66 rfl trivial ?_ rfl
  simp only [Tryd.ntmps66, List.size_toArray, List.length_cons, List.length_nil, Nat.reduceAdd, Nat.reduceSub, Array.replicate_succ, Array.replicate_zero, List.push_toArray, List.append_toArray, List.nil_append, List.cons_append]
  have cp : W.cell? ⟨Bp, 0, none⟩ = some (.string ⟨#[10]⟩) := cell_of_row _ _ _ _ _ _ hp
  have H0 := Lib.hid (And.intro hs (And.intro hp (And.intro hv h0)))
  have HY := Lib.hid hY
  have HJ := Lib.hid (And.intro hJ hJx)
  clear hs hp hv h0 hY hJ hJx
  gi_wp2
  gi_loopw [7] (fun _ wr => ∃ (pre : List ByteArray) (r : ByteArray), wr.heap[Bs]? = some (.cells #[.string r] 9 (0, 0)) ∧ wr.heap[Bp]? = some (.cells #[.string ⟨#[10]⟩] 9 (0, 0)) ∧ wr.heap[Bv]? = some (.cells #[.int .i64 0] 3 (0, 0)) ∧ J pre wr ∧ pcsB 10 x = pre ++ pcsB 10 r ∧ r.size ≤ x.size)
    (fun _ wr => match wr.heap[Bs]? with | some (.cells #[.string r] _ _) => r.size | _ => 0)
  case atStart => exact ⟨[], x, H0.out.1, H0.out.2.1, H0.out.2.2.1, H0.out.2.2.2, rfl, Nat.le_refl _⟩
  case round =>
    obtain ⟨pre, r, hs, hp, hv, hj, hx, hsz⟩ := hrel
    have c1 : wr.cell? ⟨Bs, 0, none⟩ = some (.string r) := cell_of_row _ _ _ _ _ _ hs
    have c2 : wr.cell? ⟨Bp, 0, none⟩ = some (.string ⟨#[10]⟩) := cell_of_row _ _ _ _ _ _ hp
    have c3 : wr.cell? ⟨Bv, 0, none⟩ = some (.int .i64 0) := cell_of_row _ _ _ _ _ _ hv
    have HI := Lib.hid (And.intro hs (And.intro hp (And.intro hv (And.intro hj (And.intro hx hsz)))))
    have hsome : wr.heap[Bs]?.isSome = true ∧ wr.heap[Bp]?.isSome = true ∧ wr.heap[Bv]?.isSome = true := by rw [hs, hp, hv]; exact ⟨rfl, rfl, rfl⟩
    have HM := Lib.hid (show (match wr.heap[Bs]? with | some (.cells #[.string r] _ _) => r.size | _ => 0) = r.size by rw [hs]; rfl)
    clear hs hp hv
    by_cases hi : Lib.indexByte r.data.toList 10 = -1
    · have Hix := Lib.hid (show Calls Tryd.prog 60 #[.string r, .string ⟨#[10]⟩] wr fun e w' => e = .returned (.int .i64 (-1)) ∧ w' = wr by rw [← hi]; exact Any.strings_Index_one lay_index r 10 wr)
      have hpc := pcs_none hi
      rw [hpc] at hx
      have HE := Lib.hid hx
      obtain ⟨fn, tmps, assign, body, hy, hR⟩ := HY.out pre r wr hj hsome (by rw [hx]; exact List.prefix_rfl)
      have HR := Lib.hid hR
      clear hR hj hx hpc hsome
      gi_wp2_with (first
        | (refine ⟨trivial, (fun h => (by cases h)), ?_⟩; refine (callsIn_wide.2 Hix.out).mono ?_; rintro e w1 ⟨rfl, rfl⟩; dsimp only)
        | gi_in)
      refine ⟨fun h => (by cases h), HR.out.mono ?_⟩
      rintro e W3 (⟨rfl, hJ3, _⟩ | ⟨rfl, hJ3, _⟩)
      · have H3 := Lib.hid hJ3
        clear hJ3
        dsimp only
        gi_wp2
        go_end0
        exact ⟨⟨_, rfl⟩, .inl ⟨_, rfl, by rw [HE.out]; exact H3.out⟩⟩
      · have H3 := Lib.hid hJ3
        clear hJ3
        dsimp only
        gi_wp2
        go_end0
        exact ⟨⟨_, rfl⟩, .inr ⟨_, by rw [HE.out]; exact List.prefix_rfl, H3.out⟩⟩
    · obtain ⟨o, ho⟩ : ∃ o : Nat, Lib.indexByte r.data.toList 10 = (o : Int) := ⟨(Lib.indexByte r.data.toList 10).toNat, by have := Lib.indexByte_ge r.data.toList 10; omega⟩
      obtain ⟨hol, hpc⟩ := pcs_some ho
      have Hix := Lib.hid (show Calls Tryd.prog 60 #[.string r, .string ⟨#[10]⟩] wr fun e w' => e = .returned (.int .i64 (o : Int)) ∧ w' = wr by rw [← ho]; exact Any.strings_Index_one lay_index r 10 wr)
      rw [hpc] at hx
      have hrs : o + 1 ≤ r.size := hol
      have hw0 : wrap64 (o : Int) = (o : Int) := by unfold wrap64; omega
      have hw1 : wrap64 ((o : Int) + 1) = (o : Int) + 1 := by unfold wrap64; omega
      obtain ⟨fn, tmps, assign, body, hy, hR⟩ := HY.out pre (r.extract 0 o) wr hj hsome (by rw [hx]; exact ⟨pcsB 10 (r.extract (o + 1) r.size), by simp⟩)
      have HR := Lib.hid hR
      have HE := Lib.hid hx
      have HO := Lib.hid (And.intro hrs (And.intro hsz hxs))
      clear hR hj hx hpc hsome ho hi
      gi_wp2_with (first
        | (refine ⟨trivial, (fun h => (by cases h)), ?_⟩; refine (callsIn_wide.2 Hix.out).mono ?_; rintro e w1 ⟨rfl, rfl⟩; dsimp only)
        | gi_in)
      refine ⟨fun h => (by cases h), HR.out.mono ?_⟩
      rintro e W3 (⟨rfl, hJ3, hk3⟩ | ⟨rfl, hJ3, _⟩)
      · have H3 := Lib.hid (And.intro hJ3 (And.intro (hk3 _ _ hzs.1 HI.out.1) (And.intro (hk3 _ _ hzs.2.1 HI.out.2.1) (hk3 _ _ hzs.2.2 HI.out.2.2.1))))
        have d1 : W3.cell? ⟨Bs, 0, none⟩ = some (.string r) := cell_of_row _ _ _ _ _ _ H3.out.2.1
        have d2 : W3.cell? ⟨Bp, 0, none⟩ = some (.string ⟨#[10]⟩) := cell_of_row _ _ _ _ _ _ H3.out.2.2.1
        have d3 := thaw_row 0 H3.out.2.1
        clear hJ3 hk3 c1 c2 c3
        dsimp only
        gi_wp2
        have hsame := heap_setCell_same W3 Bs 0 #[.string r] 9 (.string (r.extract (o + 1) r.size)) H3.out.2.1
        rw [show (#[Value.string r].setIfInBounds 0 (.string (r.extract (o + 1) r.size))) = #[.string (r.extract (o + 1) r.size)] from rfl] at hsame
        have hrz : (r.extract (o + 1) r.size).size = r.size - (o + 1) := by simp
        have hZs : ∀ q, some Bs = some q → Z q := fun q e => by cases e; exact hzs.1
        go_roundw
        case rel => exact ⟨_, _, _, _, _, _, _, _, _, _, _, _, _, _, _, _, _, _, _, _, _, _, ⟨pre ++ [r.extract 0 o], _, hsame, (Below.heap_setCell W3 ⟨Bs, 0, none⟩ _ Bp hne.1.symm).trans H3.out.2.2.1, (Below.heap_setCell W3 ⟨Bs, 0, none⟩ _ Bv hne.2.symm).trans H3.out.2.2.2, HJ.out.1 _ _ _ (some Bs) H3.out.1 (grown_set W3 Bs _) hZs, by rw [HE.out]; simp, by have := HO.out; omega⟩, rfl⟩
        case measure => rw [HM.out, hsame]; show (r.extract (o + 1) r.size).size < r.size; have := HO.out; omega
      · have H3 := Lib.hid hJ3
        clear hJ3
        dsimp only
        gi_wp2
        refine bodyPost_ret (results_none rfl _ _ _) rfl ?_
        exact ⟨⟨_, rfl⟩, .inr ⟨_, ⟨pcsB 10 (r.extract (o + 1) r.size), by rw [HE.out]; simp⟩, H3.out⟩⟩
theorem sq_stops (n Bs Bp Bv : Nat) (x : ByteArray) (hxs : x.size ≤ 1000000) (hne : Bs ≠ Bp ∧ Bs ≠ Bv) (w : World) (hs : w.heap[Bs]? = some (.cells #[.string x] 9 (0, 0))) (hp : w.heap[Bp]? = some (.cells #[.string ⟨#[10]⟩] 9 (0, 0))) (hv : w.heap[Bv]? = some (.cells #[.int .i64 0] 3 (0, 0))) :
    SeqZ Fence.wide n Tryd.prog 66 #[.pointer (some ⟨Bp, 0, none⟩), .pointer (some ⟨Bs, 0, none⟩), .pointer (some ⟨Bv, 0, none⟩)] (fun p : ByteArray => #[Value.string p]) (fun r => r = Bs ∨ r = Bp ∨ r = Bv) 0 (fun ys => ys = pcsB 10 x) (fun pre => pre <+: pcsB 10 x) w := by
  intro l J Jx W Z hZ hW hJ hJx hY h0
  have up : ∀ {b : Nat} {o : Obj}, w.heap[b]? = some o → W.heap[b]? = some o := fun {b o} h => (hW.block b (Array.getElem?_eq_some_iff.1 h).1).trans h
  refine sq_in n l Bs Bp Bv x Z ⟨(hZ Bs).2 (.inl (.inl rfl)), (hZ Bp).2 (.inl (.inr (.inl rfl))), (hZ Bv).2 (.inl (.inr (.inr rfl)))⟩ J Jx hJ hJx (fun pre p W1 hj hsm hpre => hY pre p W1 hj (fun r hr => ?_) hpre) hxs W hne (up hs) (up hp) (up hv) h0
  have lt : ∀ {b : Nat}, W1.heap[b]?.isSome = true → b < W1.heap.size := fun {b} h => by
    obtain ⟨o, ho⟩ := Option.isSome_iff_exists.1 h
    exact (Array.getElem?_eq_some_iff.1 ho).1
  rcases (hZ r).1 hr with (rfl | rfl | rfl) | h
  · exact lt hsm.1
  · exact lt hsm.2.1
  · exact lt hsm.2.2
  · omega
theorem ssq_in (n : Nat) (x s : ByteArray) (i : Int) (w : World) :
    CallsIn Fence.wide n Tryd.prog 53 #[.string x, .string s, .int .i64 i] w fun e w' => e = .returned (.func (.func 66) #[] #[.pointer (some ⟨w.heap.size + 1, 0, none⟩), .pointer (some ⟨w.heap.size, 0, none⟩), .pointer (some ⟨w.heap.size + 2, 0, none⟩)]) ∧
      w' = ((w.alloc (.cells #[.string x] 9)).alloc (.cells #[.string s] 9)).alloc (.cells #[.int .i64 i] 3) := by
  refine callsIn_of_wp Tryd.func53 rfl trivial ?_ rfl
  simp only [Tryd.ntmps53, List.size_toArray, List.length_cons, List.length_nil, Nat.reduceAdd, Nat.reduceSub, Array.replicate_succ, Array.replicate_zero, List.push_toArray, List.append_toArray, List.nil_append, List.cons_append]
  gi_wp2
  go_ret
  exact ⟨rfl, rfl⟩
theorem sps_in (n : Nat) (x s : ByteArray) (w : World) :
    CallsIn Fence.wide n Tryd.prog 39 #[.string x, .string s] w fun e w' => e = .returned (.func (.func 66) #[] #[.pointer (some ⟨w.heap.size + 1, 0, none⟩), .pointer (some ⟨w.heap.size, 0, none⟩), .pointer (some ⟨w.heap.size + 2, 0, none⟩)]) ∧
      w' = ((w.alloc (.cells #[.string x] 9)).alloc (.cells #[.string s] 9)).alloc (.cells #[.int .i64 0] 3) := by
  refine callsIn_of_wp Tryd.func39 rfl trivial ?_ rfl
  simp only [Tryd.ntmps39, List.size_toArray, List.length_cons, List.length_nil, Nat.reduceAdd, Nat.reduceSub, Array.replicate_succ, Array.replicate_zero, List.push_toArray, List.append_toArray, List.nil_append, List.cons_append]
  have Hc := Lib.hid (ssq_in (n - 1) x s 0 w)
  gi_wp2_with (refine ⟨trivial, (fun h => (by cases h)), ?_⟩; refine Hc.out.mono ?_; rintro e w1 ⟨rfl, rfl⟩; dsimp only)
  go_ret
  exact ⟨rfl, rfl⟩
end Go.Proofs.YtjjlodeiejobdaaDoor
