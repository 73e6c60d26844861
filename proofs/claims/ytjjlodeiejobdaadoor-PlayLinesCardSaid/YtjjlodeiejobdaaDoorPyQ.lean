/- Play: quote. Condition: the text is not too long. -/
import Derived.Test.YtjjlodeiejobdaaDoorPyP
import Derived.Test.YtjjlodeiejobdaaDoorMake
import Derived.Test.YtjjlodeiejobdaaDoorRegS
namespace Go.Proofs.YtjjlodeiejobdaaDoor
open Go.RowKit Go.Shelf
theorem info8 : (Tryd.prog.info? 5).map (fun i => (i.zero, i.size, i.bytes)) = some (some (.int .u8 0), 1, 1) := by kernel_rfl
theorem quo_empty {s : ByteArray} (h : s.toList.isEmpty = true) : quoL s.data.toList = [45] := by
  rw [List.isEmpty_iff, ByteArray.toList_eq] at h
  rw [h]
  rfl
theorem quo_len : ∀ l : Bs, (l.flatMap quo1).length ≤ 3 * l.length
  | [] => Nat.le_refl _
  | c :: r => by
    have ih := quo_len r
    rw [List.flatMap_cons, List.length_append, List.length_cons]
    have : (quo1 c).length ≤ 3 := by unfold quo1; split <;> simp
    omega
theorem quo_step {l : Bs} {i : Nat} (h : i < l.length) : (l.take (i + 1)).flatMap quo1 = (l.take i).flatMap quo1 ++ quo1 l[i] := by
  rw [List.take_add_one, List.getElem?_eq_getElem h, List.flatMap_append]
  simp
theorem bs_at {s : ByteArray} {i : Nat} (h : i < s.size) : ∃ hi : i < s.data.toList.length, s[i] = s.data.toList[i] := by
  refine ⟨by simpa using h, ?_⟩
  simp [ByteArray.getElem_eq_getElem_data]
theorem hx_fin2 : ∀ a : Fin 16, (⟨#[48, 49, 50, 51, 52, 53, 54, 55, 56, 57, 97, 98, 99, 100, 101, 102]⟩ : ByteArray)[a.val]'(a.isLt) = hxB a.val := by decide
theorem hx_get {a : Nat} (h : a < 16) (h2 : a < (⟨#[48, 49, 50, 51, 52, 53, 54, 55, 56, 57, 97, 98, 99, 100, 101, 102]⟩ : ByteArray).size) : (⟨#[48, 49, 50, 51, 52, 53, 54, 55, 56, 57, 97, 98, 99, 100, 101, 102]⟩ : ByteArray)[a] = hxB a := hx_fin2 ⟨a, h⟩
set_option maxRecDepth 100000 in
set_option maxHeartbeats 4000000 in
theorem quote_any (s : ByteArray) (hs : s.size ≤ 1000000) (w : World) :
    Calls Tryd.prog 44 #[.string s] w fun e w' => e = .returned (.string ⟨(quoL s.data.toList).toArray⟩) ∧ Below w.heap.size w w' := by
  have Hit := Lib.hid (fun (c : UInt8) (y : World) => itself_any c y)
  obtain ⟨i0, hi0, hz0, hs0, hb0⟩ := info_parts info8
  cases he : s.toList.isEmpty with
  | true =>
    have Hq := Lib.hid (quo_empty he)
    go_enter Tryd.func44, Tryd.ntmps44
    go_wp2_with fail
    go_ret
    exact ⟨by rw [Hq.out]; rfl, Below.refl _ _⟩
  | false =>
    have hq : quoL s.data.toList = s.data.toList.flatMap quo1 := by
      unfold quoL
      rw [if_neg (fun h => by rw [ByteArray.toList_eq, h] at he; simp at he)]
    have Hq := Lib.hid hq
    clear hq
    go_enter Tryd.func44, Tryd.ntmps44
    go_upto_region 5 with fail
    go_loopw [3, 10] (fun s3 s10 wr => ∃ i : Nat, s10 = .int .i64 (i : Int) ∧ i ≤ s.size ∧ OwnB wr w.heap.size 5 s3 ((s.data.toList.take i).flatMap quo1) ∧ Below w.heap.size w wr) (fun _ s10 _ => s.size - (intOf s10).toNat)
    case atStart => exact ⟨0, rfl, Nat.zero_le _, ⟨rfl, .inl ⟨rfl, rfl⟩⟩, Below.refl _ _⟩
    case round =>
      obtain ⟨i, rfl, hi, ho, hb⟩ := hrel
      have Ho := Lib.hid ho; clear ho
      have Hb := Lib.hid hb; clear hb
      have Hlw := Lib.hid (show w.heap.size ≤ wr.heap.size from Hb.out.size)
      have Hll := Lib.hid (show ((s.data.toList.take i).flatMap quo1).length ≤ 3000000 by have h := quo_len (s.data.toList.take i); have h2 : (s.data.toList.take i).length ≤ i := List.length_take_le _ _; omega)
      by_cases hlt : i < s.size
      · have hlt' : (i : Int) < (s.size : Int) := by omega
        obtain ⟨hil, hget⟩ := bs_at hlt
        have hst := quo_step hil
        rw [← hget] at hst
        have Hst := Lib.hid hst
        clear hst hget
        generalize s.data.toList.take i = L0 at *
        generalize L0.flatMap quo1 = L at *
        go_upto_region 8 with fail
        generalize s[i] = c at *
        cases hits : itsB c with
        | true =>
          have hq1 : quo1 c = [c] := by unfold quo1; rw [hits]; rfl
          rw [hq1] at Hst
          have Hone := Lib.hid (ReadB.one wr c 5)
          have Hits := Lib.hid hits
          clear hits hq1
          go_wp2_with (first
            | (go_at_call 56; refine (Hit.out c _).mono ?_; rintro e w' ⟨rfl, rfl⟩; rw [Hits.out])
            | (at_builtin; refine wpList_append_read rfl _ _ 41 rfl w.heap.size 5 i0 (.int .u8 0) Tryd.underlying41 hi0 hz0 hs0 hb0 rfl _ _ _ rfl (World.ownsRow.alloc Ho.out _) _ _ rfl Hone.out (by have := Hll.out; simp; omega) (by simp; have := Hlw.out; omega) ?_; intro v4 w4 ho4 hg4; have Hg4 := Lib.hid hg4; clear hg4; have Ho4 := Lib.hid ho4; clear ho4))
          go_roundw
          case rel =>
            refine ⟨i + 1, rfl, by omega, ?_, below_grown Hg4.out (Hb.out.alloc Hlw.out _) (by simp; have := Hlw.out; omega) (fun k hk => (World.ownsRow.lt Ho.out k hk).1)⟩
            rw [Hst.out]
            exact OwnB.of Ho4.out rfl rfl
          case measure => simp [intOf]; omega
        | false =>
          have hq1 : quo1 c = [37, hxB (c.toNat / 16), hxB (c.toNat % 16)] := by unfold quo1; rw [hits]; rfl
          rw [hq1] at Hst
          have Hits := Lib.hid hits
          clear hits hq1
          have hc256 := c.toNat_lt
          obtain ⟨a, ha⟩ : ∃ a, a = c.toNat / 16 := ⟨_, rfl⟩
          obtain ⟨b, hb⟩ : ∃ b, b = c.toNat % 16 := ⟨_, rfl⟩
          rw [← ha, ← hb] at Hst
          have ea : (c.toNat : Int) / 16 = (a : Int) := by omega
          have eb : bits .and .u8 (c.toNat : Int) 15 = (b : Int) := by rw [show (15 : Int) = ((15 : Nat) : Int) from rfl, u8_and_nat _ _ hc256 (by decide), show c.toNat &&& 15 = b by rw [hb, show (15 : Nat) = 2 ^ 4 - 1 from rfl, Nat.and_two_pow_sub_one_eq_mod]]
          have ha16 : a < 16 := by omega
          have hb16 : b < 16 := by omega
          clear ha hb
          go_upto_region 10 with (go_at_call 56; refine (Hit.out c _).mono ?_; rintro e w' ⟨rfl, rfl⟩; rw [Hits.out])
          refine RegS.wp_region (fun y => Below wr.heap.size wr y) [(0, 0), (1, 0), (2, 0), (3, 0), (4, 0), (5, 0), (6, 0), (7, 1), (8, 3), (9, 0)] (by kernel_rfl) (by kernel_rfl) (fun _ _ d _ _ h => by cases d <;> exact h) ⟨rfl, rfl, rfl, Nat.le_refl _, fun _ _ => rfl⟩ ?_
          dsimp only [RegR.pick, List.getElem?_cons_zero, List.getElem?_cons_succ]
          iterate 2 (refine RegS.reads ?_; intro K hK; go_simp; (first | (refine ⟨_, fun _ _ => rfl, hK _ ?_⟩) | (refine hK _ ?_)); clear hK K)
          iterate 1 (refine RegS.reads ?_; intro K hK; go_simp; (first | (refine ⟨_, fun _ _ => rfl, hK _ ?_⟩) | (refine hK _ ?_)); clear hK K)
          refine RegS.reads ?_
          intro K hK
          go_simp
          refine ⟨.int .u8 ((hxB a).toNat : Int), fun x _ => ?_, hK _ ?_⟩
          · rw [dif_pos (show (a : Int) < 16 by omega), hx_get ha16]
            rfl
          clear hK K
          iterate 2 (refine RegS.reads ?_; intro K hK; go_simp; (first | (refine ⟨_, fun _ _ => rfl, hK _ ?_⟩) | (refine hK _ ?_)); clear hK K)
          refine RegS.reads ?_
          intro K hK
          go_simp
          refine ⟨.int .u8 ((hxB b).toNat : Int), fun x _ => ?_, hK _ ?_⟩
          · rw [dif_pos (show (b : Int) < 16 by omega), hx_get hb16]
            rfl
          clear hK K
          refine RegS.turn rfl ?_
          intro K hK
          have hbw := (Below.refl _ wr).alloc (Nat.le_refl _) (.cells #[.int .u8 37, .int .u8 ((hxB a).toNat : Int), .int .u8 ((hxB b).toNat : Int)] 5)
          go_simp
          refine hK _ _ ⟨hbw.os, hbw.tape, hbw.output, hbw.size, hbw.block⟩ ?_
          clear hK K
          refine RegS.free rfl ?_
          intro K hK
          refine wp_append_read _ _ 41 rfl w.heap.size 5 i0 (.int .u8 0) Tryd.underlying41 hi0 hz0 hs0 hb0 rfl _ _ _ rfl (show World.ownsRow _ _ _ _ _ _ _ from World.ownsRow.alloc Ho.out _) _ [37, hxB a, hxB b] rfl (ReadB.cells wr.drew [37, hxB a, hxB b] 5 #[.int .u8 37, .int .u8 ((hxB a).toNat : Int), .int .u8 ((hxB b).toNat : Int)] rfl 3) (by have := Hll.out; simp; omega) (by have := Hlw.out; show _ ≤ (wr.alloc _).heap.size; simp; omega) ?_
          intro v' w' hown' hgr
          refine hK _ _ ?_
          clear hK K
          iterate 1 (refine RegS.reads ?_; intro K hK; go_simp; (first | (refine ⟨_, fun _ _ => rfl, hK _ ?_⟩) | (refine hK _ ?_)); clear hK K)
          refine RegS.nil ?_
          have hb' : Below w.heap.size w w' := below_grown hgr (Hb.out.trans (Below.mono ⟨hbw.os, hbw.tape, hbw.output, hbw.size, hbw.block⟩ Hb.out.size)) (by have := Hlw.out; show _ ≤ (wr.alloc _).heap.size; simp; omega) (fun k hk => (World.ownsRow.lt Ho.out k hk).1)
          have Hb' := Lib.hid hb'; clear hb'
          have Hown := Lib.hid (show OwnB w' w.heap.size 5 v' (L ++ [37, hxB a, hxB b]) from OwnB.of hown' rfl rfl); clear hown' hgr hbw
          go_wp2_with fail
          go_roundw
          case rel =>
            refine ⟨i + 1, rfl, by omega, ?_, Hb'.out⟩
            rw [Hst.out]
            exact Hown.out
          case measure => simp [intOf]; omega
      · have hie : i = s.size := by omega
        subst hie
        have hlt' : ¬ (s.size : Int) < (s.size : Int) := by omega
        have hall : s.data.toList.take s.size = s.data.toList := by rw [List.take_of_length_le]; simp
        rw [hall, ← Hq.out] at Ho
        have hcv := Ho.out.read.conv (P := Tryd.prog) (src := 41) (dst := 9) Tryd.underlying41 Tryd.underlying5 Tryd.underlying9
        go_wp2_with fail
        go_ret
        exact ⟨rfl, Hb.out⟩
end Go.Proofs.YtjjlodeiejobdaaDoor
