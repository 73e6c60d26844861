/- Play: unquote. Condition: the text is not too long; the library's variables hold what the program's text lays. -/
import Derived.Test.YtjjlodeiejobdaaDoorPyQ
import Derived.Test.YtjjlodeiejobdaaDoorRegJ
import Derived.Test.YtjjlodeiejobdaaDoorTrD
namespace Go.Proofs.YtjjlodeiejobdaaDoor
open Go.RowKit Go.Shelf
/-- What is told of a form of a text. -/
def UnqR (R : Option Bs) (w : World) (e : Ending) (w' : World) : Prop := Below w.heap.size w w' ∧ ∃ x : ByteArray, e = .returned (.tuple #[.string x, .bool R.isSome]) ∧ ∀ b, R = some b → x = ⟨b.toArray⟩
theorem UnqR.none {R : Option Bs} {w w' : World} {x : ByteArray} (hb : Below w.heap.size w w') (h : R = .none) : UnqR R w (.returned (.tuple #[.string x, .bool false])) w' := by
  subst h
  exact ⟨hb, x, rfl, fun b h => by cases h⟩
theorem UnqR.get {R : Option Bs} {w w' : World} {l : Bs} {q : Bool} (hb : Below w.heap.size w w') (h : R = if q then some l else .none) : UnqR R w (.returned (.tuple #[.string ⟨l.toArray⟩, .bool q])) w' := by
  subst h
  cases q
  · exact ⟨hb, _, rfl, fun b h => by cases h⟩
  · exact ⟨hb, _, rfl, fun b h => by cases h; rfl⟩
theorem dec_plain {c : UInt8} (r : Bs) (h : c ≠ 37) : decL (c :: r) = (decL r).map (c :: ·) := by
  conv => lhs; unfold decL
  simp only [if_neg h]
theorem dec_hex {a b : UInt8} (r : Bs) : decL (37 :: a :: b :: r) = match hexV a, hexV b with
    | some x, some y => (decL r).map (UInt8.ofNat (16 * x + y) :: ·)
    | _, _ => none := by
  conv => lhs; unfold decL
  rw [if_pos rfl]
  rfl
theorem hexV_lt {c : UInt8} {x : Nat} (h : hexV c = some x) : x < 16 := by
  unfold hexV at h
  split at h
  · cases h; omega
  · split at h
    · cases h; omega
    · split at h
      · cases h; omega
      · cases h
theorem dec_bad {a b : UInt8} (r : Bs) (h : hexAcc [a, b] = none) : decL (37 :: a :: b :: r) = none := by
  rw [dec_hex]
  cases hx : hexV a <;> cases hy : hexV b <;> simp_all [hexAcc]
theorem dec_good {a b : UInt8} {n : Nat} (r : Bs) (h : hexAcc [a, b] = some n) : n < 256 ∧ decL (37 :: a :: b :: r) = (decL r).map (UInt8.ofNat n :: ·) := by
  rw [dec_hex]
  cases hx : hexV a with
  | none => simp [hexAcc, hx] at h
  | some x =>
    cases hy : hexV b with
    | none => simp [hexAcc, hx, hy] at h
    | some y =>
      simp [hexAcc, hx, hy] at h
      subst h
      exact ⟨by have := hexV_lt hx; have := hexV_lt hy; omega, rfl⟩
theorem dec_short {r : Bs} (h : r.length < 2) : decL (37 :: r) = none := by
  unfold decL
  match r, h with
  | [], _ => rfl
  | [a], _ => rfl
theorem drop_get {l : Bs} {i : Nat} (h : i < l.length) : l.drop i = l[i] :: l.drop (i + 1) := List.drop_eq_getElem_cons h
set_option maxRecDepth 100000 in
set_option maxHeartbeats 8000000 in
theorem unquote_any (s : ByteArray) (hs : s.size ≤ 1000000) (w : World) (hv : PV w) :
    Calls Tryd.prog 32 #[.string s] w (UnqR (unqL s.data.toList) w) := by
  have Hq := Lib.hid (fun (x : ByteArray) (hx : x.size ≤ 1000000) (y : World) => quote_any x hx y)
  have Hp := Lib.hid (fun (a b : UInt8) (y : World) (hy : Below w.heap.size w y) => p16_any a b y (hv.below hy))
  clear hv
  obtain ⟨i0, hi0, hz0, hs0, hb0⟩ := info_parts info8
  by_cases h45 : s.data.toList = [45]
  · have he : (s.toList == [45]) = true := by rw [beq_iff_eq, ByteArray.toList_eq]; exact h45
    have hu : unqL s.data.toList = some [] := by unfold unqL; rw [if_pos h45]
    rw [hu]
    clear hu h45
    go_enter Tryd.func32, Tryd.ntmps32
    go_wp2_with fail
    go_ret2
    exact ⟨Below.refl _ _, ByteArray.empty, rfl, fun b h => by cases h; rfl⟩
  · have he : (s.toList == [45]) = false := by rw [beq_eq_false_iff_ne, ByteArray.toList_eq]; exact h45
    have hu : unqL s.data.toList = (decL s.data.toList).bind (fun b => if quoL b = s.data.toList then some b else none) := by
      unfold unqL
      rw [if_neg h45]
      cases decL s.data.toList <;> rfl
    rw [hu]
    clear hu h45
    have hsz : s.data.toList.length = s.size := by simp
    obtain ⟨S, hS⟩ : ∃ S, S = s.data.toList := ⟨_, rfl⟩
    have HS := Lib.hid hS
    rw [← hS] at hsz ⊢
    have Hsz := Lib.hid hsz
    clear hS hsz
    go_enter Tryd.func32, Tryd.ntmps32
    go_upto_region 5 with fail
    go_loopw [4, 5] (fun s4 s5 wr => ∃ (i : Nat) (l : Bs), s5 = .int .i64 (i : Int) ∧ i ≤ s.size ∧ OwnB wr w.heap.size 5 s4 l ∧ l.length ≤ i ∧ decL S = (decL (S.drop i)).map (l ++ ·) ∧ Below w.heap.size w wr) (fun _ s5 _ => s.size - (intOf s5).toNat)
    case atStart => exact ⟨0, [], rfl, Nat.zero_le _, ⟨rfl, .inl ⟨rfl, rfl⟩⟩, Nat.le_refl _, by rw [List.drop_zero]; simp, Below.refl _ _⟩
    case round =>
      obtain ⟨i, l, rfl, hi, ho, hl, hd, hb⟩ := hrel
      have Ho := Lib.hid ho; clear ho
      have Hb := Lib.hid hb; clear hb
      have Hd := Lib.hid hd; clear hd
      have Hlw := Lib.hid (show w.heap.size ≤ wr.heap.size from Hb.out.size)
      have Hll := Lib.hid (show l.length ≤ 1000000 by omega)
      by_cases hlt : i < s.size
      · have hlt' : (i : Int) < (s.size : Int) := by omega
        obtain ⟨hil, hget⟩ := bs_at hlt
        have hil2 : i < S.length := by rw [HS.out]; exact hil
        have hget2 : s[i] = S[i] := by simp only [HS.out]; exact hget
        have Hdg := Lib.hid (drop_get hil2)
        rw [← hget2] at Hdg
        clear hget hget2
        by_cases hc : s[i] = 37
        · have e1 : (((s[i]).toNat : Int) != 37) = false := by rw [hc]; rfl
          rw [hc] at Hdg
          by_cases hsh : s.size - i < 3
          · have e2 : ((s.size : Int) - (i : Int) < 3) = True := by simp; omega
            have hnone : decL S = none := by
              rw [Hd.out, Hdg.out, dec_short (by rw [List.length_drop, Hsz.out]; omega)]
              rfl
            have HN := Lib.hid hnone
            clear hc hsh hnone
            go_wp2_with fail
            go_ret2
            exact .none Hb.out (by rw [HN.out]; rfl)
          · have e2 : ((s.size : Int) - (i : Int) < 3) = False := by simp; omega
            have hl1 : i + 1 < S.length := by rw [Hsz.out]; omega
            have hl2 : i + 2 < S.length := by rw [Hsz.out]; omega
            obtain ⟨a, ha⟩ : ∃ a, a = S[i + 1] := ⟨_, rfl⟩
            obtain ⟨b, hb⟩ : ∃ a, a = S[i + 2] := ⟨_, rfl⟩
            have hd2 : S.drop (i + 1) = a :: b :: S.drop (i + 3) := by rw [drop_get hl1, drop_get hl2, ha, hb]
            have hex : s.extract (i + 1) (i + 3) = ⟨#[a, b]⟩ := by
              apply ByteArray.ext
              apply Array.toList_inj.1
              show (s.extract (i + 1) (i + 3)).data.toList = [a, b]
              rw [Lib.extract_data, ← HS.out, hd2, show i + 3 - (i + 1) = 2 by omega]
              rfl
            rw [hd2] at Hdg
            have Hpw := Lib.hid (Hp.out a b wr Hb.out)
            cases hR : hexAcc [a, b] with
            | none =>
              have hnone : decL S = none := by
                rw [Hd.out, Hdg.out, dec_bad _ hR]
                rfl
              have HN := Lib.hid hnone
              rw [hR] at Hpw
              clear hc hl1 hl2 ha hb hd2 hnone hR
              go_wp2_with (go_at_call 47; refine Hpw.out.mono ?_; rintro e w1 ⟨hb1, x, t, p, hx, rfl⟩; have Hb1 := Lib.hid hb1; clear hb1 hx)
              go_ret2
              exact .none (Hb.out.trans (Hb1.out.mono Hb.out.size)) (by rw [HN.out]; rfl)
            | some n =>
              obtain ⟨hn, hdg⟩ := dec_good (S.drop (i + 3)) hR
              have hstep : decL S = (decL (S.drop (i + 3))).map ((l ++ [UInt8.ofNat n]) ++ ·) := by
                rw [Hd.out, Hdg.out, hdg, Option.map_map]
                congr 1
                funext x
                simp
              have Hst := Lib.hid hstep
              have hw8 : IntKind.u8.wrap (n : Int) = (n : Int) := by rw [IntKind.wrap_u8']; omega
              rw [hR] at Hpw
              have hi3 : i + 3 ≤ s.size := by omega
              clear hc hl1 hl2 ha hb hd2 hR hdg hstep
              go_upto_region 12 with (go_at_call 47; refine Hpw.out.mono ?_; rintro e w1 ⟨hb1, rfl⟩; have Hb1 := Lib.hid hb1; clear hb1)
              have Ho1 := Lib.hid (Ho.out.below Hb1.out)
              have Hbw := Lib.hid (Hb.out.trans (Hb1.out.mono Hb.out.size))
              have Hlw1 := Lib.hid (show w.heap.size ≤ w1.heap.size from Hbw.out.size)
              have hone := ReadB.one w1 (UInt8.ofNat n) 5
              have hn8 : (((UInt8.ofNat n).toNat : Nat) : Int) = (n : Int) := by simp; omega
              rw [hn8] at hone
              have Hone := Lib.hid hone
              clear hone hn8 hn
              go_wp2_with (at_builtin; refine wpList_append_read rfl _ _ 41 rfl w.heap.size 5 i0 (.int .u8 0) Tryd.underlying41 hi0 hz0 hs0 hb0 rfl _ _ _ rfl (World.ownsRow.alloc Ho1.out _) _ _ rfl Hone.out (by have := Hll.out; simp; omega) (by simp; have := Hlw1.out; omega) ?_; intro v4 w4 ho4 hg4; have Hg4 := Lib.hid hg4; clear hg4; have Ho4 := Lib.hid ho4; clear ho4)
              go_roundw
              case rel =>
                exact ⟨i + 3, l ++ [UInt8.ofNat n], by simp [Int.add_assoc], hi3, OwnB.of Ho4.out rfl rfl, by rw [List.length_append]; show l.length + 1 ≤ _; omega, Hst.out, below_grown Hg4.out (Hbw.out.alloc Hlw1.out _) (by simp; have := Hlw1.out; omega) (fun k hk => (World.ownsRow.lt Ho1.out k hk).1)⟩
              case measure => simp [intOf]; omega
        · have e1 : (((s[i]).toNat : Int) != 37) = true := by rw [bne_iff_ne]; intro h; exact hc (UInt8.toNat_inj.1 (by show _ = 37; omega))
          have Hone := Lib.hid (ReadB.one wr s[i] 5)
          have hstep : decL S = (decL (S.drop (i + 1))).map ((l ++ [s[i]]) ++ ·) := by
            rw [Hd.out, Hdg.out, dec_plain _ hc, Option.map_map]
            congr 1
            funext x
            simp
          have Hst := Lib.hid hstep
          clear hstep hc
          go_wp2_with (at_builtin; refine wpList_append_read rfl _ _ 41 rfl w.heap.size 5 i0 (.int .u8 0) Tryd.underlying41 hi0 hz0 hs0 hb0 rfl _ _ _ rfl (World.ownsRow.alloc Ho.out _) _ _ rfl Hone.out (by have := Hll.out; simp; omega) (by simp; have := Hlw.out; omega) ?_; intro v4 w4 ho4 hg4; have Hg4 := Lib.hid hg4; clear hg4; have Ho4 := Lib.hid ho4; clear ho4)
          go_roundw
          case rel =>
            exact ⟨i + 1, l ++ [s[i]], rfl, by omega, OwnB.of Ho4.out rfl rfl, by rw [List.length_append]; show l.length + 1 ≤ _; omega, Hst.out, below_grown Hg4.out (Hb.out.alloc Hlw.out _) (by simp; have := Hlw.out; omega) (fun k hk => (World.ownsRow.lt Ho.out k hk).1)⟩
          case measure => simp [intOf]; omega
      · have hie : i = s.size := by omega
        subst hie
        have hlt' : ¬ (s.size : Int) < (s.size : Int) := by omega
        have hend : decL S = some l := by
          rw [Hd.out, List.drop_of_length_le (by rw [Hsz.out]; exact Nat.le_refl _)]
          show some (l ++ []) = some l
          rw [List.append_nil]
        have HE := Lib.hid hend
        clear hend
        go_upto_region 16 with fail
        refine (wpIn_wide (n := 1)).1 ?_
        refine RegJ.wpIn_region_plan (F := Fence.wide) (KeptW wr) (.step 0 0 (.step 1 0 (.step 2 0 (.step 3 0 (.step 5 0 (.step 4 1 (.step 6 0 (.step 7 0 (.step 8 0 .nil))))))))) (by kernel_rfl) (by kernel_rfl) (by kernel_rfl) (fun _ _ d _ _ h => by cases d <;> exact h) ⟨rfl, rfl, rfl, Nat.le_refl _, fun _ _ => rfl⟩ ?_
        dsimp only [RegJ.pickJ, List.getElem?_cons_zero, List.getElem?_cons_succ]
        change RegJ.Can _ _ _ _ _ _ _ _ wr.drew
        have hkd : KeptW wr wr.drew := ⟨rfl, rfl, rfl, Nat.le_refl _, fun _ _ => rfl⟩
        generalize wr.drew = v1 at *
        refine RegJ.reads ?_; intro K hK; go_simp; (first | refine ⟨_, fun _ _ => rfl, hK _ ?_⟩ | refine hK _ ?_); clear hK K
        refine RegJ.reads ?_
        intro K hK
        go_simp
        refine ⟨.string ⟨l.toArray⟩, fun y hy => ?_, hK _ ?_⟩
        · have hcv := (Ho.out.read.below (KeptW.bel hy)).conv (P := Tryd.prog) (src := 41) (dst := 9) Tryd.underlying41 Tryd.underlying5 Tryd.underlying9
          go_simp
        clear hK K
        refine RegJ.reads ?_; intro K hK; go_simp; (first | refine ⟨_, fun _ _ => rfl, hK _ ?_⟩ | refine hK _ ?_); clear hK K
        refine RegJ.reads ?_
        intro K hK
        go_simp
        refine ⟨.string ⟨l.toArray⟩, fun y hy => ?_, hK _ ?_⟩
        · have hcv := (Ho.out.read.below (KeptW.bel hy)).conv (P := Tryd.prog) (src := 41) (dst := 9) Tryd.underlying41 Tryd.underlying5 Tryd.underlying9
          go_simp
        clear hK K
        refine RegJ.reads ?_; intro K hK; go_simp; (first | refine ⟨_, fun _ _ => rfl, hK _ ?_⟩ | refine hK _ ?_); clear hK K
        refine RegJ.turns (fun _ => trivial) ?_
        intro K K0 hK hK0
        go_simp
        refine ⟨trivial, ?_⟩
        refine (callsIn_wide.2 (Hq.out ⟨l.toArray⟩ (by have := Hll.out; show l.toArray.size ≤ 1000000; simp; omega) v1)).mono ?_
        rintro e v2 ⟨rfl, hb7⟩
        have v2k : KeptW wr v2 := KeptW.mono hkd hb7
        refine hK _ _ _ (fun _ h => h) v2k ?_
        clear hK K hK0 K0
        iterate 3 (refine RegJ.reads ?_; intro K hK; go_simp; (first | refine ⟨_, fun _ _ => rfl, hK _ ?_⟩ | refine hK _ ?_); clear hK K)
        refine RegJ.nil ?_
        have Hvk := Lib.hid (KeptW.bel v2k)
        clear v2k hkd
        go_wp2_with fail
        go_ret2
        have hq : (quoL l == s.toList) = decide (quoL l = S) := by rw [HS.out, Bool.eq_iff_iff, beq_iff_eq, decide_eq_true_iff, ByteArray.toList_eq]
        exact .get (Hb.out.trans (Hvk.out.mono Hb.out.size)) (by rw [HE.out, hq]; simp)
end Go.Proofs.YtjjlodeiejobdaaDoor
