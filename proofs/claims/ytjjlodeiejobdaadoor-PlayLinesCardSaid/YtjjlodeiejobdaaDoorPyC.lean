/- Play: said. Condition: the text is not too long. -/
import Derived.Test.YtjjlodeiejobdaaDoorPyK
namespace Go.Proofs.YtjjlodeiejobdaaDoor
open Go.RowKit Go.Shelf
def saysL : Bs → Bool
  | [] => false
  | c :: _ => c != 35
theorem says_eq (p : ByteArray) : saysB p = saysL p.data.toList := by
  unfold saysB saysL
  cases p.data.toList <;> rfl
/-- The lines that say something, each with a line's end. -/
def saidL (l : List Bs) : Bs := l.flatMap (fun p => if saysL p then p ++ [10] else [])
theorem said_snoc (l : List Bs) (p : Bs) : saidL (l ++ [p]) = saidL l ++ (if saysL p then p ++ [10] else []) := by simp [saidL]
theorem said_yes {l : List Bs} {p : Bs} (h : saysL p = true) : saidL (l ++ [p]) = saidL l ++ (p ++ [10]) := by rw [said_snoc, if_pos h]
theorem said_no {l : List Bs} {p : Bs} (h : saysL p = false) : saidL (l ++ [p]) = saidL l := by rw [said_snoc, h]; simp
theorem spl_at {c : UInt8} : ∀ {l : Bs} {k : Nat}, (∀ j, j < k → l[j]? ≠ some c) → l[k]? = some c → splL c l = l.take k :: splL c (l.drop (k + 1))
  | x :: r, 0, _, h => by
    simp at h
    subst h
    rw [splL, if_pos rfl]
    simp
  | x :: r, k + 1, hn, h => by
    have hx : x ≠ c := fun e => hn 0 (by omega) (by simp [e])
    have ih := spl_at (l := r) (k := k) (fun j hj => by have := hn (j + 1) (by omega); simpa using this) (by simpa using h)
    rw [splL, if_neg hx, ih]
    simp
theorem spl_last {c : UInt8} : ∀ {l : Bs}, (∀ j : Nat, l[j]? ≠ some c) → splL c l = [l]
  | [], _ => rfl
  | x :: r, hn => by
    have hx : x ≠ c := fun e => hn 0 (by simp [e])
    rw [splL, if_neg hx, spl_last (l := r) (fun j => by have := hn (j + 1); simpa using this)]
/-- What said knows between two rounds. -/
structure SdI (L : Bs) (i f : Nat) (A : ByteArray) : Prop where
  pre : ∃ pre, splL 10 L = pre ++ splL 10 (L.drop f) ∧ A.data.toList = saidL pre
  ord : f ≤ i ∧ i ≤ L.length
  no : ∀ j, f ≤ j → j < i → L[j]? ≠ some 10
  len : A.size ≤ f
def SdS (L : Bs) (i f : Nat) (A : ByteArray) : Prop := SdI L i f A ∨ (i = L.length + 1 ∧ A.data.toList = saidL (splL 10 L))
theorem SdI.step {L : Bs} {i f : Nat} {A : ByteArray} (h : SdI L i f A) (hi : i < L.length) (hc : L[i]? ≠ some 10) : SdI L (i + 1) f A :=
  ⟨h.pre, ⟨by have := h.ord; omega, hi⟩, fun j h1 h2 => by
    rcases Nat.lt_or_ge j i with q | q
    · exact h.no j h1 q
    · obtain rfl : j = i := by omega
      exact hc, h.len⟩
theorem SdI.line {L : Bs} {i f : Nat} {A A' : ByteArray} (h : SdI L i f A) (hi : i < L.length) (hc : L[i]? = some 10) (hA : A'.data.toList = A.data.toList ++ (if saysL ((L.drop f).take (i - f)) then (L.drop f).take (i - f) ++ [10] else [])) : SdI L (i + 1) (i + 1) A' := by
  obtain ⟨pre, h1, h2⟩ := h.pre
  have ho := h.ord
  refine ⟨⟨pre ++ [(L.drop f).take (i - f)], ?_, ?_⟩, ⟨Nat.le_refl _, hi⟩, fun j q1 q2 => by omega, ?_⟩
  · rw [h1, spl_at (c := 10) (l := L.drop f) (k := i - f) (fun j hj => by rw [List.getElem?_drop]; exact h.no _ (by omega) (by omega)) (by rw [List.getElem?_drop, show f + (i - f) = i by omega]; exact hc), List.drop_drop, show f + (i - f + 1) = i + 1 by omega]
    simp
  · rw [hA, h2, said_snoc]
  · have q1 := congrArg List.length hA
    have q2 := h.len
    have q3 : A'.data.toList.length = A'.size := Array.length_toList
    have q4 : A.data.toList.length = A.size := Array.length_toList
    have q5 : ((L.drop f).take (i - f)).length ≤ i - f := List.length_take_le _ _
    rw [List.length_append] at q1
    split at q1
    · rw [List.length_append, List.length_singleton] at q1; omega
    · rw [List.length_nil] at q1; omega
theorem SdI.last {L : Bs} {i f : Nat} {A A' : ByteArray} (h : SdI L i f A) (hi : i = L.length) (hA : A'.data.toList = A.data.toList ++ (if saysL ((L.drop f).take (i - f)) then (L.drop f).take (i - f) ++ [10] else [])) : SdS L (i + 1) (i + 1) A' := by
  obtain ⟨pre, h1, h2⟩ := h.pre
  have ho := h.ord
  refine .inr ⟨by omega, ?_⟩
  have h3 : (L.drop f).take (i - f) = L.drop f := List.take_of_length_le (by rw [List.length_drop]; omega)
  rw [h3] at hA
  rw [h1, spl_last (l := L.drop f) (fun j => ?_), said_snoc, hA, h2]
  rcases Nat.lt_or_ge (f + j) L.length with q | q
  · rw [List.getElem?_drop]; exact h.no _ (by omega) (by omega)
  · rw [List.getElem?_drop, List.getElem?_eq_none q]; intro e; cases e
def StrIs (l : Bs) (w : World) (e : Ending) (w' : World) : Prop := e = .returned (.string ⟨l.toArray⟩) ∧ w' = w
theorem bs_list {x : ByteArray} {i : Nat} (h : i < x.size) : x.data.toList[i]? = some (x[i]'h) := by
  rw [Array.getElem?_toList, Array.getElem?_eq_getElem (show i < x.data.size from h)]
  rfl
theorem ba_list {x y : ByteArray} (h : x.data.toList = y.data.toList) : x = y := ByteArray.ext (Array.toList_inj.1 h)
theorem ext_list (x : ByteArray) (f i : Nat) : (x.extract f i).data.toList = (x.data.toList.drop f).take (i - f) := by
  rw [ByteArray.data_extract, Array.toList_extract, List.extract_eq_take_drop]
theorem says_cut {L : Bs} {f i : Nat} {c : UInt8} (h : f < i) (hc : L[f]? = some c) : saysL ((L.drop f).take (i - f)) = (c != 35) := by
  obtain ⟨hf, rfl⟩ := List.getElem?_eq_some_iff.1 hc
  rw [List.drop_eq_getElem_cons hf, show i - f = (i - f - 1) + 1 by omega, List.take_succ_cons]
  rfl
theorem app_list (A B : ByteArray) : (A ++ B).data.toList = A.data.toList ++ B.data.toList := by
  rw [ByteArray.data_append, Array.toList_append]
theorem byte_ne {c d : UInt8} (h : c ≠ d) : ((c.toNat : Int) != (d.toNat : Int)) = true := by
  rw [bne_iff_ne]
  intro e
  exact h (UInt8.toNat_inj.1 (by omega))
set_option maxRecDepth 100000 in
set_option maxHeartbeats 16000000 in
theorem said31_any (x : ByteArray) (hx : x.size ≤ 1000000) (w : World) : Calls Tryd.prog 14 #[.string x] w (StrIs (saidL (splL 10 x.data.toList)) w) := by
  obtain ⟨L, hL⟩ : ∃ L, L = x.data.toList := ⟨_, rfl⟩
  rw [← hL]
  have hlen : L.length = x.size := by rw [hL]; exact Array.length_toList
  have HL := Lib.hid (And.intro hL (And.intro hlen hx))
  clear hL hlen hx
  go_enter Tryd.func14, Tryd.ntmps14
  go_upto_region 4 with fail
  go_loopw [3, 4, 5] (fun s3 s4 s5 wr => ∃ (A : ByteArray) (f i : Nat), s3 = .string A ∧ s4 = .int .i64 (f : Int) ∧ s5 = .int .i64 (i : Int) ∧ SdS L i f A ∧ wr = w) (fun _ _ s5 _ => x.size + 1 - (intOf s5).toNat)
  case atStart => exact ⟨⟨#[]⟩, 0, 0, rfl, rfl, rfl, .inl ⟨⟨[], rfl, rfl⟩, ⟨Nat.le_refl _, Nat.zero_le _⟩, fun j h1 h2 => by omega, Nat.le_refl _⟩, rfl⟩
  case round =>
    obtain ⟨A, f, i, rfl, rfl, rfl, hI, rfl⟩ := hrel
    rcases hI with hI | ⟨hi, hA⟩
    · have ho := hI.ord
      have hle : (i : Int) ≤ (x.size : Int) := by have := HL.out; omega
      have HW1 := Lib.hid (show wrap64 ((i : Int) + 1) = (i : Int) + 1 by have := HL.out; unfold wrap64; omega)
      have HI := Lib.hid hI
      have HO := Lib.hid ho
      clear hI ho
      by_cases hil : i < x.size
      · have hlt : (i : Int) < (x.size : Int) := by omega
        have hget := bs_list hil
        by_cases hc : (x[i]'hil) = 10
        · have hcv : (((x[i]'hil).toNat : Int) != 10) = false := by rw [hc]; rfl
          have hgc : L[i]? = some 10 := by rw [HL.out.1, hget, hc]
          have HGC := Lib.hid hgc
          clear hget hc hgc
          have HK : Hid (∀ A' : ByteArray, A'.data.toList = A.data.toList ++ (if saysL ((L.drop f).take (i - f)) then (L.drop f).take (i - f) ++ [10] else []) → SdS L (i + 1) (i + 1) A') := Lib.hid (fun A' hA => .inl (HI.out.line (by rw [HL.out.2.1]; exact hil) HGC.out hA))
          by_cases hfi : f < i
          · have hfi' : (i : Int) > (f : Int) := by omega
            have hfs : f < x.size := by have := HL.out; omega
            have hfg : (0 : Int) ≤ (f : Int) ∧ (f : Int) < (x.size : Int) := by omega
            have hcut := says_cut (L := L) (c := x[f]'hfs) hfi (by rw [HL.out.1]; exact bs_list hfs)
            by_cases hq : (x[f]'hfs) = 35
            · have hqv : (((x[f]'hfs).toNat : Int) != 35) = false := by rw [hq]; rfl
              have HF := Lib.hid (HK.out A (by rw [hcut, hq]; exact (List.append_nil _).symm))
              clear hcut hq HK
              go_wp2
              go_roundw
              case rel => exact ⟨A, i + 1, i + 1, rfl, by show Value.int .i64 (wrap64 ((i : Int) + 1)) = _; rw [HW1.out]; rfl, by show Value.int .i64 (wrap64 ((i : Int) + 1)) = _; rw [HW1.out]; rfl, HF.out, by trivial⟩
              case measure => show x.size + 1 - (intOf (.int .i64 (wrap64 ((i : Int) + 1)))).toNat < _; rw [HW1.out]; simp only [intOf]; omega
            · have hqv : (((x[f]'hfs).toNat : Int) != 35) = true := byte_ne (d := 35) hq
              have HF := Lib.hid (HK.out (A ++ x.extract f i ++ ⟨#[10]⟩) (by rw [hcut, if_pos (by simpa using hq), app_list, app_list, ext_list, ← HL.out.1, List.append_assoc]))
              have hfle : f ≤ i := by omega
              have ha1 : ¬ 9223372036854775807 < A.size + (i - f) := by have := HI.out.len; have := HL.out; omega
              have ha2 : ¬ 9223372036854775807 < A.size + (i - f) + 1 := by have := HI.out.len; have := HL.out; omega
              have hile : i ≤ x.size := by omega
              clear hcut hq HK
              go_wp2
              go_roundw
              case rel => exact ⟨_, i + 1, i + 1, rfl, by show Value.int .i64 (wrap64 ((i : Int) + 1)) = _; rw [HW1.out]; rfl, by show Value.int .i64 (wrap64 ((i : Int) + 1)) = _; rw [HW1.out]; rfl, HF.out, by trivial⟩
              case measure => show x.size + 1 - (intOf (.int .i64 (wrap64 ((i : Int) + 1)))).toNat < _; rw [HW1.out]; simp only [intOf]; omega
          · have hfi' : ¬ (i : Int) > (f : Int) := by omega
            have HF := Lib.hid (HK.out A (by rw [show i - f = 0 by omega]; simp [saysL]))
            clear HK
            go_wp2
            go_roundw
            case rel => exact ⟨A, i + 1, i + 1, rfl, by show Value.int .i64 (wrap64 ((i : Int) + 1)) = _; rw [HW1.out]; rfl, by show Value.int .i64 (wrap64 ((i : Int) + 1)) = _; rw [HW1.out]; rfl, HF.out, by trivial⟩
            case measure => show x.size + 1 - (intOf (.int .i64 (wrap64 ((i : Int) + 1)))).toNat < _; rw [HW1.out]; simp only [intOf]; omega
        · have hcv : (((x[i]'hil).toNat : Int) != 10) = true := byte_ne (d := 10) hc
          have HN := Lib.hid (HI.out.step (by rw [HL.out.2.1]; exact hil) (by rw [HL.out.1, hget]; intro e; exact hc (Option.some.inj e)))
          clear hget hc
          go_wp2
          go_roundw
          case rel => exact ⟨A, f, i + 1, rfl, rfl, by show Value.int .i64 (wrap64 ((i : Int) + 1)) = _; rw [HW1.out]; rfl, .inl HN.out, by trivial⟩
          case measure => show x.size + 1 - (intOf (.int .i64 (wrap64 ((i : Int) + 1)))).toNat < _; rw [HW1.out]; simp only [intOf]; omega
      · have hlt : ¬ (i : Int) < (x.size : Int) := by omega
        have HIL := Lib.hid (show i = L.length by have := HL.out; have := HO.out; omega)
        have HK : Hid (∀ A' : ByteArray, A'.data.toList = A.data.toList ++ (if saysL ((L.drop f).take (i - f)) then (L.drop f).take (i - f) ++ [10] else []) → SdS L (i + 1) (i + 1) A') := Lib.hid (fun A' hA => HI.out.last HIL.out hA)
        by_cases hfi : f < i
        · have hfi' : (i : Int) > (f : Int) := by omega
          have hfs : f < x.size := by have := HL.out; omega
          have hfg : (0 : Int) ≤ (f : Int) ∧ (f : Int) < (x.size : Int) := by omega
          have hcut := says_cut (L := L) (c := x[f]'hfs) hfi (by rw [HL.out.1]; exact bs_list hfs)
          by_cases hq : (x[f]'hfs) = 35
          · have hqv : (((x[f]'hfs).toNat : Int) != 35) = false := by rw [hq]; rfl
            have HF := Lib.hid (HK.out A (by rw [hcut, hq]; exact (List.append_nil _).symm))
            clear hcut hq HK
            go_wp2
            go_roundw
            case rel => exact ⟨A, i + 1, i + 1, rfl, by show Value.int .i64 (wrap64 ((i : Int) + 1)) = _; rw [HW1.out]; rfl, by show Value.int .i64 (wrap64 ((i : Int) + 1)) = _; rw [HW1.out]; rfl, HF.out, by trivial⟩
            case measure => show x.size + 1 - (intOf (.int .i64 (wrap64 ((i : Int) + 1)))).toNat < _; rw [HW1.out]; simp only [intOf]; omega
          · have hqv : (((x[f]'hfs).toNat : Int) != 35) = true := byte_ne (d := 35) hq
            have HF := Lib.hid (HK.out (A ++ x.extract f i ++ ⟨#[10]⟩) (by rw [hcut, if_pos (by simpa using hq), app_list, app_list, ext_list, ← HL.out.1, List.append_assoc]))
            have hfle : f ≤ i := by omega
            have ha1 : ¬ 9223372036854775807 < A.size + (i - f) := by have := HI.out.len; have := HL.out; omega
            have ha2 : ¬ 9223372036854775807 < A.size + (i - f) + 1 := by have := HI.out.len; have := HL.out; omega
            have hile : i ≤ x.size := by omega
            clear hcut hq HK
            go_wp2
            go_roundw
            case rel => exact ⟨_, i + 1, i + 1, rfl, by show Value.int .i64 (wrap64 ((i : Int) + 1)) = _; rw [HW1.out]; rfl, by show Value.int .i64 (wrap64 ((i : Int) + 1)) = _; rw [HW1.out]; rfl, HF.out, by trivial⟩
            case measure => show x.size + 1 - (intOf (.int .i64 (wrap64 ((i : Int) + 1)))).toNat < _; rw [HW1.out]; simp only [intOf]; omega
        · have hfi' : ¬ (i : Int) > (f : Int) := by omega
          have HF := Lib.hid (HK.out A (by rw [show i - f = 0 by omega]; simp [saysL]))
          clear HK
          go_wp2
          go_roundw
          case rel => exact ⟨A, i + 1, i + 1, rfl, by show Value.int .i64 (wrap64 ((i : Int) + 1)) = _; rw [HW1.out]; rfl, by show Value.int .i64 (wrap64 ((i : Int) + 1)) = _; rw [HW1.out]; rfl, HF.out, by trivial⟩
          case measure => show x.size + 1 - (intOf (.int .i64 (wrap64 ((i : Int) + 1)))).toNat < _; rw [HW1.out]; simp only [intOf]; omega
    · have hle : ¬ (i : Int) ≤ (x.size : Int) := by have := HL.out; omega
      have HE := Lib.hid hA
      clear hA
      go_wp2
      go_ret
      exact ⟨by rw [← HE.out]; rfl, rfl⟩
end Go.Proofs.YtjjlodeiejobdaaDoor
