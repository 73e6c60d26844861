/- Play (plain): lines that say nothing between the steps; the first wrong line. Condition: as each theorem says. -/
import Derived.Test.YtjjlodeiejobdaaDoorPzC
namespace Go.Proofs.YtjjlodeiejobdaaDoor
open Go.RowKit Go.Shelf Go.Deep
/-- The text that the law makes: each step's line, an empty one, a remark. -/
def gapL (b : Bs) (z : List StpV) : Bs := z.flatMap (fun s => (sayL s).getD [] ++ [10] ++ [10, 35, 32] ++ b ++ [10])
theorem gap_snoc (b : Bs) (z : List StpV) (s : StpV) : gapL b (z ++ [s]) = gapL b z ++ ((sayL s).getD [] ++ [10] ++ [10, 35, 32] ++ b ++ [10]) := by simp [gapL]
theorem gap_cons (b : Bs) (z : List StpV) (s : StpV) (r : Bs) : gapL b (s :: z) ++ r = (sayL s).getD [] ++ 10 :: ([] ++ 10 :: ((35 :: 32 :: b) ++ 10 :: (gapL b z ++ r))) := by simp [gapL]
def gapNum : Nat → List StpV → List (Nat × ByteArray)
  | _, [] => []
  | i, s :: r => (i + 1, ⟨((sayL s).getD []).toArray⟩) :: gapNum (i + 3) r
def gapP (b : Bs) (z : List StpV) : List Bs := z.flatMap (fun s => [(sayL s).getD [], [], 35 :: 32 :: b])
theorem spl_gap {b : Bs} (hb : 10 ∉ b) : ∀ {z : List StpV}, AllS z → ∀ r, splL 10 (gapL b z ++ r) = gapP b z ++ splL 10 r
  | [], _, _ => rfl
  | s :: z, h, r => by
    obtain ⟨l, hl⟩ := Option.isSome_iff_exists.1 (h s (List.mem_cons_self ..))
    rw [gap_cons, hl]
    show splL 10 (l ++ 10 :: _) = _
    rw [spl_line (say_line hl).1, spl_line (by simp), spl_line (by simpa using hb), spl_gap hb (fun t ht => h t (List.mem_cons_of_mem _ ht))]
    simp [gapP, hl]
def baB (l : Bs) : ByteArray := ⟨l.toArray⟩
theorem flt_gap {b : Bs} : ∀ {z : List StpV} {i : Nat}, AllS z → ∀ R, fltB i ((gapP b z).map baB ++ R) = gapNum i z ++ fltB (i + 3 * z.length) R
  | [], i, _, R => rfl
  | s :: z, i, h, R => by
    obtain ⟨l, hl⟩ := Option.isSome_iff_exists.1 (h s (List.mem_cons_self ..))
    have ih := flt_gap (b := b) (z := z) (i := i + 3) (fun t ht => h t (List.mem_cons_of_mem _ ht)) R
    show (if saysB (baB ((sayL s).getD [])) then (i + 1, baB ((sayL s).getD [])) :: (if saysB (baB []) then _ else if saysB (baB (35 :: 32 :: b)) then _ else fltB (i + 1 + 1 + 1) ((gapP b z).map baB ++ R)) else _) = _
    rw [if_pos (by rw [hl, says_eq]; exact (say_line hl).2), if_neg (by rw [says_eq]; decide), if_neg (by rw [says_eq]; show ¬ ((35 : UInt8) != 35) = true; decide)]
    rw [show i + 1 + 1 + 1 = i + 3 by omega, ih, List.length_cons, show i + 3 + 3 * z.length = i + 3 * (z.length + 1) by omega]
    rfl
theorem prs_gap : ∀ {z : List StpV} {i : Nat} {acc : List StpV}, AllS z → (∀ s ∈ z, s.Ok) → acc.length + z.length ≤ 400 → ∀ R, prsL (gapNum i z ++ R) acc = prsL R (acc ++ z)
  | [], i, acc, _, _, _, R => by simp [gapNum]
  | s :: r, i, acc, h, hok, ha, R => by
    obtain ⟨l, hl⟩ := Option.isSome_iff_exists.1 (h s (List.mem_cons_self ..))
    rw [List.length_cons] at ha
    show prsL ((i + 1, baB ((sayL s).getD [])) :: (gapNum (i + 3) r ++ R)) acc = _
    rw [prsL, show rdL _ = some s from (rd_iff (hok s (List.mem_cons_self ..))).2 (by rw [hl]; rfl)]
    simp only
    rw [if_neg (by omega), prs_gap (fun t ht => h t (List.mem_cons_of_mem _ ht)) (fun t ht => hok t (List.mem_cons_of_mem _ ht)) (by rw [List.length_append, List.length_singleton]; omega), List.append_assoc]
    rfl
theorem prs_text {b : Bs} (hb : 10 ∉ b) {z : List StpV} (ha : AllS z) (hok : ∀ s ∈ z, s.Ok) (hl : z.length ≤ 400) (T : ByteArray) (hT : T.data.toList = gapL b z) :
    prsL (fltB 0 (pcsB 10 T)) [] = (z, 0, 0) := by
  unfold pcsB
  rw [hT, show gapL b z = gapL b z ++ [] from (List.append_nil _).symm, spl_gap hb ha, List.map_append]
  show prsL (fltB 0 ((gapP b z).map baB ++ [baB []])) [] = _
  rw [flt_gap ha, prs_gap ha hok (by simpa using hl)]
  show prsL (if saysB (baB []) then _ else []) _ = _
  rw [if_neg (by rw [says_eq]; decide)]
  rfl
/-- Does a line that stands alone say something that is no step? -/
def wrongL (b : Bs) : Bool := saysL b && (rdL b).isNone
theorem spl_no {c : UInt8} : ∀ {l : Bs}, c ∉ l → splL c l = [l]
  | [], _ => rfl
  | x :: r, h => by
    rw [splL, if_neg (fun e => h (by rw [e]; exact List.mem_cons_self ..)), spl_no (fun q => h (List.mem_cons_of_mem _ q))]
theorem prs_alone {b : ByteArray} (hb : 10 ∉ b.data.toList) : ∃ Z n, prsL (fltB 0 (pcsB 10 b)) [] = (Z, n, if wrongL b.data.toList then 4 else 0) := by
  unfold pcsB
  rw [spl_no hb]
  show ∃ Z n, prsL (if saysB ⟨b.data.toList.toArray⟩ then [(1, ⟨b.data.toList.toArray⟩)] else []) [] = _
  rw [says_eq]
  show ∃ Z n, prsL (if saysL b.data.toList then [(1, ⟨b.data.toList.toArray⟩)] else []) [] = _
  unfold wrongL
  cases saysL b.data.toList with
  | false => exact ⟨_, _, rfl⟩
  | true =>
    simp only [if_true, Bool.true_and]
    cases hr : rdL b.data.toList with
    | none => exact ⟨[], 1, by rw [prsL, show rdL (⟨b.data.toList.toArray⟩ : ByteArray).data.toList = none from hr]; rfl⟩
    | some s => exact ⟨[s], 0, by rw [prsL, show rdL (⟨b.data.toList.toArray⟩ : ByteArray).data.toList = some s from hr]; rfl⟩
def NOSL : Bs := [110, 111, 32, 115, 117, 99, 104, 32, 108, 105, 110, 101]
theorem rd_nos : rdL NOSL = none := by decide
/-- The first wrong line is told. -/
theorem prs_broken {b : Bs} (hb : 10 ∉ b) {z : List StpV} (ha : AllS z) (hok : ∀ s ∈ z, s.Ok) (hl : z.length ≤ 399) (T : ByteArray) (hT : T.data.toList = gapL b z ++ b ++ [10] ++ (NOSL ++ [10])) :
    prsL (fltB 0 (pcsB 10 T)) [] = ([], if wrongL b then 1 + 3 * z.length else 2 + 3 * z.length, 4) := by
  unfold pcsB
  have e : T.data.toList = gapL b z ++ (b ++ 10 :: (NOSL ++ 10 :: [])) := by rw [hT]; simp
  rw [e, spl_gap hb ha, spl_line hb, spl_line (by decide), List.map_append]
  show prsL (fltB 0 ((gapP b z).map baB ++ [baB b, baB NOSL, baB []])) [] = _
  rw [flt_gap ha, prs_gap ha hok (by simpa using Nat.le_trans hl (by decide))]
  show prsL (if saysB (baB b) then (0 + 3 * z.length + 1, baB b) :: (if saysB (baB NOSL) then (0 + 3 * z.length + 1 + 1, baB NOSL) :: fltB _ [baB []] else _) else (if saysB (baB NOSL) then (0 + 3 * z.length + 1 + 1, baB NOSL) :: fltB _ [baB []] else _)) ([] ++ z) = _
  rw [if_pos (show saysB (baB NOSL) = true by rw [says_eq]; decide), says_eq]
  show prsL (if saysL b then _ else _) _ = _
  unfold wrongL
  cases saysL b with
  | false =>
    simp only [Bool.false_and, Bool.false_eq_true, if_false]
    rw [prsL, show rdL (baB NOSL).data.toList = none from rd_nos, show 0 + 3 * z.length + 1 + 1 = 2 + 3 * z.length by omega]
  | true =>
    simp only [if_true, Bool.true_and]
    rw [prsL]
    cases hr : rdL b with
    | none =>
      rw [show rdL (baB b).data.toList = none from hr, show 0 + 3 * z.length + 1 = 1 + 3 * z.length by omega]
      rfl
    | some s =>
      rw [show rdL (baB b).data.toList = some s from hr]
      simp only [Option.isNone_some, Bool.false_eq_true, if_false]
      rw [if_neg (by rw [List.nil_append]; omega), prsL, show rdL (baB NOSL).data.toList = none from rd_nos, show 0 + 3 * z.length + 1 + 1 = 2 + 3 * z.length by omega]
theorem cnt_gap {b : Bs} (hb : 10 ∉ b) : ∀ {z : List StpV}, AllS z → (gapL b z).count 10 = 3 * z.length
  | [], _ => rfl
  | s :: z, h => by
    obtain ⟨l, hl⟩ := Option.isSome_iff_exists.1 (h s (List.mem_cons_self ..))
    have e := gap_cons b z s []
    rw [List.append_nil, List.append_nil] at e
    rw [e, hl]
    show (l ++ 10 :: _).count 10 = _
    rw [List.count_append, List.count_eq_zero.2 (say_line hl).1, List.count_cons_self, List.nil_append, List.count_cons_self, List.count_append, List.count_eq_zero.2 (show 10 ∉ 35 :: 32 :: b by simpa using hb), List.count_cons_self, cnt_gap hb (fun t ht => h t (List.mem_cons_of_mem _ ht)), List.length_cons]
    omega
theorem gap_len {b : Bs} (hb : b.length ≤ 100) : ∀ {z : List StpV}, (∀ s ∈ z, s.Ok) → (∀ s ∈ z, s.y.length ≤ 100 ∧ s.o.length ≤ 100 ∧ s.n.length ≤ 100) → (gapL b z).length ≤ z.length * 2000
  | [], _, _ => Nat.zero_le _
  | s :: z, hok, ht => by
    have h1 := out_len (z := [s]) (fun t h => hok t (by rw [List.mem_singleton.1 h]; exact List.mem_cons_self ..)) (fun t h => ht t (by rw [List.mem_singleton.1 h]; exact List.mem_cons_self ..))
    have h2 : ((sayL s).getD []).length + 1 ≤ 1807 := by simpa [outL] using h1
    have ih := gap_len hb (z := z) (fun t h => hok t (List.mem_cons_of_mem _ h)) (fun t h => ht t (List.mem_cons_of_mem _ h))
    have e := gap_cons b z s []
    rw [List.append_nil, List.append_nil] at e
    rw [e, List.length_append, List.length_cons, List.nil_append, List.length_cons, List.length_append, List.length_cons, List.length_cons, List.length_cons, List.length_cons, Nat.succ_mul]
    omega
end Go.Proofs.YtjjlodeiejobdaaDoor
