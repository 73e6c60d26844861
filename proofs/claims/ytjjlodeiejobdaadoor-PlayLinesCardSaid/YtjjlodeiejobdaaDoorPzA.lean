/- Play: wakes. Condition: the library's variables hold what the program's text lays. -/
import Derived.Test.YtjjlodeiejobdaaDoorPyI
namespace Go.Proofs.YtjjlodeiejobdaaDoor
open Go.RowKit Go.Shelf Go.Deep
theorem sl_up {w : World} {a : Option Addr} {len : Nat} : ∀ {z : List StpV}, (∀ s ∈ z, s.Ok) → SlAt w a len z → ∃ y : List StpO, y.map (·.val) = z ∧ StpsAt w a len y := by
  intro z hok h
  have hm : (z.pmap (fun s hs => (⟨s, hs⟩ : StpO)) hok).map (·.val) = z := by
    rw [List.map_pmap]
    simp
  refine ⟨_, hm, by rw [← h.hlen]; simp, h.hmax, fun i x hx => ?_⟩
  have h2 : z[i]? = some x.val := by rw [← hm, List.getElem?_map, hx]; rfl
  exact h.cells i x.val h2
theorem Write_all (a : Option Addr) (len cap : Nat) (z : List StpV) (hlen : len ≤ 100000) (hok : ∀ s ∈ z, s.Ok) (hmid : ∀ s ∈ z, s.Mid) (w : World) (hz : SlAt w a len z) (hv : PV w) :
    Calls Tryd.prog 9 #[.slice a len cap] w (WrtR (wrL z 0 []) w) := by
  obtain ⟨y, hy, h⟩ := sl_up hok hz
  have h2 := Write_any a len cap y hlen (fun s hs => hmid _ (by rw [← hy]; exact List.mem_map.2 ⟨s, hs, rfl⟩)) w h hv
  rwa [hy] at h2
theorem Parse_any (x : ByteArray) (hxs : x.size ≤ 1000000) (w : World) (hv : PV w) : Calls Tryd.prog 11 #[.string x] w (PrsR (prsL (fltB 0 (pcsB 10 x)) []) w) := callsIn_wide.1 (Parse_in x hxs w hv)
theorem PrsR.to {R : List StpV × Nat × Nat} {w w' : World} {e : Ending} (h : PrsR R w e w') {z : List StpV} {n k : Nat} (hR : R = (z, n, k)) : Below w.heap.size w w' ∧ ∃ a c, e = .returned (.tuple #[.slice a z.length c, .int .i64 (n : Int), .int .i64 (k : Int)]) ∧ SlAt w' a z.length z := by
  subst hR
  obtain ⟨h1, v, h2, a, c, rfl, h3⟩ := h
  exact ⟨h1, a, c, h2, h3⟩
theorem WrtR.to {R : Bs × Nat × Nat} {w w' : World} {e : Ending} (h : WrtR R w e w') {l : Bs} {n k : Nat} (hR : R = (l, n, k)) : Below w.heap.size w w' ∧ e = .returned (.tuple #[.string ⟨l.toArray⟩, .int .i64 (n : Int), .int .i64 (k : Int)]) := by
  subst hR
  exact h
def wkC : List Value := stpC WK1 ++ (stpC WK2 ++ stpC WK3)
theorem wk_at {w : World} {g : Nat} (h : w.heap[g]? = some (.cells wkC.toArray 39 (0, 0))) : SlAt w (some ⟨g, 0, none⟩) 3 [WK1, WK2, WK3] := by
  have hr := range_row h
  refine ⟨rfl, by decide, fun i x hx => ⟨g, 0, rfl, (Array.getElem?_eq_some_iff.1 h).1, fun j v hj => ?_⟩⟩
  have hjl : j < 11 := (List.getElem?_eq_some_iff.1 hj).1
  match i, hx with
  | 0, hx => cases hx; exact hr (0 * 11 + j) v (by unfold wkC; rw [List.getElem?_append_left (show 0 * 11 + j < (stpC WK1).length by show _ < 11; omega), Nat.zero_mul, Nat.zero_add]; exact hj)
  | 1, hx => cases hx; exact hr (1 * 11 + j) v (by unfold wkC; rw [List.getElem?_append_right (show (stpC WK1).length ≤ 1 * 11 + j by show 11 ≤ _; omega), show 1 * 11 + j - (stpC WK1).length = j by show 1 * 11 + j - 11 = j; omega, List.getElem?_append_left (show j < (stpC WK2).length from hjl)]; exact hj)
  | 2, hx => cases hx; exact hr (2 * 11 + j) v (by unfold wkC; rw [List.getElem?_append_right (show (stpC WK1).length ≤ 2 * 11 + j by show 11 ≤ _; omega), show 2 * 11 + j - (stpC WK1).length = 11 + j by show 2 * 11 + j - 11 = _; omega, List.getElem?_append_right (show (stpC WK2).length ≤ 11 + j by show 11 ≤ _; omega), show 11 + j - (stpC WK2).length = j by show 11 + j - 11 = j; omega]; exact hj)
theorem wk_mid : ∀ s ∈ [WK1, WK2, WK3], s.Ok ∧ s.Mid := by
  intro s hs
  simp only [List.mem_cons, List.not_mem_nil, or_false] at hs
  rcases hs with rfl | rfl | rfl
  · exact ⟨wk_ok.1, by decide, by decide, by decide⟩
  · exact ⟨wk_ok.2.1, by decide, by decide, by decide⟩
  · exact ⟨wk_ok.2.2, by decide, by decide, by decide⟩
theorem wkW (g : Nat) (w1 : World) (h : SlAt w1 (some ⟨g, 0, none⟩) 3 [WK1, WK2, WK3]) (hv : PV w1) : Calls Tryd.prog 9 #[.slice (some ⟨g, 0, none⟩) 3 3] w1 fun e w' => e = .returned (.tuple #[.string ⟨#[116, 105, 99, 107, 32, 48, 10, 105, 110, 118, 111, 107, 101, 32, 49, 32, 112, 117, 116, 32, 107, 32, 118, 37, 50, 48, 119, 10, 99, 114, 97, 115, 104, 32, 50, 32, 45, 49, 10]⟩, .int .i64 0, .int .i64 0]) ∧ Below w1.heap.size w1 w' :=
  (Write_all (some ⟨g, 0, none⟩) 3 3 [WK1, WK2, WK3] (Nat.le_of_ble_eq_true rfl) (fun s h => (wk_mid s h).1) (fun s h => (wk_mid s h).2) w1 h hv).mono fun _ _ h => ⟨(h.to wk_write).2, (h.to wk_write).1⟩
set_option maxRecDepth 100000 in
theorem wkP (w2 : World) (hv : PV w2) : Calls Tryd.prog 11 #[.string ⟨#[35, 32, 115, 111, 10, 10, 116, 105, 99, 107, 32, 48, 10, 105, 110, 118, 111, 107, 101, 32, 49, 32, 112, 117, 116, 32, 107, 32, 118, 37, 50, 48, 119, 10, 99, 114, 97, 115, 104, 32, 50, 32, 45, 49, 10]⟩] w2 fun e w' => Below w2.heap.size w2 w' ∧ ∃ a c, e = .returned (.tuple #[.slice a 3 c, .int .i64 0, .int .i64 0]) ∧ SlAt w' a 3 [WK1, WK2, WK3] :=
  (Parse_any ⟨#[35, 32, 115, 111, 10, 10, 116, 105, 99, 107, 32, 48, 10, 105, 110, 118, 111, 107, 101, 32, 49, 32, 112, 117, 116, 32, 107, 32, 118, 37, 50, 48, 119, 10, 99, 114, 97, 115, 104, 32, 50, 32, 45, 49, 10]⟩ (Nat.le_of_ble_eq_true rfl) w2 hv).mono fun _ _ h => h.to wk_parse
theorem wkQ (w3 : World) (hv : PV w3) : Calls Tryd.prog 11 #[.string ⟨#[104, 101, 97, 108, 10, 116, 105, 99, 107, 32, 48, 48]⟩] w3 fun e w' => Below w3.heap.size w3 w' ∧ ∃ a c, e = .returned (.tuple #[.slice a 0 c, .int .i64 2, .int .i64 4]) ∧ SlAt w' a 0 [] :=
  (Parse_any ⟨#[104, 101, 97, 108, 10, 116, 105, 99, 107, 32, 48, 48]⟩ (Nat.le_of_ble_eq_true rfl) w3 hv).mono fun _ _ h => h.to wk_bad
theorem wkS (A3 : Option Addr) (c3 g : Nat) (w4 : World) (h1 : SlAt w4 A3 3 [WK1, WK2, WK3]) (h2 : SlAt w4 (some ⟨g, 0, none⟩) 3 [WK1, WK2, WK3]) : Calls Tryd.prog 13 #[.slice A3 3 c3, .slice (some ⟨g, 0, none⟩) 3 3] w4 (OneB true w4) := by
  have h := same_any A3 (some ⟨g, 0, none⟩) 3 c3 3 3 _ _ w4 h1 h2
  rwa [decide_eq_true rfl] at h
set_option maxRecDepth 100000 in
set_option maxHeartbeats 16000000 in
theorem wakes_any (w : World) (hv : PV w) : Calls Tryd.prog 8 #[] w (OneB true w) := by
  have HPV := Lib.hid (PVB.of hv)
  clear hv
  go_enter Tryd.func8, Tryd.ntmps8
  go_upto_region 2 with fail
  change Code.wp _ _ _ _ (w.alloc (.cells wkC.toArray 39))
  have hz := wk_at (heap_alloc_new w (.cells wkC.toArray 39))
  have hb1 := (Below.refl w.heap.size w).alloc (Nat.le_refl _) (.cells wkC.toArray 39)
  have H1 := Lib.hid hz
  have HB1 := Lib.hid hb1
  clear hz hb1
  generalize w.alloc (.cells wkC.toArray 39) = w1 at *
  obtain ⟨g, hg⟩ : ∃ g, g = w.heap.size := ⟨_, rfl⟩
  rw [← hg] at H1 ⊢
  clear hg
  have HW := Lib.hid (wkW g w1 H1.out (HPV.out.on HB1.out).here)
  go_upto_region 4 with (go_at_call 9; refine HW.out.mono ?_; rintro e w2 ⟨rfl, hb2⟩; have H2 := Lib.hid (And.intro (H1.out.below hb2) (HB1.out.trans (hb2.mono HB1.out.size))); clear hb2)
  clear HW
  have HP := Lib.hid (wkP w2 (HPV.out.on H2.out.2).here)
  go_upto_region 5 with (go_at_call 11; refine HP.out.mono ?_; rintro e w3 ⟨hb3, A3, c3, rfl, h3s⟩; have H3 := Lib.hid (And.intro h3s (And.intro (H2.out.1.below hb3) (H2.out.2.trans (hb3.mono H2.out.2.size)))); clear hb3 h3s)
  clear HP
  have HP := Lib.hid (wkQ w3 (HPV.out.on H3.out.2.2).here)
  go_upto_region 6 with (go_at_call 11; refine HP.out.mono ?_; rintro e w4 ⟨hb4, A4, c4, rfl, h4s⟩; have H4 := Lib.hid (And.intro (H3.out.1.below hb4) (And.intro (H3.out.2.1.below hb4) (H3.out.2.2.trans (hb4.mono H3.out.2.2.size)))); clear hb4 h4s)
  clear HP
  have HS := Lib.hid (wkS A3 c3 g w4 H4.out.1 H4.out.2.1)
  go_wp2_with (first
    | (refine HS.out.mono ?_; rintro e w5 ⟨rfl, hb5⟩; have H5 := Lib.hid (H4.out.2.2.trans (hb5.mono H4.out.2.2.size)); clear hb5))
  go_ret
  exact .of H5.out rfl
end Go.Proofs.YtjjlodeiejobdaaDoor
