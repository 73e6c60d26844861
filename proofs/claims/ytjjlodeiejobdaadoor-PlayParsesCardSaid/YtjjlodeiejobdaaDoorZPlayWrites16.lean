/- Play: the document's Step. Condition: the line is not too long. -/
import Derived.Test.YtjjlodeiejobdaaDoorZPlayWrites14
import Derived.Test.YtjjlodeiejobdaaDoorZPlayWrites15
import Derived.Test.YtjjlodeiejobdaaDoorZPlayWrites10
namespace Go.Proofs.YtjjlodeiejobdaaDoor
open Go.RowKit Go.Shelf
theorem step31_any (x : ByteArray) (hxs : x.size ≤ 30000) (w : World) : Calls Tryd.prog 23 #[.string x] w (ReadR (rdL x.data.toList) w) := by
  rcases cls6 _ (wdAt_lt ((splL 32 x.data.toList).headD []) 13) with h | h | h | h | h | h
  · exact step_n x hxs h w
  · exact step_a x hxs h w
  · exact step_ab x hxs h w
  · exact step_abk x hxs h w
  · exact step_ak x hxs h w
  · exact step_ac x hxs h w
end Go.Proofs.YtjjlodeiejobdaaDoor
namespace Go.Proofs.YtjjlodeiejobdaaDoor
def WK1 : StpV := ⟨6, 0, 0, 0, 0, 0, 0, [], [], [], 0⟩
def WK2 : StpV := ⟨12, 1, 0, 0, 0, 0, 2, [107], [], [118, 32, 119], 0⟩
def WK3 : StpV := ⟨7, 2, 0, -1, 0, 0, 0, [], [], [], 0⟩
def WKT : Bs := [116, 105, 99, 107, 32, 48, 10, 105, 110, 118, 111, 107, 101, 32, 49, 32, 112, 117, 116, 32, 107, 32, 118, 37, 50, 48, 119, 10, 99, 114, 97, 115, 104, 32, 50, 32, 45, 49, 10]
theorem wk_ok : WK1.Ok ∧ WK2.Ok ∧ WK3.Ok := ⟨⟨by decide, by decide, by decide, by decide, by decide, by decide, by decide, by decide⟩, ⟨by decide, by decide, by decide, by decide, by decide, by decide, by decide, by decide⟩, ⟨by decide, by decide, by decide, by decide, by decide, by decide, by decide, by decide⟩⟩
theorem wk_say1 : sayL WK1 = some [116, 105, 99, 107, 32, 48] := by decide +kernel
theorem wk_say2 : sayL WK2 = some [105, 110, 118, 111, 107, 101, 32, 49, 32, 112, 117, 116, 32, 107, 32, 118, 37, 50, 48, 119] := by decide +kernel
theorem wk_say3 : sayL WK3 = some [99, 114, 97, 115, 104, 32, 50, 32, 45, 49] := by decide +kernel
theorem wk_write : wrL [WK1, WK2, WK3] 0 [] = (WKT, 0, 0) := by
  rw [wrL, wk_say1]
  simp only
  rw [wrL, wk_say2]
  simp only
  rw [wrL, wk_say3]
  rfl
theorem wk_parse : prsL (fltB 0 (pcsB 10 ⟨#[35, 32, 115, 111, 10, 10, 116, 105, 99, 107, 32, 48, 10, 105, 110, 118, 111, 107, 101, 32, 49, 32, 112, 117, 116, 32, 107, 32, 118, 37, 50, 48, 119, 10, 99, 114, 97, 115, 104, 32, 50, 32, 45, 49, 10]⟩)) [] = ([WK1, WK2, WK3], 0, 0) := by
  have e : fltB 0 (pcsB 10 ⟨#[35, 32, 115, 111, 10, 10, 116, 105, 99, 107, 32, 48, 10, 105, 110, 118, 111, 107, 101, 32, 49, 32, 112, 117, 116, 32, 107, 32, 118, 37, 50, 48, 119, 10, 99, 114, 97, 115, 104, 32, 50, 32, 45, 49, 10]⟩) = [(3, ⟨#[116, 105, 99, 107, 32, 48]⟩), (4, ⟨#[105, 110, 118, 111, 107, 101, 32, 49, 32, 112, 117, 116, 32, 107, 32, 118, 37, 50, 48, 119]⟩), (5, ⟨#[99, 114, 97, 115, 104, 32, 50, 32, 45, 49]⟩)] := by decide +kernel
  rw [e]
  rw [prsL, show rdL _ = some WK1 from (rd_iff wk_ok.1).2 wk_say1]
  simp only [List.length_nil]
  rw [if_neg (by decide), prsL, show rdL _ = some WK2 from (rd_iff wk_ok.2.1).2 wk_say2]
  simp only [List.nil_append, List.length_singleton]
  rw [if_neg (by decide), prsL, show rdL _ = some WK3 from (rd_iff wk_ok.2.2).2 wk_say3]
  simp only
  rw [if_neg (by decide)]
  rfl
theorem wk_bad : prsL (fltB 0 (pcsB 10 ⟨#[104, 101, 97, 108, 10, 116, 105, 99, 107, 32, 48, 48]⟩)) [] = ([], 2, 4) := by
  have e : fltB 0 (pcsB 10 ⟨#[104, 101, 97, 108, 10, 116, 105, 99, 107, 32, 48, 48]⟩) = [(1, ⟨#[104, 101, 97, 108]⟩), (2, ⟨#[116, 105, 99, 107, 32, 48, 48]⟩)] := by decide +kernel
  rw [e]
  have h1 : ∃ s, rdL [104, 101, 97, 108] = some s := ⟨⟨5, 0, 0, 0, 0, 0, 0, [], [], [], 0⟩, (rd_iff ⟨by decide, by decide, by decide, by decide, by decide, by decide, by decide, by decide⟩).2 (by decide +kernel)⟩
  obtain ⟨s, hs⟩ := h1
  have h2 : rdL [116, 105, 99, 107, 32, 48, 48] = none := by decide +kernel
  rw [prsL, show rdL _ = some s from hs]
  simp only [List.length_nil]
  rw [if_neg (by decide), prsL, show rdL _ = none from h2]
end Go.Proofs.YtjjlodeiejobdaaDoor
namespace Go.Proofs.YtjjlodeiejobdaaDoor
open Go.RowKit Go.Shelf Go.Deep
theorem sl_up {w : World} {a : Option Addr} {len : Nat} : ∀ {z : List StpV}, (∀ s ∈ z, s.Ok) → SlAt w a len z → ∃ y : List StpO, y.map (·.val) = z ∧ StpsAt w a len y := by
  intro z hok h
  have hm : (z.pmap (fun s hs => (⟨s, hs⟩ : StpO)) hok).map (·.val) = z := by
    rw [List.map_pmap]
    simp
  refine ⟨_, hm, by rw [← h.hlen]; simp, h.hmax, fun i x hx => ?_⟩
  have h2 : z[i]? = some x.val := by rw [← hm, List.getElem?_map, hx]; rfl
  exact h.cells i x.val h2
theorem Write_all (a : Option Addr) (len cap : Nat) (z : List StpV) (hlen : len ≤ 100000) (hok : ∀ s ∈ z, s.Ok) (hmid : ∀ s ∈ z, s.Mid) (w : World) (hz : SlAt w a len z) (hv : PV w) :
    Calls Tryd.prog 9 #[.slice a len cap] w (WrtR (wrL z 0 []) w) := by
  obtain ⟨y, hy, h⟩ := sl_up hok hz
  have h2 := Write_any a len cap y hlen (fun s hs => hmid _ (by rw [← hy]; exact List.mem_map.2 ⟨s, hs, rfl⟩)) w h hv
  rwa [hy] at h2
theorem Parse_any (x : ByteArray) (hxs : x.size ≤ 1000000) (w : World) (hv : PV w) : Calls Tryd.prog 11 #[.string x] w (PrsR (prsL (fltB 0 (pcsB 10 x)) []) w) := callsIn_wide.1 (Parse_in x hxs w hv)
theorem PrsR.to {R : List StpV × Nat × Nat} {w w' : World} {e : Ending} (h : PrsR R w e w') {z : List StpV} {n k : Nat} (hR : R = (z, n, k)) : Below w.heap.size w w' ∧ ∃ a c, e = .returned (.tuple #[.slice a z.length c, .int .i64 (n : Int), .int .i64 (k : Int)]) ∧ SlAt w' a z.length z := by
  subst hR
  obtain ⟨h1, v, h2, a, c, rfl, h3⟩ := h
  exact ⟨h1, a, c, h2, h3⟩
theorem WrtR.to {R : Bs × Nat × Nat} {w w' : World} {e : Ending} (h : WrtR R w e w') {l : Bs} {n k : Nat} (hR : R = (l, n, k)) : Below w.heap.size w w' ∧ e = .returned (.tuple #[.string ⟨l.toArray⟩, .int .i64 (n : Int), .int .i64 (k : Int)]) := by
  subst hR
  exact h
def wkC : List Value := stpC WK1 ++ (stpC WK2 ++ stpC WK3)
theorem wk_at {w : World} {g : Nat} (h : w.heap[g]? = some (.cells wkC.toArray 39 (0, 0))) : SlAt w (some ⟨g, 0, none⟩) 3 [WK1, WK2, WK3] := by
  have hr := range_row h
  refine ⟨rfl, by decide, fun i x hx => ⟨g, 0, rfl, (Array.getElem?_eq_some_iff.1 h).1, fun j v hj => ?_⟩⟩
  have hjl : j < 11 := (List.getElem?_eq_some_iff.1 hj).1
  match i, hx with
  | 0, hx => cases hx; exact hr (0 * 11 + j) v (by unfold wkC; rw [List.getElem?_append_left (show 0 * 11 + j < (stpC WK1).length by show _ < 11; omega), Nat.zero_mul, Nat.zero_add]; exact hj)
  | 1, hx => cases hx; exact hr (1 * 11 + j) v (by unfold wkC; rw [List.getElem?_append_right (show (stpC WK1).length ≤ 1 * 11 + j by show 11 ≤ _; omega), show 1 * 11 + j - (stpC WK1).length = j by show 1 * 11 + j - 11 = j; omega, List.getElem?_append_left (show j < (stpC WK2).length from hjl)]; exact hj)
  | 2, hx => cases hx; exact hr (2 * 11 + j) v (by unfold wkC; rw [List.getElem?_append_right (show (stpC WK1).length ≤ 2 * 11 + j by show 11 ≤ _; omega), show 2 * 11 + j - (stpC WK1).length = 11 + j by show 2 * 11 + j - 11 = _; omega, List.getElem?_append_right (show (stpC WK2).length ≤ 11 + j by show 11 ≤ _; omega), show 11 + j - (stpC WK2).length = j by show 11 + j - 11 = j; omega]; exact hj)
theorem wk_mid : ∀ s ∈ [WK1, WK2, WK3], s.Ok ∧ s.Mid := by
  intro s hs
  simp only [List.mem_cons, List.not_mem_nil, or_false] at hs
  rcases hs with rfl | rfl | rfl
  · exact ⟨wk_ok.1, by decide, by decide, by decide⟩
  · exact ⟨wk_ok.2.1, by decide, by decide, by decide⟩
  · exact ⟨wk_ok.2.2, by decide, by decide, by decide⟩
theorem wkW (g : Nat) (w1 : World) (h : SlAt w1 (some ⟨g, 0, none⟩) 3 [WK1, WK2, WK3]) (hv : PV w1) : Calls Tryd.prog 9 #[.slice (some ⟨g, 0, none⟩) 3 3] w1 fun e w' => e = .returned (.tuple #[.string ⟨#[116, 105, 99, 107, 32, 48, 10, 105, 110, 118, 111, 107, 101, 32, 49, 32, 112, 117, 116, 32, 107, 32, 118, 37, 50, 48, 119, 10, 99, 114, 97, 115, 104, 32, 50, 32, 45, 49, 10]⟩, .int .i64 0, .int .i64 0]) ∧ Below w1.heap.size w1 w' :=
  (Write_all (some ⟨g, 0, none⟩) 3 3 [WK1, WK2, WK3] (Nat.le_of_ble_eq_true rfl) (fun s h => (wk_mid s h).1) (fun s h => (wk_mid s h).2) w1 h hv).mono fun _ _ h => ⟨(h.to wk_write).2, (h.to wk_write).1⟩
set_option maxRecDepth 100000 in
theorem wkP (w2 : World) (hv : PV w2) : Calls Tryd.prog 11 #[.string ⟨#[35, 32, 115, 111, 10, 10, 116, 105, 99, 107, 32, 48, 10, 105, 110, 118, 111, 107, 101, 32, 49, 32, 112, 117, 116, 32, 107, 32, 118, 37, 50, 48, 119, 10, 99, 114, 97, 115, 104, 32, 50, 32, 45, 49, 10]⟩] w2 fun e w' => Below w2.heap.size w2 w' ∧ ∃ a c, e = .returned (.tuple #[.slice a 3 c, .int .i64 0, .int .i64 0]) ∧ SlAt w' a 3 [WK1, WK2, WK3] :=
  (Parse_any ⟨#[35, 32, 115, 111, 10, 10, 116, 105, 99, 107, 32, 48, 10, 105, 110, 118, 111, 107, 101, 32, 49, 32, 112, 117, 116, 32, 107, 32, 118, 37, 50, 48, 119, 10, 99, 114, 97, 115, 104, 32, 50, 32, 45, 49, 10]⟩ (Nat.le_of_ble_eq_true rfl) w2 hv).mono fun _ _ h => h.to wk_parse
theorem wkQ (w3 : World) (hv : PV w3) : Calls Tryd.prog 11 #[.string ⟨#[104, 101, 97, 108, 10, 116, 105, 99, 107, 32, 48, 48]⟩] w3 fun e w' => Below w3.heap.size w3 w' ∧ ∃ a c, e = .returned (.tuple #[.slice a 0 c, .int .i64 2, .int .i64 4]) ∧ SlAt w' a 0 [] :=
  (Parse_any ⟨#[104, 101, 97, 108, 10, 116, 105, 99, 107, 32, 48, 48]⟩ (Nat.le_of_ble_eq_true rfl) w3 hv).mono fun _ _ h => h.to wk_bad
theorem wkS (A3 : Option Addr) (c3 g : Nat) (w4 : World) (h1 : SlAt w4 A3 3 [WK1, WK2, WK3]) (h2 : SlAt w4 (some ⟨g, 0, none⟩) 3 [WK1, WK2, WK3]) : Calls Tryd.prog 13 #[.slice A3 3 c3, .slice (some ⟨g, 0, none⟩) 3 3] w4 (OneB true w4) := by
  have h := same_any A3 (some ⟨g, 0, none⟩) 3 c3 3 3 _ _ w4 h1 h2
  rwa [decide_eq_true rfl] at h
set_option maxRecDepth 100000 in
set_option maxHeartbeats 16000000 in
theorem wakes_any (w : World) (hv : PV w) : Calls Tryd.prog 8 #[] w (OneB true w) := by
  have HPV := Lib.hid (PVB.of hv)
  clear hv
  go_enter Tryd.func8, Tryd.ntmps8
  go_upto_region 2 with fail
  change Code.wp _ _ _ _ (w.alloc (.cells wkC.toArray 39))
  have hz := wk_at (heap_alloc_new w (.cells wkC.toArray 39))
  have hb1 := (Below.refl w.heap.size w).alloc (Nat.le_refl _) (.cells wkC.toArray 39)
  have H1 := Lib.hid hz
  have HB1 := Lib.hid hb1
  clear hz hb1
  generalize w.alloc (.cells wkC.toArray 39) = w1 at *
  obtain ⟨g, hg⟩ : ∃ g, g = w.heap.size := ⟨_, rfl⟩
  rw [← hg] at H1 ⊢
  clear hg
  have HW := Lib.hid (wkW g w1 H1.out (HPV.out.on HB1.out).here)
  go_upto_region 4 with (go_at_call 9; refine HW.out.mono ?_; rintro e w2 ⟨rfl, hb2⟩; have H2 := Lib.hid (And.intro (H1.out.below hb2) (HB1.out.trans (hb2.mono HB1.out.size))); clear hb2)
  clear HW
  have HP := Lib.hid (wkP w2 (HPV.out.on H2.out.2).here)
  go_upto_region 5 with (go_at_call 11; refine HP.out.mono ?_; rintro e w3 ⟨hb3, A3, c3, rfl, h3s⟩; have H3 := Lib.hid (And.intro h3s (And.intro (H2.out.1.below hb3) (H2.out.2.trans (hb3.mono H2.out.2.size)))); clear hb3 h3s)
  clear HP
  have HP := Lib.hid (wkQ w3 (HPV.out.on H3.out.2.2).here)
  go_upto_region 6 with (go_at_call 11; refine HP.out.mono ?_; rintro e w4 ⟨hb4, A4, c4, rfl, h4s⟩; have H4 := Lib.hid (And.intro (H3.out.1.below hb4) (And.intro (H3.out.2.1.below hb4) (H3.out.2.2.trans (hb4.mono H3.out.2.2.size)))); clear hb4 h4s)
  clear HP
  have HS := Lib.hid (wkS A3 c3 g w4 H4.out.1 H4.out.2.1)
  go_wp2_with (first
    | (refine HS.out.mono ?_; rintro e w5 ⟨rfl, hb5⟩; have H5 := Lib.hid (H4.out.2.2.trans (hb5.mono H4.out.2.2.size)); clear hb5))
  go_ret
  exact .of H5.out rfl
end Go.Proofs.YtjjlodeiejobdaaDoor
namespace Go.Proofs.YtjjlodeiejobdaaDoor
open Go.RowKit Go.Shelf Go.Deep
theorem same_tt {a b : Option Addr} {la c d : Nat} {lb : Nat} {z : List StpV} {w : World} (h1 : SlAt w a la z) (h2 : SlAt w b lb z) : Calls Tryd.prog 13 #[.slice a la c, .slice b lb d] w (OneB true w) := by
  have h := same_any a b la c lb d z z w h1 h2
  rwa [decide_eq_true rfl] at h
/-- What the law knows of its steps. -/
structure Small (z : List StpV) : Prop where
  len : z.length ≤ 500
  ok : ∀ s ∈ z, s.Ok
  txt : ∀ s ∈ z, s.y.length ≤ 100 ∧ s.o.length ≤ 100 ∧ s.n.length ≤ 100
theorem Small.mid {z : List StpV} (h : Small z) : ∀ s ∈ z, s.Mid := fun s hs => ⟨by have := (h.txt s hs).1; omega, by have := (h.txt s hs).2.1; omega, by have := (h.txt s hs).2.2; omega⟩
theorem Small.take {z : List StpV} (h : Small z) (j : Nat) : Small (z.take j) := ⟨by have := h.len; rw [List.length_take]; omega, fun s hs => h.ok s (List.mem_of_mem_take hs), fun s hs => h.txt s (List.mem_of_mem_take hs)⟩
theorem Small.wr {z : List StpV} (h : Small z) : z.length ≤ 100000 ∧ (∀ s ∈ z, s.Ok) ∧ ∀ s ∈ z, s.Mid := ⟨by have := h.len; omega, h.ok, h.mid⟩
end Go.Proofs.YtjjlodeiejobdaaDoor
namespace Go.Proofs.YtjjlodeiejobdaaDoor
open Go.RowKit Go.Shelf Go.Deep
/-- A row of steps as an argument holds it. -/
structure StpsIn (w : World) (a : Option Addr) (len cap : Nat) (z : List StpV) : Prop where
  at_ : SlAt w a len z
  ok : ∀ s ∈ z, s.Ok
  cap : len ≤ cap
theorem steps_open {H : Type} {enc : TypeId × Value → H} {w : World} {base : Nat} {spare : Nat → Bool} {held : Bool} {a : Option Addr} {len cap : Nat} {d : DataW H} {pl : List MemPlace}
    (h : DataW.Trod enc Tryd.prog w base spare held 22 (.slice a len cap) d pl) : ∃ z : List StpV, StpsIn w a len cap z := by
  obtain ⟨z, hz⟩ := stps_open h
  refine ⟨z.map (·.val), sl_map hz, fun s hs => ?_, ?_⟩
  · obtain ⟨y, _, rfl⟩ := List.mem_map.1 hs
    exact y.2
  · obtain ⟨n, hn⟩ := h
    rcases open_slice Tryd.underlying22 hn with ⟨h0, _⟩ | ⟨_, len', cap', _, _, _, _, h0, _, hl, _⟩
    · simp only [Value.cells, List.cons.injEq, Value.slice.injEq, and_true] at h0
      omega
    · simp only [Value.cells, List.cons.injEq, Value.slice.injEq, and_true] at h0
      omega
end Go.Proofs.YtjjlodeiejobdaaDoor
namespace Go.Proofs.YtjjlodeiejobdaaDoor
open Go.RowKit Go.Shelf Go.Deep
set_option maxRecDepth 100000 in
set_option maxHeartbeats 8000000 in
theorem write31_any (a : Option Addr) (la ca : Nat) (z : List StpV) (hs : Small z) (w : World) (hz : SlAt w a la z) :
    Calls Tryd.prog 10 #[.slice a la ca] w (WrtR (wrL z 0 []) w) := by
  have hzl := hz.hlen
  have Hz := Lib.hid hz
  have HS := Lib.hid hs
  have HL := Lib.hid (show z.length = la ∧ la ≤ 500 from ⟨hzl, by have := hs.len; omega⟩)
  clear hz hs hzl
  go_enter Tryd.func10, Tryd.ntmps10
  go_upto_region 3 with fail
  go_loopw [5, 6] (fun s5 s6 wr => ∃ (i : Nat) (A : ByteArray), s6 = .int .i64 (i : Int) ∧ s5 = .string A ∧ i ≤ la ∧ wrL z 0 [] = wrL (z.drop i) i A.data.toList ∧ A.size ≤ i * 2000001 ∧ Below w.heap.size w wr) (fun _ s6 _ => la - (intOf s6).toNat)
  case atStart => exact ⟨0, ⟨#[]⟩, rfl, rfl, Nat.zero_le _, rfl, Nat.le_refl _, Below.refl _ _⟩
  case round =>
    obtain ⟨i, A, rfl, rfl, hi, hw, hA, hbw⟩ := hrel
    have HA := Lib.hid (And.intro hw (And.intro hA hbw))
    clear hw hA hbw
    by_cases hil : i < la
    · have hil' : (i : Int) < (la : Int) := by omega
      have HW1 := Lib.hid (show wrap64 ((i : Int) + 1) = (i : Int) + 1 by have := HL.out; unfold wrap64; omega)
      obtain ⟨s, hs⟩ : ∃ s, z[i]? = some s := ⟨_, List.getElem?_eq_getElem (show i < z.length by have := HL.out; omega)⟩
      obtain ⟨b1, o1, rfl, h1, r1⟩ := sl_row (Hz.out.below HA.out.2.2) hs
      have hmem := List.mem_of_getElem? hs
      have HR := Lib.hid r1
      have hft := HS.out.txt s hmem
      have HSAY := Lib.hid (fun y => say31_any s (HS.out.ok s hmem) ⟨by omega, by omega, by omega⟩ y)
      have HD := Lib.hid (show z.drop i = s :: z.drop (i + 1) by
        obtain ⟨h2, h3⟩ := List.getElem?_eq_some_iff.1 hs
        rw [List.drop_eq_getElem_cons h2, h3])
      clear hs h1 r1 hft hmem
      go_upto_region 6 with (first
        | (with_reducible refine wpList_load_mid rfl 39 _ rfl b1 (o1 + i * 11) rfl (stpC s) _ HR.out Tryd.underlying39 rfl (stpC_size s) ?_)
        | (go_at_call 20; refine (HSAY.out _).mono ?_; rintro e w2 ⟨hb2, X, rfl, hX, hXz⟩; have H2 := Lib.hid (And.intro (HA.out.2.2.trans (hb2.mono HA.out.2.2.size)) (And.intro hX hXz)); clear hb2 hX hXz))
      clear HR HSAY
      cases hR : sayL s with
      | none =>
        have HN := Lib.hid (show wrL z 0 [] = ([], i + 1, 2) by rw [HA.out.1, HD.out, wrL, hR])
        simp only [Option.isSome_none]
        clear hR
        go_wp2
        go_ret3
        rw [HN.out]
        exact ⟨H2.out.1, by (first | rfl | (show Ending.returned (.tuple #[_, .int .i64 (wrap64 ((i : Int) + 1)), _]) = _; rw [HW1.out]; rfl))⟩
      | some l =>
        obtain rfl := H2.out.2.1 l hR
        have HN := Lib.hid (show wrL z 0 [] = wrL (z.drop (i + 1)) (i + 1) (A.data.toList ++ l ++ [10]) by rw [HA.out.1, HD.out, wrL, hR])
        have hls : (⟨l.toArray⟩ : ByteArray).size = l.length := by simp [ByteArray.size]
        have hlz : l.length ≤ 2000000 := by have := H2.out.2.2; omega
        have ha1 : ¬ 9223372036854775807 < A.size + l.length := by have := HA.out.2.1; have := HL.out; omega
        have ha2 : ¬ 9223372036854775807 < A.size + l.length + 1 := by have := HA.out.2.1; have := HL.out; omega
        have HLZ := Lib.hid hlz
        simp only [Option.isSome_some]
        clear hR hlz
        go_wp2
        go_roundw
        case rel => exact ⟨i + 1, _, (by first | rfl | (show Value.int .i64 (wrap64 ((i : Int) + 1)) = _; rw [HW1.out]; rfl)), rfl, hil, by rw [HN.out, app_list, app_list], by have h1 : (⟨#[10]⟩ : ByteArray).size = 1 := rfl; have := HA.out.2.1; have := HLZ.out; have h2 := ba_size (l := l); rw [ByteArray.size_append, ByteArray.size_append, h1]; omega, H2.out.1⟩
        case measure => (first | (simp only [intOf]; omega) | (show la - (intOf (.int .i64 (wrap64 ((i : Int) + 1)))).toNat < _; rw [HW1.out]; simp only [intOf]; omega))
    · have hil' : ¬ (i : Int) < (la : Int) := by omega
      have HN := Lib.hid (show wrL z 0 [] = (A.data.toList, 0, 0) by rw [HA.out.1, List.drop_of_length_le (by have := HL.out; omega)]; rfl)
      go_wp2
      go_ret3
      rw [HN.out]
      exact ⟨HA.out.2.2, rfl⟩
theorem says31_at {p : ByteArray} (h : 0 < p.size) : saysB p = (decide (p[0]'h = 35) == false) := by
  have := bs_list h
  unfold saysB
  cases hs : p.data.toList with
  | nil => rw [hs] at this; cases this
  | cons c r =>
    rw [hs] at this
    simp only [List.getElem?_cons_zero, Option.some.injEq] at this
    rw [this]
    simp only
    cases h2 : decide (p[0]'h = 35) with
    | true => rw [of_decide_eq_true h2]; rfl
    | false => have := of_decide_eq_false h2; simpa using this
theorem says_zero {p : ByteArray} (h : p.size = 0) : saysB p = false := by
  unfold saysB
  rw [List.length_eq_zero_iff.1 (show p.data.toList.length = 0 by rw [Array.length_toList]; exact h)]
theorem own_strs {w : World} {B : Nat} {e : TypeId} {v : Value} {acc : List StpV} (h : w.ownsRow B e 11 v acc.length (flatS acc)) (hl : acc.length ≤ 400) : StV w v acc := by
  obtain ⟨A, c, rfl⟩ := own_slice_of h
  exact ⟨A, c, rfl, own_slice (enc := stpC) (fun _ => rfl) h rfl (Nat.le_trans hl (by decide))⟩
set_option maxRecDepth 100000 in
set_option maxHeartbeats 16000000 in
theorem parse31_any (x : ByteArray) (hxs : x.size ≤ 30000) (w : World) : Calls Tryd.prog 12 #[.string x] w (PrsR (prsL (fltB 0 (pcsB 10 x)) []) w) := by
  have HSP := Lib.hid (fun y => split31_any 10 x (by omega) y)
  have HSZ := Lib.hid (fun (p : ByteArray) (hq : p ∈ pcsB 10 x) => pcs_size hq)
  have hmany := pcs_many 10 x
  obtain ⟨ps, hps⟩ : ∃ ps, ps = pcsB 10 x := ⟨_, rfl⟩
  rw [← hps] at HSP HSZ hmany ⊢
  obtain ⟨m, hm⟩ : ∃ m, m = ps.length := ⟨_, rfl⟩
  unfold SplR at HSP
  rw [← hm] at HSP hmany
  have HM := Lib.hid (show m = ps.length ∧ m ≤ 30001 from ⟨hm, by omega⟩)
  have HX := Lib.hid hxs
  obtain ⟨iT, hiT, hzT, hsT, hbT⟩ := info_parts infoT
  clear hps hm hmany hxs
  go_enter Tryd.func12, Tryd.ntmps12
  go_upto_region 4 with (go_at_call 22; refine (HSP.out _).mono ?_; rintro e w1 ⟨g, cap, rfl, hp1, hb1⟩; have H1 := Lib.hid (And.intro hb1 hp1); clear hb1 hp1)
  clear HSP
  go_loopw [5, 7] (fun s5 s7 wr => ∃ (i : Nat) (acc : List StpV), s7 = .int .i64 (i : Int) ∧ i ≤ m ∧ wr.ownsRow w1.heap.size 39 11 s5 acc.length (flatS acc) ∧ acc.length ≤ 400 ∧ prsL (fltB 0 ps) [] = prsL (fltB i (ps.drop i)) acc ∧ StrsAt wr g 0 ps ∧ Below w.heap.size w wr ∧ w1.heap.size ≤ wr.heap.size) (fun _ s7 _ => m - (intOf s7).toNat)
  case atStart => exact ⟨0, [], rfl, Nat.zero_le _, World.ownsRow_nil _ _ _ _, Nat.zero_le _, rfl, H1.out.2, H1.out.1, Nat.le_refl _⟩
  case round =>
    obtain ⟨i, acc, rfl, hi, ho, hl4, hspec, hst, hb, hgz⟩ := hrel
    have HGZ := Lib.hid hgz
    have HG1 := Lib.hid (And.intro H1.out.2.lt H1.out.1.size)
    obtain ⟨A5, c5, rfl⟩ := own_slice_of ho
    have HI := Lib.hid (And.intro ho (And.intro hl4 (And.intro hspec (And.intro hst hb))))
    clear H1 ho hl4 hspec hst hb hgz
    have HW1 := Lib.hid (show wrap64 ((i : Int) + 1) = (i : Int) + 1 by have := HM.out; unfold wrap64; omega)
    by_cases hil : i < m
    · have hil' : (i : Int) < (m : Int) := by omega
      obtain ⟨p, hp⟩ : ∃ p, ps[i]? = some p := ⟨_, List.getElem?_eq_getElem (show i < ps.length by have := HM.out; omega)⟩
      have hpc := HI.out.2.2.2.1.at_ i p hp
      rw [Nat.zero_add] at hpc
      have HPS := Lib.hid (show p.size ≤ 30000 by have := HSZ.out p (List.mem_of_getElem? hp); have := HX.out; omega)
      have HD := Lib.hid (show ps.drop i = p :: ps.drop (i + 1) by
        obtain ⟨h2, h3⟩ := List.getElem?_eq_some_iff.1 hp
        rw [List.drop_eq_getElem_cons h2, h3])
      have HF := Lib.hid (show fltB i (ps.drop i) = if saysB p then (i + 1, p) :: fltB (i + 1) (ps.drop (i + 1)) else fltB (i + 1) (ps.drop (i + 1)) by rw [HD.out]; rfl)
      clear hp
      by_cases hz0 : p.size = 0
      · have he : p.toList.isEmpty = true := by rw [ByteArray.toList_eq, List.isEmpty_iff]; exact List.length_eq_zero_iff.1 (by simpa using hz0)
        have HSS := Lib.hid (says_zero hz0)
        clear hz0
        go_wp2
        go_roundw
        case rel => exact ⟨i + 1, acc, (by first | rfl | (show Value.int .i64 (wrap64 ((i : Int) + 1)) = _; rw [HW1.out]; rfl)), hil, HI.out.1, HI.out.2.1, by rw [HI.out.2.2.1, HF.out, if_neg (by rw [HSS.out]; decide)], HI.out.2.2.2.1, HI.out.2.2.2.2, HGZ.out⟩
        case measure => (first | (simp only [intOf]; omega) | (show m - (intOf (.int .i64 (wrap64 ((i : Int) + 1)))).toNat < _; rw [HW1.out]; simp only [intOf]; omega))
      have hp0 : 0 < p.size := by omega
      have he : p.toList.isEmpty = false := by
        rw [Bool.eq_false_iff]; intro h; rw [ByteArray.toList_eq, List.isEmpty_iff] at h; exact hz0 (by have := congrArg List.length h; simpa using this)
      clear hz0
      by_cases hc : p[0]'hp0 = 35
      · have hcv : (((p[0]'hp0).toNat : Int) == 35) = true := by rw [hc]; rfl
        have HSS := Lib.hid (show saysB p = false by rw [says31_at hp0, decide_eq_true hc]; rfl)
        clear hc
        go_wp2
        go_roundw
        case rel => exact ⟨i + 1, acc, (by first | rfl | (show Value.int .i64 (wrap64 ((i : Int) + 1)) = _; rw [HW1.out]; rfl)), hil, HI.out.1, HI.out.2.1, by rw [HI.out.2.2.1, HF.out, if_neg (by rw [HSS.out]; decide)], HI.out.2.2.2.1, HI.out.2.2.2.2, HGZ.out⟩
        case measure => (first | (simp only [intOf]; omega) | (show m - (intOf (.int .i64 (wrap64 ((i : Int) + 1)))).toNat < _; rw [HW1.out]; simp only [intOf]; omega))
      have hcv : (((p[0]'hp0).toNat : Int) == 35) = false := by have := byte_ne (d := 35) hc; simpa [bne] using this
      have HSS := Lib.hid (show saysB p = true by rw [says31_at hp0, decide_eq_false hc]; rfl)
      have HR := Lib.hid (fun y => step31_any p HPS.out y)
      clear hc
      go_upto_region 8 with (first
        | (go_at_call 23; refine (HR.out _).mono ?_; rintro e w2 ⟨hb2, s, rfl, hs⟩; have H2 := Lib.hid (And.intro hb2 hs); clear hb2 hs; clear hpc)
        | ((with_reducible refine wpList_store_mid rfl 39 _ _ rfl w2.heap.size 0 _ rfl rfl ?_ ?_ ?_ ?_); exact th_new3 w2 (stpC (stp0 0 0)) 39; exact stpC_size s; exact all_oneCell_toArray (stpC_one s)))
      change Code.wp _ _ _ _ ((w2.alloc (.cells (stpC (stp0 0 0)).toArray 39)).setCells w2.heap.size 0 (stpC s))
      have hbx := box_below w2 (stpC (stp0 0 0)) (stpC s) 39
      have hs3 : StpAt _ _ s := box_row w2 (stpC (stp0 0 0)) (stpC s) 39 rfl
      have hb3 := H2.out.1.trans (hbx.mono H2.out.1.size)
      have HG3 := Lib.hid (Nat.le_trans HGZ.out hb3.size)
      have H3 := Lib.hid (And.intro hs3 (And.intro (own_blw HI.out.1 hb3) (And.intro (HI.out.2.2.2.1.below hb3) (HI.out.2.2.2.2.trans (hb3.mono HI.out.2.2.2.2.size)))))
      have HRS := Lib.hid H2.out.2
      clear hbx hs3 hb3 H2 HR
      generalize (w2.alloc (.cells (stpC (stp0 0 0)).toArray 39)).setCells w2.heap.size 0 (stpC s) = w3 at *
      generalize w2.heap.size = g3 at *
      cases hrd : rdL p.data.toList with
      | none =>
        have HN := Lib.hid (show prsL (fltB 0 ps) [] = ([], i + 1, 4) by rw [HI.out.2.2.1, HF.out, if_pos HSS.out, prsL, hrd])
        simp only [Option.isSome_none]
        clear hrd
        go_wp2
        go_ret3
        rw [HN.out]
        exact ⟨H3.out.2.2.2, _, (by first | rfl | (show Ending.returned (.tuple #[_, .int .i64 (wrap64 ((i : Int) + 1)), _]) = _; rw [HW1.out]; rfl)), none, 0, rfl, ⟨rfl, Nat.zero_le _, fun j y hj => by simp at hj⟩⟩
      | some s1 =>
        obtain rfl := HRS.out s1 hrd
        simp only [Option.isSome_some]
        by_cases hf : acc.length = 400
        · have hf' : (acc.length : Int) ≥ 400 := by omega
          have HN := Lib.hid (show prsL (fltB 0 ps) [] = ([], i + 1, 6) by rw [HI.out.2.2.1, HF.out, if_pos HSS.out, prsL, hrd]; simp only; rw [if_pos hf])
          clear hrd hf
          go_wp2
          go_ret3
          rw [HN.out]
          exact ⟨H3.out.2.2.2, _, (by first | rfl | (show Ending.returned (.tuple #[_, .int .i64 (wrap64 ((i : Int) + 1)), _]) = _; rw [HW1.out]; rfl)), none, 0, rfl, ⟨rfl, Nat.zero_le _, fun j y hj => by simp at hj⟩⟩
        · have hf' : ¬ (acc.length : Int) ≥ 400 := by have := HI.out.2.1; omega
          have HN := Lib.hid (show prsL (fltB 0 ps) [] = prsL (fltB (i + 1) (ps.drop (i + 1))) (acc ++ [s]) by rw [HI.out.2.2.1, HF.out, if_pos HSS.out, prsL, hrd]; simp only; rw [if_neg hf])
          have HLN := Lib.hid (show acc.length + 1 ≤ 400 by have := HI.out.2.1; omega)
          have HMM := Lib.hid (show acc.length + 1 ≤ maxLen ∧ (acc.length + 1) * 88 ≤ 140737488355328 from by have := HLN.out; unfold maxLen; omega)
          have HR3 : Hid (w3.rangeAt g3 0 [.int .u8 (s.d : Int), .int .u8 (s.a : Int), .int .u8 (s.b : Int), .int .i64 s.k, .int .u8 (s.cl : Int), .int .u32 (s.sq : Int), .int .u8 (s.kd : Int), .string ⟨s.y.toArray⟩, .string ⟨s.o.toArray⟩, .string ⟨s.n.toArray⟩, .int .u8 (s.st : Int)]) := Lib.hid (range_row H3.out.1)
          have HZ := Lib.hid (show ∀ o : Obj, w1.heap.size ≤ (w3.alloc o).heap.size from fun o => by have := HG3.out; simp; omega)
          clear hrd hf
          go_wp2_with (first
            | (with_reducible refine wpList_load_mid rfl 39 _ rfl g3 0 rfl [.int .u8 (s.d : Int), .int .u8 (s.a : Int), .int .u8 (s.b : Int), .int .i64 s.k, .int .u8 (s.cl : Int), .int .u32 (s.sq : Int), .int .u8 (s.kd : Int), .string ⟨s.y.toArray⟩, .string ⟨s.o.toArray⟩, .string ⟨s.n.toArray⟩, .int .u8 (s.st : Int)] _ HR3.out Tryd.underlying39 rfl (stp11_size _ _ _ _ _ _ _ _ _ _ _) ?_)
            | (at_builtin; refine wpList_append_own _ rfl _ _ 22 rfl w1.heap.size 39 iT (.agg (stpC (stp0 0 0)).toArray) 11 88 Tryd.underlying22 hiT hzT hsT hbT rfl (by decide) _ _ _ rfl (World.ownsRow.alloc H3.out.2.1 _) ⟨w3.heap.size, 0, none⟩ 1 1 [.int .u8 (s.d : Int), .int .u8 (s.a : Int), .int .u8 (s.b : Int), .int .i64 s.k, .int .u8 (s.cl : Int), .int .u32 (s.sq : Int), .int .u8 (s.kd : Int), .string ⟨s.y.toArray⟩, .string ⟨s.o.toArray⟩, .string ⟨s.n.toArray⟩, .int .u8 (s.st : Int)] rfl rfl (cells_newS w3 _ _) (stpC_one s) HMM.out.1 HMM.out.2 (HZ.out _) ?_; intro v4 w4 ho4 hg4 _; have HO4 := Lib.hid (And.intro ho4 hg4); clear ho4 hg4))
          have hba := (Below.refl _ w3).alloc (Nat.le_refl _) (.cells (stpC s).toArray 39)
          have hge := fun k hk => (World.ownsRow.lt H3.out.2.1 k hk)
          go_roundw
          case rel =>
            refine ⟨i + 1, acc ++ [s], (by first | rfl | (show Value.int .i64 (wrap64 ((i : Int) + 1)) = _; rw [HW1.out]; rfl)), hil, ?_, by rw [List.length_append, List.length_singleton]; exact HLN.out, HN.out, ?_, ?_, ?_⟩
            · rw [List.length_append, List.length_singleton, flatS_snoc]
              exact HO4.out.1
            · refine ⟨Nat.lt_of_lt_of_le H3.out.2.2.1.lt (Nat.le_trans hba.size HO4.out.2.size), fun j y hj => ?_⟩
              have hl := H3.out.2.2.1.lt
              have h1 := HG1.out.1
              exact (World.cell?_of_block ((HO4.out.2.block g (Nat.lt_of_lt_of_le hl hba.size) (fun e => by have := hge _ e.symm; omega)).trans (hba.block g hl))).trans (H3.out.2.2.1.at_ j y hj)
            · have h1 := HG1.out.2
              exact below_grown HO4.out.2 (H3.out.2.2.2.trans (hba.mono H3.out.2.2.2.size)) (Nat.le_trans H3.out.2.2.2.size hba.size) (fun k hk => by have := hge k hk; omega)
            · exact Nat.le_trans (HZ.out _) HO4.out.2.size
          case measure => (first | (simp only [intOf]; omega) | (show m - (intOf (.int .i64 (wrap64 ((i : Int) + 1)))).toNat < _; rw [HW1.out]; simp only [intOf]; omega))
    · have hil' : ¬ (i : Int) < (m : Int) := by omega
      have HN := Lib.hid (show prsL (fltB 0 ps) [] = (acc, 0, 0) by rw [HI.out.2.2.1, List.drop_of_length_le (by have := HM.out; omega)]; rfl)
      go_wp2
      go_ret3
      rw [HN.out]
      exact ⟨HI.out.2.2.2.2, _, rfl, own_strs HI.out.1 HI.out.2.1⟩
end Go.Proofs.YtjjlodeiejobdaaDoor
namespace Go.Proofs.YtjjlodeiejobdaaDoor
open Go.RowKit Go.Shelf Go.Deep
set_option maxRecDepth 100000 in
set_option maxHeartbeats 8000000 in
theorem writes_law (a : Option Addr) (la ca : Nat) (z : List StpV) (hok : ∀ s ∈ z, s.Ok) (w : World) (hz : SlAt w a la z) (hv : PV w) :
    Calls Tryd.prog 3 #[.slice a la ca] w (OneB true w) := by
  have HPV := Lib.hid (PVB.of hv)
  have Hz := Lib.hid hz
  have Hok := Lib.hid hok
  have HG := Lib.hid (great_any a la ca z w hz)
  clear hv hz hok
  cases hg : greatS z with
  | true =>
    rw [hg] at HG
    clear hg
    go_enter Tryd.func3, Tryd.ntmps3
    go_upto_region 2 with (go_at_call 7; refine HG.out.mono ?_; rintro e w1 ⟨rfl, hb1⟩; have HB1 := Lib.hid hb1; have HW := Lib.hid (wakes_any w1 (HPV.out.on hb1).here); clear hb1)
    go_wp2_with (go_at_call 8; refine HW.out.mono ?_; rintro e w2 ⟨rfl, hb2⟩; have H2 := Lib.hid (HB1.out.trans (hb2.mono HB1.out.size)); clear hb2)
    go_ret
    exact .of H2.out rfl
  | false =>
    have hn := great_no hg
    rw [hg] at HG
    have HS := Lib.hid (show Small z from ⟨hn.1, Hok.out, hn.2⟩)
    clear hg hn
    obtain ⟨l, n, k, hR⟩ : ∃ l n k, wrL z 0 [] = (l, n, k) := ⟨_, _, _, rfl⟩
    have HR := Lib.hid hR
    clear hR
    go_enter Tryd.func3, Tryd.ntmps3
    go_upto_region 3 with (go_at_call 7; refine HG.out.mono ?_; rintro e w1 ⟨rfl, hb1⟩; have H1 := Lib.hid (And.intro hb1 (Hz.out.below hb1)); clear hb1)
    clear HG
    have HW1 := Lib.hid (Write_all a la ca z (by have := H1.out.2.hlen; have := HS.out.len; omega) HS.out.ok HS.out.mid w1 H1.out.2 (HPV.out.on H1.out.1).here)
    go_upto_region 4 with (go_at_call 9; refine HW1.out.mono ?_; rintro e w2 q2; obtain ⟨hb2, rfl⟩ := q2.to HR.out; have H2 := Lib.hid (And.intro (H1.out.1.trans (hb2.mono H1.out.1.size)) (H1.out.2.below hb2)); clear hb2 q2)
    clear HW1
    have HW2 := Lib.hid (write31_any a la ca z HS.out w2 H2.out.2)
    go_upto_region 5 with (go_at_call 10; refine HW2.out.mono ?_; rintro e w3 q3; obtain ⟨hb3, rfl⟩ := q3.to HR.out; have H3 := Lib.hid (H2.out.1.trans (hb3.mono H2.out.1.size)); clear hb3 q3)
    clear HW2
    have HWK := Lib.hid (wakes_any w3 (HPV.out.on H3.out).here)
    go_wp2_with (go_at_call 8; refine HWK.out.mono ?_; rintro e w4 ⟨rfl, hb4⟩; have H4 := Lib.hid (H3.out.trans (hb4.mono H3.out.size)); clear hb4)
    go_ret
    exact .of H4.out rfl
theorem writes_row (a : Option Addr) (len cap : Nat) (z : List StpV) {w : World} (h : StpsIn w a len cap z) (hv : PV w) :
    Calls Tryd.prog 3 #[.slice a len cap] w fun e w' => e = .returned (.bool true) ∧ Below w.heap.size w w' := writes_law a len cap z h.ok w h.at_ hv
set_option maxRecDepth 100000 in
set_option maxHeartbeats 8000000 in
theorem parses_row (x : ByteArray) {w : World} (_hx : x.size ≤ maxLen) (hv : PV w) : Calls Tryd.prog 4 #[.string x] w fun e w' => e = .returned (.bool true) ∧ Below w.heap.size w w' := by
  have HPV := Lib.hid (PVB.of hv)
  clear hv
  change Calls Tryd.prog 4 #[.string x] w (OneB true w)
  by_cases h3 : 30000 < x.size
  · have h3' : (x.size : Int) > 30000 := by omega
    have HW := Lib.hid (wakes_any w HPV.out.here)
    clear h3
    go_enter Tryd.func4, Tryd.ntmps4
    go_wp2_with (go_at_call 8; refine HW.out.mono ?_; rintro e w2 ⟨rfl, hb2⟩; have H2 := Lib.hid hb2; clear hb2)
    go_ret
    exact .of H2.out rfl
  · have h3' : ¬ (x.size : Int) > 30000 := by omega
    have HX := Lib.hid (show x.size ≤ 30000 by omega)
    obtain ⟨z, n, k, hR⟩ : ∃ z n k, prsL (fltB 0 (pcsB 10 x)) [] = (z, n, k) := ⟨_, _, _, rfl⟩
    have HR := Lib.hid hR
    have HP1 := Lib.hid (Parse_any x (by omega) w HPV.out.here)
    have HP2 := Lib.hid (fun y => parse31_any x (show x.size ≤ 30000 by omega) y)
    clear h3 hR
    go_enter Tryd.func4, Tryd.ntmps4
    go_upto_region 4 with (go_at_call 11; refine HP1.out.mono ?_; rintro e w2 q2; obtain ⟨hb2, A2, c2, rfl, g2⟩ := q2.to HR.out; have H2 := Lib.hid (And.intro hb2 g2); clear hb2 q2 g2)
    clear HP1
    go_upto_region 5 with (go_at_call 12; refine (HP2.out w2).mono ?_; rintro e w3 q3; obtain ⟨hb3, A3, c3, rfl, g3⟩ := q3.to HR.out; have H3 := Lib.hid (And.intro (H2.out.1.trans (hb3.mono H2.out.1.size)) (And.intro (H2.out.2.below hb3) g3)); clear hb3 q3 g3)
    clear HP2
    have HSM := Lib.hid (same_tt (c := c2) (d := c3) H3.out.2.1 H3.out.2.2)
    go_wp2_with (first
      | (go_at_call 13; refine HSM.out.mono ?_; rintro e v4 ⟨rfl, hc4⟩; have H4 := Lib.hid (H3.out.1.trans (hc4.mono H3.out.1.size)); have HWK := Lib.hid (wakes_any v4 (HPV.out.on (H3.out.1.trans (hc4.mono H3.out.1.size))).here); clear hc4)
      | (go_at_call 8; refine HWK.out.mono ?_; rintro e v5 ⟨rfl, hc5⟩; have H5 := Lib.hid (H4.out.trans (hc5.mono H4.out.size)); clear hc5))
    go_ret
    exact .of H5.out rfl
end Go.Proofs.YtjjlodeiejobdaaDoor
