/- The document's desk: Voted. Condition: the desk lies there. -/
import Derived.StillTailTactics
import Derived.Test.YtoleiiicbnmhpaaZProposePlays8
namespace Go.Proofs.Ytoleiiicbnmhpaa
open Go.RowKit
/-- A vote, at one open slot. -/
def upR (s : Nat) (nd : UInt8) (q : RoG) : RoG := if q.s = s ∧ hasB q.cl nd = true ∧ hasB q.wl nd = false then { q with wl := q.wl ++ [nd] } else q
/-- Does it decide the slot? -/
def winR (s : Nat) (nd : UInt8) (q : RoG) : Bool := decide (q.s = s) && (hasB q.cl nd && (!hasB q.wl nd && rmajB q.cl (q.wl ++ [nd])))
theorem flat_mid {Y : List RoV} {i : Nat} (h : i < Y.length) (q : RoV) : flat encR (Y.set i q) = flat encR (Y.take i) ++ encR q ++ flat encR (Y.drop (i + 1)) := by
  rw [List.set_eq_take_append_cons_drop, if_pos h, flat_app]
  simp [flat]
theorem flat_mid0 {Y : List RoV} {i : Nat} (h : i < Y.length) : flat encR Y = flat encR (Y.take i) ++ encR Y[i] ++ flat encR (Y.drop (i + 1)) := by
  have e := flat_mid h Y[i]
  rwa [List.set_getElem_self] at e
theorem flat_tl {Y : List RoV} {i : Nat} (h : i ≤ Y.length) : (flat encR (Y.take i)).length = i * 4 := by
  rw [flat_len (k := 4) (fun _ => rfl), List.length_take, Nat.min_eq_left h]
/-- A row that is owned, written out. -/
theorem own_cells {w : World} {base gl n cap : Nat} {Y : List RoV} (h : w.ownsRow base 77 4 (.slice (some ⟨gl, 0, none⟩) n cap) n (flat encR Y)) : ∃ rest, w.heap[gl]? = some (.cells (flat encR Y ++ rest).toArray 77 (0, 0)) ∧ base ≤ gl ∧ n ≤ cap ∧ cap ≤ maxLen ∧ (flat encR Y ++ rest).length = cap * 4 := by
  rcases h.2 with ⟨e, _⟩ | ⟨g5, cap', cur, e, h5, hh, h1, h2, h3, h4⟩
  · cases e
  · cases e
    refine ⟨cur.toList.drop (n * 4), ?_, h5, h1, h2, ?_⟩
    · rw [← h4, List.take_append_drop]
      exact hh
    · rw [← h4, List.take_append_drop]
      simpa using h3
theorem own_there {w : World} {base gl n cap i : Nat} {Y : List RoV} (h : w.ownsRow base 77 4 (.slice (some ⟨gl, 0, none⟩) n cap) n (flat encR Y)) (hi : i < Y.length) : w.there gl (i * 4) 4 := by
  obtain ⟨rest, hh, _⟩ := own_cells h
  have ht := there_row hh
  have hl := flat_len (enc := encR) (k := 4) (fun _ => rfl) Y
  intro j hj
  have k := ht (i * 4 + j) (by rw [List.length_append, hl]; omega)
  rwa [Nat.zero_add] at k
theorem own_range {w : World} {base gl n cap i : Nat} {Y : List RoV} (h : w.ownsRow base 77 4 (.slice (some ⟨gl, 0, none⟩) n cap) n (flat encR Y)) (hi : i < Y.length) : w.rangeAt gl (i * 4) (encR Y[i]) := by
  obtain ⟨rest, hh, _⟩ := own_cells h
  have hr := range_row hh
  intro j v hj
  have hj4 : j < (encR Y[i]).length := (List.getElem?_eq_some_iff.1 hj).1
  have k := hr (i * 4 + j) v (by
    rw [List.getElem?_append_left (by rw [flat_len (k := 4) (fun _ => rfl)]; have : (encR Y[i]).length = 4 := rfl; omega)]
    exact flat_at (enc := encR) (k := 4) (fun _ => rfl) Y i j Y[i] v (List.getElem?_eq_getElem hi) hj)
  rwa [Nat.zero_add] at k
theorem own_set {w : World} {base gl n cap i : Nat} {Y : List RoV} (h : w.ownsRow base 77 4 (.slice (some ⟨gl, 0, none⟩) n cap) n (flat encR Y)) (hi : i < Y.length) (q : RoV) : (rowSt w gl (i * 4) (encR q)).ownsRow base 77 4 (.slice (some ⟨gl, 0, none⟩) n cap) n (flat encR (Y.set i q)) := by
  obtain ⟨rest, hh, h1, h2, h3, h4⟩ := own_cells h
  have e0 := flat_mid0 hi
  have hm := mid_row (g := gl) (t := 77) (encR q) (flat encR (Y.take i)) (encR Y[i]) (flat encR (Y.drop (i + 1)) ++ rest) w (by rw [hh, e0]; simp) rfl
  rw [flat_tl (Nat.le_of_lt hi)] at hm
  have hl : (flat encR (Y.set i q)).length = n * 4 := by
    have := h.1
    rw [flat_len (k := 4) (fun _ => rfl)] at this
    rw [flat_len (k := 4) (fun _ => rfl), List.length_set]
    exact this
  refine ⟨hl, .inr ⟨gl, cap, _, rfl, h1, hm, h2, h3, ?_, ?_⟩⟩
  · rw [e0] at h4
    simp only [List.length_append, List.size_toArray] at h4 ⊢
    have a1 : (encR q).length = 4 := rfl
    have a2 : (encR Y[i]).length = 4 := rfl
    omega
  · rw [flat_mid hi q]
    simp only
    rw [← List.append_assoc, List.take_append_of_le_length (by rw [flat_mid hi q] at hl; exact Nat.le_of_eq hl.symm), List.take_of_length_le (by rw [flat_mid hi q] at hl; exact Nat.le_of_eq hl)]
def rvG (L : List RoG) (s : Nat) (nd : UInt8) : List RoG × (Nat × ByteArray) × Bool :=
  match L.find? (winR s nd) with
  | some q => (L.filter (fun p => p.s != s), (s, q.x), true)
  | none => (L.map (upR s nd), (0, ByteArray.empty), false)
def oqC (q : RoV) : List Value := [.int .u64 (q.g.s : Int), .string q.g.x, .slice q.c.a q.c.n q.c.c, .slice q.w.a q.w.n q.w.c]
def OqAt (w : World) (g : Nat) (q : RoV) : Prop := w.heap[g]? = some (.cells (oqC q).toArray 77 (0, 0))
theorem OqAt.below {w w' : World} {g : Nat} {q : RoV} (h : OqAt w g q) (hb : Below w.heap.size w w') : OqAt w' g q := (hb.block g (Array.getElem?_eq_some_iff.1 h).1).trans h
theorem oqC_one (q : RoV) : ∀ u ∈ oqC q, u.oneCell' = true := by simp [oqC, Value.oneCell']
theorem oqC_size (q : RoV) : (Try.prog.info? 77).map (·.size) = some (oqC q).length := (by kernel_rfl : (Try.prog.info? 77).map (·.size) = some 4)
def oqZ : List Value := [.int .u64 0, .string ByteArray.empty, .slice none 0 0, .slice none 0 0]
theorem OqAt.cells {w : World} {g : Nat} {q : RoV} (h : OqAt w g q) : w.cell? ⟨g, 0, none⟩ = some (.int .u64 (q.g.s : Int)) ∧ w.cell? ⟨g, 1, none⟩ = some (.string q.g.x) ∧ w.cell? ⟨g, 2, none⟩ = some (.slice q.c.a q.c.n q.c.c) ∧ w.cell? ⟨g, 3, none⟩ = some (.slice q.w.a q.w.n q.w.c) :=
  ⟨cell_of_row _ _ _ _ _ _ h, cell_of_row _ _ _ _ _ _ h, cell_of_row _ _ _ _ _ _ h, cell_of_row _ _ _ _ _ _ h⟩
theorem gh_at {Y Z : List RoV} {s i : Nat} {nd : UInt8} (h : Y.map (·.g) = ((Z.take i).map (fun q => upR s nd q.g)) ++ (Z.drop i).map (·.g)) (hi : i < Z.length) (hy : i < Y.length) : Y[i].g = Z[i].g := by
  have h1 : (Y.map (·.g))[i]? = some Y[i].g := by rw [List.getElem?_map, List.getElem?_eq_getElem hy]; rfl
  rw [h, List.getElem?_append_right (by simp; omega)] at h1
  simp only [List.length_map, List.length_take, Nat.min_eq_left (Nat.le_of_lt hi), Nat.sub_self, List.getElem?_map, List.getElem?_drop, Nat.add_zero, List.getElem?_eq_getElem hi, Option.map_some] at h1
  exact (Option.some.inj h1).symm
theorem gh_step {Y Z : List RoV} {s i : Nat} {nd : UInt8} (h : Y.map (·.g) = ((Z.take i).map (fun q => upR s nd q.g)) ++ (Z.drop i).map (·.g)) (hi : i < Z.length) (q : RoV) (hq : q.g = upR s nd Z[i].g) : (Y.set i q).map (·.g) = ((Z.take (i + 1)).map (fun q => upR s nd q.g)) ++ (Z.drop (i + 1)).map (·.g) := by
  rw [List.map_set, h, List.set_append_right _ _ (by simp; omega), List.take_succ_eq_append_getElem hi, List.drop_eq_getElem_cons hi]
  simp only [List.length_map, List.length_take, Nat.min_eq_left (Nat.le_of_lt hi), Nat.sub_self, List.map_cons, List.set_cons_zero, List.map_append, List.map_nil, List.append_assoc, List.singleton_append, hq]
theorem no_step {Z : List RoV} {s i : Nat} {nd : UInt8} (h : ∀ q ∈ Z.take i, winR s nd q.g = false) (hi : i < Z.length) (h2 : winR s nd Z[i].g = false) : ∀ q ∈ Z.take (i + 1), winR s nd q.g = false := by
  intro q hq
  rw [List.take_succ_eq_append_getElem hi] at hq
  rcases List.mem_append.1 hq with k | k
  · exact h q k
  · rw [List.mem_singleton.1 k]
    exact h2
theorem own_base {w : World} {base n cap : Nat} {t : TypeId} {k : Nat} {A : Option Addr} {xs : List Value} (h : w.ownsRow base t k (.slice A n cap) n xs) {g : Nat} (e : A = some ⟨g, 0, none⟩) : base ≤ g := by
  subst e
  rcases h.2 with ⟨e, _⟩ | ⟨g5, _, _, e, h5, _⟩
  · cases e
  · cases e
    exact h5
structure ButA (lo hi : Nat) (A : Option Addr) (w y : World) : Prop where
  os : y.os = w.os
  tape : y.tape = w.tape
  output : y.output = w.output
  size : w.heap.size ≤ y.heap.size
  block : ∀ k, k < w.heap.size → (k < lo ∨ hi ≤ k) → A ≠ some ⟨k, 0, none⟩ → y.heap[k]? = w.heap[k]?
theorem ButA.trans {lo hi : Nat} {A : Option Addr} {w y z : World} (h : ButA lo hi A w y) (h2 : ButA lo hi A y z) : ButA lo hi A w z :=
  ⟨h2.os.trans h.os, h2.tape.trans h.tape, h2.output.trans h.output, Nat.le_trans h.size h2.size, fun k hk hl hn => (h2.block k (Nat.lt_of_lt_of_le hk h.size) hl hn).trans (h.block k hk hl hn)⟩
theorem ButA.of {lo hi : Nat} {A : Option Addr} {w y : World} (h : Below w.heap.size w y) : ButA lo hi A w y := ⟨h.os, h.tape, h.output, h.size, fun k hk _ _ => h.block k hk⟩
theorem own_but {lo hi : Nat} {A : Option Addr} {w y : World} {base n k : Nat} {t : TypeId} {v : Value} {xs : List Value} (h : w.ownsRow base t k v n xs) (hb : ButA lo hi A w y) (hh : hi ≤ base) (hA : ∀ g, A = some ⟨g, 0, none⟩ → g < base) : y.ownsRow base t k v n xs := by
  refine ⟨h.1, ?_⟩
  rcases h.2 with q | ⟨g5, cap, cur, e, h5, hc, r⟩
  · exact .inl q
  · exact .inr ⟨g5, cap, cur, e, h5, (hb.block g5 (Array.getElem?_eq_some_iff.1 hc).1 (.inr (Nat.le_trans hh h5)) (fun e => by have := hA g5 e; omega)).trans hc, r⟩
/-- The lists of an open slot, whatever is written to the row at 'A'. -/
def RoSt (lo hi : Nat) (A : Option Addr) (w : World) (q : RoV) : Prop := ∀ y, ButA lo hi A w y → RoIn y q
theorem RoSt.next {lo hi : Nat} {A : Option Addr} {w y : World} {q : RoV} (h : RoSt lo hi A w q) (hb : ButA lo hi A w y) : RoSt lo hi A y q := fun z hz => h z (hb.trans hz)
theorem but_st {lo hi : Nat} {A : Option Addr} {w : World} {gl : Nat} (hA : A = some ⟨gl, 0, none⟩ ∨ (lo ≤ gl ∧ gl < hi)) (cs : List Value) (i : Nat) : ButA lo hi A w (rowSt w gl i cs) := by
  have h := rowSt_below (g := gl) (n := 0) (Nat.zero_le _) cs i _ (Below.refl 0 w)
  exact ⟨h.os, h.tape, h.output, h.size, fun k _ hl hn => rowSt_other (fun e => hA.elim (fun h => hn (by rw [h, e])) (fun h => by omega)) cs i w⟩
theorem rv_none {Z : List RoV} {s : Nat} {nd : UInt8} (h : ∀ q ∈ Z, winR s nd q.g = false) : rvG (Z.map (·.g)) s nd = (Z.map (fun q => upR s nd q.g), (0, ByteArray.empty), false) := by
  have e : (Z.map (·.g)).find? (winR s nd) = none := by
    rw [List.find?_eq_none]
    intro q hq
    obtain ⟨p, hp, rfl⟩ := List.mem_map.1 hq
    rw [h p hp]
    decide
  unfold rvG
  rw [e]
  simp [List.map_map, Function.comp_def]
theorem rv_some {Z : List RoV} {s i : Nat} {nd : UInt8} (hi : i < Z.length) (h : ∀ q ∈ Z.take i, winR s nd q.g = false) (h2 : winR s nd Z[i].g = true) : rvG (Z.map (·.g)) s nd = ((Z.map (·.g)).filter (fun p => p.s != s), (s, Z[i].g.x), true) := by
  have e : (Z.map (·.g)).find? (winR s nd) = some Z[i].g := by
    have e0 : Z.map (·.g) = (Z.take i).map (·.g) ++ (Z[i].g :: (Z.drop (i + 1)).map (·.g)) := by rw [← List.map_cons (f := fun q : RoV => q.g), ← List.drop_eq_getElem_cons hi, ← List.map_append, List.take_append_drop]
    rw [e0, List.find?_append]
    have e1 : ((Z.take i).map (·.g)).find? (winR s nd) = none := by
      rw [List.find?_eq_none]
      intro q hq
      obtain ⟨p, hp, rfl⟩ := List.mem_map.1 hq
      rw [h p hp]
      decide
    rw [e1, List.find?_cons, h2]
    simp
  unfold rvG
  rw [e]
theorem but_low {n g : Nat} {w0 w y : World} (hb : Below n w0 w) (hk : ButA 0 0 (some ⟨g, 0, none⟩) w y) (hg : n ≤ g) (hs : w0.heap.size ≤ w.heap.size) (hn : n ≤ w0.heap.size := by omega) : Below n w0 y :=
  hb.trans ⟨hk.os, hk.tape, hk.output, hk.size, fun k h => hk.block k (by omega) (.inr (Nat.zero_le _)) (fun e => by cases e; omega)⟩
theorem filt_g {Z : List RoV} {s : Nat} : (Z.filter (fun q => q.g.s != s)).map (·.g) = (Z.map (·.g)).filter (fun p => p.s != s) := by
  rw [List.filter_map]
  rfl
/-- A row whose lists lie where those of a row of 'Z' lie, or far. -/
def FromZ (B : Nat) (Z : List RoV) (q : RoV) : Prop := ∃ p ∈ Z, q.c = p.c ∧ (q.w = p.w ∨ FarS B q.w.a)
set_option maxRecDepth 100000 in
set_option maxHeartbeats 16000000 in
theorem rvoted_any (v : Value) (Z : List RoV) (last s : Nat) (nd : UInt8) (hZ : Z.length ≤ 1000) (_ : s < 18446744073709551616) (hll : ∀ q ∈ Z, q.g.cl.length ≤ 7 ∧ q.g.wl.length ≤ 200) (w : World) (h : RdAt2 w v Z last) :
    Calls Try.prog 21 #[v, .int .u8 (nd.toNat : Int), .int .u64 (s : Int)] w fun e w' => ∃ v' Z', e = .returned (.tuple #[v', itV (rvG (Z.map (·.g)) s nd).2.1.1 (rvG (Z.map (·.g)) s nd).2.1.2, .bool (rvG (Z.map (·.g)) s nd).2.2]) ∧ RdAt2 w' v' Z' last ∧ Z'.map (·.g) = (rvG (Z.map (·.g)) s nd).1 ∧ Below w.heap.size w w' ∧ (∃ A c, v' = .agg #[.slice A Z'.length c, .int .u64 (last : Int)] ∧ FarS w.heap.size A) ∧ ∀ q ∈ Z', FromZ w.heap.size Z q := by
  have HD0 := Lib.hid h
  obtain ⟨A, c0, rfl, hnil, hrows⟩ := h.out
  have b1 := (Below.refl w.heap.size w).alloc (Nat.le_refl _) (.cells (dkC A Z.length c0 last).toArray 50)
  have r1 : DkAt (w.alloc (.cells (dkC A Z.length c0 last).toArray 50)) w.heap.size A Z.length c0 last := heap_alloc_new _ _
  have HR := Lib.hid hrows
  have HE0 := Lib.hid (hrows.el)
  have HRW0 := Lib.hid hrows
  have HNIL := Lib.hid hnil
  have s1 : (w.alloc (.cells (dkC A Z.length c0 last).toArray 50)).heap.size = w.heap.size + 1 := by simp
  clear h hrows hnil
  obtain ⟨i0, hi0, hz0, hs0, hb0⟩ := info_parts infoR
  have Hi0 := Lib.hid (And.intro hi0 (And.intro hz0 (And.intro hs0 hb0)))
  obtain ⟨i8, hi8, hz8, hs8, hb8⟩ := info_parts info8
  have Hi8 := Lib.hid (And.intro hi8 (And.intro hz8 (And.intro hs8 hb8)))
  clear hi8 hz8 hs8 hb8
  have HLL := Lib.hid hll
  clear hi0 hz0 hs0 hb0 hll
  go_enter Try.func21, Try.ntmps21
  go_upto_region 1 with fail
  change Code.wp _ _ _ _ (((w.alloc (.cells (dkC A Z.length c0 last).toArray 50)).alloc (.cells (dkC none 0 0 0).toArray 50)).alloc (.cells (itCells 0 ByteArray.empty).toArray 34))
  generalize w.alloc (.cells (dkC A Z.length c0 last).toArray 50) = w1 at *
  have b2 := (Below.refl w1.heap.size w1).alloc (Nat.le_refl _) (.cells (dkC none 0 0 0).toArray 50)
  have r2 : DkAt (w1.alloc (.cells (dkC none 0 0 0).toArray 50)) w1.heap.size none 0 0 0 := heap_alloc_new _ _
  have s2 : (w1.alloc (.cells (dkC none 0 0 0).toArray 50)).heap.size = w1.heap.size + 1 := by simp
  rw [s1] at r2 s2
  generalize w1.alloc (.cells (dkC none 0 0 0).toArray 50) = w2 at *
  have b3 := (Below.refl w2.heap.size w2).alloc (Nat.le_refl _) (.cells (itCells 0 ByteArray.empty).toArray 34)
  have r3 : ItAt (w2.alloc (.cells (itCells 0 ByteArray.empty).toArray 34)) w2.heap.size 0 ByteArray.empty := heap_alloc_new _ _
  have s3 : (w2.alloc (.cells (itCells 0 ByteArray.empty).toArray 34)).heap.size = w2.heap.size + 1 := by simp
  rw [s2] at r3 s3
  generalize w2.alloc (.cells (itCells 0 ByteArray.empty).toArray 34) = w3 at *
  have R3 := Lib.hid ((r1.below b2).below b3)
  have R6 := Lib.hid (r2.below b3)
  have R7 := Lib.hid r3
  have B3 := Lib.hid ((b1.trans (b2.mono b1.size)).trans (b3.mono (b1.trans (b2.mono b1.size)).size))
  have HR3 := Lib.hid (HR.out.below B3.out)
  have HSZ := Lib.hid s3
  clear r1 r2 r3 b1 b2 b3 HR s1 s2 s3
  obtain ⟨n, hn⟩ : ∃ n, n = Z.length := ⟨_, rfl⟩
  have HRW := HRW0
  rw [← hn] at R3 HR3 hZ HNIL HRW ⊢
  have HN := Lib.hid hn
  clear hn
  obtain ⟨g3, hg3⟩ : ∃ g, g = w.heap.size := ⟨_, rfl⟩
  obtain ⟨g6, hg6⟩ : ∃ g, g = w.heap.size + 1 := ⟨_, rfl⟩
  obtain ⟨g7, hg7⟩ : ∃ g, g = w.heap.size + 1 + 1 := ⟨_, rfl⟩
  rw [← hg7] at R7 ⊢
  rw [← hg6] at R6 ⊢
  rw [← hg3] at R3 ⊢
  have HG := Lib.hid (And.intro hg3 (And.intro hg6 hg7))
  clear hg3 hg6 hg7
  have f0 : w3.cell? ⟨g3, 0, none⟩ = some (.slice A n c0) := cell_of_row _ _ _ _ _ _ R3.out
  go_upto_region 3 with (at_builtin; refine wpList_plain rfl (fun K hK => ?_); refine wp_append_slice (k := 4) (enc := encR) _ _ 48 rfl w3.heap.size 77 i0 _ 72 Try.underlying48 Hi0.out.1 Hi0.out.2.1 Hi0.out.2.2.1 Hi0.out.2.2.2 rfl (by omega) (fun _ => rfl) encR_one (.slice none 0 0) _ _ rfl (World.ownsRow_nil _ _ _ _) A n c0 Z rfl HR3.out.sl HNIL.out (by simp [maxLen]; omega) (by omega) (Nat.le_refl _) ?_; intro v4 w4 ho hg; rw [Nat.zero_add, List.nil_append] at ho; obtain ⟨A4, c4, rfl⟩ := own_slice_of ho; have H4 := Lib.hid (And.intro ho hg); clear ho hg; refine hK _ _ ?_)
  clear f0
  have hB4 : Below w3.heap.size w3 w4 := (Below.refl _ _).grown H4.out.2 (Nat.le_refl _) (fun k hk => by cases hk)
  have B4 := Lib.hid hB4
  clear hB4
  go_loopw [10] (fun s10 wr => ∃ (i : Nat) (Y : List RoV), s10 = .int .i64 (i : Int) ∧ i ≤ n ∧ Below w3.heap.size w3 wr ∧ wr.ownsRow w3.heap.size 77 4 (.slice A4 n c4) n (flat encR Y) ∧ Y.map (·.g) = ((Z.take i).map (fun q => upR s nd q.g)) ++ (Z.drop i).map (·.g) ∧ (∀ q ∈ Y, RoSt w.heap.size w3.heap.size A4 wr q) ∧ (∀ q ∈ Z.take i, winR s nd q.g = false) ∧ (∀ q ∈ Y, FromZ w.heap.size Z q)) (fun s10 _ => n - (intOf s10).toNat)
  case atStart => exact ⟨0, Z, rfl, Nat.zero_le _, B4.out, H4.out.1, by simp, fun q hq y hy => (HE0.out q hq).below ((B3.out.trans (B4.out.mono B3.out.size)).trans ⟨hy.os, hy.tape, hy.output, hy.size, fun k hk => hy.block k (by have := B3.out.size; have := B4.out.size; omega) (.inl hk) (fun e => by have := own_base H4.out.1 e; have := B3.out.size; omega)⟩), by simp, fun q hq => ⟨q, hq, rfl, .inl rfl⟩⟩
  case round =>
    obtain ⟨i, Y, rfl, hi, hb, ho, hgh, hel, hno, hfz⟩ := hrel
    have Hfz := Lib.hid hfz
    have Hb := Lib.hid hb
    have Ho := Lib.hid ho
    have Hgh := Lib.hid hgh
    have Hel := Lib.hid hel
    have Hno := Lib.hid hno
    have hyl : Y.length = n := by
      have h1 := congrArg List.length hgh
      simp only [List.length_map, List.length_append, List.length_take, List.length_drop] at h1
      have := HN.out
      omega
    clear hb ho hgh hel hno hfz
    by_cases hin : i < n
    · have hin' : (i : Int) < (n : Int) := by omega
      obtain ⟨gl, rfl⟩ : ∃ gl, A4 = some ⟨gl, 0, none⟩ := by
        rcases Ho.out.2 with ⟨e, e2⟩ | ⟨g5, _, _, e, _⟩
        · omega
        · cases e
          exact ⟨_, rfl⟩
      have hiZ : i < Z.length := by rw [← HN.out]; exact hin
      have hiY : i < Y.length := by rw [hyl]; exact hin
      have hYZ := gh_at Hgh.out hiZ hiY
      have hqi := Hel.out Y[i] (List.getElem_mem _) wr (ButA.of (Below.refl _ _))
      have hqs := Hel.out Y[i] (List.getElem_mem _)
      have hr := own_range Ho.out hiY
      obtain ⟨q, hq⟩ : ∃ q, q = Y[i] := ⟨_, rfl⟩
      have hqz : Z[i].g = q.g := by rw [hq]; exact hYZ.symm
      have hln := HLL.out Z[i] (List.getElem_mem _)
      rw [hqz] at hln
      rw [← hq] at hr hqi hqs
      have Hqs := Lib.hid hqs
      have Hr := Lib.hid (show wr.rangeAt gl (i * 4) [.int .u64 (q.g.s : Int), .string q.g.x, .slice q.c.a q.c.n q.c.c, .slice q.w.a q.w.n q.w.c] from hr)
      have Hqi := Lib.hid hqi
      have HQ := Lib.hid (And.intro hqz hq)
      have Hln := Lib.hid hln
      have HYZ := Lib.hid hYZ
      clear hr hqi hqs hqz hq hln hYZ
      go_upto_region 6 with (first
        | (with_reducible refine wpList_load_mid rfl 77 _ rfl gl (i * 4) rfl [.int .u64 (q.g.s : Int), .string q.g.x, .slice q.c.a q.c.n q.c.c, .slice q.w.a q.w.n q.w.c] _ Hr.out Try.underlying77 rfl (enc4_size _ _ _ _) ?_)
        | ((with_reducible refine wpList_store_mid rfl 77 _ _ rfl wr.heap.size 0 _ rfl rfl ?_ ?_ ?_ ?_); exact th_new wr oqZ 77; exact oqC_size q; exact all_oneCell_toArray (oqC_one q)))
      change Code.wp _ _ _ _ ((wr.alloc (.cells oqZ.toArray 77)).setCells wr.heap.size 0 (oqC q))
      have hb5 := box_below wr oqZ (oqC q) 77
      have HB5 := Lib.hid (show OqAt _ _ q from box_row wr oqZ (oqC q) 77 rfl)
      have hb9 := Hb.out.trans (hb5.mono Hb.out.size)
      have hgb : w3.heap.size ≤ wr.heap.size := Hb.out.size
      have hsz5 := box_size wr oqZ (oqC q) 77
      generalize (wr.alloc (.cells oqZ.toArray 77)).setCells wr.heap.size 0 (oqC q) = w5 at *
      obtain ⟨f0, f1, f2, f3⟩ := HB5.out.cells
      have Hg5 := Lib.hid (And.intro hb5 (And.intro hb9 (And.intro hgb hsz5)))
      have hh1 := has8_any (.slice q.c.a q.c.n q.c.c) q.g.cl nd (by have := Hln.out; omega) w5 (Hqi.out.1.below hb5)
      have hh2 := has8_any (.slice q.w.a q.w.n q.w.c) q.g.wl nd (by have := Hln.out; omega) w5 (Hqi.out.2.below hb5)
      have Hmj := Lib.hid (fun (y : World) (vb : Value) (b : List UInt8) (hb : b.length ≤ 1000) (h1 : ReadB y (.slice q.c.a q.c.n q.c.c) q.g.cl) (h2 : ReadB y vb b) => rmaj_any (.slice q.c.a q.c.n q.c.c) vb q.g.cl b (by have := Hln.out; omega) hb y h1 h2)
      clear hsz5
      by_cases hsl : q.g.s = s
      · have hsl' : ((q.g.s : Int) != (s : Int)) = false := by simp [hsl]
        cases hc : hasB q.g.cl nd with
        | false =>
          rw [hc] at hh1
          have Hh1 := Lib.hid hh1
          have HU := Lib.hid (show Y[i].g = upR s nd Z[i].g ∧ winR s nd Z[i].g = false by rw [← HQ.out.2, HQ.out.1]; unfold upR winR; simp [hc])
          clear hh1 hh2 hsl hc
          go_wp2_with ((with_reducible refine Hh1.out.mono ?_); rintro e w6 ⟨rfl, rfl⟩)
          have hb5 := Hg5.out.1
          have hb9 := Hg5.out.2.1
          refine ⟨⟨i + 1, Y, rfl, by omega, hb9, own_below Ho.out hb5, (by have h9 := gh_step Hgh.out hiZ Y[i] HU.out.1; rwa [List.set_getElem_self] at h9), (fun q hq => (Hel.out q hq).next (ButA.of hb5)), no_step Hno.out hiZ HU.out.2, Hfz.out⟩, by simp only [intOf]; omega⟩
        | true =>
          rw [hc] at hh1
          have Hh1 := Lib.hid hh1
          cases hw : hasB q.g.wl nd with
          | true =>
            rw [hw] at hh2
            have Hh2 := Lib.hid hh2
            have HU := Lib.hid (show Y[i].g = upR s nd Z[i].g ∧ winR s nd Z[i].g = false by rw [← HQ.out.2, HQ.out.1]; unfold upR winR; simp [hw])
            clear hh1 hh2 hsl hc hw
            go_wp2_with (first | ((with_reducible refine Hh1.out.mono ?_); rintro e w6 ⟨rfl, rfl⟩) | ((with_reducible refine Hh2.out.mono ?_); rintro e w6 ⟨rfl, rfl⟩))
            have hb5 := Hg5.out.1
            have hb9 := Hg5.out.2.1
            refine ⟨⟨i + 1, Y, rfl, by omega, hb9, own_below Ho.out hb5, (by have h9 := gh_step Hgh.out hiZ Y[i] HU.out.1; rwa [List.set_getElem_self] at h9), (fun q hq => (Hel.out q hq).next (ButA.of hb5)), no_step Hno.out hiZ HU.out.2, Hfz.out⟩, by simp only [intOf]; omega⟩
          | false =>
            rw [hw] at hh2
            have Hh2 := Lib.hid hh2
            have HSL := Lib.hid (And.intro hsl (And.intro hc hw))
            clear hh1 hh2 hsl hc hw
            have Hwl := Lib.hid (Hqi.out.2.below hb5)
            clear hb5 hb9 hgb
            go_upto_region 8 with (first | ((with_reducible refine Hh1.out.mono ?_); rintro e w6 ⟨rfl, rfl⟩) | ((with_reducible refine Hh2.out.mono ?_); rintro e w6 ⟨rfl, rfl⟩) | (at_builtin; refine wpList_append_read rfl _ _ 22 rfl w5.heap.size 5 i8 (.int .u8 0) Try.underlying22 Hi8.out.1 Hi8.out.2.1 Hi8.out.2.2.1 Hi8.out.2.2.2 rfl (.slice none 0 0) 0 [] rfl (World.ownsRow_nil _ _ _ _) _ _ rfl Hwl.out (by have := Hln.out; omega) (Nat.le_refl _) ?_; intro v6 w6 ho6 hg6; rw [Nat.zero_add, List.nil_append] at ho6; have H6 := Lib.hid (And.intro ho6 hg6); clear ho6 hg6; have Hone := Lib.hid (ReadB.one w6 nd 5); have hs6 : w5.heap.size ≤ w6.heap.size := H6.out.2.size; have Hs6 := Lib.hid hs6; clear hs6) | (at_builtin; refine wpList_append_read rfl _ _ 22 rfl w5.heap.size 5 i8 (.int .u8 0) Try.underlying22 Hi8.out.1 Hi8.out.2.1 Hi8.out.2.2.1 Hi8.out.2.2.2 rfl _ _ _ rfl (World.ownsRow.alloc H6.out.1 _) _ _ rfl Hone.out (by have := Hln.out; show q.g.wl.length + 1 ≤ _; omega) (by have := Hs6.out; simp; omega) ?_; intro v7 w7 ho7 hg7; have hb7 : Below w5.heap.size w5 w7 := (((Below.refl w5.heap.size w5).grown H6.out.2 (Nat.le_refl _) (fun k hk => by cases hk)).alloc Hs6.out _).grown hg7 (by have := Hs6.out; simp; omega) (fun k hk => (World.ownsRow.lt H6.out.1 k hk).1); have ho8 := OwnB.of (l := q.g.wl) (k := [nd]) ho7 rfl rfl; clear ho7 hg7; obtain ⟨A7, c7, rfl⟩ := ownB_len ho8; rw [List.length_append, List.length_singleton] at ho8; have H7 := Lib.hid (And.intro ho8 hb7); have HB7 := Lib.hid (HB5.out.below (hb7.mono (Nat.le_refl _))); clear ho8 hb7; clear f0 f1 f2 f3; have f3 : w7.cell? ⟨wr.heap.size, 3, none⟩ = some (.slice q.w.a q.w.n q.w.c) := HB7.out.cells.2.2.2; have e3 := thawed_row 3 HB7.out))
            change Code.wp _ _ _ _ (w7.setCell ⟨wr.heap.size, 3, none⟩ (.slice A7 (q.g.wl.length + 1) c7))
            obtain ⟨q2, hq2⟩ : ∃ q2 : RoV, q2 = (⟨⟨q.g.s, q.g.x, q.g.cl, q.g.wl ++ [nd]⟩, q.c, ⟨A7, q.g.wl.length + 1, c7⟩⟩ : RoV) := ⟨_, rfl⟩
            have HX8 := Lib.hid (show OqAt (w7.setCell ⟨wr.heap.size, 3, none⟩ (.slice A7 (q.g.wl.length + 1) c7)) wr.heap.size q2 from by
              unfold OqAt
              rw [heap_setCell_same _ _ _ _ _ _ HB7.out, hq2]
              rfl)
            have hoth : ∀ k, k ≠ wr.heap.size → (w7.setCell ⟨wr.heap.size, 3, none⟩ (.slice A7 (q.g.wl.length + 1) c7)).heap[k]? = w7.heap[k]? := fun k hk => Below.heap_setCell _ _ _ _ (fun e => hk (by exact e))
            have hb8 : Below wr.heap.size wr (w7.setCell ⟨wr.heap.size, 3, none⟩ (.slice A7 (q.g.wl.length + 1) c7)) := (Hg5.out.1.trans (H7.out.2.mono (Nat.le_of_lt Hg5.out.2.2.2))).trans ⟨rfl, rfl, rfl, by simp, fun k hk => hoth k (by omega)⟩
            have HO8 := Lib.hid (own_other H7.out.1 (g := wr.heap.size) Hg5.out.2.2.2 hoth)
            have Hb8 := Lib.hid hb8
            clear f3 e3 hoth hb8
            generalize w7.setCell ⟨wr.heap.size, 3, none⟩ (.slice A7 (q.g.wl.length + 1) c7) = w8 at *
            have g2 : w8.cell? ⟨wr.heap.size, 2, none⟩ = some (.slice q.c.a q.c.n q.c.c) := by have := HX8.out.cells.2.2.1; rwa [hq2] at this
            have g3' : w8.cell? ⟨wr.heap.size, 3, none⟩ = some (.slice A7 (q.g.wl.length + 1) c7) := by have := HX8.out.cells.2.2.2; rwa [hq2] at this
            have hma := Hmj.out w8 (.slice A7 (q.g.wl.length + 1) c7) (q.g.wl ++ [nd]) (by have := Hln.out; simp; omega) (Hqi.out.1.below Hb8.out) (OwnB.read HO8.out)
            have HQ2 := Lib.hid hq2
            clear hq2 Hmj
            cases hm : rmajB q.g.cl (q.g.wl ++ [nd]) with
            | true =>
              rw [hm] at hma
              have Hma := Lib.hid hma
              have HU := Lib.hid (show winR s nd Z[i].g = true by rw [HQ.out.1]; unfold winR; simp [HSL.out.1, HSL.out.2.1, HSL.out.2.2, hm])
              clear hma hm
              go_upto_region 9 with ((with_reducible refine Hma.out.mono ?_); rintro e w9 ⟨rfl, h9⟩; have H9 := Lib.hid h9; clear h9)
              have hb9 := Hb.out.trans ((Hb8.out.trans (H9.out.mono Hb8.out.size)).mono Hb.out.size)
              have HX9 := Lib.hid (show OqAt w9 wr.heap.size q2 from HX8.out.below H9.out)
              have Hb9 := Lib.hid (B3.out.trans (hb9.mono B3.out.size))
              have R3' := Lib.hid (R3.out.below hb9)
              have R6' := Lib.hid (R6.out.below hb9)
              have R7' := Lib.hid (R7.out.below hb9)
              have hZ2 : Z.length ≤ 1000 := by rw [← HN.out]; exact hZ
              have Hcl := Lib.hid (fun (y : World) (hy : Below w.heap.size w y) => rclose_own (.agg #[.slice A n c0, .int .u64 (last : Int)]) Z last s hZ2 y (by have h9 := HD0.out.below hy; rwa [← HN.out] at h9))
              have H76 := Lib.hid (show g7 ≠ g6 by have := HG.out; omega)
              clear hb9 hZ2 g2 g3'
              refine (wpIn_wide (n := 1)).1 ?_
              refine RegK.wpIn_region_can (F := Fence.wide) (ButA 0 0 (some ⟨g6, 0, none⟩) w9) [(0, 0), (1, 0), (3, 0), (4, 0), (5, 0), (6, 0), (2, 1), (7, 1), (8, 3), (9, 0)] (by kernel_rfl) (by kernel_rfl) (by kernel_rfl) (fun _ _ d _ _ h => by cases d <;> exact h) ⟨rfl, rfl, rfl, Nat.le_refl _, fun _ _ _ _ => rfl⟩ ?_
              dsimp only [RegK.pick, List.getElem?_cons_zero, List.getElem?_cons_succ]
              change RegK.Can _ _ _ _ _ _ _ _ w9.drew
              have hkd : ButA 0 0 (some ⟨g6, 0, none⟩) w9 w9.drew := ⟨rfl, rfl, rfl, Nat.le_refl _, fun _ _ _ _ => rfl⟩
              have HKD := Lib.hid (show w9.drew.heap = w9.heap from rfl)
              generalize w9.drew = v1 at *
              refine RegK.can_reads ?_
              intro K hK
              rw [if_pos (by first | (simp [Region.wanted]; done) | (go_simp; done))]
              refine ⟨.agg (dkC A n c0 last).toArray, fun y hy => exec_load rfl rfl (row_loadAt (P := Try.prog) (cs := dkC A n c0 last) ((hy.block g3 (Array.getElem?_eq_some_iff.1 R3'.out).1 (.inr (Nat.zero_le _)) (by have := HG.out; intro e; cases e; omega)).trans R3'.out) Try.underlying50 rfl (dkC_size A n c0 last)), hK _ ?_⟩
              clear hK K
              go_simp
              iterate 3 (refine RegK.can_reads ?_; intro K hK; go_simp; (first | refine ⟨_, fun _ _ => rfl, hK _ ?_⟩ | refine hK _ ?_); clear hK K)
              refine RegK.can_reads ?_
              intro K hK
              go_simp
              refine ⟨.string q.g.x, fun y hy => ?_, hK _ ?_⟩
              · have f1 : y.cell? ⟨wr.heap.size, 1, none⟩ = some (.string q.g.x) := by have h8 := OqAt.cells ((hy.block wr.heap.size (Array.getElem?_eq_some_iff.1 HX9.out).1 (.inr (Nat.zero_le _)) (by have := HG.out; have := HSZ.out; have := Hb.out.size; intro e; cases e; omega)).trans HX9.out); have h9 := h8.2.1; rwa [HQ2.out] at h9
                go_simp
              clear hK K
              refine RegK.can_reads ?_; intro K hK; go_simp; (first | refine ⟨_, fun _ _ => rfl, hK _ ?_⟩ | refine hK _ ?_); clear hK K
              refine RegK.can_turns (fun _ => trivial) ?_
              intro K K0 hK hK0
              go_simp
              refine ⟨trivial, ?_⟩
              refine (callsIn_wide.2 (Hcl.out v1 (but_low Hb9.out hkd (by have := HG.out; omega) Hb9.out.size))).mono ?_
              rintro e v2 ⟨vv, rfl, hrd, hb7, A5, c5, rfl, ho5⟩
              have v2k : ButA 0 0 (some ⟨g6, 0, none⟩) w9 v2 := ButA.trans hkd (ButA.of hb7)
              refine hK _ _ v2k ?_
              clear hK K hK0 K0
              have HR5 := Lib.hid ho5
              have HB8 := Lib.hid hb7
              clear ho5 hrd hb7
              obtain ⟨m, hm⟩ : ∃ m, m = (Z.filter (fun q => q.g.s != s)).length := ⟨_, rfl⟩
              rw [← hm] at HR5 ⊢
              have HM := Lib.hid hm
              clear hm
              have h6 : DkAt v2 g6 none 0 0 0 := (HB8.out.block g6 (by rw [HKD.out]; exact (Array.getElem?_eq_some_iff.1 R6'.out).1)).trans (by rw [HKD.out]; exact R6'.out)
              have h7 : ItAt v2 g7 0 ByteArray.empty := (HB8.out.block g7 (by rw [HKD.out]; exact (Array.getElem?_eq_some_iff.1 R7'.out).1)).trans (by rw [HKD.out]; exact R7'.out)
              have hbz := rowSt_below (g := g6) (n := w.heap.size) (by have := HG.out; omega) (dkC A5 m c5 last) 0 _ (but_low Hb9.out v2k (by have := HG.out; omega) Hb9.out.size)
              have hza : DkAt (rowSt v2 g6 0 (dkC A5 m c5 last)) g6 A5 m c5 last := rowSt_row (dkC A5 m c5 last) [] (dkC none 0 0 0) v2 h6 rfl
              have h7b := (rowSt_other H76.out (dkC A5 m c5 last) 0 v2).trans h7
              have hkz : ButA 0 0 (some ⟨g6, 0, none⟩) w9 (rowSt v2 g6 0 (dkC A5 m c5 last)) := v2k.trans (but_st (.inl rfl) (dkC A5 m c5 last) 0)
              refine RegK.can_turns (fun _ => trivial) ?_
              intro K K0 hK hK0
              rw [if_pos (by simp [Region.wanted])]
              refine RegK.op_wide rfl ?_
              refine wp_store_mid 50 _ _ rfl g6 0 (dkC A5 m c5 last).toArray rfl rfl (there_row (cs := dkC none 0 0 0) h6) (dkC_size A5 m c5 last) (all_oneCell_toArray (dkC_one A5 m c5 last)) ?_
              rw [show (v2).setCells g6 0 (dkC A5 m c5 last).toArray.toList = rowSt v2 g6 0 (dkC A5 m c5 last) from st_eq _ _ _]
              refine hK _ _ hkz ?_
              clear hK K hK0 K0
              have hoa := own_other (own_base_mono HR5.out (show w3.heap.size ≤ v1.heap.size by rw [congrArg Array.size HKD.out]; have := Hb.out.size; have := Hb8.out.size; have := H9.out.size; omega)) (g := g6) (by have := HG.out; have := HSZ.out; omega) (fun k hk => (rowSt_other hk (dkC A5 m c5 last) 0 v2))
              generalize rowSt v2 g6 0 (dkC A5 m c5 last) = wa at *
              have hbz2 := rowSt_below (g := g7) (n := w.heap.size) (by have := HG.out; omega) (itCells s q.g.x) 0 _ hbz
              have hzb : ItAt (rowSt wa g7 0 (itCells s q.g.x)) g7 s q.g.x := rowSt_row (itCells s q.g.x) [] (itCells 0 ByteArray.empty) wa h7b rfl
              have hza2 : DkAt (rowSt wa g7 0 (itCells s q.g.x)) g6 A5 m c5 last := (rowSt_other (fun e => H76.out e.symm) (itCells s q.g.x) 0 wa).trans hza
              have HF := Lib.hid (And.intro hza2 (And.intro hzb hbz2))
              obtain ⟨A9, c9, e9, hn9, hr9⟩ := rows_own (Z := Z.filter (fun q => q.g.s != s)) (own_other hoa (g := g7) (by have := HG.out; have := HSZ.out; omega) (fun k hk => rowSt_other hk (itCells s q.g.x) 0 wa)) HM.out.symm (by have h1 := List.length_filter_le (fun q : RoV => q.g.s != s) Z; have := HM.out; have := HN.out; simp [maxLen]; omega) (fun q' hq' => (HE0.out q' (List.mem_filter.1 hq').1).below hbz2)
              cases e9
              have HOZ := Lib.hid (And.intro hn9 hr9)
              clear hn9 hr9
              refine RegK.can_frees (fun _ => trivial) ?_
              intro K K0 hK hK0
              rw [if_pos (by simp [Region.wanted])]
              refine RegK.op_wide rfl ?_
              refine wp_store_mid 34 _ _ rfl g7 0 (itCells s q.g.x).toArray rfl rfl (there_row (cs := itCells 0 ByteArray.empty) h7b) (it_size s q.g.x) (all_oneCell_toArray (it_one s q.g.x)) ?_
              rw [show (wa).setCells g7 0 (itCells s q.g.x).toArray.toList = rowSt wa g7 0 (itCells s q.g.x) from st_eq _ _ _]
              refine hK (fun _ => True) _ _ trivial ?_
              clear hK K hK0 K0 
              clear hbz2 hzb hza2 hza h7b hbz h6 h7
              generalize rowSt wa g7 0 (itCells s q.g.x) = wz at *
              refine RegK.can_reads ?_; intro K hK; go_simp; (first | refine ⟨_, fun _ _ => rfl, hK _ ?_⟩ | refine hK _ ?_); clear hK K
              refine RegK.can_nil ?_
              go_wp2_with fail
              refine bodyPost_ret (v := .tuple #[.agg (dkC A5 m c5 last).toArray, itV s q.g.x, .bool true]) (by simp [results, Try.results21, show (asAddr (Value.pointer (some ⟨g6, 0, none⟩))).run Try.prog wz = .ok ⟨g6, 0, none⟩ wz from rfl, show (asAddr (Value.pointer (some ⟨g7, 0, none⟩))).run Try.prog wz = .ok ⟨g7, 0, none⟩ wz from rfl, dk_loadVar HF.out.1, it_loadVar HF.out.2.1]) rfl ?_
              rw [rv_some hiZ Hno.out HU.out, HQ.out.1]
              exact ⟨_, Z.filter (fun q => q.g.s != s), rfl, ⟨⟨A5, c5, by rw [← HM.out]; rfl, by rw [← HM.out]; exact HOZ.out.1, by rw [← HM.out]; exact HOZ.out.2⟩⟩, filt_g, HF.out.2.2, ⟨A5, c5, by rw [← HM.out]; rfl, FarS.mono (own_far HR5.out) (by rw [congrArg Array.size HKD.out]; exact Hb9.out.size)⟩, fun q hq => ⟨q, (List.mem_filter.1 hq).1, rfl, .inl rfl⟩⟩
            | false =>
              rw [hm] at hma
              have Hma := Lib.hid hma
              have HU := Lib.hid (show q2.g = upR s nd Z[i].g ∧ winR s nd Z[i].g = false by rw [HQ.out.1, HQ2.out]; unfold winR upR; simp [HSL.out.1, HSL.out.2.1, HSL.out.2.2, hm])
              clear hma hm
              go_upto_region 10 with ((with_reducible refine Hma.out.mono ?_); rintro e w9 ⟨rfl, h9⟩; have H9 := Lib.hid h9; clear h9)
              have HX9 := Lib.hid (HX8.out.below H9.out)
              have hb9 := Hb8.out.trans (H9.out.mono Hb8.out.size)
              have Ho9 := Lib.hid (own_below Ho.out hb9)
              have Hb9 := Lib.hid hb9
              have Hr9 := Lib.hid (show w9.rangeAt wr.heap.size 0 [.int .u64 (q.g.s : Int), .string q.g.x, .slice q.c.a q.c.n q.c.c, .slice A7 (q.g.wl.length + 1) c7] from by have := range_row HX9.out; rw [HQ2.out] at this; exact this)
              clear hb9 g2 g3'
              go_wp2_with (first
                | (with_reducible refine wpList_load_mid rfl 77 _ rfl wr.heap.size 0 rfl [.int .u64 (q.g.s : Int), .string q.g.x, .slice q.c.a q.c.n q.c.c, .slice A7 (q.g.wl.length + 1) c7] _ Hr9.out Try.underlying77 rfl (enc4_size _ _ _ _) ?_)
                | ((with_reducible refine wpList_store_mid rfl 77 _ _ rfl gl (i * 4) _ rfl rfl ?_ ?_ ?_ ?_); exact own_there Ho9.out hiY; exact encR_size (⟨⟨q.g.s, q.g.x, q.g.cl, q.g.wl ++ [nd]⟩, q.c, ⟨A7, q.g.wl.length + 1, c7⟩⟩ : RoV); exact all_oneCell_toArray (encR_one (⟨⟨q.g.s, q.g.x, q.g.cl, q.g.wl ++ [nd]⟩, q.c, ⟨A7, q.g.wl.length + 1, c7⟩⟩ : RoV))))
              have hst := st_eq (g := gl) (encR (⟨⟨q.g.s, q.g.x, q.g.cl, q.g.wl ++ [nd]⟩, q.c, ⟨A7, q.g.wl.length + 1, c7⟩⟩ : RoV)) (i * 4) w9
              have hos := own_set Ho9.out hiY (⟨⟨q.g.s, q.g.x, q.g.cl, q.g.wl ++ [nd]⟩, q.c, ⟨A7, q.g.wl.length + 1, c7⟩⟩ : RoV)
              have hgl := own_base Ho9.out rfl
              have hglw : gl < wr.heap.size := by obtain ⟨_, hh, _⟩ := own_cells Ho.out; exact (Array.getElem?_eq_some_iff.1 hh).1
              have hbz := rowSt_below (g := gl) (n := w3.heap.size) hgl (encR (⟨⟨q.g.s, q.g.x, q.g.cl, q.g.wl ++ [nd]⟩, q.c, ⟨A7, q.g.wl.length + 1, c7⟩⟩ : RoV)) (i * 4) _ (Hb.out.trans (Hb9.out.mono Hb.out.size))
              have hbu := but_st (w := w9) (lo := w.heap.size) (hi := w3.heap.size) (A := some ⟨gl, 0, none⟩) (.inl rfl) (encR (⟨⟨q.g.s, q.g.x, q.g.cl, q.g.wl ++ [nd]⟩, q.c, ⟨A7, q.g.wl.length + 1, c7⟩⟩ : RoV)) (i * 4)
              rw [← hst] at hos hbz hbu
              have hwl : OwnB w9 w5.heap.size 5 (.slice A7 (q.g.wl.length + 1) c7) (q.g.wl ++ [nd]) := own_below HO8.out (H9.out.mono (Nat.le_refl _))
              have hbw := (ButA.of (lo := w.heap.size) (hi := w3.heap.size) (A := some ⟨gl, 0, none⟩) Hb9.out).trans hbu
              refine ⟨⟨i + 1, Y.set i (⟨⟨q.g.s, q.g.x, q.g.cl, q.g.wl ++ [nd]⟩, q.c, ⟨A7, q.g.wl.length + 1, c7⟩⟩ : RoV), rfl, by omega, hbz, hos, gh_step Hgh.out hiZ (⟨⟨q.g.s, q.g.x, q.g.cl, q.g.wl ++ [nd]⟩, q.c, ⟨A7, q.g.wl.length + 1, c7⟩⟩ : RoV) (by have := HU.out.1; rwa [HQ2.out] at this), (fun q' hq' => ?_), no_step Hno.out hiZ HU.out.2, (fun q' hq' => ?_)⟩, by simp only [intOf]; omega⟩
              rotate_left
              · rcases List.mem_or_eq_of_mem_set hq' with h | h
                · exact Hfz.out q' h
                · obtain ⟨p0, hp0, e1, _⟩ := Hfz.out Y[i] (List.getElem_mem _)
                  rw [← HQ.out.2] at e1
                  rw [h]
                  exact ⟨p0, hp0, e1, .inr (FarS.mono (own_far hwl) (by have h1 := B3.out.size; have h2 := Hg5.out.2.2; omega))⟩
              rcases List.mem_or_eq_of_mem_set hq' with h | h
              · exact (Hel.out q' h).next hbw
              · subst h
                intro y hy
                exact ⟨(Hqs.out y (hbw.trans hy)).1, OwnB.read (own_but hwl (hbu.trans hy) (by have := Hg5.out.2.2; omega) (fun g e => by cases e; have := Hg5.out.2.2.2; omega))⟩
      · have hsl' : ((q.g.s : Int) != (s : Int)) = true := by simp; omega
        have HU := Lib.hid (show Y[i].g = upR s nd Z[i].g ∧ winR s nd Z[i].g = false by rw [← HQ.out.2, HQ.out.1]; unfold upR winR; simp [hsl])
        clear hh1 hh2 hsl
        go_wp2_with fail
        have hb5 := Hg5.out.1
        have hb9 := Hg5.out.2.1
        refine ⟨⟨i + 1, Y, rfl, by omega, hb9, own_below Ho.out hb5, (by have h9 := gh_step Hgh.out hiZ Y[i] HU.out.1; rwa [List.set_getElem_self] at h9), (fun q hq => (Hel.out q hq).next (ButA.of hb5)), no_step Hno.out hiZ HU.out.2, Hfz.out⟩, by simp only [intOf]; omega⟩
    · have hin' : ¬ (i : Int) < (n : Int) := by omega
      have hie : i = n := by omega
      subst hie
      have hall : Z.take i = Z := List.take_of_length_le (by rw [← HN.out]; exact Nat.le_refl _)
      have hdr : Z.drop i = [] := List.drop_of_length_le (by rw [← HN.out]; exact Nat.le_refl _)
      have R6' := Lib.hid (R6.out.below Hb.out)
      have R7' := Lib.hid (R7.out.below Hb.out)
      have f3 : wr.cell? ⟨g3, 1, none⟩ = some (.int .u64 (last : Int)) := cell_of_row _ _ _ _ _ _ (R3.out.below Hb.out)
      have hgh := Hgh.out
      have hno := Hno.out
      rw [hall, hdr, List.map_nil, List.append_nil] at hgh
      rw [hall] at hno
      have HGH := Lib.hid (And.intro hgh hno)
      have h76 : g7 ≠ g6 := by have := HG.out; omega
      have H76 := Lib.hid h76
      clear hall hdr hgh hno h76
      go_wp2_with (first
        | ((with_reducible refine wpList_store_mid rfl 50 _ _ rfl g6 0 _ rfl rfl ?_ ?_ ?_ ?_); exact there_row (cs := dkC none 0 0 0) R6'.out; exact dkC_size A4 i c4 last; exact all_oneCell_toArray (dkC_one A4 i c4 last))
        | ((with_reducible refine wpList_store_mid rfl 34 _ _ rfl g7 0 _ rfl rfl ?_ ?_ ?_ ?_); exact there_row (cs := itCells 0 ByteArray.empty) (by rw [st_eq]; exact (rowSt_other H76.out _ _ _).trans R7'.out); exact it_size 0 ByteArray.empty; exact all_oneCell_toArray (it_one 0 ByteArray.empty)))
      change bodyPost _ _ _ _ _ (World.setCells (World.setCells _ g6 0 (dkC A4 i c4 last)) g7 0 (itCells 0 ByteArray.empty))
      have hoa := Ho.out
      have hza : DkAt (rowSt wr g6 0 (dkC A4 i c4 last)) g6 A4 i c4 last := rowSt_row (dkC A4 i c4 last) [] (dkC none 0 0 0) wr R6'.out rfl
      have hbz := rowSt_below (g := g6) (n := w.heap.size) (by have := HG.out; omega) (dkC A4 i c4 last) 0 _ (B3.out.trans (Hb.out.mono B3.out.size))
      have hox := fun (k : Nat) (hk : k ≠ g6) => rowSt_other hk (dkC A4 i c4 last) 0 wr
      have hb1 := but_st (w := wr) (A := A4) (lo := w.heap.size) (hi := w3.heap.size) (.inr (by have := HG.out; have := HSZ.out; omega)) (dkC A4 i c4 last) 0 (gl := g6)
      have hl6 : g6 < w3.heap.size := by have := HG.out; have := HSZ.out; omega
      have hl7 : g7 < w3.heap.size := by have := HG.out; have := HSZ.out; omega
      have ho8 := own_other hoa hl6 hox
      have h7 := (hox g7 H76.out).trans R7'.out
      rw [st_eq, st_eq]
      generalize rowSt wr g6 0 (dkC A4 i c4 last) = w8 at *
      have hzb : ItAt (rowSt w8 g7 0 (itCells 0 ByteArray.empty)) g7 0 ByteArray.empty := rowSt_row (itCells 0 ByteArray.empty) [] (itCells 0 ByteArray.empty) w8 h7 rfl
      have hbz2 := rowSt_below (g := g7) (n := w.heap.size) (by have := HG.out; omega) (itCells 0 ByteArray.empty) 0 _ hbz
      have hox2 := fun (k : Nat) (hk : k ≠ g7) => rowSt_other hk (itCells 0 ByteArray.empty) 0 w8
      have hb2 := but_st (w := w8) (A := A4) (lo := w.heap.size) (hi := w3.heap.size) (.inr (by have := HG.out; have := HSZ.out; omega)) (itCells 0 ByteArray.empty) 0 (gl := g7)
      have ho9 := own_other ho8 hl7 hox2
      have hza2 : DkAt (rowSt w8 g7 0 (itCells 0 ByteArray.empty)) g6 A4 i c4 last := (hox2 g6 (fun e => H76.out e.symm)).trans hza
      obtain ⟨A9, c9, e9, hn9, hr9⟩ := rows_own (Z := Y) ho9 hyl (by simp [maxLen]; omega) (fun q hq => Hel.out q hq _ (hb1.trans hb2))
      cases e9
      have HF := Lib.hid (And.intro hn9 (And.intro hr9 (And.intro hza2 (And.intro hzb hbz2))))
      clear hn9 hr9 hza2 hzb hbz2 hoa hza hbz hox hb1 ho8 h7 hox2 hb2 ho9
      generalize rowSt w8 g7 0 (itCells 0 ByteArray.empty) = w9 at *
      refine bodyPost_ret (v := .tuple #[.agg (dkC A4 i c4 last).toArray, itV 0 ByteArray.empty, .bool false]) (by simp [results, Try.results21, show (asAddr (Value.pointer (some ⟨g6, 0, none⟩))).run Try.prog w9 = .ok ⟨g6, 0, none⟩ w9 from rfl, show (asAddr (Value.pointer (some ⟨g7, 0, none⟩))).run Try.prog w9 = .ok ⟨g7, 0, none⟩ w9 from rfl, dk_loadVar HF.out.2.2.1, it_loadVar HF.out.2.2.2.1]) rfl ?_
      rw [rv_none HGH.out.2]
      exact ⟨_, rfl, Y, ⟨⟨A4, c4, by rw [hyl]; rfl, by rw [hyl]; exact HF.out.1, by rw [hyl]; exact HF.out.2.1⟩⟩, HGH.out.1, HF.out.2.2.2.2, ⟨A4, ⟨c4, by rw [hyl]; rfl⟩, FarS.mono (own_far Ho.out) B3.out.size⟩, Hfz.out⟩
end Go.Proofs.Ytoleiiicbnmhpaa
namespace Go.Proofs.Ytoleiiicbnmhpaa
open Go.RowKit
theorem and_bit (a b j : Nat) : ((a &&& b) / 2 ^ j % 2 = 1) ↔ (a / 2 ^ j % 2 = 1 ∧ b / 2 ^ j % 2 = 1) := by
  have h : ∀ n : Nat, n / 2 ^ j % 2 = 1 ↔ n.testBit j = true := fun n => by
    rw [Nat.testBit_eq_decide_div_mod_eq, decide_eq_true_iff]
  rw [h, h, h, Nat.testBit_and, Bool.and_eq_true]
theorem or_bit (a b j : Nat) : ((a ||| b) / 2 ^ j % 2 = 1) ↔ (a / 2 ^ j % 2 = 1 ∨ b / 2 ^ j % 2 = 1) := by
  have h : ∀ n : Nat, n / 2 ^ j % 2 = 1 ↔ n.testBit j = true := fun n => by
    rw [Nat.testBit_eq_decide_div_mod_eq, decide_eq_true_iff]
  rw [h, h, h, Nat.testBit_or, Bool.or_eq_true]
/-- The members of a list are the bits of a number. -/
def BitsOf (l : List UInt8) (n : Nat) : Prop := ∀ y : UInt8, y ∈ l ↔ y.toNat < 7 ∧ n / 2 ^ y.toNat % 2 = 1
theorem bits_lst (c : Nat) : BitsOf (lstB c 7) c := fun y => lstB_mem c 7 (by omega) y
theorem of_toNat {j : Nat} (h : j < 7) : (UInt8.ofNat j).toNat = j := by simp; omega
theorem pick_lst {b : List UInt8} {c w : Nat} (h : BitsOf b w) : ∀ i, i ≤ 7 → (lstB c i).filter (fun x => hasB b x) = lstB (c &&& w) i
  | 0, _ => rfl
  | i + 1, hi => by
    have ih := pick_lst h (c := c) i (by omega)
    unfold lstB
    rw [List.filter_append, ih]
    congr 1
    have e : hasB b (UInt8.ofNat i) = true ↔ w / 2 ^ i % 2 = 1 := by
      rw [has_mem, h, of_toNat (by omega)]
      exact ⟨fun h => h.2, fun h => ⟨by omega, h⟩⟩
    by_cases h1 : c / 2 ^ i % 2 = 1
    · by_cases h2 : w / 2 ^ i % 2 = 1
      · rw [if_pos h1, if_pos ((and_bit c w i).2 ⟨h1, h2⟩)]
        simp [e.2 h2]
      · have h3 : hasB b (UInt8.ofNat i) = false := by
          cases hq : hasB b (UInt8.ofNat i)
          · rfl
          · exact absurd (e.1 hq) h2
        rw [if_pos h1, if_neg (fun k => h2 ((and_bit c w i).1 k).2)]
        simp [h3]
    · rw [if_neg h1, if_neg (fun k => h1 ((and_bit c w i).1 k).1)]
      rfl
theorem lst_len : ∀ c : Fin 128, (lstB c.val 7).length = pop8 c.val := by decide
theorem lst_set : ∀ c : Fin 128, sumB (fun i => decide (c.val / 2 ^ i % 2 = 1)) 7 = c.val := by decide
theorem set_bits {l : List UInt8} {n : Nat} (h : BitsOf l n) (hn : n < 128) : setB l = n := by
  have e := lst_set ⟨n, hn⟩
  unfold setB
  refine Eq.trans ?_ e
  have g : ∀ k, k ≤ 7 → sumB (fun i => hasB l (UInt8.ofNat i)) k = sumB (fun i => decide (n / 2 ^ i % 2 = 1)) k := by
    intro k
    induction k with
    | zero => intro _; rfl
    | succ k ih =>
      intro hk
      have e1 : hasB l (UInt8.ofNat k) = decide (n / 2 ^ k % 2 = 1) := by
        rw [Bool.eq_iff_iff, has_mem, h, of_toNat (by omega), decide_eq_true_iff]
        exact ⟨fun h => h.2, fun h => ⟨by omega, h⟩⟩
      unfold sumB
      rw [ih (by omega), e1]
  exact g 7 (Nat.le_refl _)
theorem has_bit : ∀ c : Fin 128, ∀ k : Fin 7, hasS c.val k.val = decide (c.val / 2 ^ k.val % 2 = 1) := by decide
theorem has_far {c k : Nat} (h : ¬ k < 7) : hasS c k = false := by
  unfold hasS ofS
  rw [if_neg h]
  simp
theorem bits_has {l : List UInt8} {n : Nat} (h : BitsOf l n) (hn : n < 128) (nd : UInt8) : hasB l nd = hasS n nd.toNat := by
  by_cases hk : nd.toNat < 7
  · rw [has_bit ⟨n, hn⟩ ⟨nd.toNat, hk⟩, Bool.eq_iff_iff, has_mem, h, decide_eq_true_iff]
    exact ⟨fun h => h.2, fun h => ⟨hk, h⟩⟩
  · rw [has_far hk]
    cases hq : hasB l nd
    · rfl
    · exact absurd ((h nd).1 ((has_mem l nd).1 hq)).1 hk
theorem of7_bit : ∀ k j : Fin 7, ofS k.val / 2 ^ j.val % 2 = 1 ↔ j = k := by decide
theorem all_bit : ∀ j : Fin 7, 127 / 2 ^ j.val % 2 = 1 := by decide
theorem bits_snoc {l : List UInt8} {n : Nat} (h : BitsOf l n) (nd : UInt8) (hk : nd.toNat < 7) : BitsOf (l ++ [nd]) (withS n (ofS nd.toNat)) := by
  intro y
  rw [List.mem_append, List.mem_singleton, h]
  unfold withS
  constructor
  · rintro (⟨h1, h2⟩ | rfl)
    · exact ⟨h1, (and_bit _ _ _).2 ⟨(or_bit _ _ _).2 (.inl h2), all_bit ⟨y.toNat, h1⟩⟩⟩
    · exact ⟨hk, (and_bit _ _ _).2 ⟨(or_bit _ _ _).2 (.inr ((of7_bit ⟨y.toNat, hk⟩ ⟨y.toNat, hk⟩).2 rfl)), all_bit ⟨y.toNat, hk⟩⟩⟩
  · rintro ⟨h1, h2⟩
    rcases (or_bit _ _ _).1 ((and_bit _ _ _).1 h2).1 with h3 | h3
    · exact .inl ⟨h1, h3⟩
    · have e := (of7_bit ⟨nd.toNat, hk⟩ ⟨y.toNat, h1⟩).1 h3
      exact .inr (UInt8.toNat_inj.1 (show y.toNat = nd.toNat from congrArg (fun z : Fin 7 => z.val) e))
theorem with_lt7 (n y : Nat) : withS n y < 128 := by
  unfold withS
  exact Nat.lt_of_le_of_lt Nat.and_le_right (by omega)
theorem with_same : ∀ c : Fin 128, ∀ k : Fin 7, hasS c.val k.val = true → withS c.val (ofS k.val) = c.val := by decide
theorem with_has {n k : Nat} (hn : n < 128) (h : hasS n k = true) : withS n (ofS k) = n := by
  by_cases hk : k < 7
  · exact with_same ⟨n, hn⟩ ⟨k, hk⟩ h
  · rw [has_far hk] at h
    cases h
theorem maj_bits {b : List UInt8} {c w : Nat} (h : BitsOf b w) (hc : c < 128) : rmajB (lstB c 7) b = majorS c w := by
  unfold rmajB majorS needS pickI bothS
  rw [pick_lst h 7 (Nat.le_refl _)]
  have e1 := lst_len ⟨c, hc⟩
  have hcw : c &&& w < 128 := Nat.lt_of_le_of_lt Nat.and_le_left hc
  have e2 := lst_len ⟨c &&& w, hcw⟩
  have m1 : c &&& 127 = c := by rw [show (127 : Nat) = 2 ^ 7 - 1 from rfl, Nat.and_two_pow_sub_one_eq_mod]; omega
  have m2 : (c &&& w) &&& 127 = c &&& w := by rw [show (127 : Nat) = 2 ^ 7 - 1 from rfl, Nat.and_two_pow_sub_one_eq_mod]; omega
  simp only at e1 e2
  rw [e1, e2, m1, m2, m2, Bool.eq_iff_iff, decide_eq_true_iff, decide_eq_true_iff]
  omega
theorem pop_with : ∀ c : Fin 128, ∀ k : Fin 7, hasS c.val k.val = false → pop8 (withS c.val (ofS k.val)) = pop8 c.val + 1 := by decide
theorem maj_zero : ∀ c : Fin 128, majorS c.val 0 = false := by decide
theorem pop8_127 : ∀ c : Fin 128, pop8 c.val ≤ 7 := by decide
/-- A slot of the program's desk and a row of the document's. -/
structure RowR (D : Nat → Option OpR) (q : RoG) (r : OpR) : Prop where
  at_ : D q.s = some r
  x : q.x = r.x
  cl : q.cl = lstB r.c 7
  c : 0 < r.c ∧ r.c < 128
  who : r.who < 128
  wl : BitsOf q.wl r.who
  len : q.wl.length = pop8 r.who
  maj : majorS r.c r.who = false
/-- The program's desk and the document's. -/
structure PlR (D : Nat → Option OpR) (last : Nat) (L : List RoG) : Prop where
  ord : (L.map (·.s)).Pairwise (fun x y => x < y)
  mem : ∀ s, s ∈ L.map (·.s) ↔ (D s).isSome = true
  row : ∀ q ∈ L, ∃ r, RowR D q r
  le : ∀ q ∈ L, q.s ≤ last
theorem PlR.start : PlR (fun _ => none) 0 [] := ⟨.nil, fun s => (by simp), fun q hq => (by cases hq), fun q hq => (by cases hq)⟩
theorem RowR.keep {D D' : Nat → Option OpR} {q : RoG} {r : OpR} (h : RowR D q r) (e : D' q.s = D q.s) : RowR D' q r := { h with at_ := e.trans h.at_ }
theorem PlR.opened {D : Nat → Option OpR} {last s : Nat} {L : List RoG} (h : PlR D last L) (x : ByteArray) (c : Nat) (hl : last < s) (hc : 0 < c ∧ c < 128) : PlR (updD D s (some ⟨x, c, 0⟩)) s (L ++ [⟨s, x, lstB c 7, []⟩]) := by
  have hne : ∀ q ∈ L, q.s ≠ s := fun q hq e => by have := h.le q hq; omega
  refine ⟨?_, fun k => ?_, fun q hq => ?_, fun q hq => ?_⟩
  · rw [List.map_append, List.pairwise_append]
    refine ⟨h.ord, by simp, fun a ha b hb => ?_⟩
    obtain ⟨q, hq, rfl⟩ := List.mem_map.1 ha
    simp at hb
    subst hb
    have := h.le q hq
    omega
  · rw [List.map_append, List.mem_append, h.mem k]
    unfold updD
    by_cases hk : k = s
    · simp [hk]
    · simp [hk]
  · rcases List.mem_append.1 hq with k | k
    · obtain ⟨r, hr⟩ := h.row q k
      exact ⟨r, hr.keep (by unfold updD; rw [if_neg (hne q k)])⟩
    · rw [List.mem_singleton.1 k]
      exact ⟨⟨x, c, 0⟩, ⟨by unfold updD; simp, rfl, rfl, hc, (show (0 : Nat) < 128 by decide), (fun y => by simp), (show 0 = pop8 0 by decide), maj_zero ⟨c, hc.2⟩⟩⟩
  · rcases List.mem_append.1 hq with k | k
    · have := h.le q k
      omega
    · rw [List.mem_singleton.1 k]
      exact Nat.le_refl _
theorem PlR.closed {D : Nat → Option OpR} {last : Nat} {L : List RoG} (h : PlR D last L) (s : Nat) : PlR (updD D s none) last (L.filter (fun p => p.s != s)) := by
  refine ⟨?_, fun k => ?_, fun q hq => ?_, fun q hq => h.le q (List.mem_filter.1 hq).1⟩
  · exact List.Pairwise.sublist (List.filter_sublist.map _) h.ord
  · unfold updD
    by_cases hk : k = s
    · subst hk
      simp
    · rw [if_neg hk, ← h.mem k]
      constructor
      · intro hm
        obtain ⟨q, hq, e⟩ := List.mem_map.1 hm
        exact List.mem_map.2 ⟨q, (List.mem_filter.1 hq).1, e⟩
      · intro hm
        obtain ⟨q, hq, e⟩ := List.mem_map.1 hm
        exact List.mem_map.2 ⟨q, List.mem_filter.2 ⟨hq, by simp at e ⊢; omega⟩, e⟩
  · obtain ⟨r, hr⟩ := h.row q (List.mem_filter.1 hq).1
    have h2 := (List.mem_filter.1 hq).2
    exact ⟨r, hr.keep (by unfold updD; rw [if_neg (by simpa using h2)])⟩
theorem PlR.one {D : Nat → Option OpR} {last : Nat} {L : List RoG} (h : PlR D last L) {p q : RoG} (hp : p ∈ L) (hq : q ∈ L) (e : p.s = q.s) : p = q := by
  have ho := h.ord
  clear h
  induction L with
  | nil => cases hp
  | cons a r ih =>
    rw [List.map_cons, List.pairwise_cons] at ho
    rcases List.mem_cons.1 hp with rfl | hp1
    · rcases List.mem_cons.1 hq with rfl | hq1
      · rfl
      · have := ho.1 q.s (List.mem_map.2 ⟨q, hq1, rfl⟩)
        omega
    · rcases List.mem_cons.1 hq with rfl | hq1
      · have := ho.1 p.s (List.mem_map.2 ⟨p, hp1, rfl⟩)
        omega
      · exact ih hp1 hq1 ho.2
theorem map_id {L : List RoG} {f : RoG → RoG} (h : ∀ q ∈ L, f q = q) : L.map f = L := by
  induction L with
  | nil => rfl
  | cons a r ih => rw [List.map_cons, h a (List.mem_cons_self ..), ih fun q hq => h q (List.mem_cons_of_mem _ hq)]
theorem rv_id {L : List RoG} {s : Nat} {nd : UInt8} (h1 : ∀ q ∈ L, winR s nd q = false) (h2 : ∀ q ∈ L, upR s nd q = q) : rvG L s nd = (L, (0, ByteArray.empty), false) := by
  have e : L.find? (winR s nd) = none := by
    rw [List.find?_eq_none]
    intro q hq
    rw [h1 q hq]
    decide
  unfold rvG
  rw [e]
  simp only
  rw [map_id h2]
theorem upd_same {D : Nat → Option OpR} {s : Nat} {r : OpR} (h : D s = some r) : updD D s (some r) = D := by
  funext k
  unfold updD
  by_cases e : k = s
  · rw [if_pos e, e, h]
  · rw [if_neg e]
/-- A vote tells and leaves the same. -/
theorem PlR.voted {D : Nat → Option OpR} {last : Nat} {L : List RoG} (h : PlR D last L) (s : Nat) (nd : UInt8) : PlR (votedS D s nd.toNat).1 last (rvG L s nd).1 ∧ (votedS D s nd.toNat).2 = (rvG L s nd).2 := by
  have off : ∀ q : RoG, q.s ≠ s → winR s nd q = false ∧ upR s nd q = q := fun q hq => by
    unfold winR upR
    simp [hq]
  cases hD : D s with
  | none =>
    have hne : ∀ q ∈ L, q.s ≠ s := fun q hq e => by
      have := (h.mem q.s).1 (List.mem_map.2 ⟨q, hq, rfl⟩)
      rw [e, hD] at this
      cases this
    rw [rv_id (fun q hq => (off q (hne q hq)).1) (fun q hq => (off q (hne q hq)).2)]
    unfold votedS
    rw [hD]
    exact ⟨h, rfl⟩
  | some r =>
    obtain ⟨q0, hq0, hs0⟩ := List.mem_map.1 ((h.mem s).2 (by rw [hD]; rfl))
    obtain ⟨r', hr⟩ := h.row q0 hq0
    have hrr : r' = r := by
      have := hr.at_
      rw [hs0, hD] at this
      exact (Option.some.inj this).symm
    subst hrr
    have hh : hasB q0.cl nd = hasS r'.c nd.toNat := by rw [hr.cl]; exact bits_has (bits_lst r'.c) hr.c.2 nd
    have hw : hasB q0.wl nd = hasS r'.who nd.toNat := bits_has hr.wl hr.who nd
    cases hc : hasS r'.c nd.toNat with
    | false =>
      rw [rv_id (fun q hq => ?_) (fun q hq => ?_)]
      · unfold votedS
        rw [hD]
        simp only [hc, Bool.false_eq_true, if_false]
        exact ⟨h, trivial⟩
      · by_cases e : q.s = s
        · have := h.one hq hq0 (by rw [e, hs0])
          subst this
          unfold winR
          rw [hh, hc]
          simp
        · exact (off q e).1
      · by_cases e : q.s = s
        · have := h.one hq hq0 (by rw [e, hs0])
          subst this
          unfold upR
          rw [hh, hc]
          simp
        · exact (off q e).2
    | true =>
      cases hv : hasS r'.who nd.toNat with
      | true =>
        rw [rv_id (fun q hq => ?_) (fun q hq => ?_)]
        · unfold votedS
          rw [hD]
          simp only [hc, if_true, with_has hr.who hv, hr.maj, Bool.false_eq_true, if_false]
          rw [show (⟨r'.x, r'.c, r'.who⟩ : OpR) = r' from rfl, upd_same hD]
          exact ⟨h, trivial⟩
        · by_cases e : q.s = s
          · have := h.one hq hq0 (by rw [e, hs0])
            subst this
            unfold winR
            rw [hw, hv]
            simp
          · exact (off q e).1
        · by_cases e : q.s = s
          · have := h.one hq hq0 (by rw [e, hs0])
            subst this
            unfold upR
            rw [hw, hv]
            simp
          · exact (off q e).2
      | false =>
        have hk : nd.toNat < 7 := by
          by_cases k : nd.toNat < 7
          · exact k
          · rw [has_far k] at hc
            cases hc
        have hbs := bits_snoc hr.wl nd hk
        have hmj : rmajB q0.cl (q0.wl ++ [nd]) = majorS r'.c (withS r'.who (ofS nd.toNat)) := by rw [hr.cl]; exact maj_bits hbs hr.c.2
        have hwin : winR s nd q0 = majorS r'.c (withS r'.who (ofS nd.toNat)) := by
          unfold winR
          rw [hh, hw, hc, hv, hmj]
          simp [hs0]
        cases hm : majorS r'.c (withS r'.who (ofS nd.toNat)) with
        | true =>
          have e : L.find? (winR s nd) = some q0 := by
            have h1 : (L.find? (winR s nd)).isSome = true := by
              rw [List.find?_isSome]
              exact ⟨q0, hq0, by rw [hwin, hm]⟩
            obtain ⟨q1, h2⟩ := Option.isSome_iff_exists.1 h1
            have h3 := List.mem_of_find?_eq_some h2
            have h4 := List.find?_some h2
            have h5 : q1.s = s := by
              by_cases e : q1.s = s
              · exact e
              · rw [(off q1 e).1] at h4
                cases h4
            rw [h2, h.one h3 hq0 (by rw [h5, hs0])]
          unfold rvG votedS
          rw [e, hD]
          simp only [hc, hm, if_true]
          exact ⟨h.closed s, by rw [hr.x]⟩
        | false =>
          have e : L.find? (winR s nd) = none := by
            rw [List.find?_eq_none]
            intro q hq
            by_cases e : q.s = s
            · rw [h.one hq hq0 (by rw [e, hs0]), hwin, hm]
              decide
            · rw [(off q e).1]
              decide
          unfold rvG votedS
          rw [e, hD]
          simp only [hc, hm, if_true, Bool.false_eq_true, if_false]
          refine ⟨?_, trivial⟩
          have hus : ∀ q : RoG, (upR s nd q).s = q.s := fun q => by unfold upR; split <;> rfl
          have hms : (L.map (upR s nd)).map (·.s) = L.map (·.s) := by rw [List.map_map]; exact List.map_congr_left fun q _ => hus q
          refine ⟨by rw [hms]; exact h.ord, fun k => ?_, fun q hq => ?_, fun q hq => ?_⟩
          · rw [hms, h.mem k]
            unfold updD
            by_cases e : k = s
            · simp [e, hD]
            · simp [e]
          · obtain ⟨p, hp, rfl⟩ := List.mem_map.1 hq
            by_cases e : p.s = s
            · have e2 := h.one hp hq0 (by rw [e, hs0])
              subst e2
              have hup : upR s nd p = { p with wl := p.wl ++ [nd] } := by
                unfold upR
                rw [hh, hw, hc, hv]
                simp [e]
              rw [hup]
              exact ⟨⟨r'.x, r'.c, withS r'.who (ofS nd.toNat)⟩, ⟨by unfold updD; simp [e], hr.x, hr.cl, hr.c, with_lt7 _ _, hbs, by show (p.wl ++ [nd]).length = _; rw [List.length_append, hr.len, pop_with ⟨r'.who, hr.who⟩ ⟨nd.toNat, hk⟩ hv]; rfl, hm⟩⟩
            · rw [(off p e).2]
              obtain ⟨r2, h2⟩ := h.row p hp
              exact ⟨r2, h2.keep (by unfold updD; rw [if_neg e])⟩
          · obtain ⟨p, hp, rfl⟩ := List.mem_map.1 hq
            rw [hus]
            exact h.le p hp
end Go.Proofs.Ytoleiiicbnmhpaa
