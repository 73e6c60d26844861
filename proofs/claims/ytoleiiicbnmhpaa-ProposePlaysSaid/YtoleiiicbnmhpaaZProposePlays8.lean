/- The document's desk: rows, Close. Condition: the desk lies there. -/
import Derived.Test.YtoleiiicbnmhpaaZProposePlays4
import Derived.Test.YtoleiiicbnmhpaaZProposePlays7
namespace Go.Proofs.Ytoleiiicbnmhpaa
open Go.RowKit
/-- An open slot of the document's. -/
structure RoG where
  s : Nat
  x : ByteArray
  cl : List UInt8
  wl : List UInt8
/-- .. and where its lists lie. -/
structure SlV where
  a : Option Addr
  n : Nat
  c : Nat
def SlV.v (q : SlV) : Value := .slice q.a q.n q.c
structure RoV where
  g : RoG
  c : SlV
  w : SlV
def encR (q : RoV) : List Value := [.int .u64 (q.g.s : Int), .string q.g.x, .slice q.c.a q.c.n q.c.c, .slice q.w.a q.w.n q.w.c]
/-- The lists of an open slot lie there. -/
def RoIn (w : World) (q : RoV) : Prop := ReadB w q.c.v q.g.cl ∧ ReadB w q.w.v q.g.wl
theorem RoIn.below {w w' : World} {q : RoV} (h : RoIn w q) (hb : Below w.heap.size w w') : RoIn w' q := ⟨h.1.below hb, h.2.below hb⟩
theorem encR_one (q : RoV) : ∀ u ∈ encR q, u.oneCell' = true := by simp [encR, Value.oneCell']
/-- A row of open slots. -/
structure RowsR (w : World) (A : Option Addr) (n : Nat) (Z : List RoV) : Prop where
  sl : SliceAt 4 encR w A n Z
  el : ∀ q ∈ Z, RoIn w q
theorem RowsR.below {w w' : World} {A : Option Addr} {n : Nat} {Z : List RoV} (h : RowsR w A n Z) (hb : Below w.heap.size w w') : RowsR w' A n Z := ⟨h.sl.below hb, fun q hq => (h.el q hq).below hb⟩
/-- The document's desk. -/
structure RdAt2 (w : World) (v : Value) (Z : List RoV) (last : Nat) : Prop where
  out : ∃ A c, v = .agg #[.slice A Z.length c, .int .u64 (last : Int)] ∧ (A = none → Z.length = 0 ∧ c = 0) ∧ RowsR w A Z.length Z
theorem RdAt2.below {w w' : World} {v : Value} {Z : List RoV} {last : Nat} (h : RdAt2 w v Z last) (hb : Below w.heap.size w w') : RdAt2 w' v Z last := by
  obtain ⟨A, c, e, h1, h2⟩ := h.out
  exact ⟨A, c, e, h1, h2.below hb⟩
def dkC (A : Option Addr) (n c last : Nat) : List Value := [.slice A n c, .int .u64 (last : Int)]
theorem dkC_one (A : Option Addr) (n c last : Nat) : ∀ u ∈ dkC A n c last, u.oneCell' = true := by simp [dkC, Value.oneCell']
theorem dkC_size (A : Option Addr) (n c last : Nat) : (Try.prog.info? 50).map (·.size) = some (dkC A n c last).length := (by kernel_rfl : (Try.prog.info? 50).map (·.size) = some 2)
def DkAt (w : World) (g : Nat) (A : Option Addr) (n c last : Nat) : Prop := w.heap[g]? = some (.cells (dkC A n c last).toArray 50 (0, 0))
theorem DkAt.below {w w' : World} {g n c last : Nat} {A : Option Addr} (h : DkAt w g A n c last) (hb : Below w.heap.size w w') : DkAt w' g A n c last := (hb.block g (Array.getElem?_eq_some_iff.1 h).1).trans h
theorem dk_loadVar {y : World} {g n c last : Nat} {A : Option Addr} (h : DkAt y g A n c last) : (loadVar 50 ⟨g, 0, none⟩).run Try.prog y = .ok (.agg (dkC A n c last).toArray) y :=
  run_loadVar_mid y g 0 50 (dkC A n c last) _ (range_row h) Try.underlying50 rfl (dkC_size A n c last)
theorem encR_size (q : RoV) : (Try.prog.info? 77).map (·.size) = some (encR q).length := (by kernel_rfl : (Try.prog.info? 77).map (·.size) = some 4)
theorem enc4_size (a b c d : Value) : (Try.prog.info? 77).map (·.size) = some [a, b, c, d].length := (by kernel_rfl : (Try.prog.info? 77).map (·.size) = some 4)
theorem infoR : (Try.prog.info? 77).map (fun i => (i.zero, i.size, i.bytes)) = some (some (.agg #[.int .u64 0, .string ByteArray.empty, .slice none 0 0, .slice none 0 0]), 4, 72) := by kernel_rfl
theorem row_new (w : World) (q : RoV) : SliceAt 4 encR (w.alloc (.cells (encR q).toArray 77)) (some ⟨w.heap.size, 0, none⟩) 1 [q] := by
  refine ⟨rfl, by decide, fun i x hx => ?_⟩
  cases i with
  | zero =>
    simp at hx
    subst hx
    refine ⟨w.heap.size, 0, rfl, by simp, fun j v hj => ?_⟩
    have h := range_row (heap_alloc_new w (.cells (encR q).toArray 77)) j v hj
    rw [Nat.zero_mul, Nat.zero_add]
    exact h
  | succ i => simp at hx
theorem filt_take {Z : List RoV} {f : RoV → Bool} {i : Nat} (hi : i < Z.length) : (Z.take (i + 1)).filter f = (Z.take i).filter f ++ (if f Z[i] then [Z[i]] else []) := by
  rw [List.take_succ_eq_append_getElem hi, List.filter_append]
  congr 1
  cases h : f Z[i] <;> simp [h]
/-- Rows that are owned read as rows. -/
theorem rows_own {w : World} {base n : Nat} {v : Value} {Z : List RoV} (h : w.ownsRow base 77 4 v n (flat encR Z)) (hn : Z.length = n) (hm : n ≤ maxLen) (he : ∀ q ∈ Z, RoIn w q) : ∃ A c, v = .slice A n c ∧ (A = none → n = 0 ∧ c = 0) ∧ RowsR w A n Z := by
  obtain ⟨A, c, rfl⟩ := own_slice_of h
  exact ⟨A, c, rfl, own_nil h, own_slice (fun _ => rfl) h hn hm, he⟩
theorem own_other {w w' : World} {base g n : Nat} {t : TypeId} {v : Value} {xs : List Value} {k : Nat} (h : w.ownsRow base t k v n xs) (hg : g < base) (ho : ∀ q, q ≠ g → w'.heap[q]? = w.heap[q]?) : w'.ownsRow base t k v n xs := by
  refine ⟨h.1, ?_⟩
  rcases h.2 with q | ⟨g5, cap, cur, e, h5, hh, r⟩
  · exact .inl q
  · exact .inr ⟨g5, cap, cur, e, h5, (ho g5 (by omega)).trans hh, r⟩
/-- An address lies in no block below 'B'. -/
def FarS (B : Nat) (a : Option Addr) : Prop := ∀ b o x, a = some ⟨b, o, x⟩ → B ≤ b
theorem own_far {w : World} {b n m k c : Nat} {t : TypeId} {A : Option Addr} {xs : List Value} (h : w.ownsRow b t k (.slice A m c) n xs) : FarS b A := by
  intro q o x e
  rcases h.2 with ⟨e1, _⟩ | ⟨g5, cap, cur, e1, h5, r⟩
  · cases e1
    cases e
  · cases e1
    cases e
    exact h5
theorem FarS.mono {B B' : Nat} {a : Option Addr} (h : FarS B a) (hb : B' ≤ B) : FarS B' a := fun b o x e => Nat.le_trans hb (h b o x e)
theorem own_base_mono {w : World} {b b' n k : Nat} {t : TypeId} {v : Value} {xs : List Value} (h : w.ownsRow b t k v n xs) (hb : b' ≤ b) : w.ownsRow b' t k v n xs := by
  refine ⟨h.1, ?_⟩
  rcases h.2 with q | ⟨g5, cap, cur, e, h5, r⟩
  · exact .inl q
  · exact .inr ⟨g5, cap, cur, e, Nat.le_trans hb h5, r⟩
set_option maxRecDepth 100000 in
set_option maxHeartbeats 4000000 in
theorem rclose_own (v : Value) (Z : List RoV) (last s : Nat) (hZ : Z.length ≤ 1000) (w : World) (h : RdAt2 w v Z last) :
    Calls Try.prog 20 #[v, .int .u64 (s : Int)] w fun e w' => ∃ v', e = .returned v' ∧ RdAt2 w' v' (Z.filter (fun q => q.g.s != s)) last ∧ Below w.heap.size w w' ∧ ∃ A c, v' = .agg #[.slice A (Z.filter (fun q => q.g.s != s)).length c, .int .u64 (last : Int)] ∧ w'.ownsRow w.heap.size 77 4 (.slice A (Z.filter (fun q => q.g.s != s)).length c) (Z.filter (fun q => q.g.s != s)).length (flat encR (Z.filter (fun q => q.g.s != s))) := by
  obtain ⟨A, c, rfl, hnil, hrows⟩ := h.out
  have b1 := (Below.refl w.heap.size w).alloc (Nat.le_refl _) (.cells (dkC A Z.length c last).toArray 50)
  have r1 : DkAt (w.alloc (.cells (dkC A Z.length c last).toArray 50)) w.heap.size A Z.length c last := heap_alloc_new _ _
  have HR := Lib.hid hrows
  have HE0 := Lib.hid (hrows.el)
  clear h hrows hnil
  go_enter Try.func20, Try.ntmps20
  go_upto_region 1 with fail
  change Code.wp _ _ _ _ ((w.alloc (.cells (dkC A Z.length c last).toArray 50)).alloc (.cells (dkC none 0 0 0).toArray 50))
  have s1 : (w.alloc (.cells (dkC A Z.length c last).toArray 50)).heap.size = w.heap.size + 1 := by simp
  generalize w.alloc (.cells (dkC A Z.length c last).toArray 50) = w1 at *
  have b2 := (Below.refl w1.heap.size w1).alloc (Nat.le_refl _) (.cells (dkC none 0 0 0).toArray 50)
  have r2 : DkAt (w1.alloc (.cells (dkC none 0 0 0).toArray 50)) w1.heap.size none 0 0 0 := heap_alloc_new _ _
  rw [s1] at r2
  generalize w1.alloc (.cells (dkC none 0 0 0).toArray 50) = w2 at *
  have R2 := Lib.hid (r1.below b2)
  have R4 := Lib.hid r2
  have B2 := Lib.hid (b1.trans (b2.mono b1.size))
  have HR2 := Lib.hid (HR.out.below B2.out)
  obtain ⟨n, hn⟩ : ∃ n, n = Z.length := ⟨_, rfl⟩
  rw [← hn] at R2 HR2 hZ ⊢
  have HN := Lib.hid hn
  have HSZ := Lib.hid (And.intro s1 b2.size)
  clear r1 r2 b1 b2 HR s1 hn
  obtain ⟨g2, hg2⟩ : ∃ g, g = w.heap.size := ⟨_, rfl⟩
  obtain ⟨g4, hg4⟩ : ∃ g, g = w.heap.size + 1 := ⟨_, rfl⟩
  rw [← hg4] at R4 ⊢
  rw [← hg2] at R2 ⊢
  have HG := Lib.hid (And.intro hg2 hg4)
  clear hg2 hg4
  obtain ⟨i0, hi0, hz0, hs0, hb0⟩ := info_parts infoR
  have Hi0 := Lib.hid (And.intro hi0 (And.intro hz0 (And.intro hs0 hb0)))
  clear hi0 hz0 hs0 hb0
  go_upto_region 3 with fail
  go_loopw [5, 6] (fun s5 s6 wr => ∃ i : Nat, s6 = .int .i64 (i : Int) ∧ i ≤ n ∧ Below w2.heap.size w2 wr ∧ (∃ A' m' c', s5 = .slice A' m' c') ∧ wr.ownsRow w2.heap.size 77 4 s5 ((Z.take i).filter (fun q => q.g.s != s)).length (flat encR ((Z.take i).filter (fun q => q.g.s != s)))) (fun _ s6 _ => n - (intOf s6).toNat)
  case atStart => exact ⟨0, rfl, Nat.zero_le _, Below.refl _ _, ⟨none, 0, 0, rfl⟩, World.ownsRow_nil _ _ _ _⟩
  case round =>
    obtain ⟨i, rfl, hi, hb, ⟨A3, m3, c3, rfl⟩, ho⟩ := hrel
    have Hb := Lib.hid hb
    have Ho := Lib.hid ho
    have f2 : wr.cell? ⟨g2, 0, none⟩ = some (.slice A n c) := cell_of_row _ _ _ _ _ _ (R2.out.below hb)
    have f3 : wr.cell? ⟨g2, 1, none⟩ = some (.int .u64 (last : Int)) := cell_of_row _ _ _ _ _ _ (R2.out.below hb)
    clear hb ho
    by_cases hin : i < n
    · have hin' : (i : Int) < (n : Int) := by omega
      have hiZ : i < Z.length := by rw [← HN.out]; exact hin
      obtain ⟨b, oo, rfl, hbl, hrow⟩ := (HR2.out.below Hb.out).sl.cells i Z[i] (List.getElem?_eq_getElem hiZ)
      have hft := filt_take (f := fun q => q.g.s != s) hiZ
      have hml : ((Z.take i).filter (fun q => q.g.s != s)).length ≤ 1000 := by have := List.length_filter_le (fun q : RoV => q.g.s != s) (Z.take i); rw [List.length_take] at this; omega
      obtain ⟨q, hq⟩ : ∃ q, q = Z[i] := ⟨_, rfl⟩
      rw [← hq] at hrow hft
      have c0 : wr.cell? ⟨b, oo + i * 4, none⟩ = some (.int .u64 (q.g.s : Int)) := hrow 0 _ rfl
      have Hr := Lib.hid (show wr.rangeAt b (oo + i * 4) [.int .u64 (q.g.s : Int), .string q.g.x, .slice q.c.a q.c.n q.c.c, .slice q.w.a q.w.n q.w.c] from fun j u hj => by rw [← hrow j u hj, Nat.add_assoc])
      have HFT := Lib.hid hft
      have HML := Lib.hid hml
      have Hn3 := Lib.hid (row_new wr q)
      clear hrow hft hml hq
      generalize (Z.take i).filter (fun q => q.g.s != s) = Y at *
      by_cases hs : q.g.s = s
      · have hs' : ((q.g.s : Int) != (s : Int)) = false := by simp [hs]
        have HS := Lib.hid (show (q.g.s != s) = false by simp [hs])
        clear hs
        go_wp2_with fail
        refine ⟨⟨i + 1, rfl, by omega, Hb.out, ⟨_, _, _, rfl⟩, ?_⟩, by simp only [intOf]; omega⟩
        rw [HFT.out, HS.out]
        simp only [Bool.false_eq_true, if_false, List.append_nil]
        exact Ho.out
      · have hs' : ((q.g.s : Int) != (s : Int)) = true := by simp; omega
        have HS := Lib.hid (show (q.g.s != s) = true by simp [hs])
        clear hs
        go_wp2_with (first
          | (with_reducible refine wpList_load_mid rfl 77 _ rfl b (oo + i * 4) rfl [.int .u64 (q.g.s : Int), .string q.g.x, .slice q.c.a q.c.n q.c.c, .slice q.w.a q.w.n q.w.c] _ Hr.out Try.underlying77 rfl (enc4_size _ _ _ _) ?_)
          | (at_builtin; refine wpList_plain rfl (fun K hK => ?_); refine wp_append_slice (k := 4) (enc := encR) _ _ 48 rfl w2.heap.size 77 i0 _ 72 Try.underlying48 Hi0.out.1 Hi0.out.2.1 Hi0.out.2.2.1 Hi0.out.2.2.2 rfl (by omega) (fun _ => rfl) encR_one (.slice A3 m3 c3) Y.length _ rfl (Ho.out.alloc _) (some ⟨wr.heap.size, 0, none⟩) 1 1 [q] rfl Hn3.out (fun e => by cases e) (by have := HML.out; simp [maxLen]; omega) (by have := HML.out; omega) (by have := Hb.out.size; simp; omega) ?_; intro v7 w7 ho7 hg7; have H7 := Lib.hid (And.intro ho7 hg7); clear ho7 hg7; refine hK _ _ ?_))
        obtain ⟨A7, c7, rfl⟩ := own_slice_of H7.out.1
        have hb7 : Below w2.heap.size w2 w7 := (Hb.out.alloc Hb.out.size _).grown H7.out.2 (by have := Hb.out.size; simp; omega) (fun k hk => by
          rcases Ho.out.2 with ⟨e, _⟩ | ⟨g5, _, _, e, h5, _⟩
          · rw [e] at hk
            cases hk
          · rw [e] at hk
            cases hk
            exact h5)
        refine ⟨⟨i + 1, rfl, by omega, hb7, ⟨_, _, _, rfl⟩, ?_⟩, by simp only [intOf]; omega⟩
        rw [HFT.out, HS.out]
        simp only [if_true]
        rw [List.length_append, flat_app]
        exact H7.out.1
    · have hin' : ¬ (i : Int) < (n : Int) := by omega
      have hie : i = n := by omega
      subst hie
      have hall : Z.take i = Z := List.take_of_length_le (by rw [← HN.out]; exact Nat.le_refl _)
      rw [hall] at Ho
      obtain ⟨Y, hY⟩ : ∃ Y, Y = Z.filter (fun q => q.g.s != s) := ⟨_, rfl⟩
      rw [← hY] at Ho
      have hml : Y.length ≤ 1000 := by rw [hY]; exact Nat.le_trans (List.length_filter_le _ _) (by rw [← HN.out]; exact hZ)
      obtain ⟨A5, c5, e5⟩ := own_slice_of Ho.out
      cases e5
      have HML := Lib.hid hml
      have HYY := Lib.hid hY
      have R4' := Lib.hid (R4.out.below Hb.out)
      clear hY hall hml
      go_wp2_with ((with_reducible refine wpList_store_mid rfl 50 _ _ rfl g4 0 _ rfl rfl ?_ ?_ ?_ ?_); exact there_row (cs := dkC none 0 0 0) R4'.out; exact dkC_size A3 Y.length c3 last; exact all_oneCell_toArray (dkC_one A3 Y.length c3 last))
      change bodyPost _ _ _ _ _ (World.setCells _ g4 0 (dkC A3 Y.length c3 last))
      have HZ := Lib.hid (show DkAt (rowSt wr g4 0 (dkC A3 Y.length c3 last)) g4 A3 Y.length c3 last from rowSt_row (dkC A3 Y.length c3 last) [] (dkC none 0 0 0) wr (R4'.out) rfl)
      have hbz := rowSt_below (g := g4) (n := w.heap.size) (by have := HG.out; omega) (dkC A3 Y.length c3 last) 0 _ (B2.out.trans (Hb.out.mono B2.out.size))
      have Hoz := Lib.hid (fun (k : Nat) (hk : k ≠ g4) => rowSt_other hk (dkC A3 Y.length c3 last) 0 wr)
      have Hbz := Lib.hid hbz
      obtain ⟨A5, c5, e5, hn5, hr5⟩ := rows_own (Z := Y) (own_other Ho.out (g := g4) (by have h1 := HG.out; have h2 := HSZ.out; have h3 := R4'.out; have h4 := R4.out; have h5 := (Array.getElem?_eq_some_iff.1 h4).1; omega) Hoz.out) rfl (by have := HML.out; simp [maxLen]; omega) (fun q hq => (HE0.out q (by rw [HYY.out] at hq; exact (List.mem_filter.1 hq).1)).below hbz)
      cases e5
      have ho9 := own_base_mono (own_other Ho.out (g := g4) (by have h1 := HG.out; have h2 := HSZ.out; have h3 := R4'.out; have h4 := R4.out; have h5 := (Array.getElem?_eq_some_iff.1 h4).1; omega) Hoz.out) B2.out.size
      have hfin := And.intro hn5 (And.intro hr5 ho9)
      clear hn5 hr5 ho9
      have HF := Lib.hid hfin
      clear hbz hfin
      rw [st_eq]
      generalize rowSt wr g4 0 (dkC A3 Y.length c3 last) = w9 at *
      refine bodyPost_ret (v := .agg (dkC A3 Y.length c3 last).toArray) (by simp [results, Try.results20, show (asAddr (Value.pointer (some ⟨g4, 0, none⟩))).run Try.prog w9 = .ok ⟨g4, 0, none⟩ w9 from rfl, dk_loadVar HZ.out]) rfl ?_
      rw [← HYY.out]
      exact ⟨_, rfl, ⟨⟨A3, c3, rfl, HF.out.1, HF.out.2.1⟩⟩, Hbz.out, A3, c3, rfl, HF.out.2.2⟩
end Go.Proofs.Ytoleiiicbnmhpaa
namespace Go.Proofs.Ytoleiiicbnmhpaa
open Go.RowKit
theorem rows_back {w w' : World} {A : Option Addr} {n : Nat} {Z : List RoV} (h : RowsR w A n Z) (hb : Below w.heap.size w w') : RowsR w' A n Z := h.below hb
set_option maxRecDepth 100000 in
set_option maxHeartbeats 4000000 in
theorem ropen_bad (v : Value) (Z : List RoV) (last s : Nat) (x : ByteArray) (c : Nat) (_ : Z.length ≤ 1000) (hc : c < 256) (w : World) (h : RdAt2 w v Z last) (hb : badOpen s c = true) :
    Calls Try.prog 19 #[v, .int .u64 (s : Int), .string x, .int .u8 (c : Int)] w fun e w' => ∃ v', e = .returned (.tuple #[v', .int .i64 2]) ∧ RdAt2 w' v' Z last ∧ Below w.heap.size w w' ∧ v' = v := by
  obtain ⟨A, c0, rfl, hnil, hrows⟩ := h.out
  have b1 := (Below.refl w.heap.size w).alloc (Nat.le_refl _) (.cells (dkC A Z.length c0 last).toArray 50)
  have r1 : DkAt (w.alloc (.cells (dkC A Z.length c0 last).toArray 50)) w.heap.size A Z.length c0 last := heap_alloc_new _ _
  have HR := Lib.hid hrows
  have HE0 := Lib.hid (hrows.el)
  have HRW0 := Lib.hid hrows
  have HNIL := Lib.hid hnil
  have s1 : (w.alloc (.cells (dkC A Z.length c0 last).toArray 50)).heap.size = w.heap.size + 1 := by simp
  clear h hrows hnil
  have Hdi := Lib.hid (fun y : World => dir_any c y)
  have HBD := Lib.hid hb
  clear hb
  go_enter Try.func19, Try.ntmps19
  go_upto_region 1 with fail
  change Code.wp _ _ _ _ ((w.alloc (.cells (dkC A Z.length c0 last).toArray 50)).alloc (.cells (dkC none 0 0 0).toArray 50))
  generalize w.alloc (.cells (dkC A Z.length c0 last).toArray 50) = w1 at *
  have b2 := (Below.refl w1.heap.size w1).alloc (Nat.le_refl _) (.cells (dkC none 0 0 0).toArray 50)
  have r2 : DkAt (w1.alloc (.cells (dkC none 0 0 0).toArray 50)) w1.heap.size none 0 0 0 := heap_alloc_new _ _
  rw [s1] at r2
  generalize w1.alloc (.cells (dkC none 0 0 0).toArray 50) = w2 at *
  have R2 := Lib.hid (r1.below b2)
  have R4 := Lib.hid r2
  have B2 := Lib.hid (b1.trans (b2.mono b1.size))
  have HR2 := Lib.hid (HR.out.below B2.out)
  have HSZ := Lib.hid (And.intro s1 b2.size)
  clear r1 r2 b1 b2 HR s1
  obtain ⟨n, hn⟩ : ∃ n, n = Z.length := ⟨_, rfl⟩
  have HRW := HRW0
  rw [← hn] at R2 HR2 HNIL HRW ⊢
  have HN := Lib.hid hn
  clear hn
  obtain ⟨g2, hg2⟩ : ∃ g, g = w.heap.size := ⟨_, rfl⟩
  obtain ⟨g4, hg4⟩ : ∃ g, g = w.heap.size + 1 := ⟨_, rfl⟩
  rw [← hg4] at R4 ⊢
  rw [← hg2] at R2 ⊢
  have HG := Lib.hid (And.intro hg2 hg4)
  clear hg2 hg4
  have R4' := R4
  have Hrg := Lib.hid (show w2.rangeAt g2 0 (dkC A n c0 last) from range_row R2.out)
  have hcut : ∃ q : Bool, q = true := ⟨true, rfl⟩
  clear hcut
  go_cut [21] (fun s21 wx => s21 = .bool true ∧ wx = w2)
  case first =>
    have hb := HBD.out
    unfold badOpen at hb
    by_cases b1 : s = 0
    · have b1' : (s : Int) < 1 := by omega
      clear b1 hb
      go_wp2_with fail
      go_meet
      exact ⟨rfl, rfl⟩
    · have b1' : ¬ (s : Int) < 1 := by omega
      by_cases b2 : 4611686018427387904 < s
      · have b2' : ((4611686018427387904 : Int) < (s : Int)) = True := by rw [eq_iff_iff, iff_true]; omega
        clear b1 b2 hb
        go_wp2_with fail
        go_meet
        exact ⟨rfl, rfl⟩
      · have b2' : ((4611686018427387904 : Int) < (s : Int)) = False := by rw [eq_iff_iff, iff_false]; omega
        have hd : (decide (c < 128) && decide (0 < c)) = false := by
          simp [b1, b2] at hb
          cases h1 : decide (c < 128) <;> simp
          simp at h1
          omega
        have Hdi2 := Hdi.out
        rw [hd] at Hdi2
        have Hdi3 := Lib.hid Hdi2
        clear b1 b2 hb hd Hdi2
        go_wp2_with ((with_reducible refine (Hdi3.out _).mono ?_); rintro e w' ⟨rfl, rfl⟩)
        go_meet
        exact ⟨rfl, rfl⟩
  case rest =>
  obtain ⟨rfl, rfl⟩ := hcut
  go_wp2_with (first | (with_reducible refine wpList_load_mid rfl 50 _ rfl g2 0 rfl (dkC A n c0 last) _ Hrg.out Try.underlying50 rfl (dkC_size A n c0 last) ?_) | ((with_reducible refine wpList_store_mid rfl 50 _ _ rfl g4 0 _ rfl rfl ?_ ?_ ?_ ?_); exact there_row (cs := dkC none 0 0 0) R4'.out; exact dkC_size A n c0 last; exact all_oneCell_toArray (dkC_one A n c0 last)))
  change bodyPost _ _ _ _ _ (World.setCells _ g4 0 (dkC A n c0 last))
  have HZ := Lib.hid (show DkAt (rowSt wc g4 0 (dkC A n c0 last)) g4 A n c0 last from rowSt_row (dkC A n c0 last) [] (dkC none 0 0 0) wc (R4'.out) rfl)
  have hbz := rowSt_below (g := g4) (n := w.heap.size) (by have := HG.out; omega) (dkC A n c0 last) 0 _ (B2.out)
  have Hoz := Lib.hid (fun (k : Nat) (hk : k ≠ g4) => rowSt_other hk (dkC A n c0 last) 0 wc)
  have Hbz := Lib.hid hbz
  have hfin : (A = none → n = 0 ∧ c0 = 0) ∧ RowsR (rowSt wc g4 0 (dkC A n c0 last)) A n Z := ⟨HNIL.out, rows_back HRW.out hbz⟩
  have HF := Lib.hid hfin
  clear hbz hfin
  rw [st_eq]
  generalize rowSt wc g4 0 (dkC A n c0 last) = w9 at *
  refine bodyPost_ret (v := .tuple #[.agg (dkC A n c0 last).toArray, .int .i64 2]) (by simp [results, Try.results19, show (asAddr (Value.pointer (some ⟨g4, 0, none⟩))).run Try.prog w9 = .ok ⟨g4, 0, none⟩ w9 from rfl, dk_loadVar HZ.out]) rfl ?_
  exact ⟨_, rfl, ⟨⟨A, c0, by rw [← HN.out]; rfl, by rw [← HN.out]; exact HF.out.1, by rw [← HN.out]; exact HF.out.2⟩⟩, Hbz.out, by rw [← HN.out]; rfl⟩
set_option maxRecDepth 100000 in
set_option maxHeartbeats 4000000 in
theorem ropen_state (v : Value) (Z : List RoV) (last s : Nat) (x : ByteArray) (c : Nat) (_ : Z.length ≤ 1000) (w : World) (h : RdAt2 w v Z last) (hb : badOpen s c = false) (hl : s ≤ last) :
    Calls Try.prog 19 #[v, .int .u64 (s : Int), .string x, .int .u8 (c : Int)] w fun e w' => ∃ v', e = .returned (.tuple #[v', .int .i64 13]) ∧ RdAt2 w' v' Z last ∧ Below w.heap.size w w' ∧ v' = v := by
  obtain ⟨A, c0, rfl, hnil, hrows⟩ := h.out
  have b1 := (Below.refl w.heap.size w).alloc (Nat.le_refl _) (.cells (dkC A Z.length c0 last).toArray 50)
  have r1 : DkAt (w.alloc (.cells (dkC A Z.length c0 last).toArray 50)) w.heap.size A Z.length c0 last := heap_alloc_new _ _
  have HR := Lib.hid hrows
  have HE0 := Lib.hid (hrows.el)
  have HRW0 := Lib.hid hrows
  have HNIL := Lib.hid hnil
  have s1 : (w.alloc (.cells (dkC A Z.length c0 last).toArray 50)).heap.size = w.heap.size + 1 := by simp
  clear h hrows hnil
  have hgood : 1 ≤ s ∧ s ≤ 4611686018427387904 ∧ 1 ≤ c ∧ c < 128 := by
    unfold badOpen at hb
    simp only [Bool.or_eq_false_iff, decide_eq_false_iff_not] at hb
    omega
  have b1' : ¬ (s : Int) < 1 := by have := hgood; omega
  have b2' : ((4611686018427387904 : Int) < (s : Int)) = False := by rw [eq_iff_iff, iff_false]; have := hgood; omega
  have hdi := fun y : World => dir_any c y
  rw [show (decide (c < 128) && decide (0 < c)) = true by simp; omega] at hdi
  have Hdi := Lib.hid hdi
  clear hdi
  have hl' : (s : Int) ≤ (last : Int) := by omega
  clear hgood hb hl
  go_enter Try.func19, Try.ntmps19
  go_upto_region 1 with fail
  change Code.wp _ _ _ _ ((w.alloc (.cells (dkC A Z.length c0 last).toArray 50)).alloc (.cells (dkC none 0 0 0).toArray 50))
  generalize w.alloc (.cells (dkC A Z.length c0 last).toArray 50) = w1 at *
  have b2 := (Below.refl w1.heap.size w1).alloc (Nat.le_refl _) (.cells (dkC none 0 0 0).toArray 50)
  have r2 : DkAt (w1.alloc (.cells (dkC none 0 0 0).toArray 50)) w1.heap.size none 0 0 0 := heap_alloc_new _ _
  rw [s1] at r2
  generalize w1.alloc (.cells (dkC none 0 0 0).toArray 50) = w2 at *
  have R2 := Lib.hid (r1.below b2)
  have R4 := Lib.hid r2
  have B2 := Lib.hid (b1.trans (b2.mono b1.size))
  have HR2 := Lib.hid (HR.out.below B2.out)
  have HSZ := Lib.hid (And.intro s1 b2.size)
  clear r1 r2 b1 b2 HR s1
  obtain ⟨n, hn⟩ : ∃ n, n = Z.length := ⟨_, rfl⟩
  have HRW := HRW0
  rw [← hn] at R2 HR2 HNIL HRW ⊢
  have HN := Lib.hid hn
  clear hn
  obtain ⟨g2, hg2⟩ : ∃ g, g = w.heap.size := ⟨_, rfl⟩
  obtain ⟨g4, hg4⟩ : ∃ g, g = w.heap.size + 1 := ⟨_, rfl⟩
  rw [← hg4] at R4 ⊢
  rw [← hg2] at R2 ⊢
  have HG := Lib.hid (And.intro hg2 hg4)
  clear hg2 hg4
  have R4' := R4
  have Hrg := Lib.hid (show w2.rangeAt g2 0 (dkC A n c0 last) from range_row R2.out)
  have f3 : w2.cell? ⟨g2, 1, none⟩ = some (.int .u64 (last : Int)) := cell_of_row _ _ _ _ _ _ R2.out
  go_wp2_with (first | ((with_reducible refine (Hdi.out _).mono ?_); rintro e w' ⟨rfl, rfl⟩) | (with_reducible refine wpList_load_mid rfl 50 _ rfl g2 0 rfl (dkC A n c0 last) _ Hrg.out Try.underlying50 rfl (dkC_size A n c0 last) ?_) | ((with_reducible refine wpList_store_mid rfl 50 _ _ rfl g4 0 _ rfl rfl ?_ ?_ ?_ ?_); exact there_row (cs := dkC none 0 0 0) R4'.out; exact dkC_size A n c0 last; exact all_oneCell_toArray (dkC_one A n c0 last)))
  change bodyPost _ _ _ _ _ (World.setCells _ g4 0 (dkC A n c0 last))
  have HZ := Lib.hid (show DkAt (rowSt w2 g4 0 (dkC A n c0 last)) g4 A n c0 last from rowSt_row (dkC A n c0 last) [] (dkC none 0 0 0) w2 (R4'.out) rfl)
  have hbz := rowSt_below (g := g4) (n := w.heap.size) (by have := HG.out; omega) (dkC A n c0 last) 0 _ (B2.out)
  have Hoz := Lib.hid (fun (k : Nat) (hk : k ≠ g4) => rowSt_other hk (dkC A n c0 last) 0 w2)
  have Hbz := Lib.hid hbz
  have hfin : (A = none → n = 0 ∧ c0 = 0) ∧ RowsR (rowSt w2 g4 0 (dkC A n c0 last)) A n Z := ⟨HNIL.out, rows_back HRW.out hbz⟩
  have HF := Lib.hid hfin
  clear hbz hfin
  rw [st_eq]
  generalize rowSt w2 g4 0 (dkC A n c0 last) = w9 at *
  refine bodyPost_ret (v := .tuple #[.agg (dkC A n c0 last).toArray, .int .i64 13]) (by simp [results, Try.results19, show (asAddr (Value.pointer (some ⟨g4, 0, none⟩))).run Try.prog w9 = .ok ⟨g4, 0, none⟩ w9 from rfl, dk_loadVar HZ.out]) rfl ?_
  exact ⟨_, rfl, ⟨⟨A, c0, by rw [← HN.out]; rfl, by rw [← HN.out]; exact HF.out.1, by rw [← HN.out]; exact HF.out.2⟩⟩, Hbz.out, by rw [← HN.out]; rfl⟩
theorem own_grown2 {w w' : World} {base n k : Nat} {t : TypeId} {v : Value} {xs : List Value} {row : Option Nat} (h : w.ownsRow base t k v n xs) (hg : w.grownBy w' row) (hr : ∀ r, row = some r → r < base) : w'.ownsRow base t k v n xs := by
  refine ⟨h.1, ?_⟩
  rcases h.2 with q | ⟨g5, cap, cur, e, h5, hh, r⟩
  · exact .inl q
  · exact .inr ⟨g5, cap, cur, e, h5, (hg.block g5 (Array.getElem?_eq_some_iff.1 hh).1 (fun e => by have := hr g5 e.symm; omega)).trans hh, r⟩
theorem own_below {w w' : World} {base n k : Nat} {t : TypeId} {v : Value} {xs : List Value} (h : w.ownsRow base t k v n xs) (hb : Below w.heap.size w w') : w'.ownsRow base t k v n xs := by
  refine ⟨h.1, ?_⟩
  rcases h.2 with q | ⟨g5, cap, cur, e, h5, hh, r⟩
  · exact .inl q
  · exact .inr ⟨g5, cap, cur, e, h5, (hb.block g5 (Array.getElem?_eq_some_iff.1 hh).1).trans hh, r⟩
set_option maxRecDepth 100000 in
set_option maxHeartbeats 4000000 in
theorem ropen_ok (v : Value) (Z : List RoV) (last s : Nat) (x : ByteArray) (c : Nat) (hZ : Z.length ≤ 1000) (w : World) (h : RdAt2 w v Z last) (hb : badOpen s c = false) (hl : last < s) :
    Calls Try.prog 19 #[v, .int .u64 (s : Int), .string x, .int .u8 (c : Int)] w fun e w' => ∃ v' q, e = .returned (.tuple #[v', .int .i64 0]) ∧ q.g = ⟨s, x, lstB c 7, []⟩ ∧ RdAt2 w' v' (Z ++ [q]) s ∧ Below w.heap.size w w' ∧ (∃ A c, v' = .agg #[.slice A (Z.length + 1) c, .int .u64 (s : Int)] ∧ FarS w.heap.size A) ∧ FarS w.heap.size q.c.a ∧ q.w.a = none := by
  obtain ⟨A, c0, rfl, hnil, hrows⟩ := h.out
  have b1 := (Below.refl w.heap.size w).alloc (Nat.le_refl _) (.cells (dkC A Z.length c0 last).toArray 50)
  have r1 : DkAt (w.alloc (.cells (dkC A Z.length c0 last).toArray 50)) w.heap.size A Z.length c0 last := heap_alloc_new _ _
  have HR := Lib.hid hrows
  have HE0 := Lib.hid (hrows.el)
  have HRW0 := Lib.hid hrows
  have HNIL := Lib.hid hnil
  have s1 : (w.alloc (.cells (dkC A Z.length c0 last).toArray 50)).heap.size = w.heap.size + 1 := by simp
  clear h hrows hnil
  have hgood : 1 ≤ s ∧ s ≤ 4611686018427387904 ∧ 1 ≤ c ∧ c < 128 := by
    unfold badOpen at hb
    simp only [Bool.or_eq_false_iff, decide_eq_false_iff_not] at hb
    omega
  have b1' : ¬ (s : Int) < 1 := by have := hgood; omega
  have b2' : ((4611686018427387904 : Int) < (s : Int)) = False := by rw [eq_iff_iff, iff_false]; have := hgood; omega
  have hdi := fun y : World => dir_any c y
  rw [show (decide (c < 128) && decide (0 < c)) = true by simp; omega] at hdi
  have Hdi := Lib.hid hdi
  clear hdi
  have hl' : ¬ (s : Int) ≤ (last : Int) := by omega
  have Hli := Lib.hid (fun y : World => list8_any c (by omega) y)
  have hlen := lstB_len c 7
  obtain ⟨cl, hcl⟩ : ∃ l, l = lstB c 7 := ⟨_, rfl⟩
  rw [← hcl] at hlen ⊢
  rw [← hcl] at Hli
  clear hcl
  clear hgood hb hl
  obtain ⟨i0, hi0, hz0, hs0, hb0⟩ := info_parts infoR
  have Hi0 := Lib.hid (And.intro hi0 (And.intro hz0 (And.intro hs0 hb0)))
  clear hi0 hz0 hs0 hb0
  go_enter Try.func19, Try.ntmps19
  go_upto_region 1 with fail
  change Code.wp _ _ _ _ ((w.alloc (.cells (dkC A Z.length c0 last).toArray 50)).alloc (.cells (dkC none 0 0 0).toArray 50))
  generalize w.alloc (.cells (dkC A Z.length c0 last).toArray 50) = w1 at *
  have b2 := (Below.refl w1.heap.size w1).alloc (Nat.le_refl _) (.cells (dkC none 0 0 0).toArray 50)
  have r2 : DkAt (w1.alloc (.cells (dkC none 0 0 0).toArray 50)) w1.heap.size none 0 0 0 := heap_alloc_new _ _
  rw [s1] at r2
  generalize w1.alloc (.cells (dkC none 0 0 0).toArray 50) = w2 at *
  have R2 := Lib.hid (r1.below b2)
  have R4 := Lib.hid r2
  have B2 := Lib.hid (b1.trans (b2.mono b1.size))
  have HR2 := Lib.hid (HR.out.below B2.out)
  have HSZ := Lib.hid (And.intro s1 b2.size)
  clear r1 r2 b1 b2 HR s1
  obtain ⟨n, hn⟩ : ∃ n, n = Z.length := ⟨_, rfl⟩
  have HRW := HRW0
  rw [← hn] at R2 HR2 hZ HNIL HRW ⊢
  have HN := Lib.hid hn
  clear hn
  obtain ⟨g2, hg2⟩ : ∃ g, g = w.heap.size := ⟨_, rfl⟩
  obtain ⟨g4, hg4⟩ : ∃ g, g = w.heap.size + 1 := ⟨_, rfl⟩
  rw [← hg4] at R4 ⊢
  rw [← hg2] at R2 ⊢
  have HG := Lib.hid (And.intro hg2 hg4)
  clear hg2 hg4
  have f2 : w2.cell? ⟨g2, 0, none⟩ = some (.slice A n c0) := cell_of_row _ _ _ _ _ _ R2.out
  have f3 : w2.cell? ⟨g2, 1, none⟩ = some (.int .u64 (last : Int)) := cell_of_row _ _ _ _ _ _ R2.out
  go_upto_region 6 with (first
    | ((with_reducible refine (Hdi.out _).mono ?_); rintro e w' ⟨rfl, rfl⟩)
    | ((with_reducible refine (Hli.out _).mono ?_); rintro e w4 ⟨vl, rfl, ho4, hb4⟩; obtain ⟨A4, c4, rfl⟩ := ownB_len ho4; have HL4 := Lib.hid ho4; have HB4 := Lib.hid hb4; have HO4 := Lib.hid (own_below H3.out.1 hb4); have Hq := Lib.hid (row_new w4 ⟨⟨s, x, cl, []⟩, ⟨A4, cl.length, c4⟩, ⟨none, 0, 0⟩⟩); clear ho4 hb4)
    | (at_builtin; refine wpList_plain rfl (fun K hK => ?_); refine wp_append_slice (k := 4) (enc := encR) _ _ 48 rfl w2.heap.size 77 i0 _ 72 Try.underlying48 Hi0.out.1 Hi0.out.2.1 Hi0.out.2.2.1 Hi0.out.2.2.2 rfl (by omega) (fun _ => rfl) encR_one (.slice none 0 0) _ _ rfl (World.ownsRow_nil _ _ _ _) A n c0 Z rfl HR2.out.sl HNIL.out (by simp [maxLen]; omega) (by omega) (Nat.le_refl _) ?_; intro v3 w3 ho hg; rw [Nat.zero_add, List.nil_append] at ho; obtain ⟨A3, c3, rfl⟩ := own_slice_of ho; have H3 := Lib.hid (And.intro ho hg); clear ho hg; refine hK _ _ ?_)
    | (at_builtin; refine wpList_plain rfl (fun K hK => ?_); refine wp_append_slice (k := 4) (enc := encR) _ _ 48 rfl w2.heap.size 77 i0 _ 72 Try.underlying48 Hi0.out.1 Hi0.out.2.1 Hi0.out.2.2.1 Hi0.out.2.2.2 rfl (by omega) (fun _ => rfl) encR_one (.slice A3 n c3) _ _ rfl (World.ownsRow.alloc HO4.out _) (some ⟨w4.heap.size, 0, none⟩) 1 1 [⟨⟨s, x, cl, []⟩, ⟨A4, cl.length, c4⟩, ⟨none, 0, 0⟩⟩] rfl Hq.out (fun e => by cases e) (by simp [maxLen]; omega) (by omega) (by have h1 := HB4.out.size; have h2 := H3.out.2.size; simp; omega) ?_; intro v5 w5 ho hg; have H5 := Lib.hid (And.intro ho hg); clear ho hg; refine hK _ _ ?_))
  obtain ⟨A5, c5, rfl⟩ := own_slice_of H5.out.1
  have B3 : Below w2.heap.size w2 w3 := (Below.refl _ _).grown H3.out.2 (Nat.le_refl _) (fun k hk => by cases hk)
  have B5 : Below w2.heap.size w2 w5 := ((B3.trans (HB4.out.mono B3.size)).alloc (B3.trans (HB4.out.mono B3.size)).size _).grown H5.out.2 (by have h1 := HB4.out.size; have h2 := H3.out.2.size; simp; omega) (fun k hk => by
    rcases HO4.out.2 with ⟨e, _⟩ | ⟨g5, _, _, e, h5, _⟩
    · rw [e] at hk
      cases hk
    · rw [e] at hk
      cases hk
      exact h5)
  have R4' := Lib.hid (R4.out.below B5)
  have HB5 := Lib.hid B5
  have hL5 : OwnB w5 w3.heap.size 5 (.slice A4 cl.length c4) cl := own_grown2 (World.ownsRow.alloc HL4.out _) H5.out.2 (fun k hk => by
    rcases H3.out.1.2 with ⟨e, _⟩ | ⟨g5, _, _, e, h5, hh, _⟩
    · rw [e] at hk
      cases hk
    · rw [e] at hk
      cases hk
      exact (Array.getElem?_eq_some_iff.1 hh).1)
  have HL5 := Lib.hid hL5
  clear B3 B5 hL5
  go_wp2_with ((with_reducible refine wpList_store_mid rfl 50 _ _ rfl g4 0 _ rfl rfl ?_ ?_ ?_ ?_); exact there_row (cs := dkC none 0 0 0) R4'.out; exact dkC_size A5 (n + 1) c5 s; exact all_oneCell_toArray (dkC_one A5 (n + 1) c5 s))
  change bodyPost _ _ _ _ _ (World.setCells _ g4 0 (dkC A5 (n + 1) c5 s))
  have HZ := Lib.hid (show DkAt (rowSt w5 g4 0 (dkC A5 (n + 1) c5 s)) g4 A5 (n + 1) c5 s from rowSt_row (dkC A5 (n + 1) c5 s) [] (dkC none 0 0 0) w5 (R4'.out) rfl)
  have hbz := rowSt_below (g := g4) (n := w.heap.size) (by have := HG.out; omega) (dkC A5 (n + 1) c5 s) 0 _ (B2.out.trans (HB5.out.mono B2.out.size))
  have Hoz := Lib.hid (fun (k : Nat) (hk : k ≠ g4) => rowSt_other hk (dkC A5 (n + 1) c5 s) 0 w5)
  have Hbz := Lib.hid hbz
  have hg4 : g4 < w2.heap.size := (Array.getElem?_eq_some_iff.1 R4.out).1
  have h5 := H5.out.1
  rw [← flat_app] at h5
  have hlr : ReadB (rowSt w5 g4 0 (dkC A5 (n + 1) c5 s)) (.slice A4 cl.length c4) cl := OwnB.read (own_other HL5.out (g := g4) (by have h2 := H3.out.2.size; omega) Hoz.out)
  obtain ⟨A9, c9, e9, hn9, hr9⟩ := rows_own (Z := Z ++ [⟨⟨s, x, cl, []⟩, ⟨A4, cl.length, c4⟩, ⟨none, 0, 0⟩⟩]) (own_other h5 (g := g4) hg4 Hoz.out) (by rw [List.length_append, ← HN.out]; rfl) (by simp [maxLen]; omega) (fun q hq => by
    rcases List.mem_append.1 hq with h | h
    · exact (HE0.out q h).below hbz
    · rw [List.mem_singleton.1 h]
      exact ⟨hlr, ReadB.nil _⟩)
  cases e9
  have hfin := And.intro hn9 hr9
  clear hn9 hr9 hlr h5
  have HF := Lib.hid hfin
  clear hbz hfin
  rw [st_eq]
  generalize rowSt w5 g4 0 (dkC A5 (n + 1) c5 s) = w9 at *
  refine bodyPost_ret (v := .tuple #[.agg (dkC A5 (n + 1) c5 s).toArray, .int .i64 0]) (by simp [results, Try.results19, show (asAddr (Value.pointer (some ⟨g4, 0, none⟩))).run Try.prog w9 = .ok ⟨g4, 0, none⟩ w9 from rfl, dk_loadVar HZ.out]) rfl ?_
  exact ⟨_, ⟨⟨s, x, cl, []⟩, ⟨A4, cl.length, c4⟩, ⟨none, 0, 0⟩⟩, rfl, rfl, ⟨⟨A5, c5, by rw [List.length_append, ← HN.out]; rfl, by rw [List.length_append, ← HN.out]; exact HF.out.1, by rw [List.length_append, ← HN.out]; exact HF.out.2⟩⟩, Hbz.out, ⟨A5, c5, by rw [← HN.out]; rfl, (own_far H5.out.1).mono B2.out.size⟩, FarS.mono (own_far HL5.out) (by have h1 := B2.out.size; have h2 := H3.out.2.size; omega), rfl⟩
end Go.Proofs.Ytoleiiicbnmhpaa
