/- Base: contracts of a disk, a store, beside blocks that are not theirs. Condition: as each theorem says. -/
import Derived.Test.YtogfladmgbldcaaGreatDoorZBaseLasts11
namespace Go.Proofs.YtogfladmgbldcaaGreatDoor
open Go.RowKit Go.Shelf
/-- The blocks of K hold what they held. -/
structure Holds (K : Nat → Prop) (w w' : World) : Prop where
  os : w'.os = w.os
  tape : w'.tape = w.tape
  out : w'.output = w.output
  size : w.heap.size ≤ w'.heap.size
  block : ∀ g, K g → w'.heap[g]? = w.heap[g]?
theorem Holds.refl (K : Nat → Prop) (w : World) : Holds K w w := ⟨rfl, rfl, rfl, Nat.le_refl _, fun _ _ => rfl⟩
theorem Holds.trans {K : Nat → Prop} {a b c : World} (h : Holds K a b) (k : Holds K b c) : Holds K a c := ⟨k.os.trans h.os, k.tape.trans h.tape, k.out.trans h.out, Nat.le_trans h.size k.size, fun g hg => (k.block g hg).trans (h.block g hg)⟩
theorem Holds.of {K : Nat → Prop} {w w' : World} (h : Below w.heap.size w w') (hK : ∀ g, K g → g < w.heap.size) : Holds K w w' := ⟨h.os, h.tape, h.output, h.size, fun g hg => h.block g (hK g hg)⟩
theorem Holds.below {K : Nat → Prop} {N : Nat} {w w' : World} (h : Holds K w w') (hN : ∀ g, g < N → K g) : Below N w w' := ⟨h.os, h.tape, h.out, h.size, fun g hg => h.block g (hN g hg)⟩
theorem Holds.turns {K : Nat → Prop} {L : List Nat} {w w' : World} (h : Turns L w w') (hK : ∀ g, K g → g < w.heap.size) (hL : ∀ g ∈ L, ¬ K g) : Holds K w w' := ⟨h.os, h.tape, h.out, h.size, fun g hg => h.block g (hK g hg) (fun q => hL g q hg)⟩
/-- A disk, none of whose blocks is one of K. -/
def DkK (K : Nat → Prop) (p bb : Nat) (D : DskV) (w : World) : Prop := ∃ n C L, DskAt w p bb n C L D ∧ ∀ g ∈ L, ¬ K g ∧ g < w.heap.size
/-- A store and its disk, likewise. -/
def StK (K : Nat → Prop) (S p bb : Nat) (D : DskV) (b : Nat × Bs) (w : World) : Prop := ∃ L, BaAt w S p bb L D b ∧ ¬ K S ∧ ∀ g ∈ L, ¬ K g
theorem StK.dk {K : Nat → Prop} {S p bb : Nat} {D : DskV} {b : Nat × Bs} {w : World} (h : StK K S p bb D b w) : DkK K p bb D w := by
  obtain ⟨L, h1, _, h3⟩ := h
  obtain ⟨n, C, hd⟩ := h1.dsk
  exact ⟨n, C, L, hd, fun g hg => ⟨h3 g hg, h1.lt g hg⟩⟩
theorem DkK.below {K : Nat → Prop} {p bb : Nat} {D : DskV} {w w' : World} (h : DkK K p bb D w) (hb : Below w.heap.size w w') : DkK K p bb D w' := by
  obtain ⟨n, C, L, h1, h2⟩ := h
  exact ⟨n, C, L, h1.keep (fun g hg => hb.block g (h2 g hg).2), fun g hg => ⟨(h2 g hg).1, Nat.lt_of_lt_of_le (h2 g hg).2 hb.size⟩⟩
theorem StK.below {K : Nat → Prop} {S p bb : Nat} {D : DskV} {b : Nat × Bs} {w w' : World} (h : StK K S p bb D b w) (hb : Below w.heap.size w w') : StK K S p bb D b w' := by
  obtain ⟨L, h1, h2, h3⟩ := h
  exact ⟨L, h1.below hb, h2, h3⟩
/-- A block outside K, and of neither the store nor its disk, turns. -/
theorem StK.but {K : Nat → Prop} {S p bb g : Nat} {D : DskV} {b : Nat × Bs} {w w' : World} (h : StK K S p bb D b w) (hg : K g) (hb : ButOne g w w') : StK K S p bb D b w' := by
  obtain ⟨L, h1, h2, h3⟩ := h
  have hS := (Array.getElem?_eq_some_iff.1 h1.sto).1
  obtain ⟨n, C, hd⟩ := h1.dsk
  exact ⟨L, ⟨(hb.block S hS (fun e => h2 (e ▸ hg))).trans h1.sto, ⟨n, C, hd.keep (fun q hq => hb.block q (h1.lt q hq) (fun e => h3 q hq (e ▸ hg)))⟩, fun q hq => Nat.lt_of_lt_of_le (h1.lt q hq) hb.size, h1.off⟩, h2, h3⟩
/-- New blocks are marked. -/
theorem St.mark {N S p bb : Nat} {D : DskV} {b : Nat × Bs} {w w' : World} (h : St N S p bb D b w) (hb : Below w.heap.size w w') {K : Nat → Prop} (hK : ∀ g, K g → g < N ∨ w.heap.size ≤ g) : StK K S p bb D b w' := by
  obtain ⟨L, h1, h2, h3⟩ := h
  have hS := (Array.getElem?_eq_some_iff.1 h1.sto).1
  refine ⟨L, h1.below hb, fun q => ?_, fun g hg q => ?_⟩
  · rcases hK S q with q | q <;> omega
  · have := h3 g hg
    have := h1.lt g hg
    rcases hK g q with q | q <;> omega
section
variable {K : Nat → Prop} {S p bb : Nat} {D : DskV} {b : Nat × Bs} {w : World}
theorem act_kdk {R : DskV × Nat} {f : FuncId} {args : Array Value} (hK : ∀ g, K g → g < w.heap.size) (h : DkK K p bb D w)
    (hc : ∀ n C L, DskAt w p bb n C L D → (∀ g ∈ L, g < w.heap.size) → Calls Tryz.prog f args w (fun e w' => ∃ k, e = .returned (.int .i64 k) ∧ DkR p bb L R w k w')) :
    Calls Tryz.prog f args w fun e w' => e = .returned (.int .i64 (R.2 : Int)) ∧ DkK K p bb R.1 w' ∧ Holds K w w' := by
  obtain ⟨n, C, L, h1, h2⟩ := h
  refine (hc n C L h1 (fun g hg => (h2 g hg).2)).mono ?_
  rintro e w' ⟨k, rfl, rfl, n', C', L', hd, ht, hl⟩
  obtain ⟨L2, hd2, hl2⟩ := hd.trim
  refine ⟨rfl, ⟨n', C', L2, hd2, fun g hg => ⟨fun q => ?_, (hl2 g hg).2⟩⟩, Holds.turns ht hK (fun g hg => (h2 g hg).1)⟩
  rcases hl g (hl2 g hg).1 with z | z
  · exact (h2 g z).1 q
  · have := hK g q
    omega
theorem start_kdk (hK : ∀ g, K g → g < w.heap.size) (h : DkK K p bb D w) :
    Calls Tryz.prog 24 #[.pointer (some ⟨p, 0, none⟩)] w fun e w' => e = .returned (.int .i64 0) ∧ DkK K p bb { D with dead := false } w' ∧ Holds K w w' := by
  obtain ⟨n, C, L, h1, h2⟩ := h
  refine (start_any w h1).mono ?_
  rintro e w' ⟨rfl, hd, ht⟩
  exact ⟨rfl, ⟨n, C, L, hd, fun g hg => ⟨(h2 g hg).1, Nat.lt_of_lt_of_le (h2 g hg).2 ht.size⟩⟩, Holds.turns ht hK (fun g hg => (h2 g hg).1)⟩
theorem dead_kdk (h : DkK K p bb D w) : Calls Tryz.prog 22 #[.pointer (some ⟨p, 0, none⟩)] w fun e w' => e = .returned (.bool D.dead) ∧ Below w.heap.size w w' := by
  obtain ⟨n, C, L, h1, h2⟩ := h
  refine (dead_any w h1).mono ?_
  rintro e w' ⟨rfl, rfl⟩
  exact ⟨rfl, Below.refl _ _⟩
theorem open_kdk (hK : ∀ g, K g → g < w.heap.size) (hb : Back D b) (hv : PV w) (h : DkK K p bb D w) :
    Calls Tryz.prog 12 #[.pointer (some ⟨p, 0, none⟩)] w fun e w' => ∃ S, e = .returned (.tuple #[.pointer (some ⟨S, 0, none⟩), .int .i64 0]) ∧ StK K S p bb (rems D (rmN (baseL D.fs))) b w' ∧ Holds K w w' := by
  obtain ⟨n, C, L, h1, h2⟩ := h
  refine (open_any hb.len hb.nl w hv h1 (fun g hg => (h2 g hg).2) hb.dead).mono ?_
  rintro e w' (⟨q, _⟩ | ⟨_, S, rfl, hst, hS, n', C', L', hd, ht, hl, hoff⟩)
  · exact (hb.ok q).elim
  · rw [hb.last] at hst
    refine ⟨S, rfl, ⟨L', ⟨hst, ⟨n', C', hd⟩, fun g hg => (hl g hg).2, hoff⟩, fun q => ?_, fun g hg q => ?_⟩, Holds.turns ht hK (fun g hg => (h2 g hg).1)⟩
    · have := hK S q
      omega
    · rcases (hl g hg).1 with z | z
      · exact (h2 g z).1 q
      · have := hK g q
        omega
theorem save_kst {N : Nat} (hK : ∀ g, K g → g < w.heap.size) (hN : ∀ g, g < N → K g) (hNw : N ≤ w.heap.size) (slot : Nat) (x : ByteArray) (hs64 : slot < 18446744073709551616) (hb64 : b.1 < 18446744073709551616) (hx : x.size ≤ 1000000) (hv : PVB N w) (h : StK K S p bb D b w) :
    Calls Tryz.prog 14 #[.pointer (some ⟨S, 0, none⟩), .int .u64 (slot : Int), .string x] w fun e w' => e = .returned (.int .i64 ((saveB D b slot x.data.toList).2.2 : Int)) ∧ StK K S p bb (saveB D b slot x.data.toList).1 (saveB D b slot x.data.toList).2.1 w' ∧ Holds K w w' := by
  obtain ⟨L, h1, h2, h3⟩ := h
  have far : ∀ g, ¬ K g → N ≤ g := fun g hg => Nat.le_of_not_lt (fun q => hg (hN g q))
  refine (save_any N S p bb slot L D b x hs64 hb64 hx w hv hNw (far S h2) (fun g hg => far g (h3 g hg)) h1).mono ?_
  rintro e w' ⟨rfl, L1, g1, g2, g3⟩
  refine ⟨rfl, ⟨L1, g1, h2, fun g hg q => ?_⟩, Holds.turns g2 hK (fun g hg => by
      rcases List.mem_cons.1 hg with q | q
      · rw [q]; exact h2
      · exact h3 g q)⟩
  rcases g3 g hg with z | z
  · exact h3 g z q
  · have := hK g q
    omega
theorem base_kst (h : StK K S p bb D b w) :
    Calls Tryz.prog 13 #[.pointer (some ⟨S, 0, none⟩)] w fun e w' => e = .returned (.tuple #[.int .u64 (b.1 : Int), .string ⟨(if b.1 = 0 then [] else b.2).toArray⟩, .bool (decide (b.1 ≠ 0))]) ∧ Below w.heap.size w w' := by
  obtain ⟨L, h1, h2, h3⟩ := id h
  exact base_any S p b w h1.sto
theorem files_kdk (hlen : D.fs.length ≤ 1000000) (h : DkK K p bb D w) :
    Calls Tryz.prog 19 #[.pointer (some ⟨p, 0, none⟩)] w fun e w' => ∃ v, e = .returned v ∧ w'.ownsRow w.heap.size 35 3 v D.fs.length (flat filE D.fs) ∧ Below w.heap.size w w' := by
  obtain ⟨n, C, L, h1, h2⟩ := h
  exact callsIn_wide.1 (files_in p bb n C L D hlen w h1)
end
end Go.Proofs.YtogfladmgbldcaaGreatDoor
namespace Go.Proofs.YtogfladmgbldcaaGreatDoor
open Go.RowKit Go.Shelf
/-- The blocks beside the disk: the elder ones, and two boxes. -/
def Kx (N a b : Nat) (g : Nat) : Prop := g < N ∨ g = a ∨ g = b
/-- A base in a box. -/
def BoxAt (w : World) (g : Nat) (b : Nat × Bs) : Prop := w.heap[g]? = some (.cells #[.int .u64 (b.1 : Int), .string ⟨b.2.toArray⟩] 46 (0, 0))
theorem but_below {N g : Nat} {w wr y : World} (h : Below N w wr) (hb : ButOne g wr y) (hN : N ≤ wr.heap.size) (hg : N ≤ g) : Below N w y := h.trans ⟨hb.os, hb.tape, hb.output, hb.size, fun q hq => hb.block q (by omega) (by omega)⟩
/-- Between two savings: c in the first box, nx in the second one, b in the store. -/
structure LsI (N ga gb S p bb : Nat) (w wr : World) (D : DskV) (c b nx : Nat × Bs) : Prop where
  bel : Below N w wr
  ra : BoxAt wr ga c
  rb : BoxAt wr gb nx
  st : StK (Kx N ga gb) S p bb D b wr
  ord : N ≤ ga ∧ ga < gb ∧ N ≤ w.heap.size
section
variable {N ga gb S p bb : Nat} {w wr y : World} {D D' : DskV} {b b' c c' nx nx' : Nat × Bs}
theorem LsI.lt (h : LsI N ga gb S p bb w wr D c b nx) : ∀ g, Kx N ga gb g → g < wr.heap.size := fun g hg => by
  have h1 := (Array.getElem?_eq_some_iff.1 h.rb).1
  have h2 := h.ord
  rcases hg with q | q | q <;> omega
theorem LsI.holds (h : LsI N ga gb S p bb w wr D c b nx) (hh : Holds (Kx N ga gb) wr y) (hs : StK (Kx N ga gb) S p bb D' b' y) : LsI N ga gb S p bb w y D' c b' nx :=
  ⟨h.bel.trans (hh.below (fun _ hg => .inl hg)), (hh.block ga (.inr (.inl rfl))).trans h.ra, (hh.block gb (.inr (.inr rfl))).trans h.rb, hs, h.ord⟩
theorem LsI.below (h : LsI N ga gb S p bb w wr D c b nx) (hb : Below wr.heap.size wr y) : LsI N ga gb S p bb w y D c b nx := h.holds (Holds.of hb h.lt) (h.st.below hb)
theorem LsI.put (h : LsI N ga gb S p bb w wr D c b nx) (hb : ButOne ga wr y) (hr : BoxAt y ga c') : LsI N ga gb S p bb w y D c' b nx :=
  ⟨but_below h.bel hb (by have := h.ord; have := h.bel.size; omega) (by have := h.ord; omega), hr, (hb.block gb (Array.getElem?_eq_some_iff.1 h.rb).1 (by have := h.ord; omega)).trans h.rb, h.st.but (.inr (.inl rfl)) hb, h.ord⟩
theorem LsI.put2 (h : LsI N ga gb S p bb w wr D c b nx) (hb : ButOne gb wr y) (hr : BoxAt y gb nx') : LsI N ga gb S p bb w y D c b nx' :=
  ⟨but_below h.bel hb (by have := h.ord; have := h.bel.size; omega) (by have := h.ord; omega), (hb.block ga (Array.getElem?_eq_some_iff.1 h.ra).1 (by have := h.ord; omega)).trans h.ra, hr, h.st.but (.inr (.inr rfl)) hb, h.ord⟩
end
theorem one_size (u : Nat) (x : ByteArray) : (Tryz.prog.info? 46).map (·.size) = some ([Value.int .u64 (u : Int), .string x]).length := (by kernel_rfl : (Tryz.prog.info? 46).map (·.size) = some 2)
theorem one_one (u : Nat) (x : ByteArray) : ∀ v ∈ ([Value.int .u64 (u : Int), .string x]), v.oneCell' = true := by simp [Value.oneCell']
theorem str_back (x : ByteArray) : (⟨x.data.toList.toArray⟩ : ByteArray) = x := by cases x; simp
theorem box_put {y : World} {g : Nat} {b : Nat × Bs} (h : BoxAt y g b) (u : Nat) (x : ByteArray) : ButOne g y (y.setCells g 0 [.int .u64 (u : Int), .string x]) ∧ BoxAt (y.setCells g 0 [.int .u64 (u : Int), .string x]) g (u, x.data.toList) := by
  rw [st_eq]
  refine ⟨ButOne.st (ButOne.st ⟨rfl, rfl, rfl, Nat.le_refl _, fun _ _ _ => rfl⟩), ?_⟩
  unfold BoxAt
  rw [show (⟨(u, x.data.toList).2.toArray⟩ : ByteArray) = x from str_back x]
  exact rowSt_row [.int .u64 (u : Int), .string x] [] [.int .u64 (b.1 : Int), .string ⟨b.2.toArray⟩] y h rfl
/-- Behind the power's coming back. -/
structure LsD (N ga gb p bb : Nat) (w wr : World) (D : DskV) (c nx : Nat × Bs) : Prop where
  bel : Below N w wr
  ra : BoxAt wr ga c
  rb : BoxAt wr gb nx
  dk : DkK (Kx N ga gb) p bb D wr
  ord : N ≤ ga ∧ ga < gb ∧ N ≤ w.heap.size
section
variable {N ga gb S p bb : Nat} {w wr y : World} {D D' : DskV} {b b' c nx : Nat × Bs}
theorem LsI.d (h : LsI N ga gb S p bb w wr D c b nx) : LsD N ga gb p bb w wr D c nx := ⟨h.bel, h.ra, h.rb, h.st.dk, h.ord⟩
theorem LsD.lt (h : LsD N ga gb p bb w wr D c nx) : ∀ g, Kx N ga gb g → g < wr.heap.size := fun g hg => by
  have h1 := (Array.getElem?_eq_some_iff.1 h.rb).1
  have h2 := h.ord
  rcases hg with q | q | q <;> omega
theorem LsD.holds (h : LsD N ga gb p bb w wr D c nx) (hh : Holds (Kx N ga gb) wr y) (hs : DkK (Kx N ga gb) p bb D' y) : LsD N ga gb p bb w y D' c nx :=
  ⟨h.bel.trans (hh.below (fun _ hg => .inl hg)), (hh.block ga (.inr (.inl rfl))).trans h.ra, (hh.block gb (.inr (.inr rfl))).trans h.rb, hs, h.ord⟩
theorem LsD.below (h : LsD N ga gb p bb w wr D c nx) (hb : Below wr.heap.size wr y) : LsD N ga gb p bb w y D c nx := h.holds (Holds.of hb h.lt) (h.dk.below hb)
theorem LsD.st (h : LsD N ga gb p bb w wr D c nx) (hh : Holds (Kx N ga gb) wr y) (hs : StK (Kx N ga gb) S p bb D' b y) : LsI N ga gb S p bb w y D' c b nx :=
  ⟨h.bel.trans (hh.below (fun _ hg => .inl hg)), (hh.block ga (.inr (.inl rfl))).trans h.ra, (hh.block gb (.inr (.inr rfl))).trans h.rb, hs, h.ord⟩
theorem LsD.start (h : LsD N ga gb p bb w wr D c nx) : Calls Tryz.prog 24 #[.pointer (some ⟨p, 0, none⟩)] wr fun e w' => e = .returned (.int .i64 0) ∧ LsD N ga gb p bb w w' { D with dead := false } c nx := by
  refine (start_kdk h.lt h.dk).mono ?_
  rintro e w' ⟨rfl, hs, hh⟩
  exact ⟨rfl, h.holds hh hs⟩
theorem LsD.dead (h : LsD N ga gb p bb w wr D c nx) : Calls Tryz.prog 22 #[.pointer (some ⟨p, 0, none⟩)] wr fun e w' => e = .returned (.bool D.dead) ∧ Below wr.heap.size wr w' := dead_kdk h.dk
theorem LsD.crash (h : LsD N ga gb p bb w wr D c nx) (hs : Sto D b) {n : Int} (hn : n ≤ 9223372036854775807) : Calls Tryz.prog 23 #[.pointer (some ⟨p, 0, none⟩), .int .i64 n] wr fun e w' => e = .returned (.int .i64 0) ∧ LsD N ga gb p bb w w' { D with fuse := none, dead := true } c nx := by
  have h2 := act_kdk (R := crashD D n) (f := 23) (args := #[.pointer (some ⟨p, 0, none⟩), .int .i64 n]) h.lt h.dk (fun m C L hd hl => crash_any n hn (by rw [hs.fs]; have := stF_len b; omega) wr hd hl)
  rw [sto_crash hs n] at h2
  refine h2.mono ?_
  rintro e w' ⟨rfl, hs, hh⟩
  exact ⟨rfl, h.holds hh hs⟩
theorem LsD.opens (h : LsD N ga gb p bb w wr D c nx) (hb : Back D b) (hv : PVB N w) : Calls Tryz.prog 12 #[.pointer (some ⟨p, 0, none⟩)] wr fun e w' => ∃ S, e = .returned (.tuple #[.pointer (some ⟨S, 0, none⟩), .int .i64 0]) ∧ LsI N ga gb S p bb w w' (rems D (rmN (baseL D.fs))) c b nx := by
  refine (open_kdk h.lt hb (hv.on h.bel).here h.dk).mono ?_
  rintro e w' ⟨S, rfl, hs, hh⟩
  exact ⟨S, rfl, h.st hh hs⟩
end
theorem ones_cells {w : World} {a : Option Addr} {len : Nat} {z : List OneV} (h : SliceAt 2 oneC w a len z) {i : Nat} (hi : i < len) :
    ∃ b o, a = some ⟨b, o, none⟩ ∧ b < w.heap.size ∧ w.cell? ⟨b, o + i * 2, none⟩ = some (.int .u64 ((z.getD i default).slot.toNat : Int)) ∧ w.cell? ⟨b, o + i * 2 + 1, none⟩ = some (.string (z.getD i default).text) := by
  have hl := h.hlen
  have hz : z[i]? = some (z.getD i default) := by simp [List.getD, List.getElem?_eq_getElem (show i < z.length by omega)]
  obtain ⟨b, o, h1, h2, h3⟩ := h.cells i _ hz
  exact ⟨b, o, h1, h2, h3 0 _ rfl, h3 1 _ rfl⟩
theorem sto_fuse {D : DskV} {b : Nat × Bs} (h : Sto D b) (n : Int) : (fuseD D n).2 = 0 ∧ Sto (fuseD D n).1 b := by
  unfold fuseD
  rw [if_neg (by rw [h.dead]; simp)]
  exact ⟨rfl, h.dead, h.fs, h.b64, h.len, h.zero, h.sum⟩
set_option maxRecDepth 100000 in
set_option maxHeartbeats 16000000 in
theorem baseLasts_any (a : Option Addr) (len cap : Nat) (z : List OneV) (fuse keep : Int) (hfu : fuse ≤ 9223372036854775807) (hke : keep ≤ 9223372036854775807) {w : World} (hz : SliceAt 2 oneC w a len z) (hv0 : PV w) : Calls Tryz.prog 5 #[.slice a len cap, .int .i64 fuse, .int .i64 keep] w fun e w' => e = .returned (.bool true) ∧ Below w.heap.size w w' := by
  have Hwk := Lib.hid wakes06_any
  by_cases hlen : 20 < len
  · have hl : (20 : Int) < (len : Int) := by omega
    have HV := Lib.hid hv0
    clear hz hlen hv0 hfu hke
    go_enter Tryz.func5, Tryz.ntmps5
    go_wp2_with (go_at_call 15; (with_reducible refine (Hwk.out _ HV.out).mono ?_); rintro e w5 ⟨rfl, hb⟩; have HB5 := Lib.hid hb; clear hb)
    go_ret
    exact ⟨rfl, HB5.out⟩
  have hl : ¬ ((20 : Int) < (len : Int)) := by omega
  obtain ⟨N, hN⟩ : ∃ N, N = w.heap.size := ⟨_, rfl⟩
  have HW := Lib.hid (show PVB N w ∧ N ≤ w.heap.size from ⟨by rw [hN]; exact PVB.of hv0, by omega⟩)
  have HNZ := Lib.hid hN
  have HZ := Lib.hid (fun (y : World) (hy : Below N w y) => hz.below (w' := y) (by rw [← hN]; exact hy))
  have HL := Lib.hid (show len ≤ 20 by omega)
  clear hN hv0 hz hlen
  have o0 := open_sto sto0
  obtain ⟨D0, hD0⟩ : ∃ D0, D0 = (fuseD dsk0 fuse).1 := ⟨_, rfl⟩
  have s0 := sto_fuse sto0 fuse
  rw [← hD0] at s0
  have Hnew := Lib.hid (fun (y : World) (hy : N ≤ y.heap.size) => new_dk N y hy)
  have Hop := Lib.hid (fun (p bb : Nat) (y : World) (hy : N ≤ y.heap.size) (hp : PV y) (h : Dk N p bb dsk0 y) => by have h2 := open_dk hy (by decide) (fun f hf => (by cases hf)) hp h rfl o0.1; rw [o0.2.1, o0.2.2] at h2; exact h2)
  have Hfu := Lib.hid (fun (S p bb : Nat) (y : World) (hy : N ≤ y.heap.size) (h : St N S p bb dsk0 (0, []) y) => by
    have h2 := act_st (R := fuseD dsk0 fuse) (f := 21) (args := #[.pointer (some ⟨p, 0, none⟩), .int .i64 fuse]) hy h (fun n C L hd hl => fuse_any fuse hfu y hd hl)
    rw [s0.1, ← hD0] at h2
    exact (show Calls Tryz.prog 21 #[.pointer (some ⟨p, 0, none⟩), .int .i64 fuse] y (fun e w' => e = .returned (.int .i64 0) ∧ St N S p bb D0 (0, []) w' ∧ Below N y w') from h2))
  have HS0 := Lib.hid s0.2
  have HKE := Lib.hid hke
  clear o0 s0 hD0 hke hfu
  go_enter Tryz.func5, Tryz.ntmps5
  go_upto_region 8 with (first
    | (go_at_call 16; (with_reducible refine (Hnew.out _ HW.out.2).mono ?_); rintro e w2 ⟨p, bb, rfl, hd, hb⟩; have H1 := Lib.hid (And.intro hd (And.intro (HW.out.1.on hb) (Nat.le_trans HW.out.2 hb.size))); have HB1 := Lib.hid hb; clear hd hb)
    | (go_at_call 12; (with_reducible refine (Hop.out p bb _ H1.out.2.2 H1.out.2.1.here H1.out.1).mono ?_); rintro e w3 ⟨S, rfl, hd, hb⟩; have H2 := Lib.hid (And.intro hd (And.intro (H1.out.2.1.on hb) (Nat.le_trans H1.out.2.2 hb.size))); have HB2 := Lib.hid (HB1.out.trans hb); clear hd hb)
    | (go_at_call 21; (with_reducible refine (Hfu.out S p bb _ H2.out.2.2 H2.out.1).mono ?_); rintro e w4 ⟨rfl, hd, hb⟩; have H3 := Lib.hid (And.intro hd (And.intro (H2.out.2.1.on hb) (Nat.le_trans H2.out.2.2 hb.size))); have HB3 := Lib.hid (HB2.out.trans hb); clear hd hb))
  go_upto_region 10 with fail
  obtain ⟨ga, hga⟩ : ∃ ga, ga = w4.heap.size := ⟨_, rfl⟩
  obtain ⟨gb, hgb⟩ : ∃ gb, gb = w4.heap.size + 1 := ⟨_, rfl⟩
  change Code.wp _ _ _ _ ((w4.alloc (.cells #[.int .u64 0, .string ⟨#[]⟩] 46)).alloc (.cells #[.int .u64 0, .string ⟨#[]⟩] 46))
  have hI0 : LsI N ga gb S p bb w ((w4.alloc (.cells #[.int .u64 0, .string ⟨#[]⟩] 46)).alloc (.cells #[.int .u64 0, .string ⟨#[]⟩] 46)) D0 (0, []) (0, []) (0, []) := by
    have b1 := (Below.refl w4.heap.size w4).alloc (Nat.le_refl _) (.cells #[.int .u64 0, .string ⟨#[]⟩] 46)
    have b2 := b1.alloc b1.size (.cells #[.int .u64 0, .string ⟨#[]⟩] 46)
    have r1 := heap_alloc_new w4 (.cells #[.int .u64 0, .string ⟨#[]⟩] 46)
    have r2 := heap_alloc_new (w4.alloc (.cells #[.int .u64 0, .string ⟨#[]⟩] 46)) (.cells #[.int .u64 0, .string ⟨#[]⟩] 46)
    have e2 : (w4.alloc (.cells #[.int .u64 0, .string ⟨#[]⟩] 46)).heap.size = gb := by rw [hgb]; simp
    rw [e2] at r2
    refine ⟨HB3.out.trans (b2.mono H3.out.2.2), ?_, r2, H3.out.1.mark b2 (fun g hg => ?_), ⟨by rw [hga]; exact H3.out.2.2, by omega, HW.out.2⟩⟩
    · rw [hga]
      exact (((Below.refl _ _).alloc (Nat.le_refl _) (.cells #[.int .u64 0, .string ⟨#[]⟩] 46)).block _ (Array.getElem?_eq_some_iff.1 r1).1).trans r1
    · rcases hg with q | q | q
      · exact .inl q
      · right; omega
      · right; omega
  rw [← hgb, ← hga]
  have HI0 := Lib.hid hI0
  generalize ((w4.alloc (.cells #[.int .u64 0, .string ⟨#[]⟩] 46)).alloc (.cells #[.int .u64 0, .string ⟨#[]⟩] 46)) = w5 at *
  clear hga hgb hI0 Hnew Hop Hfu H1 H2 H3 HB1 HB2 HB3
  go_loopw [12] (fun s12 wr => ∃ (i : Nat) (D : DskV) (b : Nat × Bs), s12 = .int .i64 (i : Int) ∧ i ≤ len ∧ LsI N ga gb S p bb w wr D b b (0, []) ∧ Sto D b) (fun s12 _ => len - (intOf s12).toNat)
  case atStart => exact ⟨0, D0, (0, []), rfl, Nat.zero_le _, HI0.out, HS0.out⟩
  case round =>
    clear HI0 HS0
    obtain ⟨i, D, b, rfl, hi, hI, hS⟩ := hrel
    have HI := Lib.hid hI
    have HS := Lib.hid hS
    clear hI hS
    by_cases hil : i < len
    · have hil' : (i : Int) < (len : Int) := by omega
      have hi1 : wrap64 ((i : Int) + 1) = ((i + 1 : Nat) : Int) := by unfold wrap64; have := HL.out; omega
      obtain ⟨ab, ao, rfl, hab, k0, k1⟩ := ones_cells (HZ.out wr HI.out.bel) hil
      obtain ⟨E, hE⟩ : ∃ E, E = z.getD i default := ⟨_, rfl⟩
      rw [← hE] at k0 k1
      obtain ⟨u0, tx⟩ := E
      obtain ⟨u, hu⟩ : ∃ u, u = u0.toNat := ⟨_, rfl⟩
      have hu64 : u < 18446744073709551616 := by rw [hu]; exact u0.isLt
      simp only [← hu] at k0 k1
      have HE := Lib.hid (fun (y : World) (hy : Below wr.heap.size wr y) => (show y.cell? ⟨ab, ao + i * 2, none⟩ = some (.int .u64 (u : Int)) ∧ y.cell? ⟨ab, ao + i * 2 + 1, none⟩ = some (.string tx) from ⟨(World.cell?_of_block (hy.block _ hab)).trans k0, (World.cell?_of_block (hy.block _ hab)).trans k1⟩))
      have HZU := Lib.hid (show ∀ y : World, Below N w y → y.cell? ⟨ab, ao + i * 2, none⟩ = some (.int .u64 (u : Int)) ∧ y.cell? ⟨ab, ao + i * 2 + 1, none⟩ = some (.string tx) from fun y hy => by
        obtain ⟨b2, o2, e2, _, q0, q1⟩ := ones_cells (HZ.out y hy) hil
        cases e2
        rw [← hE] at q0 q1
        simp only [← hu] at q0 q1
        exact ⟨q0, q1⟩)
      clear hE hu
      have HAB := Lib.hid (And.intro hab hu64)
      clear hab hu64
      by_cases h300 : 300 < tx.size
      · have h3 : (300 : Int) < (tx.size : Int) := by omega
        clear h300
        go_wp2_with (go_at_call 15; (with_reducible refine (Hwk.out _ (HW.out.1.on HI.out.bel).here).mono ?_); rintro e w6 ⟨rfl, hb⟩; have HB6 := Lib.hid (HI.out.bel.trans (hb.mono (Nat.le_trans HW.out.2 HI.out.bel.size))); clear hb)
        go_ret
        exact ⟨rfl, by rw [← HNZ.out]; exact HB6.out⟩
      have h3 : ¬ ((300 : Int) < (tx.size : Int)) := by omega
      have htl : tx.data.toList.length ≤ 300 := by have := str_len tx; omega
      have HT := Lib.hid (And.intro htl (show tx.size ≤ 1000000 by omega))
      clear h300 htl
      go_upto_region 14 with fail
      clear k0 k1
      have HZC := Lib.hid (fun (y : World) (hy : Below N w y) => (show y.cell? ⟨ab, ao + i * 2, none⟩ = some (.int .u64 (u : Int)) ∧ y.cell? ⟨ab, ao + i * 2 + 1, none⟩ = some (.string tx) from HZU.out y hy))
      by_cases hle : u ≤ b.1
      · have hle2 : (u : Int) ≤ (b.1 : Int) := by omega
        have HEQ := Lib.hid (show saveB D b u tx.data.toList = (D, b, 2) from by unfold saveB; rw [if_pos hle])
        clear hle
        have HSV := Lib.hid (fun (y : World) (hy : Below wr.heap.size wr y) => (show Calls Tryz.prog 14 #[.pointer (some ⟨S, 0, none⟩), .int .u64 (u : Int), .string tx] y (fun e w' => e = .returned (.int .i64 2) ∧ LsI N ga gb S p bb w w' D b b (0, [])) from by
          have hI2 := HI.out.below hy
          refine (save_kst hI2.lt (fun g hg => .inl hg) (Nat.le_trans HW.out.2 hI2.bel.size) u tx HAB.out.2 HS.out.b64 HT.out.2 (HW.out.1.on hI2.bel) hI2.st).mono ?_
          rw [HEQ.out]
          rintro e w' ⟨rfl, hs, hh⟩
          exact ⟨rfl, hI2.holds hh hs⟩))
        refine (wpIn_wide (n := 1)).1 ?_
        refine RegK.wpIn_region_can (F := Fence.wide) (KeptW wr) [(0, 0), (1, 0), (2, 0), (3, 0), (4, 0), (5, 0), (6, 0), (7, 0), (8, 0), (9, 0), (10, 0), (11, 3), (12, 0)] (by kernel_rfl) (by kernel_rfl) (by kernel_rfl) (fun _ _ d _ _ h => by cases d <;> exact h) ⟨rfl, rfl, rfl, Nat.le_refl _, fun _ _ => rfl⟩ ?_
        dsimp only [RegK.pick, List.getElem?_cons_zero, List.getElem?_cons_succ]
        change RegK.Can _ _ _ _ _ _ _ _ wr.drew
        have hkd : KeptW wr wr.drew := ⟨rfl, rfl, rfl, Nat.le_refl _, fun _ _ => rfl⟩
        generalize wr.drew = v8 at *
        iterate 5 (refine RegK.can_reads ?_; intro K hK; go_simp; (first | refine ⟨_, fun _ _ => rfl, hK _ ?_⟩ | refine hK _ ?_); clear hK K)
        refine RegK.can_reads ?_
        intro K hK
        go_simp
        refine ⟨.int .u64 (u : Int), fun y hy => ?_, hK _ ?_⟩
        · have c0 := (HE.out y (KeptW.bel hy)).1
          go_simp
        clear hK K
        iterate 4 (refine RegK.can_reads ?_; intro K hK; go_simp; (first | refine ⟨_, fun _ _ => rfl, hK _ ?_⟩ | refine hK _ ?_); clear hK K)
        refine RegK.can_reads ?_
        intro K hK
        go_simp
        refine ⟨.string tx, fun y hy => ?_, hK _ ?_⟩
        · have c0 := (HE.out y (KeptW.bel hy)).2
          go_simp
        clear hK K
        refine RegK.can_frees (fun _ => trivial) ?_
        intro K K0 hK hK0
        go_simp
        refine ⟨trivial, ?_⟩
        refine (callsIn_wide.2 (HSV.out v8 (KeptW.bel hkd))).mono ?_
        rintro e w9 ⟨rfl, hst⟩
        have H9 := Lib.hid hst
        refine hK (fun _ => True) _ _ trivial ?_
        clear hK K hK0 K0 hst hkd
        refine RegK.can_reads ?_; intro K hK; go_simp; (first | refine ⟨_, fun _ _ => rfl, hK _ ?_⟩ | refine hK _ ?_); clear hK K
        refine RegK.can_nil ?_
        go_upto_region 15 with fail
        obtain ⟨c0, c1⟩ := (show w9.cell? ⟨ab, ao + i * 2, none⟩ = some (.int .u64 (u : Int)) ∧ w9.cell? ⟨ab, ao + i * 2 + 1, none⟩ = some (.string tx) from HZC.out w9 H9.out.bel)
        have b0 := cell_of_row _ _ 0 _ _ _ H9.out.ra
        rw [show (#[Value.int .u64 (b.1 : Int), .string ⟨b.2.toArray⟩])[0]? = some (.int .u64 (b.1 : Int)) from rfl] at b0
        go_quiet (fail)
        have HI9 := Lib.hid (H9.out.below (below_drewN (Below.refl w9.heap.size w9) nq))
        generalize w9.drewN nq = v1 at *
        clear c0 c1 b0
        go_wp2
        exact ⟨⟨i + 1, _, _, rfl, by omega, HI9.out, HS.out⟩, by simp only [intOf]; omega⟩
      · have hle2 : ¬ ((u : Int) ≤ (b.1 : Int)) := by omega
        have hsv := save_sto HS.out (slot := u) (t := tx.data.toList) (by omega) HAB.out.2 HT.out.1
        have HLT := Lib.hid (show b.1 < u by omega)
        clear hle
        rcases hsv with ⟨D2, h1, h2, _⟩ | ⟨_, D2, h1, h2⟩
        · have HEQ := Lib.hid h1
          have HS2 := Lib.hid h2
          clear h1 h2
          have HSV := Lib.hid (fun (y : World) (hy : Below wr.heap.size wr y) => (show Calls Tryz.prog 14 #[.pointer (some ⟨S, 0, none⟩), .int .u64 (u : Int), .string tx] y (fun e w' => e = .returned (.int .i64 0) ∧ LsI N ga gb S p bb w w' D2 b (u, tx.data.toList) (0, [])) from by
            have hI2 := HI.out.below hy
            refine (save_kst hI2.lt (fun g hg => .inl hg) (Nat.le_trans HW.out.2 hI2.bel.size) u tx HAB.out.2 HS.out.b64 HT.out.2 (HW.out.1.on hI2.bel) hI2.st).mono ?_
            rw [HEQ.out]
            rintro e w' ⟨rfl, hs, hh⟩
            exact ⟨rfl, hI2.holds hh hs⟩))
          refine (wpIn_wide (n := 1)).1 ?_
          refine RegK.wpIn_region_can (F := Fence.wide) (KeptW wr) [(0, 0), (1, 0), (2, 0), (3, 0), (4, 0), (5, 0), (6, 0), (7, 0), (8, 0), (9, 0), (10, 0), (11, 3), (12, 0)] (by kernel_rfl) (by kernel_rfl) (by kernel_rfl) (fun _ _ d _ _ h => by cases d <;> exact h) ⟨rfl, rfl, rfl, Nat.le_refl _, fun _ _ => rfl⟩ ?_
          dsimp only [RegK.pick, List.getElem?_cons_zero, List.getElem?_cons_succ]
          change RegK.Can _ _ _ _ _ _ _ _ wr.drew
          have hkd : KeptW wr wr.drew := ⟨rfl, rfl, rfl, Nat.le_refl _, fun _ _ => rfl⟩
          generalize wr.drew = v8 at *
          iterate 5 (refine RegK.can_reads ?_; intro K hK; go_simp; (first | refine ⟨_, fun _ _ => rfl, hK _ ?_⟩ | refine hK _ ?_); clear hK K)
          refine RegK.can_reads ?_
          intro K hK
          go_simp
          refine ⟨.int .u64 (u : Int), fun y hy => ?_, hK _ ?_⟩
          · have c0 := (HE.out y (KeptW.bel hy)).1
            go_simp
          clear hK K
          iterate 4 (refine RegK.can_reads ?_; intro K hK; go_simp; (first | refine ⟨_, fun _ _ => rfl, hK _ ?_⟩ | refine hK _ ?_); clear hK K)
          refine RegK.can_reads ?_
          intro K hK
          go_simp
          refine ⟨.string tx, fun y hy => ?_, hK _ ?_⟩
          · have c0 := (HE.out y (KeptW.bel hy)).2
            go_simp
          clear hK K
          refine RegK.can_frees (fun _ => trivial) ?_
          intro K K0 hK hK0
          go_simp
          refine ⟨trivial, ?_⟩
          refine (callsIn_wide.2 (HSV.out v8 (KeptW.bel hkd))).mono ?_
          rintro e w9 ⟨rfl, hst⟩
          have H9 := Lib.hid hst
          refine hK (fun _ => True) _ _ trivial ?_
          clear hK K hK0 K0 hst hkd
          refine RegK.can_reads ?_; intro K hK; go_simp; (first | refine ⟨_, fun _ _ => rfl, hK _ ?_⟩ | refine hK _ ?_); clear hK K
          refine RegK.can_nil ?_
          go_upto_region 15 with fail
          obtain ⟨c0, c1⟩ := (show w9.cell? ⟨ab, ao + i * 2, none⟩ = some (.int .u64 (u : Int)) ∧ w9.cell? ⟨ab, ao + i * 2 + 1, none⟩ = some (.string tx) from HZC.out w9 H9.out.bel)
          have b0 := cell_of_row _ _ 0 _ _ _ H9.out.ra
          rw [show (#[Value.int .u64 (b.1 : Int), .string ⟨b.2.toArray⟩])[0]? = some (.int .u64 (b.1 : Int)) from rfl] at b0
          go_quiet (fail)
          have HI9 := Lib.hid (H9.out.below (below_drewN (Below.refl w9.heap.size w9) nq))
          generalize w9.drewN nq = v1 at *
          clear c0 c1 b0
          go_upto_region 18 with fail
          obtain ⟨c0, c1⟩ := HZC.out v1 HI9.out.bel
          have HROW := Lib.hid HI9.out.ra
          go_upto_region 11 with ((with_reducible refine wpList_store_mid rfl 46 _ _ rfl ga 0 _ rfl rfl ?_ ?_ ?_ ?_); exact there_row (cs := [.int .u64 (b.1 : Int), .string ⟨b.2.toArray⟩]) HROW.out; exact one_size u tx; exact all_oneCell_toArray (one_one u tx))
          change Code.wp _ _ _ _ (v1.setCells ga 0 [.int .u64 (u : Int), .string tx])
          have HI10 := Lib.hid (HI9.out.put (box_put HROW.out u tx).1 (box_put HROW.out u tx).2)
          generalize v1.setCells ga 0 [.int .u64 (u : Int), .string tx] = v2 at *
          clear c0 c1 HROW
          go_wp2
          exact ⟨⟨i + 1, _, _, rfl, by omega, HI10.out, HS2.out⟩, by simp only [intOf]; omega⟩
        · have HEQ := Lib.hid h1
          have HT2 := Lib.hid h2
          clear h1 h2
          have HSV := Lib.hid (fun (y : World) (hy : Below wr.heap.size wr y) => (show Calls Tryz.prog 14 #[.pointer (some ⟨S, 0, none⟩), .int .u64 (u : Int), .string tx] y (fun e w' => e = .returned (.int .i64 9) ∧ LsI N ga gb S p bb w w' D2 b b (0, [])) from by
            have hI2 := HI.out.below hy
            refine (save_kst hI2.lt (fun g hg => .inl hg) (Nat.le_trans HW.out.2 hI2.bel.size) u tx HAB.out.2 HS.out.b64 HT.out.2 (HW.out.1.on hI2.bel) hI2.st).mono ?_
            rw [HEQ.out]
            rintro e w' ⟨rfl, hs, hh⟩
            exact ⟨rfl, hI2.holds hh hs⟩))
          refine (wpIn_wide (n := 1)).1 ?_
          refine RegK.wpIn_region_can (F := Fence.wide) (KeptW wr) [(0, 0), (1, 0), (2, 0), (3, 0), (4, 0), (5, 0), (6, 0), (7, 0), (8, 0), (9, 0), (10, 0), (11, 3), (12, 0)] (by kernel_rfl) (by kernel_rfl) (by kernel_rfl) (fun _ _ d _ _ h => by cases d <;> exact h) ⟨rfl, rfl, rfl, Nat.le_refl _, fun _ _ => rfl⟩ ?_
          dsimp only [RegK.pick, List.getElem?_cons_zero, List.getElem?_cons_succ]
          change RegK.Can _ _ _ _ _ _ _ _ wr.drew
          have hkd : KeptW wr wr.drew := ⟨rfl, rfl, rfl, Nat.le_refl _, fun _ _ => rfl⟩
          generalize wr.drew = v8 at *
          iterate 5 (refine RegK.can_reads ?_; intro K hK; go_simp; (first | refine ⟨_, fun _ _ => rfl, hK _ ?_⟩ | refine hK _ ?_); clear hK K)
          refine RegK.can_reads ?_
          intro K hK
          go_simp
          refine ⟨.int .u64 (u : Int), fun y hy => ?_, hK _ ?_⟩
          · have c0 := (HE.out y (KeptW.bel hy)).1
            go_simp
          clear hK K
          iterate 4 (refine RegK.can_reads ?_; intro K hK; go_simp; (first | refine ⟨_, fun _ _ => rfl, hK _ ?_⟩ | refine hK _ ?_); clear hK K)
          refine RegK.can_reads ?_
          intro K hK
          go_simp
          refine ⟨.string tx, fun y hy => ?_, hK _ ?_⟩
          · have c0 := (HE.out y (KeptW.bel hy)).2
            go_simp
          clear hK K
          refine RegK.can_frees (fun _ => trivial) ?_
          intro K K0 hK hK0
          go_simp
          refine ⟨trivial, ?_⟩
          refine (callsIn_wide.2 (HSV.out v8 (KeptW.bel hkd))).mono ?_
          rintro e w9 ⟨rfl, hst⟩
          have H9 := Lib.hid hst
          refine hK (fun _ => True) _ _ trivial ?_
          clear hK K hK0 K0 hst hkd
          refine RegK.can_reads ?_; intro K hK; go_simp; (first | refine ⟨_, fun _ _ => rfl, hK _ ?_⟩ | refine hK _ ?_); clear hK K
          refine RegK.can_nil ?_
          go_upto_region 15 with fail
          obtain ⟨c0, c1⟩ := (show w9.cell? ⟨ab, ao + i * 2, none⟩ = some (.int .u64 (u : Int)) ∧ w9.cell? ⟨ab, ao + i * 2 + 1, none⟩ = some (.string tx) from HZC.out w9 H9.out.bel)
          have b0 := cell_of_row _ _ 0 _ _ _ H9.out.ra
          rw [show (#[Value.int .u64 (b.1 : Int), .string ⟨b.2.toArray⟩])[0]? = some (.int .u64 (b.1 : Int)) from rfl] at b0
          go_quiet (fail)
          have HI9 := Lib.hid (H9.out.below (below_drewN (Below.refl w9.heap.size w9) nq))
          generalize w9.drewN nq = v1 at *
          clear c0 c1 b0
          go_upto_region 20 with fail
          obtain ⟨c0, c1⟩ := HZC.out v1 HI9.out.bel
          have HROW := Lib.hid HI9.out.rb
          go_upto_region 21 with ((with_reducible refine wpList_store_mid rfl 46 _ _ rfl gb 0 _ rfl rfl ?_ ?_ ?_ ?_); exact there_row (cs := [.int .u64 (0 : Int), .string ⟨([] : Bs).toArray⟩]) HROW.out; exact one_size u tx; exact all_oneCell_toArray (one_one u tx))
          change Code.wp _ _ _ _ (v1.setCells gb 0 [.int .u64 (u : Int), .string tx])
          have HI10 := Lib.hid (HI9.out.put2 (box_put HROW.out u tx).1 (box_put HROW.out u tx).2)
          generalize v1.setCells gb 0 [.int .u64 (u : Int), .string tx] = v2 at *
          clear c0 c1 HROW
          have HD0 := Lib.hid HI10.out.d
          have HDd := Lib.hid (fun (y : World) (hy : Below v2.heap.size v2 y) => (show Calls Tryz.prog 22 #[.pointer (some ⟨p, 0, none⟩)] y (fun e w' => e = .returned (.bool true) ∧ Below y.heap.size y w') from by have h2 := (HD0.out.below hy).dead; rw [HT2.out.dead] at h2; exact h2))
          have HBn := Lib.hid (fun (y : World) (hy : Below v2.heap.size v2 y) => (show y.cell? ⟨gb, 0, none⟩ = some (.int .u64 (u : Int)) from cell_of_row _ _ 0 _ _ _ (HD0.out.below hy).rb))
          have hu0 : 0 < u := by have := HLT.out; omega
          refine (wpIn_wide (n := 1)).1 ?_
          refine RegK.wpIn_region_can (F := Fence.wide) (KeptW v2) [(0, 0), (2, 0), (3, 0), (4, 0), (1, 1), (5, 0)] (by kernel_rfl) (by kernel_rfl) (by kernel_rfl) (fun _ _ d _ _ h => by cases d <;> exact h) ⟨rfl, rfl, rfl, Nat.le_refl _, fun _ _ => rfl⟩ ?_
          dsimp only [RegK.pick, List.getElem?_cons_zero, List.getElem?_cons_succ]
          change RegK.Can _ _ _ _ _ _ _ _ v2.drew
          have hkd : KeptW v2 v2.drew := ⟨rfl, rfl, rfl, Nat.le_refl _, fun _ _ => rfl⟩
          generalize v2.drew = v20 at *
          iterate 2 (refine RegK.can_reads ?_; intro K hK; go_simp; (first | refine ⟨_, fun _ _ => rfl, hK _ ?_⟩ | refine hK _ ?_); clear hK K)
          refine RegK.can_reads ?_
          intro K hK
          go_simp
          refine ⟨.int .u64 (u : Int), fun y hy => ?_, hK _ ?_⟩
          · have c0 := HBn.out y (KeptW.bel hy)
            go_simp
          clear hK K
          refine RegK.can_reads ?_; intro K hK; go_simp; (first | refine ⟨_, fun _ _ => rfl, hK _ ?_⟩ | refine hK _ ?_); clear hK K
          refine RegK.can_turns (fun _ => trivial) ?_
          intro K K0 hK hK0
          go_simp
          refine ⟨trivial, ?_⟩
          refine (callsIn_wide.2 (HDd.out v20 (KeptW.bel hkd))).mono ?_
          rintro e x2 ⟨rfl, hb7⟩
          have x2k : KeptW v2 x2 := KeptW.mono hkd hb7
          refine hK _ _ x2k ?_
          clear hK K hK0 K0
          refine RegK.can_reads ?_; intro K hK; go_simp; (first | refine ⟨_, fun _ _ => rfl, hK _ ?_⟩ | refine hK _ ?_); clear hK K
          refine RegK.can_nil ?_
          have HD1 := Lib.hid (HD0.out.below (KeptW.bel x2k))
          clear HD0 HDd HBn hkd x2k hb7
          have HDe := Lib.hid (show Calls Tryz.prog 22 #[.pointer (some ⟨p, 0, none⟩)] x2 (fun e w' => e = .returned (.bool true) ∧ Below x2.heap.size x2 w') from by have h2 := HD1.out.dead; rw [HT2.out.dead] at h2; exact h2)
          go_upto_region 27 with (first
            | (go_at_call 22; (with_reducible refine HDe.out.mono ?_); rintro e w20 ⟨rfl, hb⟩; have HD2 := Lib.hid (HD1.out.below hb); clear hb)
            | (go_at_call 24; (with_reducible refine HD2.out.start.mono ?_); rintro e w22 ⟨rfl, hd⟩; have HD4 := Lib.hid hd; clear hd))
          have HBK := Lib.hid (torn_back HT2.out HS.out.b64 HLT.out HAB.out.2 HS.out.len HS.out.zero)
          have HB0 := Lib.hid (And.intro HS.out.b64 HS.out.zero)
          obtain ⟨nx, hnx⟩ : ∃ nx, nx = (u, tx.data.toList) := ⟨_, rfl⟩
          rw [← hnx] at HD4
          clear hnx
          have HD5 := Lib.hid (And.intro HD4.out HBK.out)
          clear HD4 HBK HD1 HD2 HDe
          go_loopw [14] (fun s14 wr => ∃ (j : Nat) (D : DskV), s14 = .int .i64 (j : Int) ∧ j ≤ 2 ∧ LsD N ga gb p bb w wr D b nx ∧ Back D b) (fun s14 _ => 2 - (intOf s14).toNat)
          case atStart => exact ⟨0, _, rfl, by omega, HD5.out.1, HD5.out.2⟩
          case round =>
            clear HD5
            obtain ⟨j, D5, rfl, hj, hD5, hB5⟩ := hrel
            have HD5 := Lib.hid hD5
            have HB5 := Lib.hid hB5
            clear hD5 hB5
            by_cases hjl : j < 2
            · have hjl' : (j : Int) < 2 := by omega
              have hj1 : wrap64 ((j : Int) + 1) = ((j + 1 : Nat) : Int) := by unfold wrap64; omega
              obtain ⟨D6, hD6⟩ : ∃ D6, D6 = rems D5 (rmN (baseL D5.fs)) := ⟨_, rfl⟩
              have hs6 := HB5.out.sto
              rw [← hD6] at hs6
              have HS6 := Lib.hid hs6
              have HOP := Lib.hid (by have h2 := HD5.out.opens HB5.out HW.out.1; rw [← hD6] at h2; exact h2)
              clear hD6 hs6
              by_cases h0 : b.1 = 0
              · have hn0 : ¬ (0 < b.1) := by omega
                have HBA := Lib.hid (fun (S : Nat) (y : World) (h : LsI N ga gb S p bb w y D6 b b nx) => (show Calls Tryz.prog 13 #[.pointer (some ⟨S, 0, none⟩)] y (fun e w' => e = .returned (.tuple #[.int .u64 (b.1 : Int), .string ⟨b.2.toArray⟩, .bool false]) ∧ LsI N ga gb S p bb w w' D6 b b nx) from by
                  refine (base_kst h.st).mono ?_
                  rintro e w' ⟨rfl, hb⟩
                  rw [if_pos h0, HB0.out.2 h0, decide_eq_false (by omega)]
                  exact ⟨rfl, h.below hb⟩))
                have HFI := Lib.hid (show D6.fs = [] from by rw [HS6.out.fs]; unfold stF; rw [if_pos h0])
                clear h0
                obtain ⟨tb, htb⟩ : ∃ tb : ByteArray, tb = ⟨b.2.toArray⟩ := ⟨_, rfl⟩
                obtain ⟨ub, hub⟩ : ∃ ub, ub = b.1 := ⟨_, rfl⟩
                rw [← htb, ← hub] at HBA
                rw [← hub] at hn0
                have HTB := Lib.hid (And.intro htb hub)
                clear htb hub
                go_upto_region 31 with (first
                  | (go_at_call 12; (with_reducible refine HOP.out.mono ?_); rintro e w30 ⟨S2, rfl, hd⟩; have HO6 := Lib.hid hd; clear hd)
                  | (go_at_call 13; (with_reducible refine (HBA.out S2 _ HO6.out).mono ?_); rintro e w31 ⟨rfl, hd⟩; have HO7 := Lib.hid hd; clear hd))
                go_upto_region 32 with fail
                have HFS := Lib.hid (fun (y : World) (h : LsI N ga gb S2 p bb w y D6 b b nx) => (show Calls Tryz.prog 19 #[.pointer (some ⟨p, 0, none⟩)] y (fun e w' => ∃ A c, e = .returned (.slice A 0 c) ∧ LsI N ga gb S2 p bb w w' D6 b b nx) from by
                  refine (files_kdk (by rw [HFI.out]; show 0 ≤ _; decide) h.st.dk).mono ?_
                  rintro e w' ⟨v, rfl, ho, hb⟩
                  rw [HFI.out] at ho
                  obtain ⟨A, c, rfl, _⟩ := files_row (N := 0) rfl ho
                  exact ⟨A, c, rfl, h.below hb⟩))
                change Code.wp _ _ _ _ (w31.alloc (.cells #[.int .u64 (ub : Int), .string tb] 46))
                have HO8 := Lib.hid (HO7.out.below ((Below.refl w31.heap.size w31).alloc (Nat.le_refl _) (.cells #[.int .u64 (ub : Int), .string tb] 46)))
                have hr := heap_alloc_new w31 (.cells #[.int .u64 (ub : Int), .string tb] 46)
                generalize w31.alloc (.cells #[.int .u64 (ub : Int), .string tb] 46) = w32 at *
                generalize w31.heap.size = gx at *
                have x0 := cell_of_row _ _ 0 _ _ _ hr
                have x1 := cell_of_row _ _ 1 _ _ _ hr
                have a0 := cell_of_row _ _ 0 _ _ _ HO8.out.ra
                have a1 := cell_of_row _ _ 1 _ _ _ HO8.out.ra
                rw [show (#[Value.int .u64 (ub : Int), .string tb])[0]? = some (.int .u64 (ub : Int)) from rfl] at x0
                rw [show (#[Value.int .u64 (ub : Int), .string tb])[1]? = some (.string tb) from rfl] at x1
                rw [show (#[Value.int .u64 (b.1 : Int), .string ⟨b.2.toArray⟩])[0]? = some (.int .u64 (b.1 : Int)) from rfl, ← HTB.out.2] at a0
                rw [show (#[Value.int .u64 (b.1 : Int), .string ⟨b.2.toArray⟩])[1]? = some (.string ⟨b.2.toArray⟩) from rfl, ← HTB.out.1] at a1
                clear hr
                go_upto_region 34 with fail
                clear x0 x1 a0 a1
                go_wp2_with (go_at_call 19; (with_reducible refine (HFS.out _ HO8.out).mono ?_); rintro e w33 ⟨A, cF, rfl, hd⟩; have HO9 := Lib.hid hd; clear hd)
                exact ⟨⟨j + 1, D6, rfl, by omega, HO9.out.d, sto_back HS6.out⟩, by simp only [intOf]; omega⟩
              · have hp0 : 0 < b.1 := by omega
                have HBA := Lib.hid (fun (S : Nat) (y : World) (h : LsI N ga gb S p bb w y D6 b b nx) => (show Calls Tryz.prog 13 #[.pointer (some ⟨S, 0, none⟩)] y (fun e w' => e = .returned (.tuple #[.int .u64 (b.1 : Int), .string ⟨b.2.toArray⟩, .bool true]) ∧ LsI N ga gb S p bb w w' D6 b b nx) from by
                  refine (base_kst h.st).mono ?_
                  rintro e w' ⟨rfl, hb⟩
                  rw [if_neg h0, decide_eq_true h0]
                  exact ⟨rfl, h.below hb⟩))
                have HFI := Lib.hid (show D6.fs = [goodF b.1 b.2] from by rw [HS6.out.fs]; unfold stF; rw [if_neg h0])
                clear h0
                obtain ⟨tb, htb⟩ : ∃ tb : ByteArray, tb = ⟨b.2.toArray⟩ := ⟨_, rfl⟩
                obtain ⟨ub, hub⟩ : ∃ ub, ub = b.1 := ⟨_, rfl⟩
                rw [← htb, ← hub] at HBA
                rw [← hub] at hp0
                have HTB := Lib.hid (And.intro htb hub)
                clear htb hub
                go_upto_region 31 with (first
                  | (go_at_call 12; (with_reducible refine HOP.out.mono ?_); rintro e w30 ⟨S2, rfl, hd⟩; have HO6 := Lib.hid hd; clear hd)
                  | (go_at_call 13; (with_reducible refine (HBA.out S2 _ HO6.out).mono ?_); rintro e w31 ⟨rfl, hd⟩; have HO7 := Lib.hid hd; clear hd))
                go_upto_region 32 with fail
                have HFS := Lib.hid (fun (y : World) (h : LsI N ga gb S2 p bb w y D6 b b nx) => (show Calls Tryz.prog 19 #[.pointer (some ⟨p, 0, none⟩)] y (fun e w' => ∃ A c, e = .returned (.slice A 1 c) ∧ LsI N ga gb S2 p bb w w' D6 b b nx) from by
                  refine (files_kdk (by rw [HFI.out]; show 1 ≤ _; decide) h.st.dk).mono ?_
                  rintro e w' ⟨v, rfl, ho, hb⟩
                  rw [HFI.out] at ho
                  obtain ⟨A, c, rfl, _⟩ := files_row (N := 1) rfl ho
                  exact ⟨A, c, rfl, h.below hb⟩))
                change Code.wp _ _ _ _ (w31.alloc (.cells #[.int .u64 (ub : Int), .string tb] 46))
                have HO8 := Lib.hid (HO7.out.below ((Below.refl w31.heap.size w31).alloc (Nat.le_refl _) (.cells #[.int .u64 (ub : Int), .string tb] 46)))
                have hr := heap_alloc_new w31 (.cells #[.int .u64 (ub : Int), .string tb] 46)
                generalize w31.alloc (.cells #[.int .u64 (ub : Int), .string tb] 46) = w32 at *
                generalize w31.heap.size = gx at *
                have x0 := cell_of_row _ _ 0 _ _ _ hr
                have x1 := cell_of_row _ _ 1 _ _ _ hr
                have a0 := cell_of_row _ _ 0 _ _ _ HO8.out.ra
                have a1 := cell_of_row _ _ 1 _ _ _ HO8.out.ra
                rw [show (#[Value.int .u64 (ub : Int), .string tb])[0]? = some (.int .u64 (ub : Int)) from rfl] at x0
                rw [show (#[Value.int .u64 (ub : Int), .string tb])[1]? = some (.string tb) from rfl] at x1
                rw [show (#[Value.int .u64 (b.1 : Int), .string ⟨b.2.toArray⟩])[0]? = some (.int .u64 (b.1 : Int)) from rfl, ← HTB.out.2] at a0
                rw [show (#[Value.int .u64 (b.1 : Int), .string ⟨b.2.toArray⟩])[1]? = some (.string ⟨b.2.toArray⟩) from rfl, ← HTB.out.1] at a1
                clear hr
                go_upto_region 34 with fail
                clear x0 x1 a0 a1
                go_wp2_with (go_at_call 19; (with_reducible refine (HFS.out _ HO8.out).mono ?_); rintro e w33 ⟨A, cF, rfl, hd⟩; have HO9 := Lib.hid hd; clear hd)
                exact ⟨⟨j + 1, D6, rfl, by omega, HO9.out.d, sto_back HS6.out⟩, by simp only [intOf]; omega⟩
            · have hjl' : ¬ ((j : Int) < 2) := by omega
              go_wp2_with (go_at_call 15; (with_reducible refine (Hwk.out _ (HW.out.1.on HD5.out.bel).here).mono ?_); rintro e w6 ⟨rfl, hb⟩; have HB6 := Lib.hid (HD5.out.bel.trans (hb.mono (Nat.le_trans HW.out.2 HD5.out.bel.size))); clear hb)
              go_ret
              exact ⟨rfl, by rw [← HNZ.out]; exact HB6.out⟩
    · have hil' : ¬ ((i : Int) < (len : Int)) := by omega
      go_upto_region 21 with fail
      have HD0 := Lib.hid HI.out.d
      have HDd := Lib.hid (fun (y : World) (hy : Below wr.heap.size wr y) => (show Calls Tryz.prog 22 #[.pointer (some ⟨p, 0, none⟩)] y (fun e w' => e = .returned (.bool false) ∧ Below y.heap.size y w') from by have h2 := (HD0.out.below hy).dead; rw [HS.out.dead] at h2; exact h2))
      have HBn := Lib.hid (fun (y : World) (hy : Below wr.heap.size wr y) => (show y.cell? ⟨gb, 0, none⟩ = some (.int .u64 (0 : Int)) from cell_of_row _ _ 0 _ _ _ (HD0.out.below hy).rb))
      refine (wpIn_wide (n := 1)).1 ?_
      refine RegK.wpIn_region_can (F := Fence.wide) (KeptW wr) [(0, 0), (2, 0), (3, 0), (4, 0), (1, 1), (5, 0)] (by kernel_rfl) (by kernel_rfl) (by kernel_rfl) (fun _ _ d _ _ h => by cases d <;> exact h) ⟨rfl, rfl, rfl, Nat.le_refl _, fun _ _ => rfl⟩ ?_
      dsimp only [RegK.pick, List.getElem?_cons_zero, List.getElem?_cons_succ]
      change RegK.Can _ _ _ _ _ _ _ _ wr.drew
      have hkd : KeptW wr wr.drew := ⟨rfl, rfl, rfl, Nat.le_refl _, fun _ _ => rfl⟩
      generalize wr.drew = v20 at *
      iterate 2 (refine RegK.can_reads ?_; intro K hK; go_simp; (first | refine ⟨_, fun _ _ => rfl, hK _ ?_⟩ | refine hK _ ?_); clear hK K)
      refine RegK.can_reads ?_
      intro K hK
      go_simp
      refine ⟨.int .u64 (0 : Int), fun y hy => ?_, hK _ ?_⟩
      · have c0 := HBn.out y (KeptW.bel hy)
        go_simp
      clear hK K
      refine RegK.can_reads ?_; intro K hK; go_simp; (first | refine ⟨_, fun _ _ => rfl, hK _ ?_⟩ | refine hK _ ?_); clear hK K
      refine RegK.can_turns (fun _ => trivial) ?_
      intro K K0 hK hK0
      go_simp
      refine ⟨trivial, ?_⟩
      refine (callsIn_wide.2 (HDd.out v20 (KeptW.bel hkd))).mono ?_
      rintro e x2 ⟨rfl, hb7⟩
      have x2k : KeptW wr x2 := KeptW.mono hkd hb7
      refine hK _ _ x2k ?_
      clear hK K hK0 K0
      refine RegK.can_reads ?_; intro K hK; go_simp; (first | refine ⟨_, fun _ _ => rfl, hK _ ?_⟩ | refine hK _ ?_); clear hK K
      refine RegK.can_nil ?_
      have HD1 := Lib.hid (HD0.out.below (KeptW.bel x2k))
      clear HD0 HDd HBn hkd x2k hb7
      have HDe := Lib.hid (show Calls Tryz.prog 22 #[.pointer (some ⟨p, 0, none⟩)] x2 (fun e w' => e = .returned (.bool false) ∧ Below x2.heap.size x2 w') from by have h2 := HD1.out.dead; rw [HS.out.dead] at h2; exact h2)
      go_upto_region 27 with (first
        | (go_at_call 22; (with_reducible refine HDe.out.mono ?_); rintro e w20 ⟨rfl, hb⟩; have HD2 := Lib.hid (HD1.out.below hb); clear hb)
        | (go_at_call 23; (with_reducible refine (HD2.out.crash HS.out HKE.out).mono ?_); rintro e w21 ⟨rfl, hd⟩; have HD3 := Lib.hid hd; clear hd)
        | (go_at_call 24; (with_reducible refine HD3.out.start.mono ?_); rintro e w22 ⟨rfl, hd⟩; have HD4 := Lib.hid hd; clear hd))
      have HBK := Lib.hid (sto_back (D := { ({ D with fuse := none, dead := true } : DskV) with dead := false }) (b := b) ⟨rfl, HS.out.fs, HS.out.b64, HS.out.len, HS.out.zero, HS.out.sum⟩)
      have HB0 := Lib.hid (And.intro HS.out.b64 HS.out.zero)
      obtain ⟨nx, hnx⟩ : ∃ nx, nx = (0, []) := ⟨_, rfl⟩
      rw [← hnx] at HD4
      clear hnx
      have HD5 := Lib.hid (And.intro HD4.out HBK.out)
      clear HD4 HBK HD1 HD2 HDe
      go_loopw [14] (fun s14 wr => ∃ (j : Nat) (D : DskV), s14 = .int .i64 (j : Int) ∧ j ≤ 2 ∧ LsD N ga gb p bb w wr D b nx ∧ Back D b) (fun s14 _ => 2 - (intOf s14).toNat)
      case atStart => exact ⟨0, _, rfl, by omega, HD5.out.1, HD5.out.2⟩
      case round =>
        clear HD5
        obtain ⟨j, D5, rfl, hj, hD5, hB5⟩ := hrel
        have HD5 := Lib.hid hD5
        have HB5 := Lib.hid hB5
        clear hD5 hB5
        by_cases hjl : j < 2
        · have hjl' : (j : Int) < 2 := by omega
          have hj1 : wrap64 ((j : Int) + 1) = ((j + 1 : Nat) : Int) := by unfold wrap64; omega
          obtain ⟨D6, hD6⟩ : ∃ D6, D6 = rems D5 (rmN (baseL D5.fs)) := ⟨_, rfl⟩
          have hs6 := HB5.out.sto
          rw [← hD6] at hs6
          have HS6 := Lib.hid hs6
          have HOP := Lib.hid (by have h2 := HD5.out.opens HB5.out HW.out.1; rw [← hD6] at h2; exact h2)
          clear hD6 hs6
          by_cases h0 : b.1 = 0
          · have hn0 : ¬ (0 < b.1) := by omega
            have HBA := Lib.hid (fun (S : Nat) (y : World) (h : LsI N ga gb S p bb w y D6 b b nx) => (show Calls Tryz.prog 13 #[.pointer (some ⟨S, 0, none⟩)] y (fun e w' => e = .returned (.tuple #[.int .u64 (b.1 : Int), .string ⟨b.2.toArray⟩, .bool false]) ∧ LsI N ga gb S p bb w w' D6 b b nx) from by
              refine (base_kst h.st).mono ?_
              rintro e w' ⟨rfl, hb⟩
              rw [if_pos h0, HB0.out.2 h0, decide_eq_false (by omega)]
              exact ⟨rfl, h.below hb⟩))
            have HFI := Lib.hid (show D6.fs = [] from by rw [HS6.out.fs]; unfold stF; rw [if_pos h0])
            clear h0
            obtain ⟨tb, htb⟩ : ∃ tb : ByteArray, tb = ⟨b.2.toArray⟩ := ⟨_, rfl⟩
            obtain ⟨ub, hub⟩ : ∃ ub, ub = b.1 := ⟨_, rfl⟩
            rw [← htb, ← hub] at HBA
            rw [← hub] at hn0
            have HTB := Lib.hid (And.intro htb hub)
            clear htb hub
            go_upto_region 31 with (first
              | (go_at_call 12; (with_reducible refine HOP.out.mono ?_); rintro e w30 ⟨S2, rfl, hd⟩; have HO6 := Lib.hid hd; clear hd)
              | (go_at_call 13; (with_reducible refine (HBA.out S2 _ HO6.out).mono ?_); rintro e w31 ⟨rfl, hd⟩; have HO7 := Lib.hid hd; clear hd))
            go_upto_region 32 with fail
            have HFS := Lib.hid (fun (y : World) (h : LsI N ga gb S2 p bb w y D6 b b nx) => (show Calls Tryz.prog 19 #[.pointer (some ⟨p, 0, none⟩)] y (fun e w' => ∃ A c, e = .returned (.slice A 0 c) ∧ LsI N ga gb S2 p bb w w' D6 b b nx) from by
              refine (files_kdk (by rw [HFI.out]; show 0 ≤ _; decide) h.st.dk).mono ?_
              rintro e w' ⟨v, rfl, ho, hb⟩
              rw [HFI.out] at ho
              obtain ⟨A, c, rfl, _⟩ := files_row (N := 0) rfl ho
              exact ⟨A, c, rfl, h.below hb⟩))
            change Code.wp _ _ _ _ (w31.alloc (.cells #[.int .u64 (ub : Int), .string tb] 46))
            have HO8 := Lib.hid (HO7.out.below ((Below.refl w31.heap.size w31).alloc (Nat.le_refl _) (.cells #[.int .u64 (ub : Int), .string tb] 46)))
            have hr := heap_alloc_new w31 (.cells #[.int .u64 (ub : Int), .string tb] 46)
            generalize w31.alloc (.cells #[.int .u64 (ub : Int), .string tb] 46) = w32 at *
            generalize w31.heap.size = gx at *
            have x0 := cell_of_row _ _ 0 _ _ _ hr
            have x1 := cell_of_row _ _ 1 _ _ _ hr
            have a0 := cell_of_row _ _ 0 _ _ _ HO8.out.ra
            have a1 := cell_of_row _ _ 1 _ _ _ HO8.out.ra
            rw [show (#[Value.int .u64 (ub : Int), .string tb])[0]? = some (.int .u64 (ub : Int)) from rfl] at x0
            rw [show (#[Value.int .u64 (ub : Int), .string tb])[1]? = some (.string tb) from rfl] at x1
            rw [show (#[Value.int .u64 (b.1 : Int), .string ⟨b.2.toArray⟩])[0]? = some (.int .u64 (b.1 : Int)) from rfl, ← HTB.out.2] at a0
            rw [show (#[Value.int .u64 (b.1 : Int), .string ⟨b.2.toArray⟩])[1]? = some (.string ⟨b.2.toArray⟩) from rfl, ← HTB.out.1] at a1
            clear hr
            go_upto_region 34 with fail
            clear x0 x1 a0 a1
            go_wp2_with (go_at_call 19; (with_reducible refine (HFS.out _ HO8.out).mono ?_); rintro e w33 ⟨A, cF, rfl, hd⟩; have HO9 := Lib.hid hd; clear hd)
            exact ⟨⟨j + 1, D6, rfl, by omega, HO9.out.d, sto_back HS6.out⟩, by simp only [intOf]; omega⟩
          · have hp0 : 0 < b.1 := by omega
            have HBA := Lib.hid (fun (S : Nat) (y : World) (h : LsI N ga gb S p bb w y D6 b b nx) => (show Calls Tryz.prog 13 #[.pointer (some ⟨S, 0, none⟩)] y (fun e w' => e = .returned (.tuple #[.int .u64 (b.1 : Int), .string ⟨b.2.toArray⟩, .bool true]) ∧ LsI N ga gb S p bb w w' D6 b b nx) from by
              refine (base_kst h.st).mono ?_
              rintro e w' ⟨rfl, hb⟩
              rw [if_neg h0, decide_eq_true h0]
              exact ⟨rfl, h.below hb⟩))
            have HFI := Lib.hid (show D6.fs = [goodF b.1 b.2] from by rw [HS6.out.fs]; unfold stF; rw [if_neg h0])
            clear h0
            obtain ⟨tb, htb⟩ : ∃ tb : ByteArray, tb = ⟨b.2.toArray⟩ := ⟨_, rfl⟩
            obtain ⟨ub, hub⟩ : ∃ ub, ub = b.1 := ⟨_, rfl⟩
            rw [← htb, ← hub] at HBA
            rw [← hub] at hp0
            have HTB := Lib.hid (And.intro htb hub)
            clear htb hub
            go_upto_region 31 with (first
              | (go_at_call 12; (with_reducible refine HOP.out.mono ?_); rintro e w30 ⟨S2, rfl, hd⟩; have HO6 := Lib.hid hd; clear hd)
              | (go_at_call 13; (with_reducible refine (HBA.out S2 _ HO6.out).mono ?_); rintro e w31 ⟨rfl, hd⟩; have HO7 := Lib.hid hd; clear hd))
            go_upto_region 32 with fail
            have HFS := Lib.hid (fun (y : World) (h : LsI N ga gb S2 p bb w y D6 b b nx) => (show Calls Tryz.prog 19 #[.pointer (some ⟨p, 0, none⟩)] y (fun e w' => ∃ A c, e = .returned (.slice A 1 c) ∧ LsI N ga gb S2 p bb w w' D6 b b nx) from by
              refine (files_kdk (by rw [HFI.out]; show 1 ≤ _; decide) h.st.dk).mono ?_
              rintro e w' ⟨v, rfl, ho, hb⟩
              rw [HFI.out] at ho
              obtain ⟨A, c, rfl, _⟩ := files_row (N := 1) rfl ho
              exact ⟨A, c, rfl, h.below hb⟩))
            change Code.wp _ _ _ _ (w31.alloc (.cells #[.int .u64 (ub : Int), .string tb] 46))
            have HO8 := Lib.hid (HO7.out.below ((Below.refl w31.heap.size w31).alloc (Nat.le_refl _) (.cells #[.int .u64 (ub : Int), .string tb] 46)))
            have hr := heap_alloc_new w31 (.cells #[.int .u64 (ub : Int), .string tb] 46)
            generalize w31.alloc (.cells #[.int .u64 (ub : Int), .string tb] 46) = w32 at *
            generalize w31.heap.size = gx at *
            have x0 := cell_of_row _ _ 0 _ _ _ hr
            have x1 := cell_of_row _ _ 1 _ _ _ hr
            have a0 := cell_of_row _ _ 0 _ _ _ HO8.out.ra
            have a1 := cell_of_row _ _ 1 _ _ _ HO8.out.ra
            rw [show (#[Value.int .u64 (ub : Int), .string tb])[0]? = some (.int .u64 (ub : Int)) from rfl] at x0
            rw [show (#[Value.int .u64 (ub : Int), .string tb])[1]? = some (.string tb) from rfl] at x1
            rw [show (#[Value.int .u64 (b.1 : Int), .string ⟨b.2.toArray⟩])[0]? = some (.int .u64 (b.1 : Int)) from rfl, ← HTB.out.2] at a0
            rw [show (#[Value.int .u64 (b.1 : Int), .string ⟨b.2.toArray⟩])[1]? = some (.string ⟨b.2.toArray⟩) from rfl, ← HTB.out.1] at a1
            clear hr
            go_upto_region 34 with fail
            clear x0 x1 a0 a1
            go_wp2_with (go_at_call 19; (with_reducible refine (HFS.out _ HO8.out).mono ?_); rintro e w33 ⟨A, cF, rfl, hd⟩; have HO9 := Lib.hid hd; clear hd)
            exact ⟨⟨j + 1, D6, rfl, by omega, HO9.out.d, sto_back HS6.out⟩, by simp only [intOf]; omega⟩
        · have hjl' : ¬ ((j : Int) < 2) := by omega
          go_wp2_with (go_at_call 15; (with_reducible refine (Hwk.out _ (HW.out.1.on HD5.out.bel).here).mono ?_); rintro e w6 ⟨rfl, hb⟩; have HB6 := Lib.hid (HD5.out.bel.trans (hb.mono (Nat.le_trans HW.out.2 HD5.out.bel.size))); clear hb)
          go_ret
          exact ⟨rfl, by rw [← HNZ.out]; exact HB6.out⟩
end Go.Proofs.YtogfladmgbldcaaGreatDoor
namespace Go.Proofs.YtogfladmgbldcaaGreatDoor
open Go.RowKit
theorem i64_most {n : Int} (h : (Lit.int .i64 n).wf = true) : n ≤ 9223372036854775807 := by
  have h' : -9223372036854775808 ≤ n ∧ n ≤ 9223372036854775807 := by simpa [Lit.wf, IntKind.min, IntKind.max, IntKind.signed, IntKind.bits] using h
  exact h'.2
theorem baseLasts_row (a : Option Addr) (len cap : Nat) (z : List OneV) (f k : Int) {W : World} (hz : SliceAt 2 oneC W a len z) (hf : (Lit.int .i64 f).wf = true) (hk : (Lit.int .i64 k).wf = true) (hv : PV W) : Calls Tryz.prog 5 #[.slice a len cap, .int .i64 f, .int .i64 k] W fun e w' => e = .returned (.bool true) ∧ Below W.heap.size W w' :=
  baseLasts_any a len cap z f k (i64_most hf) (i64_most hk) hz hv
end Go.Proofs.YtogfladmgbldcaaGreatDoor
