/- Play: the library's contracts as they are used. Condition: the library's variables hold what the program's text lays. -/
import Derived.Test.YtjjlodeiejobdaaDoorPyL
import Derived.Test.YtjjlodeiejobdaaDoorPyA
import Derived.Lib.AppendIntMem
import Derived.BigCall
namespace Go.Proofs.YtjjlodeiejobdaaDoor
open Go.RowKit Go.Shelf
/-- The library's variables. -/
structure PV (w : World) : Prop where
  tab : Lib.TabIs Tryd.prog w "internal/strconv.uint64pow10" .u64 Lib.pow10Tab
  syn : ∃ tp p, w.var? Tryd.prog "strconv.ErrSyntax" = some #[.iface tp p]
  rng : ∃ tp p, w.var? Tryd.prog "strconv.ErrRange" = some #[.iface tp p]
  mx : ∃ m, w.cell? ⟨0, 0, none⟩ = some (.int .i64 m)
theorem var_below {w w' : World} {n : String} {cs : Array Value} (hb : Below w.heap.size w w') (h : w.var? Tryd.prog n = some cs) : w'.var? Tryd.prog n = some cs := by
  unfold World.var? at h ⊢
  cases hg : Tryd.prog.globalNamed n with
  | none => rw [hg] at h; cases h
  | some g =>
    rw [hg] at h
    simp only [Option.bind_some] at h ⊢
    cases hk : w.heap[g]? with
    | none => rw [hk] at h; cases h
    | some o => rw [hb.block g (Array.getElem?_eq_some_iff.1 hk).1]; exact h
theorem cell_lt {w : World} {b o : Nat} {v : Value} (h : w.cell? ⟨b, o, none⟩ = some v) : b < w.heap.size := by
  by_cases hb : b < w.heap.size
  · exact hb
  · unfold World.cell? at h
    rw [Array.getElem?_eq_none (by simpa using hb)] at h
    cases h
theorem PV.below {w w' : World} (h : PV w) (hb : Below w.heap.size w w') : PV w' := by
  obtain ⟨t1, p1, h1⟩ := h.syn
  obtain ⟨t2, p2, h2⟩ := h.rng
  obtain ⟨m, h3⟩ := h.mx
  exact ⟨var_below hb h.tab, ⟨t1, p1, var_below hb h1⟩, ⟨t2, p2, var_below hb h2⟩, ⟨m, (World.cell?_of_block (hb.block _ (cell_lt h3))).trans h3⟩⟩
/-- .. whatever is done from block B on. -/
def PVB (B : Nat) (w : World) : Prop := ∀ y, Below B w y → PV y
theorem PVB.of {w : World} (h : PV w) : PVB w.heap.size w := fun _ hb => h.below hb
theorem PVB.on {B : Nat} {w w' : World} (h : PVB B w) (hb : Below B w w') : PVB B w' := fun _ h2 => h _ (hb.trans h2)
theorem PVB.here {B : Nat} {w : World} (h : PVB B w) : PV w := h w (Below.refl _ _)
theorem grow_below (w : World) (k : Nat) (os : Array Obj) : Below w.heap.size w (Sort.grow (w.drewN k) os) :=
  ⟨rfl, rfl, rfl, by simp [Sort.grow], fun i hi => by
    show (w.heap ++ os)[i]? = w.heap[i]?
    exact Array.getElem?_append_left hi⟩
theorem itoa_any (n : Int) (h0 : -9223372036854775808 ≤ n) (h1 : n ≤ 9223372036854775807) (w : World) (hv : PV w) :
    Calls Tryd.prog 43 #[.int .i64 n] w fun e w' => e = .returned (.string ⟨(Lib.itoa n).toArray⟩) ∧ Below w.heap.size w w' :=
  (Any.strconv_Itoa lay_itoa n h0 h1 w hv.tab).mono fun _ _ ⟨he, k, os, hw⟩ => ⟨he, by rw [hw]; exact grow_below w k os⟩
theorem fmtint_any (n : Int) (h0 : -9223372036854775808 ≤ n) (h1 : n ≤ 9223372036854775807) (w : World) (hv : PV w) :
    Calls Tryd.prog 50 #[.int .i64 n, .int .i64 10] w fun e w' => e = .returned (.string ⟨(Lib.itoa n).toArray⟩) ∧ Below w.heap.size w w' :=
  (Any.strconv_FormatInt_10 lay_fmt n h0 h1 w hv.tab).mono fun _ _ ⟨he, k, os, hw⟩ => ⟨he, by rw [hw]; exact grow_below w k os⟩
/-- What ParseUint, ParseInt tell: a number, or an error. -/
def UintR (R : Option Nat) (w : World) (e : Ending) (w' : World) : Prop := Below w.heap.size w w' ∧ match R with
  | some v => e = .returned (.tuple #[.int .u64 (v : Int), .nilIface])
  | none => ∃ (x : Nat) (t : TypeId) (p : Value), x < 256 ∧ e = .returned (.tuple #[.int .u64 (x : Int), .iface t p])
def IntR (R : Option Int) (w : World) (e : Ending) (w' : World) : Prop := Below w.heap.size w w' ∧ match R with
  | some v => e = .returned (.tuple #[.int .i64 v, .nilIface])
  | none => ∃ (x : Int) (t : TypeId) (p : Value), (-9223372036854775808 ≤ x ∧ x ≤ 9223372036854775807) ∧ e = .returned (.tuple #[.int .i64 x, .iface t p])
def okOf {α : Type} : Lib.NumEnd α → Option α
  | .ok v => some v
  | _ => none
theorem puint_any (s : ByteArray) (hs : s.size ≤ 281474976710656) (w : World) (hv : PV w) :
    Calls Tryd.prog 47 #[.string s, .int .i64 10, .int .i64 8] w (UintR (okOf (Lib.parseUintB 8 s.data.toList)) w) := by
  rcases h : Lib.parseUintB 8 s.data.toList with u | _ | _
  · skip
    refine (Any.strconv_ParseUint_10_at8_ok lay_puint s (by omega) u h w).mono ?_
    rintro e w' ⟨rfl, hw⟩
    refine ⟨?_, rfl⟩
    rcases hw with rfl | rfl
    · exact Below.refl _ _
    · exact Lib.bytesWorld_below _ _ _
  · skip
    obtain ⟨tp, p, hv1⟩ := hv.syn
    refine (Any.strconv_ParseUint_10_at8_syntax_var lay_puint s hs h tp p w hv1).mono ?_
    rintro e w' ⟨N, rfl, -, -, hb⟩
    exact ⟨hb, 0, _, _, by decide, rfl⟩
  · skip
    obtain ⟨tp, p, hv1⟩ := hv.rng
    refine (Any.strconv_ParseUint_10_at8_range_var lay_puint s hs h tp p w hv1).mono ?_
    rintro e w' ⟨N, rfl, -, -, hb⟩
    exact ⟨hb, 255, _, _, by decide, rfl⟩
theorem pint_any (s : ByteArray) (hs : s.size ≤ 281474976710656) (w : World) (hv : PV w) :
    Calls Tryd.prog 49 #[.string s, .int .i64 10, .int .i64 64] w (IntR (okOf (Lib.parseIntB 64 s.data.toList)) w) := by
  rcases h : Lib.parseIntB 64 s.data.toList with u | _ | _
  · skip
    refine (Any.strconv_ParseInt_10_at64_ok lay_pint s (by omega) u h w).mono ?_
    rintro e w' ⟨rfl, hw⟩
    refine ⟨?_, rfl⟩
    rcases hw with rfl | ⟨t, rfl⟩
    · exact Below.refl _ _
    · exact Lib.bytesWorld_below _ _ _
  · skip
    obtain ⟨tp, p, hv1⟩ := hv.syn
    refine (Any.strconv_ParseInt_10_at64_syntax_var lay_pint s hs h tp p w hv1).mono ?_
    rintro e w' ⟨N, rfl, -, -, hb⟩
    exact ⟨hb, 0, _, _, by decide, rfl⟩
  · skip
    obtain ⟨tp, p, hv1⟩ := hv.rng
    refine (Any.strconv_ParseInt_10_at64_range_var lay_pint s hs h tp p w hv1).mono ?_
    rintro e w' ⟨N, rfl, -, -, hb⟩
    exact ⟨hb, Lib.intSat 64 s.data.toList, _, _, by unfold Lib.intSat; split <;> omega, rfl⟩
theorem byte_split (c : UInt8) (s : ByteArray) : (Lib.splitB ⟨#[c]⟩ 0 (Lib.countB s ⟨#[c]⟩) s).map (·.data.toList) = splL c s.data.toList := by
  rw [Lib.splitB_data, ← lib_split]
  rfl
/-- Pieces of a text, as they lie. -/
def pcsB (c : UInt8) (s : ByteArray) : List ByteArray := (splL c s.data.toList).map (fun l => ⟨l.toArray⟩)
theorem pcs_eq (c : UInt8) (s : ByteArray) : Lib.splitB ⟨#[c]⟩ 0 (Lib.countB s ⟨#[c]⟩) s = pcsB c s := by
  unfold pcsB
  rw [← byte_split, List.map_map]
  conv => lhs; rw [← List.map_id (Lib.splitB ⟨#[c]⟩ 0 (Lib.countB s ⟨#[c]⟩) s)]
  exact List.map_congr_left fun x _ => by simp
theorem pcs_len (c : UInt8) (s : ByteArray) : Lib.countB s ⟨#[c]⟩ + 1 = (pcsB c s).length := by
  rw [← pcs_eq]
  exact (Lib.splitB_all ⟨#[c]⟩ (Nat.le_refl 1) 0 _ s rfl).symm
theorem split_any (c : UInt8) (s : ByteArray) (hs : s.size < 4294967281) (w : World) (hv : PV w) :
    Calls Tryd.prog 27 #[.string s, .string ⟨#[c]⟩] w fun e w' =>
      e = .returned (.slice (some ⟨w.heap.size, 0, none⟩) (pcsB c s).length (pcsB c s).length) ∧ w' = w.alloc (.cells ((pcsB c s).map Value.string).toArray 9) := by
  obtain ⟨m, hm⟩ := hv.mx
  have h := Any.strings_Split { lay_split with } lay_split.i9 s ⟨#[c]⟩ m w hs hm (Nat.le_refl 1)
  rw [pcs_eq, pcs_len] at h
  exact h
theorem join_any (bk o c : Nat) (xs : List ByteArray) (d : UInt8) (w : World) (hcells : ∀ (j : Nat) x, xs[j]? = some x → w.cell? ⟨bk, o + j, none⟩ = some (.string x)) (hbk : bk < w.heap.size) (hN : xs.length ≤ 140737488355328) (hcap : xs.length ≤ c) (hlen : (joiL d (xs.map (·.data.toList))).length ≤ 140737488355328) :
    Calls Tryd.prog 26 #[.slice (some ⟨bk, o, none⟩) xs.length c, .string ⟨#[d]⟩] w fun e w' => e = .returned (.string ⟨(joiL d (xs.map (·.data.toList))).toArray⟩) ∧ Below w.heap.size w w' := by
  have h := Any.strings_Join lay_join lay_ex bk o c xs ⟨#[d]⟩ w hcells hbk hN hcap (by rw [show (⟨#[d]⟩ : ByteArray).data.toList = [d] from rfl, lib_join]; exact hlen)
  rw [show (⟨#[d]⟩ : ByteArray).data.toList = [d] from rfl, lib_join] at h
  exact h
end Go.Proofs.YtjjlodeiejobdaaDoor
