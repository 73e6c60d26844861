/- Chains: Of. Condition: the chain lies there. -/
import Derived.Test.YtbckjgageofldaaGreatZLearnNil38
import Derived.Test.YtbckjgageofldaaGreatZLearnNil37
import Derived.Test.YtbckjgageofldaaGreatZLearnNil16
import Derived.Deep.MidRow
import Derived.Test.YtbckjgageofldaaGreatZLearnNil28
import Derived.Laws.AppendOwn
import Derived.Laws.AppendOwnNone
import Derived.OwnWalk
import Derived.Test.YtbckjgageofldaaGreatZLearnNil10
namespace Go.Proofs.YtbckjgageofldaaGreat
open Go.RowKit
theorem chat_new (w : World) (n : Nat) : ChAt (w.alloc (.cells #[.int .u64 (n : Int), .slice none 0 0] 124)) w.heap.size w.heap.size (.slice none 0 0) ⟨n, []⟩ := ⟨heap_alloc_new w _, ⟨rfl, .inl ⟨rfl, rfl⟩⟩⟩
theorem chat_app {w w1 w' : World} {base p x : Nat} {v : Value} {C : ChV} {a4 : Option Addr} {n4 c4 : Nat} (h : ChAt w base p v C) (hb : Below w.heap.size w w1) (hg : w1.grownBy w' v.ownBlock) (ho : OwnB w' base 24 (.slice a4 n4 c4) (C.D ++ [UInt8.ofNat x])) :
  ChAt (w'.setCell ⟨p, 1, none⟩ (.slice a4 n4 c4)) base p (.slice a4 n4 c4) (C.push (UInt8.ofNat x)) := by
 have hr := grown_row h hb hg
 refine ⟨?_, OwnB.setNe ho (own_ne ho hr)⟩
 rw [heap_setCell_same _ _ _ _ _ _ hr]
 rfl
set_option maxRecDepth 100000 in
set_option maxHeartbeats 16000000 in
theorem chof_bad (top : Nat) (t : List UInt8) (htop : top < 18446744073709551616) (hlen : t.length ≤ 1000000) (hbad : ¬ (top ≤ 4611686018427387904 ∧ t.length = min (top + 1) 3)) (w : World) :
  Calls Tryz.prog 90 #[.int .u64 (top : Int), .string ⟨t.toArray⟩] w fun e w' => e = .returned (.tuple #[.pointer none, .int .i64 2]) ∧ Below w.heap.size w w' := by
 by_cases h1 : top ≤ 4611686018427387904
 ·
  have h1' : ((4611686018427387904 : Int) < (top : Int)) = False := by rw [eq_iff_iff, iff_false]; omega
  have h2 : t.length ≠ min (top + 1) 3 := fun e => hbad ⟨h1, e⟩
  have hw1 : IntKind.u64.wrap ((top : Int) + 1) = (top : Int) + 1 := by rw [IntKind.wrap_u64]; omega
  have hw2 : IntKind.u64.wrap (t.length : Int) = (t.length : Int) := by rw [IntKind.wrap_u64]; omega
  have hmn : ((t.length : Int) != min ((top : Int) + 1) 3) = true := by rw [bne_iff_ne]; omega
  have hlit : t.toArray.size = t.length := rfl
  clear h1 h2 hbad htop hlen
  go_enter Tryz.func90, Tryz.ntmps90
  go_wp2_with fail
  refine bodyPost_ret (v := .tuple #[.pointer none, .int .i64 2]) (by simp [results, Tryz.results90, go_sem]) rfl ?_
  exact ⟨rfl, Below.refl _ _⟩
 ·
  have h1' : ((4611686018427387904 : Int) < (top : Int)) = True := by rw [eq_iff_iff, iff_true]; omega
  clear h1 hbad htop hlen
  go_enter Tryz.func90, Tryz.ntmps90
  go_wp2_with fail
  refine bodyPost_ret (v := .tuple #[.pointer none, .int .i64 2]) (by simp [results, Tryz.results90, go_sem]) rfl ?_
  exact ⟨rfl, Below.refl _ _⟩
def OfP (w : World) (low : Nat) (t : List UInt8) (e : Ending) (w' : World) : Prop := Below w.heap.size w w' ∧ (t.all dirOk = true → ∃ p v, e = .returned (.tuple #[.pointer (some ⟨p, 0, none⟩), .int .i64 0]) ∧ ChAt w' w.heap.size p v ⟨low, t⟩ ∧ w.heap.size ≤ p) ∧ (t.all dirOk = false → e = .returned (.tuple #[.pointer none, .int .i64 2]))
theorem all_take {t : List UInt8} {i : Nat} (hi : i < t.length) : (t.take (i + 1)).all dirOk = ((t.take i).all dirOk && dirOk t[i]) := by
 rw [List.take_succ_eq_append_getElem hi, List.all_append]
 simp
set_option maxRecDepth 100000 in
set_option maxHeartbeats 16000000 in
theorem chof_good (top : Nat) (t : List UInt8) (h1 : top ≤ 4611686018427387904) (h2 : t.length = min (top + 1) 3) (w : World) :
  Calls Tryz.prog 90 #[.int .u64 (top : Int), .string ⟨t.toArray⟩] w fun e w' => OfP w (top + 1 - t.length) t e w' := by
 obtain ⟨i0, hi00, hz0, hs0, hb0⟩ := info_parts infoSet
 have h1' : ((4611686018427387904 : Int) < (top : Int)) = False := by rw [eq_iff_iff, iff_false]; omega
 have hw1 : IntKind.u64.wrap ((top : Int) + 1) = (top : Int) + 1 := by rw [IntKind.wrap_u64]; omega
 have hw2 : IntKind.u64.wrap (t.length : Int) = (t.length : Int) := by rw [IntKind.wrap_u64]; omega
 have hmn : ((t.length : Int) != min ((top : Int) + 1) 3) = false := by rw [bne_eq_false_iff_eq]; omega
 have hw3 : IntKind.u64.wrap ((top : Int) + 1 - (t.length : Int)) = ((top + 1 - t.length : Nat) : Int) := by rw [IntKind.wrap_u64]; omega
 have Hl3 := Lib.hid (show t.length ≤ 3 by omega)
 have hc0 := Lib.hid (chat_new w (top + 1 - t.length))
 clear h1 h2
 generalize top + 1 - t.length = low at *
 go_enter Tryz.func90, Tryz.ntmps90
 go_wp2_with fail
 change Code.wp _ _ _ _ (w.alloc (.cells #[.int .u64 (low : Int), .slice none 0 0] 124))
 have Hb1 := Lib.hid ((Below.refl w.heap.size w).alloc (Nat.le_refl _) (.cells #[.int .u64 (low : Int), .slice none 0 0] 124))
 clear h1' hw1 hw2 hw3 hmn
 generalize w.alloc (.cells #[.int .u64 (low : Int), .slice none 0 0] 124) = w1 at *
 go_loopw [7, 8, 30] (fun _ _ s30 wr => ∃ (i : Nat) (v : Value), i ≤ t.length ∧ s30 = .int .i64 (i : Int) ∧ (t.take i).all dirOk = true ∧ ChAt wr w.heap.size w.heap.size v ⟨low, t.take i⟩ ∧ Below w.heap.size w wr) (fun _ _ s30 _ => t.length - (intOf s30).toNat)
 case atStart => exact ⟨0, _, by omega, rfl, rfl, hc0.out, Hb1.out⟩
 case round =>
  obtain ⟨i, v, hi, rfl, hall, hc, hb⟩ := hrel
  have Hall := Lib.hid hall; clear hall
  have Hc := Lib.hid hc
  have Hb := Lib.hid hb; clear hb
  by_cases hlt : i < t.length
  ·
   have hlt' : (i : Int) < (t.length : Int) := by omega
   have hi0 : ¬ (i : Int) < 0 := by omega
   have hsucc := tsucc (n := i) (by have := Hl3.out; omega)
   obtain ⟨x, hx⟩ : ∃ x, (⟨t.toArray⟩ : ByteArray)[i]'hlt = x := ⟨_, rfl⟩
   have hx2 : t[i] = x := hx
   have hx8 : UInt8.ofNat x.toNat = x := by simp
   have hd := fun y : World => directory_any x.toNat x.toNat_lt y
   rw [hx8] at hd
   have hstep := all_take hlt
   have htk : t.take (i + 1) = t.take i ++ [t[i]] := (List.take_append_getElem hlt).symm
   rw [hx2] at hstep htk
   rw [Hall.out, Bool.true_and] at hstep
   by_cases hok : dirOk x = true
   ·
    rw [hok] at hd hstep
    have Hd := Lib.hid hd; clear hd
    have f1 := hc.cells.2
    have e1 := hc.thawed 1
    have Htk := Lib.hid (And.intro htk hstep); clear htk hstep hx2 hok
    have hone := fun y : World => ReadB.one y x 24
    have Hone := Lib.hid hone; clear hone
    have Hln := Lib.hid (show (t.take i).length ≤ 3 by rw [List.length_take]; have := Hl3.out; omega)
    clear hc
    go_wp2_with (first
     | ((with_reducible refine (Hd.out _).mono ?_); rintro e w2 ⟨rfl, rfl⟩)
     | (at_builtin; refine wpList_append_read rfl _ _ 122 rfl w.heap.size 24 i0 (.int .u8 0) Tryz.underlying122 hi00 hz0 hs0 hb0 rfl _ _ _ rfl (World.ownsRow.alloc Hc.out.own _) _ _ rfl (Hone.out _) (by show (t.take i).length + 1 ≤ _; have := Hln.out; omega) (by simp; have := Hb.out.size; omega) ?_; intro v4 w4 ho4 hg4; have ho5 := OwnB.of (l := t.take i) (k := [x]) ho4 rfl rfl; clear ho4; obtain ⟨a4, n4, c4, rfl⟩ := ho5.read.slice; have hr4 := grown_row Hc.out ((Below.refl _ wr).alloc (Nat.le_refl _) _) hg4; clear f1 e1; have f1 := cell_of_row _ _ 1 _ _ _ hr4; have e1 := thawed_row 1 hr4; have H4 := Lib.hid (And.intro hr4 (And.intro ho5 hg4)); clear hr4 ho5 hg4))
    go_roundw
    case rel =>
     obtain ⟨hr4, ho4, hg4⟩ := H4.out
     refine ⟨i + 1, .slice a4 n4 c4, hlt, rfl, Htk.out.2, ?_, ?_⟩
     ·
      have h := chat_app (x := x.toNat) Hc.out ((Below.refl _ wr).alloc (Nat.le_refl _) _) hg4 (by rw [hx8]; exact ho4)
      unfold ChV.push at h
      rw [hx8] at h
      rw [Htk.out.1]
      exact h
     ·
      exact below_setV (below_grown hg4 (Hb.out.alloc Hb.out.size _) (by simp; have := Hb.out.size; omega) (fun q hq => (World.ownsRow.lt Hc.out.own q hq).1)) (Nat.le_refl _)
    case measure => simp [intOf]; omega
   ·
    rw [Bool.not_eq_true] at hok
    rw [hok] at hd
    have Hd := Lib.hid hd; clear hd
    have hno : ¬ t.all dirOk = true := by
     intro ha
     rw [List.all_eq_true] at ha
     have := ha t[i] (List.getElem_mem hlt)
     rw [hx2, hok] at this
     cases this
    have Hno := Lib.hid hno; clear hno
    clear hstep htk hx2 hok hc
    go_wp2_with ((with_reducible refine (Hd.out _).mono ?_); rintro e w2 ⟨rfl, rfl⟩)
    refine bodyPost_ret (v := .tuple #[.pointer none, .int .i64 2]) (by simp [results, Tryz.results90, go_sem]) rfl ?_
    exact ⟨Hb.out, fun h => absurd h Hno.out, fun _ => rfl⟩
  ·
   have hlt' : ¬ (i : Int) < (t.length : Int) := by omega
   have hi7 : i = t.length := by omega
   subst hi7
   have hall := Hall.out
   have hc := Hc.out
   rw [List.take_length] at hc hall
   have Hc := Lib.hid hc
   have Ha := Lib.hid hall
   clear hc hall
   clear Hall Hl3
   go_wp2_with fail
   refine bodyPost_ret (v := .tuple #[.pointer (some ⟨w.heap.size, 0, none⟩), .int .i64 0]) (by simp [results, Tryz.results90, go_sem]) rfl ?_
   exact ⟨Hb.out, fun _ => ⟨_, _, rfl, Hc.out, Nat.le_refl _⟩, fun h => absurd (h.symm.trans Ha.out) (by decide)⟩
theorem chof_any (top : Nat) (t : List UInt8) (htop : top < 18446744073709551616) (hlen : t.length ≤ 1000000) (w : World) :
  Calls Tryz.prog 90 #[.int .u64 (top : Int), .string ⟨t.toArray⟩] w fun e w' => Below w.heap.size w w' ∧ match chOf top t with
   | some C => ∃ p v, e = .returned (.tuple #[.pointer (some ⟨p, 0, none⟩), .int .i64 0]) ∧ ChAt w' w.heap.size p v C ∧ w.heap.size ≤ p
   | none => e = .returned (.tuple #[.pointer none, .int .i64 2]) := by
 unfold chOf
 by_cases h : top ≤ 4611686018427387904 ∧ t.length = min (top + 1) 3
 ·
  refine (chof_good top t h.1 h.2 w).mono ?_
  rintro e w' ⟨hb, h2⟩
  refine ⟨hb, ?_⟩
  by_cases ha : t.all dirOk = true
  ·
   rw [if_pos ⟨h, ha⟩]
   exact h2.1 ha
  ·
   rw [if_neg (fun q => ha q.2)]
   exact h2.2 (by simpa using ha)
 ·
  refine (chof_bad top t htop hlen h w).mono ?_
  rintro e w' ⟨rfl, hb⟩
  refine ⟨hb, ?_⟩
  rw [if_neg (fun q => h q.1)]
end Go.Proofs.YtbckjgageofldaaGreat
namespace Go.Proofs.YtbckjgageofldaaGreat
open Go.RowKit
theorem diff_calls {A B : MacV} (hA : MacAll A) (hB : MacAll B) (hall : A.all = B.all) {X Y : Tr} {w : World} (hX : TreeAt w X) (hY : TreeAt w Y) (hsX : X.sh = A.sh) (hsY : Y.sh = B.sh) :
  Calls Tryz.prog 76 #[macV A X.ptr, macV B Y.ptr] w fun e w' => e = .returned (.tuple #[.string ⟨(diffM A B).toArray⟩, .int .i64 0]) ∧ Below w.heap.size w w' := by
 have h := ddiff_any A B X Y hA.fit hB.fit w hX hY hsX hsY
 rw [if_pos hall, if_pos hall] at h
 exact h
end Go.Proofs.YtbckjgageofldaaGreat
namespace Go.Proofs.YtbckjgageofldaaGreat
open Go.RowKit
set_option maxHeartbeats 4000000 in
theorem left_any (s : List UInt8) (g : Nat) (w : World) (h : RdAt w g ⟨0, s⟩) :
  Calls Tryz.prog 91 #[.pointer (some ⟨g, 0, none⟩)] w fun e w' => e = .returned (.int .i64 (s.length : Int)) ∧ w = w' := by
 have hf : Calls Tryz.prog 151 #[.pointer (some ⟨g, 0, none⟩)] w fun e w' => e = .returned (.bool false) ∧ w = w' := by simpa using failed_any ⟨0, s⟩ g w h
 have Hf := Lib.hid hf; clear hf
 have f1 := h.cells.2
 clear h
 go_enter Tryz.func91, Tryz.ntmps91
 go_wp2_with ((with_reducible refine Hf.out.mono ?_); rintro e w2 ⟨rfl, rfl⟩)
 go_ret
 exact ⟨rfl, rfl⟩
def endsB (t : List UInt8) (d : Nat) : Bool := t.getLast?.any (fun b => decide (b.toNat = d))
set_option maxHeartbeats 4000000 in
theorem ends_any (t : List UInt8) (ht : t.length ≤ 1000000) (d : Nat) (w : World) :
  Calls Tryz.prog 43 #[.string ⟨t.toArray⟩, .int .u8 (d : Int)] w fun e w' => e = .returned (.bool (endsB t d)) ∧ w' = w := by
 by_cases h0 : t = []
 ·
  subst h0
  go_enter Tryz.func43, Tryz.ntmps43
  go_wp2_with fail
  go_ret
  exact ⟨rfl, rfl⟩
 ·
  have hl : 0 < t.length := List.length_pos_iff.2 h0
  have hlt : t.length - 1 < t.length := by omega
  obtain ⟨x, hx⟩ : ∃ x, (⟨t.toArray⟩ : ByteArray)[t.length - 1]'hlt = x := ⟨_, rfl⟩
  have hx2 : t[t.length - 1] = x := hx
  have hE : endsB t d = decide (x.toNat = d) := by
   unfold endsB
   rw [List.getLast?_eq_getElem?, List.getElem?_eq_getElem hlt, hx2]
   rfl
  rw [hE]
  have hne : t.isEmpty = false := by simpa using h0
  have heq : ((x.toNat : Int) == (d : Int)) = decide (x.toNat = d) := by rw [Bool.eq_iff_iff, beq_iff_eq, decide_eq_true_iff]; omega
  have hix : IntKind.i64.wrap ((t.length : Int) - 1) = ((t.length - 1 : Nat) : Int) := by rw [IntKind.wrap_i64]; omega
  clear hE hx2
  go_enter Tryz.func43, Tryz.ntmps43
  go_wp2_with fail
  go_ret
  exact ⟨rfl, rfl⟩
structure BsV where
 M : MacV
 P : Option Addr
 top : Nat
 t : List UInt8
def bsCells (b : BsV) : List Value := macCells b.M b.P ++ [.int .u64 (b.top : Int), .string ⟨b.t.toArray⟩]
def bsV (b : BsV) : Value := .agg (bsCells b).toArray
def BsAt (w : World) (g : Nat) (b : BsV) : Prop := w.heap[g]? = some (.cells (bsCells b).toArray 110 (0, 0))
theorem bs_eta (b : BsV) : (bsCells b).toArray = #[.int .u8 (b.M.all : Int), .int .u8 (b.M.mem : Int), .int .u32 (b.M.tab.a.seq.toNat : Int), .int .u8 (b.M.tab.a.code : Int), .string b.M.tab.a.text, .int .u32 (b.M.tab.b.seq.toNat : Int), .int .u8 (b.M.tab.b.code : Int), .string b.M.tab.b.text, .int .u32 (b.M.tab.c.seq.toNat : Int), .int .u8 (b.M.tab.c.code : Int), .string b.M.tab.c.text, .int .u32 (b.M.tab.d.seq.toNat : Int), .int .u8 (b.M.tab.d.code : Int), .string b.M.tab.d.text, .pointer b.P, .int .u64 (b.top : Int), .string ⟨b.t.toArray⟩] := rfl
theorem BsAt.lt {w : World} {g : Nat} {b : BsV} (h : BsAt w g b) : g < w.heap.size := (Array.getElem?_eq_some_iff.1 h).1
theorem BsAt.below {w w' : World} {g : Nat} {b : BsV} (h : BsAt w g b) (hb : Below w.heap.size w w') : BsAt w' g b := (hb.block g h.lt).trans h
theorem BsAt.cells {w : World} {g : Nat} {b : BsV} (h : BsAt w g b) : w.cell? ⟨g, 0, none⟩ = some (.int .u8 (b.M.all : Int)) ∧ w.cell? ⟨g, 1, none⟩ = some (.int .u8 (b.M.mem : Int)) ∧ w.cell? ⟨g, 2, none⟩ = some (.int .u32 (b.M.tab.a.seq.toNat : Int)) ∧ w.cell? ⟨g, 3, none⟩ = some (.int .u8 (b.M.tab.a.code : Int)) ∧ w.cell? ⟨g, 4, none⟩ = some (.string b.M.tab.a.text) ∧ w.cell? ⟨g, 5, none⟩ = some (.int .u32 (b.M.tab.b.seq.toNat : Int)) ∧ w.cell? ⟨g, 6, none⟩ = some (.int .u8 (b.M.tab.b.code : Int)) ∧ w.cell? ⟨g, 7, none⟩ = some (.string b.M.tab.b.text) ∧ w.cell? ⟨g, 8, none⟩ = some (.int .u32 (b.M.tab.c.seq.toNat : Int)) ∧ w.cell? ⟨g, 9, none⟩ = some (.int .u8 (b.M.tab.c.code : Int)) ∧ w.cell? ⟨g, 10, none⟩ = some (.string b.M.tab.c.text) ∧ w.cell? ⟨g, 11, none⟩ = some (.int .u32 (b.M.tab.d.seq.toNat : Int)) ∧ w.cell? ⟨g, 12, none⟩ = some (.int .u8 (b.M.tab.d.code : Int)) ∧ w.cell? ⟨g, 13, none⟩ = some (.string b.M.tab.d.text) ∧ w.cell? ⟨g, 14, none⟩ = some (.pointer b.P) ∧ w.cell? ⟨g, 15, none⟩ = some (.int .u64 (b.top : Int)) ∧ w.cell? ⟨g, 16, none⟩ = some (.string ⟨b.t.toArray⟩) :=
 ⟨cell_of_row _ _ _ _ _ _ h, cell_of_row _ _ _ _ _ _ h, cell_of_row _ _ _ _ _ _ h, cell_of_row _ _ _ _ _ _ h, cell_of_row _ _ _ _ _ _ h, cell_of_row _ _ _ _ _ _ h, cell_of_row _ _ _ _ _ _ h, cell_of_row _ _ _ _ _ _ h, cell_of_row _ _ _ _ _ _ h, cell_of_row _ _ _ _ _ _ h, cell_of_row _ _ _ _ _ _ h, cell_of_row _ _ _ _ _ _ h, cell_of_row _ _ _ _ _ _ h, cell_of_row _ _ _ _ _ _ h, cell_of_row _ _ _ _ _ _ h, cell_of_row _ _ _ _ _ _ h, cell_of_row _ _ _ _ _ _ h⟩
theorem base_size : (Tryz.prog.info? 110).map (·.size) = some 17 := by kernel_rfl
theorem bs_loadVar {y : World} {g : Nat} {b : BsV} (h : BsAt y g b) : (loadVar 110 ⟨g, 0, none⟩).run Tryz.prog y = .ok (bsV b) y :=
 run_loadVar_row y g _ _ (bsCells b).toArray (0, 0) _ h Tryz.underlying110 rfl base_size
theorem bs_loadMid {y : World} {g o : Nat} {b : BsV} (h : y.rangeAt g o (bsCells b)) : (loadVar 110 ⟨g, o, none⟩).run Tryz.prog y = .ok (bsV b) y :=
 run_loadVar_mid y g o _ (bsCells b) _ h Tryz.underlying110 rfl base_size
end Go.Proofs.YtbckjgageofldaaGreat
namespace Go.Proofs.YtbckjgageofldaaGreat
open Go.RowKit
set_option maxRecDepth 100000 in
set_option maxHeartbeats 8000000 in
theorem btext_any (b : BsV) (T : Tr) (hM : MacFit b.M) (ht : b.t.length ≤ 1000000) (hP : b.P = T.ptr) (w : World) (hat : TreeAt w T) (hsh : T.sh = b.M.sh) :
  Calls Tryz.prog 41 #[bsV b] w fun e w' => e = .returned (.string ⟨(textB b.t b.M).toArray⟩) ∧ Below w.heap.size w w' := by
 have hb1 := (Below.refl w.heap.size w).alloc (Nat.le_refl _) (.cells (bsCells b).toArray 110)
 have hm1 : BsAt (w.alloc (.cells (bsCells b).toArray 110)) w.heap.size b := heap_alloc_new _ _
 have hB : ∀ y : World, Below w.heap.size w y → Calls Tryz.prog 19 #[macV b.M b.P] y fun e w' => e = .returned (.string ⟨(macB b.M).toArray⟩) ∧ Below y.heap.size y w' := fun y hy => by
  rw [hP]
  exact mbytes_any b.M T (macFit_by hM) y (hat.below hy) hsh
 have HB := Lib.hid hB
 have Ht := Lib.hid ht
 have hE : (textB b.t b.M) = strL ⟨b.t.toArray⟩ ++ macB b.M := by
  unfold textB strL
  rfl
 have HE := Lib.hid hE
 have hlim : ¬ 9223372036854775807 < (strL ⟨b.t.toArray⟩).length + (macB b.M).length := by
  have h1 := strL_len ⟨b.t.toArray⟩
  have h2 : (⟨b.t.toArray⟩ : ByteArray).size = b.t.length := rfl
  have h3 := macHead_len (macFit_by hM)
  have h4 := pairsB_len b.M.sh.kv (macFit_by hM).kv
  have h5 := hM.kv.num
  rw [cnt_kv] at h5
  unfold macB
  rw [List.length_append]
  omega
 clear hB ht hE hM hP hat hsh
 unfold bsV
 rw [bs_eta] at hb1 hm1 ⊢
 go_enter Tryz.func41, Tryz.ntmps41
 go_upto_region 1 with fail
 have Hm1 := Lib.hid (show BsAt _ _ _ from hm1)
 have Hb1 := Lib.hid hb1
 rw [← bs_eta] at Hm1 Hb1
 clear hm1 hb1
 simp only [← bs_eta]
 change Code.wp _ _ _ _ (w.alloc (.cells (bsCells b).toArray 110))
 generalize w.alloc (.cells (bsCells b).toArray 110) = w1 at *
 refine (wpIn_wide (n := 1)).1 ?_
 refine RegJ.wpIn_region_plan (F := Fence.wide) (KeptW w1) (.step 0 0 (.step 1 0 (.step 4 0 (.step 5 0 (.step 2 1 (.step 3 0 (.step 6 1 (.step 7 0 (.step 8 0 .nil))))))))) (by kernel_rfl) (by kernel_rfl) (by kernel_rfl) (fun _ _ d _ _ h => by cases d <;> exact h) ⟨rfl, rfl, rfl, Nat.le_refl _, fun _ _ => rfl⟩ ?_
 dsimp only [RegJ.pickJ, List.getElem?_cons_zero, List.getElem?_cons_succ]
 change RegJ.Can _ _ _ _ _ _ _ _ w1.drew
 have hkd : KeptW w1 w1.drew := ⟨rfl, rfl, rfl, Nat.le_refl _, fun _ _ => rfl⟩
 have hkp := hkd
 generalize w1.drew = v1 at *
 refine RegJ.reads ?_
 intro K hK
 go_simp
 (first | refine ⟨_, fun _ _ => rfl, hK _ ?_⟩ | refine hK _ ?_)
 clear hK K
 refine RegJ.reads ?_
 intro K hK
 go_simp
 refine ⟨.string ⟨b.t.toArray⟩, fun y hy => ?_, hK _ ?_⟩
 ·
  have f0 : y.cell? ⟨w.heap.size, 16, none⟩ = some (.string ⟨b.t.toArray⟩) := cell_of_row _ _ _ _ _ _ (Hm1.out.below (KeptW.bel hy))
  go_simp
 clear hK K
 refine RegJ.reads ?_
 intro K hK
 go_simp
 (first | refine ⟨_, fun _ _ => rfl, hK _ ?_⟩ | refine hK _ ?_)
 clear hK K
 refine RegJ.reads ?_
 intro K hK
 go_simp
 refine ⟨macV b.M b.P, fun y hy => ?_, hK _ ?_⟩
 ·
  unfold macV
  rw [mac_eta]
  obtain ⟨m0, m1, m2, m3, m4, m5, m6, m7, m8, m9, m10, m11, m12, m13, m14, m15, m16⟩ := (Hm1.out.below (KeptW.bel hy)).cells
  go_simp
 clear hK K
 refine RegJ.turns (fun _ => trivial) ?_
 intro K K0 hK hK0
 go_simp
 refine ⟨trivial, ?_⟩
 refine (callsIn_wide.2 (str_any _ [] ⟨b.t.toArray⟩ (by show 0 + b.t.length ≤ _; have := Ht.out; omega) v1 (ReadB.nil _))).mono ?_
 rintro e x1 ⟨v2, rfl, ho2, hb7⟩
 have x1k : KeptW w1 x1 := KeptW.mono hkd hb7
 have x1p : KeptW w1 x1 := KeptW.mono hkp hb7
 refine hK (KeptW x1) _ x1 (fun y hy => KeptW.mono x1p (KeptW.bel hy)) (KeptW.refl x1) ?_
 clear hK K hK0 K0 hb7
 have Hro := Lib.hid ho2.read
 clear ho2
 obtain ⟨a2, n2, c2, rfl⟩ := Hro.out.slice
 have x1r := KeptW.refl x1
 refine RegJ.reads ?_
 intro K hK
 go_simp
 refine ⟨.string ⟨(strL ⟨b.t.toArray⟩).toArray⟩, fun y hy => ?_, hK _ ?_⟩
 ·
  have hcv := (Hro.out.below (KeptW.bel hy)).conv Tryz.underlying44 Tryz.underlying5 Tryz.underlying9
  rw [List.nil_append] at hcv
  go_simp
 clear hK K
 refine RegJ.turns (fun _ => trivial) ?_
 intro K K0 hK hK0
 go_simp
 refine ⟨trivial, ?_⟩
 refine (callsIn_wide.2 (HB.out _ (Hb1.out.trans ((KeptW.bel x1k).mono Hb1.out.size)))).mono ?_
 rintro e x2 ⟨rfl, hb7⟩
 have x2k : KeptW w1 x2 := KeptW.mono x1k hb7
 have x2p : KeptW x1 x2 := KeptW.mono x1r hb7
 refine hK (KeptW x2) _ x2 (fun y hy => KeptW.mono x2p (KeptW.bel hy)) (KeptW.refl x2) ?_
 clear hK K hK0 K0 hb7
 have x2r := KeptW.refl x2
 refine RegJ.reads ?_
 intro K hK
 go_simp
 (first | refine ⟨_, fun _ _ => rfl, hK _ ?_⟩ | refine hK _ ?_)
 clear hK K
 refine RegJ.reads ?_
 intro K hK
 go_simp
 (first | refine ⟨_, fun _ _ => rfl, hK _ ?_⟩ | refine hK _ ?_)
 clear hK K
 refine RegJ.nil ?_
 go_wp2_with fail
 go_ret
 refine ⟨?_, Hb1.out.trans ((KeptW.bel x2k).mono Hb1.out.size)⟩
 rw [HE.out]
 exact congrArg (fun s => Ending.returned (Value.string s)) (str_app _ _)
end Go.Proofs.YtbckjgageofldaaGreat
namespace Go.Proofs.YtbckjgageofldaaGreat
open Go.RowKit
set_option maxRecDepth 100000 in
set_option maxHeartbeats 16000000 in
theorem ltext_any (M : MacV) (P : Option Addr) (T : Tr) (hM : MacFit M) (hP : P = T.ptr) (base p : Nat) (v : Value) (C : ChV) (hD : 0 < C.D.length) (hsz : C.D.length ≤ 1000000) (w : World) (hc : ChAt w base p v C) (hat : TreeAt w T) (hsh : T.sh = M.sh) :
  Calls Tryz.prog 25 #[.pointer (some ⟨p, 0, none⟩), macV M P] w fun e w' => e = .returned (.string ⟨(textB C.tail M).toArray⟩) ∧ Below w.heap.size w w' := by
 have hb1 := (Below.refl w.heap.size w).alloc (Nat.le_refl _) (.cells (macCells M P).toArray 38)
 have hm1 : MacAt (w.alloc (.cells (macCells M P).toArray 38)) w.heap.size M P := heap_alloc_new _ _
 have htl : C.tail.length ≤ 1000000 := by have := tail_len C; omega
 have hB : ∀ y : World, Below w.heap.size w y → Calls Tryz.prog 41 #[bsV ⟨M, P, 0, C.tail⟩] y fun e w' => e = .returned (.string ⟨(textB C.tail M).toArray⟩) ∧ Below y.heap.size y w' := fun y hy =>
  btext_any ⟨M, P, 0, C.tail⟩ T hM htl hP y (hat.below hy) hsh
 have hT : ∀ y : World, Below w.heap.size w y → Calls Tryz.prog 42 #[.pointer (some ⟨p, 0, none⟩)] y fun e w' => e = .returned (.string ⟨C.tail.toArray⟩) ∧ Below y.heap.size y w' := fun y hy => chtail_any base p v C hD hsz y (hc.below hy)
 have HB := Lib.hid hB
 have HT := Lib.hid hT
 clear hB hT htl hM hP hat hsh hc hD hsz
 generalize C.tail = tl at *
 unfold macV
 rw [mac_eta] at hb1 hm1 ⊢
 go_enter Tryz.func25, Tryz.ntmps25
 go_upto_region 1 with fail
 rw [← mac_eta] at hm1 hb1
 have Hm1 := Lib.hid hm1
 have Hb1 := Lib.hid hb1
 clear hm1 hb1
 simp only [← mac_eta]
 change Code.wp _ _ _ _ (w.alloc (.cells (macCells M P).toArray 38))
 generalize w.alloc (.cells (macCells M P).toArray 38) = w1 at *
 refine (wpIn_wide (n := 1)).1 ?_
 refine RegJ.wpIn_region_plan (F := Fence.wide) (KeptW w1) (.step 0 0 (.step 1 0 (.step 2 1 (.step 3 0 (.step 4 1 (.step 5 0 .nil)))))) (by kernel_rfl) (by kernel_rfl) (by kernel_rfl) (fun _ _ d _ _ h => by cases d <;> exact h) ⟨rfl, rfl, rfl, Nat.le_refl _, fun _ _ => rfl⟩ ?_
 dsimp only [RegJ.pickJ, List.getElem?_cons_zero, List.getElem?_cons_succ]
 change RegJ.Can _ _ _ _ _ _ _ _ w1.drew
 have hkd : KeptW w1 w1.drew := ⟨rfl, rfl, rfl, Nat.le_refl _, fun _ _ => rfl⟩
 generalize w1.drew = v1 at *
 refine RegJ.reads ?_
 intro K hK
 go_simp
 refine ⟨.agg #[.int .u8 (M.all : Int), .int .u8 (M.mem : Int), .int .u32 (M.tab.a.seq.toNat : Int), .int .u8 (M.tab.a.code : Int), .string M.tab.a.text, .int .u32 (M.tab.b.seq.toNat : Int), .int .u8 (M.tab.b.code : Int), .string M.tab.b.text, .int .u32 (M.tab.c.seq.toNat : Int), .int .u8 (M.tab.c.code : Int), .string M.tab.c.text, .int .u32 (M.tab.d.seq.toNat : Int), .int .u8 (M.tab.d.code : Int), .string M.tab.d.text, .pointer P], fun y hy => ?_, hK _ ?_⟩
 ·
  obtain ⟨⟨m0, m1, m14⟩, ⟨m2, m3, m4⟩, ⟨m5, m6, m7⟩, ⟨m8, m9, m10⟩, ⟨m11, m12, m13⟩⟩ := (Hm1.out.below (KeptW.bel hy)).cells
  go_simp
 clear hK K
 refine RegJ.reads ?_; intro K hK; go_simp; (first | refine ⟨_, fun _ _ => rfl, hK _ ?_⟩ | refine hK _ ?_); clear hK K
 refine RegJ.turns (fun _ => trivial) ?_
 intro K K0 hK hK0
 go_simp
 refine ⟨trivial, ?_⟩
 refine (callsIn_wide.2 (HT.out v1 (Hb1.out.trans ((KeptW.bel hkd).mono Hb1.out.size)))).mono ?_
 rintro e v2 ⟨rfl, hb7⟩
 have v2k : KeptW w1 v2 := KeptW.mono hkd hb7
 refine hK _ _ _ (fun _ h => h) v2k ?_
 clear hK K hK0 K0
 refine RegJ.reads ?_; intro K hK; go_simp; (first | refine ⟨_, fun _ _ => rfl, hK _ ?_⟩ | refine hK _ ?_); clear hK K
 refine RegJ.turns (fun _ => trivial) ?_
 intro K K0 hK hK0
 go_simp
 refine ⟨trivial, ?_⟩
 refine (callsIn_wide.2 ((show Calls Tryz.prog 41 #[bsV ⟨M, P, 0, tl⟩] _ _ from HB.out v2 (Hb1.out.trans ((KeptW.bel v2k).mono Hb1.out.size))))).mono ?_
 rintro e v3 ⟨rfl, hb7⟩
 have v3k : KeptW w1 v3 := KeptW.mono v2k hb7
 refine hK _ _ _ (fun _ h => h) v3k ?_
 clear hK K hK0 K0
 refine RegJ.reads ?_; intro K hK; go_simp; (first | refine ⟨_, fun _ _ => rfl, hK _ ?_⟩ | refine hK _ ?_); clear hK K
 refine RegJ.nil ?_
 go_wp2_with fail
 go_ret
 exact ⟨rfl, Hb1.out.trans ((KeptW.bel v3k).mono Hb1.out.size)⟩
end Go.Proofs.YtbckjgageofldaaGreat
namespace Go.Proofs.YtbckjgageofldaaGreat
open Go.RowKit
section
variable {α : Type} {enc : α → List Value} {k : Nat}
def flat (enc : α → List Value) (z : List α) : List Value := z.flatMap enc
theorem flat_len (hk : ∀ x, (enc x).length = k) : ∀ z : List α, (flat enc z).length = z.length * k
 | [] => by simp [flat]
 | x :: r => by
  have h := flat_len hk r
  unfold flat at *
  rw [List.flatMap_cons, List.length_append, hk, h, List.length_cons, Nat.succ_mul]
  omega
theorem flat_app (z y : List α) : flat enc (z ++ y) = flat enc z ++ flat enc y := by simp [flat]
theorem flat_at (hk : ∀ x, (enc x).length = k) : ∀ (z : List α) (i r : Nat) (x : α) (u : Value), z[i]? = some x → (enc x)[r]? = some u → (flat enc z)[i * k + r]? = some u
 | [], _, _, _, _, h, _ => by simp at h
 | y :: l, 0, r, x, u, h, hu => by
  simp at h
  subst h
  have hr : r < (enc y).length := (List.getElem?_eq_some_iff.1 hu).1
  unfold flat
  rw [List.flatMap_cons, Nat.zero_mul, Nat.zero_add, List.getElem?_append_left hr, hu]
 | y :: l, i + 1, r, x, u, h, hu => by
  simp at h
  have ih := flat_at hk l i r x u h hu
  unfold flat at *
  rw [List.flatMap_cons, List.getElem?_append_right (by rw [hk, Nat.succ_mul]; omega), hk, Nat.succ_mul, show i * k + k + r - k = i * k + r by omega]
  exact ih
theorem flat_get (hk : ∀ x, (enc x).length = k) (hk0 : 0 < k) {z : List α} {j : Nat} {u : Value} (h : (flat enc z)[j]? = some u) : ∃ x, z[j / k]? = some x ∧ (enc x)[j % k]? = some u := by
 have hj : j < z.length * k := by
  have := (List.getElem?_eq_some_iff.1 h).1
  rwa [flat_len hk] at this
 have hi : j / k < z.length := Nat.div_lt_of_lt_mul (by rw [Nat.mul_comm]; exact hj)
 have hr : j % k < (enc z[j / k]).length := by rw [hk]; exact Nat.mod_lt _ hk0
 have e := flat_at hk z (j / k) (j % k) z[j / k] _ (List.getElem?_eq_getElem hi) (List.getElem?_eq_getElem hr)
 rw [show j / k * k + j % k = j by rw [Nat.mul_comm]; exact Nat.div_add_mod j k, h] at e
 cases e
 exact ⟨_, List.getElem?_eq_getElem hi, List.getElem?_eq_getElem hr⟩
theorem flat_one (h1 : ∀ x, ∀ u ∈ enc x, u.oneCell' = true) (z : List α) : ∀ u ∈ flat enc z, u.oneCell' = true := by
 intro u hu
 obtain ⟨x, _, hx⟩ := List.mem_flatMap.1 hu
 exact h1 x u hx
theorem own_slice {w : World} {base : Nat} {e : TypeId} {A : Option Addr} {n c : Nat} {z : List α} (hk : ∀ x, (enc x).length = k) (h : w.ownsRow base e k (.slice A n c) n (flat enc z)) (hz : z.length = n) (hm : n ≤ maxLen) : SliceAt k enc w A n z := by
 obtain ⟨h1, h2⟩ := h
 refine ⟨hz, hm, fun i x hx => ?_⟩
 have hi : i < z.length := (List.getElem?_eq_some_iff.1 hx).1
 rcases h2 with ⟨_, h3⟩ | ⟨g, cap, cur, e1, _, hg, _, _, _, ht⟩
 ·
  omega
 ·
  cases e1
  refine ⟨g, 0, rfl, (Array.getElem?_eq_some_iff.1 hg).1, fun j v hj => ?_⟩
  have e := flat_at hk z i j x v hx hj
  have hlt : i * k + j < n * k := by
   have := (List.getElem?_eq_some_iff.1 e).1
   rwa [flat_len hk, hz] at this
  rw [← ht, List.getElem?_take, if_pos hlt, Array.getElem?_toList] at e
  simp only [World.cell?, hg, Nat.zero_add]
  simpa using e
theorem own_nil {w : World} {base : Nat} {e : TypeId} {A : Option Addr} {n c : Nat} {xs : List Value} (h : w.ownsRow base e k (.slice A n c) n xs) : A = none → n = 0 ∧ c = 0 := by
 rintro rfl
 rcases h.2 with ⟨e1, _⟩ | ⟨g, cap, cur, e1, _⟩
 ·
  cases e1; exact ⟨rfl, rfl⟩
 ·
  cases e1
theorem own_slice_of {w : World} {base : Nat} {e : TypeId} {v : Value} {n : Nat} {xs : List Value} (h : w.ownsRow base e k v n xs) : ∃ A c, v = .slice A n c := by
 rcases h.2 with ⟨rfl, rfl⟩ | ⟨g, cap, cur, rfl, _⟩
 ·
  exact ⟨none, 0, rfl⟩
 ·
  exact ⟨_, _, rfl⟩
theorem wp_append_slice {P : Program} {w : World} {o : Oper} {a : Act} {K : Act → World → Prop} {Q : Exit → Act → World → Prop} (s x : Operand) (t : TypeId)
  (ho : o.op = .call { callee := .builtin .append, args := #[s, x], argTypes := #[t, t] })
  (base : Nat) (e : TypeId) (i : TypeInfo) (z0 : Value) (bytes : Nat) (ht : P.underlying t = some (.slice e)) (hi : P.info? e = some i) (hz : i.zero = some z0)
  (hsize : i.size = k) (hby : i.bytes = bytes) (hzs : z0.cells.size = k) (hk0 : 0 < k) (hk : ∀ x, (enc x).length = k) (h1 : ∀ x, ∀ u ∈ enc x, u.oneCell' = true)
  (v : Value) (n : Nat) (xs : List Value) (hs : a.eval s = v) (hown : w.ownsRow base e k v n xs) (A : Option Addr) (m c : Nat) (z : List α) (hx : a.eval x = .slice A m c) (hsrc : SliceAt k enc w A m z) (hnil : A = none → m = 0 ∧ c = 0)
  (h63 : n + m ≤ maxLen) (hbytes : (n + m) * bytes ≤ 140737488355328) (hbase : base ≤ w.heap.size)
  (h : ∀ v' w', w'.ownsRow base e k v' (n + m) (xs ++ flat enc z) → w.grownBy w' v.ownBlock → K (a.put o.dst v') w') : o.wp P a w K Q := by
 cases A with
 | none =>
  obtain ⟨rfl, rfl⟩ := hnil rfl
  have hz0 : z = [] := List.eq_nil_of_length_eq_zero hsrc.hlen
  subst hz0
  have hrun := run_append_owned_none (P := P) (w := w) base t o.type e i k ht hi v n xs hown
  have hh := h v w (by simpa [flat] using hown) (World.grownBy.refl w _)
  unfold Oper.wp
  simp [execOp, ho, resolve, invoke, builtin, hs, hx, hrun, Result.andThen]
  exact hh
 | some ad =>
  refine wp_append_own w s x t ho base e i z0 k bytes ht hi hz hsize hby hzs hk0 v n xs hs hown ad m c (flat enc z) hx (by rw [flat_len hk, hsrc.hlen]) (fun j u hj => ?_) (flat_one h1 z) h63 hbytes hbase (fun v' w' h3 h4 _ => h v' w' h3 h4)
  obtain ⟨y, hy, hu⟩ := flat_get hk hk0 hj
  obtain ⟨b, o', e1, _, e3⟩ := hsrc.cells _ y hy
  cases e1
  rw [Addr.add_lit, ← e3 _ u hu, show j / k * k + j % k = j by rw [Nat.mul_comm]; exact Nat.div_add_mod j k]
end
end Go.Proofs.YtbckjgageofldaaGreat
