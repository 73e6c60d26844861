/- Machines: MachinePlays, one of its regions. No condition. -/
import Derived.Test.YtbckjgageofldaaGreatZLearnNil16
import Derived.Test.YtbckjgageofldaaGreatZLearnNil44
import Derived.Test.YtbckjgageofldaaGreatZLearnNil5
import Derived.Test.YtbckjgageofldaaGreatZLearnNil42
import Derived.Test.YtbckjgageofldaaGreatZLearnNil24
import Derived.Test.YtbckjgageofldaaGreatZLearnNil22
import Derived.Test.YtbckjgageofldaaGreatZLearnNil4
import Derived.Test.YtbckjgageofldaaGreatZLearnNil18
import Derived.Test.YtbckjgageofldaaGreatZLearnNil28
import Derived.Test.YtbckjgageofldaaGreatZLearnNil38
import Derived.Test.YtbckjgageofldaaGreatZLearnNil40
import Derived.Test.YtbckjgageofldaaGreatZLearnNil41
namespace Go.Proofs.YtbckjgageofldaaGreat
open Go.RowKit
theorem layRef (ρ : Operand → Value) (x : World) (o : Oper) (h : o.op = .alloc 43) : (execOp ρ o).run Tryz.prog x = .ok (.value (RegL.ptr x.heap.size)) (x.alloc (.cells (refCells refNone).toArray 43 (0, 0))) := by
 simp only [execOp, h]
 go_simp
 exact ⟨rfl, rfl⟩
theorem RefAt.row {w : World} {r : RefM} {M : MacV} {z : List KeptV} {g : Nat} {r0 : RefM} (h : RefAt w r M z) (hg : RefRow w g r0) (x : RefM) : RefAt (rowSt w g 0 (refCells x)) r M z :=
 h.stay (rowSt_below (Nat.zero_le _) (refCells x) 0 _ (Below.refl 0 w)).size (fun b o e => rowSt_other ((h.ne hg).1 b o e) _ _ _) (fun b o e => rowSt_other ((h.ne hg).2 b o e) _ _ _)
theorem RefAt.repSt {w : World} {r : RefM} {M : MacV} {z : List KeptV} {g c0 : Nat} {t0 : ByteArray} (h : RefAt w r M z) (hg : RepAt w g c0 t0) (code : Nat) (text : ByteArray) : RefAt (repSt w g code text) r M z :=
 h.stay (repSt_size _ _ _ _) (fun b o e => repSt_other _ ((h.ne2 hg).1 b o e) _ _) (fun b o e => repSt_other _ ((h.ne2 hg).2 b o e) _ _)
end Go.Proofs.YtbckjgageofldaaGreat
namespace Go.Proofs.YtbckjgageofldaaGreat
open Go.RowKit
def ref0 (M : MacV) : RefM := ⟨none, 0, 0, M.all, M.mem, none, 0, 0⟩
theorem refAt0 (M : MacV) (ht : M.tab = tabNone) (hs : M.sh = .nil) (w : World) : RefAt w (ref0 M) M [] :=
 ⟨by rw [hs]; exact pairs_none, ⟨rfl, Nat.zero_le _, fun i x hx => by simp at hx⟩, rfl, rfl, by rw [ht]; exact keptTab_nil, .inl ⟨rfl, rfl, rfl⟩, sty_none _ _, by rw [hs]; exact List.Pairwise.nil, fun _ => ⟨rfl, rfl⟩, sty_none _ _⟩
end Go.Proofs.YtbckjgageofldaaGreat
namespace Go.Proofs.YtbckjgageofldaaGreat
open Go.RowKit
theorem rdir_eq (x : Nat) (hx : x < 256) : dirOk (UInt8.ofNat x) = (decide (x < 128) && decide (0 < x)) := by
 have e : (UInt8.ofNat x).toNat = x := by simp; omega
 unfold dirOk
 rw [e, Bool.and_comm]
set_option maxHeartbeats 4000000 in
theorem rdir_any (x : Nat) (hx : x < 256) (w : World) : Calls Tryz.prog 75 #[.int .u8 (x : Int)] w fun e w' => e = .returned (.bool (dirOk (UInt8.ofNat x))) ∧ w' = w := by
 rw [rdir_eq x hx]
 clear hx
 by_cases h1 : x < 128
 ·
  have h1' : (x : Int) < 128 := by omega
  rw [decide_eq_true h1, Bool.true_and]
  clear h1
  go_enter Tryz.func75, Tryz.ntmps75
  go_wp2_with fail
  go_ret
  exact ⟨rfl, rfl⟩
 ·
  have h1' : ¬ (x : Int) < 128 := by omega
  rw [decide_eq_false h1, Bool.false_and]
  clear h1
  go_enter Tryz.func75, Tryz.ntmps75
  go_wp2_with fail
  go_ret
  exact ⟨rfl, rfl⟩
theorem row2_loadVar {y : World} {g : Nat} {a b : Value} (h : y.heap[g]? = some (.cells #[a, b] 46 (0, 0))) : (loadVar 46 ⟨g, 0, none⟩).run Tryz.prog y = .ok (.agg #[a, b]) y :=
 run_loadVar_row y g _ _ #[a, b] (0, 0) _ h Tryz.underlying46 rfl (by kernel_rfl)
set_option maxHeartbeats 8000000 in
theorem rnew_any (x : Nat) (hx : x < 256) (hok : dirOk (UInt8.ofNat x) = true) (w : World) : Calls Tryz.prog 38 #[.int .u8 (x : Int)] w fun e w' => ∃ v, e = .returned (.tuple #[.agg #[.int .u64 0, v], .int .i64 0]) ∧ OwnB w' w.heap.size 5 v [UInt8.ofNat x] ∧ Below w.heap.size w w' := by
 have hd := fun y : World => rdir_any x hx y
 rw [hok] at hd
 have Hd := Lib.hid hd; clear hd hok
 have hb1 := (Below.refl w.heap.size w).alloc (Nat.le_refl _) (.cells #[.int .u64 0, .slice none 0 0] 46)
 have hr1 := heap_alloc_new w (.cells #[.int .u64 0, .slice none 0 0] 46)
 go_enter Tryz.func38, Tryz.ntmps38
 go_upto_region 3 with ((with_reducible refine (Hd.out _).mono ?_); rintro e w2 ⟨rfl, rfl⟩)
 have Hr1 := Lib.hid hr1
 have Hb1 := Lib.hid hb1
 have Hlt := Lib.hid (show w.heap.size < (w.alloc (.cells #[.int .u64 0, .slice none 0 0] 46)).heap.size by simp)
 clear hr1 hb1 Hd
 generalize w.alloc (.cells #[.int .u64 0, .slice none 0 0] 46) = w1 at *
 have hone := OwnB.one w1 (UInt8.ofNat x) 5
 have hx8 : ((UInt8.ofNat x).toNat : Int) = (x : Int) := by simp; omega
 rw [hx8] at hone
 have hb2 := (Below.refl w1.heap.size w1).alloc (Nat.le_refl _) (.cells #[.int .u8 (x : Int)] 5)
 have hr2 := (hb2.block _ Hlt.out).trans Hr1.out
 have f0 := cell_of_row _ _ 0 _ _ _ hr2
 have f1 := cell_of_row _ _ 1 _ _ _ hr2
 have e0 := thawed_row 0 hr2
 have e1 := thawed_row 1 hr2
 have Hr2 := Lib.hid hr2
 have Hone := Lib.hid hone
 have Hb2 := Lib.hid (Hb1.out.trans (hb2.mono Hb1.out.size))
 have Hsz := Lib.hid Hb1.out.size
 clear hr2 hone hb2 hx8
 go_wp2_with fail
 generalize w1.alloc (.cells #[.int .u8 (x : Int)] 5) = w4 at *
 have hne : ∀ k, (Value.slice (some ⟨w1.heap.size, 0, none⟩) 1 1).ownBlock = some k → k ≠ w.heap.size := by
  intro k hk e
  have e2 : w1.heap.size = k := Option.some.inj hk
  have := Hlt.out
  omega
 have HZ := Lib.hid (show ((w4.setCell ⟨w.heap.size, 0, none⟩ (.int .u64 0)).setCell ⟨w.heap.size, 1, none⟩ (.slice (some ⟨w1.heap.size, 0, none⟩) 1 1)).heap[w.heap.size]? = some (.cells #[.int .u64 0, .slice (some ⟨w1.heap.size, 0, none⟩) 1 1] 46 (0, 0)) by
  rw [heap_setCell_same _ _ _ _ _ _ (heap_setCell_same _ _ _ _ _ _ Hr2.out)]
  rfl)
 refine bodyPost_ret (v := .tuple #[.agg #[.int .u64 0, .slice (some ⟨w1.heap.size, 0, none⟩) 1 1], .int .i64 0]) (by simp [results, Tryz.results38, show (asAddr (Value.pointer (some ⟨w.heap.size, 0, none⟩))).run Tryz.prog ((w4.setCell ⟨w.heap.size, 0, none⟩ (.int .u64 0)).setCell ⟨w.heap.size, 1, none⟩ (.slice (some ⟨w1.heap.size, 0, none⟩) 1 1)) = .ok ⟨w.heap.size, 0, none⟩ _ from rfl, row2_loadVar HZ.out]) rfl ?_
 exact ⟨_, rfl, ((Hone.out.mono Hsz.out).setNe hne).setNe hne, below_setV (below_setV Hb2.out (Nat.le_refl _)) (Nat.le_refl _)⟩
end Go.Proofs.YtbckjgageofldaaGreat
namespace Go.Proofs.YtbckjgageofldaaGreat
open Go.RowKit
structure Sorts (ts : List TypeId) (n : Nat) (w w' : World) : Prop where
 os : w'.os = w.os
 tape : w'.tape = w.tape
 output : w'.output = w.output
 size : w.heap.size ≤ w'.heap.size
 block : ∀ k, k < n → (∀ cs t f, w.heap[k]? = some (.cells cs t f) → t ∉ ts) → w'.heap[k]? = w.heap[k]?
theorem Sorts.refl (ts : List TypeId) (n : Nat) (w : World) : Sorts ts n w w := ⟨rfl, rfl, rfl, Nat.le_refl _, fun _ _ _ => rfl⟩
theorem Sorts.trans {ts : List TypeId} {n : Nat} {a b c : World} (h : Sorts ts n a b) (k : Sorts ts n b c) : Sorts ts n a c :=
 ⟨k.os.trans h.os, k.tape.trans h.tape, k.output.trans h.output, Nat.le_trans h.size k.size, fun i hi ht => by
  have e := h.block i hi ht
  exact (k.block i hi (fun cs t f hc => ht cs t f (e ▸ hc))).trans e⟩
theorem Sorts.mono {ts us : List TypeId} {n m : Nat} {a b : World} (h : Sorts ts n a b) (hm : m ≤ n) (hs : ∀ t ∈ ts, t ∈ us) : Sorts us m a b :=
 ⟨h.os, h.tape, h.output, h.size, fun i hi ht => h.block i (by omega) (fun cs t f hc hin => ht cs t f hc (hs t hin))⟩
theorem sorts_of {n : Nat} {a b : World} (h : Below n a b) (ts : List TypeId) : Sorts ts n a b := ⟨h.os, h.tape, h.output, h.size, fun k hk _ => h.block k hk⟩
theorem Sorts.below {n : Nat} {a b : World} (h : Sorts [] n a b) : Below n a b := ⟨h.os, h.tape, h.output, h.size, fun k hk => h.block k hk (fun _ _ _ _ hin => by cases hin)⟩
theorem sorts_off {L : List Nat} {ts : List TypeId} {n : Nat} {a b : World} (h : Off L n a b) (hL : ∀ k ∈ L, ∃ cs t f, a.heap[k]? = some (.cells cs t f) ∧ t ∈ ts) : Sorts ts n a b :=
 ⟨h.os, h.tape, h.output, h.size, fun k hk ht => h.block k hk (fun hin => by
  obtain ⟨cs, t, f, h1, h2⟩ := hL k hin
  exact ht cs t f h1 h2)⟩
theorem sorts_set {ts : List TypeId} {n g i : Nat} {w : World} {cs : Array Value} {t : TypeId} {f : Nat × Nat} (hg : w.heap[g]? = some (.cells cs t f)) (ht : t ∈ ts) (x : Value) : Sorts ts n w (w.setCell ⟨g, i, none⟩ x) :=
 ⟨rfl, rfl, rfl, by simp, fun k _ hk => Below.heap_setCell _ _ _ _ (fun e => by subst e; exact hk cs t f hg ht)⟩
theorem sorts_row {ts : List TypeId} {n g : Nat} {w : World} {cs : Array Value} {t : TypeId} {f : Nat × Nat} (hg : w.heap[g]? = some (.cells cs t f)) (ht : t ∈ ts) (vs : List Value) (i : Nat) : Sorts ts n w (rowSt w g i vs) := by
 have hb := rowSt_below (Nat.zero_le _) vs i _ (Below.refl 0 w) (g := g)
 exact ⟨hb.os, hb.tape, hb.output, hb.size, fun k _ hk => rowSt_other (fun e => by subst e; exact hk cs t f hg ht) _ _ _⟩
theorem sorts_grown {ts : List TypeId} {w w' : World} {v : Value} (hg : w.grownBy w' v.ownBlock) (hv : ∀ k, v.ownBlock = some k → ∃ cs t f, w.heap[k]? = some (.cells cs t f) ∧ t ∈ ts) : Sorts ts w.heap.size w w' :=
 ⟨hg.os, hg.tape, hg.output, hg.size, fun k hk ht => hg.block k hk (fun e => by
  obtain ⟨cs, t, f, h1, h2⟩ := hv k e.symm
  exact ht cs t f h1 h2)⟩
theorem Sorts.row {ts : List TypeId} {w w' : World} {g : Nat} {cs : Array Value} {t : TypeId} {f : Nat × Nat} (h : Sorts ts w.heap.size w w') (hg : w.heap[g]? = some (.cells cs t f)) (ht : t ∉ ts) : w'.heap[g]? = some (.cells cs t f) :=
 (h.block g (Array.getElem?_eq_some_iff.1 hg).1 (fun cs' t' f' e => by rw [hg] at e; cases e; exact ht)).trans hg
theorem TreeAt.sorts {ts : List TypeId} {w w' : World} (hs : Sorts ts w.heap.size w w') (ht : 195 ∉ ts) : ∀ {T : Tr}, TreeAt w T → TreeAt w' T
 | .nil, _ => trivial
 | .node _ _ _ _ _ _, ⟨h1, h2, h3⟩ => ⟨hs.row h1 ht, TreeAt.sorts hs ht h2, TreeAt.sorts hs ht h3⟩
theorem own_row {w : World} {base : Nat} {t : TypeId} {size n : Nat} {v : Value} {xs : List Value} (h : w.ownsRow base t size v n xs) : ∀ k, v.ownBlock = some k → ∃ cs, w.heap[k]? = some (.cells cs t (0, 0)) := by
 intro k hk
 rcases h.2 with ⟨rfl, _⟩ | ⟨g, cap, cur, rfl, _, hg, _⟩
 ·
  cases hk
 ·
  have e : g = k := Option.some.inj hk
  subst e
  exact ⟨cur, hg⟩
theorem ownsRow_sorts {ts : List TypeId} {w w' : World} {base : Nat} {t : TypeId} {size n : Nat} {v : Value} {xs : List Value} (hs : Sorts ts w.heap.size w w') (h : w.ownsRow base t size v n xs) (ht : t ∉ ts) : w'.ownsRow base t size v n xs := by
 refine ⟨h.1, ?_⟩
 rcases h.2 with h2 | ⟨g, cap, cur, e, h3, hg, h4⟩
 ·
  exact .inl h2
 ·
  exact .inr ⟨g, cap, cur, e, h3, hs.row hg ht, h4⟩
theorem ChAt.sorts {ts : List TypeId} {w w' : World} {base p : Nat} {v : Value} {C : ChV} (hs : Sorts ts w.heap.size w w') (h : ChAt w base p v C) (h1 : 124 ∉ ts) (h2 : 24 ∉ ts) : ChAt w' base p v C := ⟨hs.row h.row h1, ownsRow_sorts hs h.own h2⟩
theorem ShAt.sorts {ts : List TypeId} {w w' : World} {base p : Nat} {v : Value} {L : List BsV} (hs : Sorts ts w.heap.size w w') (h : ShAt w base p v L) (h1 : 114 ∉ ts) (h2 : 110 ∉ ts) : ShAt w' base p v L := ⟨hs.row h.row h1, ownsRow_sorts hs h.own h2⟩
theorem RefAt.sorts {ts : List TypeId} {w w' : World} {r : RefM} {M : MacV} {z : List KeptV} (hs : Sorts ts w.heap.size w w') (h : RefAt w r M z) (h1 : 204 ∉ ts) (h2 : 179 ∉ ts) : RefAt w' r M z :=
 h.stay hs.size (fun b o e => by obtain ⟨cs, hc⟩ := h.ty b o e; rw [hc]; exact hs.row hc h1) (fun b o e => by obtain ⟨cs, hc⟩ := h.kty b o e; rw [hc]; exact hs.row hc h2)
theorem push_sorts {w w' : World} {base p : Nat} {v : Value} {C : ChV} (h : ChAt w base p v C) (ho : Off (p :: v.ownBlock.toList) w.heap.size w w') : Sorts [124, 24] w.heap.size w w' :=
 sorts_off ho (fun k hk => by
  rcases List.mem_cons.1 hk with rfl | hk
  ·
   exact ⟨_, _, _, h.row, by simp⟩
  ·
   obtain ⟨cs, hc⟩ := own_row h.own k (by simpa using hk)
   exact ⟨_, _, _, hc, by simp⟩)
end Go.Proofs.YtbckjgageofldaaGreat
namespace Go.Proofs.YtbckjgageofldaaGreat
open Go.RowKit
theorem mac_one (M : MacV) (P : Option Addr) : ∀ v ∈ macCells M P, v.oneCell' = true := by
 intro u hu
 have e : macCells M P = (macCells M P).toArray.toList := rfl
 rw [e, mac_eta] at hu
 simp only [List.mem_cons, List.not_mem_nil, or_false] at hu
 rcases hu with rfl | rfl | rfl | rfl | rfl | rfl | rfl | rfl | rfl | rfl | rfl | rfl | rfl | rfl | rfl <;> rfl
theorem mac_loadVar {y : World} {g : Nat} {M : MacV} {P : Option Addr} (h : MacAt y g M P) : (loadVar 38 ⟨g, 0, none⟩).run Tryz.prog y = .ok (macV M P) y :=
 run_loadVar_row y g _ _ (macCells M P).toArray (0, 0) _ h Tryz.underlying38 rfl mac_size
def readE (t : List UInt8) (M : MacV) (k : Nat) : Nat := if k = 0 then (if endsB t M.mem = true then 0 else 4) else k
def ReadPost (w : World) (C : ChV) (t : List UInt8) (M : MacV) (k : Nat) (e : Ending) (w' : World) : Prop :=
 Below w.heap.size w w' ∧ ∃ Pc M2 P2, e = .returned (.tuple #[.pointer Pc, macV M2 P2, .int .i64 (readE t M k : Int)]) ∧ (readE t M k ≠ 0 → Pc = none) ∧
  (readE t M k = 0 → M2 = M ∧ (∃ p v, Pc = some ⟨p, 0, none⟩ ∧ ChAt w' w.heap.size p v C ∧ w.heap.size ≤ p) ∧ ∃ X, P2 = X.ptr ∧ TreeAt w' X ∧ X.sh = M.sh)
set_option maxRecDepth 100000 in
set_option maxHeartbeats 16000000 in
theorem read_patch (slot : Nat) (hsl : slot < 18446744073709551616) (t r : List UInt8) (ht : t.length ≤ 3) (hrl : r.length ≤ 4000000) (C : ChV) (hC : chOf slot t = some C) (M : MacV) (k : Nat) (gq : Nat)  (w : World)
  (hR : ∀ y : World, Below w.heap.size w y → Calls Tryz.prog 49 #[.string ⟨r.toArray⟩, .pointer (some ⟨gq, 0, none⟩)] y fun e w' => ∃ X, e = .returned (.tuple #[.agg (macCells M X.ptr).toArray, .int .i64 (k : Int)]) ∧ TreeAt w' X ∧ X.sh = M.sh ∧ Below y.heap.size y w') :
  Calls Tryz.prog 48 #[.int .u64 (slot : Int), .string ⟨(numL t.length ++ t ++ r).toArray⟩, .func (.func 49) #[] #[.pointer (some ⟨gq, 0, none⟩)]] w (ReadPost w C t M k) := by
 obtain ⟨S, hS⟩ : ∃ S, numL t.length ++ t ++ r = S := ⟨_, rfl⟩
 have hSl : S.length ≤ maxLen := by
  rw [← hS, List.length_append, List.length_append]
  have := (numL_len t.length).1
  unfold maxLen
  omega
 have hrd := text_read ht r
 rw [hS] at hrd
 have hd2 : S.drop (S.length - r.length) = r := by rw [← hS, List.length_append, Nat.add_sub_cancel, List.drop_left]
 have hle : r.length ≤ S.length := by rw [← hS, List.length_append]; omega
 rw [hS]
 have hb1 := (Below.refl w.heap.size w).alloc (Nat.le_refl _) (.cells (macCells macNone none).toArray 38)
 have hm1 : MacAt (w.alloc (.cells (macCells macNone none).toArray 38)) w.heap.size macNone none := heap_alloc_new _ _
 have Hof := Lib.hid (fun y : World => of_any1 S hSl y)
 have Hst := Lib.hid (fun (y : World) (g : Nat) (hy : RdAt y g ⟨0, S⟩) => by
  have q := rstr2_any ⟨0, S⟩ 3 g (by omega) y hy
  rw [hrd] at q
  exact (show Calls Tryz.prog 88 #[.pointer (some ⟨g, 0, none⟩), .int .i64 3] y fun e w' => e = .returned (.string ⟨t.toArray⟩) ∧ RdAt w' g ⟨0, r⟩ ∧ Only g y w' from q))
 have Her := Lib.hid (fun (y : World) (g : Nat) (hy : RdAt y g ⟨0, r⟩) => (show Calls Tryz.prog 89 #[.pointer (some ⟨g, 0, none⟩)] y fun e w' => e = .returned (.int .i64 0) ∧ y = w' from err_any ⟨0, r⟩ g y hy))
 have Hlf := Lib.hid (fun (y : World) (g : Nat) (hy : RdAt y g ⟨0, r⟩) => left_any r g y hy)
 have Hch := Lib.hid (fun y : World => by
  have q := chof_any slot t hsl (by omega) y
  rw [hC] at q
  exact (show Calls Tryz.prog 90 #[.int .u64 (slot : Int), .string ⟨t.toArray⟩] y fun e w' => Below y.heap.size y w' ∧ ∃ p v, e = .returned (.tuple #[.pointer (some ⟨p, 0, none⟩), .int .i64 0]) ∧ ChAt w' y.heap.size p v C ∧ y.heap.size ≤ p from q))
 have HR := Lib.hid hR
 have Hen := Lib.hid (fun y : World => (show Calls Tryz.prog 43 #[.string ⟨t.toArray⟩, .int .u8 (M.mem : Int)] y fun e w' => e = .returned (.bool (endsB t M.mem)) ∧ y = w' from (ends_any t (by omega) M.mem y).mono (fun e w' h => ⟨h.1, h.2.symm⟩)))
 have Hlen := Lib.hid (And.intro hle (And.intro hd2 hSl))
 have Hrl := Lib.hid hrl
 clear hR hC hrd hd2 hle hSl ht hrl hsl hS
 obtain ⟨g, hg⟩ : ∃ g, w.heap.size = g := ⟨_, rfl⟩
 rw [hg] at hm1
 go_enter Tryz.func48, Tryz.ntmps48
 go_upto_region 2 with ((with_reducible refine (Hof.out _).mono ?_); rintro e w2 ⟨rfl, rfl⟩)
 change Code.wp _ _ _ _ ((w.alloc (.cells (macCells macNone none).toArray 38)).alloc (.cells (rdCells ⟨0, S⟩).toArray 246))
 have hsz1 : (w.alloc (.cells (macCells macNone none).toArray 38)).heap.size = g + 1 := by rw [World.size_alloc, hg]
 generalize w.alloc (.cells (macCells macNone none).toArray 38) = w1 at *
 have hrr : RdAt (w1.alloc (.cells (rdCells ⟨0, S⟩).toArray 246)) w1.heap.size ⟨0, S⟩ := ⟨heap_alloc_new _ _, Hlen.out.2.2⟩
 rw [hsz1] at hrr
 have hb12 := (Below.refl w1.heap.size w1).alloc (Nat.le_refl _) (.cells (rdCells ⟨0, S⟩).toArray 246)
 have hm2 := hm1.below hb12
 have hb2 := hb1.trans (hb12.mono hb1.size)
 generalize w1.alloc (.cells (rdCells ⟨0, S⟩).toArray 246) = w2 at *
 have Hr2 := Lib.hid hrr
 have Hm2 := Lib.hid hm2
 have Hb2 := Lib.hid hb2
 have Hg := Lib.hid hg
 clear hrr hb12 hm1 hb1 hm2 hb2 hsz1 hg
 go_upto_region 6 with (first
  | ((with_reducible refine (Hst.out _ (g + 1) Hr2.out).mono ?_); rintro e w3 ⟨rfl, h3, o3⟩; have H3 := Lib.hid (And.intro h3 o3); clear h3 o3)
  | ((with_reducible refine (Her.out _ (g + 1) H3.out.1).mono ?_); rintro e w4 ⟨rfl, rfl⟩))
 have hm3 : MacAt w3 g macNone none := (H3.out.2.block g (by omega)).trans Hm2.out
 have hb3 := Only.below Hb2.out H3.out.2 (by rw [Hg.out]; omega)
 have Hm3 := Lib.hid hm3
 have Hb3 := Lib.hid hb3
 have Hr3 := Lib.hid H3.out.1
 clear hm3 hb3 H3 Hr2 Hm2 Hb2 Hst Her Hof
 go_upto_region 9 with ((with_reducible refine (Hch.out _).mono ?_); rintro e w5 ⟨h5, pc, vc, rfl, hch, hpc⟩; have H5 := Lib.hid (And.intro h5 (And.intro hch hpc)); clear h5 hch hpc)
 have hr5 : RdAt w5 (g + 1) ⟨0, r⟩ := ⟨(H5.out.1.block _ (Array.getElem?_eq_some_iff.1 Hr3.out.row).1).trans Hr3.out.row, Hr3.out.len⟩
 have hm5 := Hm3.out.below H5.out.1
 have hb5 := Hb3.out.trans (H5.out.1.mono Hb3.out.size)
 have hc5 : ChAt w5 w.heap.size pc vc C ∧ w.heap.size ≤ pc := ⟨⟨H5.out.2.1.row, H5.out.2.1.own.mono Hb3.out.size⟩, Nat.le_trans Hb3.out.size H5.out.2.2⟩
 have Hr5 := Lib.hid hr5
 have Hm5 := Lib.hid hm5
 have Hb5 := Lib.hid hb5
 have Hc5 := Lib.hid hc5
 clear hr5 hm5 hb5 hc5 H5 Hr3 Hm3 Hb3 Hch
 have hsl1 : IntKind.i64.wrap ((S.length : Int) - (r.length : Int)) = ((S.length - r.length : Nat) : Int) := by have := Hlen.out.1; have := Hlen.out.2.2; unfold maxLen at this; rw [IntKind.wrap_i64]; omega
 have hext : (⟨S.toArray⟩ : ByteArray).extract (S.length - r.length) S.length = ⟨r.toArray⟩ := by
  refine ByteArray.ext (Array.ext' ?_)
  have e : ((⟨S.toArray⟩ : ByteArray).extract (S.length - r.length) S.length).data = S.toArray.extract (S.length - r.length) S.length := by
   rw [ByteArray.data_extract]
  rw [e, Array.toList_extract]
  show (S.drop (S.length - r.length)).take (S.length - (S.length - r.length)) = r
  rw [Hlen.out.2.1, List.take_of_length_le (by have := Hlen.out.1; omega)]
 have hRR := HR.out w5 Hb5.out
 rw [← hext] at hRR
 have HRR := Lib.hid hRR
 clear hRR HR hext
 go_upto_region 10 with (first
  | ((with_reducible refine (Hlf.out _ (g + 1) Hr5.out).mono ?_); rintro e w6 ⟨rfl, rfl⟩)
  | ((with_reducible refine HRR.out.mono ?_); rintro e w7 ⟨X, rfl, h7⟩; have H7 := Lib.hid h7; clear h7)
  | ((with_reducible refine wpList_store_mid rfl 38 _ _ rfl w7.heap.size 0 _ rfl rfl ?_ ?_ ?_ ?_); exact th_new w7 (macCells macNone none) 38; exact mac_size; exact all_oneCell_toArray (mac_one M X.ptr)))
 change Code.wp _ _ _ _ ((w7.alloc (.cells (macCells macNone none).toArray 38)).setCells w7.heap.size 0 (macCells M X.ptr))
 have hb8 := box_below w7 (macCells macNone none) (macCells M X.ptr) 38
 have h8 := box_row w7 (macCells macNone none) (macCells M X.ptr) 38 rfl
 have hb78 := H7.out.2.2.trans (hb8.mono H7.out.2.2.size)
 have HX := Lib.hid (And.intro (H7.out.1.below hb8) H7.out.2.1)
 have Hm8 := Lib.hid (Hm5.out.below hb78)
 have Hb8 := Lib.hid (Hb5.out.trans (hb78.mono Hb5.out.size))
 have Hc8 := Lib.hid (And.intro (Hc5.out.1.below hb78) Hc5.out.2)
 have hne8 : w7.heap.size ≠ g := Nat.ne_of_gt (Nat.lt_of_lt_of_le Hm5.out.lt H7.out.2.2.size)
 clear hb8 hb78 H7 Hm5 Hb5 Hc5 HRR Hlf Hr5
 generalize (w7.alloc (.cells (macCells macNone none).toArray 38)).setCells w7.heap.size 0 (macCells M X.ptr) = w8 at *
 generalize w7.heap.size = g8 at *
 have Hr8 := Lib.hid (show MacAt w8 g8 M X.ptr from h8)
 have hz := macSt_at Hm8.out macNone none
 have hbz := rowSt_below (show w.heap.size ≤ g by rw [Hg.out]; omega) (macCells macNone none) 0 _ Hb8.out
 have HZ := Lib.hid hz
 have Hbz := Lib.hid hbz
 have Hth := Lib.hid (show w8.there g 0 15 from there_row (cs := macCells macNone none) Hm8.out)
 have Hrl := Lib.hid (show w8.rangeAt g8 0 (macCells M X.ptr) from range_row Hr8.out)
 have Hmem := Lib.hid (fun y : World => (show Calls Tryz.prog 37 #[.agg (macCells M X.ptr).toArray] y fun e w' => e = .returned (.int .u8 (M.mem : Int)) ∧ Below y.heap.size y w' from mmem_any M X.ptr y))
 clear h8 hz hbz
 by_cases hk : k = 0
 ·
  subst hk
  have Hmem8 := Lib.hid (Hmem.out w8)
  by_cases hE : endsB t M.mem = true
  ·
   rw [hE] at Hen
   have hrE : readE t M 0 = 0 := by unfold readE; rw [if_pos rfl, if_pos hE]
   have HrE := Lib.hid hrE
   clear hE hrE
   go_upto_region 14 with (first
    | (with_reducible refine wpList_load_mid rfl 38 _ rfl g8 0 rfl (macCells M X.ptr) _ Hrl.out Tryz.underlying38 rfl (mac_size2 _ _) ?_)
    | ((with_reducible refine Hmem8.out.mono ?_); rintro e w10 ⟨rfl, h10⟩; have H10 := Lib.hid h10; clear h10)
    | ((with_reducible refine (Hen.out _).mono ?_); rintro e w11 ⟨rfl, rfl⟩))
   have Hm10 := Lib.hid (Hm8.out.below H10.out)
   have Hr10 := Lib.hid (Hr8.out.below H10.out)
   have HX10 := Lib.hid (And.intro (HX.out.1.below H10.out) HX.out.2)
   have Hb10 := Lib.hid (Hb8.out.trans (H10.out.mono Hb8.out.size))
   have Hc10 := Lib.hid (And.intro (Hc8.out.1.below H10.out) Hc8.out.2)
   clear Hm8 Hr8 HX Hb8 Hc8 H10 HZ Hbz Hth Hrl Hmem Hmem8 Hen
   refine (wpIn_wide (n := 1)).1 ?_
   refine RegK.wpIn_region_can (F := Fence.wide) (KeptW w10) [(0, 0), (1, 0), (2, 0), (3, 3), (4, 0)] (by kernel_rfl) (by kernel_rfl) (by kernel_rfl) (fun _ _ d _ _ h => by cases d <;> exact h) ⟨rfl, rfl, rfl, Nat.le_refl _, fun _ _ => rfl⟩ ?_
   dsimp only [RegK.pick, List.getElem?_cons_zero, List.getElem?_cons_succ]
   change RegK.Can _ _ _ _ _ _ _ _ w10.drew
   have hkd : KeptW w10 w10.drew := ⟨rfl, rfl, rfl, Nat.le_refl _, fun _ _ => rfl⟩
   generalize w10.drew = v1 at *
   refine RegK.can_reads ?_; intro K hK; go_simp; (first | refine ⟨_, fun _ _ => rfl, hK _ ?_⟩ | refine hK _ ?_); clear hK K
   refine RegK.can_reads ?_
   intro K hK
   rw [if_pos (by first | (simp [Region.wanted]; done) | (go_simp; done))]
   refine ⟨.agg (macCells M X.ptr).toArray, fun y hy => exec_load rfl rfl (row_loadAt (P := Tryz.prog) (cs := macCells M X.ptr) (Hr10.out.below (KeptW.bel hy)) Tryz.underlying38 rfl (mac_size2 _ _)), hK _ ?_⟩
   clear hK K
   go_simp
   refine RegK.can_reads ?_; intro K hK; go_simp; (first | refine ⟨_, fun _ _ => rfl, hK _ ?_⟩ | refine hK _ ?_); clear hK K
   have Hm11 := Lib.hid (Hm10.out.below (KeptW.bel hkd))
   have hz := macSt_at Hm11.out M X.ptr
   have hbz := rowSt_below (show w.heap.size ≤ g by rw [Hg.out]; omega) (macCells M X.ptr) 0 _ (Hb10.out.trans ((KeptW.bel hkd).mono Hb10.out.size))
   have hx11 : TreeAt (rowSt v1 g 0 (macCells M X.ptr)) X := TreeAt.row Hm11.out (by decide) _ _ (HX10.out.1.below (KeptW.bel hkd))
   have hc11 := (Hc10.out.1.below (KeptW.bel hkd)).sorts (sorts_row (ts := [38]) Hm11.out (by simp) (macCells M X.ptr) 0) (by decide) (by decide)
   have HZ := Lib.hid hz
   have Hbz := Lib.hid hbz
   have HF := Lib.hid (And.intro hx11 hc11)
   clear hz hbz hx11 hc11
   refine RegK.can_frees (fun _ => trivial) ?_
   intro K K0 hK hK0
   rw [if_pos (by simp [Region.wanted])]
   refine RegK.op_wide rfl ?_
   refine wp_store_mid 38 _ _ rfl g 0 (macCells M X.ptr).toArray rfl rfl (there_row (cs := macCells macNone none) Hm11.out) mac_size (all_oneCell_toArray (mac_one _ _)) ?_
   rw [show (v1).setCells g 0 (macCells M X.ptr).toArray.toList = rowSt v1 g 0 (macCells M X.ptr) from st_eq _ _ _]
   refine hK (fun _ => True) _ _ trivial ?_
   clear hK K hK0 K0 
   generalize rowSt v1 g 0 (macCells M X.ptr) = w9 at *
   refine RegK.can_reads ?_; intro K hK; go_simp; (first | refine ⟨_, fun _ _ => rfl, hK _ ?_⟩ | refine hK _ ?_); clear hK K
   refine RegK.can_nil ?_
   go_wp2_with fail
   refine bodyPost_ret (v := .tuple #[.pointer (some ⟨pc, 0, none⟩), macV M X.ptr, .int .i64 0]) (by simp [results, Tryz.results48, show (asAddr (Value.pointer (some ⟨g, 0, none⟩))).run Tryz.prog w9 = .ok ⟨g, 0, none⟩ w9 from rfl, mac_loadVar HZ.out]) rfl ?_
   refine ⟨Hbz.out, some ⟨pc, 0, none⟩, M, X.ptr, by rw [HrE.out]; rfl, fun h => absurd HrE.out h, fun _ => ⟨rfl, ⟨pc, vc, rfl, HF.out.2, Hc10.out.2⟩, X, rfl, HF.out.1, HX10.out.2⟩⟩
  ·
   have hE2 : endsB t M.mem = false := by simpa using hE
   rw [hE2] at Hen
   have hrE : readE t M 0 = 4 := by unfold readE; rw [if_pos rfl, if_neg hE]
   have HrE := Lib.hid hrE
   clear hE hE2 hrE
   go_upto_region 13 with (first
    | (with_reducible refine wpList_load_mid rfl 38 _ rfl g8 0 rfl (macCells M X.ptr) _ Hrl.out Tryz.underlying38 rfl (mac_size2 _ _) ?_)
    | ((with_reducible refine Hmem8.out.mono ?_); rintro e w10 ⟨rfl, h10⟩; have H10 := Lib.hid h10; clear h10)
    | ((with_reducible refine (Hen.out _).mono ?_); rintro e w11 ⟨rfl, rfl⟩))
   have Hm10 := Lib.hid (Hm8.out.below H10.out)
   have Hb10 := Lib.hid (Hb8.out.trans (H10.out.mono Hb8.out.size))
   clear Hm8 Hb8 H10 HZ Hbz Hth Hrl Hmem Hmem8 Hen Hr8
   generalize w10 = w8 at *
   have hz := macSt_at Hm10.out macNone none
   have hbz := rowSt_below (show w.heap.size ≤ g by rw [Hg.out]; omega) (macCells macNone none) 0 _ Hb10.out
   have HZ := Lib.hid hz
   have Hbz := Lib.hid hbz
   have Hth := Lib.hid (show _ from there_row (cs := macCells macNone none) Hm10.out)
   clear hz hbz
   go_wp2_with ((with_reducible refine wpList_store_mid rfl 38 _ _ rfl g 0 _ rfl rfl ?_ ?_ ?_ ?_); exact Hth.out; exact mac_size; simp [Value.oneCell'])
   rw [st_eq]
   change bodyPost _ _ _ _ _ (rowSt w8 g 0 (macCells macNone none))
   generalize rowSt w8 g 0 (macCells macNone none) = w9 at *
   refine bodyPost_ret (v := .tuple #[.pointer none, macV macNone none, .int .i64 (4)]) (by simp [results, Tryz.results48, show (asAddr (Value.pointer (some ⟨g, 0, none⟩))).run Tryz.prog w9 = .ok ⟨g, 0, none⟩ w9 from rfl, mac_loadVar HZ.out]) rfl ?_
   refine ⟨Hbz.out, none, macNone, none, by rw [HrE.out]; rfl, fun _ => rfl, fun h => by rw [HrE.out] at h; cases h⟩
 ·
  have hrE : readE t M k = k := by unfold readE; rw [if_neg hk]
  have hk' : ((k : Int) != 0) = true := by rw [bne_iff_ne]; omega
  have HrE := Lib.hid (And.intro hrE hk)
  clear hrE hk Hmem Hen Hrl Hr8
  go_upto_region 11 with fail
  go_wp2_with ((with_reducible refine wpList_store_mid rfl 38 _ _ rfl g 0 _ rfl rfl ?_ ?_ ?_ ?_); exact Hth.out; exact mac_size; simp [Value.oneCell'])
  rw [st_eq]
  change bodyPost _ _ _ _ _ (rowSt w8 g 0 (macCells macNone none))
  generalize rowSt w8 g 0 (macCells macNone none) = w9 at *
  refine bodyPost_ret (v := .tuple #[.pointer none, macV macNone none, .int .i64 ((k : Int))]) (by simp [results, Tryz.results48, show (asAddr (Value.pointer (some ⟨g, 0, none⟩))).run Tryz.prog w9 = .ok ⟨g, 0, none⟩ w9 from rfl, mac_loadVar HZ.out]) rfl ?_
  refine ⟨Hbz.out, none, macNone, none, by rw [HrE.out.1], fun _ => rfl, fun h => absurd (HrE.out.1 ▸ h) HrE.out.2⟩
end Go.Proofs.YtbckjgageofldaaGreat
namespace Go.Proofs.YtbckjgageofldaaGreat
open Go.RowKit
theorem lm_eta (m : LmV) : (lmCells m).toArray = #[.int .u8 (m.k : Int), .int .u64 0, .int .u8 0, .int .u64 (m.f : Int), .int .u64 (m.s : Int), .int .u8 0, .string ⟨m.x.toArray⟩, .slice none 0 0, .slice none 0 0, .int .u8 0, .int .u32 0, .int .u8 0, .string ByteArray.empty, .string ByteArray.empty, .string ByteArray.empty, .int .u8 0, .int .u8 0, .string ByteArray.empty] := rfl
theorem read_relay {w w1 w2 : World} {g : Nat} {M0 M M2 : MacV} {P0 Pc P2 : Option Addr} {C : ChV} {t : List UInt8} {k : Nat} (hb1 : Below w.heap.size w w1) (hg : MacAt w1 g M0 P0) (hge : w.heap.size ≤ g) (hb2 : Below w1.heap.size w1 w2) (h1 : readE t M k ≠ 0 → Pc = none)
  (h2 : readE t M k = 0 → M2 = M ∧ (∃ p v, Pc = some ⟨p, 0, none⟩ ∧ ChAt w2 w1.heap.size p v C ∧ w1.heap.size ≤ p) ∧ ∃ X, P2 = X.ptr ∧ TreeAt w2 X ∧ X.sh = M.sh) :
  ReadPost w C t M k (.returned (.tuple #[.pointer Pc, macV M2 P2, .int .i64 (readE t M k : Int)])) (rowSt w2 g 0 (macCells M2 P2)) := by
 have hg2 := hg.below hb2
 refine ⟨rowSt_below hge _ 0 _ (hb1.trans (hb2.mono hb1.size)), Pc, M2, P2, rfl, h1, fun h => ?_⟩
 obtain ⟨a1, ⟨p, v, a2, a3, a4⟩, X, a5, a6, a7⟩ := h2 h
 have a8 : ChAt w2 w.heap.size p v C := ⟨a3.row, a3.own.mono hb1.size⟩
 exact ⟨a1, ⟨p, v, a2, a8.sorts (sorts_row (ts := [38]) hg2 (by simp) _ 0) (by decide) (by decide), Nat.le_trans hb1.size a4⟩, X, a5, TreeAt.row hg2 (by decide) _ _ a6, a7⟩
set_option maxRecDepth 100000 in
set_option maxHeartbeats 16000000 in
theorem follow1_any (A : MacV) (X : Tr) (hA : MacAll A) (gq : Nat) (r : List UInt8) (hrl : r.length ≤ maxLen) (w : World) (hq : MacAt w gq A X.ptr) (hX : TreeAt w X) (hs : X.sh = A.sh) :
  Calls Tryz.prog 49 #[.string ⟨r.toArray⟩, .pointer (some ⟨gq, 0, none⟩)] w fun e w' => ∃ Z, e = .returned (.tuple #[.agg (macCells (patchM A r).1 Z.ptr).toArray, .int .i64 ((patchM A r).2 : Int)]) ∧ TreeAt w' Z ∧ Z.sh = (patchM A r).1.sh ∧ Below w.heap.size w w' := by
 have hb1 := (Below.refl w.heap.size w).alloc (Nat.le_refl _) (.cells (macCells macNone none).toArray 38)
 have hm1 : MacAt (w.alloc (.cells (macCells macNone none).toArray 38)) w.heap.size macNone none := heap_alloc_new _ _
 have hd := dpatch_any A X r hrl hA _ (hX.below hb1) hs
 obtain ⟨⟨M2, k⟩, hk⟩ : ∃ z, patchM A r = z := ⟨_, rfl⟩
 rw [hk] at hd ⊢
 have hq1 := hq.below hb1
 unfold macV at hd
 have Hd := Lib.hid hd
 have Hrl := Lib.hid (show (w.alloc (.cells (macCells macNone none).toArray 38)).rangeAt gq 0 (macCells A X.ptr) from range_row hq1)
 clear hd hk hX hs hA hrl hq1 hq
 obtain ⟨g, hg⟩ : ∃ g, w.heap.size = g := ⟨_, rfl⟩
 rw [hg] at hm1
 go_enter Tryz.func49, Tryz.ntmps49
 go_upto_region 1 with fail
 change Code.wp _ _ _ _ (w.alloc (.cells (macCells macNone none).toArray 38))
 generalize w.alloc (.cells (macCells macNone none).toArray 38) = w1 at *
 have Hm1 := Lib.hid hm1
 have Hb1 := Lib.hid hb1
 have Hg := Lib.hid hg
 clear hm1 hb1 hg
 go_wp2_with (first
  | (with_reducible refine wpList_load_mid rfl 38 _ rfl gq 0 rfl (macCells A X.ptr) _ Hrl.out Tryz.underlying38 rfl (mac_size2 _ _) ?_)
  | ((with_reducible refine Hd.out.mono ?_); rintro e w2 ⟨Z, rfl, hZ, hZs, hb2⟩; have Hth := Lib.hid (show w2.there g 0 15 from there_row (cs := macCells macNone none) (Hm1.out.below hb2)); have HO := Lib.hid (And.intro hb2 (And.intro hZ hZs)); clear hb2 hZ hZs)
  | ((with_reducible refine wpList_store_mid rfl 38 _ _ rfl g 0 _ rfl rfl ?_ ?_ ?_ ?_); exact Hth.out; exact mac_size; exact all_oneCell_toArray (mac_one M2 Z.ptr)))
 have hz := macSt_at (Hm1.out.below HO.out.1) M2 Z.ptr
 have hZ9 : TreeAt (rowSt w2 g 0 (macCells M2 Z.ptr)) Z := TreeAt.row (Hm1.out.below HO.out.1) (by decide) _ _ HO.out.2.1
 have hb9 := rowSt_below (Nat.le_of_eq Hg.out) (macCells M2 Z.ptr) 0 _ (Hb1.out.trans (HO.out.1.mono Hb1.out.size))
 rw [show w2.setCells g 0 (macCells M2 Z.ptr).toArray.toList = rowSt w2 g 0 (macCells M2 Z.ptr) from st_eq _ _ _]
 generalize rowSt w2 g 0 (macCells M2 Z.ptr) = w9 at *
 refine bodyPost_ret (v := .tuple #[macV M2 Z.ptr, .int .i64 (k : Int)]) (by simp [results, Tryz.results49, show (asAddr (Value.pointer (some ⟨g, 0, none⟩))).run Tryz.prog w9 = .ok ⟨g, 0, none⟩ w9 from rfl, mac_loadVar hz]) rfl ?_
 exact ⟨Z, rfl, hZ9, HO.out.2.2, hb9⟩
end Go.Proofs.YtbckjgageofldaaGreat
