/- The state of keys: get, put, del, cas. Condition: few enough keys that their number is an int. -/
import Derived.Test.YtbckjgageofldaaGreatZLearnNil6
import Derived.Test.YtbckjgageofldaaGreatZLearnNil8
namespace Go.Proofs.YtbckjgageofldaaGreat
open Go.RowKit
def repCells (code : Nat) (text : ByteArray) : List Value := [.int .u8 (code : Int), .string text]
def repV (code : Nat) (text : ByteArray) : Value := .agg (repCells code text).toArray
structure KvOut where
 sh : Sh
 code : Nat
 text : ByteArray
def kvGet (S : Sh) (c : CmdV) : KvOut := match S.look c.key with
 | none => ⟨S, 1, ByteArray.empty⟩
 | some v => ⟨S, 0, v⟩
def kvPut (S : Sh) (c : CmdV) : KvOut := match S.look c.key with
 | none => if 256 ≤ S.cnt then ⟨S, 2, ByteArray.empty⟩ else ⟨putSh c.key c.fresh S none, 0, ByteArray.empty⟩
 | some v => ⟨putSh c.key c.fresh S (some v), 0, ByteArray.empty⟩
def kvDel (S : Sh) (c : CmdV) : KvOut := match S.look c.key with
 | none => ⟨S, 1, ByteArray.empty⟩
 | some v => ⟨delSh c.key S (some v), 0, v⟩
def kvCas (S : Sh) (c : CmdV) : KvOut := match S.look c.key with
 | none => ⟨S, 1, ByteArray.empty⟩
 | some v => if v = c.old then ⟨putSh c.key c.fresh S (some v), 0, ByteArray.empty⟩ else ⟨S, 2, v⟩
structure KvPost (T : Tr) (o : KvOut) (stay : Bool) (w w' : World) (X : Tr) : Prop where
 at_ : TreeAt w' X
 bel : Below w.heap.size w w'
 shp : X.sh = o.sh
 num : X.cnt ≤ T.cnt + 1
 keep : stay = true → X = T
def RepAt (w : World) (b : Nat) (code : Nat) (text : ByteArray) : Prop := w.heap[b]? = some (.cells (repCells code text).toArray 27 (0, 0))
section
variable {w w' : World} {b b' i : Nat} {v x : Value} {t : TypeId} {code code' : Nat} {text text' : ByteArray} {cs : Array Value} {f : Nat × Nat}
theorem RepAt.cells (h : RepAt w b code text) : w.cell? ⟨b, 0, none⟩ = some (.int .u8 (code : Int)) ∧ w.cell? ⟨b, 1, none⟩ = some (.string text) := ⟨cell_of_row _ _ _ _ _ _ h, cell_of_row _ _ _ _ _ _ h⟩
theorem RepAt.thawed (h : RepAt w b code text) (j : Nat) : w.frozen? ⟨b, j, none⟩ = false := by
 unfold RepAt at h
 simp [World.frozen?, h]
theorem RepAt.lt (h : RepAt w b code text) : b < w.heap.size := (Array.getElem?_eq_some_iff.1 h).1
theorem RepAt.below (h : RepAt w b code text) (hb : Below w.heap.size w w') : RepAt w' b code text := (hb.block b h.lt).trans h
theorem RepAt.other (h : RepAt w b code text) (hne : b ≠ b') : RepAt (w.setCell ⟨b', i, none⟩ x) b code text := (Below.heap_setCell _ _ _ _ (by exact hne)).trans h
theorem RepAt.set (h : RepAt w b code text) (hx : (repCells code text).toArray.setIfInBounds i x = (repCells code' text').toArray) : RepAt (w.setCell ⟨b, i, none⟩ x) b code' text' := by
 unfold RepAt
 rw [heap_setCell_same _ _ _ _ _ _ h, hx]
theorem TreeAt.setC (h : w.heap[b]? = some (.cells cs t f)) (hc : cs.size ≠ 7) : ∀ {T : Tr}, TreeAt w T → TreeAt (w.setCell ⟨b, i, none⟩ x) T
 | .nil, _ => trivial
 | .node q _ _ _ _ _, ⟨h1, h2, h3⟩ => ⟨(Below.heap_setCell _ _ _ _ (by
   show q ≠ b
   rintro rfl
   unfold NodeAt at h1
   rw [h1] at h
   cases h
   exact hc rfl)).trans h1, TreeAt.setC h hc h2, TreeAt.setC h hc h3⟩
end
structure DeedI (w0 : World) (P : Option Addr) (c : CmdV) (w : World) : Prop where
 bs : VarAt w w0.heap.size (.pointer P) 34
 bc : CmdAt w (w0.heap.size + 1) c
 r0 : VarAt w (w0.heap.size + 2) (.pointer none) 34
 r1 : RepAt w (w0.heap.size + 3) 0 ByteArray.empty
 bel : Below w0.heap.size w0 w
theorem DeedI.below {w0 w w' : World} {P : Option Addr} {c : CmdV} (h : DeedI w0 P c w) (hb : Below w.heap.size w w') : DeedI w0 P c w' :=
 ⟨h.bs.below hb, h.bc.below hb, h.r0.below hb, h.r1.below hb, h.bel.trans (hb.mono h.bel.size)⟩
theorem deed_start (w : World) (P : Option Addr) (c : CmdV) : DeedI w P c ((((w.alloc (.cells #[.pointer P] 34)).alloc (.cells (cmdCells c).toArray 56)).alloc (.cells #[.pointer none] 34)).alloc (.cells (repCells 0 ByteArray.empty).toArray 27)) := by
 have b1 := (Below.refl w.heap.size w).alloc (Nat.le_refl _) (.cells #[.pointer P] 34)
 have b2 := b1.alloc b1.size (.cells (cmdCells c).toArray 56)
 have b3 := b2.alloc b2.size (.cells #[.pointer none] 34)
 have b4 := b3.alloc b3.size (.cells (repCells 0 ByteArray.empty).toArray 27)
 have s1 : (w.alloc (.cells #[.pointer P] 34)).heap.size = w.heap.size + 1 := by simp
 have s2 : ((w.alloc (.cells #[.pointer P] 34)).alloc (.cells (cmdCells c).toArray 56)).heap.size = w.heap.size + 2 := by simp
 have s3 : (((w.alloc (.cells #[.pointer P] 34)).alloc (.cells (cmdCells c).toArray 56)).alloc (.cells #[.pointer none] 34)).heap.size = w.heap.size + 3 := by simp
 have v0 := VarAt.new w (.pointer P) 34
 have v1 := CmdAt.new (w.alloc (.cells #[.pointer P] 34)) c
 have v2 := VarAt.new ((w.alloc (.cells #[.pointer P] 34)).alloc (.cells (cmdCells c).toArray 56)) (.pointer none) 34
 have v3 : RepAt ((((w.alloc (.cells #[.pointer P] 34)).alloc (.cells (cmdCells c).toArray 56)).alloc (.cells #[.pointer none] 34)).alloc (.cells (repCells 0 ByteArray.empty).toArray 27)) _ 0 ByteArray.empty := heap_alloc_new _ _
 rw [s1] at v1
 rw [s2] at v2
 rw [s3] at v3
 have a1 : ∀ (u : World) (o : Obj), Below u.heap.size u (u.alloc o) := fun u o => (Below.refl _ _).alloc (Nat.le_refl _) _
 exact ⟨((v0.below (a1 _ _)).below (a1 _ _)).below (a1 _ _), (v1.below (a1 _ _)).below (a1 _ _), v2.below (a1 _ _), v3, b4⟩
def deedW (w0 w : World) (X : Option Addr) (code : Nat) (text : ByteArray) : World := ((w.setCell ⟨w0.heap.size + 2, 0, none⟩ (.pointer X)).setCell ⟨w0.heap.size + 3, 0, none⟩ (.int .u8 (code : Int))).setCell ⟨w0.heap.size + 3, 1, none⟩ (.string text)
theorem deed_end {w0 w : World} {P : Option Addr} {c : CmdV} (h : DeedI w0 P c w) (X : Tr) (code : Nat) (text : ByteArray) (hX : TreeAt w X) :
  VarAt (deedW w0 w X.ptr code text) (w0.heap.size + 2) (.pointer X.ptr) 34 ∧ RepAt (deedW w0 w X.ptr code text) (w0.heap.size + 3) code text ∧ Below w0.heap.size w0 (deedW w0 w X.ptr code text) ∧ TreeAt (deedW w0 w X.ptr code text) X := by
 have r1 : RepAt (w.setCell ⟨w0.heap.size + 2, 0, none⟩ (.pointer X.ptr)) (w0.heap.size + 3) 0 ByteArray.empty := h.r1.other (by omega)
 have r2 : RepAt ((w.setCell ⟨w0.heap.size + 2, 0, none⟩ (.pointer X.ptr)).setCell ⟨w0.heap.size + 3, 0, none⟩ (.int .u8 (code : Int))) (w0.heap.size + 3) code ByteArray.empty := r1.set rfl
 refine ⟨((h.r0.set).other (by omega)).other (by omega), r2.set rfl, below_setV (below_setV (below_setV h.bel (by omega)) (by omega)) (by omega), ?_⟩
 exact TreeAt.setC r2 (by simp [repCells]) (TreeAt.setC r1 (by simp [repCells]) (TreeAt.setC h.r0 (by simp) hX))
set_option maxRecDepth 100000 in
set_option maxHeartbeats 4000000 in
theorem kvget_any (c : CmdV) (T : Tr) (w : World) (hat : TreeAt w T) (_ : T.cnt ≤ 4611686018427387903) :
  Calls Tryz.prog 168 #[.agg #[.pointer T.ptr], .agg (cmdCells c).toArray] w fun e w' => ∃ X, e = .returned (.tuple #[.agg #[.pointer X.ptr], repV (kvGet T.sh c).code (kvGet T.sh c).text]) ∧
   KvPost T (kvGet T.sh c) (decide ((kvGet T.sh c).code ≠ 0) || true) w w' X := by
 obtain ⟨P, hP⟩ : ∃ P, T.ptr = P := ⟨_, rfl⟩
 have hI := deed_start w P c
 rw [hP]
 have HP := Lib.hid hP; clear hP
 obtain ⟨o, ho0⟩ : ∃ o, kvGet T.sh c = o := ⟨_, rfl⟩
 rw [ho0]
 have HO := Lib.hid ho0; clear ho0
 obtain ⟨L, hL⟩ : ∃ L, T.look c.key = L := ⟨_, rfl⟩
 have hL' : T.sh.look c.key = L := by rw [← sh_look]; exact hL
 go_enter Tryz.func168, Tryz.ntmps168
 go_upto_region 1 with fail
 rw [show w.heap.size + 1 + 1 = w.heap.size + 2 by omega, show w.heap.size + 2 + 1 = w.heap.size + 3 by omega]
 change Code.wp _ _ _ _ ((((w.alloc (.cells #[.pointer P] 34)).alloc (.cells (cmdCells c).toArray 56)).alloc (.cells #[.pointer none] 34)).alloc (.cells (repCells 0 ByteArray.empty).toArray 27))
 generalize (((w.alloc (.cells #[.pointer P] 34)).alloc (.cells (cmdCells c).toArray 56)).alloc (.cells #[.pointer none] 34)).alloc (.cells (repCells 0 ByteArray.empty).toArray 27) = w1 at *
 have hat1 := hat.below hI.bel
 have hget := get_any c.key T w1 hat1
 rw [hL] at hget
 rw [HP.out] at hget
 have HI := Lib.hid hI; clear hI
 have Hat1 := Lib.hid hat1; clear hat1
 have HL := Lib.hid (And.intro hL hL'); clear hL hL' hat
 have c0 := HI.out.bs.cell
 obtain ⟨d0, d1, d2, d3, d4, d5, d6⟩ := HI.out.bc.cells
 clear d0 d1 d2 d6
 cases L with
 | none =>
  have Hget := Lib.hid hget; clear hget
  obtain rfl : o = ⟨T.sh, 1, ByteArray.empty⟩ := by rw [← HO.out]; unfold kvGet; rw [HL.out.2]
  go_upto_region 3 with ((with_reducible refine Hget.out.mono ?_); rintro e w' ⟨rfl, rfl⟩)
  obtain ⟨z0, z1, z2, z3⟩ := (by have := deed_end HI.out T 1 ByteArray.empty Hat1.out; rwa [HP.out] at this)
  have e0 := HI.out.r0.cell
  have e1 := HI.out.r0.thawed 0
  obtain ⟨e2, e3⟩ := HI.out.r1.cells
  have e4 := HI.out.r1.thawed 0
  have e5 := HI.out.r1.thawed 1
  have Hz := Lib.hid (And.intro z0 (And.intro z1 (And.intro z2 z3))); clear z0 z1 z2 z3
  go_wp2_with fail
  change bodyPost _ _ _ _ _ (deedW w w1 P 1 ByteArray.empty)
  clear e0 e1 e2 e3 e4 e5
  have e0 := Hz.out.1.cell
  obtain ⟨e2, e3⟩ := Hz.out.2.1.cells
  generalize deedW w w1 P 1 ByteArray.empty = w9 at *
  refine bodyPost_ret (v := .tuple #[.agg #[.pointer P], .agg #[.int .u8 (1 : Int), .string ByteArray.empty]]) (by simp [results, Tryz.results168, go_sem, e0, e2, e3] <;> rfl) rfl ?_
  exact ⟨T, by rw [HP.out]; rfl, Hz.out.2.2.2, Hz.out.2.2.1, rfl, by omega, fun _ => rfl⟩
 | some v =>
  have Hget := Lib.hid hget; clear hget
  obtain rfl : o = ⟨T.sh, 0, v⟩ := by rw [← HO.out]; unfold kvGet; rw [HL.out.2]
  go_upto_region 4 with ((with_reducible refine Hget.out.mono ?_); rintro e w' ⟨rfl, rfl⟩)
  obtain ⟨z0, z1, z2, z3⟩ := (by have := deed_end HI.out T 0 v Hat1.out; rwa [HP.out] at this)
  have e0 := HI.out.r0.cell
  have e1 := HI.out.r0.thawed 0
  obtain ⟨e2, e3⟩ := HI.out.r1.cells
  have e4 := HI.out.r1.thawed 0
  have e5 := HI.out.r1.thawed 1
  have Hz := Lib.hid (And.intro z0 (And.intro z1 (And.intro z2 z3))); clear z0 z1 z2 z3
  go_wp2_with fail
  change bodyPost _ _ _ _ _ (deedW w w1 P 0 v)
  clear e0 e1 e2 e3 e4 e5
  have e0 := Hz.out.1.cell
  obtain ⟨e2, e3⟩ := Hz.out.2.1.cells
  generalize deedW w w1 P 0 v = w9 at *
  refine bodyPost_ret (v := .tuple #[.agg #[.pointer P], .agg #[.int .u8 (0 : Int), .string v]]) (by simp [results, Tryz.results168, go_sem, e0, e2, e3] <;> rfl) rfl ?_
  exact ⟨T, by rw [HP.out]; rfl, Hz.out.2.2.2, Hz.out.2.2.1, rfl, by omega, fun _ => rfl⟩
set_option maxRecDepth 100000 in
set_option maxHeartbeats 4000000 in
theorem kvput_any (c : CmdV) (hk : c.key.size ≤ maxLen) (T : Tr) (w : World) (hat : TreeAt w T) (hcnt : T.cnt ≤ 4611686018427387903) :
  Calls Tryz.prog 169 #[.agg #[.pointer T.ptr], .agg (cmdCells c).toArray] w fun e w' => ∃ X, e = .returned (.tuple #[.agg #[.pointer X.ptr], repV (kvPut T.sh c).code (kvPut T.sh c).text]) ∧
   KvPost T (kvPut T.sh c) (decide ((kvPut T.sh c).code ≠ 0)) w w' X := by
 obtain ⟨P, hP⟩ : ∃ P, T.ptr = P := ⟨_, rfl⟩
 have hI := deed_start w P c
 rw [hP]
 have HP := Lib.hid hP; clear hP
 obtain ⟨o, ho0⟩ : ∃ o, kvPut T.sh c = o := ⟨_, rfl⟩
 rw [ho0]
 have HO := Lib.hid ho0; clear ho0
 obtain ⟨L, hL⟩ : ∃ L, T.look c.key = L := ⟨_, rfl⟩
 have hL' : T.sh.look c.key = L := by rw [← sh_look]; exact hL
 go_enter Tryz.func169, Tryz.ntmps169
 go_upto_region 1 with fail
 rw [show w.heap.size + 1 + 1 = w.heap.size + 2 by omega, show w.heap.size + 2 + 1 = w.heap.size + 3 by omega]
 change Code.wp _ _ _ _ ((((w.alloc (.cells #[.pointer P] 34)).alloc (.cells (cmdCells c).toArray 56)).alloc (.cells #[.pointer none] 34)).alloc (.cells (repCells 0 ByteArray.empty).toArray 27))
 generalize (((w.alloc (.cells #[.pointer P] 34)).alloc (.cells (cmdCells c).toArray 56)).alloc (.cells #[.pointer none] 34)).alloc (.cells (repCells 0 ByteArray.empty).toArray 27) = w1 at *
 have hat1 := hat.below hI.bel
 have hget := get_any c.key T w1 hat1
 rw [hL] at hget
 rw [HP.out] at hget
 have HI := Lib.hid hI; clear hI
 have Hat1 := Lib.hid hat1; clear hat1
 have HL := Lib.hid (And.intro hL hL'); clear hL hL' hat
 have c0 := HI.out.bs.cell
 obtain ⟨d0, d1, d2, d3, d4, d5, d6⟩ := HI.out.bc.cells
 clear d0 d1 d2 d6
 have hlen := len_any T w1 Hat1.out
 rw [HP.out] at hlen
 have Hlen := Lib.hid hlen; clear hlen
 have hput := putT_any c.key c.fresh hk T w1.heap.size w1 (Nat.le_refl _) Hat1.out.lo Hat1.out (by omega)
 rw [HP.out, HL.out.1] at hput
 have Hput := Lib.hid hput; clear hput
 cases L with
 | none =>
  have Hget := Lib.hid hget; clear hget
  by_cases hfull : 256 ≤ T.cnt
  ·
   obtain rfl : o = ⟨T.sh, 2, ByteArray.empty⟩ := by rw [← HO.out]; unfold kvPut; rw [HL.out.2, ← sh_cnt]; simp [hfull]
   have hf' : (256 : Int) ≤ (T.cnt : Int) := by omega
   go_upto_region 3 with (first | ((with_reducible refine Hget.out.mono ?_); clear Hget; rintro e w' ⟨rfl, rfl⟩) | ((with_reducible refine Hlen.out.mono ?_); clear Hlen; rintro e w' ⟨rfl, rfl⟩) | ((with_reducible refine Hput.out.mono ?_); clear Hput; rintro e w2 ⟨X, rfl, hx⟩; have Hx := Lib.hid hx; clear hx))
   obtain ⟨z0, z1, z2, z3⟩ := (by have := deed_end HI.out T 2 ByteArray.empty Hat1.out; rwa [HP.out] at this)
   have e0 := HI.out.r0.cell
   have e1 := HI.out.r0.thawed 0
   obtain ⟨e2, e3⟩ := HI.out.r1.cells
   have e4 := HI.out.r1.thawed 0
   have e5 := HI.out.r1.thawed 1
   have Hz := Lib.hid (And.intro z0 (And.intro z1 (And.intro z2 z3))); clear z0 z1 z2 z3
   go_wp2_with fail
   change bodyPost _ _ _ _ _ (deedW w w1 P 2 ByteArray.empty)
   clear e0 e1 e2 e3 e4 e5
   have e0 := Hz.out.1.cell
   obtain ⟨e2, e3⟩ := Hz.out.2.1.cells
   generalize deedW w w1 P 2 ByteArray.empty = w9 at *
   refine bodyPost_ret (v := .tuple #[.agg #[.pointer P], .agg #[.int .u8 (2 : Int), .string ByteArray.empty]]) (by simp [results, Tryz.results169, go_sem, e0, e2, e3] <;> rfl) rfl ?_
   exact ⟨T, by rw [HP.out]; rfl, Hz.out.2.2.2, Hz.out.2.2.1, rfl, by omega, fun _ => rfl⟩
  ·
   obtain rfl : o = ⟨putSh c.key c.fresh T.sh none, 0, ByteArray.empty⟩ := by rw [← HO.out]; unfold kvPut; rw [HL.out.2, ← sh_cnt]; simp [hfull]
   have hf' : ¬ (256 : Int) ≤ (T.cnt : Int) := by omega
   go_wp2_with (first | ((with_reducible refine Hget.out.mono ?_); clear Hget; rintro e w' ⟨rfl, rfl⟩) | ((with_reducible refine Hlen.out.mono ?_); clear Hlen; rintro e w' ⟨rfl, rfl⟩) | ((with_reducible refine Hput.out.mono ?_); clear Hput; rintro e w2 ⟨X, rfl, hx⟩; have HI2 := Lib.hid (HI.out.below hx.bel); have Hx := Lib.hid hx; clear hx; have e0 := HI2.out.r0.cell; have e1 := HI2.out.r0.thawed 0; obtain ⟨e2, e3⟩ := HI2.out.r1.cells; have e4 := HI2.out.r1.thawed 0; have e5 := HI2.out.r1.thawed 1))
   have Hz := Lib.hid (deed_end HI2.out X 0 ByteArray.empty Hx.out.at_)
   change bodyPost _ _ _ _ _ (deedW w w2 X.ptr 0 ByteArray.empty)
   clear e0 e1 e2 e3 e4 e5
   have e0 := Hz.out.1.cell
   obtain ⟨e2, e3⟩ := Hz.out.2.1.cells
   generalize deedW w w2 X.ptr 0 ByteArray.empty = w9 at *
   refine bodyPost_ret (v := .tuple #[.agg #[.pointer X.ptr], .agg #[.int .u8 (0 : Int), .string ByteArray.empty]]) (by simp [results, Tryz.results169, go_sem, e0, e2, e3] <;> rfl) rfl ?_
   exact ⟨X, rfl, Hz.out.2.2.2, Hz.out.2.2.1, Hx.out.shp, Hx.out.num, fun h => by simp at h⟩
 | some v =>
  have Hget := Lib.hid hget; clear hget
  obtain rfl : o = ⟨putSh c.key c.fresh T.sh (some v), 0, ByteArray.empty⟩ := by rw [← HO.out]; unfold kvPut; rw [HL.out.2]
  go_wp2_with (first | ((with_reducible refine Hget.out.mono ?_); clear Hget; rintro e w' ⟨rfl, rfl⟩) | ((with_reducible refine Hlen.out.mono ?_); clear Hlen; rintro e w' ⟨rfl, rfl⟩) | ((with_reducible refine Hput.out.mono ?_); clear Hput; rintro e w2 ⟨X, rfl, hx⟩; have HI2 := Lib.hid (HI.out.below hx.bel); have Hx := Lib.hid hx; clear hx; have e0 := HI2.out.r0.cell; have e1 := HI2.out.r0.thawed 0; obtain ⟨e2, e3⟩ := HI2.out.r1.cells; have e4 := HI2.out.r1.thawed 0; have e5 := HI2.out.r1.thawed 1))
  have Hz := Lib.hid (deed_end HI2.out X 0 ByteArray.empty Hx.out.at_)
  change bodyPost _ _ _ _ _ (deedW w w2 X.ptr 0 ByteArray.empty)
  clear e0 e1 e2 e3 e4 e5
  have e0 := Hz.out.1.cell
  obtain ⟨e2, e3⟩ := Hz.out.2.1.cells
  generalize deedW w w2 X.ptr 0 ByteArray.empty = w9 at *
  refine bodyPost_ret (v := .tuple #[.agg #[.pointer X.ptr], .agg #[.int .u8 (0 : Int), .string ByteArray.empty]]) (by simp [results, Tryz.results169, go_sem, e0, e2, e3] <;> rfl) rfl ?_
  exact ⟨X, rfl, Hz.out.2.2.2, Hz.out.2.2.1, Hx.out.shp, Hx.out.num, fun h => by simp at h⟩
set_option maxRecDepth 100000 in
set_option maxHeartbeats 4000000 in
theorem kvdel_any (c : CmdV) (T : Tr) (w : World) (hat : TreeAt w T) (hcnt : T.cnt ≤ 4611686018427387903) :
  Calls Tryz.prog 170 #[.agg #[.pointer T.ptr], .agg (cmdCells c).toArray] w fun e w' => ∃ X, e = .returned (.tuple #[.agg #[.pointer X.ptr], repV (kvDel T.sh c).code (kvDel T.sh c).text]) ∧
   KvPost T (kvDel T.sh c) (decide ((kvDel T.sh c).code ≠ 0)) w w' X := by
 obtain ⟨P, hP⟩ : ∃ P, T.ptr = P := ⟨_, rfl⟩
 have hI := deed_start w P c
 rw [hP]
 have HP := Lib.hid hP; clear hP
 obtain ⟨o, ho0⟩ : ∃ o, kvDel T.sh c = o := ⟨_, rfl⟩
 rw [ho0]
 have HO := Lib.hid ho0; clear ho0
 obtain ⟨L, hL⟩ : ∃ L, T.look c.key = L := ⟨_, rfl⟩
 have hL' : T.sh.look c.key = L := by rw [← sh_look]; exact hL
 go_enter Tryz.func170, Tryz.ntmps170
 go_upto_region 1 with fail
 rw [show w.heap.size + 1 + 1 = w.heap.size + 2 by omega, show w.heap.size + 2 + 1 = w.heap.size + 3 by omega]
 change Code.wp _ _ _ _ ((((w.alloc (.cells #[.pointer P] 34)).alloc (.cells (cmdCells c).toArray 56)).alloc (.cells #[.pointer none] 34)).alloc (.cells (repCells 0 ByteArray.empty).toArray 27))
 generalize (((w.alloc (.cells #[.pointer P] 34)).alloc (.cells (cmdCells c).toArray 56)).alloc (.cells #[.pointer none] 34)).alloc (.cells (repCells 0 ByteArray.empty).toArray 27) = w1 at *
 have hat1 := hat.below hI.bel
 have hget := get_any c.key T w1 hat1
 rw [hL] at hget
 rw [HP.out] at hget
 have HI := Lib.hid hI; clear hI
 have Hat1 := Lib.hid hat1; clear hat1
 have HL := Lib.hid (And.intro hL hL'); clear hL hL' hat
 have c0 := HI.out.bs.cell
 obtain ⟨d0, d1, d2, d3, d4, d5, d6⟩ := HI.out.bc.cells
 clear d0 d1 d2 d6
 have hput := delT_any c.key T w1.heap.size w1 (Nat.le_refl _) Hat1.out.lo Hat1.out (by omega)
 rw [HP.out, HL.out.1] at hput
 have Hput := Lib.hid hput; clear hput
 cases L with
 | none =>
  have Hget := Lib.hid hget; clear hget
  obtain rfl : o = ⟨T.sh, 1, ByteArray.empty⟩ := by rw [← HO.out]; unfold kvDel; rw [HL.out.2]
  go_upto_region 3 with (first | ((with_reducible refine Hget.out.mono ?_); clear Hget; rintro e w' ⟨rfl, rfl⟩) | ((with_reducible refine Hlen.out.mono ?_); clear Hlen; rintro e w' ⟨rfl, rfl⟩) | ((with_reducible refine Hput.out.mono ?_); clear Hput; rintro e w2 ⟨X, rfl, hx⟩; have Hx := Lib.hid hx; clear hx))
  obtain ⟨z0, z1, z2, z3⟩ := (by have := deed_end HI.out T 1 ByteArray.empty Hat1.out; rwa [HP.out] at this)
  have e0 := HI.out.r0.cell
  have e1 := HI.out.r0.thawed 0
  obtain ⟨e2, e3⟩ := HI.out.r1.cells
  have e4 := HI.out.r1.thawed 0
  have e5 := HI.out.r1.thawed 1
  have Hz := Lib.hid (And.intro z0 (And.intro z1 (And.intro z2 z3))); clear z0 z1 z2 z3
  go_wp2_with fail
  change bodyPost _ _ _ _ _ (deedW w w1 P 1 ByteArray.empty)
  clear e0 e1 e2 e3 e4 e5
  have e0 := Hz.out.1.cell
  obtain ⟨e2, e3⟩ := Hz.out.2.1.cells
  generalize deedW w w1 P 1 ByteArray.empty = w9 at *
  refine bodyPost_ret (v := .tuple #[.agg #[.pointer P], .agg #[.int .u8 (1 : Int), .string ByteArray.empty]]) (by simp [results, Tryz.results170, go_sem, e0, e2, e3] <;> rfl) rfl ?_
  exact ⟨T, by rw [HP.out]; rfl, Hz.out.2.2.2, Hz.out.2.2.1, rfl, by omega, fun _ => rfl⟩
 | some v =>
  have Hget := Lib.hid hget; clear hget
  obtain rfl : o = ⟨delSh c.key T.sh (some v), 0, v⟩ := by rw [← HO.out]; unfold kvDel; rw [HL.out.2]
  go_wp2_with (first | ((with_reducible refine Hget.out.mono ?_); clear Hget; rintro e w' ⟨rfl, rfl⟩) | ((with_reducible refine Hlen.out.mono ?_); clear Hlen; rintro e w' ⟨rfl, rfl⟩) | ((with_reducible refine Hput.out.mono ?_); clear Hput; rintro e w2 ⟨X, rfl, hx⟩; have HI2 := Lib.hid (HI.out.below hx.bel); have Hx := Lib.hid hx; clear hx; have e0 := HI2.out.r0.cell; have e1 := HI2.out.r0.thawed 0; obtain ⟨e2, e3⟩ := HI2.out.r1.cells; have e4 := HI2.out.r1.thawed 0; have e5 := HI2.out.r1.thawed 1))
  have Hz := Lib.hid (deed_end HI2.out X 0 v Hx.out.at_)
  change bodyPost _ _ _ _ _ (deedW w w2 X.ptr 0 v)
  clear e0 e1 e2 e3 e4 e5
  have e0 := Hz.out.1.cell
  obtain ⟨e2, e3⟩ := Hz.out.2.1.cells
  generalize deedW w w2 X.ptr 0 v = w9 at *
  refine bodyPost_ret (v := .tuple #[.agg #[.pointer X.ptr], .agg #[.int .u8 (0 : Int), .string v]]) (by simp [results, Tryz.results170, go_sem, e0, e2, e3] <;> rfl) rfl ?_
  exact ⟨X, rfl, Hz.out.2.2.2, Hz.out.2.2.1, Hx.out.shp, Hx.out.num, fun h => by simp at h⟩
set_option maxRecDepth 100000 in
set_option maxHeartbeats 4000000 in
theorem kvcas_any (c : CmdV) (hk : c.key.size ≤ maxLen) (T : Tr) (w : World) (hat : TreeAt w T) (hcnt : T.cnt ≤ 4611686018427387903) :
  Calls Tryz.prog 171 #[.agg #[.pointer T.ptr], .agg (cmdCells c).toArray] w fun e w' => ∃ X, e = .returned (.tuple #[.agg #[.pointer X.ptr], repV (kvCas T.sh c).code (kvCas T.sh c).text]) ∧
   KvPost T (kvCas T.sh c) (decide ((kvCas T.sh c).code ≠ 0)) w w' X := by
 obtain ⟨P, hP⟩ : ∃ P, T.ptr = P := ⟨_, rfl⟩
 have hI := deed_start w P c
 rw [hP]
 have HP := Lib.hid hP; clear hP
 obtain ⟨o, ho0⟩ : ∃ o, kvCas T.sh c = o := ⟨_, rfl⟩
 rw [ho0]
 have HO := Lib.hid ho0; clear ho0
 obtain ⟨L, hL⟩ : ∃ L, T.look c.key = L := ⟨_, rfl⟩
 have hL' : T.sh.look c.key = L := by rw [← sh_look]; exact hL
 go_enter Tryz.func171, Tryz.ntmps171
 go_upto_region 1 with fail
 rw [show w.heap.size + 1 + 1 = w.heap.size + 2 by omega, show w.heap.size + 2 + 1 = w.heap.size + 3 by omega]
 change Code.wp _ _ _ _ ((((w.alloc (.cells #[.pointer P] 34)).alloc (.cells (cmdCells c).toArray 56)).alloc (.cells #[.pointer none] 34)).alloc (.cells (repCells 0 ByteArray.empty).toArray 27))
 generalize (((w.alloc (.cells #[.pointer P] 34)).alloc (.cells (cmdCells c).toArray 56)).alloc (.cells #[.pointer none] 34)).alloc (.cells (repCells 0 ByteArray.empty).toArray 27) = w1 at *
 have hat1 := hat.below hI.bel
 have hget := get_any c.key T w1 hat1
 rw [hL] at hget
 rw [HP.out] at hget
 have HI := Lib.hid hI; clear hI
 have Hat1 := Lib.hid hat1; clear hat1
 have HL := Lib.hid (And.intro hL hL'); clear hL hL' hat
 have c0 := HI.out.bs.cell
 obtain ⟨d0, d1, d2, d3, d4, d5, d6⟩ := HI.out.bc.cells
 clear d0 d1 d2 d6
 have hput := putT_any c.key c.fresh hk T w1.heap.size w1 (Nat.le_refl _) Hat1.out.lo Hat1.out (by omega)
 rw [HP.out, HL.out.1] at hput
 have Hput := Lib.hid hput; clear hput
 cases L with
 | none =>
  have Hget := Lib.hid hget; clear hget
  obtain rfl : o = ⟨T.sh, 1, ByteArray.empty⟩ := by rw [← HO.out]; unfold kvCas; rw [HL.out.2]
  go_upto_region 3 with (first | ((with_reducible refine Hget.out.mono ?_); clear Hget; rintro e w' ⟨rfl, rfl⟩) | ((with_reducible refine Hlen.out.mono ?_); clear Hlen; rintro e w' ⟨rfl, rfl⟩) | ((with_reducible refine Hput.out.mono ?_); clear Hput; rintro e w2 ⟨X, rfl, hx⟩; have Hx := Lib.hid hx; clear hx))
  obtain ⟨z0, z1, z2, z3⟩ := (by have := deed_end HI.out T 1 ByteArray.empty Hat1.out; rwa [HP.out] at this)
  have e0 := HI.out.r0.cell
  have e1 := HI.out.r0.thawed 0
  obtain ⟨e2, e3⟩ := HI.out.r1.cells
  have e4 := HI.out.r1.thawed 0
  have e5 := HI.out.r1.thawed 1
  have Hz := Lib.hid (And.intro z0 (And.intro z1 (And.intro z2 z3))); clear z0 z1 z2 z3
  go_wp2_with fail
  change bodyPost _ _ _ _ _ (deedW w w1 P 1 ByteArray.empty)
  clear e0 e1 e2 e3 e4 e5
  have e0 := Hz.out.1.cell
  obtain ⟨e2, e3⟩ := Hz.out.2.1.cells
  generalize deedW w w1 P 1 ByteArray.empty = w9 at *
  refine bodyPost_ret (v := .tuple #[.agg #[.pointer P], .agg #[.int .u8 (1 : Int), .string ByteArray.empty]]) (by simp [results, Tryz.results171, go_sem, e0, e2, e3] <;> rfl) rfl ?_
  exact ⟨T, by rw [HP.out]; rfl, Hz.out.2.2.2, Hz.out.2.2.1, rfl, by omega, fun _ => rfl⟩
 | some v =>
  have Hget := Lib.hid hget; clear hget
  obtain ⟨g0, g1, g2, g3, g4, g5, g6⟩ := HI.out.bc.cells
  clear g0 g1 g2 g3 g5 g6
  by_cases hv : v = c.old
  ·
   subst hv
   obtain rfl : o = ⟨putSh c.key c.fresh T.sh (some c.old), 0, ByteArray.empty⟩ := by rw [← HO.out]; unfold kvCas; rw [HL.out.2]; simp
   go_wp2_with (first | ((with_reducible refine Hget.out.mono ?_); clear Hget; rintro e w' ⟨rfl, rfl⟩) | ((with_reducible refine Hlen.out.mono ?_); clear Hlen; rintro e w' ⟨rfl, rfl⟩) | ((with_reducible refine Hput.out.mono ?_); clear Hput; rintro e w2 ⟨X, rfl, hx⟩; have HI2 := Lib.hid (HI.out.below hx.bel); have Hx := Lib.hid hx; clear hx; have e0 := HI2.out.r0.cell; have e1 := HI2.out.r0.thawed 0; obtain ⟨e2, e3⟩ := HI2.out.r1.cells; have e4 := HI2.out.r1.thawed 0; have e5 := HI2.out.r1.thawed 1))
   have Hz := Lib.hid (deed_end HI2.out X 0 ByteArray.empty Hx.out.at_)
   change bodyPost _ _ _ _ _ (deedW w w2 X.ptr 0 ByteArray.empty)
   clear e0 e1 e2 e3 e4 e5
   have e0 := Hz.out.1.cell
   obtain ⟨e2, e3⟩ := Hz.out.2.1.cells
   generalize deedW w w2 X.ptr 0 ByteArray.empty = w9 at *
   refine bodyPost_ret (v := .tuple #[.agg #[.pointer X.ptr], .agg #[.int .u8 (0 : Int), .string ByteArray.empty]]) (by simp [results, Tryz.results171, go_sem, e0, e2, e3] <;> rfl) rfl ?_
   exact ⟨X, rfl, Hz.out.2.2.2, Hz.out.2.2.1, Hx.out.shp, Hx.out.num, fun h => by simp at h⟩
  ·
   obtain rfl : o = ⟨T.sh, 2, v⟩ := by rw [← HO.out]; unfold kvCas; rw [HL.out.2]; simp [hv]
   have hvt := txt_ne hv
   clear hv
   go_upto_region 5 with (first | ((with_reducible refine Hget.out.mono ?_); clear Hget; rintro e w' ⟨rfl, rfl⟩) | ((with_reducible refine Hlen.out.mono ?_); clear Hlen; rintro e w' ⟨rfl, rfl⟩) | ((with_reducible refine Hput.out.mono ?_); clear Hput; rintro e w2 ⟨X, rfl, hx⟩; have Hx := Lib.hid hx; clear hx))
   obtain ⟨z0, z1, z2, z3⟩ := (by have := deed_end HI.out T 2 v Hat1.out; rwa [HP.out] at this)
   have e0 := HI.out.r0.cell
   have e1 := HI.out.r0.thawed 0
   obtain ⟨e2, e3⟩ := HI.out.r1.cells
   have e4 := HI.out.r1.thawed 0
   have e5 := HI.out.r1.thawed 1
   have Hz := Lib.hid (And.intro z0 (And.intro z1 (And.intro z2 z3))); clear z0 z1 z2 z3
   go_wp2_with fail
   change bodyPost _ _ _ _ _ (deedW w w1 P 2 v)
   clear e0 e1 e2 e3 e4 e5
   have e0 := Hz.out.1.cell
   obtain ⟨e2, e3⟩ := Hz.out.2.1.cells
   generalize deedW w w1 P 2 v = w9 at *
   refine bodyPost_ret (v := .tuple #[.agg #[.pointer P], .agg #[.int .u8 (2 : Int), .string v]]) (by simp [results, Tryz.results171, go_sem, e0, e2, e3] <;> rfl) rfl ?_
   exact ⟨T, by rw [HP.out]; rfl, Hz.out.2.2.2, Hz.out.2.2.1, rfl, by omega, fun _ => rfl⟩
end Go.Proofs.YtbckjgageofldaaGreat
