/- Maps as functions from keys to values. Over any program. No condition. -/
import Derived.Maps.OwnSet
import Derived.Maps.OwnOps
import Derived.Test.YtjjlodeiejobdaaDoorZPlayWrites1
import Derived.Test.YtjjlodeiejobdaaDoorZPlayWrites4
import Derived.Test.YtjjlodeiejobdaaDoorZPlayWrites2
import Derived.Deep.MidRow
namespace Go.Proofs.YtjjlodeiejobdaaDoor
open Go.RowKit
open Go.Maps (Keyed)
open Go.ChangeMaps Go.MapKept
/-- How a value reads: as itself. -/
def Rv (v : Value) : Option (DataW Value × List MemPlace) := some (.held v, [])
/-- Block b is a map of at most n entries that holds what M tells. -/
def MpAt (P : Program) (k : TypeId) (w : World) (b n : Nat) (M : Lit → Option Value) : Prop :=
  ∃ D : DataW Value, w.ownsMap P k Rv b n D ∧ ∀ l, WideAt.IsKeyLit l → Maps.has D l = (M l).isSome ∧ ∀ v, M l = some v → ∀ z, D.atKey l z = .held v
def mpPut (M : Lit → Option Value) (k : Lit) (v : Value) : Lit → Option Value := fun l => if l.sameKey k then some v else M l
def mpDel (M : Lit → Option Value) (k : Lit) : Lit → Option Value := fun l => if l.sameKey k then none else M l
section
variable {P : Program} {k : TypeId} {w w' : World} {b n : Nat} {M : Lit → Option Value}
theorem MpAt.lt (h : MpAt P k w b n M) : b < w.heap.size := by obtain ⟨_, h, _⟩ := h; exact h.lt
theorem MpAt.below (h : MpAt P k w b n M) (hb : Below w.heap.size w w') : MpAt P k w' b n M := by
  obtain ⟨D, ⟨es, clock, hg, r⟩, hM⟩ := h
  exact ⟨D, ⟨es, clock, (hb.block b (Array.getElem?_eq_some_iff.1 hg).1).trans hg, r⟩, hM⟩
theorem MpAt.mono (h : MpAt P k w b n M) {m : Nat} (hm : n ≤ m) : MpAt P k w b m M := by obtain ⟨D, h, hM⟩ := h; exact ⟨D, h.mono hm, hM⟩
theorem mp_new (P : Program) (k : TypeId) (w : World) : MpAt P k (w.alloc (.map #[] 0)) w.heap.size 0 (fun _ => none) :=
  ⟨.map [], World.ownsMap_made w P k Rv, fun l _ => ⟨rfl, fun v h => by cases h⟩⟩
theorem mp_at (_h : MpAt P k w b n M) {l : Lit} (_hl : WideAt.IsKeyLit l) {v : Value} {ps : List MemPlace} {z : Value} {D : DataW Value} (hD : Maps.has D l = (M l).isSome ∧ ∀ v, M l = some v → ∀ z, D.atKey l z = .held v) (hv : Rv v = some (D.atKey l (.held z), ps)) : v = (M l).getD z := by
  have e : DataW.held v = D.atKey l (.held z) := congrArg Prod.fst (Option.some.inj hv)
  cases hm : M l with
  | none =>
    rw [hm] at hD
    rw [Maps.atKey_of_not_has hD.1] at e
    cases e
    rfl
  | some u =>
    rw [hD.2 u hm] at e
    cases e
    rfl
/-- 'v, ok := m[k]'. -/
theorem MpAt.look_ok {t e : TypeId} (h : MpAt P k w b n M) (K : Keyed P k) (ht : P.underlying t = some (.map k e)) {z : Value} (hz : (zeroValue e).run P w = .ok z w) {key : Value} {kl : Lit} (hkey : keyOf P k key = some kl) :
    (Instr.lookup t (.map (some b)) key true).run P w = .ok (.tuple #[(M kl).getD z, .bool (M kl).isSome]) w := by
  have h2 := h
  obtain ⟨D, ho, hM⟩ := h
  obtain ⟨v, ps, hrun, hv⟩ := ho.look_ok K ht hz (zd := .held z) (zp := []) rfl hkey
  rw [hrun, mp_at h2 (K.key hkey) (hM _ (K.key hkey)) hv, (hM _ (K.key hkey)).1]
/-- 'm[k] = v'. -/
theorem MpAt.store {t e : TypeId} (h : MpAt P k w b n M) (K : Keyed P k) (ht : P.underlying t = some (.map k e)) (hn : n < maxLen) {key val : Value} {kl : Lit} (hkey : keyOf P k key = some kl) :
    ∃ w', (Instr.mapUpdate t (.map (some b)) key val).run P w = .ok () w' ∧ MpAt P k w' b (n + 1) (mpPut M kl val) ∧ w.mapTurned w' b := by
  obtain ⟨D, ho, hM⟩ := h
  obtain ⟨w', hrun, ho', ht'⟩ := ho.store K ht hn (d := .held val) (ps := []) hkey rfl
  refine ⟨w', hrun, ⟨_, ho', fun l hl => ?_⟩, ht'⟩
  unfold mpPut
  by_cases he : l = kl
  · subst he
    rw [if_pos (WideAt.sameKey_self hl)]
    exact ⟨Maps.has_put_same ho.isMap hl _, fun v hv z => by cases hv; exact Maps.atKey_put_same ho.isMap hl _ _⟩
  · rw [if_neg (fun q => he (WideAt.sameKey_eq q))]
    refine ⟨(Maps.has_put_other he _).trans (hM l hl).1, fun v hv z => (Maps.atKey_put_other he _ _).trans ((hM l hl).2 v hv z)⟩
/-- 'delete(m, k)'. -/
theorem MpAt.drop {t e : TypeId} (h : MpAt P k w b n M) (K : Keyed P k) (ht : P.underlying t = some (.map k e)) {key : Value} {kl : Lit} (hkey : keyOf P k key = some kl) (ty : TypeId) :
    ∃ w', (Builtin.delete_ #[t, k] ty #[.map (some b), key]).run P w = .ok (.tuple #[]) w' ∧ MpAt P k w' b n (mpDel M kl) ∧ w.mapTurned w' b := by
  obtain ⟨D, ho, hM⟩ := h
  obtain ⟨w', hrun, ho', ht'⟩ := ho.drop K ht hkey ty
  refine ⟨w', hrun, ⟨_, ho', fun l hl => ?_⟩, ht'⟩
  unfold mpDel
  by_cases he : l = kl
  · subst he
    rw [if_pos (WideAt.sameKey_self hl)]
    exact ⟨Maps.has_del_same, fun v hv => by cases hv⟩
  · rw [if_neg (fun q => he (WideAt.sameKey_eq q))]
    exact ⟨(Maps.has_del_other he).trans (hM l hl).1, fun v hv z => (Maps.atKey_del_other he _).trans ((hM l hl).2 v hv z)⟩
theorem turned_below {w w' w0 : World} {b m : Nat} (h : w.mapTurned w' b) (h0 : Below m w0 w) (hm : m ≤ b) : Below m w0 w' := by
  obtain ⟨es, clock, es', clock', hb, rfl⟩ := h
  refine h0.trans ⟨rfl, rfl, rfl, by simp [setBlock], fun g hg => heap_setBlock_other hb _ (fun e => ?_)⟩
  omega
end
section
variable {P : Program} {w : World} {ops : Array Oper} {rest : List Oper} {o : Oper} {a : Act} {Q : Exit → Act → World → Prop} {k : TypeId} {b n : Nat} {M : Lit → Option Value}
theorem wpList_lookok_mp (hg : o.guard = none) (m x : Operand) (t e : TypeId) (hop : o.op = Op.lookup t m x true) (K : Keyed P k) (ht : P.underlying t = some (.map k e)) {z : Value} (hz : ∀ w, (zeroValue e).run P w = .ok z w)
    (hm : a.eval m = .map (some b)) (h : MpAt P k w b n M) (key : Value) (kl : Lit) (hx : a.eval x = key) (hkey : keyOf P k key = some kl)
    (hK : wpList P ops Q rest (a.put o.dst (.tuple #[(M kl).getD z, .bool (M kl).isSome])) w) : wpList P ops Q (o :: rest) a w := by
  refine wpList_plain hg fun K' hK' => ?_
  unfold Oper.wp
  simp [execOp, hop, hm, hx, h.look_ok K ht (hz w) hkey, Result.andThen]
  exact hK' _ _ hK
end
end Go.Proofs.YtjjlodeiejobdaaDoor
namespace Go.Proofs.YtjjlodeiejobdaaDoor
open Go.RowKit Go.Shelf
open Go.Maps (Keyed)
open Go.ChangeMaps Go.MapKept
theorem lawS : Keyed Tryd.prog 9 := Maps.string_keyed Tryd.underlying9
theorem key_ks {s : ByteArray} (h : s.size ≤ maxLen) : keyOf Tryd.prog 9 (.string s) = some (.string s.data.toList) := Go.WideMaps.keyOf_string_mk Tryd.underlying9 h
theorem wpList_ins_mp {P : Program} {w : World} {ops : Array Oper} {rest : List Oper} {o : Oper} {a : Act} {Q : Exit → Act → World → Prop} {k : TypeId} {b n : Nat} {M : Lit → Option Value} (hg : o.guard = none) (m x v : Operand) (t e : TypeId) (hop : o.op = Op.insert t m x v) (K : Keyed P k) (ht : P.underlying t = some (.map k e))
    (hm : a.eval m = .map (some b)) (h : MpAt P k w b n M) (hn : n < maxLen) (key val : Value) (kl : Lit) (hx : a.eval x = key) (hv : a.eval v = val) (hkey : keyOf P k key = some kl)
    (hK : ∀ w', MpAt P k w' b (n + 1) (mpPut M kl val) → w.mapTurned w' b → wpList P ops Q rest (a.put o.dst undef) w') : wpList P ops Q (o :: rest) a w := by
  refine wpList_plain hg fun K' hK' => ?_
  obtain ⟨w', hrun, r1, r2⟩ := h.store K ht hn (val := val) hkey
  unfold Oper.wp
  simp [execOp, hop, hm, hx, hv, hrun, Result.andThen]
  exact hK' _ _ (hK w' r1 r2)
def formC (f : FormV) : List Value := [.int .u8 (f.d : Int), .int .u8 (f.k : Int), .string ⟨f.t.toArray⟩]
def formV (f : FormV) : Value := .agg (formC f).toArray
/-- The table, as a function. -/
def formM : Lit → Option Value := FT.foldr (fun f M => mpPut M (.string f.w) (formV f)) (fun _ => none)
theorem fold_at (b : Bs) : ∀ l : List FormV, (l.foldr (fun f M => mpPut M (.string f.w) (formV f)) (fun _ => none)) (.string b) = (l.find? (fun f => decide (f.w = b))).map formV
  | [] => rfl
  | f :: r => by
    rw [List.foldr_cons, List.find?_cons, mpPut]
    have e : (Lit.string b).sameKey (.string f.w) = decide (f.w = b) := by
      show (b == f.w) = _
      rw [Bool.eq_iff_iff, beq_iff_eq, decide_eq_true_iff]
      exact eq_comm
    rw [e]
    by_cases h : f.w = b
    · simp [h]
    · simp [h, fold_at b r]
theorem formM_at (b : Bs) : formM (.string b) = (FT.find? (fun f => decide (f.w = b))).map formV := fold_at b FT
set_option maxRecDepth 100000 in
set_option maxHeartbeats 4000000 in
theorem forms_any (w : World) : Calls Tryd.prog 24 #[] w fun e w' => e = .returned (.map (some w.heap.size)) ∧ MpAt Tryd.prog 9 w' w.heap.size 17 formM ∧ Below w.heap.size w w' := by
  have Hm := Lib.hid (mp_new Tryd.prog 9 w)
  have Hb := Lib.hid ((Below.refl w.heap.size w).alloc (Nat.le_refl _) (.map #[] 0))
  go_enter Tryd.func24, Tryd.ntmps24
  have hmm := @run_makeMap Tryd.prog
  go_wp2_with (refine wpList_ins_mp rfl _ _ _ 59 62 rfl lawS Tryd.underlying59 rfl Hm.out (by decide) _ _ _ rfl rfl (key_ks (by decide)) ?_; clear Hm; intro w1 hm1 ht1; have Hm := Lib.hid hm1; have Hb1 := Lib.hid (turned_below ht1 Hb.out (Nat.le_refl _)); clear Hb hm1 ht1; have Hb := Hb1; clear Hb1)
  go_ret
  exact ⟨rfl, Hm.out, Hb.out⟩
end Go.Proofs.YtjjlodeiejobdaaDoor
namespace Go.Proofs.YtjjlodeiejobdaaDoor
open Go.RowKit
theorem st_eq {g : Nat} : ∀ (vs : List Value) (i : Nat) (y : World), y.setCells g i vs = rowSt y g i vs
  | [], _, _ => rfl
  | _ :: r, i, _ => st_eq r (i + 1) _
theorem range_row {y : World} {g : Nat} {cs : List Value} {t : TypeId} (h : y.heap[g]? = some (.cells cs.toArray t (0, 0))) : y.rangeAt g 0 cs := fun j v hv => by
  rw [Nat.zero_add]
  simp only [World.cell?, h]
  simpa using hv
theorem there_row {y : World} {g : Nat} {cs : List Value} {t : TypeId} (h : y.heap[g]? = some (.cells cs.toArray t (0, 0))) : y.there g 0 cs.length := fun j hj => ⟨by
  rw [Nat.zero_add]
  simp only [World.cell?, h]
  simp [hj], by
  rw [Nat.zero_add]
  unfold World.frozen?
  rw [h]
  rfl⟩
/-- A whole variable is loaded. -/
theorem row_loadAt {P : Program} {y : World} {g : Nat} {cs : List Value} {t : TypeId} {d : TypeDesc} (h : y.heap[g]? = some (.cells cs.toArray t (0, 0))) (hu : P.underlying t = some d) (hd : d.isRow = true) (hs : (P.info? t).map (·.size) = some cs.length) :
    (Instr.loadAt t (.pointer (some ⟨g, 0, none⟩))).run P y = .ok (.agg cs.toArray) y := run_loadAt_mid y g 0 t cs d (range_row h) hu hd hs
/-- A load, as an operation of a region, by what is loaded. -/
theorem exec_load {P : Program} {ρ : Operand → Value} {o : Oper} {t : TypeId} {a : Operand} (h : o.op = .load t a) {p : Value} (ha : ρ a = p) {y : World} {V : Value} (hr : (Instr.loadAt t p).run P y = .ok V y) : (execOp ρ o).run P y = .ok (.value V) y := by
  simp only [execOp, h, ha, Sem.run_bind, hr, Result.andThen_ok, Sem.run_pure]
/-- A new variable, and what is stored into it. -/
theorem box_row (y : World) (cs0 cs : List Value) (t : TypeId) (hl : cs0.length = cs.length) : ((y.alloc (.cells cs0.toArray t)).setCells y.heap.size 0 cs).heap[y.heap.size]? = some (.cells cs.toArray t (0, 0)) := by
  rw [st_eq]
  exact rowSt_row cs [] cs0 _ (heap_alloc_new _ _) hl
theorem box_below (y : World) (cs0 cs : List Value) (t : TypeId) : Below y.heap.size y ((y.alloc (.cells cs0.toArray t)).setCells y.heap.size 0 cs) := by
  rw [st_eq]
  exact rowSt_below (Nat.le_refl _) cs 0 _ ((Below.refl _ _).alloc (Nat.le_refl _) _)
end Go.Proofs.YtjjlodeiejobdaaDoor
namespace Go.Proofs.YtjjlodeiejobdaaDoor
open Go.RowKit Go.Shelf
open Go.Maps (Keyed)
open Go.ChangeMaps Go.MapKept
/-- Texts that lie side by side. -/
structure StrsAt (w : World) (g o : Nat) (ws : List ByteArray) : Prop where
  lt : g < w.heap.size
  at_ : ∀ (j : Nat) x, ws[j]? = some x → w.cell? ⟨g, o + j, none⟩ = some (.string x)
theorem StrsAt.below {w w' : World} {g o : Nat} {ws : List ByteArray} (h : StrsAt w g o ws) (hb : Below w.heap.size w w') : StrsAt w' g o ws := ⟨Nat.lt_of_lt_of_le h.lt hb.size, fun j x hj => (World.cell?_of_block (hb.block g h.lt)).trans (h.at_ j x hj)⟩
theorem StrsAt.tail {w : World} {g o : Nat} {x : ByteArray} {ws : List ByteArray} (h : StrsAt w g o (x :: ws)) : StrsAt w g (o + 1) ws := ⟨h.lt, fun j y hj => by rw [show o + 1 + j = o + (j + 1) by omega]; exact h.at_ (j + 1) y hj⟩
def formZ : FormV := ⟨[], 0, 0, []⟩
theorem formC_one (f : FormV) : ∀ u ∈ formC f, u.oneCell' = true := by simp [formC, Value.oneCell']
theorem formC_size (f : FormV) : (Tryd.prog.info? 62).map (·.size) = some (formC f).length := (by kernel_rfl : (Tryd.prog.info? 62).map (·.size) = some 3)
def FormAt (w : World) (g : Nat) (f : FormV) : Prop := w.heap[g]? = some (.cells (formC f).toArray 62 (0, 0))
theorem FormAt.below {w w' : World} {g : Nat} {f : FormV} (h : FormAt w g f) (hb : Below w.heap.size w w') : FormAt w' g f := (hb.block g (Array.getElem?_eq_some_iff.1 h).1).trans h
theorem FormAt.lt {w : World} {g : Nat} {f : FormV} (h : FormAt w g f) : g < w.heap.size := (Array.getElem?_eq_some_iff.1 h).1
theorem FormAt.cells {w : World} {g : Nat} {f : FormV} (h : FormAt w g f) : w.cell? ⟨g, 0, none⟩ = some (.int .u8 (f.d : Int)) ∧ w.cell? ⟨g, 1, none⟩ = some (.int .u8 (f.k : Int)) ∧ w.cell? ⟨g, 2, none⟩ = some (.string ⟨f.t.toArray⟩) := ⟨cell_of_row _ _ _ _ _ _ h, cell_of_row _ _ _ _ _ _ h, cell_of_row _ _ _ _ _ _ h⟩
theorem form_loadVar {y : World} {g : Nat} {f : FormV} (h : FormAt y g f) : (loadVar 62 ⟨g, 0, none⟩).run Tryd.prog y = .ok (formV f) y := run_loadVar_mid y g 0 62 (formC f) _ (range_row h) Tryd.underlying62 rfl (formC_size f)
/-- What formOf tells. -/
def FormR (R : Option FormV) (w : World) (e : Ending) (w' : World) : Prop := Below w.heap.size w w' ∧ ∃ (f : FormV) (wd : ByteArray), e = .returned (.tuple #[formV f, .string wd, .bool R.isSome]) ∧ ∀ g, R = some g → f = g ∧ wd = ⟨g.w.toArray⟩
theorem FormR.bad {R : Option FormV} {w w' : World} (hb : Below w.heap.size w w') (h : R = none) (f : FormV) (wd : ByteArray) : FormR R w (.returned (.tuple #[formV f, .string wd, .bool false])) w' := by
  subst h
  exact ⟨hb, f, wd, rfl, fun g h => by cases h⟩
theorem FormR.good {R : Option FormV} {w w' : World} (hb : Below w.heap.size w w') {f : FormV} {wd : ByteArray} {q : Bool} (h : R = if q then some f else none) (hw : wd.data.toList = f.w) : FormR R w (.returned (.tuple #[formV f, .string wd, .bool q])) w' := by
  subst h
  cases q
  · exact ⟨hb, f, wd, rfl, fun g h => by cases h⟩
  · exact ⟨hb, f, wd, rfl, fun g h => by cases h; exact ⟨rfl, by rw [← hw]⟩⟩
theorem formL_of {ws : List Bs} {w0 : Bs} {r : List Bs} (hw : ws = w0 :: r) (h : ¬ (w0 = INV ∧ ws.length < 3)) (wd : Bs) (hwd : wd = if w0 = INV then ws.getD 2 [] else w0) : formL ws = (FT.find? (fun f => decide (f.w = wd))).bind (fun f => if decide (f.d = 12) = decide (w0 = INV) then some f else none) := by
  subst hw hwd
  unfold formL
  rw [if_neg (show ¬ ((w0 :: r).headD [] = INV ∧ (w0 :: r).length < 3) from h)]
  show (match FT.find? (fun f => decide (f.w = if w0 = INV then (w0 :: r).getD 2 [] else w0)) with
    | some f => if decide (f.d = 12) = decide (w0 = INV) then some f else none
    | none => none) = _
  cases FT.find? (fun f => decide (f.w = if w0 = INV then (w0 :: r).getD 2 [] else w0)) <;> rfl
theorem formL_short {ws : List Bs} {w0 : Bs} {r : List Bs} (hw : ws = w0 :: r) (h : w0 = INV ∧ ws.length < 3) : formL ws = none := by
  subst hw
  unfold formL
  rw [if_pos (show (w0 :: r).headD [] = INV ∧ (w0 :: r).length < 3 from h)]
/-- 'y' is as 'w', but for one block. -/
structure ButOne (g : Nat) (w y : World) : Prop where
  os : y.os = w.os
  tape : y.tape = w.tape
  output : y.output = w.output
  size : w.heap.size ≤ y.heap.size
  block : ∀ k, k < w.heap.size → k ≠ g → y.heap[k]? = w.heap[k]?
theorem ButOne.form {g gx : Nat} {w y : World} {f : FormV} (hb : ButOne g w y) (h : FormAt w gx f) (hg : g < gx) : FormAt y gx f := (hb.block gx h.lt (by omega)).trans h
theorem th_new3 (y : World) (cs0 : List Value) (t : TypeId) : (y.alloc (.cells cs0.toArray t)).there y.heap.size 0 cs0.length := there_row (heap_alloc_new _ _)
theorem zero_form (w : World) : (zeroValue 62).run Tryd.prog w = .ok (formV formZ) w := by kernel_rfl
set_option maxRecDepth 100000 in
set_option maxHeartbeats 8000000 in
theorem formOf_any (x0 : ByteArray) (r : List ByteArray) (hsz : ∀ x ∈ x0 :: r, x.size ≤ 1000000) (hlen : r.length ≤ 1000000) (g o c : Nat) (w : World) (h : StrsAt w g o (x0 :: r)) :
    Calls Tryd.prog 28 #[.slice (some ⟨g, o, none⟩) (r.length + 1) c] w (FormR (formL ((x0 :: r).map (·.data.toList))) w) := by
  have hb0 := (Below.refl w.heap.size w).alloc (Nat.le_refl _) (.cells (formC formZ).toArray 62)
  have HS0 := Lib.hid h
  go_enter Tryd.func28, Tryd.ntmps28
  go_upto_region 1 with fail
  change Code.wp _ _ _ _ (w.alloc (.cells (formC formZ).toArray 62))
  have HG0 := Lib.hid (show FormAt (w.alloc (.cells (formC formZ).toArray 62)) w.heap.size formZ from heap_alloc_new _ _)
  have HB := Lib.hid (And.intro hb0 (h.below hb0))
  clear h hb0 HS0
  generalize w.alloc (.cells (formC formZ).toArray 62) = wr at *
  have HS := Lib.hid HB.out.2
  refine (wpIn_wide (n := 1)).1 ?_
  refine RegJ.wpIn_region_plan (F := Fence.wide) (KeptW wr) (.step 0 0 (.step 1 0 (.step 2 0 (.step 3 0 (.step 4 0 (.step 5 0 (.step 6 0 (.step 7 0 (.step 8 0 .nil))))))))) (by kernel_rfl) (by kernel_rfl) (by kernel_rfl) (fun _ _ d _ _ h => by cases d <;> exact h) ⟨rfl, rfl, rfl, Nat.le_refl _, fun _ _ => rfl⟩ ?_
  dsimp only [RegJ.pickJ, List.getElem?_cons_zero, List.getElem?_cons_succ]
  change RegJ.Can _ _ _ _ _ _ _ _ wr.drew
  have hkd : KeptW wr wr.drew := ⟨rfl, rfl, rfl, Nat.le_refl _, fun _ _ => rfl⟩
  generalize wr.drew = v1 at *
  iterate 2 (refine RegJ.reads ?_; intro K hK; go_simp; (first | refine ⟨_, fun _ _ => rfl, hK _ ?_⟩ | refine hK _ ?_); clear hK K)
  refine RegJ.reads ?_
  intro K hK
  go_simp
  refine ⟨.string x0, fun y hy => ?_, hK _ ?_⟩
  · have f0 : y.cell? ⟨g, o, none⟩ = some (.string x0) := (StrsAt.below HS.out (KeptW.bel hy)).at_ 0 x0 rfl
    go_simp
  clear hK K
  iterate 2 (refine RegJ.reads ?_; intro K hK; go_simp; (first | refine ⟨_, fun _ _ => rfl, hK _ ?_⟩ | refine hK _ ?_); clear hK K)
  refine RegJ.reads ?_
  intro K hK
  go_simp
  refine ⟨.string x0, fun y hy => ?_, hK _ ?_⟩
  · have f0 : y.cell? ⟨g, o, none⟩ = some (.string x0) := (StrsAt.below HS.out (KeptW.bel hy)).at_ 0 x0 rfl
    go_simp
  clear hK K
  iterate 3 (refine RegJ.reads ?_; intro K hK; go_simp; (first | refine ⟨_, fun _ _ => rfl, hK _ ?_⟩ | refine hK _ ?_); clear hK K)
  refine RegJ.nil ?_
  have HV := Lib.hid (And.intro (HB.out.1.trans ((KeptW.bel hkd).mono HB.out.1.size)) (HG0.out.below (KeptW.bel hkd)))
  have HSV := Lib.hid (HS.out.below (KeptW.bel hkd))
  have hx0 := hsz x0 (List.mem_cons_self ..)
  have hbe : (x0.toList == [105, 110, 118, 111, 107, 101]) = decide (x0.data.toList = INV) := by rw [Bool.eq_iff_iff, beq_iff_eq, decide_eq_true_iff, ByteArray.toList_eq]; rfl
  clear hkd HS HG0 HB
  by_cases hI : x0.data.toList = INV
  · have hbe1 : (x0.toList == [105, 110, 118, 111, 107, 101]) = true := by rw [hbe, decide_eq_true hI]
    have HI := Lib.hid hI
    rw [hbe1]
    clear hbe hI hbe1
    by_cases hsh : r.length < 2
    · have hsh' : ((r.length : Int) + 1 < 3) = True := by simp; omega
      have HRn := Lib.hid (formL_short (ws := (x0 :: r).map (·.data.toList)) rfl ⟨HI.out, by simp; omega⟩)
      have h6 := HV.out.2
      go_wp2_with ((with_reducible refine wpList_store_mid rfl 62 _ _ rfl w.heap.size 0 _ rfl rfl ?_ ?_ ?_ ?_); exact there_row (cs := formC formZ) h6; exact formC_size formZ; exact all_oneCell_toArray (formC_one formZ))
      change bodyPost _ _ _ _ _ (v1.setCells w.heap.size 0 (formC formZ))
      have hza : FormAt (v1.setCells w.heap.size 0 (formC formZ)) w.heap.size formZ := by rw [st_eq]; exact rowSt_row (formC formZ) [] (formC formZ) v1 h6 rfl
      have hzb : Below w.heap.size w (v1.setCells w.heap.size 0 (formC formZ)) := by rw [st_eq]; exact rowSt_below (g := w.heap.size) (n := w.heap.size) (Nat.le_refl _) (formC formZ) 0 _ HV.out.1
      have HZ := Lib.hid (And.intro hza hzb)
      clear hza hzb h6
      generalize v1.setCells w.heap.size 0 (formC formZ) = wz at *
      refine bodyPost_ret (v := .tuple #[formV formZ, .string ⟨#[]⟩, .bool false]) (by simp [results, Tryd.results28, show (asAddr (Value.pointer (some ⟨w.heap.size, 0, none⟩))).run Tryd.prog wz = .ok ⟨w.heap.size, 0, none⟩ wz from rfl, form_loadVar HZ.out.1]) rfl ?_
      exact .bad HZ.out.2 HRn.out _ _
    · have hsh' : ((r.length : Int) + 1 < 3) = False := by simp; omega
      obtain ⟨x1, wd, r', rfl⟩ : ∃ x1 x2 r', r = x1 :: x2 :: r' := by
        match r, hsh with
        | [], h => exact absurd (show ([] : List ByteArray).length < 2 by simp) h
        | [q], h => exact absurd (show [q].length < 2 by simp) h
        | x1 :: x2 :: r', _ => exact ⟨x1, x2, r', rfl⟩
      have hwd := hsz wd (by simp)
      have HL := Lib.hid (formL_of (ws := (x0 :: x1 :: wd :: r').map (·.data.toList)) rfl (fun h => by simp at h; omega) wd.data.toList (by rw [if_pos HI.out]; rfl))
      have f2 : v1.cell? ⟨g, o + 2, none⟩ = some (.string wd) := HSV.out.at_ 2 wd rfl
      go_upto_region 6 with fail
      clear f2
      have Hfm := Lib.hid (fun y : World => forms_any y)
      have hkey := key_ks (s := wd) (by unfold maxLen; omega)
      cases hfd : FT.find? (fun f => decide (f.w = wd.data.toList)) with
      | none =>
        have hMV : formM (.string wd.data.toList) = none := by rw [formM_at, hfd]; rfl
        have HRn := Lib.hid (show formL ((x0 :: x1 :: wd :: r').map (·.data.toList)) = none by rw [HL.out, hfd]; rfl)
        clear hfd
        go_upto_region 7 with (first
          | (go_at_call 24; refine (Hfm.out _).mono ?_; rintro e w2 ⟨rfl, hm2, hb2⟩; have H2 := Lib.hid (And.intro hm2 hb2); clear hm2 hb2)
          | (at_lookup; refine wpList_lookok_mp rfl _ _ 59 62 rfl lawS Tryd.underlying59 zero_form rfl H2.out.1 _ (.string wd.data.toList) rfl hkey ?_; rw [hMV])
          | ((with_reducible refine wpList_store_mid rfl 62 _ _ rfl w2.heap.size 0 _ rfl rfl ?_ ?_ ?_ ?_); exact th_new3 w2 (formC formZ) 62; exact formC_size formZ; exact all_oneCell_toArray (formC_one formZ)))
        change Code.wp _ _ _ _ ((w2.alloc (.cells (formC formZ).toArray 62)).setCells w2.heap.size 0 (formC formZ))
        have hbx := box_below w2 (formC formZ) (formC formZ) 62
        have HF := Lib.hid (show FormAt _ _ formZ from box_row w2 (formC formZ) (formC formZ) 62 rfl)
        have hb3 := HV.out.1.trans ((H2.out.2.trans (hbx.mono H2.out.2.size)).mono HV.out.1.size)
        have HBW := Lib.hid hb3
        have HGR := Lib.hid (HV.out.2.below (H2.out.2.trans (hbx.mono H2.out.2.size)))
        have HGX := Lib.hid (show w.heap.size < w2.heap.size from Nat.lt_of_lt_of_le HV.out.2.lt H2.out.2.size)
        clear hbx hb3 H2
        generalize (w2.alloc (.cells (formC formZ).toArray 62)).setCells w2.heap.size 0 (formC formZ) = w9 at *
        generalize w2.heap.size = gx at *
        refine (wpIn_wide (n := 1)).1 ?_
        refine RegK.wpIn_region_can (F := Fence.wide) (ButOne w.heap.size w9) [(0, 0), (1, 0), (2, 0), (3, 0), (4, 0), (5, 0), (6, 0), (7, 0), (8, 0), (9, 0), (10, 1), (11, 0), (12, 0)] (by kernel_rfl) (by kernel_rfl) (by kernel_rfl) (fun _ _ d _ _ h => by cases d <;> exact h) ⟨rfl, rfl, rfl, Nat.le_refl _, fun _ _ _ => rfl⟩ ?_
        dsimp only [RegK.pick, List.getElem?_cons_zero, List.getElem?_cons_succ]
        change RegK.Can _ _ _ _ _ _ _ _ w9.drew
        have hkd : ButOne w.heap.size w9 w9.drew := ⟨rfl, rfl, rfl, Nat.le_refl _, fun _ _ _ => rfl⟩
        have HKD := Lib.hid (show w9.drew.heap = w9.heap from rfl)
        generalize w9.drew = y1 at *
        refine RegK.can_reads ?_
        intro K hK
        rw [if_pos (by first | (simp [Region.wanted]; done) | (go_simp; done))]
        refine ⟨.agg (formC formZ).toArray, fun y hy => exec_load rfl rfl (row_loadAt (P := Tryd.prog) (cs := formC formZ) (ButOne.form hy HF.out HGX.out) Tryd.underlying62 rfl (formC_size formZ)), hK _ ?_⟩
        clear hK K
        go_simp
        iterate 3 (refine RegK.can_reads ?_; intro K hK; go_simp; (first | refine ⟨_, fun _ _ => rfl, hK _ ?_⟩ | refine hK _ ?_); clear hK K)
        (refine RegK.can_reads ?_; intro K hK; go_simp; refine hK _ ?_; clear hK K)
        (refine RegK.can_reads ?_; intro K hK; go_simp; refine hK _ ?_; clear hK K)
        (refine RegK.can_reads ?_; intro K hK; go_simp; refine hK _ ?_; clear hK K)
        (refine RegK.can_reads ?_; intro K hK; go_simp; refine hK _ ?_; clear hK K)
        (refine RegK.can_reads ?_; intro K hK; go_simp; refine hK _ ?_; clear hK K)
        refine RegK.can_reads ?_; intro K hK; go_simp; (first | refine ⟨_, fun _ _ => rfl, hK _ ?_⟩ | refine hK _ ?_); clear hK K
        have h6 : FormAt y1 w.heap.size formZ := by have h := HGR.out; unfold FormAt at h ⊢; rwa [HKD.out]
        have hza : FormAt (rowSt y1 w.heap.size 0 (formC formZ)) w.heap.size formZ := rowSt_row (formC formZ) [] (formC formZ) y1 h6 rfl
        have hby : Below w.heap.size w y1 := HBW.out.trans ⟨hkd.os, hkd.tape, hkd.output, hkd.size, fun k hk => by rw [HKD.out]⟩
        have hzb := rowSt_below (g := w.heap.size) (n := w.heap.size) (Nat.le_refl _) (formC formZ) 0 _ hby
        have hkz : ButOne w.heap.size w9 (rowSt y1 w.heap.size 0 (formC formZ)) := by
          have hq := rowSt_below (g := w.heap.size) (n := 0) (Nat.zero_le _) (formC formZ) 0 _ (Below.refl 0 y1)
          exact ⟨hq.os.trans hkd.os, hq.tape.trans hkd.tape, hq.output.trans hkd.output, Nat.le_trans hkd.size hq.size, fun k hk hn => (rowSt_other hn _ _ _).trans (by rw [HKD.out])⟩
        refine RegK.can_turns (fun _ => trivial) ?_
        intro K K0 hK hK0
        rw [if_pos (by simp [Region.wanted])]
        refine RegK.op_wide rfl ?_
        refine wp_store_mid 62 _ _ rfl w.heap.size 0 (formC formZ).toArray rfl rfl (there_row (cs := formC formZ) h6) (formC_size formZ) (all_oneCell_toArray (formC_one formZ)) ?_
        rw [show y1.setCells w.heap.size 0 (formC formZ).toArray.toList = rowSt y1 w.heap.size 0 (formC formZ) from st_eq _ _ _]
        refine hK _ _ hkz ?_
        clear hK K hK0 K0
        have HZ := Lib.hid (And.intro hza hzb)
        clear hza hzb h6 hkd hby
        generalize rowSt y1 w.heap.size 0 (formC formZ) = wz at *
        iterate 2 (refine RegK.can_reads ?_; intro K hK; go_simp; (first | refine ⟨_, fun _ _ => rfl, hK _ ?_⟩ | refine hK _ ?_); clear hK K)
        refine RegK.can_nil ?_
        go_wp2_with fail
        refine bodyPost_ret (v := .tuple #[formV formZ, .string wd, .bool false]) (by simp [results, Tryd.results28, show (asAddr (Value.pointer (some ⟨w.heap.size, 0, none⟩))).run Tryd.prog wz = .ok ⟨w.heap.size, 0, none⟩ wz from rfl, form_loadVar HZ.out.1]) rfl ?_
        exact .bad HZ.out.2 HRn.out _ _
      | some f =>
        have hMV : formM (.string wd.data.toList) = some (formV f) := by rw [formM_at, hfd]; rfl
        have HRn := Lib.hid (show formL ((x0 :: x1 :: wd :: r').map (·.data.toList)) = if (decide (f.d = 12) == true) then some f else none by rw [HL.out, hfd, Option.bind_some]; congr 1; rw [beq_iff_eq]; simp only [HI.out, decide_true])
        have HWD := Lib.hid (show f.w = wd.data.toList from of_decide_eq_true (find_mem hfd).2)
        have hd12 : ((f.d : Int) == 12) = decide (f.d = 12) := by rw [Bool.eq_iff_iff, beq_iff_eq, decide_eq_true_iff]; omega
        clear hfd
        go_upto_region 7 with (first
          | (go_at_call 24; refine (Hfm.out _).mono ?_; rintro e w2 ⟨rfl, hm2, hb2⟩; have H2 := Lib.hid (And.intro hm2 hb2); clear hm2 hb2)
          | (at_lookup; refine wpList_lookok_mp rfl _ _ 59 62 rfl lawS Tryd.underlying59 zero_form rfl H2.out.1 _ (.string wd.data.toList) rfl hkey ?_; rw [hMV])
          | ((with_reducible refine wpList_store_mid rfl 62 _ _ rfl w2.heap.size 0 _ rfl rfl ?_ ?_ ?_ ?_); exact th_new3 w2 (formC formZ) 62; exact formC_size f; exact all_oneCell_toArray (formC_one f)))
        change Code.wp _ _ _ _ ((w2.alloc (.cells (formC formZ).toArray 62)).setCells w2.heap.size 0 (formC f))
        have hbx := box_below w2 (formC formZ) (formC f) 62
        have HF := Lib.hid (show FormAt _ _ f from box_row w2 (formC formZ) (formC f) 62 rfl)
        have hb3 := HV.out.1.trans ((H2.out.2.trans (hbx.mono H2.out.2.size)).mono HV.out.1.size)
        have HBW := Lib.hid hb3
        have HGR := Lib.hid (HV.out.2.below (H2.out.2.trans (hbx.mono H2.out.2.size)))
        have HGX := Lib.hid (show w.heap.size < w2.heap.size from Nat.lt_of_lt_of_le HV.out.2.lt H2.out.2.size)
        clear hbx hb3 H2
        generalize (w2.alloc (.cells (formC formZ).toArray 62)).setCells w2.heap.size 0 (formC f) = w9 at *
        generalize w2.heap.size = gx at *
        refine (wpIn_wide (n := 1)).1 ?_
        refine RegK.wpIn_region_can (F := Fence.wide) (ButOne w.heap.size w9) [(0, 0), (1, 0), (2, 0), (3, 0), (4, 0), (5, 0), (6, 0), (7, 0), (8, 0), (9, 0), (10, 1), (11, 0), (12, 0)] (by kernel_rfl) (by kernel_rfl) (by kernel_rfl) (fun _ _ d _ _ h => by cases d <;> exact h) ⟨rfl, rfl, rfl, Nat.le_refl _, fun _ _ _ => rfl⟩ ?_
        dsimp only [RegK.pick, List.getElem?_cons_zero, List.getElem?_cons_succ]
        change RegK.Can _ _ _ _ _ _ _ _ w9.drew
        have hkd : ButOne w.heap.size w9 w9.drew := ⟨rfl, rfl, rfl, Nat.le_refl _, fun _ _ _ => rfl⟩
        have HKD := Lib.hid (show w9.drew.heap = w9.heap from rfl)
        generalize w9.drew = y1 at *
        refine RegK.can_reads ?_
        intro K hK
        rw [if_pos (by first | (simp [Region.wanted]; done) | (go_simp; done))]
        refine ⟨.agg (formC f).toArray, fun y hy => exec_load rfl rfl (row_loadAt (P := Tryd.prog) (cs := formC f) (ButOne.form hy HF.out HGX.out) Tryd.underlying62 rfl (formC_size f)), hK _ ?_⟩
        clear hK K
        go_simp
        iterate 4 (refine RegK.can_reads ?_; intro K hK; go_simp; (first | refine ⟨_, fun _ _ => rfl, hK _ ?_⟩ | refine hK _ ?_); clear hK K)
        refine RegK.can_reads ?_
        intro K hK
        go_simp
        refine ⟨.int .u8 (f.d : Int), fun y hy => ?_, hK _ ?_⟩
        · have f0 := (FormAt.cells (ButOne.form hy HF.out HGX.out)).1
          go_simp
        clear hK K
        iterate 4 (refine RegK.can_reads ?_; intro K hK; go_simp; (first | refine ⟨_, fun _ _ => rfl, hK _ ?_⟩ | refine hK _ ?_); clear hK K)
        have h6 : FormAt y1 w.heap.size formZ := by have h := HGR.out; unfold FormAt at h ⊢; rwa [HKD.out]
        have hza : FormAt (rowSt y1 w.heap.size 0 (formC f)) w.heap.size f := rowSt_row (formC f) [] (formC formZ) y1 h6 rfl
        have hby : Below w.heap.size w y1 := HBW.out.trans ⟨hkd.os, hkd.tape, hkd.output, hkd.size, fun k hk => by rw [HKD.out]⟩
        have hzb := rowSt_below (g := w.heap.size) (n := w.heap.size) (Nat.le_refl _) (formC f) 0 _ hby
        have hkz : ButOne w.heap.size w9 (rowSt y1 w.heap.size 0 (formC f)) := by
          have hq := rowSt_below (g := w.heap.size) (n := 0) (Nat.zero_le _) (formC f) 0 _ (Below.refl 0 y1)
          exact ⟨hq.os.trans hkd.os, hq.tape.trans hkd.tape, hq.output.trans hkd.output, Nat.le_trans hkd.size hq.size, fun k hk hn => (rowSt_other hn _ _ _).trans (by rw [HKD.out])⟩
        refine RegK.can_turns (fun _ => trivial) ?_
        intro K K0 hK hK0
        rw [if_pos (by simp [Region.wanted])]
        refine RegK.op_wide rfl ?_
        refine wp_store_mid 62 _ _ rfl w.heap.size 0 (formC f).toArray rfl rfl (there_row (cs := formC formZ) h6) (formC_size f) (all_oneCell_toArray (formC_one f)) ?_
        rw [show y1.setCells w.heap.size 0 (formC f).toArray.toList = rowSt y1 w.heap.size 0 (formC f) from st_eq _ _ _]
        refine hK _ _ hkz ?_
        clear hK K hK0 K0
        have HZ := Lib.hid (And.intro hza hzb)
        clear hza hzb h6 hkd hby
        generalize rowSt y1 w.heap.size 0 (formC f) = wz at *
        iterate 2 (refine RegK.can_reads ?_; intro K hK; go_simp; (first | refine ⟨_, fun _ _ => rfl, hK _ ?_⟩ | refine hK _ ?_); clear hK K)
        refine RegK.can_nil ?_
        go_wp2_with fail
        refine bodyPost_ret (v := .tuple #[formV f, .string wd, .bool (decide (f.d = 12) == true)]) (by simp [results, Tryd.results28, show (asAddr (Value.pointer (some ⟨w.heap.size, 0, none⟩))).run Tryd.prog wz = .ok ⟨w.heap.size, 0, none⟩ wz from rfl, form_loadVar HZ.out.1]) rfl ?_
        exact .good HZ.out.2 HRn.out HWD.out.symm
  · have hbe1 : (x0.toList == [105, 110, 118, 111, 107, 101]) = false := by rw [hbe, decide_eq_false hI]
    have HI := Lib.hid hI
    rw [hbe1]
    clear hbe hbe1
    obtain ⟨wd, hwd0⟩ : ∃ wd, wd = x0 := ⟨_, rfl⟩
    have HL := Lib.hid (formL_of (ws := (x0 :: r).map (·.data.toList)) rfl (fun h => hI h.1) x0.data.toList (by rw [if_neg hI]))
    clear hI
    subst hwd0
    have hwd := hx0
    have Hfm := Lib.hid (fun y : World => forms_any y)
    have hkey := key_ks (s := wd) (by unfold maxLen; omega)
    cases hfd : FT.find? (fun f => decide (f.w = wd.data.toList)) with
    | none =>
      have hMV : formM (.string wd.data.toList) = none := by rw [formM_at, hfd]; rfl
      have HRn := Lib.hid (show formL ((wd :: r).map (·.data.toList)) = none by rw [HL.out, hfd]; rfl)
      clear hfd
      go_upto_region 7 with (first
        | (go_at_call 24; refine (Hfm.out _).mono ?_; rintro e w2 ⟨rfl, hm2, hb2⟩; have H2 := Lib.hid (And.intro hm2 hb2); clear hm2 hb2)
        | (at_lookup; refine wpList_lookok_mp rfl _ _ 59 62 rfl lawS Tryd.underlying59 zero_form rfl H2.out.1 _ (.string wd.data.toList) rfl hkey ?_; rw [hMV])
        | ((with_reducible refine wpList_store_mid rfl 62 _ _ rfl w2.heap.size 0 _ rfl rfl ?_ ?_ ?_ ?_); exact th_new3 w2 (formC formZ) 62; exact formC_size formZ; exact all_oneCell_toArray (formC_one formZ)))
      change Code.wp _ _ _ _ ((w2.alloc (.cells (formC formZ).toArray 62)).setCells w2.heap.size 0 (formC formZ))
      have hbx := box_below w2 (formC formZ) (formC formZ) 62
      have HF := Lib.hid (show FormAt _ _ formZ from box_row w2 (formC formZ) (formC formZ) 62 rfl)
      have hb3 := HV.out.1.trans ((H2.out.2.trans (hbx.mono H2.out.2.size)).mono HV.out.1.size)
      have HBW := Lib.hid hb3
      have HGR := Lib.hid (HV.out.2.below (H2.out.2.trans (hbx.mono H2.out.2.size)))
      have HGX := Lib.hid (show w.heap.size < w2.heap.size from Nat.lt_of_lt_of_le HV.out.2.lt H2.out.2.size)
      clear hbx hb3 H2
      generalize (w2.alloc (.cells (formC formZ).toArray 62)).setCells w2.heap.size 0 (formC formZ) = w9 at *
      generalize w2.heap.size = gx at *
      refine (wpIn_wide (n := 1)).1 ?_
      refine RegK.wpIn_region_can (F := Fence.wide) (ButOne w.heap.size w9) [(0, 0), (1, 0), (2, 0), (3, 0), (4, 0), (5, 0), (6, 0), (7, 0), (8, 0), (9, 0), (10, 1), (11, 0), (12, 0)] (by kernel_rfl) (by kernel_rfl) (by kernel_rfl) (fun _ _ d _ _ h => by cases d <;> exact h) ⟨rfl, rfl, rfl, Nat.le_refl _, fun _ _ _ => rfl⟩ ?_
      dsimp only [RegK.pick, List.getElem?_cons_zero, List.getElem?_cons_succ]
      change RegK.Can _ _ _ _ _ _ _ _ w9.drew
      have hkd : ButOne w.heap.size w9 w9.drew := ⟨rfl, rfl, rfl, Nat.le_refl _, fun _ _ _ => rfl⟩
      have HKD := Lib.hid (show w9.drew.heap = w9.heap from rfl)
      generalize w9.drew = y1 at *
      refine RegK.can_reads ?_
      intro K hK
      rw [if_pos (by first | (simp [Region.wanted]; done) | (go_simp; done))]
      refine ⟨.agg (formC formZ).toArray, fun y hy => exec_load rfl rfl (row_loadAt (P := Tryd.prog) (cs := formC formZ) (ButOne.form hy HF.out HGX.out) Tryd.underlying62 rfl (formC_size formZ)), hK _ ?_⟩
      clear hK K
      go_simp
      iterate 3 (refine RegK.can_reads ?_; intro K hK; go_simp; (first | refine ⟨_, fun _ _ => rfl, hK _ ?_⟩ | refine hK _ ?_); clear hK K)
      (refine RegK.can_reads ?_; intro K hK; go_simp; refine hK _ ?_; clear hK K)
      (refine RegK.can_reads ?_; intro K hK; go_simp; refine hK _ ?_; clear hK K)
      (refine RegK.can_reads ?_; intro K hK; go_simp; refine hK _ ?_; clear hK K)
      (refine RegK.can_reads ?_; intro K hK; go_simp; refine hK _ ?_; clear hK K)
      (refine RegK.can_reads ?_; intro K hK; go_simp; refine hK _ ?_; clear hK K)
      refine RegK.can_reads ?_; intro K hK; go_simp; (first | refine ⟨_, fun _ _ => rfl, hK _ ?_⟩ | refine hK _ ?_); clear hK K
      have h6 : FormAt y1 w.heap.size formZ := by have h := HGR.out; unfold FormAt at h ⊢; rwa [HKD.out]
      have hza : FormAt (rowSt y1 w.heap.size 0 (formC formZ)) w.heap.size formZ := rowSt_row (formC formZ) [] (formC formZ) y1 h6 rfl
      have hby : Below w.heap.size w y1 := HBW.out.trans ⟨hkd.os, hkd.tape, hkd.output, hkd.size, fun k hk => by rw [HKD.out]⟩
      have hzb := rowSt_below (g := w.heap.size) (n := w.heap.size) (Nat.le_refl _) (formC formZ) 0 _ hby
      have hkz : ButOne w.heap.size w9 (rowSt y1 w.heap.size 0 (formC formZ)) := by
        have hq := rowSt_below (g := w.heap.size) (n := 0) (Nat.zero_le _) (formC formZ) 0 _ (Below.refl 0 y1)
        exact ⟨hq.os.trans hkd.os, hq.tape.trans hkd.tape, hq.output.trans hkd.output, Nat.le_trans hkd.size hq.size, fun k hk hn => (rowSt_other hn _ _ _).trans (by rw [HKD.out])⟩
      refine RegK.can_turns (fun _ => trivial) ?_
      intro K K0 hK hK0
      rw [if_pos (by simp [Region.wanted])]
      refine RegK.op_wide rfl ?_
      refine wp_store_mid 62 _ _ rfl w.heap.size 0 (formC formZ).toArray rfl rfl (there_row (cs := formC formZ) h6) (formC_size formZ) (all_oneCell_toArray (formC_one formZ)) ?_
      rw [show y1.setCells w.heap.size 0 (formC formZ).toArray.toList = rowSt y1 w.heap.size 0 (formC formZ) from st_eq _ _ _]
      refine hK _ _ hkz ?_
      clear hK K hK0 K0
      have HZ := Lib.hid (And.intro hza hzb)
      clear hza hzb h6 hkd hby
      generalize rowSt y1 w.heap.size 0 (formC formZ) = wz at *
      iterate 2 (refine RegK.can_reads ?_; intro K hK; go_simp; (first | refine ⟨_, fun _ _ => rfl, hK _ ?_⟩ | refine hK _ ?_); clear hK K)
      refine RegK.can_nil ?_
      go_wp2_with fail
      refine bodyPost_ret (v := .tuple #[formV formZ, .string wd, .bool false]) (by simp [results, Tryd.results28, show (asAddr (Value.pointer (some ⟨w.heap.size, 0, none⟩))).run Tryd.prog wz = .ok ⟨w.heap.size, 0, none⟩ wz from rfl, form_loadVar HZ.out.1]) rfl ?_
      exact .bad HZ.out.2 HRn.out _ _
    | some f =>
      have hMV : formM (.string wd.data.toList) = some (formV f) := by rw [formM_at, hfd]; rfl
      have HRn := Lib.hid (show formL ((wd :: r).map (·.data.toList)) = if (decide (f.d = 12) == false) then some f else none by rw [HL.out, hfd, Option.bind_some]; congr 1; rw [beq_iff_eq]; simp only [HI.out, decide_false])
      have HWD := Lib.hid (show f.w = wd.data.toList from of_decide_eq_true (find_mem hfd).2)
      have hd12 : ((f.d : Int) == 12) = decide (f.d = 12) := by rw [Bool.eq_iff_iff, beq_iff_eq, decide_eq_true_iff]; omega
      clear hfd
      go_upto_region 7 with (first
        | (go_at_call 24; refine (Hfm.out _).mono ?_; rintro e w2 ⟨rfl, hm2, hb2⟩; have H2 := Lib.hid (And.intro hm2 hb2); clear hm2 hb2)
        | (at_lookup; refine wpList_lookok_mp rfl _ _ 59 62 rfl lawS Tryd.underlying59 zero_form rfl H2.out.1 _ (.string wd.data.toList) rfl hkey ?_; rw [hMV])
        | ((with_reducible refine wpList_store_mid rfl 62 _ _ rfl w2.heap.size 0 _ rfl rfl ?_ ?_ ?_ ?_); exact th_new3 w2 (formC formZ) 62; exact formC_size f; exact all_oneCell_toArray (formC_one f)))
      change Code.wp _ _ _ _ ((w2.alloc (.cells (formC formZ).toArray 62)).setCells w2.heap.size 0 (formC f))
      have hbx := box_below w2 (formC formZ) (formC f) 62
      have HF := Lib.hid (show FormAt _ _ f from box_row w2 (formC formZ) (formC f) 62 rfl)
      have hb3 := HV.out.1.trans ((H2.out.2.trans (hbx.mono H2.out.2.size)).mono HV.out.1.size)
      have HBW := Lib.hid hb3
      have HGR := Lib.hid (HV.out.2.below (H2.out.2.trans (hbx.mono H2.out.2.size)))
      have HGX := Lib.hid (show w.heap.size < w2.heap.size from Nat.lt_of_lt_of_le HV.out.2.lt H2.out.2.size)
      clear hbx hb3 H2
      generalize (w2.alloc (.cells (formC formZ).toArray 62)).setCells w2.heap.size 0 (formC f) = w9 at *
      generalize w2.heap.size = gx at *
      refine (wpIn_wide (n := 1)).1 ?_
      refine RegK.wpIn_region_can (F := Fence.wide) (ButOne w.heap.size w9) [(0, 0), (1, 0), (2, 0), (3, 0), (4, 0), (5, 0), (6, 0), (7, 0), (8, 0), (9, 0), (10, 1), (11, 0), (12, 0)] (by kernel_rfl) (by kernel_rfl) (by kernel_rfl) (fun _ _ d _ _ h => by cases d <;> exact h) ⟨rfl, rfl, rfl, Nat.le_refl _, fun _ _ _ => rfl⟩ ?_
      dsimp only [RegK.pick, List.getElem?_cons_zero, List.getElem?_cons_succ]
      change RegK.Can _ _ _ _ _ _ _ _ w9.drew
      have hkd : ButOne w.heap.size w9 w9.drew := ⟨rfl, rfl, rfl, Nat.le_refl _, fun _ _ _ => rfl⟩
      have HKD := Lib.hid (show w9.drew.heap = w9.heap from rfl)
      generalize w9.drew = y1 at *
      refine RegK.can_reads ?_
      intro K hK
      rw [if_pos (by first | (simp [Region.wanted]; done) | (go_simp; done))]
      refine ⟨.agg (formC f).toArray, fun y hy => exec_load rfl rfl (row_loadAt (P := Tryd.prog) (cs := formC f) (ButOne.form hy HF.out HGX.out) Tryd.underlying62 rfl (formC_size f)), hK _ ?_⟩
      clear hK K
      go_simp
      iterate 4 (refine RegK.can_reads ?_; intro K hK; go_simp; (first | refine ⟨_, fun _ _ => rfl, hK _ ?_⟩ | refine hK _ ?_); clear hK K)
      refine RegK.can_reads ?_
      intro K hK
      go_simp
      refine ⟨.int .u8 (f.d : Int), fun y hy => ?_, hK _ ?_⟩
      · have f0 := (FormAt.cells (ButOne.form hy HF.out HGX.out)).1
        go_simp
      clear hK K
      iterate 4 (refine RegK.can_reads ?_; intro K hK; go_simp; (first | refine ⟨_, fun _ _ => rfl, hK _ ?_⟩ | refine hK _ ?_); clear hK K)
      have h6 : FormAt y1 w.heap.size formZ := by have h := HGR.out; unfold FormAt at h ⊢; rwa [HKD.out]
      have hza : FormAt (rowSt y1 w.heap.size 0 (formC f)) w.heap.size f := rowSt_row (formC f) [] (formC formZ) y1 h6 rfl
      have hby : Below w.heap.size w y1 := HBW.out.trans ⟨hkd.os, hkd.tape, hkd.output, hkd.size, fun k hk => by rw [HKD.out]⟩
      have hzb := rowSt_below (g := w.heap.size) (n := w.heap.size) (Nat.le_refl _) (formC f) 0 _ hby
      have hkz : ButOne w.heap.size w9 (rowSt y1 w.heap.size 0 (formC f)) := by
        have hq := rowSt_below (g := w.heap.size) (n := 0) (Nat.zero_le _) (formC f) 0 _ (Below.refl 0 y1)
        exact ⟨hq.os.trans hkd.os, hq.tape.trans hkd.tape, hq.output.trans hkd.output, Nat.le_trans hkd.size hq.size, fun k hk hn => (rowSt_other hn _ _ _).trans (by rw [HKD.out])⟩
      refine RegK.can_turns (fun _ => trivial) ?_
      intro K K0 hK hK0
      rw [if_pos (by simp [Region.wanted])]
      refine RegK.op_wide rfl ?_
      refine wp_store_mid 62 _ _ rfl w.heap.size 0 (formC f).toArray rfl rfl (there_row (cs := formC formZ) h6) (formC_size f) (all_oneCell_toArray (formC_one f)) ?_
      rw [show y1.setCells w.heap.size 0 (formC f).toArray.toList = rowSt y1 w.heap.size 0 (formC f) from st_eq _ _ _]
      refine hK _ _ hkz ?_
      clear hK K hK0 K0
      have HZ := Lib.hid (And.intro hza hzb)
      clear hza hzb h6 hkd hby
      generalize rowSt y1 w.heap.size 0 (formC f) = wz at *
      iterate 2 (refine RegK.can_reads ?_; intro K hK; go_simp; (first | refine ⟨_, fun _ _ => rfl, hK _ ?_⟩ | refine hK _ ?_); clear hK K)
      refine RegK.can_nil ?_
      go_wp2_with fail
      refine bodyPost_ret (v := .tuple #[formV f, .string wd, .bool (decide (f.d = 12) == false)]) (by simp [results, Tryd.results28, show (asAddr (Value.pointer (some ⟨w.heap.size, 0, none⟩))).run Tryd.prog wz = .ok ⟨w.heap.size, 0, none⟩ wz from rfl, form_loadVar HZ.out.1]) rfl ?_
      exact .good HZ.out.2 HRn.out HWD.out.symm
end Go.Proofs.YtjjlodeiejobdaaDoor
namespace Go.Proofs.YtjjlodeiejobdaaDoor
open Go.RowKit Go.Shelf
def stpC (s : StpV) : List Value := [.int .u8 (s.d : Int), .int .u8 (s.a : Int), .int .u8 (s.b : Int), .int .i64 s.k, .int .u8 (s.cl : Int), .int .u32 (s.sq : Int), .int .u8 (s.kd : Int), .string ⟨s.y.toArray⟩, .string ⟨s.o.toArray⟩, .string ⟨s.n.toArray⟩, .int .u8 (s.st : Int)]
def stpV (s : StpV) : Value := .agg (stpC s).toArray
theorem stpC_one (s : StpV) : ∀ u ∈ stpC s, u.oneCell' = true := by simp [stpC, Value.oneCell']
theorem stpC_size (s : StpV) : (Tryd.prog.info? 39).map (·.size) = some (stpC s).length := (by kernel_rfl : (Tryd.prog.info? 39).map (·.size) = some 11)
theorem stp11_size (a b c d e f g h i j k : Value) : (Tryd.prog.info? 39).map (·.size) = some [a, b, c, d, e, f, g, h, i, j, k].length := (by kernel_rfl : (Tryd.prog.info? 39).map (·.size) = some 11)
def StpAt (w : World) (g : Nat) (s : StpV) : Prop := w.heap[g]? = some (.cells (stpC s).toArray 39 (0, 0))
theorem StpAt.below {w w' : World} {g : Nat} {s : StpV} (h : StpAt w g s) (hb : Below w.heap.size w w') : StpAt w' g s := (hb.block g (Array.getElem?_eq_some_iff.1 h).1).trans h
theorem StpAt.lt {w : World} {g : Nat} {s : StpV} (h : StpAt w g s) : g < w.heap.size := (Array.getElem?_eq_some_iff.1 h).1
theorem stp_loadVar {y : World} {g : Nat} {s : StpV} (h : StpAt y g s) : (loadVar 39 ⟨g, 0, none⟩).run Tryd.prog y = .ok (stpV s) y := run_loadVar_mid y g 0 39 (stpC s) _ (range_row h) Tryd.underlying39 rfl (stpC_size s)
theorem StpAt.cells {w : World} {g : Nat} {s : StpV} (h : StpAt w g s) : w.cell? ⟨g, 0, none⟩ = some (.int .u8 (s.d : Int)) ∧ w.cell? ⟨g, 1, none⟩ = some (.int .u8 (s.a : Int)) ∧ w.cell? ⟨g, 2, none⟩ = some (.int .u8 (s.b : Int)) ∧ w.cell? ⟨g, 3, none⟩ = some (.int .i64 s.k) ∧ w.cell? ⟨g, 6, none⟩ = some (.int .u8 (s.kd : Int)) ∧ w.cell? ⟨g, 7, none⟩ = some (.string ⟨s.y.toArray⟩) ∧ w.cell? ⟨g, 8, none⟩ = some (.string ⟨s.o.toArray⟩) ∧ w.cell? ⟨g, 9, none⟩ = some (.string ⟨s.n.toArray⟩) ∧ w.cell? ⟨g, 10, none⟩ = some (.int .u8 (s.st : Int)) := ⟨cell_of_row _ _ _ _ _ _ h, cell_of_row _ _ _ _ _ _ h, cell_of_row _ _ _ _ _ _ h, cell_of_row _ _ _ _ _ _ h, cell_of_row _ _ _ _ _ _ h, cell_of_row _ _ _ _ _ _ h, cell_of_row _ _ _ _ _ _ h, cell_of_row _ _ _ _ _ _ h, cell_of_row _ _ _ _ _ _ h⟩
theorem StpAt.set {w : World} {g : Nat} {s : StpV} (h : StpAt w g s) (s' : StpV) (i : Nat) (v : Value) (e : (stpC s).toArray.setIfInBounds i v = (stpC s').toArray) : StpAt (w.setCell ⟨g, i, none⟩ v) g s' := by
  have q := heap_setCell_same w g i (stpC s).toArray 39 v h
  rw [e] at q
  exact q
theorem thaw_row {w : World} {p : Nat} {cs : Array Value} {t : TypeId} (j : Nat) (h : w.heap[p]? = some (.cells cs t (0, 0))) : w.frozen? ⟨p, j, none⟩ = false := by
  simp [World.frozen?, h]
theorem but_cell {w : World} {g i : Nat} (v : Value) : ButOne g w (w.setCell ⟨g, i, none⟩ v) := ⟨rfl, rfl, rfl, by simp, fun k _ hk => Below.heap_setCell _ _ _ _ hk⟩
theorem ButOne.trans {g : Nat} {a b c : World} (h : ButOne g a b) (k : ButOne g b c) : ButOne g a c := ⟨k.os.trans h.os, k.tape.trans h.tape, k.output.trans h.output, Nat.le_trans h.size k.size, fun i hi h1 => (k.block i (Nat.lt_of_lt_of_le hi h.size) h1).trans (h.block i hi h1)⟩
theorem ButOne.of {g : Nat} {w y : World} (h : Below w.heap.size w y) : ButOne g w y := ⟨h.os, h.tape, h.output, h.size, fun k hk _ => h.block k hk⟩
theorem ButOne.below {g m : Nat} {w0 w w' : World} (h : ButOne g w w') (h0 : Below m w0 w) (hm : m ≤ w.heap.size) (hg : m ≤ g) : Below m w0 w' := h0.trans ⟨h.os, h.tape, h.output, h.size, fun k hk => h.block k (by omega) (by omega)⟩
/-- What read's inner function tells. -/
def TakeR (R : Option StpV) (g : Nat) (w : World) (e : Ending) (w' : World) : Prop := e = .returned (.bool R.isSome) ∧ ButOne g w w' ∧ ∃ s', StpAt w' g s' ∧ ∀ s1, R = some s1 → s' = s1
theorem TakeR.of {R : Option StpV} {α : Type} {Q : Option α} {f : α → StpV} {g : Nat} {w w' : World} {s' : StpV} (hR : R = Q.map f) (hb : ButOne g w w') (hs : StpAt w' g s') (h : ∀ v, Q = some v → s' = f v) : TakeR R g w (.returned (.bool Q.isSome)) w' := by
  subst hR
  refine ⟨by cases Q <;> rfl, hb, s', hs, fun s1 h1 => ?_⟩
  obtain ⟨v, hv, rfl⟩ := Option.map_eq_some_iff.1 h1
  exact h v hv
def WdAt (w : World) (g : Nat) (x : ByteArray) : Prop := w.heap[g]? = some (.cells #[.string x] 9 (0, 0))
set_option maxRecDepth 100000 in
set_option maxHeartbeats 8000000 in
theorem take_any (c : UInt8) (hc : isLet c = true) (t : ByteArray) (ht : t.size ≤ 1000000) (g gw : Nat) (s : StpV) (wd : ByteArray) (w : World) (hs : StpAt w g s) (hw : WdAt w gw wd) (hv : PV w) :
    Calls Tryd.prog 29 #[.int .i32 (c.toNat : Int), .string t, .pointer (some ⟨g, 0, none⟩), .pointer (some ⟨gw, 0, none⟩)] w (TakeR (takeL wd.data.toList s c t.data.toList) g w) := by
  unfold isLet at hc
  simp only [Bool.or_eq_true, beq_iff_eq] at hc
  have HS := Lib.hid hs
  rcases hc with ((((((rfl | rfl) | rfl) | rfl) | rfl) | rfl) | rfl) | rfl
  · change Calls Tryd.prog 29 #[.int .i32 97, .string t, .pointer (some ⟨g, 0, none⟩), .pointer (some ⟨gw, 0, none⟩)] w _
    have Hcall := Lib.hid (small_any t (by omega) w hv)
    have Htk := Lib.hid (show takeL wd.data.toList s 97 t.data.toList = (smallL t.data.toList).map (fun v => { s with a := v }) from rfl)
    clear hs hw hv
    go_enter Tryd.func29, Tryd.ntmps29
    go_upto_region 19 with (go_at_call 30; refine Hcall.out.mono ?_; rintro e w1 ⟨hb1, x, hx, rfl, hxv⟩; have HX := Lib.hid hxv; have HB1 := Lib.hid hb1; have hs1 := StpAt.below HS.out hb1; have HS1 := Lib.hid hs1; obtain ⟨q0, q1, q2, q3, q6, q7, q8, q9, q10⟩ := StpAt.cells hs1; have qf := thaw_row 1 hs1; clear hxv hb1 hs1)
    go_wp2
    go_ret
    exact .of Htk.out ((ButOne.of HB1.out).trans (but_cell _)) (HS1.out.set { s with a := x } 1 _ rfl) (fun v h => by rw [HX.out v h])
  · change Calls Tryd.prog 29 #[.int .i32 98, .string t, .pointer (some ⟨g, 0, none⟩), .pointer (some ⟨gw, 0, none⟩)] w _
    have Hcall := Lib.hid (small_any t (by omega) w hv)
    have Htk := Lib.hid (show takeL wd.data.toList s 98 t.data.toList = (smallL t.data.toList).map (fun v => { s with b := v }) from rfl)
    clear hs hw hv
    go_enter Tryd.func29, Tryd.ntmps29
    go_upto_region 19 with (go_at_call 30; refine Hcall.out.mono ?_; rintro e w1 ⟨hb1, x, hx, rfl, hxv⟩; have HX := Lib.hid hxv; have HB1 := Lib.hid hb1; have hs1 := StpAt.below HS.out hb1; have HS1 := Lib.hid hs1; obtain ⟨q0, q1, q2, q3, q6, q7, q8, q9, q10⟩ := StpAt.cells hs1; have qf := thaw_row 2 hs1; clear hxv hb1 hs1)
    go_wp2
    go_ret
    exact .of Htk.out ((ButOne.of HB1.out).trans (but_cell _)) (HS1.out.set { s with b := x } 2 _ rfl) (fun v h => by rw [HX.out v h])
  · change Calls Tryd.prog 29 #[.int .i32 107, .string t, .pointer (some ⟨g, 0, none⟩), .pointer (some ⟨gw, 0, none⟩)] w _
    have Hcall := Lib.hid (number_any t (by omega) w hv)
    have Htk := Lib.hid (show takeL wd.data.toList s 107 t.data.toList = (numL t.data.toList).map (fun v => { s with k := v }) from rfl)
    clear hs hw hv
    go_enter Tryd.func29, Tryd.ntmps29
    go_upto_region 19 with (go_at_call 31; refine Hcall.out.mono ?_; rintro e w1 ⟨hb1, x, hx, rfl, hxv⟩; have HX := Lib.hid hxv; have HB1 := Lib.hid hb1; have hs1 := StpAt.below HS.out hb1; have HS1 := Lib.hid hs1; obtain ⟨q0, q1, q2, q3, q6, q7, q8, q9, q10⟩ := StpAt.cells hs1; have qf := thaw_row 3 hs1; clear hxv hb1 hs1)
    go_wp2
    go_ret
    exact .of Htk.out ((ButOne.of HB1.out).trans (but_cell _)) (HS1.out.set { s with k := x } 3 _ rfl) (fun v h => by rw [HX.out v h])
  · change Calls Tryd.prog 29 #[.int .i32 121, .string t, .pointer (some ⟨g, 0, none⟩), .pointer (some ⟨gw, 0, none⟩)] w _
    have Hcall := Lib.hid (unquote_any t ht w hv)
    have Htk := Lib.hid (show takeL wd.data.toList s 121 t.data.toList = (unqL t.data.toList).map (fun v => { s with y := v }) from rfl)
    clear hs hw hv
    go_enter Tryd.func29, Tryd.ntmps29
    go_upto_region 19 with (go_at_call 32; refine Hcall.out.mono ?_; rintro e w1 ⟨hb1, x, rfl, hxv⟩; have HX := Lib.hid hxv; have HB1 := Lib.hid hb1; have hs1 := StpAt.below HS.out hb1; have HS1 := Lib.hid hs1; obtain ⟨q0, q1, q2, q3, q6, q7, q8, q9, q10⟩ := StpAt.cells hs1; have qf := thaw_row 7 hs1; clear hxv hb1 hs1)
    go_wp2
    go_ret
    exact .of Htk.out ((ButOne.of HB1.out).trans (but_cell _)) (HS1.out.set { s with y := x.data.toList } 7 _ rfl) (fun v h => by rw [HX.out v h])
  · change Calls Tryd.prog 29 #[.int .i32 111, .string t, .pointer (some ⟨g, 0, none⟩), .pointer (some ⟨gw, 0, none⟩)] w _
    have Hcall := Lib.hid (unquote_any t ht w hv)
    have Htk := Lib.hid (show takeL wd.data.toList s 111 t.data.toList = (unqL t.data.toList).map (fun v => { s with o := v }) from rfl)
    clear hs hw hv
    go_enter Tryd.func29, Tryd.ntmps29
    go_upto_region 19 with (go_at_call 32; refine Hcall.out.mono ?_; rintro e w1 ⟨hb1, x, rfl, hxv⟩; have HX := Lib.hid hxv; have HB1 := Lib.hid hb1; have hs1 := StpAt.below HS.out hb1; have HS1 := Lib.hid hs1; obtain ⟨q0, q1, q2, q3, q6, q7, q8, q9, q10⟩ := StpAt.cells hs1; have qf := thaw_row 8 hs1; clear hxv hb1 hs1)
    go_wp2
    go_ret
    exact .of Htk.out ((ButOne.of HB1.out).trans (but_cell _)) (HS1.out.set { s with o := x.data.toList } 8 _ rfl) (fun v h => by rw [HX.out v h])
  · change Calls Tryd.prog 29 #[.int .i32 110, .string t, .pointer (some ⟨g, 0, none⟩), .pointer (some ⟨gw, 0, none⟩)] w _
    have Hcall := Lib.hid (unquote_any t ht w hv)
    have Htk := Lib.hid (show takeL wd.data.toList s 110 t.data.toList = (unqL t.data.toList).map (fun v => { s with n := v }) from rfl)
    clear hs hw hv
    go_enter Tryd.func29, Tryd.ntmps29
    go_upto_region 19 with (go_at_call 32; refine Hcall.out.mono ?_; rintro e w1 ⟨hb1, x, rfl, hxv⟩; have HX := Lib.hid hxv; have HB1 := Lib.hid hb1; have hs1 := StpAt.below HS.out hb1; have HS1 := Lib.hid hs1; obtain ⟨q0, q1, q2, q3, q6, q7, q8, q9, q10⟩ := StpAt.cells hs1; have qf := thaw_row 9 hs1; clear hxv hb1 hs1)
    go_wp2
    go_ret
    exact .of Htk.out ((ButOne.of HB1.out).trans (but_cell _)) (HS1.out.set { s with n := x.data.toList } 9 _ rfl) (fun v h => by rw [HX.out v h])
  · change Calls Tryd.prog 29 #[.int .i32 115, .string t, .pointer (some ⟨g, 0, none⟩), .pointer (some ⟨gw, 0, none⟩)] w _
    have Hcall := Lib.hid (small_any t (by omega) w hv)
    have Htk := Lib.hid (show takeL wd.data.toList s 115 t.data.toList = (smallL t.data.toList).map (fun v => { s with st := v }) from rfl)
    clear hs hw hv
    go_enter Tryd.func29, Tryd.ntmps29
    go_upto_region 19 with (go_at_call 30; refine Hcall.out.mono ?_; rintro e w1 ⟨hb1, x, hx, rfl, hxv⟩; have HX := Lib.hid hxv; have HB1 := Lib.hid hb1; have hs1 := StpAt.below HS.out hb1; have HS1 := Lib.hid hs1; obtain ⟨q0, q1, q2, q3, q6, q7, q8, q9, q10⟩ := StpAt.cells hs1; have qf := thaw_row 10 hs1; clear hxv hb1 hs1)
    go_wp2
    go_ret
    exact .of Htk.out ((ButOne.of HB1.out).trans (but_cell _)) (HS1.out.set { s with st := x } 10 _ rfl) (fun v h => by rw [HX.out v h])
  · change Calls Tryd.prog 29 #[.int .i32 105, .string t, .pointer (some ⟨g, 0, none⟩), .pointer (some ⟨gw, 0, none⟩)] w _
    have Htk := Lib.hid (show takeL wd.data.toList s 105 t.data.toList = if t.data.toList = wd.data.toList then some s else none from rfl)
    have f0 : w.cell? ⟨gw, 0, none⟩ = some (.string wd) := cell_of_row _ _ _ _ _ _ hw
    clear hs hw hv
    go_enter Tryd.func29, Tryd.ntmps29
    go_wp2
    go_ret
    refine ⟨?_, ButOne.of (Below.refl _ _), s, HS.out, fun s1 h => ?_⟩
    · rw [Htk.out]
      have e : (t.toList == wd.toList) = decide (t.data.toList = wd.data.toList) := bs_beq t wd
      by_cases h : t.data.toList = wd.data.toList
      · simp [e, h]
      · simp [e, h]
    · rw [Htk.out] at h
      split at h
      · cases h; rfl
      · cases h
end Go.Proofs.YtjjlodeiejobdaaDoor
