/- Sets, plain: what the document's May says is what the program's says. Condition: the sets are bytes. -/
import Derived.Test.YtoleiiicbnmhpaaZProposePlays1
import Derived.Deep.MidRow
import Derived.Deep.DeepCutAuto
import Derived.Maps.OwnSet
import Derived.Maps.OwnOps
import Derived.Maps.Keyed
import Derived.Carry
namespace Go.Proofs.Ytoleiiicbnmhpaa
open Go.RowKit
theorem lstB_mem (s : Nat) : ∀ (i : Nat), i ≤ 8 → ∀ x : UInt8, x ∈ lstB s i ↔ x.toNat < i ∧ s / 2 ^ x.toNat % 2 = 1
  | 0, _, x => by simp [lstB]
  | i + 1, hi, x => by
    have ih := lstB_mem s i (by omega) x
    have e : (UInt8.ofNat i).toNat = i := by simp; omega
    unfold lstB
    rw [List.mem_append, ih]
    constructor
    · rintro (⟨h1, h2⟩ | h)
      · exact ⟨by omega, h2⟩
      · split at h
        · rename_i h3
          have hx : x = UInt8.ofNat i := by simpa using h
          rw [hx, e]
          exact ⟨by omega, h3⟩
        · simp at h
    · rintro ⟨h1, h2⟩
      by_cases hx : x.toNat = i
      · right
        rw [hx] at h2
        rw [if_pos h2]
        have : x = UInt8.ofNat i := u8_eq (by rw [e, hx])
        simp [this]
      · exact .inl ⟨by omega, h2⟩
theorem has_mem (l : List UInt8) (x : UInt8) : hasB l x = true ↔ x ∈ l := by
  unfold hasB
  rw [List.any_eq_true]
  constructor
  · rintro ⟨y, h1, h2⟩
    rw [beq_iff_eq] at h2
    rwa [← h2]
  · exact fun h => ⟨x, h, by simp⟩
end Go.Proofs.Ytoleiiicbnmhpaa
namespace Go.Proofs.Ytoleiiicbnmhpaa
open Go.RowKit
theorem st_eq {g : Nat} : ∀ (vs : List Value) (i : Nat) (y : World), y.setCells g i vs = rowSt y g i vs
  | [], _, _ => rfl
  | _ :: r, i, _ => st_eq r (i + 1) _
theorem range_row {y : World} {g : Nat} {cs : List Value} {t : TypeId} (h : y.heap[g]? = some (.cells cs.toArray t (0, 0))) : y.rangeAt g 0 cs := fun j v hv => by
  rw [Nat.zero_add]
  simp only [World.cell?, h]
  simpa using hv
theorem there_row {y : World} {g : Nat} {cs : List Value} {t : TypeId} (h : y.heap[g]? = some (.cells cs.toArray t (0, 0))) : y.there g 0 cs.length := fun j hj => ⟨by
  rw [Nat.zero_add]
  simp only [World.cell?, h]
  simp [hj], by
  rw [Nat.zero_add]
  unfold World.frozen?
  rw [h]
  rfl⟩
/-- A whole variable is loaded. -/
theorem row_loadAt {P : Program} {y : World} {g : Nat} {cs : List Value} {t : TypeId} {d : TypeDesc} (h : y.heap[g]? = some (.cells cs.toArray t (0, 0))) (hu : P.underlying t = some d) (hd : d.isRow = true) (hs : (P.info? t).map (·.size) = some cs.length) :
    (Instr.loadAt t (.pointer (some ⟨g, 0, none⟩))).run P y = .ok (.agg cs.toArray) y := run_loadAt_mid y g 0 t cs d (range_row h) hu hd hs
theorem mid_row {g : Nat} {t : TypeId} : ∀ (vs pre old post : List Value) (y : World), y.heap[g]? = some (.cells (pre ++ old ++ post).toArray t (0, 0)) → old.length = vs.length → (rowSt y g pre.length vs).heap[g]? = some (.cells (pre ++ vs ++ post).toArray t (0, 0))
  | [], pre, old, post, y, h, hl => by
    have : old = [] := List.length_eq_zero_iff.1 hl
    subst this
    exact h
  | v :: r, pre, [], post, y, h, hl => by simp at hl
  | v :: r, pre, o :: old, post, y, h, hl => by
    have e := mid_row r (pre ++ [v]) old post (y.setCell ⟨g, pre.length, none⟩ v) (by
      rw [heap_setCell_same _ _ _ _ _ _ h]
      congr 2
      simp) (by simpa using hl)
    rw [List.length_append, List.length_singleton] at e
    show (rowSt (y.setCell ⟨g, pre.length, none⟩ v) g (pre.length + 1) r).heap[g]? = _
    rw [e]
    simp
/-- A load, as an operation of a region, by what is loaded. -/
theorem exec_load {P : Program} {ρ : Operand → Value} {o : Oper} {t : TypeId} {a : Operand} (h : o.op = .load t a) {p : Value} (ha : ρ a = p) {y : World} {V : Value} (hr : (Instr.loadAt t p).run P y = .ok V y) : (execOp ρ o).run P y = .ok (.value V) y := by
  simp only [execOp, h, ha, Sem.run_bind, hr, Result.andThen_ok, Sem.run_pure]
/-- A new variable, and what is stored into it. -/
theorem box_row (y : World) (cs0 cs : List Value) (t : TypeId) (hl : cs0.length = cs.length) : ((y.alloc (.cells cs0.toArray t)).setCells y.heap.size 0 cs).heap[y.heap.size]? = some (.cells cs.toArray t (0, 0)) := by
  rw [st_eq]
  exact rowSt_row cs [] cs0 _ (heap_alloc_new _ _) hl
theorem box_below (y : World) (cs0 cs : List Value) (t : TypeId) : Below y.heap.size y ((y.alloc (.cells cs0.toArray t)).setCells y.heap.size 0 cs) := by
  rw [st_eq]
  exact rowSt_below (Nat.le_refl _) cs 0 _ ((Below.refl _ _).alloc (Nat.le_refl _) _)
theorem box_size (y : World) (cs0 cs : List Value) (t : TypeId) : y.heap.size < ((y.alloc (.cells cs0.toArray t)).setCells y.heap.size 0 cs).heap.size := by
  rw [st_eq]
  have := (rowSt_below (Nat.zero_le _) cs 0 _ (Below.refl 0 (y.alloc (.cells cs0.toArray t))) (g := y.heap.size)).size
  rw [World.size_alloc] at this
  exact this
end Go.Proofs.Ytoleiiicbnmhpaa
namespace Go.Proofs.Ytoleiiicbnmhpaa
open Go.RowKit
/-- The set of one node. -/
def ofS (n : Nat) : Nat := if n < 7 then 1 <<< n else 0
def withS (x y : Nat) : Nat := (x ||| y) &&& 127
def hasS (x n : Nat) : Bool := x &&& ofS n != 0
def needS (x : Nat) : Nat := pop8 (x &&& 127) / 2 + 1
def majorS (x y : Nat) : Bool := decide (needS x ≤ pop8 (bothS x y &&& 127))
theorem of_lt (n : Nat) : ofS n < 128 := by
  unfold ofS
  split
  · next h => have : n = 0 ∨ n = 1 ∨ n = 2 ∨ n = 3 ∨ n = 4 ∨ n = 5 ∨ n = 6 := by omega
              rcases this with rfl | rfl | rfl | rfl | rfl | rfl | rfl <;> decide
  · omega
theorem pop8_lt (x : Nat) (hx : x < 256) : pop8 x ≤ 8 := by
  have h : ∀ i : Fin 256, pop8 i.val ≤ 8 := by decide +kernel
  exact h ⟨x, hx⟩
theorem of_bit {n : Nat} (h : n < 7) : bits .or .u8 0 ((2 : Int) ^ n % 256) = (ofS n : Int) := by
  have : n = 0 ∨ n = 1 ∨ n = 2 ∨ n = 3 ∨ n = 4 ∨ n = 5 ∨ n = 6 := by omega
  rcases this with rfl | rfl | rfl | rfl | rfl | rfl | rfl <;> decide +kernel
set_option maxRecDepth 100000 in
theorem of_any (n : Nat) (hn : n < 256) (g o c : Nat) (w : World) (h : w.cell? ⟨g, o, none⟩ = some (.int .u8 (n : Int))) :
    Calls Try.prog 12 #[.slice (some ⟨g, o, none⟩) 1 c] w fun e w' => e = .returned (.int .u8 (ofS n : Int)) ∧ w = w' := by
  go_enter Try.func12, Try.ntmps12
  go_upto_region 3 with fail
  go_loopw [3, 8] (fun s3 s8 wr => w = wr ∧ ((s8 = .int .i64 0 ∧ s3 = .int .u8 0) ∨ (s8 = .int .i64 1 ∧ s3 = .int .u8 (ofS n : Int)))) (fun _ s8 _ => 1 - (intOf s8).toNat)
  case atStart => exact ⟨rfl, .inl ⟨rfl, rfl⟩⟩
  case round =>
    obtain ⟨rfl, ⟨rfl, rfl⟩ | ⟨rfl, rfl⟩⟩ := hrel
    · by_cases h7 : n < 7
      · have h7' : (n : Int) < 7 := by omega
        have hsh := of_bit h7
        go_wp2_with fail
        exact ⟨⟨trivial, .inr ⟨rfl, rfl⟩⟩, by simp [intOf]⟩
      · have h7' : ¬ (n : Int) < 7 := by omega
        have ho : ofS n = 0 := if_neg h7
        go_wp2_with fail
        exact ⟨⟨trivial, .inr ⟨rfl, by rw [ho]; rfl⟩⟩, by simp [intOf]⟩
    · go_wp2_with fail
      go_ret
      exact ⟨rfl, rfl⟩
theorem with_any (x y : Nat) (hx : x < 256) (hy : y < 256) (w : World) : Calls Try.prog 8 #[.int .u8 (x : Int), .int .u8 (y : Int)] w fun e w' => e = .returned (.int .u8 (withS x y : Int)) ∧ w = w' := by
  have h1 : bits .or .u8 (x : Int) (y : Int) = ((x ||| y : Nat) : Int) := u8_or_nat x y hx hy
  have h2 := u8_127 (x := x ||| y) (Nat.or_lt_two_pow (n := 8) hx hy)
  go_enter Try.func8, Try.ntmps8
  go_wp2_with fail
  go_ret
  exact ⟨rfl, rfl⟩
theorem has_any (x n : Nat) (hx : x < 256) (hn : n < 256) (w : World) : Calls Try.prog 23 #[.int .u8 (x : Int), .int .u8 (n : Int)] w fun e w' => e = .returned (.bool (hasS x n)) ∧ Below w.heap.size w w' := by
  have h1 : bits .and .u8 (x : Int) (ofS n : Int) = ((x &&& ofS n : Nat) : Int) := u8_and_nat x (ofS n) hx (by have := of_lt n; omega)
  have hb := (Below.refl w.heap.size w).alloc (Nat.le_refl _) (.cells #[.int .u8 (n : Int)] 5)
  have Hb := Lib.hid hb
  have Ho := Lib.hid (of_any n hn w.heap.size 0 1 (w.alloc (.cells #[.int .u8 (n : Int)] 5)) (cell_of_row _ _ _ _ _ _ (heap_alloc_new _ _)))
  clear hb
  have h2 : (((x &&& ofS n : Nat) : Int) != 0) = hasS x n := by
    unfold hasS
    rw [Bool.eq_iff_iff, bne_iff_ne, bne_iff_ne]
    omega
  go_enter Try.func23, Try.ntmps23
  go_wp2_with ((with_reducible refine Ho.out.mono ?_); rintro e w' ⟨rfl, rfl⟩)
  go_ret
  exact ⟨rfl, Hb.out⟩
theorem need_any (x : Nat) (hx : x < 256) (w : World) : Calls Try.prog 26 #[.int .u8 (x : Int)] w fun e w' => e = .returned (.int .i64 (needS x : Int)) ∧ w = w' := by
  have hp := pop8_lt (x &&& 127) (and_byte hx)
  have Hl := Lib.hid (len8_any x hx w)
  unfold needS
  obtain ⟨p, hp2⟩ : ∃ p, pop8 (x &&& 127) = p := ⟨_, rfl⟩
  rw [hp2] at hp Hl ⊢
  have h1 : (p : Int).tdiv 2 = ((p / 2 : Nat) : Int) := by rw [Int.tdiv_eq_ediv_of_nonneg (by omega)]; omega
  have h2 : IntKind.i64.wrap ((p / 2 : Nat) : Int) = ((p / 2 : Nat) : Int) := by rw [IntKind.wrap_i64]; omega
  have h3 : IntKind.i64.wrap (((p / 2 : Nat) : Int) + 1) = ((p / 2 + 1 : Nat) : Int) := by rw [IntKind.wrap_i64]; omega
  go_enter Try.func26, Try.ntmps26
  go_wp2_with ((with_reducible refine Hl.out.mono ?_); rintro e w' ⟨rfl, rfl⟩)
  go_ret
  exact ⟨congrArg (fun z => Ending.returned (Value.int .i64 z)) (show (p : Int) / 2 + 1 = ((p / 2 + 1 : Nat) : Int) by omega), rfl⟩
theorem major_any (x y : Nat) (hx : x < 256) (hy : y < 256) (w : World) : Calls Try.prog 14 #[.int .u8 (x : Int), .int .u8 (y : Int)] w fun e w' => e = .returned (.bool (majorS x y)) ∧ w = w' := by
  have hb : bothS x y < 256 := and_byte (and_byte hx)
  have Hb := Lib.hid (both_any x y hx hy w)
  have Hl := Lib.hid (len8_any (bothS x y) hb w)
  have Hn := Lib.hid (need_any x hx w)
  unfold majorS
  generalize needS x = q at *
  generalize bothS x y = b at *
  generalize pop8 (b &&& 127) = p at *
  clear hb
  go_enter Try.func14, Try.ntmps14
  go_wp2_with (first
    | ((with_reducible refine Hb.out.mono ?_); rintro e w' ⟨rfl, rfl⟩)
    | ((with_reducible refine Hl.out.mono ?_); rintro e w' ⟨rfl, rfl⟩)
    | ((with_reducible refine Hn.out.mono ?_); rintro e w' ⟨rfl, rfl⟩))
  go_ret
  exact ⟨rfl, rfl⟩
end Go.Proofs.Ytoleiiicbnmhpaa
namespace Go.Proofs.Ytoleiiicbnmhpaa
open Go.RowKit
open Go.Maps (Keyed)
open Go.ChangeMaps Go.MapKept
/-- How a value reads: as itself. -/
def Rv (v : Value) : Option (DataW Value × List MemPlace) := some (.held v, [])
/-- Block b is a map of at most n entries that holds what M tells. -/
def MpAt (P : Program) (k : TypeId) (w : World) (b n : Nat) (M : Lit → Option Value) : Prop :=
  ∃ D : DataW Value, w.ownsMap P k Rv b n D ∧ ∀ l, WideAt.IsKeyLit l → Maps.has D l = (M l).isSome ∧ ∀ v, M l = some v → ∀ z, D.atKey l z = .held v
def mpPut (M : Lit → Option Value) (k : Lit) (v : Value) : Lit → Option Value := fun l => if l.sameKey k then some v else M l
def mpDel (M : Lit → Option Value) (k : Lit) : Lit → Option Value := fun l => if l.sameKey k then none else M l
section
variable {P : Program} {k : TypeId} {w w' : World} {b n : Nat} {M : Lit → Option Value}
theorem MpAt.lt (h : MpAt P k w b n M) : b < w.heap.size := by obtain ⟨_, h, _⟩ := h; exact h.lt
theorem MpAt.below (h : MpAt P k w b n M) (hb : Below w.heap.size w w') : MpAt P k w' b n M := by
  obtain ⟨D, ⟨es, clock, hg, r⟩, hM⟩ := h
  exact ⟨D, ⟨es, clock, (hb.block b (Array.getElem?_eq_some_iff.1 hg).1).trans hg, r⟩, hM⟩
theorem MpAt.stay (h : MpAt P k w b n M) (hb : w'.heap[b]? = w.heap[b]?) : MpAt P k w' b n M := by
  obtain ⟨D, ⟨es, clock, hg, r⟩, hM⟩ := h
  exact ⟨D, ⟨es, clock, hb.trans hg, r⟩, hM⟩
theorem MpAt.mono (h : MpAt P k w b n M) {m : Nat} (hm : n ≤ m) : MpAt P k w b m M := by obtain ⟨D, h, hM⟩ := h; exact ⟨D, h.mono hm, hM⟩
theorem mp_new (P : Program) (k : TypeId) (w : World) : MpAt P k (w.alloc (.map #[] 0)) w.heap.size 0 (fun _ => none) :=
  ⟨.map [], World.ownsMap_made w P k Rv, fun l _ => ⟨rfl, fun v h => by cases h⟩⟩
theorem mp_at (_h : MpAt P k w b n M) {l : Lit} (_hl : WideAt.IsKeyLit l) {v : Value} {ps : List MemPlace} {z : Value} {D : DataW Value} (hD : Maps.has D l = (M l).isSome ∧ ∀ v, M l = some v → ∀ z, D.atKey l z = .held v) (hv : Rv v = some (D.atKey l (.held z), ps)) : v = (M l).getD z := by
  have e : DataW.held v = D.atKey l (.held z) := congrArg Prod.fst (Option.some.inj hv)
  cases hm : M l with
  | none =>
    rw [hm] at hD
    rw [Maps.atKey_of_not_has hD.1] at e
    cases e
    rfl
  | some u =>
    rw [hD.2 u hm] at e
    cases e
    rfl
/-- 'm[k]'. -/
theorem MpAt.look {t e : TypeId} (h : MpAt P k w b n M) (K : Keyed P k) (ht : P.underlying t = some (.map k e)) {z : Value} (hz : (zeroValue e).run P w = .ok z w) {key : Value} {kl : Lit} (hkey : keyOf P k key = some kl) :
    (Instr.lookup t (.map (some b)) key false).run P w = .ok ((M kl).getD z) w := by
  have h2 := h
  obtain ⟨D, ho, hM⟩ := h
  obtain ⟨v, ps, hrun, hv⟩ := ho.lookup K ht hz (zd := .held z) (zp := []) rfl hkey
  rw [hrun, mp_at h2 (K.key hkey) (hM _ (K.key hkey)) hv]
/-- 'v, ok := m[k]'. -/
theorem MpAt.look_ok {t e : TypeId} (h : MpAt P k w b n M) (K : Keyed P k) (ht : P.underlying t = some (.map k e)) {z : Value} (hz : (zeroValue e).run P w = .ok z w) {key : Value} {kl : Lit} (hkey : keyOf P k key = some kl) :
    (Instr.lookup t (.map (some b)) key true).run P w = .ok (.tuple #[(M kl).getD z, .bool (M kl).isSome]) w := by
  have h2 := h
  obtain ⟨D, ho, hM⟩ := h
  obtain ⟨v, ps, hrun, hv⟩ := ho.look_ok K ht hz (zd := .held z) (zp := []) rfl hkey
  rw [hrun, mp_at h2 (K.key hkey) (hM _ (K.key hkey)) hv, (hM _ (K.key hkey)).1]
/-- 'm[k] = v'. -/
theorem MpAt.store {t e : TypeId} (h : MpAt P k w b n M) (K : Keyed P k) (ht : P.underlying t = some (.map k e)) (hn : n < maxLen) {key val : Value} {kl : Lit} (hkey : keyOf P k key = some kl) :
    ∃ w', (Instr.mapUpdate t (.map (some b)) key val).run P w = .ok () w' ∧ MpAt P k w' b (n + 1) (mpPut M kl val) ∧ w.mapTurned w' b := by
  obtain ⟨D, ho, hM⟩ := h
  obtain ⟨w', hrun, ho', ht'⟩ := ho.store K ht hn (d := .held val) (ps := []) hkey rfl
  refine ⟨w', hrun, ⟨_, ho', fun l hl => ?_⟩, ht'⟩
  unfold mpPut
  by_cases he : l = kl
  · subst he
    rw [if_pos (WideAt.sameKey_self hl)]
    exact ⟨Maps.has_put_same ho.isMap hl _, fun v hv z => by cases hv; exact Maps.atKey_put_same ho.isMap hl _ _⟩
  · rw [if_neg (fun q => he (WideAt.sameKey_eq q))]
    refine ⟨(Maps.has_put_other he _).trans (hM l hl).1, fun v hv z => (Maps.atKey_put_other he _ _).trans ((hM l hl).2 v hv z)⟩
/-- 'delete(m, k)'. -/
theorem MpAt.drop {t e : TypeId} (h : MpAt P k w b n M) (K : Keyed P k) (ht : P.underlying t = some (.map k e)) {key : Value} {kl : Lit} (hkey : keyOf P k key = some kl) (ty : TypeId) :
    ∃ w', (Builtin.delete_ #[t, k] ty #[.map (some b), key]).run P w = .ok (.tuple #[]) w' ∧ MpAt P k w' b n (mpDel M kl) ∧ w.mapTurned w' b := by
  obtain ⟨D, ho, hM⟩ := h
  obtain ⟨w', hrun, ho', ht'⟩ := ho.drop K ht hkey ty
  refine ⟨w', hrun, ⟨_, ho', fun l hl => ?_⟩, ht'⟩
  unfold mpDel
  by_cases he : l = kl
  · subst he
    rw [if_pos (WideAt.sameKey_self hl)]
    exact ⟨Maps.has_del_same, fun v hv => by cases hv⟩
  · rw [if_neg (fun q => he (WideAt.sameKey_eq q))]
    exact ⟨(Maps.has_del_other he).trans (hM l hl).1, fun v hv z => (Maps.atKey_del_other he _).trans ((hM l hl).2 v hv z)⟩
theorem turned_block {w w' : World} {b : Nat} (h : w.mapTurned w' b) {g : Nat} (hg : g ≠ b) : w'.heap[g]? = w.heap[g]? := by
  obtain ⟨es, clock, es', clock', hb, rfl⟩ := h
  exact heap_setBlock_other hb _ hg
end
section
variable {P : Program} {w : World} {ops : Array Oper} {rest : List Oper} {o : Oper} {a : Act} {Q : Exit → Act → World → Prop} {k : TypeId} {b n : Nat} {M : Lit → Option Value}
theorem wpList_look_mp (hg : o.guard = none) (m x : Operand) (t e : TypeId) (hop : o.op = Op.lookup t m x false) (K : Keyed P k) (ht : P.underlying t = some (.map k e)) {z : Value} (hz : ∀ w, (zeroValue e).run P w = .ok z w)
    (hm : a.eval m = .map (some b)) (h : MpAt P k w b n M) (key : Value) (kl : Lit) (hx : a.eval x = key) (hkey : keyOf P k key = some kl)
    (hK : wpList P ops Q rest (a.put o.dst ((M kl).getD z)) w) : wpList P ops Q (o :: rest) a w := by
  refine wpList_plain hg fun K' hK' => ?_
  unfold Oper.wp
  simp [execOp, hop, hm, hx, h.look K ht (hz w) hkey, Result.andThen]
  exact hK' _ _ hK
theorem wpList_lookok_mp (hg : o.guard = none) (m x : Operand) (t e : TypeId) (hop : o.op = Op.lookup t m x true) (K : Keyed P k) (ht : P.underlying t = some (.map k e)) {z : Value} (hz : ∀ w, (zeroValue e).run P w = .ok z w)
    (hm : a.eval m = .map (some b)) (h : MpAt P k w b n M) (key : Value) (kl : Lit) (hx : a.eval x = key) (hkey : keyOf P k key = some kl)
    (hK : wpList P ops Q rest (a.put o.dst (.tuple #[(M kl).getD z, .bool (M kl).isSome])) w) : wpList P ops Q (o :: rest) a w := by
  refine wpList_plain hg fun K' hK' => ?_
  unfold Oper.wp
  simp [execOp, hop, hm, hx, h.look_ok K ht (hz w) hkey, Result.andThen]
  exact hK' _ _ hK
theorem wpList_store_mp (hg : o.guard = none) (m x v : Operand) (t e : TypeId) (hop : o.op = Op.mapUpdate t m x v) (K : Keyed P k) (ht : P.underlying t = some (.map k e))
    (hm : a.eval m = .map (some b)) (h : MpAt P k w b n M) (hn : n < maxLen) (key val : Value) (kl : Lit) (hx : a.eval x = key) (hv : a.eval v = val) (hkey : keyOf P k key = some kl)
    (hK : ∀ w', MpAt P k w' b (n + 1) (mpPut M kl val) → w.mapTurned w' b → wpList P ops Q rest (a.put o.dst undef) w') : wpList P ops Q (o :: rest) a w := by
  refine wpList_plain hg fun K' hK' => ?_
  obtain ⟨w', hrun, r1, r2⟩ := h.store K ht hn (val := val) hkey
  unfold Oper.wp
  simp [execOp, hop, hm, hx, hv, hrun, Result.andThen]
  exact hK' _ _ (hK w' r1 r2)
theorem wpList_drop_mp (hg : o.guard = none) (m x : Operand) (t e : TypeId) (hop : o.op = Op.call { callee := Callee.builtin Builtin.delete, args := #[m, x], argTypes := #[t, k] }) (K : Keyed P k) (ht : P.underlying t = some (.map k e))
    (hm : a.eval m = .map (some b)) (h : MpAt P k w b n M) (key : Value) (kl : Lit) (hx : a.eval x = key) (hkey : keyOf P k key = some kl)
    (hK : ∀ w', MpAt P k w' b n (mpDel M kl) → w.mapTurned w' b → wpList P ops Q rest (a.put o.dst (.tuple #[])) w') : wpList P ops Q (o :: rest) a w := by
  refine wpList_plain hg fun K' hK' => ?_
  obtain ⟨w', hrun, r1, r2⟩ := h.drop K ht hkey o.type
  unfold Oper.wp
  simp [execOp, hop, resolve, invoke, builtin, hm, hx, hrun, Result.andThen]
  exact hK' _ _ (hK w' r1 r2)
end
end Go.Proofs.Ytoleiiicbnmhpaa
namespace Go.Proofs.Ytoleiiicbnmhpaa
open Go.RowKit
open Go.Maps (Keyed)
theorem thawed_row {w : World} {p : Nat} {cs : Array Value} {t : TypeId} (j : Nat) (h : w.heap[p]? = some (.cells cs t (0, 0))) : w.frozen? ⟨p, j, none⟩ = false := by
  unfold World.frozen?
  rw [h]
  rfl
structure OpR where
  x : ByteArray
  c : Nat
  who : Nat
def opCells (s : Nat) (r : OpR) : List Value := [.int .u64 (s : Int), .string r.x, .int .u8 (r.c : Int), .int .u8 (r.who : Int)]
def opV (s : Nat) (r : OpR) : Value := .agg (opCells s r).toArray
def op0 : OpR := ⟨ByteArray.empty, 0, 0⟩
theorem op_one (s : Nat) (r : OpR) : ∀ u ∈ opCells s r, u.oneCell' = true := by simp [opCells, Value.oneCell']
theorem op_size (s : Nat) (r : OpR) : (Try.prog.info? 63).map (·.size) = some (opCells s r).length := (by kernel_rfl : (Try.prog.info? 63).map (·.size) = some 4)
theorem op_zero (w : World) : (zeroValue 63).run Try.prog w = .ok (opV 0 op0) w := by kernel_rfl
theorem lawU : Keyed Try.prog 31 := Maps.int_keyed Try.underlying31
/-- A slot, as a key. -/
def ku (s : Nat) : Lit := .int .u64 (s : Int)
theorem key_ku {s : Nat} (h : s < 18446744073709551616) : keyOf Try.prog 31 (.int .u64 (s : Int)) = some (ku s) := Maps.keyOf_int_mk Try.underlying31 (by simp [Lit.wf, IntKind.min, IntKind.max, IntKind.signed, IntKind.bits]; omega)
def mpOf (D : Nat → Option OpR) : Lit → Option Value
  | .int .u64 a => if 0 ≤ a then (D a.toNat).map (opV a.toNat) else none
  | _ => none
def updD (D : Nat → Option OpR) (s : Nat) (r : Option OpR) : Nat → Option OpR := fun k => if k = s then r else D k
theorem mpOf_at (D : Nat → Option OpR) (s : Nat) : mpOf D (ku s) = (D s).map (opV s) := by simp [mpOf, ku]
theorem mpOf_upd (D : Nat → Option OpR) (s : Nat) (r : Option OpR) (l : Lit) : (if l.sameKey (ku s) then r.map (opV s) else mpOf D l) = mpOf (updD D s r) l := by
  unfold ku
  cases l with
  | int q a =>
    cases q <;> simp [Lit.sameKey, mpOf]
    by_cases h : a = (s : Int)
    · subst h
      simp [updD]
    · rw [if_neg h]
      split
      · next h0 =>
        have : a.toNat ≠ s := by omega
        simp [updD, this]
      · rfl
  | _ => simp [Lit.sameKey, mpOf]
theorem mpOf_put (D : Nat → Option OpR) (s : Nat) (r : OpR) : mpPut (mpOf D) (ku s) (opV s r) = mpOf (updD D s (some r)) := funext fun l => mpOf_upd D s (some r) l
theorem mpOf_del (D : Nat → Option OpR) (s : Nat) : mpDel (mpOf D) (ku s) = mpOf (updD D s none) := funext fun l => mpOf_upd D s none l
/-- A desk lies there: its block, its map. -/
structure DeskAt (w : World) (p g n : Nat) (D : Nat → Option OpR) (last : Nat) : Prop where
  row : w.heap[p]? = some (.cells #[.map (some g), .int .u64 (last : Int)] 67 (0, 0))
  mp : MpAt Try.prog 31 w g n (mpOf D)
theorem DeskAt.lt {w : World} {p g n last : Nat} {D : Nat → Option OpR} (h : DeskAt w p g n D last) : p < w.heap.size := (Array.getElem?_eq_some_iff.1 h.row).1
theorem DeskAt.ne {w : World} {p g n last : Nat} {D : Nat → Option OpR} (h : DeskAt w p g n D last) : p ≠ g := by
  rintro rfl
  obtain ⟨_, ⟨es, cl, hg, _⟩, _⟩ := h.mp
  have := h.row
  rw [hg] at this
  cases this
theorem DeskAt.stay {w w' : World} {p g n last : Nat} {D : Nat → Option OpR} (h : DeskAt w p g n D last) (hp : w'.heap[p]? = w.heap[p]?) (hg : w'.heap[g]? = w.heap[g]?) : DeskAt w' p g n D last := ⟨hp.trans h.row, h.mp.stay hg⟩
theorem DeskAt.below {w w' : World} {p g n last : Nat} {D : Nat → Option OpR} (h : DeskAt w p g n D last) (hb : Below w.heap.size w w') : DeskAt w' p g n D last := h.stay (hb.block p h.lt) (hb.block g h.mp.lt)
theorem DeskAt.cells {w : World} {p g n last : Nat} {D : Nat → Option OpR} (h : DeskAt w p g n D last) : w.cell? ⟨p, 0, none⟩ = some (.map (some g)) ∧ w.cell? ⟨p, 1, none⟩ = some (.int .u64 (last : Int)) := ⟨cell_of_row _ _ _ _ _ _ h.row, cell_of_row _ _ _ _ _ _ h.row⟩
/-- But for two blocks, nothing that lay there turned. -/
structure ButTwo (p g : Nat) (w w' : World) : Prop where
  os : w'.os = w.os
  tape : w'.tape = w.tape
  output : w'.output = w.output
  size : w.heap.size ≤ w'.heap.size
  block : ∀ k, k < w.heap.size → k ≠ p → k ≠ g → w'.heap[k]? = w.heap[k]?
theorem two_of {p g : Nat} {w w' : World} (h : Below w.heap.size w w') : ButTwo p g w w' := ⟨h.os, h.tape, h.output, h.size, fun k hk _ _ => h.block k hk⟩
theorem ButTwo.trans {p g : Nat} {a b c : World} (h : ButTwo p g a b) (k : ButTwo p g b c) : ButTwo p g a c := ⟨k.os.trans h.os, k.tape.trans h.tape, k.output.trans h.output, Nat.le_trans h.size k.size, fun i hi h1 h2 => (k.block i (Nat.lt_of_lt_of_le hi h.size) h1 h2).trans (h.block i hi h1 h2)⟩
theorem ButTwo.below {p g m : Nat} {w0 w w' : World} (h : ButTwo p g w w') (h0 : Below m w0 w) (hm : m ≤ w.heap.size) (hp : m ≤ p) (hg : m ≤ g) : Below m w0 w' := h0.trans ⟨h.os, h.tape, h.output, h.size, fun k hk => h.block k (by omega) (by omega) (by omega)⟩
theorem two_turned {p g : Nat} {w w' : World} (h : w.mapTurned w' g) : ButTwo p g w w' := by
  have hs := h.grown
  exact ⟨hs.os, hs.tape, hs.output, hs.size, fun k hk _ hg => turned_block h hg⟩
theorem two_cell {p g i : Nat} {w : World} (x : Value) : ButTwo p g w (w.setCell ⟨p, i, none⟩ x) := ⟨rfl, rfl, rfl, by simp, fun k _ hp _ => Below.heap_setCell _ _ _ _ hp⟩
theorem dnew_any (w : World) : Calls Try.prog 10 #[] w fun e w' => e = .returned (.pointer (some ⟨w.heap.size + 1, 0, none⟩)) ∧ DeskAt w' (w.heap.size + 1) w.heap.size 0 (fun _ => none) 0 ∧ Below w.heap.size w w' := by
  have hb := ((Below.refl w.heap.size w).alloc (Nat.le_refl _) (.map #[] 0)).alloc (by simp) (.cells #[.map (some w.heap.size), .int .u64 0] 67)
  have hd : DeskAt ((w.alloc (.map #[] 0)).alloc (.cells #[.map (some w.heap.size), .int .u64 0] 67)) (w.heap.size + 1) w.heap.size 0 (fun _ => none) 0 := by
    refine ⟨?_, ?_⟩
    · have := heap_alloc_new (w.alloc (.map #[] 0)) (.cells #[.map (some w.heap.size), .int .u64 0] 67)
      rwa [World.size_alloc] at this
    · have e : (fun _ => none : Lit → Option Value) = mpOf (fun _ => none) := by
        funext l
        cases l with
        | int q a => cases q <;> simp [mpOf]
        | _ => rfl
      rw [← e]
      exact (mp_new _ _ w).below ((Below.refl _ _).alloc (Nat.le_refl _) _)
  have H := Lib.hid (And.intro hd hb)
  clear hd hb
  have hmm := @run_makeMap Try.prog
  go_enter Try.func10, Try.ntmps10
  go_wp2_with fail
  go_ret
  exact ⟨rfl, H.out.1, H.out.2⟩
theorem dlast_any (p g n last : Nat) (Dm : Nat → Option OpR) (w : World) (h : DeskAt w p g n Dm last) : Calls Try.prog 17 #[.pointer (some ⟨p, 0, none⟩)] w fun e w' => e = .returned (.int .u64 (last : Int)) ∧ Below w.heap.size w w' := by
  obtain ⟨c0, c1⟩ := h.cells
  clear h
  go_enter Try.func17, Try.ntmps17
  go_wp2_with fail
  go_ret
  exact ⟨rfl, Below.refl _ _⟩
theorem dclose_any (p g n last : Nat) (Dm : Nat → Option OpR) (s : Nat) (hs : s < 18446744073709551616) (w : World) (h : DeskAt w p g n Dm last) : Calls Try.prog 15 #[.pointer (some ⟨p, 0, none⟩), .int .u64 (s : Int)] w fun e w' => e = .returned (.tuple #[]) ∧ DeskAt w' p g n (updD Dm s none) last ∧ ButTwo p g w w' := by
  obtain ⟨c0, c1⟩ := h.cells
  have H := Lib.hid h
  have hk := key_ku hs
  clear h c1
  go_enter Try.func15, Try.ntmps15
  go_wp2_with (at_delete; refine wpList_drop_mp rfl _ _ 65 63 rfl lawU Try.underlying65 rfl H.out.mp _ (ku s) rfl hk ?_; intro w1 hm1 ht1; have H1 := Lib.hid (And.intro hm1 ht1); clear hm1 ht1)
  refine bodyPost_end (results_none rfl _ _ _) rfl ?_
  have hd := H1.out.1
  rw [mpOf_del] at hd
  exact ⟨rfl, ⟨(turned_block H1.out.2 H.out.ne).trans H.out.row, hd⟩, two_turned H1.out.2⟩
/-- What Open refuses. -/
def badOpen (s c : Nat) : Bool := decide (s = 0) || decide (4611686018427387904 < s) || decide (c = 0) || decide (128 ≤ c)
set_option maxRecDepth 100000 in
theorem dopen_ok (p g n last : Nat) (Dm : Nat → Option OpR) (s : Nat) (x : ByteArray) (c : Nat) (hbad : badOpen s c = false) (hl : last < s) (hc : c < 256) (hn : n < 100000) (w : World) (h : DeskAt w p g n Dm last) :
    Calls Try.prog 11 #[.pointer (some ⟨p, 0, none⟩), .int .u64 (s : Int), .string x, .int .u8 (c : Int)] w fun e w' => e = .returned (.int .i64 0) ∧ DeskAt w' p g (n + 1) (updD Dm s (some ⟨x, c, 0⟩)) s ∧ ButTwo p g w w' := by
  obtain ⟨c0, c1⟩ := h.cells
  have H := Lib.hid h
  unfold badOpen at hbad
  simp only [Bool.or_eq_false_iff, decide_eq_false_iff_not] at hbad
  obtain ⟨⟨⟨b1, b2⟩, b3⟩, b4⟩ := hbad
  have hk := key_ku (s := s) (by omega)
  have e1 : ((s : Int) == 0) = false := by rw [beq_eq_false_iff_ne]; omega
  have e2 : ((4611686018427387904 : Int) < (s : Int)) = False := by rw [eq_iff_iff, iff_false]; omega
  have e3 : ((c : Int) == 0) = false := by rw [beq_eq_false_iff_ne]; omega
  have e4 : ¬ (s : Int) ≤ (last : Int) := by omega
  have e5 : ((c : Int) / 128 != 0) = false := by rw [bne_eq_false_iff_eq]; omega
  have Hn := Lib.hid hn
  clear h b1 b2 b3 b4 hl hn
  go_enter Try.func11, Try.ntmps11
  go_upto_region 8 with (at_mapUpdate; refine wpList_store_mp rfl _ _ _ 65 63 rfl lawU Try.underlying65 rfl H.out.mp (by have := Hn.out; unfold maxLen; omega) _ (opV s ⟨x, c, 0⟩) (ku s) rfl rfl hk ?_; intro w1 hm1 ht1; have H1 := Lib.hid (And.intro hm1 ht1); clear hm1 ht1)
  have hr1 := (turned_block H1.out.2 H.out.ne).trans H.out.row
  have f1 : w1.cell? ⟨p, 1, none⟩ = some (.int .u64 (last : Int)) := cell_of_row _ _ _ _ _ _ hr1
  have t1 := thawed_row 1 hr1
  have Hr1 := Lib.hid hr1
  clear hr1 c0 c1
  go_wp2_with fail
  go_ret
  have hd := H1.out.1
  rw [mpOf_put] at hd
  refine ⟨rfl, ⟨?_, hd.stay (Below.heap_setCell _ _ _ _ (fun e => H.out.ne e.symm))⟩, (two_turned H1.out.2).trans (two_cell _)⟩
  rw [heap_setCell_same _ _ _ _ _ _ Hr1.out]
  rfl
set_option maxRecDepth 100000 in
theorem dopen_bad (p g n last : Nat) (Dm : Nat → Option OpR) (s : Nat) (x : ByteArray) (c : Nat) (hbad : badOpen s c = true) (w : World) (_h : DeskAt w p g n Dm last) :
    Calls Try.prog 11 #[.pointer (some ⟨p, 0, none⟩), .int .u64 (s : Int), .string x, .int .u8 (c : Int)] w fun e w' => e = .returned (.int .i64 2) ∧ Below w.heap.size w w' := by
  unfold badOpen at hbad
  by_cases b1 : s = 0
  · subst b1
    clear hbad
    go_enter Try.func11, Try.ntmps11
    go_wp2_with fail
    go_ret
    exact ⟨rfl, Below.refl _ _⟩
  · have e1 : ((s : Int) == 0) = false := by rw [beq_eq_false_iff_ne]; omega
    by_cases b2 : 4611686018427387904 < s
    · have e2 : ((4611686018427387904 : Int) < (s : Int)) = True := by rw [eq_iff_iff, iff_true]; omega
      clear hbad b2 b1
      go_enter Try.func11, Try.ntmps11
      go_wp2_with fail
      go_ret
      exact ⟨rfl, Below.refl _ _⟩
    · have e2 : ((4611686018427387904 : Int) < (s : Int)) = False := by rw [eq_iff_iff, iff_false]; omega
      by_cases b3 : c = 0
      · subst b3
        clear hbad b2 b1
        go_enter Try.func11, Try.ntmps11
        go_wp2_with fail
        go_ret
        exact ⟨rfl, Below.refl _ _⟩
      · have b4 : 128 ≤ c := by simpa [b1, b2, b3] using hbad
        have e3 : ((c : Int) == 0) = false := by rw [beq_eq_false_iff_ne]; omega
        have e5 : ((c : Int) / 128 != 0) = true := by rw [bne_iff_ne]; omega
        clear hbad b2 b1 b3 b4
        go_enter Try.func11, Try.ntmps11
        go_wp2_with fail
        go_ret
        exact ⟨rfl, Below.refl _ _⟩
set_option maxRecDepth 100000 in
theorem dopen_state (p g n last : Nat) (Dm : Nat → Option OpR) (s : Nat) (x : ByteArray) (c : Nat) (hbad : badOpen s c = false) (hl : s ≤ last) (w : World) (h : DeskAt w p g n Dm last) :
    Calls Try.prog 11 #[.pointer (some ⟨p, 0, none⟩), .int .u64 (s : Int), .string x, .int .u8 (c : Int)] w fun e w' => e = .returned (.int .i64 13) ∧ Below w.heap.size w w' := by
  obtain ⟨c0, c1⟩ := h.cells
  unfold badOpen at hbad
  simp only [Bool.or_eq_false_iff, decide_eq_false_iff_not] at hbad
  obtain ⟨⟨⟨b1, b2⟩, b3⟩, b4⟩ := hbad
  have e1 : ((s : Int) == 0) = false := by rw [beq_eq_false_iff_ne]; omega
  have e2 : ((4611686018427387904 : Int) < (s : Int)) = False := by rw [eq_iff_iff, iff_false]; omega
  have e3 : ((c : Int) == 0) = false := by rw [beq_eq_false_iff_ne]; omega
  have e4 : (s : Int) ≤ (last : Int) := by omega
  have e5 : ((c : Int) / 128 != 0) = false := by rw [bne_eq_false_iff_eq]; omega
  clear h b1 b2 b3 b4 hl
  go_enter Try.func11, Try.ntmps11
  go_wp2_with fail
  go_ret
  exact ⟨rfl, Below.refl _ _⟩
end Go.Proofs.Ytoleiiicbnmhpaa
