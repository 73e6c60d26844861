/- An argument that is a slice of structs of one-cell fields, opened to its cells, typed. Over any program. Condition: each field of the struct is one cell. -/
import Derived.WalkKit
import Derived.Deep.Slices
import Derived.Deep.Fields
import Derived.ChangeSame
import Derived.Below
import Derived.Test.YtoleiiicbnmhpaaZProposePlays0
import Derived.OwnWalk
import Derived.Maps.AppendAt
import Derived.Laws.AppendOwnNone
import Derived.Deep.DeepCutAuto
import Derived.Test.YtoleiiicbnmhpaaRows
import Derived.WalkSpells
import Derived.WalkLawsBesides
import Derived.Lib.Hide
import Derived.Laws.BitsAllLaws
import Derived.OrdersHeld
import Derived.OrdersIn
import Derived.RangeFuncKeeps
import Derived.RangeFuncBound
import Derived.RangeFuncLeaves
import Derived.RangeFuncNested
import Derived.RangeFuncCalls
import Derived.Shelf.Abstract
import Derived.Shelf.RegionOpen
import Derived.OwnWalkIn
import Derived.TacticsInMore
import Derived.LoopNIn
import Derived.LoopIn
import Derived.RangeFuncFrom
import Derived.Laws.EntriesVeiled
import Derived.IntWalk
import Derived.RangeFuncWrites
import Derived.Laws.CopyOwn
import Derived.Laws.MakeOwn
import Derived.Lib.AppendStr
import Derived.Laws.IdiomStrings
import Derived.Lib.BufferRead
import Derived.Test.YtoleiiicbnmhpaaChecked
import Derived.ProofKit
import Derived.Shelf.Strconv.Itoa0
import Derived.StillTailTactics
namespace Go.Proofs.Ytoleiiicbnmhpaa
open Go.ChangeShapes Go.WideShapes Go.Deep Go.RowKit
/-- The slice's elements are z; element i lies in k cells, which hold 'enc' of it. -/
structure SliceAt {α : Type} (k : Nat) (enc : α → List Value) (w : World) (a : Option Addr) (len : Nat) (z : List α) : Prop where
  hlen : z.length = len
  hmax : len ≤ maxLen
  cells : ∀ (i : Nat) (x : α), z[i]? = some x → ∃ b o, a = some ⟨b, o, none⟩ ∧ b < w.heap.size ∧ ∀ j v, (enc x)[j]? = some v → w.cell? ⟨b, o + (i * k + j), none⟩ = some v
theorem SliceAt.below {α : Type} {k : Nat} {enc : α → List Value} {w w' : World} {a : Option Addr} {len : Nat} {z : List α} (h : SliceAt k enc w a len z) (hb : Below w.heap.size w w') : SliceAt k enc w' a len z := by
  refine ⟨h.hlen, h.hmax, fun i x hi => ?_⟩
  obtain ⟨b, o, h1, h2, h3⟩ := h.cells i x hi
  refine ⟨b, o, h1, Nat.lt_of_lt_of_le h2 hb.size, fun j v hj => ?_⟩
  rw [← h3 j v hj]
  simp only [World.cell?, hb.block b h2]
section
variable {H : Type} {enc : TypeId × Value → H} {P : Program} {w : World} {base : Nat} {spare : Nat → Bool} {held : Bool}
theorem open_rows {α : Type} [Inhabited α] (toCells : α → List Value) {t e : TypeId} {fs : Array Field} {a : Option Addr} {len cap : Nat} {d : DataW H} {pl : List MemPlace} (ht : P.underlying t = some (.slice e)) (he : P.underlying e = some (.struct fs))
    (hone : oneCellFields P fs = true) (hC : P.cellsOf e = fs.size) (hpos : 0 < fs.size)
    (hx : ∀ vs : List Value, vs.length = fs.size → (∀ (j : Nat) (f : Field), fs[j]? = some f → ∃ (v : Value) (y : DataW H × List MemPlace) (n : Nat), vs[j]? = some v ∧ DataW.trod enc P w base spare held n f.type [v] = some y) → ∃ x : α, vs = toCells x)
    (h : DataW.Trod enc P w base spare held t (.slice a len cap) d pl) : ∃ z : List α, SliceAt fs.size toCells w a len z := by
  obtain ⟨m, hm⟩ := h
  rcases open_slice ht hm with ⟨h0, _⟩ | ⟨p, ln, cp, mm, n, D, Pl, hcs, hb, hl, hmx, hmm, _, hi⟩
  · have h0' : [Value.slice a len cap] = [Value.slice none 0 0] := h0
    simp only [List.cons.injEq, Value.slice.injEq, and_true] at h0'
    obtain ⟨rfl, rfl, rfl⟩ := h0'
    exact ⟨[], rfl, Nat.zero_le _, fun i x hx => by simp at hx⟩
  · have h0' : [Value.slice a len cap] = [Value.slice (some p) ln cp] := hcs
    simp only [List.cons.injEq, Value.slice.injEq, and_true] at h0'
    obtain ⟨rfl, rfl, rfl⟩ := h0'
    have hlm : len ≤ mm := by rw [hmm]; split <;> omega
    obtain ⟨g, hg⟩ := choose_lt (n := len) (p := fun i (x : α) => w.cells? base (p.add (i * fs.size)) fs.size = some (toCells x) ∧ (toCells x).length = fs.size) (fun i hil => by
      obtain ⟨cs', h1, h2⟩ := hi i (by omega)
      rw [hC] at h1
      obtain ⟨ys, n', _, _, hlen, hyl, hf⟩ := DataW.trod_struct he h2
      obtain ⟨_, hcl, _⟩ := World.cells?_some h1
      obtain ⟨x, rfl⟩ := hx cs' hcl (fun j f hj => by
        have hjl : j < fs.size := (Array.getElem?_eq_some_iff.1 hj).1
        obtain ⟨ho, hk⟩ := hone_of hone j f hj
        have hq := hf j f hj
        rw [ho, hk, take1_drop _ _ undef (by omega)] at hq
        refine ⟨cs'.getD j undef, ys[j]'(by omega), n', ?_, ?_⟩
        · simp [List.getD, List.getElem?_eq_getElem (show j < cs'.length by omega)]
        · rw [hq, List.getElem?_eq_getElem (by omega)])
      exact ⟨x, h1, hcl⟩)
    refine ⟨(List.range len).map g, by simp, by omega, fun i x hix => ?_⟩
    have hil : i < len := by
      have := (List.getElem?_eq_some_iff.1 hix).1
      simpa using this
    have hgx : g i = x := by simpa [hil] using hix
    obtain ⟨h1, h2⟩ := hg i hil
    rw [hgx] at h1 h2
    obtain ⟨_, _, hcell⟩ := World.cells?_some h1
    obtain ⟨b, o, sp⟩ := p
    obtain ⟨g1, g2⟩ := hg 0 (by omega)
    obtain ⟨_, _, gcell⟩ := World.cells?_some g1
    have h00 := gcell 0 hpos
    rw [List.getElem?_eq_getElem (by omega)] at h00
    have hspot : sp = none := by simpa [Addr.add] using World.cell?_spot h00
    subst hspot
    have hlt := World.block_lt_of_cell? _ _ h00
    refine ⟨b, o, rfl, ?_, fun j v hj => ?_⟩
    · simpa [Addr.add] using hlt
    · have hjl : j < fs.size := by
        have := (List.getElem?_eq_some_iff.1 hj).1
        omega
      have := hcell j hjl
      rw [add_add, hj] at this
      rw [← this, add_plain]
end
end Go.Proofs.Ytoleiiicbnmhpaa
namespace Go.Proofs.Ytoleiiicbnmhpaa
open Go.RowKit
structure TAct where
  act : BitVec 8
  key : ByteArray
  val : ByteArray
instance : Inhabited TAct := ⟨⟨0, ByteArray.empty, ByteArray.empty⟩⟩
theorem tsucc {n : Nat} (h : n ≤ 9223372036854775806) : IntKind.i64.wrap ((n : Int) + 1) = ((n + 1 : Nat) : Int) := by rw [IntKind.wrap_i64] <;> omega
def stepSh (x : TAct) (S : Sh) : Sh := if x.act.toNat = 0 then delSh x.key S (S.look x.key) else putSh x.key x.val S (S.look x.key)
end Go.Proofs.Ytoleiiicbnmhpaa
namespace Go.Proofs.Ytoleiiicbnmhpaa
open Go.RowKit
def tA : ByteArray := ⟨#[97]⟩
def tB : ByteArray := ⟨#[98]⟩
def t1 : ByteArray := ⟨#[49]⟩
def t2 : ByteArray := ⟨#[50]⟩
def t3 : ByteArray := ⟨#[51]⟩
def s1 : Sh := stepSh ⟨1, tA, t1⟩ .nil
def s2 : Sh := stepSh ⟨1, tB, t2⟩ s1
def s3 : Sh := stepSh ⟨0, tB, tB⟩ s2
def s4 : Sh := stepSh ⟨1, tA, t3⟩ s3
def s5 : Sh := stepSh ⟨0, tA, tA⟩ s4
end Go.Proofs.Ytoleiiicbnmhpaa
namespace Go.Proofs.Ytoleiiicbnmhpaa
open Go.RowKit
/-- How many bits a byte has. -/
def pop8 (n : Nat) : Nat := n % 2 + n / 2 % 2 + n / 4 % 2 + n / 8 % 2 + n / 16 % 2 + n / 32 % 2 + n / 64 % 2 + n / 128 % 2
def bothS (s t : Nat) : Nat := s &&& t &&& 127
end Go.Proofs.Ytoleiiicbnmhpaa
namespace Go.Proofs.Ytoleiiicbnmhpaa
open Go.RowKit
theorem and_byte {x y : Nat} (hx : x < 256) : x &&& y < 256 := Nat.lt_of_le_of_lt Nat.and_le_left hx
theorem u8_127 {x : Nat} (hx : x < 256) : bits .and .u8 (x : Int) 127 = ((x &&& 127 : Nat) : Int) := u8_and_nat x 127 hx (by omega)
set_option maxRecDepth 100000 in
theorem both_any (x y : Nat) (hx : x < 256) (hy : y < 256) (w : World) : Calls Try.prog 25 #[.int .u8 (x : Int), .int .u8 (y : Int)] w fun e w' => e = .returned (.int .u8 (bothS x y : Int)) ∧ w = w' := by
  have h1 := u8_and_nat x y hx hy
  have h2 := u8_127 (and_byte (y := y) hx)
  go_enter Try.func25, Try.ntmps25
  go_wp2_with fail
  go_ret
  exact ⟨rfl, rfl⟩
set_option maxRecDepth 100000 in
theorem ones_any (x : Nat) (hx : x < 256) (w : World) : Calls Try.prog 24 #[.int .u8 (x : Int)] w fun e w' => e = .returned (.int .i64 (pop8 x : Int)) ∧ w = w' := by
  have h1 : (x : Int) < 256 := by omega
  go_enter Try.func24, Try.ntmps24
  go_wp2_with fail
  go_ret
  refine ⟨?_, rfl⟩
  refine congrArg (fun q : Int => Ending.returned (Value.int .i64 q)) ?_
  clear w
  revert h1
  revert hx
  revert x
  decide +kernel
set_option maxRecDepth 100000 in
theorem len8_any (x : Nat) (hx : x < 256) (w : World) : Calls Try.prog 9 #[.int .u8 (x : Int)] w fun e w' => e = .returned (.int .i64 (pop8 (x &&& 127) : Int)) ∧ w = w' := by
  have h2 := u8_127 hx
  have Ho := Lib.hid (ones_any (x &&& 127) (and_byte hx) w)
  go_enter Try.func9, Try.ntmps9
  go_wp2_with ((with_reducible refine Ho.out.mono ?_); rintro e w' ⟨rfl, rfl⟩)
  go_ret
  exact ⟨rfl, rfl⟩
end Go.Proofs.Ytoleiiicbnmhpaa
namespace Go.Proofs.Ytoleiiicbnmhpaa
open Go.RowKit
/-- The world behind the store of a row of values, cell by cell. -/
def rowSt (y : World) (g : Nat) : Nat → List Value → World
  | _, [] => y
  | i, v :: r => rowSt (y.setCell ⟨g, i, none⟩ v) g (i + 1) r
theorem rowSt_row {g : Nat} {t : TypeId} : ∀ (vs pre old : List Value) (y : World), y.heap[g]? = some (.cells (pre ++ old).toArray t (0, 0)) → old.length = vs.length → (rowSt y g pre.length vs).heap[g]? = some (.cells (pre ++ vs).toArray t (0, 0))
  | [], pre, old, y, h, hl => by
    have : old = [] := List.length_eq_zero_iff.1 hl
    subst this
    exact h
  | v :: r, pre, old, y, h, hl => by
    match old, hl with
    | o :: os, hl =>
      have h1 : (y.setCell ⟨g, pre.length, none⟩ v).heap[g]? = some (.cells ((pre ++ [v]) ++ os).toArray t (0, 0)) := by
        rw [heap_setCell_same _ _ _ _ _ _ h]
        simp
      have h2 := rowSt_row r (pre ++ [v]) os _ h1 (by simpa using hl)
      rw [List.length_append] at h2
      simp only [List.append_assoc, List.singleton_append] at h2
      exact h2
theorem rowSt_below {g n : Nat} {w0 : World} (hn : n ≤ g) : ∀ (vs : List Value) (i : Nat) (y : World), Below n w0 y → Below n w0 (rowSt y g i vs)
  | [], _, _, h => h
  | _ :: r, i, _, h => rowSt_below hn r (i + 1) _ (below_setV h hn)
theorem rowSt_other {g q : Nat} (hq : q ≠ g) : ∀ (vs : List Value) (i : Nat) (y : World), (rowSt y g i vs).heap[q]? = y.heap[q]?
  | [], _, _ => rfl
  | _ :: r, i, _ => (rowSt_other hq r (i + 1) _).trans (Below.heap_setCell _ _ _ _ (by exact hq))
end Go.Proofs.Ytoleiiicbnmhpaa
namespace Go.Proofs.Ytoleiiicbnmhpaa.RegIn
open Go
section
variable {F : Fence} {n : Nat} {P : Program} {ops : Array Oper} {Q : Exit → Act → World → Prop} {md : Region.Mode}
/-- It calls nothing, or what is built in. -/
def noCall (o : Oper) : Bool := match o.op with
  | .call c => (match c.callee with | .builtin _ => true | _ => false)
  | _ => true
theorem about_none {o : Oper} (h : noCall o = true) (w : World) (ρ : Operand → Value) : o.about P w ρ = none := by
  unfold noCall at h
  unfold Oper.about
  cases ho : o.op <;> rw [ho] at h <;> first | rfl | skip
  rename_i c
  simp only at h ⊢
  cases hc : c.callee <;> rw [hc] at h <;> first | (cases h; done) | skip
  simp [resolve, hc, Target.leads]
theorem yif_op {R : World → Prop} {i : Nat} {o : Oper} {v : Value} {a : Act} (hro : F.round = none) (hi : ops[i]? = some o) (hy : YieldsIf P ops R o v a) (hc : noCall o = true)
    {K : Act → World → Prop} {w : World} (hR : R w) (h : K (a.put o.dst v) w) : wpOpIn F n P ops Q i K a w := by
  unfold Go.wpOpIn
  simp only [hi]
  have hab : ∀ f, o.about P w a.eval = some f → F.fn f := fun f hf => by rw [about_none hc] at hf; cases hf
  rcases hy with ⟨hw, hv⟩ | ⟨hw, rfl⟩
  · simp only [hw, if_true, Oper.wpIn, hro, Oper.semAt_none, hv w hR, Oper.uponIn]; exact ⟨hab, h⟩
  · simp only [hw, Bool.false_eq_true, if_false]; exact ⟨hab, h⟩
theorem putIf {R : World → Prop} {j : Nat} {oi oj : Oper} {v : Value} (hro : F.round = none) (hj : ops[j]? = some oj) (hap : oi.apart ops oj = true)
    (hsi : ∀ cs b, oi.op ≠ .select cs b) (hsj : ∀ cs b, oj.op ≠ .select cs b)
    (hQ : ∀ c a w, Q (.panic c) (a.put oi.dst v) w → Q (.panic c) a w) {K : Act → World → Prop} {a : Act} {w : World}
    (hy : YieldsIf P ops R oi v a) (h : wpOpIn F n P ops Q j K (a.put oi.dst v) w) :
    wpOpIn F n P ops Q j (fun a' w' => YieldsIf P ops R oi v a' ∧ K (a'.put oi.dst v) w') a w := by
  obtain ⟨h1, h2, h3⟩ := Oper.apart_spec hap
  have keep : ∀ (a : Act), YieldsIf P ops R oi v a → ∀ u, YieldsIf P ops R oi v (a.put oj.dst u) := fun a hy u =>
    hy.of_same (execOp_put oi hsi a oj.dst u h3) (wanted_put oi a oj.dst u h3)
  have keepD : ∀ d, YieldsIf P ops R oi v { a with defers := d :: a.defers } := fun d => hy.of_same rfl rfl
  unfold wpOpIn at *
  simp only [hj] at *
  rw [wanted_put oj a oi.dst v h1, about_put oj w a oi.dst v h1] at h
  split
  · rename_i hw
    simp only [hw, if_true] at h
    unfold Oper.wpIn at *
    rw [about_put oj w a oi.dst v h1] at h
    refine ⟨h.1, ?_⟩
    have h := h.2
    rw [hro, Oper.semAt_none, execOp_put oj hsj a oi.dst v h1] at h
    rw [hro, Oper.semAt_none]
    generalize (execOp a.eval oj).run P w = r at *
    cases r with
    | ok x w' =>
      cases x <;> simp only [Oper.uponIn] at h ⊢
      case value u => exact ⟨keep a hy u, by rw [← Act.put_comm a v u h2]; exact h⟩
      case skip => exact ⟨keep a hy _, by rw [← Act.put_comm a v undef h2]; exact h⟩
      case defer d =>
        refine ⟨keep _ (keepD d) _, ?_⟩
        rw [← Act.put_comm _ v undef h2, ← Act.put_defers]
        exact h
      case enter f args =>
        refine ⟨h.1, CallsIn.mono h.2 fun e w'' he => ?_⟩
        cases e with
        | returned u => exact ⟨keep a hy u, by rw [← Act.put_comm a v u h2]; exact he⟩
        | panicked c => exact hQ _ _ _ he
        | outgrown => exact he
      case row row args => exact ⟨h.1, RowsIn.mono h.2 fun u w'' he => ⟨keep a hy u, by rw [← Act.put_comm a v u h2]; exact he⟩⟩
      case round l f tmps assign body =>
        refine ⟨h.1, RoundIn.mono h.2 fun e w'' he => ?_⟩
        cases e with
        | returned u => exact ⟨keep a hy u, by rw [← Act.put_comm a v u h2]; exact he⟩
        | panicked c => exact hQ _ _ _ he
        | outgrown => exact he
    | halt x w' =>
      cases x <;> simp only [Oper.uponIn] at h ⊢
      case panic u => exact hQ _ _ _ h
  · rename_i hw
    simp only [hw] at h
    exact ⟨h.1, keep a hy _, by rw [← Act.put_comm a v undef h2]; exact h.2⟩
/-- What number j waits for. -/
def onsOf (md : Region.Mode) (ops : Array Oper) (j : Nat) : List Nat := match ops[j]? with
  | some o => (o.after.toList.filter (Region.binds md)).map (·.on)
  | none => []
/-- What those wait for, and so on, each number looked at once, downwards. -/
def back (md : Region.Mode) (ops : Array Oper) : Nat → List Nat → List Nat
  | 0, l => l
  | i + 1, l => back md ops i (if l.contains i then onsOf md ops i ++ l else l)
/-- What a listed operation waits for is listed. -/
def Closed (md : Region.Mode) (ops : Array Oper) (listed : Array Bool) : Prop := ∀ j, listed.getD j false = true → ∀ e ∈ onsOf md ops j, listed.getD e false = true
theorem back_listed {listed : Array Bool} (h : Closed md ops listed) : ∀ (m : Nat) (l : List Nat), (∀ j ∈ l, listed.getD j false = true) → ∀ j ∈ back md ops m l, listed.getD j false = true
  | 0, _, hl, j, hj => hl j hj
  | m + 1, l, hl, j, hj => back_listed h m _ (fun k hk => by
      split at hk
      · rename_i hc
        rcases List.mem_append.1 hk with hk | hk
        · exact h m (hl m (by simpa using hc)) k hk
        · exact hl k hk
      · exact hl k hk) j hj
theorem ready_ons {listed : Array Bool} {j : Nat} (h : j ∈ Region.ready md ops listed) : ∀ e ∈ onsOf md ops j, listed.getD e false = true := by
  obtain ⟨_, o, ho, hall⟩ := mem_ready.1 h
  intro e he
  simp only [onsOf, ho, List.mem_map, List.mem_filter] at he
  obtain ⟨q, ⟨h1, h2⟩, rfl⟩ := he
  exact hall q (by simpa using h1) h2
theorem Closed.set {listed : Array Bool} {i : Nat} (h : Closed md ops listed) (hi : i ∈ Region.ready md ops listed) : Closed md ops (listed.setIfInBounds i true) := by
  intro j hj e he
  by_cases hij : i = j
  · subst hij; exact getD_set_true (ready_ons hi e he)
  · rw [getD_set_ne false hij] at hj
    exact getD_set_true (h j hj e he)
theorem Closed.none (n : Nat) : Closed md ops (Array.replicate n false) := by
  intro j hj
  have : (Array.replicate n false).getD j false = false := by
    simp only [Array.getD_eq_getD_getElem?, Array.getElem?_replicate]
    split <;> rfl
  rw [this] at hj
  cases hj
theorem bar_not {bar : Nat → Bool} {listed : Array Bool} {i j : Nat} (h : Closed md ops listed) (hj : j ∈ Region.ready md ops listed) (hi : i ∈ Region.ready md ops listed)
    (hb : bar j = true → i ∈ back md ops ops.size (onsOf md ops j)) : bar j = false := by
  rw [Bool.eq_false_iff]
  intro hbj
  obtain ⟨h0, o, ho, _⟩ := mem_ready.1 hi
  have h4 := back_listed h _ _ (ready_ons hj) i (hb hbj)
  rcases Nat.lt_or_ge i listed.size with h' | h'
  · simp [h'] at h0 h4; rw [h0] at h4; cases h4
  · simp [Array.getElem?_eq_none h'] at h4
/-- Behind one operation: the world lies in the class still (behind an operation that waits for all before it: in any class). -/
def Into (b : Bool) (R : World → Prop) (K : (World → Prop) → Act → World → Prop) (a : Act) (w : World) : Prop := ∃ R' : World → Prop, R' w ∧ (b = true ∨ R' = R) ∧ K R' a w
def anyR (bar : Nat → Bool) (F : Fence) (n : Nat) (P : Program) (md : Region.Mode) (ops : Array Oper) (Q : Exit → Act → World → Prop) : Nat → Array Bool → (World → Prop) → Act → World → Prop
  | 0, listed, _, a, w => Region.ready md ops listed = [] ∧ Q .normal a w
  | fuel + 1, listed, R, a, w => (Region.ready md ops listed = [] → Q .normal a w) ∧
      ∀ i ∈ Region.ready md ops listed, wpOpIn F n P ops Q i (Into (bar i) R (fun R' a' w' => anyR bar F n P md ops Q fuel (listed.setIfInBounds i true) R' a' w')) a w
theorem any_of {bar : Nat → Bool} : ∀ (fuel : Nat) (listed : Array Bool) (R : World → Prop) (a : Act) (w : World), anyR bar F n P md ops Q fuel listed R a w → wpAnyIn F n P md ops Q fuel listed a w
  | 0, _, _, _, _, h => h
  | fuel + 1, _, _, _, _, h => ⟨h.1, fun i hi => wpOpIn_mono (fun a' w' ⟨R', _, _, h3⟩ => any_of fuel _ R' a' w' h3) (h.2 i hi)⟩
theorem first {bar : Nat → Bool} {i : Nat} {oi : Oper} {v : Value} (hro : F.round = none) (hi : ops[i]? = some oi) (hc : noCall oi = true) (hsel : ∀ (j : Nat) (o : Oper) cs b, ops[j]? = some o → o.op ≠ .select cs b)
    (hQ : ∀ c a w, Q (.panic c) (a.put oi.dst v) w → Q (.panic c) a w) :
    ∀ (fuel : Nat) (listed : Array Bool) (R : World → Prop) (a : Act) (w : World),
      (∀ j oj, ops[j]? = some oj → j ≠ i → listed.getD j true = false → (∀ e ∈ oj.after, Region.binds md e = true → e.on ≠ i) → oi.apart ops oj = true) →
      (∀ j, listed.getD j true = false → j ≠ i → bar j = true → i ∈ back md ops ops.size (onsOf md ops j)) → Closed md ops listed → i ∈ Region.ready md ops listed → R w → YieldsIf P ops R oi v a →
      anyR bar F n P md ops Q fuel (listed.setIfInBounds i true) R (a.put oi.dst v) w → anyR bar F n P md ops Q (fuel + 1) listed R a w := by
  intro fuel
  induction fuel with
  | zero =>
    intro listed R a w _ _ _ hr hR hy H
    refine ⟨fun h => (by rw [h] at hr; cases hr), fun j hj => ?_⟩
    by_cases hji : j = i
    · subst hji; exact yif_op hro hi hy hc hR ⟨R, hR, .inr rfl, H⟩
    · have := ready_mono hj hji
      rw [H.1] at this
      cases this
  | succ fuel ih =>
    intro listed R a w hfree hbar hcl hr hR hy H
    refine ⟨fun h => (by rw [h] at hr; cases hr), fun j hj => ?_⟩
    by_cases hji : j = i
    · subst hji; exact yif_op hro hi hy hc hR ⟨R, hR, .inr rfl, H⟩
    · have h1 := H.2 j (ready_mono hj hji)
      obtain ⟨hjun, oj, hoj, hall⟩ := mem_ready.1 hj
      have hnot : ∀ e ∈ oj.after, Region.binds md e = true → e.on ≠ i := fun e he hb heq => by
        have h1 := hall e he hb
        have h0 := (mem_ready.1 hr).1
        rw [heq] at h1
        rcases Nat.lt_or_ge i listed.size with h' | h'
        · simp [h'] at h0 h1; rw [h0] at h1; cases h1
        · simp [Array.getElem?_eq_none h'] at h1
      have hb : bar j = false := bar_not hcl hj hr (hbar j hjun hji)
      have h2 := putIf hro hoj (hfree j oj hoj hji hjun hnot) (fun cs b => hsel i oi cs b hi) (fun cs b => hsel j oj cs b hoj) hQ hy h1
      have hfree' : ∀ k ok, ops[k]? = some ok → k ≠ i → (listed.setIfInBounds j true).getD k true = false →
          (∀ e ∈ ok.after, Region.binds md e = true → e.on ≠ i) → oi.apart ops ok = true := fun k ok hk hki hun hno => by
        refine hfree k ok hk hki ?_ hno
        by_cases hjk : j = k
        · subst hjk; exact hjun
        · rw [getD_set_ne true hjk] at hun; exact hun
      have hbar' : ∀ k, (listed.setIfInBounds j true).getD k true = false → k ≠ i → bar k = true → i ∈ back md ops ops.size (onsOf md ops k) := fun k hun hki hbk => by
        refine hbar k ?_ hki hbk
        by_cases hjk : j = k
        · subst hjk; exact hjun
        · rw [getD_set_ne true hjk] at hun; exact hun
      refine wpOpIn_mono (fun a' w' ⟨hy', R', hR', hor, hK⟩ => ?_) h2
      obtain rfl : R' = R := hor.resolve_left (by simp [hb])
      refine ⟨R', hR', .inr rfl, ih (listed.setIfInBounds j true) R' a' w' hfree' hbar' (hcl.set hj) (ready_mono hr (Ne.symm hji)) hR' hy' ?_⟩
      rw [Array.setIfInBounds_comm _ _ hji]
      exact hK
/-- The walk in the order that is handed in: 0: the operation only reads (in every world of R), and calls nothing; 1: it may turn the world, within R; else: it may turn the world anyhow, and waits for all that came before it. -/
def can (F : Fence) (n : Nat) (P : Program) (ops : Array Oper) (Q : Exit → Act → World → Prop) : List (Oper × Nat) → (World → Prop) → Act → World → Prop
  | [], _, a, w => Q .normal a w
  | (o, 0) :: r, R, a, w =>
    if Region.wanted o (yielded ops a.tmps) then ∃ v, (∀ x, R x → (execOp a.eval o).run P x = .ok (.value v) x) ∧ can F n P ops Q r R (a.put o.dst v) w
    else can F n P ops Q r R (a.put o.dst undef) w
  | (o, 1) :: r, R, a, w =>
    if Region.wanted o (yielded ops a.tmps) then o.wpIn F n P a w (fun a' w' => R w' ∧ can F n P ops Q r R a' w') Q
    else (∀ f, o.about P w a.eval = some f → F.fn f) ∧ can F n P ops Q r R (a.put o.dst undef) w
  | (o, _ + 2) :: r, R, a, w =>
    if Region.wanted o (yielded ops a.tmps) then o.wpIn F n P a w (fun a' w' => ∃ R' : World → Prop, R' w' ∧ can F n P ops Q r R' a' w') Q
    else (∀ f, o.about P w a.eval = some f → F.fn f) ∧ can F n P ops Q r R (a.put o.dst undef) w
def pick (l : List Oper) : List (Nat × Nat) → List (Oper × Nat)
  | [] => []
  | (k, e) :: r => match l[k]? with | some o => (o, e) :: pick l r | none => []
/-- The walk, behind a name that nothing opens. -/
structure Can (F : Fence) (n : Nat) (P : Program) (ops : Array Oper) (Q : Exit → Act → World → Prop) (l : List (Oper × Nat)) (R : World → Prop) (a : Act) (w : World) : Prop where
  out : can F n P ops Q l R a w
/-- Which operations have all that comes before them in the order that is handed in behind them for good. -/
def barOf (σ : List (Nat × Nat)) (j : Nat) : Bool := σ.any fun p => p.1 == j && decide (2 ≤ p.2)
theorem can_nil {R : World → Prop} {a : Act} {w : World} (h : Q .normal a w) : Can F n P ops Q [] R a w := ⟨h⟩
end
end Go.Proofs.Ytoleiiicbnmhpaa.RegIn
namespace Go.Proofs.Ytoleiiicbnmhpaa.RegF
open Go
section
variable {F : Fence} {n : Nat} {P : Program} {ops : Array Oper} {Q : Exit → Act → World → Prop} {md : Region.Mode}
/-- It calls nothing, or what is built in. -/
def noCall (o : Oper) : Bool := match o.op with
  | .call c => (match c.callee with | .builtin _ => true | _ => false)
  | _ => true
theorem about_none {o : Oper} (h : noCall o = true) (w : World) (ρ : Operand → Value) : o.about P w ρ = none := by
  unfold noCall at h
  unfold Oper.about
  cases ho : o.op <;> rw [ho] at h <;> first | rfl | skip
  rename_i c
  simp only at h ⊢
  cases hc : c.callee <;> rw [hc] at h <;> first | (cases h; done) | skip
  simp [resolve, hc, Target.leads]
/-- It defers nothing. -/
def noDefer (o : Oper) : Bool := match o.op with | .defer _ => false | _ => true
theorem sem_of {o : Oper} (h : noDefer o = true) (ρ : Operand → Value) : o.semAt F.round ρ = execOp ρ o := Oper.semAt_eq _ ρ o (by intro c e; simp [noDefer, e] at h)
theorem yif_op {R : World → Prop} {i : Nat} {o : Oper} {v : Value} {a : Act} (hro : ∀ o ∈ ops, noDefer o = true) (hi : ops[i]? = some o) (hy : YieldsIf P ops R o v a) (hc : noCall o = true)
    {K : Act → World → Prop} {w : World} (hR : R w) (h : K (a.put o.dst v) w) : wpOpIn F n P ops Q i K a w := by
  unfold Go.wpOpIn
  simp only [hi]
  have hab : ∀ f, o.about P w a.eval = some f → F.fn f := fun f hf => by rw [about_none hc] at hf; cases hf
  rcases hy with ⟨hw, hv⟩ | ⟨hw, rfl⟩
  · simp only [hw, if_true, Oper.wpIn, sem_of (F := F) (hro o (Array.mem_of_getElem? hi)), hv w hR, Oper.uponIn]; exact ⟨hab, h⟩
  · simp only [hw, Bool.false_eq_true, if_false]; exact ⟨hab, h⟩
theorem putIf {R : World → Prop} {j : Nat} {oi oj : Oper} {v : Value} (hro : ∀ o ∈ ops, noDefer o = true) (hj : ops[j]? = some oj) (hap : oi.apart ops oj = true)
    (hsi : ∀ cs b, oi.op ≠ .select cs b) (hsj : ∀ cs b, oj.op ≠ .select cs b)
    (hQ : ∀ c a w, Q (.panic c) (a.put oi.dst v) w → Q (.panic c) a w) {K : Act → World → Prop} {a : Act} {w : World}
    (hy : YieldsIf P ops R oi v a) (h : wpOpIn F n P ops Q j K (a.put oi.dst v) w) :
    wpOpIn F n P ops Q j (fun a' w' => YieldsIf P ops R oi v a' ∧ K (a'.put oi.dst v) w') a w := by
  obtain ⟨h1, h2, h3⟩ := Oper.apart_spec hap
  have keep : ∀ (a : Act), YieldsIf P ops R oi v a → ∀ u, YieldsIf P ops R oi v (a.put oj.dst u) := fun a hy u =>
    hy.of_same (execOp_put oi hsi a oj.dst u h3) (wanted_put oi a oj.dst u h3)
  have keepD : ∀ d, YieldsIf P ops R oi v { a with defers := d :: a.defers } := fun d => hy.of_same rfl rfl
  have hmj := Array.mem_of_getElem? hj
  unfold wpOpIn at *
  simp only [hj] at *
  rw [wanted_put oj a oi.dst v h1, about_put oj w a oi.dst v h1] at h
  split
  · rename_i hw
    simp only [hw, if_true] at h
    unfold Oper.wpIn at *
    rw [about_put oj w a oi.dst v h1] at h
    refine ⟨h.1, ?_⟩
    have h := h.2
    rw [sem_of (F := F) (hro oj hmj), execOp_put oj hsj a oi.dst v h1] at h
    rw [sem_of (F := F) (hro oj hmj)]
    generalize (execOp a.eval oj).run P w = r at *
    cases r with
    | ok x w' =>
      cases x <;> simp only [Oper.uponIn] at h ⊢
      case value u => exact ⟨keep a hy u, by rw [← Act.put_comm a v u h2]; exact h⟩
      case skip => exact ⟨keep a hy _, by rw [← Act.put_comm a v undef h2]; exact h⟩
      case defer d =>
        refine ⟨keep _ (keepD d) _, ?_⟩
        rw [← Act.put_comm _ v undef h2, ← Act.put_defers]
        exact h
      case enter f args =>
        refine ⟨h.1, CallsIn.mono h.2 fun e w'' he => ?_⟩
        cases e with
        | returned u => exact ⟨keep a hy u, by rw [← Act.put_comm a v u h2]; exact he⟩
        | panicked c => exact hQ _ _ _ he
        | outgrown => exact he
      case row row args => exact ⟨h.1, RowsIn.mono h.2 fun u w'' he => ⟨keep a hy u, by rw [← Act.put_comm a v u h2]; exact he⟩⟩
      case round l f tmps assign body =>
        refine ⟨h.1, RoundIn.mono h.2 fun e w'' he => ?_⟩
        cases e with
        | returned u => exact ⟨keep a hy u, by rw [← Act.put_comm a v u h2]; exact he⟩
        | panicked c => exact hQ _ _ _ he
        | outgrown => exact he
    | halt x w' =>
      cases x <;> simp only [Oper.uponIn] at h ⊢
      case panic u => exact hQ _ _ _ h
  · rename_i hw
    simp only [hw] at h
    exact ⟨h.1, keep a hy _, by rw [← Act.put_comm a v undef h2]; exact h.2⟩
/-- What number j waits for. -/
def onsOf (md : Region.Mode) (ops : Array Oper) (j : Nat) : List Nat := match ops[j]? with
  | some o => (o.after.toList.filter (Region.binds md)).map (·.on)
  | none => []
/-- What those wait for, and so on, each number looked at once, downwards. -/
def back (md : Region.Mode) (ops : Array Oper) : Nat → List Nat → List Nat
  | 0, l => l
  | i + 1, l => back md ops i (if l.contains i then onsOf md ops i ++ l else l)
/-- What a listed operation waits for is listed. -/
def Closed (md : Region.Mode) (ops : Array Oper) (listed : Array Bool) : Prop := ∀ j, listed.getD j false = true → ∀ e ∈ onsOf md ops j, listed.getD e false = true
theorem back_listed {listed : Array Bool} (h : Closed md ops listed) : ∀ (m : Nat) (l : List Nat), (∀ j ∈ l, listed.getD j false = true) → ∀ j ∈ back md ops m l, listed.getD j false = true
  | 0, _, hl, j, hj => hl j hj
  | m + 1, l, hl, j, hj => back_listed h m _ (fun k hk => by
      split at hk
      · rename_i hc
        rcases List.mem_append.1 hk with hk | hk
        · exact h m (hl m (by simpa using hc)) k hk
        · exact hl k hk
      · exact hl k hk) j hj
theorem ready_ons {listed : Array Bool} {j : Nat} (h : j ∈ Region.ready md ops listed) : ∀ e ∈ onsOf md ops j, listed.getD e false = true := by
  obtain ⟨_, o, ho, hall⟩ := mem_ready.1 h
  intro e he
  simp only [onsOf, ho, List.mem_map, List.mem_filter] at he
  obtain ⟨q, ⟨h1, h2⟩, rfl⟩ := he
  exact hall q (by simpa using h1) h2
theorem Closed.set {listed : Array Bool} {i : Nat} (h : Closed md ops listed) (hi : i ∈ Region.ready md ops listed) : Closed md ops (listed.setIfInBounds i true) := by
  intro j hj e he
  by_cases hij : i = j
  · subst hij; exact getD_set_true (ready_ons hi e he)
  · rw [getD_set_ne false hij] at hj
    exact getD_set_true (h j hj e he)
theorem Closed.none (n : Nat) : Closed md ops (Array.replicate n false) := by
  intro j hj
  have : (Array.replicate n false).getD j false = false := by
    simp only [Array.getD_eq_getD_getElem?, Array.getElem?_replicate]
    split <;> rfl
  rw [this] at hj
  cases hj
theorem bar_not {bar : Nat → Bool} {listed : Array Bool} {i j : Nat} (h : Closed md ops listed) (hj : j ∈ Region.ready md ops listed) (hi : i ∈ Region.ready md ops listed)
    (hb : bar j = true → i ∈ back md ops ops.size (onsOf md ops j)) : bar j = false := by
  rw [Bool.eq_false_iff]
  intro hbj
  obtain ⟨h0, o, ho, _⟩ := mem_ready.1 hi
  have h4 := back_listed h _ _ (ready_ons hj) i (hb hbj)
  rcases Nat.lt_or_ge i listed.size with h' | h'
  · simp [h'] at h0 h4; rw [h0] at h4; cases h4
  · simp [Array.getElem?_eq_none h'] at h4
/-- Behind one operation: the world lies in the class still (behind an operation that waits for all before it: in any class). -/
def Into (b : Bool) (R : World → Prop) (K : (World → Prop) → Act → World → Prop) (a : Act) (w : World) : Prop := ∃ R' : World → Prop, R' w ∧ (b = true ∨ R' = R) ∧ K R' a w
def anyR (bar : Nat → Bool) (F : Fence) (n : Nat) (P : Program) (md : Region.Mode) (ops : Array Oper) (Q : Exit → Act → World → Prop) : Nat → Array Bool → (World → Prop) → Act → World → Prop
  | 0, listed, _, a, w => Region.ready md ops listed = [] ∧ Q .normal a w
  | fuel + 1, listed, R, a, w => (Region.ready md ops listed = [] → Q .normal a w) ∧
      ∀ i ∈ Region.ready md ops listed, wpOpIn F n P ops Q i (Into (bar i) R (fun R' a' w' => anyR bar F n P md ops Q fuel (listed.setIfInBounds i true) R' a' w')) a w
theorem any_of {bar : Nat → Bool} : ∀ (fuel : Nat) (listed : Array Bool) (R : World → Prop) (a : Act) (w : World), anyR bar F n P md ops Q fuel listed R a w → wpAnyIn F n P md ops Q fuel listed a w
  | 0, _, _, _, _, h => h
  | fuel + 1, _, _, _, _, h => ⟨h.1, fun i hi => wpOpIn_mono (fun a' w' ⟨R', _, _, h3⟩ => any_of fuel _ R' a' w' h3) (h.2 i hi)⟩
theorem first {bar : Nat → Bool} {i : Nat} {oi : Oper} {v : Value} (hro : ∀ o ∈ ops, noDefer o = true) (hi : ops[i]? = some oi) (hc : noCall oi = true) (hsel : ∀ (j : Nat) (o : Oper) cs b, ops[j]? = some o → o.op ≠ .select cs b)
    (hQ : ∀ c a w, Q (.panic c) (a.put oi.dst v) w → Q (.panic c) a w) :
    ∀ (fuel : Nat) (listed : Array Bool) (R : World → Prop) (a : Act) (w : World),
      (∀ j oj, ops[j]? = some oj → j ≠ i → listed.getD j true = false → (∀ e ∈ oj.after, Region.binds md e = true → e.on ≠ i) → oi.apart ops oj = true) →
      (∀ j, listed.getD j true = false → j ≠ i → bar j = true → i ∈ back md ops ops.size (onsOf md ops j)) → Closed md ops listed → i ∈ Region.ready md ops listed → R w → YieldsIf P ops R oi v a →
      anyR bar F n P md ops Q fuel (listed.setIfInBounds i true) R (a.put oi.dst v) w → anyR bar F n P md ops Q (fuel + 1) listed R a w := by
  intro fuel
  induction fuel with
  | zero =>
    intro listed R a w _ _ _ hr hR hy H
    refine ⟨fun h => (by rw [h] at hr; cases hr), fun j hj => ?_⟩
    by_cases hji : j = i
    · subst hji; exact yif_op hro hi hy hc hR ⟨R, hR, .inr rfl, H⟩
    · have := ready_mono hj hji
      rw [H.1] at this
      cases this
  | succ fuel ih =>
    intro listed R a w hfree hbar hcl hr hR hy H
    refine ⟨fun h => (by rw [h] at hr; cases hr), fun j hj => ?_⟩
    by_cases hji : j = i
    · subst hji; exact yif_op hro hi hy hc hR ⟨R, hR, .inr rfl, H⟩
    · have h1 := H.2 j (ready_mono hj hji)
      obtain ⟨hjun, oj, hoj, hall⟩ := mem_ready.1 hj
      have hnot : ∀ e ∈ oj.after, Region.binds md e = true → e.on ≠ i := fun e he hb heq => by
        have h1 := hall e he hb
        have h0 := (mem_ready.1 hr).1
        rw [heq] at h1
        rcases Nat.lt_or_ge i listed.size with h' | h'
        · simp [h'] at h0 h1; rw [h0] at h1; cases h1
        · simp [Array.getElem?_eq_none h'] at h1
      have hb : bar j = false := bar_not hcl hj hr (hbar j hjun hji)
      have h2 := putIf hro hoj (hfree j oj hoj hji hjun hnot) (fun cs b => hsel i oi cs b hi) (fun cs b => hsel j oj cs b hoj) hQ hy h1
      have hfree' : ∀ k ok, ops[k]? = some ok → k ≠ i → (listed.setIfInBounds j true).getD k true = false →
          (∀ e ∈ ok.after, Region.binds md e = true → e.on ≠ i) → oi.apart ops ok = true := fun k ok hk hki hun hno => by
        refine hfree k ok hk hki ?_ hno
        by_cases hjk : j = k
        · subst hjk; exact hjun
        · rw [getD_set_ne true hjk] at hun; exact hun
      have hbar' : ∀ k, (listed.setIfInBounds j true).getD k true = false → k ≠ i → bar k = true → i ∈ back md ops ops.size (onsOf md ops k) := fun k hun hki hbk => by
        refine hbar k ?_ hki hbk
        by_cases hjk : j = k
        · subst hjk; exact hjun
        · rw [getD_set_ne true hjk] at hun; exact hun
      refine wpOpIn_mono (fun a' w' ⟨hy', R', hR', hor, hK⟩ => ?_) h2
      obtain rfl : R' = R := hor.resolve_left (by simp [hb])
      refine ⟨R', hR', .inr rfl, ih (listed.setIfInBounds j true) R' a' w' hfree' hbar' (hcl.set hj) (ready_mono hr (Ne.symm hji)) hR' hy' ?_⟩
      rw [Array.setIfInBounds_comm _ _ hji]
      exact hK
/-- The walk in the order that is handed in: 0: the operation only reads (in every world of R), and calls nothing; 1: it may turn the world, within R; else: it may turn the world anyhow, and waits for all that came before it. -/
def can (F : Fence) (n : Nat) (P : Program) (ops : Array Oper) (Q : Exit → Act → World → Prop) : List (Oper × Nat) → (World → Prop) → Act → World → Prop
  | [], _, a, w => Q .normal a w
  | (o, 0) :: r, R, a, w =>
    if Region.wanted o (yielded ops a.tmps) then ∃ v, (∀ x, R x → (execOp a.eval o).run P x = .ok (.value v) x) ∧ can F n P ops Q r R (a.put o.dst v) w
    else can F n P ops Q r R (a.put o.dst undef) w
  | (o, 1) :: r, R, a, w =>
    if Region.wanted o (yielded ops a.tmps) then o.wpIn F n P a w (fun a' w' => R w' ∧ can F n P ops Q r R a' w') Q
    else (∀ f, o.about P w a.eval = some f → F.fn f) ∧ can F n P ops Q r R (a.put o.dst undef) w
  | (o, _ + 2) :: r, R, a, w =>
    if Region.wanted o (yielded ops a.tmps) then o.wpIn F n P a w (fun a' w' => ∃ R' : World → Prop, R' w' ∧ can F n P ops Q r R' a' w') Q
    else (∀ f, o.about P w a.eval = some f → F.fn f) ∧ can F n P ops Q r R (a.put o.dst undef) w
def pick (l : List Oper) : List (Nat × Nat) → List (Oper × Nat)
  | [] => []
  | (k, e) :: r => match l[k]? with | some o => (o, e) :: pick l r | none => []
/-- The walk, behind a name that nothing opens. -/
structure Can (F : Fence) (n : Nat) (P : Program) (ops : Array Oper) (Q : Exit → Act → World → Prop) (l : List (Oper × Nat)) (R : World → Prop) (a : Act) (w : World) : Prop where
  out : can F n P ops Q l R a w
/-- Which operations have all that comes before them in the order that is handed in behind them for good. -/
def barOf (σ : List (Nat × Nat)) (j : Nat) : Bool := σ.any fun p => p.1 == j && decide (2 ≤ p.2)
theorem can_nil {R : World → Prop} {a : Act} {w : World} (h : Q .normal a w) : Can F n P ops Q [] R a w := ⟨h⟩
end
end Go.Proofs.Ytoleiiicbnmhpaa.RegF
namespace Go.Proofs.Ytoleiiicbnmhpaa.RegS
open Go RegR
section
variable {P : Program} {ops : Array Oper} {Q : Exit → Act → World → Prop}
structure Can (P : Program) (ops : Array Oper) (Q : Exit → Act → World → Prop) (l : List (Oper × Nat)) (R : World → Prop) (a : Act) (w : World) : Prop where
  out : wpCan P ops Q l R a w
/-- The last operation of all. -/
theorem last {R : World → Prop} {a : Act} {w : World} {o : Oper} {r : List (Oper × Nat)}
    (h : ∀ K : Act → World → Prop, (∀ a w, Q .normal a w → K a w) → if Region.wanted o (yielded ops a.tmps) then o.wp P a w K Q else K (a.put o.dst undef) w) :
    Can P ops Q ((o, 2) :: r) R a w := ⟨can_last h⟩
theorem nil {R : World → Prop} {a : Act} {w : World} (h : Q .normal a w) : Can P ops Q [] R a w := ⟨can_nil h⟩
end
end Go.Proofs.Ytoleiiicbnmhpaa.RegS
namespace Go.Proofs.Ytoleiiicbnmhpaa
open Go.RowKit Go.Shelf
attribute [local go_sem] Oper.semAt_some
theorem KeptW.refl (w : World) : KeptW w w := Below.refl _ _
end Go.Proofs.Ytoleiiicbnmhpaa
namespace Go.Proofs.Ytoleiiicbnmhpaa
open Go.RowKit
/-- Bytes as cells. -/
def bcells (l : List UInt8) : List Value := l.map fun b => Value.int .u8 b.toNat
theorem bcells_len (l : List UInt8) : (bcells l).length = l.length := by simp [bcells]
theorem bcells_one (l : List UInt8) : ∀ u ∈ bcells l, u.oneCell' = true := by
  intro u hu
  simp only [bcells, List.mem_map] at hu
  obtain ⟨b, _, rfl⟩ := hu
  rfl
theorem bcells_get {l : List UInt8} {j : Nat} (hj : j < l.length) : (bcells l)[j]? = some (.int .u8 (l[j].toNat : Int)) := by
  unfold bcells
  rw [List.getElem?_map, List.getElem?_eq_getElem hj]
  rfl
theorem bcells_app (l k : List UInt8) : bcells (l ++ k) = bcells l ++ bcells k := by simp [bcells]
/-- A slice whose bytes can be read. -/
structure ReadB (w : World) (v : Value) (l : List UInt8) : Prop where
  out : ∃ a cap, v = .slice a l.length cap ∧ (a = none → cap = 0) ∧ ∀ j u, (bcells l)[j]? = some u → ∃ b o, a = some ⟨b, o, none⟩ ∧ b < w.heap.size ∧ w.cell? ⟨b, o + j, none⟩ = some u
theorem ReadB.below {w w' : World} {v : Value} {l : List UInt8} (h : ReadB w v l) (hb : Below w.heap.size w w') : ReadB w' v l := by
  obtain ⟨a, cap, e, h0, h2⟩ := h.out
  exact ⟨a, cap, e, h0, fun j u hj => by obtain ⟨b, o, e1, e2, e3⟩ := h2 j u hj; exact ⟨b, o, e1, Nat.lt_of_lt_of_le e2 hb.size, (hb.cell (p := ⟨b, _, none⟩) e2).trans e3⟩⟩
theorem ReadB.slice {w : World} {v : Value} {l : List UInt8} (h : ReadB w v l) : ∃ a n c, v = .slice a n c := by
  obtain ⟨a, cap, e, _⟩ := h.out
  exact ⟨a, _, cap, e⟩
theorem ReadB.nil (w : World) : ReadB w (.slice none 0 0) [] := ⟨none, 0, rfl, fun _ => rfl, fun j u hj => by simp [bcells] at hj⟩
theorem ReadB.cells (w : World) (l : List UInt8) (t : TypeId) (cs : Array Value) (hcs : cs = (bcells l).toArray) (cap : Nat) : ReadB (w.alloc (.cells cs t)) (.slice (some ⟨w.heap.size, 0, none⟩) l.length cap) l := by
  subst hcs
  refine ⟨some ⟨w.heap.size, 0, none⟩, cap, rfl, (fun e => by cases e), fun j u hj => ⟨w.heap.size, 0, rfl, by simp, ?_⟩⟩
  have h := heap_alloc_new w (.cells (bcells l).toArray t)
  unfold World.cell?
  simp only [h, Nat.zero_add]
  simpa using hj
theorem ReadB.one (w : World) (b : UInt8) (t : TypeId) : ReadB (w.alloc (.cells #[.int .u8 (b.toNat : Int)] t)) (.slice (some ⟨w.heap.size, 0, none⟩) 1 1) [b] := by
  refine ⟨some ⟨w.heap.size, 0, none⟩, 1, rfl, (fun e => by cases e), fun j u hj => ?_⟩
  match j, hj with
  | 0, hj =>
    rw [show bcells [b] = [.int .u8 (b.toNat : Int)] from rfl, List.getElem?_cons_zero, Option.some.injEq] at hj
    subst hj
    have h := heap_alloc_new w (.cells #[.int .u8 (b.toNat : Int)] t)
    refine ⟨w.heap.size, 0, rfl, by simp, ?_⟩
    unfold World.cell?
    simp only [h]
    rfl
/-- A slice that owns its bytes: nobody else holds its block. -/
def OwnB (w : World) (base : Nat) (t : TypeId) (v : Value) (l : List UInt8) : Prop := w.ownsRow base t 1 v l.length (bcells l)
theorem OwnB.read {w : World} {base : Nat} {t : TypeId} {v : Value} {l : List UInt8} (h : OwnB w base t v l) : ReadB w v l := by
  unfold OwnB at h
  obtain ⟨h1, h2⟩ := h
  rcases h2 with ⟨rfl, h3⟩ | ⟨g, cap, cur, rfl, _, hg, _, _, hs, ht⟩
  · have : l = [] := List.eq_nil_of_length_eq_zero h3
    subst this
    exact ReadB.nil w
  · refine ⟨some ⟨g, 0, none⟩, cap, rfl, (fun e => by cases e), fun j u hj => ⟨g, 0, rfl, (Array.getElem?_eq_some_iff.1 hg).1, ?_⟩⟩
    have hjl : j < l.length := by
      have := (List.getElem?_eq_some_iff.1 hj).1
      rwa [bcells_len] at this
    rw [Nat.mul_one] at ht
    rw [← ht, List.getElem?_take, if_pos hjl, Array.getElem?_toList] at hj
    simp only [World.cell?, hg, Nat.zero_add]
    simpa using hj
theorem OwnB.below {w w' : World} {base : Nat} {t : TypeId} {v : Value} {l : List UInt8} (h : OwnB w base t v l) (hb : Below w.heap.size w w') : OwnB w' base t v l := by
  unfold OwnB at *
  obtain ⟨h1, h2⟩ := h
  refine ⟨h1, ?_⟩
  rcases h2 with h2 | ⟨g, cap, cur, e, h3, hg, h4⟩
  · exact .inl h2
  · exact .inr ⟨g, cap, cur, e, h3, (hb.block g (Array.getElem?_eq_some_iff.1 hg).1).trans hg, h4⟩
theorem OwnB.mono {w : World} {base base' : Nat} {t : TypeId} {v : Value} {l : List UInt8} (h : OwnB w base t v l) (hb : base' ≤ base) : OwnB w base' t v l := by
  unfold OwnB at *
  obtain ⟨h1, h2⟩ := h
  refine ⟨h1, ?_⟩
  rcases h2 with h2 | ⟨g, cap, cur, e, h3, h4⟩
  · exact .inl h2
  · exact .inr ⟨g, cap, cur, e, Nat.le_trans hb h3, h4⟩
theorem OwnB.of {w : World} {base : Nat} {t : TypeId} {v : Value} {l k : List UInt8} {n : Nat} {xs : List Value} (h : w.ownsRow base t 1 v n xs) (hn : n = l.length + k.length) (hx : xs = bcells l ++ bcells k) : OwnB w base t v (l ++ k) := by
  subst hn hx
  unfold OwnB
  rw [bcells_app, List.length_append]
  exact h
theorem OwnB.one (w : World) (b : UInt8) (t : TypeId) : OwnB (w.alloc (.cells #[.int .u8 (b.toNat : Int)] t)) w.heap.size t (.slice (some ⟨w.heap.size, 0, none⟩) 1 1) [b] :=
  ⟨rfl, .inr ⟨w.heap.size, 1, _, rfl, Nat.le_refl _, heap_alloc_new w _, Nat.le_refl _, by unfold maxLen; omega, rfl, rfl⟩⟩
/-- 'append(s, x...)', s owned, x a slice that can be read, nil or not. -/
theorem wp_append_read {P : Program} {w : World} {o : Oper} {a : Act} {K : Act → World → Prop} {Q : Exit → Act → World → Prop} (s x : Operand) (t : TypeId)
    (ho : o.op = .call { callee := .builtin .append, args := #[s, x], argTypes := #[t, t] })
    (base : Nat) (e : TypeId) (i : TypeInfo) (z : Value) (ht : P.underlying t = some (.slice e)) (hi : P.info? e = some i) (hz : i.zero = some z)
    (hsize : i.size = 1) (hby : i.bytes = 1) (hzs : z.cells.size = 1)
    (v : Value) (n : Nat) (xs : List Value) (hs : a.eval s = v) (hown : w.ownsRow base e 1 v n xs) (V : Value) (k : List UInt8) (hx : a.eval x = V) (hr : ReadB w V k)
    (h63 : n + k.length ≤ 140737488355328) (hbase : base ≤ w.heap.size)
    (h : ∀ v' w', w'.ownsRow base e 1 v' (n + k.length) (xs ++ bcells k) → w.grownBy w' v.ownBlock → K (a.put o.dst v') w') : o.wp P a w K Q := by
  obtain ⟨ad, cap, rfl, h0, h2⟩ := hr.out
  cases ad with
  | none =>
    obtain rfl := h0 rfl
    have hk : k = [] := by
      match k, h2 with
      | [], _ => rfl
      | b :: r, h2 =>
        obtain ⟨_, _, e1, _⟩ := h2 0 _ (bcells_get (show 0 < (b :: r).length by simp))
        cases e1
    subst hk
    have hrun := run_append_owned_none (P := P) (w := w) base t o.type e i 1 ht hi v n xs hown
    have hh := h v w (by simpa [bcells] using hown) (World.grownBy.refl w _)
    have hx' : a.eval x = .slice none 0 0 := hx
    unfold Oper.wp
    simp [execOp, ho, resolve, invoke, builtin, hs, hx', hrun, Result.andThen]
    exact hh
  | some ad =>
    refine wp_append_own w s x t ho base e i z 1 1 ht hi hz hsize hby hzs (by omega) v n xs hs hown ad k.length cap (bcells k) hx (by rw [bcells_len, Nat.mul_one]) (fun j u hj => ?_) (bcells_one k) (by unfold maxLen; omega) (by omega) hbase (fun v' w' h3 h4 _ => h v' w' h3 h4)
    obtain ⟨b, o', e1, _, e3⟩ := h2 j u hj
    cases e1
    rw [Addr.add_lit]
    exact e3
theorem wpList_append_read {P : Program} {w : World} {ops : Array Oper} {rest : List Oper} {o : Oper} {a : Act} {Q : Exit → Act → World → Prop} (hgd : o.guard = none) (s x : Operand) (t : TypeId)
    (ho : o.op = .call { callee := .builtin .append, args := #[s, x], argTypes := #[t, t] })
    (base : Nat) (e : TypeId) (i : TypeInfo) (z : Value) (ht : P.underlying t = some (.slice e)) (hi : P.info? e = some i) (hz : i.zero = some z)
    (hsize : i.size = 1) (hby : i.bytes = 1) (hzs : z.cells.size = 1)
    (v : Value) (n : Nat) (xs : List Value) (hs : a.eval s = v) (hown : w.ownsRow base e 1 v n xs) (V : Value) (k : List UInt8) (hx : a.eval x = V) (hr : ReadB w V k)
    (h63 : n + k.length ≤ 140737488355328) (hbase : base ≤ w.heap.size)
    (h : ∀ v' w', w'.ownsRow base e 1 v' (n + k.length) (xs ++ bcells k) → w.grownBy w' v.ownBlock → wpList P ops Q rest (a.put o.dst v') w') : wpList P ops Q (o :: rest) a w :=
  wpList_plain hgd fun _ hK => wp_append_read s x t ho base e i z ht hi hz hsize hby hzs v n xs hs hown V k hx hr h63 hbase fun v' w' h3 h4 => hK _ _ (h v' w' h3 h4)
theorem below_grown {w w' : World} {row : Option Nat} {n : Nat} {w0 : World} (hg : w.grownBy w' row) (hb : Below n w0 w) (hn : n ≤ w.heap.size) (hr : ∀ k, row = some k → n ≤ k) : Below n w0 w' :=
  hb.trans ⟨hg.os, hg.tape, hg.output, hg.size, fun k hk => hg.block k (Nat.lt_of_lt_of_le hk hn) (fun e => by have := hr k e.symm; omega)⟩
end Go.Proofs.Ytoleiiicbnmhpaa
namespace Go.Proofs.Ytoleiiicbnmhpaa
open Go.RowKit
open Go.Shelf
/-- The library's contract of bits.Len64, at this program. -/
def len64_ren : Go.Shelf.Ren := ⟨fun | 129 => 51 | n => n, fun | 3 => 3 | 4 => 4 | 5 => 5 | 9 => 9 | 46 => 68 | 53 => 31 | n => n, fun n => n⟩
theorem len64_lays : Lays.n129 Try.prog len64_ren :=
  { mixed := by kernel_rfl, f129 := by kernel_rfl
    t3 := by kernel_rfl, a3 := fun _ => by kernel_rfl, z3 := fun _ => by kernel_rfl, v3 := fun _ => by kernel_rfl
    t4 := by kernel_rfl, a4 := fun _ => by kernel_rfl, z4 := fun _ => by kernel_rfl, v4 := fun _ => by kernel_rfl
    t5 := by kernel_rfl, a5 := fun _ => by kernel_rfl, z5 := fun _ => by kernel_rfl, v5 := fun _ => by kernel_rfl
    t9 := by kernel_rfl, a9 := fun _ => by kernel_rfl, z9 := fun _ => by kernel_rfl, v9 := fun _ => by kernel_rfl
    t46 := by kernel_rfl, a46 := fun _ => by kernel_rfl, z46 := fun _ => by kernel_rfl, v46 := fun _ => by kernel_rfl
    t53 := by kernel_rfl, a53 := fun _ => by kernel_rfl, z53 := fun _ => by kernel_rfl, v53 := fun _ => by kernel_rfl
  }
theorem len64_any (n : Nat) (hn : n < 18446744073709551616) (w : World) : Calls Try.prog 51 #[.int .u64 (n : Int)] w fun e w' => e = .returned (.int .i64 (Lib.bitLen n : Int)) ∧ w = w' := by
  have h := Any.bits_Len64 len64_lays (n : Int) w (by omega) (by omega)
  rw [Int.toNat_natCast] at h
  exact h.mono fun e w' hh => ⟨hh.1, hh.2.symm⟩
end Go.Proofs.Ytoleiiicbnmhpaa
namespace Go.Proofs.Ytoleiiicbnmhpaa
open Go.RowKit
theorem info8 : (Try.prog.info? 5).map (fun i => (i.zero, i.size, i.bytes)) = some (some (.int .u8 0), 1, 1) := by kernel_rfl
end Go.Proofs.Ytoleiiicbnmhpaa
namespace Go.Proofs.Ytoleiiicbnmhpaa.RegJ
open Go RegK
/-- A plan with its operations. -/
inductive PlanO where
  | nil : PlanO
  | bad : PlanO
  | step (o : Oper) (e : Nat) (r : PlanO) : PlanO
  | fork (o : Oper) (r : PlanO) (u : Oper) (s : PlanO) : PlanO
section
variable {F : Fence} {n : Nat} {P : Program} {ops : Array Oper} {Q : Exit → Act → World → Prop} {md : Region.Mode}
/-- The walk: 0 reads only, 1 turns the world within R; at a fork both ways. -/
def canJ (F : Fence) (n : Nat) (P : Program) (ops : Array Oper) (Q : Exit → Act → World → Prop) : PlanO → (World → Prop) → Act → World → Prop
  | .nil, _, a, w => Q .normal a w
  | .bad, _, _, _ => False
  | .step o 0 r, R, a, w =>
    if Region.wanted o (yielded ops a.tmps) then ∃ v, (∀ x, R x → (execOp a.eval o).run P x = .ok (.value v) x) ∧ canJ F n P ops Q r R (a.put o.dst v) w
    else canJ F n P ops Q r R (a.put o.dst undef) w
  | .step o (_ + 1) r, R, a, w =>
    if Region.wanted o (yielded ops a.tmps) then o.wpIn F n P a w (fun a' w' => ∃ R' : World → Prop, (∀ x, R' x → R x) ∧ R' w' ∧ canJ F n P ops Q r R' a' w') Q
    else (∀ f, o.about P w a.eval = some f → F.fn f) ∧ canJ F n P ops Q r R (a.put o.dst undef) w
  | .fork o r u s, R, a, w =>
    (if Region.wanted o (yielded ops a.tmps) then o.wpIn F n P a w (fun a' w' => ∃ R' : World → Prop, (∀ x, R' x → R x) ∧ R' w' ∧ canJ F n P ops Q r R' a' w') Q
      else (∀ f, o.about P w a.eval = some f → F.fn f) ∧ canJ F n P ops Q r R (a.put o.dst undef) w) ∧
    (if Region.wanted u (yielded ops a.tmps) then u.wpIn F n P a w (fun a' w' => ∃ R' : World → Prop, (∀ x, R' x → R x) ∧ R' w' ∧ canJ F n P ops Q s R' a' w') Q
      else (∀ f, u.about P w a.eval = some f → F.fn f) ∧ canJ F n P ops Q s R (a.put u.dst undef) w)
/-- The walk, behind a name that nothing opens. -/
structure Can (F : Fence) (n : Nat) (P : Program) (ops : Array Oper) (Q : Exit → Act → World → Prop) (l : PlanO) (R : World → Prop) (a : Act) (w : World) : Prop where
  out : canJ F n P ops Q l R a w
theorem nil {R : World → Prop} {a : Act} {w : World} (h : Q .normal a w) : Can F n P ops Q .nil R a w := ⟨h⟩
end
end Go.Proofs.Ytoleiiicbnmhpaa.RegJ
namespace Go.Proofs.Ytoleiiicbnmhpaa
open Go.RowKit
/-- The nodes below i that a set has. -/
def lstB (s : Nat) : Nat → List UInt8
  | 0 => []
  | i + 1 => lstB s i ++ (if s / 2 ^ i % 2 = 1 then [UInt8.ofNat i] else [])
theorem lstB_len (s : Nat) : ∀ i, (lstB s i).length ≤ i
  | 0 => Nat.le_refl _
  | i + 1 => by
    have := lstB_len s i
    unfold lstB
    rw [List.length_append]
    split
    · simp; omega
    · simp; omega
set_option maxRecDepth 100000 in
set_option maxHeartbeats 4000000 in
theorem list8_any (s : Nat) (hs : s < 256) (w : World) : Calls Try.prog 30 #[.int .u8 (s : Int)] w fun e w' => ∃ v, e = .returned v ∧ OwnB w' w.heap.size 5 v (lstB s 7) ∧ Below w.heap.size w w' := by
  obtain ⟨i0, hi0, hz0, hs0, hb0⟩ := info_parts info8
  go_enter Try.func30, Try.ntmps30
  go_wp2_with fail
  go_loopw [0, 3, 4] (fun s0 s3 s4 wr => ∃ i : Nat, i ≤ 7 ∧ s4 = .int .i64 (i : Int) ∧ s0 = .int .u8 ((s / 2 ^ i : Nat) : Int) ∧ OwnB wr w.heap.size 5 s3 (lstB s i) ∧ Below w.heap.size w wr) (fun _ _ s4 _ => 7 - (intOf s4).toNat)
  case atStart => exact ⟨0, by omega, rfl, by simp, ⟨rfl, .inl ⟨rfl, rfl⟩⟩, Below.refl _ _⟩
  case round =>
    obtain ⟨i, hi, rfl, rfl, ho, hb⟩ := hrel
    have Ho := Lib.hid ho; clear ho
    have Hb := Lib.hid hb; clear hb
    have hll := lstB_len s i
    by_cases h7 : i < 7
    · have h7' : (i : Int) < 7 := by omega
      have hsucc := tsucc (n := i) (by omega)
      have hst : lstB s (i + 1) = lstB s i ++ (if s / 2 ^ i % 2 = 1 then [UInt8.ofNat i] else []) := rfl
      have hdiv : s / 2 ^ (i + 1) = s / 2 ^ i / 2 := by rw [Nat.pow_succ, Nat.div_div_eq_div_mul]
      have Hdiv := Lib.hid hdiv; clear hdiv
      have hlt : s / 2 ^ i < 256 := Nat.lt_of_le_of_lt (Nat.div_le_self _ _) hs
      obtain ⟨m, hm⟩ : ∃ m, s / 2 ^ i = m := ⟨_, rfl⟩
      rw [hm] at hst Hdiv hlt ⊢
      clear hm
      have hmod : (i : Int) % 256 = (i : Int) := by omega
      have hi8 : ((UInt8.ofNat i).toNat : Int) = (i : Int) := by simp; omega
      have hone := ReadB.one wr (UInt8.ofNat i) 5
      rw [hi8] at hone
      have Hone := Lib.hid hone; clear hone hi8
      have Hst := Lib.hid hst; clear hst
      have Hlw := Lib.hid (show w.heap.size ≤ wr.heap.size from Hb.out.size)
      by_cases h1 : m % 2 = 1
      · have h1' : ((m : Int) % 2 == 1) = true := by rw [beq_iff_eq]; omega
        have h1'' : ((m : Int).tmod 2 == 1) = true := by rw [beq_iff_eq, Int.tmod_eq_emod_of_nonneg (by omega)]; omega
        have H1 := Lib.hid h1; clear h1
        go_wp2_with (at_builtin; refine wpList_append_read rfl _ _ 22 rfl w.heap.size 5 i0 (.int .u8 0) Try.underlying22 hi0 hz0 hs0 hb0 rfl _ _ _ rfl (World.ownsRow.alloc Ho.out _) _ _ rfl Hone.out (by simp; omega) (by simp; have := Hlw.out; omega) ?_; intro v4 w4 ho4 hg4; have Hg4 := Lib.hid hg4; clear hg4; have Ho4 := Lib.hid ho4; clear ho4)
        go_roundw
        case rel =>
          refine ⟨i + 1, by omega, rfl, by rw [Hdiv.out]; rfl, ?_, below_grown Hg4.out (Hb.out.alloc Hlw.out _) (by simp; have := Hlw.out; omega) (fun k hk => (World.ownsRow.lt Ho.out k hk).1)⟩
          rw [Hst.out, if_pos H1.out]
          exact OwnB.of Ho4.out rfl rfl
        case measure => simp [intOf]; omega
      · have h1' : ((m : Int) % 2 == 1) = false := by rw [beq_eq_false_iff_ne]; omega
        have h1'' : ((m : Int).tmod 2 == 1) = false := by rw [beq_eq_false_iff_ne, Int.tmod_eq_emod_of_nonneg (by omega)]; omega
        have H1 := Lib.hid h1; clear h1
        go_wp2_with fail
        go_roundw
        case rel =>
          refine ⟨i + 1, by omega, rfl, by rw [Hdiv.out]; rfl, ?_, Hb.out⟩
          rw [Hst.out, if_neg H1.out, List.append_nil]
          exact Ho.out
        case measure => simp [intOf]; omega
    · have h7' : ¬ (i : Int) < 7 := by omega
      have hi7 : i = 7 := by omega
      subst hi7
      go_wp2_with fail
      go_ret
      exact ⟨_, rfl, Ho.out, Hb.out⟩
end Go.Proofs.Ytoleiiicbnmhpaa
namespace Go.Proofs.Ytoleiiicbnmhpaa
open Go.RowKit
theorem readB_at {w : World} {v : Value} {l : List UInt8} (h : ReadB w v l) {i : Nat} (hi : i < l.length) : ∃ b o c, v = .slice (some ⟨b, o, none⟩) l.length c ∧ b < w.heap.size ∧ w.cell? ⟨b, o + i, none⟩ = some (.int .u8 ((l.getD i 0).toNat : Int)) := by
  obtain ⟨a, c, rfl, _, h2⟩ := h.out
  obtain ⟨b, o, rfl, h3, h4⟩ := h2 i _ (bcells_get hi)
  exact ⟨b, o, c, rfl, h3, by rw [h4]; simp [List.getD, List.getElem?_eq_getElem hi]⟩
def hasB (l : List UInt8) (x : UInt8) : Bool := l.any fun y => y == x
theorem hasB_take {l : List UInt8} {x : UInt8} {i : Nat} (hi : i < l.length) : hasB (l.take (i + 1)) x = (hasB (l.take i) x || (l.getD i 0 == x)) := by
  unfold hasB
  rw [List.take_succ_eq_append_getElem hi, List.any_append]
  simp [List.getD, List.getElem?_eq_getElem hi]
theorem u8_eq {a b : UInt8} (h : a.toNat = b.toNat) : a = b := UInt8.toNat_inj.1 h
set_option maxRecDepth 100000 in
set_option maxHeartbeats 4000000 in
theorem has8_any (v : Value) (l : List UInt8) (x : UInt8) (hl : l.length ≤ 1000000) (w : World) (h : ReadB w v l) : Calls Try.prog 31 #[v, .int .u8 (x.toNat : Int)] w fun e w' => e = .returned (.bool (hasB l x)) ∧ w = w' := by
  obtain ⟨a, c, rfl, _, _⟩ := h.out
  have H := Lib.hid h; clear h
  go_enter Try.func31, Try.ntmps31
  go_wp2_with fail
  go_loopw [5] (fun s5 wr => ∃ i : Nat, i ≤ l.length ∧ s5 = .int .i64 (i : Int) ∧ hasB (l.take i) x = false ∧ w = wr) (fun s5 _ => l.length - (intOf s5).toNat)
  case atStart => exact ⟨0, by omega, rfl, rfl, rfl⟩
  case round =>
    obtain ⟨i, hi, rfl, hn, rfl⟩ := hrel
    have Hn := Lib.hid hn; clear hn
    by_cases hlt : i < l.length
    · have hlt' : (i : Int) < (l.length : Int) := by omega
      have hsucc := tsucc (n := i) (by omega)
      have hst := hasB_take (x := x) hlt
      obtain ⟨b, o, c', e, _, c0⟩ := readB_at H.out hlt
      cases e
      generalize l.getD i 0 = y at *
      have Hst := Lib.hid hst; clear hst
      by_cases hy : y = x
      · subst hy
        have hall : hasB l y = true := by
          have h1 : hasB (l.take (i + 1)) y = true := by rw [Hst.out]; simp
          unfold hasB at *
          rw [List.any_eq_true] at h1 ⊢
          obtain ⟨q, hq, hqe⟩ := h1
          exact ⟨q, List.mem_of_mem_take hq, hqe⟩
        have Hall := Lib.hid hall; clear hall
        go_wp2_with fail
        go_ret
        exact ⟨by rw [Hall.out]; rfl, rfl⟩
      · have hne : ((y.toNat : Int) == (x.toNat : Int)) = false := by
          rw [beq_eq_false_iff_ne]
          intro e
          exact hy (u8_eq (by omega))
        have Hy := Lib.hid hy; clear hy
        go_wp2_with fail
        go_roundw
        case rel => exact ⟨i + 1, hlt, rfl, by rw [Hst.out, Hn.out]; simp [Hy.out], by first | rfl | trivial⟩
        case measure => simp [intOf]; omega
    · have hlt' : ¬ (i : Int) < (l.length : Int) := by omega
      have hall : hasB l x = false := by
        have h1 := Hn.out
        rwa [List.take_of_length_le (by omega)] at h1
      have Hall := Lib.hid hall; clear hall
      go_wp2_with fail
      go_ret
      exact ⟨by rw [Hall.out]; rfl, rfl⟩
end Go.Proofs.Ytoleiiicbnmhpaa
