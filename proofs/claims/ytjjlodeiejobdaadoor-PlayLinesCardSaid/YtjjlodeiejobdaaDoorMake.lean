/- A law on 'make([]T, l, c)', l and c variables; rows of bytes: read, owned. Over any program. No condition. -/
import Derived.OwnWalk
import Derived.Laws.CopyOwn
import Derived.Laws.MakeOwn
import Derived.Lib.AppendStr
import Derived.Below
import Derived.Laws.IdiomStrings
import Derived.Lib.BufferRead
import Derived.Laws.AppendOwnNone
namespace Go.Proofs.YtjjlodeiejobdaaDoor
open Go.RowKit
theorem wpList_make_lc {P : Program} (w : World) {ops : Array Oper} {rest : List Oper} {o : Oper} {a : Act} {Q : Exit → Act → World → Prop}
    (hg : o.guard = none) (l c : Operand) (t : TypeId) (hop : o.op = Op.makeSlice t l c)
    (e : TypeId) (i : TypeInfo) (z : Value) (h1 : P.underlying t = some (.slice e)) (h2 : P.info? e = some i) (h3 : i.zero = some z)
    (kl kc : IntKind) (L C : Int) (n m : Nat) (hl : a.eval l = .int kl L) (hc : a.eval c = .int kc C) (hL : L = (n : Int)) (hC : C = (m : Int)) (hLC : n ≤ m) (b2 : i.bytes * m ≤ 281474976710656) (b3 : m ≤ maxLen)
    (hK : wpList P ops Q rest (a.put o.dst (.slice (some ⟨w.heap.size, 0, none⟩) n m)) (w.alloc (.cells (madeCells z.cells (m * i.size)) e))) :
    wpList P ops Q (o :: rest) a w := by
  refine wpList_plain hg fun K hK' => ?_
  subst hL
  subst hC
  unfold maxLen at b3
  have hb' : (i.bytes : Int) * (m : Int) ≤ 281474976710656 := by
    have h : ((i.bytes * m : Nat) : Int) ≤ 281474976710656 := by omega
    rwa [Int.natCast_mul] at h
  have hr := run_make (P := P) w t e i z h1 h2 h3 kl kc n m (by omega) (by omega) hb' (by omega)
  simp only [Int.toNat_natCast] at hr
  unfold Oper.wp
  simp [execOp, hop, hl, hc, hr, Result.andThen]
  exact hK' _ _ hK
/-- Bytes as cells. -/
def bcells (l : List UInt8) : List Value := l.map fun b => Value.int .u8 b.toNat
theorem bcells_len (l : List UInt8) : (bcells l).length = l.length := by simp [bcells]
theorem bcells_one (l : List UInt8) : ∀ u ∈ bcells l, u.oneCell' = true := by
  intro u hu
  simp only [bcells, List.mem_map] at hu
  obtain ⟨b, _, rfl⟩ := hu
  rfl
theorem bcells_get {l : List UInt8} {j : Nat} (hj : j < l.length) : (bcells l)[j]? = some (.int .u8 (l[j].toNat : Int)) := by
  unfold bcells
  rw [List.getElem?_map, List.getElem?_eq_getElem hj]
  rfl
theorem bcells_app (l k : List UInt8) : bcells (l ++ k) = bcells l ++ bcells k := by simp [bcells]
theorem bcells_str (s : ByteArray) : Lib.strCells s = bcells s.data.toList := rfl
/-- A slice whose bytes can be read. -/
structure ReadB (w : World) (v : Value) (l : List UInt8) : Prop where
  out : ∃ a cap, v = .slice a l.length cap ∧ (a = none → cap = 0) ∧ ∀ j u, (bcells l)[j]? = some u → ∃ b o, a = some ⟨b, o, none⟩ ∧ b < w.heap.size ∧ w.cell? ⟨b, o + j, none⟩ = some u
theorem ReadB.below {w w' : World} {v : Value} {l : List UInt8} (h : ReadB w v l) (hb : Below w.heap.size w w') : ReadB w' v l := by
  obtain ⟨a, cap, e, h0, h2⟩ := h.out
  exact ⟨a, cap, e, h0, fun j u hj => by obtain ⟨b, o, e1, e2, e3⟩ := h2 j u hj; exact ⟨b, o, e1, Nat.lt_of_lt_of_le e2 hb.size, (hb.cell (p := ⟨b, _, none⟩) e2).trans e3⟩⟩
theorem ReadB.slice {w : World} {v : Value} {l : List UInt8} (h : ReadB w v l) : ∃ a n c, v = .slice a n c := by
  obtain ⟨a, cap, e, _⟩ := h.out
  exact ⟨a, _, cap, e⟩
theorem ReadB.nil (w : World) : ReadB w (.slice none 0 0) [] := ⟨none, 0, rfl, fun _ => rfl, fun j u hj => by simp [bcells] at hj⟩
theorem ReadB.conv {P : Program} {w : World} {v : Value} {l : List UInt8} {src dst e : TypeId} (h : ReadB w v l) (hs : P.underlying src = some (.slice e)) (he : P.underlying e = some (.int .u8)) (hd : P.underlying dst = some .string) :
    (convert src dst v).run P w = .ok (.string ⟨l.toArray⟩) w := by
  obtain ⟨a, cap, rfl, _, h2⟩ := h.out
  match l, h2 with
  | [], _ =>
    cases a with
    | none => exact Lib.run_convert_nil_bytes w src dst e cap hs he hd
    | some a => exact run_convert_bytes_back w src dst e a cap [] hs he hd (fun j hj => by simp at hj)
  | b :: r, h2 =>
    obtain ⟨g, o, rfl, _, _⟩ := h2 0 _ (List.getElem?_eq_getElem (show 0 < (bcells (b :: r)).length by simp [bcells]))
    refine run_convert_bytes_back w src dst e ⟨g, o, none⟩ cap (b :: r) hs he hd (fun j hj => ?_)
    obtain ⟨g', o', e1, _, e3⟩ := h2 j (.int .u8 ((b :: r)[j].toNat : Int)) (bcells_get hj)
    cases e1
    rw [Addr.add_lit]
    exact e3
theorem ReadB.cells (w : World) (l : List UInt8) (t : TypeId) (cs : Array Value) (hcs : cs = (bcells l).toArray) (cap : Nat) : ReadB (w.alloc (.cells cs t)) (.slice (some ⟨w.heap.size, 0, none⟩) l.length cap) l := by
  subst hcs
  refine ⟨some ⟨w.heap.size, 0, none⟩, cap, rfl, (fun e => by cases e), fun j u hj => ⟨w.heap.size, 0, rfl, by simp, ?_⟩⟩
  have h := heap_alloc_new w (.cells (bcells l).toArray t)
  unfold World.cell?
  simp only [h, Nat.zero_add]
  simpa using hj
theorem ReadB.one (w : World) (b : UInt8) (t : TypeId) : ReadB (w.alloc (.cells #[.int .u8 (b.toNat : Int)] t)) (.slice (some ⟨w.heap.size, 0, none⟩) 1 1) [b] := by
  refine ⟨some ⟨w.heap.size, 0, none⟩, 1, rfl, (fun e => by cases e), fun j u hj => ?_⟩
  match j, hj with
  | 0, hj =>
    rw [show bcells [b] = [.int .u8 (b.toNat : Int)] from rfl, List.getElem?_cons_zero, Option.some.injEq] at hj
    subst hj
    have h := heap_alloc_new w (.cells #[.int .u8 (b.toNat : Int)] t)
    refine ⟨w.heap.size, 0, rfl, by simp, ?_⟩
    unfold World.cell?
    simp only [h]
    rfl
theorem cells_one (v : Value) (t : TypeId) (w : World) : ∀ j u, [v][j]? = some u → (w.alloc (.cells #[v] t)).cell? ((⟨w.heap.size, 0, none⟩ : Addr).add j) = some u := by
  intro j u hj
  match j, hj with
  | 0, hj =>
    rw [List.getElem?_cons_zero, Option.some.injEq] at hj
    subst hj
    have h := heap_alloc_new w (.cells #[v] t)
    show (w.alloc (.cells #[v] t)).cell? ⟨w.heap.size, 0, none⟩ = _
    unfold World.cell?
    simp only [h]
    rfl
/-- A slice that owns its bytes: nobody else holds its block. -/
def OwnB (w : World) (base : Nat) (t : TypeId) (v : Value) (l : List UInt8) : Prop := w.ownsRow base t 1 v l.length (bcells l)
theorem OwnB.read {w : World} {base : Nat} {t : TypeId} {v : Value} {l : List UInt8} (h : OwnB w base t v l) : ReadB w v l := by
  unfold OwnB at h
  obtain ⟨h1, h2⟩ := h
  rcases h2 with ⟨rfl, h3⟩ | ⟨g, cap, cur, rfl, _, hg, _, _, hs, ht⟩
  · have : l = [] := List.eq_nil_of_length_eq_zero h3
    subst this
    exact ReadB.nil w
  · refine ⟨some ⟨g, 0, none⟩, cap, rfl, (fun e => by cases e), fun j u hj => ⟨g, 0, rfl, (Array.getElem?_eq_some_iff.1 hg).1, ?_⟩⟩
    have hjl : j < l.length := by
      have := (List.getElem?_eq_some_iff.1 hj).1
      rwa [bcells_len] at this
    rw [Nat.mul_one] at ht
    rw [← ht, List.getElem?_take, if_pos hjl, Array.getElem?_toList] at hj
    simp only [World.cell?, hg, Nat.zero_add]
    simpa using hj
theorem OwnB.below {w w' : World} {base : Nat} {t : TypeId} {v : Value} {l : List UInt8} (h : OwnB w base t v l) (hb : Below w.heap.size w w') : OwnB w' base t v l := by
  unfold OwnB at *
  obtain ⟨h1, h2⟩ := h
  refine ⟨h1, ?_⟩
  rcases h2 with h2 | ⟨g, cap, cur, e, h3, hg, h4⟩
  · exact .inl h2
  · exact .inr ⟨g, cap, cur, e, h3, (hb.block g (Array.getElem?_eq_some_iff.1 hg).1).trans hg, h4⟩
theorem OwnB.mono {w : World} {base base' : Nat} {t : TypeId} {v : Value} {l : List UInt8} (h : OwnB w base t v l) (hb : base' ≤ base) : OwnB w base' t v l := by
  unfold OwnB at *
  obtain ⟨h1, h2⟩ := h
  refine ⟨h1, ?_⟩
  rcases h2 with h2 | ⟨g, cap, cur, e, h3, h4⟩
  · exact .inl h2
  · exact .inr ⟨g, cap, cur, e, Nat.le_trans hb h3, h4⟩
theorem OwnB.setCell {w : World} {base : Nat} {t : TypeId} {v : Value} {l : List UInt8} {g i : Nat} {x : Value} (h : OwnB w base t v l) (hg : g < base) : OwnB (w.setCell ⟨g, i, none⟩ x) base t v l := by
  unfold OwnB at *
  obtain ⟨h1, h2⟩ := h
  refine ⟨h1, ?_⟩
  rcases h2 with h2 | ⟨q, cap, cur, e, h3, hq, h4⟩
  · exact .inl h2
  · exact .inr ⟨q, cap, cur, e, h3, (Below.heap_setCell _ _ _ _ (by show q ≠ g; omega)).trans hq, h4⟩
theorem OwnB.of {w : World} {base : Nat} {t : TypeId} {v : Value} {l k : List UInt8} {n : Nat} {xs : List Value} (h : w.ownsRow base t 1 v n xs) (hn : n = l.length + k.length) (hx : xs = bcells l ++ bcells k) : OwnB w base t v (l ++ k) := by
  subst hn hx
  unfold OwnB
  rw [bcells_app, List.length_append]
  exact h
theorem OwnB.splice {w : World} {base g cap : Nat} {t : TypeId} {l : List UInt8} {cur : List Value} (hg : w.heap[g]? = some (.cells (splice cur 0 (bcells l)).toArray t (0, 0))) (hb : base ≤ g) (hlen : cur.length = cap) (hl : l.length ≤ cap) (hm : cap ≤ maxLen) :
    OwnB w base t (.slice (some ⟨g, 0, none⟩) l.length cap) l := by
  refine ⟨by rw [bcells_len]; simp, .inr ⟨g, cap, _, rfl, hb, hg, hl, hm, ?_, ?_⟩⟩
  · rw [List.size_toArray, length_splice _ _ _ (by rw [bcells_len]; omega)]
    omega
  · rw [Nat.mul_one, show l.length = (bcells l).length from (bcells_len l).symm]
    simp [Go.splice]
theorem OwnB.one (w : World) (b : UInt8) (t : TypeId) : OwnB (w.alloc (.cells #[.int .u8 (b.toNat : Int)] t)) w.heap.size t (.slice (some ⟨w.heap.size, 0, none⟩) 1 1) [b] :=
  ⟨rfl, .inr ⟨w.heap.size, 1, _, rfl, Nat.le_refl _, heap_alloc_new w _, Nat.le_refl _, by unfold maxLen; omega, rfl, rfl⟩⟩
/-- 'append(s, x...)', s owned, x a slice that can be read, nil or not. -/
theorem wp_append_read {P : Program} {w : World} {o : Oper} {a : Act} {K : Act → World → Prop} {Q : Exit → Act → World → Prop} (s x : Operand) (t : TypeId)
    (ho : o.op = .call { callee := .builtin .append, args := #[s, x], argTypes := #[t, t] })
    (base : Nat) (e : TypeId) (i : TypeInfo) (z : Value) (ht : P.underlying t = some (.slice e)) (hi : P.info? e = some i) (hz : i.zero = some z)
    (hsize : i.size = 1) (hby : i.bytes = 1) (hzs : z.cells.size = 1)
    (v : Value) (n : Nat) (xs : List Value) (hs : a.eval s = v) (hown : w.ownsRow base e 1 v n xs) (V : Value) (k : List UInt8) (hx : a.eval x = V) (hr : ReadB w V k)
    (h63 : n + k.length ≤ 140737488355328) (hbase : base ≤ w.heap.size)
    (h : ∀ v' w', w'.ownsRow base e 1 v' (n + k.length) (xs ++ bcells k) → w.grownBy w' v.ownBlock → K (a.put o.dst v') w') : o.wp P a w K Q := by
  obtain ⟨ad, cap, rfl, h0, h2⟩ := hr.out
  cases ad with
  | none =>
    obtain rfl := h0 rfl
    have hk : k = [] := by
      match k, h2 with
      | [], _ => rfl
      | b :: r, h2 =>
        obtain ⟨_, _, e1, _⟩ := h2 0 _ (bcells_get (show 0 < (b :: r).length by simp))
        cases e1
    subst hk
    have hrun := run_append_owned_none (P := P) (w := w) base t o.type e i 1 ht hi v n xs hown
    have hh := h v w (by simpa [bcells] using hown) (World.grownBy.refl w _)
    have hx' : a.eval x = .slice none 0 0 := hx
    unfold Oper.wp
    simp [execOp, ho, resolve, invoke, builtin, hs, hx', hrun, Result.andThen]
    exact hh
  | some ad =>
    refine wp_append_own w s x t ho base e i z 1 1 ht hi hz hsize hby hzs (by omega) v n xs hs hown ad k.length cap (bcells k) hx (by rw [bcells_len, Nat.mul_one]) (fun j u hj => ?_) (bcells_one k) (by unfold maxLen; omega) (by omega) hbase (fun v' w' h3 h4 _ => h v' w' h3 h4)
    obtain ⟨b, o', e1, _, e3⟩ := h2 j u hj
    cases e1
    rw [Addr.add_lit]
    exact e3
theorem wpList_append_read {P : Program} {w : World} {ops : Array Oper} {rest : List Oper} {o : Oper} {a : Act} {Q : Exit → Act → World → Prop} (hgd : o.guard = none) (s x : Operand) (t : TypeId)
    (ho : o.op = .call { callee := .builtin .append, args := #[s, x], argTypes := #[t, t] })
    (base : Nat) (e : TypeId) (i : TypeInfo) (z : Value) (ht : P.underlying t = some (.slice e)) (hi : P.info? e = some i) (hz : i.zero = some z)
    (hsize : i.size = 1) (hby : i.bytes = 1) (hzs : z.cells.size = 1)
    (v : Value) (n : Nat) (xs : List Value) (hs : a.eval s = v) (hown : w.ownsRow base e 1 v n xs) (V : Value) (k : List UInt8) (hx : a.eval x = V) (hr : ReadB w V k)
    (h63 : n + k.length ≤ 140737488355328) (hbase : base ≤ w.heap.size)
    (h : ∀ v' w', w'.ownsRow base e 1 v' (n + k.length) (xs ++ bcells k) → w.grownBy w' v.ownBlock → wpList P ops Q rest (a.put o.dst v') w') : wpList P ops Q (o :: rest) a w :=
  wpList_plain hgd fun _ hK => wp_append_read s x t ho base e i z ht hi hz hsize hby hzs v n xs hs hown V k hx hr h63 hbase fun v' w' h3 h4 => hK _ _ (h v' w' h3 h4)
theorem below_grown {w w' : World} {row : Option Nat} {n : Nat} {w0 : World} (hg : w.grownBy w' row) (hb : Below n w0 w) (hn : n ≤ w.heap.size) (hr : ∀ k, row = some k → n ≤ k) : Below n w0 w' :=
  hb.trans ⟨hg.os, hg.tape, hg.output, hg.size, fun k hk => hg.block k (Nat.lt_of_lt_of_le hk hn) (fun e => by have := hr k e.symm; omega)⟩
end Go.Proofs.YtjjlodeiejobdaaDoor
