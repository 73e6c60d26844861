/- A law on 'make([]T, l, c)', l and c variables; rows of bytes: read, owned. Over any program. No condition. -/
import Derived.OwnWalk
import Derived.Laws.CopyOwn
import Derived.Laws.MakeOwn
import Derived.Lib.AppendStr
import Derived.Below
import Derived.Laws.IdiomStrings
import Derived.Lib.BufferRead
import Derived.Laws.AppendOwnNone
import Derived.Test.YtkngadbeflepoaaChecked
import Derived.WalkKit
import Derived.ProofKit
import Derived.Lib.Hide
import Derived.IntWalk
import Derived.Shelf.Strconv.Itoa0
import Derived.Deep.DeepCutAuto
import Derived.StillTailTactics
import Derived.Test.YtkngadbeflepoaaMMachineBack12
namespace Go.Proofs.Ytkngadbeflepoaa
open Go.RowKit

theorem wpList_make_lc {P : Program} (w : World) {ops : Array Oper} {rest : List Oper} {o : Oper} {a : Act} {Q : Exit → Act → World → Prop}
    (hg : o.guard = none) (l c : Operand) (t : TypeId) (hop : o.op = Op.makeSlice t l c)
    (e : TypeId) (i : TypeInfo) (z : Value) (h1 : P.underlying t = some (.slice e)) (h2 : P.info? e = some i) (h3 : i.zero = some z)
    (kl kc : IntKind) (L C : Int) (n m : Nat) (hl : a.eval l = .int kl L) (hc : a.eval c = .int kc C) (hL : L = (n : Int)) (hC : C = (m : Int)) (hLC : n ≤ m) (b2 : i.bytes * m ≤ 281474976710656) (b3 : m ≤ maxLen)
    (hK : wpList P ops Q rest (a.put o.dst (.slice (some ⟨w.heap.size, 0, none⟩) n m)) (w.alloc (.cells (madeCells z.cells (m * i.size)) e))) :
    wpList P ops Q (o :: rest) a w := by
  refine wpList_plain hg fun K hK' => ?_
  subst hL
  subst hC
  unfold maxLen at b3
  have hb' : (i.bytes : Int) * (m : Int) ≤ 281474976710656 := by
    have h : ((i.bytes * m : Nat) : Int) ≤ 281474976710656 := by omega
    rwa [Int.natCast_mul] at h
  have hr := run_make (P := P) w t e i z h1 h2 h3 kl kc n m (by omega) (by omega) hb' (by omega)
  simp only [Int.toNat_natCast] at hr
  unfold Oper.wp
  simp [execOp, hop, hl, hc, hr, Result.andThen]
  exact hK' _ _ hK
/-- Bytes as cells. -/
def bcells (l : List UInt8) : List Value := l.map fun b => Value.int .u8 b.toNat
theorem bcells_len (l : List UInt8) : (bcells l).length = l.length := by simp [bcells]
theorem bcells_one (l : List UInt8) : ∀ u ∈ bcells l, u.oneCell' = true := by
  intro u hu
  simp only [bcells, List.mem_map] at hu
  obtain ⟨b, _, rfl⟩ := hu
  rfl
theorem bcells_get {l : List UInt8} {j : Nat} (hj : j < l.length) : (bcells l)[j]? = some (.int .u8 (l[j].toNat : Int)) := by
  unfold bcells
  rw [List.getElem?_map, List.getElem?_eq_getElem hj]
  rfl
theorem bcells_app (l k : List UInt8) : bcells (l ++ k) = bcells l ++ bcells k := by simp [bcells]
theorem bcells_str (s : ByteArray) : Lib.strCells s = bcells s.data.toList := rfl
/-- A slice whose bytes can be read. -/
structure ReadB (w : World) (v : Value) (l : List UInt8) : Prop where
  out : ∃ a cap, v = .slice a l.length cap ∧ (a = none → cap = 0) ∧ ∀ j u, (bcells l)[j]? = some u → ∃ b o, a = some ⟨b, o, none⟩ ∧ b < w.heap.size ∧ w.cell? ⟨b, o + j, none⟩ = some u
theorem ReadB.below {w w' : World} {v : Value} {l : List UInt8} (h : ReadB w v l) (hb : Below w.heap.size w w') : ReadB w' v l := by
  obtain ⟨a, cap, e, h0, h2⟩ := h.out
  exact ⟨a, cap, e, h0, fun j u hj => by obtain ⟨b, o, e1, e2, e3⟩ := h2 j u hj; exact ⟨b, o, e1, Nat.lt_of_lt_of_le e2 hb.size, (hb.cell (p := ⟨b, _, none⟩) e2).trans e3⟩⟩
theorem ReadB.slice {w : World} {v : Value} {l : List UInt8} (h : ReadB w v l) : ∃ a n c, v = .slice a n c := by
  obtain ⟨a, cap, e, _⟩ := h.out
  exact ⟨a, _, cap, e⟩
theorem ReadB.nil (w : World) : ReadB w (.slice none 0 0) [] := ⟨none, 0, rfl, fun _ => rfl, fun j u hj => by simp [bcells] at hj⟩
theorem ReadB.conv {P : Program} {w : World} {v : Value} {l : List UInt8} {src dst e : TypeId} (h : ReadB w v l) (hs : P.underlying src = some (.slice e)) (he : P.underlying e = some (.int .u8)) (hd : P.underlying dst = some .string) :
    (convert src dst v).run P w = .ok (.string ⟨l.toArray⟩) w := by
  obtain ⟨a, cap, rfl, _, h2⟩ := h.out
  match l, h2 with
  | [], _ =>
    cases a with
    | none => exact Lib.run_convert_nil_bytes w src dst e cap hs he hd
    | some a => exact run_convert_bytes_back w src dst e a cap [] hs he hd (fun j hj => by simp at hj)
  | b :: r, h2 =>
    obtain ⟨g, o, rfl, _, _⟩ := h2 0 _ (List.getElem?_eq_getElem (show 0 < (bcells (b :: r)).length by simp [bcells]))
    refine run_convert_bytes_back w src dst e ⟨g, o, none⟩ cap (b :: r) hs he hd (fun j hj => ?_)
    obtain ⟨g', o', e1, _, e3⟩ := h2 j (.int .u8 ((b :: r)[j].toNat : Int)) (bcells_get hj)
    cases e1
    rw [Addr.add_lit]
    exact e3
theorem ReadB.cells (w : World) (l : List UInt8) (t : TypeId) (cs : Array Value) (hcs : cs = (bcells l).toArray) (cap : Nat) : ReadB (w.alloc (.cells cs t)) (.slice (some ⟨w.heap.size, 0, none⟩) l.length cap) l := by
  subst hcs
  refine ⟨some ⟨w.heap.size, 0, none⟩, cap, rfl, (fun e => by cases e), fun j u hj => ⟨w.heap.size, 0, rfl, by simp, ?_⟩⟩
  have h := heap_alloc_new w (.cells (bcells l).toArray t)
  unfold World.cell?
  simp only [h, Nat.zero_add]
  simpa using hj
theorem ReadB.one (w : World) (b : UInt8) (t : TypeId) : ReadB (w.alloc (.cells #[.int .u8 (b.toNat : Int)] t)) (.slice (some ⟨w.heap.size, 0, none⟩) 1 1) [b] := by
  refine ⟨some ⟨w.heap.size, 0, none⟩, 1, rfl, (fun e => by cases e), fun j u hj => ?_⟩
  match j, hj with
  | 0, hj =>
    rw [show bcells [b] = [.int .u8 (b.toNat : Int)] from rfl, List.getElem?_cons_zero, Option.some.injEq] at hj
    subst hj
    have h := heap_alloc_new w (.cells #[.int .u8 (b.toNat : Int)] t)
    refine ⟨w.heap.size, 0, rfl, by simp, ?_⟩
    unfold World.cell?
    simp only [h]
    rfl
theorem cells_one (v : Value) (t : TypeId) (w : World) : ∀ j u, [v][j]? = some u → (w.alloc (.cells #[v] t)).cell? ((⟨w.heap.size, 0, none⟩ : Addr).add j) = some u := by
  intro j u hj
  match j, hj with
  | 0, hj =>
    rw [List.getElem?_cons_zero, Option.some.injEq] at hj
    subst hj
    have h := heap_alloc_new w (.cells #[v] t)
    show (w.alloc (.cells #[v] t)).cell? ⟨w.heap.size, 0, none⟩ = _
    unfold World.cell?
    simp only [h]
    rfl
/-- A slice that owns its bytes: nobody else holds its block. -/
def OwnB (w : World) (base : Nat) (t : TypeId) (v : Value) (l : List UInt8) : Prop := w.ownsRow base t 1 v l.length (bcells l)
theorem OwnB.read {w : World} {base : Nat} {t : TypeId} {v : Value} {l : List UInt8} (h : OwnB w base t v l) : ReadB w v l := by
  unfold OwnB at h
  obtain ⟨h1, h2⟩ := h
  rcases h2 with ⟨rfl, h3⟩ | ⟨g, cap, cur, rfl, _, hg, _, _, hs, ht⟩
  · have : l = [] := List.eq_nil_of_length_eq_zero h3
    subst this
    exact ReadB.nil w
  · refine ⟨some ⟨g, 0, none⟩, cap, rfl, (fun e => by cases e), fun j u hj => ⟨g, 0, rfl, (Array.getElem?_eq_some_iff.1 hg).1, ?_⟩⟩
    have hjl : j < l.length := by
      have := (List.getElem?_eq_some_iff.1 hj).1
      rwa [bcells_len] at this
    rw [Nat.mul_one] at ht
    rw [← ht, List.getElem?_take, if_pos hjl, Array.getElem?_toList] at hj
    simp only [World.cell?, hg, Nat.zero_add]
    simpa using hj
theorem OwnB.below {w w' : World} {base : Nat} {t : TypeId} {v : Value} {l : List UInt8} (h : OwnB w base t v l) (hb : Below w.heap.size w w') : OwnB w' base t v l := by
  unfold OwnB at *
  obtain ⟨h1, h2⟩ := h
  refine ⟨h1, ?_⟩
  rcases h2 with h2 | ⟨g, cap, cur, e, h3, hg, h4⟩
  · exact .inl h2
  · exact .inr ⟨g, cap, cur, e, h3, (hb.block g (Array.getElem?_eq_some_iff.1 hg).1).trans hg, h4⟩
theorem OwnB.mono {w : World} {base base' : Nat} {t : TypeId} {v : Value} {l : List UInt8} (h : OwnB w base t v l) (hb : base' ≤ base) : OwnB w base' t v l := by
  unfold OwnB at *
  obtain ⟨h1, h2⟩ := h
  refine ⟨h1, ?_⟩
  rcases h2 with h2 | ⟨g, cap, cur, e, h3, h4⟩
  · exact .inl h2
  · exact .inr ⟨g, cap, cur, e, Nat.le_trans hb h3, h4⟩
theorem OwnB.setCell {w : World} {base : Nat} {t : TypeId} {v : Value} {l : List UInt8} {g i : Nat} {x : Value} (h : OwnB w base t v l) (hg : g < base) : OwnB (w.setCell ⟨g, i, none⟩ x) base t v l := by
  unfold OwnB at *
  obtain ⟨h1, h2⟩ := h
  refine ⟨h1, ?_⟩
  rcases h2 with h2 | ⟨q, cap, cur, e, h3, hq, h4⟩
  · exact .inl h2
  · exact .inr ⟨q, cap, cur, e, h3, (Below.heap_setCell _ _ _ _ (by show q ≠ g; omega)).trans hq, h4⟩
theorem OwnB.of {w : World} {base : Nat} {t : TypeId} {v : Value} {l k : List UInt8} {n : Nat} {xs : List Value} (h : w.ownsRow base t 1 v n xs) (hn : n = l.length + k.length) (hx : xs = bcells l ++ bcells k) : OwnB w base t v (l ++ k) := by
  subst hn hx
  unfold OwnB
  rw [bcells_app, List.length_append]
  exact h
theorem OwnB.splice {w : World} {base g cap : Nat} {t : TypeId} {l : List UInt8} {cur : List Value} (hg : w.heap[g]? = some (.cells (splice cur 0 (bcells l)).toArray t (0, 0))) (hb : base ≤ g) (hlen : cur.length = cap) (hl : l.length ≤ cap) (hm : cap ≤ maxLen) :
    OwnB w base t (.slice (some ⟨g, 0, none⟩) l.length cap) l := by
  refine ⟨by rw [bcells_len]; simp, .inr ⟨g, cap, _, rfl, hb, hg, hl, hm, ?_, ?_⟩⟩
  · rw [List.size_toArray, length_splice _ _ _ (by rw [bcells_len]; omega)]
    omega
  · rw [Nat.mul_one, show l.length = (bcells l).length from (bcells_len l).symm]
    simp [Go.splice]
theorem OwnB.one (w : World) (b : UInt8) (t : TypeId) : OwnB (w.alloc (.cells #[.int .u8 (b.toNat : Int)] t)) w.heap.size t (.slice (some ⟨w.heap.size, 0, none⟩) 1 1) [b] :=
  ⟨rfl, .inr ⟨w.heap.size, 1, _, rfl, Nat.le_refl _, heap_alloc_new w _, Nat.le_refl _, by unfold maxLen; omega, rfl, rfl⟩⟩
/-- 'append(s, x...)', s owned, x a slice that can be read, nil or not. -/
theorem wp_append_read {P : Program} {w : World} {o : Oper} {a : Act} {K : Act → World → Prop} {Q : Exit → Act → World → Prop} (s x : Operand) (t : TypeId)
    (ho : o.op = .call { callee := .builtin .append, args := #[s, x], argTypes := #[t, t] })
    (base : Nat) (e : TypeId) (i : TypeInfo) (z : Value) (ht : P.underlying t = some (.slice e)) (hi : P.info? e = some i) (hz : i.zero = some z)
    (hsize : i.size = 1) (hby : i.bytes = 1) (hzs : z.cells.size = 1)
    (v : Value) (n : Nat) (xs : List Value) (hs : a.eval s = v) (hown : w.ownsRow base e 1 v n xs) (V : Value) (k : List UInt8) (hx : a.eval x = V) (hr : ReadB w V k)
    (h63 : n + k.length ≤ 140737488355328) (hbase : base ≤ w.heap.size)
    (h : ∀ v' w', w'.ownsRow base e 1 v' (n + k.length) (xs ++ bcells k) → w.grownBy w' v.ownBlock → K (a.put o.dst v') w') : o.wp P a w K Q := by
  obtain ⟨ad, cap, rfl, h0, h2⟩ := hr.out
  cases ad with
  | none =>
    obtain rfl := h0 rfl
    have hk : k = [] := by
      match k, h2 with
      | [], _ => rfl
      | b :: r, h2 =>
        obtain ⟨_, _, e1, _⟩ := h2 0 _ (bcells_get (show 0 < (b :: r).length by simp))
        cases e1
    subst hk
    have hrun := run_append_owned_none (P := P) (w := w) base t o.type e i 1 ht hi v n xs hown
    have hh := h v w (by simpa [bcells] using hown) (World.grownBy.refl w _)
    have hx' : a.eval x = .slice none 0 0 := hx
    unfold Oper.wp
    simp [execOp, ho, resolve, invoke, builtin, hs, hx', hrun, Result.andThen]
    exact hh
  | some ad =>
    refine wp_append_own w s x t ho base e i z 1 1 ht hi hz hsize hby hzs (by omega) v n xs hs hown ad k.length cap (bcells k) hx (by rw [bcells_len, Nat.mul_one]) (fun j u hj => ?_) (bcells_one k) (by unfold maxLen; omega) (by omega) hbase (fun v' w' h3 h4 _ => h v' w' h3 h4)
    obtain ⟨b, o', e1, _, e3⟩ := h2 j u hj
    cases e1
    rw [Addr.add_lit]
    exact e3
theorem wpList_append_read {P : Program} {w : World} {ops : Array Oper} {rest : List Oper} {o : Oper} {a : Act} {Q : Exit → Act → World → Prop} (hgd : o.guard = none) (s x : Operand) (t : TypeId)
    (ho : o.op = .call { callee := .builtin .append, args := #[s, x], argTypes := #[t, t] })
    (base : Nat) (e : TypeId) (i : TypeInfo) (z : Value) (ht : P.underlying t = some (.slice e)) (hi : P.info? e = some i) (hz : i.zero = some z)
    (hsize : i.size = 1) (hby : i.bytes = 1) (hzs : z.cells.size = 1)
    (v : Value) (n : Nat) (xs : List Value) (hs : a.eval s = v) (hown : w.ownsRow base e 1 v n xs) (V : Value) (k : List UInt8) (hx : a.eval x = V) (hr : ReadB w V k)
    (h63 : n + k.length ≤ 140737488355328) (hbase : base ≤ w.heap.size)
    (h : ∀ v' w', w'.ownsRow base e 1 v' (n + k.length) (xs ++ bcells k) → w.grownBy w' v.ownBlock → wpList P ops Q rest (a.put o.dst v') w') : wpList P ops Q (o :: rest) a w :=
  wpList_plain hgd fun _ hK => wp_append_read s x t ho base e i z ht hi hz hsize hby hzs v n xs hs hown V k hx hr h63 hbase fun v' w' h3 h4 => hK _ _ (h v' w' h3 h4)
theorem below_grown {w w' : World} {row : Option Nat} {n : Nat} {w0 : World} (hg : w.grownBy w' row) (hb : Below n w0 w) (hn : n ≤ w.heap.size) (hr : ∀ k, row = some k → n ≤ k) : Below n w0 w' :=
  hb.trans ⟨hg.os, hg.tape, hg.output, hg.size, fun k hk => hg.block k (Nat.lt_of_lt_of_le hk hn) (fun e => by have := hr k e.symm; omega)⟩
end Go.Proofs.Ytkngadbeflepoaa
/- Numbers as bytes, plain; bits.Len64, width. No condition. -/
namespace Go.Proofs.Ytkngadbeflepoaa
open Go.RowKit
open Go.Shelf

/-- How many bytes a number fits in. -/
def wid (n : Nat) : Nat := if n = 0 then 0 else if n < 256 then 1 else if n < 65536 then 2 else if n < 16777216 then 3 else if n < 4294967296 then 4 else if n < 1099511627776 then 5 else if n < 281474976710656 then 6 else if n < 72057594037927936 then 7 else 8
/-- The lowest k bytes of a number, the greatest first. -/
def bigB : Nat → Nat → List UInt8
  | 0, _ => []
  | k + 1, n => UInt8.ofNat (n / 256 ^ k) :: bigB k n
/-- The bytes of a number. -/
def numL (n : Nat) : List UInt8 := if n < 248 then [UInt8.ofNat n] else UInt8.ofNat (247 + wid n) :: bigB (wid n) n
theorem bigB_len : ∀ k n, (bigB k n).length = k
  | 0, _ => rfl
  | k + 1, n => by simp [bigB, bigB_len k n]
theorem wid_le (n : Nat) : wid n ≤ 8 := by
  unfold wid
  repeat' split
  all_goals omega
theorem wid_pos {n : Nat} (h : n ≠ 0) : 1 ≤ wid n := by
  unfold wid
  rw [if_neg h]
  repeat' split
  all_goals omega
theorem numL_len (n : Nat) : (numL n).length ≤ 9 ∧ 1 ≤ (numL n).length := by
  unfold numL
  have := wid_le n
  split
  · simp
  · simp [bigB_len]; omega
theorem len_most (n : Nat) (hn : n < 2 ^ 64) : Lib.bitLen n ≤ 64 := Lib.bitLen_le n 64 (by omega) hn
theorem len_eq (n : Nat) (_ : n ≠ 0) (hn : n < 2 ^ 64) (k : Nat) (h : 2 ^ k ≤ n) (h2 : n < 2 ^ (k + 8)) (hk : k + 8 ≤ 64) : k < Lib.bitLen n ∧ Lib.bitLen n ≤ k + 8 := by
  refine ⟨?_, Lib.bitLen_le n (k + 8) hk h2⟩
  have e := Lib.bitLen_shift k n h hn
  have h3 : n / 2 ^ k ≠ 0 := by
    have : 0 < n / 2 ^ k := Nat.div_pos h (Nat.two_pow_pos k)
    omega
  have h4 := Lib.bitLen_half (n / 2 ^ k) h3 (Nat.lt_of_le_of_lt (Nat.div_le_self _ _) hn)
  omega
theorem len_wid (n : Nat) (hn : n < 18446744073709551616) : (Lib.bitLen n + 7) / 8 = wid n := by
  have h64 : n < 2 ^ 64 := hn
  unfold wid
  by_cases h0 : n = 0
  · subst h0; rw [if_pos rfl]; decide
  rw [if_neg h0]
  repeat' split
  · have := len_eq n h0 h64 0 (by omega) (by omega) (by omega); omega
  · have := len_eq n h0 h64 8 (by omega) (by omega) (by omega); omega
  · have := len_eq n h0 h64 16 (by omega) (by omega) (by omega); omega
  · have := len_eq n h0 h64 24 (by omega) (by omega) (by omega); omega
  · have := len_eq n h0 h64 32 (by omega) (by omega) (by omega); omega
  · have := len_eq n h0 h64 40 (by omega) (by omega) (by omega); omega
  · have := len_eq n h0 h64 48 (by omega) (by omega) (by omega); omega
  · have := len_eq n h0 h64 56 (by omega) (by omega) (by omega); omega
/-- The library's contract of bits.Len64, at this program. -/
def len64_ren : Go.Shelf.Ren := ⟨fun | 129 => 131 | n => n, fun | 3 => 3 | 4 => 4 | 5 => 5 | 9 => 9 | 46 => 179 | 53 => 108 | n => n, fun n => n⟩
theorem len64_lays : Lays.n129 Try.prog len64_ren :=
  { mixed := by kernel_rfl, f129 := by kernel_rfl
    t3 := by kernel_rfl, a3 := fun _ => by kernel_rfl, z3 := fun _ => by kernel_rfl, v3 := fun _ => by kernel_rfl
    t4 := by kernel_rfl, a4 := fun _ => by kernel_rfl, z4 := fun _ => by kernel_rfl, v4 := fun _ => by kernel_rfl
    t5 := by kernel_rfl, a5 := fun _ => by kernel_rfl, z5 := fun _ => by kernel_rfl, v5 := fun _ => by kernel_rfl
    t9 := by kernel_rfl, a9 := fun _ => by kernel_rfl, z9 := fun _ => by kernel_rfl, v9 := fun _ => by kernel_rfl
    t46 := by kernel_rfl, a46 := fun _ => by kernel_rfl, z46 := fun _ => by kernel_rfl, v46 := fun _ => by kernel_rfl
    t53 := by kernel_rfl, a53 := fun _ => by kernel_rfl, z53 := fun _ => by kernel_rfl, v53 := fun _ => by kernel_rfl
  }
theorem len64_any (n : Nat) (hn : n < 18446744073709551616) (w : World) : Calls Try.prog 131 #[.int .u64 (n : Int)] w fun e w' => e = .returned (.int .i64 (Lib.bitLen n : Int)) ∧ w = w' := by
  have h := Any.bits_Len64 len64_lays (n : Int) w (by omega) (by omega)
  rw [Int.toNat_natCast] at h
  exact h.mono fun e w' hh => ⟨hh.1, hh.2.symm⟩
theorem width_any (n : Nat) (hn : n < 18446744073709551616) (w : World) : Calls Try.prog 119 #[.int .u64 (n : Int)] w fun e w' => e = .returned (.int .i64 (wid n : Int)) ∧ w = w' := by
  have H := Lib.hid (len64_any n hn w)
  have hm := len_most n hn
  have hq := len_wid n hn
  rw [← hq]
  clear hq
  generalize Lib.bitLen n = L at *
  go_enter Try.func119, Try.ntmps119
  go_wp2_with ((with_reducible refine H.out.mono ?_); rintro e w' ⟨rfl, rfl⟩)
  go_ret
  refine ⟨congrArg Ending.returned (congrArg (Value.int IntKind.i64) ?_), rfl⟩
  try rw [IntKind.wrap_i64]
  omega
end Go.Proofs.Ytkngadbeflepoaa
/- wire.Num: the bytes of a number behind those of a slice. Condition: the slice's bytes are few. -/
namespace Go.Proofs.Ytkngadbeflepoaa
open Go.RowKit

theorem info8 : (Try.prog.info? 5).map (fun i => (i.zero, i.size, i.bytes)) = some (some (.int .u8 0), 1, 1) := by kernel_rfl
theorem info8s : (Try.prog.info? 5).map (·.size) = some 1 := by kernel_rfl
theorem u8_256 (n : Nat) : ((UInt8.ofNat n).toNat : Int) = (n : Int) % 256 := by simp
set_option maxRecDepth 100000 in
set_option maxHeartbeats 4000000 in
theorem num_any (v : Value) (l : List UInt8) (n : Nat) (hn : n < 18446744073709551616) (hl : l.length ≤ 1099511627776) (w : World) (h : ReadB w v l) :
    Calls Try.prog 70 #[v, .int .u64 (n : Int)] w fun e w' => ∃ v', e = .returned v' ∧ OwnB w' w.heap.size 5 v' (l ++ numL n) ∧ Below w.heap.size w w' := by
  obtain ⟨i0, hi0, hz0, hs0, hb0⟩ := info_parts info8
  obtain ⟨a, cap, rfl, hcap0, hread⟩ := h.out
  have Hr := Lib.hid hread; clear hread
  go_enter Try.func70, Try.ntmps70
  go_upto_region 2 with (refine wpList_make_lc _ rfl _ _ 60 rfl 5 i0 (.int .u8 0) Try.underlying60 hi0 hz0 .i64 .i64 _ _ l.length (l.length + 9) rfl rfl (by simp) (by first | omega | (rw [IntKind.wrap_i64]; omega)) (by omega) (by rw [hb0]; omega) (by unfold maxLen; omega) ?_)
  have hb1 := (Below.refl w.heap.size w).alloc (Nat.le_refl _) (.cells (madeCells #[Value.int .u8 0] (l.length + 9)) 5)
  have hr1 := (ReadB.below (w := w) (v := .slice a l.length cap) (l := l) ⟨a, cap, rfl, hcap0, Hr.out⟩ ((Below.refl w.heap.size w).alloc (Nat.le_refl _) (.cells (madeCells #[Value.int .u8 0] (l.length + 9)) 5))).out
  have hg1 : (w.alloc (.cells (madeCells #[Value.int .u8 0] (l.length + 9)) 5)).heap[w.heap.size]? = some (.cells (madeCells #[Value.int .u8 0] (l.length + 9)).toList.toArray 5 (0, 0)) := heap_alloc_new _ _
  generalize w.alloc (.cells (madeCells #[Value.int .u8 0] (l.length + 9)) 5) = w1 at *
  have hc1 : (madeCells #[Value.int .u8 0] (l.length + 9)).toList.length = l.length + 9 := by simp [size_madeCells]
  generalize (madeCells #[Value.int .u8 0] (l.length + 9)).toList = cur at *
  have Hb1 := Lib.hid hb1; clear hb1
  have Hg1 := Lib.hid hg1; clear hg1
  have Hr1 := Lib.hid hr1; clear hr1
  have Hc1 := Lib.hid hc1; clear hc1 Hr h
  obtain ⟨X, hX⟩ : ∃ X, bcells l = X := ⟨_, rfl⟩
  have HX := Lib.hid hX
  have hpos : 0 < X.length → (some ⟨w.heap.size, 0, none⟩ : Option Addr) = some ⟨w.heap.size, 0, none⟩ ∧ ∃ ad, a = some ad ∧ ∀ j u, X[j]? = some u → w1.cell? (ad.add j) = some u := by
    intro hp
    obtain ⟨a', cap', e, _, h2⟩ := Hr1.out
    cases e
    rw [← hX] at hp ⊢
    obtain ⟨b, o, e1, _, _⟩ := h2 0 _ (List.getElem?_eq_getElem hp)
    refine ⟨rfl, ⟨b, o, none⟩, e1, fun j u hj => ?_⟩
    obtain ⟨b', o', e2, _, e3⟩ := h2 j u hj
    rw [e1] at e2
    cases e2
    rw [Addr.add_lit]
    exact e3
  have Hpos := Lib.hid hpos; clear hpos
  have Hlen := Lib.hid (show X.length = Nat.min l.length l.length by rw [← hX, bcells_len]; exact (Nat.min_self _).symm)
  have Hfit := Lib.hid (show 0 + X.length ≤ cur.length by rw [← hX, bcells_len, Hc1.out]; omega)
  have Hone := Lib.hid (show ∀ u ∈ X, u.oneCell' = true by rw [← hX]; exact bcells_one l)
  clear hX Hr1
  go_upto_region 3 with (with_reducible refine wpList_copy_splice rfl (.tmp 14) (.tmp 15) 60 60 rfl 5 Try.underlying60 info8s _ _ _ _ _ _ rfl rfl w.heap.size 0 cur 5 Hg1.out X Hlen.out Hpos.out Hfit.out Hone.out w.heap.size w Hb1.out (Nat.le_refl _) ?_; intro w2 hg2 hb2; have Hb2 := Lib.hid hb2; clear hb2)
  have hown : OwnB w2 w.heap.size 5 (.slice (some ⟨w.heap.size, 0, none⟩) l.length (l.length + 9)) l := by
    have hg := hg2.out
    rw [← HX.out] at hg
    exact OwnB.splice hg (Nat.le_refl _) Hc1.out (by omega) (by unfold maxLen; omega)
  have Hown := Lib.hid hown; clear hown
  have Hlt := Lib.hid (show w.heap.size ≤ w2.heap.size from Hb2.out.size)
  clear hg2 Hg1 Hb1 Hpos Hlen Hfit Hone Hc1 HX
  by_cases h248 : n < 248
  · have h248' : (n : Int) < 248 := by omega
    have hnum : numL n = [UInt8.ofNat n] := by unfold numL; rw [if_pos h248]
    have Hnum := Lib.hid hnum; clear hnum
    have hmod : (n : Int) % 256 = (n : Int) := by omega
    have hnews : bcells [UInt8.ofNat n] = [.int .u8 (n : Int)] := by simp [bcells]; omega
    have Hnews := Lib.hid hnews; clear hnews
    go_wp2_with (at_builtin; refine wpList_append_fits _ rfl _ _ 60 rfl w.heap.size 5 i0 1 Try.underlying60 hi0 hs0 w.heap.size l.length (l.length + 9) (bcells l) rfl (World.ownsRow.alloc Hown.out _) ⟨w2.heap.size, 0, none⟩ 1 1 (bcells [UInt8.ofNat n]) rfl rfl (by rw [Hnews.out]; exact cells_one _ _ _) (bcells_one _) (by omega) ?_; intro w3 ho3 hg3; have Hg3 := Lib.hid hg3; clear hg3; have Ho3 := Lib.hid ho3; clear ho3)
    go_ret
    refine ⟨_, rfl, ?_, ?_⟩
    · rw [Hnum.out]
      exact OwnB.of Ho3.out rfl rfl
    · exact below_grown Hg3.out (Hb2.out.alloc Hlt.out _) (by simp; have := Hlt.out; omega) (fun k hk => by cases hk; exact Nat.le_refl _)
  · have h248' : ¬ (n : Int) < 248 := by omega
    have Hw := Lib.hid (fun y : World => width_any n hn y)
    have hw8 := wid_le n
    have hw1 := wid_pos (n := n) (by omega)
    have hnum : numL n = UInt8.ofNat (247 + wid n) :: bigB (wid n) n := by unfold numL; rw [if_neg h248]
    have Hnum := Lib.hid hnum; clear hnum
    obtain ⟨k, hk⟩ : ∃ k, wid n = k := ⟨_, rfl⟩
    rw [hk] at Hw Hnum hw8 hw1
    clear hk
    have hmod : (247 + (k : Int)) % 256 = 247 + (k : Int) := by omega
    have hnews : bcells [UInt8.ofNat (247 + k)] = [.int .u8 (247 + (k : Int))] := by simp [bcells]; omega
    have Hnews := Lib.hid hnews; clear hnews
    go_upto_region 7 with (first
      | ((with_reducible refine (Hw.out _).mono ?_); rintro e w' ⟨rfl, rfl⟩)
      | (at_builtin; refine wpList_append_fits _ rfl _ _ 60 rfl w.heap.size 5 i0 1 Try.underlying60 hi0 hs0 w.heap.size l.length (l.length + 9) (bcells l) rfl (World.ownsRow.alloc Hown.out _) ⟨w2.heap.size, 0, none⟩ 1 1 (bcells [UInt8.ofNat (247 + k)]) rfl rfl (by rw [Hnews.out]; exact cells_one _ _ _) (bcells_one _) (by omega) ?_; intro w3 ho3 hg3; have Hg3 := Lib.hid hg3; clear hg3; have Ho3 := Lib.hid ho3; clear ho3))
    have hb3 := below_grown Hg3.out (Hb2.out.alloc Hlt.out _) (by simp; have := Hlt.out; omega) (fun k hk => by cases hk; exact Nat.le_refl _)
    have ho3 : OwnB w3 w.heap.size 5 (.slice (some ⟨w.heap.size, 0, none⟩) (l.length + 1) (l.length + 9)) (l ++ [UInt8.ofNat (247 + k)]) := OwnB.of Ho3.out rfl rfl
    clear Ho3 Hg3 Hown Hb2 Hlt Hnews
    have Hb3 := Lib.hid hb3; clear hb3
    have Ho3 := Lib.hid ho3; clear ho3
    go_wp2_with fail
    go_loopw [5, 7] (fun s5 s7 wr => ∃ (j : Nat) (q : List UInt8), j ≤ k ∧ s7 = .int .i64 ((j : Int) - 1) ∧ s5 = .slice (some ⟨w.heap.size, 0, none⟩) q.length (l.length + 9) ∧ q.length + j = l.length + 1 + k ∧ OwnB wr w.heap.size 5 s5 q ∧ q ++ bigB j n = l ++ numL n ∧ Below w.heap.size w wr) (fun _ s7 _ => (intOf s7 + 1).toNat)
    case atStart => exact ⟨k, l ++ [UInt8.ofNat (247 + k)], Nat.le_refl _, rfl, by simp, by simp, Ho3.out, by rw [Hnum.out]; simp, Hb3.out⟩
    case round =>
      clear Ho3 Hb3
      obtain ⟨j, q, hj, rfl, rfl, hql, ho, hq, hb⟩ := hrel
      have Ho := Lib.hid ho; clear ho
      have Hq := Lib.hid hq; clear hq
      have Hb := Lib.hid hb; clear hb
      match j with
      | 0 =>
        go_wp2_with fail
        go_ret
        refine ⟨_, rfl, ?_, Hb.out⟩
        have e := Hq.out
        simp only [bigB, List.append_nil] at e
        rw [← e]
        exact Ho.out
      | i + 1 =>
        have hi : ((i + 1 : Nat) : Int) - 1 = (i : Int) := by omega
        rw [hi]
        clear hi
        have hi0' : (0 : Int) ≤ (i : Int) := by omega
        have hi7 : (i : Int) ≤ 7 := by omega
        have hnews : bcells [UInt8.ofNat (n / 256 ^ i)] = [.int .u8 ((n : Int) / 2 ^ (8 * i) % 256)] := by
          have e : (2 : Nat) ^ (8 * i) = 256 ^ i := by rw [Nat.pow_mul]
          simp [bcells, ← e]
        have Hnews := Lib.hid hnews; clear hnews
        have Hlt := Lib.hid (show w.heap.size ≤ wr.heap.size from Hb.out.size)
        go_wp2_with (at_builtin; refine wpList_append_fits _ rfl _ _ 60 rfl w.heap.size 5 i0 1 Try.underlying60 hi0 hs0 w.heap.size q.length (l.length + 9) (bcells q) rfl (World.ownsRow.alloc Ho.out _) ⟨wr.heap.size, 0, none⟩ 1 1 (bcells [UInt8.ofNat (n / 256 ^ i)]) rfl rfl (by rw [Hnews.out]; exact cells_one _ _ _) (bcells_one _) (by omega) ?_; intro w4 ho4 hg4; have Hg4 := Lib.hid hg4; clear hg4; have Ho4 := Lib.hid ho4; clear ho4)
        go_roundw
        case rel =>
          refine ⟨i, q ++ [UInt8.ofNat (n / 256 ^ i)], by omega, rfl, by simp, by rw [List.length_append]; show q.length + 1 + i = _; omega, OwnB.of Ho4.out rfl rfl, ?_, below_grown Hg4.out (Hb.out.alloc Hlt.out _) (by simp; have := Hlt.out; omega) (fun k hk => by cases hk; exact Nat.le_refl _)⟩
          rw [← Hq.out]
          simp [bigB]
        case measure => simp [intOf]
end Go.Proofs.Ytkngadbeflepoaa
/- wire.Str: the bytes of a text behind those of a slice. Condition: they are few. -/
namespace Go.Proofs.Ytkngadbeflepoaa
open Go.RowKit

theorem str_len (s : ByteArray) : s.data.toList.length = s.size := by rw [Array.length_toList]; rfl
/-- The bytes of a text. -/
def strL (s : ByteArray) : List UInt8 := numL s.size ++ s.data.toList
theorem strL_len (s : ByteArray) : (strL s).length ≤ s.size + 9 := by
  have h := (numL_len s.size).1
  have e := str_len s
  unfold strL
  rw [List.length_append, e]
  omega
set_option maxRecDepth 100000 in
set_option maxHeartbeats 4000000 in
theorem str_any (v : Value) (l : List UInt8) (s : ByteArray) (hl : l.length + s.size ≤ 1099511627776) (w : World) (h : ReadB w v l) :
    Calls Try.prog 71 #[v, .string s] w fun e w' => ∃ v', e = .returned v' ∧ OwnB w' w.heap.size 5 v' (l ++ strL s) ∧ Below w.heap.size w w' := by
  obtain ⟨i0, hi0, hz0, hs0, hb0⟩ := info_parts info8
  have Hn := Lib.hid (num_any v l s.size (by omega) (by omega) w h); clear h
  have hn9 := (numL_len s.size).1
  have hlen := str_len s
  go_enter Try.func71, Try.ntmps71
  go_wp2_with (first
    | ((with_reducible refine Hn.out.mono ?_); rintro e w1 ⟨v1, rfl, ho1, hb1⟩; have Ho1 := Lib.hid ho1; clear ho1; have Hb1 := Lib.hid hb1; clear hb1)
    | (at_builtin; refine Lib.wpList_append_own_string _ rfl _ _ 60 9 rfl w.heap.size 5 i0 Try.underlying60 Try.underlying9 hi0 hz0 hs0 hb0 _ _ _ rfl Ho1.out s rfl (by rw [List.length_append]; unfold maxLen; omega) (by rw [List.length_append]; omega) Hb1.out.size ?_; intro v2 w2 ho2 hg2 hn2; have Ho2 := Lib.hid ho2; clear ho2; have Hg2 := Lib.hid hg2; clear hg2 hn2))
  go_ret
  refine ⟨_, rfl, ?_, ?_⟩
  · unfold strL
    rw [← List.append_assoc]
    exact OwnB.of Ho2.out (by rw [hlen]) (by rw [bcells_str])
  · exact below_grown Hg2.out Hb1.out Hb1.out.size (fun k hk => (World.ownsRow.lt Ho1.out k hk).1)
end Go.Proofs.Ytkngadbeflepoaa
