/- Slices of one-cell elements, opened; of bytes. Over any program. No condition. -/
import Derived.Test.YtkngadbeflepoaaMMachinePlays14
import Derived.Test.YtkngadbeflepoaaMMachinePlays21
import Derived.Test.YtkngadbeflepoaaMMachinePlays40
import Derived.Test.YtkngadbeflepoaaMMachinePlays42
namespace Go.Proofs.Ytkngadbeflepoaa
open Go.ChangeShapes Go.WideShapes Go.Deep Go.RowKit

section
variable {H : Type} {enc : TypeId × Value → H} {P : Program} {w : World} {base : Nat} {spare : Nat → Bool} {held : Bool}
theorem ones_open {α : Type} [Inhabited α] (one : α → Value) {t e : TypeId} {a : Option Addr} {len cap : Nat} {d : DataW H} {pl : List MemPlace} (ht : P.underlying t = some (.slice e)) (hC : P.cellsOf e = 1)
    (hx : ∀ (v : Value) (y : DataW H × List MemPlace) (n : Nat), DataW.trod enc P w base spare held n e [v] = some y → ∃ x : α, v = one x)
    (h : DataW.Trod enc P w base spare held t (.slice a len cap) d pl) : ∃ z : List α, SliceAt 1 (fun x => [one x]) w a len z := by
  obtain ⟨m, hm⟩ := h
  rcases open_slice ht hm with ⟨h0, _⟩ | ⟨p, ln, cp, mm, n, D, Pl, hcs, hb, hl, hmx, hmm, _, hi⟩
  · have h0' : [Value.slice a len cap] = [Value.slice none 0 0] := h0
    simp only [List.cons.injEq, Value.slice.injEq, and_true] at h0'
    obtain ⟨rfl, rfl, rfl⟩ := h0'
    exact ⟨[], rfl, Nat.zero_le _, fun i x hx => by simp at hx⟩
  · have h0' : [Value.slice a len cap] = [Value.slice (some p) ln cp] := hcs
    simp only [List.cons.injEq, Value.slice.injEq, and_true] at h0'
    obtain ⟨rfl, rfl, rfl⟩ := h0'
    have hlm : len ≤ mm := by rw [hmm]; split <;> omega
    obtain ⟨g, hg⟩ := choose_lt (n := len) (p := fun i (x : α) => w.cells? base (p.add (i * 1)) 1 = some [one x]) (fun i hil => by
      obtain ⟨cs', h1, h2⟩ := hi i (by omega)
      rw [hC] at h1
      obtain ⟨_, hcl, _⟩ := World.cells?_some h1
      match cs', hcl with
      | [v], _ =>
        obtain ⟨x, rfl⟩ := hx v _ _ h2
        exact ⟨x, h1⟩)
    refine ⟨(List.range len).map g, by simp, by omega, fun i x hix => ?_⟩
    have hil : i < len := by
      have := (List.getElem?_eq_some_iff.1 hix).1
      simpa using this
    have hgx : g i = x := by simpa [hil] using hix
    have h1 := hg i hil
    rw [hgx] at h1
    obtain ⟨_, _, hcell⟩ := World.cells?_some h1
    obtain ⟨b, o, sp⟩ := p
    have g1 := hg 0 (by omega)
    obtain ⟨_, _, gcell⟩ := World.cells?_some g1
    have h00 := gcell 0 (by omega)
    simp only [List.getElem?_cons_zero] at h00
    have hspot : sp = none := by simpa [Addr.add] using World.cell?_spot h00
    subst hspot
    have hlt := World.block_lt_of_cell? _ _ h00
    refine ⟨b, o, rfl, ?_, fun j v hj => ?_⟩
    · simpa [Addr.add] using hlt
    · have hjl : j < 1 := by
        have := (List.getElem?_eq_some_iff.1 hj).1
        simpa using this
      have := hcell j hjl
      rw [add_add, hj] at this
      rw [← this, add_plain]
end
/-- The elements of a []uint8. -/
abbrev U8sAt := SliceAt 1 (fun x : BitVec 8 => [Value.int .u8 (x.toNat : Int)])
theorem u8s_cell {w : World} {a : Option Addr} {len : Nat} {z : List (BitVec 8)} (h : U8sAt w a len z) {i : Nat} (hi : i < len) :
    ∃ b o, a = some ⟨b, o, none⟩ ∧ b < w.heap.size ∧ ∀ y, Below w.heap.size w y → y.cell? ⟨b, o + i, none⟩ = some (.int .u8 ((z.getD i default).toNat : Int)) := by
  have hl := h.hlen
  have hz : z[i]? = some (z.getD i default) := by simp [List.getD, List.getElem?_eq_getElem (show i < z.length by omega)]
  obtain ⟨b, o, h1, h2, h3⟩ := h.cells i _ hz
  refine ⟨b, o, h1, h2, fun y hy => (hy.cell (p := ⟨b, _, none⟩) h2).trans ?_⟩
  have := h3 0 _ rfl
  rwa [show o + (i * 1 + 0) = o + i by omega] at this
end Go.Proofs.Ytkngadbeflepoaa
/- Machines, plain: what stays true of a machine behind commands. No condition. -/
namespace Go.Proofs.Ytkngadbeflepoaa
open Go.RowKit

theorem u8s_open {H : Type} {enc : TypeId × Value → H} {w : World} {base : Nat} {spare : Nat → Bool} {held : Bool} {a : Option Addr} {len cap : Nat} {d : DataW H} {pl : List MemPlace}
    (h : DataW.Trod enc Try.prog w base spare held 60 (.slice a len cap) d pl) : ∃ z : List (BitVec 8), U8sAt w a len z :=
  ones_open (fun x : BitVec 8 => Value.int .u8 (x.toNat : Int)) Try.underlying60 (by kernel_rfl) (fun v y n hv => by
    obtain ⟨m, q, _, f⟩ := DataW.trod_int Try.underlying5 hv
    obtain ⟨x, rfl⟩ := tr_u8 f
    simp only [List.cons.injEq, and_true] at q
    exact ⟨x, q⟩) h
structure MacOk (M : MacV) : Prop where
  all : M.all < 256
  kv : KvInv M.sh
theorem both_lt (x y : Nat) : bothS x y < 256 := by
  have : bothS x y ≤ 127 := Nat.and_le_right
  omega
theorem macOk_new (al fi : Nat) : MacOk ⟨bothS al al, bothS fi fi, tabNone, .nil⟩ := ⟨both_lt al al, KvInv.nil⟩
theorem macFresh_ok {M : MacV} (h : MacOk M) (c : CmdV) : MacOk (macFresh M c).1 := by
  unfold macFresh
  split
  · split
    · exact ⟨h.all, h.kv⟩
    · exact h
  · exact ⟨h.all, (kv_says h.kv c).1⟩
theorem macDo_ok {M : MacV} (h : MacOk M) (c : CmdV) : MacOk (macDo M c).m := by
  unfold macDo
  split
  · split
    · exact ⟨(macFresh_ok h c).all, (macFresh_ok h c).kv⟩
    · exact h
  · exact h
theorem macDo_not {M : MacV} {c : CmdV} (h : (macDo M c).fresh = false) : (macDo M c).m = M := by
  unfold macDo at *
  split
  · rename_i h1
    rw [if_pos h1] at h
    split
    · rename_i h2
      rw [if_pos h2] at h
      cases h
    · rfl
  · rfl
/-- What lies there in a round of MachineOnce, behind both machines' steps. -/
structure OncePost (y w : World) (gm gn ga ra gb rb : Nat) (M : MacV) (P Q : Option Addr) (M2 : MacV) (P1 Q1 : Option Addr) (code : Nat) (text : ByteArray) (T X Y : Tr) : Prop where
  m : MacAt y gm M P
  n : MacAt y gn M Q
  a : MacAt y ga M2 P1
  r : RepAt y ra code text
  b : MacAt y gb M2 Q1
  s : RepAt y rb code text
  tm : TreeAt y T
  ta : TreeAt y X
  tb : TreeAt y Y
  ea : X.ptr = P1 ∧ X.sh = M2.sh
  eb : Y.ptr = Q1 ∧ Y.sh = M2.sh
  bel : Below w.heap.size w y
  lo : w.heap.size ≤ gm ∧ gm < gn ∧ gn < ga ∧ gn < ra ∧ ra ≠ ga ∧ ga < gb ∧ ra < gb ∧ ga < rb ∧ ra < rb ∧ rb ≠ gb
theorem OncePost.below {y w y' : World} {gm gn ga ra gb rb : Nat} {M : MacV} {P Q : Option Addr} {M2 : MacV} {P1 Q1 : Option Addr} {code : Nat} {text : ByteArray} {T X Y : Tr} (h : OncePost y w gm gn ga ra gb rb M P Q M2 P1 Q1 code text T X Y) (hb : Below y.heap.size y y') :
    OncePost y' w gm gn ga ra gb rb M P Q M2 P1 Q1 code text T X Y :=
  ⟨h.m.below hb, h.n.below hb, h.a.below hb, h.r.below hb, h.b.below hb, h.s.below hb, h.tm.below hb, h.ta.below hb, h.tb.below hb, h.ea, h.eb, h.bel.trans (hb.mono h.bel.size), h.lo⟩
/-- b's variable holds another machine of the same values. -/
theorem once_set {y w : World} {gm gn ga ra gb rb : Nat} {M : MacV} {P Q : Option Addr} {M2 : MacV} {P1 Q1 : Option Addr} {code : Nat} {text : ByteArray} {T X Y Z : Tr} {Z1 : Option Addr} (h : OncePost y w gm gn ga ra gb rb M P Q M2 P1 Q1 code text T X Y) (hz : TreeAt y Z) (hp : Z.ptr = Z1) (hs : Z.sh = M2.sh) :
    OncePost (rowSt y gb 0 (macCells M2 Z1)) w gm gn ga ra gb rb M P Q M2 P1 Z1 code text T X Z := by
  obtain ⟨h1, h2, h3, h4⟩ := ma_st h.b M2 Z1
  obtain ⟨l1, l2, l3, l4, l5, l6, l7, l8, l9, l10⟩ := h.lo
  exact ⟨(h2 _ (by omega)).trans h.m, (h2 _ (by omega)).trans h.n, (h2 _ (by omega)).trans h.a, (h2 _ (by omega)).trans h.r, h1, (h2 _ (by omega)).trans h.s, h4 _ h.tm, h4 _ h.ta, h4 _ hz, h.ea, ⟨hp, hs⟩,
    h3 _ _ h.bel (by omega), h.lo⟩
/-- Behind the store of m. -/
structure OnceEnd (y w : World) (gm gn gb : Nat) (M : MacV) (P Q : Option Addr) (M2 : MacV) (P1 Q1 : Option Addr) (X Y : Tr) : Prop where
  m : MacAt y gm M2 P
  n : MacAt y gn M Q
  b : MacAt y gb M2 Q1
  ta : TreeAt y X
  tb : TreeAt y Y
  ea : X.ptr = P1 ∧ X.sh = M2.sh
  eb : Y.ptr = Q1 ∧ Y.sh = M2.sh
  bel : Below w.heap.size w y
  lo : w.heap.size ≤ gm ∧ gm < gn
structure OnceAll (y w : World) (gm gn : Nat) (M2 : MacV) (P Q P1 : Option Addr) (X Y : Tr) : Prop where
  m : MacAt y gm M2 P
  n : MacAt y gn M2 Q
  ta : TreeAt y X
  tb : TreeAt y Y
  ea : X.ptr = P1 ∧ X.sh = M2.sh
  eb : Y.ptr = Q ∧ Y.sh = M2.sh
  bel : Below w.heap.size w y
/-- m's variable holds a's machine; then n's holds b's. -/
theorem once_setM {y w : World} {gm gn ga ra gb rb : Nat} {M : MacV} {P Q : Option Addr} {M2 : MacV} {P1 Q1 : Option Addr} {code : Nat} {text : ByteArray} {T X Y : Tr} (h : OncePost y w gm gn ga ra gb rb M P Q M2 P1 Q1 code text T X Y) :
    OnceEnd (rowSt y gm 0 (macCells M2 P1)) w gm gn gb M P1 Q M2 P1 Q1 X Y := by
  obtain ⟨h1, h2, h3, h4⟩ := ma_st h.m M2 P1
  obtain ⟨l1, l2, l3, l4, l5, l6, l7, l8, l9, l10⟩ := h.lo
  exact ⟨h1, (h2 _ (by omega)).trans h.n, (h2 _ (by omega)).trans h.b, h4 _ h.ta, h4 _ h.tb, h.ea, h.eb, h3 _ _ h.bel l1, by omega, by omega⟩
theorem once_setN {y w : World} {gm gn gb : Nat} {M : MacV} {P Q : Option Addr} {M2 : MacV} {P1 Q1 : Option Addr} {X Y : Tr} (h : OnceEnd y w gm gn gb M P Q M2 P1 Q1 X Y) :
    OnceAll (rowSt y gn 0 (macCells M2 Q1)) w gm gn M2 P Q1 P1 X Y := by
  obtain ⟨h1, h2, h3, h4⟩ := ma_st h.n M2 Q1
  obtain ⟨l1, l2⟩ := h.lo
  exact ⟨(h2 _ (by omega)).trans h.m, h1, h4 _ h.ta, h4 _ h.tb, h.ea, h.eb, h3 _ _ h.bel (by omega)⟩
end Go.Proofs.Ytkngadbeflepoaa
/- Machines, plain: what stays true of a machine's parts behind commands: a machine whose bytes can be told. No condition. -/
namespace Go.Proofs.Ytkngadbeflepoaa
open Go.RowKit

/-- A client's last command, as a machine has it. -/
structure LastFit (x : LastV) : Prop where
  code : x.code ≤ 3
  text : x.text.size ≤ 64
  zero : x.seq.toNat = 0 → x = lastNone
/-- A machine, but for its members. -/
structure MacFit (M : MacV) : Prop where
  all : M.all < 128
  mem : M.mem < 128
  tab : ∀ n, LastFit (M.tab.at_ n)
  kv : KvInv M.sh
  key : ∀ p ∈ M.sh.kv, 1 ≤ p.1.size ∧ p.1.size ≤ 16
theorem lastFit_none : LastFit lastNone := ⟨by decide, by decide, fun _ => rfl⟩
theorem at_none (n : Nat) : tabNone.at_ n = lastNone := by
  unfold TabV.at_ tabNone
  split
  · rfl
  · split
    · rfl
    · split <;> rfl
theorem both_small (x y : Nat) : bothS x y < 128 := by
  have : bothS x y ≤ 127 := Nat.and_le_right
  omega
theorem macFit_none : MacFit macNone := ⟨by decide, by decide, fun n => by show LastFit (tabNone.at_ n); rw [at_none]; exact lastFit_none, KvInv.nil, fun p hp => by simp [macNone, Sh.kv] at hp⟩
theorem macFit_new (al fi : Nat) : MacFit (newM al fi) := by
  unfold newM
  split
  · exact ⟨both_small _ _, both_small _ _, fun n => by show LastFit (tabNone.at_ n); rw [at_none]; exact lastFit_none, KvInv.nil, fun p hp => by simp [Sh.kv] at hp⟩
  · exact macFit_none
theorem may_key1 {c : CmdV} (h : mayC c = true) (hk : c.kind = 2 ∨ c.kind = 4) : 1 ≤ c.key.size := by
  unfold mayC at h
  simp only [Bool.and_eq_true, decide_eq_true_eq] at h
  have h1 := h.1.1.1.1.2
  rcases hk with e | e <;> (rw [e] at h1; simpa [hasOf, mostOf] using h1)
theorem put_mem {S : Sh} (h : Asc S.kv) {k v : ByteArray} {p : ByteArray × ByteArray} (hp : p ∈ (putSh k v S (S.look k)).kv) : p = (k, v) ∨ p ∈ S.kv := by
  rw [put_kv' h] at hp
  exact ins_mem hp
theorem del_mem {S : Sh} (h : Asc S.kv) {k : ByteArray} {p : ByteArray × ByteArray} (hp : p ∈ (delSh k S (S.look k)).kv) : p ∈ S.kv := by
  rw [del_kv' h] at hp
  exact (rm_mem hp).1
theorem kvDo_mem {S : Sh} (h : Asc S.kv) (c : CmdV) {p : ByteArray × ByteArray} (hp : p ∈ (kvDo S c).sh.kv) : p ∈ S.kv ∨ (p = (c.key, c.fresh) ∧ 1 ≤ c.key.size ∧ c.key.size ≤ 16) := by
  unfold kvDo at hp
  by_cases hm : mayC c = true
  · rw [if_pos hm] at hp
    have hk16 := may_key hm
    by_cases h1 : c.kind = 1
    · rw [if_pos h1] at hp
      unfold kvGet at hp
      cases hl : S.look c.key with
      | none => rw [hl] at hp; exact .inl hp
      | some v => rw [hl] at hp; exact .inl hp
    rw [if_neg h1] at hp
    by_cases h2 : c.kind = 2
    · rw [if_pos h2] at hp
      have hk1 := may_key1 hm (.inl h2)
      unfold kvPut at hp
      have hq := @put_mem S h c.key c.fresh p
      cases hl : S.look c.key with
      | none =>
        rw [hl] at hp hq
        simp only at hp
        split at hp
        · exact .inl hp
        · exact (hq hp).elim (fun e => .inr ⟨e, hk1, hk16⟩) .inl
      | some v =>
        rw [hl] at hp hq
        exact (hq hp).elim (fun e => .inr ⟨e, hk1, hk16⟩) .inl
    rw [if_neg h2] at hp
    by_cases h3 : c.kind = 3
    · rw [if_pos h3] at hp
      unfold kvDel at hp
      have hq := @del_mem S h c.key p
      cases hl : S.look c.key with
      | none => rw [hl] at hp; exact .inl hp
      | some v => rw [hl] at hp hq; exact .inl (hq hp)
    rw [if_neg h3] at hp
    by_cases h4 : c.kind = 4
    · rw [if_pos h4] at hp
      have hk1 := may_key1 hm (.inr h4)
      unfold kvCas at hp
      have hq := @put_mem S h c.key c.fresh p
      cases hl : S.look c.key with
      | none => rw [hl] at hp; exact .inl hp
      | some v =>
        rw [hl] at hp hq
        simp only at hp
        split at hp
        · exact (hq hp).elim (fun e => .inr ⟨e, hk1, hk16⟩) .inl
        · exact .inl hp
    rw [if_neg h4] at hp
    exact .inl hp
  · rw [if_neg hm] at hp
    exact .inl hp
theorem kvDo_says {S : Sh} (h : KvInv S) (c : CmdV) : (kvDo S c).code ≤ 2 ∧ (kvDo S c).text.size ≤ 64 := by
  have hs := (kv_says h c).2
  have he : ByteArray.empty.size ≤ 64 := by decide
  cases hs with
  | miss _ _ h1 h2 => rw [h1, h2]; exact ⟨by decide, he⟩
  | no _ h1 h2 => rw [h1]; exact ⟨by decide, h2⟩
  | got _ h1 h2 h3 => rw [h2]; exact ⟨by decide, h.look h3⟩
  | put _ h1 h2 h3 => rw [h1, h2]; exact ⟨by decide, he⟩
  | del _ h1 h2 h3 => rw [h1]; exact ⟨by decide, h.look h2⟩
  | cas _ h1 h2 h3 h4 => rw [h1, h2]; exact ⟨by decide, he⟩
theorem macFresh_fit {M : MacV} (h : MacFit M) (c : CmdV) : MacFit (macFresh M c).1 ∧ (macFresh M c).2.1 ≤ 3 ∧ (macFresh M c).2.2.size ≤ 64 := by
  have he : ByteArray.empty.size ≤ 64 := by decide
  unfold macFresh
  split
  · split
    · exact ⟨⟨h.all, both_small _ _, h.tab, h.kv, h.key⟩, Nat.zero_le _, he⟩
    · exact ⟨h, (show 2 ≤ 3 by omega), he⟩
  · obtain ⟨h1, h2⟩ := kvDo_says h.kv c
    exact ⟨⟨h.all, h.mem, h.tab, (kv_says h.kv c).1, fun p hp => (kvDo_mem h.kv.asc c hp).elim (h.key p) (fun e => by rw [e.1]; exact e.2)⟩, Nat.le_succ_of_le h1, h2⟩
theorem TabV.put_any {t : TabV} {n : Nat} (x : LastV) (m : Nat) : (t.put n x).at_ m = x ∨ (t.put n x).at_ m = t.at_ m := by
  unfold TabV.put TabV.at_
  by_cases h0 : n = 0 <;> by_cases h1 : n = 1 <;> by_cases h2 : n = 2 <;> by_cases g0 : m = 0 <;> by_cases g1 : m = 1 <;> by_cases g2 : m = 2 <;> simp [h0, h1, h2, g0, g1, g2] <;> omega
theorem macDo_fit {M : MacV} (h : MacFit M) (c : CmdV) : MacFit (macDo M c).m := by
  unfold macDo
  by_cases hm : mayC c = true
  · rw [if_pos hm]
    split
    · obtain ⟨h1, h2, h3⟩ := macFresh_fit h c
      have hsq : c.seq.toNat ≠ 0 := by
        unfold mayC at hm
        simp only [Bool.and_eq_true, decide_eq_true_eq] at hm
        exact hm.1.1.1.1.1.2
      refine ⟨h1.all, h1.mem, fun n => ?_, h1.kv, h1.key⟩
      show LastFit ((M.tab.put c.client.toNat ⟨c.seq, (macFresh M c).2.1, (macFresh M c).2.2⟩).at_ n)
      rcases TabV.put_any (t := M.tab) (n := c.client.toNat) ⟨c.seq, (macFresh M c).2.1, (macFresh M c).2.2⟩ n with e | e
      · rw [e]; exact ⟨h2, h3, fun e0 => absurd e0 hsq⟩
      · rw [e]; exact h.tab n
    · exact h
  · rw [if_neg hm]; exact h
theorem MacFit.ok {M : MacV} (h : MacFit M) : MacOk M := ⟨by have := h.all; omega, h.kv⟩
end Go.Proofs.Ytkngadbeflepoaa
