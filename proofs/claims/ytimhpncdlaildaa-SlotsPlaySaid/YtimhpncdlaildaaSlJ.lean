/- The law SlotsOnce. No condition. -/
import Derived.Test.YtimhpncdlaildaaSlI
namespace Go.Proofs.Ytimhpncdlaildaa
open Go.RowKit

theorem look_vl {w : World} {M : Nat} {l : List (BitVec 64 × ByteArray)} (h : MapAt kSlot w M (vl l)) (slot : BitVec 64) :
    (Instr.lookup 42 (.map (some M)) (.int .u64 (slot.toNat : Int)) true).run Try.prog w = .ok (.tuple #[.string ((mget l slot).getD ByteArray.empty), .bool (mget l slot).isSome]) w := by
  have h1 := run_lookup_at kSlot (P := Try.prog) h Try.underlying42 (zStr w) slot true
  rw [vl_get] at h1
  have e1 : (Option.map Value.string (mget l slot)).getD (.string ByteArray.empty) = .string ((mget l slot).getD ByteArray.empty) := by cases mget l slot <;> rfl
  have e2 : (Option.map Value.string (mget l slot)).isSome = (mget l slot).isSome := by cases mget l slot <;> rfl
  rw [e1, e2] at h1
  exact h1

/-- An act that lies in a block of its own. -/
def ActAt (w : World) (b : Nat) (x : SAct) : Prop := w.heap[b]? = some (.cells (actCells x).toArray 31 (0, 0))
theorem ActAt.lt {w : World} {b : Nat} {x : SAct} (h : ActAt w b x) : b < w.heap.size := (Array.getElem?_eq_some_iff.1 h).1
theorem ActAt.of_block {w w' : World} {b : Nat} {x : SAct} (h : ActAt w b x) (hb : w'.heap[b]? = w.heap[b]?) : ActAt w' b x := hb.trans h
theorem ActAt.new (w : World) (x : SAct) : ActAt (w.alloc (.cells (actCells x).toArray 31)) w.heap.size x := heap_alloc_new w _
theorem ActAt.cells {w : World} {b : Nat} {x : SAct} (h : ActAt w b x) : w.cell? ⟨b, 0, none⟩ = some (.int .u8 (x.act.toNat : Int)) ∧ w.cell? ⟨b, 1, none⟩ = some (.int .u64 (x.slot.toNat : Int)) ∧ w.cell? ⟨b, 2, none⟩ = some (.string x.val) :=
  ⟨cell_of_row _ _ _ _ _ _ h, cell_of_row _ _ _ _ _ _ h, cell_of_row _ _ _ _ _ _ h⟩

/-- SlotsOnce's state: the row, and its own map, which has what the row has above the base. -/
structure Once (w0 w : World) (R B M : Nat) (s : SRow) (f : List (BitVec 64 × ByteArray)) (n : Nat) : Prop where
  row : RowIn w0 w R B s
  map : MapAt kSlot w M (vl f)
  hM : w0.heap.size ≤ M
  MR : M ≠ R
  MB : M ≠ B
  fit : Fit s n
  same : ∀ k : BitVec 64, s.base.toNat < k.toNat → mget f k = mget s.l k

section
variable {w0 w w' : World} {R B M n : Nat} {s : SRow} {f : List (BitVec 64 × ByteArray)}
theorem Once.turn {s' : SRow} {m : Nat} (h : Once w0 w R B M s f n) (hr : RowIn w0 w' R B s') (ht : Turned R B w w') (hf : Fit s' m) (hs : ∀ k : BitVec 64, s'.base.toNat < k.toNat → mget f k = mget s'.l k) : Once w0 w' R B M s' f m :=
  ⟨hr, h.map.of_block kSlot (ht.block M h.map.lt h.MR h.MB), h.hM, h.MR, h.MB, hf, hs⟩
theorem Once.below (h : Once w0 w R B M s f n) (hb : Below w.heap.size w w') : Once w0 w' R B M s f n :=
  ⟨h.row.below hb, h.map.below kSlot hb, h.hM, h.MR, h.MB, h.fit, h.same⟩
theorem Once.mono {m : Nat} (h : Once w0 w R B M s f n) (hm : n ≤ m) : Once w0 w R B M s f m := ⟨h.row, h.map, h.hM, h.MR, h.MB, h.fit.mono hm, h.same⟩
theorem Once.put {w'' : World} {x : BitVec 64} {v : ByteArray} (h : Once w0 w R B M s f n) (hr : RowIn w0 w' R B (putS s x v)) (hg : w'.grownBy w'' (some M)) (hm : MapAt kSlot w'' M (vl (mput f x v)))
    (hs : ∀ k : BitVec 64, s.base.toNat < k.toNat → mget (mput f x v) k = mget (putS s x v).l k) : Once w0 w'' R B M (putS s x v) (mput f x v) n := by
  have hv := hr.row.vals.lt
  have hbk : ∀ {b : Nat}, b < w'.heap.size → b ≠ M → w''.heap[b]? = w'.heap[b]? := fun hb hne => hg.block _ hb (by intro e; cases e; exact hne rfl)
  refine ⟨⟨⟨(hbk hr.row.ltR h.MR.symm).trans hr.row.blk, hr.row.vals.of_block kSlot (hbk hv h.MB.symm)⟩, ?_, hr.hR, hr.hB⟩, hm, h.hM, h.MR, h.MB, h.fit.put x v, ?_⟩
  · have hb := hr.bel
    refine ⟨hg.os.trans hb.os, hg.tape.trans hb.tape, hg.output.trans hb.output, Nat.le_trans hb.size hg.size, fun k hk => ?_⟩
    have := h.hM
    have := hb.size
    exact (hbk (by omega) (by omega)).trans (hb.block k hk)
  · rw [(putS_top s x v).2]; exact hs
theorem keep_same {x : BitVec 64} (h : ∀ k : BitVec 64, s.base.toNat < k.toNat → mget f k = mget s.l k) : ∀ k : BitVec 64, (keepS s x).base.toNat < k.toNat → mget f k = mget (keepS s x).l k := by
  unfold keepS
  split
  · exact h
  · intro k hk
    have hk' : (maxB s.base x).toNat < k.toNat := hk
    have hm : (maxB s.base x).toNat = max s.base.toNat x.toNat := maxB_toNat s.base x
    show mget f k = mget (cutS s (maxB s.base x)).l k
    rw [cutS_get, if_neg (by omega)]
    exact h k (by omega)
theorem jump_same {x : BitVec 64} (hbt : s.base.toNat ≤ s.top.toNat) (h : ∀ k : BitVec 64, s.base.toNat < k.toNat → mget f k = mget s.l k) : ∀ k : BitVec 64, (jumpS s x).base.toNat < k.toNat → mget f k = mget (jumpS s x).l k := by
  unfold jumpS
  split
  · exact h
  · rename_i hx
    intro k hk
    have hk' : x.toNat < k.toNat := hk
    show mget f k = mget (cutS s x).l k
    rw [cutS_get, if_neg (by omega)]
    exact h k (by omega)
theorem keepS_top (s : SRow) (x : BitVec 64) : (keepS s x).top = s.top := by unfold keepS; split <;> rfl
theorem put_same {x : BitVec 64} {v : ByteArray} (h : ∀ k : BitVec 64, s.base.toNat < k.toNat → mget f k = mget s.l k) (hno : ¬ (x.toNat ≠ 0 ∧ x.toNat ≤ 4611686018427387904 ∧ s.base.toNat < x.toNat ∧ mget s.l x = none)) :
    ∀ k : BitVec 64, (putS s x v).base.toNat < k.toNat → mget f k = mget (putS s x v).l k := by
  intro k hk
  rw [(putS_top s x v).2] at hk
  rw [putS_get, if_neg (fun hc => hno hc.2)]
  exact h k hk
theorem put_same' {x : BitVec 64} {v : ByteArray} (h : ∀ k : BitVec 64, s.base.toNat < k.toNat → mget f k = mget s.l k) (hyes : x.toNat ≠ 0 ∧ x.toNat ≤ 4611686018427387904 ∧ s.base.toNat < x.toNat ∧ mget s.l x = none) :
    ∀ k : BitVec 64, s.base.toNat < k.toNat → mget (mput f x v) k = mget (putS s x v).l k := by
  intro k hk
  rw [putS_get, mget_mput]
  by_cases e : x = k
  · rw [if_pos e, if_pos ⟨e, hyes⟩]
  · rw [if_neg e, if_neg (fun hc => e hc.1)]
    exact h k hk
theorem jump_in {s' : SRow} {slot : BitVec 64} {m : Nat} (h : RowIn w0 w R B s) (hs : jumpS s slot = s') (hn : errJump s slot = m) :
    Calls Try.prog 25 #[.pointer (some ⟨R, 0, none⟩), .int .u64 (slot.toNat : Int)] w fun e w' => e = .returned (.int .i64 (m : Int)) ∧ RowIn w0 w' R B s' ∧ Turned R B w w' := by
  subst hs; subst hn
  exact (jump_any R B s slot w h.row).mono fun e w' ⟨h1, h2, h3⟩ => ⟨h1, h.turn h2 h3, h3⟩
end

set_option maxRecDepth 100000 in
set_option maxHeartbeats 2000000 in
theorem slotsOnce_any (base : BitVec 64) (a : Option Addr) (len cap : Nat) (z : List SAct) (w : World) (h : ActsAt w a len z) :
    Calls Try.prog 4 #[.int .u64 (base.toNat : Int), .slice a len cap] w fun e w' => e = .returned (.bool true) ∧ Below w.heap.size w w' := by
  have hl := h.hlen
  have hm := h.hmax
  unfold maxLen at hm
  have hgr := great_any a len cap z w h
  cases hg : greatS z with
  | true =>
    rw [hg] at hgr
    clear h hl
    go_enter Try.func4, Try.ntmps4
    go_wp2_with ((with_reducible refine hgr.mono ?_); clear hgr; rintro e w' ⟨rfl, rfl⟩)
    refine (slWakes_any w).mono ?_
    rintro e w3 ⟨rfl, hw⟩
    go_wp2_with fail
    go_ret
    exact ⟨rfl, hw⟩
  | false =>
  by_cases hbs : base.toNat ≤ 4611686018427387904
  case neg =>
    have hbs' : (4611686018427387904 : Int) < (base.toNat : Int) := by omega
    rw [hg] at hgr
    clear h hl
    go_enter Try.func4, Try.ntmps4
    go_wp2_with ((with_reducible refine hgr.mono ?_); clear hgr; rintro e w' ⟨rfl, rfl⟩)
    refine (slWakes_any w).mono ?_
    rintro e w3 ⟨rfl, hw⟩
    go_wp2_with fail
    go_ret
    exact ⟨rfl, hw⟩
  case pos =>
    have hbs' : ¬ (4611686018427387904 : Int) < (base.toNat : Int) := by omega
    have hbd : decide ((4611686018427387904 : Int) < (base.toNat : Int)) = false := by simpa using hbs'
    rw [hg] at hgr
    have hlen : len ≤ 200 := by
      have : ¬ 200 < z.length := by
        intro h
        simp [greatS, h] at hg
      omega
    clear hg hm
    have Hl := Lib.hid hl; clear hl
    have H := Lib.hid h; clear h
    have hmm := @run_makeMap Try.prog
    go_enter Try.func4, Try.ntmps4
    go_wp2_with ((with_reducible refine hgr.mono ?_); clear hgr; rintro e w' ⟨rfl, rfl⟩)
    refine (new_any base hbs w).mono ?_
    rintro e w1 ⟨R, B, rfl, hr, hb, hR, hB⟩
    have h0 : RowIn w w1 R B ⟨base, base, 0#64, []⟩ := ⟨hr, hb, hR, hB⟩
    have hon : Once w (w1.alloc (.map #[] 0)) R B w1.heap.size ⟨base, base, 0#64, []⟩ [] 0 :=
      ⟨h0.alloc _, MapAt.made kSlot w1, hb.size, by have := hr.ltR; omega, by have := hr.vals.lt; omega, Fit.new hbs _, fun k _ => rfl⟩
    clear hr hb hR hB h0
    have Hon := Lib.hid hon; clear hon
    go_wp2_with fail
    clear hmm hbs' hbd
    generalize w1.alloc (.map #[] 0) = w2 at *
    generalize w1.heap.size = M at *
    go_loopw [8, 9] (fun s8 s9 wr => ∃ i s f, i ≤ len ∧ s9 = .int .i64 (i : Int) ∧ s8 = .int .u64 (s.top.toNat : Int) ∧ Once w wr R B M s f i) (fun _ s9 _ => len - (intOf s9).toNat)
    case atStart => exact ⟨0, _, _, by omega, rfl, rfl, Hon.out⟩
    case round =>
      obtain ⟨i, s, f, hi, rfl, rfl, hon⟩ := hrel
      clear Hon
      by_cases hlt : i < len
      · have hlt' : (i : Int) < (len : Int) := by omega
        obtain ⟨b, o, rfl, hbl, c0, c1, c2⟩ := acts_cells (H.out.below hon.row.bel) hlt
        have hsucc := i64_succ (n := i) (by omega)
        generalize hx : z.getD i default = x at *
        clear hx
        have Hon := Lib.hid hon; clear hon
        have hi1 : i + 1 ≤ len := hlt
        go_upto_region 12 with fail
        have hona := Hon.out.below ((Below.refl _ wr).alloc (Nat.le_refl _) (.cells (actCells x).toArray 31))
        have hact := ActAt.new wr x
        have hne : wr.heap.size ≠ M := by have := Hon.out.map.lt; omega
        have hneR : wr.heap.size ≠ R := by have := Hon.out.row.row.ltR; omega
        have hneB : wr.heap.size ≠ B := by have := Hon.out.row.row.vals.lt; omega
        clear c0 c1 c2 hbl Hon
        change Code.wp _ _ _ _ (wr.alloc (.cells (actCells x).toArray 31))
        generalize wr.alloc (.cells (actCells x).toArray 31) = wa at *
        generalize wr.heap.size = ba at *
        obtain ⟨c0, c1, c2⟩ := hact.cells
        have Hon := Lib.hid hona; clear hona
        have Hact := Lib.hid hact; clear hact
        obtain ⟨x0, x1, x2⟩ := x
        simp only at c0 c1 c2
        by_cases e0 : x0.toNat = 0
        · rw [e0] at c0
          clear c1 c2 e0 Hact
          cases hg : mget s.l (s.top + 1#64) with
          | none =>
            have hv : nextV s = .tuple #[.agg #[.int .u64 0, .string ByteArray.empty], .bool false] := by simp only [nextV, hg]
            have hs : nextS s = s := by simp [nextS, hg]
            clear hg
            go_wp2_with fail
            refine (next_in Hon.out.row hs hv).mono ?_
            rintro e wn ⟨rfl, hrow', ht⟩
            have hon' := (Hon.out.turn hrow' ht Hon.out.fit Hon.out.same).mono (Nat.le_succ i)
            have Hon' := Lib.hid hon'
            clear hon' hrow' ht hs hv
            go_wp2_with fail
            go_roundw
            case rel => exact ⟨i + 1, s, f, hi1, rfl, rfl, Hon'.out.below ((Below.refl _ _).alloc (Nat.le_refl _) _)⟩
            case measure => simp [intOf]; omega
          | some v =>
            have hfit := Hon.out.fit
            have hts := top_succ hfit.tm
            have hsm := Hon.out.same (s.top + 1#64) (by have := hfit.bt; omega)
            rw [hg] at hsm
            obtain ⟨tn, htn⟩ : ∃ tn, (s.top + 1#64).toNat = tn := ⟨_, rfl⟩
            have hv : nextV s = .tuple #[.agg #[.int .u64 (tn : Int), .string v], .bool true] := by simp only [nextV, hg, htn]
            obtain ⟨s1, hs⟩ : ∃ s1, nextS s = s1 := ⟨_, rfl⟩
            have hs1 : s1 = { s with top := s.top + 1#64 } := by rw [← hs]; simp [nextS, hg]
            have hf1 := hfit.next
            rw [hs] at hf1
            have htop : s1.top = s.top + 1#64 := by rw [hs1]
            have hbb : s1.base = s.base := by rw [hs1]
            have hll : s1.l = s.l := by rw [hs1]
            clear hg hs1
            go_wp2_with fail
            refine (next_in Hon.out.row hs hv).mono ?_
            rintro e wn ⟨rfl, hrow', ht⟩
            have hon' := Hon.out.turn hrow' ht hf1 (by rw [hbb, hll]; exact Hon.out.same)
            have honi := hon'.below ((Below.refl _ wn).alloc (Nat.le_refl _) (.cells #[.int .u64 (tn : Int), .string v] 33))
            have hit := (ItemAt.new wn (tn : Int) v).cells
            have hlook := look_vl honi.map (s.top + 1#64)
            rw [hsm, htn] at hlook
            have hlook : _ = Result.ok (Value.tuple #[.string v, .bool true]) _ := hlook
            have htf1 := hf1.bt
            have htf2 : s1.top.toNat ≤ (maxB s1.last s1.top).toNat := by rw [maxB_toNat]; exact Nat.le_max_right _ _
            have htn1 : s1.top.toNat = tn := by rw [htop, htn]
            have hwr : IntKind.u64.wrap ((s.top.toNat : Int) + 1) = (tn : Int) := by rw [IntKind.wrap_u64]; omega
            have Honi := Lib.hid honi; clear honi
            have Hlook := Lib.hid hlook; clear hlook
            have Hit := Lib.hid hit; clear hit
            clear hon' hrow' ht hs hv hsm htop hbb hll hts hf1 hfit Hon
            go_upto_region 22 with fail
            generalize wn.alloc (.cells #[.int .u64 (tn : Int), .string v] 33) = wi at *
            generalize wn.heap.size = bi at *
            obtain ⟨i0, i1⟩ := Hit.out
            clear Hit
            have hlook := Hlook.out
            clear Hlook
            have Hon' := Honi
            clear Honi
            have Htn := Lib.hid htn1; clear htn1
            have d1 : decide (tn < s1.base.toNat) = false := by have := Htn.out; simp; omega
            have d2 : decide ((maxB s1.last s1.top).toNat < tn) = false := by have := Htn.out; simp; omega
            clear htn htf1 htf2
            go_wp2_with fail
            go_wp2_with (first
              | ((with_reducible refine (top_any R B s1 _ Hon'.out.row.row).mono ?_); rintro e w' ⟨rfl, rfl⟩; rw [Htn.out])
              | ((with_reducible refine (base_any R B s1 _ Hon'.out.row.row).mono ?_); rintro e w' ⟨rfl, rfl⟩)
              | ((with_reducible refine (last_any R B s1 _ Hon'.out.row.row).mono ?_); rintro e wl ⟨rfl, hbl⟩; have Hbl := Lib.hid hbl; clear hbl))
            go_roundw
            case rel => exact ⟨i + 1, s1, f, hi1, rfl, by rw [Htn.out], Hon'.out.below Hbl.out⟩
            case measure => simp [intOf]; omega
        by_cases e1 : x0.toNat = 1
        · rw [e1] at c0
          clear c2 e0 e1 Hact
          obtain ⟨s1, hs⟩ : ∃ s1, keepS s x1 = s1 := ⟨_, rfl⟩
          obtain ⟨er, her⟩ : ∃ er, errKeep s x1 = er := ⟨_, rfl⟩
          have hsame := keep_same (x := x1) Hon.out.same
          have hfit := Hon.out.fit.keep x1
          have htop := keepS_top s x1
          rw [hs] at hsame hfit htop
          have hkeep := keep_in Hon.out.row hs her
          have Hk := Lib.hid hkeep; clear hkeep
          have Hsame := Lib.hid hsame; clear hsame
          have Hfit := Lib.hid hfit; clear hfit
          have Htn := Lib.hid (congrArg BitVec.toNat htop); clear htop hs her
          go_wp2_with fail
          refine Hk.out.mono ?_
          clear Hk
          rintro e wn ⟨rfl, hrow', ht⟩
          have Hon' := Lib.hid ((Hon.out.turn hrow' ht Hfit.out Hsame.out).mono (Nat.le_succ i))
          clear hrow' ht Hon Hfit Hsame
          have d1 : decide (s.top.toNat < s1.base.toNat) = false := by have := Htn.out; have := Hon'.out.fit.bt; simp; omega
          have d2 : decide ((maxB s1.last s1.top).toNat < s.top.toNat) = false := by
            have h1 := Htn.out
            have h2 : (maxB s1.last s1.top).toNat = max s1.last.toNat s1.top.toNat := maxB_toNat _ _
            simp; omega
          go_wp2_with (first
            | ((with_reducible refine (top_any R B s1 _ Hon'.out.row.row).mono ?_); rintro e w' ⟨rfl, rfl⟩; rw [Htn.out])
            | ((with_reducible refine (base_any R B s1 _ Hon'.out.row.row).mono ?_); rintro e w' ⟨rfl, rfl⟩)
            | ((with_reducible refine (last_any R B s1 _ Hon'.out.row.row).mono ?_); rintro e wl ⟨rfl, hbl⟩; have Hbl := Lib.hid hbl; clear hbl))
          go_roundw
          case rel => exact ⟨i + 1, s1, f, hi1, rfl, by rw [Htn.out], Hon'.out.below Hbl.out⟩
          case measure => simp [intOf]; omega
        by_cases e2 : x0.toNat = 2
        · rw [e2] at c0
          clear c2 e0 e1 e2
          obtain ⟨s1, hs⟩ : ∃ s1, jumpS s x1 = s1 := ⟨_, rfl⟩
          have hsame := jump_same (x := x1) Hon.out.fit.bt Hon.out.same
          have hfit := Hon.out.fit.jump x1
          rw [hs] at hsame hfit
          have Hsame := Lib.hid hsame; clear hsame
          have Hfit := Lib.hid hfit; clear hfit
          by_cases hbad : 4611686018427387904 < x1.toNat ∨ x1.toNat < s.top.toNat
          · have her : errJump s x1 = 2 := by unfold errJump; rw [if_pos hbad]
            have hs2 : s = s1 := by rw [← hs]; unfold jumpS; rw [if_pos hbad]
            have hjump := jump_in Hon.out.row hs her
            have Hk := Lib.hid hjump; clear hjump
            have Htn := Lib.hid (congrArg (fun s : SRow => s.top.toNat) hs2).symm; clear hs her hs2 hbad Hact
            go_wp2_with fail
            refine Hk.out.mono ?_
            clear Hk
            rintro e wn ⟨rfl, hrow', ht⟩
            have Hon' := Lib.hid ((Hon.out.turn hrow' ht Hfit.out Hsame.out).mono (Nat.le_succ i))
            clear hrow' ht Hon Hfit Hsame
            have d1 : decide (s.top.toNat < s1.base.toNat) = false := by have := Htn.out; have := Hon'.out.fit.bt; simp; omega
            have d2 : decide ((maxB s1.last s1.top).toNat < s.top.toNat) = false := by
              have h1 := Htn.out
              have h2 : (maxB s1.last s1.top).toNat = max s1.last.toNat s1.top.toNat := maxB_toNat _ _
              simp; omega
            go_wp2_with (first
              | ((with_reducible refine (top_any R B s1 _ Hon'.out.row.row).mono ?_); rintro e w' ⟨rfl, rfl⟩; rw [Htn.out])
              | ((with_reducible refine (base_any R B s1 _ Hon'.out.row.row).mono ?_); rintro e w' ⟨rfl, rfl⟩)
              | ((with_reducible refine (last_any R B s1 _ Hon'.out.row.row).mono ?_); rintro e wl ⟨rfl, hbl⟩; have Hbl := Lib.hid hbl; clear hbl))
            go_roundw
            case rel => exact ⟨i + 1, s1, f, hi1, rfl, by rw [Htn.out], Hon'.out.below Hbl.out⟩
            case measure => simp [intOf]; omega
          · have her : errJump s x1 = 0 := by unfold errJump; rw [if_neg hbad]
            have hs2 : s1 = { cutS s x1 with base := x1, top := x1 } := by rw [← hs]; unfold jumpS; rw [if_neg hbad]
            have hjump := jump_in Hon.out.row hs her
            have Hk := Lib.hid hjump; clear hjump
            have Htn := Lib.hid (congrArg (fun s : SRow => s.top.toNat) hs2)
            clear hs her hs2 hbad
            go_wp2_with fail
            refine Hk.out.mono ?_
            clear Hk
            rintro e wn ⟨rfl, hrow', ht⟩
            have hact' := Hact.out.of_block (ht.block ba Hact.out.lt hneR hneB)
            have c1' := hact'.cells.2.1
            simp only at c1'
            have Hon' := Lib.hid ((Hon.out.turn hrow' ht Hfit.out Hsame.out).mono (Nat.le_succ i))
            clear hrow' ht Hon Hfit Hsame hact' c0 c1
            have d1 : decide (x1.toNat < s1.base.toNat) = false := by have : s1.top.toNat = x1.toNat := Htn.out; have := Hon'.out.fit.bt; simp; omega
            have d2 : decide ((maxB s1.last s1.top).toNat < x1.toNat) = false := by
              have h1 : s1.top.toNat = x1.toNat := Htn.out
              have h2 : (maxB s1.last s1.top).toNat = max s1.last.toNat s1.top.toNat := maxB_toNat _ _
              simp; omega
            go_wp2_with (first
              | ((with_reducible refine (top_any R B s1 _ Hon'.out.row.row).mono ?_); rintro e w' ⟨rfl, rfl⟩; rw [Htn.out])
              | ((with_reducible refine (base_any R B s1 _ Hon'.out.row.row).mono ?_); rintro e w' ⟨rfl, rfl⟩)
              | ((with_reducible refine (last_any R B s1 _ Hon'.out.row.row).mono ?_); rintro e wl ⟨rfl, hbl⟩; have Hbl := Lib.hid hbl; clear hbl))
            go_roundw
            case rel => exact ⟨i + 1, s1, f, hi1, rfl, by rw [Htn.out], Hon'.out.below Hbl.out⟩
            case measure => simp [intOf]; omega
        · have f0 : ((x0.toNat : Int) == 0) = false := eq_int_false (by omega)
          have f1 : ((x0.toNat : Int) == 1) = false := eq_int_false (by omega)
          have f2 : ((x0.toNat : Int) == 2) = false := eq_int_false (by omega)
          clear e0 e1 e2
          have hlook := look_vl Hon.out.map x1
          obtain ⟨old, hold⟩ : ∃ old, (mget f x1).getD ByteArray.empty = old := ⟨_, rfl⟩
          obtain ⟨had, hhad⟩ : ∃ had, (mget f x1).isSome = had := ⟨_, rfl⟩
          rw [hold, hhad] at hlook
          obtain ⟨s1, hs⟩ : ∃ s1, putS s x1 x2 = s1 := ⟨_, rfl⟩
          obtain ⟨er, her⟩ : ∃ er, errPut s x1 x2 = er := ⟨_, rfl⟩
          have hfit := Hon.out.fit.put x1 x2
          have htop := (putS_top s x1 x2).1
          have hput := put_in Hon.out.row hs her
          rw [hs] at hfit htop
          have Hfit := Lib.hid hfit; clear hfit
          have Htn := Lib.hid (congrArg BitVec.toNat htop); clear htop
          have Hput := Lib.hid hput; clear hput
          have Hold := Lib.hid hold; clear hold
          have Hhad := Lib.hid hhad; clear hhad
          have Hs := Lib.hid hs; clear hs
          have Her := Lib.hid her; clear her
          go_wp2_with ((with_reducible refine (base_any R B s _ Hon.out.row.row).mono ?_); rintro e w' ⟨rfl, rfl⟩)
          refine Hput.out.mono ?_
          clear Hput hlook
          rintro e wn ⟨rfl, hrow', ht⟩
          have hact' := Hact.out.of_block (ht.block ba Hact.out.lt hneR hneB)
          obtain ⟨c1', c2'⟩ := hact'.cells.2
          simp only at c1' c2'
          have Hr' := Lib.hid hrow'; clear hrow'
          have Ht := Lib.hid ht; clear ht
          have Hact' := Lib.hid hact'; clear hact'
          clear c0 c1 c2 Hact
          by_cases hlow : x1.toNat ≤ s.base.toNat
          · have hsame := put_same (v := x2) (x := x1) Hon.out.same (fun hc => by omega)
            rw [Hs.out] at hsame
            have Hon' := Lib.hid ((Hon.out.turn Hr'.out Ht.out Hfit.out hsame).mono (Nat.le_succ i))
            clear hsame Hon Hr' Ht Hfit Hact'
            have dA : decide (s.base.toNat < x1.toNat) = false := by simp; omega
            have d1 : decide (s.top.toNat < s1.base.toNat) = false := by have := Htn.out; have := Hon'.out.fit.bt; simp; omega
            have d2 : decide ((maxB s1.last s1.top).toNat < s.top.toNat) = false := by
              have h1 := Htn.out
              have h2 : (maxB s1.last s1.top).toNat = max s1.last.toNat s1.top.toNat := maxB_toNat _ _
              simp; omega
            clear hlow Hold Hhad Hs Her
            by_cases he0 : er = 0
            · subst he0
              go_wp2_with (first
                | ((with_reducible refine (top_any R B s1 _ Hon'.out.row.row).mono ?_); rintro e w' ⟨rfl, rfl⟩; rw [Htn.out])
                | ((with_reducible refine (base_any R B s1 _ Hon'.out.row.row).mono ?_); rintro e w' ⟨rfl, rfl⟩)
                | ((with_reducible refine (last_any R B s1 _ Hon'.out.row.row).mono ?_); rintro e wl ⟨rfl, hbl⟩; have Hbl := Lib.hid hbl; clear hbl))
              go_roundw
              case rel => exact ⟨i + 1, s1, f, hi1, rfl, by rw [Htn.out], Hon'.out.below Hbl.out⟩
              case measure => simp [intOf]; omega
            · have de : ((er : Int) == 0) = false := eq_int_false (by omega)
              clear he0
              go_wp2_with (first
                | ((with_reducible refine (top_any R B s1 _ Hon'.out.row.row).mono ?_); rintro e w' ⟨rfl, rfl⟩; rw [Htn.out])
                | ((with_reducible refine (base_any R B s1 _ Hon'.out.row.row).mono ?_); rintro e w' ⟨rfl, rfl⟩)
                | ((with_reducible refine (last_any R B s1 _ Hon'.out.row.row).mono ?_); rintro e wl ⟨rfl, hbl⟩; have Hbl := Lib.hid hbl; clear hbl))
              go_roundw
              case rel => exact ⟨i + 1, s1, f, hi1, rfl, by rw [Htn.out], Hon'.out.below Hbl.out⟩
              case measure => simp [intOf]; omega
          have dA : decide (s.base.toNat < x1.toNat) = true := by simp; omega
          have hsm := Hon.out.same x1 (by omega)
          cases hg : mget f x1 with
          | some o =>
            have hk := Hon.out.fit.keys x1 (by rw [← hsm, hg]; rfl)
            have h1 := Hhad.out
            have h2 := Hold.out
            have h3 := Her.out
            rw [hg] at h1 h2 hsm
            simp only [Option.isSome_some, Option.getD_some] at h1 h2
            subst h1 h2
            unfold errPut at h3
            rw [if_neg (by omega), if_neg hlow, ← hsm] at h3
            have hsame := put_same (v := x2) (x := x1) Hon.out.same (fun hc => by rw [← hsm] at hc; cases hc.2.2.2)
            rw [Hs.out] at hsame
            have Hon' := Lib.hid ((Hon.out.turn Hr'.out Ht.out Hfit.out hsame).mono (Nat.le_succ i))
            clear hsame Hon Hr' Ht Hfit Hact'
            clear hlow Hold Hhad Hs Her hk hsm hg
            have d1 : decide (s.top.toNat < s1.base.toNat) = false := by have := Htn.out; have := Hon'.out.fit.bt; simp; omega
            have d2 : decide ((maxB s1.last s1.top).toNat < s.top.toNat) = false := by
              have h1 := Htn.out
              have h2 : (maxB s1.last s1.top).toNat = max s1.last.toNat s1.top.toNat := maxB_toNat _ _
              simp; omega
            by_cases ho : o = x2
            · subst ho
              simp only [if_true] at h3
              subst h3
              go_wp2_with (first
                | ((with_reducible refine (top_any R B s1 _ Hon'.out.row.row).mono ?_); rintro e w' ⟨rfl, rfl⟩; rw [Htn.out])
                | ((with_reducible refine (base_any R B s1 _ Hon'.out.row.row).mono ?_); rintro e w' ⟨rfl, rfl⟩)
                | ((with_reducible refine (last_any R B s1 _ Hon'.out.row.row).mono ?_); rintro e wl ⟨rfl, hbl⟩; have Hbl := Lib.hid hbl; clear hbl))
              go_roundw
              case rel => exact ⟨i + 1, s1, f, hi1, rfl, by rw [Htn.out], Hon'.out.below Hbl.out⟩
              case measure => simp [intOf]; omega
            · simp only [if_neg ho] at h3
              subst h3
              have hb := bytes_ne ho
              clear ho
              go_wp2_with (first
                | ((with_reducible refine (top_any R B s1 _ Hon'.out.row.row).mono ?_); rintro e w' ⟨rfl, rfl⟩; rw [Htn.out])
                | ((with_reducible refine (base_any R B s1 _ Hon'.out.row.row).mono ?_); rintro e w' ⟨rfl, rfl⟩)
                | ((with_reducible refine (last_any R B s1 _ Hon'.out.row.row).mono ?_); rintro e wl ⟨rfl, hbl⟩; have Hbl := Lib.hid hbl; clear hbl))
              go_roundw
              case rel => exact ⟨i + 1, s1, f, hi1, rfl, by rw [Htn.out], Hon'.out.below Hbl.out⟩
              case measure => simp [intOf]; omega
          | none =>
            have h1 := Hhad.out
            have h3 := Her.out
            rw [hg] at h1 hsm
            simp only [Option.isSome_none] at h1
            subst h1
            unfold errPut at h3
            by_cases hbig : 4611686018427387904 < x1.toNat
            · rw [if_pos (.inr hbig)] at h3
              subst h3
              have hsame := put_same (v := x2) (x := x1) Hon.out.same (fun hc => by omega)
              rw [Hs.out] at hsame
              have Hon' := Lib.hid ((Hon.out.turn Hr'.out Ht.out Hfit.out hsame).mono (Nat.le_succ i))
              clear hsame Hon Hr' Ht Hfit Hact'
              clear hlow Hold Hhad Hs Her hbig hsm hg
              have d1 : decide (s.top.toNat < s1.base.toNat) = false := by have := Htn.out; have := Hon'.out.fit.bt; simp; omega
              have d2 : decide ((maxB s1.last s1.top).toNat < s.top.toNat) = false := by
                have h1 := Htn.out
                have h2 : (maxB s1.last s1.top).toNat = max s1.last.toNat s1.top.toNat := maxB_toNat _ _
                simp; omega
              go_wp2_with (first
                | ((with_reducible refine (top_any R B s1 _ Hon'.out.row.row).mono ?_); rintro e w' ⟨rfl, rfl⟩; rw [Htn.out])
                | ((with_reducible refine (base_any R B s1 _ Hon'.out.row.row).mono ?_); rintro e w' ⟨rfl, rfl⟩)
                | ((with_reducible refine (last_any R B s1 _ Hon'.out.row.row).mono ?_); rintro e wl ⟨rfl, hbl⟩; have Hbl := Lib.hid hbl; clear hbl))
              go_roundw
              case rel => exact ⟨i + 1, s1, f, hi1, rfl, by rw [Htn.out], Hon'.out.below Hbl.out⟩
              case measure => simp [intOf]; omega
            · rw [if_neg (by omega), if_neg hlow, ← hsm] at h3
              simp only at h3
              subst h3
              have hs2 := put_same' (v := x2) (x := x1) Hon.out.same ⟨by omega, by omega, by omega, hsm.symm⟩
              have hmap := Hon.out.map.of_block kSlot (Ht.out.block M Hon.out.map.lt Hon.out.MR Hon.out.MB)
              obtain ⟨wu, hrun, hmu, hgu, _⟩ := run_update_at kSlot hmap Try.underlying42 x1 (.string x2)
              rw [vl_put] at hmu
              have hr' := Hr'.out
              rw [← Hs.out] at hr'
              have hon2 := (Hon.out.put hr' hgu hmu hs2).mono (Nat.le_succ i)
              rw [Hs.out] at hon2
              have Hon' := Lib.hid hon2; clear hon2
              have hact2 := Hact'.out.of_block (hgu.block ba Hact'.out.lt (by intro e; cases e; exact hne rfl))
              obtain ⟨c1'', c2''⟩ := hact2.cells.2
              simp only at c1'' c2''
              clear hact2
              clear hlow Hold Hhad Hs Her hbig hsm hg hs2 hmap hmu hgu hr' Hon Hr' Ht Hfit Hact'
              have hrun' : (Instr.mapUpdate 42 (.map (some M)) (.int .u64 (x1.toNat : Int)) (.string x2)).run Try.prog wn = .ok () wu := hrun
              clear hrun
              have d1 : decide (s.top.toNat < s1.base.toNat) = false := by have := Htn.out; have := Hon'.out.fit.bt; simp; omega
              have d2 : decide ((maxB s1.last s1.top).toNat < s.top.toNat) = false := by
                have h1 := Htn.out
                have h2 : (maxB s1.last s1.top).toNat = max s1.last.toNat s1.top.toNat := maxB_toNat _ _
                simp; omega
              go_wp2_with (first
                | ((with_reducible refine (top_any R B s1 _ Hon'.out.row.row).mono ?_); rintro e w' ⟨rfl, rfl⟩; rw [Htn.out])
                | ((with_reducible refine (base_any R B s1 _ Hon'.out.row.row).mono ?_); rintro e w' ⟨rfl, rfl⟩)
                | ((with_reducible refine (last_any R B s1 _ Hon'.out.row.row).mono ?_); rintro e wl ⟨rfl, hbl⟩; have Hbl := Lib.hid hbl; clear hbl))
              go_roundw
              case rel => exact ⟨i + 1, s1, (mput f x1 x2), hi1, rfl, by rw [Htn.out], Hon'.out.below Hbl.out⟩
              case measure => simp [intOf]; omega
      · have hlt' : ¬ (i : Int) < (len : Int) := by omega
        have Hb := Lib.hid hon.row.bel; clear hon
        go_wp2_with fail
        refine (slWakes_any wr).mono ?_
        rintro e w3 ⟨rfl, hw⟩
        go_wp2_with fail
        go_ret
        exact ⟨rfl, Hb.out.trans (hw.mono Hb.out.size)⟩
theorem slotsOnce_law (x : Int) (a : Option Addr) (len cap : Nat) (z : List SAct) {w : World} (hx : (Lit.int .u64 x).wf = true) (h : ActsAt w a len z) (_ : World) :
    Calls Try.prog 4 #[.int .u64 x, .slice a len cap] w fun e w' => e = .returned (.bool true) ∧ Below w.heap.size w w' := by
  obtain ⟨y, rfl⟩ := sl_u64 hx
  exact slotsOnce_any y a len cap z w h
end Go.Proofs.Ytimhpncdlaildaa
