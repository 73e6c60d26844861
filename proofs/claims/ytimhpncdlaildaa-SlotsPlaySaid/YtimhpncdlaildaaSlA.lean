/- The row of slots: forget (maps.DeleteFunc). No condition. -/
import Derived.Test.YtimhpncdlaildaaRows
import Derived.Test.YtimhpncdlaildaaIter
import Derived.Test.YtimhpncdlaildaaReg
import Derived.WalkSpells
import Derived.WalkLawsBesides
import Derived.Lib.Hide
namespace Go.Proofs.Ytimhpncdlaildaa
open Go.RowKit

noncomputable def kSlot : KeyEnc Try.prog 29 (BitVec 64) := keyU64 _ _ Try.underlying29

set_option maxHeartbeats 400000 in
theorem leq_any (k to : BitVec 64) (v : Value) (a : Addr) (w : World) (hc : w.cell? a = some (.int .u64 (to.toNat : Int))) :
    Calls Try.prog 80 #[.int .u64 (k.toNat : Int), v, .pointer (some a)] w fun e w' => e = .returned (.bool (decide (k.toNat ≤ to.toNat))) ∧ w = w' := by
  go_enter Try.func80, Try.ntmps80
  go_wp2
  go_ret
  exact ⟨by simp, rfl⟩

def keyLeq (to : BitVec 64) : Value → Bool
  | .int _ n => decide (n ≤ (to.toNat : Int))
  | _ => false

/-- What a round of DeleteFunc has done. -/
structure DelInv (w wr : World) (B r clock : Nat) (to : BitVec 64) (es0 : Array MapEntry) (seen : Array Nat) (es : Array MapEntry) : Prop where
  it : wr.heap[r]? = some (.mapIter (some B) clock seen clock)
  mp : wr.heap[B]? = some (.map es clock)
  en : es.toList = es0.toList.filter fun e => !(seen.contains e.born && keyLeq to e.key)
  kept : w.grownBy wr (some B)
  far : w.heap.size ≤ r

theorem born_eq {es : List MapEntry} (h : (es.map (·.born)).Nodup) {x y : MapEntry} (hx : x ∈ es) (hy : y ∈ es) (e : x.born = y.born) : x = y := by
  obtain ⟨i, hi⟩ := List.getElem?_of_mem hx
  obtain ⟨j, hj⟩ := List.getElem?_of_mem hy
  have hij : (es.map (·.born))[i]? = (es.map (·.born))[j]? := by simp [hi, hj, e]
  have hil : i < es.length := (List.getElem?_eq_some_iff.1 hi).1
  have := (List.getElem?_inj (by simpa using hil) h).1 hij
  subst this
  rw [hi] at hj
  exact Option.some.inj hj

/-- A round: the entry e has come; nothing is deleted yet. -/
theorem DelInv.round {w wr w1 : World} {B r clock : Nat} {to : BitVec 64} {es0 es : Array MapEntry} {seen : Array Nat} (h : DelInv w wr B r clock to es0 seen es) (hw1 : w1 = wr ∨ w1 = wr.drew) (hB : B < w.heap.size)
    (hn : (es0.toList.map (·.born)).Nodup) {e : MapEntry} (he : e ∈ es.toList) (hk : keyLeq to e.key = false) : DelInv w (setObjW w1 r (.mapIter (some B) clock (seen.push e.born) clock)) B r clock to es0 (seen.push e.born) es := by
  have hr : r < wr.heap.size := (Array.getElem?_eq_some_iff.1 h.it).1
  have hs : w1.heap = wr.heap := by rcases hw1 with rfl | rfl <;> rfl
  have hfar := h.far
  have he0 : e ∈ es0.toList := by have := he; rw [h.en] at this; exact (List.mem_filter.1 this).1
  refine ⟨setObj_same (by rw [hs]; exact hr) _, by rw [setObj_other _ (by omega), hs]; exact h.mp, ?_, ?_, h.far⟩
  · rw [h.en]
    apply List.filter_congr
    intro x hx
    rw [contains_push]
    by_cases hb : x.born = e.born
    · have := born_eq hn hx he0 hb
      subst this
      simp [hk]
    · have : (x.born == e.born) = false := by simpa using hb
      simp [this]
  · refine grown_setObj ?_ (.inl h.far) _
    rcases hw1 with rfl | rfl
    · exact h.kept
    · exact grown_drew h.kept

/-- A round: the entry e has come, and is deleted. -/
theorem DelInv.gone {w wr w1 : World} {B r clock : Nat} {to : BitVec 64} {es0 es es' : Array MapEntry} {seen : Array Nat} (h : DelInv w wr B r clock to es0 seen es) (hw1 : w1 = wr ∨ w1 = wr.drew) (hB : B < w.heap.size)
    (hn : (es0.toList.map (·.born)).Nodup) {e : MapEntry} (he : e ∈ es.toList) (hk : keyLeq to e.key = true) (hs' : es'.toList = es.toList.filter fun x => x.born != e.born) :
    DelInv w (setObjW (setObjW w1 r (.mapIter (some B) clock (seen.push e.born) clock)) B (.map es' clock)) B r clock to es0 (seen.push e.born) es' := by
  have hr : r < wr.heap.size := (Array.getElem?_eq_some_iff.1 h.it).1
  have hBr : B < wr.heap.size := (Array.getElem?_eq_some_iff.1 h.mp).1
  have hs : w1.heap = wr.heap := by rcases hw1 with rfl | rfl <;> rfl
  have hfar := h.far
  have he0 : e ∈ es0.toList := by have := he; rw [h.en] at this; exact (List.mem_filter.1 this).1
  refine ⟨by rw [setObj_other _ (by omega)]; exact setObj_same (by rw [hs]; exact hr) _, setObj_same (by rw [setObj_size, hs]; exact hBr) _, ?_, ?_, h.far⟩
  · rw [hs', h.en, List.filter_filter]
    apply List.filter_congr
    intro x hx
    rw [contains_push]
    by_cases hb : x.born = e.born
    · have := born_eq hn hx he0 hb
      subst this
      simp [hk]
    · have : (x.born == e.born) = false := by simpa using hb
      simp [this, hb]
  · refine grown_setObj (grown_setObj ?_ (.inl h.far) _) (.inr rfl) _
    rcases hw1 with rfl | rfl
    · exact h.kept
    · exact grown_drew h.kept

set_option maxHeartbeats 1000000 in
theorem deleteFunc_any (B : Nat) (a : Addr) (to : BitVec 64) (l : List (BitVec 64 × Value)) (w : World) (hm : MapAt kSlot w B l) (hc : w.cell? a = some (.int .u64 (to.toNat : Int))) :
    Calls Try.prog 79 #[.map (some B), .func (.func 80) #[] #[.pointer (some a)]] w fun e w' =>
      e = .returned (.tuple #[]) ∧ MapAt kSlot w' B (l.filter fun p => !decide (p.1.toNat ≤ to.toNat)) ∧ w.grownBy w' (some B) := by
  have hB := hm.lt
  obtain ⟨es0, clock, hb, he⟩ := hm
  have hrange := run_range_map (P := Try.prog) w 42 _ _ B es0 clock Try.underlying42 hb
  have haB : a.block ≠ B := by
    intro e
    have := hc
    simp [World.cell?, e, hb] at this
  have h0 : DelInv w (w.alloc (.mapIter (some B) clock #[] clock)) B w.heap.size clock to es0 #[] es0 :=
    ⟨heap_alloc_new w _, by rw [heap_alloc_old w _ hB]; exact hb, (List.filter_eq_self.2 (fun _ _ => by simp)).symm, World.grownBy_alloc w _ _, Nat.le_refl _⟩
  go_enter Try.func79, Try.ntmps79
  go_wp2_with fail
  clear hrange
  obtain ⟨r, hr⟩ : ∃ r, r = w.heap.size := ⟨_, rfl⟩
  obtain ⟨W, hW⟩ : ∃ W, W = w.alloc (.mapIter (some B) clock #[] clock) := ⟨_, rfl⟩
  rw [← hW] at h0 ⊢
  rw [← hr] at h0 ⊢
  clear hW hr
  have Hb := Lib.hid hb; clear hb
  have Hc := Lib.hid hc; clear hc
  go_loopw [4, 5] (fun _ _ wr => ∃ seen es, DelInv w wr B r clock to es0 seen es) (fun _ _ wr => (leftOf es0 (wr.iterSeen r)).size)
  case atStart => exact ⟨_, _, h0⟩
  case round =>
    obtain ⟨seen, es, hinv⟩ := hrel
    have hsub : ∀ x ∈ es.toList, x ∈ es0.toList := fun x hx => by rw [hinv.en] at hx; exact (List.mem_filter.1 hx).1
    rcases run_next_at (P := Try.prog) hinv.it hinv.mp (fun x hx => he.old x (hsub x hx)) (Nat.le_refl _) with ⟨hall, hrun⟩ | ⟨e, hme, hse, w1, hw1, hrun⟩
    · go_wp2_with fail
      go_end0
      refine ⟨rfl, ?_, hinv.kept⟩
      obtain ⟨l', h1, h2⟩ := he.filter kSlot (fun e => !(keyLeq to e.key)) (es' := es) (by
        rw [hinv.en]
        apply List.filter_congr
        intro x hx
        by_cases hk : keyLeq to x.key = true
        · have : seen.contains x.born = true ∨ seen.contains x.born = false := by cases seen.contains x.born <;> simp
          rcases this with h | h
          · rw [h, hk]; rfl
          · exfalso
            have : x ∈ es.toList := by rw [hinv.en]; exact List.mem_filter.2 ⟨hx, by rw [h]; rfl⟩
            rw [hall x this] at h
            cases h
        · simp [hk])
      have h3 := h2 (fun k => !decide (k.toNat ≤ to.toNat)) (fun e _ k hk => by rw [hk]; simp [kSlot, keyU64, keyLeq])
      rw [← h3]
      exact ⟨es, clock, hinv.mp, h1⟩
    · have hme0 := hsub e hme
      obtain ⟨k, hk, hkeq⟩ : ∃ k : BitVec 64, e.key = .int .u64 (k.toNat : Int) ∧ keyLeq to e.key = decide (k.toNat ≤ to.toNat) := by
        have : (e.key, e.val) ∈ l.map (fun p => (kSlot.enc p.1, p.2)) := by rw [← he.read]; exact List.mem_map_of_mem (f := fun e : MapEntry => (e.key, e.val)) hme0
        obtain ⟨p, _, hp⟩ := List.mem_map.1 this
        have hp1 : e.key = .int .u64 (p.1.toNat : Int) := (Prod.mk.inj hp).1.symm
        exact ⟨p.1, hp1, by rw [hp1]; simp [keyLeq]⟩
      obtain ⟨W2, hW2⟩ : ∃ W2, W2 = setObjW w1 r (.mapIter (some B) clock (seen.push e.born) clock) := ⟨_, rfl⟩
      have hrlt : r < wr.heap.size := (Array.getElem?_eq_some_iff.1 hinv.it).1
      have hw1h : w1.heap = wr.heap := by rcases hw1 with rfl | rfl <;> rfl
      have hfar := hinv.far
      have hit2 : W2.heap[r]? = some (.mapIter (some B) clock (seen.push e.born) clock) := by rw [hW2]; exact setObj_same (by rw [hw1h]; exact hrlt) _
      have hmp2 : W2.heap[B]? = some (.map es clock) := by rw [hW2, setObj_other _ (by omega), hw1h]; exact hinv.mp
      have hg2 : w.grownBy W2 (some B) := by
        rw [hW2]
        refine grown_setObj ?_ (.inl hinv.far) _
        rcases hw1 with rfl | rfl
        · exact hinv.kept
        · exact grown_drew hinv.kept
      have hca : W2.cell? a = some (.int .u64 (to.toNat : Int)) := hg2.cell Hc.out (by intro e; cases e; exact haB rfl)
      have hbn : (es.toList.map (·.born)).Nodup := by rw [hinv.en]; exact ((List.filter_sublist).map _).nodup he.born
      have hentry := run_entry_at (P := Try.prog) hit2 hmp2 hme hbn
      have hents : ∃ l2, Ents kSlot es clock l2 := (he.filter kSlot _ hinv.en).imp fun _ h => h.1
      obtain ⟨l2, hl2⟩ := hents
      have hkcall := leq_any k to e.val a W2 hca
      have hseen : ∀ X : World, X.heap[r]? = some (.mapIter (some B) clock (seen.push e.born) clock) → (leftOf es0 (X.iterSeen r)).size < (leftOf es0 (wr.iterSeen r)).size := fun X hX => by
        have e1 : X.iterSeen r = seen.push e.born := by simp [World.iterSeen, hX]
        have e2 : wr.iterSeen r = seen := by simp [World.iterSeen, hinv.it]
        rw [e1, e2]
        exact left_shrinks es0 seen e (by simp [leftOf, hme0]; simpa using hse)
      rw [← hW2] at hrun
      have Hinv := Lib.hid hinv; clear hinv
      have Hseen := Lib.hid hseen; clear hseen
      have HW2 := Lib.hid hW2; clear hW2
      have Hkc := Lib.hid hkcall; clear hkcall
      have Hit := Lib.hid hit2; clear hit2
      have Hmp := Lib.hid hmp2; clear hmp2
      have Hmem := Lib.hid hme; clear hme
      by_cases hle : k.toNat ≤ to.toNat
      · have hd : decide (k.toNat ≤ to.toNat) = true := decide_eq_true hle
        obtain ⟨es', hdel, hes'⟩ : ∃ es' : Array MapEntry, (∀ u ty, (Builtin.delete_ #[42, u] ty #[.map (some B), .int .u64 (k.toNat : Int)]).run Try.prog W2 = .ok (.tuple #[]) (setObjW W2 B (.map es' clock))) ∧ es'.toList = es.toList.filter fun x => x.born != e.born := by
          obtain ⟨es', h1, h2⟩ := run_delete_entry (P := Try.prog) kSlot Hmp.out hl2 Try.underlying42 0 0 Hmem.out
          refine ⟨es', fun u ty => ?_, h2⟩
          rw [hk] at h1
          exact h1
        have hfin := (Hinv.out).gone hw1 hB he.born Hmem.out (by rw [hkeq]; exact hd) hes'
        rw [← HW2.out] at hfin
        have Hfin := Lib.hid hfin; clear hfin
        have hkey := hk
        clear hes' hse hca hg2 hsub hbn hw1 hw1h hkeq
        go_wp2_with (go_at_call 80; (with_reducible refine Hkc.out.mono ?_); rintro e w' ⟨rfl, rfl⟩)
        go_roundw
        case rel => exact ⟨_, _, Hfin.out⟩
        case measure => exact Hseen.out _ Hfin.out.it
      · have hd : decide (k.toNat ≤ to.toNat) = false := decide_eq_false hle
        have hfin := (Hinv.out).round hw1 hB he.born Hmem.out (by rw [hkeq]; exact hd)
        rw [← HW2.out] at hfin
        have Hfin := Lib.hid hfin; clear hfin
        clear hse hca hg2 hsub hbn hw1 hw1h hkeq
        go_wp2_with (go_at_call 80; (with_reducible refine Hkc.out.mono ?_); rintro e w' ⟨rfl, rfl⟩)
        go_roundw
        case rel => exact ⟨_, _, Hfin.out⟩
        case measure => exact Hseen.out _ Hfin.out.it
end Go.Proofs.Ytimhpncdlaildaa
