/- Trees: Get, Put, Del, and what the laws do by an act. Condition: few enough nodes that their number is an int; keys that fit in memory. -/
import Derived.Test.YtimhpncdlaildaaTrE
namespace Go.Proofs.Ytimhpncdlaildaa
open Go.RowKit

def Tr.look (key : ByteArray) (T : Tr) : Option ByteArray := (T.find key).val
theorem look_has {key : ByteArray} {T : Tr} : T.has key = if (T.look key).isSome then 1 else 0 := by
  unfold Tr.has Tr.look
  cases T.find key <;> rfl
def crcOf (k : ByteArray) : BitVec 64 := Crc.sum 0#64 k.data.toList

set_option maxHeartbeats 2000000 in
theorem get_any (key : ByteArray) (T : Tr) (w : World) (h : TreeAt w T) :
    Calls Try.prog 40 #[.pointer T.ptr, .string key] w fun e w' => e = .returned (.tuple #[.string ((T.look key).getD ByteArray.empty), .bool (T.look key).isSome]) ∧ w = w' := by
  have hf := find_any key T w h
  have hat := find_at h key
  unfold Tr.look
  generalize T.find key = F at *
  cases F with
  | nil =>
    have Hf := Lib.hid (show Calls Try.prog 64 #[.pointer T.ptr, .string key] w (fun e w' => e = .returned (.pointer none) ∧ w = w') from hf); clear hf h
    go_enter Try.func40, Try.ntmps40
    go_wp2_with ((with_reducible refine Hf.out.mono ?_); rintro e w' ⟨rfl, rfl⟩)
    go_ret2
    exact ⟨rfl, rfl⟩
  | node b k v wt l r =>
    obtain ⟨c0, c1, c2, c3, c4, c5, c6⟩ := hat.1.cells
    have Hf := Lib.hid (show Calls Try.prog 64 #[.pointer T.ptr, .string key] w (fun e w' => e = .returned (.pointer (some ⟨b, 0, none⟩)) ∧ w = w') from hf); clear hf h
    clear c0 c2 c3 c4 c5 c6 hat
    go_enter Try.func40, Try.ntmps40
    go_wp2_with ((with_reducible refine Hf.out.mono ?_); rintro e w' ⟨rfl, rfl⟩)
    go_ret2
    exact ⟨rfl, rfl⟩

/-- What Put, Del leave. -/
structure ActPost (n : Nat) (same : Bool) (T : Tr) (S : Sh) (w w' : World) (X : Tr) : Prop where
  at_ : TreeAt w' X
  bel : Below w.heap.size w w'
  eqT : same = true → X = T
  neT : same = false → X ≠ T
  mad : Made n T X
  new : X.newc n ≤ T.dep + X.dep
  shp : X.sh = S
  num : X.cnt ≤ T.cnt + 1
def putSh (k v : ByteArray) (S : Sh) (had : Option ByteArray) : Sh := if had = some v then S else S.put k v (crcOf k)
def delSh (k : ByteArray) (S : Sh) (had : Option ByteArray) : Sh := if had = none then S else S.del k

theorem ActPost.stay {n : Nat} {T : Tr} {w w' : World} (h : TreeAt w' T) (hb : Below w.heap.size w w') (hlo : T.Lo n) : ActPost n true T T.sh w w' T :=
  ⟨h, hb, fun _ => rfl, (by intro h; cases h), .old (.refl _), by rw [hlo.newc]; exact Nat.zero_le _, rfl, Nat.le_succ _⟩

set_option maxRecDepth 100000 in
set_option maxHeartbeats 2000000 in
theorem putT_any (key v : ByteArray) (hk : key.size ≤ maxLen) (T : Tr) (n : Nat) (w : World) (hn : n ≤ w.heap.size) (hlo : T.Lo n) (hat : TreeAt w T) (hc : T.cnt ≤ 4611686018427387903) :
    Calls Try.prog 49 #[.pointer T.ptr, .string key, .string v] w fun e w' => ∃ X, e = .returned (.pointer X.ptr) ∧ ActPost n (decide (T.look key = some v)) T (putSh key v T.sh (T.look key)) w w' X := by
  have Hg := Lib.hid (get_any key T w hat)
  have Hat := Lib.hid hat; clear hat
  unfold putSh
  cases hl : T.look key with
  | none =>
    rw [hl] at Hg
    obtain ⟨c, hcr⟩ : ∃ c, crcOf key = c := ⟨_, rfl⟩
    have hsum := fun w => sum_any key hk w
    have hcr' : Crc.sum 0#64 key.data.toList = c := hcr
    rw [hcr'] at hsum
    rw [hcr, if_neg (by simp)]
    have Hs := Lib.hid hsum; clear hsum hcr hcr'
    go_enter Try.func49, Try.ntmps49
    simp only [Option.getD_none, Option.isSome_none] at Hg
    have Hb := Lib.hid ((Below.refl w.heap.size w).alloc (Nat.le_refl _) (.cells (nodeCells key v c none none 0 0) 122))
    have hnew : NodeAt (w.alloc (.cells (nodeCells key v c none none 0 0) 122)) w.heap.size key v c none none 0 0 := heap_alloc_new w _
    have Hp := Lib.hid (put_node w.heap.size key v c T n (w.alloc (.cells (nodeCells key v c none none 0 0) 122)) none none 0 0 (Nat.le_trans hn Hb.out.size) hlo (Hat.out.below Hb.out) hc hnew); clear hnew
    go_wp2_with (first
      | ((with_reducible refine Hg.out.mono ?_); rintro e w' ⟨rfl, rfl⟩)
      | ((with_reducible refine (Hs.out _).mono ?_); rintro e w' ⟨rfl, rfl⟩)
      | (refine Hp.out.mono ?_; rintro e w3 ⟨X, rfl, hx⟩; have Hx := Lib.hid hx; clear hx))
    go_ret
    refine ⟨X, rfl, Hx.out.at_, Hb.out.trans (Hx.out.bel.mono Hb.out.size), by simp, fun _ e => ?_, Hx.out.mad, ?_, Hx.out.shp, by have := Hx.out.num; omega⟩
    · have := Hx.out.root
      rw [e, hlo.newc] at this
      omega
    · have h1 := Hx.out.new
      have h2 := Hx.out.root
      have h3 : 1 ≤ X.dep := by
        cases X with
        | nil => simp [Tr.newc] at h2
        | node => simp only [Tr.dep]; omega
      omega
  | some o =>
    rw [hl] at Hg
    simp only [Option.getD_some, Option.isSome_some] at Hg
    by_cases e : o = v
    · subst e
      rw [if_pos rfl]
      go_enter Try.func49, Try.ntmps49
      go_wp2_with ((with_reducible refine Hg.out.mono ?_); rintro e w' ⟨rfl, rfl⟩)
      go_ret
      refine ⟨T, rfl, ?_⟩
      exact .stay Hat.out (Below.refl _ _) hlo
    · have hne := txt_ne e
      obtain ⟨c, hcr⟩ : ∃ c, crcOf key = c := ⟨_, rfl⟩
      have hsum := fun w => sum_any key hk w
      have hcr' : Crc.sum 0#64 key.data.toList = c := hcr
      rw [hcr'] at hsum
      rw [hcr, if_neg (by simpa using e)]
      have Hs := Lib.hid hsum; clear hsum hcr hcr'
      have He := Lib.hid e; clear e
      go_enter Try.func49, Try.ntmps49
      have Hb := Lib.hid ((Below.refl w.heap.size w).alloc (Nat.le_refl _) (.cells (nodeCells key v c none none 0 0) 122))
      have hnew : NodeAt (w.alloc (.cells (nodeCells key v c none none 0 0) 122)) w.heap.size key v c none none 0 0 := heap_alloc_new w _
      have Hp := Lib.hid (put_node w.heap.size key v c T n (w.alloc (.cells (nodeCells key v c none none 0 0) 122)) none none 0 0 (Nat.le_trans hn Hb.out.size) hlo (Hat.out.below Hb.out) hc hnew); clear hnew
      go_wp2_with (first
        | ((with_reducible refine Hg.out.mono ?_); rintro e w' ⟨rfl, rfl⟩)
        | ((with_reducible refine (Hs.out _).mono ?_); rintro e w' ⟨rfl, rfl⟩)
        | (refine Hp.out.mono ?_; rintro e w3 ⟨X, rfl, hx⟩; have Hx := Lib.hid hx; clear hx))
      go_ret
      refine ⟨X, rfl, Hx.out.at_, Hb.out.trans (Hx.out.bel.mono Hb.out.size), fun h => absurd (by simpa using h) He.out, fun _ e => ?_, Hx.out.mad, ?_, Hx.out.shp, by have := Hx.out.num; omega⟩
      · have := Hx.out.root
        rw [e, hlo.newc] at this
        omega
      · have h1 := Hx.out.new
        have h2 := Hx.out.root
        have h3 : 1 ≤ X.dep := by
          cases X with
          | nil => simp [Tr.newc] at h2
          | node => simp only [Tr.dep]; omega
        omega

set_option maxRecDepth 100000 in
set_option maxHeartbeats 2000000 in
theorem delT_any (key : ByteArray) (T : Tr) (n : Nat) (w : World) (hn : n ≤ w.heap.size) (hlo : T.Lo n) (hat : TreeAt w T) (hc : T.cnt ≤ 4611686018427387903) :
    Calls Try.prog 50 #[.pointer T.ptr, .string key] w fun e w' => ∃ X, e = .returned (.pointer X.ptr) ∧ ActPost n (T.look key).isNone T (delSh key T.sh (T.look key)) w w' X := by
  have hf := find_any key T w hat
  have Hat := Lib.hid hat; clear hat
  have hhas : T.has key = if (T.look key).isSome then 1 else 0 := look_has
  unfold delSh
  have hlk : T.look key = (T.find key).val := rfl
  rw [hlk] at hhas ⊢
  clear hlk
  cases hF : T.find key with
  | nil =>
    rw [hF] at hf
    have Hf := Lib.hid (show Calls Try.prog 64 #[.pointer T.ptr, .string key] w (fun e w' => e = .returned (.pointer none) ∧ w = w') from hf); clear hf
    go_enter Try.func50, Try.ntmps50
    go_wp2_with ((with_reducible refine Hf.out.mono ?_); rintro e w' ⟨rfl, rfl⟩)
    go_ret
    refine ⟨T, rfl, ?_⟩
    exact .stay Hat.out (Below.refl _ _) hlo
  | node b k v wt l r =>
    rw [hF] at hf hhas
    have hhas' : T.has key = 1 := hhas
    have Hf := Lib.hid (show Calls Try.prog 64 #[.pointer T.ptr, .string key] w (fun e w' => e = .returned (.pointer (some ⟨b, 0, none⟩)) ∧ w = w') from hf); clear hf
    rw [if_neg (show ¬ (Tr.node b k v wt l r).val = none by simp [Tr.val])]
    have Hd := Lib.hid (del_any key T n w hn hlo Hat.out (by omega) hhas'); clear hhas hhas'
    go_enter Try.func50, Try.ntmps50
    go_wp2_with (first
      | ((with_reducible refine Hf.out.mono ?_); rintro e w' ⟨rfl, rfl⟩)
      | ((with_reducible refine Hd.out.mono ?_); rintro e w3 ⟨X, rfl, hx⟩; have Hx := Lib.hid hx; clear hx))
    go_ret
    refine ⟨X, rfl, Hx.out.at_, Hx.out.bel, by simp [Tr.val], fun _ e => ?_, Hx.out.mad, by have := Hx.out.new; omega, ?_, by have := Hx.out.num; omega⟩
    · have := Hx.out.num
      rw [e] at this
      omega
    · exact Hx.out.shp
end Go.Proofs.Ytimhpncdlaildaa
