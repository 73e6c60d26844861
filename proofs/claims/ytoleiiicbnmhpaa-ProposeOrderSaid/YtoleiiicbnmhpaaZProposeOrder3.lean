/- The open slots of a desk that has one at most. Condition: the desk lies there. -/
import Derived.Test.YtoleiiicbnmhpaaZProposeOrder2
import Derived.Test.YtoleiiicbnmhpaaZProposeOrder1
import Derived.Laws.AppendOwn
import Derived.Laws.AppendOwnNone
import Derived.OwnWalk
import Derived.Test.YtoleiiicbnmhpaaZProposeOrder0
import Derived.ChangeArms
import Derived.Deep.Slices
import Derived.Deep.Fields
import Derived.WideShapes
namespace Go.Proofs.Ytoleiiicbnmhpaa
open Go.RowKit Go.Maps Go.Shelf
theorem collect_any (Bm b nn : Nat) (D0 : DataW Value) (hN : Maps.size D0 ≤ 1000000) (w : World) (hBm : Bm < w.heap.size) (hc : w.cell? ⟨Bm, 0, none⟩ = some (.map (some b))) (hown : w.ownsMap Try.prog 31 Rv b nn D0) :
    Calls Try.prog 34 #[.func (.func 36) #[] #[.pointer (some ⟨Bm, 0, none⟩)]] w fun e w' =>
      ∃ v ss, e = .returned v ∧ Came D0 (fun _ => false) ss ∧ w'.ownsRow w.heap.size 31 1 v ss.length (ss.map u64v) ∧ (v = .slice none 0 0 ↔ ss = []) ∧ Below w.heap.size w w' := by
  have H := Lib.hid (callsIn_wide.1 (appendSeq_in 5 Bm b nn (by omega) D0 hN w hBm hc hown))
  clear hown hc
  go_enter Try.func34, Try.ntmps34
  go_wp2_with ((with_reducible refine H.out.mono ?_); rintro e w2 ⟨v, ss, rfl, h1, h2, h3, h4⟩; have H2 := Lib.hid (And.intro h1 (And.intro h2 (And.intro h3 h4))); clear h1 h2 h3 h4)
  go_ret
  exact ⟨v, ss, rfl, H2.out.1, H2.out.2.1, H2.out.2.2.1, H2.out.2.2.2⟩
theorem blen_any (n : Nat) (hn : n < 18446744073709551616) (w : World) : Calls Try.prog 40 #[.int .u64 (n : Int)] w fun e w' => e = .returned (.int .i64 (Lib.bitLen n : Int)) ∧ w = w' := by
  have H := Lib.hid (len64_any n hn w)
  go_enter Try.func40, Try.ntmps40
  go_wp2_with ((with_reducible refine H.out.mono ?_); rintro e w2 ⟨rfl, rfl⟩)
  go_ret
  exact ⟨rfl, rfl⟩
set_option maxRecDepth 100000 in
theorem insert1_any (A : Option Addr) (n c : Nat) (hn : n ≤ 1) (w : World) : Calls Try.prog 41 #[.slice A n c, .int .i64 0, .int .i64 (n : Int)] w fun e w' => e = .returned (.tuple #[]) ∧ w = w' := by
  have h1 : ¬ (1 : Int) < (n : Int) := by omega
  clear hn
  go_enter Try.func41, Try.ntmps41
  go_upto_region 1 with fail
  go_loopw [6] (fun s6 wr => w = wr ∧ s6 = .int .i64 1) (fun _ _ => 0)
  case atStart => exact ⟨rfl, rfl⟩
  case round =>
    obtain ⟨rfl, rfl⟩ := hrel
    go_wp2_with fail
    refine bodyPost_end (results_none rfl _ _ _) rfl ?_
    exact ⟨rfl, rfl⟩
set_option maxRecDepth 100000 in
theorem pdq1_any (A : Option Addr) (n c : Nat) (hn : n ≤ 1) (l : Nat) (w : World) : Calls Try.prog 39 #[.slice A n c, .int .i64 0, .int .i64 (n : Int), .int .i64 (l : Int)] w fun e w' => e = .returned (.tuple #[]) ∧ w = w' := by
  have H := Lib.hid (insert1_any A n c hn w)
  have h1 : (n : Int) ≤ 12 := by omega
  have hw : IntKind.i64.wrap (n : Int) = (n : Int) := by rw [IntKind.wrap_i64]; omega
  clear hn
  go_enter Try.func39, Try.ntmps39
  go_upto_region 2 with fail
  go_loopw [1, 2, 3, 8, 9] (fun s1 s2 s3 s8 s9 wr => w = wr ∧ s1 = .int .i64 0 ∧ s2 = .int .i64 (n : Int) ∧ s3 = .int .i64 (l : Int) ∧ s8 = .bool true ∧ s9 = .bool true) (fun _ _ _ _ _ _ => 0)
  case atStart => exact ⟨rfl, rfl, rfl, rfl, rfl, rfl⟩
  case round =>
    obtain ⟨rfl, rfl, rfl, rfl, rfl, rfl⟩ := hrel
    go_wp2_with ((with_reducible refine H.out.mono ?_); rintro e w2 ⟨rfl, rfl⟩)
    refine bodyPost_ret (results_none rfl _ _ _) rfl ?_
    exact ⟨rfl, rfl⟩
theorem sort1_any (A : Option Addr) (n c : Nat) (hn : n ≤ 1) (w : World) : Calls Try.prog 35 #[.slice A n c] w fun e w' => e = .returned (.tuple #[]) ∧ Below w.heap.size w w' := by
  have Hb := Lib.hid (fun y : World => pure_bel (blen_any n (by omega) y))
  have Hp := Lib.hid (fun y : World => pure_bel (pdq1_any A n c hn (Lib.bitLen n) y))
  have hw : IntKind.u64.wrap (n : Int) = (n : Int) := by rw [IntKind.wrap_u64]; omega
  generalize Lib.bitLen n = l at *
  clear hn
  go_enter Try.func35, Try.ntmps35
  go_wp2_with (first
    | ((with_reducible refine (Hb.out _).mono ?_); rintro e w2 ⟨rfl, h2⟩; have H2 := Lib.hid h2; clear h2)
    | ((with_reducible refine (Hp.out _).mono ?_); rintro e w3 ⟨rfl, h3⟩; have H3 := Lib.hid h3; clear h3))
  refine bodyPost_end (results_none rfl _ _ _) rfl ?_
  exact ⟨rfl, H2.out.trans (H3.out.mono H2.out.size)⟩
/-- The sorted keys, where there is one at most. -/
def KeysPost (D0 : DataW Value) (w : World) (e : Ending) (w' : World) : Prop := ∃ v ss, e = .returned v ∧ Came D0 (fun _ => false) ss ∧ w'.ownsRow w.heap.size 31 1 v ss.length (ss.map u64v) ∧ (v = .slice none 0 0 ↔ ss = []) ∧ Below w.heap.size w w'
theorem came_len {D0 : DataW Value} {ss : List Int} (h : Came D0 (fun _ => false) ss) (h1 : ∀ x y : Int, Maps.has D0 (.int .u64 x) = true → Maps.has D0 (.int .u64 y) = true → x = y) : ss.length ≤ 1 := by
  match ss, h with
  | [], _ => exact Nat.zero_le _
  | [_], _ => exact Nat.le_refl _
  | a :: b :: r, h =>
    exfalso
    have ha := ((h.2 a).1 (by simp)).1
    have hb := ((h.2 b).1 (by simp)).1
    have e := h1 a b ha hb
    subst e
    have := h.1
    simp at this
theorem sorted1_any (Bm b nn : Nat) (D0 : DataW Value) (hN : Maps.size D0 ≤ 1000000) (h1 : ∀ x y : Int, Maps.has D0 (.int .u64 x) = true → Maps.has D0 (.int .u64 y) = true → x = y) (w : World) (hBm : Bm < w.heap.size) (hc : w.cell? ⟨Bm, 0, none⟩ = some (.map (some b))) (hown : w.ownsMap Try.prog 31 Rv b nn D0) :
    Calls Try.prog 27 #[.func (.func 36) #[] #[.pointer (some ⟨Bm, 0, none⟩)]] w (KeysPost D0 w) := by
  have H := Lib.hid (collect_any Bm b nn D0 hN w hBm hc hown)
  clear hown hc
  go_enter Try.func27, Try.ntmps27
  go_upto_region 2 with ((with_reducible refine H.out.mono ?_); rintro e w2 ⟨v, ss, rfl, h1, h2, h3, h4⟩; have H2 := Lib.hid (And.intro h1 (And.intro h2 (And.intro h3 h4))); clear h1 h2 h3 h4)
  obtain ⟨A, c, rfl⟩ : ∃ A c, v = .slice A ss.length c := by
    rcases H2.out.2.1.2 with ⟨rfl, h0⟩ | ⟨g, cap, cur, rfl, _⟩
    · rw [h0]; exact ⟨none, 0, rfl⟩
    · exact ⟨_, _, rfl⟩
  have Hs := Lib.hid (sort1_any A ss.length c (came_len H2.out.1 h1) w2)
  go_wp2_with ((with_reducible refine Hs.out.mono ?_); rintro e w3 ⟨rfl, h3⟩; have H3 := Lib.hid h3; clear h3)
  go_ret
  refine ⟨_, ss, rfl, H2.out.1, ?_, H2.out.2.2.1, H2.out.2.2.2.trans (H3.out.mono H2.out.2.2.2.size)⟩
  exact own_grown H2.out.2.1 (row := none) ⟨H3.out.os, H3.out.tape, H3.out.output, H3.out.size, fun k hk _ => H3.out.block k hk⟩ (fun g e e2 => by cases e2)
end Go.Proofs.Ytoleiiicbnmhpaa
namespace Go.Proofs.Ytoleiiicbnmhpaa
open Go.RowKit
section
variable {α : Type} {enc : α → List Value} {k : Nat}
/-- The cells of a row. -/
def flat (enc : α → List Value) (z : List α) : List Value := z.flatMap enc
theorem flat_len (hk : ∀ x, (enc x).length = k) : ∀ z : List α, (flat enc z).length = z.length * k
  | [] => by simp [flat]
  | x :: r => by
    have h := flat_len hk r
    unfold flat at *
    rw [List.flatMap_cons, List.length_append, hk, h, List.length_cons, Nat.succ_mul]
    omega
theorem flat_at (hk : ∀ x, (enc x).length = k) : ∀ (z : List α) (i r : Nat) (x : α) (u : Value), z[i]? = some x → (enc x)[r]? = some u → (flat enc z)[i * k + r]? = some u
  | [], _, _, _, _, h, _ => by simp at h
  | y :: l, 0, r, x, u, h, hu => by
    simp at h
    subst h
    have hr : r < (enc y).length := (List.getElem?_eq_some_iff.1 hu).1
    unfold flat
    rw [List.flatMap_cons, Nat.zero_mul, Nat.zero_add, List.getElem?_append_left hr, hu]
  | y :: l, i + 1, r, x, u, h, hu => by
    simp at h
    have ih := flat_at hk l i r x u h hu
    unfold flat at *
    rw [List.flatMap_cons, List.getElem?_append_right (by rw [hk, Nat.succ_mul]; omega), hk, Nat.succ_mul, show i * k + k + r - k = i * k + r by omega]
    exact ih
theorem flat_get (hk : ∀ x, (enc x).length = k) (hk0 : 0 < k) {z : List α} {j : Nat} {u : Value} (h : (flat enc z)[j]? = some u) : ∃ x, z[j / k]? = some x ∧ (enc x)[j % k]? = some u := by
  have hj : j < z.length * k := by
    have := (List.getElem?_eq_some_iff.1 h).1
    rwa [flat_len hk] at this
  have hi : j / k < z.length := Nat.div_lt_of_lt_mul (by rw [Nat.mul_comm]; exact hj)
  have hr : j % k < (enc z[j / k]).length := by rw [hk]; exact Nat.mod_lt _ hk0
  have e := flat_at hk z (j / k) (j % k) z[j / k] _ (List.getElem?_eq_getElem hi) (List.getElem?_eq_getElem hr)
  rw [show j / k * k + j % k = j by rw [Nat.mul_comm]; exact Nat.div_add_mod j k, h] at e
  cases e
  exact ⟨_, List.getElem?_eq_getElem hi, List.getElem?_eq_getElem hr⟩
theorem flat_one (h1 : ∀ x, ∀ u ∈ enc x, u.oneCell' = true) (z : List α) : ∀ u ∈ flat enc z, u.oneCell' = true := by
  intro u hu
  obtain ⟨x, _, hx⟩ := List.mem_flatMap.1 hu
  exact h1 x u hx
/-- An owned row reads as its elements. -/
theorem own_slice {w : World} {base : Nat} {e : TypeId} {A : Option Addr} {n c : Nat} {z : List α} (hk : ∀ x, (enc x).length = k) (h : w.ownsRow base e k (.slice A n c) n (flat enc z)) (hz : z.length = n) (hm : n ≤ maxLen) : SliceAt k enc w A n z := by
  obtain ⟨h1, h2⟩ := h
  refine ⟨hz, hm, fun i x hx => ?_⟩
  have hi : i < z.length := (List.getElem?_eq_some_iff.1 hx).1
  rcases h2 with ⟨_, h3⟩ | ⟨g, cap, cur, e1, _, hg, _, _, _, ht⟩
  · omega
  · cases e1
    refine ⟨g, 0, rfl, (Array.getElem?_eq_some_iff.1 hg).1, fun j v hj => ?_⟩
    have e := flat_at hk z i j x v hx hj
    have hlt : i * k + j < n * k := by
      have := (List.getElem?_eq_some_iff.1 e).1
      rwa [flat_len hk, hz] at this
    rw [← ht, List.getElem?_take, if_pos hlt, Array.getElem?_toList] at e
    simp only [World.cell?, hg, Nat.zero_add]
    simpa using e
theorem own_slice_of {w : World} {base : Nat} {e : TypeId} {v : Value} {n : Nat} {xs : List Value} (h : w.ownsRow base e k v n xs) : ∃ A c, v = .slice A n c := by
  rcases h.2 with ⟨rfl, rfl⟩ | ⟨g, cap, cur, rfl, _⟩
  · exact ⟨none, 0, rfl⟩
  · exact ⟨_, _, rfl⟩
/-- 'append(s, x...)', s owned, x a row of structs, nil or not. -/
theorem wp_append_slice {P : Program} {w : World} {o : Oper} {a : Act} {K : Act → World → Prop} {Q : Exit → Act → World → Prop} (s x : Operand) (t : TypeId)
    (ho : o.op = .call { callee := .builtin .append, args := #[s, x], argTypes := #[t, t] })
    (base : Nat) (e : TypeId) (i : TypeInfo) (z0 : Value) (bytes : Nat) (ht : P.underlying t = some (.slice e)) (hi : P.info? e = some i) (hz : i.zero = some z0)
    (hsize : i.size = k) (hby : i.bytes = bytes) (hzs : z0.cells.size = k) (hk0 : 0 < k) (hk : ∀ x, (enc x).length = k) (h1 : ∀ x, ∀ u ∈ enc x, u.oneCell' = true)
    (v : Value) (n : Nat) (xs : List Value) (hs : a.eval s = v) (hown : w.ownsRow base e k v n xs) (A : Option Addr) (m c : Nat) (z : List α) (hx : a.eval x = .slice A m c) (hsrc : SliceAt k enc w A m z) (hnil : A = none → m = 0 ∧ c = 0)
    (h63 : n + m ≤ maxLen) (hbytes : (n + m) * bytes ≤ 140737488355328) (hbase : base ≤ w.heap.size)
    (h : ∀ v' w', w'.ownsRow base e k v' (n + m) (xs ++ flat enc z) → w.grownBy w' v.ownBlock → K (a.put o.dst v') w') : o.wp P a w K Q := by
  cases A with
  | none =>
    obtain ⟨rfl, rfl⟩ := hnil rfl
    have hz0 : z = [] := List.eq_nil_of_length_eq_zero hsrc.hlen
    subst hz0
    have hrun := run_append_owned_none (P := P) (w := w) base t o.type e i k ht hi v n xs hown
    have hh := h v w (by simpa [flat] using hown) (World.grownBy.refl w _)
    unfold Oper.wp
    simp [execOp, ho, resolve, invoke, builtin, hs, hx, hrun, Result.andThen]
    exact hh
  | some ad =>
    refine wp_append_own w s x t ho base e i z0 k bytes ht hi hz hsize hby hzs hk0 v n xs hs hown ad m c (flat enc z) hx (by rw [flat_len hk, hsrc.hlen]) (fun j u hj => ?_) (flat_one h1 z) h63 hbytes hbase (fun v' w' h3 h4 _ => h v' w' h3 h4)
    obtain ⟨y, hy, hu⟩ := flat_get hk hk0 hj
    obtain ⟨b, o', e1, _, e3⟩ := hsrc.cells _ y hy
    cases e1
    rw [Addr.add_lit, ← e3 _ u hu, show j / k * k + j % k = j by rw [Nat.mul_comm]; exact Nat.div_add_mod j k]
end
end Go.Proofs.Ytoleiiicbnmhpaa
namespace Go.Proofs.Ytoleiiicbnmhpaa
open Go.RowKit Go.Maps Go.Shelf
def encO (q : Nat × OpR) : List Value := opCells q.1 q.2
theorem infoOp : (Try.prog.info? 63).map (fun i => (i.zero, i.size, i.bytes)) = some (some (opV 0 op0), 4, 32) := by kernel_rfl
theorem op_new (w : World) (s : Nat) (r : OpR) : SliceAt 4 encO (w.alloc (.cells (opCells s r).toArray 63)) (some ⟨w.heap.size, 0, none⟩) 1 [(s, r)] := by
  refine ⟨rfl, by decide, fun i x hx => ?_⟩
  cases i with
  | zero =>
    simp at hx
    subst hx
    refine ⟨w.heap.size, 0, rfl, by simp, fun j v hj => ?_⟩
    have h := range_row (heap_alloc_new w (.cells (opCells s r).toArray 63)) j v hj
    rw [Nat.zero_mul, Nat.zero_add]
    exact h
  | succ i => simp at hx
/-- What All tells of a desk with one open slot at most. -/
def AllPost (Dm : Nat → Option OpR) (w : World) (e : Ending) (w' : World) : Prop := ∃ A m c, e = .returned (.slice A m c) ∧ Below w.heap.size w w' ∧ ((m = 0 ∧ ∀ s, s < 18446744073709551616 → Dm s = none) ∨ (m = 1 ∧ ∃ s r B o, Dm s = some r ∧ A = some ⟨B, o, none⟩ ∧ (w.heap.size ≤ B ∧ B < w'.heap.size) ∧ w'.rangeAt B o (opCells s r)))
theorem mpOf_some {Dm : Nat → Option OpR} {x : Int} (h : (mpOf Dm (.int .u64 x)).isSome = true) : ∃ (s : Nat) (r : OpR), x = (s : Int) ∧ Dm s = some r := by
  unfold mpOf at h
  simp only at h
  split at h
  · next h0 =>
    cases hd : Dm x.toNat with
    | none => rw [hd] at h; cases h
    | some r => exact ⟨x.toNat, r, by omega, hd⟩
  · cases h
set_option maxRecDepth 100000 in
set_option maxHeartbeats 4000000 in
theorem all1_any (p g n last : Nat) (Dm : Nat → Option OpR) (h1 : ∀ a b r q, Dm a = some r → Dm b = some q → a = b) (hn : n ≤ 100000) (hr64 : ∀ s r, Dm s = some r → s < 18446744073709551616) (w : World) (h : DeskAt w p g n Dm last) :
    Calls Try.prog 16 #[.pointer (some ⟨p, 0, none⟩)] w (AllPost Dm w) := by
  obtain ⟨c0, c1⟩ := h.cells
  clear c1
  obtain ⟨D, hown, hM⟩ := h.mp
  have hsz : Maps.size D ≤ 1000000 := by have := hown.size_le; omega
  have huniq : ∀ x y : Int, Maps.has D (.int .u64 x) = true → Maps.has D (.int .u64 y) = true → x = y := fun x y hx hy => by
    rw [(hM (.int .u64 x) trivial).1] at hx
    rw [(hM (.int .u64 y) trivial).1] at hy
    obtain ⟨a, r, rfl, ha⟩ := mpOf_some hx
    obtain ⟨b, q, rfl, hb⟩ := mpOf_some hy
    rw [h1 a b r q ha hb]
  have hk := callsIn_wide.1 (keys_in 5 (some g) w)
  have hb1 := (Below.refl w.heap.size w).alloc (Nat.le_refl _) (.cells #[.map (some g)] 65)
  have hs := sorted1_any w.heap.size g n D hsz huniq (w.alloc (.cells #[.map (some g)] 65)) (by simp) (cell_of_row _ _ _ _ _ _ (heap_alloc_new _ _)) (hown.alloc _)
  have Hk := Lib.hid hk
  have Hs := Lib.hid hs
  have Hb1 := Lib.hid hb1
  have H := Lib.hid h
  have HM := Lib.hid hM
  have HU := Lib.hid huniq
  have hR := Lib.hid hr64
  clear hr64
  clear hk hs hb1 h hM hown huniq hsz
  go_enter Try.func16, Try.ntmps16
  go_upto_region 5 with (first
    | ((with_reducible refine Hk.out.mono ?_); rintro e w1 ⟨rfl, rfl⟩)
    | ((with_reducible refine Hs.out.mono ?_); rintro e w2 ⟨v, ss, rfl, k1, k2, k3, k4⟩; have H2 := Lib.hid (And.intro k1 (And.intro k2 (And.intro k3 k4))); clear k1 k2 k3 k4; obtain ⟨A, c, rfl⟩ : ∃ A c, v = .slice A ss.length c := (by
        rcases H2.out.2.1.2 with ⟨rfl, h0⟩ | ⟨g', cap, cur, rfl, _⟩
        · rw [h0]; exact ⟨none, 0, rfl⟩
        · exact ⟨_, _, rfl⟩)))
  have hb2 : Below w.heap.size w w2 := Hb1.out.trans (H2.out.2.2.2.mono Hb1.out.size)
  have Hd2 := Lib.hid (H.out.below hb2)
  have Hb2 := Lib.hid hb2
  have hss := came_len H2.out.1 HU.out
  clear hb2 Hk Hs Hb1 c0
  match ss, hss, H2 with
  | [], _, H2 =>
    have hno : ∀ s, s < 18446744073709551616 → Dm s = none := fun s hs => by
      cases hd : Dm s with
      | none => rfl
      | some r =>
        have hh : Maps.has D (.int .u64 (s : Int)) = true := by
          rw [(HM.out (.int .u64 (s : Int)) trivial).1]
          have := mpOf_at Dm s
          unfold ku at this
          rw [this, hd]
          rfl
        have := (H2.out.1.2 (s : Int)).2 ⟨hh, rfl⟩
        simp at this
    have Hno := Lib.hid hno
    clear hno
    go_loopw [3, 15] (fun s3 s15 wr => w2 = wr ∧ s3 = .slice none 0 0 ∧ s15 = .int .i64 0) (fun _ _ _ => 0)
    case atStart => exact ⟨rfl, rfl, rfl⟩
    case round =>
      obtain ⟨rfl, rfl, rfl⟩ := hrel
      go_wp2_with fail
      go_ret
      exact ⟨none, 0, 0, rfl, Hb2.out, .inl ⟨rfl, Hno.out⟩⟩
  | [x], _, H2 =>
    have hx := ((H2.out.1.2 x).1 (by simp)).1
    rw [(HM.out (.int .u64 x) trivial).1] at hx
    obtain ⟨s, r, rfl, hD⟩ := mpOf_some hx
    obtain ⟨i0, hi0, hz0, hs0, hb0⟩ := info_parts infoOp
    have Hi0 := Lib.hid (And.intro hi0 (And.intro hz0 (And.intro hs0 hb0)))
    obtain ⟨gk, rfl, hgk⟩ : ∃ gk, A = some ⟨gk, 0, none⟩ ∧ w2.cell? ⟨gk, 0, none⟩ = some (.int .u64 (s : Int)) := by
      rcases H2.out.2.1.2 with ⟨_, h0⟩ | ⟨gk, cap, cur, e, _, hg, _, _, _, ht⟩
      · cases h0
      · cases e
        refine ⟨gk, rfl, ?_⟩
        simp only [World.cell?, hg]
        have : cur.toList[0]? = some (u64v (s : Int)) := by
          have h0 : (cur.toList.take (([(s : Int)] : List Int).length * 1))[0]? = some (u64v (s : Int)) := by rw [ht]; rfl
          rw [List.getElem?_take] at h0
          simpa using h0
        simpa using this
    have hgl : gk < w2.heap.size := World.block_lt_of_cell? _ _ hgk
    have Hgk := Lib.hid (And.intro hgl hgk)
    have HD := Lib.hid hD
    have hlt : s < 18446744073709551616 := hR.out s r hD
    have hk := key_ku hlt
    have hMo : mpOf Dm (ku s) = some (.agg #[.int .u64 (s : Int), .string r.x, .int .u8 (r.c : Int), .int .u8 (r.who : Int)]) := by rw [mpOf_at, hD]; rfl
    clear hx hD hgk hgl hi0 hz0 hs0 hb0
    go_loopw [3, 15] (fun s3 s15 wr => Below w2.heap.size w2 wr ∧ ((s3 = .slice none 0 0 ∧ s15 = .int .i64 0) ∨ (s15 = .int .i64 1 ∧ ∃ B o c, s3 = .slice (some ⟨B, o, none⟩) 1 c ∧ (w.heap.size ≤ B ∧ B < wr.heap.size) ∧ wr.rangeAt B o (opCells s r)))) (fun _ s15 _ => 1 - (intOf s15).toNat)
    case atStart => exact ⟨Below.refl _ _, .inl ⟨rfl, rfl⟩⟩
    case round =>
      obtain ⟨hb, ⟨rfl, rfl⟩ | ⟨rfl, B, o, c3, rfl, hB, hr⟩⟩ := hrel
      · have Hb := Lib.hid hb
        have hd3 := Hd2.out.below hb
        obtain ⟨c0, c1⟩ := hd3.cells
        have Hd3 := Lib.hid hd3
        have f0 := (hb.cell (p := ⟨gk, 0, none⟩) Hgk.out.1).trans Hgk.out.2
        have Hn3 := Lib.hid (op_new wr s r)
        clear hb hd3 c1
        go_wp2_with (first
          | (at_lookup; refine wpList_look_mp rfl _ _ 65 63 rfl lawU Try.underlying65 op_zero rfl Hd3.out.mp _ (ku s) rfl hk ?_)
          | (at_builtin; refine wpList_plain rfl (fun K hK => ?_); refine wp_append_slice (k := 4) (enc := encO) _ _ 42 rfl wr.heap.size 63 i0 _ 32 Try.underlying42 Hi0.out.1 Hi0.out.2.1 Hi0.out.2.2.1 Hi0.out.2.2.2 rfl (by omega) (fun _ => rfl) (fun q => op_one q.1 q.2) (.slice none 0 0) 0 [] rfl (World.ownsRow_nil _ _ _ _) (some ⟨wr.heap.size, 0, none⟩) 1 1 [(s, r)] rfl Hn3.out (fun e => by cases e) (by decide) (by decide) (by simp) ?_; intro v7 w7 ho7 hg7; have H7 := Lib.hid (And.intro ho7 hg7); clear ho7 hg7; refine hK _ _ ?_))
        have hg7 : (wr.alloc (.cells (opCells s r).toArray 63)).grownBy w7 none := H7.out.2
        have hb7 : Below w2.heap.size w2 w7 := (Hb.out.alloc Hb.out.size _).trans ⟨hg7.os, hg7.tape, hg7.output, hg7.size, fun q hq => hg7.block q (by have := Hb.out.size; simp; omega) (fun e => by cases e)⟩
        have ho7 := H7.out.1
        obtain ⟨A7, c7, rfl⟩ := own_slice_of ho7
        have hs7 : SliceAt 4 encO w7 A7 1 [(s, r)] := own_slice (fun _ => rfl) ho7 rfl (by decide)
        obtain ⟨B, o, rfl, hB, hr⟩ := hs7.cells 0 (s, r) rfl
        have hB2 : w.heap.size ≤ B := by
          rcases ho7.2 with ⟨e, _⟩ | ⟨g5, _, _, e, h5, _⟩
          · cases e
          · cases e
            have := Hb2.out.size
            have := Hb.out.size
            omega
        go_roundw
        case rel => exact ⟨_, _, _, _, _, _, _, _, _, _, _, _, _, _, _, _, ⟨hb7, .inr ⟨rfl, B, o, c7, rfl, ⟨hB2, hB⟩, fun j v hv => by have q := hr j v hv; rwa [Nat.zero_mul, Nat.zero_add] at q⟩⟩, rfl⟩
        case measure => simp [intOf]
      · go_wp2_with fail
        go_ret
        exact ⟨_, 1, c3, rfl, Hb2.out.trans (hb.mono Hb2.out.size), .inr ⟨rfl, s, r, B, o, HD.out, rfl, hB, hr⟩⟩
  | _ :: _ :: _, h, _ => simp at h
end Go.Proofs.Ytoleiiicbnmhpaa
namespace Go.Proofs.Ytoleiiicbnmhpaa
open Go.RowKit
open Go.Maps (Keyed)
/-- A desk with the slot 1 open. -/
def dk (r : OpR) : Nat → Option OpR := updD (fun _ => none) 1 (some r)
theorem dk_at (r : OpR) : dk r 1 = some r := by simp [dk, updD]
theorem dk_put (r q : OpR) : updD (dk r) 1 (some q) = dk q := by
  funext k
  simp only [dk, updD]
  split <;> rfl
theorem dk_del (r : OpR) : updD (dk r) 1 none = fun _ => none := by
  funext k
  simp only [dk, updD]
  split <;> rfl
theorem dk_only {r : OpR} (a b : Nat) (x y : OpR) (ha : dk r a = some x) (hb : dk r b = some y) : a = b := by
  simp only [dk, updD] at ha hb
  split at ha
  · split at hb
    · omega
    · cases hb
  · cases ha
theorem dk_low {r : OpR} (s : Nat) (x : OpR) (h : dk r s = some x) : s = 1 ∧ x = r := by
  simp only [dk, updD] at h
  split at h
  · next e => cases h; exact ⟨e, rfl⟩
  · cases h
/-- Between two steps. -/
structure WkI (w0 : World) (p g n : Nat) (Dm : Nat → Option OpR) (y : World) : Prop where
  d : DeskAt y p g n Dm 1
  bel : Below w0.heap.size w0 y
  pg : w0.heap.size ≤ p ∧ w0.heap.size ≤ g
theorem WkI.below {w0 y y' : World} {p g n : Nat} {Dm : Nat → Option OpR} (h : WkI w0 p g n Dm y) (hb : Below y.heap.size y y') : WkI w0 p g n Dm y' := ⟨h.d.below hb, h.bel.trans (hb.mono h.bel.size), h.pg⟩
theorem WkI.next {w0 y y' : World} {p g n m : Nat} {Dm De : Nat → Option OpR} (h : WkI w0 p g n Dm y) (hd : DeskAt y' p g m De 1) (hb : ButTwo p g y y') : WkI w0 p g m De y' := ⟨hd, hb.below h.bel h.bel.size h.pg.1 h.pg.2, h.pg⟩
/-- A load behind a guard that says yes. Over any program. -/
theorem wpList_load_grd {P : Program} {ops : Array Oper} {rest : List Oper} {op : Oper} {a : Act} {w : World} {Q : Exit → Act → World → Prop} (ty : TypeId) (x : Operand) (ho : op.op = .load ty x)
    (b o : Nat) (hx : a.eval x = .pointer (some ⟨b, o, none⟩)) (cs : List Value) (d : TypeDesc) (hc : w.rangeAt b o cs) (hu : P.underlying ty = some d) (hd : d.isRow = true) (hi : (P.info? ty).map (·.size) = some cs.length)
    (hw : Region.wanted op (yielded ops a.tmps) = true) (h : wpList P ops Q rest (a.put op.dst (.agg cs.toArray)) w) : wpList P ops Q (op :: rest) a w :=
  BigFrame.wpList_want hw fun _ hK => wp_load_mid ty x ho b o hx cs d hc hu hd hi (hK _ _ h)
theorem range_block {w w' : World} {B o : Nat} {cs : List Value} (h : w.rangeAt B o cs) (e : w'.heap[B]? = w.heap[B]?) : w'.rangeAt B o cs := fun j v hv => by
  rw [← h j v hv]
  simp only [World.cell?, e]
/-- An open slot, out of the desk's blocks. -/
structure OpIn (w : World) (p g B o : Nat) (cs : List Value) : Prop where
  lt : B < w.heap.size
  ne : B ≠ p ∧ B ≠ g
  cells : w.rangeAt B o cs
theorem OpIn.below {w w' : World} {p g B o : Nat} {cs : List Value} (h : OpIn w p g B o cs) (hb : Below w.heap.size w w') : OpIn w' p g B o cs := ⟨Nat.lt_of_lt_of_le h.lt hb.size, h.ne, range_block h.cells (hb.block B h.lt)⟩
theorem OpIn.two {w w' : World} {p g B o : Nat} {cs : List Value} (h : OpIn w p g B o cs) (hb : ButTwo p g w w') : OpIn w' p g B o cs := ⟨Nat.lt_of_lt_of_le h.lt hb.size, h.ne, range_block h.cells (hb.block B h.lt h.ne.1 h.ne.2)⟩
set_option maxRecDepth 100000 in
set_option maxHeartbeats 16000000 in
theorem pwakes_any (w : World) : Calls Try.prog 7 #[] w fun e w' => e = .returned (.bool true) ∧ Below w.heap.size w w' := by
  have Hnew := Lib.hid dnew_any
  go_enter Try.func7, Try.ntmps7
  go_upto_region 2 with ((with_reducible refine (Hnew.out _).mono ?_); rintro e w1 ⟨rfl, hd, hb⟩; have H1 := Lib.hid (And.intro hd hb); clear hd hb)
  clear Hnew
  obtain ⟨p, hp⟩ : ∃ p, w.heap.size + 1 = p := ⟨_, rfl⟩
  obtain ⟨g, hg⟩ : ∃ g, w.heap.size = g := ⟨_, rfl⟩
  have Hpg := Lib.hid (show w.heap.size ≤ p ∧ w.heap.size ≤ g by omega)
  have H1 := Lib.hid (show DeskAt w1 p g 0 (fun _ => none) 0 ∧ (True ∧ Below w.heap.size w w1) from ⟨by rw [← hp, ← hg]; exact H1.out.1, trivial, H1.out.2⟩)
  rw [hp]
  clear hp
  have hop := dopen_ok p g 0 0 (fun _ => none) 1 ⟨#[97]⟩ 7 (by decide) (by decide) (by decide) (by decide) w1 H1.out.1
  have Hop := Lib.hid (show Calls Try.prog 11 #[.pointer (some ⟨p, 0, none⟩), .int .u64 1, .string ⟨#[97]⟩, .int .u8 7] w1 fun e w' => e = .returned (.int .i64 0) ∧ DeskAt w' p g 1 (dk ⟨⟨#[97]⟩, 7, 0⟩) 1 ∧ ButTwo p g w1 w' from hop)
  clear hop
  go_upto_region 3 with ((with_reducible refine Hop.out.mono ?_); rintro e w2 ⟨rfl, hd, hb⟩; have H2 := Lib.hid (And.intro hd hb); clear hd hb)
  have HI := Lib.hid (show WkI w p g 1 (dk ⟨⟨#[97]⟩, 7, 0⟩) w2 from ⟨H2.out.1, H2.out.2.below H1.out.2.2 H1.out.2.2.size Hpg.out.1 Hpg.out.2, Hpg.out⟩)
  clear H1 H2 Hop Hpg hg
  have Hv := Lib.hid (show Calls Try.prog 13 #[.pointer (some ⟨p, 0, none⟩), .int .u8 0, .int .u64 1] w2 fun e w' => e = .returned (.tuple #[.agg (itCells 0 ByteArray.empty).toArray, .bool false]) ∧ DeskAt w' p g 2 (dk ⟨⟨#[97]⟩, 7, 1⟩) 1 ∧ ButTwo p g w2 w' from (by have q := voted_more p g 1 1 (dk ⟨⟨#[97]⟩, 7, 0⟩) 0 1 ⟨⟨#[97]⟩, 7, 0⟩ (dk_at _) (by decide) (by decide) (by decide) (by decide) (by decide) (by decide) (by decide) _ HI.out.d; rw [dk_put] at q; exact q))
  go_upto_region 4 with (first
    | ((with_reducible refine Hv.out.mono ?_); rintro e w3 ⟨rfl, hd, hb⟩; have Hk := Lib.hid (HI.out.next hd hb); clear hd hb)
    | ((with_reducible refine wpList_store_mid rfl 34 _ _ rfl w3.heap.size 0 _ rfl rfl ?_ ?_ ?_ ?_); exact th_new w3 (itCells 0 ByteArray.empty) 34; exact it_size 0 ByteArray.empty; exact all_oneCell_toArray (it_one 0 ByteArray.empty)))
  have HI := Lib.hid Hk.out
  clear Hv Hk
  change Code.wp _ _ _ _ ((w3.alloc (.cells (itCells 0 ByteArray.empty).toArray 34)).setCells w3.heap.size 0 (itCells 0 ByteArray.empty))
  have hbx := box_below w3 (itCells 0 ByteArray.empty) (itCells 0 ByteArray.empty) 34
  have HI := Lib.hid (HI.out.below hbx)
  clear hbx
  generalize (w3.alloc (.cells (itCells 0 ByteArray.empty).toArray 34)).setCells w3.heap.size 0 (itCells 0 ByteArray.empty) = w3b at *
  have Hv := Lib.hid (show Calls Try.prog 13 #[.pointer (some ⟨p, 0, none⟩), .int .u8 0, .int .u64 1] w3b fun e w' => e = .returned (.tuple #[.agg (itCells 0 ByteArray.empty).toArray, .bool false]) ∧ DeskAt w' p g 3 (dk ⟨⟨#[97]⟩, 7, 1⟩) 1 ∧ ButTwo p g w3b w' from (by have q := voted_more p g 2 1 (dk ⟨⟨#[97]⟩, 7, 1⟩) 0 1 ⟨⟨#[97]⟩, 7, 1⟩ (dk_at _) (by decide) (by decide) (by decide) (by decide) (by decide) (by decide) (by decide) _ HI.out.d; rw [dk_put] at q; exact q))
  go_upto_region 5 with (first
    | ((with_reducible refine Hv.out.mono ?_); rintro e w4 ⟨rfl, hd, hb⟩; have Hk := Lib.hid (HI.out.next hd hb); clear hd hb)
    | ((with_reducible refine wpList_store_mid rfl 34 _ _ rfl w4.heap.size 0 _ rfl rfl ?_ ?_ ?_ ?_); exact th_new w4 (itCells 0 ByteArray.empty) 34; exact it_size 0 ByteArray.empty; exact all_oneCell_toArray (it_one 0 ByteArray.empty)))
  have HI := Lib.hid Hk.out
  clear Hv Hk
  change Code.wp _ _ _ _ ((w4.alloc (.cells (itCells 0 ByteArray.empty).toArray 34)).setCells w4.heap.size 0 (itCells 0 ByteArray.empty))
  have hbx := box_below w4 (itCells 0 ByteArray.empty) (itCells 0 ByteArray.empty) 34
  have HI := Lib.hid (HI.out.below hbx)
  clear hbx
  generalize (w4.alloc (.cells (itCells 0 ByteArray.empty).toArray 34)).setCells w4.heap.size 0 (itCells 0 ByteArray.empty) = w4b at *
  have Hv := Lib.hid (show Calls Try.prog 13 #[.pointer (some ⟨p, 0, none⟩), .int .u8 3, .int .u64 1] w4b fun e w' => e = .returned (.tuple #[.agg (itCells 0 ByteArray.empty).toArray, .bool false]) ∧ Below w4b.heap.size w4b w' from (voted_not p g 3 1 (dk ⟨⟨#[97]⟩, 7, 1⟩) 3 1 ⟨⟨#[97]⟩, 7, 1⟩ (dk_at _) (by decide) (by decide) (by decide) (by decide) _ HI.out.d))
  go_upto_region 6 with (first
    | ((with_reducible refine Hv.out.mono ?_); rintro e w5 ⟨rfl, hb⟩; have Hk := Lib.hid (HI.out.below hb); clear hb)
    | ((with_reducible refine wpList_store_mid rfl 34 _ _ rfl w5.heap.size 0 _ rfl rfl ?_ ?_ ?_ ?_); exact th_new w5 (itCells 0 ByteArray.empty) 34; exact it_size 0 ByteArray.empty; exact all_oneCell_toArray (it_one 0 ByteArray.empty)))
  have HI := Lib.hid Hk.out
  clear Hv Hk
  change Code.wp _ _ _ _ ((w5.alloc (.cells (itCells 0 ByteArray.empty).toArray 34)).setCells w5.heap.size 0 (itCells 0 ByteArray.empty))
  have hbx := box_below w5 (itCells 0 ByteArray.empty) (itCells 0 ByteArray.empty) 34
  have HI := Lib.hid (HI.out.below hbx)
  clear hbx
  generalize (w5.alloc (.cells (itCells 0 ByteArray.empty).toArray 34)).setCells w5.heap.size 0 (itCells 0 ByteArray.empty) = w5b at *
  have Hv := Lib.hid (all1_any p g 3 1 (dk ⟨⟨#[97]⟩, 7, 1⟩) dk_only (by decide) (fun s r h => by have k := (dk_low s r h).1; omega) w5b HI.out.d)
  go_upto_region 7 with ((with_reducible refine Hv.out.mono ?_); rintro e w6 ⟨A, m, c, rfl, hb, hal⟩; have H6 := Lib.hid (And.intro hb hal); clear hb hal)
  have Hlt := Lib.hid (And.intro HI.out.d.lt HI.out.d.mp.lt)
  have HI := Lib.hid (HI.out.below H6.out.1)
  obtain ⟨hb6, ⟨-, hno⟩ | ⟨rfl, s6, r6, B, bo, hD6, rfl, hB6, hr6⟩⟩ := H6.out
  · exact absurd ((dk_at _).symm.trans (hno 1 (by decide))) (by simp)
  obtain ⟨rfl, rfl⟩ := dk_low s6 r6 hD6
  have HR := Lib.hid (show OpIn w6 p g B bo (opCells 1 ⟨⟨#[97]⟩, 7, 1⟩) from ⟨hB6.2, ⟨by have := Hlt.out.1; omega, by have := Hlt.out.2; omega⟩, hr6⟩)
  clear hD6 hB6 hr6 hb6 H6 Hv Hlt
  have Hv := Lib.hid (show Calls Try.prog 13 #[.pointer (some ⟨p, 0, none⟩), .int .u8 2, .int .u64 1] w6 fun e w' => e = .returned (.tuple #[.agg (itCells 1 ⟨#[97]⟩).toArray, .bool true]) ∧ DeskAt w' p g 3 (fun _ => none) 1 ∧ ButTwo p g w6 w' from (by have q := voted_wins p g 3 1 (dk ⟨⟨#[97]⟩, 7, 1⟩) 2 1 ⟨⟨#[97]⟩, 7, 1⟩ (dk_at _) (by decide) (by decide) (by decide) (by decide) (by decide) (by decide) _ HI.out.d; rw [dk_del] at q; exact q))
  go_upto_region 8 with (first
    | ((with_reducible refine Hv.out.mono ?_); rintro e w7 ⟨rfl, hd, hb⟩; have Hk := Lib.hid (And.intro (HI.out.next hd hb) (HR.out.two hb)); clear hd hb)
    | ((with_reducible refine wpList_store_mid rfl 34 _ _ rfl w7.heap.size 0 _ rfl rfl ?_ ?_ ?_ ?_); exact th_new w7 (itCells 0 ByteArray.empty) 34; exact it_size 1 ⟨#[97]⟩; exact all_oneCell_toArray (it_one 1 ⟨#[97]⟩)))
  have HI := Lib.hid Hk.out.1
  have HR := Lib.hid Hk.out.2
  clear Hv Hk
  change Code.wp _ _ _ _ ((w7.alloc (.cells (itCells 0 ByteArray.empty).toArray 34)).setCells w7.heap.size 0 (itCells 1 ⟨#[97]⟩))
  have hbx := box_below w7 (itCells 0 ByteArray.empty) (itCells 1 ⟨#[97]⟩) 34
  have HI := Lib.hid (HI.out.below hbx)
  have HR := Lib.hid (HR.out.below hbx)
  have HT := Lib.hid (show ItAt ((w7.alloc (.cells (itCells 0 ByteArray.empty).toArray 34)).setCells w7.heap.size 0 (itCells 1 ⟨#[97]⟩)) w7.heap.size 1 ⟨#[97]⟩ from box_row w7 (itCells 0 ByteArray.empty) (itCells 1 ⟨#[97]⟩) 34 rfl)
  clear hbx
  generalize (w7.alloc (.cells (itCells 0 ByteArray.empty).toArray 34)).setCells w7.heap.size 0 (itCells 1 ⟨#[97]⟩) = w7b at *
  have Hv := Lib.hid (show Calls Try.prog 13 #[.pointer (some ⟨p, 0, none⟩), .int .u8 1, .int .u64 1] w7b fun e w' => e = .returned (.tuple #[.agg (itCells 0 ByteArray.empty).toArray, .bool false]) ∧ Below w7b.heap.size w7b w' from (voted_none p g 3 1 (fun _ => none) 1 1 rfl (by decide) _ HI.out.d))
  go_upto_region 9 with (first
    | ((with_reducible refine Hv.out.mono ?_); rintro e w8 ⟨rfl, hb⟩; have Hk := Lib.hid (And.intro (HI.out.below hb) (And.intro (HR.out.below hb) (HT.out.below hb))); clear hb)
    | ((with_reducible refine wpList_store_mid rfl 34 _ _ rfl w8.heap.size 0 _ rfl rfl ?_ ?_ ?_ ?_); exact th_new w8 (itCells 0 ByteArray.empty) 34; exact it_size 0 ByteArray.empty; exact all_oneCell_toArray (it_one 0 ByteArray.empty)))
  have HI := Lib.hid Hk.out.1
  have HR := Lib.hid Hk.out.2.1
  have HT := Lib.hid Hk.out.2.2
  clear Hv Hk
  change Code.wp _ _ _ _ ((w8.alloc (.cells (itCells 0 ByteArray.empty).toArray 34)).setCells w8.heap.size 0 (itCells 0 ByteArray.empty))
  have hbx := box_below w8 (itCells 0 ByteArray.empty) (itCells 0 ByteArray.empty) 34
  have HI := Lib.hid (HI.out.below hbx)
  have HR := Lib.hid (HR.out.below hbx)
  have HT := Lib.hid (HT.out.below hbx)
  clear hbx
  generalize (w8.alloc (.cells (itCells 0 ByteArray.empty).toArray 34)).setCells w8.heap.size 0 (itCells 0 ByteArray.empty) = w8b at *
  have Hos := Lib.hid (show ∀ y : World, DeskAt y p g 3 (fun _ => none) 1 → Calls Try.prog 11 #[.pointer (some ⟨p, 0, none⟩), .int .u64 1, .string ⟨#[98]⟩, .int .u8 7] y fun e w' => e = .returned (.int .i64 13) ∧ Below y.heap.size y w' from fun y h => dopen_state p g 3 1 (fun _ => none) 1 ⟨#[98]⟩ 7 (by decide) (by decide) y h)
  have Hae := Lib.hid (fun (y : World) (h : DeskAt y p g 3 (fun _ => none) 1) => all1_any p g 3 1 (fun _ => none) (fun _ _ _ _ h _ => absurd h (by simp)) (by decide) (fun _ _ h => absurd h (by simp)) y h)
  have Hls := Lib.hid (show ∀ y : World, DeskAt y p g 3 (fun _ => none) 1 → Calls Try.prog 17 #[.pointer (some ⟨p, 0, none⟩)] y fun e w' => e = .returned (.int .u64 1) ∧ Below y.heap.size y w' from fun y h => dlast_any p g 3 1 (fun _ => none) y h)
  have hIT : (Try.prog.info? 34).map (·.size) = some [(.int .u64 1 : Value), .string ⟨#[97]⟩].length := it_size 1 ⟨#[97]⟩
  have hOP : (Try.prog.info? 63).map (·.size) = some [(.int .u64 1 : Value), .string ⟨#[97]⟩, .int .u8 7, .int .u8 1].length := op_size 1 ⟨⟨#[97]⟩, 7, 1⟩
  have Hrl := Lib.hid (show w8b.rangeAt B bo [.int .u64 1, .string ⟨#[97]⟩, .int .u8 7, .int .u8 1] from HR.out.cells)
  have Hil := Lib.hid (show w8b.rangeAt w7.heap.size 0 [.int .u64 1, .string ⟨#[97]⟩] from range_row HT.out)
  go_wp2_with (first
    | ((with_reducible refine wpList_load_grd 63 _ rfl B bo rfl [.int .u64 1, .string ⟨#[97]⟩, .int .u8 7, .int .u8 1] _ Hrl.out Try.underlying63 rfl hOP ?_ ?_); exact (Eq.refl true))
    | ((with_reducible refine wpList_load_grd 63 _ rfl B (bo + 0 * 4) rfl [.int .u64 1, .string ⟨#[97]⟩, .int .u8 7, .int .u8 1] _ Hrl.out Try.underlying63 rfl hOP ?_ ?_); exact (Eq.refl true))
    | ((with_reducible refine wpList_load_grd 34 _ rfl w7.heap.size 0 rfl [.int .u64 1, .string ⟨#[97]⟩] _ Hil.out Try.underlying34 rfl hIT ?_ ?_); exact (Eq.refl true))
    | ((with_reducible refine (Hos.out _ HI.out.d).mono ?_); rintro e wa ⟨rfl, hb⟩; have HI := Lib.hid (HI.out.below hb); clear hb)
    | ((with_reducible refine (Hae.out _ HI.out.d).mono ?_); rintro e wb ⟨A, m, c, rfl, hb, hal⟩; have hm : m = 0 := hal.elim (·.1) (fun q => by obtain ⟨-, s6, r6, B6, o6, q, -⟩ := q; cases q); subst hm; have HI := Lib.hid (HI.out.below hb); clear hb hal)
    | ((with_reducible refine (Hls.out _ HI.out.d).mono ?_); rintro e wc ⟨rfl, hb⟩; have HI := Lib.hid (HI.out.below hb); clear hb))
  go_ret
  exact ⟨rfl, HI.out.bel⟩
end Go.Proofs.Ytoleiiicbnmhpaa
namespace Go.Proofs.Ytoleiiicbnmhpaa
open Go.RowKit
open Go.Maps (Keyed)
open Go.ChangeShapes Go.WideShapes Go.Deep Go.RowKit
theorem tr_u8 {n : Int} (h : (Lit.int .u8 n).wf = true) : ∃ x : BitVec 8, n = (x.toNat : Int) := by
  have h' : 0 ≤ n ∧ n ≤ 255 := by simpa [Lit.wf, IntKind.min, IntKind.max, IntKind.signed, IntKind.bits] using h
  exact ⟨BitVec.ofInt 8 n, by simp only [BitVec.toNat_ofInt]; omega⟩
end Go.Proofs.Ytoleiiicbnmhpaa
namespace Go.Proofs.Ytoleiiicbnmhpaa
open Go.RowKit
/-- One vote: the nodes that voted, and whether the slot is decided now. -/
def vStep (c : Nat) (o : Option Nat) (nd : Nat) : Option Nat × Bool :=
  match o with
  | none => (none, false)
  | some who => if hasS c nd = true then (if majorS c (withS who (ofS nd)) = true then (none, true) else (some (withS who (ofS nd)), false)) else (some who, false)
def dk1 (c s : Nat) (x : ByteArray) (o : Option Nat) : Nat → Option OpR := updD (fun _ => none) s (o.map fun who => ⟨x, c, who⟩)
theorem dk1_at (c s : Nat) (x : ByteArray) (o : Option Nat) : dk1 c s x o s = o.map fun who => ⟨x, c, who⟩ := by simp [dk1, updD]
theorem dk1_put (c s : Nat) (x : ByteArray) (o q : Option Nat) : updD (dk1 c s x o) s (q.map fun who => ⟨x, c, who⟩) = dk1 c s x q := by
  funext k
  simp only [dk1, updD]
  split <;> rfl
def VotePost (p g n last c s : Nat) (x : ByteArray) (o : Option Nat) (nd : Nat) (w : World) (e : Ending) (w' : World) : Prop :=
  ∃ S X, e = .returned (.tuple #[.agg (itCells S X).toArray, .bool (vStep c o nd).2]) ∧ (∃ m, m ≤ n + 1 ∧ DeskAt w' p g m (dk1 c s x (vStep c o nd).1) last) ∧ ButTwo p g w w'
theorem voted_step (p g n last c s : Nat) (x : ByteArray) (o : Option Nat) (nd : Nat) (hc : c < 256) (hw : ∀ who, o = some who → who < 256) (hn : nd < 256) (hn5 : n < 100000) (hs : s < 18446744073709551616) (w : World) (h : DeskAt w p g n (dk1 c s x o) last) :
    Calls Try.prog 13 #[.pointer (some ⟨p, 0, none⟩), .int .u8 (nd : Int), .int .u64 (s : Int)] w (VotePost p g n last c s x o nd w) := by
  cases o with
  | none => exact (voted_none p g n last _ nd s (dk1_at c s x none) hs w h).mono fun e w' ⟨he, hb⟩ => ⟨_, _, he, ⟨n, by omega, h.below hb⟩, two_of hb⟩
  | some who =>
    have hw' := hw who rfl
    by_cases hh : hasS c nd = true
    · by_cases hm : majorS c (withS who (ofS nd)) = true
      · have q := voted_wins p g n last _ nd s ⟨x, c, who⟩ (dk1_at c s x (some who)) hc hw' hn hh hm hs w h
        refine q.mono fun e w' ⟨he, hd, hb⟩ => ⟨s, x, ?_, ⟨n, by omega, ?_⟩, hb⟩
        · rw [he]; simp only [vStep, hh, hm, if_true]; rfl
        · rw [show (none : Option OpR) = (none : Option Nat).map (fun who => (⟨x, c, who⟩ : OpR)) from rfl, dk1_put] at hd
          simp only [vStep, hh, hm, if_true]
          exact hd
      · have hm' : majorS c (withS who (ofS nd)) = false := by simpa using hm
        have q := voted_more p g n last _ nd s ⟨x, c, who⟩ (dk1_at c s x (some who)) hc hw' hn hn5 hh hm' hs w h
        refine q.mono fun e w' ⟨he, hd, hb⟩ => ⟨0, ByteArray.empty, ?_, ⟨n + 1, by omega, ?_⟩, hb⟩
        · rw [he]; simp only [vStep, hh, hm, if_true]; rfl
        · have hd' : DeskAt w' p g (n + 1) (updD (dk1 c s x (some who)) s ((some (withS who (ofS nd))).map fun who => (⟨x, c, who⟩ : OpR))) last := hd
          rw [dk1_put] at hd'
          simp only [vStep, hh, hm, if_true]
          exact hd'
    · have hh' : hasS c nd = false := by simpa using hh
      have q := voted_not p g n last _ nd s ⟨x, c, who⟩ (dk1_at c s x (some who)) hc hn hh' hs w h
      refine q.mono fun e w' ⟨he, hb⟩ => ⟨0, ByteArray.empty, ?_, ⟨n, by omega, ?_⟩, two_of hb⟩
      · rw [he]; simp only [vStep, hh]; rfl
      · simp only [vStep, hh]
        exact h.below hb
end Go.Proofs.Ytoleiiicbnmhpaa
namespace Go.Proofs.Ytoleiiicbnmhpaa
open Go.RowKit
def accOf (l : List Nat) : Nat := l.foldl (fun s v => withS s (ofS v)) 0
theorem accOf_app (l : List Nat) (v : Nat) : accOf (l ++ [v]) = withS (accOf l) (ofS v) := by simp [accOf]
theorem bit127 (i : Nat) : (127 : Nat).testBit i = decide (i < 7) := by
  by_cases h : i < 7
  · have : i = 0 ∨ i = 1 ∨ i = 2 ∨ i = 3 ∨ i = 4 ∨ i = 5 ∨ i = 6 := by omega
    rcases this with rfl | rfl | rfl | rfl | rfl | rfl | rfl <;> decide
  · rw [Nat.testBit_lt_two_pow (Nat.lt_of_lt_of_le (show 127 < 2 ^ 7 by decide) (Nat.pow_le_pow_right (by omega) (by omega)))]
    simp [h]
theorem bit_of (v i : Nat) : (ofS v).testBit i = decide (v < 7 ∧ v = i) := by
  unfold ofS
  split
  · next h =>
    rw [Nat.one_shiftLeft, Nat.testBit_two_pow]
    simp [h]
  · next h => simp [h]
theorem bit_with (x y i : Nat) : (withS x y).testBit i = ((x.testBit i || y.testBit i) && decide (i < 7)) := by
  simp [withS, Nat.testBit_and, Nat.testBit_or, bit127]
theorem bit_acc (l : List Nat) (i : Nat) : (accOf l).testBit i = decide (i < 7 ∧ i ∈ l) := by
  have q : ∀ (l : List Nat) (s : Nat), (l.foldl (fun s v => withS s (ofS v)) s).testBit i = ((s.testBit i && (l.isEmpty || decide (i < 7))) || decide (i < 7 ∧ i ∈ l)) := by
    intro l
    induction l with
    | nil => intro s; simp
    | cons v l ih =>
      intro s
      rw [List.foldl_cons, ih, bit_with, bit_of]
      by_cases h7 : i < 7
      · by_cases hv : v = i
        · subst hv; simp [h7]
        · have hv' : ¬ i = v := fun e => hv e.symm
          simp [h7, hv, hv']
      · simp [h7]
  rw [accOf, q]
  simp
theorem acc_same {l k : List Nat} (h : ∀ v, v ∈ l ↔ v ∈ k) : accOf l = accOf k := by
  apply Nat.eq_of_testBit_eq
  intro i
  rw [bit_acc, bit_acc]
  simp [h i]
theorem acc_lt (l : List Nat) : accOf l < 128 := by
  refine Nat.lt_pow_two_of_testBit (n := 7) _ fun i hi => ?_
  rw [bit_acc]
  simp; omega
theorem both_acc (c : Nat) {a b : Nat} (h : c &&& a = c &&& b) : majorS c a = majorS c b := by
  unfold majorS bothS
  rw [h]
theorem with_in (c a b x : Nat) (h : c &&& a = c &&& b) : c &&& withS a x = c &&& withS b x := by
  apply Nat.eq_of_testBit_eq
  intro i
  have := congrArg (fun n => n.testBit i) h
  simp only [Nat.testBit_and] at this
  simp only [Nat.testBit_and, bit_with]
  cases hc : c.testBit i
  · simp
  · rw [hc] at this
    simp only [Bool.true_and] at this
    rw [this]
theorem with_out (c b v : Nat) (hb : b < 128) (h : hasS c v = false) : c &&& withS b (ofS v) = c &&& b := by
  have h0 : c &&& ofS v = 0 := by simpa [hasS] using h
  apply Nat.eq_of_testBit_eq
  intro i
  have := congrArg (fun n => n.testBit i) h0
  simp only [Nat.testBit_and, Nat.zero_testBit] at this
  simp only [Nat.testBit_and, bit_with]
  have hb7 : b.testBit i = true → i < 7 := fun e => by
    refine Nat.lt_of_not_le fun h7 => ?_
    rw [Nat.testBit_lt_two_pow (Nat.lt_of_lt_of_le hb (Nat.pow_le_pow_right (by omega : 2 > 0) h7 : 2 ^ 7 ≤ 2 ^ i))] at e
    cases e
  cases hc : c.testBit i
  · simp
  · rw [hc] at this
    simp only [Bool.true_and] at this
    rw [this]
    cases hbi : b.testBit i
    · simp
    · simp [hb7 hbi]
theorem pop_up : ∀ a : Fin 128, ∀ b : Fin 128, pop8 (a.val &&& b.val) ≤ pop8 b.val := by decide +kernel
theorem major_up (c b v : Nat) (_hc : c < 128) (_hb : b < 128) (h : majorS c b = true) : majorS c (withS b (ofS v)) = true := by
  simp only [majorS, decide_eq_true_eq] at h ⊢
  refine Nat.le_trans h ?_
  have hl : ∀ x : Nat, bothS c x &&& 127 < 128 := fun x => Nat.lt_of_le_of_lt Nat.and_le_right (by decide)
  have e : bothS c b &&& 127 = (bothS c b &&& 127) &&& (bothS c (withS b (ofS v)) &&& 127) := by
    apply Nat.eq_of_testBit_eq
    intro i
    simp only [bothS, Nat.testBit_and, bit_with, bit127]
    cases c.testBit i <;> cases b.testBit i <;> simp
  rw [e]
  exact pop_up ⟨_, hl b⟩ ⟨_, hl (withS b (ofS v))⟩
structure VInv (c acc : Nat) (o : Option Nat) (a : Nat) : Prop where
  open' : ∀ who, o = some who → who < 128 ∧ c &&& who = c &&& acc
  says : a = if majorS c acc = true then 1 else 0
  is : o.isNone = majorS c acc
theorem vinv_new (c : Nat) : VInv c (accOf []) (some 0) 0 := by
  have h : majorS c (accOf []) = false := by
    have e : accOf [] = 0 := rfl
    rw [e]
    simp [majorS, bothS, needS, pop8]
  refine ⟨fun who h => ?_, by rw [h]; rfl, by rw [h]; rfl⟩
  cases h
  exact ⟨by decide, rfl⟩
theorem vinv_step {c a v : Nat} {l : List Nat} {o : Option Nat} (hc : c < 128) (h : VInv c (accOf l) o a) : VInv c (accOf (l ++ [v])) (vStep c o v).1 (a + (vStep c o v).2.toNat) := by
  rw [accOf_app]
  have hl := acc_lt l
  cases o with
  | none =>
    have hm : majorS c (accOf l) = true := by rw [← h.is]; rfl
    have hm2 := major_up c (accOf l) v hc hl hm
    have hs := h.says
    rw [hm] at hs
    refine ⟨fun who e => by simp [vStep] at e, ?_, by rw [hm2]; rfl⟩
    rw [hm2]
    simpa [vStep] using hs
  | some who =>
    obtain ⟨h1, h2⟩ := h.open' who rfl
    have hm : majorS c (accOf l) = false := by rw [← h.is]; rfl
    have hs := h.says
    rw [hm] at hs
    simp only [Bool.false_eq_true, if_false] at hs
    subst hs
    have hw128 : withS who (ofS v) < 128 := Nat.lt_of_le_of_lt Nat.and_le_right (by decide)
    by_cases hh : hasS c v = true
    · have e := with_in c who (accOf l) (ofS v) h2
      have em := both_acc c e
      by_cases hm2 : majorS c (withS who (ofS v)) = true
      · have q := em.symm.trans hm2
        refine ⟨fun x y => by simp [vStep, hh, hm2] at y, ?_, ?_⟩
        · rw [q]; simp [vStep, hh, hm2]
        · rw [q]; simp [vStep, hh, hm2]
      · have hm3 : majorS c (withS who (ofS v)) = false := by simpa using hm2
        have q := em.symm.trans hm3
        refine ⟨fun x y => ?_, ?_, ?_⟩
        · have y' : withS who (ofS v) = x := by simpa [vStep, hh, hm3] using y
          subst y'
          exact ⟨hw128, e⟩
        · rw [q]; simp [vStep, hh, hm3]
        · rw [q]; simp [vStep, hh, hm3]
    · have hh' : hasS c v = false := by simpa using hh
      have e := with_out c (accOf l) v hl hh'
      have q := (both_acc c e).trans hm
      refine ⟨fun x y => ?_, ?_, ?_⟩
      · have y' : who = x := by simpa [vStep, hh'] using y
        subst y'
        exact ⟨h1, h2.trans e.symm⟩
      · rw [q]; simp [vStep, hh']
      · rw [q]; simp [vStep, hh']
end Go.Proofs.Ytoleiiicbnmhpaa
