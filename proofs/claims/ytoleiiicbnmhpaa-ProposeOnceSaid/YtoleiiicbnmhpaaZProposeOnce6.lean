/- The keys of a map, sorted, however many there are. Condition: the map lies there. -/
import Derived.Test.YtoleiiicbnmhpaaZProposeOnce4
import Derived.Test.YtoleiiicbnmhpaaZProposeOnce5
import Derived.Laws.AppendOwn
import Derived.Laws.AppendOwnNone
import Derived.OwnWalk
import Derived.Test.YtoleiiicbnmhpaaZProposeOnce0
import Derived.ChangeArms
import Derived.Deep.Slices
import Derived.Deep.Fields
import Derived.WideShapes
namespace Go.Proofs.Ytoleiiicbnmhpaa
open Go.RowKit Go.Maps Go.Shelf
theorem own_r64 {w : World} {g n : Nat} {cur : Array Value} {t : TypeId} {ss : List Int} (hg : w.heap[g]? = some (.cells cur t (0, 0))) (hn : ss.length = n) (ht : cur.toList.take n = ss.map u64v) : R64 w g ss.toArray := by
  intro j hj
  have hj' : j < ss.length := by simpa using hj
  constructor
  · unfold World.cell?
    rw [hg, Nat.zero_add]
    have e1 : (cur.toList.take n)[j]? = some (u64v ss[j]) := by rw [ht, List.getElem?_map, List.getElem?_eq_getElem hj']; rfl
    rw [List.getElem?_take, if_pos (by omega)] at e1
    have e2 : ss.toArray[j]! = ss[j] := by
      rw [getElem!_pos _ j (by simpa using hj')]
      simp
    rw [e2]
    show cur[j]? = _
    rw [← Array.getElem?_toList]
    exact e1
  · unfold World.frozen?
    rw [hg]
    rfl
theorem srt_row {w w3 : World} {g n : Nat} {cur : Array Value} {t : TypeId} {d : Array Int} (hg : w.heap[g]? = some (.cells cur t (0, 0))) (hn : d.size = n) (hc : n ≤ cur.size) (h : SrtAt w g d w3) :
    ∃ cur', w3.heap[g]? = some (.cells cur' t (0, 0)) ∧ cur'.size = cur.size ∧ cur'.toList.take n = d.toList.map u64v := by
  have hlt : g < w.heap.size := (Array.getElem?_eq_some_iff.1 hg).1
  have hb : w3.heap[g]? = (rw64 w 0 g d).heap[g]? := RowKit.Below.block h g hlt
  have hm : (rw64 w 0 g d).heap[g]? = some (.cells (Go.Sort.putCells (Value.int .u64) 0 d cur) t (0, 0)) := by
    show (Go.Sort.mapBlock _ _ _).heap[g]? = _
    unfold Go.Sort.mapBlock
    simp only [Array.getElem?_modify]
    rw [if_pos trivial, show (Go.Sort.ahead w 0).heap[g]? = w.heap[g]? from rfl, hg]
    rfl
  refine ⟨_, hb.trans hm, by simp [Go.Sort.putCells], ?_⟩
  refine List.ext_getElem? fun i => ?_
  by_cases hi : i < n
  · rw [List.getElem?_take, if_pos hi, Array.getElem?_toList, List.getElem?_map]
    have h1 : i < (Go.Sort.putCells (Value.int .u64) 0 d cur).size := by simp [Go.Sort.putCells]; omega
    rw [Array.getElem?_eq_getElem h1, List.getElem?_eq_getElem (by simpa [hn] using hi)]
    simp only [Go.Sort.putCells, Array.getElem_mapIdx, Option.map_some]
    rw [if_pos (by omega), Nat.sub_zero, getElem!_pos d i (by omega)]
    simp
  · rw [List.getElem?_eq_none (by simp; omega), List.getElem?_eq_none (by simp; omega)]
theorem has_key {D : DataW Value} {x : Int} (h : Maps.has D (.int .u64 x) = true) : ∃ l, D = .map l ∧ x ∈ l.filterMap (fun p => match p.1 with | .int _ a => some a | _ => none) := by
  cases D with
  | map l =>
    refine ⟨l, rfl, ?_⟩
    simp only [Maps.has, List.any_eq_true] at h
    obtain ⟨p, hp, hk⟩ := h
    rw [List.mem_filterMap]
    refine ⟨p, hp, ?_⟩
    obtain ⟨k, v⟩ := p
    cases k <;> simp [Lit.sameKey] at hk ⊢
    rw [hk.2]
  | _ => simp [Maps.has] at h
theorem nodup_len {ss l : List Int} (hn : ss.Nodup) (hs : ∀ x ∈ ss, x ∈ l) : ss.length ≤ l.length := by
  induction ss generalizing l with
  | nil => simp
  | cons x r ih =>
    have hx : x ∈ l := hs x (by simp)
    have h1 := ih (List.nodup_cons.1 hn).2 (l := l.erase x) (fun y hy => by
      have hne : y ≠ x := fun e => (List.nodup_cons.1 hn).1 (e ▸ hy)
      exact (List.mem_erase_of_ne hne).2 (hs y (by simp [hy])))
    rw [List.length_erase_of_mem hx] at h1
    have : 0 < l.length := List.length_pos_of_mem hx
    simp
    omega
theorem came_size {D : DataW Value} {ss : List Int} (h : Came D (fun _ => false) ss) : ss.length ≤ Maps.size D := by
  match ss, h with
  | [], _ => exact Nat.zero_le _
  | x :: r, h =>
    obtain ⟨l, rfl, _⟩ := has_key ((h.2 x).1 (by simp)).1
    have hsub : ∀ y ∈ (x :: r), y ∈ l.filterMap (fun p => match p.1 with | .int _ a => some a | _ => none) := fun y hy => by
      obtain ⟨l', e, hm⟩ := has_key ((h.2 y).1 hy).1
      cases e
      exact hm
    have h1 := nodup_len h.1 hsub
    exact Nat.le_trans h1 (List.length_filterMap_le _ _)
/-- The sorted keys. -/
def KeysPostS (D0 : DataW Value) (w : World) (e : Ending) (w' : World) : Prop := ∃ v ss, e = .returned v ∧ (Came D0 (fun _ => false) ss ∧ ss.Pairwise (fun x y => x < y)) ∧ w'.ownsRow w.heap.size 31 1 v ss.length (ss.map u64v) ∧ (v = .slice none 0 0 ↔ ss = []) ∧ Below w.heap.size w w'
theorem came_sorted {D0 : DataW Value} {ss : List Int} (h : Came D0 (fun _ => false) ss) : Came D0 (fun _ => false) (ss.mergeSort (fun x y => decide (x ≤ y))) ∧ (ss.mergeSort (fun x y => decide (x ≤ y))).Pairwise (fun x y => x < y) := by
  have hp := List.mergeSort_perm ss (fun x y => decide (x ≤ y))
  have hs := List.pairwise_mergeSort (le := fun x y : Int => decide (x ≤ y)) (fun a b c h1 h2 => by simp at *; omega) (fun a b => by simp; omega) ss
  have hnd := hp.nodup_iff.2 h.1
  refine ⟨⟨hnd, fun x => (hp.mem_iff).trans (h.2 x)⟩, ?_⟩
  have hnd2 : (ss.mergeSort (fun x y => decide (x ≤ y))).Pairwise (fun x y => x ≠ y) := hnd
  exact (hs.and hnd2).imp fun hh => by
    have h1 := hh.1
    have h2 := hh.2
    simp at h1
    omega
theorem sortedK_any (Bm b nn : Nat) (D0 : DataW Value) (hN : Maps.size D0 ≤ 1000000) (w : World) (hBm : Bm < w.heap.size) (hc : w.cell? ⟨Bm, 0, none⟩ = some (.map (some b))) (hown : w.ownsMap Try.prog 31 Rv b nn D0) :
    Calls Try.prog 27 #[.func (.func 36) #[] #[.pointer (some ⟨Bm, 0, none⟩)]] w (KeysPostS D0 w) := by
  have H := Lib.hid (collect_any Bm b nn D0 hN w hBm hc hown)
  clear hown hc
  go_enter Try.func27, Try.ntmps27
  go_upto_region 2 with ((with_reducible refine H.out.mono ?_); rintro e w2 ⟨v, ss, rfl, h1, h2, h3, h4⟩; have H2 := Lib.hid (And.intro h1 (And.intro h2 (And.intro h3 h4))); clear h1 h2 h3 h4)
  rcases H2.out.2.1.2 with ⟨rfl, h0⟩ | ⟨g, cap, cur, rfl, hbase, hg, hnc, hcm, hcs, ht⟩
  · have hss : ss = [] := List.eq_nil_of_length_eq_zero h0
    subst hss
    have Hs := Lib.hid (sort1_any none 0 0 (by omega) w2)
    go_wp2_with ((with_reducible refine Hs.out.mono ?_); rintro e w3 ⟨rfl, h3⟩; have H3 := Lib.hid h3; clear h3)
    go_ret
    refine ⟨.slice none 0 0, [], rfl, ⟨H2.out.1, List.Pairwise.nil⟩, ⟨rfl, .inl ⟨rfl, rfl⟩⟩, ⟨fun _ => rfl, fun _ => rfl⟩, H2.out.2.2.2.trans (H3.out.mono H2.out.2.2.2.size)⟩
  · rw [Nat.mul_one] at ht hcs
    have hrow := own_r64 hg rfl ht
    have hml := came_size H2.out.1
    have hs := sorted64 g cap ss.length ss.toArray w2 (by simp) hrow (Array.getElem?_eq_some_iff.1 hg).1 (by omega)
    have hne : ss ≠ [] := fun e => by
      have := H2.out.2.2.1.2 e
      cases this
    have Hs := Lib.hid hs
    have HG := Lib.hid (And.intro hg (And.intro hbase (And.intro hnc (And.intro hcm hcs))))
    clear hs hrow hg hbase hnc hcm hcs ht
    go_wp2_with ((with_reducible refine Hs.out.mono ?_); rintro e w3 ⟨rfl, h3⟩; have H3 := Lib.hid h3; clear h3)
    go_ret
    obtain ⟨hg, hbase, hnc, hcm, hcs⟩ := HG.out
    have hpl := sort_plain ss
    have hcs2 := came_sorted H2.out.1
    rw [← hpl] at hcs2
    have hlen : (Go.Sort.sort Go.Sort.ltInt ss.toArray).toList.length = ss.length := by rw [hpl, List.length_mergeSort]
    have hsz : (Go.Sort.sort Go.Sort.ltInt ss.toArray).size = ss.length := by rw [← Array.length_toList]; exact hlen
    obtain ⟨cur', k1, k2, k3⟩ := srt_row hg hsz (by omega) H3.out
    refine ⟨.slice (some ⟨g, 0, none⟩) ss.length cap, (Go.Sort.sort Go.Sort.ltInt ss.toArray).toList, rfl, hcs2, ⟨by simp [hlen], .inr ⟨g, cap, cur', by rw [hlen], hbase, k1, by omega, hcm, by omega, by rw [hlen, Nat.mul_one]; exact k3⟩⟩, ⟨(fun e => by cases e), fun e => ?_⟩, ?_⟩
    · exfalso
      have : ss.length = 0 := by rw [← hlen, e]; rfl
      exact hne (List.eq_nil_of_length_eq_zero this)
    · refine H2.out.2.2.2.trans ?_
      have hb : RowKit.Below g (rw64 w2 0 g (Go.Sort.sort Go.Sort.ltInt ss.toArray)) w3 := RowKit.Below.mono H3.out (Nat.le_of_lt (Array.getElem?_eq_some_iff.1 hg).1)
      have hb2 : RowKit.Below g w2 (rw64 w2 0 g (Go.Sort.sort Go.Sort.ltInt ss.toArray)) := ⟨rfl, rfl, rfl, by rw [rw_hsize]; exact Nat.le_refl _, fun k hk => rw_heap _ _ _ _ _ (by omega)⟩
      exact (hb2.trans hb).mono hbase
end Go.Proofs.Ytoleiiicbnmhpaa
namespace Go.Proofs.Ytoleiiicbnmhpaa
open Go.RowKit
section
variable {α : Type} {enc : α → List Value} {k : Nat}
/-- The cells of a row. -/
def flat (enc : α → List Value) (z : List α) : List Value := z.flatMap enc
theorem flat_len (hk : ∀ x, (enc x).length = k) : ∀ z : List α, (flat enc z).length = z.length * k
  | [] => by simp [flat]
  | x :: r => by
    have h := flat_len hk r
    unfold flat at *
    rw [List.flatMap_cons, List.length_append, hk, h, List.length_cons, Nat.succ_mul]
    omega
theorem flat_app (z y : List α) : flat enc (z ++ y) = flat enc z ++ flat enc y := by simp [flat]
theorem flat_at (hk : ∀ x, (enc x).length = k) : ∀ (z : List α) (i r : Nat) (x : α) (u : Value), z[i]? = some x → (enc x)[r]? = some u → (flat enc z)[i * k + r]? = some u
  | [], _, _, _, _, h, _ => by simp at h
  | y :: l, 0, r, x, u, h, hu => by
    simp at h
    subst h
    have hr : r < (enc y).length := (List.getElem?_eq_some_iff.1 hu).1
    unfold flat
    rw [List.flatMap_cons, Nat.zero_mul, Nat.zero_add, List.getElem?_append_left hr, hu]
  | y :: l, i + 1, r, x, u, h, hu => by
    simp at h
    have ih := flat_at hk l i r x u h hu
    unfold flat at *
    rw [List.flatMap_cons, List.getElem?_append_right (by rw [hk, Nat.succ_mul]; omega), hk, Nat.succ_mul, show i * k + k + r - k = i * k + r by omega]
    exact ih
theorem flat_get (hk : ∀ x, (enc x).length = k) (hk0 : 0 < k) {z : List α} {j : Nat} {u : Value} (h : (flat enc z)[j]? = some u) : ∃ x, z[j / k]? = some x ∧ (enc x)[j % k]? = some u := by
  have hj : j < z.length * k := by
    have := (List.getElem?_eq_some_iff.1 h).1
    rwa [flat_len hk] at this
  have hi : j / k < z.length := Nat.div_lt_of_lt_mul (by rw [Nat.mul_comm]; exact hj)
  have hr : j % k < (enc z[j / k]).length := by rw [hk]; exact Nat.mod_lt _ hk0
  have e := flat_at hk z (j / k) (j % k) z[j / k] _ (List.getElem?_eq_getElem hi) (List.getElem?_eq_getElem hr)
  rw [show j / k * k + j % k = j by rw [Nat.mul_comm]; exact Nat.div_add_mod j k, h] at e
  cases e
  exact ⟨_, List.getElem?_eq_getElem hi, List.getElem?_eq_getElem hr⟩
theorem flat_one (h1 : ∀ x, ∀ u ∈ enc x, u.oneCell' = true) (z : List α) : ∀ u ∈ flat enc z, u.oneCell' = true := by
  intro u hu
  obtain ⟨x, _, hx⟩ := List.mem_flatMap.1 hu
  exact h1 x u hx
/-- An owned row reads as its elements. -/
theorem own_slice {w : World} {base : Nat} {e : TypeId} {A : Option Addr} {n c : Nat} {z : List α} (hk : ∀ x, (enc x).length = k) (h : w.ownsRow base e k (.slice A n c) n (flat enc z)) (hz : z.length = n) (hm : n ≤ maxLen) : SliceAt k enc w A n z := by
  obtain ⟨h1, h2⟩ := h
  refine ⟨hz, hm, fun i x hx => ?_⟩
  have hi : i < z.length := (List.getElem?_eq_some_iff.1 hx).1
  rcases h2 with ⟨_, h3⟩ | ⟨g, cap, cur, e1, _, hg, _, _, _, ht⟩
  · omega
  · cases e1
    refine ⟨g, 0, rfl, (Array.getElem?_eq_some_iff.1 hg).1, fun j v hj => ?_⟩
    have e := flat_at hk z i j x v hx hj
    have hlt : i * k + j < n * k := by
      have := (List.getElem?_eq_some_iff.1 e).1
      rwa [flat_len hk, hz] at this
    rw [← ht, List.getElem?_take, if_pos hlt, Array.getElem?_toList] at e
    simp only [World.cell?, hg, Nat.zero_add]
    simpa using e
theorem own_slice_of {w : World} {base : Nat} {e : TypeId} {v : Value} {n : Nat} {xs : List Value} (h : w.ownsRow base e k v n xs) : ∃ A c, v = .slice A n c := by
  rcases h.2 with ⟨rfl, rfl⟩ | ⟨g, cap, cur, rfl, _⟩
  · exact ⟨none, 0, rfl⟩
  · exact ⟨_, _, rfl⟩
/-- 'append(s, x...)', s owned, x a row of structs, nil or not. -/
theorem wp_append_slice {P : Program} {w : World} {o : Oper} {a : Act} {K : Act → World → Prop} {Q : Exit → Act → World → Prop} (s x : Operand) (t : TypeId)
    (ho : o.op = .call { callee := .builtin .append, args := #[s, x], argTypes := #[t, t] })
    (base : Nat) (e : TypeId) (i : TypeInfo) (z0 : Value) (bytes : Nat) (ht : P.underlying t = some (.slice e)) (hi : P.info? e = some i) (hz : i.zero = some z0)
    (hsize : i.size = k) (hby : i.bytes = bytes) (hzs : z0.cells.size = k) (hk0 : 0 < k) (hk : ∀ x, (enc x).length = k) (h1 : ∀ x, ∀ u ∈ enc x, u.oneCell' = true)
    (v : Value) (n : Nat) (xs : List Value) (hs : a.eval s = v) (hown : w.ownsRow base e k v n xs) (A : Option Addr) (m c : Nat) (z : List α) (hx : a.eval x = .slice A m c) (hsrc : SliceAt k enc w A m z) (hnil : A = none → m = 0 ∧ c = 0)
    (h63 : n + m ≤ maxLen) (hbytes : (n + m) * bytes ≤ 140737488355328) (hbase : base ≤ w.heap.size)
    (h : ∀ v' w', w'.ownsRow base e k v' (n + m) (xs ++ flat enc z) → w.grownBy w' v.ownBlock → K (a.put o.dst v') w') : o.wp P a w K Q := by
  cases A with
  | none =>
    obtain ⟨rfl, rfl⟩ := hnil rfl
    have hz0 : z = [] := List.eq_nil_of_length_eq_zero hsrc.hlen
    subst hz0
    have hrun := run_append_owned_none (P := P) (w := w) base t o.type e i k ht hi v n xs hown
    have hh := h v w (by simpa [flat] using hown) (World.grownBy.refl w _)
    unfold Oper.wp
    simp [execOp, ho, resolve, invoke, builtin, hs, hx, hrun, Result.andThen]
    exact hh
  | some ad =>
    refine wp_append_own w s x t ho base e i z0 k bytes ht hi hz hsize hby hzs hk0 v n xs hs hown ad m c (flat enc z) hx (by rw [flat_len hk, hsrc.hlen]) (fun j u hj => ?_) (flat_one h1 z) h63 hbytes hbase (fun v' w' h3 h4 _ => h v' w' h3 h4)
    obtain ⟨y, hy, hu⟩ := flat_get hk hk0 hj
    obtain ⟨b, o', e1, _, e3⟩ := hsrc.cells _ y hy
    cases e1
    rw [Addr.add_lit, ← e3 _ u hu, show j / k * k + j % k = j by rw [Nat.mul_comm]; exact Nat.div_add_mod j k]
end
end Go.Proofs.Ytoleiiicbnmhpaa
namespace Go.Proofs.Ytoleiiicbnmhpaa
open Go.RowKit Go.Maps Go.Shelf
def encO (q : Nat × OpR) : List Value := opCells q.1 q.2
theorem infoOp : (Try.prog.info? 63).map (fun i => (i.zero, i.size, i.bytes)) = some (some (opV 0 op0), 4, 32) := by kernel_rfl
theorem op_new (w : World) (s : Nat) (r : OpR) : SliceAt 4 encO (w.alloc (.cells (opCells s r).toArray 63)) (some ⟨w.heap.size, 0, none⟩) 1 [(s, r)] := by
  refine ⟨rfl, by decide, fun i x hx => ?_⟩
  cases i with
  | zero =>
    simp at hx
    subst hx
    refine ⟨w.heap.size, 0, rfl, by simp, fun j v hj => ?_⟩
    have h := range_row (heap_alloc_new w (.cells (opCells s r).toArray 63)) j v hj
    rw [Nat.zero_mul, Nat.zero_add]
    exact h
  | succ i => simp at hx
/-- What All tells of a desk with one open slot at most. -/
def AllPost (Dm : Nat → Option OpR) (w : World) (e : Ending) (w' : World) : Prop := ∃ A m c, e = .returned (.slice A m c) ∧ Below w.heap.size w w' ∧ ((m = 0 ∧ ∀ s, s < 18446744073709551616 → Dm s = none) ∨ (m = 1 ∧ ∃ s r B o, Dm s = some r ∧ A = some ⟨B, o, none⟩ ∧ (w.heap.size ≤ B ∧ B < w'.heap.size) ∧ w'.rangeAt B o (opCells s r)))
theorem mpOf_some {Dm : Nat → Option OpR} {x : Int} (h : (mpOf Dm (.int .u64 x)).isSome = true) : ∃ (s : Nat) (r : OpR), x = (s : Int) ∧ Dm s = some r := by
  unfold mpOf at h
  simp only at h
  split at h
  · next h0 =>
    cases hd : Dm x.toNat with
    | none => rw [hd] at h; cases h
    | some r => exact ⟨x.toNat, r, by omega, hd⟩
  · cases h
set_option maxRecDepth 100000 in
set_option maxHeartbeats 4000000 in
theorem all1_any (p g n last : Nat) (Dm : Nat → Option OpR) (h1 : ∀ a b r q, Dm a = some r → Dm b = some q → a = b) (hn : n ≤ 100000) (hr64 : ∀ s r, Dm s = some r → s < 18446744073709551616) (w : World) (h : DeskAt w p g n Dm last) :
    Calls Try.prog 16 #[.pointer (some ⟨p, 0, none⟩)] w (AllPost Dm w) := by
  obtain ⟨c0, c1⟩ := h.cells
  clear c1
  obtain ⟨D, hown, hM⟩ := h.mp
  have hsz : Maps.size D ≤ 1000000 := by have := hown.size_le; omega
  have huniq : ∀ x y : Int, Maps.has D (.int .u64 x) = true → Maps.has D (.int .u64 y) = true → x = y := fun x y hx hy => by
    rw [(hM (.int .u64 x) trivial).1] at hx
    rw [(hM (.int .u64 y) trivial).1] at hy
    obtain ⟨a, r, rfl, ha⟩ := mpOf_some hx
    obtain ⟨b, q, rfl, hb⟩ := mpOf_some hy
    rw [h1 a b r q ha hb]
  have hk := callsIn_wide.1 (keys_in 5 (some g) w)
  have hb1 := (Below.refl w.heap.size w).alloc (Nat.le_refl _) (.cells #[.map (some g)] 65)
  have hs := sorted1_any w.heap.size g n D hsz huniq (w.alloc (.cells #[.map (some g)] 65)) (by simp) (cell_of_row _ _ _ _ _ _ (heap_alloc_new _ _)) (hown.alloc _)
  have Hk := Lib.hid hk
  have Hs := Lib.hid hs
  have Hb1 := Lib.hid hb1
  have H := Lib.hid h
  have HM := Lib.hid hM
  have HU := Lib.hid huniq
  have hR := Lib.hid hr64
  clear hr64
  clear hk hs hb1 h hM hown huniq hsz
  go_enter Try.func16, Try.ntmps16
  go_upto_region 5 with (first
    | ((with_reducible refine Hk.out.mono ?_); rintro e w1 ⟨rfl, rfl⟩)
    | ((with_reducible refine Hs.out.mono ?_); rintro e w2 ⟨v, ss, rfl, k1, k2, k3, k4⟩; have H2 := Lib.hid (And.intro k1 (And.intro k2 (And.intro k3 k4))); clear k1 k2 k3 k4; obtain ⟨A, c, rfl⟩ : ∃ A c, v = .slice A ss.length c := (by
        rcases H2.out.2.1.2 with ⟨rfl, h0⟩ | ⟨g', cap, cur, rfl, _⟩
        · rw [h0]; exact ⟨none, 0, rfl⟩
        · exact ⟨_, _, rfl⟩)))
  have hb2 : Below w.heap.size w w2 := Hb1.out.trans (H2.out.2.2.2.mono Hb1.out.size)
  have Hd2 := Lib.hid (H.out.below hb2)
  have Hb2 := Lib.hid hb2
  have hss := came_len H2.out.1 HU.out
  clear hb2 Hk Hs Hb1 c0
  match ss, hss, H2 with
  | [], _, H2 =>
    have hno : ∀ s, s < 18446744073709551616 → Dm s = none := fun s hs => by
      cases hd : Dm s with
      | none => rfl
      | some r =>
        have hh : Maps.has D (.int .u64 (s : Int)) = true := by
          rw [(HM.out (.int .u64 (s : Int)) trivial).1]
          have := mpOf_at Dm s
          unfold ku at this
          rw [this, hd]
          rfl
        have := (H2.out.1.2 (s : Int)).2 ⟨hh, rfl⟩
        simp at this
    have Hno := Lib.hid hno
    clear hno
    go_loopw [3, 15] (fun s3 s15 wr => w2 = wr ∧ s3 = .slice none 0 0 ∧ s15 = .int .i64 0) (fun _ _ _ => 0)
    case atStart => exact ⟨rfl, rfl, rfl⟩
    case round =>
      obtain ⟨rfl, rfl, rfl⟩ := hrel
      go_wp2_with fail
      go_ret
      exact ⟨none, 0, 0, rfl, Hb2.out, .inl ⟨rfl, Hno.out⟩⟩
  | [x], _, H2 =>
    have hx := ((H2.out.1.2 x).1 (by simp)).1
    rw [(HM.out (.int .u64 x) trivial).1] at hx
    obtain ⟨s, r, rfl, hD⟩ := mpOf_some hx
    obtain ⟨i0, hi0, hz0, hs0, hb0⟩ := info_parts infoOp
    have Hi0 := Lib.hid (And.intro hi0 (And.intro hz0 (And.intro hs0 hb0)))
    obtain ⟨gk, rfl, hgk⟩ : ∃ gk, A = some ⟨gk, 0, none⟩ ∧ w2.cell? ⟨gk, 0, none⟩ = some (.int .u64 (s : Int)) := by
      rcases H2.out.2.1.2 with ⟨_, h0⟩ | ⟨gk, cap, cur, e, _, hg, _, _, _, ht⟩
      · cases h0
      · cases e
        refine ⟨gk, rfl, ?_⟩
        simp only [World.cell?, hg]
        have : cur.toList[0]? = some (u64v (s : Int)) := by
          have h0 : (cur.toList.take (([(s : Int)] : List Int).length * 1))[0]? = some (u64v (s : Int)) := by rw [ht]; rfl
          rw [List.getElem?_take] at h0
          simpa using h0
        simpa using this
    have hgl : gk < w2.heap.size := World.block_lt_of_cell? _ _ hgk
    have Hgk := Lib.hid (And.intro hgl hgk)
    have HD := Lib.hid hD
    have hlt : s < 18446744073709551616 := hR.out s r hD
    have hk := key_ku hlt
    have hMo : mpOf Dm (ku s) = some (.agg #[.int .u64 (s : Int), .string r.x, .int .u8 (r.c : Int), .int .u8 (r.who : Int)]) := by rw [mpOf_at, hD]; rfl
    clear hx hD hgk hgl hi0 hz0 hs0 hb0
    go_loopw [3, 15] (fun s3 s15 wr => Below w2.heap.size w2 wr ∧ ((s3 = .slice none 0 0 ∧ s15 = .int .i64 0) ∨ (s15 = .int .i64 1 ∧ ∃ B o c, s3 = .slice (some ⟨B, o, none⟩) 1 c ∧ (w.heap.size ≤ B ∧ B < wr.heap.size) ∧ wr.rangeAt B o (opCells s r)))) (fun _ s15 _ => 1 - (intOf s15).toNat)
    case atStart => exact ⟨Below.refl _ _, .inl ⟨rfl, rfl⟩⟩
    case round =>
      obtain ⟨hb, ⟨rfl, rfl⟩ | ⟨rfl, B, o, c3, rfl, hB, hr⟩⟩ := hrel
      · have Hb := Lib.hid hb
        have hd3 := Hd2.out.below hb
        obtain ⟨c0, c1⟩ := hd3.cells
        have Hd3 := Lib.hid hd3
        have f0 := (hb.cell (p := ⟨gk, 0, none⟩) Hgk.out.1).trans Hgk.out.2
        have Hn3 := Lib.hid (op_new wr s r)
        clear hb hd3 c1
        go_wp2_with (first
          | (at_lookup; refine wpList_look_mp rfl _ _ 65 63 rfl lawU Try.underlying65 op_zero rfl Hd3.out.mp _ (ku s) rfl hk ?_)
          | (at_builtin; refine wpList_plain rfl (fun K hK => ?_); refine wp_append_slice (k := 4) (enc := encO) _ _ 42 rfl wr.heap.size 63 i0 _ 32 Try.underlying42 Hi0.out.1 Hi0.out.2.1 Hi0.out.2.2.1 Hi0.out.2.2.2 rfl (by omega) (fun _ => rfl) (fun q => op_one q.1 q.2) (.slice none 0 0) 0 [] rfl (World.ownsRow_nil _ _ _ _) (some ⟨wr.heap.size, 0, none⟩) 1 1 [(s, r)] rfl Hn3.out (fun e => by cases e) (by decide) (by decide) (by simp) ?_; intro v7 w7 ho7 hg7; have H7 := Lib.hid (And.intro ho7 hg7); clear ho7 hg7; refine hK _ _ ?_))
        have hg7 : (wr.alloc (.cells (opCells s r).toArray 63)).grownBy w7 none := H7.out.2
        have hb7 : Below w2.heap.size w2 w7 := (Hb.out.alloc Hb.out.size _).trans ⟨hg7.os, hg7.tape, hg7.output, hg7.size, fun q hq => hg7.block q (by have := Hb.out.size; simp; omega) (fun e => by cases e)⟩
        have ho7 := H7.out.1
        obtain ⟨A7, c7, rfl⟩ := own_slice_of ho7
        have hs7 : SliceAt 4 encO w7 A7 1 [(s, r)] := own_slice (fun _ => rfl) ho7 rfl (by decide)
        obtain ⟨B, o, rfl, hB, hr⟩ := hs7.cells 0 (s, r) rfl
        have hB2 : w.heap.size ≤ B := by
          rcases ho7.2 with ⟨e, _⟩ | ⟨g5, _, _, e, h5, _⟩
          · cases e
          · cases e
            have := Hb2.out.size
            have := Hb.out.size
            omega
        go_roundw
        case rel => exact ⟨_, _, _, _, _, _, _, _, _, _, _, _, _, _, _, _, ⟨hb7, .inr ⟨rfl, B, o, c7, rfl, ⟨hB2, hB⟩, fun j v hv => by have q := hr j v hv; rwa [Nat.zero_mul, Nat.zero_add] at q⟩⟩, rfl⟩
        case measure => simp [intOf]
      · go_wp2_with fail
        go_ret
        exact ⟨_, 1, c3, rfl, Hb2.out.trans (hb.mono Hb2.out.size), .inr ⟨rfl, s, r, B, o, HD.out, rfl, hB, hr⟩⟩
  | _ :: _ :: _, h, _ => simp at h
end Go.Proofs.Ytoleiiicbnmhpaa
namespace Go.Proofs.Ytoleiiicbnmhpaa
open Go.RowKit Go.Maps Go.Shelf
/-- The slots of a desk, rising. -/
def SlotsOf (Dm : Nat → Option OpR) (ns : List Nat) : Prop := ns.Pairwise (fun x y => x < y) ∧ ∀ s, s ∈ ns ↔ (Dm s).isSome = true
def rowsO (Dm : Nat → Option OpR) (ns : List Nat) : List (Nat × OpR) := ns.map (fun s => (s, (Dm s).getD op0))
/-- What All tells. -/
def AllPostS (Dm : Nat → Option OpR) (w : World) (e : Ending) (w' : World) : Prop := ∃ A c ns, e = .returned (.slice A ns.length c) ∧ SlotsOf Dm ns ∧ Below w.heap.size w w' ∧ w'.ownsRow w.heap.size 63 4 (.slice A ns.length c) ns.length (flat encO (rowsO Dm ns))
theorem slots_of {Dm : Nat → Option OpR} {D : DataW Value} {ss : List Int} (h : Came D (fun _ => false) ss) (hp : ss.Pairwise (fun x y => x < y)) (hh : ∀ x : Int, Maps.has D (.int .u64 x) = (mpOf Dm (.int .u64 x)).isSome) : ∃ ns : List Nat, ss = ns.map (fun s : Nat => (s : Int)) ∧ SlotsOf Dm ns := by
  have hx : ∀ x ∈ ss, ∃ s : Nat, x = (s : Int) := fun x hx => by
    have h1 := ((h.2 x).1 hx).1
    rw [hh] at h1
    obtain ⟨s, _, e, _⟩ := mpOf_some h1
    exact ⟨s, e⟩
  have he : ss = (ss.map Int.toNat).map (fun s : Nat => (s : Int)) := by
    rw [List.map_map]
    conv => lhs; rw [← List.map_id ss]
    refine List.map_congr_left fun x hxx => ?_
    obtain ⟨s, rfl⟩ := hx x hxx
    rfl
  refine ⟨ss.map Int.toNat, he, ?_, fun s => ?_⟩
  · rw [he] at hp
    rw [List.pairwise_map] at hp
    exact hp.imp fun q => by omega
  · have h2 := h.2 (s : Int)
    rw [hh, show mpOf Dm (.int .u64 (s : Int)) = (Dm s).map (opV s) from mpOf_at Dm s] at h2
    have h3 : (s : Int) ∈ ss ↔ s ∈ ss.map Int.toNat := by
      constructor
      · intro q
        exact List.mem_map.2 ⟨_, q, rfl⟩
      · intro q
        rw [he]
        exact List.mem_map.2 ⟨s, q, rfl⟩
    rw [← h3, h2]
    simp
set_option maxRecDepth 100000 in
set_option maxHeartbeats 4000000 in
theorem all_any (p g n last : Nat) (Dm : Nat → Option OpR) (hn : n ≤ 100000) (hr64 : ∀ s r, Dm s = some r → s < 18446744073709551616) (w : World) (h : DeskAt w p g n Dm last) :
    Calls Try.prog 16 #[.pointer (some ⟨p, 0, none⟩)] w (AllPostS Dm w) := by
  obtain ⟨c0, c1⟩ := h.cells
  clear c1
  obtain ⟨D, hown, hM⟩ := h.mp
  have hsz : Maps.size D ≤ 1000000 := by have := hown.size_le; omega
  have hsz2 : Maps.size D ≤ 100000 := by have := hown.size_le; omega
  have hk := callsIn_wide.1 (keys_in 5 (some g) w)
  have hb1 := (Below.refl w.heap.size w).alloc (Nat.le_refl _) (.cells #[.map (some g)] 65)
  have hs := sortedK_any w.heap.size g n D hsz (w.alloc (.cells #[.map (some g)] 65)) (by simp) (cell_of_row _ _ _ _ _ _ (heap_alloc_new _ _)) (hown.alloc _)
  have Hk := Lib.hid hk
  have Hs := Lib.hid hs
  have Hb1 := Lib.hid hb1
  have H := Lib.hid h
  have HM := Lib.hid (fun x : Int => (hM (.int .u64 x) trivial).1)
  have hR := Lib.hid hr64
  have HS2 := Lib.hid hsz2
  clear hr64
  clear hk hs hb1 h hM hown hsz hsz2
  go_enter Try.func16, Try.ntmps16
  go_upto_region 5 with (first
    | ((with_reducible refine Hk.out.mono ?_); rintro e w1 ⟨rfl, rfl⟩)
    | ((with_reducible refine Hs.out.mono ?_); rintro e w2 ⟨v, ss, rfl, k1, k2, k3, k4⟩; have H2 := Lib.hid (And.intro k1 (And.intro k2 (And.intro k3 k4))); clear k1 k2 k3 k4; obtain ⟨A, c, rfl⟩ : ∃ A c, v = .slice A ss.length c := (by
        rcases H2.out.2.1.2 with ⟨rfl, h0⟩ | ⟨g', cap, cur, rfl, _⟩
        · rw [h0]; exact ⟨none, 0, rfl⟩
        · exact ⟨_, _, rfl⟩)))
  have hb2 : Below w.heap.size w w2 := Hb1.out.trans (H2.out.2.2.2.mono Hb1.out.size)
  have Hd2 := Lib.hid (H.out.below hb2)
  have Hb2 := Lib.hid hb2
  obtain ⟨ns, hss, hns⟩ := slots_of H2.out.1.1 H2.out.1.2 HM.out
  have hlen : ss.length = ns.length := by rw [hss, List.length_map]
  have hnl : ns.length ≤ 100000 := by rw [← hlen]; exact Nat.le_trans (came_size H2.out.1.1) HS2.out
  have hcell : ∀ i (hi : i < ns.length), ∃ gk, A = some ⟨gk, 0, none⟩ ∧ gk < w2.heap.size ∧ w2.cell? ⟨gk, i, none⟩ = some (.int .u64 (ns[i] : Int)) := by
    intro i hi
    rcases H2.out.2.1.2 with ⟨_, h0⟩ | ⟨gk, cap, cur, e, _, hg, _, _, _, ht⟩
    · omega
    · cases e
      refine ⟨gk, rfl, (Array.getElem?_eq_some_iff.1 hg).1, ?_⟩
      have e1 : (cur.toList.take (ss.length * 1))[i]? = some (u64v (ns[i] : Int)) := by
        rw [ht, hss, List.getElem?_map, List.getElem?_map, List.getElem?_eq_getElem hi]
        rfl
      rw [List.getElem?_take, if_pos (by omega)] at e1
      unfold World.cell?
      rw [hg]
      show cur[i]? = _
      rw [← Array.getElem?_toList]
      exact e1
  have Hcell := Lib.hid hcell
  have HNS := Lib.hid hns
  have HNL := Lib.hid hnl
  obtain ⟨i0, hi0, hz0, hs0, hb0⟩ := info_parts infoOp
  have Hi0 := Lib.hid (And.intro hi0 (And.intro hz0 (And.intro hs0 hb0)))
  rw [hlen]
  clear hcell hns hnl hss hlen hb2 Hk Hs Hb1 c0 H2 hi0 hz0 hs0 hb0
  generalize hL : ns.length = L
  have HL := Lib.hid hL
  have bL : (L : Int) < 1152921504606846976 := by have := HNL.out; omega
  have HNL2 := Lib.hid (show L ≤ 100000 by have := HNL.out; omega)
  clear hL
  go_loopw [3, 15] (fun s3 s15 wr => ∃ i : Nat, s15 = .int .i64 (i : Int) ∧ i ≤ L ∧ Below w2.heap.size w2 wr ∧ (∃ A' c', s3 = .slice A' i c') ∧ wr.ownsRow w2.heap.size 63 4 s3 i (flat encO ((rowsO Dm ns).take i))) (fun _ s15 _ => L - (intOf s15).toNat)
  case atStart => exact ⟨0, rfl, Nat.zero_le _, Below.refl _ _, ⟨none, 0, rfl⟩, World.ownsRow_nil _ _ _ _⟩
  case round =>
    obtain ⟨i, rfl, hi, hb, ⟨A3, c3, rfl⟩, ho⟩ := hrel
    have Hb := Lib.hid hb
    have Ho := Lib.hid ho
    by_cases hiL : i < L
    · have hiL' : (i : Int) < (L : Int) := by omega
      obtain ⟨gk, rfl, hgk, hck⟩ := Hcell.out i (by rw [HL.out]; exact hiL)
      have hin : i < ns.length := by rw [HL.out]; exact hiL
      obtain ⟨s, hs⟩ : ∃ s, s = ns[i] := ⟨_, rfl⟩
      have hDs := (HNS.out.2 s).1 (by rw [hs]; exact List.getElem_mem hin)
      obtain ⟨r, hr⟩ := Option.isSome_iff_exists.1 hDs
      have f0 := (hb.cell (p := ⟨gk, i, none⟩) hgk).trans hck
      rw [← hs] at f0
      have hd3 := Hd2.out.below hb
      obtain ⟨c0, c1⟩ := hd3.cells
      have Hd3 := Lib.hid hd3
      have Hn3 := Lib.hid (op_new wr s r)
      have hlt : s < 18446744073709551616 := hR.out s r hr
      have hk := key_ku hlt
      have hMo : mpOf Dm (ku s) = some (.agg #[.int .u64 (s : Int), .string r.x, .int .u8 (r.c : Int), .int .u8 (r.who : Int)]) := by rw [mpOf_at, hr]; rfl
      have hrow : (rowsO Dm ns).take (i + 1) = (rowsO Dm ns).take i ++ [(s, r)] := by
        have hl2 : i < (rowsO Dm ns).length := by unfold rowsO; rw [List.length_map]; exact hin
        rw [List.take_add_one, List.getElem?_eq_getElem hl2]
        congr 1
        simp only [rowsO, List.getElem_map, ← hs, hr, Option.getD_some, Option.toList_some]
      have HROW := Lib.hid hrow
      have hi5 := HNL2.out
      have HI5 := Lib.hid (show i ≤ 100000 by omega)
      clear hb hd3 c1 ho hck hs hDs hr hrow hi5 hin
      go_wp2_with (first
        | (at_lookup; refine wpList_look_mp rfl _ _ 65 63 rfl lawU Try.underlying65 op_zero rfl Hd3.out.mp _ (ku s) rfl hk ?_)
        | (at_builtin; refine wpList_plain rfl (fun K hK => ?_); refine wp_append_slice (k := 4) (enc := encO) _ _ 42 rfl w2.heap.size 63 i0 _ 32 Try.underlying42 Hi0.out.1 Hi0.out.2.1 Hi0.out.2.2.1 Hi0.out.2.2.2 rfl (by omega) (fun _ => rfl) (fun q => op_one q.1 q.2) (.slice A3 i c3) i _ rfl (Ho.out.alloc _) (some ⟨wr.heap.size, 0, none⟩) 1 1 [(s, r)] rfl Hn3.out (fun e => by cases e) (by have := HI5.out; simp [maxLen]; omega) (by have := HI5.out; omega) (by have := Hb.out.size; simp; omega) ?_; intro v7 w7 ho7 hg7; have H7 := Lib.hid (And.intro ho7 hg7); clear ho7 hg7; refine hK _ _ ?_))
      obtain ⟨A7, c7, rfl⟩ := own_slice_of H7.out.1
      have hb7 : Below w2.heap.size w2 w7 := (Hb.out.alloc Hb.out.size _).grown H7.out.2 (by have := Hb.out.size; simp; omega) (fun k hk => by
        rcases Ho.out.2 with ⟨e, _⟩ | ⟨g5, _, _, e, h5, _⟩
        · rw [e] at hk
          cases hk
        · rw [e] at hk
          cases hk
          exact h5)
      refine ⟨⟨i + 1, rfl, by omega, hb7, ⟨A7, c7, rfl⟩, ?_⟩, by simp only [intOf]; omega⟩
      have h7 := H7.out.1
      rw [HROW.out, flat_app]
      exact h7
    · have hiL' : ¬ (i : Int) < (L : Int) := by omega
      have hie : i = L := by omega
      subst hie
      go_wp2_with fail
      go_ret
      refine ⟨A3, c3, ns, by rw [HL.out]; rfl, HNS.out, Hb2.out.trans (Hb.out.mono Hb2.out.size), ?_⟩
      have h7 := Ho.out
      have hall : (rowsO Dm ns).take i = rowsO Dm ns := List.take_of_length_le (by unfold rowsO; rw [List.length_map, HL.out]; exact Nat.le_refl _)
      rw [hall] at h7
      rw [HL.out]
      refine ⟨h7.1, ?_⟩
      rcases h7.2 with q | ⟨g5, cap, cur, e, h5, q⟩
      · exact .inl q
      · exact .inr ⟨g5, cap, cur, e, Nat.le_trans Hb2.out.size h5, q⟩
end Go.Proofs.Ytoleiiicbnmhpaa
namespace Go.Proofs.Ytoleiiicbnmhpaa
open Go.RowKit
open Go.Maps (Keyed)
/-- A desk with the slot 1 open. -/
def dk (r : OpR) : Nat → Option OpR := updD (fun _ => none) 1 (some r)
theorem dk_at (r : OpR) : dk r 1 = some r := by simp [dk, updD]
theorem dk_put (r q : OpR) : updD (dk r) 1 (some q) = dk q := by
  funext k
  simp only [dk, updD]
  split <;> rfl
theorem dk_del (r : OpR) : updD (dk r) 1 none = fun _ => none := by
  funext k
  simp only [dk, updD]
  split <;> rfl
theorem dk_only {r : OpR} (a b : Nat) (x y : OpR) (ha : dk r a = some x) (hb : dk r b = some y) : a = b := by
  simp only [dk, updD] at ha hb
  split at ha
  · split at hb
    · omega
    · cases hb
  · cases ha
theorem dk_low {r : OpR} (s : Nat) (x : OpR) (h : dk r s = some x) : s = 1 ∧ x = r := by
  simp only [dk, updD] at h
  split at h
  · next e => cases h; exact ⟨e, rfl⟩
  · cases h
/-- Between two steps. -/
structure WkI (w0 : World) (p g n : Nat) (Dm : Nat → Option OpR) (y : World) : Prop where
  d : DeskAt y p g n Dm 1
  bel : Below w0.heap.size w0 y
  pg : w0.heap.size ≤ p ∧ w0.heap.size ≤ g
theorem WkI.below {w0 y y' : World} {p g n : Nat} {Dm : Nat → Option OpR} (h : WkI w0 p g n Dm y) (hb : Below y.heap.size y y') : WkI w0 p g n Dm y' := ⟨h.d.below hb, h.bel.trans (hb.mono h.bel.size), h.pg⟩
theorem WkI.next {w0 y y' : World} {p g n m : Nat} {Dm De : Nat → Option OpR} (h : WkI w0 p g n Dm y) (hd : DeskAt y' p g m De 1) (hb : ButTwo p g y y') : WkI w0 p g m De y' := ⟨hd, hb.below h.bel h.bel.size h.pg.1 h.pg.2, h.pg⟩
/-- A load behind a guard that says yes. Over any program. -/
theorem wpList_load_grd {P : Program} {ops : Array Oper} {rest : List Oper} {op : Oper} {a : Act} {w : World} {Q : Exit → Act → World → Prop} (ty : TypeId) (x : Operand) (ho : op.op = .load ty x)
    (b o : Nat) (hx : a.eval x = .pointer (some ⟨b, o, none⟩)) (cs : List Value) (d : TypeDesc) (hc : w.rangeAt b o cs) (hu : P.underlying ty = some d) (hd : d.isRow = true) (hi : (P.info? ty).map (·.size) = some cs.length)
    (hw : Region.wanted op (yielded ops a.tmps) = true) (h : wpList P ops Q rest (a.put op.dst (.agg cs.toArray)) w) : wpList P ops Q (op :: rest) a w :=
  BigFrame.wpList_want hw fun _ hK => wp_load_mid ty x ho b o hx cs d hc hu hd hi (hK _ _ h)
theorem range_block {w w' : World} {B o : Nat} {cs : List Value} (h : w.rangeAt B o cs) (e : w'.heap[B]? = w.heap[B]?) : w'.rangeAt B o cs := fun j v hv => by
  rw [← h j v hv]
  simp only [World.cell?, e]
/-- An open slot, out of the desk's blocks. -/
structure OpIn (w : World) (p g B o : Nat) (cs : List Value) : Prop where
  lt : B < w.heap.size
  ne : B ≠ p ∧ B ≠ g
  cells : w.rangeAt B o cs
theorem OpIn.below {w w' : World} {p g B o : Nat} {cs : List Value} (h : OpIn w p g B o cs) (hb : Below w.heap.size w w') : OpIn w' p g B o cs := ⟨Nat.lt_of_lt_of_le h.lt hb.size, h.ne, range_block h.cells (hb.block B h.lt)⟩
theorem OpIn.two {w w' : World} {p g B o : Nat} {cs : List Value} (h : OpIn w p g B o cs) (hb : ButTwo p g w w') : OpIn w' p g B o cs := ⟨Nat.lt_of_lt_of_le h.lt hb.size, h.ne, range_block h.cells (hb.block B h.lt h.ne.1 h.ne.2)⟩
set_option maxRecDepth 100000 in
set_option maxHeartbeats 16000000 in
theorem pwakes_any (w : World) : Calls Try.prog 7 #[] w fun e w' => e = .returned (.bool true) ∧ Below w.heap.size w w' := by
  have Hnew := Lib.hid dnew_any
  go_enter Try.func7, Try.ntmps7
  go_upto_region 2 with ((with_reducible refine (Hnew.out _).mono ?_); rintro e w1 ⟨rfl, hd, hb⟩; have H1 := Lib.hid (And.intro hd hb); clear hd hb)
  clear Hnew
  obtain ⟨p, hp⟩ : ∃ p, w.heap.size + 1 = p := ⟨_, rfl⟩
  obtain ⟨g, hg⟩ : ∃ g, w.heap.size = g := ⟨_, rfl⟩
  have Hpg := Lib.hid (show w.heap.size ≤ p ∧ w.heap.size ≤ g by omega)
  have H1 := Lib.hid (show DeskAt w1 p g 0 (fun _ => none) 0 ∧ (True ∧ Below w.heap.size w w1) from ⟨by rw [← hp, ← hg]; exact H1.out.1, trivial, H1.out.2⟩)
  rw [hp]
  clear hp
  have hop := dopen_ok p g 0 0 (fun _ => none) 1 ⟨#[97]⟩ 7 (by decide) (by decide) (by decide) (by decide) w1 H1.out.1
  have Hop := Lib.hid (show Calls Try.prog 11 #[.pointer (some ⟨p, 0, none⟩), .int .u64 1, .string ⟨#[97]⟩, .int .u8 7] w1 fun e w' => e = .returned (.int .i64 0) ∧ DeskAt w' p g 1 (dk ⟨⟨#[97]⟩, 7, 0⟩) 1 ∧ ButTwo p g w1 w' from hop)
  clear hop
  go_upto_region 3 with ((with_reducible refine Hop.out.mono ?_); rintro e w2 ⟨rfl, hd, hb⟩; have H2 := Lib.hid (And.intro hd hb); clear hd hb)
  have HI := Lib.hid (show WkI w p g 1 (dk ⟨⟨#[97]⟩, 7, 0⟩) w2 from ⟨H2.out.1, H2.out.2.below H1.out.2.2 H1.out.2.2.size Hpg.out.1 Hpg.out.2, Hpg.out⟩)
  clear H1 H2 Hop Hpg hg
  have Hv := Lib.hid (show Calls Try.prog 13 #[.pointer (some ⟨p, 0, none⟩), .int .u8 0, .int .u64 1] w2 fun e w' => e = .returned (.tuple #[.agg (itCells 0 ByteArray.empty).toArray, .bool false]) ∧ DeskAt w' p g 2 (dk ⟨⟨#[97]⟩, 7, 1⟩) 1 ∧ ButTwo p g w2 w' from (by have q := voted_more p g 1 1 (dk ⟨⟨#[97]⟩, 7, 0⟩) 0 1 ⟨⟨#[97]⟩, 7, 0⟩ (dk_at _) (by decide) (by decide) (by decide) (by decide) (by decide) (by decide) (by decide) _ HI.out.d; rw [dk_put] at q; exact q))
  go_upto_region 4 with (first
    | ((with_reducible refine Hv.out.mono ?_); rintro e w3 ⟨rfl, hd, hb⟩; have Hk := Lib.hid (HI.out.next hd hb); clear hd hb)
    | ((with_reducible refine wpList_store_mid rfl 34 _ _ rfl w3.heap.size 0 _ rfl rfl ?_ ?_ ?_ ?_); exact th_new w3 (itCells 0 ByteArray.empty) 34; exact it_size 0 ByteArray.empty; exact all_oneCell_toArray (it_one 0 ByteArray.empty)))
  have HI := Lib.hid Hk.out
  clear Hv Hk
  change Code.wp _ _ _ _ ((w3.alloc (.cells (itCells 0 ByteArray.empty).toArray 34)).setCells w3.heap.size 0 (itCells 0 ByteArray.empty))
  have hbx := box_below w3 (itCells 0 ByteArray.empty) (itCells 0 ByteArray.empty) 34
  have HI := Lib.hid (HI.out.below hbx)
  clear hbx
  generalize (w3.alloc (.cells (itCells 0 ByteArray.empty).toArray 34)).setCells w3.heap.size 0 (itCells 0 ByteArray.empty) = w3b at *
  have Hv := Lib.hid (show Calls Try.prog 13 #[.pointer (some ⟨p, 0, none⟩), .int .u8 0, .int .u64 1] w3b fun e w' => e = .returned (.tuple #[.agg (itCells 0 ByteArray.empty).toArray, .bool false]) ∧ DeskAt w' p g 3 (dk ⟨⟨#[97]⟩, 7, 1⟩) 1 ∧ ButTwo p g w3b w' from (by have q := voted_more p g 2 1 (dk ⟨⟨#[97]⟩, 7, 1⟩) 0 1 ⟨⟨#[97]⟩, 7, 1⟩ (dk_at _) (by decide) (by decide) (by decide) (by decide) (by decide) (by decide) (by decide) _ HI.out.d; rw [dk_put] at q; exact q))
  go_upto_region 5 with (first
    | ((with_reducible refine Hv.out.mono ?_); rintro e w4 ⟨rfl, hd, hb⟩; have Hk := Lib.hid (HI.out.next hd hb); clear hd hb)
    | ((with_reducible refine wpList_store_mid rfl 34 _ _ rfl w4.heap.size 0 _ rfl rfl ?_ ?_ ?_ ?_); exact th_new w4 (itCells 0 ByteArray.empty) 34; exact it_size 0 ByteArray.empty; exact all_oneCell_toArray (it_one 0 ByteArray.empty)))
  have HI := Lib.hid Hk.out
  clear Hv Hk
  change Code.wp _ _ _ _ ((w4.alloc (.cells (itCells 0 ByteArray.empty).toArray 34)).setCells w4.heap.size 0 (itCells 0 ByteArray.empty))
  have hbx := box_below w4 (itCells 0 ByteArray.empty) (itCells 0 ByteArray.empty) 34
  have HI := Lib.hid (HI.out.below hbx)
  clear hbx
  generalize (w4.alloc (.cells (itCells 0 ByteArray.empty).toArray 34)).setCells w4.heap.size 0 (itCells 0 ByteArray.empty) = w4b at *
  have Hv := Lib.hid (show Calls Try.prog 13 #[.pointer (some ⟨p, 0, none⟩), .int .u8 3, .int .u64 1] w4b fun e w' => e = .returned (.tuple #[.agg (itCells 0 ByteArray.empty).toArray, .bool false]) ∧ Below w4b.heap.size w4b w' from (voted_not p g 3 1 (dk ⟨⟨#[97]⟩, 7, 1⟩) 3 1 ⟨⟨#[97]⟩, 7, 1⟩ (dk_at _) (by decide) (by decide) (by decide) (by decide) _ HI.out.d))
  go_upto_region 6 with (first
    | ((with_reducible refine Hv.out.mono ?_); rintro e w5 ⟨rfl, hb⟩; have Hk := Lib.hid (HI.out.below hb); clear hb)
    | ((with_reducible refine wpList_store_mid rfl 34 _ _ rfl w5.heap.size 0 _ rfl rfl ?_ ?_ ?_ ?_); exact th_new w5 (itCells 0 ByteArray.empty) 34; exact it_size 0 ByteArray.empty; exact all_oneCell_toArray (it_one 0 ByteArray.empty)))
  have HI := Lib.hid Hk.out
  clear Hv Hk
  change Code.wp _ _ _ _ ((w5.alloc (.cells (itCells 0 ByteArray.empty).toArray 34)).setCells w5.heap.size 0 (itCells 0 ByteArray.empty))
  have hbx := box_below w5 (itCells 0 ByteArray.empty) (itCells 0 ByteArray.empty) 34
  have HI := Lib.hid (HI.out.below hbx)
  clear hbx
  generalize (w5.alloc (.cells (itCells 0 ByteArray.empty).toArray 34)).setCells w5.heap.size 0 (itCells 0 ByteArray.empty) = w5b at *
  have Hv := Lib.hid (all1_any p g 3 1 (dk ⟨⟨#[97]⟩, 7, 1⟩) dk_only (by decide) (fun s r h => by have k := (dk_low s r h).1; omega) w5b HI.out.d)
  go_upto_region 7 with ((with_reducible refine Hv.out.mono ?_); rintro e w6 ⟨A, m, c, rfl, hb, hal⟩; have H6 := Lib.hid (And.intro hb hal); clear hb hal)
  have Hlt := Lib.hid (And.intro HI.out.d.lt HI.out.d.mp.lt)
  have HI := Lib.hid (HI.out.below H6.out.1)
  obtain ⟨hb6, ⟨-, hno⟩ | ⟨rfl, s6, r6, B, bo, hD6, rfl, hB6, hr6⟩⟩ := H6.out
  · exact absurd ((dk_at _).symm.trans (hno 1 (by decide))) (by simp)
  obtain ⟨rfl, rfl⟩ := dk_low s6 r6 hD6
  have HR := Lib.hid (show OpIn w6 p g B bo (opCells 1 ⟨⟨#[97]⟩, 7, 1⟩) from ⟨hB6.2, ⟨by have := Hlt.out.1; omega, by have := Hlt.out.2; omega⟩, hr6⟩)
  clear hD6 hB6 hr6 hb6 H6 Hv Hlt
  have Hv := Lib.hid (show Calls Try.prog 13 #[.pointer (some ⟨p, 0, none⟩), .int .u8 2, .int .u64 1] w6 fun e w' => e = .returned (.tuple #[.agg (itCells 1 ⟨#[97]⟩).toArray, .bool true]) ∧ DeskAt w' p g 3 (fun _ => none) 1 ∧ ButTwo p g w6 w' from (by have q := voted_wins p g 3 1 (dk ⟨⟨#[97]⟩, 7, 1⟩) 2 1 ⟨⟨#[97]⟩, 7, 1⟩ (dk_at _) (by decide) (by decide) (by decide) (by decide) (by decide) (by decide) _ HI.out.d; rw [dk_del] at q; exact q))
  go_upto_region 8 with (first
    | ((with_reducible refine Hv.out.mono ?_); rintro e w7 ⟨rfl, hd, hb⟩; have Hk := Lib.hid (And.intro (HI.out.next hd hb) (HR.out.two hb)); clear hd hb)
    | ((with_reducible refine wpList_store_mid rfl 34 _ _ rfl w7.heap.size 0 _ rfl rfl ?_ ?_ ?_ ?_); exact th_new w7 (itCells 0 ByteArray.empty) 34; exact it_size 1 ⟨#[97]⟩; exact all_oneCell_toArray (it_one 1 ⟨#[97]⟩)))
  have HI := Lib.hid Hk.out.1
  have HR := Lib.hid Hk.out.2
  clear Hv Hk
  change Code.wp _ _ _ _ ((w7.alloc (.cells (itCells 0 ByteArray.empty).toArray 34)).setCells w7.heap.size 0 (itCells 1 ⟨#[97]⟩))
  have hbx := box_below w7 (itCells 0 ByteArray.empty) (itCells 1 ⟨#[97]⟩) 34
  have HI := Lib.hid (HI.out.below hbx)
  have HR := Lib.hid (HR.out.below hbx)
  have HT := Lib.hid (show ItAt ((w7.alloc (.cells (itCells 0 ByteArray.empty).toArray 34)).setCells w7.heap.size 0 (itCells 1 ⟨#[97]⟩)) w7.heap.size 1 ⟨#[97]⟩ from box_row w7 (itCells 0 ByteArray.empty) (itCells 1 ⟨#[97]⟩) 34 rfl)
  clear hbx
  generalize (w7.alloc (.cells (itCells 0 ByteArray.empty).toArray 34)).setCells w7.heap.size 0 (itCells 1 ⟨#[97]⟩) = w7b at *
  have Hv := Lib.hid (show Calls Try.prog 13 #[.pointer (some ⟨p, 0, none⟩), .int .u8 1, .int .u64 1] w7b fun e w' => e = .returned (.tuple #[.agg (itCells 0 ByteArray.empty).toArray, .bool false]) ∧ Below w7b.heap.size w7b w' from (voted_none p g 3 1 (fun _ => none) 1 1 rfl (by decide) _ HI.out.d))
  go_upto_region 9 with (first
    | ((with_reducible refine Hv.out.mono ?_); rintro e w8 ⟨rfl, hb⟩; have Hk := Lib.hid (And.intro (HI.out.below hb) (And.intro (HR.out.below hb) (HT.out.below hb))); clear hb)
    | ((with_reducible refine wpList_store_mid rfl 34 _ _ rfl w8.heap.size 0 _ rfl rfl ?_ ?_ ?_ ?_); exact th_new w8 (itCells 0 ByteArray.empty) 34; exact it_size 0 ByteArray.empty; exact all_oneCell_toArray (it_one 0 ByteArray.empty)))
  have HI := Lib.hid Hk.out.1
  have HR := Lib.hid Hk.out.2.1
  have HT := Lib.hid Hk.out.2.2
  clear Hv Hk
  change Code.wp _ _ _ _ ((w8.alloc (.cells (itCells 0 ByteArray.empty).toArray 34)).setCells w8.heap.size 0 (itCells 0 ByteArray.empty))
  have hbx := box_below w8 (itCells 0 ByteArray.empty) (itCells 0 ByteArray.empty) 34
  have HI := Lib.hid (HI.out.below hbx)
  have HR := Lib.hid (HR.out.below hbx)
  have HT := Lib.hid (HT.out.below hbx)
  clear hbx
  generalize (w8.alloc (.cells (itCells 0 ByteArray.empty).toArray 34)).setCells w8.heap.size 0 (itCells 0 ByteArray.empty) = w8b at *
  have Hos := Lib.hid (show ∀ y : World, DeskAt y p g 3 (fun _ => none) 1 → Calls Try.prog 11 #[.pointer (some ⟨p, 0, none⟩), .int .u64 1, .string ⟨#[98]⟩, .int .u8 7] y fun e w' => e = .returned (.int .i64 13) ∧ Below y.heap.size y w' from fun y h => dopen_state p g 3 1 (fun _ => none) 1 ⟨#[98]⟩ 7 (by decide) (by decide) y h)
  have Hae := Lib.hid (fun (y : World) (h : DeskAt y p g 3 (fun _ => none) 1) => all1_any p g 3 1 (fun _ => none) (fun _ _ _ _ h _ => absurd h (by simp)) (by decide) (fun _ _ h => absurd h (by simp)) y h)
  have Hls := Lib.hid (show ∀ y : World, DeskAt y p g 3 (fun _ => none) 1 → Calls Try.prog 17 #[.pointer (some ⟨p, 0, none⟩)] y fun e w' => e = .returned (.int .u64 1) ∧ Below y.heap.size y w' from fun y h => dlast_any p g 3 1 (fun _ => none) y h)
  have hIT : (Try.prog.info? 34).map (·.size) = some [(.int .u64 1 : Value), .string ⟨#[97]⟩].length := it_size 1 ⟨#[97]⟩
  have hOP : (Try.prog.info? 63).map (·.size) = some [(.int .u64 1 : Value), .string ⟨#[97]⟩, .int .u8 7, .int .u8 1].length := op_size 1 ⟨⟨#[97]⟩, 7, 1⟩
  have Hrl := Lib.hid (show w8b.rangeAt B bo [.int .u64 1, .string ⟨#[97]⟩, .int .u8 7, .int .u8 1] from HR.out.cells)
  have Hil := Lib.hid (show w8b.rangeAt w7.heap.size 0 [.int .u64 1, .string ⟨#[97]⟩] from range_row HT.out)
  go_wp2_with (first
    | ((with_reducible refine wpList_load_grd 63 _ rfl B bo rfl [.int .u64 1, .string ⟨#[97]⟩, .int .u8 7, .int .u8 1] _ Hrl.out Try.underlying63 rfl hOP ?_ ?_); exact (Eq.refl true))
    | ((with_reducible refine wpList_load_grd 63 _ rfl B (bo + 0 * 4) rfl [.int .u64 1, .string ⟨#[97]⟩, .int .u8 7, .int .u8 1] _ Hrl.out Try.underlying63 rfl hOP ?_ ?_); exact (Eq.refl true))
    | ((with_reducible refine wpList_load_grd 34 _ rfl w7.heap.size 0 rfl [.int .u64 1, .string ⟨#[97]⟩] _ Hil.out Try.underlying34 rfl hIT ?_ ?_); exact (Eq.refl true))
    | ((with_reducible refine (Hos.out _ HI.out.d).mono ?_); rintro e wa ⟨rfl, hb⟩; have HI := Lib.hid (HI.out.below hb); clear hb)
    | ((with_reducible refine (Hae.out _ HI.out.d).mono ?_); rintro e wb ⟨A, m, c, rfl, hb, hal⟩; have hm : m = 0 := hal.elim (·.1) (fun q => by obtain ⟨-, s6, r6, B6, o6, q, -⟩ := q; cases q); subst hm; have HI := Lib.hid (HI.out.below hb); clear hb hal)
    | ((with_reducible refine (Hls.out _ HI.out.d).mono ?_); rintro e wc ⟨rfl, hb⟩; have HI := Lib.hid (HI.out.below hb); clear hb))
  go_ret
  exact ⟨rfl, HI.out.bel⟩
end Go.Proofs.Ytoleiiicbnmhpaa
namespace Go.Proofs.Ytoleiiicbnmhpaa
open Go.RowKit
open Go.Maps (Keyed)
open Go.ChangeShapes Go.WideShapes Go.Deep Go.RowKit
structure PAct where
  d : BitVec 8
  s : BitVec 64
  x : ByteArray
  c : BitVec 8
  nd : BitVec 8
def pactCells (a : PAct) : List Value := [.int .u8 (a.d.toNat : Int), .int .u64 (a.s.toNat : Int), .string a.x, .int .u8 (a.c.toNat : Int), .int .u8 (a.nd.toNat : Int)]
theorem tr_u8 {n : Int} (h : (Lit.int .u8 n).wf = true) : ∃ x : BitVec 8, n = (x.toNat : Int) := by
  have h' : 0 ≤ n ∧ n ≤ 255 := by simpa [Lit.wf, IntKind.min, IntKind.max, IntKind.signed, IntKind.bits] using h
  exact ⟨BitVec.ofInt 8 n, by simp only [BitVec.toNat_ofInt]; omega⟩
theorem tr_u64 {n : Int} (h : (Lit.int .u64 n).wf = true) : ∃ x : BitVec 64, n = (x.toNat : Int) := by
  have h' : 0 ≤ n ∧ n ≤ 18446744073709551615 := by simpa [Lit.wf, IntKind.min, IntKind.max, IntKind.signed, IntKind.bits] using h
  exact ⟨BitVec.ofInt 64 n, by simp only [BitVec.toNat_ofInt]; omega⟩
theorem pact_hx {H : Type} {enc : TypeId × Value → H} {w : World} {base : Nat} {spare : Nat → Bool} {held : Bool} {fs : Array Field} (he : Try.prog.underlying 40 = some (.struct fs)) (vs : List Value) (hl : vs.length = fs.size)
    (hf : ∀ (j : Nat) (f : Field), fs[j]? = some f → ∃ (v : Value) (y : DataW H × List MemPlace) (n : Nat), vs[j]? = some v ∧ DataW.trod enc Try.prog w base spare held n f.type [v] = some y) : ∃ x : PAct, vs = pactCells x := by
  obtain rfl := (TypeDesc.struct.inj (Option.some.inj (he.symm.trans Try.underlying40)))
  obtain ⟨v0, y0, n0, e0, t0⟩ := hf 0 _ rfl
  obtain ⟨v1, y1, n1, e1, t1⟩ := hf 1 _ rfl
  obtain ⟨v2, y2, n2, e2, t2⟩ := hf 2 _ rfl
  obtain ⟨v3, y3, n3, e3, t3⟩ := hf 3 _ rfl
  obtain ⟨v4, y4, n4, e4, t4⟩ := hf 4 _ rfl
  obtain ⟨m0, q0, _, f0⟩ := DataW.trod_int Try.underlying5 t0
  obtain ⟨m1, q1, _, f1⟩ := DataW.trod_int Try.underlying31 t1
  obtain ⟨m2, q2, _, _⟩ := DataW.trod_string Try.underlying9 t2
  obtain ⟨m3, q3, _, f3⟩ := DataW.trod_int Try.underlying5 t3
  obtain ⟨m4, q4, _, f4⟩ := DataW.trod_int Try.underlying5 t4
  obtain ⟨x0, rfl⟩ := tr_u8 f0
  obtain ⟨x1, rfl⟩ := tr_u64 f1
  obtain ⟨x3, rfl⟩ := tr_u8 f3
  obtain ⟨x4, rfl⟩ := tr_u8 f4
  simp only [List.cons.injEq, and_true] at q0 q1 q2 q3 q4
  subst q0 q1 q2 q3 q4
  refine ⟨⟨x0, x1, m2, x3, x4⟩, ?_⟩
  match vs, hl with
  | [a0, a1, a2, a3, a4], _ =>
    simp only [List.getElem?_cons_zero, List.getElem?_cons_succ, Option.some.injEq] at e0 e1 e2 e3 e4
    rw [e0, e1, e2, e3, e4]
    rfl
end Go.Proofs.Ytoleiiicbnmhpaa
namespace Go.Proofs.Ytoleiiicbnmhpaa
open Go.RowKit
section
variable {α : Type}
def updN (D : Nat → Option α) (s : Nat) (r : Option α) : Nat → Option α := fun k => if k = s then r else D k
theorem updN_same (D : Nat → Option α) (s : Nat) (r : Option α) : updN D s r s = r := if_pos rfl
theorem updN_other (D : Nat → Option α) (s : Nat) (r : Option α) {t : Nat} (h : t ≠ s) : updN D s r t = D t := if_neg h
/-- A map from slots, as a function. -/
def mpN (enc : α → Value) (D : Nat → Option α) : Lit → Option Value
  | .int .u64 a => if 0 ≤ a then (D a.toNat).map enc else none
  | _ => none
theorem mpN_at (enc : α → Value) (D : Nat → Option α) (s : Nat) : mpN enc D (ku s) = (D s).map enc := by simp [mpN, ku]
theorem mpN_none (enc : α → Value) : mpN enc (fun _ => none) = fun _ => none := by
  funext l
  cases l with
  | int q a => cases q <;> simp [mpN]
  | _ => rfl
theorem mpN_put (enc : α → Value) (D : Nat → Option α) (s : Nat) (r : α) : mpPut (mpN enc D) (ku s) (enc r) = mpN enc (updN D s (some r)) := by
  funext l
  unfold mpPut ku
  cases l with
  | int q a =>
    cases q <;> simp [Lit.sameKey, mpN]
    by_cases h : a = (s : Int)
    · subst h
      simp [updN]
    · rw [if_neg h]
      split
      · next h0 =>
        have : a.toNat ≠ s := by omega
        simp [updN, this]
      · rfl
  | _ => simp [Lit.sameKey, mpN]
end
/-- What holds between two acts. -/
structure PInv (D : Nat → Option OpR) (last : Nat) (V : Nat → Option ByteArray) (C W : Nat → Option Nat) (G : Nat → Option Bool) : Prop where
  op : ∀ s r, D s = some r → V s = some r.x ∧ C s = some r.c ∧ (W s).getD 0 = r.who ∧ (G s).getD false = false ∧ r.c < 256 ∧ r.who < 256 ∧ majorS r.c r.who = false
  vd : ∀ s v, V s = some v → (G s).getD false = false → (D s).isSome = true
  vl : ∀ s v, V s = some v → s ≤ last
  vw : ∀ s, V s = none → W s = none ∧ (G s).getD false = false
  ll : last < 18446744073709551616
section
variable {D : Nat → Option OpR} {last : Nat} {V : Nat → Option ByteArray} {C W : Nat → Option Nat} {G : Nat → Option Bool}
theorem inv_none : PInv (fun _ => none) 0 (fun _ => none) (fun _ => none) (fun _ => none) (fun _ => none) :=
  ⟨(fun _ _ h => by cases h), (fun _ _ h => by cases h), (fun _ _ h => by cases h), fun _ _ => ⟨rfl, rfl⟩, by decide⟩
theorem PInv.fresh (h : PInv D last V C W G) {s : Nat} (hl : last < s) : V s = none := by
  cases hv : V s with
  | none => rfl
  | some v => have := h.vl s v hv; omega
theorem major_zero (c : Nat) : majorS c 0 = false := by
  unfold majorS needS
  have : pop8 (bothS c 0 &&& 127) = 0 := by
    rw [show bothS c 0 &&& 127 = 0 by simp [bothS]]
    decide
  rw [this]
  simp
theorem with_lt (x y : Nat) : withS x y < 256 := by
  unfold withS
  exact Nat.lt_of_le_of_lt Nat.and_le_right (by decide)
theorem PInv.opened (h : PInv D last V C W G) {s c : Nat} (x : ByteArray) (hl : last < s) (hc : c < 256) (hs : s < 18446744073709551616) :
    PInv (updD D s (some ⟨x, c, 0⟩)) s (updN V s (some x)) (updN C s (some c)) W G := by
  have hv := h.fresh hl
  obtain ⟨hw, hg⟩ := h.vw s hv
  refine ⟨fun t r ht => ?_, fun t v ht hg' => ?_, fun t v ht => ?_, fun t ht => ?_, hs⟩
  · by_cases e : t = s
    · subst e
      simp only [updD, if_pos] at ht
      cases ht
      refine ⟨updN_same _ _ _, updN_same _ _ _, ?_, hg, hc, (show (0 : Nat) < 256 by decide), major_zero c⟩
      show (W t).getD 0 = 0
      rw [hw]
      rfl
    · simp only [updD, if_neg e] at ht
      have q := h.op t r ht
      exact ⟨(updN_other _ _ _ e).trans q.1, (updN_other _ _ _ e).trans q.2.1, q.2.2⟩
  · by_cases e : t = s
    · subst e
      simp [updD]
    · simp only [updD, if_neg e]
      exact h.vd t v ((updN_other V s (some x) e).symm.trans ht) hg'
  · by_cases e : t = s
    · omega
    · have := h.vl t v ((updN_other V s (some x) e).symm.trans ht)
      show t ≤ s
      omega
  · by_cases e : t = s
    · subst e
      rw [show updN V t (some x) t = some x from updN_same _ _ _] at ht
      cases ht
    · exact h.vw t ((updN_other V s (some x) e).symm.trans ht)
theorem PInv.closed (h : PInv D last V C W G) (s : Nat) : PInv (updD D s none) last V C W (updN G s (some (V s).isSome)) := by
  refine ⟨fun t r ht => ?_, fun t v ht hg => ?_, h.vl, fun t ht => ?_, h.ll⟩
  · by_cases e : t = s
    · subst e
      simp [updD] at ht
    · simp only [updD, if_neg e] at ht
      have q := h.op t r ht
      exact ⟨q.1, q.2.1, q.2.2.1, by rw [show updN G s (some (V s).isSome) t = G t from updN_other _ _ _ e]; exact q.2.2.2.1, q.2.2.2.2⟩
  · by_cases e : t = s
    · subst e
      rw [show updN G t (some (V t).isSome) t = some (V t).isSome from updN_same _ _ _, show V t = some v from ht] at hg
      cases hg
    · simp only [updD, if_neg e]
      exact h.vd t v ht (by rw [show updN G s (some (V s).isSome) t = G t from updN_other _ _ _ e] at hg; exact hg)
  · refine ⟨(h.vw t ht).1, ?_⟩
    by_cases e : t = s
    · subst e
      rw [show updN G t (some (V t).isSome) t = some (V t).isSome from updN_same _ _ _, show V t = none from ht]
      rfl
    · rw [show updN G s (some (V s).isSome) t = G t from updN_other _ _ _ e]
      exact (h.vw t ht).2
/-- Gone, told again. -/
theorem PInv.again (h : PInv D last V C W G) (s : Nat) : PInv D last V C W (updN G s (some ((G s).getD false))) := by
  have e : ∀ t, (updN G s (some ((G s).getD false)) t).getD false = (G t).getD false := fun t => by
    by_cases e : t = s
    · subst e; rw [updN_same]; rfl
    · rw [updN_other _ _ _ e]
  exact ⟨fun t r ht => by have q := h.op t r ht; exact ⟨q.1, q.2.1, q.2.2.1, (e t).trans q.2.2.2.1, q.2.2.2.2⟩, fun t v ht hg => h.vd t v ht ((e t).symm.trans hg), h.vl, fun t ht => ⟨(h.vw t ht).1, (e t).trans (h.vw t ht).2⟩, h.ll⟩
theorem PInv.more (h : PInv D last V C W G) {s nd : Nat} {r : OpR} (hd : D s = some r) (hm : majorS r.c (withS r.who (ofS nd)) = false) :
    PInv (updD D s (some ⟨r.x, r.c, withS r.who (ofS nd)⟩)) last V C (updN W s (some (withS r.who (ofS nd)))) (updN G s (some false)) := by
  have q0 := h.op s r hd
  refine ⟨fun t x ht => ?_, fun t v ht hg => ?_, h.vl, fun t ht => ?_, h.ll⟩
  · by_cases e : t = s
    · subst e
      simp only [updD, if_pos] at ht
      cases ht
      exact ⟨q0.1, q0.2.1, by rw [show updN W t (some (withS r.who (ofS nd))) t = some (withS r.who (ofS nd)) from updN_same _ _ _]; rfl, by rw [show updN G t (some false) t = some false from updN_same _ _ _]; rfl, q0.2.2.2.2.1, with_lt _ _, hm⟩
    · simp only [updD, if_neg e] at ht
      have q := h.op t x ht
      exact ⟨q.1, q.2.1, by rw [show updN W s _ t = W t from updN_other _ _ _ e]; exact q.2.2.1, by rw [show updN G s _ t = G t from updN_other _ _ _ e]; exact q.2.2.2.1, q.2.2.2.2⟩
  · by_cases e : t = s
    · subst e
      simp [updD]
    · simp only [updD, if_neg e]
      exact h.vd t v ht (by rw [show updN G s (some false) t = G t from updN_other _ _ _ e] at hg; exact hg)
  · have e : t ≠ s := by
      rintro rfl
      rw [show V t = some r.x from q0.1] at ht
      cases ht
    exact ⟨(updN_other W s _ e).trans (h.vw t ht).1, by rw [show updN G s _ t = G t from updN_other _ _ _ e]; exact (h.vw t ht).2⟩
theorem PInv.wins (h : PInv D last V C W G) {s nd : Nat} {r : OpR} (hd : D s = some r) :
    PInv (updD D s none) last V C (updN W s (some (withS r.who (ofS nd)))) (updN G s (some true)) := by
  have q0 := h.op s r hd
  refine ⟨fun t x ht => ?_, fun t v ht hg => ?_, h.vl, fun t ht => ?_, h.ll⟩
  · by_cases e : t = s
    · subst e
      simp [updD] at ht
    · simp only [updD, if_neg e] at ht
      have q := h.op t x ht
      exact ⟨q.1, q.2.1, by rw [show updN W s _ t = W t from updN_other _ _ _ e]; exact q.2.2.1, by rw [show updN G s _ t = G t from updN_other _ _ _ e]; exact q.2.2.2.1, q.2.2.2.2⟩
  · by_cases e : t = s
    · subst e
      rw [show updN G t (some true) t = some true from updN_same _ _ _] at hg
      cases hg
    · simp only [updD, if_neg e]
      exact h.vd t v ht (by rw [show updN G s (some true) t = G t from updN_other _ _ _ e] at hg; exact hg)
  · have e : t ≠ s := by
      rintro rfl
      rw [show V t = some r.x from q0.1] at ht
      cases ht
    exact ⟨(updN_other W s _ e).trans (h.vw t ht).1, by rw [show updN G s _ t = G t from updN_other _ _ _ e]; exact (h.vw t ht).2⟩
/-- As many are open as were opened and are not gone. -/
theorem PInv.count (h : PInv D last V C W G) {ns ks : List Nat} (hn : SlotsOf D ns) (hk : ks.Nodup) (hm : ∀ s, s ∈ ks ↔ (V s).isSome = true) : ns.length = (ks.filter (fun s => !(G s).getD false)).length := by
  have hnd : ns.Nodup := hn.1.imp fun q => by omega
  have hp : ns.Perm (ks.filter (fun s => !(G s).getD false)) := by
    rw [List.perm_ext_iff_of_nodup hnd (hk.filter _)]
    intro s
    rw [hn.2, List.mem_filter, hm]
    constructor
    · intro q
      obtain ⟨r, hr⟩ := Option.isSome_iff_exists.1 q
      have := h.op s r hr
      rw [this.1, this.2.2.2.1]
      simp
    · rintro ⟨q1, q2⟩
      obtain ⟨v, hv⟩ := Option.isSome_iff_exists.1 q1
      exact h.vd s v hv (by simpa using q2)
  exact hp.length_eq
end
end Go.Proofs.Ytoleiiicbnmhpaa
