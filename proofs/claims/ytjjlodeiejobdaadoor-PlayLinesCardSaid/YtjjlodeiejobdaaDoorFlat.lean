/- Rows of structs, laid flat: appended, owned, read. Over any program. No condition. -/
import Derived.Test.YtjjlodeiejobdaaDoorOpen
import Derived.Laws.AppendOwn
import Derived.Laws.AppendOwnNone
import Derived.OwnWalk
namespace Go.Proofs.YtjjlodeiejobdaaDoor
open Go.RowKit
section
variable {α : Type} {enc : α → List Value} {k : Nat}
/-- The cells of a row. -/
def flat (enc : α → List Value) (z : List α) : List Value := z.flatMap enc
theorem flat_len (hk : ∀ x, (enc x).length = k) : ∀ z : List α, (flat enc z).length = z.length * k
  | [] => by simp [flat]
  | x :: r => by
    have h := flat_len hk r
    unfold flat at *
    rw [List.flatMap_cons, List.length_append, hk, h, List.length_cons, Nat.succ_mul]
    omega
theorem flat_app (z y : List α) : flat enc (z ++ y) = flat enc z ++ flat enc y := by simp [flat]
theorem flat_at (hk : ∀ x, (enc x).length = k) : ∀ (z : List α) (i r : Nat) (x : α) (u : Value), z[i]? = some x → (enc x)[r]? = some u → (flat enc z)[i * k + r]? = some u
  | [], _, _, _, _, h, _ => by simp at h
  | y :: l, 0, r, x, u, h, hu => by
    simp at h
    subst h
    have hr : r < (enc y).length := (List.getElem?_eq_some_iff.1 hu).1
    unfold flat
    rw [List.flatMap_cons, Nat.zero_mul, Nat.zero_add, List.getElem?_append_left hr, hu]
  | y :: l, i + 1, r, x, u, h, hu => by
    simp at h
    have ih := flat_at hk l i r x u h hu
    unfold flat at *
    rw [List.flatMap_cons, List.getElem?_append_right (by rw [hk, Nat.succ_mul]; omega), hk, Nat.succ_mul, show i * k + k + r - k = i * k + r by omega]
    exact ih
theorem flat_get (hk : ∀ x, (enc x).length = k) (hk0 : 0 < k) {z : List α} {j : Nat} {u : Value} (h : (flat enc z)[j]? = some u) : ∃ x, z[j / k]? = some x ∧ (enc x)[j % k]? = some u := by
  have hj : j < z.length * k := by
    have := (List.getElem?_eq_some_iff.1 h).1
    rwa [flat_len hk] at this
  have hi : j / k < z.length := Nat.div_lt_of_lt_mul (by rw [Nat.mul_comm]; exact hj)
  have hr : j % k < (enc z[j / k]).length := by rw [hk]; exact Nat.mod_lt _ hk0
  have e := flat_at hk z (j / k) (j % k) z[j / k] _ (List.getElem?_eq_getElem hi) (List.getElem?_eq_getElem hr)
  rw [show j / k * k + j % k = j by rw [Nat.mul_comm]; exact Nat.div_add_mod j k, h] at e
  cases e
  exact ⟨_, List.getElem?_eq_getElem hi, List.getElem?_eq_getElem hr⟩
theorem flat_one (h1 : ∀ x, ∀ u ∈ enc x, u.oneCell' = true) (z : List α) : ∀ u ∈ flat enc z, u.oneCell' = true := by
  intro u hu
  obtain ⟨x, _, hx⟩ := List.mem_flatMap.1 hu
  exact h1 x u hx
/-- An owned row reads as its elements. -/
theorem own_slice {w : World} {base : Nat} {e : TypeId} {A : Option Addr} {n c : Nat} {z : List α} (hk : ∀ x, (enc x).length = k) (h : w.ownsRow base e k (.slice A n c) n (flat enc z)) (hz : z.length = n) (hm : n ≤ maxLen) : SliceAt k enc w A n z := by
  obtain ⟨h1, h2⟩ := h
  refine ⟨hz, hm, fun i x hx => ?_⟩
  have hi : i < z.length := (List.getElem?_eq_some_iff.1 hx).1
  rcases h2 with ⟨_, h3⟩ | ⟨g, cap, cur, e1, _, hg, _, _, _, ht⟩
  · omega
  · cases e1
    refine ⟨g, 0, rfl, (Array.getElem?_eq_some_iff.1 hg).1, fun j v hj => ?_⟩
    have e := flat_at hk z i j x v hx hj
    have hlt : i * k + j < n * k := by
      have := (List.getElem?_eq_some_iff.1 e).1
      rwa [flat_len hk, hz] at this
    rw [← ht, List.getElem?_take, if_pos hlt, Array.getElem?_toList] at e
    simp only [World.cell?, hg, Nat.zero_add]
    simpa using e
theorem own_nil {w : World} {base : Nat} {e : TypeId} {A : Option Addr} {n c : Nat} {xs : List Value} (h : w.ownsRow base e k (.slice A n c) n xs) : A = none → n = 0 ∧ c = 0 := by
  rintro rfl
  rcases h.2 with ⟨e1, _⟩ | ⟨g, cap, cur, e1, _⟩
  · cases e1; exact ⟨rfl, rfl⟩
  · cases e1
theorem own_slice_of {w : World} {base : Nat} {e : TypeId} {v : Value} {n : Nat} {xs : List Value} (h : w.ownsRow base e k v n xs) : ∃ A c, v = .slice A n c := by
  rcases h.2 with ⟨rfl, rfl⟩ | ⟨g, cap, cur, rfl, _⟩
  · exact ⟨none, 0, rfl⟩
  · exact ⟨_, _, rfl⟩
/-- 'append(s, x...)', s owned, x a row of structs, nil or not. -/
theorem wp_append_slice {P : Program} {w : World} {o : Oper} {a : Act} {K : Act → World → Prop} {Q : Exit → Act → World → Prop} (s x : Operand) (t : TypeId)
    (ho : o.op = .call { callee := .builtin .append, args := #[s, x], argTypes := #[t, t] })
    (base : Nat) (e : TypeId) (i : TypeInfo) (z0 : Value) (bytes : Nat) (ht : P.underlying t = some (.slice e)) (hi : P.info? e = some i) (hz : i.zero = some z0)
    (hsize : i.size = k) (hby : i.bytes = bytes) (hzs : z0.cells.size = k) (hk0 : 0 < k) (hk : ∀ x, (enc x).length = k) (h1 : ∀ x, ∀ u ∈ enc x, u.oneCell' = true)
    (v : Value) (n : Nat) (xs : List Value) (hs : a.eval s = v) (hown : w.ownsRow base e k v n xs) (A : Option Addr) (m c : Nat) (z : List α) (hx : a.eval x = .slice A m c) (hsrc : SliceAt k enc w A m z) (hnil : A = none → m = 0 ∧ c = 0)
    (h63 : n + m ≤ maxLen) (hbytes : (n + m) * bytes ≤ 140737488355328) (hbase : base ≤ w.heap.size)
    (h : ∀ v' w', w'.ownsRow base e k v' (n + m) (xs ++ flat enc z) → w.grownBy w' v.ownBlock → K (a.put o.dst v') w') : o.wp P a w K Q := by
  cases A with
  | none =>
    obtain ⟨rfl, rfl⟩ := hnil rfl
    have hz0 : z = [] := List.eq_nil_of_length_eq_zero hsrc.hlen
    subst hz0
    have hrun := run_append_owned_none (P := P) (w := w) base t o.type e i k ht hi v n xs hown
    have hh := h v w (by simpa [flat] using hown) (World.grownBy.refl w _)
    unfold Oper.wp
    simp [execOp, ho, resolve, invoke, builtin, hs, hx, hrun, Result.andThen]
    exact hh
  | some ad =>
    refine wp_append_own w s x t ho base e i z0 k bytes ht hi hz hsize hby hzs hk0 v n xs hs hown ad m c (flat enc z) hx (by rw [flat_len hk, hsrc.hlen]) (fun j u hj => ?_) (flat_one h1 z) h63 hbytes hbase (fun v' w' h3 h4 _ => h v' w' h3 h4)
    obtain ⟨y, hy, hu⟩ := flat_get hk hk0 hj
    obtain ⟨b, o', e1, _, e3⟩ := hsrc.cells _ y hy
    cases e1
    rw [Addr.add_lit, ← e3 _ u hu, show j / k * k + j % k = j by rw [Nat.mul_comm]; exact Nat.div_add_mod j k]
end
end Go.Proofs.YtjjlodeiejobdaaDoor
