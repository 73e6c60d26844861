/- Plain laws on trees' shapes: what they hold in order, and that each act keeps the order. No condition. -/
import Derived.Test.YtimhpncdlaildaaTrF
namespace Go.Proofs.Ytimhpncdlaildaa
open Go.RowKit

def Sh.look (key : ByteArray) : Sh → Option ByteArray
  | .nil => none
  | .node k v _ l r => if k = key then some v else if slt key k then l.look key else r.look key
def Sh.cnt : Sh → Nat
  | .nil => 0
  | .node _ _ _ l r => l.cnt + 1 + r.cnt
def Sh.dep : Sh → Nat
  | .nil => 0
  | .node _ _ _ l r => 1 + max l.dep r.dep
theorem sh_look (key : ByteArray) : ∀ T : Tr, T.look key = T.sh.look key
  | .nil => rfl
  | .node b k v wt l r => by
    have h1 := sh_look key l
    have h2 := sh_look key r
    unfold Tr.look at *
    simp only [Tr.sh]
    conv => lhs; unfold Tr.find
    conv => rhs; unfold Sh.look
    split
    · rfl
    split
    · exact h1
    · exact h2
theorem sh_cnt : ∀ T : Tr, T.cnt = T.sh.cnt
  | .nil => rfl
  | .node _ _ _ _ l r => by simp only [Tr.cnt, Tr.sh, Sh.cnt, sh_cnt l, sh_cnt r]
theorem sh_dep : ∀ T : Tr, T.dep = T.sh.dep
  | .nil => rfl
  | .node _ _ _ _ l r => by simp only [Tr.dep, Tr.sh, Sh.dep, sh_dep l, sh_dep r]

/-- What a tree holds, in order. -/
def Sh.kv : Sh → List (ByteArray × ByteArray)
  | .nil => []
  | .node k v _ l r => l.kv ++ (k, v) :: r.kv
def Asc (L : List (ByteArray × ByteArray)) : Prop := L.Pairwise fun p q => slt p.1 q.1 = true
def ltB (key : ByteArray) (p : ByteArray × ByteArray) : Bool := slt p.1 key
def gtB (key : ByteArray) (p : ByteArray × ByteArray) : Bool := slt key p.1
def insL (L : List (ByteArray × ByteArray)) (k v : ByteArray) : List (ByteArray × ByteArray) := L.filter (ltB k) ++ (k, v) :: L.filter (gtB k)
def rmL (L : List (ByteArray × ByteArray)) (k : ByteArray) : List (ByteArray × ByteArray) := L.filter (ltB k) ++ L.filter (gtB k)
theorem asc_node {L R : List (ByteArray × ByteArray)} {p : ByteArray × ByteArray} (h : Asc (L ++ p :: R)) : Asc L ∧ Asc R ∧ (∀ q ∈ L, slt q.1 p.1 = true) ∧ (∀ q ∈ R, slt p.1 q.1 = true) := by
  obtain ⟨h1, h2, h3⟩ := List.pairwise_append.1 h
  obtain ⟨h4, h5⟩ := List.pairwise_cons.1 h2
  exact ⟨h1, h5, fun q hq => h3 q hq p (by simp), h4⟩
theorem filter_all {q : ByteArray × ByteArray → Bool} {L : List (ByteArray × ByteArray)} (h : ∀ p ∈ L, q p = true) : L.filter q = L := List.filter_eq_self.2 h
theorem filter_no {q : ByteArray × ByteArray → Bool} {L : List (ByteArray × ByteArray)} (h : ∀ p ∈ L, q p = false) : L.filter q = [] := List.filter_eq_nil_iff.2 (fun p hp => by rw [h p hp]; exact Bool.false_ne_true)
section
variable {L R : List (ByteArray × ByteArray)} {k v key : ByteArray}
theorem filt_lt (h : Asc (L ++ (k, v) :: R)) (hk : slt key k = true) : (L ++ (k, v) :: R).filter (ltB key) = L.filter (ltB key) ∧ (L ++ (k, v) :: R).filter (gtB key) = L.filter (gtB key) ++ (k, v) :: R := by
  obtain ⟨_, _, _, h4⟩ := asc_node h
  have e1 : R.filter (ltB key) = [] := filter_no fun p hp => slt_asymm (slt_trans hk (h4 p hp))
  have e2 : R.filter (gtB key) = R := filter_all fun p hp => slt_trans hk (h4 p hp)
  have e3 : ltB key (k, v) = false := slt_asymm hk
  have e4 : gtB key (k, v) = true := hk
  simp [List.filter_append, e1, e2, e3, e4]
theorem filt_gt (h : Asc (L ++ (k, v) :: R)) (hk : slt k key = true) : (L ++ (k, v) :: R).filter (ltB key) = L ++ (k, v) :: R.filter (ltB key) ∧ (L ++ (k, v) :: R).filter (gtB key) = R.filter (gtB key) := by
  obtain ⟨_, _, h3, _⟩ := asc_node h
  have e1 : L.filter (ltB key) = L := filter_all fun p hp => slt_trans (h3 p hp) hk
  have e2 : L.filter (gtB key) = [] := filter_no fun p hp => slt_asymm (slt_trans (h3 p hp) hk)
  have e3 : ltB key (k, v) = true := hk
  have e4 : gtB key (k, v) = false := slt_asymm hk
  simp [List.filter_append, e1, e2, e3, e4]
theorem filt_eq (h : Asc (L ++ (k, v) :: R)) : (L ++ (k, v) :: R).filter (ltB k) = L ∧ (L ++ (k, v) :: R).filter (gtB k) = R := by
  obtain ⟨_, _, h3, h4⟩ := asc_node h
  have e1 : L.filter (ltB k) = L := filter_all fun p hp => h3 p hp
  have e2 : L.filter (gtB k) = [] := filter_no fun p hp => slt_asymm (h3 p hp)
  have e5 : R.filter (ltB k) = [] := filter_no fun p hp => slt_asymm (h4 p hp)
  have e6 : R.filter (gtB k) = R := filter_all fun p hp => h4 p hp
  have e3 : ltB k (k, v) = false := slt_irrefl k
  have e4 : gtB k (k, v) = false := slt_irrefl k
  simp [List.filter_append, e1, e2, e3, e4, e5, e6]
end
theorem kv_split (key : ByteArray) : ∀ {S : Sh}, Asc S.kv → (S.split key).1.kv = S.kv.filter (ltB key) ∧ (S.split key).2.kv = S.kv.filter (gtB key)
  | .nil, _ => ⟨rfl, rfl⟩
  | .node k v wt l r, h => by
    have h' : Asc (l.kv ++ (k, v) :: r.kv) := h
    obtain ⟨hl, hr, _, _⟩ := asc_node h'
    unfold Sh.split
    simp only [Sh.kv]
    split
    · rename_i hk
      obtain ⟨e1, e2⟩ := kv_split key hl
      obtain ⟨f1, f2⟩ := filt_lt h' hk
      rw [f1, f2, ← e1, ← e2]
      exact ⟨rfl, rfl⟩
    split
    · rename_i hk
      obtain ⟨e1, e2⟩ := kv_split key hr
      obtain ⟨f1, f2⟩ := filt_gt h' hk
      rw [f1, f2, ← e1, ← e2]
      exact ⟨rfl, rfl⟩
    · rename_i h1 h2
      have e : k = key := slt_total (by simpa using h2) (by simpa using h1)
      subst e
      obtain ⟨f1, f2⟩ := filt_eq h'
      rw [f1, f2]
      exact ⟨rfl, rfl⟩
theorem kv_join : ∀ (n : Nat) {a b : Sh}, SizeOf.sizeOf a + SizeOf.sizeOf b ≤ n → (Sh.join a b).kv = a.kv ++ b.kv
  | n, .nil, b, _ => by rw [Sh.nil_join]; rfl
  | n, .node k v wt l r, .nil, _ => by rw [Sh.join_nil]; simp [Sh.kv]
  | 0, .node k v wt l r, .node k' v' wt' l' r', h => by simp at h
  | n + 1, .node k v wt l r, .node k' v' wt' l' r', h => by
    rw [Sh.join]
    split
    · show l.kv ++ (k, v) :: (Sh.join r (.node k' v' wt' l' r')).kv = _
      rw [kv_join n (by simp only [Sh.node.sizeOf_spec] at h ⊢; omega)]
      simp [Sh.kv]
    · show (Sh.join (.node k v wt l r) l').kv ++ (k', v') :: r'.kv = _
      rw [kv_join n (by simp only [Sh.node.sizeOf_spec] at h ⊢; omega)]
      simp [Sh.kv]
theorem kv_put (k v : ByteArray) (wt : BitVec 64) : ∀ {S : Sh}, Asc S.kv → (S.put k v wt).kv = insL S.kv k v
  | .nil, _ => rfl
  | .node k0 v0 wt0 l r, h => by
    have h' : Asc (l.kv ++ (k0, v0) :: r.kv) := h
    obtain ⟨hl, hr, _, _⟩ := asc_node h'
    unfold Sh.put
    split
    · obtain ⟨e1, e2⟩ := kv_split k h
      simp only [Sh.kv] at e1 e2 ⊢
      rw [e1, e2]
      rfl
    split
    · rename_i hk
      obtain ⟨f1, f2⟩ := filt_lt h' hk
      simp only [Sh.kv]
      rw [kv_put k v wt hl]
      unfold insL
      rw [f1, f2]
      simp
    split
    · rename_i hk
      obtain ⟨f1, f2⟩ := filt_gt h' hk
      simp only [Sh.kv]
      rw [kv_put k v wt hr]
      unfold insL
      rw [f1, f2]
      simp
    · rename_i h1 h2
      have e : k0 = k := slt_total (by simpa using h2) (by simpa using h1)
      subst e
      obtain ⟨f1, f2⟩ := filt_eq h'
      simp only [Sh.kv]
      unfold insL
      rw [f1, f2]
theorem kv_del (k : ByteArray) : ∀ {S : Sh}, Asc S.kv → (S.del k).kv = rmL S.kv k
  | .nil, _ => rfl
  | .node k0 v0 wt0 l r, h => by
    have h' : Asc (l.kv ++ (k0, v0) :: r.kv) := h
    obtain ⟨hl, hr, _, _⟩ := asc_node h'
    unfold Sh.del
    split
    · rename_i hk
      obtain ⟨f1, f2⟩ := filt_lt h' hk
      simp only [Sh.kv]
      rw [kv_del k hl]
      unfold rmL
      rw [f1, f2]
      simp
    split
    · rename_i hk
      obtain ⟨f1, f2⟩ := filt_gt h' hk
      simp only [Sh.kv]
      rw [kv_del k hr]
      unfold rmL
      rw [f1, f2]
      simp
    · rename_i h1 h2
      have e : k0 = k := slt_total (by simpa using h2) (by simpa using h1)
      subst e
      obtain ⟨f1, f2⟩ := filt_eq h'
      rw [kv_join _ (Nat.le_refl _)]
      simp only [Sh.kv]
      unfold rmL
      rw [f1, f2]
theorem asc_filters {L : List (ByteArray × ByteArray)} (h : Asc L) (k : ByteArray) : Asc (rmL L k) := by
  refine List.pairwise_append.2 ⟨h.filter _, h.filter _, fun p hp q hq => ?_⟩
  exact slt_trans (List.mem_filter.1 hp).2 (List.mem_filter.1 hq).2
theorem asc_ins {L : List (ByteArray × ByteArray)} (h : Asc L) (k v : ByteArray) : Asc (insL L k v) := by
  refine List.pairwise_append.2 ⟨h.filter _, List.pairwise_cons.2 ⟨fun q hq => (List.mem_filter.1 hq).2, h.filter _⟩, fun p hp q hq => ?_⟩
  rcases List.mem_cons.1 hq with rfl | hq
  · exact (List.mem_filter.1 hp).2
  · exact slt_trans (List.mem_filter.1 hp).2 (List.mem_filter.1 hq).2
theorem asc_put {S : Sh} (h : Asc S.kv) (k v : ByteArray) (had : Option ByteArray) : Asc (putSh k v S had).kv := by
  unfold putSh
  split
  · exact h
  · rw [kv_put k v _ h]; exact asc_ins h k v
theorem asc_del {S : Sh} (h : Asc S.kv) (k : ByteArray) (had : Option ByteArray) : Asc (delSh k S had).kv := by
  unfold delSh
  split
  · exact h
  · rw [kv_del k h]; exact asc_filters h k
theorem kv_mem_sub {A B : Tr} (h : Sub A B) : ∀ p ∈ A.sh.kv, p ∈ B.sh.kv := by
  induction h with
  | refl => exact fun p h => h
  | left _ ih => intro p hp; simp only [Tr.sh, Sh.kv, List.mem_append]; exact .inl (ih p hp)
  | right _ ih => intro p hp; simp only [Tr.sh, Sh.kv, List.mem_append, List.mem_cons]; exact .inr (.inr (ih p hp))
/-- A part of a tree in order is found by its key. -/
theorem find_part {b : Nat} {k v : ByteArray} {wt : BitVec 64} {l r : Tr} {A : Tr} (h : Sub (.node b k v wt l r) A) : Asc A.sh.kv → A.find k = .node b k v wt l r := by
  generalize hB : Tr.node b k v wt l r = B at h
  induction h with
  | refl => subst hB; intro _; unfold Tr.find; rw [if_pos rfl]
  | left hs ih =>
    intro hA
    obtain ⟨hl, _, h3, _⟩ := asc_node hA
    have hk : slt k _ = true := h3 (k, v) (kv_mem_sub hs _ (by rw [← hB]; simp [Tr.sh, Sh.kv]))
    unfold Tr.find
    rw [if_neg (fun e => by rw [e, slt_irrefl] at hk; cases hk), if_pos hk]
    exact ih hl
  | right hs ih =>
    intro hA
    obtain ⟨_, hr, _, h4⟩ := asc_node hA
    have hk : slt _ k = true := h4 (k, v) (kv_mem_sub hs _ (by rw [← hB]; simp [Tr.sh, Sh.kv]))
    unfold Tr.find
    rw [if_neg (slt_ne hk), if_neg (by rw [slt_asymm hk]; exact Bool.false_ne_true)]
    exact ih hr
theorem newc_le (n : Nat) : ∀ T : Tr, T.newc n ≤ T.cnt
  | .nil => Nat.le_refl _
  | .node b _ _ _ l r => by
    have := newc_le n l
    have := newc_le n r
    simp only [Tr.newc, Tr.cnt]
    split <;> omega
end Go.Proofs.Ytimhpncdlaildaa
