/- Trees: Get, Put, Del, and what the laws do by an act. Condition: few enough nodes that their number is an int; keys that fit in memory. -/
import Derived.Test.YtbckjgageofldaaGreatZLearnNil7
namespace Go.Proofs.YtbckjgageofldaaGreat
open Go.RowKit
def Tr.look (key : ByteArray) (T : Tr) : Option ByteArray := (T.find key).val
theorem look_has {key : ByteArray} {T : Tr} : T.has key = if (T.look key).isSome then 1 else 0 := by
 unfold Tr.has Tr.look
 cases T.find key <;> rfl
def crcOf (k : ByteArray) : BitVec 64 := Crc.sum 0#64 k.data.toList
set_option maxHeartbeats 2000000 in
theorem get_any (key : ByteArray) (T : Tr) (w : World) (h : TreeAt w T) :
  Calls Tryz.prog 174 #[.pointer T.ptr, .string key] w fun e w' => e = .returned (.tuple #[.string ((T.look key).getD ByteArray.empty), .bool (T.look key).isSome]) ∧ w = w' := by
 have hf := find_any key T w h
 have hat := find_at h key
 unfold Tr.look
 generalize T.find key = F at *
 cases F with
 | nil =>
  have Hf := Lib.hid (show Calls Tryz.prog 176 #[.pointer T.ptr, .string key] w (fun e w' => e = .returned (.pointer none) ∧ w = w') from hf); clear hf h
  go_enter Tryz.func174, Tryz.ntmps174
  go_wp2_with ((with_reducible refine Hf.out.mono ?_); rintro e w' ⟨rfl, rfl⟩)
  go_ret2
  exact ⟨rfl, rfl⟩
 | node b k v wt l r =>
  obtain ⟨c0, c1, c2, c3, c4, c5, c6⟩ := hat.1.cells
  have Hf := Lib.hid (show Calls Tryz.prog 176 #[.pointer T.ptr, .string key] w (fun e w' => e = .returned (.pointer (some ⟨b, 0, none⟩)) ∧ w = w') from hf); clear hf h
  clear c0 c2 c3 c4 c5 c6 hat
  go_enter Tryz.func174, Tryz.ntmps174
  go_wp2_with ((with_reducible refine Hf.out.mono ?_); rintro e w' ⟨rfl, rfl⟩)
  go_ret2
  exact ⟨rfl, rfl⟩
structure ActPost (n : Nat) (same : Bool) (T : Tr) (S : Sh) (w w' : World) (X : Tr) : Prop where
 at_ : TreeAt w' X
 bel : Below w.heap.size w w'
 eqT : same = true → X = T
 neT : same = false → X ≠ T
 mad : Made n T X
 new : X.newc n ≤ T.dep + X.dep
 shp : X.sh = S
 num : X.cnt ≤ T.cnt + 1
def putSh (k v : ByteArray) (S : Sh) (had : Option ByteArray) : Sh := if had = some v then S else S.put k v (crcOf k)
def delSh (k : ByteArray) (S : Sh) (had : Option ByteArray) : Sh := if had = none then S else S.del k
theorem ActPost.stay {n : Nat} {T : Tr} {w w' : World} (h : TreeAt w' T) (hb : Below w.heap.size w w') (hlo : T.Lo n) : ActPost n true T T.sh w w' T :=
 ⟨h, hb, fun _ => rfl, (by intro h; cases h), .old (.refl _), by rw [hlo.newc]; exact Nat.zero_le _, rfl, Nat.le_succ _⟩
set_option maxRecDepth 100000 in
set_option maxHeartbeats 2000000 in
theorem putT_any (key v : ByteArray) (hk : key.size ≤ maxLen) (T : Tr) (n : Nat) (w : World) (hn : n ≤ w.heap.size) (hlo : T.Lo n) (hat : TreeAt w T) (hc : T.cnt ≤ 4611686018427387903) :
  Calls Tryz.prog 154 #[.pointer T.ptr, .string key, .string v] w fun e w' => ∃ X, e = .returned (.pointer X.ptr) ∧ ActPost n (decide (T.look key = some v)) T (putSh key v T.sh (T.look key)) w w' X := by
 have Hg := Lib.hid (get_any key T w hat)
 have Hat := Lib.hid hat; clear hat
 unfold putSh
 cases hl : T.look key with
 | none =>
  rw [hl] at Hg
  obtain ⟨c, hcr⟩ : ∃ c, crcOf key = c := ⟨_, rfl⟩
  have hsum := fun w => sum_any key hk w
  have hcr' : Crc.sum 0#64 key.data.toList = c := hcr
  rw [hcr'] at hsum
  rw [hcr, if_neg (by simp)]
  have Hs := Lib.hid hsum; clear hsum hcr hcr'
  go_enter Tryz.func154, Tryz.ntmps154
  simp only [Option.getD_none, Option.isSome_none] at Hg
  have Hb := Lib.hid ((Below.refl w.heap.size w).alloc (Nat.le_refl _) (.cells (nodeCells key v c none none 0 0) 195))
  have hnew : NodeAt (w.alloc (.cells (nodeCells key v c none none 0 0) 195)) w.heap.size key v c none none 0 0 := heap_alloc_new w _
  have Hp := Lib.hid (put_node w.heap.size key v c T n (w.alloc (.cells (nodeCells key v c none none 0 0) 195)) none none 0 0 (Nat.le_trans hn Hb.out.size) hlo (Hat.out.below Hb.out) hc hnew); clear hnew
  go_wp2_with (first
   | ((with_reducible refine Hg.out.mono ?_); rintro e w' ⟨rfl, rfl⟩)
   | ((with_reducible refine (Hs.out _).mono ?_); rintro e w' ⟨rfl, rfl⟩)
   | (refine Hp.out.mono ?_; rintro e w3 ⟨X, rfl, hx⟩; have Hx := Lib.hid hx; clear hx))
  go_ret
  refine ⟨X, rfl, Hx.out.at_, Hb.out.trans (Hx.out.bel.mono Hb.out.size), by simp, fun _ e => ?_, Hx.out.mad, ?_, Hx.out.shp, by have := Hx.out.num; omega⟩
  ·
   have := Hx.out.root
   rw [e, hlo.newc] at this
   omega
  ·
   have h1 := Hx.out.new
   have h2 := Hx.out.root
   have h3 : 1 ≤ X.dep := by
    cases X with
    | nil => simp [Tr.newc] at h2
    | node => simp only [Tr.dep]; omega
   omega
 | some o =>
  rw [hl] at Hg
  simp only [Option.getD_some, Option.isSome_some] at Hg
  by_cases e : o = v
  ·
   subst e
   rw [if_pos rfl]
   go_enter Tryz.func154, Tryz.ntmps154
   go_wp2_with ((with_reducible refine Hg.out.mono ?_); rintro e w' ⟨rfl, rfl⟩)
   go_ret
   refine ⟨T, rfl, ?_⟩
   exact .stay Hat.out (Below.refl _ _) hlo
  ·
   have hne := txt_ne e
   obtain ⟨c, hcr⟩ : ∃ c, crcOf key = c := ⟨_, rfl⟩
   have hsum := fun w => sum_any key hk w
   have hcr' : Crc.sum 0#64 key.data.toList = c := hcr
   rw [hcr'] at hsum
   rw [hcr, if_neg (by simpa using e)]
   have Hs := Lib.hid hsum; clear hsum hcr hcr'
   have He := Lib.hid e; clear e
   go_enter Tryz.func154, Tryz.ntmps154
   have Hb := Lib.hid ((Below.refl w.heap.size w).alloc (Nat.le_refl _) (.cells (nodeCells key v c none none 0 0) 195))
   have hnew : NodeAt (w.alloc (.cells (nodeCells key v c none none 0 0) 195)) w.heap.size key v c none none 0 0 := heap_alloc_new w _
   have Hp := Lib.hid (put_node w.heap.size key v c T n (w.alloc (.cells (nodeCells key v c none none 0 0) 195)) none none 0 0 (Nat.le_trans hn Hb.out.size) hlo (Hat.out.below Hb.out) hc hnew); clear hnew
   go_wp2_with (first
    | ((with_reducible refine Hg.out.mono ?_); rintro e w' ⟨rfl, rfl⟩)
    | ((with_reducible refine (Hs.out _).mono ?_); rintro e w' ⟨rfl, rfl⟩)
    | (refine Hp.out.mono ?_; rintro e w3 ⟨X, rfl, hx⟩; have Hx := Lib.hid hx; clear hx))
   go_ret
   refine ⟨X, rfl, Hx.out.at_, Hb.out.trans (Hx.out.bel.mono Hb.out.size), fun h => absurd (by simpa using h) He.out, fun _ e => ?_, Hx.out.mad, ?_, Hx.out.shp, by have := Hx.out.num; omega⟩
   ·
    have := Hx.out.root
    rw [e, hlo.newc] at this
    omega
   ·
    have h1 := Hx.out.new
    have h2 := Hx.out.root
    have h3 : 1 ≤ X.dep := by
     cases X with
     | nil => simp [Tr.newc] at h2
     | node => simp only [Tr.dep]; omega
    omega
set_option maxRecDepth 100000 in
set_option maxHeartbeats 2000000 in
theorem delT_any (key : ByteArray) (T : Tr) (n : Nat) (w : World) (hn : n ≤ w.heap.size) (hlo : T.Lo n) (hat : TreeAt w T) (hc : T.cnt ≤ 4611686018427387903) :
  Calls Tryz.prog 155 #[.pointer T.ptr, .string key] w fun e w' => ∃ X, e = .returned (.pointer X.ptr) ∧ ActPost n (T.look key).isNone T (delSh key T.sh (T.look key)) w w' X := by
 have hf := find_any key T w hat
 have Hat := Lib.hid hat; clear hat
 have hhas : T.has key = if (T.look key).isSome then 1 else 0 := look_has
 unfold delSh
 have hlk : T.look key = (T.find key).val := rfl
 rw [hlk] at hhas ⊢
 clear hlk
 cases hF : T.find key with
 | nil =>
  rw [hF] at hf
  have Hf := Lib.hid (show Calls Tryz.prog 176 #[.pointer T.ptr, .string key] w (fun e w' => e = .returned (.pointer none) ∧ w = w') from hf); clear hf
  go_enter Tryz.func155, Tryz.ntmps155
  go_wp2_with ((with_reducible refine Hf.out.mono ?_); rintro e w' ⟨rfl, rfl⟩)
  go_ret
  refine ⟨T, rfl, ?_⟩
  exact .stay Hat.out (Below.refl _ _) hlo
 | node b k v wt l r =>
  rw [hF] at hf hhas
  have hhas' : T.has key = 1 := hhas
  have Hf := Lib.hid (show Calls Tryz.prog 176 #[.pointer T.ptr, .string key] w (fun e w' => e = .returned (.pointer (some ⟨b, 0, none⟩)) ∧ w = w') from hf); clear hf
  rw [if_neg (show ¬ (Tr.node b k v wt l r).val = none by simp [Tr.val])]
  have Hd := Lib.hid (del_any key T n w hn hlo Hat.out (by omega) hhas'); clear hhas hhas'
  go_enter Tryz.func155, Tryz.ntmps155
  go_wp2_with (first
   | ((with_reducible refine Hf.out.mono ?_); rintro e w' ⟨rfl, rfl⟩)
   | ((with_reducible refine Hd.out.mono ?_); rintro e w3 ⟨X, rfl, hx⟩; have Hx := Lib.hid hx; clear hx))
  go_ret
  refine ⟨X, rfl, Hx.out.at_, Hx.out.bel, by simp [Tr.val], fun _ e => ?_, Hx.out.mad, by have := Hx.out.new; omega, ?_, by have := Hx.out.num; omega⟩
  ·
   have := Hx.out.num
   rw [e] at this
   omega
  ·
   exact Hx.out.shp
end Go.Proofs.YtbckjgageofldaaGreat
namespace Go.Proofs.YtbckjgageofldaaGreat
open Go.RowKit
def Sh.look (key : ByteArray) : Sh → Option ByteArray
 | .nil => none
 | .node k v _ l r => if k = key then some v else if slt key k then l.look key else r.look key
def Sh.cnt : Sh → Nat
 | .nil => 0
 | .node _ _ _ l r => l.cnt + 1 + r.cnt
def Sh.dep : Sh → Nat
 | .nil => 0
 | .node _ _ _ l r => 1 + max l.dep r.dep
theorem sh_look (key : ByteArray) : ∀ T : Tr, T.look key = T.sh.look key
 | .nil => rfl
 | .node b k v wt l r => by
  have h1 := sh_look key l
  have h2 := sh_look key r
  unfold Tr.look at *
  simp only [Tr.sh]
  conv => lhs; unfold Tr.find
  conv => rhs; unfold Sh.look
  split
  ·
   rfl
  split
  ·
   exact h1
  ·
   exact h2
theorem sh_cnt : ∀ T : Tr, T.cnt = T.sh.cnt
 | .nil => rfl
 | .node _ _ _ _ l r => by simp only [Tr.cnt, Tr.sh, Sh.cnt, sh_cnt l, sh_cnt r]
def Sh.kv : Sh → List (ByteArray × ByteArray)
 | .nil => []
 | .node k v _ l r => l.kv ++ (k, v) :: r.kv
def Asc (L : List (ByteArray × ByteArray)) : Prop := L.Pairwise fun p q => slt p.1 q.1 = true
def ltB (key : ByteArray) (p : ByteArray × ByteArray) : Bool := slt p.1 key
def gtB (key : ByteArray) (p : ByteArray × ByteArray) : Bool := slt key p.1
def insL (L : List (ByteArray × ByteArray)) (k v : ByteArray) : List (ByteArray × ByteArray) := L.filter (ltB k) ++ (k, v) :: L.filter (gtB k)
def rmL (L : List (ByteArray × ByteArray)) (k : ByteArray) : List (ByteArray × ByteArray) := L.filter (ltB k) ++ L.filter (gtB k)
theorem asc_node {L R : List (ByteArray × ByteArray)} {p : ByteArray × ByteArray} (h : Asc (L ++ p :: R)) : Asc L ∧ Asc R ∧ (∀ q ∈ L, slt q.1 p.1 = true) ∧ (∀ q ∈ R, slt p.1 q.1 = true) := by
 obtain ⟨h1, h2, h3⟩ := List.pairwise_append.1 h
 obtain ⟨h4, h5⟩ := List.pairwise_cons.1 h2
 exact ⟨h1, h5, fun q hq => h3 q hq p (by simp), h4⟩
theorem filter_all {q : ByteArray × ByteArray → Bool} {L : List (ByteArray × ByteArray)} (h : ∀ p ∈ L, q p = true) : L.filter q = L := List.filter_eq_self.2 h
theorem filter_no {q : ByteArray × ByteArray → Bool} {L : List (ByteArray × ByteArray)} (h : ∀ p ∈ L, q p = false) : L.filter q = [] := List.filter_eq_nil_iff.2 (fun p hp => by rw [h p hp]; exact Bool.false_ne_true)
section
variable {L R : List (ByteArray × ByteArray)} {k v key : ByteArray}
theorem filt_lt (h : Asc (L ++ (k, v) :: R)) (hk : slt key k = true) : (L ++ (k, v) :: R).filter (ltB key) = L.filter (ltB key) ∧ (L ++ (k, v) :: R).filter (gtB key) = L.filter (gtB key) ++ (k, v) :: R := by
 obtain ⟨_, _, _, h4⟩ := asc_node h
 have e1 : R.filter (ltB key) = [] := filter_no fun p hp => slt_asymm (slt_trans hk (h4 p hp))
 have e2 : R.filter (gtB key) = R := filter_all fun p hp => slt_trans hk (h4 p hp)
 have e3 : ltB key (k, v) = false := slt_asymm hk
 have e4 : gtB key (k, v) = true := hk
 simp [List.filter_append, e1, e2, e3, e4]
theorem filt_gt (h : Asc (L ++ (k, v) :: R)) (hk : slt k key = true) : (L ++ (k, v) :: R).filter (ltB key) = L ++ (k, v) :: R.filter (ltB key) ∧ (L ++ (k, v) :: R).filter (gtB key) = R.filter (gtB key) := by
 obtain ⟨_, _, h3, _⟩ := asc_node h
 have e1 : L.filter (ltB key) = L := filter_all fun p hp => slt_trans (h3 p hp) hk
 have e2 : L.filter (gtB key) = [] := filter_no fun p hp => slt_asymm (slt_trans (h3 p hp) hk)
 have e3 : ltB key (k, v) = true := hk
 have e4 : gtB key (k, v) = false := slt_asymm hk
 simp [List.filter_append, e1, e2, e3, e4]
theorem filt_eq (h : Asc (L ++ (k, v) :: R)) : (L ++ (k, v) :: R).filter (ltB k) = L ∧ (L ++ (k, v) :: R).filter (gtB k) = R := by
 obtain ⟨_, _, h3, h4⟩ := asc_node h
 have e1 : L.filter (ltB k) = L := filter_all fun p hp => h3 p hp
 have e2 : L.filter (gtB k) = [] := filter_no fun p hp => slt_asymm (h3 p hp)
 have e5 : R.filter (ltB k) = [] := filter_no fun p hp => slt_asymm (h4 p hp)
 have e6 : R.filter (gtB k) = R := filter_all fun p hp => h4 p hp
 have e3 : ltB k (k, v) = false := slt_irrefl k
 have e4 : gtB k (k, v) = false := slt_irrefl k
 simp [List.filter_append, e1, e2, e3, e4, e5, e6]
end
theorem kv_split (key : ByteArray) : ∀ {S : Sh}, Asc S.kv → (S.split key).1.kv = S.kv.filter (ltB key) ∧ (S.split key).2.kv = S.kv.filter (gtB key)
 | .nil, _ => ⟨rfl, rfl⟩
 | .node k v wt l r, h => by
  have h' : Asc (l.kv ++ (k, v) :: r.kv) := h
  obtain ⟨hl, hr, _, _⟩ := asc_node h'
  unfold Sh.split
  simp only [Sh.kv]
  split
  ·
   rename_i hk
   obtain ⟨e1, e2⟩ := kv_split key hl
   obtain ⟨f1, f2⟩ := filt_lt h' hk
   rw [f1, f2, ← e1, ← e2]
   exact ⟨rfl, rfl⟩
  split
  ·
   rename_i hk
   obtain ⟨e1, e2⟩ := kv_split key hr
   obtain ⟨f1, f2⟩ := filt_gt h' hk
   rw [f1, f2, ← e1, ← e2]
   exact ⟨rfl, rfl⟩
  ·
   rename_i h1 h2
   have e : k = key := slt_total (by simpa using h2) (by simpa using h1)
   subst e
   obtain ⟨f1, f2⟩ := filt_eq h'
   rw [f1, f2]
   exact ⟨rfl, rfl⟩
theorem kv_join : ∀ (n : Nat) {a b : Sh}, SizeOf.sizeOf a + SizeOf.sizeOf b ≤ n → (Sh.join a b).kv = a.kv ++ b.kv
 | n, .nil, b, _ => by rw [Sh.nil_join]; rfl
 | n, .node k v wt l r, .nil, _ => by rw [Sh.join_nil]; simp [Sh.kv]
 | 0, .node k v wt l r, .node k' v' wt' l' r', h => by simp at h
 | n + 1, .node k v wt l r, .node k' v' wt' l' r', h => by
  rw [Sh.join]
  split
  ·
   show l.kv ++ (k, v) :: (Sh.join r (.node k' v' wt' l' r')).kv = _
   rw [kv_join n (by simp only [Sh.node.sizeOf_spec] at h ⊢; omega)]
   simp [Sh.kv]
  ·
   show (Sh.join (.node k v wt l r) l').kv ++ (k', v') :: r'.kv = _
   rw [kv_join n (by simp only [Sh.node.sizeOf_spec] at h ⊢; omega)]
   simp [Sh.kv]
theorem kv_put (k v : ByteArray) (wt : BitVec 64) : ∀ {S : Sh}, Asc S.kv → (S.put k v wt).kv = insL S.kv k v
 | .nil, _ => rfl
 | .node k0 v0 wt0 l r, h => by
  have h' : Asc (l.kv ++ (k0, v0) :: r.kv) := h
  obtain ⟨hl, hr, _, _⟩ := asc_node h'
  unfold Sh.put
  split
  ·
   obtain ⟨e1, e2⟩ := kv_split k h
   simp only [Sh.kv] at e1 e2 ⊢
   rw [e1, e2]
   rfl
  split
  ·
   rename_i hk
   obtain ⟨f1, f2⟩ := filt_lt h' hk
   simp only [Sh.kv]
   rw [kv_put k v wt hl]
   unfold insL
   rw [f1, f2]
   simp
  split
  ·
   rename_i hk
   obtain ⟨f1, f2⟩ := filt_gt h' hk
   simp only [Sh.kv]
   rw [kv_put k v wt hr]
   unfold insL
   rw [f1, f2]
   simp
  ·
   rename_i h1 h2
   have e : k0 = k := slt_total (by simpa using h2) (by simpa using h1)
   subst e
   obtain ⟨f1, f2⟩ := filt_eq h'
   simp only [Sh.kv]
   unfold insL
   rw [f1, f2]
theorem kv_del (k : ByteArray) : ∀ {S : Sh}, Asc S.kv → (S.del k).kv = rmL S.kv k
 | .nil, _ => rfl
 | .node k0 v0 wt0 l r, h => by
  have h' : Asc (l.kv ++ (k0, v0) :: r.kv) := h
  obtain ⟨hl, hr, _, _⟩ := asc_node h'
  unfold Sh.del
  split
  ·
   rename_i hk
   obtain ⟨f1, f2⟩ := filt_lt h' hk
   simp only [Sh.kv]
   rw [kv_del k hl]
   unfold rmL
   rw [f1, f2]
   simp
  split
  ·
   rename_i hk
   obtain ⟨f1, f2⟩ := filt_gt h' hk
   simp only [Sh.kv]
   rw [kv_del k hr]
   unfold rmL
   rw [f1, f2]
   simp
  ·
   rename_i h1 h2
   have e : k0 = k := slt_total (by simpa using h2) (by simpa using h1)
   subst e
   obtain ⟨f1, f2⟩ := filt_eq h'
   rw [kv_join _ (Nat.le_refl _)]
   simp only [Sh.kv]
   unfold rmL
   rw [f1, f2]
theorem asc_filters {L : List (ByteArray × ByteArray)} (h : Asc L) (k : ByteArray) : Asc (rmL L k) := by
 refine List.pairwise_append.2 ⟨h.filter _, h.filter _, fun p hp q hq => ?_⟩
 exact slt_trans (List.mem_filter.1 hp).2 (List.mem_filter.1 hq).2
theorem asc_ins {L : List (ByteArray × ByteArray)} (h : Asc L) (k v : ByteArray) : Asc (insL L k v) := by
 refine List.pairwise_append.2 ⟨h.filter _, List.pairwise_cons.2 ⟨fun q hq => (List.mem_filter.1 hq).2, h.filter _⟩, fun p hp q hq => ?_⟩
 rcases List.mem_cons.1 hq with rfl | hq
 ·
  exact (List.mem_filter.1 hp).2
 ·
  exact slt_trans (List.mem_filter.1 hp).2 (List.mem_filter.1 hq).2
theorem asc_put {S : Sh} (h : Asc S.kv) (k v : ByteArray) (had : Option ByteArray) : Asc (putSh k v S had).kv := by
 unfold putSh
 split
 ·
  exact h
 ·
  rw [kv_put k v _ h]; exact asc_ins h k v
theorem asc_del {S : Sh} (h : Asc S.kv) (k : ByteArray) (had : Option ByteArray) : Asc (delSh k S had).kv := by
 unfold delSh
 split
 ·
  exact h
 ·
  rw [kv_del k h]; exact asc_filters h k
end Go.Proofs.YtbckjgageofldaaGreat
