/- Log (plain): a disk that holds a log's segments and nothing else. No condition. -/
import Derived.BigQuiet
import Derived.Test.YtogfladmgbldcaaGreatDoorZLogRenews8
import Derived.Test.YtogfladmgbldcaaGreatDoorZLogRenews9
namespace Go.Proofs.YtogfladmgbldcaaGreatDoor
theorem sname_fin : ∀ n : Fin 210, numN (sname (n.val + 1)) = some (n.val + 1) ∧ sname n.val < sname (n.val + 1) ∧ (sname (n.val + 1)).length = 9 := by decide +kernel
theorem sname_num {n : Nat} (h1 : 1 ≤ n) (h2 : n ≤ 210) : numN (sname n) = some n := by
  have h := (sname_fin ⟨n - 1, by omega⟩).1
  dsimp only at h
  rwa [show n - 1 + 1 = n by omega] at h
theorem sname_len {n : Nat} (h1 : 1 ≤ n) (h2 : n ≤ 210) : (sname n).length = 9 := by
  have h := (sname_fin ⟨n - 1, by omega⟩).2.2
  dsimp only at h
  rwa [show n - 1 + 1 = n by omega] at h
theorem sname_lt : ∀ (k n : Nat), n + k + 1 ≤ 210 → sname n < sname (n + k + 1)
  | 0, n, h => (sname_fin ⟨n, by omega⟩).2.1
  | k + 1, n, h => List.lt_trans (sname_lt k n (by omega)) ((sname_fin ⟨n + k + 1, by omega⟩).2.1)
theorem sname_lt' {n m : Nat} (h : n < m) (hm : m ≤ 210) : sname n < sname m := by
  have h2 := sname_lt (m - n - 1) n (by omega)
  rwa [show n + (m - n - 1) + 1 = m by omega] at h2
/-- A whole segment. -/
def segW (n : Nat) (R : List Bs) : FilV := ⟨sname n, frsL R, (frsL R).length⟩
def whs : Nat → List (List Bs) → List FilV
  | _, [] => []
  | a, R :: r => segW a R :: whs (a + 1) r
def whsN : Nat → List (List Bs) → List (Nat × FilV)
  | _, [] => []
  | a, R :: r => (a, segW a R) :: whsN (a + 1) r
def lastF (n : Nat) (R : List Bs) (t : Bs) (y : Nat) : FilV := ⟨sname n, frsL R ++ t, (frsL (R.take y)).length⟩
theorem lastF_whole (n : Nat) (R : List Bs) : lastF n R [] R.length = segW n R := by unfold lastF segW; rw [List.append_nil, List.take_length]
theorem whs_len : ∀ (a : Nat) (P : List (List Bs)), (whs a P).length = P.length
  | _, [] => rfl
  | a, R :: r => by rw [whs, List.length_cons, whs_len, List.length_cons]
theorem whsN_len : ∀ (a : Nat) (P : List (List Bs)), (whsN a P).length = P.length
  | _, [] => rfl
  | a, R :: r => by rw [whsN, List.length_cons, whsN_len, List.length_cons]
theorem whs_snoc : ∀ (a : Nat) (P : List (List Bs)) (R : List Bs), whs a (P ++ [R]) = whs a P ++ [segW (a + P.length) R]
  | _, [], _ => rfl
  | a, Q :: r, R => by
    rw [List.cons_append, whs, whs_snoc, whs, List.length_cons, List.cons_append, show a + 1 + r.length = a + (r.length + 1) by omega]
theorem whsN_at : ∀ (a : Nat) (P : List (List Bs)) (i : Nat), (whsN a P)[i]? = (P[i]?).map (fun Q => (a + i, segW (a + i) Q))
  | _, [], _ => by simp [whsN]
  | a, Q :: r, 0 => by simp [whsN]
  | a, Q :: r, i + 1 => by
    rw [whsN, List.getElem?_cons_succ, whsN_at, List.getElem?_cons_succ, show a + 1 + i = a + (i + 1) by omega]
theorem segF_w {n : Nat} {f : FilV} (h1 : 1 ≤ n) (h2 : n ≤ 210) (hf : f.nm = sname n) : segF f = some (n, f) := by
  unfold segF
  rw [hf, sname_num h1 h2]
  rfl
theorem segL_whs : ∀ (a : Nat) (P : List (List Bs)), 1 ≤ a → a + P.length ≤ 211 → segL (whs a P) = whsN a P
  | _, [], _, _ => rfl
  | a, R :: r, h1, h2 => by
    rw [List.length_cons] at h2
    unfold segL
    rw [whs, List.filterMap_cons, segF_w h1 (by omega) rfl]
    dsimp only
    have h3 := segL_whs (a + 1) r (by omega) (by omega)
    unfold segL at h3
    rw [h3, whsN]
theorem whs_mem : ∀ (a : Nat) (P : List (List Bs)) (f : FilV), f ∈ whs a P → ∃ k Q, k < P.length ∧ P[k]? = some Q ∧ f = segW (a + k) Q
  | _, [], _, h => by cases h
  | a, R :: r, f, h => by
    rcases List.mem_cons.1 h with rfl | h
    · exact ⟨0, R, by simp, rfl, rfl⟩
    · obtain ⟨k, Q, h1, h2, h3⟩ := whs_mem (a + 1) r f h
      exact ⟨k + 1, Q, by simpa using h1, by simpa using h2, by rw [h3, show a + 1 + k = a + (k + 1) by omega]⟩
theorem whs_rise : ∀ (a : Nat) (P : List (List Bs)), a + P.length ≤ 211 → Rise (whs a P)
  | _, [], _ => List.Pairwise.nil
  | a, R :: r, h => by
    rw [List.length_cons] at h
    refine List.pairwise_cons.2 ⟨fun f hf => ?_, whs_rise (a + 1) r (by omega)⟩
    obtain ⟨k, Q, h1, _, rfl⟩ := whs_mem _ _ _ hf
    exact sname_lt' (by omega) (by omega)
theorem whs_last_rise {a : Nat} {P : List (List Bs)} {g : FilV} (h : a + P.length ≤ 210) (hg : g.nm = sname (a + P.length)) : Rise (whs a P ++ [g]) := by
  refine List.pairwise_append.2 ⟨whs_rise a P (by omega), List.pairwise_singleton _ _, fun f hf q hq => ?_⟩
  rw [List.mem_singleton.1 hq, hg]
  obtain ⟨k, Q, h1, _, rfl⟩ := whs_mem _ _ _ hf
  exact sname_lt' (by omega) (by omega)
theorem put_end {f : FilV} : ∀ {l : List FilV}, (∀ g ∈ l, g.nm < f.nm) → putF f l = l ++ [f]
  | [], _ => rfl
  | g :: r, h => by
    have h1 := h g (List.mem_cons_self ..)
    rw [putF, if_neg (fun e => by rw [e] at h1; exact List.lt_irrefl _ h1), if_neg (fun e => List.lt_irrefl _ (List.lt_trans h1 e)), put_end (fun q hq => h q (List.mem_cons_of_mem _ hq))]
    rfl
theorem tot_app (a b : List FilV) : totF (a ++ b) = totF a + totF b := by simp [totF]
theorem tot_whs : ∀ (a : Nat) (P : List (List Bs)), totF (whs a P) = (frsL P.flatten).length
  | _, [] => rfl
  | a, R :: r => by
    rw [whs, tot_cons, tot_whs, List.flatten_cons, frsL_app, List.length_append]
    rfl
/-- Bytes that are no frame, nor begin with one. -/
def Tor (t : Bs) : Prop := (splD t).1 = [] ∧ (splD t).2.1 = 0
theorem tor_nil : Tor [] := ⟨rfl, rfl⟩
theorem tor_pre {x t : Bs} (h : frOk x) (hp : t <+: frL x) (hl : t.length < (frL x).length) : Tor t := by
  by_cases h0 : t.length = 0
  · rw [List.length_eq_zero_iff.1 h0]
    exact tor_nil
  · have h2 := take_torn h.1 h.2 hp hl
    unfold Tor
    rw [splD_err (by rw [h2]; decide) h0]
    exact ⟨rfl, rfl⟩
theorem splD_tor {R : List Bs} {t : Bs} (h : Oks R) (ht : Tor t) : (splD (frsL R ++ t)).1 = R ∧ (splD (frsL R ++ t)).2.1 = (frsL R).length := by
  rw [splD_frs R h t]
  dsimp only
  rw [ht.1, ht.2]
  exact ⟨List.append_nil _, rfl⟩
/-- A disk that holds a log's segments: whole ones from a on, and a last one. -/
structure Lg (D : DskV) (a : Nat) (P : List (List Bs)) (R : List Bs) (t : Bs) (y : Nat) : Prop where
  fs : D.fs = whs a P ++ [lastF (a + P.length) R t y]
  ok : Oks P.flatten
  okR : Oks R
  num : 1 ≤ a ∧ a + P.length ≤ 200
  yR : y ≤ R.length
  tor : Tor t
  sum : D.room + totF D.fs = 4194304
/-- .. none. -/
structure Lg0 (D : DskV) : Prop where
  fs : D.fs = []
  room : D.room = 4194304
section
variable {D : DskV} {a : Nat} {P : List (List Bs)} {R : List Bs} {t : Bs} {y : Nat}
theorem Lg.rise (h : Lg D a P R t y) : Rise D.fs := by rw [h.fs]; exact whs_last_rise (by have := h.num; omega) rfl
theorem Lg.seg (h : Lg D a P R t y) : segL D.fs = whsN a P ++ [(a + P.length, lastF (a + P.length) R t y)] := by
  have hn := h.num
  rw [h.fs, segL_snoc, segL_whs a P hn.1 (by omega), segF_w (n := a + P.length) (by omega) (by omega) rfl]
  rfl
theorem oks_take {l : List Bs} (h : Oks l) (n : Nat) : Oks (l.take n) := fun x hx => h x (List.take_subset _ _ hx)
theorem frsL_take (l : List Bs) (n : Nat) : frsL (l.take n) <+: frsL l := by
  refine ⟨frsL (l.drop n), ?_⟩
  rw [← frsL_app, List.take_append_drop]
theorem Lg.sy_le (_ : Lg D a P R t y) : (lastF (a + P.length) R t y).by_.take (lastF (a + P.length) R t y).sy = frsL (R.take y) := by
  show (frsL R ++ t).take (frsL (R.take y)).length = _
  have h2 : frsL (R.take y) <+: frsL R ++ t := (frsL_take R y).trans (List.prefix_append _ _)
  exact (List.prefix_iff_eq_take.1 h2).symm
theorem Lg.good (h : Lg D a P R t y) : ¬ Spoilt (segL D.fs) := by
  rintro ⟨i, x, hx, hb⟩
  rw [h.seg] at hx hb
  have hl := whsN_len a P
  by_cases hi : i < P.length
  · rw [List.getElem?_append_left (by omega), whsN_at, List.getElem?_eq_getElem hi] at hx
    simp only [Option.map_some, Option.some.injEq] at hx
    subst hx
    rcases hb with ⟨h0, hb⟩ | hb | ⟨_, hb⟩
    · rw [List.getElem?_append_left (by omega), whsN_at, List.getElem?_eq_getElem (by omega)] at hb
      exact hb _ rfl (by show a + i = a + (i - 1) + 1; omega)
    · refine hb ?_
      show (splD ((frsL P[i]).take (frsL P[i]).length)).2.2 = 0
      rw [List.take_length, splD_all (fun z hz => h.ok z (List.mem_flatten.2 ⟨_, List.getElem_mem hi, hz⟩))]
    · exact Nat.lt_irrefl _ hb
  · have hi2 : i = P.length := by
      have := (List.getElem?_eq_some_iff.1 hx).1
      simp [hl] at this
      omega
    subst hi2
    rw [List.getElem?_append_right (by omega), hl, Nat.sub_self, List.getElem?_cons_zero] at hx
    obtain rfl := Option.some.inj hx
    rcases hb with ⟨h0, hb⟩ | hb | ⟨hb, _⟩
    · rw [List.getElem?_append_left (by omega), whsN_at, List.getElem?_eq_getElem (by omega)] at hb
      exact hb _ rfl (by show a + P.length = a + (P.length - 1) + 1; omega)
    · refine hb ?_
      dsimp only
      rw [h.sy_le, splD_all (oks_take h.okR y)]
    · simp [hl] at hb
theorem recL_whsN : ∀ (a : Nat) (P : List (List Bs)), Oks P.flatten → recL (whsN a P) = P.flatten
  | _, [], _ => rfl
  | a, R :: r, h => by
    rw [List.flatten_cons] at h
    have h1 : Oks R := fun z hz => h z (List.mem_append_left _ hz)
    have h2 : Oks r.flatten := fun z hz => h z (List.mem_append_right _ hz)
    have h3 := recL_whsN (a + 1) r h2
    unfold recL at h3 ⊢
    rw [whsN, List.flatMap_cons, h3, List.flatten_cons]
    show (splD (frsL R)).1 ++ _ = _
    rw [splD_all h1]
theorem Lg.recs (h : Lg D a P R t y) : recL (segL D.fs) = P.flatten ++ R := by
  rw [h.seg, recL_snoc, recL_whsN a P h.ok]
  show _ ++ (splD (frsL R ++ t)).1 = _
  rw [(splD_tor h.okR h.tor).1]
theorem Lg.ends (h : Lg D a P R t y) : endL (segL D.fs) = (frsL R).length := by
  rw [h.seg, endL_snoc]
  exact (splD_tor h.okR h.tor).2
theorem Lg.find (h : Lg D a P R t y) : findF (sname (a + P.length)) D.fs = some (lastF (a + P.length) R t y) :=
  find_of h.rise (f := lastF (a + P.length) R t y) (by rw [h.fs]; exact List.mem_append_right _ (List.mem_singleton.2 rfl))
theorem Lg.putl (h : Lg D a P R t y) (g : FilV) (hg : g.nm = sname (a + P.length)) : putF g D.fs = whs a P ++ [g] := by
  have hr := h.rise
  rw [h.fs] at hr ⊢
  exact put_mid (f := lastF (a + P.length) R t y) hg hr
theorem Lg.tot (h : Lg D a P R t y) : totF D.fs = (frsL P.flatten).length + (frsL R).length + t.length := by
  rw [h.fs, tot_app, tot_whs, tot_cons]
  show _ + ((frsL R ++ t).length + 0) = _
  rw [List.length_append]
  omega
end
end Go.Proofs.YtogfladmgbldcaaGreatDoor
namespace Go.Proofs.YtogfladmgbldcaaGreatDoor
def lastS (D : DskV) : Option (Nat × FilV) := (segL D.fs).getLast?
def lsyncD (D : DskV) : DskV × Nat := match lastS D with
  | none => (D, 0)
  | some x => syncD D x.2.nm
/-- What Open does to a log that is whole. -/
def lopenD (D : DskV) : DskV × Nat := match lastS D with
  | none => (D, 0)
  | some x => if (cutD D x.2.nm (endL (segL D.fs) : Int)).2 ≠ 0 then cutD D x.2.nm (endL (segL D.fs) : Int) else lsyncD (cutD D x.2.nm (endL (segL D.fs) : Int)).1
def laddD (D : DskV) (r : Bs) : DskV × Nat := if ¬ frOk r then (D, 6) else match lastS D with
  | none => appD D (sname 1) (frL r)
  | some x => if x.2.by_.length < 1024 then appD D x.2.nm (frL r) else if (lsyncD D).2 ≠ 0 then lsyncD D else if x.1 = 99999999 then ((lsyncD D).1, 7) else appD (lsyncD D).1 (sname (x.1 + 1)) (frL r)
def nextN (D : DskV) : Nat := match lastS D with
  | none => 1
  | some x => x.1 + 1
/-- Renew, up to the elder segments' removal. -/
def lnewD (D : DskV) (rs : List Bs) : DskV × Nat := if (lsyncD D).2 ≠ 0 then lsyncD D else if 99999999 < nextN D then ((lsyncD D).1, 7) else
  if (appD (lsyncD D).1 (sname (nextN D)) (frsL rs)).2 ≠ 0 then appD (lsyncD D).1 (sname (nextN D)) (frsL rs) else lsyncD (appD (lsyncD D).1 (sname (nextN D)) (frsL rs)).1
section
variable {D : DskV} {a : Nat} {P : List (List Bs)} {R : List Bs} {t : Bs} {y : Nat}
theorem Lg.last (h : Lg D a P R t y) : lastS D = some (a + P.length, lastF (a + P.length) R t y) := by
  unfold lastS
  rw [h.seg, List.getLast?_append]
  rfl
theorem Lg0.last (h : Lg0 D) : lastS D = none := by
  unfold lastS
  rw [h.fs]
  rfl
/-- The last file is another one. -/
theorem Lg.set (h : Lg D a P R t y) {D' : DskV} {R' : List Bs} {t' : Bs} {y' : Nat} (hf : D'.fs = putF (lastF (a + P.length) R' t' y') D.fs) (hR : Oks R') (hy : y' ≤ R'.length) (ht : Tor t')
    (hr : D'.room + (frsL R').length + t'.length = D.room + (frsL R).length + t.length) : Lg D' a P R' t' y' := by
  have h1 := h.putl (lastF (a + P.length) R' t' y') rfl
  have h2 := h.tot
  have h3 := h.sum
  refine ⟨hf.trans h1, h.ok, hR, h.num, hy, ht, ?_⟩
  have h4 : totF D'.fs = (frsL P.flatten).length + (frsL R').length + t'.length := by
    rw [hf, h1, tot_app, tot_whs, tot_cons]
    show _ + ((frsL R' ++ t').length + 0) = _
    rw [List.length_append]
    omega
  omega
theorem Lg.same (h : Lg D a P R t y) {D' : DskV} (hf : D'.fs = D.fs) (hr : D'.room = D.room) : Lg D' a P R t y := ⟨hf.trans h.fs, h.ok, h.okR, h.num, h.yR, h.tor, by rw [hf, hr]; exact h.sum⟩
theorem lg_sync1 (h : Lg D a P R [] y) (hd : D.dead = false) : ∃ D', syncD D (sname (a + P.length)) = (D', 0) ∧ Lg D' a P R [] R.length ∧ D'.dead = false ∧ D'.fuse = D.fuse := by
  refine ⟨{ D with fs := putF (lastF (a + P.length) R [] R.length) D.fs }, ?_, h.set rfl h.okR (Nat.le_refl _) tor_nil rfl, hd, rfl⟩
  unfold syncD
  rw [with_some hd h.find]
  congr 3
  unfold lastF
  dsimp only
  rw [List.append_nil, List.take_length]
theorem lg_sync (h : Lg D a P R [] y) (hd : D.dead = false) : ∃ D', lsyncD D = (D', 0) ∧ Lg D' a P R [] R.length ∧ D'.dead = false ∧ D'.fuse = D.fuse := by
  obtain ⟨D', h1, h2⟩ := lg_sync1 h hd
  refine ⟨D', ?_, h2⟩
  unfold lsyncD
  rw [h.last]
  exact h1
theorem lg_open (h : Lg D a P R t y) (hd : D.dead = false) : ∃ D', lopenD D = (D', 0) ∧ Lg D' a P R [] R.length ∧ D'.dead = false ∧ D'.fuse = D.fuse := by
  have hy : (frsL (R.take y)).length ≤ (frsL R).length := (frsL_take R y).length_le
  have hb : (lastF (a + P.length) R t y).by_.length = (frsL R).length + t.length := by unfold lastF; rw [List.length_append]
  have hc : cutD D (sname (a + P.length)) (((frsL R).length : Nat) : Int) = ({ D with fs := putF (lastF (a + P.length) R [] y) D.fs, room := D.room + t.length }, 0) := by
    unfold cutD
    rw [with_some hd h.find]
    rw [if_neg (by rw [hb]; show ¬ (_ < (((frsL (R.take y)).length : Nat) : Int) ∨ _); omega), hb, Int.toNat_natCast, Nat.add_sub_cancel_left]
    congr 3
    unfold lastF
    rw [List.take_left, List.append_nil]
  have h2 : Lg ({ D with fs := putF (lastF (a + P.length) R [] y) D.fs, room := D.room + t.length } : DskV) a P R [] y := h.set rfl h.okR h.yR tor_nil (by show D.room + t.length + _ + 0 = _; omega)
  obtain ⟨D', h3, h4, h5, h6⟩ := lg_sync h2 hd
  refine ⟨D', ?_, h4, h5, h6⟩
  unfold lopenD
  rw [h.last]
  dsimp only
  rw [h.ends, show (lastF (a + P.length) R t y).nm = sname (a + P.length) from rfl, hc, if_neg (by simp)]
  exact h3
theorem lg0_open (h : Lg0 D) : lopenD D = (D, 0) := by unfold lopenD; rw [h.last]
theorem lg0_sync (h : Lg0 D) : lsyncD D = (D, 0) := by unfold lsyncD; rw [h.last]
theorem frsL_one (r : Bs) : frsL [r] = frL r := by simp [frsL]
theorem Lg.all_lt (h : Lg D a P R t y) : ∀ g ∈ D.fs, g.nm < sname (a + P.length + 1) := fun g hg => by
  have hn := h.num
  rw [h.fs] at hg
  rcases List.mem_append.1 hg with q | q
  · obtain ⟨k, Q, h1, _, rfl⟩ := whs_mem _ _ _ q
    exact sname_lt' (by omega) (by omega)
  · rw [List.mem_singleton.1 q]
    exact sname_lt' (Nat.lt_succ_self _) (by omega)
theorem none_of_lt {nm : Bs} {l : List FilV} (h : ∀ g ∈ l, g.nm < nm) : findF nm l = none := by
  unfold findF
  rw [List.find?_eq_none]
  intro g hg e
  have h1 := h g hg
  have e : g.nm = nm := by simpa using e
  rw [e] at h1
  exact List.lt_irrefl _ h1
/-- How many bytes go behind the fuse. -/
theorem app_cases (hd : D.dead = false) {nm s : Bs} (hn : 1 ≤ nm.length ∧ nm.length ≤ 24) (hr : s.length ≤ D.room) (hl : (findF nm D.fs).isNone = true → D.fs.length < 1000) :
    (∃ o, appD D nm s = ({ D.more ((findF nm D.fs).getD ⟨nm, [], 0⟩) s with fuse := o }, 0) ∧ (D.fuse = none → o = none)) ∨
    (∃ k, D.fuse = some k ∧ k < s.length ∧ appD D nm s = ({ D.more ((findF nm D.fs).getD ⟨nm, [], 0⟩) (s.take k) with fuse := none, dead := true }, 9)) := by
  unfold appD
  rw [if_neg (by rw [hd]; simp), if_neg (by omega), if_neg (by rintro (q | ⟨q1, q2⟩); · omega
                                                               · have := hl q1; omega)]
  cases hf : D.fuse with
  | none => exact .inl ⟨none, by unfold DskV.more; rw [hf], fun _ => rfl⟩
  | some k =>
    dsimp only
    by_cases hk : k < s.length
    · exact .inr ⟨k, rfl, hk, by rw [if_pos hk]⟩
    · exact .inl ⟨_, by rw [if_neg hk], fun q => by cases q⟩
theorem oks_snoc {l : List Bs} {r : Bs} (h : Oks l) (hr : frOk r) : Oks (l ++ [r]) := fun x hx => by
  rcases List.mem_append.1 hx with q | q
  · exact h x q
  · rw [List.mem_singleton.1 q]; exact hr
theorem Lg.flen (h : Lg D a P R t y) : D.fs.length ≤ 200 := by
  have hn := h.num
  rw [h.fs, List.length_append, whs_len]
  simp
  omega
/-- Bytes behind the last segment. -/
theorem lg_app (h : Lg D a P R [] y) (hd : D.dead = false) {r : Bs} (hr : frOk r) (hroom : (frL r).length ≤ D.room) :
    (∃ D', appD D (sname (a + P.length)) (frL r) = (D', 0) ∧ Lg D' a P (R ++ [r]) [] y ∧ D'.dead = false ∧ (D.fuse = none → D'.fuse = none)) ∨
    (∃ D' t, appD D (sname (a + P.length)) (frL r) = (D', 9) ∧ Lg D' a P R t y ∧ D'.dead = true ∧ D'.fuse = none ∧ D.fuse ≠ none) := by
  have hn := h.num
  have hl := sname_len (n := a + P.length) (by omega) (by omega)
  have hput : ∀ s, putF { lastF (a + P.length) R [] y with by_ := (lastF (a + P.length) R [] y).by_ ++ s } D.fs = putF ⟨sname (a + P.length), frsL R ++ s, (frsL (R.take y)).length⟩ D.fs := fun s => by
    congr 1
    unfold lastF
    rw [List.append_nil]
  rcases app_cases hd (nm := sname (a + P.length)) (s := frL r) (by omega) hroom (by rw [h.find]; intro q; cases q) with ⟨o, h1, h2⟩ | ⟨k, h0, h1, h2⟩
  · refine .inl ⟨_, h1, ?_, hd, h2⟩
    refine h.set (R' := R ++ [r]) (t' := []) (y' := y) ?_ (oks_snoc h.okR hr) (by rw [List.length_append]; have := h.yR; omega) tor_nil ?_
    · rw [h.find]
      show putF { lastF (a + P.length) R [] y with by_ := (lastF (a + P.length) R [] y).by_ ++ frL r } D.fs = _
      rw [hput]
      congr 1
      unfold lastF
      rw [frsL_app, frsL_one, List.append_nil, List.take_append_of_le_length h.yR]
    · show D.room - (frL r).length + _ + 0 = _ + 0
      rw [frsL_app, frsL_one, List.length_append]
      omega
  · refine .inr ⟨_, (frL r).take k, h2, ?_, rfl, rfl, by rw [h0]; simp⟩
    have htl : ((frL r).take k).length = k := by rw [List.length_take]; omega
    refine h.set (R' := R) (t' := (frL r).take k) (y' := y) ?_ h.okR h.yR (tor_pre hr (List.take_prefix _ _) (by omega)) ?_
    · rw [h.find]
      show putF { lastF (a + P.length) R [] y with by_ := (lastF (a + P.length) R [] y).by_ ++ (frL r).take k } D.fs = _
      rw [hput]
      rfl
    · show D.room - ((frL r).take k).length + _ + ((frL r).take k).length = _ + 0
      omega
/-- A new segment, that holds some records, or a beginning of them. -/
theorem torn_cut : ∀ (l : List Bs), Oks l → ∀ k, k ≤ (frsL l).length → ∃ j t, j ≤ l.length ∧ (frsL l).take k = frsL (l.take j) ++ t ∧ Tor t ∧ ∀ y, y ≤ l.length → (frsL (l.take y)).length ≤ k → y ≤ j
  | [], _, k, _ => ⟨0, [], Nat.le_refl _, by simp [frsL], tor_nil, fun y hy _ => hy⟩
  | x :: l, h, k, hk => by
    have hx := h x (List.mem_cons_self ..)
    have hfx := frL_len x
    rw [frsL_cons, List.length_append] at hk
    by_cases hkx : k < (frL x).length
    · refine ⟨0, (frL x).take k, Nat.zero_le _, ?_, tor_pre hx (List.take_prefix _ _) (by rw [List.length_take]; omega), fun y hy hl => ?_⟩
      · rw [frsL_cons, List.take_append_of_le_length (by omega)]
        rfl
      · cases y with
        | zero => exact Nat.le_refl _
        | succ y =>
          rw [List.take_succ_cons, frsL_cons, List.length_append] at hl
          omega
    · obtain ⟨j, t, h1, h2, h3, h4⟩ := torn_cut l (fun z hz => h z (List.mem_cons_of_mem _ hz)) (k - (frL x).length) (by omega)
      refine ⟨j + 1, t, by rw [List.length_cons]; omega, ?_, h3, fun y hy hl => ?_⟩
      · rw [frsL_cons, List.take_append, List.take_of_length_le (by omega), h2, List.take_succ_cons, frsL_cons, List.append_assoc]
      · cases y with
        | zero => exact Nat.zero_le _
        | succ y =>
          rw [List.take_succ_cons, frsL_cons, List.length_append] at hl
          have := h4 y (by rw [List.length_cons] at hy; omega) (by omega)
          omega
/-- A file behind all others. -/
theorem Lg.more (h : Lg D a P R [] R.length) (hq : a + P.length + 1 ≤ 200) {D' : DskV} {R' : List Bs} {t' : Bs} {y' : Nat} (hf : D'.fs = putF (lastF (a + P.length + 1) R' t' y') D.fs) (hR : Oks R') (hy : y' ≤ R'.length) (ht : Tor t')
    (hr : D'.room + (frsL R').length + t'.length = D.room) : Lg D' a (P ++ [R]) R' t' y' := by
  have h1 : putF (lastF (a + P.length + 1) R' t' y') D.fs = whs a (P ++ [R]) ++ [lastF (a + (P ++ [R]).length) R' t' y'] := by
    rw [put_end (f := lastF (a + P.length + 1) R' t' y') h.all_lt, h.fs, lastF_whole, ← whs_snoc, List.length_append, List.length_singleton, Nat.add_assoc]
  have h3 := h.sum
  have h2 := h.tot
  refine ⟨hf.trans h1, ?_, hR, ?_, hy, ht, ?_⟩
  · rw [List.flatten_append, List.flatten_singleton]
    intro x hx
    rcases List.mem_append.1 hx with q | q
    · exact h.ok x q
    · exact h.okR x q
  · rw [List.length_append, List.length_singleton]
    exact ⟨h.num.1, by omega⟩
  · rw [hf, h1, tot_app, tot_whs, tot_cons, List.flatten_append, List.flatten_singleton, frsL_app, List.length_append]
    show D'.room + (_ + _ + ((frsL R' ++ t').length + 0)) = _
    rw [List.length_append]
    simp at h2
    omega
/-- A first file. -/
theorem Lg0.more (h : Lg0 D) {D' : DskV} {n : Nat} (hn : 1 ≤ n ∧ n ≤ 200) {R' : List Bs} {t' : Bs} {y' : Nat} (hf : D'.fs = putF (lastF n R' t' y') D.fs) (hR : Oks R') (hy : y' ≤ R'.length) (ht : Tor t')
    (hr : D'.room + (frsL R').length + t'.length = D.room) : Lg D' n [] R' t' y' := by
  rw [h.fs] at hf
  have h3 := h.room
  refine ⟨hf, fun x hx => (by cases hx), hR, hn, hy, ht, ?_⟩
  rw [hf]
  show D'.room + totF [_] = _
  rw [tot_cons]
  show D'.room + ((frsL R' ++ t').length + 0) = _
  rw [List.length_append]
  omega
/-- A new segment is written. -/
theorem lg_new (h : Lg D a P R [] R.length) (hq : a + P.length + 1 ≤ 200) (hd : D.dead = false) {rs : List Bs} (hr : Oks rs) (hroom : (frsL rs).length ≤ D.room) :
    (∃ D', appD D (sname (a + P.length + 1)) (frsL rs) = (D', 0) ∧ Lg D' a (P ++ [R]) rs [] 0 ∧ D'.dead = false ∧ (D.fuse = none → D'.fuse = none)) ∨
    (∃ D' j t, appD D (sname (a + P.length + 1)) (frsL rs) = (D', 9) ∧ j ≤ rs.length ∧ Lg D' a (P ++ [R]) (rs.take j) t 0 ∧ D'.dead = true ∧ D'.fuse = none ∧ D.fuse ≠ none) := by
  have hnone := none_of_lt h.all_lt
  have hl := sname_len (n := a + P.length + 1) (by omega) (by omega)
  have hfl := h.flen
  rcases app_cases hd (nm := sname (a + P.length + 1)) (s := frsL rs) (by omega) hroom (fun _ => by omega) with ⟨o, h1, h2⟩ | ⟨k, h0, h1, h2⟩
  · refine .inl ⟨_, h1, ?_, hd, h2⟩
    refine h.more hq (R' := rs) (t' := []) (y' := 0) ?_ hr (Nat.zero_le _) tor_nil (by show D.room - (frsL rs).length + _ + 0 = _; omega)
    rw [hnone]
    show putF ⟨sname (a + P.length + 1), [] ++ frsL rs, 0⟩ D.fs = _
    unfold lastF
    rw [List.nil_append, List.append_nil]
    rfl
  · obtain ⟨j, t, j1, j2, j3, _⟩ := torn_cut rs hr k (by omega)
    have hlen := congrArg List.length j2
    rw [List.length_take, List.length_append] at hlen
    refine .inr ⟨_, j, t, h2, j1, ?_, rfl, rfl, by rw [h0]; simp⟩
    refine h.more hq (R' := rs.take j) (t' := t) (y' := 0) ?_ (oks_take hr j) (Nat.zero_le _) j3 (by show D.room - ((frsL rs).take k).length + _ + _ = _; rw [List.length_take]; omega)
    rw [hnone]
    show putF ⟨sname (a + P.length + 1), [] ++ (frsL rs).take k, 0⟩ D.fs = _
    unfold lastF
    rw [List.nil_append, j2]
    rfl
theorem lg0_new (h : Lg0 D) (hd : D.dead = false) {rs : List Bs} (hr : Oks rs) (hroom : (frsL rs).length ≤ D.room) :
    (∃ D', appD D (sname 1) (frsL rs) = (D', 0) ∧ Lg D' 1 [] rs [] 0 ∧ D'.dead = false ∧ (D.fuse = none → D'.fuse = none)) ∨
    (∃ D' j t, appD D (sname 1) (frsL rs) = (D', 9) ∧ j ≤ rs.length ∧ Lg D' 1 [] (rs.take j) t 0 ∧ D'.dead = true ∧ D'.fuse = none ∧ D.fuse ≠ none) := by
  have hnone : findF (sname 1) D.fs = none := by rw [h.fs]; rfl
  have hl := sname_len (n := 1) (by omega) (by omega)
  rcases app_cases hd (nm := sname 1) (s := frsL rs) (by omega) hroom (fun _ => by rw [h.fs]; decide) with ⟨o, h1, h2⟩ | ⟨k, h0, h1, h2⟩
  · refine .inl ⟨_, h1, ?_, hd, h2⟩
    refine h.more (n := 1) (by decide) (R' := rs) (t' := []) (y' := 0) ?_ hr (Nat.zero_le _) tor_nil (by show D.room - (frsL rs).length + _ + 0 = _; omega)
    rw [hnone]
    show putF ⟨sname 1, [] ++ frsL rs, 0⟩ D.fs = _
    unfold lastF
    rw [List.nil_append, List.append_nil]
    rfl
  · obtain ⟨j, t, j1, j2, j3, _⟩ := torn_cut rs hr k (by omega)
    have hlen := congrArg List.length j2
    rw [List.length_take, List.length_append] at hlen
    refine .inr ⟨_, j, t, h2, j1, ?_, rfl, rfl, by rw [h0]; simp⟩
    refine h.more (n := 1) (by decide) (R' := rs.take j) (t' := t) (y' := 0) ?_ (oks_take hr j) (Nat.zero_le _) j3 (by show D.room - ((frsL rs).take k).length + _ + _ = _; rw [List.length_take]; omega)
    rw [hnone]
    show putF ⟨sname 1, [] ++ (frsL rs).take k, 0⟩ D.fs = _
    unfold lastF
    rw [List.nil_append, j2]
    rfl
end
end Go.Proofs.YtogfladmgbldcaaGreatDoor
namespace Go.Proofs.YtogfladmgbldcaaGreatDoor
/-- A disk that holds the records X, of which s at least are synced, in c + 1 segments at most, and torn bytes. -/
def LgT (D : DskV) (X : List Bs) (s c : Nat) : Prop := (Lg0 D ∧ X = [] ∧ s = 0) ∨ ∃ a P R t y, Lg D a P R t y ∧ X = P.flatten ++ R ∧ s = P.flatten.length + y ∧ a + P.length ≤ c + 1
/-- .. without torn bytes. -/
def LgS (D : DskV) (X : List Bs) (s c : Nat) : Prop := (Lg0 D ∧ X = [] ∧ s = 0) ∨ ∃ a P R y, Lg D a P R [] y ∧ X = P.flatten ++ R ∧ s = P.flatten.length + y ∧ a + P.length ≤ c + 1
section
variable {D : DskV} {X : List Bs} {s c : Nat}
theorem LgS.t (h : LgS D X s c) : LgT D X s c := by
  rcases h with h | ⟨a, P, R, y, h⟩
  · exact .inl h
  · exact .inr ⟨a, P, R, [], y, h⟩
theorem LgT.le (h : LgT D X s c) : s ≤ X.length := by
  rcases h with ⟨_, rfl, rfl⟩ | ⟨a, P, R, t, y, h1, rfl, rfl, _⟩
  · exact Nat.le_refl _
  · rw [List.length_append]; have := h1.yR; omega
theorem LgT.oks (h : LgT D X s c) : Oks X := by
  rcases h with ⟨_, rfl, rfl⟩ | ⟨a, P, R, t, y, h1, rfl, rfl, _⟩
  · intro x hx; cases hx
  · intro x hx
    rcases List.mem_append.1 hx with q | q
    · exact h1.ok x q
    · exact h1.okR x q
theorem LgT.wide (h : LgT D X s c) {c' : Nat} (hc : c ≤ c') : LgT D X s c' := by
  rcases h with h | ⟨a, P, R, t, y, h1, h2, h3, h4⟩
  · exact .inl h
  · exact .inr ⟨a, P, R, t, y, h1, h2, h3, by omega⟩
theorem LgS.wide (h : LgS D X s c) {c' : Nat} (hc : c ≤ c') : LgS D X s c' := by
  rcases h with h | ⟨a, P, R, y, h1, h2, h3, h4⟩
  · exact .inl h
  · exact .inr ⟨a, P, R, y, h1, h2, h3, by omega⟩
theorem LgT.same (h : LgT D X s c) {D' : DskV} (hf : D'.fs = D.fs) (hr : D'.room = D.room) : LgT D' X s c := by
  rcases h with ⟨h1, h2⟩ | ⟨a, P, R, t, y, h1, h2⟩
  · exact .inl ⟨⟨hf.trans h1.fs, hr.trans h1.room⟩, h2⟩
  · exact .inr ⟨a, P, R, t, y, h1.same hf hr, h2⟩
theorem LgS.same (h : LgS D X s c) {D' : DskV} (hf : D'.fs = D.fs) (hr : D'.room = D.room) : LgS D' X s c := by
  rcases h with ⟨h1, h2⟩ | ⟨a, P, R, y, h1, h2⟩
  · exact .inl ⟨⟨hf.trans h1.fs, hr.trans h1.room⟩, h2⟩
  · exact .inr ⟨a, P, R, y, h1.same hf hr, h2⟩
theorem LgT.good (h : LgT D X s c) : ¬ Spoilt (segL D.fs) ∧ recL (segL D.fs) = X := by
  rcases h with ⟨h1, rfl, rfl⟩ | ⟨a, P, R, t, y, h1, rfl, rfl, _⟩
  · rw [h1.fs]
    refine ⟨?_, rfl⟩
    rintro ⟨i, x, hx, _⟩
    simp [segL] at hx
  · exact ⟨h1.good, h1.recs⟩
theorem LgT.names (h : LgT D X s c) : (∀ f ∈ D.fs, f.nm.length ≤ 9) ∧ D.fs.length ≤ 200 := by
  rcases h with ⟨h1, _⟩ | ⟨a, P, R, t, y, h1, _⟩
  · rw [h1.fs]
    exact ⟨fun f hf => (by cases hf), by decide⟩
  · refine ⟨fun f hf => ?_, h1.flen⟩
    have hn := h1.num
    rw [h1.fs] at hf
    rcases List.mem_append.1 hf with q | q
    · obtain ⟨k, Q, h1, _, rfl⟩ := whs_mem _ _ _ q
      exact Nat.le_of_eq (sname_len (by omega) (by omega))
    · rw [List.mem_singleton.1 q]
      exact Nat.le_of_eq (sname_len (n := a + P.length) (by omega) (by omega))
theorem LgS.room (h : LgS D X s c) : D.room + (frsL X).length = 4194304 := by
  rcases h with ⟨h1, rfl, rfl⟩ | ⟨a, P, R, y, h1, rfl, rfl, _⟩
  · rw [h1.room]; rfl
  · have h2 := h1.tot
    have h3 := h1.sum
    rw [frsL_app, List.length_append]
    simp at h2
    omega
theorem lgs_sync (h : LgS D X s c) (hd : D.dead = false) : ∃ D', lsyncD D = (D', 0) ∧ LgS D' X X.length c ∧ D'.dead = false ∧ D'.fuse = D.fuse := by
  rcases h with ⟨h1, rfl, rfl⟩ | ⟨a, P, R, y, h1, rfl, rfl, h2⟩
  · exact ⟨D, lg0_sync h1, .inl ⟨h1, rfl, rfl⟩, hd, rfl⟩
  · obtain ⟨D', k1, k2, k3, k4⟩ := lg_sync h1 hd
    exact ⟨D', k1, .inr ⟨a, P, R, _, k2, rfl, by rw [List.length_append], h2⟩, k3, k4⟩
theorem lgt_open (h : LgT D X s c) (hd : D.dead = false) : ∃ D', lopenD D = (D', 0) ∧ LgS D' X X.length c ∧ D'.dead = false ∧ D'.fuse = D.fuse := by
  rcases h with ⟨h1, rfl, rfl⟩ | ⟨a, P, R, t, y, h1, rfl, rfl, h2⟩
  · exact ⟨D, lg0_open h1, .inl ⟨h1, rfl, rfl⟩, hd, rfl⟩
  · obtain ⟨D', k1, k2, k3, k4⟩ := lg_open h1 hd
    exact ⟨D', k1, .inr ⟨a, P, R, _, k2, rfl, by rw [List.length_append], h2⟩, k3, k4⟩
theorem lgs_add (h : LgS D X s c) (hd : D.dead = false) (hc : c ≤ 190) {r : Bs} (hr : frOk r) (hroom : (frL r).length + (frsL X).length ≤ 4194304) :
    (∃ D' s', laddD D r = (D', 0) ∧ LgS D' (X ++ [r]) s' (c + 1) ∧ s ≤ s' ∧ D'.dead = false ∧ (D.fuse = none → D'.fuse = none)) ∨
    (∃ D' X' s', laddD D r = (D', 9) ∧ LgT D' X' s' (c + 1) ∧ X <+: X' ∧ X' <+: X ++ [r] ∧ s ≤ s' ∧ D'.dead = true ∧ D'.fuse = none ∧ D.fuse ≠ none) := by
  have hrm := h.room
  have hr1 : Oks [r] := fun x hx => by rw [List.mem_singleton.1 hx]; exact hr
  have take1 : ∀ j, [r].take j = [] ∨ [r].take j = [r] := fun j => by cases j <;> simp
  unfold laddD
  rw [if_neg (fun q => q hr)]
  rcases h with ⟨h1, rfl, rfl⟩ | ⟨a, P, R, y, h1, rfl, rfl, h2⟩
  · rw [h1.last]
    dsimp only
    rcases lg0_new h1 hd hr1 (by rw [frsL_one]; omega) with ⟨D', k1, k2, k3, k4⟩ | ⟨D', j, t, k1, k2, k3, k4, k5, k6⟩
    · rw [frsL_one] at k1
      exact .inl ⟨D', 0, k1, .inr ⟨1, [], [r], 0, k2, rfl, rfl, by simp⟩, Nat.le_refl _, k3, k4⟩
    · rw [frsL_one] at k1
      refine .inr ⟨D', [r].take j, 0, k1, .inr ⟨1, [], [r].take j, t, 0, k3, rfl, rfl, by simp⟩, List.nil_prefix, List.take_prefix _ _, Nat.le_refl _, k4, k5, k6⟩
  · rw [h1.last]
    dsimp only
    rw [show (lastF (a + P.length) R [] y).nm = sname (a + P.length) from rfl]
    have hc2 : c + 1 ≤ 191 := by omega
    by_cases hl : (lastF (a + P.length) R [] y).by_.length < 1024
    · rw [if_pos hl]
      rcases lg_app h1 hd hr (by omega) with ⟨D', k1, k2, k3, k4⟩ | ⟨D', t, k1, k2, k3, k4, k5⟩
      · exact .inl ⟨D', _, k1, .inr ⟨a, P, _, y, k2, by rw [List.append_assoc], rfl, by omega⟩, Nat.le_refl _, k3, k4⟩
      · exact .inr ⟨D', _, _, k1, .inr ⟨a, P, R, t, y, k2, rfl, rfl, by omega⟩, List.prefix_refl _, List.prefix_append _ _, Nat.le_refl _, k3, k4, k5⟩
    · rw [if_neg hl]
      obtain ⟨D1, e1, e2, e3, e4⟩ := lg_sync h1 hd
      have hy := h1.yR
      rw [e1, if_neg (by simp), if_neg (by omega)]
      dsimp only
      have hrm1 : D1.room = D.room := by
        have q1 := e2.tot
        have q2 := e2.sum
        have q3 := h1.tot
        have q4 := h1.sum
        omega
      rcases lg_new e2 (by omega) e3 hr1 (by rw [frsL_one, hrm1]; omega) with ⟨D', k1, k2, k3, k4⟩ | ⟨D', j, t, k1, k2, k3, k4, k5, k6⟩
      · rw [frsL_one] at k1
        refine .inl ⟨D', (P ++ [R]).flatten.length + 0, k1, .inr ⟨a, P ++ [R], [r], 0, k2, by simp, rfl, by rw [List.length_append, List.length_singleton]; omega⟩, by simp; omega, k3, fun q => k4 (e4.trans q)⟩
      · rw [frsL_one] at k1
        refine .inr ⟨D', (P ++ [R]).flatten ++ [r].take j, (P ++ [R]).flatten.length + 0, k1, .inr ⟨a, P ++ [R], [r].take j, t, 0, k3, rfl, rfl, by rw [List.length_append, List.length_singleton]; omega⟩, ?_, ?_, by simp; omega, k4, k5, by rw [← e4]; exact k6⟩
        · simp only [List.flatten_append, List.flatten_singleton]
          exact List.prefix_append _ _
        · simp only [List.flatten_append, List.flatten_singleton]
          exact (List.prefix_append_right_inj _).2 (List.take_prefix _ _)
end
/-- Records of at most 300 bytes. -/
def Few (X : List Bs) : Prop := ∀ x ∈ X, 1 ≤ x.length ∧ x.length ≤ 300
theorem Few.oks {X : List Bs} (h : Few X) : Oks X := fun x hx => ⟨(h x hx).1, by have := (h x hx).2; omega⟩
theorem few_len : ∀ (X : List Bs), Few X → (frsL X).length ≤ 320 * X.length
  | [], _ => Nat.le_refl _
  | x :: r, h => by
    have h1 := few_len r (fun y hy => h y (List.mem_cons_of_mem _ hy))
    have h2 := (h x (List.mem_cons_self ..)).2
    have h3 := frL_len x
    have h4 := (numL_len x.length).1
    rw [frsL_cons, List.length_append, List.length_cons]
    omega
end Go.Proofs.YtogfladmgbldcaaGreatDoor
namespace Go.Proofs.YtogfladmgbldcaaGreatDoor
open Go.RowKit Go.Shelf
/-- A disk, all of whose blocks lie at N or behind. -/
def Dk (N p bb : Nat) (D : DskV) (w : World) : Prop := ∃ n C L, DskAt w p bb n C L D ∧ ∀ g ∈ L, N ≤ g ∧ g < w.heap.size
theorem Dk.below {N p bb : Nat} {D : DskV} {w w' : World} (h : Dk N p bb D w) (hb : Below w.heap.size w w') : Dk N p bb D w' := by
  obtain ⟨n, C, L, h1, h2⟩ := h
  exact ⟨n, C, L, h1.keep (fun g hg => hb.block g (h2 g hg).2), fun g hg => ⟨(h2 g hg).1, Nat.lt_of_lt_of_le (h2 g hg).2 hb.size⟩⟩
theorem new_dk (N : Nat) (w : World) (hN : N ≤ w.heap.size) : Calls Tryz.prog 16 #[] w fun e w' => ∃ p bb, e = .returned (.pointer (some ⟨p, 0, none⟩)) ∧ Dk N p bb dsk0 w' ∧ Below N w w' := by
  refine (new_any w).mono ?_
  rintro e w' ⟨C, L, rfl, hd, hb, hl⟩
  obtain ⟨L2, hd2, h2⟩ := hd.trim
  exact ⟨_, _, rfl, ⟨_, C, L2, hd2, fun g hg => ⟨Nat.le_trans hN (hl g (h2 g hg).1), (h2 g hg).2⟩⟩, hb.mono hN⟩
theorem turns_below {N : Nat} {L : List Nat} {w w' : World} (h : Turns L w w') (hN : N ≤ w.heap.size) (hL : ∀ g ∈ L, N ≤ g) : Below N w w' := h.below (Below.refl _ _) hN hL
theorem dead_dk {N p bb : Nat} {D : DskV} {w : World} (h : Dk N p bb D w) :
    Calls Tryz.prog 22 #[.pointer (some ⟨p, 0, none⟩)] w fun e w' => e = .returned (.bool D.dead) ∧ w = w' := by
  obtain ⟨n, C, L, h1, h2⟩ := h
  exact dead_any w h1
theorem files_dk {N p bb : Nat} {D : DskV} {w : World} (hlen : D.fs.length ≤ 1000000) (h : Dk N p bb D w) :
    Calls Tryz.prog 19 #[.pointer (some ⟨p, 0, none⟩)] w fun e w' => ∃ v, e = .returned v ∧ w'.ownsRow w.heap.size 35 3 v D.fs.length (flat filE D.fs) ∧ Below w.heap.size w w' := by
  obtain ⟨n, C, L, h1, h2⟩ := h
  exact callsIn_wide.1 (files_in p bb n C L D hlen w h1)
/-- A row of one file. -/
theorem one_file {w : World} {base : Nat} {v : Value} {l : List FilV} {f : FilV} (hl : l = [f]) (h : w.ownsRow base 35 3 v l.length (flat filE l)) : ∃ g c, v = .slice (some ⟨g, 0, none⟩) 1 c ∧ base ≤ g ∧ ∀ y, Below w.heap.size w y → y.cell? ⟨g, 0, none⟩ = some (.string ⟨f.nm.toArray⟩) ∧ y.cell? ⟨g, 1, none⟩ = some (.string ⟨f.by_.toArray⟩) ∧ y.cell? ⟨g, 2, none⟩ = some (.int .i64 (f.sy : Int)) := by
  subst hl
  obtain ⟨A, c, hv, Y, hY, h1⟩ := files_row (N := 1) rfl h
  obtain ⟨g, rfl, h2⟩ := h1 0 f rfl
  refine ⟨g, c, hv, ?_, fun y hy => ?_⟩
  · subst hv
    exact (own_at h rfl).1
  · have h3 := h2 y (fun r o hr ho => (hy.block r (hY r hr).2).trans ho)
    simpa using h3
end Go.Proofs.YtogfladmgbldcaaGreatDoor
namespace Go.Proofs.YtogfladmgbldcaaGreatDoor
def nmsL (D : DskV) : List Bs := (segL D.fs).map (fun x => x.2.nm)
/-- May the elder segments be removed? -/
structure RemOk (D : DskV) (l : List Bs) : Prop where
  dead : D.dead = false
  nd : l.Nodup
  mem : ∀ nm ∈ l, ∃ f ∈ D.fs, f.nm = nm
theorem rems_sum (l : List Bs) : ∀ (D : DskV), Rise D.fs → D.dead = false → l.Nodup → (∀ nm ∈ l, ∃ f ∈ D.fs, f.nm = nm) → (rems D l).room + totF (rems D l).fs = D.room + totF D.fs := by
  induction l with
  | nil => intro D _ _ _ _; rfl
  | cons nm l ih =>
    intro D hr hd hn hm
    obtain ⟨hn1, hn2⟩ := List.nodup_cons.1 hn
    obtain ⟨f, hf, rfl⟩ := hm nm (List.mem_cons_self ..)
    have hg := find_of hr hf
    have ht := del_tot hr hg
    rw [rems_cons, rem_one hd hg]
    rw [ih { D with fs := delF f.nm D.fs, room := D.room + f.by_.length } (del_rise hr) hd hn2 (fun q hq => by
      obtain ⟨x, hx, rfl⟩ := hm q (List.mem_cons_of_mem _ hq)
      exact ⟨x, List.mem_filter.2 ⟨hx, by simpa using fun e => hn1 (by rw [← e]; exact hq)⟩, rfl⟩)]
    show D.room + f.by_.length + totF (delF f.nm D.fs) = _
    omega
theorem whsN_nms : ∀ (a : Nat) (P : List (List Bs)), (whsN a P).map (fun x => x.2.nm) = (whs a P).map (fun f => f.nm)
  | _, [] => rfl
  | a, R :: r => by rw [whsN, whs, List.map_cons, List.map_cons, whsN_nms]
theorem Lg.nms {D : DskV} {a : Nat} {P : List (List Bs)} {R : List Bs} {t : Bs} {y : Nat} (h : Lg D a P R t y) : nmsL D = (whs a (P ++ [R])).map (fun f => f.nm) := by
  unfold nmsL
  rw [h.seg, List.map_append, whsN_nms, whs_snoc, List.map_append]
  rfl
theorem nms_nd {l : List FilV} (h : Rise l) : (l.map (fun f => f.nm)).Nodup := List.pairwise_map.2 (List.Pairwise.imp (R := fun f g : FilV => f.nm < g.nm) (fun {a b} (hab : a.nm < b.nm) (e : a.nm = b.nm) => by rw [e] at hab; exact List.lt_irrefl _ hab) h)
theorem lg_rem {D : DskV} {a n : Nat} {P : List (List Bs)} {R : List Bs} {y : Nat} (h : Lg D a P R [] y) (hd : D.dead = false) (hn : n = a + P.length) :
    RemOk D ((whs a P).map (fun f => f.nm)) ∧ Lg (rems D ((whs a P).map (fun f => f.nm))) n [] R [] y ∧ (rems D ((whs a P).map (fun f => f.nm))).dead = false ∧ (rems D ((whs a P).map (fun f => f.nm))).fuse = D.fuse := by
  subst hn
  have hnum := h.num
  have hrw : Rise (whs a P) := whs_rise a P (by omega)
  have hm : ∀ nm ∈ (whs a P).map (fun f => f.nm), ∃ f ∈ D.fs, f.nm = nm := fun nm hnm => by
    obtain ⟨f, hf, rfl⟩ := List.mem_map.1 hnm
    exact ⟨f, by rw [h.fs]; exact List.mem_append_left _ hf, rfl⟩
  obtain ⟨r1, r2, r3⟩ := rems_spec _ D hd (nms_nd hrw) hm
  have r4 := rems_sum _ D h.rise hd (nms_nd hrw) hm
  refine ⟨⟨hd, nms_nd hrw, hm⟩, ⟨?_, fun x hx => (by cases hx), h.okR, ⟨by omega, by simp; omega⟩, h.yR, h.tor, by rw [r4]; exact h.sum⟩, r1, r2⟩
  rw [r3, h.fs, List.filter_append]
  have e1 : (whs a P).filter (fun f => decide (f.nm ∉ (whs a P).map (fun f => f.nm))) = [] := by
    rw [List.filter_eq_nil_iff]
    intro f hf
    simpa using ⟨f, hf, rfl⟩
  rw [e1, List.nil_append, List.filter_cons_of_pos]
  · rfl
  · simp only [decide_eq_true_eq]
    intro hq
    obtain ⟨f, hf, he⟩ := List.mem_map.1 hq
    obtain ⟨k, Q, k1, _, rfl⟩ := whs_mem _ _ _ hf
    have h3 : sname (a + k) < sname (a + P.length) := sname_lt' (by omega) (by omega)
    have h4 : sname (a + k) = sname (a + P.length) := he
    rw [h4] at h3
    exact List.lt_irrefl _ h3
theorem lgs_renew {D : DskV} {X : List Bs} {s c : Nat} (h : LgS D X s c) (hd : D.dead = false) (hc : c ≤ 190) {rs : List Bs} (hr : Oks rs) (hroom : (frsL rs).length + (frsL X).length ≤ 4194304) :
    (∃ D' n, lnewD D rs = (D', 0) ∧ RemOk D' (nmsL D) ∧ Lg (rems D' (nmsL D)) n [] rs [] rs.length ∧ n ≤ c + 2 ∧ (rems D' (nmsL D)).dead = false ∧ (D.fuse = none → (rems D' (nmsL D)).fuse = none)) ∨
    (∃ D' j, lnewD D rs = (D', 9) ∧ LgT D' (X ++ rs.take j) X.length (c + 1) ∧ D'.dead = true ∧ D'.fuse = none ∧ D.fuse ≠ none) := by
  have hrm := h.room
  unfold lnewD
  rcases h with ⟨h1, rfl, rfl⟩ | ⟨a, P, R, y, h1, rfl, rfl, h2⟩
  · have hn : nextN D = 1 := by unfold nextN; rw [h1.last]
    have hnm : nmsL D = [] := by unfold nmsL; rw [h1.fs]; rfl
    rw [lg0_sync h1, if_neg (by simp), hn, if_neg (by omega), hnm]
    dsimp only
    rcases lg0_new h1 hd hr (by omega) with ⟨D', k1, k2, k3, k4⟩ | ⟨D', j, t, k1, k2, k3, k4, k5, k6⟩
    · rw [k1, if_neg (by simp)]
      dsimp only
      obtain ⟨D2, e1, e2, e3, e4⟩ := lg_sync k2 k3
      refine .inl ⟨D2, 1, e1, ⟨e3, List.nodup_nil, fun nm hnm => (by cases hnm)⟩, e2, by omega, e3, fun q => e4.trans (k4 q)⟩
    · rw [k1, if_pos (by simp)]
      exact .inr ⟨D', j, rfl, .inr ⟨1, [], rs.take j, t, 0, k3, rfl, rfl, by simp⟩, k4, k5, k6⟩
  · obtain ⟨D1, e1, e2, e3, e4⟩ := lg_sync h1 hd
    have hn : nextN D = a + P.length + 1 := by unfold nextN; rw [h1.last]
    have hy := h1.yR
    have hrm1 : D1.room = D.room := by
      have q1 := e2.tot
      have q2 := e2.sum
      have q3 := h1.tot
      have q4 := h1.sum
      omega
    rw [e1, if_neg (by simp), hn, if_neg (by omega), h1.nms]
    dsimp only
    rcases lg_new e2 (by omega) e3 hr (by rw [hrm1]; omega) with ⟨D', k1, k2, k3, k4⟩ | ⟨D', j, t, k1, k2, k3, k4, k5, k6⟩
    · rw [k1, if_neg (by simp)]
      dsimp only
      obtain ⟨D2, f1, f2, f3, f4⟩ := lg_sync k2 k3
      obtain ⟨g1, g2, g3, g4⟩ := lg_rem f2 f3 rfl
      refine .inl ⟨D2, _, f1, g1, g2, by rw [List.length_append, List.length_singleton]; omega, g3, fun q => g4.trans (f4.trans (k4 (e4.trans q)))⟩
    · rw [k1, if_pos (by simp)]
      refine .inr ⟨D', j, rfl, .inr ⟨a, P ++ [R], rs.take j, t, 0, k3, by simp, by simp, by rw [List.length_append, List.length_singleton]; omega⟩, k4, k5, by rw [← e4]; exact k6⟩
end Go.Proofs.YtogfladmgbldcaaGreatDoor
namespace Go.Proofs.YtogfladmgbldcaaGreatDoor
open Go.RowKit Go.Shelf
def LogAt (w : World) (l p : Nat) : Prop := w.heap[l]? = some (.cells #[.pointer (some ⟨p, 0, none⟩)] 93 (0, 0))
/-- What has come of a log and its disk since w: nothing but L, and new blocks, has turned. -/
structure LoR (l p bb : Nat) (L : List Nat) (D : DskV) (w y : World) : Prop where
  log : LogAt y l p
  dsk : ∃ L1 n C, DskAt y p bb n C L1 D ∧ (∀ g ∈ L1, g < y.heap.size ∧ (g ∈ L ∨ w.heap.size ≤ g)) ∧ l ∉ L1
  t : Turns L w y
  far : ∃ B, PVB B w ∧ B ≤ w.heap.size ∧ ∀ g ∈ L, B ≤ g
section
variable {l p bb : Nat} {L : List Nat} {D : DskV} {w y y' : World}
theorem LoR.pv (h : LoR l p bb L D w y) : PV y := by
  obtain ⟨B, h1, h2, h3⟩ := h.far
  exact h1 y (h.t.below (Below.refl _ _) h2 h3)
theorem LoR.ris (h : LoR l p bb L D w y) : Rise D.fs := by
  obtain ⟨L1, n, C, h1, _⟩ := h.dsk
  exact h1.ris
theorem LoR.syn (h : LoR l p bb L D w y) : (∀ f ∈ D.fs, f.sy ≤ f.by_.length) ∧ totF D.fs ≤ 4194304 := by
  obtain ⟨L1, n, C, h1, _⟩ := h.dsk
  exact ⟨h1.syn, by have := h1.sum; omega⟩
theorem LoR.below (h : LoR l p bb L D w y) (hb : Below y.heap.size y y') : LoR l p bb L D w y' := by
  obtain ⟨L1, n, C, h1, h2, h3⟩ := h.dsk
  exact ⟨(hb.block l (Array.getElem?_eq_some_iff.1 h.log).1).trans h.log, ⟨L1, n, C, h1.keep (fun g hg => hb.block g (h2 g hg).1), fun g hg => ⟨Nat.lt_of_lt_of_le (h2 g hg).1 hb.size, (h2 g hg).2⟩, h3⟩, h.t.trans (Turns.of hb), h.far⟩
theorem LoR.act (h : LoR l p bb L D w y) {R : DskV × Nat} {f : FuncId} {args : Array Value} (hc : ∀ n C L1, DskAt y p bb n C L1 D → (∀ g ∈ L1, g < y.heap.size) → Calls Tryz.prog f args y (fun e y' => ∃ k, e = .returned (.int .i64 k) ∧ DkR p bb L1 R y k y')) :
    Calls Tryz.prog f args y fun e y' => e = .returned (.int .i64 (R.2 : Int)) ∧ LoR l p bb L R.1 w y' := by
  obtain ⟨L1, n, C, h1, h2, h3⟩ := h.dsk
  refine (hc n C L1 h1 (fun g hg => (h2 g hg).1)).mono ?_
  rintro e y' ⟨k, rfl, rfl, n', C', L', hd, ht, hl⟩
  obtain ⟨L2, hd2, hl2⟩ := hd.trim
  have hlt := (Array.getElem?_eq_some_iff.1 h.log).1
  refine ⟨rfl, ⟨(ht.block l hlt h3).trans h.log, ⟨L2, n', C', hd2, fun g hg => ⟨(hl2 g hg).2, ?_⟩, fun hg => ?_⟩, ?_, h.far⟩⟩
  · rcases hl g (hl2 g hg).1 with q | q
    · exact (h2 g q).2
    · exact .inr (Nat.le_trans h.t.size q)
  · rcases hl l (hl2 l hg).1 with q | q
    · exact h3 q
    · omega
  · refine ⟨ht.os.trans h.t.os, ht.tape.trans h.t.tape, ht.out.trans h.t.out, Nat.le_trans h.t.size ht.size, fun g hg hn => (ht.block g (Nat.lt_of_lt_of_le hg h.t.size) (fun q => ?_)).trans (h.t.block g hg hn)⟩
    rcases (h2 g q).2 with q2 | q2
    · exact hn q2
    · omega
theorem LoR.cell (h : LoR l p bb L D w y) : y.cell? ⟨l, 0, none⟩ = some (.pointer (some ⟨p, 0, none⟩)) := cell_of_row _ _ 0 _ _ _ h.log
/-- The segments, as a row that can be read. -/
theorem LoR.segs (h : LoR l p bb L D w y) (hlen : D.fs.length ≤ 1000000) : Calls Tryz.prog 51 #[.pointer (some ⟨p, 0, none⟩)] y fun e y' => ∃ v, e = .returned v ∧ SegR y.heap.size y' v (segL D.fs) ∧ LoR l p bb L D w y' ∧ Below y.heap.size y y' := by
  obtain ⟨L1, n, C, h1, h2, h3⟩ := h.dsk
  refine (segments_any hlen y h.pv h1).mono ?_
  rintro e y' ⟨v, rfl, ho, hb⟩
  exact ⟨v, rfl, seg_row ho, h.below hb, hb⟩
end
theorem seg_nm {fs : List FilV} {x : Nat × FilV} (h : x ∈ segL fs) : x.2.nm.length = 9 := by
  have h2 := (seg_mem h).2
  unfold numN at h2
  split at h2
  · next h3 => exact h3.1
  · cases h2
theorem last_at {all : List (Nat × FilV)} {x : Nat × FilV} (h : all.getLast? = some x) : ∃ M, all.length = M + 1 ∧ all[M]? = some x ∧ x ∈ all := by
  obtain ⟨pre, rfl⟩ := List.getLast?_eq_some_iff.1 h
  exact ⟨pre.length, by simp, by simp, by simp⟩
set_option maxRecDepth 100000 in
set_option maxHeartbeats 4000000 in
theorem lsync_any {l p bb : Nat} {L : List Nat} {D : DskV} {w y : World} (h : LoR l p bb L D w y) (hlen : D.fs.length ≤ 1000000) :
    Calls Tryz.prog 28 #[.pointer (some ⟨l, 0, none⟩)] y fun e y' => e = .returned (.int .i64 ((lsyncD D).2 : Int)) ∧ LoR l p bb L (lsyncD D).1 w y' := by
  have hc := h.cell
  have HSG := Lib.hid (h.segs hlen)
  clear h
  obtain ⟨R, hR⟩ : ∃ R, R = lsyncD D := ⟨_, rfl⟩
  rw [← hR]
  unfold lsyncD at hR
  cases hl : lastS D with
  | none =>
    rw [hl] at hR
    have hs : segL D.fs = [] := List.getLast?_eq_none_iff.1 hl
    rw [hs] at HSG
    have HRR := Lib.hid hR
    clear hl hs hR
    go_enter Tryz.func28, Tryz.ntmps28
    go_wp2_with (go_at_call 51; (with_reducible refine HSG.out.mono ?_); rintro e w1 ⟨v, rfl, ⟨A, c, rfl, -⟩, hL, -⟩; have HL := Lib.hid hL; clear hL)
    go_ret
    rw [HRR.out]
    exact ⟨rfl, HL.out⟩
  | some x =>
    rw [hl] at hR
    dsimp only at hR
    obtain ⟨M, hM, hxs, hxm⟩ := last_at hl
    have hnl := seg_nm hxm
    have HX := Lib.hid (And.intro hxs (And.intro hR hnl))
    have HM := Lib.hid hM
    obtain ⟨nb, hnb⟩ : ∃ nb : ByteArray, nb = ⟨x.2.nm.toArray⟩ := ⟨_, rfl⟩
    have hnbs : nb.size ≤ maxLen := by rw [hnb]; show x.2.nm.toArray.size ≤ _; rw [List.size_toArray, hnl]; decide
    have HNB := Lib.hid (And.intro hnb hnbs)
    clear hl hxs hxm hR hnl hnb hnbs hM
    go_enter Tryz.func28, Tryz.ntmps28
    go_upto_region 4 with (go_at_call 51; (with_reducible refine HSG.out.mono ?_); rintro e w1 ⟨v, rfl, ⟨A, c, rfl, Y, hY1, hY2⟩, hL, -⟩; have HL := Lib.hid (And.intro hY1 (And.intro hY2 hL)); clear hY1 hY2 hL)
    obtain ⟨N, hN⟩ : ∃ N, N = (segL D.fs).length := ⟨_, rfl⟩
    have hMN : N = M + 1 := by rw [hN]; exact HM.out
    have hN6 : N ≤ 1000000 := by rw [hN]; exact Nat.le_trans (segL_len D.fs) hlen
    rw [← hN]
    obtain ⟨gk, rfl, hck⟩ := HL.out.2.1 M x HX.out.1
    have HCK := Lib.hid (fun (z : World) (hz : Below w1.heap.size w1 z) => (show z.cell? ⟨gk, M * 4 + 1, none⟩ = some (.string nb) ∧ z.cell? ⟨l, 0, none⟩ = some (.pointer (some ⟨p, 0, none⟩)) from ⟨by rw [HNB.out.1]; exact (hck z (fun r o hr ho => (hz.block r (HL.out.1 r hr).2).trans ho)).2.1, (HL.out.2.2.below hz).cell⟩))
    have HAC := Lib.hid (fun (z : World) (hz : Below w1.heap.size w1 z) => (show Calls Tryz.prog 20 #[.pointer (some ⟨p, 0, none⟩), .string nb] z (fun e w' => e = .returned (.int .i64 (R.2 : Int)) ∧ LoR l p bb L R.1 w w') from by
      rw [HX.out.2.1, show x.2.nm = nb.data.toList from by rw [HNB.out.1]]
      exact (HL.out.2.2.below hz).act (fun n C L1 hd hlt => sync_any nb HNB.out.2 z hd)))
    have hNz : ((N : Int) == 0) = false := by rw [beq_eq_false_iff_ne]; omega
    have hw1 : IntKind.i64.wrap ((N : Int) - 1) = (M : Int) := by rw [IntWalk.i64_in _ (by omega)]; omega
    have hMI : (M : Int) < (N : Int) := by omega
    have hMn : M < N := by omega
    clear hck hc
    clear hN hMN
    go_upto_region 6 with fail
    refine (wpIn_wide (n := 1)).1 ?_
    refine RegK.wpIn_region_can (F := Fence.wide) (KeptW w1) [(0, 0), (1, 0), (2, 0), (3, 0), (4, 0), (5, 0), (6, 0), (7, 0), (8, 0), (9, 0), (10, 0), (11, 0), (12, 3), (13, 0)] (by kernel_rfl) (by kernel_rfl) (by kernel_rfl) (fun _ _ d _ _ h => by cases d <;> exact h) ⟨rfl, rfl, rfl, Nat.le_refl _, fun _ _ => rfl⟩ ?_
    dsimp only [RegK.pick, List.getElem?_cons_zero, List.getElem?_cons_succ]
    change RegK.Can _ _ _ _ _ _ _ _ w1.drew
    have hkd : KeptW w1 w1.drew := ⟨rfl, rfl, rfl, Nat.le_refl _, fun _ _ => rfl⟩
    generalize w1.drew = v8 at *
    iterate 3 (refine RegK.can_reads ?_; intro K hK; go_simp; (first | refine ⟨_, fun _ _ => rfl, hK _ ?_⟩ | refine hK _ ?_); clear hK K)
    refine RegK.can_reads ?_
    intro K hK
    go_simp
    refine ⟨.pointer (some ⟨p, 0, none⟩), fun y hy => ?_, hK _ ?_⟩
    · have c0 := (HCK.out y (KeptW.bel hy)).2
      go_simp
    clear hK K
    iterate 7 (refine RegK.can_reads ?_; intro K hK; go_simp; (first | refine ⟨_, fun _ _ => rfl, hK _ ?_⟩ | refine hK _ ?_); clear hK K)
    refine RegK.can_reads ?_
    intro K hK
    go_simp
    refine ⟨.string nb, fun y hy => ?_, hK _ ?_⟩
    · have c0 := (HCK.out y (KeptW.bel hy)).1
      go_simp
    clear hK K
    refine RegK.can_frees (fun _ => trivial) ?_
    intro K K0 hK hK0
    go_simp
    refine ⟨trivial, ?_⟩
    refine (callsIn_wide.2 (HAC.out v8 (KeptW.bel hkd))).mono ?_
    rintro e w9 ⟨rfl, hz9⟩
    refine hK (fun _ => True) _ _ trivial ?_
    clear hK K hK0 K0
    refine RegK.can_reads ?_; intro K hK; go_simp; (first | refine ⟨_, fun _ _ => rfl, hK _ ?_⟩ | refine hK _ ?_); clear hK K
    refine RegK.can_nil ?_
    have HZ := Lib.hid hz9
    clear hz9
    go_wp2
    go_ret
    exact ⟨rfl, HZ.out⟩
set_option maxRecDepth 100000 in
theorem lsegs_any {l p bb : Nat} {L : List Nat} {D : DskV} {w y : World} (h : LoR l p bb L D w y) (hlen : D.fs.length ≤ 1000000) :
    Calls Tryz.prog 30 #[.pointer (some ⟨l, 0, none⟩)] y fun e y' => e = .returned (.int .i64 ((segL D.fs).length : Int)) ∧ LoR l p bb L D w y' ∧ Below y.heap.size y y' := by
  have hc := h.cell
  have HSG := Lib.hid (h.segs hlen)
  clear h
  go_enter Tryz.func30, Tryz.ntmps30
  go_wp2_with (go_at_call 51; (with_reducible refine HSG.out.mono ?_); rintro e w1 ⟨v, rfl, ⟨A, c, rfl, -⟩, hL, hb⟩; have HL := Lib.hid (And.intro hL hb); clear hL hb)
  go_ret
  exact ⟨rfl, HL.out⟩
end Go.Proofs.YtogfladmgbldcaaGreatDoor
