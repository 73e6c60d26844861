/- Log (plain): the known log's disks. No condition. -/
import Derived.Test.YtogfladmgbldcaaGreatDoorZLogKnown12
namespace Go.Proofs.YtogfladmgbldcaaGreatDoor
def jk : Bs := [106, 117, 110, 107]
def nS (k : UInt8) : Bs := [115, 48, 48, 48, 48, 48, 48, 48, 48 + k]
def kZ : Bs := [115, 48, 48, 48, 48, 48, 48, 48, 48]
def kY : Bs := [115, 48, 48, 48, 48, 48, 48, 48, 48, 52]
def kS : Bs := [115, 49]
def kT : Bs := [116, 48, 48, 48, 48, 48, 48, 48, 49]
def sF (F : Bs) (k : UInt8) : FilV := ⟨nS k, F, F.length⟩
def fK (nm : Bs) : FilV := ⟨nm, jk, 0⟩
/-- A record of 1024 bytes, and its frame. -/
structure BigF (R F : Bs) : Prop where
  len : R.length = 1024
  eq : F = frL R
theorem BigF.ok {R F : Bs} (h : BigF R F) : frOk R := ⟨by rw [h.len]; decide, by rw [h.len]; decide⟩
theorem BigF.flen {R F : Bs} (h : BigF R F) : F.length = 1035 := by rw [h.eq, frL_len, h.len, show (numL 1024).length = 3 from by decide +kernel]
theorem BigF.spl {R F : Bs} (h : BigF R F) : splD F = ([R], F.length, 0) := by
  have h2 := splD_all (l := [R]) (fun x hx => by rw [List.mem_singleton.1 hx]; exact h.ok)
  rw [frsL_one, ← h.eq] at h2
  exact h2
theorem put_hit {f g : FilV} {r : List FilV} (h : g.nm = f.nm) : putF f (g :: r) = f :: r := by rw [putF, if_pos h]
theorem put_lt {f g : FilV} {r : List FilV} (h : ¬ g.nm = f.nm) (h2 : f.nm < g.nm) : putF f (g :: r) = f :: g :: r := by rw [putF, if_neg h, if_pos h2]
theorem put_gt {f g : FilV} {r : List FilV} (h : ¬ g.nm = f.nm) (h2 : ¬ f.nm < g.nm) : putF f (g :: r) = g :: putF f r := by rw [putF, if_neg h, if_neg h2]
theorem put_nil {f : FilV} : putF f [] = [f] := rfl
theorem find_hit {nm : Bs} {g : FilV} {r : List FilV} (h : g.nm = nm) : findF nm (g :: r) = some g := by
  unfold findF
  rw [List.find?_cons_of_pos (by simpa using h)]
theorem find_miss {nm : Bs} {g : FilV} {r : List FilV} (h : ¬ g.nm = nm) : findF nm (g :: r) = findF nm r := by
  unfold findF
  rw [List.find?_cons_of_neg (by simpa using h)]
theorem find_nil {nm : Bs} : findF nm [] = none := rfl
theorem del_hit {nm : Bs} {g : FilV} {r : List FilV} (h : g.nm = nm) : delF nm (g :: r) = delF nm r := by
  unfold delF
  rw [List.filter_cons_of_neg (by simpa using h)]
theorem del_miss {nm : Bs} {g : FilV} {r : List FilV} (h : ¬ g.nm = nm) : delF nm (g :: r) = g :: delF nm r := by
  unfold delF
  rw [List.filter_cons_of_pos (by simpa using h)]
theorem del_nil {nm : Bs} : delF nm [] = [] := rfl
/-- What lies on the disk; room for more. -/
structure KnL (D : DskV) (fs : List FilV) (r : Nat) : Prop where
  dead : D.dead = false
  fuse : D.fuse = none
  fs : D.fs = fs
  room : r ≤ D.room
section
variable {D : DskV} {fs fs' : List FilV} {r : Nat} {nm s : Bs} {f : FilV}
theorem KnL.less (h : KnL D fs r) {r' : Nat} (hr : r' ≤ r) : KnL D fs r' := ⟨h.dead, h.fuse, h.fs, Nat.le_trans hr h.room⟩
theorem knl_app (h : KnL D fs (r + s.length)) (hn : 1 ≤ nm.length ∧ nm.length ≤ 24) (hl : fs.length < 1000) (hf : (findF nm fs).getD ⟨nm, [], 0⟩ = f) (hp : putF { f with by_ := f.by_ ++ s } fs = fs') : ∃ D', appD D nm s = (D', 0) ∧ KnL D' fs' r := by
  rcases app_cases (s := s) h.dead hn (by have := h.room; omega) (fun _ => by rw [h.fs]; exact hl) with ⟨o, h1, h2⟩ | ⟨k, h0, _⟩
  · refine ⟨_, h1, ⟨h.dead, h2 h.fuse, ?_, ?_⟩⟩
    · show putF { (findF nm D.fs).getD ⟨nm, [], 0⟩ with by_ := ((findF nm D.fs).getD ⟨nm, [], 0⟩).by_ ++ s } D.fs = fs'
      rw [h.fs, hf]
      exact hp
    · show r ≤ D.room - s.length
      have := h.room
      omega
  · rw [h.fuse] at h0
    cases h0
theorem knl_sync (h : KnL D fs r) (hf : findF nm fs = some f) (hp : putF { f with sy := f.by_.length } fs = fs') : ∃ D', syncD D nm = (D', 0) ∧ KnL D' fs' r :=
  ⟨{ D with fs := putF { f with sy := f.by_.length } D.fs }, by unfold syncD; rw [with_some h.dead (by rw [h.fs]; exact hf)], h.dead, h.fuse, by show putF _ D.fs = _; rw [h.fs]; exact hp, h.room⟩
theorem knl_cut (h : KnL D fs r) (n : Nat) (hf : findF nm fs = some f) (h1 : f.sy ≤ n) (h2 : n ≤ f.by_.length) (hp : putF { f with by_ := f.by_.take n } fs = fs') : ∃ D', cutD D nm (n : Int) = (D', 0) ∧ KnL D' fs' r := by
  refine ⟨{ D with fs := putF { f with by_ := f.by_.take (n : Int).toNat } D.fs, room := D.room + (f.by_.length - (n : Int).toNat) }, by unfold cutD; rw [with_some h.dead (by rw [h.fs]; exact hf)]; rw [if_neg (by omega)], ⟨h.dead, h.fuse, ?_, ?_⟩⟩
  · show putF _ D.fs = _
    rw [h.fs, Int.toNat_natCast]
    exact hp
  · show r ≤ D.room + _
    have := h.room
    omega
theorem knl_rem (h : KnL D fs r) (hf : findF nm fs = some f) (hp : delF nm fs = fs') : ∃ D', remD D nm = (D', 0) ∧ KnL D' fs' r := by
  refine ⟨{ D with fs := delF nm D.fs, room := D.room + f.by_.length }, by unfold remD; rw [with_some h.dead (by rw [h.fs]; exact hf)], ⟨h.dead, h.fuse, ?_, ?_⟩⟩
  · show delF nm D.fs = _
    rw [h.fs]
    exact hp
  · show r ≤ D.room + _
    have := h.room
    omega
theorem knl_last (h : KnL D fs r) {l : List (Nat × FilV)} (hl : segL fs = l) : lastS D = l.getLast? := by
  unfold lastS
  rw [h.fs, hl]
theorem knl_lsync (h : KnL D fs r) {x : Nat × FilV} (hl : (segL fs).getLast? = some x) (hf : findF x.2.nm fs = some f) (hp : putF { f with sy := f.by_.length } fs = fs') : ∃ D', lsyncD D = (D', 0) ∧ KnL D' fs' r := by
  unfold lsyncD
  rw [show lastS D = some x from (knl_last h rfl).trans hl]
  exact knl_sync h hf hp
/-- Open at a log whose last segment ends at n. -/
theorem knl_open (h : KnL D fs r) {x : Nat × FilV} (hl : (segL fs).getLast? = some x) (n : Nat) (hn : (splD x.2.by_).2.1 = n) (hf : findF x.2.nm fs = some f) (h1 : f.sy ≤ n) (h2 : n ≤ f.by_.length) {fs1 : List FilV} (hp : putF { f with by_ := f.by_.take n } fs = fs1)
    {g : FilV} (hl1 : (segL fs1).getLast? = some (x.1, g)) (hgn : g.nm = x.2.nm) (hf1 : findF x.2.nm fs1 = some g) (hp1 : putF { g with sy := g.by_.length } fs1 = fs') : ∃ D', lopenD D = (D', 0) ∧ KnL D' fs' r := by
  obtain ⟨D1, e1, k1⟩ := knl_cut h n hf h1 h2 hp
  obtain ⟨D2, e2, k2⟩ := knl_lsync k1 hl1 (by rw [show ((x.1, g) : Nat × FilV).2 = g from rfl, hgn]; exact hf1) hp1
  refine ⟨D2, ?_, k2⟩
  unfold lopenD
  rw [show lastS D = some x from (knl_last h rfl).trans hl]
  dsimp only
  have he : endL (segL D.fs) = n := by
    unfold endL
    rw [h.fs, hl]
    exact hn
  rw [he, e1, if_neg (by simp)]
  exact e2
end
section
theorem sN (k : Nat) (hk : k < 7) : sname k.succ = nS (UInt8.ofNat k.succ) := (by decide +kernel : ∀ k : Fin 7, sname k.val.succ = nS (UInt8.ofNat k.val.succ)) ⟨k, hk⟩
theorem seg_s {f : FilV} {k : Nat} (hk : k < 7) (h : f.nm = nS (UInt8.ofNat k.succ)) : segF f = some (k + 1, f) := segF_w (by omega) (by omega) (h.trans (sN k hk).symm)
theorem seg_no {f : FilV} (h : numN f.nm = none) : segF f = none := by unfold segF; rw [h]; rfl
theorem seg_z0 : segF (fK kZ) = none := seg_no (by decide +kernel : numN kZ = none)
theorem seg_z4 : segF (fK kY) = none := seg_no (by decide +kernel : numN kY = none)
theorem seg_s1 : segF (fK kS) = none := seg_no (by decide +kernel : numN kS = none)
theorem seg_t1 : segF (fK kT) = none := seg_no (by decide +kernel : numN kT = none)
theorem segL_cs {f : FilV} {x : Nat × FilV} {l : List FilV} (h : segF f = some x) : segL (f :: l) = x :: segL l := by unfold segL; rw [List.filterMap_cons_some h]
theorem segL_cn {f : FilV} {l : List FilV} (h : segF f = none) : segL (f :: l) = segL l := by unfold segL; rw [List.filterMap_cons_none h]
variable {R F : Bs}
/-- The log's own files, by the count of records. -/
def AA (F : Bs) : Nat → List FilV
  | 0 => []
  | 1 => [⟨nS 1, F, 0⟩]
  | 2 => [sF F 1, ⟨nS 2, F, 0⟩]
  | _ => [sF F 1, sF F 2, ⟨nS 3, F, 0⟩]
/-- .. beside strangers; m: the segments behind the third. -/
def GG (F : Bs) (m : List FilV) : List FilV := fK kZ :: fK kY :: sF F 1 :: sF F 2 :: sF F 3 :: (m ++ [fK kS, fK kT])
def T3 (F : Bs) : List (Nat × FilV) := [(1, sF F 1), (2, sF F 2), (3, sF F 3)]
theorem seg_A : ∀ i, i < 4 → (segL (AA F i)).length = i ∧ (∀ x ∈ segL (AA F i), x.1 ≤ 208) ∧ (AA F i).length ≤ 3 := by
  intro i hi
  match i, hi with
  | 0, _ => exact ⟨rfl, (fun x hx => by cases hx), Nat.zero_le _⟩
  | 1, _ =>
    have e : segL (AA F 1) = [(1, ⟨nS 1, F, 0⟩)] := by rw [show AA F 1 = [⟨nS 1, F, 0⟩] from rfl]; rw [segL_cs (seg_s (k := 0) (by decide) rfl)]; rfl
    rw [e]
    exact ⟨rfl, (fun x hx => by rw [List.mem_singleton.1 hx]; exact of_decide_eq_true (Eq.refl true)), by show 1 ≤ 3; decide⟩
  | 2, _ =>
    have e : segL (AA F 2) = [(1, sF F 1), (2, ⟨nS 2, F, 0⟩)] := by rw [show AA F 2 = [sF F 1, ⟨nS 2, F, 0⟩] from rfl]; rw [segL_cs (seg_s (k := 0) (by decide) rfl), segL_cs (seg_s (k := 1) (by decide) rfl)]; rfl
    rw [e]
    refine ⟨rfl, fun x hx => ?_, by show 2 ≤ 3; decide⟩
    simp only [List.mem_cons, List.not_mem_nil, or_false] at hx
    rcases hx with rfl | rfl <;> exact of_decide_eq_true (Eq.refl true)
  | 3, _ =>
    have e : segL (AA F 3) = [(1, sF F 1), (2, sF F 2), (3, ⟨nS 3, F, 0⟩)] := by rw [show AA F 3 = [sF F 1, sF F 2, ⟨nS 3, F, 0⟩] from rfl]; rw [segL_cs (seg_s (k := 0) (by decide) rfl), segL_cs (seg_s (k := 1) (by decide) rfl), segL_cs (seg_s (k := 2) (by decide) rfl)]; rfl
    rw [e]
    refine ⟨rfl, fun x hx => ?_, by show 3 ≤ 3; decide⟩
    simp only [List.mem_cons, List.not_mem_nil, or_false] at hx
    rcases hx with rfl | rfl | rfl <;> exact of_decide_eq_true (Eq.refl true)
theorem last_A1 : (segL (AA F 1)).getLast? = some (1, ⟨nS 1, F, 0⟩) := by rw [show AA F 1 = [⟨nS 1, F, 0⟩] from rfl]; rw [segL_cs (seg_s (k := 0) (by decide) rfl)]; rfl
theorem last_A2 : (segL (AA F 2)).getLast? = some (2, ⟨nS 2, F, 0⟩) := by rw [show AA F 2 = [sF F 1, ⟨nS 2, F, 0⟩] from rfl]; rw [segL_cs (seg_s (k := 0) (by decide) rfl), segL_cs (seg_s (k := 1) (by decide) rfl)]; rfl
theorem last_A3 : (segL (AA F 3)).getLast? = some (3, ⟨nS 3, F, 0⟩) := by rw [show AA F 3 = [sF F 1, sF F 2, ⟨nS 3, F, 0⟩] from rfl]; rw [segL_cs (seg_s (k := 0) (by decide) rfl), segL_cs (seg_s (k := 1) (by decide) rfl), segL_cs (seg_s (k := 2) (by decide) rfl)]; rfl
theorem add_next (hB : BigF R F) {D : DskV} {fs fs1 fs' : List FilV} {r k : Nat} {x : Nat × FilV} (h : KnL D fs (r + 1035)) (hl : (segL fs).getLast? = some x) (hx : x.1 = k) (hk : k < 7) (hb : x.2.by_ = F) {f : FilV} (hf : findF x.2.nm fs = some f) (hp : putF { f with sy := f.by_.length } fs = fs1) (hlen : fs1.length < 1000)
    (hno : findF (nS (UInt8.ofNat k.succ)) fs1 = none) (hp2 : putF ⟨nS (UInt8.ofNat k.succ), F, 0⟩ fs1 = fs') : ∃ D', laddD D R = (D', 0) ∧ KnL D' fs' r := by
  obtain ⟨D1, e1, k1⟩ := knl_lsync h hl hf hp
  obtain ⟨D2, e2, k2⟩ := knl_app (nm := nS (UInt8.ofNat k.succ)) (s := F) (f := ⟨nS (UInt8.ofNat k.succ), [], 0⟩) (fs' := fs') (r := r) (by rw [hB.flen]; exact k1) (by show 1 ≤ 9 ∧ 9 ≤ 24; decide) hlen (by rw [hno]; rfl) (by show putF ⟨_, [] ++ F, 0⟩ fs1 = _; rw [List.nil_append]; exact hp2)
  refine ⟨D2, ?_, k2⟩
  unfold laddD
  rw [if_neg (fun q => q hB.ok), show lastS D = some x from (knl_last h rfl).trans hl]
  dsimp only
  rw [← hB.eq, if_neg (by rw [hb, hB.flen]; decide), e1, if_neg (by simp), if_neg (by omega), hx, sN k hk]
  exact e2
theorem adds (hB : BigF R F) {i : Nat} (hi : i < 3) {D : DskV} {r : Nat} (h : KnL D (AA F i) (r + 1035)) : ∃ D', laddD D R = (D', 0) ∧ KnL D' (AA F (i + 1)) r := by
  match i, hi with
  | 0, _ =>
    obtain ⟨D2, e2, k2⟩ := knl_app (nm := nS 1) (s := F) (f := ⟨nS 1, [], 0⟩) (fs' := AA F 1) (r := r) (by rw [hB.flen]; exact h) (by decide) (by show 0 < 1000; decide) rfl rfl
    refine ⟨D2, ?_, k2⟩
    unfold laddD
    rw [if_neg (fun q => q hB.ok), show lastS D = none from (knl_last h rfl).trans rfl]
    dsimp only
    rw [sN 0 (by decide), ← hB.eq]
    exact e2
  | 1, _ => exact add_next hB (k := 1) (fs1 := [sF F 1]) h last_A1 rfl (by decide) rfl (f := ⟨nS 1, F, 0⟩) (find_hit (by exact rfl)) (by show putF (sF F 1) [⟨nS 1, F, 0⟩] = _; rw [put_hit (by exact rfl)]) (by show 1 < 1000; decide) (by rw [find_miss (by exact of_decide_eq_true (Eq.refl true)), find_nil]) (by rw [put_gt (by exact of_decide_eq_true (Eq.refl true)) (by exact of_decide_eq_true (Eq.refl true)), put_nil]; rfl)
  | 2, _ => exact add_next hB (k := 2) (fs1 := [sF F 1, sF F 2]) h last_A2 rfl (by decide) rfl (f := ⟨nS 2, F, 0⟩) (by rw [show AA F 2 = [sF F 1, ⟨nS 2, F, 0⟩] from rfl, find_miss (by exact of_decide_eq_true (Eq.refl true)), find_hit (by exact rfl)]) (by show putF (sF F 2) [sF F 1, ⟨nS 2, F, 0⟩] = _; rw [put_gt (by exact of_decide_eq_true (Eq.refl true)) (by exact of_decide_eq_true (Eq.refl true)), put_hit (by exact rfl)]) (by show 2 < 1000; decide) (by rw [find_miss (by exact of_decide_eq_true (Eq.refl true)), find_miss (by exact of_decide_eq_true (Eq.refl true)), find_nil]) (by rw [put_gt (by exact of_decide_eq_true (Eq.refl true)) (by exact of_decide_eq_true (Eq.refl true)), put_gt (by exact of_decide_eq_true (Eq.refl true)) (by exact of_decide_eq_true (Eq.refl true)), put_nil]; rfl)
theorem spl_7 : (splD [7]).1 = [] ∧ (splD [7]).2.1 = 0 := by decide +kernel
theorem segG (m : List FilV) : segL (GG F m) = T3 F ++ segL m := by
  unfold GG
  rw [segL_cn seg_z0, segL_cn seg_z4, segL_cs (seg_s (k := 0) (by decide) rfl), segL_cs (seg_s (k := 1) (by decide) rfl), segL_cs (seg_s (k := 2) (by decide) rfl), segL_app, segL_cn seg_s1, segL_cn seg_t1]
  show _ :: _ :: _ :: (segL m ++ []) = _
  rw [List.append_nil]
  rfl
theorem pG3 : putF (sF F 3) (GG F []) = GG F [] := by
  unfold GG
  simp only [List.nil_append]
  rw [put_gt (by exact of_decide_eq_true (Eq.refl true)) (by exact of_decide_eq_true (Eq.refl true)), put_gt (by exact of_decide_eq_true (Eq.refl true)) (by exact of_decide_eq_true (Eq.refl true)), put_gt (by exact of_decide_eq_true (Eq.refl true)) (by exact of_decide_eq_true (Eq.refl true)), put_gt (by exact of_decide_eq_true (Eq.refl true)) (by exact of_decide_eq_true (Eq.refl true)), put_hit (by exact of_decide_eq_true (Eq.refl true))]
theorem fG3 : findF (nS 3) (GG F []) = some (sF F 3) := by
  unfold GG
  simp only [List.nil_append]
  rw [find_miss (by exact of_decide_eq_true (Eq.refl true)), find_miss (by exact of_decide_eq_true (Eq.refl true)), find_miss (by exact of_decide_eq_true (Eq.refl true)), find_miss (by exact of_decide_eq_true (Eq.refl true)), find_hit (by exact of_decide_eq_true (Eq.refl true))]
theorem fG4n : findF (nS 4) (GG F []) = none := by
  unfold GG
  simp only [List.nil_append]
  rw [find_miss (by exact of_decide_eq_true (Eq.refl true)), find_miss (by exact of_decide_eq_true (Eq.refl true)), find_miss (by exact of_decide_eq_true (Eq.refl true)), find_miss (by exact of_decide_eq_true (Eq.refl true)), find_miss (by exact of_decide_eq_true (Eq.refl true)), find_miss (by exact of_decide_eq_true (Eq.refl true)), find_miss (by exact of_decide_eq_true (Eq.refl true)), find_nil]
theorem pG4 : putF ⟨nS 4, [7], 0⟩ (GG F []) = GG F [⟨nS 4, [7], 0⟩] := by
  unfold GG
  simp only [List.cons_append, List.nil_append]
  rw [put_gt (by exact of_decide_eq_true (Eq.refl true)) (by exact of_decide_eq_true (Eq.refl true)), put_gt (by exact of_decide_eq_true (Eq.refl true)) (by exact of_decide_eq_true (Eq.refl true)), put_gt (by exact of_decide_eq_true (Eq.refl true)) (by exact of_decide_eq_true (Eq.refl true)), put_gt (by exact of_decide_eq_true (Eq.refl true)) (by exact of_decide_eq_true (Eq.refl true)), put_gt (by exact of_decide_eq_true (Eq.refl true)) (by exact of_decide_eq_true (Eq.refl true)), put_lt (by exact of_decide_eq_true (Eq.refl true)) (by exact of_decide_eq_true (Eq.refl true))]
theorem fG4 : findF (nS 4) (GG F [⟨nS 4, [7], 0⟩]) = some ⟨nS 4, [7], 0⟩ := by
  unfold GG
  simp only [List.cons_append, List.nil_append]
  rw [find_miss (by exact of_decide_eq_true (Eq.refl true)), find_miss (by exact of_decide_eq_true (Eq.refl true)), find_miss (by exact of_decide_eq_true (Eq.refl true)), find_miss (by exact of_decide_eq_true (Eq.refl true)), find_miss (by exact of_decide_eq_true (Eq.refl true)), find_hit (by exact of_decide_eq_true (Eq.refl true))]
theorem pG4e : putF ⟨nS 4, [], 0⟩ (GG F [⟨nS 4, [7], 0⟩]) = GG F [⟨nS 4, [], 0⟩] := by
  unfold GG
  simp only [List.cons_append, List.nil_append]
  rw [put_gt (by exact of_decide_eq_true (Eq.refl true)) (by exact of_decide_eq_true (Eq.refl true)), put_gt (by exact of_decide_eq_true (Eq.refl true)) (by exact of_decide_eq_true (Eq.refl true)), put_gt (by exact of_decide_eq_true (Eq.refl true)) (by exact of_decide_eq_true (Eq.refl true)), put_gt (by exact of_decide_eq_true (Eq.refl true)) (by exact of_decide_eq_true (Eq.refl true)), put_gt (by exact of_decide_eq_true (Eq.refl true)) (by exact of_decide_eq_true (Eq.refl true)), put_hit (by exact of_decide_eq_true (Eq.refl true))]
theorem fG4e : findF (nS 4) (GG F [⟨nS 4, [], 0⟩]) = some ⟨nS 4, [], 0⟩ := by
  unfold GG
  simp only [List.cons_append, List.nil_append]
  rw [find_miss (by exact of_decide_eq_true (Eq.refl true)), find_miss (by exact of_decide_eq_true (Eq.refl true)), find_miss (by exact of_decide_eq_true (Eq.refl true)), find_miss (by exact of_decide_eq_true (Eq.refl true)), find_miss (by exact of_decide_eq_true (Eq.refl true)), find_hit (by exact of_decide_eq_true (Eq.refl true))]
theorem pG4s : putF ⟨nS 4, [], 0⟩ (GG F [⟨nS 4, [], 0⟩]) = GG F [⟨nS 4, [], 0⟩] := by
  unfold GG
  simp only [List.cons_append, List.nil_append]
  rw [put_gt (by exact of_decide_eq_true (Eq.refl true)) (by exact of_decide_eq_true (Eq.refl true)), put_gt (by exact of_decide_eq_true (Eq.refl true)) (by exact of_decide_eq_true (Eq.refl true)), put_gt (by exact of_decide_eq_true (Eq.refl true)) (by exact of_decide_eq_true (Eq.refl true)), put_gt (by exact of_decide_eq_true (Eq.refl true)) (by exact of_decide_eq_true (Eq.refl true)), put_gt (by exact of_decide_eq_true (Eq.refl true)) (by exact of_decide_eq_true (Eq.refl true)), put_hit (by exact of_decide_eq_true (Eq.refl true))]
theorem fG6n : findF (nS 6) (GG F [⟨nS 4, [], 0⟩]) = none := by
  unfold GG
  simp only [List.cons_append, List.nil_append]
  rw [find_miss (by exact of_decide_eq_true (Eq.refl true)), find_miss (by exact of_decide_eq_true (Eq.refl true)), find_miss (by exact of_decide_eq_true (Eq.refl true)), find_miss (by exact of_decide_eq_true (Eq.refl true)), find_miss (by exact of_decide_eq_true (Eq.refl true)), find_miss (by exact of_decide_eq_true (Eq.refl true)), find_miss (by exact of_decide_eq_true (Eq.refl true)), find_miss (by exact of_decide_eq_true (Eq.refl true)), find_nil]
theorem pG6 : putF ⟨nS 6, [], 0⟩ (GG F [⟨nS 4, [], 0⟩]) = GG F [⟨nS 4, [], 0⟩, ⟨nS 6, [], 0⟩] := by
  unfold GG
  simp only [List.cons_append, List.nil_append]
  rw [put_gt (by exact of_decide_eq_true (Eq.refl true)) (by exact of_decide_eq_true (Eq.refl true)), put_gt (by exact of_decide_eq_true (Eq.refl true)) (by exact of_decide_eq_true (Eq.refl true)), put_gt (by exact of_decide_eq_true (Eq.refl true)) (by exact of_decide_eq_true (Eq.refl true)), put_gt (by exact of_decide_eq_true (Eq.refl true)) (by exact of_decide_eq_true (Eq.refl true)), put_gt (by exact of_decide_eq_true (Eq.refl true)) (by exact of_decide_eq_true (Eq.refl true)), put_gt (by exact of_decide_eq_true (Eq.refl true)) (by exact of_decide_eq_true (Eq.refl true)), put_lt (by exact of_decide_eq_true (Eq.refl true)) (by exact of_decide_eq_true (Eq.refl true))]
theorem fG6 : findF (nS 6) (GG F [⟨nS 4, [], 0⟩, ⟨nS 6, [], 0⟩]) = some ⟨nS 6, [], 0⟩ := by
  unfold GG
  simp only [List.cons_append, List.nil_append]
  rw [find_miss (by exact of_decide_eq_true (Eq.refl true)), find_miss (by exact of_decide_eq_true (Eq.refl true)), find_miss (by exact of_decide_eq_true (Eq.refl true)), find_miss (by exact of_decide_eq_true (Eq.refl true)), find_miss (by exact of_decide_eq_true (Eq.refl true)), find_miss (by exact of_decide_eq_true (Eq.refl true)), find_hit (by exact of_decide_eq_true (Eq.refl true))]
theorem dG6 : delF (nS 6) (GG F [⟨nS 4, [], 0⟩, ⟨nS 6, [], 0⟩]) = GG F [⟨nS 4, [], 0⟩] := by
  unfold GG
  simp only [List.cons_append, List.nil_append]
  rw [del_miss (by exact of_decide_eq_true (Eq.refl true)), del_miss (by exact of_decide_eq_true (Eq.refl true)), del_miss (by exact of_decide_eq_true (Eq.refl true)), del_miss (by exact of_decide_eq_true (Eq.refl true)), del_miss (by exact of_decide_eq_true (Eq.refl true)), del_miss (by exact of_decide_eq_true (Eq.refl true)), del_hit (by exact of_decide_eq_true (Eq.refl true)), del_miss (by exact of_decide_eq_true (Eq.refl true)), del_miss (by exact of_decide_eq_true (Eq.refl true)), del_nil]
theorem fG5n : findF (nS 5) (GG F [⟨nS 4, [], 0⟩]) = none := by
  unfold GG
  simp only [List.cons_append, List.nil_append]
  rw [find_miss (by exact of_decide_eq_true (Eq.refl true)), find_miss (by exact of_decide_eq_true (Eq.refl true)), find_miss (by exact of_decide_eq_true (Eq.refl true)), find_miss (by exact of_decide_eq_true (Eq.refl true)), find_miss (by exact of_decide_eq_true (Eq.refl true)), find_miss (by exact of_decide_eq_true (Eq.refl true)), find_miss (by exact of_decide_eq_true (Eq.refl true)), find_miss (by exact of_decide_eq_true (Eq.refl true)), find_nil]
theorem pG5 : putF ⟨nS 5, [], 0⟩ (GG F [⟨nS 4, [], 0⟩]) = GG F [⟨nS 4, [], 0⟩, ⟨nS 5, [], 0⟩] := by
  unfold GG
  simp only [List.cons_append, List.nil_append]
  rw [put_gt (by exact of_decide_eq_true (Eq.refl true)) (by exact of_decide_eq_true (Eq.refl true)), put_gt (by exact of_decide_eq_true (Eq.refl true)) (by exact of_decide_eq_true (Eq.refl true)), put_gt (by exact of_decide_eq_true (Eq.refl true)) (by exact of_decide_eq_true (Eq.refl true)), put_gt (by exact of_decide_eq_true (Eq.refl true)) (by exact of_decide_eq_true (Eq.refl true)), put_gt (by exact of_decide_eq_true (Eq.refl true)) (by exact of_decide_eq_true (Eq.refl true)), put_gt (by exact of_decide_eq_true (Eq.refl true)) (by exact of_decide_eq_true (Eq.refl true)), put_lt (by exact of_decide_eq_true (Eq.refl true)) (by exact of_decide_eq_true (Eq.refl true))]
theorem fG5 : findF (nS 5) (GG F [⟨nS 4, [], 0⟩, ⟨nS 5, [], 0⟩]) = some ⟨nS 5, [], 0⟩ := by
  unfold GG
  simp only [List.cons_append, List.nil_append]
  rw [find_miss (by exact of_decide_eq_true (Eq.refl true)), find_miss (by exact of_decide_eq_true (Eq.refl true)), find_miss (by exact of_decide_eq_true (Eq.refl true)), find_miss (by exact of_decide_eq_true (Eq.refl true)), find_miss (by exact of_decide_eq_true (Eq.refl true)), find_miss (by exact of_decide_eq_true (Eq.refl true)), find_hit (by exact of_decide_eq_true (Eq.refl true))]
theorem pG5s : putF ⟨nS 5, [], 0⟩ (GG F [⟨nS 4, [], 0⟩, ⟨nS 5, [], 0⟩]) = GG F [⟨nS 4, [], 0⟩, ⟨nS 5, [], 0⟩] := by
  unfold GG
  simp only [List.cons_append, List.nil_append]
  rw [put_gt (by exact of_decide_eq_true (Eq.refl true)) (by exact of_decide_eq_true (Eq.refl true)), put_gt (by exact of_decide_eq_true (Eq.refl true)) (by exact of_decide_eq_true (Eq.refl true)), put_gt (by exact of_decide_eq_true (Eq.refl true)) (by exact of_decide_eq_true (Eq.refl true)), put_gt (by exact of_decide_eq_true (Eq.refl true)) (by exact of_decide_eq_true (Eq.refl true)), put_gt (by exact of_decide_eq_true (Eq.refl true)) (by exact of_decide_eq_true (Eq.refl true)), put_gt (by exact of_decide_eq_true (Eq.refl true)) (by exact of_decide_eq_true (Eq.refl true)), put_hit (by exact of_decide_eq_true (Eq.refl true))]
theorem fG45 : findF (nS 4) (GG F [⟨nS 4, [], 0⟩, ⟨nS 5, [], 0⟩]) = some ⟨nS 4, [], 0⟩ := by
  unfold GG
  simp only [List.cons_append, List.nil_append]
  rw [find_miss (by exact of_decide_eq_true (Eq.refl true)), find_miss (by exact of_decide_eq_true (Eq.refl true)), find_miss (by exact of_decide_eq_true (Eq.refl true)), find_miss (by exact of_decide_eq_true (Eq.refl true)), find_miss (by exact of_decide_eq_true (Eq.refl true)), find_hit (by exact of_decide_eq_true (Eq.refl true))]
theorem pG4x : putF ⟨nS 4, [120], 0⟩ (GG F [⟨nS 4, [], 0⟩, ⟨nS 5, [], 0⟩]) = GG F [⟨nS 4, [120], 0⟩, ⟨nS 5, [], 0⟩] := by
  unfold GG
  simp only [List.cons_append, List.nil_append]
  rw [put_gt (by exact of_decide_eq_true (Eq.refl true)) (by exact of_decide_eq_true (Eq.refl true)), put_gt (by exact of_decide_eq_true (Eq.refl true)) (by exact of_decide_eq_true (Eq.refl true)), put_gt (by exact of_decide_eq_true (Eq.refl true)) (by exact of_decide_eq_true (Eq.refl true)), put_gt (by exact of_decide_eq_true (Eq.refl true)) (by exact of_decide_eq_true (Eq.refl true)), put_gt (by exact of_decide_eq_true (Eq.refl true)) (by exact of_decide_eq_true (Eq.refl true)), put_hit (by exact of_decide_eq_true (Eq.refl true))]
theorem segM (m : List FilV) (l : List (Nat × FilV)) (h : segL m = l) : segL (GG F m) = T3 F ++ l := by rw [segG, h]
theorem sM4 (b : Bs) : segL [⟨nS 4, b, 0⟩] = [(4, ⟨nS 4, b, 0⟩)] := by rw [segL_cs (seg_s (k := 3) (by decide) rfl)]; rfl
theorem sM45 (b : Bs) : segL [⟨nS 4, b, 0⟩, ⟨nS 5, [], 0⟩] = [(4, ⟨nS 4, b, 0⟩), (5, ⟨nS 5, [], 0⟩)] := by rw [segL_cs (seg_s (k := 3) (by decide) rfl), segL_cs (seg_s (k := 4) (by decide) rfl)]; rfl
theorem sM46 : segL [⟨nS 4, [], 0⟩, ⟨nS 6, [], 0⟩] = [(4, ⟨nS 4, [], 0⟩), (6, ⟨nS 6, [], 0⟩)] := by rw [segL_cs (seg_s (k := 3) (by decide) rfl), segL_cs (seg_s (k := 5) (by decide) rfl)]; rfl
theorem fine_sF (hB : BigF R F) (k : UInt8) : (splD ((sF F k).by_.take (sF F k).sy)).2.2 = 0 := by
  show (splD (F.take F.length)).2.2 = 0
  rw [List.take_length, hB.spl]
/-- Segments in a row, each of which is whole, but for the last one's end. -/
theorem whole_row {l : List (Nat × FilV)} (h1 : ∀ i x, l[i]? = some x → x.1 = i + 1) (h2 : ∀ x ∈ l, (splD (x.2.by_.take x.2.sy)).2.2 = 0) (h3 : ∀ i x, l[i]? = some x → i + 1 < l.length → x.2.by_.length ≤ x.2.sy) : ¬ Spoilt l := by
  rintro ⟨i, x, hx, ⟨hi, hy⟩ | hb | ⟨hi, hs⟩⟩
  · have hl := (List.getElem?_eq_some_iff.1 hx).1
    have hq : l[i - 1]? = some l[i - 1] := List.getElem?_eq_getElem (by omega)
    have e1 := h1 i x hx
    have e2 := h1 _ _ hq
    exact hy _ hq (by omega)
  · exact hb (h2 x (List.mem_of_getElem? hx))
  · have := h3 i x hx hi
    omega
theorem ns3 (hB : BigF R F) : ¬ Spoilt (T3 F ++ []) := by
  refine whole_row (fun i x hx => ?_) (fun x hx => ?_) (fun i x hx hi => ?_)
  · match i, hx with
    | 0, hx => cases hx; rfl
    | 1, hx => cases hx; rfl
    | 2, hx => cases hx; rfl
    | i + 3, hx => cases hx
  · simp only [T3, List.append_nil, List.mem_cons, List.not_mem_nil, or_false] at hx
    rcases hx with rfl | rfl | rfl
    · exact fine_sF hB 1
    · exact fine_sF hB 2
    · exact fine_sF hB 3
  · match i, hx with
    | 0, hx => cases hx; exact Nat.le_refl _
    | 1, hx => cases hx; exact Nat.le_refl _
    | 2, hx => exact absurd hi (by show ¬ 3 < 3; decide)
    | i + 3, hx => cases hx
theorem ns4 (hB : BigF R F) : ¬ Spoilt (T3 F ++ [(4, ⟨nS 4, [7], 0⟩)]) := by
  refine whole_row (fun i x hx => ?_) (fun x hx => ?_) (fun i x hx hi => ?_)
  · match i, hx with
    | 0, hx => cases hx; rfl
    | 1, hx => cases hx; rfl
    | 2, hx => cases hx; rfl
    | 3, hx => cases hx; rfl
    | i + 4, hx => cases hx
  · simp only [T3, List.cons_append, List.nil_append, List.mem_cons, List.not_mem_nil, or_false] at hx
    rcases hx with rfl | rfl | rfl | rfl
    · exact fine_sF hB 1
    · exact fine_sF hB 2
    · exact fine_sF hB 3
    · exact congrArg (fun q : List Bs × Nat × Nat => q.2.2) splD_nil
  · match i, hx with
    | 0, hx => cases hx; exact Nat.le_refl _
    | 1, hx => cases hx; exact Nat.le_refl _
    | 2, hx => cases hx; exact Nat.le_refl _
    | 3, hx => exact absurd hi (by show ¬ 4 < 4; decide)
    | i + 4, hx => cases hx
theorem ns45 (hB : BigF R F) : ¬ Spoilt (T3 F ++ [(4, ⟨nS 4, [], 0⟩), (5, ⟨nS 5, [], 0⟩)]) := by
  refine whole_row (fun i x hx => ?_) (fun x hx => ?_) (fun i x hx hi => ?_)
  · match i, hx with
    | 0, hx => cases hx; rfl
    | 1, hx => cases hx; rfl
    | 2, hx => cases hx; rfl
    | 3, hx => cases hx; rfl
    | 4, hx => cases hx; rfl
    | i + 5, hx => cases hx
  · simp only [T3, List.cons_append, List.nil_append, List.mem_cons, List.not_mem_nil, or_false] at hx
    rcases hx with rfl | rfl | rfl | rfl | rfl
    · exact fine_sF hB 1
    · exact fine_sF hB 2
    · exact fine_sF hB 3
    · exact congrArg (fun q : List Bs × Nat × Nat => q.2.2) splD_nil
    · exact congrArg (fun q : List Bs × Nat × Nat => q.2.2) splD_nil
  · match i, hx with
    | 0, hx => cases hx; exact Nat.le_refl _
    | 1, hx => cases hx; exact Nat.le_refl _
    | 2, hx => cases hx; exact Nat.le_refl _
    | 3, hx => cases hx; exact Nat.le_refl _
    | 4, hx => exact absurd hi (by show ¬ 5 < 5; decide)
    | i + 5, hx => cases hx
theorem sp46 : Spoilt (T3 F ++ [(4, ⟨nS 4, [], 0⟩), (6, ⟨nS 6, [], 0⟩)]) := ⟨4, _, rfl, .inl ⟨by decide, fun y hy => by cases hy; decide⟩⟩
theorem sp4x : Spoilt (T3 F ++ [(4, ⟨nS 4, [120], 0⟩), (5, ⟨nS 5, [], 0⟩)]) := ⟨3, _, rfl, .inr (.inr ⟨by show 4 < 5; decide, by show 0 < 1; decide⟩)⟩
theorem rec_T3 (hB : BigF R F) : recL (T3 F) = [R, R, R] := by
  show (splD F).1 ++ ((splD F).1 ++ ((splD F).1 ++ [])) = _
  rw [hB.spl]
  rfl
theorem rec3 (hB : BigF R F) : recL (T3 F ++ []) = [R, R, R] := by rw [List.append_nil]; exact rec_T3 hB
theorem rec4 (hB : BigF R F) : recL (T3 F ++ [(4, ⟨nS 4, [7], 0⟩)]) = [R, R, R] := by rw [recL_snoc, rec_T3 hB, show (splD ((4, (⟨nS 4, [7], 0⟩ : FilV)) : Nat × FilV).2.by_).1 = [] from spl_7.1]; rfl
theorem rec45 (hB : BigF R F) : recL (T3 F ++ [(4, ⟨nS 4, [], 0⟩), (5, ⟨nS 5, [], 0⟩)]) = [R, R, R] := by
  unfold recL
  rw [List.flatMap_append, show (T3 F).flatMap (fun x => (splD x.2.by_).1) = _ from rec_T3 hB]
  show [R, R, R] ++ ((splD []).1 ++ ((splD []).1 ++ [])) = _
  rw [splD_nil]
  rfl
end
end Go.Proofs.YtogfladmgbldcaaGreatDoor
namespace Go.Proofs.YtogfladmgbldcaaGreatDoor
/-- The known log's disks behind its third record. -/
structure KnV (F : Bs) (D3 D4 Da Db Dc Dd De Df Dg Dh Di Dj Dk Dl : DskV) : Prop where
  e4 : lsyncD D3 = (D4, 0)
  k4 : KnL D4 [sF F 1, sF F 2, sF F 3] 10000
  ea : appD D4 kT jk = (Da, 0)
  eb : appD Da kS jk = (Db, 0)
  ec : appD Db kY jk = (Dc, 0)
  ed : appD Dc kZ jk = (Dd, 0)
  kd : KnL Dd (GG F []) 9000
  ee : lopenD Dd = (De, 0)
  ke : KnL De (GG F []) 9000
  ef : appD De (nS 4) [7] = (Df, 0)
  kf : KnL Df (GG F [⟨nS 4, [7], 0⟩]) 8999
  eg : lopenD Df = (Dg, 0)
  kg : KnL Dg (GG F [⟨nS 4, [], 0⟩]) 8999
  eh : appD Dg (nS 6) [] = (Dh, 0)
  kh : KnL Dh (GG F [⟨nS 4, [], 0⟩, ⟨nS 6, [], 0⟩]) 8999
  ei : remD Dh (nS 6) = (Di, 0)
  ki : KnL Di (GG F [⟨nS 4, [], 0⟩]) 8999
  ej : appD Di (nS 5) [] = (Dj, 0)
  kj : KnL Dj (GG F [⟨nS 4, [], 0⟩, ⟨nS 5, [], 0⟩]) 8999
  ek : lopenD Dj = (Dk, 0)
  kk : KnL Dk (GG F [⟨nS 4, [], 0⟩, ⟨nS 5, [], 0⟩]) 8999
  el : appD Dk (nS 4) [120] = (Dl, 0)
  kl : KnL Dl (GG F [⟨nS 4, [120], 0⟩, ⟨nS 5, [], 0⟩]) 8998
theorem known5 {R F : Bs} (hB : BigF R F) {D3 : DskV} (h : KnL D3 (AA F 3) 10000) : ∃ D4 Da Db Dc Dd De Df Dg Dh Di Dj Dk Dl, KnV F D3 D4 Da Db Dc Dd De Df Dg Dh Di Dj Dk Dl := by
  have g0 : (GG F []).length < 1000 := by show 7 < 1000; decide
  obtain ⟨D4, e4, k4⟩ := knl_lsync (fs' := [sF F 1, sF F 2, sF F 3]) h last_A3 (f := ⟨nS 3, F, 0⟩) (by show findF (nS 3) [sF F 1, sF F 2, ⟨nS 3, F, 0⟩] = _; rw [find_miss (by exact of_decide_eq_true (Eq.refl true)), find_miss (by exact of_decide_eq_true (Eq.refl true)), find_hit (by exact of_decide_eq_true (Eq.refl true))]) (by show putF (sF F 3) [sF F 1, sF F 2, ⟨nS 3, F, 0⟩] = _; rw [put_gt (by exact of_decide_eq_true (Eq.refl true)) (by exact of_decide_eq_true (Eq.refl true)), put_gt (by exact of_decide_eq_true (Eq.refl true)) (by exact of_decide_eq_true (Eq.refl true)), put_hit (by exact of_decide_eq_true (Eq.refl true))])
  obtain ⟨Da, ea, ka⟩ := knl_app (r := 9996) (nm := kT) (s := jk) (f := ⟨kT, [], 0⟩) (fs' := [sF F 1, sF F 2, sF F 3, fK kT]) k4 (by decide) (by show 3 < 1000; decide) (by rw [find_miss (by exact of_decide_eq_true (Eq.refl true)), find_miss (by exact of_decide_eq_true (Eq.refl true)), find_miss (by exact of_decide_eq_true (Eq.refl true)), find_nil]; rfl) (by show putF (fK kT) _ = _; rw [put_gt (by exact of_decide_eq_true (Eq.refl true)) (by exact of_decide_eq_true (Eq.refl true)), put_gt (by exact of_decide_eq_true (Eq.refl true)) (by exact of_decide_eq_true (Eq.refl true)), put_gt (by exact of_decide_eq_true (Eq.refl true)) (by exact of_decide_eq_true (Eq.refl true)), put_nil])
  obtain ⟨Db, eb, kb⟩ := knl_app (r := 9992) (nm := kS) (s := jk) (f := ⟨kS, [], 0⟩) (fs' := [sF F 1, sF F 2, sF F 3, fK kS, fK kT]) ka (by decide) (by show 4 < 1000; decide) (by rw [find_miss (by exact of_decide_eq_true (Eq.refl true)), find_miss (by exact of_decide_eq_true (Eq.refl true)), find_miss (by exact of_decide_eq_true (Eq.refl true)), find_miss (by exact of_decide_eq_true (Eq.refl true)), find_nil]; rfl) (by show putF (fK kS) _ = _; rw [put_gt (by exact of_decide_eq_true (Eq.refl true)) (by exact of_decide_eq_true (Eq.refl true)), put_gt (by exact of_decide_eq_true (Eq.refl true)) (by exact of_decide_eq_true (Eq.refl true)), put_gt (by exact of_decide_eq_true (Eq.refl true)) (by exact of_decide_eq_true (Eq.refl true)), put_lt (by exact of_decide_eq_true (Eq.refl true)) (by exact of_decide_eq_true (Eq.refl true))])
  obtain ⟨Dc, ec, kc⟩ := knl_app (r := 9988) (nm := kY) (s := jk) (f := ⟨kY, [], 0⟩) (fs' := [fK kY, sF F 1, sF F 2, sF F 3, fK kS, fK kT]) kb (by decide) (by show 5 < 1000; decide) (by rw [find_miss (by exact of_decide_eq_true (Eq.refl true)), find_miss (by exact of_decide_eq_true (Eq.refl true)), find_miss (by exact of_decide_eq_true (Eq.refl true)), find_miss (by exact of_decide_eq_true (Eq.refl true)), find_miss (by exact of_decide_eq_true (Eq.refl true)), find_nil]; rfl) (by show putF (fK kY) _ = _; rw [put_lt (by exact of_decide_eq_true (Eq.refl true)) (by exact of_decide_eq_true (Eq.refl true))])
  obtain ⟨Dd, ed, kd⟩ := knl_app (r := 9984) (nm := kZ) (s := jk) (f := ⟨kZ, [], 0⟩) (fs' := GG F []) kc (by decide) (by show 6 < 1000; decide) (by rw [find_miss (by exact of_decide_eq_true (Eq.refl true)), find_miss (by exact of_decide_eq_true (Eq.refl true)), find_miss (by exact of_decide_eq_true (Eq.refl true)), find_miss (by exact of_decide_eq_true (Eq.refl true)), find_miss (by exact of_decide_eq_true (Eq.refl true)), find_miss (by exact of_decide_eq_true (Eq.refl true)), find_nil]; rfl) (by show putF (fK kZ) _ = _; rw [put_lt (by exact of_decide_eq_true (Eq.refl true)) (by exact of_decide_eq_true (Eq.refl true))]; rfl)
  have kd' := kd.less (show 9000 ≤ 9984 by decide)
  obtain ⟨De, ee, ke⟩ := knl_open (fs' := GG F []) (fs1 := GG F []) (g := sF F 3) (f := sF F 3) kd' (x := (3, sF F 3)) (by rw [segM [] [] rfl]; rfl) F.length (by show (splD F).2.1 = _; rw [hB.spl]) fG3 (Nat.le_refl _) (Nat.le_refl _) (by show putF ⟨nS 3, F.take F.length, F.length⟩ _ = _; rw [List.take_length]; exact pG3) (by rw [segM [] [] rfl]; rfl) rfl fG3 pG3
  obtain ⟨Df, ef, kf⟩ := knl_app (r := 8999) (nm := nS 4) (s := [7]) (f := ⟨nS 4, [], 0⟩) (fs' := GG F [⟨nS 4, [7], 0⟩]) ke (by decide) g0 (by rw [fG4n]; rfl) pG4
  obtain ⟨Dg, eg, kg⟩ := knl_open (fs' := GG F [⟨nS 4, [], 0⟩]) (fs1 := GG F [⟨nS 4, [], 0⟩]) (g := ⟨nS 4, [], 0⟩) (f := ⟨nS 4, [7], 0⟩) kf (x := (4, ⟨nS 4, [7], 0⟩)) (by rw [segM _ _ (sM4 [7])]; rfl) 0 spl_7.2 fG4 (Nat.le_refl _) (Nat.zero_le _) pG4e (by rw [segM _ _ (sM4 [])]; rfl) rfl fG4e pG4s
  obtain ⟨Dh, eh, kh⟩ := knl_app (r := 8999) (nm := nS 6) (s := []) (f := ⟨nS 6, [], 0⟩) (fs' := GG F [⟨nS 4, [], 0⟩, ⟨nS 6, [], 0⟩]) kg (by decide) (by show 8 < 1000; decide) (by rw [fG6n]; rfl) pG6
  obtain ⟨Di, ei, ki⟩ := knl_rem kh fG6 dG6
  obtain ⟨Dj, ej, kj⟩ := knl_app (r := 8999) (nm := nS 5) (s := []) (f := ⟨nS 5, [], 0⟩) (fs' := GG F [⟨nS 4, [], 0⟩, ⟨nS 5, [], 0⟩]) ki (by decide) (by show 8 < 1000; decide) (by rw [fG5n]; rfl) pG5
  obtain ⟨Dk, ek, kk⟩ := knl_open (fs' := GG F [⟨nS 4, [], 0⟩, ⟨nS 5, [], 0⟩]) (fs1 := GG F [⟨nS 4, [], 0⟩, ⟨nS 5, [], 0⟩]) (g := ⟨nS 5, [], 0⟩) (f := ⟨nS 5, [], 0⟩) kj (x := (5, ⟨nS 5, [], 0⟩)) (by rw [segM _ _ (sM45 [])]; rfl) 0 (congrArg (fun q : List Bs × Nat × Nat => q.2.1) splD_nil) fG5 (Nat.le_refl _) (Nat.zero_le _) pG5s (by rw [segM _ _ (sM45 [])]; rfl) rfl fG5 pG5s
  obtain ⟨Dl, el, kl⟩ := knl_app (r := 8998) (nm := nS 4) (s := [120]) (f := ⟨nS 4, [], 0⟩) (fs' := GG F [⟨nS 4, [120], 0⟩, ⟨nS 5, [], 0⟩]) kk (by decide) (by show 9 < 1000; decide) (by rw [fG45]; rfl) pG4x
  exact ⟨D4, Da, Db, Dc, Dd, De, Df, Dg, Dh, Di, Dj, Dk, Dl, ⟨e4, k4, ea, eb, ec, ed, kd', ee, ke, ef, kf, eg, kg, eh, kh, ei, ki, ej, kj, ek, kk, el, kl⟩⟩
end Go.Proofs.YtogfladmgbldcaaGreatDoor
namespace Go.Proofs.YtogfladmgbldcaaGreatDoor
open Go.RowKit Go.Shelf
theorem made_zeros (n : Nat) : madeCells #[.int .u8 0] n = (bcells (List.replicate n 0)).toArray := by
  apply Array.ext
  · simp [madeCells, bcells]
  · intro i h1 h2
    simp [madeCells, bcells, Nat.mod_one]
section
variable {N p bb : Nat} {K ls : List Nat} {D D' : DskV} {w w0 : World} {fs : List FilV} {r : Nat}
/-- A disk beside logs, at a world that has grown from another. -/
structure KoI (N p bb : Nat) (K ls : List Nat) (D : DskV) (w0 w : World) : Prop where
  lw : LwV N p bb K ls D w
  bel : Below N w0 w
theorem KoI.below {w' : World} (h : KoI N p bb K ls D w0 w) (hb : Below w.heap.size w w') : KoI N p bb K ls D w0 w' := ⟨h.lw.below hb, h.bel.trans (hb.mono h.lw.sz)⟩
theorem KoI.app (h : KoI N p bb K ls D w0 w) (nm s : ByteArray) (hn : nm.size ≤ maxLen) (hs : s.size ≤ maxLen) (he : appD D nm.data.toList s.data.toList = (D', 0)) : Calls Tryz.prog 18 #[.pointer (some ⟨p, 0, none⟩), .string nm, .string s] w fun e w' => e = .returned (.int .i64 0) ∧ KoI N p bb K ls D' w0 w' := by
  have h2 := lw_act (R := appD D nm.data.toList s.data.toList) (f := 18) (args := #[.pointer (some ⟨p, 0, none⟩), .string nm, .string s]) h.lw.sz h.lw.lw (fun n C L hd hl => append_any nm s hn hs w hd hl)
  rw [he] at h2
  exact h2.mono (by rintro e w' ⟨rfl, h3, hb⟩; exact ⟨rfl, h.lw.of h3 hb.bel, h.bel.trans hb.bel⟩)
theorem KoI.rem (h : KoI N p bb K ls D w0 w) (nm : ByteArray) (hn : nm.size ≤ maxLen) (he : remD D nm.data.toList = (D', 0)) : Calls Tryz.prog 32 #[.pointer (some ⟨p, 0, none⟩), .string nm] w fun e w' => e = .returned (.int .i64 0) ∧ KoI N p bb K ls D' w0 w' := by
  have h2 := lw_act (R := remD D nm.data.toList) (f := 32) (args := #[.pointer (some ⟨p, 0, none⟩), .string nm]) h.lw.sz h.lw.lw (fun n C L hd hl => remove_any nm hn w hd hl)
  rw [he] at h2
  exact h2.mono (by rintro e w' ⟨rfl, h3, hb⟩; exact ⟨rfl, h.lw.of h3 hb.bel, h.bel.trans hb.bel⟩)
theorem KoI.opens {l : List (Nat × FilV)} {n : Nat} (h : KoI N p bb K ls D w0 w) (hk : KnL D fs r) (hlen : fs.length ≤ 1000) (hs : segL fs = l) (hns : ¬ Spoilt l) (hr : (recL l).length = n) (he : lopenD D = (D', 0)) :
    Calls Tryz.prog 26 #[.pointer (some ⟨p, 0, none⟩)] w fun e w' => ∃ l1 a c q, e = .returned (.tuple #[.pointer (some ⟨l1, 0, none⟩), .slice a n c, .int .i64 0]) ∧ KoI N p bb (l1 :: q :: K) (l1 :: ls) D' w0 w' := by
  have hs2 : segL D.fs = l := by rw [hk.fs]; exact hs
  refine (lw_open h.lw.sz h.lw.pv (by rw [hk.fs]; omega) h.lw.lw hk.dead (by rw [hs2]; exact hns) (by rw [he])).mono ?_
  rintro e w' ⟨l1, v, q, rfl, h2, ho, _, hb⟩
  rw [hs2, hr] at ho
  rw [he] at h2
  obtain ⟨a, c, rfl⟩ := own_slice_of ho
  exact ⟨l1, a, c, q, rfl, h.lw.of h2 hb.bel, h.bel.trans hb.bel⟩
theorem KoI.halts {l : List (Nat × FilV)} (h : KoI N p bb K ls D w0 w) (hk : KnL D fs r) (hlen : fs.length ≤ 1000) (hs : segL fs = l) (hsp : Spoilt l) :
    Calls Tryz.prog 26 #[.pointer (some ⟨p, 0, none⟩)] w fun e w' => e = .returned (.tuple #[.pointer none, .slice none 0 0, .int .i64 10]) ∧ KoI N p bb K ls D w0 w' := by
  refine (lw_halt h.lw.sz h.lw.pv (by rw [hk.fs]; omega) h.lw.lw hk.dead (by rw [hk.fs, hs]; exact hsp)).mono ?_
  rintro e w' ⟨rfl, _, hb⟩
  exact ⟨rfl, h.below hb⟩
end
set_option maxRecDepth 100000 in
set_option maxHeartbeats 16000000 in
theorem logKnown_any {w : World} (hv0 : PV w) : Calls Tryz.prog 8 #[] w fun e w' => e = .returned (.bool true) ∧ Below w.heap.size w w' := by
  obtain ⟨N, hN⟩ : ∃ N, N = w.heap.size := ⟨_, rfl⟩
  have HW := Lib.hid (show PVB N w ∧ N ≤ w.heap.size from ⟨by rw [hN]; exact PVB.of hv0, by omega⟩)
  rw [← hN]
  clear hN hv0
  have Hop0 := Lib.hid (fun (p bb : Nat) (w0 y : World) (h : KoI N p bb [] [] dsk0 w0 y) => (show Calls Tryz.prog 26 #[.pointer (some ⟨p, 0, none⟩)] y (fun e w' => ∃ l a c q, e = .returned (.tuple #[.pointer (some ⟨l, 0, none⟩), .slice a 0 c, .int .i64 0]) ∧ KoI N p bb [l, q] [l] dsk0 w0 w') from (lw_open h.lw.sz h.lw.pv (by decide) h.lw.lw rfl (LgT.good (s := 0) (c := 0) (.inl ⟨lg00, rfl, rfl⟩)).1 (by rw [lg0_open lg00])).mono (by
    rintro e w' ⟨l, v, q, rfl, h2, ho, _, hb⟩
    rw [lg0_open lg00] at h2
    obtain ⟨a, c, rfl⟩ := own_slice_of ho
    exact ⟨l, a, c, q, rfl, h.lw.of h2 hb.bel, h.bel.trans hb.bel⟩)))
  obtain ⟨w0, rfl⟩ : ∃ w0, w0 = w := ⟨_, rfl⟩
  go_enter Tryz.func8, Tryz.ntmps8
  go_upto_region 5 with (first
    | (go_at_call 16; (with_reducible refine (lo_new N _ HW.out.1 HW.out.2).mono ?_); rintro e w1 ⟨p, bb, rfl, hd, hb⟩; have H1 := Lib.hid (KoI.mk hd hb); clear hd hb)
    | (go_at_call 26; (with_reducible refine (Hop0.out p bb _ _ H1.out).mono ?_); rintro e w2 ⟨x, a2, c2, q, rfl, hd⟩; have H2 := Lib.hid hd; clear hd))
  obtain ⟨i0, hi0, hz0, hs0, hb0⟩ := info_parts info8
  obtain ⟨nn, hnn⟩ : ∃ nn : Nat, nn = 1024 := ⟨_, rfl⟩
  have HNN := Lib.hid hnn
  have hbm := (Below.refl w2.heap.size w2).alloc (Nat.le_refl _) (.cells (madeCells #[Value.int .u8 0] nn) 5)
  have hcv := (ReadB.cells w2 (List.replicate nn 0) 5 (madeCells #[Value.int .u8 0] nn) (made_zeros nn) nn).conv (P := Tryz.prog) (src := 42) (dst := 9) (e := 5) Tryz.underlying42 Tryz.underlying5 Tryz.underlying9
  rw [List.length_replicate] at hcv
  obtain ⟨R, hR⟩ : ∃ R : Bs, R = List.replicate nn 0 := ⟨_, rfl⟩
  rw [← hR] at hcv
  have hRl : R.length = 1024 := by rw [hR, List.length_replicate, hnn]
  obtain ⟨lg, hlg⟩ : ∃ lg : ByteArray, lg = ⟨R.toArray⟩ := ⟨_, rfl⟩
  rw [← hlg] at hcv
  have hls : lg.size = 1024 := by rw [hlg]; show R.toArray.size = _; rw [List.size_toArray]; exact hRl
  have hld : lg.data.toList = R := by rw [hlg]
  obtain ⟨F, hF⟩ : ∃ F : Bs, F = frL R := ⟨_, rfl⟩
  have HB := Lib.hid (BigF.mk hRl hF)
  have HLG := Lib.hid (And.intro hls hld)
  have HBM := Lib.hid hbm
  clear hlg hls hld hbm hnn hR hRl hF
  go_upto_region 6 with (refine wpList_make_lc _ rfl _ _ 42 rfl 5 i0 (.int .u8 0) Tryz.underlying42 hi0 hz0 .i64 .i64 1024 1024 nn nn rfl rfl (by rw [HNN.out]; rfl) (by rw [HNN.out]; rfl) (Nat.le_refl _) (by rw [hb0, HNN.out]; decide) (by rw [HNN.out]; decide) ?_)
  change Code.wp _ _ _ _ (w2.alloc (.cells (madeCells #[Value.int .u8 0] nn) 5))
  have H3 := Lib.hid (H2.out.below HBM.out)
  generalize w2.alloc (.cells (madeCells #[Value.int .u8 0] nn) 5) = w3 at *
  clear hcv hi0 hz0 hs0 hb0 HBM Hop0
  have HADD := Lib.hid (fun (i : Nat) (D : DskV) (y : World) (hi : i < 3) (hk : KnL D (AA F i) (10000 + 1035 * (3 - i))) (h : KoI N p bb [x, q] [x] D w0 y) => (show Calls Tryz.prog 27 #[.pointer (some ⟨x, 0, none⟩), .string lg] y (fun e w' => ∃ D', e = .returned (.int .i64 0) ∧ KnL D' (AA F (i + 1)) (10000 + 1035 * (3 - (i + 1))) ∧ KoI N p bb [x, q] [x] D' w0 w') from by
    obtain ⟨D', e1, k1⟩ := adds (r := 10000 + 1035 * (3 - (i + 1))) HB.out hi (hk.less (by omega))
    have hA := seg_A (F := F) i (by omega)
    have h2 := lw_add (l := x) (by simp) h.lw.sz h.lw.pv (by rw [hk.fs]; omega) (by rw [hk.fs]; exact hA.2.1) lg (by rw [HLG.out.1]; decide) h.lw.lw
    rw [HLG.out.2, e1] at h2
    exact h2.mono (by rintro e w' ⟨rfl, h3, hb⟩; exact ⟨D', rfl, k1, h.lw.of h3 hb.bel, h.bel.trans hb.bel⟩)))
  go_wp2
  go_loopw [6] (fun s6 wr => ∃ (i : Nat) (D : DskV), s6 = .int .i64 (i : Int) ∧ i ≤ 3 ∧ KnL D (AA F i) (10000 + 1035 * (3 - i)) ∧ KoI N p bb [x, q] [x] D w0 wr) (fun s6 _ => 3 - (intOf s6).toNat)
  case atStart => exact ⟨0, dsk0, rfl, Nat.zero_le _, ⟨rfl, rfl, rfl, by decide⟩, H3.out⟩
  case round =>
    obtain ⟨i, D, rfl, hi, hk, hI⟩ := hrel
    have HK := Lib.hid hk
    have HI := Lib.hid hI
    clear hk hI
    by_cases hin : i < 3
    · have hiI : (i : Int) < 3 := by omega
      go_wp2_with (go_at_call 27; (with_reducible refine (HADD.out i D _ hin HK.out HI.out).mono ?_); rintro e w7 ⟨D', rfl, h1, h2⟩; have H7 := Lib.hid (And.intro h1 h2); clear h1 h2)
      exact ⟨⟨i + 1, D', by rw [Int.natCast_add]; rfl, by omega, H7.out⟩, by simp only [intOf]; omega⟩
    · have hiI : ¬ (i : Int) < 3 := by omega
      obtain rfl : i = 3 := by omega
      clear hi hin HADD H3 H2 H1
      obtain ⟨w4, rfl⟩ : ∃ w4, w4 = wr := ⟨_, rfl⟩
      obtain ⟨D4, Da, Db, Dc, Dd, De, Df, Dg, Dh, Di, Dj, Dk, Dl, V⟩ := known5 HB.out (HK.out.less (show 10000 ≤ 10000 + 1035 * (3 - 3) by decide))
      have HV := Lib.hid V
      clear V
      have hA3 := seg_A (F := F) 3 (by decide)
      have Hfi := Lib.hid (fun (y : World) (h : KoI N p bb [x, q] [x] D w0 y) => (show Calls Tryz.prog 19 #[.pointer (some ⟨p, 0, none⟩)] y (fun e w' => ∃ g c, e = .returned (.slice (some ⟨g, 0, none⟩) 3 c) ∧ w'.cell? ⟨g, 6, none⟩ = some (.string ⟨#[115, 48, 48, 48, 48, 48, 48, 48, 51]⟩) ∧ w'.cell? ⟨g, 8, none⟩ = some (.int .i64 0) ∧ KoI N p bb [x, q] [x] D w0 w') from by
        have hl3 : D.fs.length = 3 := by rw [HK.out.fs]; rfl
        refine (lw_files (by rw [hl3]; decide) h.lw.lw).mono ?_
        rintro e w' ⟨v, rfl, ho, hb⟩
        rw [hl3] at ho
        obtain ⟨a, c, rfl⟩ := own_slice_of ho
        have hf := fils_own hl3 ho
        obtain ⟨g, rfl, hg, hr⟩ := hf.at_ 2 ⟨nS 3, F, 0⟩ (by rw [HK.out.fs]; rfl)
        exact ⟨g, c, rfl, hr 0 _ rfl, hr 2 _ rfl, h.below hb⟩))
      have Hsn := Lib.hid (fun (y : World) (h : KoI N p bb [x, q] [x] D w0 y) => (show Calls Tryz.prog 30 #[.pointer (some ⟨x, 0, none⟩)] y (fun e w' => e = .returned (.int .i64 3) ∧ KoI N p bb [x, q] [x] D w0 w') from by
        have h2 := lo_segs (l := x) (by simp) h.lw (by rw [HK.out.fs]; show 3 ≤ 100000; decide)
        rw [HK.out.fs, hA3.1] at h2
        exact h2.mono (by rintro e w' ⟨rfl, hb⟩; exact ⟨rfl, h.below hb⟩)))
      have Hsy := Lib.hid (fun (y : World) (h : KoI N p bb [x, q] [x] D w0 y) => (show Calls Tryz.prog 28 #[.pointer (some ⟨x, 0, none⟩)] y (fun e w' => e = .returned (.int .i64 0) ∧ KoI N p bb [x, q] [x] D4 w0 w') from by
        have h2 := lw_sync (l := x) (by simp) h.lw.sz h.lw.pv (by rw [HK.out.fs]; show 3 ≤ 100000; decide) h.lw.lw
        rw [HV.out.e4] at h2
        exact h2.mono (by rintro e w' ⟨rfl, h3, hb⟩; exact ⟨rfl, h.lw.of h3 hb.bel, h.bel.trans hb.bel⟩)))
      have Hpa := Lib.hid (fun (K ls : List Nat) (y : World) (h : KoI N p bb K ls D4 w0 y) => (show Calls Tryz.prog 18 #[.pointer (some ⟨p, 0, none⟩), .string ⟨#[116, 48, 48, 48, 48, 48, 48, 48, 49]⟩, .string ⟨#[106, 117, 110, 107]⟩] y (fun e w' => e = .returned (.int .i64 0) ∧ KoI N p bb K ls Da w0 w') from h.app ⟨#[116, 48, 48, 48, 48, 48, 48, 48, 49]⟩ ⟨#[106, 117, 110, 107]⟩ (by decide) (by decide) HV.out.ea))
      have Hpb := Lib.hid (fun (K ls : List Nat) (y : World) (h : KoI N p bb K ls Da w0 y) => (show Calls Tryz.prog 18 #[.pointer (some ⟨p, 0, none⟩), .string ⟨#[115, 49]⟩, .string ⟨#[106, 117, 110, 107]⟩] y (fun e w' => e = .returned (.int .i64 0) ∧ KoI N p bb K ls Db w0 w') from h.app ⟨#[115, 49]⟩ ⟨#[106, 117, 110, 107]⟩ (by decide) (by decide) HV.out.eb))
      have Hpc := Lib.hid (fun (K ls : List Nat) (y : World) (h : KoI N p bb K ls Db w0 y) => (show Calls Tryz.prog 18 #[.pointer (some ⟨p, 0, none⟩), .string ⟨#[115, 48, 48, 48, 48, 48, 48, 48, 48, 52]⟩, .string ⟨#[106, 117, 110, 107]⟩] y (fun e w' => e = .returned (.int .i64 0) ∧ KoI N p bb K ls Dc w0 w') from h.app ⟨#[115, 48, 48, 48, 48, 48, 48, 48, 48, 52]⟩ ⟨#[106, 117, 110, 107]⟩ (by decide) (by decide) HV.out.ec))
      have Hpd := Lib.hid (fun (K ls : List Nat) (y : World) (h : KoI N p bb K ls Dc w0 y) => (show Calls Tryz.prog 18 #[.pointer (some ⟨p, 0, none⟩), .string ⟨#[115, 48, 48, 48, 48, 48, 48, 48, 48]⟩, .string ⟨#[106, 117, 110, 107]⟩] y (fun e w' => e = .returned (.int .i64 0) ∧ KoI N p bb K ls Dd w0 w') from h.app ⟨#[115, 48, 48, 48, 48, 48, 48, 48, 48]⟩ ⟨#[106, 117, 110, 107]⟩ (by decide) (by decide) HV.out.ed))
      have Hpf := Lib.hid (fun (K ls : List Nat) (y : World) (h : KoI N p bb K ls De w0 y) => (show Calls Tryz.prog 18 #[.pointer (some ⟨p, 0, none⟩), .string ⟨#[115, 48, 48, 48, 48, 48, 48, 48, 52]⟩, .string ⟨#[7]⟩] y (fun e w' => e = .returned (.int .i64 0) ∧ KoI N p bb K ls Df w0 w') from h.app ⟨#[115, 48, 48, 48, 48, 48, 48, 48, 52]⟩ ⟨#[7]⟩ (by decide) (by decide) HV.out.ef))
      have Hph := Lib.hid (fun (K ls : List Nat) (y : World) (h : KoI N p bb K ls Dg w0 y) => (show Calls Tryz.prog 18 #[.pointer (some ⟨p, 0, none⟩), .string ⟨#[115, 48, 48, 48, 48, 48, 48, 48, 54]⟩, .string ⟨#[]⟩] y (fun e w' => e = .returned (.int .i64 0) ∧ KoI N p bb K ls Dh w0 w') from h.app ⟨#[115, 48, 48, 48, 48, 48, 48, 48, 54]⟩ ⟨#[]⟩ (by decide) (by decide) HV.out.eh))
      have Hpj := Lib.hid (fun (K ls : List Nat) (y : World) (h : KoI N p bb K ls Di w0 y) => (show Calls Tryz.prog 18 #[.pointer (some ⟨p, 0, none⟩), .string ⟨#[115, 48, 48, 48, 48, 48, 48, 48, 53]⟩, .string ⟨#[]⟩] y (fun e w' => e = .returned (.int .i64 0) ∧ KoI N p bb K ls Dj w0 w') from h.app ⟨#[115, 48, 48, 48, 48, 48, 48, 48, 53]⟩ ⟨#[]⟩ (by decide) (by decide) HV.out.ej))
      have Hpl := Lib.hid (fun (K ls : List Nat) (y : World) (h : KoI N p bb K ls Dk w0 y) => (show Calls Tryz.prog 18 #[.pointer (some ⟨p, 0, none⟩), .string ⟨#[115, 48, 48, 48, 48, 48, 48, 48, 52]⟩, .string ⟨#[120]⟩] y (fun e w' => e = .returned (.int .i64 0) ∧ KoI N p bb K ls Dl w0 w') from h.app ⟨#[115, 48, 48, 48, 48, 48, 48, 48, 52]⟩ ⟨#[120]⟩ (by decide) (by decide) HV.out.el))
      have Ho2 := Lib.hid (fun (K ls : List Nat) (y : World) (h : KoI N p bb K ls Dd w0 y) => h.opens (D' := De) (n := 3) HV.out.kd (by show 7 ≤ 1000; decide) (segM [] [] rfl) (ns3 HB.out) (by rw [rec3 HB.out]; rfl) HV.out.ee)
      have Ho3 := Lib.hid (fun (K ls : List Nat) (y : World) (h : KoI N p bb K ls Df w0 y) => h.opens (D' := Dg) (n := 3) HV.out.kf (by show 8 ≤ 1000; decide) (segM _ _ (sM4 [7])) (ns4 HB.out) (by rw [rec4 HB.out]; rfl) HV.out.eg)
      have Ho5 := Lib.hid (fun (K ls : List Nat) (y : World) (h : KoI N p bb K ls Dj w0 y) => h.opens (D' := Dk) (n := 3) HV.out.kj (by show 9 ≤ 1000; decide) (segM _ _ (sM45 [])) (ns45 HB.out) (by rw [rec45 HB.out]; rfl) HV.out.ek)
      have Hh4 := Lib.hid (fun (K ls : List Nat) (y : World) (h : KoI N p bb K ls Dh w0 y) => h.halts HV.out.kh (by show 9 ≤ 1000; decide) (segM _ _ sM46) sp46)
      have Hh6 := Lib.hid (fun (K ls : List Nat) (y : World) (h : KoI N p bb K ls Dl w0 y) => h.halts HV.out.kl (by show 9 ≤ 1000; decide) (segM _ _ (sM45 [120])) sp4x)
      have Hre := Lib.hid (fun (K ls : List Nat) (y : World) (h : KoI N p bb K ls Dh w0 y) => (show Calls Tryz.prog 32 #[.pointer (some ⟨p, 0, none⟩), .string ⟨#[115, 48, 48, 48, 48, 48, 48, 48, 54]⟩] y (fun e w' => e = .returned (.int .i64 0) ∧ KoI N p bb K ls Di w0 w') from h.rem ⟨#[115, 48, 48, 48, 48, 48, 48, 48, 54]⟩ (by decide) HV.out.ei))
      clear hA3
      go_upto_region 12 with (go_at_call 19; (with_reducible refine (Hfi.out _ HI.out).mono ?_); rintro e w5 ⟨g5, c5, rfl, h1, h2, h3⟩; have H5 := Lib.hid h3; clear h3)
      go_upto_region 14 with (go_at_call 30; (with_reducible refine (Hsn.out _ H5.out).mono ?_); rintro e w6 ⟨rfl, h3⟩; have H6 := Lib.hid h3; clear h3)
      clear h1 h2
      go_upto_region 16 with (first
        | (go_at_call 28; (with_reducible refine (Hsy.out _ H6.out).mono ?_); rintro e w7 ⟨rfl, h3⟩; have H7 := Lib.hid h3; clear h3)
        | (go_at_call 18; (with_reducible refine (Hpa.out _ _ _ H7.out).mono ?_); rintro e w8 ⟨rfl, h3⟩; have H8 := Lib.hid h3; clear h3)
        | (go_at_call 18; (with_reducible refine (Hpb.out _ _ _ H8.out).mono ?_); rintro e w9 ⟨rfl, h3⟩; have H9 := Lib.hid h3; clear h3)
        | (go_at_call 18; (with_reducible refine (Hpc.out _ _ _ H9.out).mono ?_); rintro e w10 ⟨rfl, h3⟩; have H10 := Lib.hid h3; clear h3)
        | (go_at_call 18; (with_reducible refine (Hpd.out _ _ _ H10.out).mono ?_); rintro e w11 ⟨rfl, h3⟩; have H11 := Lib.hid h3; clear h3))
      go_upto_region 26 with (first
        | (go_at_call 26; (with_reducible refine (Ho2.out _ _ _ H11.out).mono ?_); rintro e w12 ⟨la, aa, ca, qa, rfl, h3⟩; have H12 := Lib.hid h3; clear h3)
        | (go_at_call 18; (with_reducible refine (Hpf.out _ _ _ H12.out).mono ?_); rintro e w13 ⟨rfl, h3⟩; have H13 := Lib.hid h3; clear h3)
        | (go_at_call 26; (with_reducible refine (Ho3.out _ _ _ H13.out).mono ?_); rintro e w14 ⟨lb, ab, cb, qb, rfl, h3⟩; have H14 := Lib.hid h3; clear h3)
        | (go_at_call 18; (with_reducible refine (Hph.out _ _ _ H14.out).mono ?_); rintro e w15 ⟨rfl, h3⟩; have H15 := Lib.hid h3; clear h3)
        | (go_at_call 26; (with_reducible refine (Hh4.out _ _ _ H15.out).mono ?_); rintro e w16 ⟨rfl, h3⟩; have H16 := Lib.hid h3; clear h3)
        | (go_at_call 32; (with_reducible refine (Hre.out _ _ _ H16.out).mono ?_); rintro e w17 ⟨rfl, h3⟩; have H17 := Lib.hid h3; clear h3)
        | (go_at_call 18; (with_reducible refine (Hpj.out _ _ _ H17.out).mono ?_); rintro e w18 ⟨rfl, h3⟩; have H18 := Lib.hid h3; clear h3)
        | (go_at_call 26; (with_reducible refine (Ho5.out _ _ _ H18.out).mono ?_); rintro e w19 ⟨lc, ac, cc, qc, rfl, h3⟩; have H19 := Lib.hid h3; clear h3)
        | (go_at_call 18; (with_reducible refine (Hpl.out _ _ _ H19.out).mono ?_); rintro e w20 ⟨rfl, h3⟩; have H20 := Lib.hid h3; clear h3)
        | (go_at_call 26; (with_reducible refine (Hh6.out _ _ _ H20.out).mono ?_); rintro e w21 ⟨rfl, h3⟩; have H21 := Lib.hid h3; clear h3))
      go_wp2_with (go_at_call 31; (with_reducible refine (wakes05_any _ H21.out.lw.pv.here).mono ?_); rintro e w22 ⟨rfl, hb⟩; have H22 := Lib.hid (H21.out.bel.trans (hb.mono H21.out.lw.sz)); clear hb)
      go_ret
      exact ⟨rfl, H22.out⟩
end Go.Proofs.YtogfladmgbldcaaGreatDoor
