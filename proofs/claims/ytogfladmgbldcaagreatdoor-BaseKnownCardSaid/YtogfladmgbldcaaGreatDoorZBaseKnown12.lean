/- Base (plain): the known files. No condition. -/
import Derived.Test.YtogfladmgbldcaaGreatDoorZBaseKnown11
namespace Go.Proofs.YtogfladmgbldcaaGreatDoor
def svn : Bs := [115, 101, 118, 101, 110]
def jnk : Bs := [106, 117, 110, 107]
def n7 : Bs := [98, 48, 48, 48, 48, 48, 48, 48, 48, 48, 48, 48, 48, 48, 48, 48, 55]
def n9 : Bs := [98, 48, 48, 48, 48, 48, 48, 48, 48, 48, 48, 48, 48, 48, 48, 48, 57]
def nA : Bs := [98, 48, 48, 48, 48, 48, 48, 48, 48, 48, 48, 48, 48, 48, 48, 49, 102]
def n0 : Bs := [98, 48, 48, 48, 48, 48, 48, 48, 48, 48, 48, 48, 48, 48, 48, 48, 48]
def nF : Bs := [98, 48, 48, 48, 48, 48, 48, 48, 48, 48, 48, 48, 48, 48, 48, 48, 70]
def nC : Bs := [99, 48, 48, 48, 48, 48, 48, 48, 48, 48, 48, 48, 48, 48, 48, 48, 49]
theorem bname7 : bname 7 = n7 := by decide +kernel
theorem slot7 : slotD n7 = some 7 := by decide +kernel
theorem slot9 : slotD n9 = some 9 := by decide +kernel
theorem slotA : slotD nA = some 31 := by decide +kernel
theorem slot0 : slotD n0 = none := by decide +kernel
theorem slotF : slotD nF = none := by decide +kernel
theorem slotC : slotD nC = none := by decide +kernel
def fJ (nm : Bs) : FilV := ⟨nm, jnk, 0⟩
theorem app_new' {D : DskV} {nm s : Bs} (hd : D.dead = false) (hf : D.fuse = none) (hn : nm.length = 17) (hr : s.length ≤ D.room) (hl : D.fs.length < 1000) (hno : findF nm D.fs = none) : appD D nm s = ({ D with fs := putF ⟨nm, s, 0⟩ D.fs, room := D.room - s.length }, 0) := by
  unfold appD
  rw [hd, if_neg (by simp), if_neg (by rw [hn]; omega), if_neg (by omega), hno, hf]
  unfold DskV.more
  rw [hd, hf]
  rfl
/-- What lies on the disk: the files; room for more. -/
structure Kn (D : DskV) (fs : List FilV) (r : Nat) : Prop where
  dead : D.dead = false
  fuse : D.fuse = none
  fs : D.fs = fs
  room : r ≤ D.room
theorem kn_app {D : DskV} {fs : List FilV} {r : Nat} {nm s : Bs} (h : Kn D fs (r + s.length)) (hn : nm.length = 17) (hl : fs.length < 1000) (hno : findF nm fs = none) : ∃ D', appD D nm s = (D', 0) ∧ Kn D' (putF ⟨nm, s, 0⟩ fs) r := by
  refine ⟨_, app_new' h.dead h.fuse hn (by have := h.room; omega) (by rw [h.fs]; exact hl) (by rw [h.fs]; exact hno), h.dead, h.fuse, by show putF _ D.fs = _; rw [h.fs], ?_⟩
  show r ≤ D.room - s.length
  have := h.room
  omega
theorem lk_young (n : Nat) (nm s : Bs) : lkN (n, ⟨nm, s, 0⟩) = 0 := by
  unfold lkN lookD
  rw [if_pos rfl]
/-- The known files: the base, and its bytes. -/
def X7 : Bs := frL (insB 7 svn)
def f7 : FilV := ⟨n7, X7, X7.length⟩
theorem good7 : goodF 7 svn = f7 := by
  unfold goodF f7
  rw [bname7]
  rfl
theorem look7 : lookD 7 f7 = (1, svn) := by rw [← good7]; exact lk_good (by decide) (by decide)
theorem X7_len : X7.length ≤ 335 := (frI_len (slot := 7) (t := svn) (by decide)).1
def fs2 : List FilV := [fJ n0, f7, fJ nF, fJ nA, fJ nC]
def fs3 : List FilV := [fJ n0, f7, fJ nF, fJ nC]
theorem base2 : baseL fs2 = [(7, f7), (31, fJ nA)] := by
  unfold fs2 baseL
  have e0 : baseF (fJ n0) = none := by show (slotD n0).map _ = _; rw [slot0]; rfl
  have e7 : baseF f7 = some (7, f7) := by show (slotD n7).map _ = _; rw [slot7]; rfl
  have eF : baseF (fJ nF) = none := by show (slotD nF).map _ = _; rw [slotF]; rfl
  have eA : baseF (fJ nA) = some (31, fJ nA) := by show (slotD nA).map _ = _; rw [slotA]; rfl
  have eC : baseF (fJ nC) = none := by show (slotD nC).map _ = _; rw [slotC]; rfl
  simp only [List.filterMap_cons, e0, e7, eF, eA, eC, List.filterMap_nil]
theorem open2 : ¬ spoilt (baseL fs2) ∧ lastG (baseL fs2) = (7, svn) ∧ rmN (baseL fs2) = [nA] := by
  rw [base2]
  have k7 : lkN (7, f7) = 1 := by unfold lkN; rw [look7]
  have kA : lkN (31, fJ nA) = 0 := lk_young _ _ _
  refine ⟨fun hx => ?_, ?_, ?_⟩
  · obtain ⟨x, hx, h2⟩ := hx
    rcases List.mem_cons.1 hx with q | q
    · rw [q, k7] at h2; cases h2
    · rw [List.mem_singleton.1 q, kA] at h2; cases h2
  · have e : ([(7, f7), (31, fJ nA)] : BsF) = ([] ++ [(7, f7)]) ++ [(31, fJ nA)] := rfl
    rw [e, lastG_snoc, if_neg (by rw [kA]; decide), lastG_snoc, if_pos k7, look7]
  · have y : youngN [(7, f7), (31, fJ nA)] = [nA] := by unfold youngN; rw [List.filter_cons_of_neg (by simp [k7]), List.filter_cons_of_pos (by simp [kA])]; rfl
    have g : goodN [(7, f7), (31, fJ nA)] = [n7] := by unfold goodN; rw [List.filter_cons_of_pos (by simp [k7]), List.filter_cons_of_neg (by simp [kA])]; rfl
    unfold rmN
    rw [y, g]
    rfl
theorem kn_rem {D : DskV} {r : Nat} (h : Kn D fs2 r) : Kn (rems D [nA]) fs3 r := by
  have hf : findF nA D.fs = some (fJ nA) := by
    rw [h.fs]
    unfold fs2 findF
    rw [List.find?_cons_of_neg (by decide), List.find?_cons_of_neg (by decide), List.find?_cons_of_neg (by decide), List.find?_cons_of_pos (by decide)]
  rw [rems_cons, rem_one h.dead hf]
  refine ⟨h.dead, h.fuse, ?_, ?_⟩
  · show delF nA D.fs = fs3
    rw [h.fs]
    unfold fs2 delF
    rw [List.filter_cons_of_pos (by decide), List.filter_cons_of_pos (by decide), List.filter_cons_of_pos (by decide), List.filter_cons_of_neg (by decide), List.filter_cons_of_pos (by decide)]
    rfl
  · show r ≤ D.room + _
    have := h.room
    omega
def f9 : FilV := ⟨n9, X7, X7.length⟩
def fs4 : List FilV := [fJ n0, f7, ⟨n9, X7, 0⟩, fJ nF, fJ nC]
def fs5 : List FilV := [fJ n0, f7, f9, fJ nF, fJ nC]
theorem put9 (k : Nat) : putF ⟨n9, X7, k⟩ fs3 = [fJ n0, f7, ⟨n9, X7, k⟩, fJ nF, fJ nC] := by
  unfold fs3 putF
  rw [if_neg (show ¬ (fJ n0).nm = (FilV.mk n9 X7 k).nm from (by decide : ¬ n0 = n9)), if_neg (show ¬ (FilV.mk n9 X7 k).nm < (fJ n0).nm from (by decide : ¬ n9 < n0))]
  unfold putF
  rw [if_neg (show ¬ f7.nm = (FilV.mk n9 X7 k).nm from (by decide : ¬ n7 = n9)), if_neg (show ¬ (FilV.mk n9 X7 k).nm < f7.nm from (by decide : ¬ n9 < n7))]
  unfold putF
  rw [if_neg (show ¬ (fJ nF).nm = (FilV.mk n9 X7 k).nm from (by decide : ¬ nF = n9)), if_pos (show (FilV.mk n9 X7 k).nm < (fJ nF).nm from (by decide : n9 < nF))]
theorem kn_sync {D : DskV} {r : Nat} (h : Kn D fs4 r) : ∃ D', syncD D n9 = (D', 0) ∧ Kn D' fs5 r := by
  have hf : findF n9 D.fs = some ⟨n9, X7, 0⟩ := by
    rw [h.fs]
    unfold fs4 findF
    rw [List.find?_cons_of_neg (by decide), List.find?_cons_of_neg (by decide), List.find?_cons_of_pos (by decide)]
  refine ⟨{ D with fs := putF ⟨n9, X7, X7.length⟩ D.fs }, by unfold syncD; rw [with_some h.dead hf], h.dead, h.fuse, ?_, h.room⟩
  show putF _ D.fs = _
  rw [h.fs, show fs4 = putF ⟨n9, X7, 0⟩ fs3 from (put9 0).symm]
  show putF ⟨n9, X7, X7.length⟩ (putF ⟨n9, X7, 0⟩ fs3) = _
  rw [put_put (f := ⟨n9, X7, X7.length⟩) (g := ⟨n9, X7, 0⟩) rfl, put9]
  rfl
theorem spoilt5 : spoilt (baseL fs5) := by
  have e0 : baseF (fJ n0) = none := by show (slotD n0).map _ = _; rw [slot0]; rfl
  have e7 : baseF f7 = some (7, f7) := by show (slotD n7).map _ = _; rw [slot7]; rfl
  have e9 : baseF f9 = some (9, f9) := by show (slotD n9).map _ = _; rw [slot9]; rfl
  have eF : baseF (fJ nF) = none := by show (slotD nF).map _ = _; rw [slotF]; rfl
  have eC : baseF (fJ nC) = none := by show (slotD nC).map _ = _; rw [slotC]; rfl
  have hb : baseL fs5 = [(7, f7), (9, f9)] := by
    unfold fs5 baseL
    simp only [List.filterMap_cons, e0, e7, e9, eF, eC, List.filterMap_nil]
  rw [hb]
  refine ⟨(9, f9), by simp, ?_⟩
  unfold lkN
  have h := look_good (slot := 7) (n := 9) (t := svn) (by decide) (by decide) n9
  rw [if_pos (by decide)] at h
  show (lookD 9 f9).1 = 2
  rw [show f9 = ⟨n9, frL (insB 7 svn), (frL (insB 7 svn)).length⟩ from rfl, h]
/-- The known run, up to the first opening. -/
theorem known2 : ∃ D1 Da Db Dc Dd, saveB dsk0 (0, []) 7 svn = (D1, (7, svn), 0) ∧ Kn D1 [f7] 1000 ∧ appD D1 nA jnk = (Da, 0) ∧ appD Da n0 jnk = (Db, 0) ∧ appD Db nF jnk = (Dc, 0) ∧ appD Dc nC jnk = (Dd, 0) ∧ Kn Dd fs2 900 ∧ (∀ f ∈ fs2, f.nm.length ≤ maxLen) := by
  rcases save_sto sto0 (slot := 7) (t := svn) (by decide) (by decide) (by decide) with ⟨D1, e1, s1, n1⟩ | ⟨q, _⟩
  · have f1 : D1.fs = [f7] := by rw [s1.fs, ← good7]; rfl
    have k1 : Kn D1 [f7] 1000 := ⟨s1.dead, n1 rfl, f1, by
      have h2 := s1.sum
      rw [f1] at h2
      have h3 := X7_len
      have h4 : totF [f7] = X7.length := by show X7.length + 0 = _; omega
      omega⟩
    obtain ⟨Da, ea, ka⟩ := kn_app (r := 996) (nm := nA) (s := jnk) k1 rfl (by show 1 < 1000; decide) (by unfold findF; rw [List.find?_cons_of_neg (by decide)]; rfl)
    have pa : putF ⟨nA, jnk, 0⟩ [f7] = [f7, fJ nA] := by unfold putF; rw [if_neg (by decide), if_neg (by decide)]; rfl
    rw [pa] at ka
    obtain ⟨Db, eb, kb⟩ := kn_app (r := 992) (nm := n0) (s := jnk) ka rfl (by show 2 < 1000; decide) (by unfold findF; rw [List.find?_cons_of_neg (by decide), List.find?_cons_of_neg (by decide)]; rfl)
    have pb : putF ⟨n0, jnk, 0⟩ [f7, fJ nA] = [fJ n0, f7, fJ nA] := by unfold putF; rw [if_neg (by decide), if_pos (by decide)]; rfl
    rw [pb] at kb
    obtain ⟨Dc, ec, kc⟩ := kn_app (r := 988) (nm := nF) (s := jnk) kb rfl (by show 3 < 1000; decide) (by unfold findF; rw [List.find?_cons_of_neg (by decide), List.find?_cons_of_neg (by decide), List.find?_cons_of_neg (by decide)]; rfl)
    have pc : putF ⟨nF, jnk, 0⟩ [fJ n0, f7, fJ nA] = [fJ n0, f7, fJ nF, fJ nA] := by
      unfold putF; rw [if_neg (by decide), if_neg (by decide)]
      unfold putF; rw [if_neg (by decide), if_neg (by decide)]
      unfold putF; rw [if_neg (by decide), if_pos (by decide)]
      rfl
    rw [pc] at kc
    obtain ⟨Dd, ed, kd⟩ := kn_app (r := 984) (nm := nC) (s := jnk) kc rfl (by show 4 < 1000; decide) (by unfold findF; rw [List.find?_cons_of_neg (by decide), List.find?_cons_of_neg (by decide), List.find?_cons_of_neg (by decide), List.find?_cons_of_neg (by decide)]; rfl)
    have pd : putF ⟨nC, jnk, 0⟩ [fJ n0, f7, fJ nF, fJ nA] = fs2 := by
      unfold putF; rw [if_neg (by decide), if_neg (by decide)]
      unfold putF; rw [if_neg (by decide), if_neg (by decide)]
      unfold putF; rw [if_neg (by decide), if_neg (by decide)]
      unfold putF; rw [if_neg (by decide), if_neg (by decide)]
      rfl
    rw [pd] at kd
    exact ⟨D1, Da, Db, Dc, Dd, e1, k1, ea, eb, ec, ed, ⟨kd.dead, kd.fuse, kd.fs, by have := kd.room; omega⟩, by
      intro f hf
      unfold fs2 at hf
      simp only [List.mem_cons, List.not_mem_nil, or_false] at hf
      rcases hf with rfl | rfl | rfl | rfl | rfl <;> decide⟩
  · exact (q rfl).elim
end Go.Proofs.YtogfladmgbldcaaGreatDoor
namespace Go.Proofs.YtogfladmgbldcaaGreatDoor
open Go.RowKit Go.Shelf
/-- The blocks beside the disk: the elder ones, and a box. -/
def Ky (N a : Nat) (g : Nat) : Prop := g < N ∨ g = a
/-- A disk beside a box that holds a file. -/
structure KnI (N gx p bb : Nat) (w wr : World) (D : DskV) : Prop where
  bel : Below N w wr
  rx : wr.heap[gx]? = some (.cells #[.string ⟨n7.toArray⟩, .string ⟨X7.toArray⟩, .int .i64 (X7.length : Int)] 35 (0, 0))
  dk : DkK (Ky N gx) p bb D wr
  ord : N ≤ gx ∧ N ≤ w.heap.size
section
variable {N gx p bb : Nat} {w wr y : World} {D D' : DskV}
theorem KnI.lt (h : KnI N gx p bb w wr D) : ∀ g, Ky N gx g → g < wr.heap.size := fun g hg => by
  have h1 := (Array.getElem?_eq_some_iff.1 h.rx).1
  have h2 := h.ord
  rcases hg with q | q <;> omega
theorem KnI.holds (h : KnI N gx p bb w wr D) (hh : Holds (Ky N gx) wr y) (hs : DkK (Ky N gx) p bb D' y) : KnI N gx p bb w y D' :=
  ⟨h.bel.trans (hh.below (fun _ hg => .inl hg)), (hh.block gx (.inr rfl)).trans h.rx, hs, h.ord⟩
theorem KnI.below (h : KnI N gx p bb w wr D) (hb : Below wr.heap.size wr y) : KnI N gx p bb w y D := h.holds (Holds.of hb h.lt) (h.dk.below hb)
theorem KnI.app (h : KnI N gx p bb w wr D) (nm s : ByteArray) (hn : nm.size ≤ maxLen) (hs : s.size ≤ maxLen) (he : appD D nm.data.toList s.data.toList = (D', 0)) : Calls Tryz.prog 18 #[.pointer (some ⟨p, 0, none⟩), .string nm, .string s] wr fun e w' => e = .returned (.int .i64 0) ∧ KnI N gx p bb w w' D' := by
  have h2 := act_kdk (R := appD D nm.data.toList s.data.toList) (f := 18) (args := #[.pointer (some ⟨p, 0, none⟩), .string nm, .string s]) h.lt h.dk (fun m C L hd hl => append_any nm s hn hs wr hd hl)
  rw [he] at h2
  refine h2.mono ?_
  rintro e w' ⟨rfl, hs, hh⟩
  exact ⟨rfl, h.holds hh hs⟩
theorem KnI.syn (h : KnI N gx p bb w wr D) (nm : ByteArray) (hn : nm.size ≤ maxLen) (he : syncD D nm.data.toList = (D', 0)) : Calls Tryz.prog 20 #[.pointer (some ⟨p, 0, none⟩), .string nm] wr fun e w' => e = .returned (.int .i64 0) ∧ KnI N gx p bb w w' D' := by
  have h2 := act_kdk (R := syncD D nm.data.toList) (f := 20) (args := #[.pointer (some ⟨p, 0, none⟩), .string nm]) h.lt h.dk (fun m C L hd hl => sync_any nm hn wr hd)
  rw [he] at h2
  refine h2.mono ?_
  rintro e w' ⟨rfl, hs, hh⟩
  exact ⟨rfl, h.holds hh hs⟩
theorem KnI.opens {b : Nat × Bs} (h : KnI N gx p bb w wr D) (hlen : D.fs.length ≤ 1000000) (hnl : ∀ f ∈ D.fs, f.nm.length ≤ maxLen) (hv : PVB N w) (hdd : D.dead = false) (hs : ¬ spoilt (baseL D.fs)) (hg : lastG (baseL D.fs) = b) (hD : rems D (rmN (baseL D.fs)) = D') :
    Calls Tryz.prog 12 #[.pointer (some ⟨p, 0, none⟩)] wr fun e w' => ∃ S, e = .returned (.tuple #[.pointer (some ⟨S, 0, none⟩), .int .i64 0]) ∧ KnI N gx p bb w w' D' ∧ StoAt w' S p b := by
  obtain ⟨n, C, L, h1, h2⟩ := h.dk
  refine (open_any hlen hnl wr (hv.on h.bel).here h1 (fun g hg => (h2 g hg).2) hdd).mono ?_
  rintro e w' (⟨q, _⟩ | ⟨_, S, rfl, hst, hS, n', C', L', hd, ht, hl, hoff⟩)
  · exact (hs q).elim
  · rw [hg] at hst
    rw [hD] at hd
    refine ⟨S, rfl, h.holds (Holds.turns ht h.lt (fun g hg => (h2 g hg).1)) ⟨n', C', L', hd, fun g hg => ⟨fun q => ?_, (hl g hg).2⟩⟩, hst⟩
    rcases (hl g hg).1 with z | z
    · exact (h2 g z).1 q
    · have := h.lt g q
      omega
theorem KnI.halts (h : KnI N gx p bb w wr D) (hlen : D.fs.length ≤ 1000000) (hnl : ∀ f ∈ D.fs, f.nm.length ≤ maxLen) (hv : PVB N w) (hdd : D.dead = false) (hs : spoilt (baseL D.fs)) :
    Calls Tryz.prog 12 #[.pointer (some ⟨p, 0, none⟩)] wr fun e w' => e = .returned (.tuple #[.pointer none, .int .i64 10]) ∧ Below N w w' := by
  obtain ⟨n, C, L, h1, h2⟩ := h.dk
  refine (open_any hlen hnl wr (hv.on h.bel).here h1 (fun g hg => (h2 g hg).2) hdd).mono ?_
  rintro e w' (⟨_, rfl, hb⟩ | ⟨q, _⟩)
  · exact ⟨rfl, h.bel.trans (hb.mono (Nat.le_trans h.ord.2 h.bel.size))⟩
  · exact (q hs).elim
theorem KnI.files (h : KnI N gx p bb w wr D) {fs : List FilV} (hf : D.fs = fs) (hl : fs.length ≤ 1000) : Calls Tryz.prog 19 #[.pointer (some ⟨p, 0, none⟩)] wr fun e w' => ∃ A c, e = .returned (.slice A fs.length c) ∧ KnI N gx p bb w w' D := by
  refine (files_kdk (by rw [hf]; omega) h.dk).mono ?_
  rintro e w' ⟨v, rfl, ho, hb⟩
  rw [hf] at ho
  obtain ⟨A, c, rfl, _⟩ := files_row (N := fs.length) rfl ho
  exact ⟨A, c, rfl, h.below hb⟩
end
theorem St.kn {N S p bb : Nat} {D : DskV} {b : Nat × Bs} {w w4 y : World} (h : St N S p bb D b w4) (h0 : Below N w w4) (hN : N ≤ w.heap.size) (hb : Below w4.heap.size w4 y) (hr : y.heap[w4.heap.size]? = some (.cells #[.string ⟨n7.toArray⟩, .string ⟨X7.toArray⟩, .int .i64 (X7.length : Int)] 35 (0, 0))) : KnI N w4.heap.size p bb w y D :=
  ⟨h0.trans (hb.mono (Nat.le_trans hN h0.size)), hr, (h.mark hb (K := Ky N w4.heap.size) (fun g hg => by rcases hg with q | q; exact .inl q; exact .inr (by omega))).dk, Nat.le_trans hN h0.size, hN⟩
theorem read7 {D : DskV} (h : Kn D [f7] 1000) : readD D n7 = ((n7, X7, X7.length), 0) := by
  unfold readD
  rw [h.dead, h.fs]
  have e : findF n7 [f7] = some f7 := by unfold findF; rw [List.find?_cons_of_pos (by decide)]
  rw [e]
  rfl
theorem made_bytes (n : Nat) : madeCells #[.int .u8 0] n = (bcells (List.replicate n 0)).toArray := by
  apply Array.ext
  · simp [madeCells, bcells]
  · intro i h1 h2
    simp [madeCells, bcells, Nat.mod_one]
def fart : Bs := [102, 97, 114]
theorem frOk_long {slot : Nat} {t : Bs} (h : t.length = 65532) (hs : slot = 18446744073709551615) : ¬ frOk (insB slot t) := fun q => by
  have h2 := q.2
  unfold insB at h2
  rw [hs, h] at h2
  have e1 : (numL 18446744073709551615).length = 9 := by decide +kernel
  have e2 : (numL 65532).length = 3 := by decide +kernel
  simp only [List.length_append, e1, e2, h] at h2
  omega
set_option maxRecDepth 100000 in
set_option maxHeartbeats 16000000 in
theorem baseKnown_any {w : World} (hv0 : PV w) : Calls Tryz.prog 4 #[] w fun e w' => e = .returned (.bool true) ∧ Below w.heap.size w w' := by
  obtain ⟨N, hN⟩ : ∃ N, N = w.heap.size := ⟨_, rfl⟩
  have HW := Lib.hid (show PVB N w ∧ N ≤ w.heap.size from ⟨by rw [hN]; exact PVB.of hv0, by omega⟩)
  rw [← hN]
  clear hN hv0
  obtain ⟨D1, Da, Db, Dc, Dd, e1, k1, ea, eb, ec, ed, kd, kn⟩ := known2
  obtain ⟨De, hDe⟩ : ∃ De, De = rems Dd [nA] := ⟨_, rfl⟩
  have ke := kn_rem kd
  rw [← hDe] at ke
  obtain ⟨q1, q2, q3⟩ := open2
  have r7 := read7 k1
  obtain ⟨Df, ef, kf⟩ := kn_app (r := 500) (nm := n9) (s := X7) ⟨ke.dead, ke.fuse, ke.fs, by have := ke.room; have := X7_len; omega⟩ rfl (by show 4 < 1000; decide) (by unfold fs3 findF; rw [List.find?_cons_of_neg (by decide), List.find?_cons_of_neg (by decide), List.find?_cons_of_neg (by decide), List.find?_cons_of_neg (by decide)]; rfl)
  rw [put9] at kf
  obtain ⟨Dg, eg, kg⟩ := kn_sync kf
  obtain ⟨Dh, eh, sh, -⟩ : ∃ D1, saveB dsk0 (0, []) 18446744073709551615 fart = (D1, (18446744073709551615, fart), 0) ∧ Sto D1 (18446744073709551615, fart) ∧ D1.fuse = none := by
    rcases save_sto sto0 (slot := 18446744073709551615) (t := fart) (by decide) (by decide) (by decide) with ⟨D1, a, b, c⟩ | ⟨a, _⟩
    · exact ⟨D1, a, b, c rfl⟩
    · exact (a rfl).elim
  have o0 := open_sto sto0
  have Hnew := Lib.hid (fun (y : World) (hy : N ≤ y.heap.size) => new_dk N y hy)
  have Hop := Lib.hid (fun (p bb : Nat) (y : World) (hy : N ≤ y.heap.size) (hp : PV y) (h : Dk N p bb dsk0 y) => by have h2 := open_dk hy (by decide) (fun f hf => (by cases hf)) hp h rfl o0.1; rw [o0.2.1, o0.2.2] at h2; exact h2)
  have Hs1 := Lib.hid (fun (S p bb : Nat) (y : World) (hy : N ≤ y.heap.size) (hp : PVB N y) (h : St N S p bb dsk0 (0, []) y) => by have h2 := save_st hy 7 ⟨svn.toArray⟩ (by decide) (by decide) (by decide) hp h; rw [show saveB dsk0 (0, []) 7 (⟨svn.toArray⟩ : ByteArray).data.toList = _ from e1] at h2; exact (show Calls Tryz.prog 14 #[.pointer (some ⟨S, 0, none⟩), .int .u64 7, .string ⟨#[115, 101, 118, 101, 110]⟩] y (fun e w' => e = .returned (.int .i64 0) ∧ St N S p bb D1 (7, svn) w' ∧ Below N y w') from h2))
  have Hrd := Lib.hid (fun (S p bb : Nat) (y : World) (hy : N ≤ y.heap.size) (h : St N S p bb D1 (7, svn) y) => (show Calls Tryz.prog 17 #[.pointer (some ⟨p, 0, none⟩), .string ⟨#[98, 48, 48, 48, 48, 48, 48, 48, 48, 48, 48, 48, 48, 48, 48, 48, 55]⟩] y (fun e w' => e = .returned (.tuple #[.agg #[.string ⟨n7.toArray⟩, .string ⟨X7.toArray⟩, .int .i64 (X7.length : Int)], .int .i64 0]) ∧ St N S p bb D1 (7, svn) w' ∧ Below N y w') from by
    obtain ⟨n, C, L, h1, h2⟩ := h.dk
    refine (read_any ⟨n7.toArray⟩ (by decide) y h1).mono ?_
    rintro e w' ⟨rfl, hb⟩
    rw [show readD D1 (⟨n7.toArray⟩ : ByteArray).data.toList = _ from r7]
    exact ⟨rfl, h.below hb, hb.mono hy⟩))
  have HA := Lib.hid (And.intro ea (And.intro eb (And.intro ec ed)))
  have HE := Lib.hid (And.intro kd (And.intro kn (And.intro ke (And.intro q1 (And.intro q2 (And.intro q3 hDe))))))
  have HF := Lib.hid (And.intro ef (And.intro eg kg))
  have HS := Lib.hid (And.intro eh sh)
  have Hwk := Lib.hid wakes06_any
  clear e1 k1 ea eb ec ed kd kn hDe ke q1 q2 q3 r7 ef kf eg kg eh sh o0
  go_enter Tryz.func4, Tryz.ntmps4
  go_upto_region 5 with (first
    | (go_at_call 16; (with_reducible refine (Hnew.out _ HW.out.2).mono ?_); rintro e w1 ⟨p, bb, rfl, hd, hb⟩; have H1 := Lib.hid (And.intro hd (And.intro (HW.out.1.on hb) (Nat.le_trans HW.out.2 hb.size))); have HB1 := Lib.hid hb; clear hd hb)
    | (go_at_call 12; (with_reducible refine (Hop.out p bb _ H1.out.2.2 H1.out.2.1.here H1.out.1).mono ?_); rintro e w2 ⟨S, rfl, hd, hb⟩; have H2 := Lib.hid (And.intro hd (And.intro (H1.out.2.1.on hb) (Nat.le_trans H1.out.2.2 hb.size))); have HB2 := Lib.hid (HB1.out.trans hb); clear hd hb)
    | (go_at_call 14; (with_reducible refine (Hs1.out S p bb _ H2.out.2.2 H2.out.2.1 H2.out.1).mono ?_); rintro e w3 ⟨rfl, hd, hb⟩; have H3 := Lib.hid (And.intro hd (And.intro (H2.out.2.1.on hb) (Nat.le_trans H2.out.2.2 hb.size))); have HB3 := Lib.hid (HB2.out.trans hb); clear hd hb))
  obtain ⟨b7, hb7⟩ : ∃ b7 : ByteArray, b7 = ⟨X7.toArray⟩ := ⟨_, rfl⟩
  obtain ⟨x7, hx7⟩ : ∃ x7 : Nat, x7 = X7.length := ⟨_, rfl⟩
  have HX := Lib.hid (And.intro hb7 hx7)
  rw [← hb7, ← hx7] at Hrd
  clear hb7 hx7
  go_upto_region 6 with (go_at_call 17; (with_reducible refine (Hrd.out S p bb _ H3.out.2.2 H3.out.1).mono ?_); rintro e w4 ⟨rfl, hd, hb⟩; have H4 := Lib.hid (And.intro hd (And.intro (H3.out.2.1.on hb) (Nat.le_trans H3.out.2.2 hb.size))); have HB4 := Lib.hid (HB3.out.trans hb); clear hd hb)
  change Code.wp _ _ _ _ (w4.alloc (.cells #[.string ⟨n7.toArray⟩, .string b7, .int .i64 (x7 : Int)] 35))
  have hI : KnI N w4.heap.size p bb w (w4.alloc (.cells #[.string ⟨n7.toArray⟩, .string b7, .int .i64 (x7 : Int)] 35)) D1 := H4.out.1.kn HB4.out HW.out.2 ((Below.refl w4.heap.size w4).alloc (Nat.le_refl _) _) (by rw [HX.out.1, HX.out.2]; exact heap_alloc_new _ _)
  have HK0 := Lib.hid hI
  clear hI
  generalize w4.alloc (.cells #[.string ⟨n7.toArray⟩, .string b7, .int .i64 (x7 : Int)] 35) = w5 at *
  generalize w4.heap.size = gx at *
  clear Hs1 Hrd H1 H2 H3 H4 HB1 HB2 HB3 HB4
  have HAa := Lib.hid (fun (y : World) (h : KnI N gx p bb w y D1) => (show Calls Tryz.prog 18 #[.pointer (some ⟨p, 0, none⟩), .string ⟨#[98, 48, 48, 48, 48, 48, 48, 48, 48, 48, 48, 48, 48, 48, 48, 49, 102]⟩, .string ⟨#[106, 117, 110, 107]⟩] y (fun e w' => e = .returned (.int .i64 0) ∧ KnI N gx p bb w w' Da) from h.app ⟨nA.toArray⟩ ⟨jnk.toArray⟩ (by decide) (by decide) HA.out.1))
  have HAb := Lib.hid (fun (y : World) (h : KnI N gx p bb w y Da) => (show Calls Tryz.prog 18 #[.pointer (some ⟨p, 0, none⟩), .string ⟨#[98, 48, 48, 48, 48, 48, 48, 48, 48, 48, 48, 48, 48, 48, 48, 48, 48]⟩, .string ⟨#[106, 117, 110, 107]⟩] y (fun e w' => e = .returned (.int .i64 0) ∧ KnI N gx p bb w w' Db) from h.app ⟨n0.toArray⟩ ⟨jnk.toArray⟩ (by decide) (by decide) HA.out.2.1))
  have HAc := Lib.hid (fun (y : World) (h : KnI N gx p bb w y Db) => (show Calls Tryz.prog 18 #[.pointer (some ⟨p, 0, none⟩), .string ⟨#[98, 48, 48, 48, 48, 48, 48, 48, 48, 48, 48, 48, 48, 48, 48, 48, 70]⟩, .string ⟨#[106, 117, 110, 107]⟩] y (fun e w' => e = .returned (.int .i64 0) ∧ KnI N gx p bb w w' Dc) from h.app ⟨nF.toArray⟩ ⟨jnk.toArray⟩ (by decide) (by decide) HA.out.2.2.1))
  have HAd := Lib.hid (fun (y : World) (h : KnI N gx p bb w y Dc) => (show Calls Tryz.prog 18 #[.pointer (some ⟨p, 0, none⟩), .string ⟨#[99, 48, 48, 48, 48, 48, 48, 48, 48, 48, 48, 48, 48, 48, 48, 48, 49]⟩, .string ⟨#[106, 117, 110, 107]⟩] y (fun e w' => e = .returned (.int .i64 0) ∧ KnI N gx p bb w w' Dd) from h.app ⟨nC.toArray⟩ ⟨jnk.toArray⟩ (by decide) (by decide) HA.out.2.2.2))
  have HOp := Lib.hid (fun (y : World) (h : KnI N gx p bb w y Dd) => h.opens (D' := De) (b := (7, svn)) (by rw [HE.out.1.fs]; decide) (by rw [HE.out.1.fs]; exact HE.out.2.1) HW.out.1 HE.out.1.dead (by rw [HE.out.1.fs]; exact HE.out.2.2.2.1) (by rw [HE.out.1.fs]; exact HE.out.2.2.2.2.1) (by rw [HE.out.1.fs, HE.out.2.2.2.2.2.1, HE.out.2.2.2.2.2.2]))
  have HBa := Lib.hid (fun (S : Nat) (y : World) (h : KnI N gx p bb w y De ∧ StoAt y S p (7, svn)) => (show Calls Tryz.prog 13 #[.pointer (some ⟨S, 0, none⟩)] y (fun e w' => e = .returned (.tuple #[.int .u64 7, .string ⟨#[115, 101, 118, 101, 110]⟩, .bool true]) ∧ KnI N gx p bb w w' De) from by
    refine (base_any S p (7, svn) y h.2).mono ?_
    rintro e w' ⟨rfl, hb⟩
    exact ⟨rfl, h.1.below hb⟩))
  have HFi := Lib.hid (fun (y : World) (h : KnI N gx p bb w y De) => (show Calls Tryz.prog 19 #[.pointer (some ⟨p, 0, none⟩)] y (fun e w' => ∃ A c, e = .returned (.slice A 4 c) ∧ KnI N gx p bb w w' De) from h.files (fs := fs3) HE.out.2.2.1.fs (by decide)))
  have HA9 := Lib.hid (fun (y : World) (h : KnI N gx p bb w y De) => (show Calls Tryz.prog 18 #[.pointer (some ⟨p, 0, none⟩), .string ⟨#[98, 48, 48, 48, 48, 48, 48, 48, 48, 48, 48, 48, 48, 48, 48, 48, 57]⟩, .string b7] y (fun e w' => e = .returned (.int .i64 0) ∧ KnI N gx p bb w w' Df) from h.app ⟨n9.toArray⟩ b7 (by decide) (by rw [HX.out.1]; show X7.toArray.size ≤ _; rw [List.size_toArray]; have := X7_len; unfold maxLen; omega) (by rw [HX.out.1]; exact HF.out.1)))
  have HS9 := Lib.hid (fun (y : World) (h : KnI N gx p bb w y Df) => (show Calls Tryz.prog 20 #[.pointer (some ⟨p, 0, none⟩), .string ⟨#[98, 48, 48, 48, 48, 48, 48, 48, 48, 48, 48, 48, 48, 48, 48, 48, 57]⟩] y (fun e w' => e = .returned (.int .i64 0) ∧ KnI N gx p bb w w' Dg) from h.syn ⟨n9.toArray⟩ (by decide) HF.out.2.1))
  have HHa := Lib.hid (fun (y : World) (h : KnI N gx p bb w y Dg) => h.halts (by rw [HF.out.2.2.fs]; decide) (by
    rw [HF.out.2.2.fs]
    intro f hf
    unfold fs5 at hf
    simp only [List.mem_cons, List.not_mem_nil, or_false] at hf
    rcases hf with rfl | rfl | rfl | rfl | rfl <;> decide) HW.out.1 HF.out.2.2.dead (by rw [HF.out.2.2.fs]; exact spoilt5))
  go_upto_region 13 with (first
    | (go_at_call 18; (with_reducible refine (HAa.out _ HK0.out).mono ?_); rintro e wk1 ⟨rfl, hd⟩; have HK1 := Lib.hid hd; clear hd)
    | (go_at_call 18; (with_reducible refine (HAb.out _ HK1.out).mono ?_); rintro e wk2 ⟨rfl, hd⟩; have HK2 := Lib.hid hd; clear hd)
    | (go_at_call 18; (with_reducible refine (HAc.out _ HK2.out).mono ?_); rintro e wk3 ⟨rfl, hd⟩; have HK3 := Lib.hid hd; clear hd)
    | (go_at_call 18; (with_reducible refine (HAd.out _ HK3.out).mono ?_); rintro e wk4 ⟨rfl, hd⟩; have HK4 := Lib.hid hd; clear hd)
    | (go_at_call 12; (with_reducible refine (HOp.out _ HK4.out).mono ?_); rintro e wk5 ⟨S2, rfl, hd⟩; have HK5 := Lib.hid hd; clear hd)
    | (go_at_call 13; (with_reducible refine (HBa.out S2 _ HK5.out).mono ?_); rintro e wk6 ⟨rfl, hd⟩; have HK6 := Lib.hid hd; clear hd)
    | (go_at_call 19; (with_reducible refine (HFi.out _ HK6.out).mono ?_); rintro e wk7 ⟨A7, c7, rfl, hd⟩; have HK7 := Lib.hid hd; clear hd))
  have k1 : wk7.cell? ⟨gx, 1, none⟩ = some (.string b7) := by
    have h2 := cell_of_row _ _ 1 _ _ _ HK7.out.rx
    rw [HX.out.1]
    exact h2
  go_upto_region 16 with (first
    | (go_at_call 18; (with_reducible refine (HA9.out _ HK7.out).mono ?_); rintro e wk8 ⟨rfl, hd⟩; have HK8 := Lib.hid hd; clear hd)
    | (go_at_call 20; (with_reducible refine (HS9.out _ HK8.out).mono ?_); rintro e wk9 ⟨rfl, hd⟩; have HK9 := Lib.hid hd; clear hd)
    | (go_at_call 12; (with_reducible refine (HHa.out _ HK9.out).mono ?_); rintro e w15 ⟨rfl, hd⟩; have HB15 := Lib.hid hd; clear hd))
  clear k1
  clear HAa HAb HAc HAd HOp HBa HFi HA9 HS9 HHa HK0 HK1 HK2 HK3 HK4 HK5 HK6 HK7 HK8 HK9 HA HE HF
  have HN15 := Lib.hid (Nat.le_trans HW.out.2 HB15.out.size)
  go_upto_region 18 with (first
    | (go_at_call 16; (with_reducible refine (Hnew.out _ HN15.out).mono ?_); rintro e w16 ⟨p2, bb2, rfl, hd, hb⟩; have H16 := Lib.hid (And.intro hd (And.intro (HW.out.1.on (HB15.out.trans hb)) (Nat.le_trans HN15.out hb.size))); have HB16 := Lib.hid (HB15.out.trans hb); clear hd hb)
    | (go_at_call 12; (with_reducible refine (Hop.out p2 bb2 _ H16.out.2.2 H16.out.2.1.here H16.out.1).mono ?_); rintro e w17 ⟨S3, rfl, hd, hb⟩; have H17 := Lib.hid (And.intro hd (And.intro (H16.out.2.1.on hb) (Nat.le_trans H16.out.2.2 hb.size))); have HB17 := Lib.hid (HB16.out.trans hb); clear hd hb))
  obtain ⟨i0, hi0, hz0, hs0, hb0⟩ := info_parts info8
  obtain ⟨nn, hnn⟩ : ∃ nn : Nat, nn = 65525 := ⟨_, rfl⟩
  have HNN := Lib.hid hnn
  have hbm := (Below.refl w17.heap.size w17).alloc (Nat.le_refl _) (.cells (madeCells #[Value.int .u8 0] nn) 5)
  have hcv := (ReadB.cells w17 (List.replicate nn 0) 5 (madeCells #[Value.int .u8 0] nn) (made_bytes nn) nn).conv (P := Tryz.prog) (src := 42) (dst := 9) (e := 5) Tryz.underlying42 Tryz.underlying5 Tryz.underlying9
  rw [List.length_replicate] at hcv
  obtain ⟨lg, hlg⟩ : ∃ lg : ByteArray, lg = ⟨(List.replicate nn 0).toArray⟩ := ⟨_, rfl⟩
  rw [← hlg] at hcv
  have hls : lg.size = nn := by rw [hlg]; simp [ByteArray.size]
  have HLG := Lib.hid hls
  have HBM := Lib.hid hbm
  clear hlg hls hbm hnn
  go_upto_region 19 with (refine wpList_make_lc _ rfl _ _ 42 rfl 5 i0 (.int .u8 0) Tryz.underlying42 hi0 hz0 .i64 .i64 65525 65525 nn nn rfl rfl (by rw [HNN.out]; rfl) (by rw [HNN.out]; rfl) (Nat.le_refl _) (by rw [hb0, HNN.out]; decide) (by rw [HNN.out]; decide) ?_)
  change Code.wp _ _ _ _ (w17.alloc (.cells (madeCells #[Value.int .u8 0] nn) 5))
  have H18 := Lib.hid (And.intro (H17.out.1.below HBM.out) (And.intro (H17.out.2.1.on (HBM.out.mono H17.out.2.2)) (Nat.le_trans H17.out.2.2 HBM.out.size)))
  have HB18 := Lib.hid (HB17.out.trans (HBM.out.mono H17.out.2.2))
  generalize w17.alloc (.cells (madeCells #[Value.int .u8 0] nn) 5) = w18 at *
  clear hcv hi0 hz0 hs0 hb0 HBM
  have Hh := Lib.hid (fun (x : ByteArray) (hx : x.size = 65532) (S p bb : Nat) (y : World) (hy : N ≤ y.heap.size) (hp : PVB N y) (h : St N S p bb dsk0 (0, []) y) => (show Calls Tryz.prog 14 #[.pointer (some ⟨S, 0, none⟩), .int .u64 18446744073709551615, .string x] y (fun e w' => e = .returned (.int .i64 6) ∧ St N S p bb dsk0 (0, []) w' ∧ Below N y w') from by
    have h2 := save_st hy 18446744073709551615 x (by decide) (by decide) (by omega) hp h
    have h3 : saveB dsk0 (0, []) 18446744073709551615 x.data.toList = (dsk0, (0, []), 6) := by
      unfold saveB
      rw [if_neg (by decide), if_pos (frOk_long (by rw [str_len]; exact hx) rfl)]
    rw [h3] at h2
    exact h2))
  have Hi := Lib.hid (fun (S p bb : Nat) (y : World) (hy : N ≤ y.heap.size) (hp : PVB N y) (h : St N S p bb dsk0 (0, []) y) => (show Calls Tryz.prog 14 #[.pointer (some ⟨S, 0, none⟩), .int .u64 18446744073709551615, .string ⟨#[102, 97, 114]⟩] y (fun e w' => e = .returned (.int .i64 0) ∧ St N S p bb Dh (18446744073709551615, fart) w' ∧ Below N y w') from by
    have h2 := save_st hy 18446744073709551615 ⟨fart.toArray⟩ (by decide) (by decide) (by decide) hp h
    rw [show saveB dsk0 (0, []) 18446744073709551615 (⟨fart.toArray⟩ : ByteArray).data.toList = _ from HS.out.1] at h2
    exact h2))
  have Hj := Lib.hid (fun (S p bb : Nat) (y : World) (hy : N ≤ y.heap.size) (hp : PVB N y) (h : St N S p bb Dh (18446744073709551615, fart) y) => (show Calls Tryz.prog 14 #[.pointer (some ⟨S, 0, none⟩), .int .u64 18446744073709551615, .string ⟨#[102, 97, 114]⟩] y (fun e w' => e = .returned (.int .i64 2) ∧ St N S p bb Dh (18446744073709551615, fart) w' ∧ Below N y w') from by
    have h2 := save_st hy 18446744073709551615 ⟨fart.toArray⟩ (by decide) (by decide) (by decide) hp h
    have h3 : ∀ t, saveB Dh (18446744073709551615, fart) 18446744073709551615 t = (Dh, (18446744073709551615, fart), 2) := fun t => by unfold saveB; rw [if_pos (Nat.le_refl _)]
    rw [h3] at h2
    exact h2))
  have Hk := Lib.hid (fun (S p bb : Nat) (y : World) (hy : N ≤ y.heap.size) (hp : PVB N y) (h : St N S p bb Dh (18446744073709551615, fart) y) => (show Calls Tryz.prog 14 #[.pointer (some ⟨S, 0, none⟩), .int .u64 0, .string ⟨#[]⟩] y (fun e w' => e = .returned (.int .i64 2) ∧ St N S p bb Dh (18446744073709551615, fart) w' ∧ Below N y w') from by
    have h2 := save_st hy 0 ⟨#[]⟩ (by decide) (by decide) (by decide) hp h
    have h3 : ∀ t, saveB Dh (18446744073709551615, fart) 0 t = (Dh, (18446744073709551615, fart), 2) := fun t => by unfold saveB; rw [if_pos (Nat.zero_le _)]
    rw [h3] at h2
    exact h2))
  have hlz : lg.size = 65525 := HLG.out.trans HNN.out
  have hlsz : (lg ++ (⟨#[120, 120, 120, 120, 120, 120, 120]⟩ : ByteArray)).size = 65532 := by rw [ByteArray.size_append, hlz]; rfl
  have HLS := Lib.hid hlsz
  go_upto_region 20 with (first
    | (go_at_call 14; (with_reducible refine (Hh.out _ HLS.out S3 p2 bb2 _ H18.out.2.2 H18.out.2.1 H18.out.1).mono ?_); rintro e w19 ⟨rfl, hd, hb⟩; have H19 := Lib.hid (And.intro hd (And.intro (H18.out.2.1.on hb) (Nat.le_trans H18.out.2.2 hb.size))); have HB19 := Lib.hid (HB18.out.trans hb); clear hd hb)
    | (go_at_call 14; (with_reducible refine (Hi.out S3 p2 bb2 _ H19.out.2.2 H19.out.2.1 H19.out.1).mono ?_); rintro e w20 ⟨rfl, hd, hb⟩; have H20 := Lib.hid (And.intro hd (And.intro (H19.out.2.1.on hb) (Nat.le_trans H19.out.2.2 hb.size))); have HB20 := Lib.hid (HB19.out.trans hb); clear hd hb)
    | (go_at_call 14; (with_reducible refine (Hj.out S3 p2 bb2 _ H20.out.2.2 H20.out.2.1 H20.out.1).mono ?_); rintro e w21 ⟨rfl, hd, hb⟩; have H21 := Lib.hid (And.intro hd (And.intro (H20.out.2.1.on hb) (Nat.le_trans H20.out.2.2 hb.size))); have HB21 := Lib.hid (HB20.out.trans hb); clear hd hb))
  go_wp2_with (first
    | (go_at_call 14; (with_reducible refine (Hk.out S3 p2 bb2 _ H21.out.2.2 H21.out.2.1 H21.out.1).mono ?_); rintro e w22 ⟨rfl, hd, hb⟩; have H22 := Lib.hid (And.intro hd (And.intro (H21.out.2.1.on hb) (Nat.le_trans H21.out.2.2 hb.size))); have HB22 := Lib.hid (HB21.out.trans hb); clear hd hb)
    | (go_at_call 15; (with_reducible refine (Hwk.out _ H22.out.2.1.here).mono ?_); rintro e w23 ⟨rfl, hb⟩; have HB23 := Lib.hid (HB22.out.trans (hb.mono H22.out.2.2)); clear hb))
  go_ret
  exact ⟨rfl, HB23.out⟩
end Go.Proofs.YtogfladmgbldcaaGreatDoor
