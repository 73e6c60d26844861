/- Trees: split. Condition: few enough nodes that their number is an int. -/
import Derived.LaidEqlPtr
import Derived.Test.YtbckjgageofldaaGreatZLearnNil1
namespace Go.Proofs.YtbckjgageofldaaGreat
open Go.RowKit
theorem infoTree : ∃ j, Tryz.prog.info? 195 = some j ∧ j.size ≠ 0 := by
 have h : (Tryz.prog.info? 195).map (·.size) = some 7 := by kernel_rfl
 cases hj : Tryz.prog.info? 195 with
 | none => rw [hj] at h; cases h
 | some j => rw [hj] at h; simp only [Option.map_some, Option.some.injEq] at h; exact ⟨j, rfl, by omega⟩
theorem run_eql_nil_ptr {P : Program} (w : World) {tp te : TypeId} (b : Option Addr) (hp : P.underlying tp = some (.pointer te)) :
  (binOp .eql tp (.pointer none) (.pointer b)).run P w = .ok (.bool b.isNone) w := by
 have h : ∀ d : Nat, (Op.equalIn (d + 1) tp (.pointer none) (.pointer b)).run P w = .ok b.isNone w := fun d => by
  cases b <;> simp [Op.equalIn, run_underlying hp]
 have h2 : (Op.equal tp (.pointer none) (.pointer b)).run P w = .ok b.isNone w := h 9999
 simp only [binOp]
 simp only [Sem.run_bind, h2, Result.andThen_ok, Sem.run_pure]
theorem run_eql_ptr_nil {P : Program} (w : World) {tp te : TypeId} (b : Option Addr) (hp : P.underlying tp = some (.pointer te)) :
  (binOp .eql tp (.pointer b) (.pointer none)).run P w = .ok (.bool b.isNone) w := by
 have h : ∀ d : Nat, (Op.equalIn (d + 1) tp (.pointer b) (.pointer none)).run P w = .ok b.isNone w := fun d => by
  cases b <;> simp [Op.equalIn, run_underlying hp]
 have h2 : (Op.equal tp (.pointer b) (.pointer none)).run P w = .ok b.isNone w := h 9999
 simp only [binOp]
 simp only [Sem.run_bind, h2, Result.andThen_ok, Sem.run_pure]
theorem tr_same {S T : Tr} {w : World} (e : S.ptr = T.ptr) : (binOp .eql 32 (.pointer S.ptr) (.pointer T.ptr)).run Tryz.prog w = .ok (.bool true) w := by
 obtain ⟨j, hj, hz⟩ := infoTree
 have hu : Tryz.prog.underlying 32 = some (.pointer 195) := Tryz.underlying32
 rw [← e]
 cases hp : S.ptr with
 | none => exact run_eql_nil_ptr w none hu
 | some a => exact run_eql_ptr_same w a hu hj
theorem tr_other {S T : Tr} {w : World} (hS : TreeAt w S) (hT : TreeAt w T) (e : S.ptr ≠ T.ptr) : (binOp .eql 32 (.pointer S.ptr) (.pointer T.ptr)).run Tryz.prog w = .ok (.bool false) w := by
 obtain ⟨j, hj, hz⟩ := infoTree
 have hu : Tryz.prog.underlying 32 = some (.pointer 195) := Tryz.underlying32
 match S, T, hS, hT with
 | .nil, .nil, _, _ => exact absurd rfl e
 | .node b k v wt l r, .nil, _, _ => exact run_eql_ptr_nil w (some ⟨b, 0, none⟩) hu
 | .nil, .node b k v wt l r, _, _ => exact run_eql_nil_ptr w (some ⟨b, 0, none⟩) hu
 | .node b k v wt l r, .node b' k' v' wt' l' r', ⟨h1, _, _⟩, ⟨h2, _, _⟩ =>
  exact run_eql_ptr_other (a := ⟨b, 0, none⟩) (b := ⟨b', 0, none⟩) w hu hj hz (fun h => e (congrArg some h)) h1 h2
inductive Sh where
 | nil : Sh
 | node (k v : ByteArray) (wt : BitVec 64) (l r : Sh) : Sh
def Tr.sh : Tr → Sh
 | .nil => .nil
 | .node _ k v wt l r => .node k v wt l.sh r.sh
def Sh.split (key : ByteArray) : Sh → Sh × Sh
 | .nil => (.nil, .nil)
 | .node k v wt l r => if slt key k then ((l.split key).1, .node k v wt (l.split key).2 r) else if slt k key then (.node k v wt l (r.split key).1, (r.split key).2) else (l, r)
inductive Made (n : Nat) (T : Tr) : Tr → Prop
 | nil : Made n T .nil
 | old {S : Tr} : Sub S T → Made n T S
 | new {b : Nat} {k v : ByteArray} {wt : BitVec 64} {l r : Tr} : n ≤ b → Made n T l → Made n T r → Made n T (.node b k v wt l r)
theorem Made.up {n : Nat} {T U S : Tr} (h : Made n T S) (hs : Sub T U) : Made n U S := by
 induction h with
 | nil => exact .nil
 | old h => exact .old (h.trans hs)
 | new hb _ _ ih1 ih2 => exact .new hb ih1 ih2
def Tr.newc (n : Nat) : Tr → Nat
 | .nil => 0
 | .node b _ _ _ l r => if b < n then 0 else l.newc n + 1 + r.newc n
theorem Tr.Lo.newc {n : Nat} : ∀ {T : Tr}, T.Lo n → T.newc n = 0
 | .nil, _ => rfl
 | .node _ _ _ _ _ _, ⟨h, _, _⟩ => by simp [Tr.newc, h]
def Tr.has (key : ByteArray) (T : Tr) : Nat := if (T.find key).ptr = none then 0 else 1
theorem Tr.cnt_nil {T : Tr} : T.cnt = 0 ↔ T = .nil := by cases T <;> simp [Tr.cnt]
structure SplitPost (n : Nat) (key : ByteArray) (T : Tr) (w w' : World) (lo hi : Tr) : Prop where
 atLo : TreeAt w' lo
 atHi : TreeAt w' hi
 bel : Below w.heap.size w w'
 shp : T.sh.split key = (lo.sh, hi.sh)
 mLo : Made n T lo
 mHi : Made n T hi
 new : lo.newc n + hi.newc n ≤ T.dep
 num : lo.cnt + hi.cnt + T.has key = T.cnt
set_option maxRecDepth 100000 in
set_option maxHeartbeats 2000000 in
theorem split_any (key : ByteArray) (T : Tr) : ∀ (n : Nat) (w : World), n ≤ w.heap.size → T.Lo n → TreeAt w T → T.cnt ≤ 4611686018427387904 →
  Calls Tryz.prog 190 #[.pointer T.ptr, .string key] w fun e w' => ∃ lo hi, e = .returned (.tuple #[.pointer lo.ptr, .pointer (T.find key).ptr, .pointer hi.ptr]) ∧ SplitPost n key T w w' lo hi := by
 induction T with
 | nil =>
  intro n w _ _ _ _
  change Calls _ _ #[.pointer none, .string key] w _
  go_enter Tryz.func190, Tryz.ntmps190
  go_wp2_with fail
  refine bodyPost_ret (v := .tuple #[.pointer none, .pointer none, .pointer none]) (by simp [results, Tryz.results190, go_sem] <;> rfl) rfl ?_
  exact ⟨.nil, .nil, rfl, trivial, trivial, Below.refl _ _, rfl, .nil, .nil, Nat.le_refl _, rfl⟩
 | node b k v wt l r ihl ihr =>
  intro n w hn hlo hat hc
  obtain ⟨hb, hll, hlr⟩ := hlo
  have hcn : l.cnt + 1 + r.cnt ≤ 4611686018427387904 := hc
  have hat' := hat
  obtain ⟨hnode, hatl, hatr⟩ := hat
  obtain ⟨c0, c1, c2, c3, c4, c5, c6⟩ := hnode.cells
  clear c1 c2 c5 c6
  by_cases h1 : slt key k = true
  ·
   have h1' : Op.bytesLess key.toList k.toList = true := h1
   have hne : ¬ k = key := fun e => by rw [e, slt_irrefl] at h1; cases h1
   have hfind : (Tr.node b k v wt l r).find key = l.find key := by
    conv => lhs; unfold Tr.find
    rw [if_neg hne, if_pos h1]
   have hsh : (Tr.node b k v wt l r).sh.split key = ((l.sh.split key).1, .node k v wt (l.sh.split key).2 r.sh) := by
    simp only [Tr.sh]
    conv => lhs; unfold Sh.split
    rw [if_pos h1]
   have hhas : (Tr.node b k v wt l r).has key = l.has key := by unfold Tr.has; rw [hfind]
   rw [hfind]
   have hih := ihl n w hn hll hatl (by omega)
   have Hih := Lib.hid hih; clear hih ihl ihr
   have Hat := Lib.hid hat'; clear hat'
   have Hnode := Lib.hid hnode; clear hnode
   have Hatr := Lib.hid hatr; clear hatr
   have Hlr := Lib.hid hlr; clear hlr
   have Hll := Lib.hid hll; clear hll
   have Hatl := Lib.hid hatl; clear hatl
   have Hhas := Lib.hid hhas; clear hhas
   have Hsh := Lib.hid hsh; clear hsh hfind h1 hne
   change Calls _ _ #[.pointer (some ⟨b, 0, none⟩), .string key] w _
   go_enter Tryz.func190, Tryz.ntmps190
   go_upto_region 5 with ((with_reducible refine Hih.out.mono ?_); rintro e w1 ⟨lo, hi, rfl, hp⟩; have Hp := Lib.hid hp; clear hp)
   obtain ⟨d0, d1, d2, d3, d4, d5, d6⟩ := (Hnode.out.below Hp.out.bel).cells
   clear c0 c3 c4 d0 d1 d2 d5 d6 h1'
   by_cases hp : hi.ptr = l.ptr
   ·
    have hl : hi = l := TreeAt.uniq Hp.out.atHi (Hatl.out.below Hp.out.bel) hp
    have hnum := Hp.out.num
    rw [hl] at hnum
    have hlo0 : lo = .nil := Tr.cnt_nil.1 (by omega)
    have hhas0 : l.has key = 0 := by omega
    have hfd : (l.find key).ptr = none := by
     unfold Tr.has at hhas0
     split at hhas0
     ·
      assumption
     ·
      cases hhas0
    have Hf := Lib.hid hfd; clear hfd hnum
    have Hlo0 := Lib.hid hlo0; clear hlo0
    have Hhas0 := Lib.hid hhas0; clear hhas0
    have Hl := Lib.hid hl; clear hl
    have hcmp := tr_same (w := w1) hp
    clear hp
    go_wp2_with fail
    refine bodyPost_ret (v := .tuple #[.pointer none, .pointer none, .pointer (some ⟨b, 0, none⟩)]) (by simp [results, Tryz.results190, go_sem] <;> rfl) rfl ?_
    have hs := Hp.out.shp
    rw [Hlo0.out, Hl.out] at hs
    refine ⟨.nil, .node b k v wt l r, by rw [Hf.out]; rfl, trivial, Hat.out.below Hp.out.bel, Hp.out.bel, by rw [Hsh.out, hs]; rfl, .nil, .old (.refl _), ?_, by rw [Hhas.out, Hhas0.out]; simp [Tr.cnt]⟩
    rw [Tr.Lo.newc (show (Tr.node b k v wt l r).Lo n from ⟨hb, Hll.out, Hlr.out⟩)]
    exact Nat.zero_le _
   ·
    have hnum := Hp.out.num
    have Hw := Lib.hid (with_any hi r w1 (Hnode.out.below Hp.out.bel) Hp.out.atHi (Hatr.out.below Hp.out.bel) (by omega))
    clear hnum
    have hcmp := tr_other Hp.out.atHi (Hatl.out.below Hp.out.bel) hp
    clear hp
    go_wp2_with ((with_reducible refine Hw.out.mono ?_); rintro e w2 ⟨b', rfl, hb', hat2, hbel2⟩; have Hb' := Lib.hid hb'; clear hb'; have Hat2 := Lib.hid hat2; clear hat2; have Hbel2 := Lib.hid hbel2; clear hbel2 d3 d4)
    refine bodyPost_ret (v := .tuple #[.pointer lo.ptr, .pointer (l.find key).ptr, .pointer (some ⟨b', 0, none⟩)]) (by simp [results, Tryz.results190, go_sem] <;> rfl) rfl ?_
    have hs := Hp.out.shp
    have hnb : n ≤ b' := Nat.le_trans hn (Nat.le_trans Hp.out.bel.size Hb'.out)
    refine ⟨lo, .node b' k v wt hi r, rfl, Hp.out.atLo.below Hbel2.out, Hat2.out, Hp.out.bel.trans (Hbel2.out.mono Hp.out.bel.size), by rw [Hsh.out, hs]; rfl, Hp.out.mLo.up (.left (.refl _)), .new hnb (Hp.out.mHi.up (.left (.refl _))) (.old (.right (.refl _))), ?_, ?_⟩
    ·
     have h1 := Hp.out.new
     have h2 := Hlr.out.newc
     have h3 : ¬ b' < n := by omega
     simp only [Tr.newc, if_neg h3, h2, Tr.dep]
     omega
    ·
     have h1 := Hp.out.num
     rw [Hhas.out]
     simp only [Tr.cnt]
     omega
  ·
   by_cases h2 : slt k key = true
   ·
    have h2' : Op.bytesLess key.toList k.toList = false := slt_asymm h2
    have hne : ¬ k = key := slt_ne h2
    have hnt := txt_ne (fun e : key = k => hne e.symm)
    have h1' : Op.bytesLess key.toList k.toList = false := by simpa [slt] using h1
    have hfind : (Tr.node b k v wt l r).find key = r.find key := by
     conv => lhs; unfold Tr.find
     rw [if_neg hne, if_neg h1]
    have hsh : (Tr.node b k v wt l r).sh.split key = (.node k v wt l.sh (r.sh.split key).1, (r.sh.split key).2) := by
     simp only [Tr.sh]
     conv => lhs; unfold Sh.split
     rw [if_neg h1, if_pos h2]
    have hhas : (Tr.node b k v wt l r).has key = r.has key := by unfold Tr.has; rw [hfind]
    rw [hfind]
    have hih := ihr n w hn hlr hatr (by omega)
    have Hih := Lib.hid hih; clear hih ihl ihr
    have Hat := Lib.hid hat'; clear hat'
    have Hnode := Lib.hid hnode; clear hnode
    have Hatr := Lib.hid hatr; clear hatr
    have Hlr := Lib.hid hlr; clear hlr
    have Hll := Lib.hid hll; clear hll
    have Hatl := Lib.hid hatl; clear hatl
    have Hhas := Lib.hid hhas; clear hhas
    have Hsh := Lib.hid hsh; clear hsh hfind h1 hne h2 h1'
    change Calls _ _ #[.pointer (some ⟨b, 0, none⟩), .string key] w _
    go_enter Tryz.func190, Tryz.ntmps190
    go_upto_region 10 with ((with_reducible refine Hih.out.mono ?_); rintro e w1 ⟨lo, hi, rfl, hp⟩; have Hp := Lib.hid hp; clear hp)
    obtain ⟨d0, d1, d2, d3, d4, d5, d6⟩ := (Hnode.out.below Hp.out.bel).cells
    clear c0 c3 c4 d0 d1 d2 d5 d6 h2' hnt
    by_cases hp : lo.ptr = r.ptr
    ·
     have hl : lo = r := TreeAt.uniq Hp.out.atLo (Hatr.out.below Hp.out.bel) hp
     have hnum := Hp.out.num
     rw [hl] at hnum
     have hlo0 : hi = .nil := Tr.cnt_nil.1 (by omega)
     have hhas0 : r.has key = 0 := by omega
     have hfd : (r.find key).ptr = none := by
      unfold Tr.has at hhas0
      split at hhas0
      ·
       assumption
      ·
       cases hhas0
     have Hf := Lib.hid hfd; clear hfd hnum
     have Hhi0 := Lib.hid hlo0; clear hlo0
     have Hhas0 := Lib.hid hhas0; clear hhas0
     have Hl := Lib.hid hl; clear hl
     have hcmp := tr_same (w := w1) hp
     clear hp
     go_wp2_with fail
     refine bodyPost_ret (v := .tuple #[.pointer (some ⟨b, 0, none⟩), .pointer none, .pointer none]) (by simp [results, Tryz.results190, go_sem] <;> rfl) rfl ?_
     have hs := Hp.out.shp
     rw [Hhi0.out, Hl.out] at hs
     refine ⟨.node b k v wt l r, .nil, by rw [Hf.out]; rfl, Hat.out.below Hp.out.bel, trivial, Hp.out.bel, by rw [Hsh.out, hs]; rfl, .old (.refl _), .nil, ?_, by rw [Hhas.out, Hhas0.out]; simp [Tr.cnt]⟩
     rw [Tr.Lo.newc (show (Tr.node b k v wt l r).Lo n from ⟨hb, Hll.out, Hlr.out⟩)]
     exact Nat.zero_le _
    ·
     have hnum := Hp.out.num
     have Hw := Lib.hid (with_any l lo w1 (Hnode.out.below Hp.out.bel) (Hatl.out.below Hp.out.bel) Hp.out.atLo (by omega))
     clear hnum
     have hcmp := tr_other Hp.out.atLo (Hatr.out.below Hp.out.bel) hp
     clear hp
     go_wp2_with ((with_reducible refine Hw.out.mono ?_); rintro e w2 ⟨b', rfl, hb', hat2, hbel2⟩; have Hb' := Lib.hid hb'; clear hb'; have Hat2 := Lib.hid hat2; clear hat2; have Hbel2 := Lib.hid hbel2; clear hbel2 d3 d4)
     refine bodyPost_ret (v := .tuple #[.pointer (some ⟨b', 0, none⟩), .pointer (r.find key).ptr, .pointer hi.ptr]) (by simp [results, Tryz.results190, go_sem] <;> rfl) rfl ?_
     have hs := Hp.out.shp
     have hnb : n ≤ b' := Nat.le_trans hn (Nat.le_trans Hp.out.bel.size Hb'.out)
     refine ⟨.node b' k v wt l lo, hi, rfl, Hat2.out, Hp.out.atHi.below Hbel2.out, Hp.out.bel.trans (Hbel2.out.mono Hp.out.bel.size), by rw [Hsh.out, hs]; rfl, .new hnb (.old (.left (.refl _))) (Hp.out.mLo.up (.right (.refl _))), Hp.out.mHi.up (.right (.refl _)), ?_, ?_⟩
     ·
      have h1 := Hp.out.new
      have h2 := Hll.out.newc
      have h3 : ¬ b' < n := by omega
      simp only [Tr.newc, if_neg h3, h2, Tr.dep]
      omega
     ·
      have h1 := Hp.out.num
      rw [Hhas.out]
      simp only [Tr.cnt]
      omega
   ·
    have h1' : Op.bytesLess key.toList k.toList = false := by simpa [slt] using h1
    have he : k = key := (slt_total (by simpa [slt] using h1') (by simpa using h2)).symm
    subst he
    have hfind : (Tr.node b k v wt l r).find k = .node b k v wt l r := by unfold Tr.find; rw [if_pos rfl]
    have hsh : (Tr.node b k v wt l r).sh.split k = (l.sh, r.sh) := by
     simp only [Tr.sh]
     conv => lhs; unfold Sh.split
     rw [if_neg h1, if_neg h1]
    have hhas : (Tr.node b k v wt l r).has k = 1 := by unfold Tr.has; rw [hfind]; rfl
    rw [hfind]
    have Hsh := Lib.hid hsh; clear hsh
    have Hhas := Lib.hid hhas; clear hhas
    have Hat := Lib.hid hat'; clear hat'
    have Hatl := Lib.hid hatl; clear hatl
    have Hatr := Lib.hid hatr; clear hatr
    have Hll := Lib.hid hll; clear hll
    have Hlr := Lib.hid hlr; clear hlr
    clear h1 h2 hfind hnode ihl ihr
    change Calls _ _ #[.pointer (some ⟨b, 0, none⟩), .string k] w _
    go_enter Tryz.func190, Tryz.ntmps190
    go_wp2_with fail
    go_quiet (fail)
    go_wp2_with fail
    refine bodyPost_ret (v := .tuple #[.pointer l.ptr, .pointer (some ⟨b, 0, none⟩), .pointer r.ptr]) (by simp [results, Tryz.results190, go_sem] <;> rfl) rfl ?_
    have hbd : Below w.heap.size w (w.drewN nq) := ⟨rfl, rfl, rfl, Nat.le_refl _, fun _ _ => rfl⟩
    refine ⟨l, r, rfl, Hatl.out.below hbd, Hatr.out.below hbd, hbd, Hsh.out, .old (.left (.refl _)), .old (.right (.refl _)), by rw [Hll.out.newc, Hlr.out.newc]; exact Nat.zero_le _, by rw [Hhas.out]; simp only [Tr.cnt]; omega⟩
end Go.Proofs.YtbckjgageofldaaGreat
namespace Go.Proofs.YtbckjgageofldaaGreat
open Go.RowKit
def KeptW (w y : World) : Prop := Below w.heap.size w y
theorem KeptW.mono {w y y' : World} (h : KeptW w y) (hb : Below y.heap.size y y') : KeptW w y' := Below.trans h (Below.mono hb (Below.size h))
theorem KeptW.bel {w y : World} (h : KeptW w y) : Below w.heap.size w y := h
theorem Sub.nil : ∀ T : Tr, Sub .nil T
 | .nil => .refl _
 | .node _ _ _ _ l _ => .left (Sub.nil l)
def Sh.join : Sh → Sh → Sh
 | .nil, b => b
 | .node k v wt l r, .nil => .node k v wt l r
 | .node k v wt l r, .node k' v' wt' l' r' => if aboveB wt k wt' k' then .node k v wt l (Sh.join r (.node k' v' wt' l' r')) else .node k' v' wt' (Sh.join (.node k v wt l r) l') r'
termination_by a b => SizeOf.sizeOf a + SizeOf.sizeOf b
theorem Sh.nil_join (b : Sh) : Sh.join .nil b = b := by rw [Sh.join]
theorem Sh.join_nil (a : Sh) : Sh.join a .nil = a := by cases a <;> rw [Sh.join]
structure JoinPost (n : Nat) (T L H : Tr) (w w' : World) (J : Tr) : Prop where
 at_ : TreeAt w' J
 bel : Below w.heap.size w w'
 shp : J.sh = Sh.join L.sh H.sh
 mad : Made n T J
 new : J.newc n ≤ J.dep
 num : J.cnt = L.cnt + H.cnt
set_option maxRecDepth 100000 in
set_option maxHeartbeats 2000000 in
theorem join_any (T : Tr) : ∀ (m : Nat) (L H : Tr), L.cnt + H.cnt ≤ m → ∀ (n : Nat) (w : World), n ≤ w.heap.size → L.Lo n → H.Lo n → TreeAt w L → TreeAt w H → Sub L T → Sub H T → m ≤ 4611686018427387904 →
  Calls Tryz.prog 194 #[.pointer L.ptr, .pointer H.ptr] w fun e w' => ∃ J, e = .returned (.pointer J.ptr) ∧ JoinPost n T L H w w' J := by
 intro m
 induction m with
 | zero =>
  intro L H hm n w hn hlL hlH hatL hatH hsL hsH hmm
  have e1 : L = .nil := Tr.cnt_nil.1 (by omega)
  have e2 : H = .nil := Tr.cnt_nil.1 (by omega)
  subst e1 e2
  change Calls _ _ #[.pointer none, .pointer none] w _
  go_enter Tryz.func194, Tryz.ntmps194
  go_wp2_with fail
  go_ret
  exact ⟨.nil, rfl, trivial, Below.refl _ _, (Sh.nil_join _).symm, .nil, Nat.le_refl _, rfl⟩
 | succ m ih =>
  intro L H hm n w hn hlL hlH hatL hatH hsL hsH hmm
  match L, hm, hlL, hatL, hsL with
  | .nil, hm, hlL, hatL, hsL =>
   change Calls _ _ #[.pointer none, .pointer H.ptr] w _
   have HH := Lib.hid hatH; clear hatH ih
   go_enter Tryz.func194, Tryz.ntmps194
   go_wp2_with fail
   go_ret
   exact ⟨H, rfl, HH.out, Below.refl _ _, (Sh.nil_join _).symm, .old hsH, by rw [hlH.newc]; exact Nat.zero_le _, by simp [Tr.cnt]⟩
  | .node b k v wt l r, hm, hlL, hatL, hsL =>
  match H, hm, hlH, hatH, hsH with
  | .nil, hm, hlH, hatH, hsH =>
   have HL := Lib.hid hatL; clear hatL ih
   change Calls _ _ #[.pointer (some ⟨b, 0, none⟩), .pointer none] w _
   go_enter Tryz.func194, Tryz.ntmps194
   go_wp2_with fail
   go_ret
   exact ⟨.node b k v wt l r, rfl, HL.out, Below.refl _ _, (Sh.join_nil _).symm, .old hsL, by rw [hlL.newc]; exact Nat.zero_le _, by simp [Tr.cnt]⟩
  | .node b' k' v' wt' l' r', hm, hlH, hatH, hsH =>
  have hab := above_any w hatL.1 hatH.1
  obtain ⟨ab, hab'⟩ : ∃ ab, aboveB wt k wt' k' = ab := ⟨_, rfl⟩
  rw [hab'] at hab
  simp only [Tr.cnt] at hm
  have HatL := Lib.hid hatL; clear hatL
  have HatH := Lib.hid hatH; clear hatH
  have HlL := Lib.hid hlL; clear hlL
  have HlH := Lib.hid hlH; clear hlH
  have HsL := Lib.hid hsL; clear hsL
  have HsH := Lib.hid hsH; clear hsH
  have Hih := Lib.hid ih; clear ih
  have Hab := Lib.hid hab; clear hab
  change Calls _ _ #[.pointer (some ⟨b, 0, none⟩), .pointer (some ⟨b', 0, none⟩)] w _
  go_enter Tryz.func194, Tryz.ntmps194
  cases ab with
  | true =>
   go_upto_region 6 with ((with_reducible refine Hab.out.mono ?_); rintro e w1 ⟨rfl, hb1⟩; have Hb1 := Lib.hid hb1; clear hb1)
   have hkd : KeptW w1 w1.drew := ⟨rfl, rfl, rfl, Nat.le_refl _, fun _ _ => rfl⟩
   have Hkd := Lib.hid hkd; clear hkd
   refine RegR.wp_region_can (KeptW w1) [(0, 0), (1, 0), (2, 0), (3, 0), (4, 0), (5, 0), (6, 0), (7, 0), (8, 0), (9, 0), (10, 1), (11, 1), (12, 0)] (by kernel_rfl) (by kernel_rfl) (fun _ _ d _ _ h => by cases d <;> exact h) Hkd.out ?_
   dsimp only [RegR.pick, List.getElem?_cons_zero, List.getElem?_cons_succ]
   iterate 4 (refine RegR.can_reads (fun K hK => ?_); go_simp; refine ⟨_, fun _ _ => rfl, hK _ ?_⟩; clear hK K)
   refine RegR.can_reads (fun K hK => ?_)
   go_simp
   refine ⟨.pointer l.ptr, fun y hy => ?_, hK _ ?_⟩
   ·
    obtain ⟨f0, f1, f2, f3, f4, f5, f6⟩ := ((HatL.out.1.below Hb1.out).below hy).cells
    clear f0 f1 f2 f5 f6
    go_simp
   clear hK K
   iterate 3 (refine RegR.can_reads (fun K hK => ?_); go_simp; refine ⟨_, fun _ _ => rfl, hK _ ?_⟩; clear hK K)
   refine RegR.can_reads (fun K hK => ?_)
   go_simp
   refine ⟨.pointer r.ptr, fun y hy => ?_, hK _ ?_⟩
   ·
    obtain ⟨f0, f1, f2, f3, f4, f5, f6⟩ := ((HatL.out.1.below Hb1.out).below hy).cells
    clear f0 f1 f2 f5 f6
    go_simp
   clear hK K
   iterate 1 (refine RegR.can_reads (fun K hK => ?_); go_simp; refine ⟨_, fun _ _ => rfl, hK _ ?_⟩; clear hK K)
   refine RegR.can_turns (fun K K0 hK hK0 => ?_)
   go_simp
   refine (Hih.out r (.node b' k' v' wt' l' r') (by simp only [Tr.cnt]; omega) n w1.drew (Nat.le_trans hn Hb1.out.size) HlL.out.2.2 HlH.out (HatL.out.2.2.below Hb1.out).drew (HatH.out.below Hb1.out).drew (.trans (.right (.refl _)) HsL.out) HsH.out (by omega)).mono ?_
   rintro e w2 ⟨J, rfl, hj⟩
   refine hK _ _ (Hkd.out.mono hj.bel) ?_
   clear hK hK0 K K0
   have Hk2 := Lib.hid (Hkd.out.mono hj.bel)
   have Hj := Lib.hid hj; clear hj
   have hcnt := Hj.out.num
   simp only [Tr.cnt] at hcnt
   refine RegR.can_turns (fun K K0 hK hK0 => ?_)
   go_simp
   refine (with_any l J w2 ((HatL.out.1.below Hb1.out).below Hk2.out) ((HatL.out.2.1.below Hb1.out).below Hk2.out) Hj.out.at_ (by omega)).mono ?_
   rintro e w3 ⟨b2, rfl, hb2, hat3, hbel3⟩
   refine hK _ _ (Hk2.out.mono hbel3) ?_
   clear hK hK0 K K0
   have Hat3 := Lib.hid hat3; clear hat3
   have Hbel3 := Lib.hid hbel3; clear hbel3
   have Hk3 := Lib.hid (Hb1.out.trans ((Hk2.out.mono Hbel3.out).bel.mono Hb1.out.size))
   iterate 1 (refine RegR.can_reads (fun K hK => ?_); go_simp; refine ⟨_, fun _ _ => rfl, hK _ ?_⟩; clear hK K)
   refine RegR.can_nil ?_
   go_wp2_with fail
   go_ret
   have hnb : n ≤ b2 := Nat.le_trans hn (Nat.le_trans Hb1.out.size (Nat.le_trans Hk2.out.size hb2))
   refine ⟨.node b2 k v wt l J, rfl, Hat3.out, Hk3.out, ?_, .new hnb (.old (.trans (.left (.refl _)) HsL.out)) Hj.out.mad, ?_, ?_⟩
   ·
    have hs := Hj.out.shp
    simp only [Tr.sh] at hs ⊢
    rw [Sh.join, if_pos hab', hs]
   ·
    have h1 := Hj.out.new
    have h2 := HlL.out.2.1.newc
    have h3 : ¬ b2 < n := by omega
    simp only [Tr.newc, if_neg h3, h2, Tr.dep]
    omega
   ·
    simp only [Tr.cnt]
    omega
  | false =>
   go_upto_region 7 with ((with_reducible refine Hab.out.mono ?_); rintro e w1 ⟨rfl, hb1⟩; have Hb1 := Lib.hid hb1; clear hb1)
   have hkd : KeptW w1 w1.drew := ⟨rfl, rfl, rfl, Nat.le_refl _, fun _ _ => rfl⟩
   have Hkd := Lib.hid hkd; clear hkd
   refine RegR.wp_region_can (KeptW w1) [(0, 0), (1, 0), (2, 0), (3, 0), (4, 0), (5, 0), (7, 0), (8, 0), (9, 0), (10, 0), (6, 1), (11, 1), (12, 0)] (by kernel_rfl) (by kernel_rfl) (fun _ _ d _ _ h => by cases d <;> exact h) Hkd.out ?_
   dsimp only [RegR.pick, List.getElem?_cons_zero, List.getElem?_cons_succ]
   iterate 5 (refine RegR.can_reads (fun K hK => ?_); go_simp; refine ⟨_, fun _ _ => rfl, hK _ ?_⟩; clear hK K)
   refine RegR.can_reads (fun K hK => ?_)
   go_simp
   refine ⟨.pointer l'.ptr, fun y hy => ?_, hK _ ?_⟩
   ·
    obtain ⟨f0, f1, f2, f3, f4, f5, f6⟩ := ((HatH.out.1.below Hb1.out).below hy).cells
    clear f0 f1 f2 f5 f6
    go_simp
   clear hK K
   iterate 3 (refine RegR.can_reads (fun K hK => ?_); go_simp; refine ⟨_, fun _ _ => rfl, hK _ ?_⟩; clear hK K)
   refine RegR.can_reads (fun K hK => ?_)
   go_simp
   refine ⟨.pointer r'.ptr, fun y hy => ?_, hK _ ?_⟩
   ·
    obtain ⟨f0, f1, f2, f3, f4, f5, f6⟩ := ((HatH.out.1.below Hb1.out).below hy).cells
    clear f0 f1 f2 f5 f6
    go_simp
   clear hK K
   refine RegR.can_turns (fun K K0 hK hK0 => ?_)
   go_simp
   refine (Hih.out (.node b k v wt l r) l' (by simp only [Tr.cnt]; omega) n w1.drew (Nat.le_trans hn Hb1.out.size) HlL.out HlH.out.2.1 (HatL.out.below Hb1.out).drew (HatH.out.2.1.below Hb1.out).drew HsL.out (.trans (.left (.refl _)) HsH.out) (by omega)).mono ?_
   rintro e w2 ⟨J, rfl, hj⟩
   refine hK _ _ (Hkd.out.mono hj.bel) ?_
   clear hK hK0 K K0
   have Hk2 := Lib.hid (Hkd.out.mono hj.bel)
   have Hj := Lib.hid hj; clear hj
   have hcnt := Hj.out.num
   simp only [Tr.cnt] at hcnt
   refine RegR.can_turns (fun K K0 hK hK0 => ?_)
   go_simp
   refine (with_any J r' w2 ((HatH.out.1.below Hb1.out).below Hk2.out) Hj.out.at_ ((HatH.out.2.2.below Hb1.out).below Hk2.out) (by omega)).mono ?_
   rintro e w3 ⟨b2, rfl, hb2, hat3, hbel3⟩
   refine hK _ _ (Hk2.out.mono hbel3) ?_
   clear hK hK0 K K0
   have Hat3 := Lib.hid hat3; clear hat3
   have Hbel3 := Lib.hid hbel3; clear hbel3
   have Hk3 := Lib.hid (Hb1.out.trans ((Hk2.out.mono Hbel3.out).bel.mono Hb1.out.size))
   iterate 1 (refine RegR.can_reads (fun K hK => ?_); go_simp; refine ⟨_, fun _ _ => rfl, hK _ ?_⟩; clear hK K)
   refine RegR.can_nil ?_
   go_wp2_with fail
   go_ret
   have hnb : n ≤ b2 := Nat.le_trans hn (Nat.le_trans Hb1.out.size (Nat.le_trans Hk2.out.size hb2))
   refine ⟨.node b2 k' v' wt' J r', rfl, Hat3.out, Hk3.out, ?_, .new hnb Hj.out.mad (.old (.trans (.right (.refl _)) HsH.out)), ?_, ?_⟩
   ·
    have hs := Hj.out.shp
    simp only [Tr.sh] at hs ⊢
    rw [Sh.join, if_neg (by rw [hab']; exact Bool.false_ne_true), hs]
   ·
    have h1 := Hj.out.new
    have h2 := HlH.out.2.2.newc
    have h3 : ¬ b2 < n := by omega
    simp only [Tr.newc, if_neg h3, h2, Tr.dep]
    omega
   ·
    simp only [Tr.cnt]
    omega
end Go.Proofs.YtbckjgageofldaaGreat
