/- The state of keys: the deeds, Do. Condition: few enough keys that their number is an int. -/
import Derived.Test.YtbckjgageofldaaGreatZLearnNil9
import Derived.WalkKit
import Derived.Deep.Slices
import Derived.Deep.Fields
import Derived.ChangeSame
import Derived.Below
import Derived.Test.YtbckjgageofldaaGreatZLearnNil8
namespace Go.Proofs.YtbckjgageofldaaGreat
open Go.RowKit
def fnV (f : Nat) : Value := .func (.func f) #[] #[]
def deedsL : List (UInt8 × Value) := [(1, fnV 168), (2, fnV 169), (3, fnV 170), (4, fnV 171)]
def deedOf (k : UInt8) : Option Value := if k = 1 then some (fnV 168) else if k = 2 then some (fnV 169) else if k = 3 then some (fnV 170) else if k = 4 then some (fnV 171) else none
theorem deeds_get (k : UInt8) : mget deedsL k = deedOf k := by
 unfold deedOf mget deedsL
 by_cases h1 : k = 1
 ·
  subst h1; rfl
 by_cases h2 : k = 2
 ·
  subst h2; rfl
 by_cases h3 : k = 3
 ·
  subst h3; rfl
 by_cases h4 : k = 4
 ·
  subst h4; rfl
 simp [h1, h2, h3, h4, eq_comm]
theorem zDeed (w : World) : (zeroValue 233).run Tryz.prog w = .ok .nilFunc w := by
 go_simp
set_option maxRecDepth 100000 in
set_option maxHeartbeats 2000000 in
theorem deeds_any (w : World) : Calls Tryz.prog 143 #[] w fun e w' => e = .returned (.map (some w.heap.size)) ∧ MapAt kKind w' w.heap.size deedsL ∧ Below w.heap.size w w' := by
 have hm0 := MapAt.made kKind w
 have hb0 : Below w.heap.size w (w.alloc (.map #[] 0)) := (Below.refl _ _).alloc (Nat.le_refl _) _
 generalize hw0 : w.alloc (.map #[] 0) = w0 at *
 have hb : ∀ {x y : World}, Below w.heap.size w x → x.grownBy y (some w.heap.size) → Below w.heap.size w y := fun {x y} h g =>
  ⟨g.os.trans h.os, g.tape.trans h.tape, g.output.trans h.output, Nat.le_trans h.size g.size, fun q hq => (g.block q (Nat.lt_of_lt_of_le hq h.size) (fun e => by cases e; omega)).trans (h.block q hq)⟩
 obtain ⟨w1, hu1, hm1, hg1, _⟩ := run_update_at kKind hm0 Tryz.underlying235 1 (fnV 168)
 obtain ⟨w2, hu2, hm2, hg2, _⟩ := run_update_at kKind hm1 Tryz.underlying235 2 (fnV 169)
 obtain ⟨w3, hu3, hm3, hg3, _⟩ := run_update_at kKind hm2 Tryz.underlying235 3 (fnV 170)
 obtain ⟨w4, hu4, hm4, hg4, _⟩ := run_update_at kKind hm3 Tryz.underlying235 4 (fnV 171)
 have Hend := Lib.hid (And.intro (show MapAt kKind w4 w.heap.size deedsL from hm4) (hb (hb (hb (hb hb0 hg1) hg2) hg3) hg4))
 clear hm0 hb0 hb hm1 hm2 hm3 hm4 hg1 hg2 hg3 hg4
 have hv1 : (Instr.mapUpdate 235 (.map (some w.heap.size)) (.int .u8 1) (.func (.func 168) #[] #[])).run Tryz.prog w0 = .ok () w1 := hu1
 have hv2 : (Instr.mapUpdate 235 (.map (some w.heap.size)) (.int .u8 2) (.func (.func 169) #[] #[])).run Tryz.prog w1 = .ok () w2 := hu2
 have hv3 : (Instr.mapUpdate 235 (.map (some w.heap.size)) (.int .u8 3) (.func (.func 170) #[] #[])).run Tryz.prog w2 = .ok () w3 := hu3
 have hv4 : (Instr.mapUpdate 235 (.map (some w.heap.size)) (.int .u8 4) (.func (.func 171) #[] #[])).run Tryz.prog w3 = .ok () w4 := hu4
 clear hu1 hu2 hu3 hu4
 have hmm := @run_makeMap Tryz.prog
 go_enter Tryz.func143, Tryz.ntmps143
 go_wp2_with fail
 go_ret
 exact ⟨rfl, Hend.out⟩
def kvDo (S : Sh) (c : CmdV) : KvOut :=
 if mayC c = true then (if c.kind = 1 then kvGet S c else if c.kind = 2 then kvPut S c else if c.kind = 3 then kvDel S c else if c.kind = 4 then kvCas S c else ⟨S, 2, ByteArray.empty⟩) else ⟨S, 2, ByteArray.empty⟩
theorem may_key {c : CmdV} (h : mayC c = true) : c.key.size ≤ 16 := by
 unfold mayC at h
 simp only [Bool.and_eq_true, decide_eq_true_eq] at h
 have h1 := h.1.1.1.2
 unfold mostOf at h1
 split at h1 <;> omega
theorem cmd_eta (c : CmdV) : (cmdCells c).toArray = #[.int .u8 (c.client.toNat : Int), .int .u32 (c.seq.toNat : Int), .int .u8 (c.kind.toNat : Int), .string c.key, .string c.old, .string c.fresh, .int .u8 (c.set.toNat : Int)] := rfl
set_option maxRecDepth 100000 in
set_option maxHeartbeats 8000000 in
theorem do_any (c : CmdV) (T : Tr) (w : World) (hat : TreeAt w T) (hcnt : T.cnt ≤ 4611686018427387903) :
  Calls Tryz.prog 80 #[.agg #[.pointer T.ptr], .agg (cmdCells c).toArray] w fun e w' => ∃ X, e = .returned (.tuple #[.agg #[.pointer X.ptr], repV (kvDo T.sh c).code (kvDo T.sh c).text]) ∧
   KvPost T (kvDo T.sh c) (decide ((kvDo T.sh c).code ≠ 0) || decide (c.kind = 1)) w w' X := by
 obtain ⟨P, hP⟩ : ∃ P, T.ptr = P := ⟨_, rfl⟩
 have hI := deed_start w P c
 rw [hP]
 have HP := Lib.hid hP; clear hP
 obtain ⟨o, ho0⟩ : ∃ o, kvDo T.sh c = o := ⟨_, rfl⟩
 rw [ho0]
 have HO := Lib.hid ho0; clear ho0
 go_enter Tryz.func80, Tryz.ntmps80
 go_upto_region 1 with fail
 rw [show w.heap.size + 1 + 1 = w.heap.size + 2 by omega, show w.heap.size + 2 + 1 = w.heap.size + 3 by omega]
 change Code.wp _ _ _ _ ((((w.alloc (.cells #[.pointer P] 34)).alloc (.cells (cmdCells c).toArray 56)).alloc (.cells #[.pointer none] 34)).alloc (.cells (repCells 0 ByteArray.empty).toArray 27))
 generalize (((w.alloc (.cells #[.pointer P] 34)).alloc (.cells (cmdCells c).toArray 56)).alloc (.cells #[.pointer none] 34)).alloc (.cells (repCells 0 ByteArray.empty).toArray 27) = w1 at *
 have hat1 := hat.below hI.bel
 have HI := Lib.hid hI; clear hI
 have Hat1 := Lib.hid hat1; clear hat1 hat
 obtain ⟨fv, hfv⟩ : ∃ v, (deedOf c.kind).getD .nilFunc = v := ⟨_, rfl⟩
 obtain ⟨ok, hok⟩ : ∃ b, (deedOf c.kind).isSome = b := ⟨_, rfl⟩
 have HF := Lib.hid (And.intro hfv hok); clear hfv hok
 refine (wpIn_wide (n := 1)).1 ?_
 refine RegK.wpIn_region_can (F := Fence.wide) (KeptW w1) [(1, 0), (2, 0), (0, 1), (3, 0), (4, 0), (5, 0), (6, 0), (7, 0), (8, 0)] (by kernel_rfl) (by kernel_rfl) (by kernel_rfl) (fun _ _ d _ _ h => by cases d <;> exact h) ⟨rfl, rfl, rfl, Nat.le_refl _, fun _ _ => rfl⟩ ?_
 dsimp only [RegK.pick, List.getElem?_cons_zero, List.getElem?_cons_succ]
 change RegK.Can _ _ _ _ _ _ _ _ w1.drew
 have hkd : KeptW w1 w1.drew := ⟨rfl, rfl, rfl, Nat.le_refl _, fun _ _ => rfl⟩
 iterate 1 (refine RegK.can_reads ?_; intro K hK; go_simp; (first | (refine ⟨_, fun _ _ => rfl, hK _ ?_⟩) | (refine hK _ ?_)); clear hK K)
 refine RegK.can_reads ?_
 intro K hK
 go_simp
 refine ⟨.int .u8 (c.kind.toNat : Int), fun y hy => ?_, hK _ ?_⟩
 ·
  have f0 := (HI.out.bc.below (KeptW.bel hy)).cells.2.2.1
  go_simp
 clear hK K
 refine RegK.can_narrows (fun _ => trivial) ?_
 intro K K0 hK hK0
 go_simp
 refine ⟨trivial, ?_⟩
 refine (callsIn_wide.2 (deeds_any w1.drew)).mono ?_
 rintro e w2 ⟨rfl, hm, hb⟩
 refine hK (fun y => KeptW w1 y ∧ MapAt kKind y w1.drew.heap.size deedsL) _ _ (fun y h => h.1) ⟨KeptW.mono hkd hb, hm⟩ ?_
 have hk2 : KeptW w1 w2 := KeptW.mono hkd hb
 clear hK K K0 hK0 hm hb hkd
 refine RegK.can_reads ?_
 intro K hK
 go_simp
 refine ⟨.tuple #[fv, .bool ok], fun y hy hy2 => ?_, hK _ ?_⟩
 ·
  have f0 := run_lookup_at kKind hy2 Tryz.underlying235 (zDeed y) c.kind true
  rw [deeds_get, HF.out.1, HF.out.2] at f0
  have f1 : (Instr.lookup 235 (.map (some w1.heap.size)) (.int .u8 (c.kind.toNat : Int)) true).run Tryz.prog y = .ok (.tuple #[fv, .bool ok]) y := f0
  clear f0
  go_simp
 clear hK K
 iterate 5 (refine RegK.can_reads ?_; intro K hK; go_simp; (first | (refine ⟨_, fun _ _ _ => rfl, hK _ ?_⟩) | (refine ⟨_, fun _ _ => rfl, hK _ ?_⟩) | (refine hK _ ?_)); clear hK K)
 refine RegK.can_nil ?_
 have HI2 := Lib.hid (HI.out.below (KeptW.bel hk2)); clear HI
 have Hat2 := Lib.hid (Hat1.out.below (KeptW.bel hk2)); clear Hat1 hk2
 by_cases hk : c.kind = 1
 ·
  skip
  have Hk := Lib.hid hk; clear hk
  obtain rfl : fv = .func (.func 168) #[] #[] := by rw [← HF.out.1, Hk.out]; rfl
  obtain rfl : ok = true := by rw [← HF.out.2, Hk.out]; rfl
  have hck := check_any c w2
  obtain ⟨d0, d1, d2, d3, d4, d5, d6⟩ := HI2.out.bc.cells
  by_cases hm : mayC c = true
  ·
   rw [if_pos hm] at hck
   have Hck := Lib.hid (show Calls Tryz.prog 78 #[.agg #[.int .u8 (c.client.toNat : Int), .int .u32 (c.seq.toNat : Int), .int .u8 (c.kind.toNat : Int), .string c.key, .string c.old, .string c.fresh, .int .u8 (c.set.toNat : Int)]] w2 _ from hck); clear hck
   have ho : kvGet T.sh c = o := by rw [← HO.out]; unfold kvDo; rw [if_pos hm, Hk.out]; rfl
   have Ho := Lib.hid ho; clear ho
   go_upto_region 4 with ((with_reducible refine Hck.out.mono ?_); clear Hck; rintro e w3 ⟨rfl, hb3⟩; have HI3 := Lib.hid (HI2.out.below hb3); have Hat3 := Lib.hid (Hat2.out.below hb3); clear hb3)
   clear d0 d1 d2 d3 d4 d5 d6 HI2 Hat2
   obtain ⟨d0, d1, d2, d3, d4, d5, d6⟩ := HI3.out.bc.cells
   have b0 := HI3.out.bs.cell
   have hdd := kvget_any c T w3 Hat3.out hcnt
   rw [HP.out, Ho.out] at hdd
   clear Ho HO
   obtain ⟨oS, oc, ot⟩ := o
   have Hdd := Lib.hid (show Calls Tryz.prog 168 #[.agg #[.pointer P], .agg #[.int .u8 (c.client.toNat : Int), .int .u32 (c.seq.toNat : Int), .int .u8 (c.kind.toNat : Int), .string c.key, .string c.old, .string c.fresh, .int .u8 (c.set.toNat : Int)]] w3 (fun e w' => ∃ X, e = .returned (.tuple #[.agg #[.pointer X.ptr], .agg #[.int .u8 (oc : Int), .string ot]]) ∧ KvPost T ⟨oS, oc, ot⟩ _ w3 w' X) from hdd); clear hdd
   go_wp2_with ((with_reducible refine Hdd.out.mono ?_); clear Hdd; rintro e w4 ⟨X, rfl, hx⟩; have HI4 := Lib.hid (HI3.out.below hx.bel); have Hx := Lib.hid hx; clear hx; have e0 := HI4.out.r0.cell; have e1 := HI4.out.r0.thawed 0; obtain ⟨e2, e3⟩ := HI4.out.r1.cells; have e4 := HI4.out.r1.thawed 0; have e5 := HI4.out.r1.thawed 1)
   have Hz := Lib.hid (deed_end HI4.out X oc ot Hx.out.at_)
   change bodyPost _ _ _ _ _ (deedW w w4 X.ptr oc ot)
   clear e0 e1 e2 e3 e4 e5
   have e0 := Hz.out.1.cell
   obtain ⟨e2, e3⟩ := Hz.out.2.1.cells
   generalize deedW w w4 X.ptr oc ot = w9 at *
   refine bodyPost_ret (v := .tuple #[.agg #[.pointer X.ptr], .agg #[.int .u8 (oc : Int), .string ot]]) (by simp [results, Tryz.results80, go_sem, e0, e2, e3] <;> rfl) rfl ?_
   exact ⟨X, rfl, Hz.out.2.2.2, Hz.out.2.2.1, Hx.out.shp, Hx.out.num, fun h => Hx.out.keep (by simp)⟩
  ·
   rw [if_neg hm] at hck
   have Hck := Lib.hid (show Calls Tryz.prog 78 #[.agg #[.int .u8 (c.client.toNat : Int), .int .u32 (c.seq.toNat : Int), .int .u8 (c.kind.toNat : Int), .string c.key, .string c.old, .string c.fresh, .int .u8 (c.set.toNat : Int)]] w2 _ from hck); clear hck
   obtain rfl : o = ⟨T.sh, 2, ByteArray.empty⟩ := by rw [← HO.out]; unfold kvDo; rw [if_neg hm]
   have b0 := HI2.out.bs.cell
   go_upto_region 3 with ((with_reducible refine Hck.out.mono ?_); clear Hck; rintro e w3 ⟨rfl, hb3⟩; have HI3 := Lib.hid (HI2.out.below hb3); have Hat3 := Lib.hid (Hat2.out.below hb3); clear hb3; have e0 := HI3.out.r0.cell; have e1 := HI3.out.r0.thawed 0; obtain ⟨e2, e3⟩ := HI3.out.r1.cells; have e4 := HI3.out.r1.thawed 0; have e5 := HI3.out.r1.thawed 1)
   clear d0 d1 d2 d3 d4 d5 d6 b0
   have b0 := HI3.out.bs.cell
   have Hz := Lib.hid (by have := deed_end HI3.out T 2 ByteArray.empty Hat3.out; rwa [HP.out] at this)
   go_wp2_with fail
   change bodyPost _ _ _ _ _ (deedW w w3 P 2 ByteArray.empty)
   clear e0 e1 e2 e3 e4 e5
   have e0 := Hz.out.1.cell
   obtain ⟨e2, e3⟩ := Hz.out.2.1.cells
   generalize deedW w w3 P 2 ByteArray.empty = w9 at *
   refine bodyPost_ret (v := .tuple #[.agg #[.pointer P], .agg #[.int .u8 (2 : Int), .string ByteArray.empty]]) (by simp [results, Tryz.results80, go_sem, e0, e2, e3] <;> rfl) rfl ?_
   exact ⟨T, by rw [HP.out]; rfl, Hz.out.2.2.2, Hz.out.2.2.1, rfl, by omega, fun _ => rfl⟩
 by_cases hk2 : c.kind = 2
 ·
  have hk := hk2; clear hk2
  have Hk := Lib.hid hk; clear hk
  obtain rfl : fv = .func (.func 169) #[] #[] := by rw [← HF.out.1, Hk.out]; rfl
  obtain rfl : ok = true := by rw [← HF.out.2, Hk.out]; rfl
  have hck := check_any c w2
  obtain ⟨d0, d1, d2, d3, d4, d5, d6⟩ := HI2.out.bc.cells
  by_cases hm : mayC c = true
  ·
   rw [if_pos hm] at hck
   have Hck := Lib.hid (show Calls Tryz.prog 78 #[.agg #[.int .u8 (c.client.toNat : Int), .int .u32 (c.seq.toNat : Int), .int .u8 (c.kind.toNat : Int), .string c.key, .string c.old, .string c.fresh, .int .u8 (c.set.toNat : Int)]] w2 _ from hck); clear hck
   have ho : kvPut T.sh c = o := by rw [← HO.out]; unfold kvDo; rw [if_pos hm, Hk.out]; rfl
   have Ho := Lib.hid ho; clear ho
   go_upto_region 4 with ((with_reducible refine Hck.out.mono ?_); clear Hck; rintro e w3 ⟨rfl, hb3⟩; have HI3 := Lib.hid (HI2.out.below hb3); have Hat3 := Lib.hid (Hat2.out.below hb3); clear hb3)
   clear d0 d1 d2 d3 d4 d5 d6 HI2 Hat2
   obtain ⟨d0, d1, d2, d3, d4, d5, d6⟩ := HI3.out.bc.cells
   have b0 := HI3.out.bs.cell
   have hdd := kvput_any c (Nat.le_trans (may_key hm) (by unfold maxLen; omega)) T w3 Hat3.out hcnt
   rw [HP.out, Ho.out] at hdd
   clear Ho HO
   obtain ⟨oS, oc, ot⟩ := o
   have Hdd := Lib.hid (show Calls Tryz.prog 169 #[.agg #[.pointer P], .agg #[.int .u8 (c.client.toNat : Int), .int .u32 (c.seq.toNat : Int), .int .u8 (c.kind.toNat : Int), .string c.key, .string c.old, .string c.fresh, .int .u8 (c.set.toNat : Int)]] w3 (fun e w' => ∃ X, e = .returned (.tuple #[.agg #[.pointer X.ptr], .agg #[.int .u8 (oc : Int), .string ot]]) ∧ KvPost T ⟨oS, oc, ot⟩ _ w3 w' X) from hdd); clear hdd
   go_wp2_with ((with_reducible refine Hdd.out.mono ?_); clear Hdd; rintro e w4 ⟨X, rfl, hx⟩; have HI4 := Lib.hid (HI3.out.below hx.bel); have Hx := Lib.hid hx; clear hx; have e0 := HI4.out.r0.cell; have e1 := HI4.out.r0.thawed 0; obtain ⟨e2, e3⟩ := HI4.out.r1.cells; have e4 := HI4.out.r1.thawed 0; have e5 := HI4.out.r1.thawed 1)
   have Hz := Lib.hid (deed_end HI4.out X oc ot Hx.out.at_)
   change bodyPost _ _ _ _ _ (deedW w w4 X.ptr oc ot)
   clear e0 e1 e2 e3 e4 e5
   have e0 := Hz.out.1.cell
   obtain ⟨e2, e3⟩ := Hz.out.2.1.cells
   generalize deedW w w4 X.ptr oc ot = w9 at *
   refine bodyPost_ret (v := .tuple #[.agg #[.pointer X.ptr], .agg #[.int .u8 (oc : Int), .string ot]]) (by simp [results, Tryz.results80, go_sem, e0, e2, e3] <;> rfl) rfl ?_
   exact ⟨X, rfl, Hz.out.2.2.2, Hz.out.2.2.1, Hx.out.shp, Hx.out.num, fun h => Hx.out.keep (by simpa [Hk.out] using h)⟩
  ·
   rw [if_neg hm] at hck
   have Hck := Lib.hid (show Calls Tryz.prog 78 #[.agg #[.int .u8 (c.client.toNat : Int), .int .u32 (c.seq.toNat : Int), .int .u8 (c.kind.toNat : Int), .string c.key, .string c.old, .string c.fresh, .int .u8 (c.set.toNat : Int)]] w2 _ from hck); clear hck
   obtain rfl : o = ⟨T.sh, 2, ByteArray.empty⟩ := by rw [← HO.out]; unfold kvDo; rw [if_neg hm]
   have b0 := HI2.out.bs.cell
   go_upto_region 3 with ((with_reducible refine Hck.out.mono ?_); clear Hck; rintro e w3 ⟨rfl, hb3⟩; have HI3 := Lib.hid (HI2.out.below hb3); have Hat3 := Lib.hid (Hat2.out.below hb3); clear hb3; have e0 := HI3.out.r0.cell; have e1 := HI3.out.r0.thawed 0; obtain ⟨e2, e3⟩ := HI3.out.r1.cells; have e4 := HI3.out.r1.thawed 0; have e5 := HI3.out.r1.thawed 1)
   clear d0 d1 d2 d3 d4 d5 d6 b0
   have b0 := HI3.out.bs.cell
   have Hz := Lib.hid (by have := deed_end HI3.out T 2 ByteArray.empty Hat3.out; rwa [HP.out] at this)
   go_wp2_with fail
   change bodyPost _ _ _ _ _ (deedW w w3 P 2 ByteArray.empty)
   clear e0 e1 e2 e3 e4 e5
   have e0 := Hz.out.1.cell
   obtain ⟨e2, e3⟩ := Hz.out.2.1.cells
   generalize deedW w w3 P 2 ByteArray.empty = w9 at *
   refine bodyPost_ret (v := .tuple #[.agg #[.pointer P], .agg #[.int .u8 (2 : Int), .string ByteArray.empty]]) (by simp [results, Tryz.results80, go_sem, e0, e2, e3] <;> rfl) rfl ?_
   exact ⟨T, by rw [HP.out]; rfl, Hz.out.2.2.2, Hz.out.2.2.1, rfl, by omega, fun _ => rfl⟩
 by_cases hk3 : c.kind = 3
 ·
  have hk := hk3; clear hk3
  have Hk := Lib.hid hk; clear hk
  obtain rfl : fv = .func (.func 170) #[] #[] := by rw [← HF.out.1, Hk.out]; rfl
  obtain rfl : ok = true := by rw [← HF.out.2, Hk.out]; rfl
  have hck := check_any c w2
  obtain ⟨d0, d1, d2, d3, d4, d5, d6⟩ := HI2.out.bc.cells
  by_cases hm : mayC c = true
  ·
   rw [if_pos hm] at hck
   have Hck := Lib.hid (show Calls Tryz.prog 78 #[.agg #[.int .u8 (c.client.toNat : Int), .int .u32 (c.seq.toNat : Int), .int .u8 (c.kind.toNat : Int), .string c.key, .string c.old, .string c.fresh, .int .u8 (c.set.toNat : Int)]] w2 _ from hck); clear hck
   have ho : kvDel T.sh c = o := by rw [← HO.out]; unfold kvDo; rw [if_pos hm, Hk.out]; rfl
   have Ho := Lib.hid ho; clear ho
   go_upto_region 4 with ((with_reducible refine Hck.out.mono ?_); clear Hck; rintro e w3 ⟨rfl, hb3⟩; have HI3 := Lib.hid (HI2.out.below hb3); have Hat3 := Lib.hid (Hat2.out.below hb3); clear hb3)
   clear d0 d1 d2 d3 d4 d5 d6 HI2 Hat2
   obtain ⟨d0, d1, d2, d3, d4, d5, d6⟩ := HI3.out.bc.cells
   have b0 := HI3.out.bs.cell
   have hdd := kvdel_any c T w3 Hat3.out hcnt
   rw [HP.out, Ho.out] at hdd
   clear Ho HO
   obtain ⟨oS, oc, ot⟩ := o
   have Hdd := Lib.hid (show Calls Tryz.prog 170 #[.agg #[.pointer P], .agg #[.int .u8 (c.client.toNat : Int), .int .u32 (c.seq.toNat : Int), .int .u8 (c.kind.toNat : Int), .string c.key, .string c.old, .string c.fresh, .int .u8 (c.set.toNat : Int)]] w3 (fun e w' => ∃ X, e = .returned (.tuple #[.agg #[.pointer X.ptr], .agg #[.int .u8 (oc : Int), .string ot]]) ∧ KvPost T ⟨oS, oc, ot⟩ _ w3 w' X) from hdd); clear hdd
   go_wp2_with ((with_reducible refine Hdd.out.mono ?_); clear Hdd; rintro e w4 ⟨X, rfl, hx⟩; have HI4 := Lib.hid (HI3.out.below hx.bel); have Hx := Lib.hid hx; clear hx; have e0 := HI4.out.r0.cell; have e1 := HI4.out.r0.thawed 0; obtain ⟨e2, e3⟩ := HI4.out.r1.cells; have e4 := HI4.out.r1.thawed 0; have e5 := HI4.out.r1.thawed 1)
   have Hz := Lib.hid (deed_end HI4.out X oc ot Hx.out.at_)
   change bodyPost _ _ _ _ _ (deedW w w4 X.ptr oc ot)
   clear e0 e1 e2 e3 e4 e5
   have e0 := Hz.out.1.cell
   obtain ⟨e2, e3⟩ := Hz.out.2.1.cells
   generalize deedW w w4 X.ptr oc ot = w9 at *
   refine bodyPost_ret (v := .tuple #[.agg #[.pointer X.ptr], .agg #[.int .u8 (oc : Int), .string ot]]) (by simp [results, Tryz.results80, go_sem, e0, e2, e3] <;> rfl) rfl ?_
   exact ⟨X, rfl, Hz.out.2.2.2, Hz.out.2.2.1, Hx.out.shp, Hx.out.num, fun h => Hx.out.keep (by simpa [Hk.out] using h)⟩
  ·
   rw [if_neg hm] at hck
   have Hck := Lib.hid (show Calls Tryz.prog 78 #[.agg #[.int .u8 (c.client.toNat : Int), .int .u32 (c.seq.toNat : Int), .int .u8 (c.kind.toNat : Int), .string c.key, .string c.old, .string c.fresh, .int .u8 (c.set.toNat : Int)]] w2 _ from hck); clear hck
   obtain rfl : o = ⟨T.sh, 2, ByteArray.empty⟩ := by rw [← HO.out]; unfold kvDo; rw [if_neg hm]
   have b0 := HI2.out.bs.cell
   go_upto_region 3 with ((with_reducible refine Hck.out.mono ?_); clear Hck; rintro e w3 ⟨rfl, hb3⟩; have HI3 := Lib.hid (HI2.out.below hb3); have Hat3 := Lib.hid (Hat2.out.below hb3); clear hb3; have e0 := HI3.out.r0.cell; have e1 := HI3.out.r0.thawed 0; obtain ⟨e2, e3⟩ := HI3.out.r1.cells; have e4 := HI3.out.r1.thawed 0; have e5 := HI3.out.r1.thawed 1)
   clear d0 d1 d2 d3 d4 d5 d6 b0
   have b0 := HI3.out.bs.cell
   have Hz := Lib.hid (by have := deed_end HI3.out T 2 ByteArray.empty Hat3.out; rwa [HP.out] at this)
   go_wp2_with fail
   change bodyPost _ _ _ _ _ (deedW w w3 P 2 ByteArray.empty)
   clear e0 e1 e2 e3 e4 e5
   have e0 := Hz.out.1.cell
   obtain ⟨e2, e3⟩ := Hz.out.2.1.cells
   generalize deedW w w3 P 2 ByteArray.empty = w9 at *
   refine bodyPost_ret (v := .tuple #[.agg #[.pointer P], .agg #[.int .u8 (2 : Int), .string ByteArray.empty]]) (by simp [results, Tryz.results80, go_sem, e0, e2, e3] <;> rfl) rfl ?_
   exact ⟨T, by rw [HP.out]; rfl, Hz.out.2.2.2, Hz.out.2.2.1, rfl, by omega, fun _ => rfl⟩
 by_cases hk4 : c.kind = 4
 ·
  have hk := hk4; clear hk4
  have Hk := Lib.hid hk; clear hk
  obtain rfl : fv = .func (.func 171) #[] #[] := by rw [← HF.out.1, Hk.out]; rfl
  obtain rfl : ok = true := by rw [← HF.out.2, Hk.out]; rfl
  have hck := check_any c w2
  obtain ⟨d0, d1, d2, d3, d4, d5, d6⟩ := HI2.out.bc.cells
  by_cases hm : mayC c = true
  ·
   rw [if_pos hm] at hck
   have Hck := Lib.hid (show Calls Tryz.prog 78 #[.agg #[.int .u8 (c.client.toNat : Int), .int .u32 (c.seq.toNat : Int), .int .u8 (c.kind.toNat : Int), .string c.key, .string c.old, .string c.fresh, .int .u8 (c.set.toNat : Int)]] w2 _ from hck); clear hck
   have ho : kvCas T.sh c = o := by rw [← HO.out]; unfold kvDo; rw [if_pos hm, Hk.out]; rfl
   have Ho := Lib.hid ho; clear ho
   go_upto_region 4 with ((with_reducible refine Hck.out.mono ?_); clear Hck; rintro e w3 ⟨rfl, hb3⟩; have HI3 := Lib.hid (HI2.out.below hb3); have Hat3 := Lib.hid (Hat2.out.below hb3); clear hb3)
   clear d0 d1 d2 d3 d4 d5 d6 HI2 Hat2
   obtain ⟨d0, d1, d2, d3, d4, d5, d6⟩ := HI3.out.bc.cells
   have b0 := HI3.out.bs.cell
   have hdd := kvcas_any c (Nat.le_trans (may_key hm) (by unfold maxLen; omega)) T w3 Hat3.out hcnt
   rw [HP.out, Ho.out] at hdd
   clear Ho HO
   obtain ⟨oS, oc, ot⟩ := o
   have Hdd := Lib.hid (show Calls Tryz.prog 171 #[.agg #[.pointer P], .agg #[.int .u8 (c.client.toNat : Int), .int .u32 (c.seq.toNat : Int), .int .u8 (c.kind.toNat : Int), .string c.key, .string c.old, .string c.fresh, .int .u8 (c.set.toNat : Int)]] w3 (fun e w' => ∃ X, e = .returned (.tuple #[.agg #[.pointer X.ptr], .agg #[.int .u8 (oc : Int), .string ot]]) ∧ KvPost T ⟨oS, oc, ot⟩ _ w3 w' X) from hdd); clear hdd
   go_wp2_with ((with_reducible refine Hdd.out.mono ?_); clear Hdd; rintro e w4 ⟨X, rfl, hx⟩; have HI4 := Lib.hid (HI3.out.below hx.bel); have Hx := Lib.hid hx; clear hx; have e0 := HI4.out.r0.cell; have e1 := HI4.out.r0.thawed 0; obtain ⟨e2, e3⟩ := HI4.out.r1.cells; have e4 := HI4.out.r1.thawed 0; have e5 := HI4.out.r1.thawed 1)
   have Hz := Lib.hid (deed_end HI4.out X oc ot Hx.out.at_)
   change bodyPost _ _ _ _ _ (deedW w w4 X.ptr oc ot)
   clear e0 e1 e2 e3 e4 e5
   have e0 := Hz.out.1.cell
   obtain ⟨e2, e3⟩ := Hz.out.2.1.cells
   generalize deedW w w4 X.ptr oc ot = w9 at *
   refine bodyPost_ret (v := .tuple #[.agg #[.pointer X.ptr], .agg #[.int .u8 (oc : Int), .string ot]]) (by simp [results, Tryz.results80, go_sem, e0, e2, e3] <;> rfl) rfl ?_
   exact ⟨X, rfl, Hz.out.2.2.2, Hz.out.2.2.1, Hx.out.shp, Hx.out.num, fun h => Hx.out.keep (by simpa [Hk.out] using h)⟩
  ·
   rw [if_neg hm] at hck
   have Hck := Lib.hid (show Calls Tryz.prog 78 #[.agg #[.int .u8 (c.client.toNat : Int), .int .u32 (c.seq.toNat : Int), .int .u8 (c.kind.toNat : Int), .string c.key, .string c.old, .string c.fresh, .int .u8 (c.set.toNat : Int)]] w2 _ from hck); clear hck
   obtain rfl : o = ⟨T.sh, 2, ByteArray.empty⟩ := by rw [← HO.out]; unfold kvDo; rw [if_neg hm]
   have b0 := HI2.out.bs.cell
   go_upto_region 3 with ((with_reducible refine Hck.out.mono ?_); clear Hck; rintro e w3 ⟨rfl, hb3⟩; have HI3 := Lib.hid (HI2.out.below hb3); have Hat3 := Lib.hid (Hat2.out.below hb3); clear hb3; have e0 := HI3.out.r0.cell; have e1 := HI3.out.r0.thawed 0; obtain ⟨e2, e3⟩ := HI3.out.r1.cells; have e4 := HI3.out.r1.thawed 0; have e5 := HI3.out.r1.thawed 1)
   clear d0 d1 d2 d3 d4 d5 d6 b0
   have b0 := HI3.out.bs.cell
   have Hz := Lib.hid (by have := deed_end HI3.out T 2 ByteArray.empty Hat3.out; rwa [HP.out] at this)
   go_wp2_with fail
   change bodyPost _ _ _ _ _ (deedW w w3 P 2 ByteArray.empty)
   clear e0 e1 e2 e3 e4 e5
   have e0 := Hz.out.1.cell
   obtain ⟨e2, e3⟩ := Hz.out.2.1.cells
   generalize deedW w w3 P 2 ByteArray.empty = w9 at *
   refine bodyPost_ret (v := .tuple #[.agg #[.pointer P], .agg #[.int .u8 (2 : Int), .string ByteArray.empty]]) (by simp [results, Tryz.results80, go_sem, e0, e2, e3] <;> rfl) rfl ?_
   exact ⟨T, by rw [HP.out]; rfl, Hz.out.2.2.2, Hz.out.2.2.1, rfl, by omega, fun _ => rfl⟩
 obtain rfl : fv = .nilFunc := by rw [← HF.out.1]; unfold deedOf; rw [if_neg hk, if_neg hk2, if_neg hk3, if_neg hk4]; rfl
 obtain rfl : ok = false := by rw [← HF.out.2]; unfold deedOf; rw [if_neg hk, if_neg hk2, if_neg hk3, if_neg hk4]; rfl
 obtain rfl : o = ⟨T.sh, 2, ByteArray.empty⟩ := by rw [← HO.out]; unfold kvDo; rw [if_neg hk, if_neg hk2, if_neg hk3, if_neg hk4]; split <;> rfl
 have hb3 : Below w2.heap.size w2 w2 := Below.refl _ _
 have HI3 := Lib.hid (HI2.out.below hb3); have Hat3 := Lib.hid (Hat2.out.below hb3); clear hb3; have e0 := HI3.out.r0.cell; have e1 := HI3.out.r0.thawed 0; obtain ⟨e2, e3⟩ := HI3.out.r1.cells; have e4 := HI3.out.r1.thawed 0; have e5 := HI3.out.r1.thawed 1
 have b0 := HI3.out.bs.cell
 have Hz := Lib.hid (by have := deed_end HI3.out T 2 ByteArray.empty Hat3.out; rwa [HP.out] at this)
 go_wp2_with fail
 change bodyPost _ _ _ _ _ (deedW w w2 P 2 ByteArray.empty)
 clear e0 e1 e2 e3 e4 e5
 have e0 := Hz.out.1.cell
 obtain ⟨e2, e3⟩ := Hz.out.2.1.cells
 generalize deedW w w2 P 2 ByteArray.empty = w9 at *
 refine bodyPost_ret (v := .tuple #[.agg #[.pointer P], .agg #[.int .u8 (2 : Int), .string ByteArray.empty]]) (by simp [results, Tryz.results80, go_sem, e0, e2, e3] <;> rfl) rfl ?_
 exact ⟨T, by rw [HP.out]; rfl, Hz.out.2.2.2, Hz.out.2.2.1, rfl, by omega, fun _ => rfl⟩
end Go.Proofs.YtbckjgageofldaaGreat
namespace Go.Proofs.YtbckjgageofldaaGreat
open Go.ChangeShapes Go.WideShapes Go.Deep Go.RowKit
structure SliceAt {α : Type} (k : Nat) (enc : α → List Value) (w : World) (a : Option Addr) (len : Nat) (z : List α) : Prop where
 hlen : z.length = len
 hmax : len ≤ maxLen
 cells : ∀ (i : Nat) (x : α), z[i]? = some x → ∃ b o, a = some ⟨b, o, none⟩ ∧ b < w.heap.size ∧ ∀ j v, (enc x)[j]? = some v → w.cell? ⟨b, o + (i * k + j), none⟩ = some v
theorem SliceAt.below {α : Type} {k : Nat} {enc : α → List Value} {w w' : World} {a : Option Addr} {len : Nat} {z : List α} (h : SliceAt k enc w a len z) (hb : Below w.heap.size w w') : SliceAt k enc w' a len z := by
 refine ⟨h.hlen, h.hmax, fun i x hi => ?_⟩
 obtain ⟨b, o, h1, h2, h3⟩ := h.cells i x hi
 refine ⟨b, o, h1, Nat.lt_of_lt_of_le h2 hb.size, fun j v hj => ?_⟩
 rw [← h3 j v hj]
 simp only [World.cell?, hb.block b h2]
end Go.Proofs.YtbckjgageofldaaGreat
namespace Go.Proofs.YtbckjgageofldaaGreat
open Go.RowKit
theorem CmdAt.thawed {w : World} {b : Nat} {c : CmdV} (h : CmdAt w b c) (j : Nat) : w.frozen? ⟨b, j, none⟩ = false := by
 unfold CmdAt at h
 simp [World.frozen?, h]
set_option maxRecDepth 100000 in
theorem tree_any (P : Option Addr) (w : World) : Calls Tryz.prog 107 #[.agg #[.pointer P]] w fun e w' => e = .returned (.pointer P) ∧ Below w.heap.size w w' := by
 have hb1 := (Below.refl w.heap.size w).alloc (Nat.le_refl _) (.cells #[.pointer P] 34)
 have h1 := VarAt.new w (.pointer P) 34
 go_enter Tryz.func107, Tryz.ntmps107
 go_upto_region 1 with fail
 change Code.wp _ _ _ _ (w.alloc (.cells #[.pointer P] 34))
 generalize w.alloc (.cells #[.pointer P] 34) = w1 at *
 have c0 := h1.cell
 go_wp2_with fail
 go_ret
 exact ⟨rfl, hb1⟩
end Go.Proofs.YtbckjgageofldaaGreat
namespace Go.Proofs.YtbckjgageofldaaGreat
open Go.RowKit
theorem layRep (ρ : Operand → Value) (x : World) (o : Oper) (h : o.op = .alloc 27) : (execOp ρ o).run Tryz.prog x = .ok (.value (RegL.ptr x.heap.size)) (x.alloc (.cells (repCells 0 ByteArray.empty).toArray 27 (0, 0))) := by
 simp only [execOp, h]
 go_simp
 exact ⟨rfl, rfl⟩
end Go.Proofs.YtbckjgageofldaaGreat
namespace Go.Proofs.YtbckjgageofldaaGreat
open Go.RowKit
structure TAct where
 act : BitVec 8
 key : ByteArray
 val : ByteArray
instance : Inhabited TAct := ⟨⟨0, ByteArray.empty, ByteArray.empty⟩⟩
theorem tsucc {n : Nat} (h : n ≤ 9223372036854775806) : IntKind.i64.wrap ((n : Int) + 1) = ((n + 1 : Nat) : Int) := by rw [IntKind.wrap_i64] <;> omega
def stepSh (x : TAct) (S : Sh) : Sh := if x.act.toNat = 0 then delSh x.key S (S.look x.key) else putSh x.key x.val S (S.look x.key)
end Go.Proofs.YtbckjgageofldaaGreat
namespace Go.Proofs.YtbckjgageofldaaGreat
open Go.RowKit
def tA : ByteArray := ⟨#[97]⟩
def tB : ByteArray := ⟨#[98]⟩
def t1 : ByteArray := ⟨#[49]⟩
def t2 : ByteArray := ⟨#[50]⟩
def t3 : ByteArray := ⟨#[51]⟩
def s1 : Sh := stepSh ⟨1, tA, t1⟩ .nil
def s2 : Sh := stepSh ⟨1, tB, t2⟩ s1
def s3 : Sh := stepSh ⟨0, tB, tB⟩ s2
def s4 : Sh := stepSh ⟨1, tA, t3⟩ s3
def s5 : Sh := stepSh ⟨0, tA, tA⟩ s4
end Go.Proofs.YtbckjgageofldaaGreat
