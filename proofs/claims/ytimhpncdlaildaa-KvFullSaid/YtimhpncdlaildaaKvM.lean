/- The law KvFull. No condition. -/
import Derived.Test.YtimhpncdlaildaaKvH
import Derived.Test.YtimhpncdlaildaaKvK
namespace Go.Proofs.Ytimhpncdlaildaa
open Go.RowKit

theorem ptr_eql (p : Option Addr) (w : World) : (binOp .eql 58 (.pointer p) (.pointer p)).run Try.prog w = .ok (.bool true) w := by
  obtain ⟨j, hj, hz⟩ := infoTree
  have hu : Try.prog.underlying 58 = some (.pointer 122) := Try.underlying58
  have h : ∀ d : Nat, (Op.equalIn (d + 1) 58 (.pointer p) (.pointer p)).run Try.prog w = .ok true w := fun d => by
    cases p with
    | none => simp [Op.equalIn, run_underlying hu]
    | some a => simp [Op.equalIn, run_underlying hu, sizeOf, typeInfo, hj, run_sameAddr_same]
  have h2 : (Op.equal 58 (.pointer p) (.pointer p)).run Try.prog w = .ok true w := h 9999
  simp only [binOp]
  simp only [Sem.run_bind, h2, Result.andThen_ok, Sem.run_pure]
theorem kk_wrap {i : Nat} (hi : i < 256) : IntKind.u8.wrap (i : Int) = (i : Int) := by
  have h1 : IntKind.u8.bits = 8 := rfl
  have h2 : IntKind.u8.signed = false := rfl
  simp only [IntKind.wrap, h1, h2]
  simp only [Bool.false_eq_true, if_false, Bool.false_and]
  omega

theorem kk_conv {i g : Nat} (hi : i < 256) {y : World} (h : y.heap[g]? = some (.cells #[.int .u8 107, .int .u8 (i : Int)] 5 (0, 0))) :
    (convert 105 9 (.slice (some ⟨g, 0, none⟩) 2 2)).run Try.prog y = .ok (.string (kk i)) y := by
  have h1 : (UInt8.ofNat i).toNat = i := by simp [UInt8.toNat_ofNat, Nat.mod_eq_of_lt hi]
  exact run_convert_bytes_back y 105 9 5 ⟨g, 0, none⟩ 2 [107, UInt8.ofNat i] Try.underlying105 Try.underlying5 Try.underlying9 (fun j hj => by
    have h0 : y.cell? ⟨g, 0, none⟩ = some (.int .u8 107) := cell_of_row _ _ _ _ _ _ h
    have h2 : y.cell? ⟨g, 1, none⟩ = some (.int .u8 (i : Int)) := cell_of_row _ _ _ _ _ _ h
    match j, hj with
    | 0, _ => exact h0
    | 1, _ => show y.cell? ⟨g, 1, none⟩ = some (.int .u8 ((UInt8.ofNat i).toNat : Int)); rw [h1]; exact h2)

set_option maxRecDepth 100000 in
set_option maxHeartbeats 16000000 in
theorem kvFull_any (w : World) : Calls Try.prog 12 #[] w fun e w' => e = .returned (.bool true) ∧ Below w.heap.size w w' := by
  have HS0 := Lib.hid (VarAt.new w (.pointer none) 96)
  have HB0 := Lib.hid ((Below.refl w.heap.size w).alloc (Nat.le_refl _) (.cells #[.pointer none] 96))
  go_enter Try.func12, Try.ntmps12
  go_upto_region 2 with fail
  change Code.wp _ _ _ _ (w.alloc (.cells #[.pointer none] 96))
  generalize w.alloc (.cells #[.pointer none] 96) = w0 at *
  go_wp2_with fail
  go_loopw [2] (fun s2 wr => ∃ (i : Nat) (T : Tr), i ≤ 256 ∧ s2 = .int .i64 (i : Int) ∧ VarAt wr w.heap.size (.pointer (Tr.ptr T)) 96 ∧ TreeAt wr T ∧ Full i T.sh ∧ Below w.heap.size w wr) (fun s2 _ => 256 - (intOf s2).toNat)
  case atStart => exact ⟨0, .nil, by omega, rfl, HS0.out, trivial, Full.zero, HB0.out⟩
  case round =>
    obtain ⟨i, T, hi, rfl, hs, hat, hful, hbel⟩ := hrel
    clear HS0 HB0
    have HB := Lib.hid hbel; clear hbel
    have HTa := Lib.hid hat; clear hat
    have Hful := Lib.hid hful; clear hful
    have HSa := Lib.hid hs; clear hs
    obtain ⟨P, hP⟩ : ∃ P, T.ptr = P := ⟨_, rfl⟩
    rw [hP] at HSa
    have HP := Lib.hid hP; clear hP
    have Hlow := Lib.hid (show w.heap.size ≤ wr.heap.size from HB.out.size)
    by_cases hlt : i < 256
    · have hlt' : (i : Int) < 256 := by omega
      have hsucc := tsucc (n := i) (by omega)
      have hi1 : i + 1 ≤ 256 := hlt
      have hw8 := kk_wrap hlt
      obtain ⟨S, hS⟩ : ∃ S, T.sh = S := ⟨_, rfl⟩
      rw [hS] at Hful
      obtain ⟨S', hdo, hful'⟩ := Hful.out.step hlt
      have Hdo := Lib.hid hdo; clear hdo
      have Hful' := Lib.hid hful'; clear hful'
      have hcn : T.cnt ≤ 256 := by have := Hful.out.num; rw [← hS, ← sh_cnt] at this; omega
      have HEa := Lib.hid (And.intro HP.out (And.intro hS hcn))
      clear HP hS hcn Hful
      go_upto_region 5 with fail
      refine (wpIn_wide (n := 1)).1 ?_
      refine RegL.wpIn_region_lays (F := Fence.wide) (KeptW wr) [⟨10, 3, .cells #[.pointer none] 96 (0, 0)⟩, ⟨11, 4, .cells (repCells 0 ByteArray.empty).toArray 98 (0, 0)⟩] [(0, 0), (1, 0), (2, 0), (3, 1), (4, 0), (5, 1), (6, 1), (7, 2), (8, 2), (9, 2), (12, 3), (13, 3)] (by kernel_rfl) (by kernel_rfl) (by kernel_rfl) (fun p hp => by simp only [List.mem_cons, List.not_mem_nil, or_false] at hp; rcases hp with rfl | rfl; exact lays_any laySt rfl; exact lays_any layRep rfl)
        (fun _ _ d _ _ h => by cases d <;> exact h) (fun _ _ d _ _ h => by cases d <;> exact h) ⟨rfl, rfl, rfl, Nat.le_refl _, fun _ _ => rfl⟩ (keptW_mono wr) ?_
      dsimp only [RegK.pick, List.getElem?_cons_zero, List.getElem?_cons_succ]
      refine RegL.reads ?_
      intro K hK
      go_simp
      refine ⟨.agg #[.pointer P], fun y hy => ?_, hK _ ?_⟩
      · have f0 := (HSa.out.below (KeptW.bel hy)).cell
        go_simp
      clear hK K
      refine RegL.reads ?_
      intro K hK
      go_simp
      first | (refine ⟨_, fun _ _ => rfl, hK _ ?_⟩) | (refine hK _ ?_)
      clear hK K
      refine RegL.reads ?_
      intro K hK
      go_simp
      refine ⟨.int .u8 (i : Int), fun _ _ => by simp only [hw8], hK _ ?_⟩
      clear hK K
      refine RegL.adds (fun _ => trivial) ?_
      go_simp

      intro xq hx K hK
      have hbq := (Below.refl xq.heap.size xq).alloc (Nat.le_refl _) (.cells #[.int .u8 107, .int .u8 (i : Int)] 5)
      obtain ⟨gq, hgq⟩ : ∃ g, xq.heap.size = g := ⟨_, rfl⟩
      have hrow : (xq.alloc (.cells #[.int .u8 107, .int .u8 (i : Int)] 5)).heap[gq]? = some (.cells #[.int .u8 107, .int .u8 (i : Int)] 5 (0, 0)) := by rw [← hgq]; exact heap_alloc_new _ _
      have hltq : gq < (xq.alloc (.cells #[.int .u8 107, .int .u8 (i : Int)] 5)).heap.size := by rw [← hgq]; simp
      rw [hgq]
      have hxp : KeptW wr (xq.alloc (.cells #[.int .u8 107, .int .u8 (i : Int)] 5)) := KeptW.mono hx hbq
      refine hK (KeptW (xq.alloc (.cells #[.int .u8 107, .int .u8 (i : Int)] 5))) _ _ hbq (fun y h => KeptW.mono hxp (KeptW.bel h)) (keptW_mono _) (Below.refl _ _) ?_
      clear hK K hx hbq hgq
      generalize xq.alloc (.cells #[.int .u8 107, .int .u8 (i : Int)] 5) = xp at *
      refine RegL.reads ?_
      intro K hK
      go_simp
      refine ⟨.string (kk i), fun y hy => ?_, hK _ ?_⟩
      · rw [kk_conv hlt (((KeptW.bel hy).block gq hltq).trans hrow)]; rfl
      clear hK K hrow hltq
      refine RegL.adds (fun _ => trivial) ?_
      go_simp
      intro x hx K hK
      refine ⟨trivial, ?_⟩
      refine (callsIn_wide.2 (show Calls Try.prog 53 #[.int .u8 2, .string (kk i), .string { data := #[] }, .string { data := #[118] }] x (fun e w' => e = .returned (.agg #[.int .u8 0, .int .u32 1, .int .u8 2, .string (kk i), .string { data := #[] }, .string { data := #[118] }, .int .u8 0]) ∧ Below x.heap.size x w') from of_any 2 (kk i) ByteArray.empty ⟨#[118]⟩ x)).mono ?_
      rintro e xb1 ⟨rfl, hb⟩
      have hxb : KeptW wr xb1 := KeptW.mono (KeptW.mono hxp (KeptW.bel hx)) hb
      refine hK (KeptW xb1) _ _ hb (fun y h => KeptW.mono (KeptW.mono hx hb) (KeptW.bel h)) (keptW_mono xb1) (Below.refl _ _) ?_
      clear hK K hb hx
      refine RegL.adds (fun _ => trivial) ?_
      go_simp
      intro x hx K hK
      refine ⟨trivial, ?_⟩
      have hxk : KeptW wr x := KeptW.mono hxb (KeptW.bel hx)
      have hd := do_any (ofC 2 (kk i) ByteArray.empty ⟨#[118]⟩) T x (HTa.out.below (KeptW.bel hxk)) (by have := HEa.out.2.2; omega)
      rw [HEa.out.1, HEa.out.2.1, show kvDo S (ofC 2 (kk i) ByteArray.empty ⟨#[118]⟩) = _ from Hdo.out] at hd
      refine (callsIn_wide.2 (show Calls Try.prog 52 #[.agg #[.pointer P], .agg #[.int .u8 0, .int .u32 1, .int .u8 2, .string (kk i), .string { data := #[] }, .string { data := #[118] }, .int .u8 0]] x (fun e w' => ∃ X, e = .returned (.tuple #[.agg #[.pointer X.ptr], .agg #[.int .u8 0, .string { data := #[] }]]) ∧ KvPost T ⟨S', 0, ByteArray.empty⟩ _ x w' X) from hd)).mono ?_
      clear hd
      rintro e xc1 ⟨X1, rfl, hX⟩
      have hxc : KeptW wr xc1 := KeptW.mono hxk hX.bel
      refine hK (KeptW xc1) _ _ hX.bel (fun y h => KeptW.mono (KeptW.mono hx hX.bel) (KeptW.bel h)) (keptW_mono xc1) (Below.refl _ _) ?_
      have HX1 := Lib.hid (And.intro hX.at_ (And.intro hX.shp (And.intro hX.num hX.keep)))
      clear hK K hX hx hxk hxb
      obtain ⟨P1, hP1⟩ : ∃ P, X1.ptr = P := ⟨_, rfl⟩
      rw [hP1]
      have HP1 := Lib.hid hP1; clear hP1
      iterate 3 (refine RegL.pures ?_; intro K hK; go_simp; (first | (refine ⟨_, fun _ => rfl, hK _ ?_⟩) | (refine hK _ ?_)); clear hK K)
      refine RegL.last ?_
      intro g y hF hy
      have hyk : KeptW wr y := KeptW.mono hxc (KeptW.bel hy)
      obtain ⟨hg1, hg2⟩ := hF.1 ⟨10, 3, .cells #[.pointer none] 96 (0, 0)⟩ (by simp) rfl
      obtain ⟨hg3, hg4⟩ := hF.1 ⟨11, 4, .cells (repCells 0 ByteArray.empty).toArray 98 (0, 0)⟩ (by simp) rfl
      have hne : g 11 ≠ g 10 := hF.2 ⟨11, 4, .cells (repCells 0 ByteArray.empty).toArray 98 (0, 0)⟩ (by simp) ⟨10, 3, .cells #[.pointer none] 96 (0, 0)⟩ (by simp) rfl rfl (by simp)
      have hs : VarAt y (g 10) (.pointer none) 96 := hg1
      have hr : RepAt y (g 11) 0 ByteArray.empty := hg3
      have hsl : wr.heap.size ≤ g 10 := hg2
      have hrl : wr.heap.size ≤ g 11 := hg4
      simp only [RegL.putS, RegL.ptr, if_true]
      clear hF hg1 hg2 hg3 hg4
      generalize g 10 = gs1 at *
      generalize g 11 = gr1 at *
      have hr2 : RepAt (y.setCell ⟨gs1, 0, none⟩ (.pointer P1)) gr1 0 ByteArray.empty := hr.other hne
      have f0 := hs.cell
      have f1 := hs.thawed 0
      obtain ⟨f2, f3⟩ := hr2.cells
      have f4 := hr2.thawed 0
      have f5 := hr2.thawed 1
      have HZ1 := Lib.hid (st_end hs hr hne P1 0 ByteArray.empty)
      clear hs hr hr2
      refine RegK.can_frees (fun _ => trivial) ?_
      intro K K0 hK hK0
      go_simp
      refine hK (fun _ => True) _ _ trivial ?_
      clear hK K hK0 K0
      refine RegK.can_frees (fun _ => trivial) ?_
      intro K K0 hK hK0
      go_simp
      refine hK (fun _ => True) _ _ trivial ?_
      clear hK K hK0 K0
      refine RegK.can_nil ?_
      clear f0 f1 f2 f3 f4 f5
      change Exit.then _ _ _ _ (stW y gs1 gr1 P1 0 ByteArray.empty)
      generalize stW y gs1 gr1 P1 0 ByteArray.empty = w1 at *
      have HSa_1 := Lib.hid (show VarAt w1 w.heap.size (.pointer P) 96 from (HZ1.out.oth _ (by have := HSa.out.lt; omega) (by have := HSa.out.lt; omega)).trans (HSa.out.below (KeptW.bel hyk)))
      have HTa_1 := Lib.hid (HZ1.out.tree _ (HTa.out.below (KeptW.bel hyk)))
      have HSn_1 := Lib.hid HZ1.out.st
      have HTn_1 := Lib.hid (HZ1.out.tree _ (HX1.out.1.below (KeptW.bel hy)))
      have HEn_1 := Lib.hid (And.intro HP1.out (And.intro HX1.out.2.1 (show X1.cnt ≤ 257 from Nat.le_trans HX1.out.2.2.1 (by have := HEa.out.2.2; omega))))
      have HR4_1 := Lib.hid (And.intro HZ1.out.rep (show w.heap.size < gr1 by have := HSa.out.lt; have := HB.out.size; omega))
      have HB1 := Lib.hid (HZ1.out.bel _ _ (HB.out.trans (Below.mono (KeptW.bel hyk) HB.out.size)) (by have := HB.out.size; omega) (by have := HB.out.size; omega))
      clear HSa HTa HB HZ1 HX1 HP1 hyk hy hne hrl hxc hsl
      skip
      obtain ⟨e0, e1⟩ := HR4_1.out.1.cells
      have s0 := HSn_1.out.cell
      have s1 := HSa_1.out.thawed 0
      have a0 := HSa_1.out.cell
      go_wp2_with fail
      go_roundw
      case rel =>
        exact ⟨i + 1, X1, hi1, rfl, by have := HSa_1.out.set (x := .pointer X1.ptr); rwa [HEn_1.out.1] at this ⊢, TreeAt.setC HSa_1.out (by simp) HTn_1.out, by rw [HEn_1.out.2.1]; exact Hful'.out, below_setV HB1.out (Nat.le_refl _)⟩
      case measure => simp [intOf]; omega
    · have hlt' : ¬ (i : Int) < 256 := by omega
      obtain rfl : i = 256 := by omega
      obtain ⟨S, hS⟩ : ∃ S, T.sh = S := ⟨_, rfl⟩
      rw [hS] at Hful
      obtain ⟨ho1, U, ho2, hUn, V, ho3, hVn, SX, ho4, hXn⟩ := Hful.out.last
      have Ho1 := Lib.hid ho1; clear ho1
      have Ho2 := Lib.hid ho2; clear ho2
      have Ho3 := Lib.hid ho3; clear ho3
      have Ho4 := Lib.hid ho4; clear ho4
      have hcn : T.cnt ≤ 256 := by have := Hful.out.num; rw [← hS, ← sh_cnt] at this; omega
      have HEa := Lib.hid (And.intro HP.out (And.intro hS hcn))
      have HXn := Lib.hid hXn
      clear HP hS hcn Hful hUn hVn hXn
      go_upto_region 9 with fail
      refine (wpIn_wide (n := 1)).1 ?_
      refine RegL.wpIn_region_lays (F := Fence.wide) (KeptW wr) [⟨6, 5, .cells #[.pointer none] 96 (0, 0)⟩, ⟨7, 6, .cells (repCells 0 ByteArray.empty).toArray 98 (0, 0)⟩] [(0, 0), (1, 1), (2, 1), (3, 2), (4, 2), (5, 2), (8, 3), (9, 3)] (by kernel_rfl) (by kernel_rfl) (by kernel_rfl) (fun p hp => by simp only [List.mem_cons, List.not_mem_nil, or_false] at hp; rcases hp with rfl | rfl; exact lays_any laySt rfl; exact lays_any layRep rfl)
        (fun _ _ d _ _ h => by cases d <;> exact h) (fun _ _ d _ _ h => by cases d <;> exact h) ⟨rfl, rfl, rfl, Nat.le_refl _, fun _ _ => rfl⟩ (keptW_mono wr) ?_
      dsimp only [RegK.pick, List.getElem?_cons_zero, List.getElem?_cons_succ]
      refine RegL.reads ?_
      intro K hK
      go_simp
      refine ⟨.agg #[.pointer P], fun y hy => ?_, hK _ ?_⟩
      · have f0 := (HSa.out.below (KeptW.bel hy)).cell
        go_simp
      clear hK K
      refine RegL.adds (fun _ => trivial) ?_
      go_simp
      intro x hx K hK
      refine ⟨trivial, ?_⟩
      refine (callsIn_wide.2 (show Calls Try.prog 53 #[.int .u8 2, .string { data := #[111, 110, 101, 32, 109, 111, 114, 101] }, .string { data := #[] }, .string { data := #[118] }] x (fun e w' => e = .returned (.agg #[.int .u8 0, .int .u32 1, .int .u8 2, .string { data := #[111, 110, 101, 32, 109, 111, 114, 101] }, .string { data := #[] }, .string { data := #[118] }, .int .u8 0]) ∧ Below x.heap.size x w') from of_any 2 ⟨#[111, 110, 101, 32, 109, 111, 114, 101]⟩ ByteArray.empty ⟨#[118]⟩ x)).mono ?_
      rintro e xb2 ⟨rfl, hb⟩
      have hxb : KeptW wr xb2 := KeptW.mono hx hb
      refine hK (KeptW xb2) _ _ hb (fun y h => KeptW.mono (KeptW.mono hx hb) (KeptW.bel h)) (keptW_mono xb2) (Below.refl _ _) ?_
      clear hK K hb hx
      refine RegL.adds (fun _ => trivial) ?_
      go_simp
      intro x hx K hK
      refine ⟨trivial, ?_⟩
      have hxk : KeptW wr x := KeptW.mono hxb (KeptW.bel hx)
      have hd := do_any (ofC 2 ⟨#[111, 110, 101, 32, 109, 111, 114, 101]⟩ ByteArray.empty ⟨#[118]⟩) T x (HTa.out.below (KeptW.bel hxk)) (by have := HEa.out.2.2; omega)
      rw [HEa.out.1, HEa.out.2.1, show kvDo S (ofC 2 ⟨#[111, 110, 101, 32, 109, 111, 114, 101]⟩ ByteArray.empty ⟨#[118]⟩) = _ from Ho1.out] at hd
      refine (callsIn_wide.2 (show Calls Try.prog 52 #[.agg #[.pointer P], .agg #[.int .u8 0, .int .u32 1, .int .u8 2, .string { data := #[111, 110, 101, 32, 109, 111, 114, 101] }, .string { data := #[] }, .string { data := #[118] }, .int .u8 0]] x (fun e w' => ∃ X, e = .returned (.tuple #[.agg #[.pointer X.ptr], .agg #[.int .u8 2, .string { data := #[] }]]) ∧ KvPost T ⟨S, 2, ByteArray.empty⟩ _ x w' X) from hd)).mono ?_
      clear hd
      rintro e xc2 ⟨X2, rfl, hX⟩
      have hxc : KeptW wr xc2 := KeptW.mono hxk hX.bel
      refine hK (KeptW xc2) _ _ hX.bel (fun y h => KeptW.mono (KeptW.mono hx hX.bel) (KeptW.bel h)) (keptW_mono xc2) (Below.refl _ _) ?_
      have HX2 := Lib.hid (And.intro hX.at_ (And.intro hX.shp (And.intro hX.num hX.keep)))
      clear hK K hX hx hxk hxb
      obtain ⟨P2, hP2⟩ : ∃ P, X2.ptr = P := ⟨_, rfl⟩
      rw [hP2]
      have HP2 := Lib.hid hP2; clear hP2
      iterate 3 (refine RegL.pures ?_; intro K hK; go_simp; (first | (refine ⟨_, fun _ => rfl, hK _ ?_⟩) | (refine hK _ ?_)); clear hK K)
      refine RegL.last ?_
      intro g y hF hy
      have hyk : KeptW wr y := KeptW.mono hxc (KeptW.bel hy)
      obtain ⟨hg1, hg2⟩ := hF.1 ⟨6, 5, .cells #[.pointer none] 96 (0, 0)⟩ (by simp) rfl
      obtain ⟨hg3, hg4⟩ := hF.1 ⟨7, 6, .cells (repCells 0 ByteArray.empty).toArray 98 (0, 0)⟩ (by simp) rfl
      have hne : g 7 ≠ g 6 := hF.2 ⟨7, 6, .cells (repCells 0 ByteArray.empty).toArray 98 (0, 0)⟩ (by simp) ⟨6, 5, .cells #[.pointer none] 96 (0, 0)⟩ (by simp) rfl rfl (by simp)
      have hs : VarAt y (g 6) (.pointer none) 96 := hg1
      have hr : RepAt y (g 7) 0 ByteArray.empty := hg3
      have hsl : wr.heap.size ≤ g 6 := hg2
      have hrl : wr.heap.size ≤ g 7 := hg4
      simp only [RegL.putS, RegL.ptr, if_true]
      clear hF hg1 hg2 hg3 hg4
      generalize g 6 = gs2 at *
      generalize g 7 = gr2 at *
      have hr2 : RepAt (y.setCell ⟨gs2, 0, none⟩ (.pointer P2)) gr2 0 ByteArray.empty := hr.other hne
      have f0 := hs.cell
      have f1 := hs.thawed 0
      obtain ⟨f2, f3⟩ := hr2.cells
      have f4 := hr2.thawed 0
      have f5 := hr2.thawed 1
      have HZ2 := Lib.hid (st_end hs hr hne P2 2 ByteArray.empty)
      clear hs hr hr2
      refine RegK.can_frees (fun _ => trivial) ?_
      intro K K0 hK hK0
      go_simp
      refine hK (fun _ => True) _ _ trivial ?_
      clear hK K hK0 K0
      refine RegK.can_frees (fun _ => trivial) ?_
      intro K K0 hK hK0
      go_simp
      refine hK (fun _ => True) _ _ trivial ?_
      clear hK K hK0 K0
      refine RegK.can_nil ?_
      clear f0 f1 f2 f3 f4 f5
      change Exit.then _ _ _ _ (stW y gs2 gr2 P2 2 ByteArray.empty)
      generalize stW y gs2 gr2 P2 2 ByteArray.empty = w2 at *
      have HSa_2 := Lib.hid (show VarAt w2 w.heap.size (.pointer P) 96 from (HZ2.out.oth _ (by have := HSa.out.lt; omega) (by have := HSa.out.lt; omega)).trans (HSa.out.below (KeptW.bel hyk)))
      have HTa_2 := Lib.hid (HZ2.out.tree _ (HTa.out.below (KeptW.bel hyk)))
      have HSb_2 := Lib.hid HZ2.out.st
      have HTb_2 := Lib.hid (HZ2.out.tree _ (HX2.out.1.below (KeptW.bel hy)))
      have HEb_2 := Lib.hid (And.intro HP2.out (And.intro HX2.out.2.1 (show X2.cnt ≤ 257 from Nat.le_trans HX2.out.2.2.1 (by have := HEa.out.2.2; omega))))
      have HR6_2 := Lib.hid (And.intro HZ2.out.rep (show w.heap.size < gr2 by have := HSa.out.lt; have := HB.out.size; omega))
      have HB2 := Lib.hid (HZ2.out.bel _ _ (HB.out.trans (Below.mono (KeptW.bel hyk) HB.out.size)) (by have := HB.out.size; omega) (by have := HB.out.size; omega))
      have HPP := Lib.hid (show P2 = P from by rw [← HP2.out, HX2.out.2.2.2 rfl]; exact HEa.out.1)
      clear HSa HTa HB HZ2 HX2 HP2 hyk hy hne hrl hxc hsl
      skip
      go_upto_region 10 with fail
      refine (wpIn_wide (n := 1)).1 ?_
      refine RegL.wpIn_region_lays (F := Fence.wide) (KeptW w2) [⟨6, 7, .cells #[.pointer none] 96 (0, 0)⟩, ⟨7, 8, .cells (repCells 0 ByteArray.empty).toArray 98 (0, 0)⟩] [(0, 0), (1, 1), (2, 1), (3, 2), (4, 2), (5, 2), (8, 3), (9, 3)] (by kernel_rfl) (by kernel_rfl) (by kernel_rfl) (fun p hp => by simp only [List.mem_cons, List.not_mem_nil, or_false] at hp; rcases hp with rfl | rfl; exact lays_any laySt rfl; exact lays_any layRep rfl)
        (fun _ _ d _ _ h => by cases d <;> exact h) (fun _ _ d _ _ h => by cases d <;> exact h) ⟨rfl, rfl, rfl, Nat.le_refl _, fun _ _ => rfl⟩ (keptW_mono w2) ?_
      dsimp only [RegK.pick, List.getElem?_cons_zero, List.getElem?_cons_succ]
      refine RegL.reads ?_
      intro K hK
      go_simp
      refine ⟨.agg #[.pointer P], fun y hy => ?_, hK _ ?_⟩
      · have f0 := (HSa_2.out.below (KeptW.bel hy)).cell
        go_simp
      clear hK K
      refine RegL.adds (fun _ => trivial) ?_
      go_simp
      intro x hx K hK
      refine ⟨trivial, ?_⟩
      refine (callsIn_wide.2 (show Calls Try.prog 53 #[.int .u8 2, .string { data := #[107, 7] }, .string { data := #[] }, .string { data := #[119] }] x (fun e w' => e = .returned (.agg #[.int .u8 0, .int .u32 1, .int .u8 2, .string { data := #[107, 7] }, .string { data := #[] }, .string { data := #[119] }, .int .u8 0]) ∧ Below x.heap.size x w') from of_any 2 ⟨#[107, 7]⟩ ByteArray.empty ⟨#[119]⟩ x)).mono ?_
      rintro e xb3 ⟨rfl, hb⟩
      have hxb : KeptW w2 xb3 := KeptW.mono hx hb
      refine hK (KeptW xb3) _ _ hb (fun y h => KeptW.mono (KeptW.mono hx hb) (KeptW.bel h)) (keptW_mono xb3) (Below.refl _ _) ?_
      clear hK K hb hx
      refine RegL.adds (fun _ => trivial) ?_
      go_simp
      intro x hx K hK
      refine ⟨trivial, ?_⟩
      have hxk : KeptW w2 x := KeptW.mono hxb (KeptW.bel hx)
      have hd := do_any (ofC 2 ⟨#[107, 7]⟩ ByteArray.empty ⟨#[119]⟩) T x (HTa_2.out.below (KeptW.bel hxk)) (by have := HEa.out.2.2; omega)
      rw [HEa.out.1, HEa.out.2.1, show kvDo S (ofC 2 ⟨#[107, 7]⟩ ByteArray.empty ⟨#[119]⟩) = _ from Ho2.out] at hd
      refine (callsIn_wide.2 (show Calls Try.prog 52 #[.agg #[.pointer P], .agg #[.int .u8 0, .int .u32 1, .int .u8 2, .string { data := #[107, 7] }, .string { data := #[] }, .string { data := #[119] }, .int .u8 0]] x (fun e w' => ∃ X, e = .returned (.tuple #[.agg #[.pointer X.ptr], .agg #[.int .u8 0, .string { data := #[] }]]) ∧ KvPost T ⟨U, 0, ByteArray.empty⟩ _ x w' X) from hd)).mono ?_
      clear hd
      rintro e xc3 ⟨X3, rfl, hX⟩
      have hxc : KeptW w2 xc3 := KeptW.mono hxk hX.bel
      refine hK (KeptW xc3) _ _ hX.bel (fun y h => KeptW.mono (KeptW.mono hx hX.bel) (KeptW.bel h)) (keptW_mono xc3) (Below.refl _ _) ?_
      have HX3 := Lib.hid (And.intro hX.at_ (And.intro hX.shp (And.intro hX.num hX.keep)))
      clear hK K hX hx hxk hxb
      obtain ⟨P3, hP3⟩ : ∃ P, X3.ptr = P := ⟨_, rfl⟩
      rw [hP3]
      have HP3 := Lib.hid hP3; clear hP3
      iterate 3 (refine RegL.pures ?_; intro K hK; go_simp; (first | (refine ⟨_, fun _ => rfl, hK _ ?_⟩) | (refine hK _ ?_)); clear hK K)
      refine RegL.last ?_
      intro g y hF hy
      have hyk : KeptW w2 y := KeptW.mono hxc (KeptW.bel hy)
      obtain ⟨hg1, hg2⟩ := hF.1 ⟨6, 7, .cells #[.pointer none] 96 (0, 0)⟩ (by simp) rfl
      obtain ⟨hg3, hg4⟩ := hF.1 ⟨7, 8, .cells (repCells 0 ByteArray.empty).toArray 98 (0, 0)⟩ (by simp) rfl
      have hne : g 7 ≠ g 6 := hF.2 ⟨7, 8, .cells (repCells 0 ByteArray.empty).toArray 98 (0, 0)⟩ (by simp) ⟨6, 7, .cells #[.pointer none] 96 (0, 0)⟩ (by simp) rfl rfl (by simp)
      have hs : VarAt y (g 6) (.pointer none) 96 := hg1
      have hr : RepAt y (g 7) 0 ByteArray.empty := hg3
      have hsl : w2.heap.size ≤ g 6 := hg2
      have hrl : w2.heap.size ≤ g 7 := hg4
      simp only [RegL.putS, RegL.ptr, if_true]
      clear hF hg1 hg2 hg3 hg4
      generalize g 6 = gs3 at *
      generalize g 7 = gr3 at *
      have hr2 : RepAt (y.setCell ⟨gs3, 0, none⟩ (.pointer P3)) gr3 0 ByteArray.empty := hr.other hne
      have f0 := hs.cell
      have f1 := hs.thawed 0
      obtain ⟨f2, f3⟩ := hr2.cells
      have f4 := hr2.thawed 0
      have f5 := hr2.thawed 1
      have HZ3 := Lib.hid (st_end hs hr hne P3 0 ByteArray.empty)
      clear hs hr hr2
      refine RegK.can_frees (fun _ => trivial) ?_
      intro K K0 hK hK0
      go_simp
      refine hK (fun _ => True) _ _ trivial ?_
      clear hK K hK0 K0
      refine RegK.can_frees (fun _ => trivial) ?_
      intro K K0 hK hK0
      go_simp
      refine hK (fun _ => True) _ _ trivial ?_
      clear hK K hK0 K0
      refine RegK.can_nil ?_
      clear f0 f1 f2 f3 f4 f5
      change Exit.then _ _ _ _ (stW y gs3 gr3 P3 0 ByteArray.empty)
      generalize stW y gs3 gr3 P3 0 ByteArray.empty = w3 at *
      have HSa_2_3 := Lib.hid (show VarAt w3 w.heap.size (.pointer P) 96 from (HZ3.out.oth _ (by have := HSa_2.out.lt; omega) (by have := HSa_2.out.lt; omega)).trans (HSa_2.out.below (KeptW.bel hyk)))
      have HTa_2_3 := Lib.hid (HZ3.out.tree _ (HTa_2.out.below (KeptW.bel hyk)))
      have HSb_2_3 := Lib.hid (show VarAt w3 gs2 (.pointer P2) 96 from (HZ3.out.oth _ (by have := HSb_2.out.lt; omega) (by have := HSb_2.out.lt; omega)).trans (HSb_2.out.below (KeptW.bel hyk)))
      have HTb_2_3 := Lib.hid (HZ3.out.tree _ (HTb_2.out.below (KeptW.bel hyk)))
      have HR6_2_3 := Lib.hid (And.intro (show RepAt w3 gr2 2 ByteArray.empty from (HZ3.out.oth _ (by have := HR6_2.out.1.lt; omega) (by have := HR6_2.out.1.lt; omega)).trans (HR6_2.out.1.below (KeptW.bel hyk))) HR6_2.out.2)
      have HSc_3 := Lib.hid HZ3.out.st
      have HTc_3 := Lib.hid (HZ3.out.tree _ (HX3.out.1.below (KeptW.bel hy)))
      have HEc_3 := Lib.hid (And.intro HP3.out (And.intro HX3.out.2.1 (show X3.cnt ≤ 257 from Nat.le_trans HX3.out.2.2.1 (by have := HEa.out.2.2; omega))))
      have HR8_3 := Lib.hid (And.intro HZ3.out.rep (show w.heap.size < gr3 by have := HSa_2.out.lt; have := HB2.out.size; omega))
      have HB3 := Lib.hid (HZ3.out.bel _ _ (HB2.out.trans (Below.mono (KeptW.bel hyk) HB2.out.size)) (by have := HB2.out.size; omega) (by have := HB2.out.size; omega))
      clear HSa_2 HTa_2 HSb_2 HTb_2 HR6_2 HB2 HZ3 HX3 HP3 hyk hy hne hrl hxc hsl
      skip
      go_upto_region 11 with fail
      refine (wpIn_wide (n := 1)).1 ?_
      refine RegL.wpIn_region_lays (F := Fence.wide) (KeptW w3) [⟨6, 9, .cells #[.pointer none] 96 (0, 0)⟩, ⟨7, 10, .cells (repCells 0 ByteArray.empty).toArray 98 (0, 0)⟩] [(0, 0), (1, 1), (2, 1), (3, 2), (4, 2), (5, 2), (8, 3), (9, 3)] (by kernel_rfl) (by kernel_rfl) (by kernel_rfl) (fun p hp => by simp only [List.mem_cons, List.not_mem_nil, or_false] at hp; rcases hp with rfl | rfl; exact lays_any laySt rfl; exact lays_any layRep rfl)
        (fun _ _ d _ _ h => by cases d <;> exact h) (fun _ _ d _ _ h => by cases d <;> exact h) ⟨rfl, rfl, rfl, Nat.le_refl _, fun _ _ => rfl⟩ (keptW_mono w3) ?_
      dsimp only [RegK.pick, List.getElem?_cons_zero, List.getElem?_cons_succ]
      refine RegL.reads ?_
      intro K hK
      go_simp
      refine ⟨.agg #[.pointer P3], fun y hy => ?_, hK _ ?_⟩
      · have f0 := (HSc_3.out.below (KeptW.bel hy)).cell
        go_simp
      clear hK K
      refine RegL.adds (fun _ => trivial) ?_
      go_simp
      intro x hx K hK
      refine ⟨trivial, ?_⟩
      refine (callsIn_wide.2 (show Calls Try.prog 53 #[.int .u8 3, .string { data := #[107, 7] }, .string { data := #[] }, .string { data := #[] }] x (fun e w' => e = .returned (.agg #[.int .u8 0, .int .u32 1, .int .u8 3, .string { data := #[107, 7] }, .string { data := #[] }, .string { data := #[] }, .int .u8 0]) ∧ Below x.heap.size x w') from of_any 3 ⟨#[107, 7]⟩ ByteArray.empty ByteArray.empty x)).mono ?_
      rintro e xb4 ⟨rfl, hb⟩
      have hxb : KeptW w3 xb4 := KeptW.mono hx hb
      refine hK (KeptW xb4) _ _ hb (fun y h => KeptW.mono (KeptW.mono hx hb) (KeptW.bel h)) (keptW_mono xb4) (Below.refl _ _) ?_
      clear hK K hb hx
      refine RegL.adds (fun _ => trivial) ?_
      go_simp
      intro x hx K hK
      refine ⟨trivial, ?_⟩
      have hxk : KeptW w3 x := KeptW.mono hxb (KeptW.bel hx)
      have hd := do_any (ofC 3 ⟨#[107, 7]⟩ ByteArray.empty ByteArray.empty) X3 x (HTc_3.out.below (KeptW.bel hxk)) (by have := HEc_3.out.2.2; omega)
      rw [HEc_3.out.1, HEc_3.out.2.1, show kvDo U (ofC 3 ⟨#[107, 7]⟩ ByteArray.empty ByteArray.empty) = _ from Ho3.out] at hd
      refine (callsIn_wide.2 (show Calls Try.prog 52 #[.agg #[.pointer P3], .agg #[.int .u8 0, .int .u32 1, .int .u8 3, .string { data := #[107, 7] }, .string { data := #[] }, .string { data := #[] }, .int .u8 0]] x (fun e w' => ∃ X, e = .returned (.tuple #[.agg #[.pointer X.ptr], .agg #[.int .u8 0, .string { data := #[119] }]]) ∧ KvPost X3 ⟨V, 0, ⟨#[119]⟩⟩ _ x w' X) from hd)).mono ?_
      clear hd
      rintro e xc4 ⟨X4, rfl, hX⟩
      have hxc : KeptW w3 xc4 := KeptW.mono hxk hX.bel
      refine hK (KeptW xc4) _ _ hX.bel (fun y h => KeptW.mono (KeptW.mono hx hX.bel) (KeptW.bel h)) (keptW_mono xc4) (Below.refl _ _) ?_
      have HX4 := Lib.hid (And.intro hX.at_ (And.intro hX.shp (And.intro hX.num hX.keep)))
      clear hK K hX hx hxk hxb
      obtain ⟨P4, hP4⟩ : ∃ P, X4.ptr = P := ⟨_, rfl⟩
      rw [hP4]
      have HP4 := Lib.hid hP4; clear hP4
      iterate 3 (refine RegL.pures ?_; intro K hK; go_simp; (first | (refine ⟨_, fun _ => rfl, hK _ ?_⟩) | (refine hK _ ?_)); clear hK K)
      refine RegL.last ?_
      intro g y hF hy
      have hyk : KeptW w3 y := KeptW.mono hxc (KeptW.bel hy)
      obtain ⟨hg1, hg2⟩ := hF.1 ⟨6, 9, .cells #[.pointer none] 96 (0, 0)⟩ (by simp) rfl
      obtain ⟨hg3, hg4⟩ := hF.1 ⟨7, 10, .cells (repCells 0 ByteArray.empty).toArray 98 (0, 0)⟩ (by simp) rfl
      have hne : g 7 ≠ g 6 := hF.2 ⟨7, 10, .cells (repCells 0 ByteArray.empty).toArray 98 (0, 0)⟩ (by simp) ⟨6, 9, .cells #[.pointer none] 96 (0, 0)⟩ (by simp) rfl rfl (by simp)
      have hs : VarAt y (g 6) (.pointer none) 96 := hg1
      have hr : RepAt y (g 7) 0 ByteArray.empty := hg3
      have hsl : w3.heap.size ≤ g 6 := hg2
      have hrl : w3.heap.size ≤ g 7 := hg4
      simp only [RegL.putS, RegL.ptr, if_true]
      clear hF hg1 hg2 hg3 hg4
      generalize g 6 = gs4 at *
      generalize g 7 = gr4 at *
      have hr2 : RepAt (y.setCell ⟨gs4, 0, none⟩ (.pointer P4)) gr4 0 ByteArray.empty := hr.other hne
      have f0 := hs.cell
      have f1 := hs.thawed 0
      obtain ⟨f2, f3⟩ := hr2.cells
      have f4 := hr2.thawed 0
      have f5 := hr2.thawed 1
      have HZ4 := Lib.hid (st_end hs hr hne P4 0 ⟨#[119]⟩)
      clear hs hr hr2
      refine RegK.can_frees (fun _ => trivial) ?_
      intro K K0 hK hK0
      go_simp
      refine hK (fun _ => True) _ _ trivial ?_
      clear hK K hK0 K0
      refine RegK.can_frees (fun _ => trivial) ?_
      intro K K0 hK hK0
      go_simp
      refine hK (fun _ => True) _ _ trivial ?_
      clear hK K hK0 K0
      refine RegK.can_nil ?_
      clear f0 f1 f2 f3 f4 f5
      change Exit.then _ _ _ _ (stW y gs4 gr4 P4 0 ⟨#[119]⟩)
      generalize stW y gs4 gr4 P4 0 ⟨#[119]⟩ = w4 at *
      have HSa_2_3_4 := Lib.hid (show VarAt w4 w.heap.size (.pointer P) 96 from (HZ4.out.oth _ (by have := HSa_2_3.out.lt; omega) (by have := HSa_2_3.out.lt; omega)).trans (HSa_2_3.out.below (KeptW.bel hyk)))
      have HTa_2_3_4 := Lib.hid (HZ4.out.tree _ (HTa_2_3.out.below (KeptW.bel hyk)))
      have HSb_2_3_4 := Lib.hid (show VarAt w4 gs2 (.pointer P2) 96 from (HZ4.out.oth _ (by have := HSb_2_3.out.lt; omega) (by have := HSb_2_3.out.lt; omega)).trans (HSb_2_3.out.below (KeptW.bel hyk)))
      have HTb_2_3_4 := Lib.hid (HZ4.out.tree _ (HTb_2_3.out.below (KeptW.bel hyk)))
      have HSc_3_4 := Lib.hid (show VarAt w4 gs3 (.pointer P3) 96 from (HZ4.out.oth _ (by have := HSc_3.out.lt; omega) (by have := HSc_3.out.lt; omega)).trans (HSc_3.out.below (KeptW.bel hyk)))
      have HTc_3_4 := Lib.hid (HZ4.out.tree _ (HTc_3.out.below (KeptW.bel hyk)))
      have HR6_2_3_4 := Lib.hid (And.intro (show RepAt w4 gr2 2 ByteArray.empty from (HZ4.out.oth _ (by have := HR6_2_3.out.1.lt; omega) (by have := HR6_2_3.out.1.lt; omega)).trans (HR6_2_3.out.1.below (KeptW.bel hyk))) HR6_2_3.out.2)
      have HR8_3_4 := Lib.hid (And.intro (show RepAt w4 gr3 0 ByteArray.empty from (HZ4.out.oth _ (by have := HR8_3.out.1.lt; omega) (by have := HR8_3.out.1.lt; omega)).trans (HR8_3.out.1.below (KeptW.bel hyk))) HR8_3.out.2)
      have HSd_4 := Lib.hid HZ4.out.st
      have HTd_4 := Lib.hid (HZ4.out.tree _ (HX4.out.1.below (KeptW.bel hy)))
      have HEd_4 := Lib.hid (And.intro HP4.out (And.intro HX4.out.2.1 (show X4.cnt ≤ 258 from Nat.le_trans HX4.out.2.2.1 (by have := HEc_3.out.2.2; omega))))
      have HR10_4 := Lib.hid (And.intro HZ4.out.rep (show w.heap.size < gr4 by have := HSa_2_3.out.lt; have := HB3.out.size; omega))
      have HB4 := Lib.hid (HZ4.out.bel _ _ (HB3.out.trans (Below.mono (KeptW.bel hyk) HB3.out.size)) (by have := HB3.out.size; omega) (by have := HB3.out.size; omega))
      clear HSa_2_3 HTa_2_3 HSb_2_3 HTb_2_3 HSc_3 HTc_3 HR6_2_3 HR8_3 HB3 HZ4 HX4 HP4 hyk hy hne hrl hxc hsl
      skip
      go_upto_region 12 with fail
      refine (wpIn_wide (n := 1)).1 ?_
      refine RegL.wpIn_region_lays (F := Fence.wide) (KeptW w4) [⟨6, 11, .cells #[.pointer none] 96 (0, 0)⟩, ⟨7, 12, .cells (repCells 0 ByteArray.empty).toArray 98 (0, 0)⟩] [(0, 0), (1, 1), (2, 1), (3, 2), (4, 2), (5, 2), (8, 3), (9, 3)] (by kernel_rfl) (by kernel_rfl) (by kernel_rfl) (fun p hp => by simp only [List.mem_cons, List.not_mem_nil, or_false] at hp; rcases hp with rfl | rfl; exact lays_any laySt rfl; exact lays_any layRep rfl)
        (fun _ _ d _ _ h => by cases d <;> exact h) (fun _ _ d _ _ h => by cases d <;> exact h) ⟨rfl, rfl, rfl, Nat.le_refl _, fun _ _ => rfl⟩ (keptW_mono w4) ?_
      dsimp only [RegK.pick, List.getElem?_cons_zero, List.getElem?_cons_succ]
      refine RegL.reads ?_
      intro K hK
      go_simp
      refine ⟨.agg #[.pointer P4], fun y hy => ?_, hK _ ?_⟩
      · have f0 := (HSd_4.out.below (KeptW.bel hy)).cell
        go_simp
      clear hK K
      refine RegL.adds (fun _ => trivial) ?_
      go_simp
      intro x hx K hK
      refine ⟨trivial, ?_⟩
      refine (callsIn_wide.2 (show Calls Try.prog 53 #[.int .u8 2, .string { data := #[111, 110, 101, 32, 109, 111, 114, 101] }, .string { data := #[] }, .string { data := #[118] }] x (fun e w' => e = .returned (.agg #[.int .u8 0, .int .u32 1, .int .u8 2, .string { data := #[111, 110, 101, 32, 109, 111, 114, 101] }, .string { data := #[] }, .string { data := #[118] }, .int .u8 0]) ∧ Below x.heap.size x w') from of_any 2 ⟨#[111, 110, 101, 32, 109, 111, 114, 101]⟩ ByteArray.empty ⟨#[118]⟩ x)).mono ?_
      rintro e xb5 ⟨rfl, hb⟩
      have hxb : KeptW w4 xb5 := KeptW.mono hx hb
      refine hK (KeptW xb5) _ _ hb (fun y h => KeptW.mono (KeptW.mono hx hb) (KeptW.bel h)) (keptW_mono xb5) (Below.refl _ _) ?_
      clear hK K hb hx
      refine RegL.adds (fun _ => trivial) ?_
      go_simp
      intro x hx K hK
      refine ⟨trivial, ?_⟩
      have hxk : KeptW w4 x := KeptW.mono hxb (KeptW.bel hx)
      have hd := do_any (ofC 2 ⟨#[111, 110, 101, 32, 109, 111, 114, 101]⟩ ByteArray.empty ⟨#[118]⟩) X4 x (HTd_4.out.below (KeptW.bel hxk)) (by have := HEd_4.out.2.2; omega)
      rw [HEd_4.out.1, HEd_4.out.2.1, show kvDo V (ofC 2 ⟨#[111, 110, 101, 32, 109, 111, 114, 101]⟩ ByteArray.empty ⟨#[118]⟩) = _ from Ho4.out] at hd
      refine (callsIn_wide.2 (show Calls Try.prog 52 #[.agg #[.pointer P4], .agg #[.int .u8 0, .int .u32 1, .int .u8 2, .string { data := #[111, 110, 101, 32, 109, 111, 114, 101] }, .string { data := #[] }, .string { data := #[118] }, .int .u8 0]] x (fun e w' => ∃ X, e = .returned (.tuple #[.agg #[.pointer X.ptr], .agg #[.int .u8 0, .string { data := #[] }]]) ∧ KvPost X4 ⟨SX, 0, ByteArray.empty⟩ _ x w' X) from hd)).mono ?_
      clear hd
      rintro e xc5 ⟨X5, rfl, hX⟩
      have hxc : KeptW w4 xc5 := KeptW.mono hxk hX.bel
      refine hK (KeptW xc5) _ _ hX.bel (fun y h => KeptW.mono (KeptW.mono hx hX.bel) (KeptW.bel h)) (keptW_mono xc5) (Below.refl _ _) ?_
      have HX5 := Lib.hid (And.intro hX.at_ (And.intro hX.shp (And.intro hX.num hX.keep)))
      clear hK K hX hx hxk hxb
      obtain ⟨P5, hP5⟩ : ∃ P, X5.ptr = P := ⟨_, rfl⟩
      rw [hP5]
      have HP5 := Lib.hid hP5; clear hP5
      iterate 3 (refine RegL.pures ?_; intro K hK; go_simp; (first | (refine ⟨_, fun _ => rfl, hK _ ?_⟩) | (refine hK _ ?_)); clear hK K)
      refine RegL.last ?_
      intro g y hF hy
      have hyk : KeptW w4 y := KeptW.mono hxc (KeptW.bel hy)
      obtain ⟨hg1, hg2⟩ := hF.1 ⟨6, 11, .cells #[.pointer none] 96 (0, 0)⟩ (by simp) rfl
      obtain ⟨hg3, hg4⟩ := hF.1 ⟨7, 12, .cells (repCells 0 ByteArray.empty).toArray 98 (0, 0)⟩ (by simp) rfl
      have hne : g 7 ≠ g 6 := hF.2 ⟨7, 12, .cells (repCells 0 ByteArray.empty).toArray 98 (0, 0)⟩ (by simp) ⟨6, 11, .cells #[.pointer none] 96 (0, 0)⟩ (by simp) rfl rfl (by simp)
      have hs : VarAt y (g 6) (.pointer none) 96 := hg1
      have hr : RepAt y (g 7) 0 ByteArray.empty := hg3
      have hsl : w4.heap.size ≤ g 6 := hg2
      have hrl : w4.heap.size ≤ g 7 := hg4
      simp only [RegL.putS, RegL.ptr, if_true]
      clear hF hg1 hg2 hg3 hg4
      generalize g 6 = gs5 at *
      generalize g 7 = gr5 at *
      have hr2 : RepAt (y.setCell ⟨gs5, 0, none⟩ (.pointer P5)) gr5 0 ByteArray.empty := hr.other hne
      have f0 := hs.cell
      have f1 := hs.thawed 0
      obtain ⟨f2, f3⟩ := hr2.cells
      have f4 := hr2.thawed 0
      have f5 := hr2.thawed 1
      have HZ5 := Lib.hid (st_end hs hr hne P5 0 ByteArray.empty)
      clear hs hr hr2
      refine RegK.can_frees (fun _ => trivial) ?_
      intro K K0 hK hK0
      go_simp
      refine hK (fun _ => True) _ _ trivial ?_
      clear hK K hK0 K0
      refine RegK.can_frees (fun _ => trivial) ?_
      intro K K0 hK hK0
      go_simp
      refine hK (fun _ => True) _ _ trivial ?_
      clear hK K hK0 K0
      refine RegK.can_nil ?_
      clear f0 f1 f2 f3 f4 f5
      change Exit.then _ _ _ _ (stW y gs5 gr5 P5 0 ByteArray.empty)
      generalize stW y gs5 gr5 P5 0 ByteArray.empty = w5 at *
      have HSa_2_3_4_5 := Lib.hid (show VarAt w5 w.heap.size (.pointer P) 96 from (HZ5.out.oth _ (by have := HSa_2_3_4.out.lt; omega) (by have := HSa_2_3_4.out.lt; omega)).trans (HSa_2_3_4.out.below (KeptW.bel hyk)))
      have HTa_2_3_4_5 := Lib.hid (HZ5.out.tree _ (HTa_2_3_4.out.below (KeptW.bel hyk)))
      have HSb_2_3_4_5 := Lib.hid (show VarAt w5 gs2 (.pointer P2) 96 from (HZ5.out.oth _ (by have := HSb_2_3_4.out.lt; omega) (by have := HSb_2_3_4.out.lt; omega)).trans (HSb_2_3_4.out.below (KeptW.bel hyk)))
      have HTb_2_3_4_5 := Lib.hid (HZ5.out.tree _ (HTb_2_3_4.out.below (KeptW.bel hyk)))
      have HSc_3_4_5 := Lib.hid (show VarAt w5 gs3 (.pointer P3) 96 from (HZ5.out.oth _ (by have := HSc_3_4.out.lt; omega) (by have := HSc_3_4.out.lt; omega)).trans (HSc_3_4.out.below (KeptW.bel hyk)))
      have HTc_3_4_5 := Lib.hid (HZ5.out.tree _ (HTc_3_4.out.below (KeptW.bel hyk)))
      have HSd_4_5 := Lib.hid (show VarAt w5 gs4 (.pointer P4) 96 from (HZ5.out.oth _ (by have := HSd_4.out.lt; omega) (by have := HSd_4.out.lt; omega)).trans (HSd_4.out.below (KeptW.bel hyk)))
      have HTd_4_5 := Lib.hid (HZ5.out.tree _ (HTd_4.out.below (KeptW.bel hyk)))
      have HR6_2_3_4_5 := Lib.hid (And.intro (show RepAt w5 gr2 2 ByteArray.empty from (HZ5.out.oth _ (by have := HR6_2_3_4.out.1.lt; omega) (by have := HR6_2_3_4.out.1.lt; omega)).trans (HR6_2_3_4.out.1.below (KeptW.bel hyk))) HR6_2_3_4.out.2)
      have HR8_3_4_5 := Lib.hid (And.intro (show RepAt w5 gr3 0 ByteArray.empty from (HZ5.out.oth _ (by have := HR8_3_4.out.1.lt; omega) (by have := HR8_3_4.out.1.lt; omega)).trans (HR8_3_4.out.1.below (KeptW.bel hyk))) HR8_3_4.out.2)
      have HR10_4_5 := Lib.hid (And.intro (show RepAt w5 gr4 0 ⟨#[119]⟩ from (HZ5.out.oth _ (by have := HR10_4.out.1.lt; omega) (by have := HR10_4.out.1.lt; omega)).trans (HR10_4.out.1.below (KeptW.bel hyk))) HR10_4.out.2)
      have HSe_5 := Lib.hid HZ5.out.st
      have HTe_5 := Lib.hid (HZ5.out.tree _ (HX5.out.1.below (KeptW.bel hy)))
      have HEe_5 := Lib.hid (And.intro HP5.out (And.intro HX5.out.2.1 (show X5.cnt ≤ 259 from Nat.le_trans HX5.out.2.2.1 (by have := HEd_4.out.2.2; omega))))
      have HR12_5 := Lib.hid (And.intro HZ5.out.rep (show w.heap.size < gr5 by have := HSa_2_3_4.out.lt; have := HB4.out.size; omega))
      have HB5 := Lib.hid (HZ5.out.bel _ _ (HB4.out.trans (Below.mono (KeptW.bel hyk) HB4.out.size)) (by have := HB4.out.size; omega) (by have := HB4.out.size; omega))
      clear HSa_2_3_4 HTa_2_3_4 HSb_2_3_4 HTb_2_3_4 HSc_3_4 HTc_3_4 HSd_4 HTd_4 HR6_2_3_4 HR8_3_4 HR10_4 HB4 HZ5 HX5 HP5 hyk hy hne hrl hxc hsl
      skip
      go_upto_region 13 with fail
      obtain rfl : P2 = P := HPP.out
      have Hcn := Lib.hid (show (X5.cnt : Int) = 256 by have h1 := HXn.out; rw [← (show X5.sh = SX from HEe_5.out.2.1), ← sh_cnt] at h1; omega)
      refine (wpIn_wide (n := 1)).1 ?_
      refine RegK.wpIn_region_can (F := Fence.wide) (KeptW w5) [(0, 0), (1, 0), (2, 0), (3, 0), (4, 0), (6, 0), (5, 1), (7, 1), (8, 0), (9, 0), (10, 0), (11, 0), (12, 0), (13, 0), (14, 0), (15, 0), (16, 0), (17, 0), (18, 0), (19, 0), (20, 0), (21, 0), (22, 0), (23, 0), (24, 0), (25, 0), (26, 0), (27, 1), (28, 1), (29, 0), (30, 0), (31, 0), (32, 1), (33, 0), (34, 0)] (by kernel_rfl) (by kernel_rfl) (by kernel_rfl) (fun _ _ d _ _ h => by cases d <;> exact h) ⟨rfl, rfl, rfl, Nat.le_refl _, fun _ _ => rfl⟩ ?_
      dsimp only [RegK.pick, List.getElem?_cons_zero, List.getElem?_cons_succ]
      change RegK.Can _ _ _ _ _ _ _ _ w5.drew
      have hkd : KeptW w5 w5.drew := ⟨rfl, rfl, rfl, Nat.le_refl _, fun _ _ => rfl⟩
      iterate 1 (refine RegK.can_reads ?_; intro K hK; go_simp; (first | (refine ⟨_, fun _ _ => rfl, hK _ ?_⟩) | (refine hK _ ?_)); clear hK K)
      refine RegK.can_reads ?_
      intro K hK
      go_simp
      refine ⟨.int .u8 2, fun y hy => ?_, hK _ ?_⟩
      · have f0 := (HR6_2_3_4_5.out.1.below (KeptW.bel hy)).cells.1
        go_simp
      clear hK K
      iterate 2 (refine RegK.can_reads ?_; intro K hK; go_simp; (first | (refine ⟨_, fun _ _ => rfl, hK _ ?_⟩) | (refine hK _ ?_)); clear hK K)
      refine RegK.can_reads ?_
      intro K hK
      go_simp
      refine ⟨.agg #[.pointer P2], fun y hy => ?_, hK _ ?_⟩
      · have f0 := (HSb_2_3_4_5.out.below (KeptW.bel hy)).cell
        go_simp
      clear hK K
      refine RegK.can_reads ?_
      intro K hK
      go_simp
      refine ⟨.agg #[.pointer P2], fun y hy => ?_, hK _ ?_⟩
      · have f0 := (HSa_2_3_4_5.out.below (KeptW.bel hy)).cell
        go_simp
      clear hK K
      refine RegK.can_narrows (fun _ => trivial) ?_
      intro K K0 hK hK0
      go_simp
      refine ⟨trivial, ?_⟩
      refine (callsIn_wide.2 (tree_any P2 w5.drew)).mono ?_
      rintro e xa ⟨rfl, hb⟩
      have hxa : KeptW w5 xa := KeptW.mono hkd hb
      refine hK (KeptW w5) _ _ (fun y h => h) hxa ?_
      clear hK K K0 hK0 hb
      refine RegK.can_narrows (fun _ => trivial) ?_
      intro K K0 hK hK0
      go_simp
      refine ⟨trivial, ?_⟩
      refine (callsIn_wide.2 (tree_any P2 xa)).mono ?_
      rintro e xb ⟨rfl, hb⟩
      have hxb : KeptW w5 xb := KeptW.mono hxa hb
      refine hK (KeptW w5) _ _ (fun y h => h) hxb ?_
      clear hK K K0 hK0 hb
      refine RegK.can_reads ?_
      intro K hK
      go_simp
      refine ⟨.bool true, fun y hy => ?_, hK _ ?_⟩
      · have f0 := ptr_eql P2 y
        go_simp
      clear hK K
      iterate 2 (refine RegK.can_reads ?_; intro K hK; go_simp; (first | (refine ⟨_, fun _ _ => rfl, hK _ ?_⟩) | (refine hK _ ?_)); clear hK K)
      refine RegK.can_reads ?_
      intro K hK
      go_simp
      refine ⟨.agg #[.int .u8 0, .string { data := #[] }], fun y hy => ?_, hK _ ?_⟩
      · obtain ⟨f0, f1⟩ := (HR8_3_4_5.out.1.below (KeptW.bel hy)).cells
        go_simp
        rfl
      clear hK K
      iterate 4 (refine RegK.can_reads ?_; intro K hK; go_simp; (first | (refine ⟨_, fun _ _ => rfl, hK _ ?_⟩) | (refine hK _ ?_)); clear hK K)
      iterate 1 (refine RegK.can_reads ?_; intro K hK; go_simp; (first | (refine ⟨_, fun _ _ => rfl, hK _ ?_⟩) | (refine hK _ ?_)); clear hK K)
      refine RegK.can_reads ?_
      intro K hK
      go_simp
      refine ⟨.string { data := #[119] }, fun y hy => ?_, hK _ ?_⟩
      · have f0 := (HR10_4_5.out.1.below (KeptW.bel hy)).cells.2
        go_simp
      clear hK K
      iterate 3 (refine RegK.can_reads ?_; intro K hK; go_simp; (first | (refine ⟨_, fun _ _ => rfl, hK _ ?_⟩) | (refine hK _ ?_)); clear hK K)
      refine RegK.can_reads ?_
      intro K hK
      go_simp
      refine ⟨.agg #[.int .u8 0, .string { data := #[] }], fun y hy => ?_, hK _ ?_⟩
      · obtain ⟨f0, f1⟩ := (HR12_5.out.1.below (KeptW.bel hy)).cells
        go_simp
        rfl
      clear hK K
      iterate 4 (refine RegK.can_reads ?_; intro K hK; go_simp; (first | (refine ⟨_, fun _ _ => rfl, hK _ ?_⟩) | (refine hK _ ?_)); clear hK K)
      refine RegK.can_reads ?_
      intro K hK
      go_simp
      refine ⟨.agg #[.pointer P5], fun y hy => ?_, hK _ ?_⟩
      · have f0 := (HSe_5.out.below (KeptW.bel hy)).cell
        go_simp
      clear hK K
      refine RegK.can_narrows (fun _ => trivial) ?_
      intro K K0 hK hK0
      go_simp
      refine ⟨trivial, ?_⟩
      refine (callsIn_wide.2 (tree_any P5 xb)).mono ?_
      rintro e xc ⟨rfl, hb⟩
      have hxc : KeptW w5 xc := KeptW.mono hxb hb
      refine hK (KeptW w5) _ _ (fun y h => h) hxc ?_
      clear hK K K0 hK0 hb
      refine RegK.can_narrows (fun _ => trivial) ?_
      intro K K0 hK hK0
      go_simp
      refine ⟨trivial, ?_⟩
      have hlen := len_any X5 xc (HTe_5.out.below (KeptW.bel hxc))
      rw [HEe_5.out.1, Hcn.out] at hlen
      refine (callsIn_wide.2 hlen).mono ?_
      clear hlen
      rintro e xd ⟨rfl, rfl⟩
      refine hK (KeptW w5) _ _ (fun y h => h) hxc ?_
      clear hK K K0 hK0
      iterate 3 (refine RegK.can_reads ?_; intro K hK; go_simp; (first | (refine ⟨_, fun _ _ => rfl, hK _ ?_⟩) | (refine hK _ ?_)); clear hK K)
      refine RegK.can_narrows (fun _ => trivial) ?_
      intro K K0 hK hK0
      go_simp
      refine ⟨trivial, ?_⟩
      refine (callsIn_wide.2 (kwakes_any xc)).mono ?_
      rintro e xe ⟨rfl, hb⟩
      have hxe : KeptW w5 xe := KeptW.mono hxc hb
      refine hK (KeptW w5) _ _ (fun y h => h) hxe ?_
      clear hK K K0 hK0 hb
      iterate 2 (refine RegK.can_reads ?_; intro K hK; go_simp; (first | (refine ⟨_, fun _ _ => rfl, hK _ ?_⟩) | (refine hK _ ?_)); clear hK K)
      refine RegK.can_nil ?_
      have HBz := Lib.hid (HB5.out.trans (Below.mono (KeptW.bel hxe) HB5.out.size))
      generalize xe = xz at *
      go_wp2_with fail
      go_ret
      exact ⟨rfl, HBz.out⟩
end Go.Proofs.Ytimhpncdlaildaa
