/- Play: the document's Say, walked. Condition: the step's texts are not too long. -/
import Derived.Test.YtjjlodeiejobdaaDoorZPlayWrites11
namespace Go.Proofs.YtjjlodeiejobdaaDoor
open Go.RowKit Go.Shelf
/-- The parts of a line, as texts. -/
structure SayP (s : StpV) (A B K Y O N S : ByteArray) : Prop where
  a : A.data.toList = Lib.decDigits s.a
  b : B.data.toList = Lib.decDigits s.b
  k : K.data.toList = Lib.itoa s.k
  y : Y.data.toList = quoL s.y
  o : O.data.toList = quoL s.o
  n : N.data.toList = quoL s.n
  st : S.data.toList = Lib.decDigits s.st
  la : A.size ≤ 21
  lb : B.size ≤ 21
  lk : K.size ≤ 21
  ly : Y.size ≤ 300010
  lo : O.size ≤ 300010
  ln : N.size ≤ 300010
  ls : S.size ≤ 21
theorem ba_size {l : Bs} : (⟨l.toArray⟩ : ByteArray).size = l.length := by simp [ByteArray.size]
theorem quo_3 {l : Bs} (h : l.length ≤ 100000) : (quoL l).length ≤ 300010 := by
  unfold quoL
  split
  · decide
  · have := quo_len l; omega
theorem say_parts (s : StpV) (hok : s.Ok) (hf : s.Few) : ∃ A B K Y O N S, SayP s A B K Y O N S ∧
    (∀ y, Calls Tryd.prog 35 #[.int .i64 (s.a : Int)] y fun e w' => e = .returned (.string A) ∧ y = w') ∧ (∀ y, Calls Tryd.prog 35 #[.int .i64 (s.b : Int)] y fun e w' => e = .returned (.string B) ∧ y = w') ∧
    (∀ y, Calls Tryd.prog 35 #[.int .i64 s.k] y fun e w' => e = .returned (.string K) ∧ y = w') ∧ (∀ y, Calls Tryd.prog 35 #[.int .i64 (s.st : Int)] y fun e w' => e = .returned (.string S) ∧ y = w') ∧
    (∀ y, Calls Tryd.prog 37 #[.string ⟨s.y.toArray⟩] y fun e w' => e = .returned (.string Y) ∧ Below y.heap.size y w') ∧ (∀ y, Calls Tryd.prog 37 #[.string ⟨s.o.toArray⟩] y fun e w' => e = .returned (.string O) ∧ Below y.heap.size y w') ∧ (∀ y, Calls Tryd.prog 37 #[.string ⟨s.n.toArray⟩] y fun e w' => e = .returned (.string N) ∧ Below y.heap.size y w') := by
  have h1 := hok.a; have h2 := hok.b; have h3 := hok.st
  refine ⟨⟨(Lib.decDigits s.a).toArray⟩, ⟨(Lib.decDigits s.b).toArray⟩, ⟨(Lib.itoa s.k).toArray⟩, ⟨(quoL s.y).toArray⟩, ⟨(quoL s.o).toArray⟩, ⟨(quoL s.n).toArray⟩, ⟨(Lib.decDigits s.st).toArray⟩,
    ⟨rfl, rfl, rfl, rfl, rfl, rfl, rfl, ?_, ?_, ?_, ?_, ?_, ?_, ?_⟩, fun y => ?_, fun y => ?_, fun y => ?_, fun y => ?_, fun y => ?_, fun y => ?_, fun y => ?_⟩
  · rw [ba_size]; have := dec_21 s.a (by omega); omega
  · rw [ba_size]; have := dec_21 s.b (by omega); omega
  · rw [ba_size]; exact Lib.itoa_length_le s.k hok.k.1 hok.k.2
  · rw [ba_size]; exact quo_3 hf.y
  · rw [ba_size]; exact quo_3 hf.o
  · rw [ba_size]; exact quo_3 hf.n
  · rw [ba_size]; have := dec_21 s.st (by omega); omega
  · have h := decimal_any (s.a : Int) (by omega) y; rw [dec_itoa] at h; exact h
  · have h := decimal_any (s.b : Int) (by omega) y; rw [dec_itoa] at h; exact h
  · exact decimal_any s.k hok.k y
  · have h := decimal_any (s.st : Int) (by omega) y; rw [dec_itoa] at h; exact h
  · exact quote31_any ⟨s.y.toArray⟩ (by rw [ba_size]; have := hf.y; omega) y
  · exact quote31_any ⟨s.o.toArray⟩ (by rw [ba_size]; have := hf.o; omega) y
  · exact quote31_any ⟨s.n.toArray⟩ (by rw [ba_size]; have := hf.n; omega) y
theorem ne_empty {x : ByteArray} {l : Bs} (h : x.data.toList = l) (hl : l ≠ []) : x.toList.isEmpty = false := by
  rw [Bool.eq_false_iff]
  intro q
  rw [ByteArray.toList_eq, List.isEmpty_iff] at q
  exact hl (h.symm.trans q)
theorem kd_len (k : Nat) : (kdN k).length ≤ 7 ∧ (kdT k).length ≤ 3 := by
  by_cases h : k < 6
  · exact (show ∀ j : Fin 6, (kdN j.val).length ≤ 7 ∧ (kdT j.val).length ≤ 3 by decide) ⟨k, h⟩
  · rw [(kdN_no (show 6 ≤ k by omega)).1, (kdN_no (show 6 ≤ k by omega)).2]; decide
theorem kd_mem (k : Nat) {c : UInt8} (hc : c ∈ kdT k) : c = 75 ∨ c = 79 ∨ c = 78 ∨ c = 83 := by
  by_cases h : k < 6
  · exact (show ∀ j : Fin 6, ∀ c ∈ kdT j.val, c = 75 ∨ c = 79 ∨ c = 78 ∨ c = 83 by decide) ⟨k, h⟩ c hc
  · rw [(kdN_no (show 6 ≤ k by omega)).2] at hc; cases hc
def addC (s S : StpV) (c : UInt8) : StpV := if c = 75 then { S with y := s.y } else if c = 79 then { S with o := s.o } else if c = 78 then { S with n := s.n } else { S with st := s.st }
theorem joi_flat (c : UInt8) : ∀ (l : List Bs) (x : Bs), joiL c (x :: l) = x ++ l.flatMap (fun p => c :: p)
  | [], x => by simp [joiL]
  | y :: l, x => by rw [joiL, joi_flat c l y, List.flatMap_cons]; simp
theorem fold_keep (s : StpV) (hd : s.d = 12) (hk : 1 ≤ s.kd ∧ s.kd ≤ 5) : (kdT s.kd).foldl (addC s) { { stp0 s.d 0 with a := s.a } with kd := s.kd } = keepC (97 :: 105 :: (kdT s.kd).map kdC) s (stp0 12 s.kd) := by
  have h : s.kd = 1 ∨ s.kd = 2 ∨ s.kd = 3 ∨ s.kd = 4 ∨ s.kd = 5 := by omega
  rcases h with h | h | h | h | h <;> (rw [h, hd]; simp [kdT, KT, addC, keepC, kdC, stp0])
theorem kd_ex2 (k : Nat) (hk : 1 ≤ k ∧ k ≤ 5) : ∃ f, formS 12 k = some f ∧ f.d = 12 ∧ f.k = k ∧ f.w = kdN k ∧ kdN k ≠ [] ∧ f.t = 97 :: 105 :: (kdT k).map kdC := by
  obtain ⟨f, -, h1, h2, h3, h4, h5, -, h6, -⟩ := (kd_ex ⟨k, by omega⟩).resolve_left (show ¬ k = 0 by omega)
  exact ⟨f, h1, h2, h3, h4, h5, h6⟩
set_option maxRecDepth 100000 in
set_option maxHeartbeats 8000000 in
theorem say_inv (s : StpV) (hok : s.Ok) (hf : s.Few) (h12 : s.d = 12) (w : World) :
    Calls Tryd.prog 20 #[stpV s] w (SayR (sayL s) w) := by
  have hne : wdN s.d ≠ [] := by rw [h12]; decide
  have hlen : (wdN s.d).length ≤ 7 := by rw [h12]; decide
  have hT : wdT s.d = [65, 67] := by rw [h12]; rfl
  have H12 := Lib.hid h12
  clear h12
  change Calls Tryd.prog 20 #[.agg #[.int .u8 (s.d : Int), .int .u8 (s.a : Int), .int .u8 (s.b : Int), .int .i64 s.k, .int .u8 (s.cl : Int), .int .u32 (s.sq : Int), .int .u8 (s.kd : Int), .string ⟨s.y.toArray⟩, .string ⟨s.o.toArray⟩, .string ⟨s.n.toArray⟩, .int .u8 (s.st : Int)]] w _
  obtain ⟨A, B, K, Y, O, N, Z, hp, ca, cb, ck, cs, cy, co, cn⟩ := say_parts s hok hf
  have HP := Lib.hid hp
  have HCa := Lib.hid ca
  have HCb := Lib.hid cb
  have HCk := Lib.hid ck
  have HCs := Lib.hid cs
  have HCy := Lib.hid cy
  have HCo := Lib.hid co
  have HCn := Lib.hid cn
  clear hp ca cb ck cs cy co cn
  obtain ⟨nm, hnm⟩ : ∃ nm : ByteArray, nm = ⟨(wdN s.d).toArray⟩ := ⟨_, rfl⟩
  have hnl : nm.data.toList = wdN s.d := by rw [hnm]
  have hnz : nm.size ≤ 7 := by rw [hnm, ba_size]; exact hlen
  have hne' := ne_empty hnl hne
  have HW := Lib.hid (fun y => word_any s.d hok.d y)
  rw [hT] at HW
  unfold TwoS at HW
  rw [← hnm] at HW
  have HNM := Lib.hid (And.intro hnl hnz)
  clear hnm hnl hnz hne hlen
  have hs1 : StpAt (w.alloc (.cells (stpC s).toArray 39)) w.heap.size s := heap_alloc_new _ _
  have hb1 := (Below.refl w.heap.size w).alloc (Nat.le_refl _) (.cells (stpC s).toArray 39)
  go_enter Tryd.func20, Tryd.ntmps20
  go_upto_region 1 with fail
  change Code.wp _ _ _ _ (w.alloc (.cells (stpC s).toArray 39))
  generalize w.alloc (.cells (stpC s).toArray 39) = w1 at *
  have H1 := Lib.hid (And.intro hs1 hb1)
  obtain ⟨f0, f1, f2, f3, f6, f7, f8, f9, f10⟩ := StpAt.cells H1.out.1
  clear hs1 hb1
  go_upto_region 2 with (go_at_call 34; refine (HW.out w1).mono ?_; rintro e w2 ⟨rfl, hb2⟩; have HB2 := Lib.hid (And.intro (H1.out.1.below hb2) (H1.out.2.trans (hb2.mono H1.out.2.size))); clear hb2)
  clear f0 f1 f2 f3 f6 f7 f8 f9 f10 HW H1
  obtain ⟨f0, f1, f2, f3, f6, f7, f8, f9, f10⟩ := StpAt.cells HB2.out.1
  go_upto_region 5 with fail
  change Code.wp _ _ _ _ (w2.alloc (.cells (stpC (stp0 s.d 0)).toArray 39))
  have hb3 := (Below.refl w2.heap.size w2).alloc (Nat.le_refl _) (.cells (stpC (stp0 s.d 0)).toArray 39)
  have HI := Lib.hid (show SyI w w.heap.size w2.heap.size s (stp0 s.d 0) (w2.alloc (.cells (stpC (stp0 s.d 0)).toArray 39)) from ⟨HB2.out.1.below hb3, heap_alloc_new _ _, HB2.out.2.trans (hb3.mono HB2.out.2.size), Nat.le_refl _, HB2.out.1.lt⟩)
  generalize w2.alloc (.cells (stpC (stp0 s.d 0)).toArray 39) = w3 at *
  clear hb3 HB2 f0 f1 f2 f3 f6 f7 f8 f9 f10
  generalize w2.heap.size = g6 at *
  go_upto_region 6 with fail
  obtain ⟨q0, q1, q2, q3, q6, q7, q8, q9, q10⟩ := StpAt.cells HI.out.s6
  have hth := thaw_row 1 HI.out.s6
  obtain ⟨f0, f1, f2, f3, f6, f7, f8, f9, f10⟩ := StpAt.cells HI.out.s1
  go_upto_region 7 with fail
  have HI2 := HI.out.set { (stp0 s.d 0) with a := s.a } 1 (.int .u8 (s.a : Int)) rfl
  replace HI := Lib.hid HI2
  clear HI2 hth f0 f1 f2 f3 f6 f7 f8 f9 f10 q0 q1 q2 q3 q6 q7 q8 q9 q10
  generalize w3.setCell ⟨g6, 1, none⟩ (.int .u8 (s.a : Int)) = w4 at *
  obtain ⟨f0, f1, f2, f3, f6, f7, f8, f9, f10⟩ := StpAt.cells HI.out.s1
  have hw1 : IntKind.i64.wrap (s.a : Int) = (s.a : Int) := IntWalk.i64_in _ (by have := hok.a; omega)
  have hx4 : ¬ 9223372036854775807 < nm.size + 1 := by have := HNM.out.2; have := HP.out.la; have := HP.out.lb; have := HP.out.lk; omega
  have hy4 : ¬ 9223372036854775807 < nm.size + 1 + A.size := by have := HNM.out.2; have := HP.out.la; have := HP.out.lb; have := HP.out.lk; omega
  go_upto_region 8 with (go_at_call 35; refine (HCa.out w4).mono ?_; rintro e v1 ⟨rfl, rfl⟩)
  clear f0 f1 f2 f3 f6 f7 f8 f9 f10 hx4 hy4
  have h12' : ((s.d : Int) == 12) = true := by have := H12.out; rw [beq_iff_eq]; omega
  obtain ⟨kn, hkn⟩ : ∃ kn : ByteArray, kn = ⟨(kdN s.kd).toArray⟩ := ⟨_, rfl⟩
  obtain ⟨H, hH⟩ : ∃ H : ByteArray, H = ⟨(kdT s.kd).toArray⟩ := ⟨_, rfl⟩
  have HK := Lib.hid (fun y => kind_any s.kd hok.kd y)
  unfold TwoS at HK
  rw [← hkn, ← hH] at HK
  have HKN := Lib.hid (show kn.data.toList = kdN s.kd by rw [hkn])
  have HH := Lib.hid (show H.data.toList = kdT s.kd by rw [hH])
  clear hkn hH
  obtain ⟨f0, f1, f2, f3, f6, f7, f8, f9, f10⟩ := StpAt.cells HI.out.s1
  go_upto_region 16 with (go_at_call 36; refine (HK.out _).mono ?_; rintro e w5 ⟨rfl, hb5⟩; replace HI := Lib.hid (HI.out.below hb5); clear hb5)
  clear f0 f1 f2 f3 f6 f7 f8 f9 f10 HK h12'
  obtain ⟨q0, q1, q2, q3, q6, q7, q8, q9, q10⟩ := StpAt.cells HI.out.s6
  have hth := thaw_row 6 HI.out.s6
  obtain ⟨f0, f1, f2, f3, f6, f7, f8, f9, f10⟩ := StpAt.cells HI.out.s1
  go_upto_region 17 with fail
  have HI2 := HI.out.set { { (stp0 s.d 0) with a := s.a } with kd := s.kd } 6 (.int .u8 (s.kd : Int)) rfl
  replace HI := Lib.hid HI2
  clear HI2 hth f0 f1 f2 f3 f6 f7 f8 f9 f10 q0 q1 q2 q3 q6 q7 q8 q9 q10
  generalize w5.setCell ⟨g6, 6, none⟩ (.int .u8 (s.kd : Int)) = w6 at *
  obtain ⟨S0, hS0⟩ : ∃ S0 : StpV, S0 = { { (stp0 s.d 0) with a := s.a } with kd := s.kd } := ⟨_, rfl⟩
  rw [← hS0] at HI
  have HS0 := Lib.hid hS0
  clear hS0
  have hknz : kn.size ≤ 7 := by
    have h1 : kn.data.toList.length = kn.size := Array.length_toList
    rw [HKN.out] at h1
    have := kd_len s.kd
    omega
  have hkp : H.size ≤ 3 := by
    have h1 : H.data.toList.length = H.size := Array.length_toList
    rw [HH.out] at h1
    have := kd_len s.kd
    omega
  have HKZ := Lib.hid (And.intro hknz hkp)
  clear hknz hkp
  have hx1 : ¬ 9223372036854775807 < nm.size + 1 + A.size + 1 := by have := HNM.out.2; have := HP.out.la; omega
  have hx2 : ¬ 9223372036854775807 < nm.size + 1 + A.size + 1 + kn.size := by have := HNM.out.2; have := HP.out.la; have := HKZ.out.1; omega
  go_upto_region 19 with fail
  clear hx1 hx2
  obtain ⟨X0, hX0⟩ : ∃ X0 : ByteArray, X0 = (nm ++ ⟨#[32]⟩ ++ A) ++ ⟨#[32]⟩ ++ kn := ⟨_, rfl⟩
  have HX0 := Lib.hid (show X0.data.toList = INV ++ 32 :: Lib.decDigits s.a ++ 32 :: kdN s.kd ∧ X0.size ≤ 100 from by
    constructor
    · rw [hX0]
      simp only [app_list, HNM.out.1, HP.out.a, HKN.out, H12.out]
      simp [wdN, WN, INV]
    · rw [hX0]
      have h1 : (⟨#[32]⟩ : ByteArray).size = 1 := rfl
      have := HNM.out.2; have := HP.out.la; have := HKZ.out.1
      simp only [ByteArray.size_append, h1]
      omega)
  rw [← hX0]
  clear hX0
  go_loopw [4, 9] (fun s4 s9 wr => ∃ (i : Nat) (X : ByteArray) (S : StpV), s4 = .string X ∧ s9 = .int .i64 (i : Int) ∧ i ≤ H.size ∧ S = ((kdT s.kd).take i).foldl (addC s) S0 ∧ X.data.toList = X0.data.toList ++ ((kdT s.kd).take i).flatMap (fun c => 32 :: fldL s (kdN s.kd) (kdC c)) ∧ X.size ≤ 100 + i * 300011 ∧ SyI w w.heap.size g6 s S wr) (fun _ s9 _ => H.size - (intOf s9).toNat)
  case atStart => exact ⟨0, X0, S0, rfl, rfl, Nat.zero_le _, rfl, by simp, by have := HX0.out.2; omega, HI.out⟩
  case round =>
    clear HI
    obtain ⟨i, X, S, rfl, rfl, hi, hS, hX, hXs, hI⟩ := hrel
    have HI := Lib.hid hI
    have HSS := Lib.hid hS
    have hi3 : i ≤ 3 := by have := HKZ.out.2; omega
    have HXX := Lib.hid (And.intro hX (show X.size ≤ 1200100 by omega))
    have HXI := Lib.hid hXs
    clear hI hS hX
    by_cases hlt : i < H.size
    · have hlt' : (i : Int) < (H.size : Int) := by omega
      have hget := bs_list hlt
      rw [HH.out] at hget
      have HT1 := Lib.hid (show (kdT s.kd).take (i + 1) = (kdT s.kd).take i ++ [H[i]'hlt] by rw [List.take_add_one, hget]; rfl)
      rcases kd_mem s.kd (List.mem_of_getElem? hget) with hc | hc | hc | hc
      · have hcv : ((((H[i]'hlt).toNat : Nat) : Int) == 75) = true := by rw [hc]; rfl
        obtain ⟨q0, q1, q2, q3, q6, q7, q8, q9, q10⟩ := StpAt.cells HI.out.s6
        have hth := thaw_row 7 HI.out.s6
        obtain ⟨f0, f1, f2, f3, f6, f7, f8, f9, f10⟩ := StpAt.cells HI.out.s1
        go_upto_region 26 with fail
        have HI2 := HI.out.set { S with y := s.y } 7 (.string ⟨s.y.toArray⟩) rfl
        replace HI := Lib.hid HI2
        clear HI2 hth f0 f1 f2 f3 f6 f7 f8 f9 f10 q0 q1 q2 q3 q6 q7 q8 q9 q10
        generalize wr.setCell ⟨g6, 7, none⟩ (.string ⟨s.y.toArray⟩) = w8 at *
        obtain ⟨f0, f1, f2, f3, f6, f7, f8, f9, f10⟩ := StpAt.cells HI.out.s1
        skip
        have hx1 : ¬ 9223372036854775807 < X.size + 1 := by have := HXX.out.2; omega
        have hx2 : ¬ 9223372036854775807 < X.size + 1 + Y.size := by have := HXX.out.2; have := HP.out.ly; omega
        go_wp2_with (go_at_call 37; refine (HCy.out _).mono ?_; rintro e v1 ⟨rfl, hb9⟩; replace HI := Lib.hid (HI.out.below hb9); clear hb9)
        clear f0 f1 f2 f3 f6 f7 f8 f9 f10 hx1 hx2
        go_roundw
        case rel => exact ⟨i + 1, _, _, rfl, rfl, hlt, by rw [HT1.out, List.foldl_append, ← HSS.out, hc]; rfl, by rw [app_list, app_list, HXX.out.1, HT1.out, List.flatMap_append, hc, HP.out.y]; simp [kdC, fldL], by have := HXX.out.2; have := HP.out.ly; have h1 : (⟨#[32]⟩ : ByteArray).size = 1 := rfl; rw [ByteArray.size_append, ByteArray.size_append, h1]; omega, HI.out⟩
        case measure => simp only [intOf]; omega
      · have hcv : ((((H[i]'hlt).toNat : Nat) : Int) == 75) = false ∧ ((((H[i]'hlt).toNat : Nat) : Int) == 79) = true := by rw [hc]; exact ⟨rfl, rfl⟩
        obtain ⟨hv1, hv2⟩ := hcv
        obtain ⟨q0, q1, q2, q3, q6, q7, q8, q9, q10⟩ := StpAt.cells HI.out.s6
        have hth := thaw_row 8 HI.out.s6
        obtain ⟨f0, f1, f2, f3, f6, f7, f8, f9, f10⟩ := StpAt.cells HI.out.s1
        go_upto_region 29 with fail
        have HI2 := HI.out.set { S with o := s.o } 8 (.string ⟨s.o.toArray⟩) rfl
        replace HI := Lib.hid HI2
        clear HI2 hth f0 f1 f2 f3 f6 f7 f8 f9 f10 q0 q1 q2 q3 q6 q7 q8 q9 q10
        generalize wr.setCell ⟨g6, 8, none⟩ (.string ⟨s.o.toArray⟩) = w8 at *
        obtain ⟨f0, f1, f2, f3, f6, f7, f8, f9, f10⟩ := StpAt.cells HI.out.s1
        skip
        have hx1 : ¬ 9223372036854775807 < X.size + 1 := by have := HXX.out.2; omega
        have hx2 : ¬ 9223372036854775807 < X.size + 1 + O.size := by have := HXX.out.2; have := HP.out.lo; omega
        go_wp2_with (go_at_call 37; refine (HCo.out _).mono ?_; rintro e v1 ⟨rfl, hb9⟩; replace HI := Lib.hid (HI.out.below hb9); clear hb9)
        clear f0 f1 f2 f3 f6 f7 f8 f9 f10 hx1 hx2
        go_roundw
        case rel => exact ⟨i + 1, _, _, rfl, rfl, hlt, by rw [HT1.out, List.foldl_append, ← HSS.out, hc]; rfl, by rw [app_list, app_list, HXX.out.1, HT1.out, List.flatMap_append, hc, HP.out.o]; simp [kdC, fldL], by have := HXX.out.2; have := HP.out.lo; have h1 : (⟨#[32]⟩ : ByteArray).size = 1 := rfl; rw [ByteArray.size_append, ByteArray.size_append, h1]; omega, HI.out⟩
        case measure => simp only [intOf]; omega
      · have hcv : ((((H[i]'hlt).toNat : Nat) : Int) == 75) = false ∧ ((((H[i]'hlt).toNat : Nat) : Int) == 79) = false ∧ ((((H[i]'hlt).toNat : Nat) : Int) == 78) = true := by rw [hc]; exact ⟨rfl, rfl, rfl⟩
        obtain ⟨hv1, hv2, hv3⟩ := hcv
        obtain ⟨q0, q1, q2, q3, q6, q7, q8, q9, q10⟩ := StpAt.cells HI.out.s6
        have hth := thaw_row 9 HI.out.s6
        obtain ⟨f0, f1, f2, f3, f6, f7, f8, f9, f10⟩ := StpAt.cells HI.out.s1
        go_upto_region 32 with fail
        have HI2 := HI.out.set { S with n := s.n } 9 (.string ⟨s.n.toArray⟩) rfl
        replace HI := Lib.hid HI2
        clear HI2 hth f0 f1 f2 f3 f6 f7 f8 f9 f10 q0 q1 q2 q3 q6 q7 q8 q9 q10
        generalize wr.setCell ⟨g6, 9, none⟩ (.string ⟨s.n.toArray⟩) = w8 at *
        obtain ⟨f0, f1, f2, f3, f6, f7, f8, f9, f10⟩ := StpAt.cells HI.out.s1
        skip
        have hx1 : ¬ 9223372036854775807 < X.size + 1 := by have := HXX.out.2; omega
        have hx2 : ¬ 9223372036854775807 < X.size + 1 + N.size := by have := HXX.out.2; have := HP.out.ln; omega
        go_wp2_with (go_at_call 37; refine (HCn.out _).mono ?_; rintro e v1 ⟨rfl, hb9⟩; replace HI := Lib.hid (HI.out.below hb9); clear hb9)
        clear f0 f1 f2 f3 f6 f7 f8 f9 f10 hx1 hx2
        go_roundw
        case rel => exact ⟨i + 1, _, _, rfl, rfl, hlt, by rw [HT1.out, List.foldl_append, ← HSS.out, hc]; rfl, by rw [app_list, app_list, HXX.out.1, HT1.out, List.flatMap_append, hc, HP.out.n]; simp [kdC, fldL], by have := HXX.out.2; have := HP.out.ln; have h1 : (⟨#[32]⟩ : ByteArray).size = 1 := rfl; rw [ByteArray.size_append, ByteArray.size_append, h1]; omega, HI.out⟩
        case measure => simp only [intOf]; omega
      · have hcv : ((((H[i]'hlt).toNat : Nat) : Int) == 75) = false ∧ ((((H[i]'hlt).toNat : Nat) : Int) == 79) = false ∧ ((((H[i]'hlt).toNat : Nat) : Int) == 78) = false := by rw [hc]; exact ⟨rfl, rfl, rfl⟩
        obtain ⟨hv1, hv2, hv3⟩ := hcv
        obtain ⟨q0, q1, q2, q3, q6, q7, q8, q9, q10⟩ := StpAt.cells HI.out.s6
        have hth := thaw_row 10 HI.out.s6
        obtain ⟨f0, f1, f2, f3, f6, f7, f8, f9, f10⟩ := StpAt.cells HI.out.s1
        go_upto_region 23 with fail
        have HI2 := HI.out.set { S with st := s.st } 10 (.int .u8 (s.st : Int)) rfl
        replace HI := Lib.hid HI2
        clear HI2 hth f0 f1 f2 f3 f6 f7 f8 f9 f10 q0 q1 q2 q3 q6 q7 q8 q9 q10
        generalize wr.setCell ⟨g6, 10, none⟩ (.int .u8 (s.st : Int)) = w8 at *
        obtain ⟨f0, f1, f2, f3, f6, f7, f8, f9, f10⟩ := StpAt.cells HI.out.s1
        have hw : IntKind.i64.wrap (s.st : Int) = (s.st : Int) := IntWalk.i64_in _ (by have := hok.st; omega)
        have hx1 : ¬ 9223372036854775807 < X.size + 1 := by have := HXX.out.2; omega
        have hx2 : ¬ 9223372036854775807 < X.size + 1 + Z.size := by have := HXX.out.2; have := HP.out.ls; omega
        go_wp2_with (go_at_call 35; refine (HCs.out _).mono ?_; rintro e v1 ⟨rfl, rfl⟩)
        clear f0 f1 f2 f3 f6 f7 f8 f9 f10 hx1 hx2
        go_roundw
        case rel => exact ⟨i + 1, _, _, rfl, rfl, hlt, by rw [HT1.out, List.foldl_append, ← HSS.out, hc]; rfl, by rw [app_list, app_list, HXX.out.1, HT1.out, List.flatMap_append, hc, HP.out.st]; simp [kdC, fldL], by have := HXX.out.2; have := HP.out.ls; have h1 : (⟨#[32]⟩ : ByteArray).size = 1 := rfl; rw [ByteArray.size_append, ByteArray.size_append, h1]; omega, HI.out⟩
        case measure => simp only [intOf]; omega
    · have hlt' : ¬ (i : Int) < (H.size : Int) := by omega
      have htk : (kdT s.kd).take i = kdT s.kd := List.take_of_length_le (by
        have h1 : H.data.toList.length = H.size := Array.length_toList
        rw [HH.out] at h1
        omega)
      have HTK := Lib.hid htk
      clear htk
      by_cases hk : s.kd = 0 ∨ 6 ≤ s.kd
      · have hne2 : kn.toList.isEmpty = true := by
          rw [ByteArray.toList_eq, List.isEmpty_iff, HKN.out]
          rcases hk with hk | hk
          · rw [hk]; rfl
          · exact (kdN_no hk).1
        have HSN := Lib.hid (say_no (s := s) (.inr (.inr (.inr ⟨H12.out, hk⟩))))
        clear hk
        go_wp2
        go_ret2
        exact SayR.bad HI.out.bel HSN.out (by decide)
      · have HKK := Lib.hid (show 1 ≤ s.kd ∧ s.kd ≤ 5 by omega)
        obtain ⟨f, hff, hfd, hfk, hfw, hkne, hft⟩ := kd_ex2 s.kd HKK.out
        have hne2 : kn.toList.isEmpty = false := ne_empty HKN.out hkne
        have HF := Lib.hid (And.intro hff (And.intro hfd (And.intro hfk (And.intro hfw hft))))
        clear hk hff hfd hfk hfw hkne hft
        go_upto_region 35 with fail
        refine (wpIn_wide (n := 1)).1 ?_
        refine RegJ.wpIn_region_plan (F := Fence.wide) (KeptW wr) (.step 0 0 (.step 1 0 (.step 2 0 (.step 3 0 (.step 4 0 (.step 5 0 .nil)))))) (by kernel_rfl) (by kernel_rfl) (by kernel_rfl) (fun _ _ d _ _ h => by cases d <;> exact h) ⟨rfl, rfl, rfl, Nat.le_refl _, fun _ _ => rfl⟩ ?_
        dsimp only [RegJ.pickJ, List.getElem?_cons_zero, List.getElem?_cons_succ]
        change RegJ.Can _ _ _ _ _ _ _ _ wr.drew
        have hkd : KeptW wr wr.drew := ⟨rfl, rfl, rfl, Nat.le_refl _, fun _ _ => rfl⟩
        generalize wr.drew = v1 at *
        refine RegJ.reads ?_; intro K hK; go_simp; (first | refine ⟨_, fun _ _ => rfl, hK _ ?_⟩ | refine hK _ ?_); clear hK K
        refine RegJ.reads ?_
        intro K hK
        rw [if_pos (by first | (simp [Region.wanted]; done) | (go_simp; done))]
        refine ⟨.agg (stpC S).toArray, fun y hy => exec_load rfl rfl (run_loadAt_mid y g6 0 39 (stpC S) _ (range_row (HI.out.s6.below (KeptW.bel hy))) Tryd.underlying39 rfl (stpC_size _)), hK _ ?_⟩
        clear hK K
        go_simp
        refine RegJ.reads ?_
        intro K hK
        rw [if_pos (by first | (simp [Region.wanted]; done) | (go_simp; done))]
        refine ⟨.agg (stpC s).toArray, fun y hy => exec_load rfl rfl (run_loadAt_mid y w.heap.size 0 39 (stpC s) _ (range_row (HI.out.s1.below (KeptW.bel hy))) Tryd.underlying39 rfl (stpC_size _)), hK _ ?_⟩
        clear hK K
        go_simp
        refine RegJ.reads ?_
        intro K hK
        rw [if_pos (by simp [Region.wanted])]
        refine ⟨.bool (decide (S = s) == true), fun y hy => stp_exec _ _ true _ _ rfl S s rfl rfl y, hK _ ?_⟩
        clear hK K
        go_simp
        iterate 2 (refine RegJ.reads ?_; intro K hK; go_simp; (first | refine ⟨_, fun _ _ => rfl, hK _ ?_⟩ | refine hK _ ?_); clear hK K)
        refine RegJ.nil ?_
        have Hvk := Lib.hid (KeptW.bel hkd)
        clear hkd
        go_wp2_with fail
        go_ret2
        have hb9 := HI.out.bel.trans (Hvk.out.mono HI.out.bel.size)
        refine SayR.fin (S := S) hb9 (f := f) (by rw [H12.out]; exact HF.out.1) ?_ ?_ (by have := HXX.out.2; omega)
        · rw [HSS.out, HTK.out, HS0.out, fold_keep s H12.out HKK.out, HF.out.2.2.2.2, HF.out.2.1, HF.out.2.2.1]
        · rw [HXX.out.1, HTK.out, HX0.out.1]
          unfold lineL
          rw [HF.out.2.2.2.2, HF.out.2.1, if_pos rfl, joi_flat, HF.out.2.2.2.1]
          simp [fldL, List.flatMap_map]
set_option maxRecDepth 100000 in
set_option maxHeartbeats 8000000 in
theorem say_n (s : StpV) (hok : s.Ok) (hf : s.Few) (f : FormV) (hff : formS s.d 0 = some f) (hfd : f.d = s.d) (hfk : f.k = 0) (hfw : f.w = wdN s.d) (hne : wdN s.d ≠ []) (hlen : (wdN s.d).length ≤ 7) (hT : wdT s.d = []) (hft : f.t = []) (h12 : s.d ≠ 12) (w : World) :
    Calls Tryd.prog 20 #[stpV s] w (SayR (sayL s) w) := by
  change Calls Tryd.prog 20 #[.agg #[.int .u8 (s.d : Int), .int .u8 (s.a : Int), .int .u8 (s.b : Int), .int .i64 s.k, .int .u8 (s.cl : Int), .int .u32 (s.sq : Int), .int .u8 (s.kd : Int), .string ⟨s.y.toArray⟩, .string ⟨s.o.toArray⟩, .string ⟨s.n.toArray⟩, .int .u8 (s.st : Int)]] w _
  obtain ⟨A, B, K, Y, O, N, Z, hp, ca, cb, ck, cs, cy, co, cn⟩ := say_parts s hok hf
  have HP := Lib.hid hp
  have HCa := Lib.hid ca
  have HCb := Lib.hid cb
  have HCk := Lib.hid ck
  have HCs := Lib.hid cs
  have HCy := Lib.hid cy
  have HCo := Lib.hid co
  have HCn := Lib.hid cn
  clear hp ca cb ck cs cy co cn
  obtain ⟨nm, hnm⟩ : ∃ nm : ByteArray, nm = ⟨(wdN s.d).toArray⟩ := ⟨_, rfl⟩
  have hnl : nm.data.toList = wdN s.d := by rw [hnm]
  have hnz : nm.size ≤ 7 := by rw [hnm, ba_size]; exact hlen
  have hne' := ne_empty hnl hne
  have HW := Lib.hid (fun y => word_any s.d hok.d y)
  rw [hT] at HW
  unfold TwoS at HW
  rw [← hnm] at HW
  have HNM := Lib.hid (And.intro hnl hnz)
  clear hnm hnl hnz hne hlen
  have hs1 : StpAt (w.alloc (.cells (stpC s).toArray 39)) w.heap.size s := heap_alloc_new _ _
  have hb1 := (Below.refl w.heap.size w).alloc (Nat.le_refl _) (.cells (stpC s).toArray 39)
  go_enter Tryd.func20, Tryd.ntmps20
  go_upto_region 1 with fail
  change Code.wp _ _ _ _ (w.alloc (.cells (stpC s).toArray 39))
  generalize w.alloc (.cells (stpC s).toArray 39) = w1 at *
  have H1 := Lib.hid (And.intro hs1 hb1)
  obtain ⟨f0, f1, f2, f3, f6, f7, f8, f9, f10⟩ := StpAt.cells H1.out.1
  clear hs1 hb1
  go_upto_region 2 with (go_at_call 34; refine (HW.out w1).mono ?_; rintro e w2 ⟨rfl, hb2⟩; have HB2 := Lib.hid (And.intro (H1.out.1.below hb2) (H1.out.2.trans (hb2.mono H1.out.2.size))); clear hb2)
  clear f0 f1 f2 f3 f6 f7 f8 f9 f10 HW H1
  obtain ⟨f0, f1, f2, f3, f6, f7, f8, f9, f10⟩ := StpAt.cells HB2.out.1
  go_upto_region 5 with fail
  change Code.wp _ _ _ _ (w2.alloc (.cells (stpC (stp0 s.d 0)).toArray 39))
  have hb3 := (Below.refl w2.heap.size w2).alloc (Nat.le_refl _) (.cells (stpC (stp0 s.d 0)).toArray 39)
  have HI := Lib.hid (show SyI w w.heap.size w2.heap.size s (stp0 s.d 0) (w2.alloc (.cells (stpC (stp0 s.d 0)).toArray 39)) from ⟨HB2.out.1.below hb3, heap_alloc_new _ _, HB2.out.2.trans (hb3.mono HB2.out.2.size), Nat.le_refl _, HB2.out.1.lt⟩)
  generalize w2.alloc (.cells (stpC (stp0 s.d 0)).toArray 39) = w3 at *
  clear hb3 HB2 f0 f1 f2 f3 f6 f7 f8 f9 f10
  generalize w2.heap.size = g6 at *
  have h12' : ((s.d : Int) == 12) = false := by rw [beq_eq_false_iff_ne]; omega
  obtain ⟨f0, f1, f2, f3, f6, f7, f8, f9, f10⟩ := StpAt.cells HI.out.s1
  go_upto_region 35 with fail
  clear f0 f1 f2 f3 f6 f7 f8 f9 f10
  refine (wpIn_wide (n := 1)).1 ?_
  refine RegJ.wpIn_region_plan (F := Fence.wide) (KeptW w3) (.step 0 0 (.step 1 0 (.step 2 0 (.step 3 0 (.step 4 0 (.step 5 0 .nil)))))) (by kernel_rfl) (by kernel_rfl) (by kernel_rfl) (fun _ _ d _ _ h => by cases d <;> exact h) ⟨rfl, rfl, rfl, Nat.le_refl _, fun _ _ => rfl⟩ ?_
  dsimp only [RegJ.pickJ, List.getElem?_cons_zero, List.getElem?_cons_succ]
  change RegJ.Can _ _ _ _ _ _ _ _ w3.drew
  have hkd : KeptW w3 w3.drew := ⟨rfl, rfl, rfl, Nat.le_refl _, fun _ _ => rfl⟩
  generalize w3.drew = v1 at *
  refine RegJ.reads ?_; intro K hK; go_simp; (first | refine ⟨_, fun _ _ => rfl, hK _ ?_⟩ | refine hK _ ?_); clear hK K
  refine RegJ.reads ?_
  intro K hK
  rw [if_pos (by first | (simp [Region.wanted]; done) | (go_simp; done))]
  refine ⟨.agg (stpC (stp0 s.d 0)).toArray, fun y hy => exec_load rfl rfl (run_loadAt_mid y g6 0 39 (stpC (stp0 s.d 0)) _ (range_row (HI.out.s6.below (KeptW.bel hy))) Tryd.underlying39 rfl (stpC_size _)), hK _ ?_⟩
  clear hK K
  go_simp
  refine RegJ.reads ?_
  intro K hK
  rw [if_pos (by first | (simp [Region.wanted]; done) | (go_simp; done))]
  refine ⟨.agg (stpC s).toArray, fun y hy => exec_load rfl rfl (run_loadAt_mid y w.heap.size 0 39 (stpC s) _ (range_row (HI.out.s1.below (KeptW.bel hy))) Tryd.underlying39 rfl (stpC_size _)), hK _ ?_⟩
  clear hK K
  go_simp
  refine RegJ.reads ?_
  intro K hK
  rw [if_pos (by simp [Region.wanted])]
  refine ⟨.bool (decide ((stp0 s.d 0) = s) == true), fun y hy => stp_exec _ _ true _ _ rfl (stp0 s.d 0) s rfl rfl y, hK _ ?_⟩
  clear hK K
  go_simp
  iterate 2 (refine RegJ.reads ?_; intro K hK; go_simp; (first | refine ⟨_, fun _ _ => rfl, hK _ ?_⟩ | refine hK _ ?_); clear hK K)
  refine RegJ.nil ?_
  have Hvk := Lib.hid (KeptW.bel hkd)
  clear hkd
  go_wp2_with fail
  go_ret2
  have hb9 := HI.out.bel.trans (Hvk.out.mono HI.out.bel.size)
  have hz : (nm).size ≤ 2000000 := by
    have h1 : (⟨#[32]⟩ : ByteArray).size = 1 := rfl
    have := HNM.out.2; have := HP.out.la; have := HP.out.lb; have := HP.out.lk
    try simp only [ByteArray.size_append, h1]
    omega
  by_cases hk0 : s.kd = 0
  · exact SayR.fin (S := (stp0 s.d 0)) hb9 (by rw [hk0]; exact hff) (by rw [hft, hfd, hfk]; simp [keepC, stp0]) (by
      unfold lineL
      rw [hft, hfd, if_neg h12, hfw]
      simp only [HNM.out.1]
      simp [joiL]) hz
  · exact SayR.bad2 (S := (stp0 s.d 0)) hb9 (say_no (.inr (.inr (.inl ⟨h12, hk0⟩)))) (fun e => hk0 e.symm) hz
set_option maxRecDepth 100000 in
set_option maxHeartbeats 8000000 in
theorem say_a (s : StpV) (hok : s.Ok) (hf : s.Few) (f : FormV) (hff : formS s.d 0 = some f) (hfd : f.d = s.d) (hfk : f.k = 0) (hfw : f.w = wdN s.d) (hne : wdN s.d ≠ []) (hlen : (wdN s.d).length ≤ 7) (hT : wdT s.d = [65]) (hft : f.t = [97]) (h12 : s.d ≠ 12) (w : World) :
    Calls Tryd.prog 20 #[stpV s] w (SayR (sayL s) w) := by
  change Calls Tryd.prog 20 #[.agg #[.int .u8 (s.d : Int), .int .u8 (s.a : Int), .int .u8 (s.b : Int), .int .i64 s.k, .int .u8 (s.cl : Int), .int .u32 (s.sq : Int), .int .u8 (s.kd : Int), .string ⟨s.y.toArray⟩, .string ⟨s.o.toArray⟩, .string ⟨s.n.toArray⟩, .int .u8 (s.st : Int)]] w _
  obtain ⟨A, B, K, Y, O, N, Z, hp, ca, cb, ck, cs, cy, co, cn⟩ := say_parts s hok hf
  have HP := Lib.hid hp
  have HCa := Lib.hid ca
  have HCb := Lib.hid cb
  have HCk := Lib.hid ck
  have HCs := Lib.hid cs
  have HCy := Lib.hid cy
  have HCo := Lib.hid co
  have HCn := Lib.hid cn
  clear hp ca cb ck cs cy co cn
  obtain ⟨nm, hnm⟩ : ∃ nm : ByteArray, nm = ⟨(wdN s.d).toArray⟩ := ⟨_, rfl⟩
  have hnl : nm.data.toList = wdN s.d := by rw [hnm]
  have hnz : nm.size ≤ 7 := by rw [hnm, ba_size]; exact hlen
  have hne' := ne_empty hnl hne
  have HW := Lib.hid (fun y => word_any s.d hok.d y)
  rw [hT] at HW
  unfold TwoS at HW
  rw [← hnm] at HW
  have HNM := Lib.hid (And.intro hnl hnz)
  clear hnm hnl hnz hne hlen
  have hs1 : StpAt (w.alloc (.cells (stpC s).toArray 39)) w.heap.size s := heap_alloc_new _ _
  have hb1 := (Below.refl w.heap.size w).alloc (Nat.le_refl _) (.cells (stpC s).toArray 39)
  go_enter Tryd.func20, Tryd.ntmps20
  go_upto_region 1 with fail
  change Code.wp _ _ _ _ (w.alloc (.cells (stpC s).toArray 39))
  generalize w.alloc (.cells (stpC s).toArray 39) = w1 at *
  have H1 := Lib.hid (And.intro hs1 hb1)
  obtain ⟨f0, f1, f2, f3, f6, f7, f8, f9, f10⟩ := StpAt.cells H1.out.1
  clear hs1 hb1
  go_upto_region 2 with (go_at_call 34; refine (HW.out w1).mono ?_; rintro e w2 ⟨rfl, hb2⟩; have HB2 := Lib.hid (And.intro (H1.out.1.below hb2) (H1.out.2.trans (hb2.mono H1.out.2.size))); clear hb2)
  clear f0 f1 f2 f3 f6 f7 f8 f9 f10 HW H1
  obtain ⟨f0, f1, f2, f3, f6, f7, f8, f9, f10⟩ := StpAt.cells HB2.out.1
  go_upto_region 5 with fail
  change Code.wp _ _ _ _ (w2.alloc (.cells (stpC (stp0 s.d 0)).toArray 39))
  have hb3 := (Below.refl w2.heap.size w2).alloc (Nat.le_refl _) (.cells (stpC (stp0 s.d 0)).toArray 39)
  have HI := Lib.hid (show SyI w w.heap.size w2.heap.size s (stp0 s.d 0) (w2.alloc (.cells (stpC (stp0 s.d 0)).toArray 39)) from ⟨HB2.out.1.below hb3, heap_alloc_new _ _, HB2.out.2.trans (hb3.mono HB2.out.2.size), Nat.le_refl _, HB2.out.1.lt⟩)
  generalize w2.alloc (.cells (stpC (stp0 s.d 0)).toArray 39) = w3 at *
  clear hb3 HB2 f0 f1 f2 f3 f6 f7 f8 f9 f10
  generalize w2.heap.size = g6 at *
  go_upto_region 6 with fail
  obtain ⟨q0, q1, q2, q3, q6, q7, q8, q9, q10⟩ := StpAt.cells HI.out.s6
  have hth := thaw_row 1 HI.out.s6
  obtain ⟨f0, f1, f2, f3, f6, f7, f8, f9, f10⟩ := StpAt.cells HI.out.s1
  go_upto_region 7 with fail
  have HI2 := HI.out.set { (stp0 s.d 0) with a := s.a } 1 (.int .u8 (s.a : Int)) rfl
  replace HI := Lib.hid HI2
  clear HI2 hth f0 f1 f2 f3 f6 f7 f8 f9 f10 q0 q1 q2 q3 q6 q7 q8 q9 q10
  generalize w3.setCell ⟨g6, 1, none⟩ (.int .u8 (s.a : Int)) = w4 at *
  obtain ⟨f0, f1, f2, f3, f6, f7, f8, f9, f10⟩ := StpAt.cells HI.out.s1
  have hw1 : IntKind.i64.wrap (s.a : Int) = (s.a : Int) := IntWalk.i64_in _ (by have := hok.a; omega)
  have hx4 : ¬ 9223372036854775807 < nm.size + 1 := by have := HNM.out.2; have := HP.out.la; have := HP.out.lb; have := HP.out.lk; omega
  have hy4 : ¬ 9223372036854775807 < nm.size + 1 + A.size := by have := HNM.out.2; have := HP.out.la; have := HP.out.lb; have := HP.out.lk; omega
  go_upto_region 8 with (go_at_call 35; refine (HCa.out w4).mono ?_; rintro e v1 ⟨rfl, rfl⟩)
  clear f0 f1 f2 f3 f6 f7 f8 f9 f10 hx4 hy4
  have h12' : ((s.d : Int) == 12) = false := by rw [beq_eq_false_iff_ne]; omega
  obtain ⟨f0, f1, f2, f3, f6, f7, f8, f9, f10⟩ := StpAt.cells HI.out.s1
  go_upto_region 35 with fail
  clear f0 f1 f2 f3 f6 f7 f8 f9 f10
  refine (wpIn_wide (n := 1)).1 ?_
  refine RegJ.wpIn_region_plan (F := Fence.wide) (KeptW w4) (.step 0 0 (.step 1 0 (.step 2 0 (.step 3 0 (.step 4 0 (.step 5 0 .nil)))))) (by kernel_rfl) (by kernel_rfl) (by kernel_rfl) (fun _ _ d _ _ h => by cases d <;> exact h) ⟨rfl, rfl, rfl, Nat.le_refl _, fun _ _ => rfl⟩ ?_
  dsimp only [RegJ.pickJ, List.getElem?_cons_zero, List.getElem?_cons_succ]
  change RegJ.Can _ _ _ _ _ _ _ _ w4.drew
  have hkd : KeptW w4 w4.drew := ⟨rfl, rfl, rfl, Nat.le_refl _, fun _ _ => rfl⟩
  generalize w4.drew = v1 at *
  refine RegJ.reads ?_; intro K hK; go_simp; (first | refine ⟨_, fun _ _ => rfl, hK _ ?_⟩ | refine hK _ ?_); clear hK K
  refine RegJ.reads ?_
  intro K hK
  rw [if_pos (by first | (simp [Region.wanted]; done) | (go_simp; done))]
  refine ⟨.agg (stpC ({ (stp0 s.d 0) with a := s.a } : StpV)).toArray, fun y hy => exec_load rfl rfl (run_loadAt_mid y g6 0 39 (stpC ({ (stp0 s.d 0) with a := s.a } : StpV)) _ (range_row (HI.out.s6.below (KeptW.bel hy))) Tryd.underlying39 rfl (stpC_size _)), hK _ ?_⟩
  clear hK K
  go_simp
  refine RegJ.reads ?_
  intro K hK
  rw [if_pos (by first | (simp [Region.wanted]; done) | (go_simp; done))]
  refine ⟨.agg (stpC s).toArray, fun y hy => exec_load rfl rfl (run_loadAt_mid y w.heap.size 0 39 (stpC s) _ (range_row (HI.out.s1.below (KeptW.bel hy))) Tryd.underlying39 rfl (stpC_size _)), hK _ ?_⟩
  clear hK K
  go_simp
  refine RegJ.reads ?_
  intro K hK
  rw [if_pos (by simp [Region.wanted])]
  refine ⟨.bool (decide (({ (stp0 s.d 0) with a := s.a } : StpV) = s) == true), fun y hy => stp_exec _ _ true _ _ rfl ({ (stp0 s.d 0) with a := s.a } : StpV) s rfl rfl y, hK _ ?_⟩
  clear hK K
  go_simp
  iterate 2 (refine RegJ.reads ?_; intro K hK; go_simp; (first | refine ⟨_, fun _ _ => rfl, hK _ ?_⟩ | refine hK _ ?_); clear hK K)
  refine RegJ.nil ?_
  have Hvk := Lib.hid (KeptW.bel hkd)
  clear hkd
  go_wp2_with fail
  go_ret2
  have hb9 := HI.out.bel.trans (Hvk.out.mono HI.out.bel.size)
  have hz : (nm ++ ⟨#[32]⟩ ++ A).size ≤ 2000000 := by
    have h1 : (⟨#[32]⟩ : ByteArray).size = 1 := rfl
    have := HNM.out.2; have := HP.out.la; have := HP.out.lb; have := HP.out.lk
    try simp only [ByteArray.size_append, h1]
    omega
  by_cases hk0 : s.kd = 0
  · exact SayR.fin (S := ({ (stp0 s.d 0) with a := s.a } : StpV)) hb9 (by rw [hk0]; exact hff) (by rw [hft, hfd, hfk]; simp [keepC, stp0]) (by
      unfold lineL
      rw [hft, hfd, if_neg h12, hfw]
      simp only [app_list, HNM.out.1, HP.out.a]
      simp [joiL, fldL]) hz
  · exact SayR.bad2 (S := ({ (stp0 s.d 0) with a := s.a } : StpV)) hb9 (say_no (.inr (.inr (.inl ⟨h12, hk0⟩)))) (fun e => hk0 e.symm) hz
set_option maxRecDepth 100000 in
set_option maxHeartbeats 8000000 in
theorem say_ab (s : StpV) (hok : s.Ok) (hf : s.Few) (f : FormV) (hff : formS s.d 0 = some f) (hfd : f.d = s.d) (hfk : f.k = 0) (hfw : f.w = wdN s.d) (hne : wdN s.d ≠ []) (hlen : (wdN s.d).length ≤ 7) (hT : wdT s.d = [65, 66]) (hft : f.t = [97, 98]) (h12 : s.d ≠ 12) (w : World) :
    Calls Tryd.prog 20 #[stpV s] w (SayR (sayL s) w) := by
  change Calls Tryd.prog 20 #[.agg #[.int .u8 (s.d : Int), .int .u8 (s.a : Int), .int .u8 (s.b : Int), .int .i64 s.k, .int .u8 (s.cl : Int), .int .u32 (s.sq : Int), .int .u8 (s.kd : Int), .string ⟨s.y.toArray⟩, .string ⟨s.o.toArray⟩, .string ⟨s.n.toArray⟩, .int .u8 (s.st : Int)]] w _
  obtain ⟨A, B, K, Y, O, N, Z, hp, ca, cb, ck, cs, cy, co, cn⟩ := say_parts s hok hf
  have HP := Lib.hid hp
  have HCa := Lib.hid ca
  have HCb := Lib.hid cb
  have HCk := Lib.hid ck
  have HCs := Lib.hid cs
  have HCy := Lib.hid cy
  have HCo := Lib.hid co
  have HCn := Lib.hid cn
  clear hp ca cb ck cs cy co cn
  obtain ⟨nm, hnm⟩ : ∃ nm : ByteArray, nm = ⟨(wdN s.d).toArray⟩ := ⟨_, rfl⟩
  have hnl : nm.data.toList = wdN s.d := by rw [hnm]
  have hnz : nm.size ≤ 7 := by rw [hnm, ba_size]; exact hlen
  have hne' := ne_empty hnl hne
  have HW := Lib.hid (fun y => word_any s.d hok.d y)
  rw [hT] at HW
  unfold TwoS at HW
  rw [← hnm] at HW
  have HNM := Lib.hid (And.intro hnl hnz)
  clear hnm hnl hnz hne hlen
  have hs1 : StpAt (w.alloc (.cells (stpC s).toArray 39)) w.heap.size s := heap_alloc_new _ _
  have hb1 := (Below.refl w.heap.size w).alloc (Nat.le_refl _) (.cells (stpC s).toArray 39)
  go_enter Tryd.func20, Tryd.ntmps20
  go_upto_region 1 with fail
  change Code.wp _ _ _ _ (w.alloc (.cells (stpC s).toArray 39))
  generalize w.alloc (.cells (stpC s).toArray 39) = w1 at *
  have H1 := Lib.hid (And.intro hs1 hb1)
  obtain ⟨f0, f1, f2, f3, f6, f7, f8, f9, f10⟩ := StpAt.cells H1.out.1
  clear hs1 hb1
  go_upto_region 2 with (go_at_call 34; refine (HW.out w1).mono ?_; rintro e w2 ⟨rfl, hb2⟩; have HB2 := Lib.hid (And.intro (H1.out.1.below hb2) (H1.out.2.trans (hb2.mono H1.out.2.size))); clear hb2)
  clear f0 f1 f2 f3 f6 f7 f8 f9 f10 HW H1
  obtain ⟨f0, f1, f2, f3, f6, f7, f8, f9, f10⟩ := StpAt.cells HB2.out.1
  go_upto_region 5 with fail
  change Code.wp _ _ _ _ (w2.alloc (.cells (stpC (stp0 s.d 0)).toArray 39))
  have hb3 := (Below.refl w2.heap.size w2).alloc (Nat.le_refl _) (.cells (stpC (stp0 s.d 0)).toArray 39)
  have HI := Lib.hid (show SyI w w.heap.size w2.heap.size s (stp0 s.d 0) (w2.alloc (.cells (stpC (stp0 s.d 0)).toArray 39)) from ⟨HB2.out.1.below hb3, heap_alloc_new _ _, HB2.out.2.trans (hb3.mono HB2.out.2.size), Nat.le_refl _, HB2.out.1.lt⟩)
  generalize w2.alloc (.cells (stpC (stp0 s.d 0)).toArray 39) = w3 at *
  clear hb3 HB2 f0 f1 f2 f3 f6 f7 f8 f9 f10
  generalize w2.heap.size = g6 at *
  go_upto_region 6 with fail
  obtain ⟨q0, q1, q2, q3, q6, q7, q8, q9, q10⟩ := StpAt.cells HI.out.s6
  have hth := thaw_row 1 HI.out.s6
  obtain ⟨f0, f1, f2, f3, f6, f7, f8, f9, f10⟩ := StpAt.cells HI.out.s1
  go_upto_region 7 with fail
  have HI2 := HI.out.set { (stp0 s.d 0) with a := s.a } 1 (.int .u8 (s.a : Int)) rfl
  replace HI := Lib.hid HI2
  clear HI2 hth f0 f1 f2 f3 f6 f7 f8 f9 f10 q0 q1 q2 q3 q6 q7 q8 q9 q10
  generalize w3.setCell ⟨g6, 1, none⟩ (.int .u8 (s.a : Int)) = w4 at *
  obtain ⟨f0, f1, f2, f3, f6, f7, f8, f9, f10⟩ := StpAt.cells HI.out.s1
  have hw1 : IntKind.i64.wrap (s.a : Int) = (s.a : Int) := IntWalk.i64_in _ (by have := hok.a; omega)
  have hx4 : ¬ 9223372036854775807 < nm.size + 1 := by have := HNM.out.2; have := HP.out.la; have := HP.out.lb; have := HP.out.lk; omega
  have hy4 : ¬ 9223372036854775807 < nm.size + 1 + A.size := by have := HNM.out.2; have := HP.out.la; have := HP.out.lb; have := HP.out.lk; omega
  go_upto_region 8 with (go_at_call 35; refine (HCa.out w4).mono ?_; rintro e v1 ⟨rfl, rfl⟩)
  clear f0 f1 f2 f3 f6 f7 f8 f9 f10 hx4 hy4
  go_upto_region 9 with fail
  obtain ⟨q0, q1, q2, q3, q6, q7, q8, q9, q10⟩ := StpAt.cells HI.out.s6
  have hth := thaw_row 2 HI.out.s6
  obtain ⟨f0, f1, f2, f3, f6, f7, f8, f9, f10⟩ := StpAt.cells HI.out.s1
  go_upto_region 10 with fail
  have HI2 := HI.out.set { ({ (stp0 s.d 0) with a := s.a } : StpV) with b := s.b } 2 (.int .u8 (s.b : Int)) rfl
  replace HI := Lib.hid HI2
  clear HI2 hth f0 f1 f2 f3 f6 f7 f8 f9 f10 q0 q1 q2 q3 q6 q7 q8 q9 q10
  generalize w4.setCell ⟨g6, 2, none⟩ (.int .u8 (s.b : Int)) = w5 at *
  obtain ⟨f0, f1, f2, f3, f6, f7, f8, f9, f10⟩ := StpAt.cells HI.out.s1
  have hw2 : IntKind.i64.wrap (s.b : Int) = (s.b : Int) := IntWalk.i64_in _ (by have := hok.b; omega)
  have hx5 : ¬ 9223372036854775807 < nm.size + 1 + A.size + 1 := by have := HNM.out.2; have := HP.out.la; have := HP.out.lb; have := HP.out.lk; omega
  have hy5 : ¬ 9223372036854775807 < nm.size + 1 + A.size + 1 + B.size := by have := HNM.out.2; have := HP.out.la; have := HP.out.lb; have := HP.out.lk; omega
  go_upto_region 11 with (go_at_call 35; refine (HCb.out w5).mono ?_; rintro e v1 ⟨rfl, rfl⟩)
  clear f0 f1 f2 f3 f6 f7 f8 f9 f10 hx5 hy5
  have h12' : ((s.d : Int) == 12) = false := by rw [beq_eq_false_iff_ne]; omega
  obtain ⟨f0, f1, f2, f3, f6, f7, f8, f9, f10⟩ := StpAt.cells HI.out.s1
  go_upto_region 35 with fail
  clear f0 f1 f2 f3 f6 f7 f8 f9 f10
  refine (wpIn_wide (n := 1)).1 ?_
  refine RegJ.wpIn_region_plan (F := Fence.wide) (KeptW w5) (.step 0 0 (.step 1 0 (.step 2 0 (.step 3 0 (.step 4 0 (.step 5 0 .nil)))))) (by kernel_rfl) (by kernel_rfl) (by kernel_rfl) (fun _ _ d _ _ h => by cases d <;> exact h) ⟨rfl, rfl, rfl, Nat.le_refl _, fun _ _ => rfl⟩ ?_
  dsimp only [RegJ.pickJ, List.getElem?_cons_zero, List.getElem?_cons_succ]
  change RegJ.Can _ _ _ _ _ _ _ _ w5.drew
  have hkd : KeptW w5 w5.drew := ⟨rfl, rfl, rfl, Nat.le_refl _, fun _ _ => rfl⟩
  generalize w5.drew = v1 at *
  refine RegJ.reads ?_; intro K hK; go_simp; (first | refine ⟨_, fun _ _ => rfl, hK _ ?_⟩ | refine hK _ ?_); clear hK K
  refine RegJ.reads ?_
  intro K hK
  rw [if_pos (by first | (simp [Region.wanted]; done) | (go_simp; done))]
  refine ⟨.agg (stpC ({ ({ (stp0 s.d 0) with a := s.a } : StpV) with b := s.b } : StpV)).toArray, fun y hy => exec_load rfl rfl (run_loadAt_mid y g6 0 39 (stpC ({ ({ (stp0 s.d 0) with a := s.a } : StpV) with b := s.b } : StpV)) _ (range_row (HI.out.s6.below (KeptW.bel hy))) Tryd.underlying39 rfl (stpC_size _)), hK _ ?_⟩
  clear hK K
  go_simp
  refine RegJ.reads ?_
  intro K hK
  rw [if_pos (by first | (simp [Region.wanted]; done) | (go_simp; done))]
  refine ⟨.agg (stpC s).toArray, fun y hy => exec_load rfl rfl (run_loadAt_mid y w.heap.size 0 39 (stpC s) _ (range_row (HI.out.s1.below (KeptW.bel hy))) Tryd.underlying39 rfl (stpC_size _)), hK _ ?_⟩
  clear hK K
  go_simp
  refine RegJ.reads ?_
  intro K hK
  rw [if_pos (by simp [Region.wanted])]
  refine ⟨.bool (decide (({ ({ (stp0 s.d 0) with a := s.a } : StpV) with b := s.b } : StpV) = s) == true), fun y hy => stp_exec _ _ true _ _ rfl ({ ({ (stp0 s.d 0) with a := s.a } : StpV) with b := s.b } : StpV) s rfl rfl y, hK _ ?_⟩
  clear hK K
  go_simp
  iterate 2 (refine RegJ.reads ?_; intro K hK; go_simp; (first | refine ⟨_, fun _ _ => rfl, hK _ ?_⟩ | refine hK _ ?_); clear hK K)
  refine RegJ.nil ?_
  have Hvk := Lib.hid (KeptW.bel hkd)
  clear hkd
  go_wp2_with fail
  go_ret2
  have hb9 := HI.out.bel.trans (Hvk.out.mono HI.out.bel.size)
  have hz : ((nm ++ ⟨#[32]⟩ ++ A) ++ ⟨#[32]⟩ ++ B).size ≤ 2000000 := by
    have h1 : (⟨#[32]⟩ : ByteArray).size = 1 := rfl
    have := HNM.out.2; have := HP.out.la; have := HP.out.lb; have := HP.out.lk
    try simp only [ByteArray.size_append, h1]
    omega
  by_cases hk0 : s.kd = 0
  · exact SayR.fin (S := ({ ({ (stp0 s.d 0) with a := s.a } : StpV) with b := s.b } : StpV)) hb9 (by rw [hk0]; exact hff) (by rw [hft, hfd, hfk]; simp [keepC, stp0]) (by
      unfold lineL
      rw [hft, hfd, if_neg h12, hfw]
      simp only [app_list, HNM.out.1, HP.out.a, HP.out.b]
      simp [joiL, fldL]) hz
  · exact SayR.bad2 (S := ({ ({ (stp0 s.d 0) with a := s.a } : StpV) with b := s.b } : StpV)) hb9 (say_no (.inr (.inr (.inl ⟨h12, hk0⟩)))) (fun e => hk0 e.symm) hz
set_option maxRecDepth 100000 in
set_option maxHeartbeats 8000000 in
theorem say_abk (s : StpV) (hok : s.Ok) (hf : s.Few) (f : FormV) (hff : formS s.d 0 = some f) (hfd : f.d = s.d) (hfk : f.k = 0) (hfw : f.w = wdN s.d) (hne : wdN s.d ≠ []) (hlen : (wdN s.d).length ≤ 7) (hT : wdT s.d = [65, 66, 75]) (hft : f.t = [97, 98, 107]) (h12 : s.d ≠ 12) (w : World) :
    Calls Tryd.prog 20 #[stpV s] w (SayR (sayL s) w) := by
  change Calls Tryd.prog 20 #[.agg #[.int .u8 (s.d : Int), .int .u8 (s.a : Int), .int .u8 (s.b : Int), .int .i64 s.k, .int .u8 (s.cl : Int), .int .u32 (s.sq : Int), .int .u8 (s.kd : Int), .string ⟨s.y.toArray⟩, .string ⟨s.o.toArray⟩, .string ⟨s.n.toArray⟩, .int .u8 (s.st : Int)]] w _
  obtain ⟨A, B, K, Y, O, N, Z, hp, ca, cb, ck, cs, cy, co, cn⟩ := say_parts s hok hf
  have HP := Lib.hid hp
  have HCa := Lib.hid ca
  have HCb := Lib.hid cb
  have HCk := Lib.hid ck
  have HCs := Lib.hid cs
  have HCy := Lib.hid cy
  have HCo := Lib.hid co
  have HCn := Lib.hid cn
  clear hp ca cb ck cs cy co cn
  obtain ⟨nm, hnm⟩ : ∃ nm : ByteArray, nm = ⟨(wdN s.d).toArray⟩ := ⟨_, rfl⟩
  have hnl : nm.data.toList = wdN s.d := by rw [hnm]
  have hnz : nm.size ≤ 7 := by rw [hnm, ba_size]; exact hlen
  have hne' := ne_empty hnl hne
  have HW := Lib.hid (fun y => word_any s.d hok.d y)
  rw [hT] at HW
  unfold TwoS at HW
  rw [← hnm] at HW
  have HNM := Lib.hid (And.intro hnl hnz)
  clear hnm hnl hnz hne hlen
  have hs1 : StpAt (w.alloc (.cells (stpC s).toArray 39)) w.heap.size s := heap_alloc_new _ _
  have hb1 := (Below.refl w.heap.size w).alloc (Nat.le_refl _) (.cells (stpC s).toArray 39)
  go_enter Tryd.func20, Tryd.ntmps20
  go_upto_region 1 with fail
  change Code.wp _ _ _ _ (w.alloc (.cells (stpC s).toArray 39))
  generalize w.alloc (.cells (stpC s).toArray 39) = w1 at *
  have H1 := Lib.hid (And.intro hs1 hb1)
  obtain ⟨f0, f1, f2, f3, f6, f7, f8, f9, f10⟩ := StpAt.cells H1.out.1
  clear hs1 hb1
  go_upto_region 2 with (go_at_call 34; refine (HW.out w1).mono ?_; rintro e w2 ⟨rfl, hb2⟩; have HB2 := Lib.hid (And.intro (H1.out.1.below hb2) (H1.out.2.trans (hb2.mono H1.out.2.size))); clear hb2)
  clear f0 f1 f2 f3 f6 f7 f8 f9 f10 HW H1
  obtain ⟨f0, f1, f2, f3, f6, f7, f8, f9, f10⟩ := StpAt.cells HB2.out.1
  go_upto_region 5 with fail
  change Code.wp _ _ _ _ (w2.alloc (.cells (stpC (stp0 s.d 0)).toArray 39))
  have hb3 := (Below.refl w2.heap.size w2).alloc (Nat.le_refl _) (.cells (stpC (stp0 s.d 0)).toArray 39)
  have HI := Lib.hid (show SyI w w.heap.size w2.heap.size s (stp0 s.d 0) (w2.alloc (.cells (stpC (stp0 s.d 0)).toArray 39)) from ⟨HB2.out.1.below hb3, heap_alloc_new _ _, HB2.out.2.trans (hb3.mono HB2.out.2.size), Nat.le_refl _, HB2.out.1.lt⟩)
  generalize w2.alloc (.cells (stpC (stp0 s.d 0)).toArray 39) = w3 at *
  clear hb3 HB2 f0 f1 f2 f3 f6 f7 f8 f9 f10
  generalize w2.heap.size = g6 at *
  go_upto_region 6 with fail
  obtain ⟨q0, q1, q2, q3, q6, q7, q8, q9, q10⟩ := StpAt.cells HI.out.s6
  have hth := thaw_row 1 HI.out.s6
  obtain ⟨f0, f1, f2, f3, f6, f7, f8, f9, f10⟩ := StpAt.cells HI.out.s1
  go_upto_region 7 with fail
  have HI2 := HI.out.set { (stp0 s.d 0) with a := s.a } 1 (.int .u8 (s.a : Int)) rfl
  replace HI := Lib.hid HI2
  clear HI2 hth f0 f1 f2 f3 f6 f7 f8 f9 f10 q0 q1 q2 q3 q6 q7 q8 q9 q10
  generalize w3.setCell ⟨g6, 1, none⟩ (.int .u8 (s.a : Int)) = w4 at *
  obtain ⟨f0, f1, f2, f3, f6, f7, f8, f9, f10⟩ := StpAt.cells HI.out.s1
  have hw1 : IntKind.i64.wrap (s.a : Int) = (s.a : Int) := IntWalk.i64_in _ (by have := hok.a; omega)
  have hx4 : ¬ 9223372036854775807 < nm.size + 1 := by have := HNM.out.2; have := HP.out.la; have := HP.out.lb; have := HP.out.lk; omega
  have hy4 : ¬ 9223372036854775807 < nm.size + 1 + A.size := by have := HNM.out.2; have := HP.out.la; have := HP.out.lb; have := HP.out.lk; omega
  go_upto_region 8 with (go_at_call 35; refine (HCa.out w4).mono ?_; rintro e v1 ⟨rfl, rfl⟩)
  clear f0 f1 f2 f3 f6 f7 f8 f9 f10 hx4 hy4
  go_upto_region 9 with fail
  obtain ⟨q0, q1, q2, q3, q6, q7, q8, q9, q10⟩ := StpAt.cells HI.out.s6
  have hth := thaw_row 2 HI.out.s6
  obtain ⟨f0, f1, f2, f3, f6, f7, f8, f9, f10⟩ := StpAt.cells HI.out.s1
  go_upto_region 10 with fail
  have HI2 := HI.out.set { ({ (stp0 s.d 0) with a := s.a } : StpV) with b := s.b } 2 (.int .u8 (s.b : Int)) rfl
  replace HI := Lib.hid HI2
  clear HI2 hth f0 f1 f2 f3 f6 f7 f8 f9 f10 q0 q1 q2 q3 q6 q7 q8 q9 q10
  generalize w4.setCell ⟨g6, 2, none⟩ (.int .u8 (s.b : Int)) = w5 at *
  obtain ⟨f0, f1, f2, f3, f6, f7, f8, f9, f10⟩ := StpAt.cells HI.out.s1
  have hw2 : IntKind.i64.wrap (s.b : Int) = (s.b : Int) := IntWalk.i64_in _ (by have := hok.b; omega)
  have hx5 : ¬ 9223372036854775807 < nm.size + 1 + A.size + 1 := by have := HNM.out.2; have := HP.out.la; have := HP.out.lb; have := HP.out.lk; omega
  have hy5 : ¬ 9223372036854775807 < nm.size + 1 + A.size + 1 + B.size := by have := HNM.out.2; have := HP.out.la; have := HP.out.lb; have := HP.out.lk; omega
  go_upto_region 11 with (go_at_call 35; refine (HCb.out w5).mono ?_; rintro e v1 ⟨rfl, rfl⟩)
  clear f0 f1 f2 f3 f6 f7 f8 f9 f10 hx5 hy5
  go_upto_region 12 with fail
  obtain ⟨q0, q1, q2, q3, q6, q7, q8, q9, q10⟩ := StpAt.cells HI.out.s6
  have hth := thaw_row 3 HI.out.s6
  obtain ⟨f0, f1, f2, f3, f6, f7, f8, f9, f10⟩ := StpAt.cells HI.out.s1
  go_upto_region 13 with fail
  have HI2 := HI.out.set { ({ ({ (stp0 s.d 0) with a := s.a } : StpV) with b := s.b } : StpV) with k := s.k } 3 (.int .i64 s.k) rfl
  replace HI := Lib.hid HI2
  clear HI2 hth f0 f1 f2 f3 f6 f7 f8 f9 f10 q0 q1 q2 q3 q6 q7 q8 q9 q10
  generalize w5.setCell ⟨g6, 3, none⟩ (.int .i64 s.k) = w6 at *
  obtain ⟨f0, f1, f2, f3, f6, f7, f8, f9, f10⟩ := StpAt.cells HI.out.s1
  have hx6 : ¬ 9223372036854775807 < nm.size + 1 + A.size + 1 + B.size + 1 := by have := HNM.out.2; have := HP.out.la; have := HP.out.lb; have := HP.out.lk; omega
  have hy6 : ¬ 9223372036854775807 < nm.size + 1 + A.size + 1 + B.size + 1 + K.size := by have := HNM.out.2; have := HP.out.la; have := HP.out.lb; have := HP.out.lk; omega
  go_upto_region 14 with (go_at_call 35; refine (HCk.out w6).mono ?_; rintro e v1 ⟨rfl, rfl⟩)
  clear f0 f1 f2 f3 f6 f7 f8 f9 f10 hx6 hy6
  have h12' : ((s.d : Int) == 12) = false := by rw [beq_eq_false_iff_ne]; omega
  obtain ⟨f0, f1, f2, f3, f6, f7, f8, f9, f10⟩ := StpAt.cells HI.out.s1
  go_upto_region 35 with fail
  clear f0 f1 f2 f3 f6 f7 f8 f9 f10
  refine (wpIn_wide (n := 1)).1 ?_
  refine RegJ.wpIn_region_plan (F := Fence.wide) (KeptW w6) (.step 0 0 (.step 1 0 (.step 2 0 (.step 3 0 (.step 4 0 (.step 5 0 .nil)))))) (by kernel_rfl) (by kernel_rfl) (by kernel_rfl) (fun _ _ d _ _ h => by cases d <;> exact h) ⟨rfl, rfl, rfl, Nat.le_refl _, fun _ _ => rfl⟩ ?_
  dsimp only [RegJ.pickJ, List.getElem?_cons_zero, List.getElem?_cons_succ]
  change RegJ.Can _ _ _ _ _ _ _ _ w6.drew
  have hkd : KeptW w6 w6.drew := ⟨rfl, rfl, rfl, Nat.le_refl _, fun _ _ => rfl⟩
  generalize w6.drew = v1 at *
  refine RegJ.reads ?_; intro K hK; go_simp; (first | refine ⟨_, fun _ _ => rfl, hK _ ?_⟩ | refine hK _ ?_); clear hK K
  refine RegJ.reads ?_
  intro K hK
  rw [if_pos (by first | (simp [Region.wanted]; done) | (go_simp; done))]
  refine ⟨.agg (stpC ({ ({ ({ (stp0 s.d 0) with a := s.a } : StpV) with b := s.b } : StpV) with k := s.k } : StpV)).toArray, fun y hy => exec_load rfl rfl (run_loadAt_mid y g6 0 39 (stpC ({ ({ ({ (stp0 s.d 0) with a := s.a } : StpV) with b := s.b } : StpV) with k := s.k } : StpV)) _ (range_row (HI.out.s6.below (KeptW.bel hy))) Tryd.underlying39 rfl (stpC_size _)), hK _ ?_⟩
  clear hK K
  go_simp
  refine RegJ.reads ?_
  intro K hK
  rw [if_pos (by first | (simp [Region.wanted]; done) | (go_simp; done))]
  refine ⟨.agg (stpC s).toArray, fun y hy => exec_load rfl rfl (run_loadAt_mid y w.heap.size 0 39 (stpC s) _ (range_row (HI.out.s1.below (KeptW.bel hy))) Tryd.underlying39 rfl (stpC_size _)), hK _ ?_⟩
  clear hK K
  go_simp
  refine RegJ.reads ?_
  intro K hK
  rw [if_pos (by simp [Region.wanted])]
  refine ⟨.bool (decide (({ ({ ({ (stp0 s.d 0) with a := s.a } : StpV) with b := s.b } : StpV) with k := s.k } : StpV) = s) == true), fun y hy => stp_exec _ _ true _ _ rfl ({ ({ ({ (stp0 s.d 0) with a := s.a } : StpV) with b := s.b } : StpV) with k := s.k } : StpV) s rfl rfl y, hK _ ?_⟩
  clear hK K
  go_simp
  iterate 2 (refine RegJ.reads ?_; intro K hK; go_simp; (first | refine ⟨_, fun _ _ => rfl, hK _ ?_⟩ | refine hK _ ?_); clear hK K)
  refine RegJ.nil ?_
  have Hvk := Lib.hid (KeptW.bel hkd)
  clear hkd
  go_wp2_with fail
  go_ret2
  have hb9 := HI.out.bel.trans (Hvk.out.mono HI.out.bel.size)
  have hz : (((nm ++ ⟨#[32]⟩ ++ A) ++ ⟨#[32]⟩ ++ B) ++ ⟨#[32]⟩ ++ K).size ≤ 2000000 := by
    have h1 : (⟨#[32]⟩ : ByteArray).size = 1 := rfl
    have := HNM.out.2; have := HP.out.la; have := HP.out.lb; have := HP.out.lk
    try simp only [ByteArray.size_append, h1]
    omega
  by_cases hk0 : s.kd = 0
  · exact SayR.fin (S := ({ ({ ({ (stp0 s.d 0) with a := s.a } : StpV) with b := s.b } : StpV) with k := s.k } : StpV)) hb9 (by rw [hk0]; exact hff) (by rw [hft, hfd, hfk]; simp [keepC, stp0]) (by
      unfold lineL
      rw [hft, hfd, if_neg h12, hfw]
      simp only [app_list, HNM.out.1, HP.out.a, HP.out.b, HP.out.k]
      simp [joiL, fldL]) hz
  · exact SayR.bad2 (S := ({ ({ ({ (stp0 s.d 0) with a := s.a } : StpV) with b := s.b } : StpV) with k := s.k } : StpV)) hb9 (say_no (.inr (.inr (.inl ⟨h12, hk0⟩)))) (fun e => hk0 e.symm) hz
set_option maxRecDepth 100000 in
set_option maxHeartbeats 8000000 in
theorem say_ak (s : StpV) (hok : s.Ok) (hf : s.Few) (f : FormV) (hff : formS s.d 0 = some f) (hfd : f.d = s.d) (hfk : f.k = 0) (hfw : f.w = wdN s.d) (hne : wdN s.d ≠ []) (hlen : (wdN s.d).length ≤ 7) (hT : wdT s.d = [65, 75]) (hft : f.t = [97, 107]) (h12 : s.d ≠ 12) (w : World) :
    Calls Tryd.prog 20 #[stpV s] w (SayR (sayL s) w) := by
  change Calls Tryd.prog 20 #[.agg #[.int .u8 (s.d : Int), .int .u8 (s.a : Int), .int .u8 (s.b : Int), .int .i64 s.k, .int .u8 (s.cl : Int), .int .u32 (s.sq : Int), .int .u8 (s.kd : Int), .string ⟨s.y.toArray⟩, .string ⟨s.o.toArray⟩, .string ⟨s.n.toArray⟩, .int .u8 (s.st : Int)]] w _
  obtain ⟨A, B, K, Y, O, N, Z, hp, ca, cb, ck, cs, cy, co, cn⟩ := say_parts s hok hf
  have HP := Lib.hid hp
  have HCa := Lib.hid ca
  have HCb := Lib.hid cb
  have HCk := Lib.hid ck
  have HCs := Lib.hid cs
  have HCy := Lib.hid cy
  have HCo := Lib.hid co
  have HCn := Lib.hid cn
  clear hp ca cb ck cs cy co cn
  obtain ⟨nm, hnm⟩ : ∃ nm : ByteArray, nm = ⟨(wdN s.d).toArray⟩ := ⟨_, rfl⟩
  have hnl : nm.data.toList = wdN s.d := by rw [hnm]
  have hnz : nm.size ≤ 7 := by rw [hnm, ba_size]; exact hlen
  have hne' := ne_empty hnl hne
  have HW := Lib.hid (fun y => word_any s.d hok.d y)
  rw [hT] at HW
  unfold TwoS at HW
  rw [← hnm] at HW
  have HNM := Lib.hid (And.intro hnl hnz)
  clear hnm hnl hnz hne hlen
  have hs1 : StpAt (w.alloc (.cells (stpC s).toArray 39)) w.heap.size s := heap_alloc_new _ _
  have hb1 := (Below.refl w.heap.size w).alloc (Nat.le_refl _) (.cells (stpC s).toArray 39)
  go_enter Tryd.func20, Tryd.ntmps20
  go_upto_region 1 with fail
  change Code.wp _ _ _ _ (w.alloc (.cells (stpC s).toArray 39))
  generalize w.alloc (.cells (stpC s).toArray 39) = w1 at *
  have H1 := Lib.hid (And.intro hs1 hb1)
  obtain ⟨f0, f1, f2, f3, f6, f7, f8, f9, f10⟩ := StpAt.cells H1.out.1
  clear hs1 hb1
  go_upto_region 2 with (go_at_call 34; refine (HW.out w1).mono ?_; rintro e w2 ⟨rfl, hb2⟩; have HB2 := Lib.hid (And.intro (H1.out.1.below hb2) (H1.out.2.trans (hb2.mono H1.out.2.size))); clear hb2)
  clear f0 f1 f2 f3 f6 f7 f8 f9 f10 HW H1
  obtain ⟨f0, f1, f2, f3, f6, f7, f8, f9, f10⟩ := StpAt.cells HB2.out.1
  go_upto_region 5 with fail
  change Code.wp _ _ _ _ (w2.alloc (.cells (stpC (stp0 s.d 0)).toArray 39))
  have hb3 := (Below.refl w2.heap.size w2).alloc (Nat.le_refl _) (.cells (stpC (stp0 s.d 0)).toArray 39)
  have HI := Lib.hid (show SyI w w.heap.size w2.heap.size s (stp0 s.d 0) (w2.alloc (.cells (stpC (stp0 s.d 0)).toArray 39)) from ⟨HB2.out.1.below hb3, heap_alloc_new _ _, HB2.out.2.trans (hb3.mono HB2.out.2.size), Nat.le_refl _, HB2.out.1.lt⟩)
  generalize w2.alloc (.cells (stpC (stp0 s.d 0)).toArray 39) = w3 at *
  clear hb3 HB2 f0 f1 f2 f3 f6 f7 f8 f9 f10
  generalize w2.heap.size = g6 at *
  go_upto_region 6 with fail
  obtain ⟨q0, q1, q2, q3, q6, q7, q8, q9, q10⟩ := StpAt.cells HI.out.s6
  have hth := thaw_row 1 HI.out.s6
  obtain ⟨f0, f1, f2, f3, f6, f7, f8, f9, f10⟩ := StpAt.cells HI.out.s1
  go_upto_region 7 with fail
  have HI2 := HI.out.set { (stp0 s.d 0) with a := s.a } 1 (.int .u8 (s.a : Int)) rfl
  replace HI := Lib.hid HI2
  clear HI2 hth f0 f1 f2 f3 f6 f7 f8 f9 f10 q0 q1 q2 q3 q6 q7 q8 q9 q10
  generalize w3.setCell ⟨g6, 1, none⟩ (.int .u8 (s.a : Int)) = w4 at *
  obtain ⟨f0, f1, f2, f3, f6, f7, f8, f9, f10⟩ := StpAt.cells HI.out.s1
  have hw1 : IntKind.i64.wrap (s.a : Int) = (s.a : Int) := IntWalk.i64_in _ (by have := hok.a; omega)
  have hx4 : ¬ 9223372036854775807 < nm.size + 1 := by have := HNM.out.2; have := HP.out.la; have := HP.out.lb; have := HP.out.lk; omega
  have hy4 : ¬ 9223372036854775807 < nm.size + 1 + A.size := by have := HNM.out.2; have := HP.out.la; have := HP.out.lb; have := HP.out.lk; omega
  go_upto_region 8 with (go_at_call 35; refine (HCa.out w4).mono ?_; rintro e v1 ⟨rfl, rfl⟩)
  clear f0 f1 f2 f3 f6 f7 f8 f9 f10 hx4 hy4
  go_upto_region 12 with fail
  obtain ⟨q0, q1, q2, q3, q6, q7, q8, q9, q10⟩ := StpAt.cells HI.out.s6
  have hth := thaw_row 3 HI.out.s6
  obtain ⟨f0, f1, f2, f3, f6, f7, f8, f9, f10⟩ := StpAt.cells HI.out.s1
  go_upto_region 13 with fail
  have HI2 := HI.out.set { ({ (stp0 s.d 0) with a := s.a } : StpV) with k := s.k } 3 (.int .i64 s.k) rfl
  replace HI := Lib.hid HI2
  clear HI2 hth f0 f1 f2 f3 f6 f7 f8 f9 f10 q0 q1 q2 q3 q6 q7 q8 q9 q10
  generalize w4.setCell ⟨g6, 3, none⟩ (.int .i64 s.k) = w5 at *
  obtain ⟨f0, f1, f2, f3, f6, f7, f8, f9, f10⟩ := StpAt.cells HI.out.s1
  have hx5 : ¬ 9223372036854775807 < nm.size + 1 + A.size + 1 := by have := HNM.out.2; have := HP.out.la; have := HP.out.lb; have := HP.out.lk; omega
  have hy5 : ¬ 9223372036854775807 < nm.size + 1 + A.size + 1 + K.size := by have := HNM.out.2; have := HP.out.la; have := HP.out.lb; have := HP.out.lk; omega
  go_upto_region 14 with (go_at_call 35; refine (HCk.out w5).mono ?_; rintro e v1 ⟨rfl, rfl⟩)
  clear f0 f1 f2 f3 f6 f7 f8 f9 f10 hx5 hy5
  have h12' : ((s.d : Int) == 12) = false := by rw [beq_eq_false_iff_ne]; omega
  obtain ⟨f0, f1, f2, f3, f6, f7, f8, f9, f10⟩ := StpAt.cells HI.out.s1
  go_upto_region 35 with fail
  clear f0 f1 f2 f3 f6 f7 f8 f9 f10
  refine (wpIn_wide (n := 1)).1 ?_
  refine RegJ.wpIn_region_plan (F := Fence.wide) (KeptW w5) (.step 0 0 (.step 1 0 (.step 2 0 (.step 3 0 (.step 4 0 (.step 5 0 .nil)))))) (by kernel_rfl) (by kernel_rfl) (by kernel_rfl) (fun _ _ d _ _ h => by cases d <;> exact h) ⟨rfl, rfl, rfl, Nat.le_refl _, fun _ _ => rfl⟩ ?_
  dsimp only [RegJ.pickJ, List.getElem?_cons_zero, List.getElem?_cons_succ]
  change RegJ.Can _ _ _ _ _ _ _ _ w5.drew
  have hkd : KeptW w5 w5.drew := ⟨rfl, rfl, rfl, Nat.le_refl _, fun _ _ => rfl⟩
  generalize w5.drew = v1 at *
  refine RegJ.reads ?_; intro K hK; go_simp; (first | refine ⟨_, fun _ _ => rfl, hK _ ?_⟩ | refine hK _ ?_); clear hK K
  refine RegJ.reads ?_
  intro K hK
  rw [if_pos (by first | (simp [Region.wanted]; done) | (go_simp; done))]
  refine ⟨.agg (stpC ({ ({ (stp0 s.d 0) with a := s.a } : StpV) with k := s.k } : StpV)).toArray, fun y hy => exec_load rfl rfl (run_loadAt_mid y g6 0 39 (stpC ({ ({ (stp0 s.d 0) with a := s.a } : StpV) with k := s.k } : StpV)) _ (range_row (HI.out.s6.below (KeptW.bel hy))) Tryd.underlying39 rfl (stpC_size _)), hK _ ?_⟩
  clear hK K
  go_simp
  refine RegJ.reads ?_
  intro K hK
  rw [if_pos (by first | (simp [Region.wanted]; done) | (go_simp; done))]
  refine ⟨.agg (stpC s).toArray, fun y hy => exec_load rfl rfl (run_loadAt_mid y w.heap.size 0 39 (stpC s) _ (range_row (HI.out.s1.below (KeptW.bel hy))) Tryd.underlying39 rfl (stpC_size _)), hK _ ?_⟩
  clear hK K
  go_simp
  refine RegJ.reads ?_
  intro K hK
  rw [if_pos (by simp [Region.wanted])]
  refine ⟨.bool (decide (({ ({ (stp0 s.d 0) with a := s.a } : StpV) with k := s.k } : StpV) = s) == true), fun y hy => stp_exec _ _ true _ _ rfl ({ ({ (stp0 s.d 0) with a := s.a } : StpV) with k := s.k } : StpV) s rfl rfl y, hK _ ?_⟩
  clear hK K
  go_simp
  iterate 2 (refine RegJ.reads ?_; intro K hK; go_simp; (first | refine ⟨_, fun _ _ => rfl, hK _ ?_⟩ | refine hK _ ?_); clear hK K)
  refine RegJ.nil ?_
  have Hvk := Lib.hid (KeptW.bel hkd)
  clear hkd
  go_wp2_with fail
  go_ret2
  have hb9 := HI.out.bel.trans (Hvk.out.mono HI.out.bel.size)
  have hz : ((nm ++ ⟨#[32]⟩ ++ A) ++ ⟨#[32]⟩ ++ K).size ≤ 2000000 := by
    have h1 : (⟨#[32]⟩ : ByteArray).size = 1 := rfl
    have := HNM.out.2; have := HP.out.la; have := HP.out.lb; have := HP.out.lk
    try simp only [ByteArray.size_append, h1]
    omega
  by_cases hk0 : s.kd = 0
  · exact SayR.fin (S := ({ ({ (stp0 s.d 0) with a := s.a } : StpV) with k := s.k } : StpV)) hb9 (by rw [hk0]; exact hff) (by rw [hft, hfd, hfk]; simp [keepC, stp0]) (by
      unfold lineL
      rw [hft, hfd, if_neg h12, hfw]
      simp only [app_list, HNM.out.1, HP.out.a, HP.out.k]
      simp [joiL, fldL]) hz
  · exact SayR.bad2 (S := ({ ({ (stp0 s.d 0) with a := s.a } : StpV) with k := s.k } : StpV)) hb9 (say_no (.inr (.inr (.inl ⟨h12, hk0⟩)))) (fun e => hk0 e.symm) hz
set_option maxRecDepth 100000 in
theorem say_zero (s : StpV) (hok : s.Ok) (h0 : s.d = 0 ∨ 14 ≤ s.d) (w : World) : Calls Tryd.prog 20 #[stpV s] w (SayR (sayL s) w) := by
  have HSN := Lib.hid (say_no (s := s) (by rcases h0 with h | h; exact .inl h; exact .inr (.inl h)))
  have hN : wdN s.d = [] := by
    rcases h0 with h | h
    · rw [h]; rfl
    · exact (wdN_no h).1
  change Calls Tryd.prog 20 #[.agg #[.int .u8 (s.d : Int), .int .u8 (s.a : Int), .int .u8 (s.b : Int), .int .i64 s.k, .int .u8 (s.cl : Int), .int .u32 (s.sq : Int), .int .u8 (s.kd : Int), .string ⟨s.y.toArray⟩, .string ⟨s.o.toArray⟩, .string ⟨s.n.toArray⟩, .int .u8 (s.st : Int)]] w _
  have HW := Lib.hid (fun y => word_any s.d hok.d y)
  rw [hN] at HW
  have hs1 : StpAt (w.alloc (.cells (stpC s).toArray 39)) w.heap.size s := heap_alloc_new _ _
  have hb1 := (Below.refl w.heap.size w).alloc (Nat.le_refl _) (.cells (stpC s).toArray 39)
  clear h0 hN
  go_enter Tryd.func20, Tryd.ntmps20
  go_upto_region 1 with fail
  change Code.wp _ _ _ _ (w.alloc (.cells (stpC s).toArray 39))
  generalize w.alloc (.cells (stpC s).toArray 39) = w1 at *
  have H1 := Lib.hid (And.intro hs1 hb1)
  obtain ⟨f0, f1, f2, f3, f6, f7, f8, f9, f10⟩ := StpAt.cells H1.out.1
  clear hs1 hb1
  go_wp2_with (go_at_call 34; refine (HW.out w1).mono ?_; rintro e w2 ⟨rfl, hb2⟩; have HB2 := Lib.hid (H1.out.2.trans (hb2.mono H1.out.2.size)); clear hb2)
  go_ret2
  exact SayR.bad HB2.out HSN.out (by decide)
theorem say31_any (s : StpV) (hok : s.Ok) (hf : s.Few) (w : World) : Calls Tryd.prog 20 #[stpV s] w (SayR (sayL s) w) := by
  by_cases h0 : s.d = 0 ∨ 14 ≤ s.d
  · exact say_zero s hok h0 w
  · by_cases h12 : s.d = 12
    · exact say_inv s hok hf h12 w
    · rcases cls_ex ⟨s.d, by omega⟩ with h | h | ⟨f, _, h1, h2, h3, h4, h5, h6, h7⟩
      · exact (h0 (.inl h)).elim
      · exact (h12 h).elim
      · rcases h7 with ⟨a, b⟩ | ⟨a, b⟩ | ⟨a, b⟩ | ⟨a, b⟩ | ⟨a, b⟩
        · exact say_n s hok hf f h1 h2 h3 h4 h5 h6 a b h12 w
        · exact say_a s hok hf f h1 h2 h3 h4 h5 h6 a b h12 w
        · exact say_ab s hok hf f h1 h2 h3 h4 h5 h6 a b h12 w
        · exact say_abk s hok hf f h1 h2 h3 h4 h5 h6 a b h12 w
        · exact say_ak s hok hf f h1 h2 h3 h4 h5 h6 a b h12 w
end Go.Proofs.YtjjlodeiejobdaaDoor
