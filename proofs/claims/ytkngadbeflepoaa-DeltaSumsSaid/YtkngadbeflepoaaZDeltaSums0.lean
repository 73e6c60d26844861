/- Machines, plain: two machines have the same bytes just if they are the same. No condition. -/
import Derived.Test.YtkngadbeflepoaaZDeltaLeads23
import Derived.Test.YtkngadbeflepoaaZDeltaLeads30
import Derived.Test.YtkngadbeflepoaaZDeltaLeads16
import Derived.WalkKit
import Derived.Laws.IdiomStrings
import Derived.Test.YtkngadbeflepoaaZDeltaLeads0
import Derived.Test.YtkngadbeflepoaaZDeltaLeads43
import Derived.Test.YtkngadbeflepoaaZDeltaLeads26
namespace Go.Proofs.Ytkngadbeflepoaa
open Go.RowKit
theorem back_new : MacAll (newM 127 7) ∧ mayS 7 127 = true := by
  refine ⟨⟨macFit_new 127 7, ?_, by decide +kernel⟩, by decide +kernel⟩
  rw [(show (newM 127 7).sh = .nil by unfold newM; split <;> rfl)]
  trivial
end Go.Proofs.Ytkngadbeflepoaa
namespace Go.Proofs.Ytkngadbeflepoaa
open Go.RowKit
/-- The bytes l lie in block B from its head on, and may be written. -/
def ByteRow (W : World) (B : Nat) (l : List UInt8) : Prop := ∀ j (hj : j < l.length), W.cell? ⟨B, j, none⟩ = some (.int .u8 (l[j].toNat : Int)) ∧ W.frozen? ⟨B, j, none⟩ = false
theorem ByteRow.drew {W : World} {B : Nat} {l : List UInt8} (h : ByteRow W B l) : ByteRow W.drew B l := h
theorem ByteRow.set {W : World} {B : Nat} {l : List UInt8} (h : ByteRow W B l) {q : Nat} (u : UInt8) {x : Int} (hx : x = (u.toNat : Int)) : ByteRow (W.setCell ⟨B, q, none⟩ (.int .u8 x)) B (l.set q u) := by
  subst hx
  intro j hj
  have hj' : j < l.length := by simpa using hj
  obtain ⟨h1, h2⟩ := h j hj'
  refine ⟨?_, by rw [World.frozen?_setCell]; exact h2⟩
  by_cases e : q = j
  · subst e
    rw [World.cell?_setCell_same _ _ _ h1]
    simp
  · rw [World.cell?_setCell_other _ _ _ _ (by intro h; cases h; exact e rfl), h1]
    simp [e]
theorem ByteRow.of_string (w : World) (s : ByteArray) (cap : Nat) (t : TypeId) : ByteRow (w.alloc (.cells (bytesRow s cap) t ((bytesRow s cap).size, (bytesRow s cap).size + 1))) w.heap.size s.data.toList := by
  intro j hj
  have hj' : j < s.data.size := by simpa using hj
  refine ⟨?_, ?_⟩
  · rw [World.cell?_alloc_mark, bytesRow_at s cap j hj']
    simp
  · rw [World.frozen?_alloc_mark]
    have : ¬ ((bytesRow s cap).size ≤ j) := by
      have e : (bytesRow s cap).size = s.data.size + (cap - s.size) := by simp [bytesRow]
      omega
    simp [this]
theorem ByteRow.alloc {W : World} {B : Nat} {l : List UInt8} (h : ByteRow W B l) (hB : B < W.heap.size) (o : Obj) : ByteRow (W.alloc o) B l := fun j hj =>
  ⟨by rw [World.cell?_alloc_lt _ _ _ hB]; exact (h j hj).1, by rw [World.frozen?_alloc_old _ _ _ (by show B ≠ _; omega)]; exact (h j hj).2⟩
theorem ByteRow.other {W : World} {B : Nat} {l : List UInt8} (h : ByteRow W B l) {a : Addr} (ha : a.block ≠ B) (v : Value) : ByteRow (W.setCell a v) B l := fun j hj =>
  ⟨by rw [World.cell?_setCell_other _ _ _ _ (by intro e; rw [e] at ha; exact ha rfl)]; exact (h j hj).1, by rw [World.frozen?_setCell]; exact (h j hj).2⟩
theorem ByteRow.string {P : Program} {W : World} {B : Nat} {l : List UInt8} (h : ByteRow W B l) (src dst e : TypeId) {n cap : Nat} (hn : l.length = n) (hs : P.underlying src = some (.slice e)) (he : P.underlying e = some (.int .u8)) (hd : P.underlying dst = some .string) :
    (convert src dst (.slice (some ⟨B, 0, none⟩) n cap)).run P W = .ok (.string ⟨l.toArray⟩) W := by
  subst hn
  refine run_convert_bytes_back W src dst e ⟨B, 0, none⟩ cap l hs he hd (fun j hj => ?_)
  have := (h j hj).1
  simp only [Addr.add]
  split
  · rename_i e; subst e; exact this
  · simpa using this
namespace Crc
def flip (l : List UInt8) (p : Nat) : List UInt8 := l.set (p / 8) (l.getD (p / 8) 0 ^^^ UInt8.ofNat (2 ^ (p % 8)))
theorem flip_length (l : List UInt8) (p : Nat) : (flip l p).length = l.length := by simp [flip]
theorem xor_u8 (v : UInt8) (r : Nat) (hr : r < 8) : bits .xor .u8 (v.toNat : Int) (2 ^ r % 256) = ((v ^^^ UInt8.ofNat (2 ^ r)).toNat : Int) := by
  have h2 : (2 : Nat) ^ r < 256 := by
    have : r = 0 ∨ r = 1 ∨ r = 2 ∨ r = 3 ∨ r = 4 ∨ r = 5 ∨ r = 6 ∨ r = 7 := by omega
    rcases this with h | h | h | h | h | h | h | h <;> subst h <;> decide
  have e : ((2 : Int) ^ r % 256) = ((2 ^ r : Nat) : Int) := by
    have : ((2 : Int) ^ r) = ((2 ^ r : Nat) : Int) := by simp
    rw [this]; exact Int.emod_eq_of_lt (Int.natCast_nonneg _) (Int.ofNat_lt.2 h2)
  rw [e, u8_xor_nat _ _ v.toNat_lt h2]
  rw [UInt8.toNat_xor, UInt8.toNat_ofNat', Nat.mod_eq_of_lt h2]
end Crc
end Go.Proofs.Ytkngadbeflepoaa
namespace Go.Proofs.Ytkngadbeflepoaa
open Go.RowKit
theorem leB_mod : ∀ (n x m : Nat), leB (x + m * 256 ^ n) n = leB x n
  | 0, _, _ => rfl
  | n + 1, x, m => by
    have e : x + m * 256 ^ (n + 1) = x + m * 256 * 256 ^ n := by rw [Nat.pow_succ, Nat.mul_assoc, Nat.mul_comm 256]
    unfold leB
    rw [e, leB_mod n x (m * 256), Nat.add_mul_div_right _ _ (Nat.pow_pos (by omega))]
    congr 2
    apply UInt8.toNat_inj.1
    simp
theorem leB_onto : ∀ (n : Nat) (l : List UInt8), l.length = n → ∃ f, f < 256 ^ n ∧ leB f n = l
  | 0, l, h => ⟨0, by simp, by rw [List.length_eq_zero_iff.1 h]; rfl⟩
  | n + 1, l, h => by
    rcases List.eq_nil_or_concat l with rfl | ⟨k, b, rfl⟩
    · simp at h
    · obtain ⟨f, hf, hk⟩ := leB_onto n k (by simpa using h)
      have hp : 0 < 256 ^ n := Nat.pow_pos (by omega)
      have hb := b.toNat_lt
      refine ⟨f + b.toNat * 256 ^ n, ?_, ?_⟩
      · rw [Nat.pow_succ, Nat.mul_comm _ 256]
        have : b.toNat * 256 ^ n + 256 ^ n ≤ 256 * 256 ^ n := by
          have := Nat.mul_le_mul_right (256 ^ n) (show b.toNat + 1 ≤ 256 by omega)
          rw [Nat.add_mul, Nat.one_mul] at this
          exact this
        omega
      · unfold leB
        rw [leB_mod, hk, Nat.add_mul_div_right _ _ hp, Nat.div_eq_of_lt hf]
        simp
theorem xor_ne (v : UInt8) {r : Nat} (hr : r < 8) : v ^^^ UInt8.ofNat (2 ^ r) ≠ v := by
  intro h
  have h2 : v ^^^ (v ^^^ UInt8.ofNat (2 ^ r)) = v ^^^ v := by rw [h]
  rw [← UInt8.xor_assoc, UInt8.xor_self, UInt8.zero_xor] at h2
  have : r = 0 ∨ r = 1 ∨ r = 2 ∨ r = 3 ∨ r = 4 ∨ r = 5 ∨ r = 6 ∨ r = 7 := by omega
  rcases this with h | h | h | h | h | h | h | h <;> subst h <;> exact absurd h2 (by decide)
theorem flip_of (x : Nat) (p : Nat) (hp : p < 64) : ∃ f, f < 18446744073709551616 ∧ f ≠ x ∧ Crc.flip (leB x 8) p = leB f 8 := by
  have hl := leB_len x 8
  have hfl : (Crc.flip (leB x 8) p).length = 8 := by rw [Crc.flip_length]; exact hl
  obtain ⟨f, h1, h2⟩ := leB_onto 8 _ hfl
  refine ⟨f, by omega, ?_, h2.symm⟩
  rintro rfl
  have hq : p / 8 < (leB f 8).length := by omega
  have e : (Crc.flip (leB f 8) p)[p / 8]? = (leB f 8)[p / 8]? := by rw [← h2]
  unfold Crc.flip at e
  rw [List.getElem?_set_self hq, List.getElem?_eq_getElem hq, Option.some.injEq, List.getD_eq_getElem?_getD, List.getElem?_eq_getElem hq, Option.getD_some] at e
  exact xor_ne _ (Nat.mod_lt _ (by omega)) e
theorem flip_left (P R : List UInt8) (p : Nat) (hp : p / 8 < P.length) : Crc.flip (P ++ R) p = Crc.flip P p ++ R := by
  unfold Crc.flip
  rw [List.set_append_left _ _ hp, List.getD_eq_getElem?_getD, List.getD_eq_getElem?_getD, List.getElem?_append_left hp]
theorem flip_right (P R : List UInt8) (p n : Nat) (hn : 8 * P.length = n) (hp : n ≤ p) : Crc.flip (P ++ R) p = P ++ Crc.flip R (p - n) := by
  have h1 : P.length ≤ p / 8 := by omega
  have h2 : (p - n) / 8 = p / 8 - P.length := by omega
  have h3 : (p - n) % 8 = p % 8 := by omega
  unfold Crc.flip
  rw [List.set_append_right _ _ h1, List.getD_eq_getElem?_getD, List.getD_eq_getElem?_getD, List.getElem?_append_right h1, h2, h3]
/-- What Patch tells where a bit of the checksums is turned. -/
theorem patch_flip {A B : MacV} (hA : MacAll A) (hB : MacAll B) (hall : A.all = B.all) {p : Nat} (hp : p < 128) : patchM A (Crc.flip (diffM A B) p) = (macNone, if p < 64 then 14 else 5) := by
  rw [diffM_as]
  by_cases h : p < 64
  · rw [if_pos h, flip_left _ _ _ (by rw [leB_len]; omega)]
    obtain ⟨f, h1, h2, h3⟩ := flip_of (sumM A) p h
    rw [h3, patch_sums hA hB hall h1 (sumM_lt B), if_neg (Ne.symm h2)]
  · rw [if_neg h, flip_right _ _ p 64 (by rw [leB_len]) (by omega), flip_left _ _ _ (by rw [leB_len]; omega)]
    obtain ⟨f, h1, h2, h3⟩ := flip_of (sumM B) (p - 64) (by omega)
    rw [h3, patch_sums hA hB hall (sumM_lt A) h1, if_pos rfl, if_neg (Ne.symm h2)]
theorem diffM_long (A B : MacV) : 19 ≤ (diffM A B).length := by
  have h1 := sumB_len A
  have h2 := sumB_len B
  have h3 := (numL_len (diffL A.sh.kv B.sh.kv).length).2
  unfold diffM clientsB keysDB
  simp only [List.length_append, List.length_cons, List.length_nil]
  omega
theorem nodes_do (M : MacV) (c : CmdV) : (macDo M c).m.all = M.all := by
  have h : (macFresh M c).1.all = M.all := by
    unfold macFresh
    split
    · split <;> rfl
    · rfl
  unfold macDo
  split
  · split
    · exact h
    · rfl
  · rfl
theorem nodes_dos (l : List CmdV) : ∀ (M : MacV), (macsDo M l).all = M.all := by
  induction l with
  | nil => exact fun _ => rfl
  | cons c r ih => exact fun M => (ih (macDo M c).m).trans (nodes_do M c)
end Go.Proofs.Ytkngadbeflepoaa
namespace Go.Proofs.Ytkngadbeflepoaa
open Go.RowKit
set_option maxRecDepth 100000 in
set_option maxHeartbeats 16000000 in
theorem sums_reg7 (w0 : World) (g : Nat) (A : MacV) (X : Tr) (a2 : Option Addr) (l2 cap2 : Nat) (z2 : List CmdV) {Q : Exit → Act → World → Prop}
    (hQ : ∀ c a d v w, Q (.panic c) (Act.put a d v) w → Q (.panic c) a w) (HI : Hid (OneI w0 g A X)) (HA : Hid (MacAll A)) (H2 : Hid (CmdsAt w0 a2 l2 z2))
    (u0 u2 u3 u4 u5 u6 u7 u8 u10 u11 u12 u13 u14 u15 u16 u17 u18 u19 u20 u21 u22 u23 u24 u25 u26 u27 u28 u29 u30 u31 u32 u33 u34 u35 u36 u37 u38 u39 u40 u41 u42 u43 u44 u45 u46 u47 u48 u49 u50 u51 u52 u53 u54 u55 u56 u57 u58 u59 u60 u61 u62 u63 u64 u65 u66 u67 u68 u69 u70 u71 u72 u73 u74 u75 u76 u77 u78 u79 u80 u81 u82 u83 u84 u85 u86 u87 : Value)
    (Hk : Hid (∀ (s33 s34 s35 s36 s37 s38 s39 s40 : Value) (w2 : World), Below w0.heap.size w0 w2 → Q .normal ⟨List.toArray (u0 :: Value.slice a2 l2 cap2 :: u2 :: u3 :: u4 :: u5 :: u6 :: u7 :: u8 :: Value.pointer (some ⟨g, 0, none⟩) :: Value.string ⟨(diffM A (macsDo A z2)).toArray⟩ :: Value.int .i64 0 :: u12 :: u13 :: u14 :: u15 :: u16 :: u17 :: u18 :: u19 :: u20 :: u21 :: u22 :: u23 :: u24 :: u25 :: u26 :: u27 :: u28 :: u29 :: u30 :: u31 :: u32 :: s33 :: s34 :: s35 :: s36 :: s37 :: s38 :: s39 :: s40 :: u41 :: u42 :: u43 :: u44 :: u45 :: u46 :: u47 :: u48 :: u49 :: u50 :: u51 :: u52 :: u53 :: u54 :: u55 :: u56 :: u57 :: u58 :: u59 :: u60 :: u61 :: u62 :: u63 :: u64 :: u65 :: u66 :: u67 :: u68 :: u69 :: u70 :: u71 :: u72 :: u73 :: u74 :: u75 :: u76 :: u77 :: u78 :: u79 :: u80 :: u81 :: u82 :: u83 :: u84 :: u85 :: u86 :: u87 :: []), []⟩ w2)) :
    Code.wp Try.prog (findR 7 (Try.f11.body.getD .skip)) Q ⟨List.toArray (u0 :: Value.slice a2 l2 cap2 :: u2 :: u3 :: u4 :: u5 :: u6 :: u7 :: u8 :: Value.pointer (some ⟨g, 0, none⟩) :: u10 :: u11 :: u12 :: u13 :: u14 :: u15 :: u16 :: u17 :: u18 :: u19 :: u20 :: u21 :: u22 :: u23 :: u24 :: u25 :: u26 :: u27 :: u28 :: u29 :: u30 :: u31 :: u32 :: u33 :: u34 :: u35 :: u36 :: u37 :: u38 :: u39 :: u40 :: u41 :: u42 :: u43 :: u44 :: u45 :: u46 :: u47 :: u48 :: u49 :: u50 :: u51 :: u52 :: u53 :: u54 :: u55 :: u56 :: u57 :: u58 :: u59 :: u60 :: u61 :: u62 :: u63 :: u64 :: u65 :: u66 :: u67 :: u68 :: u69 :: u70 :: u71 :: u72 :: u73 :: u74 :: u75 :: u76 :: u77 :: u78 :: u79 :: u80 :: u81 :: u82 :: u83 :: u84 :: u85 :: u86 :: u87 :: []), []⟩ w0 := by
  conv => arg 2; whnf
  have hBall := macsDo_all z2 HA.out
  have hnod : A.all = (macsDo A z2).all := (nodes_dos z2 A).symm
  have hfo := fun (y : World) (hy : KeptW w0 y) => fold_any A X a2 l2 cap2 z2 y HA.out.fit.ok (HI.out.t.below (KeptW.bel hy)) HI.out.s (H2.out.below (KeptW.bel hy))
  generalize macsDo A z2 = B at *
  obtain ⟨VA, hVA⟩ : ∃ V, macV A X.ptr = V := ⟨_, rfl⟩
  rw [hVA] at hfo
  have Hfo := Lib.hid hfo; clear hfo
  have HB := Lib.hid (And.intro hBall hnod); clear hBall hnod
  obtain ⟨S, hS⟩ : ∃ S : ByteArray, (⟨(diffM A B).toArray⟩ : ByteArray) = S := ⟨_, rfl⟩
  rw [hS] at Hk
  have HS := Lib.hid hS; clear hS
  have HVA := Lib.hid hVA; clear hVA
  refine (wpIn_wide (n := 1)).1 ?_
  refine RegJ.wpIn_region_plan (F := Fence.wide) (KeptW w0) (.step 0 0 (.step 1 0 (.step 2 0 (.step 3 1 (.step 4 1 (.step 5 0 (.step 6 0 (.step 7 0 (.step 8 0 (.step 9 0 .nil)))))))))) (by kernel_rfl) (by kernel_rfl) (by kernel_rfl) hQ ⟨rfl, rfl, rfl, Nat.le_refl _, fun _ _ => rfl⟩ ?_
  dsimp only [RegJ.pickJ, List.getElem?_cons_zero, List.getElem?_cons_succ]
  change RegJ.Can _ _ _ _ _ _ _ _ w0.drew
  have hkd : KeptW w0 w0.drew := ⟨rfl, rfl, rfl, Nat.le_refl _, fun _ _ => rfl⟩
  generalize w0.drew = v1 at *
  refine RegJ.reads ?_
  intro K hK
  go_simp
  refine ⟨VA, fun y hy => ?_, hK _ ?_⟩
  · rw [← HVA.out]
    unfold macV
    rw [mac_eta A X.ptr]
    obtain ⟨⟨m0, m1, m14⟩, ⟨m2, m3, m4⟩, ⟨m5, m6, m7⟩, ⟨m8, m9, m10⟩, ⟨m11, m12, m13⟩⟩ := (HI.out.a.below (KeptW.bel hy)).cells
    go_simp
  clear hK K
  refine RegJ.reads ?_
  intro K hK
  go_simp
  refine ⟨VA, fun y hy => ?_, hK _ ?_⟩
  · rw [← HVA.out]
    unfold macV
    rw [mac_eta A X.ptr]
    obtain ⟨⟨m0, m1, m14⟩, ⟨m2, m3, m4⟩, ⟨m5, m6, m7⟩, ⟨m8, m9, m10⟩, ⟨m11, m12, m13⟩⟩ := (HI.out.a.below (KeptW.bel hy)).cells
    go_simp
  clear hK K
  refine RegJ.reads ?_; intro K hK; go_simp; (first | refine ⟨_, fun _ _ => rfl, hK _ ?_⟩ | refine hK _ ?_); clear hK K
  refine RegJ.turns (fun _ => trivial) ?_
  intro K K0 hK hK0
  go_simp
  refine ⟨trivial, ?_⟩
  refine (callsIn_wide.2 (Hfo.out v1 hkd)).mono ?_
  rintro e v2 ⟨Y, rfl, hY, hYs, hb7⟩
  have v2k : KeptW w0 v2 := KeptW.mono hkd hb7
  refine hK _ _ _ (fun _ h => h) v2k ?_
  clear hK K hK0 K0
  obtain ⟨VB, hVB⟩ : ∃ V, macV B Y.ptr = V := ⟨_, rfl⟩
  rw [hVB]
  have HVB := Lib.hid hVB; clear hVB
  refine RegJ.turns (fun _ => trivial) ?_
  intro K K0 hK hK0
  go_simp
  refine ⟨trivial, ?_⟩
  have Hdi := Lib.hid (fun (y : World) (hy : KeptW w0 y) => (show Below v2.heap.size v2 v2 → Calls Try.prog 48 #[VA, VB] v2 fun e w' => e = .returned (.tuple #[.string S, .int .i64 0]) ∧ Below v2.heap.size v2 w' from fun _ => by
    have k := diff_calls HA.out HB.out.1 HB.out.2 (HI.out.t.below (KeptW.bel v2k)) hY HI.out.s hYs
    rw [HS.out, HVA.out, HVB.out] at k
    exact k))
  refine (callsIn_wide.2 (Hdi.out v2 v2k (Below.refl _ _))).mono ?_
  rintro e v3 ⟨rfl, hb7⟩
  have v3k : KeptW w0 v3 := KeptW.mono v2k hb7
  refine hK _ _ _ (fun _ h => h) v3k ?_
  clear hK K hK0 K0
  iterate 5 (refine RegJ.reads ?_; intro K hK; go_simp; (first | refine ⟨_, fun _ _ => rfl, hK _ ?_⟩ | refine hK _ ?_); clear hK K)
  refine RegJ.nil ?_
  exact Hk.out _ _ _ _ _ _ _ _ _ (KeptW.bel v3k)
end Go.Proofs.Ytkngadbeflepoaa
namespace Go.Proofs.Ytkngadbeflepoaa
open Go.RowKit
set_option maxRecDepth 100000 in
set_option maxHeartbeats 16000000 in
theorem sums_reg13 (w0 : World) (g1 b n cap : Nat) (A : MacV) (X : Tr) (l : List UInt8) (code : Nat) {Q : Exit → Act → World → Prop}
    (HI : Hid (OneI w0 g1 A X)) (HR : Hid (ByteRow w0 b l)) (hl : l.length = n) (HA : Hid (MacAll A ∧ l.length ≤ maxLen ∧ patchM A l = (macNone, code)))
    (u0 u1 u2 u3 u4 u5 u6 u7 u8 u10 u11 u13 u14 u15 u16 u17 u18 u19 u20 u21 u22 u23 u24 u25 u26 u27 u28 u29 u30 u31 u32 u33 u34 u35 u36 u37 u38 u39 u40 u41 u42 u43 u44 u45 u46 u47 u48 u49 u50 u51 u52 u53 u54 u55 u56 u57 u58 u59 u60 u61 u62 u63 u64 u65 u66 u67 u68 u69 u70 u71 u72 u73 u74 u75 u76 u77 u78 u79 u80 u81 u82 u83 u84 u85 u86 u87 : Value)
    (Hk : Hid (∀ (s66 s67 s68 s69 s70 s71 : Value) (gy : Nat) (w2 : World), MacAt w2 gy macNone none ∧ Below w0.heap.size w0 w2 → Q .normal ⟨List.toArray (u0 :: u1 :: u2 :: u3 :: u4 :: u5 :: u6 :: u7 :: u8 :: Value.pointer (some ⟨g1, 0, none⟩) :: u10 :: u11 :: Value.slice (some ⟨b, 0, none⟩) n cap :: u13 :: Value.pointer (some ⟨gy, 0, none⟩) :: Value.int .i64 (code : Int) :: u16 :: u17 :: u18 :: u19 :: u20 :: u21 :: u22 :: u23 :: u24 :: u25 :: u26 :: u27 :: u28 :: u29 :: u30 :: u31 :: u32 :: u33 :: u34 :: u35 :: u36 :: u37 :: u38 :: u39 :: u40 :: u41 :: u42 :: u43 :: u44 :: u45 :: u46 :: u47 :: u48 :: u49 :: u50 :: u51 :: u52 :: u53 :: u54 :: u55 :: u56 :: u57 :: u58 :: u59 :: u60 :: u61 :: u62 :: u63 :: u64 :: u65 :: s66 :: s67 :: s68 :: s69 :: s70 :: s71 :: Value.int .i64 (code : Int) :: u73 :: u74 :: u75 :: u76 :: u77 :: u78 :: u79 :: u80 :: u81 :: u82 :: u83 :: u84 :: u85 :: u86 :: u87 :: []), []⟩ w2)) :
    Code.wp Try.prog (findR 13 (Try.f11.body.getD .skip)) Q ⟨List.toArray (u0 :: u1 :: u2 :: u3 :: u4 :: u5 :: u6 :: u7 :: u8 :: Value.pointer (some ⟨g1, 0, none⟩) :: u10 :: u11 :: Value.slice (some ⟨b, 0, none⟩) n cap :: u13 :: u14 :: u15 :: u16 :: u17 :: u18 :: u19 :: u20 :: u21 :: u22 :: u23 :: u24 :: u25 :: u26 :: u27 :: u28 :: u29 :: u30 :: u31 :: u32 :: u33 :: u34 :: u35 :: u36 :: u37 :: u38 :: u39 :: u40 :: u41 :: u42 :: u43 :: u44 :: u45 :: u46 :: u47 :: u48 :: u49 :: u50 :: u51 :: u52 :: u53 :: u54 :: u55 :: u56 :: u57 :: u58 :: u59 :: u60 :: u61 :: u62 :: u63 :: u64 :: u65 :: u66 :: u67 :: u68 :: u69 :: u70 :: u71 :: u72 :: u73 :: u74 :: u75 :: u76 :: u77 :: u78 :: u79 :: u80 :: u81 :: u82 :: u83 :: u84 :: u85 :: u86 :: u87 :: []), []⟩ w0 := by
  conv => arg 2; whnf
  have hd := patch_none (s := ⟨l.toArray⟩) HA.out.1 HA.out.2.1 HA.out.2.2 HI.out.t HI.out.s
  obtain ⟨PX, hPX⟩ : ∃ P, X.ptr = P := ⟨_, rfl⟩
  rw [hPX] at hd
  unfold macV at hd
  rw [mac_eta A PX] at hd
  have hstr := HR.out.string (P := Try.prog) 60 9 5 (n := n) (cap := cap) hl Try.underlying60 Try.underlying5 Try.underlying9
  obtain ⟨S, hS⟩ : ∃ S : ByteArray, (⟨l.toArray⟩ : ByteArray) = S := ⟨_, rfl⟩
  rw [hS] at hd hstr
  have Hd := Lib.hid hd; clear hd hS
  obtain ⟨⟨a0, a1, a14⟩, ⟨a2, a3, a4⟩, ⟨a5, a6, a7⟩, ⟨a8, a9, a10⟩, ⟨a11, a12, a13⟩⟩ := HI.out.a.cells
  rw [hPX] at a14
  clear hPX HI
  go_wp2_with ((with_reducible refine Hd.out.mono ?_); rintro e w2 ⟨rfl, hb⟩; have Hb := Lib.hid hb; clear hb; rw [mac_eta macNone none])
  change Q _ _ (w2.alloc (.cells (macCells macNone none).toArray 69))
  have hba := (Below.refl w2.heap.size w2).alloc (Nat.le_refl _) (.cells (macCells macNone none).toArray 69)
  exact Hk.out _ _ _ _ _ _ _ _ ⟨heap_alloc_new _ _, Hb.out.trans (hba.mono Hb.out.size)⟩
end Go.Proofs.Ytkngadbeflepoaa
