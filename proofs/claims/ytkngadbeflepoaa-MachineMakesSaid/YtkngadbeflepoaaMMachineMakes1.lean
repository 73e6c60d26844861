/- Machines, plain: which parts may be. No condition. -/
import Derived.Test.YtkngadbeflepoaaMMachineMakes0
import Derived.Test.YtkngadbeflepoaaMMachineBack41
import Derived.Test.YtkngadbeflepoaaRows
import Derived.Test.YtkngadbeflepoaaMMachineBack32
import Derived.Test.YtkngadbeflepoaaMMachineBack34
namespace Go.Proofs.Ytkngadbeflepoaa
open Go.RowKit

theorem and127 (x : Nat) : x &&& 127 = x % 128 := Nat.and_two_pow_sub_one_eq_mod x 7
theorem both_eq {x : Nat} : (x = bothS x x) ↔ x < 128 := by
  unfold bothS
  rw [Nat.and_self, and127]
  omega
theorem pop_pos : ∀ m, m < 128 → (0 < pop8 m ↔ m ≠ 0) := by decide
/-- May the sets be? -/
def setsG (a m : Nat) : Bool := decide (a < 128) && decide (m < 128) && decide (m ≠ 0) && decide (m &&& (255 - a) = 0)
theorem sets_good (M : MacV) : setsOk M = setsG M.all M.mem := by
  rw [Bool.eq_iff_iff]
  unfold setsOk setsG mayS withoutS
  simp only [Bool.and_eq_true, decide_eq_true_eq, both_eq]
  have hle : M.mem &&& (255 - M.all) ≤ M.mem := Nat.and_le_left
  constructor
  · rintro ⟨⟨⟨h1, h2⟩, h3⟩, h4⟩
    rw [and127, Nat.mod_eq_of_lt h4] at h1
    rw [and127, Nat.mod_eq_of_lt (by omega)] at h2
    exact ⟨⟨⟨h3, h4⟩, (pop_pos _ h4).1 h1⟩, h2⟩
  · rintro ⟨⟨⟨h3, h4⟩, h1⟩, h2⟩
    rw [and127 M.mem, Nat.mod_eq_of_lt h4, and127 (M.mem &&& (255 - M.all)), Nat.mod_eq_of_lt (by omega)]
    exact ⟨⟨⟨(pop_pos _ h4).2 h1, h2⟩, h3⟩, h4⟩
theorem tabOkB_mono {t : TabV} : ∀ {m n : Nat}, n ≤ m → tabOkB t m = true → tabOkB t n = true
  | 0, n, h, _ => by
    obtain rfl : n = 0 := by omega
    rfl
  | m + 1, n, h, hk => by
    by_cases e : n = m + 1
    · subst e; exact hk
    · unfold tabOkB at hk
      simp only [Bool.and_eq_true] at hk
      exact tabOkB_mono (by omega) hk.1
theorem tabOkB_off {t : TabV} {n m : Nat} (h : n ≤ m) (hk : tabOkB t n = false) : tabOkB t m = false := by
  cases e : tabOkB t m with
  | false => rfl
  | true => rw [tabOkB_mono h e] at hk; cases hk
theorem lastOkB_fit {x : LastV} (h : lastOkB x = true) : LastFit x := by
  unfold lastOkB at h
  simp only [Bool.and_eq_true, Bool.or_eq_true, decide_eq_true_eq] at h
  exact ⟨h.1.1, h.1.2, fun e => h.2.elim (fun k => absurd e k) lastE_iff.1⟩
theorem tabOkB_fit {t : TabV} (h : tabOkB t 4 = true) (n : Nat) : LastFit (t.at_ n) := by
  unfold tabOkB tabOkB tabOkB tabOkB at h
  simp only [Bool.and_eq_true] at h
  obtain ⟨⟨⟨⟨-, h0⟩, h1⟩, h2⟩, h3⟩ := h
  unfold TabV.at_
  split
  · exact lastOkB_fit h0
  · split
    · exact lastOkB_fit h1
    · split
      · exact lastOkB_fit h2
      · exact lastOkB_fit h3
/-- Parts that may be are a machine. -/
theorem make_all {M : MacV} (h : makeOk M = true) (ha : Asc M.sh.kv) (hh : M.sh.Heap) : MacAll M := by
  unfold makeOk at h
  simp only [Bool.and_eq_true] at h
  obtain ⟨⟨h1, h2⟩, h3⟩ := h
  have hs := h1
  rw [sets_good] at hs
  unfold setsG at hs
  simp only [Bool.and_eq_true, decide_eq_true_eq] at hs
  unfold keysOkB at h3
  simp only [Bool.and_eq_true, decide_eq_true_eq] at h3
  have hp : ∀ p ∈ M.sh.kv, p.1.toList ≠ [] ∧ p.1.size ≤ 16 ∧ p.2.size ≤ 64 := fun p hp => by
    have := List.all_eq_true.1 h3.2 p hp
    unfold pairOkB at this
    simp only [Bool.and_eq_true, decide_eq_true_eq] at this
    exact ⟨this.1.1, this.1.2, this.2⟩
  refine ⟨⟨hs.1.1.1, hs.1.1.2, tabOkB_fit h2, ⟨ha, h3.1, fun p hm => (hp p hm).2.2⟩, fun p hm => ⟨?_, (hp p hm).2.1⟩⟩, hh, h1⟩
  have h0 := (hp p hm).1
  rw [← str_size]
  rw [ByteArray.toList_eq] at h0
  cases hl : p.1.data.toList with
  | nil => rw [hl] at h0; exact absurd rfl h0
  | cons => simp
/-- What the law MachineMakes looks at, in its order. -/
theorem make_order (M : MacV) : makeOk M = (((setsG M.all M.mem && decide (M.sh.cnt ≤ 256)) && tabOkB M.tab 4) && kvAll M.sh.kv) := by
  unfold makeOk keysOkB
  rw [sets_good]
  cases setsG M.all M.mem <;> cases tabOkB M.tab 4 <;> cases kvAll M.sh.kv <;> cases decide (M.sh.cnt ≤ 256) <;> rfl
end Go.Proofs.Ytkngadbeflepoaa
/- The loop of a number in a function's code. No condition. -/
namespace Go.Proofs.Ytkngadbeflepoaa

/-- The block of a number. -/
def findBO (k : Nat) : Code → Option Code
  | .block i c => if i = k then some (.block i c) else findBO k c
  | .seq a b => match findBO k a with
    | some c => some c
    | none => findBO k b
  | .loop c => findBO k c
  | .scope c => findBO k c
  | .cond _ a b => match findBO k a with
    | some c => some c
    | none => findBO k b
  | _ => none
def findL (k : Nat) (c : Code) : Code := match findBO k c with
  | some (.block _ c) => c
  | _ => .skip
end Go.Proofs.Ytkngadbeflepoaa
/- MachineMakes, pieces: what may be, looked at part by part. Condition: few enough keys. -/
namespace Go.Proofs.Ytkngadbeflepoaa
open Go.RowKit

theorem TabAt.below'' {w w' : World} {g n : Nat} {t : TabV} (h : TabAt w g t) (hb : Below n w w') (hl : g < n) : TabAt w' g t := (hb.block g hl).trans h

set_option maxRecDepth 100000 in
set_option maxHeartbeats 16000000 in
theorem mm_good (w0 : World) (a m : Nat) (P : Option Addr) (T : Tr) {Q : Exit → Act → World → Prop}
    (HT : Hid (TreeAt w0 T ∧ T.ptr = P)) (ha : a < 256) (hm : m < 256)
    (u2 u3 u4 u5 u6 u7 u8 u10 u11 u12 u13 u14 u15 u16 u17 u18 u19 u20 u21 u22 u23 u24 u25 u26 u27 u28 u29 u30 u31 u32 u33 u34 u35 u36 u37 u38 u39 u40 u41 u42 u43 u44 u45 u46 u47 u48 u49 u50 u51 u52 u53 u54 u55 u56 u57 u58 u59 u60 u61 u62 u63 u64 u65 u66 u67 u68 u69 u70 u71 u72 u73 u74 u75 u76 u77 u78 u79 u80 u81 u82 u83 u84 u85 u86 u87 u88 u89 u90 u91 u92 u93 u94 u95 u96 u97 u98 u99 u100 u101 u102 u103 u104 u105 u106 u107 u108 u109 u110 u111 u112 u113 u114 u115 u116 u117 u118 u119 u120 u121 u122 u123 u124 u125 u126 u127 u128 u129 u130 u131 u132 u133 u134 u135 u136 u137 u138 u139 u140 u141 u142 u143 u144 u145 u146 u147 u148 u149 u150 u151 u152 u153 u154 u155 u156 u157 u158 u159 u160 u161 u162 u163 u164 u165 u166 u167 u168 u169 u170 u171 u172 u173 u174 u175 u176 u177 u178 : Value)
    (Hk : Hid (∀ (s45 s46 s47 s48 s49 s50 s51 s52 s53 s54 s55 s56 s57 s58 s59 s60 s61 s62 s63 s64 s65 : Value) (w2 : World), BoxAt w2 w0.heap.size (.bool (setsG a m && decide (T.cnt ≤ 256))) 4 ∧ Below w0.heap.size w0 w2 → Q .normal ⟨List.toArray (Value.int .u8 (a : Int) :: Value.int .u8 (m : Int) :: u2 :: u3 :: u4 :: u5 :: u6 :: u7 :: u8 :: Value.pointer P :: u10 :: u11 :: u12 :: Value.pointer (some ⟨w0.heap.size, 0, none⟩) :: u14 :: u15 :: u16 :: u17 :: u18 :: u19 :: u20 :: u21 :: u22 :: u23 :: u24 :: u25 :: u26 :: u27 :: u28 :: u29 :: u30 :: u31 :: u32 :: u33 :: u34 :: u35 :: u36 :: u37 :: u38 :: u39 :: u40 :: u41 :: u42 :: u43 :: u44 :: s45 :: s46 :: s47 :: s48 :: s49 :: s50 :: s51 :: s52 :: s53 :: s54 :: s55 :: s56 :: s57 :: s58 :: s59 :: s60 :: s61 :: s62 :: s63 :: s64 :: s65 :: u66 :: u67 :: u68 :: u69 :: u70 :: u71 :: u72 :: u73 :: u74 :: u75 :: u76 :: u77 :: u78 :: u79 :: u80 :: u81 :: u82 :: u83 :: u84 :: u85 :: u86 :: u87 :: u88 :: u89 :: u90 :: u91 :: u92 :: u93 :: u94 :: u95 :: u96 :: u97 :: u98 :: u99 :: u100 :: u101 :: u102 :: u103 :: u104 :: u105 :: u106 :: u107 :: u108 :: u109 :: u110 :: u111 :: u112 :: u113 :: u114 :: u115 :: u116 :: u117 :: u118 :: u119 :: u120 :: u121 :: u122 :: u123 :: u124 :: u125 :: u126 :: u127 :: u128 :: u129 :: u130 :: u131 :: u132 :: u133 :: u134 :: u135 :: u136 :: u137 :: u138 :: u139 :: u140 :: u141 :: u142 :: u143 :: u144 :: u145 :: u146 :: u147 :: u148 :: u149 :: u150 :: u151 :: u152 :: u153 :: u154 :: u155 :: u156 :: u157 :: u158 :: u159 :: u160 :: u161 :: u162 :: u163 :: u164 :: u165 :: u166 :: u167 :: u168 :: u169 :: u170 :: u171 :: u172 :: u173 :: u174 :: u175 :: u176 :: u177 :: u178 :: []), []⟩ w2)) :
    Code.wp Try.prog (findR 10 (Try.f8.body.getD .skip)) Q ⟨List.toArray (Value.int .u8 (a : Int) :: Value.int .u8 (m : Int) :: u2 :: u3 :: u4 :: u5 :: u6 :: u7 :: u8 :: Value.pointer P :: u10 :: u11 :: u12 :: u13 :: u14 :: u15 :: u16 :: u17 :: u18 :: u19 :: u20 :: u21 :: u22 :: u23 :: u24 :: u25 :: u26 :: u27 :: u28 :: u29 :: u30 :: u31 :: u32 :: u33 :: u34 :: u35 :: u36 :: u37 :: u38 :: u39 :: u40 :: u41 :: u42 :: u43 :: u44 :: u45 :: u46 :: u47 :: u48 :: u49 :: u50 :: u51 :: u52 :: u53 :: u54 :: u55 :: u56 :: u57 :: u58 :: u59 :: u60 :: u61 :: u62 :: u63 :: u64 :: u65 :: u66 :: u67 :: u68 :: u69 :: u70 :: u71 :: u72 :: u73 :: u74 :: u75 :: u76 :: u77 :: u78 :: u79 :: u80 :: u81 :: u82 :: u83 :: u84 :: u85 :: u86 :: u87 :: u88 :: u89 :: u90 :: u91 :: u92 :: u93 :: u94 :: u95 :: u96 :: u97 :: u98 :: u99 :: u100 :: u101 :: u102 :: u103 :: u104 :: u105 :: u106 :: u107 :: u108 :: u109 :: u110 :: u111 :: u112 :: u113 :: u114 :: u115 :: u116 :: u117 :: u118 :: u119 :: u120 :: u121 :: u122 :: u123 :: u124 :: u125 :: u126 :: u127 :: u128 :: u129 :: u130 :: u131 :: u132 :: u133 :: u134 :: u135 :: u136 :: u137 :: u138 :: u139 :: u140 :: u141 :: u142 :: u143 :: u144 :: u145 :: u146 :: u147 :: u148 :: u149 :: u150 :: u151 :: u152 :: u153 :: u154 :: u155 :: u156 :: u157 :: u158 :: u159 :: u160 :: u161 :: u162 :: u163 :: u164 :: u165 :: u166 :: u167 :: u168 :: u169 :: u170 :: u171 :: u172 :: u173 :: u174 :: u175 :: u176 :: u177 :: u178 :: []), []⟩ w0 := by
  conv => arg 2; whnf
  have hlen := len_any T w0 HT.out.1
  rw [HT.out.2] at hlen
  have hand := u8_andNot_nat m a hm ha
  have hgood : (setsG a m && decide (T.cnt ≤ 256)) = ((decide (a < 128) && decide (m < 128) && decide (m ≠ 0) && decide (m &&& (255 - a) = 0)) && decide (T.cnt ≤ 256)) := rfl
  obtain ⟨rb, hrb⟩ : ∃ b, (setsG a m && decide (T.cnt ≤ 256)) = b := ⟨_, rfl⟩
  rw [hrb] at hgood Hk
  clear hrb
  obtain ⟨c, hc⟩ : ∃ c, T.cnt = c := ⟨_, rfl⟩
  rw [hc] at hlen hgood
  clear hc
  obtain ⟨q, hq⟩ : ∃ q, m &&& (255 - a) = q := ⟨_, rfl⟩
  rw [hq] at hand hgood
  clear hq
  have Hlen := Lib.hid hlen; clear hlen
  have Hgood := Lib.hid hgood; clear hgood
  have hbox := fun v : Value => BoxAt.new w0 v 4
  have hbel : ∀ v : Value, Below w0.heap.size w0 (w0.alloc (.cells #[v] 4)) := fun v => (Below.refl _ _).alloc (Nat.le_refl _) _
  have Hbox := Lib.hid hbox; clear hbox
  have Hbel := Lib.hid hbel; clear hbel
  by_cases h1 : a < 128
  · have h1' : (a : Int) < 128 := by omega
    by_cases h2 : m < 128
    · have h2' : (m : Int) < 128 := by omega
      by_cases h3 : m = 0
      · have h3' : ((m : Int) != 0) = false := by simp [h3]
        have hrb : rb = false := by rw [Hgood.out]; simp [h1, h3]
        have Hrb := Lib.hid hrb; clear hrb Hgood
        have hand' := hand
        clear hand
        go_wp2_with ((with_reducible refine Hlen.out.mono ?_); rintro e w' ⟨rfl, rfl⟩)
        refine Hk.out _ _ _ _ _ _ _ _ _ _ _ _ _ _ _ _ _ _ _ _ _ _ ⟨?_, Hbel.out _⟩
        rw [Hrb.out]
        exact Hbox.out _
      · have h3' : ((m : Int) != 0) = true := by simp; omega
        by_cases h4 : q = 0
        · have h4' : ((q : Int) == 0) = true := by simp [h4]
          by_cases h5 : c ≤ 256
          · have h5' : ¬ (256 : Int) < (c : Int) := by omega
            have h5'' : (c : Int) ≤ 256 := by omega
            have hrb : rb = true := by rw [Hgood.out]; simp [h1, h2, h3, h4, h5]
            have Hrb := Lib.hid hrb; clear hrb Hgood
            have hand' := hand
            clear hand
            go_wp2_with ((with_reducible refine Hlen.out.mono ?_); rintro e w' ⟨rfl, rfl⟩)
            refine Hk.out _ _ _ _ _ _ _ _ _ _ _ _ _ _ _ _ _ _ _ _ _ _ ⟨?_, Hbel.out _⟩
            rw [Hrb.out]
            exact Hbox.out _
          · have h5' : (256 : Int) < (c : Int) := by omega
            have h5'' : ¬ (c : Int) ≤ 256 := by omega
            have hrb : rb = false := by rw [Hgood.out]; simp [h1, h2, h3, h4, h5]
            have Hrb := Lib.hid hrb; clear hrb Hgood
            have hand' := hand
            clear hand
            go_wp2_with ((with_reducible refine Hlen.out.mono ?_); rintro e w' ⟨rfl, rfl⟩)
            refine Hk.out _ _ _ _ _ _ _ _ _ _ _ _ _ _ _ _ _ _ _ _ _ _ ⟨?_, Hbel.out _⟩
            rw [Hrb.out]
            rw [← (decide_eq_false (by omega) : decide ((c : Int) ≤ 256) = false)]
            exact Hbox.out _
        · have h4' : ((q : Int) == 0) = false := by simp; omega
          have hrb : rb = false := by rw [Hgood.out]; simp [h1, h2, h3, h4]
          have Hrb := Lib.hid hrb; clear hrb Hgood
          have hand' := hand
          clear hand
          go_wp2_with ((with_reducible refine Hlen.out.mono ?_); rintro e w' ⟨rfl, rfl⟩)
          refine Hk.out _ _ _ _ _ _ _ _ _ _ _ _ _ _ _ _ _ _ _ _ _ _ ⟨?_, Hbel.out _⟩
          rw [Hrb.out]
          exact Hbox.out _
    · have h2' : ¬ (m : Int) < 128 := by omega
      have hrb : rb = false := by rw [Hgood.out]; simp [h1, h2]
      have Hrb := Lib.hid hrb; clear hrb Hgood
      have hand' := hand
      clear hand
      go_wp2_with ((with_reducible refine Hlen.out.mono ?_); rintro e w' ⟨rfl, rfl⟩)
      refine Hk.out _ _ _ _ _ _ _ _ _ _ _ _ _ _ _ _ _ _ _ _ _ _ ⟨?_, Hbel.out _⟩
      rw [Hrb.out]
      exact Hbox.out _
  · have h1' : ¬ (a : Int) < 128 := by omega
    have hrb : rb = false := by rw [Hgood.out]; simp [h1]
    have Hrb := Lib.hid hrb; clear hrb Hgood
    have hand' := hand
    clear hand
    go_wp2_with ((with_reducible refine Hlen.out.mono ?_); rintro e w' ⟨rfl, rfl⟩)
    refine Hk.out _ _ _ _ _ _ _ _ _ _ _ _ _ _ _ _ _ _ _ _ _ _ ⟨?_, Hbel.out _⟩
    rw [Hrb.out]
    exact Hbox.out _

set_option maxRecDepth 100000 in
set_option maxHeartbeats 16000000 in
theorem mm_loop (w0 : World) (gt gg : Nat) (t : TabV) (g0 : Bool) {Q : Exit → Act → World → Prop}
    (HT : Hid (TabAt w0 gt t)) (HB : Hid (BoxAt w0 gg (.bool g0) 4)) (Hlt : Hid (gt < gg))
    (u0 u1 u2 u3 u4 u5 u7 u8 u9 u10 u11 u12 u15 u16 u17 u18 u19 u20 u21 u22 u23 u24 u25 u26 u27 u28 u29 u30 u31 u32 u33 u34 u35 u36 u37 u38 u39 u40 u41 u42 u43 u44 u45 u46 u47 u48 u49 u50 u51 u52 u53 u54 u55 u56 u57 u58 u59 u60 u61 u62 u63 u64 u65 u66 u67 u68 u69 u70 u71 u72 u73 u74 u75 u76 u77 u78 u79 u80 u81 u82 u83 u84 u85 u86 u87 u88 u89 u90 u91 u92 u93 u94 u95 u96 u97 u98 u99 u100 u101 u102 u103 u104 u105 u106 u107 u108 u109 u110 u111 u112 u113 u114 u115 u116 u117 u118 u119 u120 u121 u122 u123 u124 u125 u126 u127 u128 u129 u130 u131 u132 u133 u134 u135 u136 u137 u138 u139 u140 u141 u142 u143 u144 u145 u146 u147 u148 u149 u150 u151 u152 u153 u154 u155 u156 u157 u158 u159 u160 u161 u162 u163 u164 u165 u166 u167 u168 u169 u170 u171 u172 u173 u174 u175 u176 u177 u178 : Value)
    (Hk : Hid (∀ (s14 s66 s67 s68 s69 s70 s71 s72 s73 s74 s75 s76 s77 s78 s79 s80 s81 s82 s83 s84 s85 s86 s87 s88 s89 s90 s91 s92 s93 s94 s95 s96 s97 s98 s99 s100 s101 s102 : Value) (w2 : World), BoxAt w2 gg (.bool (g0 && tabOkB t 4)) 4 ∧ Below gg w0 w2 → Q (.exit 2) ⟨List.toArray (u0 :: u1 :: u2 :: u3 :: u4 :: u5 :: Value.pointer (some ⟨gt, 0, none⟩) :: u7 :: u8 :: u9 :: u10 :: u11 :: u12 :: Value.pointer (some ⟨gg, 0, none⟩) :: s14 :: u15 :: u16 :: u17 :: u18 :: u19 :: u20 :: u21 :: u22 :: u23 :: u24 :: u25 :: u26 :: u27 :: u28 :: u29 :: u30 :: u31 :: u32 :: u33 :: u34 :: u35 :: u36 :: u37 :: u38 :: u39 :: u40 :: u41 :: u42 :: u43 :: u44 :: u45 :: u46 :: u47 :: u48 :: u49 :: u50 :: u51 :: u52 :: u53 :: u54 :: u55 :: u56 :: u57 :: u58 :: u59 :: u60 :: u61 :: u62 :: u63 :: u64 :: u65 :: s66 :: s67 :: s68 :: s69 :: s70 :: s71 :: s72 :: s73 :: s74 :: s75 :: s76 :: s77 :: s78 :: s79 :: s80 :: s81 :: s82 :: s83 :: s84 :: s85 :: s86 :: s87 :: s88 :: s89 :: s90 :: s91 :: s92 :: s93 :: s94 :: s95 :: s96 :: s97 :: s98 :: s99 :: s100 :: s101 :: s102 :: u103 :: u104 :: u105 :: u106 :: u107 :: u108 :: u109 :: u110 :: u111 :: u112 :: u113 :: u114 :: u115 :: u116 :: u117 :: u118 :: u119 :: u120 :: u121 :: u122 :: u123 :: u124 :: u125 :: u126 :: u127 :: u128 :: u129 :: u130 :: u131 :: u132 :: u133 :: u134 :: u135 :: u136 :: u137 :: u138 :: u139 :: u140 :: u141 :: u142 :: u143 :: u144 :: u145 :: u146 :: u147 :: u148 :: u149 :: u150 :: u151 :: u152 :: u153 :: u154 :: u155 :: u156 :: u157 :: u158 :: u159 :: u160 :: u161 :: u162 :: u163 :: u164 :: u165 :: u166 :: u167 :: u168 :: u169 :: u170 :: u171 :: u172 :: u173 :: u174 :: u175 :: u176 :: u177 :: u178 :: []), []⟩ w2)) :
    Code.wp Try.prog (findL 2 (Try.f8.body.getD .skip)) Q ⟨List.toArray (u0 :: u1 :: u2 :: u3 :: u4 :: u5 :: Value.pointer (some ⟨gt, 0, none⟩) :: u7 :: u8 :: u9 :: u10 :: u11 :: u12 :: Value.pointer (some ⟨gg, 0, none⟩) :: Value.int .i64 0 :: u15 :: u16 :: u17 :: u18 :: u19 :: u20 :: u21 :: u22 :: u23 :: u24 :: u25 :: u26 :: u27 :: u28 :: u29 :: u30 :: u31 :: u32 :: u33 :: u34 :: u35 :: u36 :: u37 :: u38 :: u39 :: u40 :: u41 :: u42 :: u43 :: u44 :: u45 :: u46 :: u47 :: u48 :: u49 :: u50 :: u51 :: u52 :: u53 :: u54 :: u55 :: u56 :: u57 :: u58 :: u59 :: u60 :: u61 :: u62 :: u63 :: u64 :: u65 :: u66 :: u67 :: u68 :: u69 :: u70 :: u71 :: u72 :: u73 :: u74 :: u75 :: u76 :: u77 :: u78 :: u79 :: u80 :: u81 :: u82 :: u83 :: u84 :: u85 :: u86 :: u87 :: u88 :: u89 :: u90 :: u91 :: u92 :: u93 :: u94 :: u95 :: u96 :: u97 :: u98 :: u99 :: u100 :: u101 :: u102 :: u103 :: u104 :: u105 :: u106 :: u107 :: u108 :: u109 :: u110 :: u111 :: u112 :: u113 :: u114 :: u115 :: u116 :: u117 :: u118 :: u119 :: u120 :: u121 :: u122 :: u123 :: u124 :: u125 :: u126 :: u127 :: u128 :: u129 :: u130 :: u131 :: u132 :: u133 :: u134 :: u135 :: u136 :: u137 :: u138 :: u139 :: u140 :: u141 :: u142 :: u143 :: u144 :: u145 :: u146 :: u147 :: u148 :: u149 :: u150 :: u151 :: u152 :: u153 :: u154 :: u155 :: u156 :: u157 :: u158 :: u159 :: u160 :: u161 :: u162 :: u163 :: u164 :: u165 :: u166 :: u167 :: u168 :: u169 :: u170 :: u171 :: u172 :: u173 :: u174 :: u175 :: u176 :: u177 :: u178 :: []), []⟩ w0 := by
  conv => arg 2; whnf
  go_loopw [14] (fun sc wr => ∃ (i : Nat), i ≤ 4 ∧ sc = .int .i64 (i : Int) ∧ BoxAt wr gg (.bool (g0 && tabOkB t i)) 4 ∧ Below gg w0 wr) (fun sc _ => 4 - (intOf sc).toNat)
  case atStart => exact ⟨0, by omega, rfl, by rw [show tabOkB t 0 = true from rfl, Bool.and_true]; exact HB.out, Below.refl _ _⟩
  case round =>
    obtain ⟨i, hi, rfl, hbox, hbel⟩ := hrel
    have Hbel := Lib.hid hbel; clear hbel
    have Hbox := Lib.hid hbox; clear hbox
    by_cases hi4 : i < 4
    · have hi4' : (i : Int) < 4 := by omega
      have hisu := tsucc (n := i) (by omega)
      have hoff := tabOkB_off (t := t) (Nat.le_of_lt hi4)
      obtain ⟨b, hb⟩ : ∃ b, (g0 && tabOkB t i) = b := ⟨_, rfl⟩
      have hstep : (g0 && tabOkB t (i + 1)) = (b && lastOkB (t.at_ i)) := by
        rw [← hb, Bool.and_assoc]
        rfl
      have hstop : b = false → (g0 && tabOkB t 4) = false := fun e => by
        rw [e] at hb
        cases g0 with
        | false => rfl
        | true => rw [Bool.true_and] at hb ⊢; exact hoff hb
      rw [hb] at Hbox
      clear hb hoff
      cases b with
      | false =>
        have Hstop := Lib.hid (hstop rfl); clear hstop hstep
        have hc0 := Hbox.out.cell
        go_wp2_with fail
        refine Hk.out _ _ _ _ _ _ _ _ _ _ _ _ _ _ _ _ _ _ _ _ _ _ _ _ _ _ _ _ _ _ _ _ _ _ _ _ _ _ _ ⟨?_, Hbel.out⟩
        rw [Hstop.out]
        exact Hbox.out
      | true =>
        clear hstop
        rw [Bool.true_and] at hstep
        obtain ⟨k0, k1, k2⟩ := tab_cell (HT.out.below'' Hbel.out Hlt.out) hi4
        obtain ⟨x, hx⟩ : ∃ x, t.at_ i = x := ⟨_, rfl⟩
        rw [hx] at k0 k1 k2 hstep
        clear hx
        have Hstep := Lib.hid hstep; clear hstep
        have hlk : lastOkB x = (decide (x.code ≤ 3) && decide (x.text.size ≤ 64) && (decide (x.seq.toNat ≠ 0) || lastE x lastNone)) := rfl
        have hc0 := Hbox.out.cell
        have hc1 := Hbox.out.frozen
        have hset := fun v : Value => Hbox.out.set (v' := v)
        have hbs := fun v : Value => below_setV (i := 0) (x := v) Hbel.out (Nat.le_refl gg)
        have Hset := Lib.hid hset; clear hset
        have Hbs := Lib.hid hbs; clear hbs
        clear Hbox Hbel
        by_cases c2 : x.text.size ≤ 64
        · have c2' : (x.text.size : Int) ≤ 64 := by omega
          by_cases c1 : x.code ≤ 3
          · have c1' : (x.code : Int) ≤ 3 := by omega
            rw [decide_eq_true c1, decide_eq_true c2, Bool.true_and, Bool.true_and] at hlk
            by_cases c3 : x.seq.toNat = 0
            · have c3' : ¬ (0 : Int) < (x.seq.toNat : Int) := by omega
              rw [show decide (x.seq.toNat ≠ 0) = false by simp [c3], Bool.false_or] at hlk
              have hbe : lastE x lastNone = (decide (x.code = 0) && decide (x.text.toList = [])) := by
                unfold lastE
                rw [show (lastNone.seq.toNat) = 0 from rfl, show lastNone.code = 0 from rfl, show lastNone.text.toList = [] by rw [show lastNone.text = ByteArray.empty from rfl, ByteArray.toList_eq]; rfl, c3]
                simp
              rw [hbe] at hlk
              clear hbe c1 c2 c3
              by_cases d1 : x.code = 0
              · by_cases d2 : x.text.toList = []
                · rw [decide_eq_true d1, decide_eq_true d2, Bool.and_self] at hlk
                  have Hlk := Lib.hid hlk; clear hlk
                  go_wp2_with fail
                  go_roundw
                  case rel => exact ⟨i + 1, hi4, rfl, by rw [Hstep.out, Hlk.out]; exact Hset.out _, Hbs.out _⟩
                  case measure => simp [intOf]; omega
                · rw [decide_eq_false d2, Bool.and_false] at hlk
                  have Hlk := Lib.hid hlk; clear hlk
                  go_wp2_with fail
                  go_roundw
                  case rel => exact ⟨i + 1, hi4, rfl, by rw [Hstep.out, Hlk.out]; exact Hset.out _, Hbs.out _⟩
                  case measure => simp [intOf]; omega
              · rw [decide_eq_false d1, Bool.false_and] at hlk
                have Hlk := Lib.hid hlk; clear hlk
                go_wp2_with fail
                go_roundw
                case rel => exact ⟨i + 1, hi4, rfl, by rw [Hstep.out, Hlk.out]; exact Hset.out _, Hbs.out _⟩
                case measure => simp [intOf]; omega
            · have c3' : (0 : Int) < (x.seq.toNat : Int) := by omega
              rw [show decide (x.seq.toNat ≠ 0) = true by simp [c3], Bool.true_or] at hlk
              clear c1 c2 c3
              have Hlk := Lib.hid hlk; clear hlk
              go_wp2_with fail
              go_roundw
              case rel => exact ⟨i + 1, hi4, rfl, by rw [Hstep.out, Hlk.out]; exact Hset.out _, Hbs.out _⟩
              case measure => simp [intOf]; omega
          · have c1' : ¬ (x.code : Int) ≤ 3 := by omega
            rw [decide_eq_false c1, Bool.false_and, Bool.false_and] at hlk
            clear c1 c2
            have Hlk := Lib.hid hlk; clear hlk
            go_wp2_with fail
            go_roundw
            case rel => exact ⟨i + 1, hi4, rfl, by rw [Hstep.out, Hlk.out]; exact Hset.out _, Hbs.out _⟩
            case measure => simp [intOf]; omega
        · have c2' : ¬ (x.text.size : Int) ≤ 64 := by omega
          rw [decide_eq_false c2, Bool.and_false, Bool.false_and] at hlk
          clear c2
          have Hlk := Lib.hid hlk; clear hlk
          go_wp2_with fail
          go_roundw
          case rel => exact ⟨i + 1, hi4, rfl, by rw [Hstep.out, Hlk.out]; exact Hset.out _, Hbs.out _⟩
          case measure => simp [intOf]; omega
    · have hi4' : ¬ (i : Int) < 4 := by omega
      obtain rfl : i = 4 := by omega
      clear hi4
      go_wp2_with fail
      exact Hk.out _ _ _ _ _ _ _ _ _ _ _ _ _ _ _ _ _ _ _ _ _ _ _ _ _ _ _ _ _ _ _ _ _ _ _ _ _ _ _ ⟨Hbox.out, Hbel.out⟩
end Go.Proofs.Ytkngadbeflepoaa
/- OWN LAW: a drawn region walked by a plan, where what follows looks at the frame behind a panic: no operation of the region panics. No condition. -/
namespace Go.Proofs.Ytkngadbeflepoaa.RegJ
open Go RegK

section
variable {F : Fence} {n : Nat} {P : Program} {ops : Array Oper} {Q : Exit → Act → World → Prop}
theorem wpIn_region_calm (R : World → Prop) (π : Plan) {id : Nat} {a : Act} {w : World} {l : List Oper} (hro : l.all noDefer = true) (hm : P.follows .mixedOrders = true)
    (hB : (Region.noSelect l.toArray && canJB .any l.toArray π (Array.replicate l.length false) && (π.len == l.length)) = true)
    (hR : R { w with drawn := w.drawn + 1 })
    (h : Can F n P l.toArray (noPanic Q) (pickJ l π) R a { w with drawn := w.drawn + 1 }) : (Code.region id l.toArray true).wpIn F n P Q a w :=
  wpIn_mono (wpIn_region_plan R π hro hm hB (fun _ _ _ _ _ h => h.elim) hR h) (fun e a w hq => by cases e <;> first | exact hq | exact hq.elim)
theorem nil_calm {R : World → Prop} {a : Act} {w : World} (h : Q .normal a w) : Can F n P ops (noPanic Q) .nil R a w := ⟨h⟩
end
end Go.Proofs.Ytkngadbeflepoaa.RegJ
