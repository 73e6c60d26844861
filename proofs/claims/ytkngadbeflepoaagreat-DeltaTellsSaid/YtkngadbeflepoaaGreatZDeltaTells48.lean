/- Deltas: DeltaTells: a machine, and the document's, behind commands. Condition: few enough commands. -/
import Derived.Test.YtkngadbeflepoaaGreatZDeltaTells44
import Derived.Test.YtkngadbeflepoaaGreatZDeltaTells47
import Derived.Test.YtkngadbeflepoaaGreatZDeltaTells42
import Derived.Test.YtkngadbeflepoaaGreatZDeltaTells24
import Derived.Test.YtkngadbeflepoaaGreatZDeltaTells30
import Derived.Test.YtkngadbeflepoaaGreatZDeltaTells17
namespace Go.Proofs.YtkngadbeflepoaaGreat
open Go.RowKit
def dS (A B : MacV) : ByteArray := if A.all = B.all then ⟨(diffM A B).toArray⟩ else ByteArray.empty
def dC (A B : MacV) : Int := if A.all = B.all then 0 else 2
/-- What begun hands out. -/
structure BgOut (al fi : Nat) (z : List CmdV) (N : MacV) (Y : Tr) (r : RefM) (y : World) : Prop where
  t : TreeAt y Y
  s : Y.sh = N.sh
  is : mayS fi al = true → N = macsDo (newM al fi) z ∧ ∃ zk, RefAt y r N zk
theorem BgOut.below {al fi : Nat} {z : List CmdV} {N : MacV} {Y : Tr} {r : RefM} {y y' : World} (h : BgOut al fi z N Y r y) (hb : Below y.heap.size y y') : BgOut al fi z N Y r y' := ⟨h.t.below hb, h.s, fun e => by obtain ⟨h1, zk, h2⟩ := h.is e; exact ⟨h1, zk, h2.below hb⟩⟩
theorem begun_any (al fi : Nat) (hal : al < 256) (hfi : fi < 256) (a : Option Addr) (l cap : Nat) (z : List CmdV) (hl : l ≤ 1000) (w : World) (hz : CmdsAt w a l z) :
    Calls Tryz.prog 6 #[.int .u8 (al : Int), .int .u8 (fi : Int), .slice a l cap] w fun e w' => ∃ N Y r, e = .returned (.tuple #[macV N Y.ptr, .agg (refCells r).toArray, .bool (mayS fi al)]) ∧ BgOut al fi z N Y r w' ∧ Below w.heap.size w w' := by
  cases hm : mayS fi al with
  | true =>
    refine (begun_is al fi hal hfi hm a l cap z hl w hz).mono ?_
    rintro e w' ⟨Y, r, zk, rfl, h1, h2, h3, h4⟩
    exact ⟨_, Y, r, rfl, ⟨h1, h2, fun _ => ⟨rfl, zk, h3⟩⟩, h4⟩
  | false =>
    refine (begun_not al fi hal hfi hm a l cap w).mono ?_
    rintro e w' ⟨rfl, h4⟩
    exact ⟨macNone, .nil, refNone, rfl, ⟨trivial, rfl, fun e => by rw [hm] at e; cases e⟩, h4⟩
set_option maxRecDepth 100000 in
set_option maxHeartbeats 16000000 in
theorem tells_reg3 (w0 : World) (al fi : Nat) (a : Option Addr) (l cap : Nat) (z : List CmdV) {Q : Exit → Act → World → Prop}
    (hal : al < 256) (hfi : fi < 256) (hl : l ≤ 1000) (Hz : Hid (CmdsAt w0 a l z))
    (u3 u4 u5 u6 u7 u8 u9 u10 u11 u12 u13 u14 u15 u16 u17 u18 u19 u20 u21 u22 u23 u24 u25 u26 u27 u28 u29 u30 u31 u32 u33 u34 u35 u36 u37 u38 u39 u40 u41 u42 u43 u44 u45 u46 u47 u48 u49 u50 u51 u52 u53 u54 u55 u56 u57 u58 u59 u60 u61 u62 u63 u64 u65 u66 u67 u68 u69 u70 u71 u72 u73 u74 u75 u76 u77 u78 u79 u80 u81 u82 u83 u84 u85 u86 u87 u88 u89 u90 u91 u92 u93 u94 u95 u96 u97 u98 u99 u100 u101 u102 u103 u104 u105 : Value)
    (Hk : Hid (∀ (s31 s32 s33 s34 s35 s36 s37 : Value) (gm gr : Nat) (M : MacV) (Y : Tr) (r : RefM) (w2 : World), MacAt w2 gm M Y.ptr ∧ RefRow w2 gr r ∧ BgOut al fi z M Y r w2 ∧ Below w0.heap.size w0 w2 → Q .normal ⟨List.toArray (Value.int .u8 (al : Int) :: Value.int .u8 (fi : Int) :: Value.slice a l cap :: u3 :: u4 :: u5 :: u6 :: u7 :: u8 :: u9 :: u10 :: Value.pointer (some ⟨gm, 0, none⟩) :: Value.pointer (some ⟨gr, 0, none⟩) :: Value.bool (mayS fi al) :: u14 :: u15 :: u16 :: u17 :: u18 :: u19 :: u20 :: u21 :: u22 :: u23 :: u24 :: u25 :: u26 :: u27 :: u28 :: u29 :: u30 :: s31 :: s32 :: s33 :: s34 :: s35 :: s36 :: s37 :: Value.bool (mayS fi al) :: u39 :: u40 :: u41 :: u42 :: u43 :: u44 :: u45 :: u46 :: u47 :: u48 :: u49 :: u50 :: u51 :: u52 :: u53 :: u54 :: u55 :: u56 :: u57 :: u58 :: u59 :: u60 :: u61 :: u62 :: u63 :: u64 :: u65 :: u66 :: u67 :: u68 :: u69 :: u70 :: u71 :: u72 :: u73 :: u74 :: u75 :: u76 :: u77 :: u78 :: u79 :: u80 :: u81 :: u82 :: u83 :: u84 :: u85 :: u86 :: u87 :: u88 :: u89 :: u90 :: u91 :: u92 :: u93 :: u94 :: u95 :: u96 :: u97 :: u98 :: u99 :: u100 :: u101 :: u102 :: u103 :: u104 :: u105 :: []), []⟩ w2)) :
    Code.wp Tryz.prog (findR 3 (Tryz.f3.body.getD .skip)) Q ⟨List.toArray (Value.int .u8 (al : Int) :: Value.int .u8 (fi : Int) :: Value.slice a l cap :: u3 :: u4 :: u5 :: u6 :: u7 :: u8 :: u9 :: u10 :: u11 :: u12 :: u13 :: u14 :: u15 :: u16 :: u17 :: u18 :: u19 :: u20 :: u21 :: u22 :: u23 :: u24 :: u25 :: u26 :: u27 :: u28 :: u29 :: u30 :: u31 :: u32 :: u33 :: u34 :: u35 :: u36 :: u37 :: u38 :: u39 :: u40 :: u41 :: u42 :: u43 :: u44 :: u45 :: u46 :: u47 :: u48 :: u49 :: u50 :: u51 :: u52 :: u53 :: u54 :: u55 :: u56 :: u57 :: u58 :: u59 :: u60 :: u61 :: u62 :: u63 :: u64 :: u65 :: u66 :: u67 :: u68 :: u69 :: u70 :: u71 :: u72 :: u73 :: u74 :: u75 :: u76 :: u77 :: u78 :: u79 :: u80 :: u81 :: u82 :: u83 :: u84 :: u85 :: u86 :: u87 :: u88 :: u89 :: u90 :: u91 :: u92 :: u93 :: u94 :: u95 :: u96 :: u97 :: u98 :: u99 :: u100 :: u101 :: u102 :: u103 :: u104 :: u105 :: []), []⟩ w0 := by
  conv => arg 2; whnf
  have hd := begun_any al fi hal hfi a l cap z hl w0 Hz.out
  obtain ⟨bb, hbb⟩ : ∃ b, mayS fi al = b := ⟨_, rfl⟩
  rw [hbb] at hd Hk
  have Hd := Lib.hid hd; clear hd hbb
  go_wp2_with ((with_reducible refine Hd.out.mono ?_); rintro e w2 ⟨M, Y, r, rfl, hO, hb⟩; have HO := Lib.hid (And.intro hO hb); clear hO hb; unfold macV; rw [mac_eta M Y.ptr, ref_eta r])
  change Q _ _ ((w2.alloc (.cells (macCells M Y.ptr).toArray 39)).alloc (.cells (refCells r).toArray 43))
  have b1 := (Below.refl w2.heap.size w2).alloc (Nat.le_refl _) (.cells (macCells M Y.ptr).toArray 39)
  have m1 : MacAt (w2.alloc (.cells (macCells M Y.ptr).toArray 39)) w2.heap.size M Y.ptr := heap_alloc_new _ _
  have b2 := (Below.refl _ (w2.alloc (.cells (macCells M Y.ptr).toArray 39))).alloc (Nat.le_refl _) (.cells (refCells r).toArray 43)
  have r2 : RefRow ((w2.alloc (.cells (macCells M Y.ptr).toArray 39)).alloc (.cells (refCells r).toArray 43)) (w2.heap.size + 1) r := by
    have := heap_alloc_new (w2.alloc (.cells (macCells M Y.ptr).toArray 39)) (.cells (refCells r).toArray 43)
    rw [World.size_alloc] at this
    exact this
  have b12 := b1.trans (b2.mono b1.size)
  exact Hk.out _ _ _ _ _ _ _ _ _ M Y r _ ⟨m1.below b2, r2, HO.out.1.below b12, HO.out.2.trans (b12.mono HO.out.2.size)⟩
set_option maxRecDepth 100000 in
set_option maxHeartbeats 16000000 in
theorem tells_reg4 (w0 : World) (al fi : Nat) (a : Option Addr) (l cap : Nat) (z : List CmdV) {Q : Exit → Act → World → Prop}
    (hal : al < 256) (hfi : fi < 256) (hl : l ≤ 1000) (Hz : Hid (CmdsAt w0 a l z))
    (u2 u4 u5 u6 u7 u8 u9 u10 u11 u12 u13 u14 u15 u16 u17 u18 u19 u20 u21 u22 u23 u24 u25 u26 u27 u28 u29 u30 u31 u32 u33 u34 u35 u36 u37 u38 u39 u40 u41 u42 u43 u44 u45 u46 u47 u48 u49 u50 u51 u52 u53 u54 u55 u56 u57 u58 u59 u60 u61 u62 u63 u64 u65 u66 u67 u68 u69 u70 u71 u72 u73 u74 u75 u76 u77 u78 u79 u80 u81 u82 u83 u84 u85 u86 u87 u88 u89 u90 u91 u92 u93 u94 u95 u96 u97 u98 u99 u100 u101 u102 u103 u104 u105 : Value)
    (Hk : Hid (∀ (s39 s40 s41 s42 s43 s44 s45 : Value) (gm gr : Nat) (M : MacV) (Y : Tr) (r : RefM) (w2 : World), MacAt w2 gm M Y.ptr ∧ RefRow w2 gr r ∧ BgOut al fi z M Y r w2 ∧ Below w0.heap.size w0 w2 → Q .normal ⟨List.toArray (Value.int .u8 (al : Int) :: Value.int .u8 (fi : Int) :: u2 :: Value.slice a l cap :: u4 :: u5 :: u6 :: u7 :: u8 :: u9 :: u10 :: u11 :: u12 :: u13 :: Value.pointer (some ⟨gm, 0, none⟩) :: Value.pointer (some ⟨gr, 0, none⟩) :: Value.bool (mayS fi al) :: u17 :: u18 :: u19 :: u20 :: u21 :: u22 :: u23 :: u24 :: u25 :: u26 :: u27 :: u28 :: u29 :: u30 :: u31 :: u32 :: u33 :: u34 :: u35 :: u36 :: u37 :: u38 :: s39 :: s40 :: s41 :: s42 :: s43 :: s44 :: s45 :: Value.bool (mayS fi al) :: u47 :: u48 :: u49 :: u50 :: u51 :: u52 :: u53 :: u54 :: u55 :: u56 :: u57 :: u58 :: u59 :: u60 :: u61 :: u62 :: u63 :: u64 :: u65 :: u66 :: u67 :: u68 :: u69 :: u70 :: u71 :: u72 :: u73 :: u74 :: u75 :: u76 :: u77 :: u78 :: u79 :: u80 :: u81 :: u82 :: u83 :: u84 :: u85 :: u86 :: u87 :: u88 :: u89 :: u90 :: u91 :: u92 :: u93 :: u94 :: u95 :: u96 :: u97 :: u98 :: u99 :: u100 :: u101 :: u102 :: u103 :: u104 :: u105 :: []), []⟩ w2)) :
    Code.wp Tryz.prog (findR 4 (Tryz.f3.body.getD .skip)) Q ⟨List.toArray (Value.int .u8 (al : Int) :: Value.int .u8 (fi : Int) :: u2 :: Value.slice a l cap :: u4 :: u5 :: u6 :: u7 :: u8 :: u9 :: u10 :: u11 :: u12 :: u13 :: u14 :: u15 :: u16 :: u17 :: u18 :: u19 :: u20 :: u21 :: u22 :: u23 :: u24 :: u25 :: u26 :: u27 :: u28 :: u29 :: u30 :: u31 :: u32 :: u33 :: u34 :: u35 :: u36 :: u37 :: u38 :: u39 :: u40 :: u41 :: u42 :: u43 :: u44 :: u45 :: u46 :: u47 :: u48 :: u49 :: u50 :: u51 :: u52 :: u53 :: u54 :: u55 :: u56 :: u57 :: u58 :: u59 :: u60 :: u61 :: u62 :: u63 :: u64 :: u65 :: u66 :: u67 :: u68 :: u69 :: u70 :: u71 :: u72 :: u73 :: u74 :: u75 :: u76 :: u77 :: u78 :: u79 :: u80 :: u81 :: u82 :: u83 :: u84 :: u85 :: u86 :: u87 :: u88 :: u89 :: u90 :: u91 :: u92 :: u93 :: u94 :: u95 :: u96 :: u97 :: u98 :: u99 :: u100 :: u101 :: u102 :: u103 :: u104 :: u105 :: []), []⟩ w0 := by
  conv => arg 2; whnf
  have hd := begun_any al fi hal hfi a l cap z hl w0 Hz.out
  obtain ⟨bb, hbb⟩ : ∃ b, mayS fi al = b := ⟨_, rfl⟩
  rw [hbb] at hd Hk
  have Hd := Lib.hid hd; clear hd hbb
  go_wp2_with ((with_reducible refine Hd.out.mono ?_); rintro e w2 ⟨M, Y, r, rfl, hO, hb⟩; have HO := Lib.hid (And.intro hO hb); clear hO hb; unfold macV; rw [mac_eta M Y.ptr, ref_eta r])
  change Q _ _ ((w2.alloc (.cells (macCells M Y.ptr).toArray 39)).alloc (.cells (refCells r).toArray 43))
  have b1 := (Below.refl w2.heap.size w2).alloc (Nat.le_refl _) (.cells (macCells M Y.ptr).toArray 39)
  have m1 : MacAt (w2.alloc (.cells (macCells M Y.ptr).toArray 39)) w2.heap.size M Y.ptr := heap_alloc_new _ _
  have b2 := (Below.refl _ (w2.alloc (.cells (macCells M Y.ptr).toArray 39))).alloc (Nat.le_refl _) (.cells (refCells r).toArray 43)
  have r2 : RefRow ((w2.alloc (.cells (macCells M Y.ptr).toArray 39)).alloc (.cells (refCells r).toArray 43)) (w2.heap.size + 1) r := by
    have := heap_alloc_new (w2.alloc (.cells (macCells M Y.ptr).toArray 39)) (.cells (refCells r).toArray 43)
    rw [World.size_alloc] at this
    exact this
  have b12 := b1.trans (b2.mono b1.size)
  exact Hk.out _ _ _ _ _ _ _ _ _ M Y r _ ⟨m1.below b2, r2, HO.out.1.below b12, HO.out.2.trans (b12.mono HO.out.2.size)⟩
set_option maxRecDepth 100000 in
set_option maxHeartbeats 16000000 in
theorem tells_reg9 (w0 : World) (al : Nat) (a : Option Addr) (l cap : Nat) (z : List CmdV) {Q : Exit → Act → World → Prop}
    (hal : al < 256) (hl : l ≤ 1000) (Hz : Hid (CmdsAt w0 a l z))
    (u0 u1 u2 u5 u6 u7 u8 u9 u10 u11 u12 u13 u14 u15 u16 u17 u18 u19 u20 u21 u22 u23 u24 u25 u26 u27 u28 u29 u30 u31 u32 u33 u34 u35 u36 u37 u38 u39 u40 u41 u42 u43 u44 u45 u46 u47 u48 u49 u50 u51 u52 u53 u54 u55 u56 u57 u58 u59 u60 u61 u62 u63 u64 u65 u66 u67 u68 u69 u70 u71 u72 u73 u74 u75 u76 u77 u78 u79 u80 u81 u82 u83 u84 u85 u86 u87 u88 u89 u90 u91 u92 u93 u94 u95 u96 u97 u98 u99 u100 u101 u102 u103 u104 u105 : Value)
    (Hk : Hid (∀ (s66 s67 s68 s69 s70 s71 s72 : Value) (gm gr : Nat) (M : MacV) (Y : Tr) (r : RefM) (w2 : World), MacAt w2 gm M Y.ptr ∧ RefRow w2 gr r ∧ BgOut al al z M Y r w2 ∧ Below w0.heap.size w0 w2 → Q .normal ⟨List.toArray (u0 :: u1 :: u2 :: Value.slice a l cap :: Value.int .u8 (al : Int) :: u5 :: u6 :: u7 :: u8 :: u9 :: u10 :: u11 :: u12 :: u13 :: u14 :: u15 :: u16 :: u17 :: u18 :: u19 :: u20 :: Value.pointer (some ⟨gm, 0, none⟩) :: Value.pointer (some ⟨gr, 0, none⟩) :: Value.bool (mayS al al) :: u24 :: u25 :: u26 :: u27 :: u28 :: u29 :: u30 :: u31 :: u32 :: u33 :: u34 :: u35 :: u36 :: u37 :: u38 :: u39 :: u40 :: u41 :: u42 :: u43 :: u44 :: u45 :: u46 :: u47 :: u48 :: u49 :: u50 :: u51 :: u52 :: u53 :: u54 :: u55 :: u56 :: u57 :: u58 :: u59 :: u60 :: u61 :: u62 :: u63 :: u64 :: u65 :: s66 :: s67 :: s68 :: s69 :: s70 :: s71 :: s72 :: Value.bool (mayS al al) :: u74 :: u75 :: u76 :: u77 :: u78 :: u79 :: u80 :: u81 :: u82 :: u83 :: u84 :: u85 :: u86 :: u87 :: u88 :: u89 :: u90 :: u91 :: u92 :: u93 :: u94 :: u95 :: u96 :: u97 :: u98 :: u99 :: u100 :: u101 :: u102 :: u103 :: u104 :: u105 :: []), []⟩ w2)) :
    Code.wp Tryz.prog (findR 9 (Tryz.f3.body.getD .skip)) Q ⟨List.toArray (u0 :: u1 :: u2 :: Value.slice a l cap :: Value.int .u8 (al : Int) :: u5 :: u6 :: u7 :: u8 :: u9 :: u10 :: u11 :: u12 :: u13 :: u14 :: u15 :: u16 :: u17 :: u18 :: u19 :: u20 :: u21 :: u22 :: u23 :: u24 :: u25 :: u26 :: u27 :: u28 :: u29 :: u30 :: u31 :: u32 :: u33 :: u34 :: u35 :: u36 :: u37 :: u38 :: u39 :: u40 :: u41 :: u42 :: u43 :: u44 :: u45 :: u46 :: u47 :: u48 :: u49 :: u50 :: u51 :: u52 :: u53 :: u54 :: u55 :: u56 :: u57 :: u58 :: u59 :: u60 :: u61 :: u62 :: u63 :: u64 :: u65 :: u66 :: u67 :: u68 :: u69 :: u70 :: u71 :: u72 :: u73 :: u74 :: u75 :: u76 :: u77 :: u78 :: u79 :: u80 :: u81 :: u82 :: u83 :: u84 :: u85 :: u86 :: u87 :: u88 :: u89 :: u90 :: u91 :: u92 :: u93 :: u94 :: u95 :: u96 :: u97 :: u98 :: u99 :: u100 :: u101 :: u102 :: u103 :: u104 :: u105 :: []), []⟩ w0 := by
  conv => arg 2; whnf
  have hd := begun_any al al hal hal a l cap z hl w0 Hz.out
  obtain ⟨bb, hbb⟩ : ∃ b, mayS al al = b := ⟨_, rfl⟩
  rw [hbb] at hd Hk
  have Hd := Lib.hid hd; clear hd hbb
  go_wp2_with ((with_reducible refine Hd.out.mono ?_); rintro e w2 ⟨M, Y, r, rfl, hO, hb⟩; have HO := Lib.hid (And.intro hO hb); clear hO hb; unfold macV; rw [mac_eta M Y.ptr, ref_eta r])
  change Q _ _ ((w2.alloc (.cells (macCells M Y.ptr).toArray 39)).alloc (.cells (refCells r).toArray 43))
  have b1 := (Below.refl w2.heap.size w2).alloc (Nat.le_refl _) (.cells (macCells M Y.ptr).toArray 39)
  have m1 : MacAt (w2.alloc (.cells (macCells M Y.ptr).toArray 39)) w2.heap.size M Y.ptr := heap_alloc_new _ _
  have b2 := (Below.refl _ (w2.alloc (.cells (macCells M Y.ptr).toArray 39))).alloc (Nat.le_refl _) (.cells (refCells r).toArray 43)
  have r2 : RefRow ((w2.alloc (.cells (macCells M Y.ptr).toArray 39)).alloc (.cells (refCells r).toArray 43)) (w2.heap.size + 1) r := by
    have := heap_alloc_new (w2.alloc (.cells (macCells M Y.ptr).toArray 39)) (.cells (refCells r).toArray 43)
    rw [World.size_alloc] at this
    exact this
  have b12 := b1.trans (b2.mono b1.size)
  exact Hk.out _ _ _ _ _ _ _ _ _ M Y r _ ⟨m1.below b2, r2, HO.out.1.below b12, HO.out.2.trans (b12.mono HO.out.2.size)⟩
end Go.Proofs.YtkngadbeflepoaaGreat
namespace Go.Proofs.YtkngadbeflepoaaGreat
open Go.RowKit
set_option maxRecDepth 100000 in
set_option maxHeartbeats 16000000 in
theorem tells_reg7 (w0 : World) (g1 g2 : Nat) (A B : MacV) (X Y : Tr) {Q : Exit → Act → World → Prop}
    (HI : Hid (TwoI w0 g1 g2 A B X Y)) (HA : Hid (MacFit A ∧ MacFit B))
    (u0 u1 u2 u3 u4 u5 u6 u7 u8 u9 u10 u12 u13 u15 u16 u17 u18 u19 u20 u21 u22 u23 u24 u25 u26 u27 u28 u29 u30 u31 u32 u33 u34 u35 u36 u37 u38 u39 u40 u41 u42 u43 u44 u45 u46 u47 u48 u49 u50 u51 u52 u53 u54 u55 u56 u57 u58 u59 u60 u61 u62 u63 u64 u65 u66 u67 u68 u69 u70 u71 u72 u73 u74 u75 u76 u77 u78 u79 u80 u81 u82 u83 u84 u85 u86 u87 u88 u89 u90 u91 u92 u93 u94 u95 u96 u97 u98 u99 u100 u101 u102 u103 u104 u105 : Value)
    (Hk : Hid (∀ (s54 s55 s56 s57 : Value) (w2 : World), Below w0.heap.size w0 w2 → Q .normal ⟨List.toArray (u0 :: u1 :: u2 :: u3 :: u4 :: u5 :: u6 :: u7 :: u8 :: u9 :: u10 :: Value.pointer (some ⟨g1, 0, none⟩) :: u12 :: u13 :: Value.pointer (some ⟨g2, 0, none⟩) :: u15 :: u16 :: Value.string (dS A B) :: Value.int .i64 (dC A B) :: u19 :: u20 :: u21 :: u22 :: u23 :: u24 :: u25 :: u26 :: u27 :: u28 :: u29 :: u30 :: u31 :: u32 :: u33 :: u34 :: u35 :: u36 :: u37 :: u38 :: u39 :: u40 :: u41 :: u42 :: u43 :: u44 :: u45 :: u46 :: u47 :: u48 :: u49 :: u50 :: u51 :: u52 :: u53 :: s54 :: s55 :: s56 :: s57 :: Value.string (dS A B) :: Value.int .i64 (dC A B) :: u60 :: u61 :: u62 :: u63 :: u64 :: u65 :: u66 :: u67 :: u68 :: u69 :: u70 :: u71 :: u72 :: u73 :: u74 :: u75 :: u76 :: u77 :: u78 :: u79 :: u80 :: u81 :: u82 :: u83 :: u84 :: u85 :: u86 :: u87 :: u88 :: u89 :: u90 :: u91 :: u92 :: u93 :: u94 :: u95 :: u96 :: u97 :: u98 :: u99 :: u100 :: u101 :: u102 :: u103 :: u104 :: u105 :: []), []⟩ w2)) :
    Code.wp Tryz.prog (findR 7 (Tryz.f3.body.getD .skip)) Q ⟨List.toArray (u0 :: u1 :: u2 :: u3 :: u4 :: u5 :: u6 :: u7 :: u8 :: u9 :: u10 :: Value.pointer (some ⟨g1, 0, none⟩) :: u12 :: u13 :: Value.pointer (some ⟨g2, 0, none⟩) :: u15 :: u16 :: u17 :: u18 :: u19 :: u20 :: u21 :: u22 :: u23 :: u24 :: u25 :: u26 :: u27 :: u28 :: u29 :: u30 :: u31 :: u32 :: u33 :: u34 :: u35 :: u36 :: u37 :: u38 :: u39 :: u40 :: u41 :: u42 :: u43 :: u44 :: u45 :: u46 :: u47 :: u48 :: u49 :: u50 :: u51 :: u52 :: u53 :: u54 :: u55 :: u56 :: u57 :: u58 :: u59 :: u60 :: u61 :: u62 :: u63 :: u64 :: u65 :: u66 :: u67 :: u68 :: u69 :: u70 :: u71 :: u72 :: u73 :: u74 :: u75 :: u76 :: u77 :: u78 :: u79 :: u80 :: u81 :: u82 :: u83 :: u84 :: u85 :: u86 :: u87 :: u88 :: u89 :: u90 :: u91 :: u92 :: u93 :: u94 :: u95 :: u96 :: u97 :: u98 :: u99 :: u100 :: u101 :: u102 :: u103 :: u104 :: u105 :: []), []⟩ w0 := by
  conv => arg 2; whnf
  have hd := ddiff_any A B X Y HA.out.1 HA.out.2 w0 HI.out.ta HI.out.tb HI.out.sa HI.out.sb
  rw [show (if A.all = B.all then (⟨(diffM A B).toArray⟩ : ByteArray) else ByteArray.empty) = dS A B from rfl, show (if A.all = B.all then 0 else 2 : Int) = dC A B from rfl] at hd
  generalize dS A B = S at *
  generalize dC A B = C at *
  obtain ⟨PX, hPX⟩ : ∃ P, X.ptr = P := ⟨_, rfl⟩
  obtain ⟨PY, hPY⟩ : ∃ P, Y.ptr = P := ⟨_, rfl⟩
  rw [hPX, hPY] at hd
  unfold macV at hd
  rw [mac_eta A PX, mac_eta B PY] at hd
  have Hd := Lib.hid hd; clear hd
  obtain ⟨⟨a0, a1, a14⟩, ⟨a2, a3, a4⟩, ⟨a5, a6, a7⟩, ⟨a8, a9, a10⟩, ⟨a11, a12, a13⟩⟩ := HI.out.a.cells
  obtain ⟨⟨b0, b1, b14⟩, ⟨b2, b3, b4⟩, ⟨b5, b6, b7⟩, ⟨b8, b9, b10⟩, ⟨b11, b12, b13⟩⟩ := HI.out.b.cells
  rw [hPX] at a14
  rw [hPY] at b14
  clear hPX hPY
  clear HI
  go_wp2_with ((with_reducible refine Hd.out.mono ?_); rintro e w2 ⟨rfl, hb⟩; have Hb := Lib.hid hb; clear hb)
  exact Hk.out _ _ _ _ _ Hb.out
set_option maxRecDepth 100000 in
set_option maxHeartbeats 16000000 in
theorem tells_reg13 (w0 : World) (g1 g2 : Nat) (A B : MacV) (X Y : Tr) {Q : Exit → Act → World → Prop}
    (HI : Hid (TwoI w0 g1 g2 A B X Y)) (HA : Hid (MacFit A ∧ MacFit B))
    (u0 u1 u2 u3 u4 u5 u6 u7 u8 u9 u10 u12 u13 u14 u15 u16 u17 u18 u19 u20 u22 u23 u24 u25 u26 u27 u28 u29 u30 u31 u32 u33 u34 u35 u36 u37 u38 u39 u40 u41 u42 u43 u44 u45 u46 u47 u48 u49 u50 u51 u52 u53 u54 u55 u56 u57 u58 u59 u60 u61 u62 u63 u64 u65 u66 u67 u68 u69 u70 u71 u72 u73 u74 u75 u76 u77 u78 u79 u80 u81 u82 u83 u84 u85 u86 u87 u88 u89 u90 u91 u92 u93 u94 u95 u96 u97 u98 u99 u100 u101 u102 u103 u104 u105 : Value)
    (Hk : Hid (∀ (s83 s84 s85 s86 : Value) (w2 : World), Below w0.heap.size w0 w2 → Q .normal ⟨List.toArray (u0 :: u1 :: u2 :: u3 :: u4 :: u5 :: u6 :: u7 :: u8 :: u9 :: u10 :: Value.pointer (some ⟨g1, 0, none⟩) :: u12 :: u13 :: u14 :: u15 :: u16 :: Value.string (dS A B) :: Value.int .i64 (dC A B) :: u19 :: u20 :: Value.pointer (some ⟨g2, 0, none⟩) :: u22 :: u23 :: u24 :: u25 :: u26 :: u27 :: u28 :: u29 :: u30 :: u31 :: u32 :: u33 :: u34 :: u35 :: u36 :: u37 :: u38 :: u39 :: u40 :: u41 :: u42 :: u43 :: u44 :: u45 :: u46 :: u47 :: u48 :: u49 :: u50 :: u51 :: u52 :: u53 :: u54 :: u55 :: u56 :: u57 :: u58 :: u59 :: u60 :: u61 :: u62 :: u63 :: u64 :: u65 :: u66 :: u67 :: u68 :: u69 :: u70 :: u71 :: u72 :: u73 :: u74 :: u75 :: u76 :: u77 :: u78 :: u79 :: u80 :: u81 :: u82 :: s83 :: s84 :: s85 :: s86 :: Value.string (dS A B) :: Value.int .i64 (dC A B) :: u89 :: u90 :: u91 :: u92 :: u93 :: u94 :: u95 :: u96 :: u97 :: u98 :: u99 :: u100 :: u101 :: u102 :: u103 :: u104 :: u105 :: []), []⟩ w2)) :
    Code.wp Tryz.prog (findR 13 (Tryz.f3.body.getD .skip)) Q ⟨List.toArray (u0 :: u1 :: u2 :: u3 :: u4 :: u5 :: u6 :: u7 :: u8 :: u9 :: u10 :: Value.pointer (some ⟨g1, 0, none⟩) :: u12 :: u13 :: u14 :: u15 :: u16 :: u17 :: u18 :: u19 :: u20 :: Value.pointer (some ⟨g2, 0, none⟩) :: u22 :: u23 :: u24 :: u25 :: u26 :: u27 :: u28 :: u29 :: u30 :: u31 :: u32 :: u33 :: u34 :: u35 :: u36 :: u37 :: u38 :: u39 :: u40 :: u41 :: u42 :: u43 :: u44 :: u45 :: u46 :: u47 :: u48 :: u49 :: u50 :: u51 :: u52 :: u53 :: u54 :: u55 :: u56 :: u57 :: u58 :: u59 :: u60 :: u61 :: u62 :: u63 :: u64 :: u65 :: u66 :: u67 :: u68 :: u69 :: u70 :: u71 :: u72 :: u73 :: u74 :: u75 :: u76 :: u77 :: u78 :: u79 :: u80 :: u81 :: u82 :: u83 :: u84 :: u85 :: u86 :: u87 :: u88 :: u89 :: u90 :: u91 :: u92 :: u93 :: u94 :: u95 :: u96 :: u97 :: u98 :: u99 :: u100 :: u101 :: u102 :: u103 :: u104 :: u105 :: []), []⟩ w0 := by
  conv => arg 2; whnf
  have hd := ddiff_any A B X Y HA.out.1 HA.out.2 w0 HI.out.ta HI.out.tb HI.out.sa HI.out.sb
  rw [show (if A.all = B.all then (⟨(diffM A B).toArray⟩ : ByteArray) else ByteArray.empty) = dS A B from rfl, show (if A.all = B.all then 0 else 2 : Int) = dC A B from rfl] at hd
  generalize dS A B = S at *
  generalize dC A B = C at *
  obtain ⟨PX, hPX⟩ : ∃ P, X.ptr = P := ⟨_, rfl⟩
  obtain ⟨PY, hPY⟩ : ∃ P, Y.ptr = P := ⟨_, rfl⟩
  rw [hPX, hPY] at hd
  unfold macV at hd
  rw [mac_eta A PX, mac_eta B PY] at hd
  have Hd := Lib.hid hd; clear hd
  obtain ⟨⟨a0, a1, a14⟩, ⟨a2, a3, a4⟩, ⟨a5, a6, a7⟩, ⟨a8, a9, a10⟩, ⟨a11, a12, a13⟩⟩ := HI.out.a.cells
  obtain ⟨⟨b0, b1, b14⟩, ⟨b2, b3, b4⟩, ⟨b5, b6, b7⟩, ⟨b8, b9, b10⟩, ⟨b11, b12, b13⟩⟩ := HI.out.b.cells
  rw [hPX] at a14
  rw [hPY] at b14
  clear hPX hPY
  clear HI
  go_wp2_with ((with_reducible refine Hd.out.mono ?_); rintro e w2 ⟨rfl, hb⟩; have Hb := Lib.hid hb; clear hb)
  exact Hk.out _ _ _ _ _ Hb.out
end Go.Proofs.YtkngadbeflepoaaGreat
namespace Go.Proofs.YtkngadbeflepoaaGreat
open Go.RowKit
set_option maxRecDepth 100000 in
set_option maxHeartbeats 16000000 in
theorem tells_reg8 (w0 : World) (g1 g2 : Nat) (A B : MacV) (r s : RefM) (z y : List KeptV) {Q : Exit → Act → World → Prop}
    (HI : Hid ((RefRow w0 g1 r ∧ RefAt w0 r A z) ∧ RefRow w0 g2 s ∧ RefAt w0 s B y)) (HA : Hid (MacFit A ∧ MacFit B))
    (u0 u1 u2 u3 u4 u5 u6 u7 u8 u9 u10 u11 u13 u14 u16 u17 u18 u19 u20 u21 u22 u23 u24 u25 u26 u27 u28 u29 u30 u31 u32 u33 u34 u35 u36 u37 u38 u39 u40 u41 u42 u43 u44 u45 u46 u47 u48 u49 u50 u51 u52 u53 u54 u55 u56 u57 u58 u59 u60 u61 u62 u63 u64 u65 u66 u67 u68 u69 u70 u71 u72 u73 u74 u75 u76 u77 u78 u79 u80 u81 u82 u83 u84 u85 u86 u87 u88 u89 u90 u91 u92 u93 u94 u95 u96 u97 u98 u99 u100 u101 u102 u103 u104 u105 : Value)
    (Hk : Hid (∀ (s60 s61 s62 s63 : Value) (w2 : World), Below w0.heap.size w0 w2 → Q .normal ⟨List.toArray (u0 :: u1 :: u2 :: u3 :: u4 :: u5 :: u6 :: u7 :: u8 :: u9 :: u10 :: u11 :: Value.pointer (some ⟨g1, 0, none⟩) :: u13 :: u14 :: Value.pointer (some ⟨g2, 0, none⟩) :: u16 :: u17 :: u18 :: Value.string (dS A B) :: Value.int .i64 (dC A B) :: u21 :: u22 :: u23 :: u24 :: u25 :: u26 :: u27 :: u28 :: u29 :: u30 :: u31 :: u32 :: u33 :: u34 :: u35 :: u36 :: u37 :: u38 :: u39 :: u40 :: u41 :: u42 :: u43 :: u44 :: u45 :: u46 :: u47 :: u48 :: u49 :: u50 :: u51 :: u52 :: u53 :: u54 :: u55 :: u56 :: u57 :: u58 :: u59 :: s60 :: s61 :: s62 :: s63 :: Value.string (dS A B) :: Value.int .i64 (dC A B) :: u66 :: u67 :: u68 :: u69 :: u70 :: u71 :: u72 :: u73 :: u74 :: u75 :: u76 :: u77 :: u78 :: u79 :: u80 :: u81 :: u82 :: u83 :: u84 :: u85 :: u86 :: u87 :: u88 :: u89 :: u90 :: u91 :: u92 :: u93 :: u94 :: u95 :: u96 :: u97 :: u98 :: u99 :: u100 :: u101 :: u102 :: u103 :: u104 :: u105 :: []), []⟩ w2)) :
    Code.wp Tryz.prog (findR 8 (Tryz.f3.body.getD .skip)) Q ⟨List.toArray (u0 :: u1 :: u2 :: u3 :: u4 :: u5 :: u6 :: u7 :: u8 :: u9 :: u10 :: u11 :: Value.pointer (some ⟨g1, 0, none⟩) :: u13 :: u14 :: Value.pointer (some ⟨g2, 0, none⟩) :: u16 :: u17 :: u18 :: u19 :: u20 :: u21 :: u22 :: u23 :: u24 :: u25 :: u26 :: u27 :: u28 :: u29 :: u30 :: u31 :: u32 :: u33 :: u34 :: u35 :: u36 :: u37 :: u38 :: u39 :: u40 :: u41 :: u42 :: u43 :: u44 :: u45 :: u46 :: u47 :: u48 :: u49 :: u50 :: u51 :: u52 :: u53 :: u54 :: u55 :: u56 :: u57 :: u58 :: u59 :: u60 :: u61 :: u62 :: u63 :: u64 :: u65 :: u66 :: u67 :: u68 :: u69 :: u70 :: u71 :: u72 :: u73 :: u74 :: u75 :: u76 :: u77 :: u78 :: u79 :: u80 :: u81 :: u82 :: u83 :: u84 :: u85 :: u86 :: u87 :: u88 :: u89 :: u90 :: u91 :: u92 :: u93 :: u94 :: u95 :: u96 :: u97 :: u98 :: u99 :: u100 :: u101 :: u102 :: u103 :: u104 :: u105 :: []), []⟩ w0 := by
  conv => arg 2; whnf
  have hd := rdiff_any r s A B z y HA.out.1 HA.out.2 w0 HI.out.1.2 HI.out.2.2
  rw [show (if A.all = B.all then (⟨(diffM A B).toArray⟩ : ByteArray) else ByteArray.empty) = dS A B from rfl, show (if A.all = B.all then 0 else 2 : Int) = dC A B from rfl] at hd
  generalize dS A B = S at *
  generalize dC A B = C at *
  rw [ref_eta, ref_eta] at hd
  have Hd := Lib.hid hd; clear hd
  obtain ⟨a0, a1, a2, a3⟩ := HI.out.1.1.cells
  obtain ⟨b0, b1, b2, b3⟩ := HI.out.2.1.cells
  clear HI
  go_wp2_with ((with_reducible refine Hd.out.mono ?_); rintro e w2 ⟨rfl, hb⟩; have Hb := Lib.hid hb; clear hb)
  exact Hk.out _ _ _ _ _ Hb.out
set_option maxRecDepth 100000 in
set_option maxHeartbeats 16000000 in
theorem tells_reg14 (w0 : World) (g1 g2 : Nat) (A B : MacV) (r s : RefM) (z y : List KeptV) {Q : Exit → Act → World → Prop}
    (HI : Hid ((RefRow w0 g1 r ∧ RefAt w0 r A z) ∧ RefRow w0 g2 s ∧ RefAt w0 s B y)) (HA : Hid (MacFit A ∧ MacFit B))
    (u0 u1 u2 u3 u4 u5 u6 u7 u8 u9 u10 u11 u13 u14 u15 u16 u17 u18 u19 u20 u21 u23 u24 u25 u26 u27 u28 u29 u30 u31 u32 u33 u34 u35 u36 u37 u38 u39 u40 u41 u42 u43 u44 u45 u46 u47 u48 u49 u50 u51 u52 u53 u54 u55 u56 u57 u58 u59 u60 u61 u62 u63 u64 u65 u66 u67 u68 u69 u70 u71 u72 u73 u74 u75 u76 u77 u78 u79 u80 u81 u82 u83 u84 u85 u86 u87 u88 u89 u90 u91 u92 u93 u94 u95 u96 u97 u98 u99 u100 u101 u102 u103 u104 u105 : Value)
    (Hk : Hid (∀ (s89 s90 s91 s92 : Value) (w2 : World), Below w0.heap.size w0 w2 → Q .normal ⟨List.toArray (u0 :: u1 :: u2 :: u3 :: u4 :: u5 :: u6 :: u7 :: u8 :: u9 :: u10 :: u11 :: Value.pointer (some ⟨g1, 0, none⟩) :: u13 :: u14 :: u15 :: u16 :: u17 :: u18 :: Value.string (dS A B) :: Value.int .i64 (dC A B) :: u21 :: Value.pointer (some ⟨g2, 0, none⟩) :: u23 :: u24 :: u25 :: u26 :: u27 :: u28 :: u29 :: u30 :: u31 :: u32 :: u33 :: u34 :: u35 :: u36 :: u37 :: u38 :: u39 :: u40 :: u41 :: u42 :: u43 :: u44 :: u45 :: u46 :: u47 :: u48 :: u49 :: u50 :: u51 :: u52 :: u53 :: u54 :: u55 :: u56 :: u57 :: u58 :: u59 :: u60 :: u61 :: u62 :: u63 :: u64 :: u65 :: u66 :: u67 :: u68 :: u69 :: u70 :: u71 :: u72 :: u73 :: u74 :: u75 :: u76 :: u77 :: u78 :: u79 :: u80 :: u81 :: u82 :: u83 :: u84 :: u85 :: u86 :: u87 :: u88 :: s89 :: s90 :: s91 :: s92 :: Value.string (dS A B) :: Value.int .i64 (dC A B) :: u95 :: u96 :: u97 :: u98 :: u99 :: u100 :: u101 :: u102 :: u103 :: u104 :: u105 :: []), []⟩ w2)) :
    Code.wp Tryz.prog (findR 14 (Tryz.f3.body.getD .skip)) Q ⟨List.toArray (u0 :: u1 :: u2 :: u3 :: u4 :: u5 :: u6 :: u7 :: u8 :: u9 :: u10 :: u11 :: Value.pointer (some ⟨g1, 0, none⟩) :: u13 :: u14 :: u15 :: u16 :: u17 :: u18 :: u19 :: u20 :: u21 :: Value.pointer (some ⟨g2, 0, none⟩) :: u23 :: u24 :: u25 :: u26 :: u27 :: u28 :: u29 :: u30 :: u31 :: u32 :: u33 :: u34 :: u35 :: u36 :: u37 :: u38 :: u39 :: u40 :: u41 :: u42 :: u43 :: u44 :: u45 :: u46 :: u47 :: u48 :: u49 :: u50 :: u51 :: u52 :: u53 :: u54 :: u55 :: u56 :: u57 :: u58 :: u59 :: u60 :: u61 :: u62 :: u63 :: u64 :: u65 :: u66 :: u67 :: u68 :: u69 :: u70 :: u71 :: u72 :: u73 :: u74 :: u75 :: u76 :: u77 :: u78 :: u79 :: u80 :: u81 :: u82 :: u83 :: u84 :: u85 :: u86 :: u87 :: u88 :: u89 :: u90 :: u91 :: u92 :: u93 :: u94 :: u95 :: u96 :: u97 :: u98 :: u99 :: u100 :: u101 :: u102 :: u103 :: u104 :: u105 :: []), []⟩ w0 := by
  conv => arg 2; whnf
  have hd := rdiff_any r s A B z y HA.out.1 HA.out.2 w0 HI.out.1.2 HI.out.2.2
  rw [show (if A.all = B.all then (⟨(diffM A B).toArray⟩ : ByteArray) else ByteArray.empty) = dS A B from rfl, show (if A.all = B.all then 0 else 2 : Int) = dC A B from rfl] at hd
  generalize dS A B = S at *
  generalize dC A B = C at *
  rw [ref_eta, ref_eta] at hd
  have Hd := Lib.hid hd; clear hd
  obtain ⟨a0, a1, a2, a3⟩ := HI.out.1.1.cells
  obtain ⟨b0, b1, b2, b3⟩ := HI.out.2.1.cells
  clear HI
  go_wp2_with ((with_reducible refine Hd.out.mono ?_); rintro e w2 ⟨rfl, hb⟩; have Hb := Lib.hid hb; clear hb)
  exact Hk.out _ _ _ _ _ Hb.out
end Go.Proofs.YtkngadbeflepoaaGreat
namespace Go.Proofs.YtkngadbeflepoaaGreat
open Go.RowKit
def dwC : CmdV := ⟨0#8, 1#32, 2, ⟨#[107]⟩, ByteArray.empty, ⟨#[118]⟩, 0#8⟩
def dw0 : MacV := newM 7 3
def dw1 : MacV := (macDo dw0 dwC).m
theorem dw0_all : MacAll dw0 := by
  refine ⟨macFit_new 7 3, ?_, by decide +kernel⟩
  rw [(show dw0.sh = .nil by unfold dw0 newM; split <;> rfl)]
  trivial
theorem dw1_all : MacAll dw1 := macDo_all dw0_all dwC
theorem dw_sets : mayS 3 7 = true := by decide +kernel
theorem dw_same : dw0.all = dw1.all := by decide +kernel
theorem dw0_kv : dw0.sh.kv = [] := by decide +kernel
theorem dw1_kv : dw1.sh.kv = [(⟨#[107]⟩, ⟨#[118]⟩)] := by decide +kernel
theorem dw_diff1 : diffL dw0.sh.kv dw1.sh.kv = [cAdd (⟨#[107]⟩, ⟨#[118]⟩)] := by
  rw [dw0_kv, dw1_kv, diff_nil_cons, diff_nil_nil]
theorem dw_diff2 : diffL dw1.sh.kv dw1.sh.kv = [] := by
  rw [dw1_kv, diff_cons_cons, if_neg (by decide +kernel), if_neg (by decide +kernel), if_pos rfl, diff_nil_nil]
theorem dw_rest1 : restB dw0 dw1 = [3, 1, 1, 0, 0, 1, 1, 107, 1, 1, 118] := by
  unfold restB
  rw [dw_diff1]
  decide +kernel
theorem dw_rest2 : restB dw1 dw1 = [3, 0, 0] := by
  unfold restB
  rw [dw_diff2]
  decide +kernel
theorem dw_len1 : (diffM dw0 dw1).length = 27 := by
  rw [diffM_as, dw_rest1, List.length_append, List.length_append, leB_len, leB_len]
  decide
theorem dw_len2 : (diffM dw1 dw1).length = 19 := by
  rw [diffM_as, dw_rest2]
  simp [leB_len]
theorem dw_ext1 : ((⟨(diffM dw0 dw1).toArray⟩ : ByteArray).extract 16 (⟨(diffM dw0 dw1).toArray⟩ : ByteArray).size).toList = [3, 1, 1, 0, 0, 1, 1, 107, 1, 1, 118] := by
  rw [diffM_as, dw_rest1]
  decide +kernel
theorem dw_ext2 : ((⟨(diffM dw1 dw1).toArray⟩ : ByteArray).extract 16 (⟨(diffM dw1 dw1).toArray⟩ : ByteArray).size).toList = [3, 0, 0] := by
  rw [diffM_as, dw_rest2]
  decide +kernel
theorem dw_clash2 : (patchM dw1 (diffM dw0 dw1)).2 = 14 := by
  rw [diffM_as, dw_rest1]
  decide +kernel
theorem dw_clash : patchM dw1 (diffM dw0 dw1) = (macNone, 14) := Prod.ext (patch_err (by rw [dw_clash2]; decide)) dw_clash2
end Go.Proofs.YtkngadbeflepoaaGreat
