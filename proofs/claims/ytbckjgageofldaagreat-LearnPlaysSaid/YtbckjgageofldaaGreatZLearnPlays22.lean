/- Deltas: Patch, its last stores, each by itself. No condition. -/
import Derived.Test.YtbckjgageofldaaGreatZLearnPlays21
import Derived.Test.YtbckjgageofldaaGreatZLearnPlays8
import Derived.Deep.DeepCutAuto
import Derived.Test.YtbckjgageofldaaGreatZLearnPlays14
import Derived.Test.YtbckjgageofldaaGreatZLearnPlays15
import Derived.Test.YtbckjgageofldaaGreatZLearnPlays20
import Derived.WalkKit
import Derived.Laws.IdiomStrings
import Derived.Test.YtbckjgageofldaaGreatZLearnPlays0
import Derived.Test.YtbckjgageofldaaGreatZLearnPlays7
import Derived.Test.YtbckjgageofldaaGreatZLearnPlays10
import Derived.Test.YtbckjgageofldaaGreatZLearnPlays1
set_option maxRecDepth 100000
set_option maxHeartbeats 16000000
namespace Go.Proofs.YtbckjgageofldaaGreat
open Go.RowKit
theorem pa_reg11 (w0:World) (g:Nat) (e:Int) {Q:Exit→Act→World→Prop}
  (HR:Hid (MacAt w0 g macNone none))
  (u0 u1 u2 u3 u5 u6 u7 u8 u9 u10 u11 u12 u13 u15 u16 u17 u18 u19 u20 u21 u22 u23 u24 u25 u26 u27 u28 u29 u30 u31 u32 u33 u34 u35 u36 u37 u38 u39 u40 u41 u42 u43 u44 u45 u46 u47 u48 u49 u50 u51 u52 u53 u54 u55 u56 u57 u58 u59 u60 u61 u62 u63 u64 u65 u66 u67 u68 u69 u70 u71 u72 u73 u74 u75:Value)
  (Hk:Hid (∀ (s41 s42:Value) (w2:World),w2=rowSt w0 g 0 (macCells macNone none)→Q .normal ⟨List.toArray (u0::u1::u2::u3::Value.pointer (some ⟨g,0,none⟩)::Value.int .i64 e::u6::u7::u8::u9::u10::u11::u12::u13::Value.int .i64 e::u15::u16::u17::u18::u19::u20::u21::u22::u23::u24::u25::u26::u27::u28::u29::u30::u31::u32::u33::u34::u35::u36::u37::u38::u39::u40::s41::s42::u43::u44::u45::u46::u47::u48::u49::u50::u51::u52::u53::u54::u55::u56::u57::u58::u59::u60::u61::u62::u63::u64::u65::u66::u67::u68::u69::u70::u71::u72::u73::u74::u75::[]),[]⟩ w2)) :
  Code.wp Tryz.prog (findR 11 (Tryz.f50.body.getD .skip)) Q ⟨List.toArray (u0::u1::u2::u3::Value.pointer (some ⟨g,0,none⟩)::u5::u6::u7::u8::u9::u10::u11::u12::u13::Value.int .i64 e::u15::u16::u17::u18::u19::u20::u21::u22::u23::u24::u25::u26::u27::u28::u29::u30::u31::u32::u33::u34::u35::u36::u37::u38::u39::u40::u41::u42::u43::u44::u45::u46::u47::u48::u49::u50::u51::u52::u53::u54::u55::u56::u57::u58::u59::u60::u61::u62::u63::u64::u65::u66::u67::u68::u69::u70::u71::u72::u73::u74::u75::[]),[]⟩ w0:=by
 conv=>arg 2;whnf
 obtain ⟨⟨m0,m1,m14⟩,⟨m2,m3,m4⟩,⟨m5,m6,m7⟩,⟨m8,m9,m10⟩,⟨m11,m12,m13⟩⟩:=HR.out.cells;have q0:=HR.out.thawed 0;have q1:=HR.out.thawed 1;have q2:=HR.out.thawed 2;have q3:=HR.out.thawed 3;have q4:=HR.out.thawed 4;have q5:=HR.out.thawed 5;have q6:=HR.out.thawed 6;have q7:=HR.out.thawed 7;have q8:=HR.out.thawed 8;have q9:=HR.out.thawed 9;have q10:=HR.out.thawed 10;have q11:=HR.out.thawed 11;have q12:=HR.out.thawed 12;have q13:=HR.out.thawed 13;have q14:=HR.out.thawed 14;go_wp2_with fail;exact Hk.out _ _ _ rfl
theorem pa_reg15 (w0:World) (g:Nat) (e:Int) {Q:Exit→Act→World→Prop}
  (HR:Hid (MacAt w0 g macNone none))
  (u0 u1 u2 u3 u5 u6 u7 u8 u9 u10 u11 u12 u13 u14 u16 u17 u18 u19 u20 u21 u22 u23 u24 u25 u26 u27 u28 u29 u30 u31 u32 u33 u34 u35 u36 u37 u38 u39 u40 u41 u42 u43 u44 u45 u46 u47 u48 u49 u50 u51 u52 u53 u54 u55 u56 u57 u58 u59 u60 u61 u62 u63 u64 u65 u66 u67 u68 u69 u70 u71 u72 u73 u74 u75:Value)
  (Hk:Hid (∀ (s48 s49:Value) (w2:World),w2=rowSt w0 g 0 (macCells macNone none)→Q .normal ⟨List.toArray (u0::u1::u2::u3::Value.pointer (some ⟨g,0,none⟩)::Value.int .i64 e::u6::u7::u8::u9::u10::u11::u12::u13::u14::Value.int .i64 e::u16::u17::u18::u19::u20::u21::u22::u23::u24::u25::u26::u27::u28::u29::u30::u31::u32::u33::u34::u35::u36::u37::u38::u39::u40::u41::u42::u43::u44::u45::u46::u47::s48::s49::u50::u51::u52::u53::u54::u55::u56::u57::u58::u59::u60::u61::u62::u63::u64::u65::u66::u67::u68::u69::u70::u71::u72::u73::u74::u75::[]),[]⟩ w2)) :
  Code.wp Tryz.prog (findR 15 (Tryz.f50.body.getD .skip)) Q ⟨List.toArray (u0::u1::u2::u3::Value.pointer (some ⟨g,0,none⟩)::u5::u6::u7::u8::u9::u10::u11::u12::u13::u14::Value.int .i64 e::u16::u17::u18::u19::u20::u21::u22::u23::u24::u25::u26::u27::u28::u29::u30::u31::u32::u33::u34::u35::u36::u37::u38::u39::u40::u41::u42::u43::u44::u45::u46::u47::u48::u49::u50::u51::u52::u53::u54::u55::u56::u57::u58::u59::u60::u61::u62::u63::u64::u65::u66::u67::u68::u69::u70::u71::u72::u73::u74::u75::[]),[]⟩ w0:=by
 conv=>arg 2;whnf
 obtain ⟨⟨m0,m1,m14⟩,⟨m2,m3,m4⟩,⟨m5,m6,m7⟩,⟨m8,m9,m10⟩,⟨m11,m12,m13⟩⟩:=HR.out.cells;have q0:=HR.out.thawed 0;have q1:=HR.out.thawed 1;have q2:=HR.out.thawed 2;have q3:=HR.out.thawed 3;have q4:=HR.out.thawed 4;have q5:=HR.out.thawed 5;have q6:=HR.out.thawed 6;have q7:=HR.out.thawed 7;have q8:=HR.out.thawed 8;have q9:=HR.out.thawed 9;have q10:=HR.out.thawed 10;have q11:=HR.out.thawed 11;have q12:=HR.out.thawed 12;have q13:=HR.out.thawed 13;have q14:=HR.out.thawed 14;go_wp2_with fail;exact Hk.out _ _ _ rfl
theorem pa_reg20 (w0:World) (g:Nat) (e:Int) {Q:Exit→Act→World→Prop}
  (HR:Hid (MacAt w0 g macNone none))
  (u0 u1 u2 u3 u5 u6 u7 u8 u9 u10 u11 u12 u13 u14 u15 u16 u18 u19 u20 u21 u22 u23 u24 u25 u26 u27 u28 u29 u30 u31 u32 u33 u34 u35 u36 u37 u38 u39 u40 u41 u42 u43 u44 u45 u46 u47 u48 u49 u50 u51 u52 u53 u54 u55 u56 u57 u58 u59 u60 u61 u62 u63 u64 u65 u66 u67 u68 u69 u70 u71 u72 u73 u74 u75:Value)
  (Hk:Hid (∀ (s67 s68:Value) (w2:World),w2=rowSt w0 g 0 (macCells macNone none)→Q .normal ⟨List.toArray (u0::u1::u2::u3::Value.pointer (some ⟨g,0,none⟩)::Value.int .i64 e::u6::u7::u8::u9::u10::u11::u12::u13::u14::u15::u16::Value.int .i64 e::u18::u19::u20::u21::u22::u23::u24::u25::u26::u27::u28::u29::u30::u31::u32::u33::u34::u35::u36::u37::u38::u39::u40::u41::u42::u43::u44::u45::u46::u47::u48::u49::u50::u51::u52::u53::u54::u55::u56::u57::u58::u59::u60::u61::u62::u63::u64::u65::u66::s67::s68::u69::u70::u71::u72::u73::u74::u75::[]),[]⟩ w2)) :
  Code.wp Tryz.prog (findR 20 (Tryz.f50.body.getD .skip)) Q ⟨List.toArray (u0::u1::u2::u3::Value.pointer (some ⟨g,0,none⟩)::u5::u6::u7::u8::u9::u10::u11::u12::u13::u14::u15::u16::Value.int .i64 e::u18::u19::u20::u21::u22::u23::u24::u25::u26::u27::u28::u29::u30::u31::u32::u33::u34::u35::u36::u37::u38::u39::u40::u41::u42::u43::u44::u45::u46::u47::u48::u49::u50::u51::u52::u53::u54::u55::u56::u57::u58::u59::u60::u61::u62::u63::u64::u65::u66::u67::u68::u69::u70::u71::u72::u73::u74::u75::[]),[]⟩ w0:=by
 conv=>arg 2;whnf
 obtain ⟨⟨m0,m1,m14⟩,⟨m2,m3,m4⟩,⟨m5,m6,m7⟩,⟨m8,m9,m10⟩,⟨m11,m12,m13⟩⟩:=HR.out.cells;have q0:=HR.out.thawed 0;have q1:=HR.out.thawed 1;have q2:=HR.out.thawed 2;have q3:=HR.out.thawed 3;have q4:=HR.out.thawed 4;have q5:=HR.out.thawed 5;have q6:=HR.out.thawed 6;have q7:=HR.out.thawed 7;have q8:=HR.out.thawed 8;have q9:=HR.out.thawed 9;have q10:=HR.out.thawed 10;have q11:=HR.out.thawed 11;have q12:=HR.out.thawed 12;have q13:=HR.out.thawed 13;have q14:=HR.out.thawed 14;go_wp2_with fail;exact Hk.out _ _ _ rfl
theorem pa_reg17 (w0:World) (g:Nat) {Q:Exit→Act→World→Prop}
  (HR:Hid (MacAt w0 g macNone none))
  (u0 u1 u2 u3 u5 u6 u7 u8 u9 u10 u11 u12 u13 u14 u15 u16 u17 u18 u19 u20 u21 u22 u23 u24 u25 u26 u27 u28 u29 u30 u31 u32 u33 u34 u35 u36 u37 u38 u39 u40 u41 u42 u43 u44 u45 u46 u47 u48 u49 u50 u51 u52 u53 u54 u55 u56 u57 u58 u59 u60 u61 u62 u63 u64 u65 u66 u67 u68 u69 u70 u71 u72 u73 u74 u75:Value)
  (Hk:Hid (∀ (s55:Value) (w2:World),w2=rowSt w0 g 0 (macCells macNone none)→Q .normal ⟨List.toArray (u0::u1::u2::u3::Value.pointer (some ⟨g,0,none⟩)::Value.int .i64 14::u6::u7::u8::u9::u10::u11::u12::u13::u14::u15::u16::u17::u18::u19::u20::u21::u22::u23::u24::u25::u26::u27::u28::u29::u30::u31::u32::u33::u34::u35::u36::u37::u38::u39::u40::u41::u42::u43::u44::u45::u46::u47::u48::u49::u50::u51::u52::u53::u54::s55::u56::u57::u58::u59::u60::u61::u62::u63::u64::u65::u66::u67::u68::u69::u70::u71::u72::u73::u74::u75::[]),[]⟩ w2)) :
  Code.wp Tryz.prog (findR 17 (Tryz.f50.body.getD .skip)) Q ⟨List.toArray (u0::u1::u2::u3::Value.pointer (some ⟨g,0,none⟩)::u5::u6::u7::u8::u9::u10::u11::u12::u13::u14::u15::u16::u17::u18::u19::u20::u21::u22::u23::u24::u25::u26::u27::u28::u29::u30::u31::u32::u33::u34::u35::u36::u37::u38::u39::u40::u41::u42::u43::u44::u45::u46::u47::u48::u49::u50::u51::u52::u53::u54::u55::u56::u57::u58::u59::u60::u61::u62::u63::u64::u65::u66::u67::u68::u69::u70::u71::u72::u73::u74::u75::[]),[]⟩ w0:=by
 conv=>arg 2;whnf
 obtain ⟨⟨m0,m1,m14⟩,⟨m2,m3,m4⟩,⟨m5,m6,m7⟩,⟨m8,m9,m10⟩,⟨m11,m12,m13⟩⟩:=HR.out.cells;have q0:=HR.out.thawed 0;have q1:=HR.out.thawed 1;have q2:=HR.out.thawed 2;have q3:=HR.out.thawed 3;have q4:=HR.out.thawed 4;have q5:=HR.out.thawed 5;have q6:=HR.out.thawed 6;have q7:=HR.out.thawed 7;have q8:=HR.out.thawed 8;have q9:=HR.out.thawed 9;have q10:=HR.out.thawed 10;have q11:=HR.out.thawed 11;have q12:=HR.out.thawed 12;have q13:=HR.out.thawed 13;have q14:=HR.out.thawed 14;go_wp2_with fail;exact Hk.out _ _ rfl
theorem pa_reg22 (w0:World) (g:Nat) {Q:Exit→Act→World→Prop}
  (HR:Hid (MacAt w0 g macNone none))
  (u0 u1 u2 u3 u5 u6 u7 u8 u9 u10 u11 u12 u13 u14 u15 u16 u17 u18 u19 u20 u21 u22 u23 u24 u25 u26 u27 u28 u29 u30 u31 u32 u33 u34 u35 u36 u37 u38 u39 u40 u41 u42 u43 u44 u45 u46 u47 u48 u49 u50 u51 u52 u53 u54 u55 u56 u57 u58 u59 u60 u61 u62 u63 u64 u65 u66 u67 u68 u69 u70 u71 u72 u73 u74 u75:Value)
  (Hk:Hid (∀ (s74:Value) (w2:World),w2=rowSt w0 g 0 (macCells macNone none)→Q .normal ⟨List.toArray (u0::u1::u2::u3::Value.pointer (some ⟨g,0,none⟩)::Value.int .i64 5::u6::u7::u8::u9::u10::u11::u12::u13::u14::u15::u16::u17::u18::u19::u20::u21::u22::u23::u24::u25::u26::u27::u28::u29::u30::u31::u32::u33::u34::u35::u36::u37::u38::u39::u40::u41::u42::u43::u44::u45::u46::u47::u48::u49::u50::u51::u52::u53::u54::u55::u56::u57::u58::u59::u60::u61::u62::u63::u64::u65::u66::u67::u68::u69::u70::u71::u72::u73::s74::u75::[]),[]⟩ w2)) :
  Code.wp Tryz.prog (findR 22 (Tryz.f50.body.getD .skip)) Q ⟨List.toArray (u0::u1::u2::u3::Value.pointer (some ⟨g,0,none⟩)::u5::u6::u7::u8::u9::u10::u11::u12::u13::u14::u15::u16::u17::u18::u19::u20::u21::u22::u23::u24::u25::u26::u27::u28::u29::u30::u31::u32::u33::u34::u35::u36::u37::u38::u39::u40::u41::u42::u43::u44::u45::u46::u47::u48::u49::u50::u51::u52::u53::u54::u55::u56::u57::u58::u59::u60::u61::u62::u63::u64::u65::u66::u67::u68::u69::u70::u71::u72::u73::u74::u75::[]),[]⟩ w0:=by
 conv=>arg 2;whnf
 obtain ⟨⟨m0,m1,m14⟩,⟨m2,m3,m4⟩,⟨m5,m6,m7⟩,⟨m8,m9,m10⟩,⟨m11,m12,m13⟩⟩:=HR.out.cells;have q0:=HR.out.thawed 0;have q1:=HR.out.thawed 1;have q2:=HR.out.thawed 2;have q3:=HR.out.thawed 3;have q4:=HR.out.thawed 4;have q5:=HR.out.thawed 5;have q6:=HR.out.thawed 6;have q7:=HR.out.thawed 7;have q8:=HR.out.thawed 8;have q9:=HR.out.thawed 9;have q10:=HR.out.thawed 10;have q11:=HR.out.thawed 11;have q12:=HR.out.thawed 12;have q13:=HR.out.thawed 13;have q14:=HR.out.thawed 14;go_wp2_with fail;exact Hk.out _ _ rfl
theorem pa_reg23 (w0:World) (g gb:Nat) (B:MacV) (P:Option Addr) {Q:Exit→Act→World→Prop}
  (HR:Hid (MacAt w0 g macNone none)) (HP:Hid (MacAt w0 gb B P))
  (u0 u1 u2 u3 u5 u6 u7 u8 u9 u10 u11 u12 u13 u14 u15 u17 u18 u19 u20 u21 u22 u23 u24 u25 u26 u27 u28 u29 u30 u31 u32 u33 u34 u35 u36 u37 u38 u39 u40 u41 u42 u43 u44 u45 u46 u47 u48 u49 u50 u51 u52 u53 u54 u55 u56 u57 u58 u59 u60 u61 u62 u63 u64 u65 u66 u67 u68 u69 u70 u71 u72 u73 u74 u75:Value)
  (Hk:Hid (∀ (s75:Value) (w2:World),w2=rowSt w0 g 0 (macCells B P)→Q .normal ⟨List.toArray (u0::u1::u2::u3::Value.pointer (some ⟨g,0,none⟩)::Value.int .i64 0::u6::u7::u8::u9::u10::u11::u12::u13::u14::u15::Value.pointer (some ⟨gb,0,none⟩)::u17::u18::u19::u20::u21::u22::u23::u24::u25::u26::u27::u28::u29::u30::u31::u32::u33::u34::u35::u36::u37::u38::u39::u40::u41::u42::u43::u44::u45::u46::u47::u48::u49::u50::u51::u52::u53::u54::u55::u56::u57::u58::u59::u60::u61::u62::u63::u64::u65::u66::u67::u68::u69::u70::u71::u72::u73::u74::s75::[]),[]⟩ w2)) :
  Code.wp Tryz.prog (findR 23 (Tryz.f50.body.getD .skip)) Q ⟨List.toArray (u0::u1::u2::u3::Value.pointer (some ⟨g,0,none⟩)::u5::u6::u7::u8::u9::u10::u11::u12::u13::u14::u15::Value.pointer (some ⟨gb,0,none⟩)::u17::u18::u19::u20::u21::u22::u23::u24::u25::u26::u27::u28::u29::u30::u31::u32::u33::u34::u35::u36::u37::u38::u39::u40::u41::u42::u43::u44::u45::u46::u47::u48::u49::u50::u51::u52::u53::u54::u55::u56::u57::u58::u59::u60::u61::u62::u63::u64::u65::u66::u67::u68::u69::u70::u71::u72::u73::u74::u75::[]),[]⟩ w0:=by
 conv=>arg 2;whnf
 obtain ⟨⟨m0,m1,m14⟩,⟨m2,m3,m4⟩,⟨m5,m6,m7⟩,⟨m8,m9,m10⟩,⟨m11,m12,m13⟩⟩:=HR.out.cells;have q0:=HR.out.thawed 0;have q1:=HR.out.thawed 1;have q2:=HR.out.thawed 2;have q3:=HR.out.thawed 3;have q4:=HR.out.thawed 4;have q5:=HR.out.thawed 5;have q6:=HR.out.thawed 6;have q7:=HR.out.thawed 7;have q8:=HR.out.thawed 8;have q9:=HR.out.thawed 9;have q10:=HR.out.thawed 10;have q11:=HR.out.thawed 11;have q12:=HR.out.thawed 12;have q13:=HR.out.thawed 13;have q14:=HR.out.thawed 14;obtain ⟨⟨p0,p1,p14⟩,⟨p2,p3,p4⟩,⟨p5,p6,p7⟩,⟨p8,p9,p10⟩,⟨p11,p12,p13⟩⟩:=HP.out.cells;go_wp2_with fail;exact Hk.out _ _ rfl
def paRes (A:MacV) (X:RdV × PaV):MacV × Nat :=
 if X.1.e=0 then (if X.1.end_.e=0 then (if sumM A=X.2.fr then (if makeOk ⟨A.all,X.2.mem,X.2.tab,X.2.sh⟩=true then (if sumM ⟨A.all,X.2.mem,X.2.tab,X.2.sh⟩=X.2.to_ then (⟨A.all,X.2.mem,X.2.tab,X.2.sh⟩,0) else (macNone,5)) else (macNone,4)) else (macNone,14)) else (macNone,X.1.end_.e)) else (macNone,X.1.e)
def patchM (A:MacV) (s:List UInt8):MacV × Nat:=paRes A (paL 5 0 (⟨0,s⟩,⟨0,0,0,A.tab,A.sh⟩))
def ShOk (S:Sh):Prop:=Asc S.kv∧S.Heap
theorem applyD_ok {S:Sh} (h:ShOk S) (k:ByteArray) (b:Bool) (v:ByteArray):ShOk (applyD S k b v):=by
 unfold applyD;split
 ·
  exact ⟨asc_put h.1 _ _ _,putSh_heap h.2 h.1 _ _⟩
 ·
  exact ⟨asc_del h.1 _ _,delSh_heap h.2 h.1 _⟩
theorem shOk_nil:ShOk .nil:=⟨List.Pairwise.nil,trivial⟩
theorem keysPD_ok:∀ (n:Nat) (S:Sh) (last:ByteArray) (R:RdV),ShOk S→ShOk (RdV.keysPD n S last R).1
 | 0,_,_,_,h=>h
 | n+1,S,last,R,h=>by
  unfold RdV.keysPD;split
  ·
   exact keysPD_ok n _ _ _ (applyD_ok h _ _ _)
  ·
   exact shOk_nil
theorem keysD_ok (R:RdV) (S:Sh) (h:ShOk S):ShOk (R.keysD S).1:=by
 unfold RdV.keysD;exact keysPD_ok _ _ _ _ h
def pst (i:Nat) (p:PaV) (a:Nat × RdV) (b:UInt8 × RdV) (c:TabV × RdV) (d:Sh × RdV):RdV × PaV :=
 if i=0 then (a.2,{ p with fr:=a.1 }) else if i=1 then (a.2,{ p with to_:=a.1 }) else if i=2 then (b.2,{ p with mem:=b.1.toNat }) else if i=3 then (c.2,{ p with tab:=c.1 }) else (d.2,{ p with sh:=d.1 })
theorem paStep_as (i:Nat) (X:RdV × PaV):paStep i X=pst i X.2 (X.1.sumP 8) X.1.byte (X.1.clients X.2.tab) (X.1.keysD X.2.sh):=rfl
theorem pst_ok (i:Nat) (p:PaV) (a:Nat × RdV) (b:UInt8 × RdV) (c:TabV × RdV) (d:Sh × RdV) (h:ShOk p.sh) (hd:ShOk d.1):ShOk (pst i p a b c d).2.sh:=by
 unfold pst;repeat' split
 ·
  exact h
 ·
  exact h
 ·
  exact h
 ·
  exact h
 ·
  exact hd
theorem pst_sh (i:Nat) (hi:i<4) (p:PaV) (a:Nat × RdV) (b:UInt8 × RdV) (c:TabV × RdV) (d:Sh × RdV):(pst i p a b c d).2.sh=p.sh:=by
 unfold pst;repeat' split
 ·
  rfl
 ·
  rfl
 ·
  rfl
 ·
  rfl
 ·
  omega
theorem paStep_ok (i:Nat) (X:RdV × PaV) (h:ShOk X.2.sh):ShOk (paStep i X).2.sh:=by
 rw [paStep_as];exact pst_ok _ _ _ _ _ _ h (keysD_ok X.1 X.2.sh h)
theorem paStep_sh (i:Nat) (hi:i<4) (X:RdV × PaV):(paStep i X).2.sh=X.2.sh:=by
 rw [paStep_as];exact pst_sh i hi _ _ _ _ _
theorem pstep_any (i:Nat) (hi:i<5) {w0:World} {gt gk gf:Nat} {A:MacV} {T U:Tr} {X:RdV × PaV} (hc:T.cnt≤500000) (hU:U.sh.cnt≤T.cnt) (w:World) (h:PaI w0 gt gk gf A T X U w) :
  ∃ f q,(pfuncs w0.heap.size gt gk)[i]?=some (.func (.func f) #[] #[.pointer (some ⟨w0.heap.size+3,0,none⟩),.pointer (some ⟨q,0,none⟩)]) ∧
   (f=93∨f=95∨f=96∨f=98∨f=100) ∧
   Calls Tryz.prog f #[.pointer (some ⟨w0.heap.size+3,0,none⟩),.pointer (some ⟨q,0,none⟩)] w fun e w'=>e=.returned (.tuple #[])∧∃ V,PaI w0 gt gk gf A T (paStep i X) V w':=by
 have h1:i=0∨i=1∨i=2∨i=3∨i=4:=by omega
 rcases h1 with rfl | rfl | rfl | rfl | rfl
 ·
  exact ⟨_,_,rfl,.inl rfl,(pstep1_any w h).mono fun e w' hh=>⟨hh.1,U,hh.2⟩⟩
 ·
  exact ⟨_,_,rfl,.inr (.inl rfl),(pstep2_any w h).mono fun e w' hh=>⟨hh.1,U,hh.2⟩⟩
 ·
  exact ⟨_,_,rfl,.inr (.inr (.inl rfl)),(pstep3_any w h).mono fun e w' hh=>⟨hh.1,U,hh.2⟩⟩
 ·
  exact ⟨_,_,rfl,.inr (.inr (.inr (.inl rfl))),(pstep4_any w h).mono fun e w' hh=>⟨hh.1,U,hh.2⟩⟩
 ·
  exact ⟨_,_,rfl,.inr (.inr (.inr (.inr rfl))),pstep5_any w hc hU h⟩
def paW (w:World) (A:MacV) (P:Option Addr) (s:List UInt8):World :=
 ((((((w.alloc (.cells (macCells A P).toArray 38)).alloc (.cells (macCells macNone none).toArray 38)).alloc (.cells (rdCells ⟨0,s⟩).toArray 246)).alloc (.cells #[.pointer (some ⟨w.heap.size+1+1,0,none⟩)] 180)).alloc (.cells #[.int .u64 0] 22)).alloc (.cells #[.int .u64 0] 22)).alloc (.cells #[.int .u8 0] 24)
structure PaS (w0:World) (A:MacV) (P:Option Addr) (s:List UInt8) (w:World):Prop where
 ma:MacAt w w0.heap.size A P
 res:MacAt w (w0.heap.size+1) macNone none
 rd:RdAt w (w0.heap.size+2) ⟨0,s⟩
 box:w.heap[w0.heap.size+3]?=some (.cells #[.pointer (some ⟨w0.heap.size+2,0,none⟩)] 180 (0,0))
 fr:BoxAt w (w0.heap.size+4) (.int .u64 0) 22
 to_:BoxAt w (w0.heap.size+5) (.int .u64 0) 22
 mem:BoxAt w (w0.heap.size+6) (.int .u8 0) 24
 bel:Below w0.heap.size w0 w
 size:w.heap.size=w0.heap.size+7
theorem pa_start (w:World) (A:MacV) (P:Option Addr) (s:List UInt8) (hs:s.length≤maxLen):PaS w A P s (paW w A P s):=by
 unfold paW;obtain ⟨w1,e1⟩:∃ x,w.alloc (.cells (macCells A P).toArray 38)=x:=⟨_,rfl⟩;have s1:w1.heap.size=w.heap.size+1:=by rw [← e1];simp
 have a1:w1.heap[w.heap.size]?=some (.cells (macCells A P).toArray 38):=by rw [← e1];exact heap_alloc_new _ _
 have b1:Below w.heap.size w w1:=by rw [← e1];exact (Below.refl _ _).alloc (Nat.le_refl _) _
 rw [e1];obtain ⟨w2,e2⟩:∃ x,w1.alloc (.cells (macCells macNone none).toArray 38)=x:=⟨_,rfl⟩;have s2:w2.heap.size=w.heap.size+2:=by rw [← e2];simp [s1]
 have a2:w2.heap[w.heap.size+1]?=some (.cells (macCells macNone none).toArray 38):=by rw [← e2, ← s1];exact heap_alloc_new _ _
 have b2:Below w1.heap.size w1 w2:=by rw [← e2];exact (Below.refl _ _).alloc (Nat.le_refl _) _
 rw [e2];obtain ⟨w3,e3⟩:∃ x,w2.alloc (.cells (rdCells ⟨0,s⟩).toArray 246)=x:=⟨_,rfl⟩;have s3:w3.heap.size=w.heap.size+3:=by rw [← e3];simp [s2]
 have a3:w3.heap[w.heap.size+2]?=some (.cells (rdCells ⟨0,s⟩).toArray 246):=by rw [← e3, ← s2];exact heap_alloc_new _ _
 have b3:Below w2.heap.size w2 w3:=by rw [← e3];exact (Below.refl _ _).alloc (Nat.le_refl _) _
 rw [e3];obtain ⟨w4,e4⟩:∃ x,w3.alloc (.cells #[.pointer (some ⟨w.heap.size+1+1,0,none⟩)] 180)=x:=⟨_,rfl⟩;have s4:w4.heap.size=w.heap.size+4:=by rw [← e4];simp [s3]
 have a4:w4.heap[w.heap.size+3]?=some (.cells #[.pointer (some ⟨w.heap.size+1+1,0,none⟩)] 180):=by rw [← e4, ← s3];exact heap_alloc_new _ _
 have b4:Below w3.heap.size w3 w4:=by rw [← e4];exact (Below.refl _ _).alloc (Nat.le_refl _) _
 rw [e4];obtain ⟨w5,e5⟩:∃ x,w4.alloc (.cells #[.int .u64 0] 22)=x:=⟨_,rfl⟩;have s5:w5.heap.size=w.heap.size+5:=by rw [← e5];simp [s4]
 have a5:w5.heap[w.heap.size+4]?=some (.cells #[.int .u64 0] 22):=by rw [← e5, ← s4];exact heap_alloc_new _ _
 have b5:Below w4.heap.size w4 w5:=by rw [← e5];exact (Below.refl _ _).alloc (Nat.le_refl _) _
 rw [e5];obtain ⟨w6,e6⟩:∃ x,w5.alloc (.cells #[.int .u64 0] 22)=x:=⟨_,rfl⟩;have s6:w6.heap.size=w.heap.size+6:=by rw [← e6];simp [s5]
 have a6:w6.heap[w.heap.size+5]?=some (.cells #[.int .u64 0] 22):=by rw [← e6, ← s5];exact heap_alloc_new _ _
 have b6:Below w5.heap.size w5 w6:=by rw [← e6];exact (Below.refl _ _).alloc (Nat.le_refl _) _
 rw [e6];obtain ⟨w7,e7⟩:∃ x,w6.alloc (.cells #[.int .u8 0] 24)=x:=⟨_,rfl⟩;have s7:w7.heap.size=w.heap.size+7:=by rw [← e7];simp [s6]
 have a7:w7.heap[w.heap.size+6]?=some (.cells #[.int .u8 0] 24):=by rw [← e7, ← s6];exact heap_alloc_new _ _
 have b7:Below w6.heap.size w6 w7:=by rw [← e7];exact (Below.refl _ _).alloc (Nat.le_refl _) _
 rw [e7];have c6:=b7;have c5:=b6.trans (c6.mono b6.size);have c4:=b5.trans (c5.mono b5.size);have c3:=b4.trans (c4.mono b4.size);have c2:=b3.trans (c3.mono b3.size);have c1:=b2.trans (c2.mono b2.size);exact ⟨(c1.block _ (by omega)).trans a1,(c2.block _ (by omega)).trans a2,⟨(c3.block _ (by omega)).trans a3,hs⟩,(c4.block _ (by omega)).trans a4,(c5.block _ (by omega)).trans a5,(c6.block _ (by omega)).trans a6,a7,b1.trans (c1.mono b1.size),s7⟩
theorem PaI.store {w0 w:World} {gt gk gf:Nat} {A:MacV} {T U:Tr} {X:RdV × PaV} (h:PaI w0 gt gk gf A T X U w) (M:MacV) (P:Option Addr):MacAt (rowSt w (w0.heap.size+1) 0 (macCells M P)) (w0.heap.size+1) M P∧(∀ V,TreeAt w V→TreeAt (rowSt w (w0.heap.size+1) 0 (macCells M P)) V)∧Below w0.heap.size w0 (rowSt w (w0.heap.size+1) 0 (macCells M P)):=by
 obtain ⟨h1,h2,h3,h4⟩:=ma_st h.res M P;exact ⟨h1,h4,h3 _ _ h.bel (Nat.le_succ _)⟩
theorem dpatch_any (A:MacV) (T:Tr) (s:List UInt8) (hs:s.length≤maxLen) (hA:MacAll A) (w:World) (hT:TreeAt w T) (hsh:T.sh=A.sh) :
  Calls Tryz.prog 50 #[macV A T.ptr,.string ⟨s.toArray⟩] w fun e w'=>∃ X,e=.returned (.tuple #[macV (patchM A s).1 X.ptr,.int .i64 ((patchM A s).2:Int)])∧TreeAt w' X∧X.sh=(patchM A s).1.sh∧Below w.heap.size w w':=by
 have Hof:=Lib.hid (fun y:World=>of_any1 s hs y);have HS:=Lib.hid (pa_start w A T.ptr s hs);have Htt:=Lib.hid (show TreeAt w T∧T.sh=A.sh∧T.cnt≤256 from ⟨hT,hsh,by rw [sh_cnt,hsh];exact hA.fit.kv.num⟩);clear hT hsh
 have HA:=Lib.hid hA;clear hA
 obtain ⟨F,hF⟩:∃ F,patchM A s=F:=⟨_,rfl⟩;rw [hF];unfold patchM at hF;obtain ⟨Y,hY⟩:∃ Y,paL 5 0 (⟨0,s⟩,⟨0,0,0,A.tab,A.sh⟩)=Y:=⟨_,rfl⟩;rw [hY] at hF;have HF:=Lib.hid hF;clear hF
 have HY:=Lib.hid hY;clear hY
 obtain ⟨P,hP⟩:∃ P,T.ptr=P:=⟨_,rfl⟩;rw [hP] at HS ⊢;have HP:=Lib.hid hP;clear hP
 unfold macV;rw [mac_eta A P];go_enter Tryz.func50,Tryz.ntmps50
 go_upto_region 4 with ((with_reducible refine (Hof.out _).mono ?_);rintro e w2 ⟨rfl,rfl⟩)
 change Code.wp _ _ _ _ (paW w A P s);generalize paW w A P s=w1 at *;refine pa_reg4 w1 w.heap.size A P (fun _ _ d _ _ h=>by cases d <;> exact h) (fun _ _ d _ _ h=>by cases d <;> exact h) (Lib.hid HS.out.ma) _ _ _ _ _ _ _ _ _ _ _ _ _ _ _ _ _ _ _ _ _ _ _ _ _ _ _ _ _ _ _ _ _ _ _ _ _ _ _ _ _ _ _ _ _ _ _ _ _ _ _ _ _ _ _ _ _ _ _ _ _ _ _ _ _ _ _ _ _ _ _ _ _ _ _ (Lib.hid ?_);intro s20 s21 s22 s23 gt gk w2 hE;have HE:=Lib.hid hE;clear hE Hof
 go_wp2_with fail;change Code.wp _ _ _ _ (w2.alloc (.cells (pfuncs w.heap.size gt gk).toArray 1));have hI:PaI w gt gk w2.heap.size A T (⟨0,s⟩,⟨0,0,0,A.tab,A.sh⟩) T (w2.alloc (.cells (pfuncs w.heap.size gt gk).toArray 1)):=by
  have hb:=HE.out.bel;have hba:=(Below.refl w2.heap.size w2).alloc (Nat.le_refl _) (.cells (pfuncs w.heap.size gt gk).toArray 1);have hk:∀ {q:Nat} {o:Obj},w1.heap[q]?=some o→(w2.alloc (.cells (pfuncs w.heap.size gt gk).toArray 1)).heap[q]?=some o:=fun e=>by
   have h1:=(Array.getElem?_eq_some_iff.1 e).1;exact (hba.block _ (Nat.lt_of_lt_of_le h1 hb.size)).trans ((hb.block _ h1).trans e)
  have hl:=HE.out.lt;have hz:=HS.out.size;have hz2:=hb.size;have ht1:gt<w2.heap.size:=HE.out.tab.lt;have ht2:gk<w2.heap.size:=HE.out.key.lt;have hbw:=HS.out.bel.trans ((hb.trans (hba.mono hb.size)).mono HS.out.bel.size);have htt:=Htt.out.1.below hbw;refine ⟨by rw [HP.out];exact hk HS.out.ma,hk HS.out.res,⟨hk HS.out.rd.row,HS.out.rd.len⟩,hk HS.out.box,hk HS.out.fr,hk HS.out.to_,hk HS.out.mem,HE.out.tab.below' hba,by rw [HP.out];exact HE.out.key.below hba,heap_alloc_new _ _,htt,htt,Htt.out.2.1,by omega,(show (0:Nat)<256 by omega),hbw,by omega,by omega,by omega,hl.2.2,by omega,by omega⟩
 clear HE HS;generalize w2.alloc (.cells (pfuncs w.heap.size gt gk).toArray 1)=w3 at *;generalize w2.heap.size=gf at *;have HI:=Lib.hid hI;clear hI
 go_loopw [31] (fun s31 wr=>∃ (i:Nat) (X:RdV × PaV) (U:Tr),i≤5∧s31=.int .i64 (i:Int)∧PaI w gt gk gf A T X U wr∧X.1.e=0∧paL (5 - i) i X=Y∧ShOk X.2.sh∧(i<5→X.2.sh=A.sh)) (fun s31 _=>5 - (intOf s31).toNat)
 case atStart=>exact ⟨0,_,_,by omega,rfl,HI.out,rfl,HY.out,⟨HA.out.fit.kv.asc,HA.out.heap⟩,fun _=>rfl⟩
 case round =>
  obtain ⟨i,X,U,hi,rfl,hI,hX0,hfin,hok,hshA⟩:=hrel;clear HI HY;have HI:=Lib.hid hI;clear hI
  have Hok:=Lib.hid hok;clear hok
  by_cases hlt:i<5
  ·
   have hlt':(i:Int)<5:=by omega
   have hsucc:=tsucc (n:=i) (by omega);obtain ⟨f,q,hf,hfs,hcall⟩:=pstep_any i hlt (by have:=Htt.out.2.2;omega) (by rw [HI.out.sh,hshA hlt, ← Htt.out.2.1,sh_cnt];exact Nat.le_refl _) wr HI.out;have hcell:wr.cell? ⟨gf,i,none⟩=some (.func (.func f) #[] #[.pointer (some ⟨w.heap.size+3,0,none⟩),.pointer (some ⟨q,0,none⟩)]):=by
    simp only [World.cell?,HI.out.fn];simpa using hf
   rw [show 5 - i=(5 - (i+1))+1 by omega] at hfin;unfold paL at hfin;have hok2:=paStep_ok i X Hok.out;have hsh2:i+1<5→(paStep i X).2.sh=A.sh:=fun h=>(paStep_sh i (by omega) X).trans (hshA hlt)
   obtain ⟨Z,hZ⟩:∃ Z,paStep i X=Z:=⟨_,rfl⟩;rw [hZ] at hcall hfin hok2 hsh2;have Hfin:=Lib.hid hfin;clear hfin hZ hX0
   have Hcall:=Lib.hid hcall;clear hcall hf
   have Hok2:=Lib.hid (And.intro hok2 hsh2);clear hok2 hsh2 Hok hshA
   have Herr:=Lib.hid (fun (y:World) (hy:RdAt y (w.heap.size+2) Z.1)=>err_any Z.1 (w.heap.size+2) y hy);go_upto_region 8 with fail;go_cut [35,36] (fun _ _ wx=>∃ V,PaI w gt gk gf A T Z V wx)
   case first =>
    rcases hfs with rfl | rfl | rfl | rfl | rfl
    all_goals (go_wp2_with ((with_reducible refine Hcall.out.mono ?_);rintro e w3 ⟨rfl,h3⟩;have H3:=Lib.hid h3;clear h3 Hcall);go_meet;exact H3.out)
   case rest =>
   obtain ⟨V,hcI⟩:=hcut;generalize wc=w3 at *;clear hcell HI Hcall hfs;have H3:=Lib.hid hcI;clear hcI
   have f4:=H3.out.get;go_upto_region 10 with ((with_reducible refine (Herr.out _ H3.out.rd).mono ?_);rintro e w' ⟨rfl,rfl⟩)
   clear f4 Herr;by_cases he:Z.1.e=0
   ·
    have he':((Z.1.e:Int) != 0)=false:=by simp [he]
    have hq:=Hfin.out;rw [if_pos he] at hq;go_wp2_with fail;go_roundw
    case rel=>exact ⟨i+1,Z,V,hlt,rfl,H3.out,he,hq,Hok2.out.1,Hok2.out.2⟩
    case measure=>simp [intOf];omega
   ·
    have he':((Z.1.e:Int) != 0)=true:=by rw [bne_iff_ne];omega
    have hq:=Hfin.out;rw [if_neg he] at hq;have hres:F=(macNone,Z.1.e):=by rw [← HF.out];unfold paRes;rw [← hq,if_neg he]
    subst hres;clear Hfin hq HF he;have HS:=Lib.hid (H3.out.store macNone none);go_upto_region 11 with fail;refine pa_reg11 w3 (w.heap.size+1) (Z.1.e:Int) (Lib.hid H3.out.res) _ _ _ _ _ _ _ _ _ _ _ _ _ _ _ _ _ _ _ _ _ _ _ _ _ _ _ _ _ _ _ _ _ _ _ _ _ _ _ _ _ _ _ _ _ _ _ _ _ _ _ _ _ _ _ _ _ _ _ _ _ _ _ _ _ _ _ _ _ _ _ _ _ _ (Lib.hid ?_);intro t0 t1 w8 hw8;subst hw8;go_wp2_with fail;change bodyPost _ _ _ _ _ (rowSt w3 (w.heap.size+1) 0 (macCells macNone none));clear H3;generalize rowSt w3 (w.heap.size+1) 0 (macCells macNone none)=w9 at *;obtain ⟨⟨o0,o1,o14⟩,⟨o2,o3,o4⟩,⟨o5,o6,o7⟩,⟨o8,o9,o10⟩,⟨o11,o12,o13⟩⟩:=HS.out.1.cells;refine bodyPost_ret (v:=.tuple #[.agg (macCells macNone none).toArray,.int .i64 (Z.1.e:Int)]) (by rw [mac_eta];simp [results,Tryz.results50,go_sem,o0,o1,o2,o3,o4,o5,o6,o7,o8,o9,o10,o11,o12,o13,o14] <;> rfl) rfl ?_;exact ⟨.nil,rfl,trivial,rfl,HS.out.2.2⟩
  ·
   have hlt' : ¬ (i:Int)<5:=by omega
   obtain rfl:i=5:=by omega
   have hXY:X=Y:=hfin;subst hXY;clear hfin hshA hlt hi;have hq:=HF.out;unfold paRes at hq;rw [if_pos hX0] at hq;have Hend:=Lib.hid (end_any X.1 (w.heap.size+2) wr HI.out.rd);generalize X.1.end_=E at *;have f4:=HI.out.get;have Hq:=Lib.hid hq;clear hq HF hX0
   go_upto_region 14 with ((with_reducible refine Hend.out.mono ?_);rintro e w3 ⟨rfl,h3⟩;have H3:=Lib.hid (HI.out.only h3.1 (h3.2.but _));clear h3 f4 HI Hend)
   obtain ⟨R,p⟩:=X;simp only at H3 Hok Hq;by_cases he:E.e=0
   ·
    have he':((E.e:Int) != 0)=false:=by simp [he]
    have hq:=Hq.out;rw [if_pos he] at hq;have Hq2:=Lib.hid hq;clear hq Hq he
    go_upto_region 16 with fail;refine pa_reg16 w3 w.heap.size (w.heap.size+4) A P T p.fr (fun _ _ d _ _ h=>by cases d <;> exact h) (Lib.hid (by have:=H3.out.ma;rw [HP.out] at this;exact this)) (Lib.hid H3.out.fr) (Lib.hid ⟨H3.out.trA,HP.out,Htt.out.2.1⟩) (Lib.hid ⟨macFit_by HA.out.fit,macB_len HA.out.fit⟩) _ _ _ _ _ _ _ _ _ _ _ _ _ _ _ _ _ _ _ _ _ _ _ _ _ _ _ _ _ _ _ _ _ _ _ _ _ _ _ _ _ _ _ _ _ _ _ _ _ _ _ _ _ _ _ _ _ _ _ _ _ _ _ _ _ _ _ _ _ _ _ _ _ _ (Lib.hid ?_);intro s50 s51 s52 s53 w4 hb4;have H4:=Lib.hid (H3.out.below hb4);clear H3 hb4
    by_cases hfr:sumM A=p.fr
    ·
     have hfr':((sumM A:Int) != (p.fr:Int))=false:=by simp [hfr]
     have hq:=Hq2.out;rw [if_pos hfr] at hq;have Hq3:=Lib.hid hq;clear hq Hq2 hfr
     go_upto_region 18 with fail;clear hfr';refine pa_reg18 w4 w.heap.size (w.heap.size+6) gt gk A P p.mem p.tab p.sh U (fun _ _ d _ _ h=>by cases d <;> exact h) (fun _ _ d _ _ h=>by cases d <;> exact h) (Lib.hid (by have:=H4.out.ma;rw [HP.out] at this;exact this)) (Lib.hid H4.out.mem) (Lib.hid H4.out.tab) (Lib.hid H4.out.key) (Lib.hid ⟨H4.out.tr,H4.out.sh,by have:=H4.out.few;have:=Htt.out.2.2;omega⟩) (Lib.hid ⟨by have:=HA.out.fit.all;omega,H4.out.sml⟩) _ _ _ _ _ _ _ _ _ _ _ _ _ _ _ _ _ _ _ _ _ _ _ _ _ _ _ _ _ _ _ _ _ _ _ _ _ _ _ _ _ _ _ _ _ _ _ _ _ _ _ _ _ _ _ _ _ _ _ _ _ _ _ _ _ _ _ _ _ _ _ _ (Lib.hid ?_);intro s56 s57 s58 s59 s60 s61 s62 s63 s64 gb w5 hE5;have hok':=Hok.out;obtain ⟨B,hB⟩:∃ B:MacV,(⟨A.all,p.mem,p.tab,p.sh⟩:MacV)=B:=⟨_,rfl⟩;rw [hB] at hE5 Hq3 ⊢;have hBs:p.sh=B.sh:=by rw [← hB]
     have hall:makeOk B=true→MacAll B:=fun e=>make_all e (by rw [← hBs];exact hok'.1) (by rw [← hBs];exact hok'.2)
     have H5:=Lib.hid (H4.out.below hE5.2.1);have HB:=Lib.hid hE5.1;have Hall:=Lib.hid (And.intro hall hBs);clear H4 hE5 hB hall hok' hBs;by_cases hmk:makeOk B=true
     ·
      have hc0:mkC B=0:=by unfold mkC;rw [if_pos hmk]
      have hm0:mkM B=B:=by unfold mkM;rw [if_pos hmk]
      have hp0:mkP B U.ptr=U.ptr:=by unfold mkP;rw [if_pos hmk]
      rw [hm0,hp0] at HB;have hq:=Hq3.out;rw [if_pos hmk] at hq;have Hq4:=Lib.hid hq;clear hq Hq3 hm0 hp0
      have HBa:=Lib.hid (Hall.out.1 hmk);rw [hc0];clear hmk hc0;go_upto_region 21 with fail;refine pa_reg21 w5 gb (w.heap.size+5) B U.ptr U p.to_ (fun _ _ d _ _ h=>by cases d <;> exact h) (Lib.hid HB.out) (Lib.hid H5.out.to_) (Lib.hid ⟨H5.out.tr,rfl,H5.out.sh.trans Hall.out.2⟩) (Lib.hid ⟨macFit_by HBa.out.fit,macB_len HBa.out.fit⟩) _ _ _ _ _ _ _ _ _ _ _ _ _ _ _ _ _ _ _ _ _ _ _ _ _ _ _ _ _ _ _ _ _ _ _ _ _ _ _ _ _ _ _ _ _ _ _ _ _ _ _ _ _ _ _ _ _ _ _ _ _ _ _ _ _ _ _ _ _ _ _ _ _ _ (Lib.hid ?_);intro s69 s70 s71 s72 w6 hb6;have H6:=Lib.hid (H5.out.below hb6);have HB6:=Lib.hid (HB.out.below hb6);clear HB H5 hb6
      by_cases hto:sumM B=p.to_
      ·
       have hto':((sumM B:Int) != (p.to_:Int))=false:=by simp [hto]
       have hq:=Hq4.out;rw [if_pos hto] at hq;subst hq;clear Hq4 hto;have HS:=Lib.hid (H6.out.store B U.ptr);have Hsh:=Lib.hid (H6.out.sh.trans Hall.out.2);go_upto_region 23 with fail;refine pa_reg23 w6 (w.heap.size+1) gb B U.ptr (Lib.hid H6.out.res) (Lib.hid HB6.out) _ _ _ _ _ _ _ _ _ _ _ _ _ _ _ _ _ _ _ _ _ _ _ _ _ _ _ _ _ _ _ _ _ _ _ _ _ _ _ _ _ _ _ _ _ _ _ _ _ _ _ _ _ _ _ _ _ _ _ _ _ _ _ _ _ _ _ _ _ _ _ _ _ _ (Lib.hid ?_);intro t0 w8 hw8;subst hw8;go_wp2_with fail;change bodyPost _ _ _ _ _ (rowSt w6 (w.heap.size+1) 0 (macCells B U.ptr));have HT:=Lib.hid (HS.out.2.1 _ H6.out.tr);clear H6 HB6;generalize rowSt w6 (w.heap.size+1) 0 (macCells B U.ptr)=w9 at *;obtain ⟨⟨o0,o1,o14⟩,⟨o2,o3,o4⟩,⟨o5,o6,o7⟩,⟨o8,o9,o10⟩,⟨o11,o12,o13⟩⟩:=HS.out.1.cells;refine bodyPost_ret (v:=.tuple #[.agg (macCells B U.ptr).toArray,.int .i64 0]) (by rw [mac_eta];simp [results,Tryz.results50,go_sem,o0,o1,o2,o3,o4,o5,o6,o7,o8,o9,o10,o11,o12,o13,o14] <;> rfl) rfl ?_;exact ⟨U,rfl,HT.out,Hsh.out,HS.out.2.2⟩
      ·
       have hto':((sumM B:Int) != (p.to_:Int))=true:=by rw [bne_iff_ne];omega
       have hq:=Hq4.out;rw [if_neg hto] at hq;subst hq;clear Hq4 hto;have HS:=Lib.hid (H6.out.store macNone none);go_upto_region 22 with fail;refine pa_reg22 w6 (w.heap.size+1) (Lib.hid H6.out.res) _ _ _ _ _ _ _ _ _ _ _ _ _ _ _ _ _ _ _ _ _ _ _ _ _ _ _ _ _ _ _ _ _ _ _ _ _ _ _ _ _ _ _ _ _ _ _ _ _ _ _ _ _ _ _ _ _ _ _ _ _ _ _ _ _ _ _ _ _ _ _ _ _ _ _ (Lib.hid ?_);intro t0 w8 hw8;subst hw8;go_wp2_with fail;change bodyPost _ _ _ _ _ (rowSt w6 (w.heap.size+1) 0 (macCells macNone none));clear H6;generalize rowSt w6 (w.heap.size+1) 0 (macCells macNone none)=w9 at *;obtain ⟨⟨o0,o1,o14⟩,⟨o2,o3,o4⟩,⟨o5,o6,o7⟩,⟨o8,o9,o10⟩,⟨o11,o12,o13⟩⟩:=HS.out.1.cells;refine bodyPost_ret (v:=.tuple #[.agg (macCells macNone none).toArray,.int .i64 5]) (by rw [mac_eta];simp [results,Tryz.results50,go_sem,o0,o1,o2,o3,o4,o5,o6,o7,o8,o9,o10,o11,o12,o13,o14] <;> rfl) rfl ?_;exact ⟨.nil,rfl,trivial,rfl,HS.out.2.2⟩
     ·
      have hc0:mkC B=4:=by unfold mkC;rw [if_neg hmk]
      have hq:=Hq3.out;rw [if_neg hmk] at hq;subst hq;rw [hc0];clear Hq3 hmk hc0 HB;have HS:=Lib.hid (H5.out.store macNone none);go_upto_region 20 with fail;refine pa_reg20 w5 (w.heap.size+1) 4 (Lib.hid H5.out.res) _ _ _ _ _ _ _ _ _ _ _ _ _ _ _ _ _ _ _ _ _ _ _ _ _ _ _ _ _ _ _ _ _ _ _ _ _ _ _ _ _ _ _ _ _ _ _ _ _ _ _ _ _ _ _ _ _ _ _ _ _ _ _ _ _ _ _ _ _ _ _ _ _ _ (Lib.hid ?_);intro t0 t1 w8 hw8;subst hw8;go_wp2_with fail;change bodyPost _ _ _ _ _ (rowSt w5 (w.heap.size+1) 0 (macCells macNone none));clear H5;generalize rowSt w5 (w.heap.size+1) 0 (macCells macNone none)=w9 at *;obtain ⟨⟨o0,o1,o14⟩,⟨o2,o3,o4⟩,⟨o5,o6,o7⟩,⟨o8,o9,o10⟩,⟨o11,o12,o13⟩⟩:=HS.out.1.cells;refine bodyPost_ret (v:=.tuple #[.agg (macCells macNone none).toArray,.int .i64 4]) (by rw [mac_eta];simp [results,Tryz.results50,go_sem,o0,o1,o2,o3,o4,o5,o6,o7,o8,o9,o10,o11,o12,o13,o14] <;> rfl) rfl ?_;exact ⟨.nil,rfl,trivial,rfl,HS.out.2.2⟩
    ·
     have hfr':((sumM A:Int) != (p.fr:Int))=true:=by rw [bne_iff_ne];omega
     have hq:=Hq2.out;rw [if_neg hfr] at hq;subst hq;clear Hq2 hfr;have HS:=Lib.hid (H4.out.store macNone none);go_upto_region 17 with fail;refine pa_reg17 w4 (w.heap.size+1) (Lib.hid H4.out.res) _ _ _ _ _ _ _ _ _ _ _ _ _ _ _ _ _ _ _ _ _ _ _ _ _ _ _ _ _ _ _ _ _ _ _ _ _ _ _ _ _ _ _ _ _ _ _ _ _ _ _ _ _ _ _ _ _ _ _ _ _ _ _ _ _ _ _ _ _ _ _ _ _ _ _ (Lib.hid ?_);intro t0 w8 hw8;subst hw8;go_wp2_with fail;change bodyPost _ _ _ _ _ (rowSt w4 (w.heap.size+1) 0 (macCells macNone none));clear H4;generalize rowSt w4 (w.heap.size+1) 0 (macCells macNone none)=w9 at *;obtain ⟨⟨o0,o1,o14⟩,⟨o2,o3,o4⟩,⟨o5,o6,o7⟩,⟨o8,o9,o10⟩,⟨o11,o12,o13⟩⟩:=HS.out.1.cells;refine bodyPost_ret (v:=.tuple #[.agg (macCells macNone none).toArray,.int .i64 14]) (by rw [mac_eta];simp [results,Tryz.results50,go_sem,o0,o1,o2,o3,o4,o5,o6,o7,o8,o9,o10,o11,o12,o13,o14] <;> rfl) rfl ?_;exact ⟨.nil,rfl,trivial,rfl,HS.out.2.2⟩
   ·
    have he':((E.e:Int) != 0)=true:=by rw [bne_iff_ne];omega
    have hq:=Hq.out;rw [if_neg he] at hq;subst hq;clear Hq he;have HS:=Lib.hid (H3.out.store macNone none);go_upto_region 15 with fail;refine pa_reg15 w3 (w.heap.size+1) (E.e:Int) (Lib.hid H3.out.res) _ _ _ _ _ _ _ _ _ _ _ _ _ _ _ _ _ _ _ _ _ _ _ _ _ _ _ _ _ _ _ _ _ _ _ _ _ _ _ _ _ _ _ _ _ _ _ _ _ _ _ _ _ _ _ _ _ _ _ _ _ _ _ _ _ _ _ _ _ _ _ _ _ _ (Lib.hid ?_);intro t0 t1 w8 hw8;subst hw8;go_wp2_with fail;change bodyPost _ _ _ _ _ (rowSt w3 (w.heap.size+1) 0 (macCells macNone none));clear H3;generalize rowSt w3 (w.heap.size+1) 0 (macCells macNone none)=w9 at *;obtain ⟨⟨o0,o1,o14⟩,⟨o2,o3,o4⟩,⟨o5,o6,o7⟩,⟨o8,o9,o10⟩,⟨o11,o12,o13⟩⟩:=HS.out.1.cells;refine bodyPost_ret (v:=.tuple #[.agg (macCells macNone none).toArray,.int .i64 (E.e:Int)]) (by rw [mac_eta];simp [results,Tryz.results50,go_sem,o0,o1,o2,o3,o4,o5,o6,o7,o8,o9,o10,o11,o12,o13,o14] <;> rfl) rfl ?_;exact ⟨.nil,rfl,trivial,rfl,HS.out.2.2⟩
theorem tabOkB_of {t:TabV} (h:∀ n,LastFit (t.at_ n)):∀ n,tabOkB t n=true
 | 0=>rfl
 | n+1=>by
  unfold tabOkB;rw [tabOkB_of h n,Bool.true_and];have k:=h n;unfold lastOkB;simp only [Bool.and_eq_true,Bool.or_eq_true,decide_eq_true_eq];refine ⟨⟨k.code,k.text⟩,?_⟩;by_cases e:(t.at_ n).seq.toNat=0
  ·
   exact .inr (lastE_iff.2 (k.zero e))
  ·
   exact .inl e
theorem make_of {M:MacV} (h:MacAll M):makeOk M=true:=by
 unfold makeOk;rw [h.sets,tabOkB_of h.fit.tab 4];simp only [Bool.true_and];unfold keysOkB;simp only [Bool.and_eq_true,decide_eq_true_eq];refine ⟨h.fit.kv.num,List.all_eq_true.2 fun p hp=>?_⟩;have hk:=h.fit.key p hp;unfold pairOkB;simp only [Bool.and_eq_true,decide_eq_true_eq];refine ⟨⟨?_,hk.2⟩,h.fit.kv.val p hp⟩;intro e;have h9:p.1.toList.length=p.1.size:=by rw [ByteArray.toList_eq];exact str_len p.1
 rw [e] at h9;simp at h9;omega
def restB (A B:MacV):List UInt8:=UInt8.ofNat B.mem::(clientsB A.tab B.tab++keysDB (diffL A.sh.kv B.sh.kv))
theorem diffM_as (A B:MacV):diffM A B=leB (sumM A) 8++(leB (sumM B) 8++restB A B):=by
 unfold diffM sumB restB;simp only [List.append_assoc];rfl
theorem patch_sums {A B:MacV} (hA:MacAll A) (hB:MacAll B) (hall:A.all=B.all) {f g:Nat} (hf:f<18446744073709551616) (hg:g<18446744073709551616) :
  patchM A (leB f 8++(leB g 8++restB A B))=if sumM A=f then (if sumM B=g then (B,0) else (macNone,5)) else (macNone,14):=by
 have h0:paStep 0 (⟨0,leB f 8++(leB g 8++restB A B)⟩,⟨0,0,0,A.tab,A.sh⟩)=(⟨0,leB g 8++restB A B⟩,⟨f,0,0,A.tab,A.sh⟩):=by
  rw [paStep_0,sum8_app hf]
 have h1:paStep 1 (⟨0,leB g 8++restB A B⟩,⟨f,0,0,A.tab,A.sh⟩)=(⟨0,restB A B⟩,⟨f,g,0,A.tab,A.sh⟩):=by
  rw [paStep_1,sum8_app hg]
 have h2:paStep 2 (⟨0,restB A B⟩,⟨f,g,0,A.tab,A.sh⟩)=(⟨0,clientsB A.tab B.tab++keysDB (diffL A.sh.kv B.sh.kv)⟩,⟨f,g,B.mem,A.tab,A.sh⟩):=by
  have e:(UInt8.ofNat B.mem).toNat=B.mem:=by have:=hB.fit.mem;simp;omega
  rw [paStep_2];unfold restB;rw [byte_app];simp only [e]
 have h3:paStep 3 (⟨0,clientsB A.tab B.tab++keysDB (diffL A.sh.kv B.sh.kv)⟩,⟨f,g,B.mem,A.tab,A.sh⟩)=(⟨0,keysDB (diffL A.sh.kv B.sh.kv)⟩,⟨f,g,B.mem,B.tab,A.sh⟩):=by
  rw [paStep_3,clients_app hB.fit.tab]
 have h4:paStep 4 (⟨0,keysDB (diffL A.sh.kv B.sh.kv)⟩,⟨f,g,B.mem,B.tab,A.sh⟩)=(⟨0,[]⟩,⟨f,g,B.mem,B.tab,B.sh⟩):=by
  have h:=keysD_app (S:=A.sh) (U:=B.sh) ⟨hA.fit.kv.asc,hA.heap⟩ ⟨hB.fit.kv.asc,hB.heap⟩ hA.fit.key (fun p hp=>⟨hB.fit.key p hp,hB.fit.kv.val p hp⟩) hA.fit.kv.num hB.fit.kv.num [];rw [List.append_nil] at h;rw [paStep_4,h]
 have hL:paL 5 0 (⟨0,leB f 8++(leB g 8++restB A B)⟩,⟨0,0,0,A.tab,A.sh⟩)=(⟨0,[]⟩,⟨f,g,B.mem,B.tab,B.sh⟩):=by
  unfold paL;rw [h0];simp only [if_true];unfold paL;rw [h1];simp only [if_true];unfold paL;rw [h2];simp only [if_true];unfold paL;rw [h3];simp only [if_true];unfold paL;rw [h4];simp only [if_true];unfold paL;rfl
 have hBB:(⟨A.all,B.mem,B.tab,B.sh⟩:MacV)=B:=by rw [hall]
 unfold patchM;rw [hL];unfold paRes;simp only [if_true];rw [end_nil];simp only [if_true];rw [hBB,if_pos (make_of hB)]
theorem patch_diff {A B:MacV} (hA:MacAll A) (hB:MacAll B) (hall:A.all=B.all):patchM A (diffM A B)=(B,0):=by
 rw [diffM_as,patch_sums hA hB hall (sumM_lt A) (sumM_lt B),if_pos rfl,if_pos rfl]
def textB (t:List UInt8) (M:MacV):List UInt8:=numL t.length++t++macB M
def leadB (t:List UInt8) (A B:MacV):List UInt8:=numL t.length++t++diffM A B
theorem text_read {t:List UInt8} (ht:t.length≤3) (r:List UInt8):(RdV.mk 0 (numL t.length++t++r)).str 3=(t,⟨0,r⟩):=str_app' ht (by omega) r
theorem nodes_do (M:MacV) (c:CmdV):(macDo M c).m.all=M.all:=by
 have h:(macFresh M c).1.all=M.all:=by
  unfold macFresh;split
  ·
   split <;> rfl
  ·
   rfl
 unfold macDo;split
 ·
  split
  ·
   exact h
  ·
   rfl
 ·
  rfl
theorem nodes_dos (l:List CmdV):∀ (M:MacV),(macsDo M l).all=M.all:=by
 induction l with
 | nil=>exact fun _=>rfl
 | cons c r ih=>exact fun M=>(ih (macDo M c).m).trans (nodes_do M c)
theorem numL_one {n:Nat} (h:n<248):(numL n).length=1:=by
 unfold numL;rw [if_pos h];rfl
theorem numL_five {n:Nat} (h:n<4294967296):(numL n).length≤5:=by
 unfold numL;split
 ·
  simp
 ·
  rw [List.length_cons,bigB_len];have:wid n≤4:=by
   unfold wid;repeat' split
   all_goals omega
  omega
def cliN (s t:TabV) (n:Nat):List Nat:=(List.range n).filter fun c => !lastE (t.at_ c) (s.at_ c)
theorem lastB_short {x:LastV} (h:LastFit x):(lastB x).length≤72:=by
 have h1:=numL_five x.seq.isLt;have h2:=h.text;have h3:x.text.data.toList.length=x.text.size:=rfl;have h4:=numL_one (n:=x.text.size) (by omega);unfold lastB strL;rw [List.length_append];split
 ·
  simp;omega
 ·
  rw [List.length_cons,List.length_append];omega
theorem cliB_short (s:TabV) {t:TabV} (ht:∀ n,LastFit (t.at_ n)):∀ n,(cliB s t n).length≤72*(cliN s t n).length
 | 0=>by simp [cliB]
 | n+1=>by
  have h1:=cliB_short s ht n;have h2:=lastB_short (ht n);unfold cliB cliN;rw [List.length_append,List.range_succ,List.filter_append,List.length_append];unfold cliN at h1;cases hl:lastE (t.at_ n) (s.at_ n) with
  | true=>simp [hl];omega
  | false=>simp [hl];omega
theorem chgB_short {c:Chg} (h1:c.key.size≤16) (h2:c.new.size≤64):(chgB c).length≤83:=by
 have k1:=numL_one (n:=c.key.size) (by omega);have k2:=numL_one (n:=c.new.size) (by omega);have e1:c.key.data.toList.length=c.key.size:=rfl;have e2:c.new.data.toList.length=c.new.size:=rfl;have k3:=numL_one (n:=1) (by omega);have k4:=numL_one (n:=0) (by omega);unfold chgB strL;rw [List.length_append,List.length_append];split
 ·
  rw [List.length_append,List.length_append];omega
 ·
  omega
theorem chgsB_short:∀ (l:List Chg),(∀ c ∈ l,c.key.size≤16∧c.new.size≤64)→(chgsB l).length≤83*l.length
 | [],_=>by simp [chgsB]
 | c::r,h=>by
  have h1:=chgB_short (h c (by simp)).1 (h c (by simp)).2;have h2:=chgsB_short r (fun x hx=>h x (by simp [hx]));show (chgB c++chgsB r).length≤_;rw [List.length_append,List.length_cons];omega
theorem lead_len {A B:MacV} (hA:MacAll A) (hB:MacAll B):(diffM A B).length≤43000:=by
 have h1:=sumB_len A;have h2:=sumB_len B;have h3:=cliB_short A.tab hB.fit.tab 4;have h4:(cliN A.tab B.tab 4).length≤4:=by
  unfold cliN;exact Nat.le_trans (List.length_filter_le _ _) (by simp)
 have h5:(diffL A.sh.kv B.sh.kv).length≤512:=by
  have h6:=diff_len _ (Nat.le_refl _) (A:=A.sh.kv) (B:=B.sh.kv);have h7:=hA.fit.kv.num;have h8:=hB.fit.kv.num;rw [cnt_kv] at h7 h8;omega
 have h6:=chgsB_short (diffL A.sh.kv B.sh.kv) (fun c hc=>by
  have e:=(diff_elem _ (Nat.le_refl _) hA.fit.kv.asc hB.fit.kv.asc).1 c hc;refine ⟨?_,?_⟩
  ·
   rcases diff_keys _ (Nat.le_refl _) hc with ⟨v,k1⟩ | ⟨v,k1⟩
   ·
    exact (hA.fit.key _ k1).2
   ·
    exact (hB.fit.key _ k1).2
  ·
   rcases e.b with ⟨_,k2⟩ | ⟨_,k2,_⟩
   ·
    exact hB.fit.kv.val _ k2
   ·
    rw [k2];decide)
 have h7:=(numL_len (diffL A.sh.kv B.sh.kv).length).1;unfold diffM clientsB keysDB;simp only [List.length_append,List.length_cons,List.length_nil];omega
theorem leadB_len {A B:MacV} (hA:MacAll A) (hB:MacAll B) {t:List UInt8} (ht:t.length≤3):(leadB t A B).length≤43100:=by
 have h1:=lead_len hA hB;have h2:=(numL_len t.length).1;unfold leadB;rw [List.length_append,List.length_append];omega
def insideB (f s:Nat) (v:List UInt8):List UInt8:=([13]++numL f)++numL s++(numL v.length++v)
theorem inside_len {A B:MacV} (hA:MacAll A) (hB:MacAll B) {t:List UInt8} (ht:t.length≤3) (f s:Nat):(insideB f s (leadB t A B)).length≤43200:=by
 have h1:=leadB_len hA hB ht;have h2:=(numL_len f).1;have h3:=(numL_len s).1;have h4:=(numL_len (leadB t A B).length).1;unfold insideB;simp only [List.length_append,List.length_cons,List.length_nil];omega
theorem textB_len {M:MacV} (h:MacFit M) {t:List UInt8} (ht:t.length≤3):(textB t M).length≤3000000:=by
 have h3:=macHead_len (macFit_by h);have h4:=pairsB_len M.sh.kv (macFit_by h).kv;have h5:=h.kv.num;have h6:=(numL_len t.length).1;rw [cnt_kv] at h5;unfold textB macB;rw [List.length_append,List.length_append,List.length_append];omega
theorem mem_ok {M:MacV} (h:MacAll M):dirOk (UInt8.ofNat M.mem)=true:=by
 obtain ⟨h1,_,h3⟩:=sets_eq h.sets;have h4:=h.fit.mem;have e:(UInt8.ofNat M.mem).toNat=M.mem:=by simp;omega
 unfold dirOk;rw [e,decide_eq_true h4,Bool.and_true,decide_eq_true_eq];refine Nat.pos_of_ne_zero (fun h0=>?_);rw [h0] at h1;unfold mayS at h1;simp [pop8] at h1
theorem mem_nat {M:MacV} (h:MacFit M):(UInt8.ofNat M.mem).toNat=M.mem:=by
 have:=h.mem;simp;omega
def runC (M:MacV) (l:List CmdV):ChV:=⟨0,(List.range (l.length+1)).map fun j=>UInt8.ofNat (macsDo M (l.take j)).mem⟩
theorem runC_len (M:MacV) (l:List CmdV):(runC M l).D.length=l.length+1:=by simp [runC]
theorem runC_low (M:MacV) (l:List CmdV):(runC M l).low=0:=rfl
theorem runC_top (M:MacV) (l:List CmdV):(runC M l).top=l.length:=by
 unfold ChV.top;rw [runC_len,runC_low];omega
theorem runC_push (M:MacV) (l:List CmdV) (c:CmdV):runC M (l++[c])=(runC M l).push (UInt8.ofNat (macsDo M (l++[c])).mem):=by
 unfold runC ChV.push;rw [List.length_append,List.length_singleton,List.range_succ,List.map_append];congr 2
 ·
  refine List.map_congr_left (fun j hj=>?_);have hj2:=List.mem_range.1 hj;rw [List.take_append_of_le_length (by omega)]
 ·
  show [UInt8.ofNat (macsDo M ((l++[c]).take (l.length+1))).mem]=_;rw [List.take_of_length_le (by simp)]
theorem runC_ok {M:MacV} (h:MacAll M) (l:List CmdV):(runC M l).D.all dirOk=true:=by
 rw [List.all_eq_true];intro x hx;obtain ⟨j,_,rfl⟩:=List.mem_map.1 hx;exact mem_ok (macsDo_all _ h)
theorem runC_last (M:MacV) (l:List CmdV):(runC M l).D.getLast?=some (UInt8.ofNat (macsDo M l).mem):=by
 unfold runC;rw [List.range_succ,List.map_append,List.map_singleton,List.getLast?_append,List.getLast?_singleton,List.take_length];rfl
theorem runC_tail (M:MacV) (l:List CmdV):(runC M l).tail.length≤3:=by
 rw [tail_len];omega
theorem runC_tailLast (M:MacV) (l:List CmdV):(runC M l).tail.getLast?=some (UInt8.ofNat (macsDo M l).mem):=by
 rw [tail_last (by rw [runC_len];omega),runC_last]
end Go.Proofs.YtbckjgageofldaaGreat
