/- Chains: LearnPlays. Condition: the chain lies there. -/
import Derived.Test.YtbckjgageofldaaGreatZLearnPlays29
import Derived.Test.YtbckjgageofldaaGreatZLearnPlays8
import Derived.Deep.DeepCutAuto
set_option maxRecDepth 100000
set_option maxHeartbeats 16000000
namespace Go.Proofs.YtbckjgageofldaaGreat
open Go.RowKit
theorem slice_sorts {α:Type} {k:Nat} {enc:α→List Value} {ts:List TypeId} {w w':World} {t:TypeId} {A:Option Addr} {n:Nat} {z:List α} (h:SliceAt k enc w A n z) (hy:STy w t A) (hs:Sorts ts w.heap.size w w') (ht:t ∉ ts):SliceAt k enc w' A n z∧STy w' t A:=by
 refine ⟨⟨h.hlen,h.hmax,fun i x hi=>?_⟩,fun b o e=>?_⟩
 ·
  obtain ⟨b,o,e,hb,hc⟩:=h.cells i x hi;obtain ⟨cs,hcs⟩:=hy b o e;have e2:=hs.row hcs ht;refine ⟨b,o,e,Nat.lt_of_lt_of_le hb hs.size,fun j v hj=>?_⟩;rw [← hc j v hj];simp only [World.cell?,e2,hcs]
 ·
  obtain ⟨cs,hcs⟩:=hy b o e;exact ⟨cs,hs.row hcs ht⟩
theorem mid_range {y:World} {g:Nat} {t:TypeId} {pre cs post:List Value} (h:y.heap[g]?=some (.cells (pre++cs++post).toArray t (0,0))):y.rangeAt g pre.length cs:=fun j v hv=>by
 have k:=range_row h (pre.length+j) v (by
  rw [List.append_assoc,List.getElem?_append_right (by omega),Nat.add_sub_cancel_left,List.getElem?_append_left (List.getElem?_eq_some_iff.1 hv).1];exact hv)
 rwa [Nat.zero_add] at k
theorem wpList_load_grd {P:Program} {ops:Array Oper} {rest:List Oper} {op:Oper} {a:Act} {w:World} {Q:Exit→Act→World→Prop} (ty:TypeId) (x:Operand) (ho:op.op=.load ty x)
  (b o:Nat) (hx:a.eval x=.pointer (some ⟨b,o,none⟩)) (cs:List Value) (d:TypeDesc) (hc:w.rangeAt b o cs) (hu:P.underlying ty=some d) (hd:d.isRow=true) (hi:(P.info? ty).map (·.size)=some cs.length)
  (hw:Region.wanted op (yielded ops a.tmps)=true) (h:wpList P ops Q rest (a.put op.dst (.agg cs.toArray)) w):wpList P ops Q (op::rest) a w :=
 BigFrame.wpList_want hw fun _ hK=>wp_load_mid ty x ho b o hx cs d hc hu hd hi (hK _ _ h)
theorem rc_size2 (v:Value):(Tryz.prog.info? 46).map (·.size)=some [(.int .u64 0:Value),v].length:=rc_size
theorem rn_there16 {y:World} {g:Nat} {R:RnV} (h:RnAt y g R):y.rangeAt g 16 (refCells R.r) :=
 mid_range (pre:=macCells R.M R.P++[.pointer R.c]) (cs:=refCells R.r) (post:=[.int .u64 0,R.v]) (by simpa [RnAt,rnCells] using h)
theorem rn_there20 {y:World} {g:Nat} {R:RnV} (h:RnAt y g R):y.rangeAt g 20 [.int .u64 0,R.v] :=
 mid_range (pre:=macCells R.M R.P++([.pointer R.c]++refCells R.r)) (cs:=[.int .u64 0,R.v]) (post:=[]) (by simpa [RnAt,rnCells] using h)
def BsV.say (b:BsV):Nat × List UInt8 × MacV:=(b.top,b.t,b.M)
def RbV.say (b:RbV):Nat × List UInt8 × MacV:=(b.s,b.t,b.M)
theorem newB_say (L:List BsV):(newB L).say=(L.map BsV.say).getLast?.getD (0,[],macNone):=by
 unfold newB;rw [List.getLast?_map];cases L.getLast? <;> rfl
theorem newR_say (L:List RbV):(newR L).say=(L.map RbV.say).getLast?.getD (0,[],macNone):=by
 unfold newR;rw [List.getLast?_map];cases L.getLast? <;> rfl
theorem lead_say {L K:List BsV} (h:L.map BsV.say=K.map BsV.say) (n:Nat):leadV L n=leadV K n:=by
 have hn:(newB L).say=(newB K).say:=by rw [newB_say,newB_say,h]
 have h1:(newB L).top=(newB K).top:=congrArg (·.1) hn;have h2:(newB L).t=(newB K).t:=congrArg (·.2.1) hn;have h3:(newB L).M=(newB K).M:=congrArg (·.2.2) hn;have hf:(L.find? (fun b=>b.top == n)).map BsV.say=(K.find? (fun b=>b.top == n)).map BsV.say:=by
  have q:∀ X:List BsV,(X.find? (fun b=>b.top == n)).map BsV.say=(X.map BsV.say).find? (fun b=>b.1 == n):=fun X=>by
   rw [List.find?_map];rfl
  rw [q,q,h]
 unfold leadV;rw [h1,h2,h3];split
 ·
  rfl
 ·
  cases hL:L.find? (fun b=>b.top == n) with
  | none =>
   cases hK:K.find? (fun b=>b.top == n) with
   | none=>rfl
   | some b=>rw [hL,hK] at hf;cases hf
  | some a =>
   cases hK:K.find? (fun b=>b.top == n) with
   | none=>rw [hL,hK] at hf;cases hf
   | some b =>
    rw [hL,hK] at hf;have e:a.M=b.M:=congrArg (·.2.2) (Option.some.inj hf);dsimp only;rw [e]
theorem lead_bs {L:List BsV} {LR:List RbV} (h:LR.map RbV.say=L.map BsV.say) (n:Nat):leadV (LR.map RbV.bs) n=leadV L n:=by
 refine lead_say ?_ n;rw [List.map_map, ← h];rfl
theorem same_new {L:List BsV} {LR:List RbV} (h:LR.map RbV.say=L.map BsV.say):(newR LR).s=(newB L).top∧(newR LR).t=(newB L).t∧(newR LR).M=(newB L).M:=by
 have e:(newR LR).say=(newB L).say:=by rw [newR_say,newB_say,h]
 exact ⟨congrArg (·.1) e,congrArg (·.2.1) e,congrArg (·.2.2) e⟩
theorem same_len {L:List BsV} {LR:List RbV} (h:LR.map RbV.say=L.map BsV.say):LR.length=L.length:=by
 have:=congrArg List.length h;simpa using this
theorem same_put {L:List BsV} {LR:List RbV} {b:BsV} {x:RbV} (h:LR.map RbV.say=L.map BsV.say) (hb:x.say=b.say):(keepR (LR++[x])).map RbV.say=(keep3 (L++[b])).map BsV.say:=by
 unfold keepR keep3;rw [List.map_drop,List.map_drop,List.map_append,List.map_append,h,List.length_append,List.length_append,same_len h];show List.drop _ (_++[x.say])=List.drop _ (_++[b.say]);rw [hb];rfl
theorem keepR_len (L:List RbV):(keepR L).length≤3:=by
 unfold keepR;rw [List.length_drop];omega
theorem keepR_ok {w:World} {M0:MacV} {L:List RbV} {x:RbV} (h:RLok w M0 L) (hr:∃ z,RefAt w x.r x.M z) (ha:MacAll x.M∧x.M.all=M0.all∧x.t.length≤3):RLok w M0 (keepR (L++[x])):=by
 have q:∀ b ∈ keepR (L++[x]),b ∈ L∨b=x:=fun b hb=>by
  have:=List.mem_of_mem_drop hb;simpa using this
 refine ⟨fun b hb=>?_,fun b hb=>?_⟩
 ·
  rcases q b hb with h1 | rfl
  ·
   exact h.ref b h1
  ·
   exact hr
 ·
  rcases q b hb with h1 | rfl
  ·
   exact h.all b h1
  ·
   exact ha
theorem RLok.sorts {ts:List TypeId} {w w':World} {M0:MacV} {L:List RbV} (h:RLok w M0 L) (hs:Sorts ts w.heap.size w w') (h1:204 ∉ ts) (h2:179 ∉ ts):RLok w' M0 L :=
 ⟨fun b hb=>by obtain ⟨z,hz⟩:=h.ref b hb;exact ⟨z,hz.sorts hs h1 h2⟩,h.all⟩
structure RShI (w:World) (M0:MacV) (L:List BsV) (A:Option Addr) (n c:Nat) (LR:List RbV):Prop where
 sl:SliceAt 6 rbCells w A n LR
 nil:A=none→n=0∧c=0
 ty:STy w 86 A
 len:n≤3
 say:LR.map RbV.say=L.map BsV.say
 ok:RLok w M0 LR
theorem RShI.sorts {ts:List TypeId} {w w':World} {M0:MacV} {L:List BsV} {A:Option Addr} {n c:Nat} {LR:List RbV} (h:RShI w M0 L A n c LR) (hs:Sorts ts w.heap.size w w') (h1:204 ∉ ts) (h2:179 ∉ ts) (h3:86 ∉ ts):RShI w' M0 L A n c LR :=
 ⟨(slice_sorts h.sl h.ty hs h3).1,h.nil,(slice_sorts h.sl h.ty hs h3).2,h.len,h.say,h.ok.sorts hs h1 h2⟩
theorem RShI.below {w w':World} {M0:MacV} {L:List BsV} {A:Option Addr} {n c:Nat} {LR:List RbV} (h:RShI w M0 L A n c LR) (hb:Below w.heap.size w w'):RShI w' M0 L A n c LR:=h.sorts (sorts_of hb []) (by simp) (by simp) (by simp)
structure LpI (w0 w:World) (g ps:Nat) (M0:MacV) (p:Nat) (l:List CmdV) (R:RnV) (T:Tr) (cv:Value) (zk:List KeptV) (sv:Value) (L:List BsV) (A:Option Addr) (n c:Nat) (LR:List RbV):Prop where
 run:RunS w w0.heap.size g M0 l R T p cv zk
 sh:ShI w ps ps sv M0 l L
 rs:RShI w M0 L A n c LR
 bel:Below w0.heap.size w0 w
 ps:ps≤w.heap.size
theorem pl_reg17 (w w0:World) (g ps i l3 cap3:Nat) (a3:Option Addr) (wn:List (BitVec 8)) (R1:RnV) {Q:Exit→Act→World→Prop}
  (HB:Hid (Below w.heap.size w w0)) (Hwn:Hid (U8sAt w a3 l3 wn)) (Hrn:Hid (RnAt w0 g R1)) (Hpo:Hid (Calls Tryz.prog 11 #[.pointer (some ⟨ps,0,none⟩),.pointer R1.c,.agg (macCells R1.M R1.P).toArray] w0 fun e w'=>e=.returned (.int .i64 2)∧Below w0.heap.size w0 w'))
  (u0 u1 u2 u4 u5 u6 u7 u8 u10 u12 u14 u15 u16 u17 u18 u19 u20 u21 u22 u23 u24 u25 u26 u27 u28 u29 u30 u31 u32 u33 u34 u35 u36 u37 u38 u39 u40 u41 u42 u43 u44 u45 u46 u47 u48 u49 u50 u51 u52 u53 u54 u55 u56 u57 u58 u59 u60 u61 u62 u63 u64 u65 u66 u67 u68 u69 u70 u71 u72 u73 u74 u75 u76 u77 u78 u79 u80 u81 u82 u83 u84 u85 u86 u87 u88 u89 u90 u91 u92 u93 u94 u95 u96 u97 u98 u99 u100 u101 u102 u103 u104 u105 u106 u107 u108 u109 u110 u111 u112 u113 u114 u115 u116 u117 u118 u119 u120 u121 u122 u123 u124 u125 u126 u127 u128 u129 u130 u131 u132 u133 u134 u135 u136 u137 u138 u139 u140 u141 u142 u143 u144 u145 u146 u147 u148 u149 u150 u151 u152 u153 u154 u155 u156 u157 u158 u159 u160 u161 u162 u163 u164 u165 u166 u167 u168 u169 u170:Value)
  (Hk:Hid (∀ (s82 s83 s84 s85 s86 s87 s88 s89 s90 s91 s92 s93 s94 s95 s96 s97 s98 s99 s100 s101:Value) (w2:World),Below w0.heap.size w0 w2→Q .normal ⟨List.toArray (u0::u1::u2::Value.slice a3 l3 cap3::u4::u5::u6::u7::u8::Value.pointer (some ⟨g,0,none⟩)::u10::Value.pointer (some ⟨ps,0,none⟩)::u12::Value.int .i64 (i:Int)::u14::u15::u16::u17::u18::u19::u20::u21::u22::u23::u24::u25::u26::u27::u28::u29::u30::u31::u32::u33::u34::u35::u36::u37::u38::u39::u40::u41::u42::u43::u44::u45::u46::u47::u48::u49::u50::u51::u52::u53::u54::u55::u56::u57::u58::u59::u60::u61::u62::u63::u64::u65::u66::u67::u68::u69::u70::u71::u72::u73::u74::u75::u76::u77::u78::u79::u80::u81::s82::s83::s84::s85::s86::s87::s88::s89::s90::s91::s92::s93::s94::s95::s96::s97::s98::s99::s100::s101::Value.bool false::u103::u104::u105::u106::u107::u108::u109::u110::u111::u112::u113::u114::u115::u116::u117::u118::u119::u120::u121::u122::u123::u124::u125::u126::u127::u128::u129::u130::u131::u132::u133::u134::u135::u136::u137::u138::u139::u140::u141::u142::u143::u144::u145::u146::u147::u148::u149::u150::u151::u152::u153::u154::u155::u156::u157::u158::u159::u160::u161::u162::u163::u164::u165::u166::u167::u168::u169::u170::[]),[]⟩ w2)) :
  Code.wp Tryz.prog (findR 17 (Tryz.f6.body.getD .skip)) Q ⟨List.toArray (u0::u1::u2::Value.slice a3 l3 cap3::u4::u5::u6::u7::u8::Value.pointer (some ⟨g,0,none⟩)::u10::Value.pointer (some ⟨ps,0,none⟩)::u12::Value.int .i64 (i:Int)::u14::u15::u16::u17::u18::u19::u20::u21::u22::u23::u24::u25::u26::u27::u28::u29::u30::u31::u32::u33::u34::u35::u36::u37::u38::u39::u40::u41::u42::u43::u44::u45::u46::u47::u48::u49::u50::u51::u52::u53::u54::u55::u56::u57::u58::u59::u60::u61::u62::u63::u64::u65::u66::u67::u68::u69::u70::u71::u72::u73::u74::u75::u76::u77::u78::u79::u80::u81::u82::u83::u84::u85::u86::u87::u88::u89::u90::u91::u92::u93::u94::u95::u96::u97::u98::u99::u100::u101::u102::u103::u104::u105::u106::u107::u108::u109::u110::u111::u112::u113::u114::u115::u116::u117::u118::u119::u120::u121::u122::u123::u124::u125::u126::u127::u128::u129::u130::u131::u132::u133::u134::u135::u136::u137::u138::u139::u140::u141::u142::u143::u144::u145::u146::u147::u148::u149::u150::u151::u152::u153::u154::u155::u156::u157::u158::u159::u160::u161::u162::u163::u164::u165::u166::u167::u168::u169::u170::[]),[]⟩ w0:=by
 conv=>arg 2;whnf
 by_cases h3:i<l3
 ·
  have h3':(i:Int)<(l3:Int):=by omega
  have hi0 : ¬ (i:Int)<0:=by omega
  obtain ⟨b3,o3,rfl,_,hget⟩:=u8s_cell Hwn.out h3;have f0:=hget w0 HB.out;obtain ⟨v,hv⟩:∃ v,(wn.getD i default).toNat=v:=⟨_,rfl⟩;rw [hv] at f0;by_cases hm:v % 5=1
  ·
   have hm2:(((v:Int) % 5) == 1)=true:=by rw [beq_iff_eq];omega
   have Hrl:=Lib.hid (rn_there15 Hrn.out);have f15:w0.cell? ⟨g,15,none⟩=some (.pointer R1.c):=cell_of_row _ _ _ _ _ _ (show w0.heap[g]?=some (.cells (rnCells R1).toArray _ (0,0)) from Hrn.out);clear hget hv;go_wp2_with (first
    | ((with_reducible refine wpList_load_grd 38 _ rfl g 0 rfl (macCells R1.M R1.P) _ Hrl.out Tryz.underlying38 rfl (mac_size2 _ _) ?_ ?_);exact (Eq.refl true))
    | ((with_reducible refine Hpo.out.mono ?_);rintro e w8 ⟨rfl,h8⟩;have H8:=Lib.hid h8;clear h8))
   exact Hk.out _ _ _ _ _ _ _ _ _ _ _ _ _ _ _ _ _ _ _ _ _ H8.out
  ·
   have hm2:(((v:Int) % 5) == 1)=false:=by rw [beq_eq_false_iff_ne];omega
   clear hget hv;go_wp2_with fail;exact Hk.out _ _ _ _ _ _ _ _ _ _ _ _ _ _ _ _ _ _ _ _ _ (Below.refl _ _)
 ·
  have h3' : ¬ (i:Int)<(l3:Int):=by omega
  go_wp2_with fail;exact Hk.out _ _ _ _ _ _ _ _ _ _ _ _ _ _ _ _ _ _ _ _ _ (Below.refl _ _)
theorem pl_reg20 (w0:World) (g B6 o6 n6 k6 ns:Nat) (X:RbV) (Y:ByteArray) (R1:RnV) {Q:Exit→Act→World→Prop}
  (Hrn:Hid (RnAt w0 g R1)) (Hrb:Hid (w0.rangeAt B6 (o6+(n6 - 1)*6) (rbCells X))) (HX:Hid (X.s=ns∧0<n6∧n6≤3)) (Hrt:Hid (∀ y:World,Below w0.heap.size w0 y→Calls Tryz.prog 24 #[.agg (rbCells X).toArray] y fun e w'=>e=.returned (.string Y)∧Below y.heap.size y w')) (Hlx:Hid (∀ y:World,Below w0.heap.size w0 y→Calls Tryz.prog 25 #[.pointer R1.c,.agg (macCells R1.M R1.P).toArray] y fun e w'=>e=.returned (.string Y)∧Below y.heap.size y w'))
  (u0 u1 u2 u3 u4 u5 u6 u7 u8 u10 u11 u13 u14 u15 u18 u19 u20 u21 u22 u23 u24 u25 u26 u27 u28 u29 u30 u31 u32 u33 u34 u35 u36 u37 u38 u39 u40 u41 u42 u43 u44 u45 u46 u47 u48 u49 u50 u51 u52 u53 u54 u55 u56 u57 u58 u59 u60 u61 u62 u63 u64 u65 u66 u67 u68 u69 u70 u71 u72 u73 u74 u75 u76 u77 u78 u79 u80 u81 u82 u83 u84 u85 u86 u87 u88 u89 u90 u91 u92 u93 u94 u95 u96 u97 u98 u99 u100 u101 u102 u103 u104 u105 u106 u107 u108 u109 u110 u111 u112 u113 u114 u115 u116 u117 u118 u119 u120 u121 u122 u123 u124 u125 u126 u127 u128 u129 u130 u131 u132 u133 u134 u135 u136 u137 u138 u139 u140 u141 u142 u143 u144 u145 u146 u147 u148 u149 u150 u151 u152 u153 u154 u155 u156 u157 u158 u159 u160 u161 u162 u163 u164 u165 u166 u167 u168 u169 u170:Value)
  (Hk:Hid (∀ (s108 s109 s110 s111 s112 s113 s114 s115 s116 s117 s118 s119 s120 s121 s122 s123 s124 s125 s126 s127 s128 s129 s130 s131 s132 s133 s134 s135 s136 s137 s138 s139 s140:Value) (w2:World),Below w0.heap.size w0 w2→Q .normal ⟨List.toArray (u0::u1::u2::u3::u4::u5::u6::u7::u8::Value.pointer (some ⟨g,0,none⟩)::u10::u11::Value.slice (some ⟨B6,o6,none⟩) n6 k6::u13::u14::u15::Value.int .u64 (ns:Int)::Value.string Y::u18::u19::u20::u21::u22::u23::u24::u25::u26::u27::u28::u29::u30::u31::u32::u33::u34::u35::u36::u37::u38::u39::u40::u41::u42::u43::u44::u45::u46::u47::u48::u49::u50::u51::u52::u53::u54::u55::u56::u57::u58::u59::u60::u61::u62::u63::u64::u65::u66::u67::u68::u69::u70::u71::u72::u73::u74::u75::u76::u77::u78::u79::u80::u81::u82::u83::u84::u85::u86::u87::u88::u89::u90::u91::u92::u93::u94::u95::u96::u97::u98::u99::u100::u101::u102::u103::u104::u105::u106::u107::s108::s109::s110::s111::s112::s113::s114::s115::s116::s117::s118::s119::s120::s121::s122::s123::s124::s125::s126::s127::s128::s129::s130::s131::s132::s133::s134::s135::s136::s137::s138::s139::s140::Value.bool false::u142::u143::u144::u145::u146::u147::u148::u149::u150::u151::u152::u153::u154::u155::u156::u157::u158::u159::u160::u161::u162::u163::u164::u165::u166::u167::u168::u169::u170::[]),[]⟩ w2)) :
  Code.wp Tryz.prog (findR 20 (Tryz.f6.body.getD .skip)) Q ⟨List.toArray (u0::u1::u2::u3::u4::u5::u6::u7::u8::Value.pointer (some ⟨g,0,none⟩)::u10::u11::Value.slice (some ⟨B6,o6,none⟩) n6 k6::u13::u14::u15::Value.int .u64 (ns:Int)::Value.string Y::u18::u19::u20::u21::u22::u23::u24::u25::u26::u27::u28::u29::u30::u31::u32::u33::u34::u35::u36::u37::u38::u39::u40::u41::u42::u43::u44::u45::u46::u47::u48::u49::u50::u51::u52::u53::u54::u55::u56::u57::u58::u59::u60::u61::u62::u63::u64::u65::u66::u67::u68::u69::u70::u71::u72::u73::u74::u75::u76::u77::u78::u79::u80::u81::u82::u83::u84::u85::u86::u87::u88::u89::u90::u91::u92::u93::u94::u95::u96::u97::u98::u99::u100::u101::u102::u103::u104::u105::u106::u107::u108::u109::u110::u111::u112::u113::u114::u115::u116::u117::u118::u119::u120::u121::u122::u123::u124::u125::u126::u127::u128::u129::u130::u131::u132::u133::u134::u135::u136::u137::u138::u139::u140::u141::u142::u143::u144::u145::u146::u147::u148::u149::u150::u151::u152::u153::u154::u155::u156::u157::u158::u159::u160::u161::u162::u163::u164::u165::u166::u167::u168::u169::u170::[]),[]⟩ w0:=by
 conv=>arg 2;whnf
 have hn:=HX.out.2;have hw1:IntKind.i64.wrap ((n6:Int) - 1)=((n6 - 1:Nat):Int):=by rw [IntKind.wrap_i64];omega
 have hk1 : ¬ ((n6 - 1:Nat):Int)<0:=by omega
 have hk2:((n6 - 1:Nat):Int)<(n6:Int):=by omega
 have hnz:((n6:Int) == 0)=false:=by rw [beq_eq_false_iff_ne];omega
 have f0:w0.cell? ⟨B6,o6+(n6 - 1)*6,none⟩=some (.int .u64 (ns:Int)):=by
  rw [← HX.out.1];exact Hrb.out 0 _ rfl
 clear hn;go_wp2_with (first
  | ((with_reducible refine wpList_load_grd 86 _ rfl B6 (o6+(n6 - 1)*6) rfl (rbCells X) _ Hrb.out Tryz.underlying86 rfl (rb_size _) ?_ ?_);exact (Eq.refl true))
  | ((with_reducible refine (Hrt.out _ (Below.refl _ _)).mono ?_);rintro e w10 ⟨rfl,h10⟩;have H10:=Lib.hid h10;clear h10;clear f0;have Hrl:=Lib.hid (rn_there15 (Hrn.out.below H10.out));have f15:w10.cell? ⟨g,15,none⟩=some (.pointer R1.c):=cell_of_row _ _ _ _ _ _ (show w10.heap[g]?=some (.cells (rnCells R1).toArray _ (0,0)) from Hrn.out.below H10.out))
  | ((with_reducible refine wpList_load_grd 38 _ rfl g 0 rfl (macCells R1.M R1.P) _ Hrl.out Tryz.underlying38 rfl (mac_size2 _ _) ?_ ?_);exact (Eq.refl true))
  | ((with_reducible refine (Hlx.out _ H10.out).mono ?_);rintro e w11 ⟨rfl,h11⟩;have H11:=Lib.hid h11;clear h11))
 exact Hk.out _ _ _ _ _ _ _ _ _ _ _ _ _ _ _ _ _ _ _ _ _ _ _ _ _ _ _ _ _ _ _ _ _ _ (H10.out.trans (H11.out.mono H10.out.size))
theorem pl_reg27 (w0:World) (gx gy:Nat) (m1:LmV) (bb:Bool) {Q:Exit→Act→World→Prop}
  (HX:Hid (LmAt w0 gx m1)) (HY:Hid (LmAt w0 gy m1))
  (u0 u1 u2 u3 u4 u5 u6 u7 u8 u9 u10 u11 u12 u13 u14 u15 u16 u17 u18 u23 u24 u25 u26 u27 u28 u29 u30 u31 u32 u33 u34 u35 u36 u37 u38 u39 u40 u41 u42 u43 u44 u45 u46 u47 u48 u49 u50 u51 u52 u53 u54 u55 u56 u57 u58 u59 u60 u61 u62 u63 u64 u65 u66 u67 u68 u69 u70 u71 u72 u73 u74 u75 u76 u77 u78 u79 u80 u81 u82 u83 u84 u85 u86 u87 u88 u89 u90 u91 u92 u93 u94 u95 u96 u97 u98 u99 u100 u101 u102 u103 u104 u105 u106 u107 u108 u109 u110 u111 u112 u113 u114 u115 u116 u117 u118 u119 u120 u121 u122 u123 u124 u125 u126 u127 u128 u129 u130 u131 u132 u133 u134 u135 u136 u137 u138 u139 u140 u141 u142 u143 u144 u145 u146 u147 u148 u149 u150 u151 u152 u153 u154 u155 u156 u157 u158 u159 u160 u161 u162 u163 u164 u165 u166 u167 u168 u169 u170:Value)
  (Hk:Hid (∀ (s161 s162 s163 s164 s165 s166 s167 s168:Value) (w2:World),Below w0.heap.size w0 w2→Q .normal ⟨List.toArray (u0::u1::u2::u3::u4::u5::u6::u7::u8::u9::u10::u11::u12::u13::u14::u15::u16::u17::u18::Value.pointer (some ⟨gx,0,none⟩)::Value.bool bb::Value.pointer (some ⟨gy,0,none⟩)::Value.bool bb::u23::u24::u25::u26::u27::u28::u29::u30::u31::u32::u33::u34::u35::u36::u37::u38::u39::u40::u41::u42::u43::u44::u45::u46::u47::u48::u49::u50::u51::u52::u53::u54::u55::u56::u57::u58::u59::u60::u61::u62::u63::u64::u65::u66::u67::u68::u69::u70::u71::u72::u73::u74::u75::u76::u77::u78::u79::u80::u81::u82::u83::u84::u85::u86::u87::u88::u89::u90::u91::u92::u93::u94::u95::u96::u97::u98::u99::u100::u101::u102::u103::u104::u105::u106::u107::u108::u109::u110::u111::u112::u113::u114::u115::u116::u117::u118::u119::u120::u121::u122::u123::u124::u125::u126::u127::u128::u129::u130::u131::u132::u133::u134::u135::u136::u137::u138::u139::u140::u141::u142::u143::u144::u145::u146::u147::u148::u149::u150::u151::u152::u153::u154::u155::u156::u157::u158::u159::u160::s161::s162::s163::s164::s165::s166::s167::s168::Value.bool false::u170::[]),[]⟩ w2)) :
  Code.wp Tryz.prog (findR 27 (Tryz.f6.body.getD .skip)) Q ⟨List.toArray (u0::u1::u2::u3::u4::u5::u6::u7::u8::u9::u10::u11::u12::u13::u14::u15::u16::u17::u18::Value.pointer (some ⟨gx,0,none⟩)::Value.bool bb::Value.pointer (some ⟨gy,0,none⟩)::Value.bool bb::u23::u24::u25::u26::u27::u28::u29::u30::u31::u32::u33::u34::u35::u36::u37::u38::u39::u40::u41::u42::u43::u44::u45::u46::u47::u48::u49::u50::u51::u52::u53::u54::u55::u56::u57::u58::u59::u60::u61::u62::u63::u64::u65::u66::u67::u68::u69::u70::u71::u72::u73::u74::u75::u76::u77::u78::u79::u80::u81::u82::u83::u84::u85::u86::u87::u88::u89::u90::u91::u92::u93::u94::u95::u96::u97::u98::u99::u100::u101::u102::u103::u104::u105::u106::u107::u108::u109::u110::u111::u112::u113::u114::u115::u116::u117::u118::u119::u120::u121::u122::u123::u124::u125::u126::u127::u128::u129::u130::u131::u132::u133::u134::u135::u136::u137::u138::u139::u140::u141::u142::u143::u144::u145::u146::u147::u148::u149::u150::u151::u152::u153::u154::u155::u156::u157::u158::u159::u160::u161::u162::u163::u164::u165::u166::u167::u168::u169::u170::[]),[]⟩ w0:=by
 conv=>arg 2;whnf
 have Hsm:=Lib.hid (show ∀ y:World,Calls Tryz.prog 12 #[.agg (lmCells m1).toArray,.agg (lmCells m1).toArray] y fun e w'=>e=.returned (.bool true)∧Below y.heap.size y w' from fun y=>same_self m1 y);have hbb:(bb != bb)=false:=by cases bb <;> rfl
 have Hx:=Lib.hid (range_row HX.out);have Hy:=Lib.hid (range_row HY.out);go_wp2_with (first
  | ((with_reducible refine wpList_load_grd 58 _ rfl gx 0 rfl (lmCells m1) _ Hx.out Tryz.underlying58 rfl (lm_size2 _) ?_ ?_);exact (Eq.refl true))
  | ((with_reducible refine wpList_load_grd 58 _ rfl gy 0 rfl (lmCells m1) _ Hy.out Tryz.underlying58 rfl (lm_size2 _) ?_ ?_);exact (Eq.refl true))
  | ((with_reducible refine (Hsm.out _).mono ?_);rintro e w16 ⟨rfl,h16⟩;have H16:=Lib.hid h16;clear h16))
 exact Hk.out _ _ _ _ _ _ _ _ _ H16.out
theorem lt_u8p {n:Int} (h:(Lit.int .u8 n).wf=true):∃ x:Nat,n=(x:Int)∧x<256:=by
 have h':0≤n∧n≤255:=by simpa [Lit.wf,IntKind.min,IntKind.max,IntKind.signed,IntKind.bits] using h
 exact ⟨n.toNat,by omega,by omega⟩
theorem plays_any (al fi:Nat) (hal:al<256) (hfi:fi<256) (a:Option Addr) (l cap:Nat) (z:List CmdV) (a3:Option Addr) (l3 cap3:Nat) (wn:List (BitVec 8)) (w:World) (hz:CmdsAt w a l z) (hwn:U8sAt w a3 l3 wn) :
  Calls Tryz.prog 6 #[.int .u8 (al:Int),.int .u8 (fi:Int),.slice a l cap,.slice a3 l3 cap3] w fun e w'=>e=.returned (.bool true)∧Below w.heap.size w w':=by
 have Hwk:=Lib.hid lwakes_any;have Hz:=Lib.hid hz;have Hwn:=Lib.hid hwn;have hlz:=hz.hlen;obtain ⟨gb,hgb⟩:∃ b,kgreatS z=b:=⟨_,rfl⟩;have hgr:=kgreat_any a l cap z w hz;rw [hgb] at hgr;have Hgr2:=Lib.hid hgr;clear hgr hz hwn;cases gb with
 | true =>
  clear hgb hlz;go_enter Tryz.func6,Tryz.ntmps6
  go_wp2_with (first
   | ((with_reducible refine Hgr2.out.mono ?_);rintro e w1 ⟨rfl,rfl⟩)
   | ((with_reducible refine (Hwk.out _).mono ?_);rintro e w2 ⟨rfl,h2⟩;have H2:=Lib.hid h2;clear h2))
  go_ret;exact ⟨rfl,H2.out⟩
 | false =>
  have hgo:=kgreat_ok hgb;clear hgb;by_cases hbig:60<l
  ·
   have hbig2:(60:Int)<(l:Int):=by omega
   clear hbig hgo;go_enter Tryz.func6,Tryz.ntmps6
   go_wp2_with (first
    | ((with_reducible refine Hgr2.out.mono ?_);rintro e w1 ⟨rfl,rfl⟩)
    | ((with_reducible refine (Hwk.out _).mono ?_);rintro e w2 ⟨rfl,h2⟩;have H2:=Lib.hid h2;clear h2))
   go_ret;exact ⟨rfl,H2.out⟩
  ·
   have hbig2 : ¬ (60:Int)<(l:Int):=by omega
   have Hl:=Lib.hid (show l≤60∧z.length=l by omega);clear hbig hgo hlz;obtain ⟨mm,hmm⟩:∃ b,mayS fi al=b:=⟨_,rfl⟩;cases mm with
   | false =>
    have Hbn:=Lib.hid (fun y:World=>(show Calls Tryz.prog 8 #[.int .u8 (al:Int),.int .u8 (fi:Int)] y fun e w'=>e=.returned (.tuple #[.agg (rnCells rn0).toArray,.bool false])∧Below y.heap.size y w' from lbegun_not al fi hal hfi hmm y));clear hmm hal hfi;go_enter Tryz.func6,Tryz.ntmps6
    go_wp2_with (first
     | ((with_reducible refine Hgr2.out.mono ?_);rintro e w1 ⟨rfl,rfl⟩)
     | ((with_reducible refine (Hbn.out _).mono ?_);rintro e w2 ⟨rfl,h2⟩;have H2:=Lib.hid h2;clear h2)
     | ((with_reducible refine wpList_store_mid rfl 48 _ _ rfl w2.heap.size 0 _ rfl rfl ?_ ?_ ?_ ?_);exact th_new w2 (rnCells rn0) 48;exact rn_size rn0;exact all_oneCell_toArray (rn_one rn0 rfl))
     | ((with_reducible refine (Hwk.out _).mono ?_);rintro e w3 ⟨rfl,h3⟩;have H3:=Lib.hid h3;clear h3))
    go_ret;have hbx:=H2.out.trans ((box_below w2 (rnCells rn0) (rnCells rn0) 48).mono H2.out.size);exact ⟨rfl,hbx.trans (H3.out.mono hbx.size)⟩
   | true =>
    obtain ⟨M0,hM0⟩:∃ M,newM al fi=M:=⟨_,rfl⟩;have h0:MacAll M0:=by rw [← hM0];exact newAll hal hmm
    have hbe:=fun y:World=>lbegun_is al fi hal hfi hmm y
    rw [hM0] at hbe;have Hbe:=Lib.hid (show ∀ y:World,Calls Tryz.prog 8 #[.int .u8 (al:Int),.int .u8 (fi:Int)] y (BegPost M0 y) from hbe);have Hnew:=Lib.hid lnew_any;have H0:=Lib.hid h0;clear hbe h0 hM0 hmm hal hfi;go_enter Tryz.func6,Tryz.ntmps6
    go_upto_region 6 with (first
     | ((with_reducible refine Hgr2.out.mono ?_);rintro e w1 ⟨rfl,rfl⟩)
     | ((with_reducible refine (Hbe.out _).mono ?_);rintro e w2 ⟨R0,p,cv0,rfl,hM,hI,hr,hp,hb⟩;have H2:=Lib.hid (And.intro hM (And.intro hI (And.intro hr (And.intro hp hb))));clear hM hI hr hp hb;unfold rnV)
     | ((with_reducible refine wpList_store_mid rfl 48 _ _ rfl w2.heap.size 0 _ rfl rfl ?_ ?_ ?_ ?_);exact th_new w2 (rnCells rn0) 48;exact rn_size rn0;exact all_oneCell_toArray (rn_one R0 (slice_one _ H2.out.2.1.rv))))
    change Code.wp _ _ _ _ ((w2.alloc (.cells (rnCells rn0).toArray 48)).setCells w2.heap.size 0 (rnCells R0));have hb3:=box_below w2 (rnCells rn0) (rnCells R0) 48;have hr3:RnAt _ _ R0:=box_row w2 (rnCells rn0) (rnCells R0) 48 rfl;have hbB:=H2.out.2.2.2.2.trans (hb3.mono H2.out.2.2.2.2.size);have HR3:=Lib.hid (begun_run H2.out.1 (H2.out.2.1.below hb3) H2.out.2.2.1 hr3);have HB3:=Lib.hid hbB;have Hg3:=Lib.hid (And.intro H2.out.2.2.2.2.size H2.out.2.2.2.1);clear hb3 hr3 hbB H2 Hbe Hgr2;generalize (w2.alloc (.cells (rnCells rn0).toArray 48)).setCells w2.heap.size 0 (rnCells R0)=w3 at *;generalize hgr:w2.heap.size=g at *
    clear hgr;go_upto_region 9 with ((with_reducible refine (Hnew.out _).mono ?_);rintro e w4 ⟨rfl,hs4,hb4⟩;have H4:=Lib.hid (And.intro hs4 hb4);clear hs4 hb4)
    have Hps:=Lib.hid HB3.out.size;have HI:=Lib.hid (show LpI w w4 g w3.heap.size M0 p (z.take 0) R0 .nil cv0 [] (.slice none 0 0) [] none 0 0 [] from
     ⟨HR3.out.below H4.out.2,⟨H4.out.1,by simp,List.Pairwise.nil,fun b hb=>by cases hb⟩,⟨⟨rfl,Nat.zero_le _,fun i x hx=>by simp at hx⟩,fun _=>⟨rfl,rfl⟩,sty_none _ _,Nat.zero_le _,rfl,⟨fun _ hb=>absurd hb (List.not_mem_nil),fun _ hb=>absurd hb (List.not_mem_nil)⟩⟩,HB3.out.trans (H4.out.2.mono HB3.out.size),H4.out.2.size⟩)
    clear HR3 HB3 H4 Hnew;generalize w3.heap.size=ps at *;go_loopw [12,13] (fun s12 s13 wr=>∃ (i:Nat) (R:RnV) (T:Tr) (cv:Value) (zk:List KeptV) (sv:Value) (L:List BsV) (A:Option Addr) (n c:Nat) (LR:List RbV),i≤l∧s13=.int .i64 (i:Int)∧s12=.slice A n c∧LpI w wr g ps M0 p (z.take i) R T cv zk sv L A n c LR) (fun _ s13 _=>l - (intOf s13).toNat)
    case atStart=>exact ⟨0,R0,.nil,cv0,[],.slice none 0 0,[],none,0,0,[],Nat.zero_le _,rfl,rfl,HI.out⟩
    case round =>
     obtain ⟨i,R,T,cv,zk,sv,L,A,n,c,LR,hi,rfl,rfl,hI⟩:=hrel;clear HI;have HI:=Lib.hid hI;clear hI;have hlen:(z.take i).length=i:=by rw [List.length_take,Hl.out.2];omega
     by_cases hlt:i<l
     ·
      have hlt':(i:Int)<(l:Int):=by omega
      have hlt0 : ¬ (i:Int)<0:=by omega
      have hsucc:=tsucc (n:=i) (by have:=Hl.out.1;omega);obtain ⟨b,o,x,rfl,hc,htk,hrg⟩:=cmd_range Hz.out hlt HI.out.bel;have Hrg:=Lib.hid hrg;have hd:=does_run H0.out HI.out.bel.size (by rw [hlen];have:=Hl.out.1;omega) HI.out.run x;rw [← htk] at hd;have Hd:=Lib.hid hd;have Hlen:=Lib.hid (And.intro hlen (And.intro htk hlt));clear hd hrg hc htk hlen;go_upto_region 12 with (first
       | (with_reducible refine wpList_load_mid rfl 56 _ rfl b (o+i*7) rfl (cmdCells x) _ Hrg.out Tryz.underlying56 rfl (cmd_size2 x) ?_)
       | ((with_reducible refine Hd.out.mono ?_);rintro e w5 ⟨R1,T1,cv1,z1,rfl,hr5,hs5,hn5⟩;have H5:=Lib.hid (And.intro hr5 (And.intro hs5 hn5));clear hr5 hs5 hn5))
      have HR5:=Lib.hid H5.out.1;have hsh5:=(HI.out.sh.sorts H5.out.2.1 (by decide) (by decide) (by decide)).more x;rw [← Hlen.out.2.1] at hsh5;have HS5:=Lib.hid hsh5;have HD5:=Lib.hid (HI.out.rs.sorts H5.out.2.1 (by decide) (by decide) (by decide));have hl5:(z.take (i+1)).length=i+1:=by rw [List.length_take,Hl.out.2];have:=Hlen.out.2.2;omega
      have htp:(newB L).top≤i:=by have:=newB_top HI.out.sh;rw [Hlen.out.1] at this;exact this
      have HB5:=Lib.hid (And.intro (HI.out.bel.trans (H5.out.2.2 _ HI.out.bel.size Hg3.out.1 Hg3.out.2 (Nat.le_refl _))) (And.intro hl5 (And.intro (Nat.le_trans HI.out.ps H5.out.2.1.size) htp)));clear hsh5 hl5 htp H5 Hd Hrg HI;obtain ⟨sk,hsk⟩:∃ q,(decide (i<l3) && decide ((wn.getD i default).toNat % 3=0))=q:=⟨_,rfl⟩;have Hsk:=Lib.hid hsk;clear hsk;go_cut [63] from 52 to 64 (fun s63 wx=>w5=wx∧s63=.bool sk)
      case first =>
       by_cases h3:i<l3
       ·
        have h3':(i:Int)<(l3:Int):=by omega
        obtain ⟨b3,o3,rfl,_,hget⟩:=u8s_cell Hwn.out h3;have f0:=hget w5 HB5.out.1;obtain ⟨v,hv⟩:∃ v,(wn.getD i default).toNat=v:=⟨_,rfl⟩;have hsk:=Hsk.out;rw [hv] at f0 hsk;by_cases hm:v % 3=0
        ·
         have hm2:(((v:Int) % 3) == 0)=true:=by rw [beq_iff_eq];omega
         have hb:sk=true:=by rw [← hsk];simp [h3,hm]
         clear hsk hget hv;go_wp2_with fail;go_meet
         exact ⟨rfl,by rw [hb]⟩
        ·
         have hm2:(((v:Int) % 3) == 0)=false:=by rw [beq_eq_false_iff_ne];omega
         have hb:sk=false:=by rw [← hsk];simp [h3,hm]
         clear hsk hget hv;go_wp2_with fail;go_meet
         exact ⟨rfl,by rw [hb]⟩
       ·
        have h3' : ¬ (i:Int)<(l3:Int):=by omega
        have hb:sk=false:=by rw [← Hsk.out];simp [h3]
        go_wp2_with fail;go_meet
        exact ⟨rfl,by rw [hb]⟩
      case rest =>
       obtain ⟨rfl,rfl⟩:=hcut;cases sk with
       | true =>
        go_wp2_with fail;go_roundw
        case rel =>
         exact ⟨i+1,R1,T1,cv1,z1,sv,L,A,n,c,LR,by have:=Hlen.out.2.2;omega,rfl,rfl,⟨HR5.out,HS5.out,HD5.out,HB5.out.1,HB5.out.2.2.1⟩⟩
        case measure =>
         simp only [intOf];have:=Hlen.out.2.2;omega
       | false =>
        have hDl:=runC_len M0 (z.take (i+1));rw [HB5.out.2.1] at hDl;obtain ⟨cz,hcz⟩:∃ q,runC M0 (z.take (i+1))=q:=⟨_,rfl⟩;rw [hcz] at hDl;have hlastD:cz.D.getLast?=some (UInt8.ofNat R1.r.mem):=by rw [HR5.out.ri.ref.mem,HR5.out.m, ← hcz];exact runC_last M0 _
        have hmem:R1.r.mem<256:=by rw [HR5.out.ri.ref.mem,HR5.out.m];have:=(macsDo_all (z.take (i+1)) H0.out).fit.mem;omega
        have hpq:=rput24_any LR A n c cz.D R1.v w.heap.size R1.r R1.M w5 HD5.out.sl HD5.out.nil HD5.out.len (by rw [← hcz];exact HR5.out.ri.rv) (by rw [hDl];have:=Hl.out.1;have:=Hlen.out.2.2;omega) (by rw [(same_new HD5.out.say).1,hDl];have:=HB5.out.2.2.2;omega) hmem hlastD;rw [hDl] at hpq;have Hpq:=Lib.hid hpq;have Hcz:=Lib.hid hcz;have Hr20:=Lib.hid (rn_there20 HR5.out.at_);have Hr16:=Lib.hid (rn_there16 HR5.out.at_);clear hDl hlastD hmem hpq hcz;go_upto_region 14 with (first
         | (with_reducible refine wpList_load_mid rfl 46 _ rfl g 20 rfl [.int .u64 0,R1.v] _ Hr20.out Tryz.underlying46 rfl (rc_size2 _) ?_)
         | (with_reducible refine wpList_load_mid rfl 43 _ rfl g 16 rfl (refCells R1.r) _ Hr16.out Tryz.underlying43 rfl (ref_size2 _) ?_)
         | ((with_reducible refine Hpq.out.mono ?_);rintro e w6 ⟨A6,n6,c6,rfl,hs6,hn6,hy6,hb6⟩;have H6:=Lib.hid (And.intro hs6 (And.intro hn6 (And.intro hy6 hb6)));clear hs6 hn6 hy6 hb6))
        have HR6:=Lib.hid (HR5.out.below H6.out.2.2.2);have HS6:=Lib.hid (HS5.out.below H6.out.2.2.2);have HB6:=Lib.hid (And.intro (HB5.out.1.trans (H6.out.2.2.2.mono HB5.out.1.size)) (Nat.le_trans HB5.out.2.2.1 H6.out.2.2.2.size));have hD6:RShI w6 M0 (keep3 (L++[⟨R1.M,R1.P,(z.take (i+1)).length,(runC M0 (z.take (i+1))).tail⟩])) A6 n6 c6 (keepR (LR++[⟨i+1+1 - 1,cz.D.drop (i+1+1 - 3),R1.r,R1.M⟩])):=by
         have hok:=HD5.out.ok.below H6.out.2.2.2;refine ⟨H6.out.1,H6.out.2.1,H6.out.2.2.1,?_,same_put HD5.out.say ?_,keepR_ok hok ⟨z1,HR6.out.ri.ref⟩ ⟨by rw [HR5.out.m];exact macsDo_all _ H0.out,by rw [HR5.out.m];exact nodes_dos _ _,?_⟩⟩
         ·
          rw [← H6.out.1.hlen];exact keepR_len _
         ·
          show ((i+1+1 - 1,cz.D.drop (i+1+1 - 3),R1.M):Nat × List UInt8 × MacV)=((z.take (i+1)).length,(runC M0 (z.take (i+1))).tail,R1.M);rw [HB5.out.2.1,Hcz.out];have e:cz.tail=cz.D.drop (i+1+1 - 3):=by unfold ChV.tail;rw [← Hcz.out,runC_len,HB5.out.2.1]
          rw [e];rfl
         ·
          show (cz.D.drop (i+1+1 - 3)).length≤3;rw [List.length_drop, ← Hcz.out,runC_len,HB5.out.2.1];omega
        have HD6:=Lib.hid hD6;have hp6:=put_new H0.out HR6.out.ri HR6.out.m HS6.out (by rw [HB5.out.2.1];have:=HB5.out.2.2.2;omega) HB6.out.2 (by rw [HB5.out.2.1];have:=Hl.out.1;have:=Hlen.out.2.2;omega);have Hp6:=Lib.hid hp6;have f15:w6.cell? ⟨g,15,none⟩=some (.pointer R1.c):=cell_of_row _ _ _ _ _ _ (show w6.heap[g]?=some (.cells (rnCells R1).toArray _ (0,0)) from HR6.out.at_);have Hrl6:=Lib.hid (rn_there15 HR6.out.at_);clear hD6 hp6 HR5 HS5 HD5 H6 Hpq Hr20 Hr16;go_upto_region 17 with (first
         | (with_reducible refine wpList_load_mid rfl 38 _ rfl g 0 rfl (macCells R1.M R1.P) _ Hrl6.out Tryz.underlying38 rfl (mac_size2 _ _) ?_)
         | ((with_reducible refine Hp6.out.mono ?_);rintro e w7 ⟨sv7,rfl,hsh7,hst7,hn7⟩;have H7:=Lib.hid (And.intro hsh7 (And.intro hst7 hn7));clear hsh7 hst7 hn7))
        obtain ⟨L7,hL7⟩:∃ q,keep3 (L++[⟨R1.M,R1.P,(z.take (i+1)).length,(runC M0 (z.take (i+1))).tail⟩])=q:=⟨_,rfl⟩;obtain ⟨LR7,hLR7⟩:∃ q,keepR (LR++[⟨i+1+1 - 1,cz.D.drop (i+1+1 - 3),R1.r,R1.M⟩])=q:=⟨_,rfl⟩;have hnb:newB L7=⟨R1.M,R1.P,(z.take (i+1)).length,(runC M0 (z.take (i+1))).tail⟩:=by rw [← hL7];exact newB_keep _ _
        have hD7:=HD6.out.sorts H7.out.2.1 (by decide) (by decide) (by decide);have hS7:=H7.out.1;rw [hL7] at hD7 hS7;rw [hLR7] at hD7;have HD7:=Lib.hid hD7;have HS7:=Lib.hid hS7;have HR7:=Lib.hid (HR6.out.sorts H7.out.2.1 (by decide) (by decide));have HB7:=Lib.hid (And.intro (HB6.out.1.trans (H7.out.2.2 _ HB6.out.1.size Hps.out Hps.out)) (Nat.le_trans HB6.out.2 H7.out.2.1.size));have Hnb:=Lib.hid hnb;have Hl7:=Lib.hid HB5.out.2.1;clear hL7 hLR7 hnb hD7 hS7 H7 HR6 HS6 HB6 HD6 Hp6 f15 Hrl6 HB5;have Hpo:=Lib.hid (put_old HR7.out.ri HS7.out (by rw [Hnb.out];exact Nat.le_refl _) (by rw [Hl7.out];have:=Hl.out.1;have:=Hlen.out.2.2;omega));refine pl_reg17 w w7 g ps i l3 cap3 a3 wn R1 (Lib.hid HB7.out.1) Hwn (Lib.hid HR7.out.at_) (Lib.hid Hpo.out) _ _ _ _ _ _ _ _ _ _ _ _ _ _ _ _ _ _ _ _ _ _ _ _ _ _ _ _ _ _ _ _ _ _ _ _ _ _ _ _ _ _ _ _ _ _ _ _ _ _ _ _ _ _ _ _ _ _ _ _ _ _ _ _ _ _ _ _ _ _ _ _ _ _ _ _ _ _ _ _ _ _ _ _ _ _ _ _ _ _ _ _ _ _ _ _ _ _ _ _ _ _ _ _ _ _ _ _ _ _ _ _ _ _ _ _ _ _ _ _ _ _ _ _ _ _ _ _ _ _ _ _ _ _ _ _ _ _ _ _ _ _ _ _ _ _ _ _ _ _ _ _ _ _ _ _ _ _ _ _ _ _ _ _ _ _ _ (Lib.hid ?_);intro _ _ _ _ _ _ _ _ _ _ _ _ _ _ _ _ _ _ _ _ w8 hb8;have HR8:=Lib.hid (HR7.out.below hb8);have HS8:=Lib.hid (HS7.out.below hb8);have HD8:=Lib.hid (HD7.out.below hb8);have HB8:=Lib.hid (And.intro (HB7.out.1.trans (hb8.mono HB7.out.1.size)) (Nat.le_trans HB7.out.2 hb8.size));clear hb8 HR7 HS7 HD7 HB7 Hpo;obtain ⟨Y,hY⟩:∃ Y:ByteArray,(⟨(textB (runC M0 (z.take (i+1))).tail R1.M).toArray⟩:ByteArray)=Y:=⟨_,rfl⟩;have hAll:MacAll R1.M:=by rw [HR8.out.m];exact macsDo_all _ H0.out
        have htop:(newB L7).top=i+1:=by rw [Hnb.out];exact Hl7.out
        have hnt:=newest_tells H0.out HS8.out;have hNv:newV L7=.tuple #[.int .u64 ((i+1:Nat):Int),.string Y]:=by
         unfold newV;rw [htop,if_neg (Nat.succ_ne_zero i),Hnb.out, ← hY]
        rw [hNv] at hnt;have Hnt:=Lib.hid hnt;have hsn:=same_new HD8.out.say;have hL0:LR7≠[]:=by
         rintro rfl;have:=hsn.1;rw [htop] at this;cases this
        obtain ⟨hmem,hlast⟩:=newR_mem hL0;have hn6:0<n6:=by rw [← HD8.out.sl.hlen];exact List.length_pos_iff.2 hL0
        rw [HD8.out.sl.hlen] at hlast;obtain ⟨zq,hzq⟩:=HD8.out.ok.ref _ hmem;have hrt:=fun (y:World) (hy:Below w8.heap.size w8 y)=>rtext24_any (newR LR7) zq ((HD8.out.ok.all _ hmem).1.fit) ((HD8.out.ok.all _ hmem).2.2) y (hzq.below hy)
        have hst:(newR LR7).s=i+1:=by rw [hsn.1,htop]
        have hrY:(⟨(textB (newR LR7).t (newR LR7).M).toArray⟩:ByteArray)=Y:=by rw [hsn.2.1,hsn.2.2,Hnb.out, ← hY]
        rw [hrY] at hrt;have Hrt:=Lib.hid (show ∀ y:World,Below w8.heap.size w8 y→Calls Tryz.prog 24 #[.agg (rbCells (newR LR7)).toArray] y fun e w'=>e=.returned (.string Y)∧Below y.heap.size y w' from hrt);have hlx:=fun (y:World) (hy:Below w8.heap.size w8 y)=>ltext_any R1.M R1.P T1 hAll.fit HR8.out.ri.tp w.heap.size p cv1 ⟨0,(runC M0 (z.take (i+1))).D⟩ (by rw [runC_len];exact Nat.succ_pos _) (by rw [runC_len,Hl7.out];have:=Hl.out.1;have:=Hlen.out.2.2;omega) y (HR8.out.ri.ch.below hy) (HR8.out.ri.t.below hy) HR8.out.ri.ts
        have hlY:(⟨(textB (ChV.mk 0 (runC M0 (z.take (i+1))).D).tail R1.M).toArray⟩:ByteArray)=Y:=hY;rw [hlY] at hlx;rw [← HR8.out.ri.cp] at hlx;have Hlx:=Lib.hid (show ∀ y:World,Below w8.heap.size w8 y→Calls Tryz.prog 25 #[.pointer R1.c,.agg (macCells R1.M R1.P).toArray] y fun e w'=>e=.returned (.string Y)∧Below y.heap.size y w' from hlx);obtain ⟨B6,o6,rfl,hrb⟩:=rbs_at HD8.out.sl hlast (Below.refl _ w8);have Hrb:=Lib.hid (fun (y:World) (hy:Below w8.heap.size w8 y)=>(fun j v hj=>(hy.cell (p:=⟨B6,o6+(n6 - 1)*6+j,none⟩) (World.block_lt_of_cell? _ _ (hrb j v hj))).trans (hrb j v hj):y.rangeAt B6 (o6+(n6 - 1)*6) (rbCells (newR LR7))));have hn63:=HD8.out.len;have Hn6:=Lib.hid (And.intro hn6 hn63);have HF:=Lib.hid (And.intro htop hn63);clear hNv hnt hsn hL0 hmem hn6 hlast hzq hrt hrY hlx hlY hrb hn63 htop hAll;rw [← hst] at Hnt;have Hst:=Lib.hid hst;generalize hns:(newR LR7).s=ns at *
        have Hns:=Lib.hid hns;clear hns hst hY;go_upto_region 20 with ((with_reducible refine Hnt.out.mono ?_);rintro e w9 ⟨rfl,h9⟩;have H9:=Lib.hid h9;clear h9)
        have HI9:=Lib.hid (show LpI w w9 g ps M0 p (z.take (i+1)) R1 T1 cv1 z1 sv7 L7 (some ⟨B6,o6,none⟩) n6 c6 LR7 from ⟨HR8.out.below H9.out,HS8.out.below H9.out,HD8.out.below H9.out,HB8.out.1.trans (H9.out.mono HB8.out.1.size),Nat.le_trans HB8.out.2 H9.out.size⟩);refine pl_reg20 w9 g B6 o6 n6 c6 ns (newR LR7) Y R1 (Lib.hid HI9.out.run.at_) (Lib.hid (Hrb.out w9 H9.out)) (Lib.hid ⟨Hns.out,Hn6.out⟩) (Lib.hid (fun y hy=>Hrt.out y (H9.out.trans (hy.mono H9.out.size)))) (Lib.hid (fun y hy=>Hlx.out y (H9.out.trans (hy.mono H9.out.size)))) _ _ _ _ _ _ _ _ _ _ _ _ _ _ _ _ _ _ _ _ _ _ _ _ _ _ _ _ _ _ _ _ _ _ _ _ _ _ _ _ _ _ _ _ _ _ _ _ _ _ _ _ _ _ _ _ _ _ _ _ _ _ _ _ _ _ _ _ _ _ _ _ _ _ _ _ _ _ _ _ _ _ _ _ _ _ _ _ _ _ _ _ _ _ _ _ _ _ _ _ _ _ _ _ _ _ _ _ _ _ _ _ _ _ _ _ _ _ _ _ _ _ _ _ _ _ _ _ _ _ _ _ _ _ _ _ _ _ _ _ _ _ _ _ _ _ _ _ _ _ _ _ _ _ _ _ _ _ _ _ _ _ _ _ _ _ _ (Lib.hid ?_);intro _ _ _ _ _ _ _ _ _ _ _ _ _ _ _ _ _ _ _ _ _ _ _ _ _ _ _ _ _ _ _ _ _ w11 h11;have H11:=Lib.hid h11;clear h11;go_upto_region 22 with fail;have HI11:=Lib.hid (show LpI w w11 g ps M0 p (z.take (i+1)) R1 T1 cv1 z1 sv7 L7 (some ⟨B6,o6,none⟩) n6 c6 LR7 from
         have hb:=H11.out;⟨HI9.out.run.below hb,HI9.out.sh.below hb,HI9.out.rs.below hb,HI9.out.bel.trans (hb.mono HI9.out.bel.size),Nat.le_trans HI9.out.ps hb.size⟩)
        clear H11 H9 HI9 HR8 HS8 HD8 HB8 Hnt Hrt Hlx Hrb Hns Hst Hnb;go_upto_region 23 with fail;go_loopw [18] (fun s18 wr=>∃ s:Nat,s≤i+3∧s18=.int .u64 (s:Int)∧Below w11.heap.size w11 wr) (fun s18 _=>i+3 - (intOf s18).toNat)
        case atStart=>exact ⟨0,by omega,rfl,Below.refl _ _⟩
        case round =>
         obtain ⟨s,hs,rfl,hbw⟩:=hrel;have Hbw:=Lib.hid hbw;clear hbw;have hcv:IntKind.u64.wrap (i:Int)=(i:Int):=by rw [IntKind.wrap_u64];have:=Hl.out.1;have:=Hlen.out.2.2;omega
         have hcv2:IntKind.u64.wrap ((i:Int)+2)=((i+2:Nat):Int):=by rw [IntKind.wrap_u64];have:=Hl.out.1;have:=Hlen.out.2.2;omega
         by_cases hsi:s≤i+2
         ·
          have hle:(s:Int)≤((i+2:Nat):Int):=by omega
          have hinc:IntKind.u64.wrap ((s:Int)+1)=((s+1:Nat):Int):=by rw [IntKind.wrap_u64];have:=Hl.out.1;have:=Hlen.out.2.2;omega
          have hld:=lead_any H0.out (HI11.out.sh.below Hbw.out) (by rw [Hl7.out];have:=Hl.out.1;have:=Hlen.out.2.2;omega) s;have hrd:=fun (y:World) (hy:Below wr.heap.size wr y)=>rlead_any M0 LR7 (some ⟨B6,o6,none⟩) n6 c6 s y (HI11.out.rs.sl.below (Hbw.out.trans (hy.mono Hbw.out.size))) HI11.out.rs.len (HI11.out.rs.ok.below (Hbw.out.trans (hy.mono Hbw.out.size)))
          unfold RLead at hrd;rw [lead_bs HI11.out.rs.say] at hrd;obtain ⟨⟨m1,bb⟩,hm⟩:∃ m,leadV L7 s=m:=⟨_,rfl⟩;rw [hm] at hld hrd;have Hld:=Lib.hid (show Calls Tryz.prog 9 #[.pointer (some ⟨ps,0,none⟩),.int .u64 (s:Int)] wr fun e w'=>e=.returned (.tuple #[.agg (lmCells m1).toArray,.bool bb])∧Below wr.heap.size wr w' from hld);have Hrd:=Lib.hid (show ∀ y:World,Below wr.heap.size wr y→Calls Tryz.prog 26 #[.slice (some ⟨B6,o6,none⟩) n6 c6,.int .u64 (s:Int)] y fun e w'=>e=.returned (.tuple #[.agg (lmCells m1).toArray,.bool bb])∧Below y.heap.size y w' from hrd);clear hld hrd hm;go_upto_region 26 with (first
           | ((with_reducible refine Hld.out.mono ?_);rintro e w12 ⟨rfl,h12⟩;have H12:=Lib.hid h12;clear h12)
           | ((with_reducible refine wpList_store_mid rfl 58 _ _ rfl w12.heap.size 0 _ rfl rfl ?_ ?_ ?_ ?_);exact th_new w12 (lmCells lm0) 58;exact lm_size;exact all_oneCell_toArray (lm_one m1)))
          change Code.wp _ _ _ _ ((w12.alloc (.cells (lmCells lm0).toArray 58)).setCells w12.heap.size 0 (lmCells m1));have hbx:=box_below w12 (lmCells lm0) (lmCells m1) 58;have HX:=Lib.hid (show LmAt _ _ m1 from box_row w12 (lmCells lm0) (lmCells m1) 58 rfl);have HB13:=Lib.hid (H12.out.trans (hbx.mono H12.out.size));clear hbx H12 Hld;generalize (w12.alloc (.cells (lmCells lm0).toArray 58)).setCells w12.heap.size 0 (lmCells m1)=w13 at *;generalize w12.heap.size=gx at *;go_upto_region 27 with (first
           | ((with_reducible refine (Hrd.out _ HB13.out).mono ?_);rintro e w14 ⟨rfl,h14⟩;have H14:=Lib.hid h14;clear h14)
           | ((with_reducible refine wpList_store_mid rfl 58 _ _ rfl w14.heap.size 0 _ rfl rfl ?_ ?_ ?_ ?_);exact th_new w14 (lmCells lm0) 58;exact lm_size;exact all_oneCell_toArray (lm_one m1)))
          change Code.wp _ _ _ _ ((w14.alloc (.cells (lmCells lm0).toArray 58)).setCells w14.heap.size 0 (lmCells m1));have hbx:=box_below w14 (lmCells lm0) (lmCells m1) 58;have HY:=Lib.hid (show LmAt _ _ m1 from box_row w14 (lmCells lm0) (lmCells m1) 58 rfl);have hb15:=H14.out.trans (hbx.mono H14.out.size);have HX15:=Lib.hid (HX.out.below hb15);have HB15:=Lib.hid (Hbw.out.trans ((HB13.out.trans (hb15.mono HB13.out.size)).mono Hbw.out.size));clear hbx hb15 H14 Hrd HX HB13 Hbw;generalize (w14.alloc (.cells (lmCells lm0).toArray 58)).setCells w14.heap.size 0 (lmCells m1)=w15 at *;generalize w14.heap.size=gy at *;refine pl_reg27 w15 gx gy m1 bb HX15 HY _ _ _ _ _ _ _ _ _ _ _ _ _ _ _ _ _ _ _ _ _ _ _ _ _ _ _ _ _ _ _ _ _ _ _ _ _ _ _ _ _ _ _ _ _ _ _ _ _ _ _ _ _ _ _ _ _ _ _ _ _ _ _ _ _ _ _ _ _ _ _ _ _ _ _ _ _ _ _ _ _ _ _ _ _ _ _ _ _ _ _ _ _ _ _ _ _ _ _ _ _ _ _ _ _ _ _ _ _ _ _ _ _ _ _ _ _ _ _ _ _ _ _ _ _ _ _ _ _ _ _ _ _ _ _ _ _ _ _ _ _ _ _ _ _ _ _ _ _ _ _ _ _ _ _ _ _ _ _ _ _ _ _ _ _ _ _ (Lib.hid ?_);intro _ _ _ _ _ _ _ _ w16 h16;have H16:=Lib.hid h16;clear h16;go_wp2_with fail;go_roundw
          case rel=>exact ⟨s+1,by omega,rfl,HB15.out.trans (H16.out.mono HB15.out.size)⟩
          case measure =>
           simp only [intOf];omega
         ·
          have hle : ¬ (s:Int)≤((i+2:Nat):Int):=by omega
          go_wp2_with fail;go_roundw
          case rel=>exact ⟨i+1,R1,T1,cv1,z1,sv7,L7,some ⟨B6,o6,none⟩,n6,c6,LR7,by have:=Hlen.out.2.2;omega,rfl,rfl,⟨HI11.out.run.below Hbw.out,HI11.out.sh.below Hbw.out,HI11.out.rs.below Hbw.out,HI11.out.bel.trans (Hbw.out.mono HI11.out.bel.size),Nat.le_trans HI11.out.ps Hbw.out.size⟩⟩
          case measure =>
           simp only [intOf];have:=Hlen.out.2.2;omega
     ·
      have hlt' : ¬ (i:Int)<(l:Int):=by omega
      go_wp2_with ((with_reducible refine (Hwk.out _).mono ?_);rintro e w9 ⟨rfl,h9⟩;have H9:=Lib.hid h9;clear h9);go_ret;exact ⟨rfl,HI.out.bel.trans (H9.out.mono HI.out.bel.size)⟩
theorem plays_row (n0 n1:Int) (a:Option Addr) (l cap:Nat) (z:List CmdV) (a3:Option Addr) (l3 cap3:Nat) (wn:List (BitVec 8)) {w:World} (f0:(Lit.int .u8 n0).wf=true) (f1:(Lit.int .u8 n1).wf=true) (hz:CmdsAt w a l z) (hwn:U8sAt w a3 l3 wn) (_W:World) :
  Calls Tryz.prog 6 #[.int .u8 n0,.int .u8 n1,.slice a l cap,.slice a3 l3 cap3] w fun e w'=>e=.returned (.bool true)∧Below w.heap.size w w':=by
 obtain ⟨x0,rfl,h0⟩:=lt_u8p f0;obtain ⟨x1,rfl,h1⟩:=lt_u8p f1;exact plays_any x0 x1 h0 h1 a l cap z a3 l3 cap3 wn w hz hwn
open Go.ChangeShapes Go.WideShapes Go.Deep Go.RowKit
theorem u8s_open {H:Type} {enc:TypeId × Value→H} {w:World} {base:Nat} {spare:Nat→Bool} {held:Bool} {a:Option Addr} {len cap:Nat} {d:DataW H} {pl:List MemPlace}
  (h:DataW.Trod enc Tryz.prog w base spare held 44 (.slice a len cap) d pl):∃ z:List (BitVec 8),U8sAt w a len z :=
 ones_open (fun x:BitVec 8=>Value.int .u8 (x.toNat:Int)) Tryz.underlying44 (by kernel_rfl) (fun v y n hv=>by
  obtain ⟨m,q,_,f⟩:=DataW.trod_int Tryz.underlying5 hv;obtain ⟨x,rfl⟩:=tr_u8 f;simp only [List.cons.injEq,and_true] at q;exact ⟨x,q⟩) h
end Go.Proofs.YtbckjgageofldaaGreat
