/- Keep: Votes. Condition: the keep lies there. -/
import Derived.Test.YticjodhkmidljaaGreatDoorZKeepNil22
import Derived.Test.YticjodhkmidljaaGreatDoorZKeepNil25
import Derived.Test.YticjodhkmidljaaGreatDoorZKeepNil8
import Derived.WalkKit
import Derived.Maps.Ext
import Derived.Maps.RangeWalk
import Derived.Laws.IdiomRangeMap
import Derived.Deep.LoopGhost
namespace Go.Proofs.YticjodhkmidljaaGreatDoor
open Go.RowKit Go.Maps Go.Shelf
theorem infoVt:(Tryz.prog.info? 26).map (fun i=>(i.zero,i.size,i.bytes))=some (some (voV 0 vo0),4,40):=by kernel_rfl
theorem vot_len (v:VotV):(votK v).length=4:=rfl
theorem vot_one (v:VotV):∀ u ∈ votK v,u.oneCell'=true:=vo_one _ _
theorem vo_new (w:World) (v:VotV):SliceAt 4 votK (w.alloc (.cells (votK v).toArray 26)) (some ⟨w.heap.size,0,none⟩) 1 [v]:=by
  refine ⟨rfl,by decide,fun i x hx=>?_⟩
  cases i with
  | zero =>
    simp at hx
    subst hx
    refine ⟨w.heap.size,0,rfl,by simp,fun j u hj=>?_⟩
    have h:=range_row (heap_alloc_new w (.cells (votK v).toArray 26)) j u hj
    rw [Nat.zero_mul,Nat.zero_add]
    exact h
  | succ i=>simp at hx
/-- The slots of a keep, rising. -/
def SlotsOf (Dm:Nat→Option VoR) (ns:List Nat):Prop:=ns.Pairwise (fun x y=>x<y)∧∀ s,s ∈ ns ↔ (Dm s).isSome=true
def votAt (Dm:Nat→Option VoR) (s:Nat):VotV:=⟨s,((Dm s).getD vo0).1,((Dm s).getD vo0).2⟩
def rowsV (Dm:Nat→Option VoR) (from_:Nat) (ns:List Nat):List VotV:=(ns.filter (fun s=>decide (from_≤s))).map (votAt Dm)
theorem rows_from {V:KepV} {ns:List Nat} (h:SlotsOf V.vs ns) (from_:Nat):VotsFrom V from_ (rowsV V.vs from_ ns):=by
  refine ⟨List.pairwise_map.2 (h.1.filter _),fun v=>?_⟩
  unfold rowsV
  rw [List.mem_map]
  constructor
  · rintro ⟨s,hs,rfl⟩
    obtain ⟨h1,h2⟩:=List.mem_filter.1 hs
    obtain ⟨r,hr⟩:=Option.isSome_iff_exists.1 ((h.2 s).1 h1)
    refine ⟨?_,of_decide_eq_true h2⟩
    show V.vs s=some (((V.vs s).getD vo0).1,((V.vs s).getD vo0).2)
    rw [hr]
    rfl
  · rintro ⟨h1,h2⟩
    refine ⟨v.slot,List.mem_filter.2 ⟨(h.2 _).2 (by rw [h1];rfl),decide_eq_true h2⟩,?_⟩
    unfold votAt
    rw [h1]
    rfl
theorem rows_yes (Dm:Nat→Option VoR) {from_ s:Nat} {ns:List Nat} (hs:from_≤s):rowsV Dm from_ (ns++[s])=rowsV Dm from_ ns++[votAt Dm s]:=by
  unfold rowsV
  rw [List.filter_append,List.map_append,List.filter_cons_of_pos (by simpa using hs)]
  rfl
theorem rows_no (Dm:Nat→Option VoR) {from_ s:Nat} {ns:List Nat} (hs : ¬ from_≤s):rowsV Dm from_ (ns++[s])=rowsV Dm from_ ns:=by
  unfold rowsV
  rw [List.filter_append,List.filter_cons_of_neg (by simpa using hs)]
  simp
theorem rows_len (Dm:Nat→Option VoR) (from_:Nat) (ns:List Nat):(rowsV Dm from_ ns).length≤ns.length:=by
  unfold rowsV
  rw [List.length_map]
  exact List.length_filter_le _ _
/-- What Votes tells. -/
def VotsPost (V:KepV) (from_ n:Nat) (w:World) (e:Ending) (w':World):Prop:=∃ A c L,e=.returned (.slice A L.length c)∧VotsFrom V from_ L∧L.length≤n∧Below w.heap.size w w'∧w'.ownsRow w.heap.size 26 4 (.slice A L.length c) L.length (flat votK L)
theorem slots_of {Dm:Nat→Option VoR} {D:DataW Value} {ss:List Int} (h:Came D (fun _=>false) ss) (hp:ss.Pairwise (fun x y=>x<y)) (hh:∀ x:Int,Maps.has D (.int .u64 x)=(mpV Dm (.int .u64 x)).isSome):∃ ns:List Nat,ss=ns.map (fun s:Nat=>(s:Int))∧SlotsOf Dm ns:=by
  have hx:∀ x ∈ ss,∃ s:Nat,x=(s:Int):=fun x hx=>by
    have h1:=((h.2 x).1 hx).1
    rw [hh] at h1
    obtain ⟨s,_,e,_⟩:=mpV_some h1
    exact ⟨s,e⟩
  have he:ss=(ss.map Int.toNat).map (fun s:Nat=>(s:Int)):=by
    rw [List.map_map]
    conv=>lhs;rw [← List.map_id ss]
    refine List.map_congr_left fun x hxx=>?_
    obtain ⟨s,rfl⟩:=hx x hxx
    rfl
  refine ⟨ss.map Int.toNat,he,?_,fun s=>?_⟩
  · rw [he] at hp
    rw [List.pairwise_map] at hp
    exact hp.imp fun q=>by omega
  · have h2:=h.2 (s:Int)
    rw [hh,show mpV Dm (.int .u64 (s:Int))=(Dm s).map (voV s) from mpV_at Dm s] at h2
    have h3:(s:Int) ∈ ss ↔ s ∈ ss.map Int.toNat:=by
      constructor
      · intro q
        exact List.mem_map.2 ⟨_,q,rfl⟩
      · intro q
        rw [he]
        exact List.mem_map.2 ⟨s,q,rfl⟩
    rw [← h3,h2]
    simp
set_option maxRecDepth 100000 in
set_option maxHeartbeats 4000000 in
theorem votes_any {w:World} {k S l g n:Nat} {V:KepV} (from_:Nat) (hn:n≤100000) (hr64:∀ s r,V.vs s=some r→s<18446744073709551616) (h:KepAt w k S l g n V) :
    Calls Tryz.prog 14 #[.pointer (some ⟨k,0,none⟩),.int .u64 (from_:Int)] w (VotsPost V from_ n w):=by
  obtain ⟨z0,z1,z2,z3,c0⟩:=h.cells
  clear z0 z1 z2 z3
  obtain ⟨D,hown,hM⟩:=h.mp
  have hsz:Maps.size D≤1000000:=by have:=hown.size_le;omega
  have hsz2:Maps.size D≤n:=hown.size_le
  have hk:=callsIn_wide.1 (keysU_in 5 (some g) w)
  have hb1:=(Below.refl w.heap.size w).alloc (Nat.le_refl _) (.cells #[.map (some g)] 63)
  have hs:=sortedK_any w.heap.size g n D hsz (w.alloc (.cells #[.map (some g)] 63)) (by simp) (cell_of_row _ _ _ _ _ _ (heap_alloc_new _ _)) (hown.alloc _)
  have Hk:=Lib.hid hk
  have Hs:=Lib.hid hs
  have Hb1:=Lib.hid hb1
  have H:=Lib.hid h
  have HM:=Lib.hid (fun x:Int=>(hM (.int .u64 x) trivial).1)
  have hR:=Lib.hid hr64
  have HS2:=Lib.hid hsz2
  clear hr64
  clear hk hs hb1 h hM hown hsz hsz2
  go_enter Tryz.func14,Tryz.ntmps14
  go_upto_region 5 with (first
    | ((with_reducible refine Hk.out.mono ?_);rintro e w1 ⟨rfl,rfl⟩)
    | ((with_reducible refine Hs.out.mono ?_);rintro e w2 ⟨v,ss,rfl,k1,k2,k3,k4⟩;have H2:=Lib.hid (And.intro k1 (And.intro k2 (And.intro k3 k4)));clear k1 k2 k3 k4;obtain ⟨A,c,rfl⟩:∃ A c,v=.slice A ss.length c:=(by
        rcases H2.out.2.1.2 with ⟨rfl,h0⟩ | ⟨g',cap,cur,rfl,_⟩
        · rw [h0];exact ⟨none,0,rfl⟩
        · exact ⟨_,_,rfl⟩)))
  have hb2:Below w.heap.size w w2:=Hb1.out.trans (H2.out.2.2.2.mono Hb1.out.size)
  have Hd2:=Lib.hid (H.out.below hb2)
  have Hb2:=Lib.hid hb2
  obtain ⟨ns,hss,hns⟩:=slots_of H2.out.1.1 H2.out.1.2 HM.out
  have hlen:ss.length=ns.length:=by rw [hss,List.length_map]
  have hnl:ns.length≤100000:=by rw [← hlen];have:=came_size H2.out.1.1;have:=HS2.out;omega
  have hcell:∀ i (hi:i<ns.length),∃ gk,A=some ⟨gk,0,none⟩∧gk<w2.heap.size∧w2.cell? ⟨gk,i,none⟩=some (.int .u64 (ns[i]:Int)):=by
    intro i hi
    rcases H2.out.2.1.2 with ⟨_,h0⟩ | ⟨gk,cap,cur,e,_,hg,_,_,_,ht⟩
    · omega
    · cases e
      refine ⟨gk,rfl,(Array.getElem?_eq_some_iff.1 hg).1,?_⟩
      have e1:(cur.toList.take (ss.length*1))[i]?=some (u64v (ns[i]:Int)):=by
        rw [ht,hss,List.getElem?_map,List.getElem?_map,List.getElem?_eq_getElem hi]
        rfl
      rw [List.getElem?_take,if_pos (by omega)] at e1
      unfold World.cell?
      rw [hg]
      show cur[i]?=_
      rw [← Array.getElem?_toList]
      exact e1
  have Hcell:=Lib.hid hcell
  have HNS:=Lib.hid hns
  have HNL:=Lib.hid hnl
  have HNN:=Lib.hid (show ns.length≤n by rw [← hlen];have:=came_size H2.out.1.1;have:=HS2.out;omega)
  obtain ⟨i0,hi0,hz0,hs0,hb0⟩:=info_parts infoVt
  have Hi0:=Lib.hid (And.intro hi0 (And.intro hz0 (And.intro hs0 hb0)))
  rw [hlen]
  clear hcell hns hnl hss hlen hb2 Hk Hs Hb1 c0 H2 hi0 hz0 hs0 hb0
  generalize hL:ns.length=L
  have HL:=Lib.hid hL
  have bL:(L:Int)<1152921504606846976:=by have:=HNL.out;omega
  have HNL2:=Lib.hid (show L≤100000 by have:=HNL.out;omega)
  clear hL
  go_loopw [5,17] (fun s5 s17 wr=>∃ i:Nat,s17=.int .i64 (i:Int)∧i≤L∧Below w2.heap.size w2 wr∧(∃ A' c',s5=.slice A' (rowsV V.vs from_ (ns.take i)).length c')∧wr.ownsRow w2.heap.size 26 4 s5 (rowsV V.vs from_ (ns.take i)).length (flat votK (rowsV V.vs from_ (ns.take i)))) (fun _ s17 _=>L - (intOf s17).toNat)
  case atStart=>exact ⟨0,rfl,Nat.zero_le _,Below.refl _ _,⟨none,0,rfl⟩,World.ownsRow_nil _ _ _ _⟩
  case round =>
    obtain ⟨i,rfl,hi,hb,⟨A3,c3,rfl⟩,ho⟩:=hrel
    have Hb:=Lib.hid hb
    have Ho:=Lib.hid ho
    by_cases hiL:i<L
    · have hiL':(i:Int)<(L:Int):=by omega
      obtain ⟨gk,rfl,hgk,hck⟩:=Hcell.out i (by rw [HL.out];exact hiL)
      have hin:i<ns.length:=by rw [HL.out];exact hiL
      obtain ⟨s,hs⟩:∃ s,s=ns[i]:=⟨_,rfl⟩
      have hDs:=(HNS.out.2 s).1 (by rw [hs];exact List.getElem_mem hin)
      obtain ⟨r,hr⟩:=Option.isSome_iff_exists.1 hDs
      have f0:=(hb.cell (p:=⟨gk,i,none⟩) hgk).trans hck
      rw [← hs] at f0
      have htake:ns.take (i+1)=ns.take i++[s]:=by rw [List.take_add_one,List.getElem?_eq_getElem hin, ← hs];rfl
      have hml:=rows_len V.vs from_ (ns.take i)
      rw [List.length_take] at hml
      have HTK:=Lib.hid htake
      obtain ⟨m,hm⟩:∃ m,(rowsV V.vs from_ (ns.take i)).length=m:=⟨_,rfl⟩
      rw [hm] at Ho hml ⊢
      have HMM:=Lib.hid hm
      have HML:=Lib.hid (show m≤100000 by have:=HNL2.out;omega)
      have hi5:=HNL2.out
      have HI5:=Lib.hid (show i≤100000 by omega)
      by_cases hf:from_≤s
      · have hf':(from_:Int)≤(s:Int):=by omega
        have hd3:=Hd2.out.below hb
        obtain ⟨z0,z1,z2,z3,c0⟩:=hd3.cells
        have Hd3:=Lib.hid hd3
        have hlt:s<18446744073709551616:=hR.out s r hr
        have hk:=key_ku hlt
        obtain ⟨⟨rn,rr⟩,rv⟩:=r
        have hva:votAt V.vs s=⟨s,⟨rn,rr⟩,rv⟩:=by unfold votAt;rw [hr];rfl
        have hMo:mpV V.vs (ku s)=some (.agg #[.int .u64 (s:Int),.int .u64 (rn:Int),.int .u8 (rr:Int),.string ⟨rv.toArray⟩]):=by rw [mpV_at,hr];rfl
        have Hn3:=Lib.hid (vo_new wr ⟨s,⟨rn,rr⟩,rv⟩)
        have HROW:=Lib.hid (show rowsV V.vs from_ (ns.take (i+1))=rowsV V.vs from_ (ns.take i)++[⟨s,⟨rn,rr⟩,rv⟩] by rw [HTK.out,rows_yes V.vs hf,hva])
        have HROWL:=Lib.hid (show (rowsV V.vs from_ (ns.take (i+1))).length=m+1 by rw [HROW.out,List.length_append,HMM.out];rfl)
        clear hb hd3 z0 z1 z2 z3 ho hck hs hDs hr hi5 hin hf hml htake hva hm
        go_wp2_with (first
          | (at_lookup;refine wpList_look_mp rfl _ _ 63 26 rfl lawU Tryz.underlying63 vo_zero rfl Hd3.out.mp _ (ku s) rfl hk ?_)
          | (at_builtin;refine wpList_plain rfl (fun K hK=>?_);refine wp_append_slice (k:=4) (enc:=votK) _ _ 40 rfl w2.heap.size 26 i0 _ 40 Tryz.underlying40 Hi0.out.1 Hi0.out.2.1 Hi0.out.2.2.1 Hi0.out.2.2.2 rfl (by omega) vot_len vot_one (.slice A3 m c3) m _ rfl (Ho.out.alloc _) (some ⟨wr.heap.size,0,none⟩) 1 1 [⟨s,⟨rn,rr⟩,rv⟩] rfl Hn3.out (fun e=>by cases e) (by have:=HML.out;simp [maxLen];omega) (by have:=HML.out;omega) (by have:=Hb.out.size;simp;omega) ?_;intro v7 w7 ho7 hg7;have H7:=Lib.hid (And.intro ho7 hg7);clear ho7 hg7;refine hK _ _ ?_))
        obtain ⟨A7,c7,rfl⟩:=own_slice_of H7.out.1
        have hb7:Below w2.heap.size w2 w7:=(Hb.out.alloc Hb.out.size _).grown H7.out.2 (by have:=Hb.out.size;simp;omega) (fun k hk=>by
          rcases Ho.out.2 with ⟨e,_⟩ | ⟨g5,_,_,e,h5,_⟩
          · rw [e] at hk
            cases hk
          · rw [e] at hk
            cases hk
            exact h5)
        refine ⟨⟨i+1,rfl,by omega,hb7,⟨A7,c7,by rw [HROWL.out]⟩,?_⟩,by simp only [intOf];omega⟩
        have h7:=H7.out.1
        rw [HROWL.out,HROW.out,flat_app]
        exact h7
      · have hf' : ¬ (from_:Int)≤(s:Int):=by omega
        have HROW:=Lib.hid (show rowsV V.vs from_ (ns.take (i+1))=rowsV V.vs from_ (ns.take i) by rw [HTK.out,rows_no V.vs hf])
        clear hb ho hck hs hDs hr hi5 hin hf hml htake hm
        go_wp2_with fail
        refine ⟨⟨i+1,rfl,by omega,Hb.out,⟨A3,c3,by rw [HROW.out,HMM.out]⟩,?_⟩,by simp only [intOf];omega⟩
        rw [HROW.out,HMM.out]
        exact Ho.out
    · have hiL' : ¬ (i:Int)<(L:Int):=by omega
      have hie:i=L:=by omega
      subst hie
      have hall:ns.take i=ns:=List.take_of_length_le (by rw [HL.out];exact Nat.le_refl _)
      have HALL:=Lib.hid hall
      clear hall ho hb hi
      rw [HALL.out] at Ho ⊢
      have HML:=Lib.hid (Nat.le_trans (rows_len V.vs from_ ns) HNN.out)
      have HVF:=Lib.hid (rows_from HNS.out from_)
      generalize rowsV V.vs from_ ns=R at *
      generalize hrl:R.length=rl
      have HRL:=Lib.hid hrl
      rw [hrl] at Ho
      clear hrl
      go_wp2_with fail
      go_ret
      refine ⟨A3,c3,R,by rw [HRL.out];rfl,HVF.out,HML.out,Hb2.out.trans (Hb.out.mono Hb2.out.size),?_⟩
      have h7:=Ho.out
      rw [HRL.out]
      refine ⟨h7.1,?_⟩
      rcases h7.2 with q | ⟨g5,cap,cur,e,h5,q⟩
      · exact .inl q
      · exact .inr ⟨g5,cap,cur,e,Nat.le_trans Hb2.out.size h5,q⟩
theorem votes_nil (from_:Nat) (w:World):Calls Tryz.prog 14 #[.pointer none,.int .u64 (from_:Int)] w fun e w'=>e=.returned (.slice none 0 0)∧Below w.heap.size w w':=by
  go_enter Tryz.func14,Tryz.ntmps14
  go_wp2_with fail
  go_ret
  exact ⟨rfl,Below.refl _ _⟩
end Go.Proofs.YticjodhkmidljaaGreatDoor
namespace Go.Proofs.YticjodhkmidljaaGreatDoor
open Go.RowKit Go.Maps Go.Shelf
set_option maxRecDepth 100000 in
theorem closure_any (x:Int) (s:Nat) (r:VoR) (slot c:Nat) (w:World) (hc:w.cell? ⟨c,0,none⟩=some (.int .u64 (slot:Int))) :
    Calls Tryz.prog 33 #[.int .u64 x,voV s r,.pointer (some ⟨c,0,none⟩)] w fun e w'=>e=.returned (.bool (decide (x≤(slot:Int))))∧Below w.heap.size w w':=by
  have hb:=(Below.refl w.heap.size w).alloc (Nat.le_refl _) (.cells (voCells s r).toArray 26)
  have HB:=Lib.hid hb
  have hcl:=World.block_lt_of_cell? _ _ hc
  have hc1:(w.alloc (.cells (voCells s r).toArray 26)).cell? ⟨c,0,none⟩=some (.int .u64 (slot:Int)):=(hb.cell (p:=⟨c,0,none⟩) hcl).trans hc
  clear hb hc hcl
  obtain ⟨⟨rn,rr⟩,rv⟩:=r
  go_enter Tryz.func33,Tryz.ntmps33
  go_upto_region 1 with fail
  change Code.wp _ _ _ _ (w.alloc (.cells (voCells s (⟨rn,rr⟩,rv)).toArray 26))
  generalize w.alloc (.cells (voCells s (⟨rn,rr⟩,rv)).toArray 26)=w1 at *
  go_wp2_with fail
  go_ret
  exact ⟨rfl,HB.out⟩
theorem came_val {M:Nat→Option VoR} {es0:List (Lit × DataW Value)} {pd:Lit→DataW Value→Bool} {left:Lit→Bool} {x:Int} {val:Value} {yd:DataW Value} {yp:List MemPlace} (hap:es0.Pairwise (fun p q=>p.1≠q.1))
    (hM:∀ l,WideAt.IsKeyLit l→Maps.has (.map es0) l=(mpV M l).isSome∧∀ v,mpV M l=some v→∀ z,(DataW.map es0).atKey l z=.held v) (hlk:left (.int .u64 x)=true) (hat:∀ zd,(Fk pd es0 left).atKey (.int .u64 x) zd=yd) (hv:Rv val=some (yd,yp)):∃ (s:Nat) (r:VoR),val=voV s r:=by
  have hyd:yd=.held val:=(congrArg Prod.fst (Option.some.inj hv)).symm
  have hh:Maps.has (Fk pd es0 left) (.int .u64 x)=true:=Maps.has_true_of_atKey hat
  obtain ⟨p,hp,hps⟩:=List.any_eq_true.1 (show (es0.filter fun p => !pd p.1 p.2 || left p.1).any (fun p=>p.1.sameKey (.int .u64 x))=true from hh)
  have hp1:p.1=.int .u64 x:=WideAt.sameKey_eq hps
  have hpm:=(List.mem_filter.1 hp).1
  have hp2:p.2=yd:=at_cameK hap (show WideAt.IsKeyLit (.int .u64 x) from trivial) hlk hat p hpm hp1
  have h1:=hM (.int .u64 x) trivial
  have hD:Maps.has (.map es0) (.int .u64 x)=true:=List.any_eq_true.2 ⟨p,hpm,by rw [hp1];exact WideAt.sameKey_self trivial⟩
  rw [h1.1] at hD
  obtain ⟨s,r,rfl,hr⟩:=mpV_some hD
  have hms:mpV M (.int .u64 (s:Int))=some (voV s r):=by
    have:=mpV_at M s
    unfold ku at this
    rw [this,hr]
    rfl
  have h2:=h1.2 _ hms .nil
  have h3:=WideAt.atKey_mem .nil (show WideAt.IsKeyLit (.int .u64 (s:Int)) from trivial) hap (show (Lit.int .u64 (s:Int),yd) ∈ es0 by rw [← hp1, ← hp2];exact hpm)
  rw [h3,hyd] at h2
  exact ⟨s,r,by injection h2⟩
set_option maxHeartbeats 4000000 in
set_option maxRecDepth 100000 in
theorem deleteFunc_any {w:World} {g n slot c:Nat} {M:Nat→Option VoR} (hm:MpAt Tryz.prog 22 w g n (mpV M)) (hc:w.cell? ⟨c,0,none⟩=some (.int .u64 (slot:Int))) (hcg:c≠g) :
    Calls Tryz.prog 32 #[.map (some g),.func (.func 33) #[] #[.pointer (some ⟨c,0,none⟩)]] w fun e w'=>e=.returned (.tuple #[])∧MpAt Tryz.prog 22 w' g n (mpV (fun s=>if slot<s then M s else none))∧w.grownBy w' (some g):=by
  obtain ⟨D0,hown,hM⟩:=hm
  have eg:∀ args w,(callFunc 33 args).run Tryz.prog w=.ok (.enter 33 args) w:=enters_of Tryz.func33 (by kernel_rfl) rfl
  obtain ⟨es0,rfl,hap,hkeys⟩:=hown.entries lawU
  obtain ⟨pd,hpd⟩:∃ pd:Lit→DataW Value→Bool,pd=fun kl _=>mpLow slot kl:=⟨_,rfl⟩
  have HPD:=Lib.hid hpd
  have HM:=Lib.hid hM
  have HC:=Lib.hid (fun (y:World) (hy:w.grownBy y (some g))=>(hy.cell hc (fun e=>hcg (Option.some.inj e)):y.cell? ⟨c,0,none⟩=some (.int .u64 (slot:Int))))
  have HCL:=Lib.hid (fun (x:Int) (s:Nat) (r:VoR) (y:World) (hy:y.cell? ⟨c,0,none⟩=some (.int .u64 (slot:Int)))=>closure_any x s r slot c y hy)
  clear hpd hM hc hcg
  go_enter Tryz.func32,Tryz.ntmps32
  go_wp2_with (first
    | (at_range;refine wpList_range_own _ rfl _ 63 rfl 22 26 lawU Tryz.underlying63 Rv g n _ rfl hown ?_;intro w0 hrg0 hg0 hs0)
    | go_in)
  go_frame
  go_loopw [4,5] (fun _ _ wr=>∃ (left:Lit→Bool) (cnt:Nat),wr.ranges Tryz.prog 22 Rv g w.heap.size n (Fk pd es0 left) left cnt∧w.grownBy wr (some g))
    (fun _ _ wr=>wr.rangeLeft g w.heap.size)
  case atStart=>exact ⟨_,_,by rw [Fk_start hkeys];exact hrg0,hg0.but _⟩
  case round =>
    obtain ⟨left,cnt,hrg,hgw⟩:=hrel
    go_wp2_with (first
      | (at_next;refine wpList_next_ranges _ rfl _ rfl 22 lawU Rv id id (fun key _ _=>⟨key,rfl⟩) (fun v _ _=>⟨v,rfl⟩) g w.heap.size n _ _ _ rfl hrg ?_ ?_)
      | go_in)
    · intro _ hl0
      go_wp2
      go_end0
      exact ⟨rfl,mp_struck pd slot (fun kl d=>by rw [HPD.out]) HM.out (by rw [← Fk_end hl0];exact hrg.owns),hgw⟩
    · intro key c1 kl yd yp w1 cnt1 hkey hlx hv hat hrg1 hlt hg1 hs1 hen
      have hgw1:=hgw.andThen hg1 (fun j hj=>by cases hj;exact Or.inl (Nat.le_refl _))
      obtain ⟨x,ex,rfl,_⟩:=key_inv hkey
      obtain rfl:key=u64v x:=ex
      obtain ⟨s,r,ev⟩:=came_val hap HM.out hlx hat hv
      obtain rfl:c1=voV s r:=ev
      have hbl:=hrg1.owns.lt
      have hrl:=hrg1.lt
      have HX:=Lib.hid (And.intro hrg1 (And.intro hgw1 (And.intro hlx (And.intro hat (And.intro hkey hlt)))))
      have HV:=Lib.hid hrg
      clear hrg1 hgw1 hgw hrg hkey hlx hat hlt hg1 hs1 hv
      go_upto_region 3 with (first
        | ((with_reducible refine wpList_store_mid rfl 26 _ _ rfl w1.heap.size 0 _ rfl rfl ?_ ?_ ?_ ?_);exact th_new w1 (voCells 0 vo0) 26;exact vo_size 0 vo0;exact all_oneCell_toArray (vo_one s r))
        | go_in)
      change Code.wp _ _ _ _ ((w1.alloc (.cells (voCells 0 vo0).toArray 26)).setCells w1.heap.size 0 (voCells s r))
      have hbx:=box_below w1 (voCells 0 vo0) (voCells s r) 26
      have HR:=Lib.hid (range_row (cs:=voCells s r) (box_row w1 (voCells 0 vo0) (voCells s r) 26 rfl))
      have hgx:w1.grownBy ((w1.alloc (.cells (voCells 0 vo0).toArray 26)).setCells w1.heap.size 0 (voCells s r)) none:=⟨hbx.os,hbx.tape,hbx.output,hbx.size,fun k hk _=>hbx.block k hk⟩
      generalize (w1.alloc (.cells (voCells 0 vo0).toArray 26)).setCells w1.heap.size 0 (voCells s r)=w2 at *
      generalize w1.heap.size=gx at *
      have hrg2:=HX.out.1.kept hgx (by simp) (by simp)
      have hgw2:=HX.out.2.1.andThen hgx (fun j hj=>by cases hj)
      have HC2:=Lib.hid (HCL.out x s r w2 (HC.out w2 hgw2))
      have HX2:=Lib.hid (And.intro hrg2 hgw2)
      clear hbx hgx hrg2 hgw2
      by_cases hp:x≤(slot:Int)
      · rw [decide_eq_true hp] at HC2
        go_wp2_with (first
          | (with_reducible refine wpList_load_mid rfl 26 _ rfl gx 0 rfl (voCells s r) _ HR.out Tryz.underlying26 rfl (vo_size s r) ?_)
          | (go_at_fn 33;refine HC2.out.mono ?_;rintro e w3 ⟨rfl,hb3⟩
             have hg3:w2.grownBy w3 none:=⟨hb3.os,hb3.tape,hb3.output,hb3.size,fun k hk _=>hb3.block k hk⟩
             have hrg3:=HX2.out.1.kept hg3 (by simp) (by simp)
             have hgw3:=HX2.out.2.andThen hg3 (fun j hj=>by cases hj))
          | (at_delete;refine wpList_delete_ranges _ rfl _ _ 63 22 rfl 26 lawU Tryz.underlying63 Rv g w.heap.size n _ _ _ rfl hrg3 _ _ rfl HX.out.2.2.2.2.1 ?_;intro w4 cnt4 hrg4 hle hturn;go_frame)
          | go_in)
        rw [strike_twice] at hrg4
        go_roundw
        case rel=>exact ⟨_,cnt4,by rw [← Fk_struck hap (show WideAt.IsKeyLit (.int .u64 x) from trivial) HX.out.2.2.1 (by rw [HPD.out];exact decide_eq_true hp) HX.out.2.2.2.1];exact hrg4,hgw3.andThen hturn.grown (fun j hj=>by cases hj;exact Or.inr rfl)⟩
        case measure=>rw [hrg4.left_eq,HV.out.left_eq];have:=HX.out.2.2.2.2.2;omega
      · rw [decide_eq_false hp] at HC2
        go_wp2_with (first
          | (with_reducible refine wpList_load_mid rfl 26 _ rfl gx 0 rfl (voCells s r) _ HR.out Tryz.underlying26 rfl (vo_size s r) ?_)
          | (go_at_fn 33;refine HC2.out.mono ?_;rintro e w3 ⟨rfl,hb3⟩
             have hg3:w2.grownBy w3 none:=⟨hb3.os,hb3.tape,hb3.output,hb3.size,fun k hk _=>hb3.block k hk⟩
             have hrg3:=HX2.out.1.kept hg3 (by simp) (by simp)
             have hgw3:=HX2.out.2.andThen hg3 (fun j hj=>by cases hj))
          | go_in)
        go_roundw
        case rel=>exact ⟨_,cnt1,by rw [← Fk_stays hap (show WideAt.IsKeyLit (.int .u64 x) from trivial) HX.out.2.2.1 (by rw [HPD.out];exact decide_eq_false (by omega)) HX.out.2.2.2.1];exact hrg3,hgw3⟩
        case measure=>rw [hrg3.left_eq,HV.out.left_eq];exact HX.out.2.2.2.2.2
end Go.Proofs.YticjodhkmidljaaGreatDoor
