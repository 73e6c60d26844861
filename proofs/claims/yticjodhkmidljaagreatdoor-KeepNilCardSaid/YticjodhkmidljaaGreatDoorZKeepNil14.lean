/- Log (plain): the records of a log's disk, how many of them are synced. No condition. -/
import Derived.Test.YticjodhkmidljaaGreatDoorZKeepNil13
import Derived.Test.YticjodhkmidljaaGreatDoorZKeepNil12
import Derived.Test.YticjodhkmidljaaGreatDoorZKeepNil11
namespace Go.Proofs.YticjodhkmidljaaGreatDoor
/-- A disk that holds the records X, of which s at least are synced, in c + 1 segments at most, and torn bytes. -/
def LgT (D:DskV) (X:List Bs) (s c:Nat):Prop:=(Lg0 D∧X=[]∧s=0)∨∃ a P R t y,Lg D a P R t y∧X=P.flatten++R∧s=P.flatten.length+y∧a+P.length≤c+1
/-- .. without torn bytes. -/
def LgS (D:DskV) (X:List Bs) (s c:Nat):Prop:=(Lg0 D∧X=[]∧s=0)∨∃ a P R y,Lg D a P R [] y∧X=P.flatten++R∧s=P.flatten.length+y∧a+P.length≤c+1
section
variable {D : DskV} {X : List Bs} {s c : Nat}
theorem LgS.t (h:LgS D X s c):LgT D X s c:=by
  rcases h with h | ⟨a,P,R,y,h⟩
  · exact .inl h
  · exact .inr ⟨a,P,R,[],y,h⟩
theorem LgT.le (h:LgT D X s c):s≤X.length:=by
  rcases h with ⟨_,rfl,rfl⟩ | ⟨a,P,R,t,y,h1,rfl,rfl,_⟩
  · exact Nat.le_refl _
  · rw [List.length_append];have:=h1.yR;omega
theorem LgT.wide (h:LgT D X s c) {c':Nat} (hc:c≤c'):LgT D X s c':=by
  rcases h with h | ⟨a,P,R,t,y,h1,h2,h3,h4⟩
  · exact .inl h
  · exact .inr ⟨a,P,R,t,y,h1,h2,h3,by omega⟩
theorem LgS.wide (h:LgS D X s c) {c':Nat} (hc:c≤c'):LgS D X s c':=by
  rcases h with h | ⟨a,P,R,y,h1,h2,h3,h4⟩
  · exact .inl h
  · exact .inr ⟨a,P,R,y,h1,h2,h3,by omega⟩
theorem LgT.same (h:LgT D X s c) {D':DskV} (hf:D'.fs=D.fs) (hr:D'.room=D.room):LgT D' X s c:=by
  rcases h with ⟨h1,h2⟩ | ⟨a,P,R,t,y,h1,h2⟩
  · exact .inl ⟨⟨hf.trans h1.fs,hr.trans h1.room⟩,h2⟩
  · exact .inr ⟨a,P,R,t,y,h1.same hf hr,h2⟩
theorem LgS.same (h:LgS D X s c) {D':DskV} (hf:D'.fs=D.fs) (hr:D'.room=D.room):LgS D' X s c:=by
  rcases h with ⟨h1,h2⟩ | ⟨a,P,R,y,h1,h2⟩
  · exact .inl ⟨⟨hf.trans h1.fs,hr.trans h1.room⟩,h2⟩
  · exact .inr ⟨a,P,R,y,h1.same hf hr,h2⟩
theorem LgT.good (h:LgT D X s c) : ¬ Spoilt (segL D.fs)∧recL (segL D.fs)=X:=by
  rcases h with ⟨h1,rfl,rfl⟩ | ⟨a,P,R,t,y,h1,rfl,rfl,_⟩
  · rw [h1.fs]
    refine ⟨?_,rfl⟩
    rintro ⟨i,x,hx,_⟩
    simp [segL] at hx
  · exact ⟨h1.good,h1.recs⟩
theorem LgT.names (h:LgT D X s c):(∀ f ∈ D.fs,f.nm.length≤9)∧D.fs.length≤200:=by
  rcases h with ⟨h1,_⟩ | ⟨a,P,R,t,y,h1,_⟩
  · rw [h1.fs]
    exact ⟨fun f hf=>(by cases hf),by decide⟩
  · refine ⟨fun f hf=>?_,h1.flen⟩
    have hn:=h1.num
    rw [h1.fs] at hf
    rcases List.mem_append.1 hf with q | q
    · obtain ⟨k,Q,h1,_,rfl⟩:=whs_mem _ _ _ q
      exact Nat.le_of_eq (sname_len (by omega) (by omega))
    · rw [List.mem_singleton.1 q]
      exact Nat.le_of_eq (sname_len (n:=a+P.length) (by omega) (by omega))
theorem LgS.room (h:LgS D X s c):D.room+(frsL X).length=4194304:=by
  rcases h with ⟨h1,rfl,rfl⟩ | ⟨a,P,R,y,h1,rfl,rfl,_⟩
  · rw [h1.room];rfl
  · have h2:=h1.tot
    have h3:=h1.sum
    rw [frsL_app,List.length_append]
    simp at h2
    omega
theorem lgt_open (h:LgT D X s c) (hd:D.dead=false):∃ D',lopenD D=(D',0)∧LgS D' X X.length c∧D'.dead=false∧D'.fuse=D.fuse:=by
  rcases h with ⟨h1,rfl,rfl⟩ | ⟨a,P,R,t,y,h1,rfl,rfl,h2⟩
  · exact ⟨D,lg0_open h1,.inl ⟨h1,rfl,rfl⟩,hd,rfl⟩
  · obtain ⟨D',k1,k2,k3,k4⟩:=lg_open h1 hd
    exact ⟨D',k1,.inr ⟨a,P,R,_,k2,rfl,by rw [List.length_append],h2⟩,k3,k4⟩
theorem lgs_add (h:LgS D X s c) (hd:D.dead=false) (hc:c≤190) {r:Bs} (hr:frOk r) (hroom:(frL r).length+(frsL X).length≤4194304) :
    (∃ D' s',laddD D r=(D',0)∧LgS D' (X++[r]) s' (c+1)∧s≤s'∧D'.dead=false∧(D.fuse=none→D'.fuse=none)) ∨
    (∃ D' X' s',laddD D r=(D',9)∧LgT D' X' s' (c+1)∧X <+: X'∧X' <+: X++[r]∧s≤s'∧D'.dead=true∧D'.fuse=none∧D.fuse≠none):=by
  have hrm:=h.room
  have hr1:Oks [r]:=fun x hx=>by rw [List.mem_singleton.1 hx];exact hr
  have take1:∀ j,[r].take j=[]∨[r].take j=[r]:=fun j=>by cases j <;> simp
  unfold laddD
  rw [if_neg (fun q=>q hr)]
  rcases h with ⟨h1,rfl,rfl⟩ | ⟨a,P,R,y,h1,rfl,rfl,h2⟩
  · rw [h1.last]
    dsimp only
    rcases lg0_new h1 hd hr1 (by rw [frsL_one];omega) with ⟨D',k1,k2,k3,k4⟩ | ⟨D',j,t,k1,k2,k3,k4,k5,k6⟩
    · rw [frsL_one] at k1
      exact .inl ⟨D',0,k1,.inr ⟨1,[],[r],0,k2,rfl,rfl,by simp⟩,Nat.le_refl _,k3,k4⟩
    · rw [frsL_one] at k1
      refine .inr ⟨D',[r].take j,0,k1,.inr ⟨1,[],[r].take j,t,0,k3,rfl,rfl,by simp⟩,List.nil_prefix,List.take_prefix _ _,Nat.le_refl _,k4,k5,k6⟩
  · rw [h1.last]
    dsimp only
    rw [show (lastF (a+P.length) R [] y).nm=sname (a+P.length) from rfl]
    have hc2:c+1≤191:=by omega
    by_cases hl:(lastF (a+P.length) R [] y).by_.length<1024
    · rw [if_pos hl]
      rcases lg_app h1 hd hr (by omega) with ⟨D',k1,k2,k3,k4⟩ | ⟨D',t,k1,k2,k3,k4,k5⟩
      · exact .inl ⟨D',_,k1,.inr ⟨a,P,_,y,k2,by rw [List.append_assoc],rfl,by omega⟩,Nat.le_refl _,k3,k4⟩
      · exact .inr ⟨D',_,_,k1,.inr ⟨a,P,R,t,y,k2,rfl,rfl,by omega⟩,List.prefix_refl _,List.prefix_append _ _,Nat.le_refl _,k3,k4,k5⟩
    · rw [if_neg hl]
      obtain ⟨D1,e1,e2,e3,e4⟩:=lg_sync h1 hd
      have hy:=h1.yR
      rw [e1,if_neg (by simp),if_neg (by omega)]
      dsimp only
      have hrm1:D1.room=D.room:=by
        have q1:=e2.tot
        have q2:=e2.sum
        have q3:=h1.tot
        have q4:=h1.sum
        omega
      rcases lg_new e2 (by omega) e3 hr1 (by rw [frsL_one,hrm1];omega) with ⟨D',k1,k2,k3,k4⟩ | ⟨D',j,t,k1,k2,k3,k4,k5,k6⟩
      · rw [frsL_one] at k1
        refine .inl ⟨D',(P++[R]).flatten.length+0,k1,.inr ⟨a,P++[R],[r],0,k2,by simp,rfl,by rw [List.length_append,List.length_singleton];omega⟩,by simp;omega,k3,fun q=>k4 (e4.trans q)⟩
      · rw [frsL_one] at k1
        refine .inr ⟨D',(P++[R]).flatten++[r].take j,(P++[R]).flatten.length+0,k1,.inr ⟨a,P++[R],[r].take j,t,0,k3,rfl,rfl,by rw [List.length_append,List.length_singleton];omega⟩,?_,?_,by simp;omega,k4,k5,by rw [← e4];exact k6⟩
        · simp only [List.flatten_append,List.flatten_singleton]
          exact List.prefix_append _ _
        · simp only [List.flatten_append,List.flatten_singleton]
          exact (List.prefix_append_right_inj _).2 (List.take_prefix _ _)
end
theorem cutK_whs:∀ (a:Nat) (P:List (List Bs)) (k:Option Nat) (r:List FilV),cutK k (whs a P++r)=whs a P++cutK k r
  | _,[],_,_=>rfl
  | a,R::P,k,r=>by
    have h2:stayN k (segW a R)=0:=by have:=stay_le k (segW a R);unfold segW at this ⊢; simp at this;exact this
    have h3:leftN k (segW a R)=k:=by
      unfold leftN
      rw [h2]
      cases k <;> rfl
    rw [whs,List.cons_append,cutK,h3,cutK_whs]
    rw [List.cons_append]
    congr 1
    unfold cutF
    rw [h2]
    unfold segW
    dsimp only
    rw [Nat.add_zero,List.take_length]
theorem lgs_crash {D:DskV} {X:List Bs} {s c:Nat} (h:LgS D X s c) (hd:D.dead=false) (n:Int) (hsy:∀ f ∈ D.fs,f.sy≤f.by_.length) :
    ∃ D' X',crashD D n=(D',0)∧LgT D' X' s c∧X' <+: X∧s≤X'.length∧D'.dead=true∧D'.fuse=none:=by
  have hle:=h.t.le
  rcases h with ⟨h1,rfl,rfl⟩ | ⟨a,P,R,y,h1,rfl,rfl,h2⟩
  · refine ⟨{ D with fuse:=none,dead:=true },[],?_,.inl ⟨⟨h1.fs,h1.room⟩,rfl,rfl⟩,List.prefix_refl _,Nat.le_refl _,rfl,rfl⟩
    have e:(crAll D (keepN n) D.fs).1=D:=by rw [h1.fs];rfl
    unfold crashD
    rw [if_neg (by rw [hd];simp),e]
  · have hfs:=cr_fs D (keepN n) h1.rise
    have hrm:=cr_room [] D.fs [] D (keepN n) (by simp) h1.rise hsy
    rw [h1.fs,cutK_whs] at hfs
    obtain ⟨f,hf⟩:∃ f,f=lastF (a+P.length) R [] y:=⟨_,rfl⟩
    rw [← hf] at hfs
    have hst:=stay_le (keepN n) f
    have hby:f.by_=frsL R:=by rw [hf];unfold lastF;rw [List.append_nil]
    have hsy2:f.sy=(frsL (R.take y)).length:=by rw [hf];rfl
    have hsyle:f.sy≤f.by_.length:=by rw [hby,hsy2];exact (frsL_take R y).length_le
    obtain ⟨j,t,j1,j2,j3,j4⟩:=torn_cut R h1.okR (f.sy+stayN (keepN n) f) (by rw [← hby];omega)
    have hyj:=j4 y h1.yR (by rw [← hsy2];omega)
    have hcf:cutF (keepN n) f=lastF (a+P.length) (R.take j) t y:=by
      unfold cutF
      rw [hby,j2]
      unfold lastF
      rw [List.take_take,Nat.min_eq_left hyj,hsy2,hf]
      rfl
    refine ⟨{ (crAll D (keepN n) D.fs).1 with fuse:=none,dead:=true },P.flatten++R.take j,?_,.inr ⟨a,P,R.take j,t,y,⟨?_,h1.ok,oks_take h1.okR j,h1.num,by rw [List.length_take];omega,j3,?_⟩,rfl,rfl,h2⟩,?_,?_,rfl,rfl⟩
    · unfold crashD
      rw [if_neg (by rw [hd];simp)]
    · show (crAll D (keepN n) D.fs).1.fs=_
      rw [h1.fs, ← hf,hfs]
      show whs a P++[cutF (keepN n) f]=_
      rw [hcf]
    · show (crAll D (keepN n) D.fs).1.room+totF (crAll D (keepN n) D.fs).1.fs=_
      rw [hrm]
      exact h1.sum
    · exact (List.prefix_append_right_inj _).2 (List.take_prefix _ _)
    · rw [List.length_append,List.length_take]
      omega
end Go.Proofs.YticjodhkmidljaaGreatDoor
namespace Go.Proofs.YticjodhkmidljaaGreatDoor
open Go.RowKit Go.Shelf
/-- A disk, all of whose blocks lie at N or behind. -/
def Dk (N p bb:Nat) (D:DskV) (w:World):Prop:=∃ n C L,DskAt w p bb n C L D∧∀ g ∈ L,N≤g∧g<w.heap.size
theorem Dk.below {N p bb:Nat} {D:DskV} {w w':World} (h:Dk N p bb D w) (hb:Below w.heap.size w w'):Dk N p bb D w':=by
  obtain ⟨n,C,L,h1,h2⟩:=h
  exact ⟨n,C,L,h1.keep (fun g hg=>hb.block g (h2 g hg).2),fun g hg=>⟨(h2 g hg).1,Nat.lt_of_lt_of_le (h2 g hg).2 hb.size⟩⟩
theorem new_dk (N:Nat) (w:World) (hN:N≤w.heap.size):Calls Tryz.prog 17 #[] w fun e w'=>∃ p bb,e=.returned (.pointer (some ⟨p,0,none⟩))∧Dk N p bb dsk0 w'∧Below N w w':=by
  refine (new_any w).mono ?_
  rintro e w' ⟨C,L,rfl,hd,hb,hl⟩
  obtain ⟨L2,hd2,h2⟩:=hd.trim
  exact ⟨_,_,rfl,⟨_,C,L2,hd2,fun g hg=>⟨Nat.le_trans hN (hl g (h2 g hg).1),(h2 g hg).2⟩⟩,hb.mono hN⟩
theorem turns_below {N:Nat} {L:List Nat} {w w':World} (h:Turns L w w') (hN:N≤w.heap.size) (hL:∀ g ∈ L,N≤g):Below N w w':=h.below (Below.refl _ _) hN hL
end Go.Proofs.YticjodhkmidljaaGreatDoor
namespace Go.Proofs.YticjodhkmidljaaGreatDoor
theorem goodF_nm (slot:Nat) (t:Bs):(goodF slot t).nm.length≤maxLen:=by
  show (bname slot).length≤_
  rw [bname_len]
  decide
theorem stF_nm (b:Nat × Bs):∀ f ∈ stF b,f.nm.length≤maxLen:=fun f hf=>by
  unfold stF at hf
  split at hf
  · cases hf
  · rw [List.mem_singleton.1 hf];exact goodF_nm _ _
end Go.Proofs.YticjodhkmidljaaGreatDoor
namespace Go.Proofs.YticjodhkmidljaaGreatDoor
def nmsL (D:DskV):List Bs:=(segL D.fs).map (fun x=>x.2.nm)
/-- May the elder segments be removed? -/
structure RemOk (D:DskV) (l:List Bs):Prop where
  dead:D.dead=false
  nd:l.Nodup
  mem:∀ nm ∈ l,∃ f ∈ D.fs,f.nm=nm
theorem rems_sum (l:List Bs):∀ (D:DskV),Rise D.fs→D.dead=false→l.Nodup→(∀ nm ∈ l,∃ f ∈ D.fs,f.nm=nm)→(rems D l).room+totF (rems D l).fs=D.room+totF D.fs:=by
  induction l with
  | nil=>intro D _ _ _ _;rfl
  | cons nm l ih =>
    intro D hr hd hn hm
    obtain ⟨hn1,hn2⟩:=List.nodup_cons.1 hn
    obtain ⟨f,hf,rfl⟩:=hm nm (List.mem_cons_self ..)
    have hg:=find_of hr hf
    have ht:=del_tot hr hg
    rw [rems_cons,rem_one hd hg]
    rw [ih { D with fs:=delF f.nm D.fs,room:=D.room+f.by_.length } (del_rise hr) hd hn2 (fun q hq=>by
      obtain ⟨x,hx,rfl⟩:=hm q (List.mem_cons_of_mem _ hq)
      exact ⟨x,List.mem_filter.2 ⟨hx,by simpa using fun e=>hn1 (by rw [← e];exact hq)⟩,rfl⟩)]
    show D.room+f.by_.length+totF (delF f.nm D.fs)=_
    omega
theorem whsN_nms:∀ (a:Nat) (P:List (List Bs)),(whsN a P).map (fun x=>x.2.nm)=(whs a P).map (fun f=>f.nm)
  | _,[]=>rfl
  | a,R::r=>by rw [whsN,whs,List.map_cons,List.map_cons,whsN_nms]
theorem Lg.nms {D:DskV} {a:Nat} {P:List (List Bs)} {R:List Bs} {t:Bs} {y:Nat} (h:Lg D a P R t y):nmsL D=(whs a (P++[R])).map (fun f=>f.nm):=by
  unfold nmsL
  rw [h.seg,List.map_append,whsN_nms,whs_snoc,List.map_append]
  rfl
theorem nms_nd {l:List FilV} (h:Rise l):(l.map (fun f=>f.nm)).Nodup:=List.pairwise_map.2 (List.Pairwise.imp (R:=fun f g:FilV=>f.nm<g.nm) (fun {a b} (hab:a.nm<b.nm) (e:a.nm=b.nm)=>by rw [e] at hab;exact List.lt_irrefl _ hab) h)
theorem lg_rem {D:DskV} {a n:Nat} {P:List (List Bs)} {R:List Bs} {y:Nat} (h:Lg D a P R [] y) (hd:D.dead=false) (hn:n=a+P.length) :
    RemOk D ((whs a P).map (fun f=>f.nm))∧Lg (rems D ((whs a P).map (fun f=>f.nm))) n [] R [] y∧(rems D ((whs a P).map (fun f=>f.nm))).dead=false∧(rems D ((whs a P).map (fun f=>f.nm))).fuse=D.fuse:=by
  subst hn
  have hnum:=h.num
  have hrw:Rise (whs a P):=whs_rise a P (by omega)
  have hm:∀ nm ∈ (whs a P).map (fun f=>f.nm),∃ f ∈ D.fs,f.nm=nm:=fun nm hnm=>by
    obtain ⟨f,hf,rfl⟩:=List.mem_map.1 hnm
    exact ⟨f,by rw [h.fs];exact List.mem_append_left _ hf,rfl⟩
  obtain ⟨r1,r2,r3⟩:=rems_spec _ D hd (nms_nd hrw) hm
  have r4:=rems_sum _ D h.rise hd (nms_nd hrw) hm
  refine ⟨⟨hd,nms_nd hrw,hm⟩,⟨?_,fun x hx=>(by cases hx),h.okR,⟨by omega,by simp;omega⟩,h.yR,h.tor,by rw [r4];exact h.sum⟩,r1,r2⟩
  rw [r3,h.fs,List.filter_append]
  have e1:(whs a P).filter (fun f=>decide (f.nm ∉ (whs a P).map (fun f=>f.nm)))=[]:=by
    rw [List.filter_eq_nil_iff]
    intro f hf
    simpa using ⟨f,hf,rfl⟩
  rw [e1,List.nil_append,List.filter_cons_of_pos]
  · rfl
  · simp only [decide_eq_true_eq]
    intro hq
    obtain ⟨f,hf,he⟩:=List.mem_map.1 hq
    obtain ⟨k,Q,k1,_,rfl⟩:=whs_mem _ _ _ hf
    have h3:sname (a+k)<sname (a+P.length):=sname_lt' (by omega) (by omega)
    have h4:sname (a+k)=sname (a+P.length):=he
    rw [h4] at h3
    exact List.lt_irrefl _ h3
theorem lgs_renew {D:DskV} {X:List Bs} {s c:Nat} (h:LgS D X s c) (hd:D.dead=false) (hc:c≤190) {rs:List Bs} (hr:Oks rs) (hroom:(frsL rs).length+(frsL X).length≤4194304) :
    (∃ D' n,lnewD D rs=(D',0)∧RemOk D' (nmsL D)∧Lg (rems D' (nmsL D)) n [] rs [] rs.length∧n≤c+2∧(rems D' (nmsL D)).dead=false∧(D.fuse=none→(rems D' (nmsL D)).fuse=none)) ∨
    (∃ D' j,lnewD D rs=(D',9)∧LgT D' (X++rs.take j) X.length (c+1)∧D'.dead=true∧D'.fuse=none∧D.fuse≠none):=by
  have hrm:=h.room
  unfold lnewD
  rcases h with ⟨h1,rfl,rfl⟩ | ⟨a,P,R,y,h1,rfl,rfl,h2⟩
  · have hn:nextN D=1:=by unfold nextN;rw [h1.last]
    have hnm:nmsL D=[]:=by unfold nmsL;rw [h1.fs];rfl
    rw [lg0_sync h1,if_neg (by simp),hn,if_neg (by omega),hnm]
    dsimp only
    rcases lg0_new h1 hd hr (by omega) with ⟨D',k1,k2,k3,k4⟩ | ⟨D',j,t,k1,k2,k3,k4,k5,k6⟩
    · rw [k1,if_neg (by simp)]
      dsimp only
      obtain ⟨D2,e1,e2,e3,e4⟩:=lg_sync k2 k3
      refine .inl ⟨D2,1,e1,⟨e3,List.nodup_nil,fun nm hnm=>(by cases hnm)⟩,e2,by omega,e3,fun q=>e4.trans (k4 q)⟩
    · rw [k1,if_pos (by simp)]
      exact .inr ⟨D',j,rfl,.inr ⟨1,[],rs.take j,t,0,k3,rfl,rfl,by simp⟩,k4,k5,k6⟩
  · obtain ⟨D1,e1,e2,e3,e4⟩:=lg_sync h1 hd
    have hn:nextN D=a+P.length+1:=by unfold nextN;rw [h1.last]
    have hy:=h1.yR
    have hrm1:D1.room=D.room:=by
      have q1:=e2.tot
      have q2:=e2.sum
      have q3:=h1.tot
      have q4:=h1.sum
      omega
    rw [e1,if_neg (by simp),hn,if_neg (by omega),h1.nms]
    dsimp only
    rcases lg_new e2 (by omega) e3 hr (by rw [hrm1];omega) with ⟨D',k1,k2,k3,k4⟩ | ⟨D',j,t,k1,k2,k3,k4,k5,k6⟩
    · rw [k1,if_neg (by simp)]
      dsimp only
      obtain ⟨D2,f1,f2,f3,f4⟩:=lg_sync k2 k3
      obtain ⟨g1,g2,g3,g4⟩:=lg_rem f2 f3 rfl
      refine .inl ⟨D2,_,f1,g1,g2,by rw [List.length_append,List.length_singleton];omega,g3,fun q=>g4.trans (f4.trans (k4 (e4.trans q)))⟩
    · rw [k1,if_pos (by simp)]
      refine .inr ⟨D',j,rfl,.inr ⟨a,P++[R],rs.take j,t,0,k3,by simp,by simp,by rw [List.length_append,List.length_singleton];omega⟩,k4,k5,by rw [← e4];exact k6⟩
end Go.Proofs.YticjodhkmidljaaGreatDoor
namespace Go.Proofs.YticjodhkmidljaaGreatDoor
theorem head_lt:∀ {a b:Bs},a.headD 0=98→b.headD 0=115→a<b
  | [],_,h,_=>absurd h (by decide)
  | _::_,[],_,h=>absurd h (by decide)
  | x::a,y::b,h1,h2=>by
    have h1':x=98:=h1
    have h2':y=115:=h2
    subst h1'
    subst h2'
    exact List.Lex.rel (by decide)
theorem head_ne {a b:Bs} (h1:a.headD 0=98) (h2:b.headD 0=115) : ¬ a=b:=fun e=>by
  rw [e,h2] at h1
  exact absurd h1 (by decide)
theorem head_nlt {a b:Bs} (h1:a.headD 0=98) (h2:b.headD 0=115) : ¬ b<a:=fun q=>List.lt_asymm q (head_lt h1 h2)
def LoS (B:List FilV):Prop:=∀ f ∈ B,f.nm.headD 0=98
def HiS (S:List FilV):Prop:=∀ f ∈ S,f.nm.headD 0=115
theorem find_none {nm:Bs}:∀ {l:List FilV},(∀ f ∈ l, ¬ f.nm=nm)→findF nm l=none
  | [],_=>rfl
  | g::r,h=>by
    unfold findF
    rw [List.find?_cons_of_neg (by simpa using h g (List.mem_cons_self ..))]
    exact find_none (fun f hf=>h f (List.mem_cons_of_mem _ hf))
theorem find_app {nm:Bs} (B S:List FilV):findF nm (B++S)=(findF nm B).or (findF nm S):=List.find?_append
theorem find_hi {B S:List FilV} {nm:Bs} (hB:LoS B) (hn:nm.headD 0=115):findF nm (B++S)=findF nm S:=by
  rw [find_app,find_none (fun f hf=>head_ne (hB f hf) hn)]
  rfl
theorem find_lo {B S:List FilV} {nm:Bs} (hS:HiS S) (hn:nm.headD 0=98):findF nm (B++S)=findF nm B:=by
  rw [find_app,find_none (l:=S) (fun f hf e=>head_ne hn (hS f hf) e.symm)]
  cases findF nm B <;> rfl
theorem put_hi {f:FilV} {S:List FilV} (hf:f.nm.headD 0=115):∀ {B:List FilV},LoS B→putF f (B++S)=B++putF f S
  | [],_=>rfl
  | g::r,h=>by
    have hg:=h g (List.mem_cons_self ..)
    rw [List.cons_append,putF,if_neg (head_ne hg hf),if_neg (head_nlt hg hf),put_hi hf (fun x hx=>h x (List.mem_cons_of_mem _ hx))]
    rfl
theorem put_lo {f:FilV} {S:List FilV} (hf:f.nm.headD 0=98) (hS:HiS S):∀ {B:List FilV},putF f (B++S)=putF f B++S
  | []=>by
    cases S with
    | nil=>rfl
    | cons g r =>
      have hg:=hS g (List.mem_cons_self ..)
      show putF f (g::r)=f::g::r
      rw [putF,if_neg (fun e=>head_ne hf hg e.symm),if_pos (head_lt hf hg)]
  | g::r=>by
    rw [List.cons_append,putF,putF,put_lo hf hS]
    split
    · rfl
    · split <;> rfl
theorem del_none {nm:Bs} {l:List FilV} (h:∀ f ∈ l, ¬ f.nm=nm):delF nm l=l:=List.filter_eq_self.2 (fun f hf=>by simpa using h f hf)
theorem del_hi {B S:List FilV} {nm:Bs} (hB:LoS B) (hn:nm.headD 0=115):delF nm (B++S)=B++delF nm S:=by
  have h1:=del_none (nm:=nm) (l:=B) (fun f hf=>head_ne (hB f hf) hn)
  unfold delF at h1 ⊢
  rw [List.filter_append,h1]
theorem del_lo {B S:List FilV} {nm:Bs} (hS:HiS S) (hn:nm.headD 0=98):delF nm (B++S)=delF nm B++S:=by
  have h1:=del_none (nm:=nm) (l:=S) (fun f hf e=>head_ne hn (hS f hf) e.symm)
  unfold delF at h1 ⊢
  rw [List.filter_append,h1]
theorem put_all {q:Bs→Prop} {f:FilV} (hf:q f.nm):∀ {l:List FilV},(∀ g ∈ l,q g.nm)→∀ g ∈ putF f l,q g.nm
  | [],_,g,hg=>by rw [List.mem_singleton.1 hg];exact hf
  | x::r,h,g,hg=>by
    unfold putF at hg
    split at hg
    · rcases List.mem_cons.1 hg with e | hg
      · rw [e];exact hf
      · exact h g (List.mem_cons_of_mem _ hg)
    · split at hg
      · rcases List.mem_cons.1 hg with e | hg
        · rw [e];exact hf
        · exact h g hg
      · rcases List.mem_cons.1 hg with e | hg
        · rw [e];exact h x (List.mem_cons_self ..)
        · exact put_all hf (fun y hy=>h y (List.mem_cons_of_mem _ hy)) g hg
theorem del_all {q:Bs→Prop} {nm:Bs} {l:List FilV} (h:∀ g ∈ l,q g.nm):∀ g ∈ delF nm l,q g.nm:=fun g hg=>h g (List.mem_filter.1 hg).1
theorem put_le (f:FilV):∀ l:List FilV,(putF f l).length≤l.length+1
  | []=>Nat.le_refl _
  | g::r=>by
    unfold putF
    split
    · simp
    · split
      · simp
      · have:=put_le f r
        simp only [List.length_cons]
        omega
/-- The log's view of a disk. -/
structure HiOf (B:List FilV) (D V:DskV):Prop where
  fs:D.fs=B++V.fs
  room:D.room+totF B=V.room
  fuse:D.fuse=V.fuse
  dead:D.dead=V.dead
  lo:LoS B
  hi:HiS V.fs
/-- The base's view of a disk. -/
structure LoOf (S:List FilV) (D V:DskV):Prop where
  fs:D.fs=V.fs++S
  room:D.room+totF S=V.room
  fuse:D.fuse=V.fuse
  dead:D.dead=V.dead
  lo:LoS V.fs
  hi:HiS S
section
variable {B S : List FilV} {D V V' : DskV} {nm s : Bs} {e : Nat}
theorem getD_nm (l:List FilV):((findF nm l).getD ⟨nm,[],0⟩).nm=nm:=by
  cases h:findF nm l with
  | none=>rfl
  | some f=>exact (find_nm h).1
theorem hi_app (h:HiOf B D V) (hn:nm.headD 0=115) (hr:s.length≤D.room) (hl:D.fs.length<1000) (he:appD V nm s=(V',e)):∃ D',appD D nm s=(D',e)∧HiOf B D' V':=by
  have hlv:V.fs.length<1000:=by
    have h2:=congrArg List.length h.fs
    rw [List.length_append] at h2
    omega
  have hfd:findF nm D.fs=findF nm V.fs:=by rw [h.fs];exact find_hi h.lo hn
  have key:∀ (x:Bs) (o:Option Nat) (d:Bool),x.length≤D.room→HiOf B ({ D.more ((findF nm D.fs).getD ⟨nm,[],0⟩) x with fuse:=o,dead:=d }:DskV) ({ V.more ((findF nm V.fs).getD ⟨nm,[],0⟩) x with fuse:=o,dead:=d }:DskV):=fun x o d hx=>by
    have hnm:=getD_nm (nm:=nm) V.fs
    refine ⟨?_,?_,rfl,rfl,h.lo,?_⟩
    · show putF { (findF nm D.fs).getD ⟨nm,[],0⟩ with by_:=_ } D.fs=B++putF { (findF nm V.fs).getD ⟨nm,[],0⟩ with by_:=_ } V.fs
      rw [hfd,h.fs]
      exact put_hi (by show ((findF nm V.fs).getD ⟨nm,[],0⟩).nm.headD 0=115;rw [hnm];exact hn) h.lo
    · show D.room - x.length+totF B=V.room - x.length
      have:=h.room
      omega
    · exact put_all (q:=fun n=>n.headD 0=115) (by show ((findF nm V.fs).getD ⟨nm,[],0⟩).nm.headD 0=115;rw [hnm];exact hn) h.hi
  have hd:=h.dead
  have hf:=h.fuse
  have hrm:=h.room
  unfold appD at he ⊢
  by_cases c1:V.dead=true
  · rw [if_pos c1] at he
    rw [if_pos (hd.trans c1)]
    cases he
    exact ⟨D,rfl,h⟩
  rw [if_neg c1] at he
  rw [if_neg (by rw [hd];exact c1)]
  by_cases c2:nm.length=0∨24<nm.length
  · rw [if_pos c2] at he ⊢
    cases he
    exact ⟨D,rfl,h⟩
  rw [if_neg c2] at he ⊢
  rw [if_neg (by omega)] at he
  rw [if_neg (by omega)]
  rw [hf]
  cases hu:V.fuse with
  | none =>
    rw [hu] at he
    dsimp only at he ⊢
    cases he
    have h2:=key s V.fuse V.dead hr
    refine ⟨_,rfl,⟨h2.fs,h2.room,?_,?_,h2.lo,h2.hi⟩⟩
    · exact hf
    · exact hd
  | some k =>
    rw [hu] at he
    dsimp only at he ⊢
    by_cases c3:k<s.length
    · rw [if_pos c3] at he ⊢
      cases he
      exact ⟨_,rfl,key (s.take k) none true (by rw [List.length_take];omega)⟩
    · rw [if_neg c3] at he ⊢
      cases he
      have h2:=key s (some (k - s.length)) V.dead hr
      exact ⟨_,rfl,⟨h2.fs,h2.room,rfl,hd,h2.lo,h2.hi⟩⟩
theorem hi_with {act:FilV→DskV × Nat} {act':FilV→DskV × Nat} (h:HiOf B D V) (hn:nm.headD 0=115) (ha:∀ f,findF nm V.fs=some f→f.nm=nm→∃ D',act f=(D',(act' f).2)∧HiOf B D' (act' f).1) (he:withD V nm act'=(V',e)):∃ D',withD D nm act=(D',e)∧HiOf B D' V':=by
  have hfd:findF nm D.fs=findF nm V.fs:=by rw [h.fs];exact find_hi h.lo hn
  unfold withD at he ⊢
  rw [h.dead,hfd]
  split
  · next hd =>
    rw [if_pos hd] at he
    cases he
    exact ⟨D,rfl,h⟩
  · next hd =>
    rw [if_neg hd] at he
    cases hf:findF nm V.fs with
    | none =>
      rw [hf] at he
      cases he
      exact ⟨D,rfl,h⟩
    | some f =>
      rw [hf] at he
      obtain ⟨D',h1,h2⟩:=ha f hf (find_nm hf).1
      have he':act' f=(V',e):=he
      rw [he'] at h1 h2
      exact ⟨D',h1,h2⟩
theorem hi_sync (h:HiOf B D V) (hn:nm.headD 0=115) (he:syncD V nm=(V',e)):∃ D',syncD D nm=(D',e)∧HiOf B D' V' :=
  hi_with h hn (fun f _ hfn=>⟨_,rfl,by
    refine ⟨?_,h.room,h.fuse,h.dead,h.lo,put_all (q:=fun n=>n.headD 0=115) (by show f.nm.headD 0=115;rw [hfn];exact hn) h.hi⟩
    show putF _ D.fs=B++putF _ V.fs
    rw [h.fs]
    exact put_hi (by show f.nm.headD 0=115;rw [hfn];exact hn) h.lo⟩) he
theorem hi_cut {n:Int} (h:HiOf B D V) (hn:nm.headD 0=115) (he:cutD V nm n=(V',e)):∃ D',cutD D nm n=(D',e)∧HiOf B D' V' :=
  hi_with h hn (fun f _ hfn=>by
    by_cases c:n<(f.sy:Int)∨(f.by_.length:Int)<n
    · rw [if_pos c,if_pos c]
      exact ⟨D,rfl,h⟩
    · rw [if_neg c,if_neg c]
      refine ⟨_,rfl,?_,?_,h.fuse,h.dead,h.lo,put_all (q:=fun n=>n.headD 0=115) (by show f.nm.headD 0=115;rw [hfn];exact hn) h.hi⟩
      · show putF _ D.fs=B++putF _ V.fs
        rw [h.fs]
        exact put_hi (by show f.nm.headD 0=115;rw [hfn];exact hn) h.lo
      · show D.room+_+totF B=V.room+_
        have:=h.room
        omega) he
theorem hi_rem (h:HiOf B D V) (hn:nm.headD 0=115) (he:remD V nm=(V',e)):∃ D',remD D nm=(D',e)∧HiOf B D' V' :=
  hi_with h hn (fun f _ hfn=>by
    refine ⟨_,rfl,?_,?_,h.fuse,h.dead,h.lo,del_all (q:=fun n=>n.headD 0=115) h.hi⟩
    · show delF nm D.fs=B++delF nm V.fs
      rw [h.fs]
      exact del_hi h.lo hn
    · show D.room+f.by_.length+totF B=V.room+f.by_.length
      have:=h.room
      omega) he
theorem seg_lo {B:List FilV} (hB:LoS B):segL B=[]:=by
  unfold segL
  rw [List.filterMap_eq_nil_iff]
  intro f hf
  unfold segF numN
  rw [if_neg (fun q=>by have h1:=hB f hf;rw [q.2] at h1;exact absurd h1 (by decide))]
  rfl
theorem HiOf.seg (h:HiOf B D V):segL D.fs=segL V.fs:=by rw [h.fs,segL_app,seg_lo h.lo];rfl
theorem HiOf.last (h:HiOf B D V):lastS D=lastS V:=by unfold lastS;rw [h.seg]
theorem HiOf.last_nm (h:HiOf B D V) {x:Nat × FilV} (hx:lastS V=some x):x.2.nm.headD 0=115:=h.hi _ (seg_mem (List.mem_of_getLast? hx)).1
theorem sync_room (he:syncD D nm=(V',e)):V'.room=D.room∧V'.fs.length≤D.fs.length+1:=by
  unfold syncD withD at he
  split at he
  · cases he
    exact ⟨rfl,Nat.le_succ _⟩
  · split at he
    · cases he
      exact ⟨rfl,put_le _ _⟩
    · cases he
      exact ⟨rfl,Nat.le_succ _⟩
theorem hi_lsync (h:HiOf B D V) (he:lsyncD V=(V',e)):∃ D',lsyncD D=(D',e)∧HiOf B D' V':=by
  unfold lsyncD at he ⊢
  rw [h.last]
  cases hx:lastS V with
  | none =>
    rw [hx] at he
    cases he
    exact ⟨D,rfl,h⟩
  | some x =>
    rw [hx] at he
    exact hi_sync h (h.last_nm hx) he
theorem hi_lopen (h:HiOf B D V) (he:lopenD V=(V',e)):∃ D',lopenD D=(D',e)∧HiOf B D' V':=by
  unfold lopenD at he ⊢
  rw [h.last,h.seg]
  cases hx:lastS V with
  | none =>
    rw [hx] at he
    cases he
    exact ⟨D,rfl,h⟩
  | some x =>
    rw [hx] at he
    dsimp only at he ⊢
    obtain ⟨D1,e1,h1⟩:=hi_cut (n:=(endL (segL V.fs):Int)) (V':=(cutD V x.2.nm (endL (segL V.fs):Int)).1) (e:=(cutD V x.2.nm (endL (segL V.fs):Int)).2) h (h.last_nm hx) rfl
    rw [e1]
    dsimp only
    by_cases c:(cutD V x.2.nm (endL (segL V.fs):Int)).2≠0
    · rw [if_pos c] at he ⊢
      rw [he] at h1
      refine ⟨D1,?_,h1⟩
      rw [he]
    · rw [if_neg c] at he ⊢
      exact hi_lsync h1 he
theorem sname_hi (n:Nat):(sname n).headD 0=115:=rfl
theorem hi_ladd {r:Bs} (h:HiOf B D V) (hr:(frL r).length≤D.room) (hl:D.fs.length<999) (he:laddD V r=(V',e)):∃ D',laddD D r=(D',e)∧HiOf B D' V':=by
  unfold laddD at he ⊢
  by_cases c : ¬ frOk r
  · rw [if_pos c] at he ⊢
    cases he
    exact ⟨D,rfl,h⟩
  rw [if_neg c] at he ⊢
  rw [h.last]
  cases hx:lastS V with
  | none =>
    rw [hx] at he
    exact hi_app h (sname_hi 1) hr (by omega) he
  | some x =>
    rw [hx] at he
    dsimp only at he ⊢
    by_cases c1:x.2.by_.length<1024
    · rw [if_pos c1] at he ⊢
      exact hi_app h (h.last_nm hx) hr (by omega) he
    rw [if_neg c1] at he ⊢
    obtain ⟨D1,e1,h1⟩:=hi_lsync (V':=(lsyncD V).1) (e:=(lsyncD V).2) h rfl
    rw [e1]
    dsimp only
    by_cases c2:(lsyncD V).2≠0
    · rw [if_pos c2] at he ⊢
      rw [he] at h1
      exact ⟨D1,by rw [he],h1⟩
    rw [if_neg c2] at he ⊢
    by_cases c3:x.1=99999999
    · rw [if_pos c3] at he ⊢
      cases he
      exact ⟨D1,rfl,h1⟩
    rw [if_neg c3] at he ⊢
    have hsy:D1.room=D.room∧D1.fs.length≤D.fs.length+1:=by
      have q:=e1
      unfold lsyncD at q
      rw [h.last,hx] at q
      exact sync_room q
    exact hi_app h1 (sname_hi _) (by rw [hsy.1];exact hr) (by have:=hsy.2;omega) he
end
end Go.Proofs.YticjodhkmidljaaGreatDoor
namespace Go.Proofs.YticjodhkmidljaaGreatDoor
open Go.RowKit Go.Shelf
attribute [local go_sem] Oper.semAt_some
/-- The insides, as values. -/
def encI (l:List (Nat × Bs)):List Value:=encS (l.map (fun x=>x.2))
theorem encI_snoc (l:List (Nat × Bs)) (x:Nat × Bs):encI (l++[x])=encI l++[.string ⟨x.2.toArray⟩]:=by simp [encI,encS,encStr]
/-- Split, between its rounds. -/
structure SplI (s:Bs) (w:World) (Y:Nat→Prop) (pre:List (Nat × Bs)) (y:World) (v:Value) (B:Nat):Prop where
  box:y.heap[w.heap.size]?=some (.cells #[v] 60 (0,0))
  own:y.ownsRow B 9 1 v pre.length (encI pre)
  far:w.heap.size+5≤B∧(v=.slice none 0 0∧pre=[]∨∀ r,Y r→r<B)
  rd:FrRd (w.heap.size+3) (w.heap.size+4) (w.heap.size+1) (w.heap.size+2) s y
  bel:Below w.heap.size w y
theorem FrRd.keep {gs ge t6 t7:Nat} {s:Bs} {y y':World} (h:FrRd gs ge t6 t7 s y) (hk:∀ g,g=gs∨g=ge∨g=t6∨g=t7→g<y.heap.size→y'.heap[g]?=y.heap[g]?):FrRd gs ge t6 t7 s y':=by
  obtain ⟨a,ha⟩:=h.a
  obtain ⟨b,hb⟩:=h.b
  exact ⟨(hk _ (.inl rfl) (Array.getElem?_eq_some_iff.1 h.s).1).trans h.s,(hk _ (.inr (.inl rfl)) (Array.getElem?_eq_some_iff.1 h.e).1).trans h.e,
    ⟨a,(hk _ (.inr (.inr (.inl rfl))) (Array.getElem?_eq_some_iff.1 ha).1).trans ha⟩,⟨b,(hk _ (.inr (.inr (.inr rfl))) (Array.getElem?_eq_some_iff.1 hb).1).trans hb⟩⟩
theorem SplI.turn {s:Bs} {w w2:World} {Y:Nat→Prop} {pre:List (Nat × Bs)} {y:World} {v:Value} {B:Nat} (h:SplI s w Y pre y v B) (hw:w.heap.size+5≤w2.heap.size) (hY:NewY Y w2) {y':World} {row:Option Nat} (hg:y.grownBy y' row) (hr:∀ r,row=some r→Y r):SplI s w Y pre y' v B:=by
  have hz:∀ r,row=some r→w.heap.size+5≤r:=fun r e=>Nat.le_trans hw (hY r (hr r e))
  refine ⟨(hg.block _ (Array.getElem?_eq_some_iff.1 h.box).1 (fun e=>by have:=hz _ e.symm;omega)).trans h.box,own_stay h.own (fun k hk hB hl=>hg.block k hl (fun e=>?_)),h.far,h.rd.keep (fun g hg2 hl=>hg.block g hl (fun e=>by have:=hz _ e.symm;omega)),
    below_grown hg h.bel h.bel.size (fun k e=>by have:=hz k e;omega)⟩
  rcases h.far.2 with ⟨rfl,_⟩ | q
  · cases hk
  · have:=q k (hr k e.symm)
    omega
theorem FrP.le8 {s:Bs} {l:List (Nat × Bs)} {k:Nat} (h:FrP s l k):l.length≤k:=by
  induction h with
  | nil=>exact Nat.le_refl _
  | snoc h hk he ih =>
    have:=(takeF_adv he).1
    rw [List.length_append,List.length_singleton]
    omega
/-- The iterator's end turns two boxes. -/
theorem SplI.fin {s:Bs} {w:World} {Y:Nat→Prop} {pre:List (Nat × Bs)} {y y':World} {v:Value} {B:Nat} (h:SplI s w Y pre y v B) (ht:Turns [w.heap.size+1,w.heap.size+2] y y') (hf:FrFin (w.heap.size+1) (w.heap.size+2) s pre y'):SplI s w Y pre y' v B:=by
  obtain ⟨k,c,_,h6,h7⟩:=hf
  have kp:∀ {g:Nat} {o:Obj},y.heap[g]?=some o→g≠w.heap.size+1→g≠w.heap.size+2→y'.heap[g]?=some o:=fun {g o} hg h1 h2=>(ht.block g (Array.getElem?_eq_some_iff.1 hg).1 (by simp;omega)).trans hg
  have hfar:=h.far.1
  refine ⟨kp h.box (by omega) (by omega),own_stay h.own (fun k hk hB hl=>?_),h.far,⟨kp h.rd.s (by omega) (by omega),kp h.rd.e (by omega) (by omega),⟨_,h6⟩,⟨_,h7⟩⟩,h.bel.trans ⟨ht.os,ht.tape,ht.out,ht.size,fun g hg=>ht.block g (by have:=h.bel.size;omega) (by simp;omega)⟩⟩
  exact ht.block k hl (by simp;omega)
/-- An inside is put behind the others. -/
theorem SplI.next {s:Bs} {w w2:World} {Y:Nat→Prop} {pre:List (Nat × Bs)} {x:Nat × Bs} {W v2 w4:World} {v v4:Value} {B:Nat} (h:SplI s w Y pre W v B) (hw:w.heap.size+5≤w2.heap.size) (hY:NewY Y w2) (hYl:∀ r,Y r→r<B)
    (hb2:Below W.heap.size W v2) (ho:w4.ownsRow B 9 1 v4 (pre.length+1) (encI pre++[.string ⟨x.2.toArray⟩])) (hg:v2.grownBy w4 v.ownBlock):KeptZ Y W (w4.setCell ⟨w.heap.size,0,none⟩ v4)∧SplI s w Y (pre++[x]) (w4.setCell ⟨w.heap.size,0,none⟩ v4) v4 B:=by
  have hf:=h.far.1
  have hvb:∀ k,v.ownBlock=some k→B≤k:=fun k e=>(own_at h.own e).1
  have hbl:∀ k,k<W.heap.size→k<B→w4.heap[k]?=W.heap[k]?:=fun k hl hB=>(hg.block k (Nat.lt_of_lt_of_le hl hb2.size) (fun e=>by have:=hvb k e.symm;omega)).trans (hb2.block k hl)
  have hset:∀ k,k≠w.heap.size→(w4.setCell ⟨w.heap.size,0,none⟩ v4).heap[k]?=w4.heap[k]?:=fun k hk=>setC_other hk
  have hbox:=(hbl _ (Array.getElem?_eq_some_iff.1 h.box).1 (by omega)).trans h.box
  have hb4:Below w.heap.size w w4:=below_grown hg (h.bel.trans (hb2.mono h.bel.size)) (Nat.le_trans h.bel.size hb2.size) (fun k e=>by have:=hvb k e;omega)
  refine ⟨fun r o hr ho2=>(hset r (by have:=hY r hr;omega)).trans ((hbl r (Array.getElem?_eq_some_iff.1 ho2).1 (hYl r hr)).trans ho2),?_,?_,⟨hf,.inr hYl⟩,h.rd.keep (fun g hg2 hl=>(hset _ (by omega)).trans (hbl g hl (by omega))),hb4.setCell (p:=⟨w.heap.size,0,none⟩) (Nat.le_refl _) v4⟩
  · exact heap_setCell_same w4 w.heap.size 0 #[v] _ v4 hbox
  · rw [List.length_append,List.length_singleton,encI_snoc]
    exact own_stay ho (fun k hk hB _=>hset k (by omega))
set_option maxRecDepth 100000 in
set_option maxHeartbeats 4000000 in
theorem split_in (s:Bs) (hs:s.length≤8000000) (w:World) :
    CallsIn Fence.wide 9 Tryz.prog 84 #[.string ⟨s.toArray⟩] w fun e w'=>∃ v,e=.returned (.tuple #[v,.int .i64 ((splD s).2.1:Int),.int .i64 ((splD s).2.2:Int)])∧w'.ownsRow w.heap.size 9 1 v (splD s).1.length (encS (splD s).1)∧Below w.heap.size w w':=by
  obtain ⟨S,hS⟩:∃ S:ByteArray,S=⟨s.toArray⟩:=⟨_,rfl⟩
  rw [← hS]
  have HS:=Lib.hid (And.intro hS hs)
  have HFR:=Lib.hid (fun (y:World)=>by have h2:=frames_any S (w.heap.size+1) (w.heap.size+2) y;exact h2)
  clear hS hs
  refine callsIn_of_wp_marks Tryz.func84 rfl trivial ?_ rfl
  simp only [Tryz.ntmps84,List.size_toArray,List.length_cons,List.length_nil,Nat.reduceAdd,Nat.reduceSub,Array.replicate_succ,Array.replicate_zero,List.push_toArray,List.append_toArray,List.nil_append,List.cons_append]
  gi_wp2_with (first
    | (refine ⟨trivial,?_⟩;simp only [Nat.add_assoc,Nat.reduceAdd];(with_reducible refine (callsIn_wide.2 (HFR.out _)).mono ?_);rintro e w2 ⟨rfl,hbs,hbe,hb2⟩;dsimp only)
    | gi_in)
  simp only [World.size_alloc,Nat.add_assoc,Nat.reduceAdd] at hbs hbe hb2 ⊢
  obtain ⟨E,hE⟩:∃ E,E=(((w.alloc (.cells #[.slice none 0 0] 60)).alloc (.cells #[.int .i64 0] 3)).alloc (.cells #[.int .i64 0] 28)):=⟨_,rfl⟩
  rw [← hE] at hb2
  have eE:E.heap.size=w.heap.size+3:=by rw [hE];simp
  have bE:Below w.heap.size w E:=by
    rw [hE]
    exact ((((Below.refl w.heap.size w).alloc (Nat.le_refl _) _).alloc (by simp) _).alloc (by simp;omega) _)
  have x:∀ (i:Nat) (o:Obj),E.heap[w.heap.size+i]?=some o→w2.heap[w.heap.size+i]?=some o:=fun i o hi=>(hb2.block _ (by have:=(Array.getElem?_eq_some_iff.1 hi).1;omega)).trans hi
  have x0:=x 0 _ (show E.heap[w.heap.size+0]?=some (.cells #[.slice none 0 0] 60 (0,0)) by rw [hE];exact allocs_at [.cells #[.slice none 0 0] 60,.cells #[.int .i64 0] 3,.cells #[.int .i64 0] 28] w 0 _ rfl)
  have x1:=x 1 _ (show E.heap[w.heap.size+1]?=some (.cells #[.int .i64 0] 3 (0,0)) by rw [hE];exact allocs_at [.cells #[.slice none 0 0] 60,.cells #[.int .i64 0] 3,.cells #[.int .i64 0] 28] w 1 _ rfl)
  have x2:=x 2 _ (show E.heap[w.heap.size+2]?=some (.cells #[.int .i64 0] 28 (0,0)) by rw [hE];exact allocs_at [.cells #[.slice none 0 0] 60,.cells #[.int .i64 0] 3,.cells #[.int .i64 0] 28] w 2 _ rfl)
  have hz2:w.heap.size+5≤w2.heap.size:=(Array.getElem?_eq_some_iff.1 hbe).1
  have bA:Below w.heap.size w w2:=bE.trans (hb2.mono (by omega))
  rw [HS.out.1] at hbs
  have HI0:=Lib.hid (fun (Y:Nat→Prop)=>show SplI s w Y [] w2 (.slice none 0 0) (w.heap.size+5) from ⟨x0,World.ownsRow_nil _ _ _ _,⟨Nat.le_refl _,.inl ⟨rfl,rfl⟩⟩,⟨hbs,hbe,⟨_,x1⟩,⟨_,x2⟩⟩,bA⟩)
  have HZ:=Lib.hid (And.intro hz2 bA.size)
  clear x x0 x1 x2 hb2 bE eE bA hE hbs hbe
  clear E
  refine wpIn_rangeE rfl (by decide) (gf:=139) (lb:=#[.pointer (some ⟨w.heap.size+3,0,none⟩),.pointer (some ⟨w.heap.size+4,0,none⟩)]) rfl trivial (enters_of Tryz.func139 (by kernel_rfl) rfl)
    (frames_stops _ (w.heap.size+3) (w.heap.size+4) (w.heap.size+1) (w.heap.size+2) s (by have:=HS.out.2;omega) (by omega) w2) (fun r hr=>by have:=HZ.out.1;simp at hr;omega) (?hFin) (Below.refl _ _) (fun _=>rfl)
    (fun Y pre W'=>∃ v B,SplI s w Y pre W' v B) (fun _ _ _ _=>False)
    (fun Y hY s A B row hs hg hr=>?hI) (fun _ _ _ _ _ _ _ h _ _=>h) (fun Y pre W' hI=>?hRd) (fun Y xs W1 W2 hY hS hI ht hf=>?hIT) (fun Y _=>⟨_,_,HI0.out Y⟩)
    (fun x=>{ tmps:=#[.string S,undef,.slice none 0 0,.int .i64 0,.int .i64 0,.pointer (some ⟨w.heap.size,0,none⟩),.pointer (some ⟨w.heap.size+1,0,none⟩),.pointer (some ⟨w.heap.size+2,0,none⟩),undef,.string ⟨x.2.toArray⟩,.string S,.func (.func 110) #[] #[.pointer (some ⟨w.heap.size+1,0,none⟩),.pointer (some ⟨w.heap.size+2,0,none⟩)],.func (.func 139) #[] #[.pointer (some ⟨w.heap.size+3,0,none⟩),.pointer (some ⟨w.heap.size+4,0,none⟩)],.int .i64 (x.1:Int),.string ⟨x.2.toArray⟩,undef,undef,undef,undef,undef,undef,undef],defers:=[] }) ?assign ?body ?done ?stop
  case hFin =>
    intro xs A B row hf hg hr
    obtain ⟨k,c,hE,h6,h7⟩:=hf
    have hz:∀ r,row=some r→w.heap.size+5≤r:=fun r e=>Nat.le_trans HZ.out.1 (hr r e)
    exact ⟨k,c,hE,(hg.block _ (Array.getElem?_eq_some_iff.1 h6).1 (fun e=>by have:=hz _ e.symm;omega)).trans h6,(hg.block _ (Array.getElem?_eq_some_iff.1 h7).1 (fun e=>by have:=hz _ e.symm;omega)).trans h7⟩
  case hI =>
    obtain ⟨v,B,hs⟩:=hs
    exact ⟨v,B,hs.turn HZ.out.1 hY hg hr⟩
  case hRd =>
    obtain ⟨v,B,hI⟩:=hI
    exact hI.rd
  case hIT =>
    obtain ⟨v,B,hI⟩:=hI
    exact ⟨v,B,hI.fin ht hf⟩
  case assign =>
    intro l' f W' K hK
    simp only [encP]
    gi_wp2
    exact hK
  case body =>
    rintro l' Y pre x W hY hYl ⟨v,B,hI⟩ ⟨kk,hSp⟩
    obtain ⟨iF,hiF,hzF,hsF,hbF⟩:=info_parts infoStr
    have hpl:pre.length+1≤8000000:=by
      have h1:=hSp.le8
      have h2:=hSp.le
      have:=HS.out.2
      rw [List.length_append,List.length_singleton] at h1
      omega
    obtain ⟨B',hB',hBW,hI'⟩:∃ B',(∀ r,Y r→r<B')∧B'≤W.heap.size∧SplI s w Y pre W v B':=by
      rcases hI.own.2 with ⟨rfl,h0⟩ | ⟨g,cap,cur,rfl,hb,hg,_⟩
      · have hp0:pre=[]:=List.length_eq_zero_iff.1 h0
        subst hp0
        exact ⟨W.heap.size,hYl,Nat.le_refl _,hI.box,World.ownsRow_nil _ _ _ _,⟨(Array.getElem?_eq_some_iff.1 hI.rd.e).1,.inl ⟨rfl,rfl⟩⟩,hI.rd,hI.bel⟩
      · exact ⟨B,hI.far.2.resolve_left (fun q=>by cases q.1),Nat.le_trans hb (Nat.le_of_lt (Array.getElem?_eq_some_iff.1 hg).1),hI⟩
    obtain ⟨A5,c5,rfl⟩:=own_slice_of hI'.own
    have q5:=cell_of_row _ _ 0 _ _ _ hI'.box
    rw [show (#[Value.slice A5 pre.length c5]:Array Value)[0]?=some (.slice A5 pre.length c5) from rfl] at q5
    have HI:=Lib.hid hI'
    have HY:=Lib.hid (And.intro hY (And.intro hB' hBW))
    have HF:=Lib.hid (And.intro hiF (And.intro hzF (And.intro hsF hbF)))
    have HP:=Lib.hid hpl
    clear hI hI' hY hYl hB' hBW hSp hpl hiF hzF hsF hbF
    gi_wp2_with (first
      | (gi_at_builtin;refine wpListIn_append2 _ rfl _ _ 60 rfl B' 9 iF _ 1 16 Tryz.underlying60 HF.out.1 HF.out.2.1 HF.out.2.2.1 HF.out.2.2.2 rfl (by decide) _ pre.length (encI pre) rfl (World.ownsRow.alloc HI.out.own _) ⟨W.heap.size,0,none⟩ 1 1 [.string ⟨x.2.toArray⟩] rfl rfl (cells_newF W [.string ⟨x.2.toArray⟩] _) (fun u hu=>by simp at hu;subst hu;rfl) (by have:=HP.out;unfold maxLen;omega) (by have:=HP.out;omega) (by have:=HY.out.2.2;simp;omega) ?_
         intro v' wA ho hg hq
         obtain ⟨A7,c7,rfl⟩:=own_slice_of ho
         have hba:=(Below.refl W.heap.size W).alloc (Nat.le_refl _) (.cells #[.string ⟨x.2.toArray⟩] 9)
         have r6A:wA.heap[w.heap.size]?=some (.cells #[.slice A5 pre.length c5] 60 (0,0)):=by
           have h0:=HI.out.box
           have h1:=(hba.block _ (Array.getElem?_eq_some_iff.1 h0).1).trans h0
           refine (hg.block _ (Array.getElem?_eq_some_iff.1 h1).1 (fun e=>?_)).trans h1
           have:=(own_at HI.out.own e.symm).1
           have:=HI.out.far.1
           omega
         have q6:=cell_of_row _ _ 0 _ _ _ r6A
         have f6:=thaw0 0 r6A
         have HX:=Lib.hid (HI.out.next HZ.out.1 HY.out.1 HY.out.2.1 hba ho hg)
         clear r6A
         clear ho hg hq hba q5)
      | gi_in)
    exact ⟨HX.out.1,_,_,HX.out.2⟩
  case stop =>
    intro Y c pre W hY hYw hSp hx
    exact hx.elim
  case done =>
    rintro Y ys W hY hYw hS ⟨v,B,hI⟩ ⟨k,c,hE,h6,h7⟩ hK
    have hsp:=hE.spl
    have HC:=Lib.hid (fun (y:World) (hy:Below W.heap.size W y)=>(show y.cell? ⟨w.heap.size,0,none⟩=some v∧y.cell? ⟨w.heap.size+1,0,none⟩=some (.int .i64 (k:Int))∧y.cell? ⟨w.heap.size+2,0,none⟩=some (.int .i64 (c:Int)) from
      ⟨cell_of_row _ _ 0 _ _ _ ((hy.block _ (Array.getElem?_eq_some_iff.1 hI.box).1).trans hI.box),cell_of_row _ _ 0 _ _ _ ((hy.block _ (Array.getElem?_eq_some_iff.1 h6).1).trans h6),cell_of_row _ _ 0 _ _ _ ((hy.block _ (Array.getElem?_eq_some_iff.1 h7).1).trans h7)⟩))
    have HT:=Lib.hid (And.intro hI (And.intro hsp (And.intro hY (And.intro hYw hK))))
    clear hI hS hE h6 h7 hsp hY hYw hK
    gi_wp2
    refine RegK.wpIn_region_calm (F:=Fence.wide) (KeptW W) [(0,0),(1,0),(2,0),(3,0),(4,0),(5,0)] (by kernel_rfl) (by kernel_rfl) (by kernel_rfl) ⟨rfl,rfl,rfl,Nat.le_refl _,fun _ _=>rfl⟩ ?_
    dsimp only [RegK.pick,List.getElem?_cons_zero,List.getElem?_cons_succ]
    change RegK.Can _ _ _ _ _ _ _ _ W.drew
    have hkd:KeptW W W.drew:=⟨rfl,rfl,rfl,Nat.le_refl _,fun _ _=>rfl⟩
    generalize W.drew=z1 at *
    refine RegK.can_reads ?_
    intro K hK
    go_simp
    refine ⟨v,fun y hy=>?_,hK _ ?_⟩
    · obtain ⟨c0,c1,c2⟩:=HC.out y (KeptW.bel hy)
      go_simp
    clear hK K
    refine RegK.can_reads ?_
    intro K hK
    go_simp
    refine ⟨.int .i64 (k:Int),fun y hy=>?_,hK _ ?_⟩
    · obtain ⟨c0,c1,c2⟩:=HC.out y (KeptW.bel hy)
      go_simp
    clear hK K
    refine RegK.can_reads ?_
    intro K hK
    go_simp
    refine ⟨.int .i64 (c:Int),fun y hy=>?_,hK _ ?_⟩
    · obtain ⟨c0,c1,c2⟩:=HC.out y (KeptW.bel hy)
      go_simp
    clear hK K
    iterate 3 (refine RegK.can_reads ?_;intro K hK;go_simp;(first | refine ⟨_,fun _ _=>rfl,hK _ ?_⟩ | refine hK _ ?_);clear hK K)
    refine RegK.can_calm ?_
    have hbz:=KeptW.bel hkd
    obtain ⟨hI,h2,hY,hYw,hK0⟩:=HT.out
    have hI1:=hI.turn HZ.out.1 hY (row:=none) (y':=z1) ⟨hbz.os,hbz.tape,hbz.output,hbz.size,fun q hq _=>hbz.block q hq⟩ (fun r e=>by cases e)
    have hK1:=(hbz.block _ (Array.getElem?_eq_some_iff.1 hK0).1).trans hK0
    have hIT:=hI1.turn HZ.out.1 hY (grownBy_putObj' z1 w2.heap.size (.deferred none)) (fun r e=>by cases e;exact hYw)
    have HT2:=Lib.hid (And.intro hIT (And.intro h2 hK1))
    clear hI hI1 hK0 hK1 hIT h2 hbz hkd hY hYw
    gi_wp2
    refine ⟨by simp,.inl ⟨_,_,rfl,run_takeDeferred HT2.out.2.2,?_⟩⟩
    have h2:=HT2.out.2.1
    refine ⟨.tuple #[v,.int .i64 (k:Int),.int .i64 (c:Int)],?_,v,?_,?_,HT2.out.1.bel⟩
    · simp [results,Tryz.results84,go_sem]
    · rw [h2]
    · rw [h2]
      have h3:=own_base HT2.out.1.own (base':=w.heap.size) (by have:=HT2.out.1.far.1;omega)
      dsimp only
      rw [List.length_map]
      exact h3
theorem split_any (s:Bs) (hs:s.length≤8000000) (w:World) :
    Calls Tryz.prog 84 #[.string ⟨s.toArray⟩] w fun e w'=>∃ v,e=.returned (.tuple #[v,.int .i64 ((splD s).2.1:Int),.int .i64 ((splD s).2.2:Int)])∧w'.ownsRow w.heap.size 9 1 v (splD s).1.length (encS (splD s).1)∧Below w.heap.size w w':=callsIn_wide.1 (split_in s hs w)
end Go.Proofs.YticjodhkmidljaaGreatDoor
namespace Go.Proofs.YticjodhkmidljaaGreatDoor
open Go.RowKit Go.Shelf
def segE (x:Nat × FilV):List Value:=.int .i64 (x.1:Int)::filE x.2
theorem segE_len (x:Nat × FilV):(segE x).length=4:=rfl
theorem segE_one (x:Nat × FilV):∀ u ∈ segE x,u.oneCell'=true:=by
  intro u hu
  rcases List.mem_cons.1 hu with rfl | hu
  · rfl
  · exact filE_one _ u hu
theorem infoSeg:(Tryz.prog.info? 114).map (fun i=>(i.zero,i.size,i.bytes))=some (some (.agg #[.int .i64 0,.string ⟨#[]⟩,.string ⟨#[]⟩,.int .i64 0]),4,48):=by kernel_rfl
set_option maxRecDepth 100000 in
set_option maxHeartbeats 4000000 in
theorem segments_any {p b n:Nat} {C:Bs→Nat} {L:List Nat} {D:DskV} (hlen:D.fs.length≤1000000) (w:World) (hv:PV w) (h:DskAt w p b n C L D) :
    Calls Tryz.prog 47 #[.pointer (some ⟨p,0,none⟩)] w fun e w'=>∃ v,e=.returned v∧w'.ownsRow w.heap.size 114 4 v (segL D.fs).length (flat segE (segL D.fs))∧Below w.heap.size w w':=by
  have HF:=Lib.hid (callsIn_wide.1 (files_in p b n C L D hlen w h))
  have HV:=Lib.hid hv
  obtain ⟨iS,hiS,hzS,hsS,hbS⟩:=info_parts infoSeg
  have HiS:=Lib.hid (And.intro hiS (And.intro hzS (And.intro hsS hbS)))
  clear h hv hiS hzS hsS hbS
  go_enter Tryz.func47,Tryz.ntmps47
  go_wp2_with ((with_reducible refine HF.out.mono ?_);rintro e w1 ⟨v,rfl,k1,k2⟩
               obtain ⟨A,c,rfl,Y,hY1,hY2⟩:=files_row rfl k1
               have HR:=Lib.hid (And.intro hY1 (And.intro hY2 k2));clear k1 k2 hY1 hY2)
  obtain ⟨N,hN⟩:∃ N,N=D.fs.length:=⟨_,rfl⟩
  rw [← hN]
  have HN:=Lib.hid hN
  have hN6:N≤1000000:=by rw [hN];exact hlen
  clear hN hlen
  go_loopw [3,11] (fun s3 s11 wr=>∃ i:Nat,s11=.int .i64 (i:Int)∧i≤N∧wr.ownsRow w1.heap.size 114 4 s3 (segL (D.fs.take i)).length (flat segE (segL (D.fs.take i)))∧Below w1.heap.size w1 wr) (fun _ s11 _=>N - (intOf s11).toNat)
  case atStart=>exact ⟨0,rfl,Nat.zero_le _,World.ownsRow_nil _ _ _ _,Below.refl _ _⟩
  case round =>
    obtain ⟨i,rfl,hi,ho,hb⟩:=hrel
    obtain ⟨A3,c3,rfl⟩:=own_slice_of ho
    have HO:=Lib.hid (And.intro ho hb)
    clear ho hb
    by_cases hiN:i<N
    · have hiI:(i:Int)<(N:Int):=by omega
      have hif:i<D.fs.length:=by rw [← HN.out];exact hiN
      obtain ⟨f,hf⟩:∃ f,f=D.fs[i]:=⟨_,rfl⟩
      obtain ⟨gk,rfl,hck⟩:=HR.out.2.1 i f (by rw [List.getElem?_eq_getElem hif,hf])
      obtain ⟨q0,q1,q2⟩:=hck wr (fun r o hr ho=>(HO.out.2.block r (HR.out.1 r hr).2).trans ho)
      have htake:D.fs.take (i+1)=D.fs.take i++[f]:=by rw [List.take_add_one,List.getElem?_eq_getElem hif,hf];rfl
      have hNU:=Lib.hid (fun (y:World) (hy:Below w1.heap.size w1 y)=>lnum_any ⟨f.nm.toArray⟩ y (HV.out.below (HR.out.2.2.trans (hy.mono HR.out.2.2.size))))
      have hsl:=segL_len (D.fs.take i)
      rw [List.length_take] at hsl
      have hs6:(segL (D.fs.take i)).length≤1000000:=by omega
      have hw1:wrap64 ((i:Int)+1)=((i+1:Nat):Int):=by unfold wrap64;omega
      have HT:=Lib.hid (And.intro htake hs6)
      have HB0:=Lib.hid (fun (o:Obj)=>HO.out.2.alloc HO.out.2.size o)
      clear hf hck hif htake hsl hs6
      cases hsg:numN f.nm with
      | none =>
        have hNU2:=Lib.hid (fun (y:World) (hy:Below w1.heap.size w1 y)=>by have h2:=hNU.out y hy;rw [show (⟨f.nm.toArray⟩:ByteArray).data.toList=f.nm from rfl,hsg] at h2;exact h2)
        have HBF:=Lib.hid (show segL (D.fs.take (i+1))=segL (D.fs.take i) from by rw [HT.out.1,segL_snoc];unfold segF;rw [hsg];simp)
        clear hsg hNU
        go_wp2_with (go_at_call 83;(with_reducible refine (hNU2.out _ (HB0.out _)).mono ?_);rintro e w3 ⟨rfl,hb3⟩;have HB3:=Lib.hid hb3;clear hb3)
        have hb4:=HB0.out (.cells (filE f).toArray 101)
        exact ⟨⟨i+1,by rw [Int.natCast_add];rfl,by omega,by rw [HBF.out];exact own_stay HO.out.1 (fun k hk hB hl=>(HB3.out.block k (by simp;omega)).trans (heap_alloc_old _ _ hl)),hb4.trans (HB3.out.mono hb4.size)⟩,by simp only [intOf];omega⟩
      | some sn =>
        have hNU2:=Lib.hid (fun (y:World) (hy:Below w1.heap.size w1 y)=>by have h2:=hNU.out y hy;rw [show (⟨f.nm.toArray⟩:ByteArray).data.toList=f.nm from rfl,hsg] at h2;exact h2)
        have HBF:=Lib.hid (show segL (D.fs.take (i+1))=segL (D.fs.take i)++[(sn,f)] from by rw [HT.out.1,segL_snoc];unfold segF;rw [hsg];rfl)
        clear hsg hNU
        obtain ⟨K,hK⟩:∃ K,K=(segL (D.fs.take i)).length:=⟨_,rfl⟩
        obtain ⟨XS,hXS⟩:∃ XS,XS=flat segE (segL (D.fs.take i)):=⟨_,rfl⟩
        have HO2:=Lib.hid (by have h2:=HO.out.1;rw [← hK, ← hXS] at h2;exact h2)
        have HK:=Lib.hid (And.intro hK hXS)
        rw [← hK]
        clear hK hXS
        go_wp2_with (first
          | (go_at_call 83;(with_reducible refine (hNU2.out _ (HB0.out _)).mono ?_);rintro e w3 ⟨rfl,hb3⟩
             have hr3:w3.heap[wr.heap.size]?=some (.cells (filE f).toArray 101 (0,0)):=(hb3.block wr.heap.size (by simp)).trans (heap_alloc_new wr _)
             have d0:w3.cell? ⟨wr.heap.size,0,none⟩=some (.string ⟨f.nm.toArray⟩):=cell_of_row _ _ 0 _ _ _ hr3
             have d1:w3.cell? ⟨wr.heap.size,1,none⟩=some (.string ⟨f.by_.toArray⟩):=cell_of_row _ _ 1 _ _ _ hr3
             have d2:w3.cell? ⟨wr.heap.size,2,none⟩=some (.int .i64 (f.sy:Int)):=cell_of_row _ _ 2 _ _ _ hr3
             have ho3:=own_stay HO2.out (fun k hk hB hl=>(hb3.block k (by simp;omega)).trans (heap_alloc_old _ _ hl))
             have hb4:=(HB0.out (.cells (filE f).toArray 101)).trans (hb3.mono (HB0.out (.cells (filE f).toArray 101)).size)
             have H3:=Lib.hid (And.intro ho3 hb4)
             clear hb3 hr3 ho3 hb4)
          | (at_builtin;refine wpList_append_own_at _ rfl _ _ 105 rfl w1.heap.size 114 iS _ 4 48 Tryz.underlying105 HiS.out.1 HiS.out.2.1 HiS.out.2.2.1 HiS.out.2.2.2 rfl (by decide) _ K XS rfl (World.ownsRow.alloc H3.out.1 _) ⟨w3.heap.size,0,none⟩ 1 1 (segE (sn,f)) rfl rfl (cells_newF w3 (segE (sn,f)) _) (segE_one _) (by have:=HT.out.2;have:=HK.out.1;unfold maxLen;omega) (by have:=HT.out.2;have:=HK.out.1;omega) (by have:=H3.out.2.size;simp;omega) ?_;intro v4 w4 ho4 hg4 _ _;have Hg4:=Lib.hid (And.intro ho4 hg4);clear ho4 hg4))
        have hba:=(Below.refl w3.heap.size w3).alloc (Nat.le_refl _) (.cells (segE (sn,f)).toArray 114)
        refine ⟨⟨i+1,by rw [Int.natCast_add];rfl,by omega,?_,below_grown Hg4.out.2 (H3.out.2.trans (hba.mono H3.out.2.size)) (by have:=H3.out.2.size;simp;omega) (fun k e=>(own_at H3.out.1 e).1)⟩,by simp only [intOf];omega⟩
        rw [HBF.out,List.length_append,List.length_singleton,flat_app,show flat segE [(sn,f)]=segE (sn,f) by simp [flat], ← HK.out.1, ← HK.out.2]
        exact Hg4.out.1
    · have hiI : ¬ (i:Int)<(N:Int):=by omega
      obtain rfl:i=N:=by omega
      have ho:wr.ownsRow w1.heap.size 114 4 (.slice A3 (segL (D.fs.take i)).length c3) (segL D.fs).length (flat segE (segL D.fs)):=by
        have h2:=HO.out.1
        generalize Value.slice A3 (segL (D.fs.take i)).length c3=V at *
        rwa [show D.fs.take i=D.fs from by rw [HN.out,List.take_length]] at h2
      have HO3:=Lib.hid (And.intro ho HO.out.2)
      clear ho
      go_wp2
      go_ret
      exact ⟨_,rfl,own_base HO3.out.1 HR.out.2.2.size,HR.out.2.2.trans (HO3.out.2.mono HR.out.2.2.size)⟩
end Go.Proofs.YticjodhkmidljaaGreatDoor
