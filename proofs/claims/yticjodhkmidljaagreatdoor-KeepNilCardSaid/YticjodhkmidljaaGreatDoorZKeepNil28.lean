/- Keep: a ballot, a record read back. Condition: the bytes are a record's. -/
import Derived.Test.YticjodhkmidljaaGreatDoorZKeepNil27
import Derived.Test.YticjodhkmidljaaGreatDoorZKeepNil3
import Derived.Test.YticjodhkmidljaaGreatDoorZKeepNil19
namespace Go.Proofs.YticjodhkmidljaaGreatDoor
open Go.RowKit Go.Shelf
theorem Only.two {g:Nat} {a b:World} (h:Only g a b):ButTwo g g a b:=⟨h.os,h.tape,h.output,Nat.le_of_eq h.size.symm,fun k _ hk _=>h.block k hk⟩
theorem rnum_as {n:Nat} {l r:Bs} (e:(RdV.mk 0 l).num=(n,⟨0,r⟩)) (g:Nat) (w:World) (h:RdAt w g ⟨0,l⟩):Calls Tryz.prog 54 #[.pointer (some ⟨g,0,none⟩)] w fun e w'=>e=.returned (.int .u64 (n:Int))∧RdAt w' g ⟨0,r⟩∧ButTwo g g w w':=by
  have h2:=rnumber_any _ g w h
  rw [e] at h2
  refine h2.mono ?_
  rintro e w' ⟨rfl,h3,h4⟩
  exact ⟨rfl,h3,h4.two⟩
theorem rbyte_as {n:Nat} {c:UInt8} {l r:Bs} (e:(RdV.mk 0 l).byte=(c,⟨0,r⟩)) (hc:c.toNat=n) (g:Nat) (w:World) (h:RdAt w g ⟨0,l⟩):Calls Tryz.prog 53 #[.pointer (some ⟨g,0,none⟩)] w fun e w'=>e=.returned (.int .u8 (n:Int))∧RdAt w' g ⟨0,r⟩∧ButTwo g g w w':=by
  have h2:=byte_any _ g w h
  rw [e] at h2
  refine h2.mono ?_
  rintro e w' ⟨rfl,h3,h4⟩
  exact ⟨by rw [hc],h3,h4.two⟩
theorem rstr_as {t l r:Bs} (e:(RdV.mk 0 l).str 65536=(t,⟨0,r⟩)) (g:Nat) (w:World) (h:RdAt w g ⟨0,l⟩):Calls Tryz.prog 57 #[.pointer (some ⟨g,0,none⟩),.int .i64 65536] w fun e w'=>e=.returned (.string ⟨t.toArray⟩)∧RdAt w' g ⟨0,r⟩∧ButTwo g g w w':=by
  have h2:=rstr2_any _ 65536 g (by decide) w h
  rw [e] at h2
  refine h2.mono ?_
  rintro e w' ⟨rfl,h3,h4⟩
  exact ⟨rfl,h3,h4.two⟩
theorem rend_as (g:Nat) (w:World) (h:RdAt w g ⟨0,[]⟩):Calls Tryz.prog 58 #[.pointer (some ⟨g,0,none⟩)] w fun e w'=>e=.returned (.int .i64 0)∧RdAt w' g ⟨0,[]⟩∧ButTwo g g w w':=by
  refine (end_any _ g w h).mono ?_
  rintro e w' ⟨rfl,h3,h4⟩
  exact ⟨rfl,h3,h4.two⟩
theorem rerr_as {l:Bs} (g:Nat) (w:World) (h:RdAt w g ⟨0,l⟩):Calls Tryz.prog 89 #[.pointer (some ⟨g,0,none⟩)] w fun e w'=>e=.returned (.int .i64 0)∧w=w':=err_any _ g w h
theorem chk_ok {b:BalV} (h:balOk b):chkN b=0:=by
  unfold chkN
  obtain ⟨h1,h2,h3⟩:=h
  rw [if_neg (fun q=>by rcases q with q | q;omega;have:=q.1;omega)]
set_option maxRecDepth 100000 in
set_option maxHeartbeats 4000000 in
theorem take_bal (b:BalV) (hb:balOk b) (rest:Bs) (g:Nat) (w:World) (h:RdAt w g ⟨0,balB b++rest⟩):Calls Tryz.prog 56 #[.pointer (some ⟨g,0,none⟩)] w fun e w'=>e=.returned (.agg (balC b).toArray)∧RdAt w' g ⟨0,rest⟩∧ButTwo g g w w':=by
  have hrd:=rd_bal hb.2.2 rest
  have hr7:=bal_r hb.1
  have hck:=chk_ok hb
  obtain ⟨bn,br⟩:=b
  have HNu:=Lib.hid (fun (y:World) (hy:RdAt y g ⟨0,balB ⟨bn,br⟩++rest⟩)=>(show Calls Tryz.prog 54 #[.pointer (some ⟨g,0,none⟩)] y fun e w'=>e=.returned (.int .u64 (bn:Int))∧RdAt w' g ⟨0,UInt8.ofNat br::rest⟩∧ButTwo g g y w' from rnum_as hrd.1 g y hy))
  have HBy:=Lib.hid (fun (y:World) (hy:RdAt y g ⟨0,UInt8.ofNat br::rest⟩)=>(show Calls Tryz.prog 53 #[.pointer (some ⟨g,0,none⟩)] y fun e w'=>e=.returned (.int .u8 (br:Int))∧RdAt w' g ⟨0,rest⟩∧ButTwo g g y w' from rbyte_as hrd.2 hr7 g y hy))
  have HCk:=Lib.hid (fun y:World=>(show Calls Tryz.prog 60 #[.agg #[.int .u64 (bn:Int),.int .u8 (br:Int)]] y fun e w'=>e=.returned (.int .i64 0)∧Below y.heap.size y w' from by have h2:=check_any ⟨bn,br⟩ y;rw [hck] at h2;exact h2))
  have HEr:=Lib.hid (fun (y:World) (hy:RdAt y g ⟨0,rest⟩)=>rerr_as g y hy)
  have hb1:=(Below.refl w.heap.size w).alloc (Nat.le_refl _) (.cells (balC bal0).toArray 24)
  have HI:=Lib.hid (And.intro (two_of (p:=g) (g:=g) hb1) (And.intro (show BlAt (w.alloc (.cells (balC bal0).toArray 24)) w.heap.size bal0 from heap_alloc_new _ _) (And.intro (h.below hb1) (show w.heap.size≠g from fun e=>by have:=h.lt;omega))))
  have HNE:=Lib.hid (show g≠w.heap.size from fun e=>by have:=h.lt;omega)
  clear hrd hr7 hck hb hb1 h
  go_enter Tryz.func56,Tryz.ntmps56
  go_upto_region 1 with fail
  change Code.wp _ _ _ _ (w.alloc (.cells (balC bal0).toArray 24))
  have HS:=Lib.hid (show w.heap.size<(w.alloc (.cells (balC bal0).toArray 24)).heap.size by simp)
  generalize w.alloc (.cells (balC bal0).toArray 24)=w1 at *
  obtain ⟨g0,hg0⟩:∃ g0,w.heap.size=g0:=⟨_,rfl⟩
  rw [hg0] at HI HS HNE ⊢
  go_upto_region 3 with (first
    | ((with_reducible refine (HNu.out _ HI.out.2.2.1).mono ?_);rintro e w2 ⟨rfl,hr2,ho2⟩;have HR2:=Lib.hid (And.intro hr2 ho2);clear hr2 ho2)
    | ((with_reducible refine (HBy.out _ HR2.out.1).mono ?_);rintro e w3 ⟨rfl,hr3,ho3⟩;have HR3:=Lib.hid (And.intro hr3 ho3);clear hr3 ho3)
    | ((with_reducible refine wpList_store_mid rfl 24 _ _ rfl w3.heap.size 0 _ rfl rfl ?_ ?_ ?_ ?_);exact th_new w3 (balC bal0) 24;exact bal_size bal0;exact all_oneCell_toArray (bal_one ⟨bn,br⟩)))
  change Code.wp _ _ _ _ ((w3.alloc (.cells (balC bal0).toArray 24)).setCells w3.heap.size 0 (balC ⟨bn,br⟩))
  have hbx:=box_below w3 (balC bal0) (balC ⟨bn,br⟩) 24
  have hrx:=box_row w3 (balC bal0) (balC ⟨bn,br⟩) 24 rfl
  have hb13:w3.heap[g0]?=w1.heap[g0]?:=(HR3.out.2.block g0 (Nat.lt_of_lt_of_le HS.out HR2.out.2.size) HI.out.2.2.2 HI.out.2.2.2).trans (HR2.out.2.block g0 HS.out HI.out.2.2.2 HI.out.2.2.2)
  have hs3:g0<w3.heap.size:=Nat.lt_of_lt_of_le HS.out (Nat.le_trans HR2.out.2.size HR3.out.2.size)
  have HJ:=Lib.hid (And.intro (show BlAt _ g0 bal0 from (hbx.block g0 hs3).trans (hb13.trans HI.out.2.1)) (And.intro (HR3.out.1.below hbx) (And.intro ((HI.out.1.trans HR2.out.2).trans (HR3.out.2.trans (two_of hbx))) hrx)))
  have HGX:=Lib.hid (show g0≠w3.heap.size by omega)
  clear hbx hrx hb13 hs3 HR2 HR3 HI
  generalize (w3.alloc (.cells (balC bal0).toArray 24)).setCells w3.heap.size 0 (balC ⟨bn,br⟩)=w4 at *
  generalize w3.heap.size=gx at *
  have d0:w4.cell? ⟨gx,0,none⟩=some (.int .u64 (bn:Int)):=cell_of_row _ _ _ _ _ _ HJ.out.2.2.2
  have d1:w4.cell? ⟨gx,1,none⟩=some (.int .u8 (br:Int)):=cell_of_row _ _ _ _ _ _ HJ.out.2.2.2
  go_upto_region 5 with ((with_reducible refine (HCk.out _).mono ?_);rintro e w5 ⟨rfl,hb5⟩;have HB5:=Lib.hid hb5;clear hb5)
  have hrx5:=(HB5.out.block gx (Array.getElem?_eq_some_iff.1 HJ.out.2.2.2).1).trans HJ.out.2.2.2
  have HR:=Lib.hid (range_row (cs:=balC ⟨bn,br⟩) hrx5)
  have HJ5:=Lib.hid (And.intro (HJ.out.1.below HB5.out) (And.intro (HJ.out.2.1.below HB5.out) (HJ.out.2.2.1.trans (two_of HB5.out))))
  clear d0 d1 hrx5 HJ HB5
  go_wp2_with (first
    | ((with_reducible refine (HEr.out _ HJ5.out.2.1).mono ?_);rintro e w6 ⟨rfl,rfl⟩)
    | (with_reducible refine wpList_load_mid rfl 24 _ rfl gx 0 rfl (balC ⟨bn,br⟩) _ HR.out Tryz.underlying24 rfl (bal_size ⟨bn,br⟩) ?_)
    | ((with_reducible refine wpList_store_mid rfl 24 _ _ rfl g0 0 _ rfl rfl ?_ ?_ ?_ ?_);exact there_row (cs:=balC bal0) HJ5.out.1;exact bal_size bal0;exact all_oneCell_toArray (bal_one ⟨bn,br⟩)))
  change bodyPost _ _ _ _ _ (World.setCells _ g0 0 (balC ⟨bn,br⟩))
  have HZ:=Lib.hid (show BlAt (rowSt w5 g0 0 (balC ⟨bn,br⟩)) g0 ⟨bn,br⟩ from rowSt_row (balC ⟨bn,br⟩) [] (balC bal0) w5 (HJ5.out.1) rfl)
  have HO:=Lib.hid (fun (q:Nat) (hq:q≠g0)=>rowSt_other hq (balC ⟨bn,br⟩) 0 w5)
  have HB2:=Lib.hid (rowSt_below (g:=g0) (Nat.le_refl g0) (balC ⟨bn,br⟩) 0 _ (Below.refl g0 w5))
  rw [st_eq]
  generalize rowSt w5 g0 0 (balC ⟨bn,br⟩)=w9 at *
  refine bodyPost_ret (v:=.agg (balC ⟨bn,br⟩).toArray) (by simp [results,Act.put,Tryz.results56,show (asAddr (Value.pointer (some ⟨g0,0,none⟩))).run Tryz.prog w9=.ok ⟨g0,0,none⟩ w9 from rfl,bl_loadVar HZ.out]) rfl ?_
  have hgg:g≠g0:=HNE.out
  refine ⟨rfl,⟨(HO.out g hgg).trans HJ5.out.2.1.row,HJ5.out.2.1.len⟩,⟨HB2.out.os.trans HJ5.out.2.2.os,HB2.out.tape.trans HJ5.out.2.2.tape,HB2.out.output.trans HJ5.out.2.2.output,Nat.le_trans HJ5.out.2.2.size HB2.out.size,fun q hq h1 h2=>(HO.out q (by omega)).trans (HJ5.out.2.2.block q hq h1 h2)⟩⟩
def rec0C:List Value:=[.int .u8 0,.int .u64 0,.int .u64 0,.int .u8 0,.string ⟨#[]⟩]
/-- Between two steps of read: the reader, the record, the result's variable. -/
structure RfI (w0 w:World) (g2 gR g5:Nat) (R:RdV) (kd:Int) (s n r:Nat) (x:ByteArray):Prop where
  bel:Below w0.heap.size w0 w
  rd:RdAt w gR R
  row:w.heap[g5]?=some (.cells #[.int .u8 kd,.int .u64 (s:Int),.int .u64 (n:Int),.int .u8 (r:Int),.string x] 67 (0,0))
  box:w.heap[g2]?=some (.cells rec0C.toArray 67 (0,0))
  lo:w0.heap.size≤g2∧w0.heap.size≤gR∧w0.heap.size≤g5
  ne:g2≠gR∧g5≠gR∧g5≠g2
section
variable {w0 w w' : World} {g2 gR g5 : Nat} {R R' : RdV} {kd : Int} {s n r s' n' r' : Nat} {x x' : ByteArray}
theorem RfI.but (h:RfI w0 w g2 gR g5 R kd s n r x) (hb:ButTwo gR gR w w') (hr:RdAt w' gR R'):RfI w0 w' g2 gR g5 R' kd s n r x :=
  ⟨hb.below h.bel h.bel.size h.lo.2.1 h.lo.2.1,hr,(hb.block g5 (Array.getElem?_eq_some_iff.1 h.row).1 h.ne.2.1 h.ne.2.1).trans h.row,(hb.block g2 (Array.getElem?_eq_some_iff.1 h.box).1 h.ne.1 h.ne.1).trans h.box,h.lo,h.ne⟩
theorem RfI.cells (h:RfI w0 w g2 gR g5 R kd s n r x):w.cell? ⟨g5,0,none⟩=some (.int .u8 kd)∧w.cell? ⟨g5,1,none⟩=some (.int .u64 (s:Int))∧w.cell? ⟨g5,2,none⟩=some (.int .u64 (n:Int))∧w.cell? ⟨g5,3,none⟩=some (.int .u8 (r:Int))∧w.cell? ⟨g5,4,none⟩=some (.string x) :=
  ⟨cell_of_row _ _ _ _ _ _ h.row,cell_of_row _ _ _ _ _ _ h.row,cell_of_row _ _ _ _ _ _ h.row,cell_of_row _ _ _ _ _ _ h.row,cell_of_row _ _ _ _ _ _ h.row⟩
theorem RfI.set (h:RfI w0 w g2 gR g5 R kd s n r x) (hb:Below g5 w w') (ho:∀ q,q≠g5→w'.heap[q]?=w.heap[q]?) (hr:w'.heap[g5]?=some (.cells #[.int .u8 kd,.int .u64 (s':Int),.int .u64 (n':Int),.int .u8 (r':Int),.string x'] 67 (0,0))):RfI w0 w' g2 gR g5 R kd s' n' r' x' :=
  ⟨h.bel.trans (hb.mono h.lo.2.2),⟨(ho gR (fun e=>h.ne.2.1 e.symm)).trans h.rd.row,h.rd.len⟩,hr,(ho g2 (fun e=>h.ne.2.2 e.symm)).trans h.box,h.lo,h.ne⟩
theorem set_bel {g i:Nat} {v:Value} (w:World):Below g w (w.setCell ⟨g,i,none⟩ v):=⟨rfl,rfl,rfl,by simp,fun k hk=>Below.heap_setCell _ _ _ _ (fun e=>by have:k=g:=e;omega)⟩
theorem RfI.slot (h:RfI w0 w g2 gR g5 R kd s n r x) (s':Nat):RfI w0 (w.setCell ⟨g5,1,none⟩ (.int .u64 (s':Int))) g2 gR g5 R kd s' n r x :=
  h.set (set_bel w) (fun q hq=>Below.heap_setCell _ _ _ _ hq) (by rw [heap_setCell_same _ _ _ _ _ _ h.row];rfl)
theorem RfI.val (h:RfI w0 w g2 gR g5 R kd s n r x) (x':ByteArray):RfI w0 (w.setCell ⟨g5,4,none⟩ (.string x')) g2 gR g5 R kd s n r x' :=
  h.set (set_bel w) (fun q hq=>Below.heap_setCell _ _ _ _ hq) (by rw [heap_setCell_same _ _ _ _ _ _ h.row];rfl)
theorem RfI.bal (h:RfI w0 w g2 gR g5 R kd s n r x) (n' r':Nat):RfI w0 ((w.setCell ⟨g5,2,none⟩ (.int .u64 (n':Int))).setCell ⟨g5,3,none⟩ (.int .u8 (r':Int))) g2 gR g5 R kd s n' r' x :=
  h.set ((set_bel w).trans (set_bel _)) (fun q hq=>(Below.heap_setCell _ _ _ _ hq).trans (Below.heap_setCell _ _ _ _ hq)) (by rw [heap_setCell_same _ _ _ _ _ _ (heap_setCell_same _ _ _ _ _ _ h.row)];rfl)
end
theorem recD_size (cs:List Value) (h:cs.length=5):(Tryz.prog.info? 67).map (·.size)=some cs.length:=by rw [h];kernel_rfl
theorem recD_one (kd:Int) (s n r:Nat) (x:ByteArray):∀ u ∈ [Value.int .u8 kd,.int .u64 (s:Int),.int .u64 (n:Int),.int .u8 (r:Int),.string x],u.oneCell'=true:=by simp [Value.oneCell']
set_option maxRecDepth 100000 in
set_option maxHeartbeats 8000000 in
theorem read_pro (b:BalV) (hb:balOk b) (w:World):Calls Tryz.prog 25 #[.string ⟨(recB (.pro b)).toArray⟩] w fun e w'=>e=.returned (.tuple #[.agg (recC (.pro b)).toArray,.bool true])∧Below w.heap.size w w':=by
  have hlen:(recB (.pro b)).length≤maxLen:=by have:=(recB_len (.pro b)).2;unfold maxLen;simp only at this;omega
  have HOf:=Lib.hid (fun y:World=>of_any1 (recB (.pro b)) hlen y)
  have HRD:=Lib.hid (fun y:World=>(show RdAt (y.alloc (.cells (rdCells ⟨0,recB (.pro b)⟩).toArray 153)) y.heap.size ⟨0,recB (.pro b)⟩ from ⟨heap_alloc_new _ _,hlen⟩))
  have HB0:=Lib.hid (fun (g:Nat) (y:World) (hy:RdAt y g ⟨0,recB (.pro b)⟩)=>(show Calls Tryz.prog 53 #[.pointer (some ⟨g,0,none⟩)] y fun e w'=>e=.returned (.int .u8 1)∧RdAt w' g ⟨0,balB b++[]⟩∧ButTwo g g y w' from rbyte_as (n:=1) (rd_pro b) rfl g y hy))
  have HTa:=Lib.hid (fun (g:Nat) (y:World) (hy:RdAt y g ⟨0,balB b++[]⟩)=>take_bal b hb [] g y hy)
  have HEn:=Lib.hid (fun (g:Nat) (y:World) (hy:RdAt y g ⟨0,[]⟩)=>rend_as g y hy)
  have hne:b≠bal0:=fun e=>by rw [e] at hb;exact absurd hb.2.1 (by decide)
  generalize recB (.pro b)=rb at *
  obtain ⟨bn,br⟩:=b
  have HQ:=Lib.hid (show (decide ((⟨bn,br⟩:BalV)=bal0) == true)=false by rw [decide_eq_false hne];rfl)
  change Hid (∀ (g:Nat) (y:World) (hy:RdAt y g ⟨0,balB ⟨bn,br⟩++[]⟩),Calls Tryz.prog 56 #[.pointer (some ⟨g,0,none⟩)] y fun e w'=>e=.returned (.agg #[.int .u64 (bn:Int),.int .u8 (br:Int)])∧RdAt w' g ⟨0,[]⟩∧ButTwo g g y w') at HTa
  show Calls _ _ _ w fun e w'=>e=.returned (.tuple #[.agg ([.int .u8 1,.int .u64 ((0:Nat):Int),.int .u64 (bn:Int),.int .u8 (br:Int),.string ⟨#[]⟩]:List Value).toArray,.bool true])∧_
  clear hlen hne hb
  have hb1:=(Below.refl w.heap.size w).alloc (Nat.le_refl _) (.cells rec0C.toArray 67)
  have hr1:=heap_alloc_new w (.cells rec0C.toArray 67)
  have HW:=Lib.hid (And.intro hb1 hr1)
  clear hb1 hr1
  go_enter Tryz.func25,Tryz.ntmps25
  go_upto_region 1 with fail
  change Code.wp _ _ _ _ (w.alloc (.cells rec0C.toArray 67))
  have HS:=Lib.hid (show (w.alloc (.cells rec0C.toArray 67)).heap.size=w.heap.size+1 by simp)
  generalize w.alloc (.cells rec0C.toArray 67)=w1 at *
  go_upto_region 3 with (first
    | ((with_reducible refine (HOf.out _).mono ?_);rintro e w2 ⟨rfl,e2⟩;have HR2:=Lib.hid e2;clear e2)
    | ((with_reducible refine (HB0.out w1.heap.size _ (by rw [HR2.out];exact HRD.out w1)).mono ?_);rintro e w3 ⟨rfl,hr3,ho3⟩;have HR3:=Lib.hid (And.intro hr3 ho3);clear hr3 ho3)
    | ((with_reducible refine wpList_store_mid rfl 67 _ _ rfl w3.heap.size 0 _ rfl rfl ?_ ?_ ?_ ?_);exact th_new w3 rec0C 67;exact recD_size _ rfl;exact all_oneCell_toArray (recD_one 1 0 0 0 ⟨#[]⟩)))
  change Code.wp _ _ _ _ ((w3.alloc (.cells rec0C.toArray 67)).setCells w3.heap.size 0 [.int .u8 1,.int .u64 ((0:Nat):Int),.int .u64 ((0:Nat):Int),.int .u8 ((0:Nat):Int),.string ⟨#[]⟩])
  have hbx:=box_below w3 rec0C [.int .u8 1,.int .u64 ((0:Nat):Int),.int .u64 ((0:Nat):Int),.int .u8 ((0:Nat):Int),.string ⟨#[]⟩] 67
  have hrx:=box_row w3 rec0C [.int .u8 1,.int .u64 ((0:Nat):Int),.int .u64 ((0:Nat):Int),.int .u8 ((0:Nat):Int),.string ⟨#[]⟩] 67 rfl
  have hw2:Below w1.heap.size w1 w2:=by rw [HR2.out];exact (Below.refl _ _).alloc (Nat.le_refl _) _
  have hs2:w2.heap.size=w1.heap.size+1:=by rw [HR2.out];simp
  have hs3:=HR3.out.2.size
  have HI:=Lib.hid (show RfI w _ w.heap.size w1.heap.size w3.heap.size ⟨0,balB ⟨bn,br⟩++[]⟩ 1 0 0 0 ⟨#[]⟩ from
    ⟨((HW.out.1.trans (hw2.mono HW.out.1.size)).trans (HR3.out.2.below (Below.refl w.heap.size w2) (by have:=HS.out;omega) (by have:=HS.out;omega) (by have:=HS.out;omega))).trans (hbx.mono (by have:=HS.out;omega)),HR3.out.1.below hbx,hrx,
     (hbx.block w.heap.size (by have:=HS.out;omega)).trans ((HR3.out.2.block w.heap.size (by have:=HS.out;omega) (by have:=HS.out;omega) (by have:=HS.out;omega)).trans ((hw2.block w.heap.size (by have:=HS.out;omega)).trans HW.out.2)),⟨Nat.le_refl _,by have:=HS.out;omega,by have:=HS.out;omega⟩,⟨by have:=HS.out;omega,by omega,by have:=HS.out;omega⟩⟩)
  clear hbx hrx hw2 hs2 hs3 HR2 HR3 HW HS
  generalize (w3.alloc (.cells rec0C.toArray 67)).setCells w3.heap.size 0 [.int .u8 1,.int .u64 ((0:Nat):Int),.int .u64 ((0:Nat):Int),.int .u8 ((0:Nat):Int),.string ⟨#[]⟩]=w4 at *
  generalize w3.heap.size=g5 at *
  generalize w1.heap.size=gR at *
  obtain ⟨g2,hg2⟩:∃ g2,w.heap.size=g2:=⟨_,rfl⟩
  rw [hg2] at HI ⊢
  have HG2:=Lib.hid hg2
  clear hg2
  obtain ⟨c0,c1,c2,c3,c4⟩:=HI.out.cells
  go_upto_region 10 with ((with_reducible refine (HTa.out _ _ HI.out.rd).mono ?_);rintro e w5 ⟨rfl,hr5,ho5⟩;have HI2:=Lib.hid (HI.out.but ho5 hr5);clear hr5 ho5 c0 c1 c2 c3 c4 HI;have HI:=HI2;clear HI2;obtain ⟨c0,c1,c2,c3,c4⟩:=HI.out.cells;have t2:=thawed_row 2 HI.out.row;have t3:=thawed_row 3 HI.out.row)
  change Code.wp _ _ _ _ ((w5.setCell ⟨g5,2,none⟩ (.int .u64 (bn:Int))).setCell ⟨g5,3,none⟩ (.int .u8 (br:Int)))
  have HI2:=Lib.hid (HI.out.bal bn br)
  clear HI c0 c1 c2 c3 c4 t2 t3
  have HI:=HI2
  clear HI2
  generalize (w5.setCell ⟨g5,2,none⟩ (.int .u64 (bn:Int))).setCell ⟨g5,3,none⟩ (.int .u8 (br:Int))=w6 at *
  obtain ⟨c0,c1,c2,c3,c4⟩:=HI.out.cells
  go_upto_region 13 with ((with_reducible refine wpList_eql_bal true _ _ rfl ⟨bn,br⟩ bal0 rfl rfl _ HQ.out ?_ ?_);exact (Eq.refl true))
  go_upto_region 17 with ((with_reducible refine (HEn.out _ _ HI.out.rd).mono ?_);rintro e w7 ⟨rfl,hr5,ho5⟩;have HI2:=Lib.hid (HI.out.but ho5 hr5);clear hr5 ho5 c0 c1 c2 c3 c4 HI;have HI:=HI2;clear HI2;obtain ⟨c0,c1,c2,c3,c4⟩:=HI.out.cells)
  clear c0 c1 c2 c3 c4
  have HR:=Lib.hid (range_row (cs:=[.int .u8 1,.int .u64 (0:Int),.int .u64 (bn:Int),.int .u8 (br:Int),.string ⟨#[]⟩]) HI.out.row)
  have HBX:=Lib.hid HI.out.box
  go_wp2_with (first
    | (with_reducible refine wpList_load_mid rfl 67 _ rfl g5 0 rfl [.int .u8 1,.int .u64 (0:Int),.int .u64 (bn:Int),.int .u8 (br:Int),.string ⟨#[]⟩] _ HR.out Tryz.underlying67 rfl (recD_size _ rfl) ?_)
    | ((with_reducible refine wpList_store_mid rfl 67 _ _ rfl g2 0 _ rfl rfl ?_ ?_ ?_ ?_);exact there_row (cs:=rec0C) HBX.out;exact recD_size _ rfl;exact all_oneCell_toArray (recD_one 1 0 bn br ⟨#[]⟩)))
  change bodyPost _ _ _ _ _ (World.setCells _ g2 0 [.int .u8 1,.int .u64 (0:Int),.int .u64 (bn:Int),.int .u8 (br:Int),.string ⟨#[]⟩])
  have HZ:=Lib.hid (show (rowSt w7 g2 0 [.int .u8 1,.int .u64 (0:Int),.int .u64 (bn:Int),.int .u8 (br:Int),.string ⟨#[]⟩]).heap[g2]?=some (.cells ([.int .u8 1,.int .u64 (0:Int),.int .u64 (bn:Int),.int .u8 (br:Int),.string ⟨#[]⟩]:List Value).toArray 67 (0,0)) from rowSt_row [.int .u8 1,.int .u64 (0:Int),.int .u64 (bn:Int),.int .u8 (br:Int),.string ⟨#[]⟩] [] rec0C w7 (HBX.out) rfl)
  have HB2:=Lib.hid (rowSt_below (g:=g2) HI.out.lo.1 [.int .u8 1,.int .u64 (0:Int),.int .u64 (bn:Int),.int .u8 (br:Int),.string ⟨#[]⟩] 0 _ HI.out.bel)
  rw [st_eq]
  generalize rowSt w7 g2 0 [.int .u8 1,.int .u64 (0:Int),.int .u64 (bn:Int),.int .u8 (br:Int),.string ⟨#[]⟩]=w9 at *
  refine bodyPost_ret (v:=.tuple #[.agg ([.int .u8 1,.int .u64 (0:Int),.int .u64 (bn:Int),.int .u8 (br:Int),.string ⟨#[]⟩]:List Value).toArray,.bool true]) (by simp [results,Tryz.results25,show (asAddr (Value.pointer (some ⟨g2,0,none⟩))).run Tryz.prog w9=.ok ⟨g2,0,none⟩ w9 from rfl,run_loadVar_mid w9 g2 0 67 [.int .u8 1,.int .u64 (0:Int),.int .u64 (bn:Int),.int .u8 (br:Int),.string ⟨#[]⟩] _ (range_row HZ.out) Tryz.underlying67 rfl (recD_size _ rfl)]) rfl ?_
  exact ⟨rfl,HB2.out⟩
set_option maxRecDepth 100000 in
set_option maxHeartbeats 8000000 in
theorem read_vot (v:VotV) (hb:balOk v.b) (hs1:1≤v.slot) (hs2:v.slot≤4611686018427387904) (hvl:v.v.length≤65536) (w:World):Calls Tryz.prog 25 #[.string ⟨(recB (.vot v)).toArray⟩] w fun e w'=>e=.returned (.tuple #[.agg (recC (.vot v)).toArray,.bool true])∧Below w.heap.size w w':=by
  have hlen:(recB (.vot v)).length≤maxLen:=by have:=(recB_len (.vot v)).2;unfold maxLen;simp only at this;omega
  have HOf:=Lib.hid (fun y:World=>of_any1 (recB (.vot v)) hlen y)
  have HRD:=Lib.hid (fun y:World=>(show RdAt (y.alloc (.cells (rdCells ⟨0,recB (.vot v)⟩).toArray 153)) y.heap.size ⟨0,recB (.vot v)⟩ from ⟨heap_alloc_new _ _,hlen⟩))
  have HB0:=Lib.hid (fun (g:Nat) (y:World) (hy:RdAt y g ⟨0,recB (.vot v)⟩)=>(show Calls Tryz.prog 53 #[.pointer (some ⟨g,0,none⟩)] y fun e w'=>e=.returned (.int .u8 2)∧RdAt w' g ⟨0,numL v.slot++(balB v.b++(numL v.v.length++v.v))⟩∧ButTwo g g y w' from rbyte_as (n:=2) (rd_vot v) rfl g y hy))
  have HSl:=Lib.hid (fun (g:Nat) (y:World) (hy:RdAt y g ⟨0,numL v.slot++(balB v.b++(numL v.v.length++v.v))⟩)=>rnum_as (rd_slot hs2 _) g y hy)
  have HTa:=Lib.hid (fun (g:Nat) (y:World) (hy:RdAt y g ⟨0,balB v.b++(numL v.v.length++v.v)⟩)=>take_bal v.b hb (numL v.v.length++v.v) g y hy)
  have HVa:=Lib.hid (fun (g:Nat) (y:World) (hy:RdAt y g ⟨0,numL v.v.length++v.v⟩)=>rstr_as (rd_val hvl) g y hy)
  have HEn:=Lib.hid (fun (g:Nat) (y:World) (hy:RdAt y g ⟨0,[]⟩)=>rend_as g y hy)
  have hne:v.b≠bal0:=fun e=>by rw [e] at hb;exact absurd hb.2.1 (by decide)
  generalize recB (.vot v)=rb at *
  obtain ⟨s,⟨bn,br⟩,vv⟩:=v
  have HQ:=Lib.hid (show (decide ((⟨bn,br⟩:BalV)=bal0) == true)=false by rw [decide_eq_false hne];rfl)
  obtain ⟨xb,hxb⟩:∃ xb:ByteArray,xb=⟨vv.toArray⟩:=⟨_,rfl⟩
  obtain ⟨tl,htl⟩:∃ tl,tl=numL vv.length++vv:=⟨_,rfl⟩
  obtain ⟨t2,ht2⟩:∃ t2,t2=balB ⟨bn,br⟩++tl:=⟨_,rfl⟩
  obtain ⟨t1,ht1⟩:∃ t1,t1=numL s++t2:=⟨_,rfl⟩
  change Hid (∀ (g:Nat) (y:World) (hy:RdAt y g ⟨0,rb⟩),Calls Tryz.prog 53 #[.pointer (some ⟨g,0,none⟩)] y fun e w'=>e=.returned (.int .u8 2)∧RdAt w' g ⟨0,numL s++(balB ⟨bn,br⟩++(numL vv.length++vv))⟩∧ButTwo g g y w') at HB0
  change Hid (∀ (g:Nat) (y:World) (hy:RdAt y g ⟨0,numL s++(balB ⟨bn,br⟩++(numL vv.length++vv))⟩),Calls Tryz.prog 54 #[.pointer (some ⟨g,0,none⟩)] y fun e w'=>e=.returned (.int .u64 (s:Int))∧RdAt w' g ⟨0,balB ⟨bn,br⟩++(numL vv.length++vv)⟩∧ButTwo g g y w') at HSl
  change Hid (∀ (g:Nat) (y:World) (hy:RdAt y g ⟨0,balB ⟨bn,br⟩++(numL vv.length++vv)⟩),Calls Tryz.prog 56 #[.pointer (some ⟨g,0,none⟩)] y fun e w'=>e=.returned (.agg #[.int .u64 (bn:Int),.int .u8 (br:Int)])∧RdAt w' g ⟨0,numL vv.length++vv⟩∧ButTwo g g y w') at HTa
  change Hid (∀ (g:Nat) (y:World) (hy:RdAt y g ⟨0,numL vv.length++vv⟩),Calls Tryz.prog 57 #[.pointer (some ⟨g,0,none⟩),.int .i64 65536] y fun e w'=>e=.returned (.string ⟨vv.toArray⟩)∧RdAt w' g ⟨0,[]⟩∧ButTwo g g y w') at HVa
  rw [← htl, ← ht2, ← ht1] at HB0
  rw [← htl, ← ht2, ← ht1] at HSl
  rw [← htl, ← ht2] at HTa
  rw [← htl, ← hxb] at HVa
  have hs0:((s:Int) == 0)=false:=by rw [beq_eq_false_iff_ne];have:1≤s:=hs1;omega
  have hs6 : ¬ (4611686018427387904:Int)<(s:Int):=by have:s≤4611686018427387904:=hs2;omega
  show Calls _ _ _ w fun e w'=>e=.returned (.tuple #[.agg ([.int .u8 2,.int .u64 (s:Int),.int .u64 (bn:Int),.int .u8 (br:Int),.string ⟨vv.toArray⟩]:List Value).toArray,.bool true])∧_
  rw [← hxb]
  clear hlen hne hb hs1 hs2 hvl hxb htl ht2 ht1
  have hb1:=(Below.refl w.heap.size w).alloc (Nat.le_refl _) (.cells rec0C.toArray 67)
  have hr1:=heap_alloc_new w (.cells rec0C.toArray 67)
  have HW:=Lib.hid (And.intro hb1 hr1)
  clear hb1 hr1
  go_enter Tryz.func25,Tryz.ntmps25
  go_upto_region 1 with fail
  change Code.wp _ _ _ _ (w.alloc (.cells rec0C.toArray 67))
  have HS:=Lib.hid (show (w.alloc (.cells rec0C.toArray 67)).heap.size=w.heap.size+1 by simp)
  generalize w.alloc (.cells rec0C.toArray 67)=w1 at *
  go_upto_region 3 with (first
    | ((with_reducible refine (HOf.out _).mono ?_);rintro e w2 ⟨rfl,e2⟩;have HR2:=Lib.hid e2;clear e2)
    | ((with_reducible refine (HB0.out w1.heap.size _ (by rw [HR2.out];exact HRD.out w1)).mono ?_);rintro e w3 ⟨rfl,hr3,ho3⟩;have HR3:=Lib.hid (And.intro hr3 ho3);clear hr3 ho3)
    | ((with_reducible refine wpList_store_mid rfl 67 _ _ rfl w3.heap.size 0 _ rfl rfl ?_ ?_ ?_ ?_);exact th_new w3 rec0C 67;exact recD_size _ rfl;exact all_oneCell_toArray (recD_one 2 0 0 0 ⟨#[]⟩)))
  change Code.wp _ _ _ _ ((w3.alloc (.cells rec0C.toArray 67)).setCells w3.heap.size 0 [.int .u8 2,.int .u64 ((0:Nat):Int),.int .u64 ((0:Nat):Int),.int .u8 ((0:Nat):Int),.string ⟨#[]⟩])
  have hbx:=box_below w3 rec0C [.int .u8 2,.int .u64 ((0:Nat):Int),.int .u64 ((0:Nat):Int),.int .u8 ((0:Nat):Int),.string ⟨#[]⟩] 67
  have hrx:=box_row w3 rec0C [.int .u8 2,.int .u64 ((0:Nat):Int),.int .u64 ((0:Nat):Int),.int .u8 ((0:Nat):Int),.string ⟨#[]⟩] 67 rfl
  have hw2:Below w1.heap.size w1 w2:=by rw [HR2.out];exact (Below.refl _ _).alloc (Nat.le_refl _) _
  have hs2:w2.heap.size=w1.heap.size+1:=by rw [HR2.out];simp
  have hs3:=HR3.out.2.size
  have HI:=Lib.hid (show RfI w _ w.heap.size w1.heap.size w3.heap.size ⟨0,t1⟩ 2 0 0 0 ⟨#[]⟩ from
    ⟨((HW.out.1.trans (hw2.mono HW.out.1.size)).trans (HR3.out.2.below (Below.refl w.heap.size w2) (by have:=HS.out;omega) (by have:=HS.out;omega) (by have:=HS.out;omega))).trans (hbx.mono (by have:=HS.out;omega)),HR3.out.1.below hbx,hrx,
     (hbx.block w.heap.size (by have:=HS.out;omega)).trans ((HR3.out.2.block w.heap.size (by have:=HS.out;omega) (by have:=HS.out;omega) (by have:=HS.out;omega)).trans ((hw2.block w.heap.size (by have:=HS.out;omega)).trans HW.out.2)),⟨Nat.le_refl _,by have:=HS.out;omega,by have:=HS.out;omega⟩,⟨by have:=HS.out;omega,by omega,by have:=HS.out;omega⟩⟩)
  clear hbx hrx hw2 hs2 hs3 HR2 HR3 HW HS
  generalize (w3.alloc (.cells rec0C.toArray 67)).setCells w3.heap.size 0 [.int .u8 2,.int .u64 ((0:Nat):Int),.int .u64 ((0:Nat):Int),.int .u8 ((0:Nat):Int),.string ⟨#[]⟩]=w4 at *
  generalize w3.heap.size=g5 at *
  generalize w1.heap.size=gR at *
  obtain ⟨g2,hg2⟩:∃ g2,w.heap.size=g2:=⟨_,rfl⟩
  rw [hg2] at HI ⊢
  have HG2:=Lib.hid hg2
  clear hg2
  obtain ⟨c0,c1,c2,c3,c4⟩:=HI.out.cells
  go_upto_region 7 with ((with_reducible refine (HSl.out _ _ HI.out.rd).mono ?_);rintro e w5 ⟨rfl,hr5,ho5⟩;have HI2:=Lib.hid (HI.out.but ho5 hr5);clear hr5 ho5 c0 c1 c2 c3 c4 HI;have HI:=HI2;clear HI2;obtain ⟨c0,c1,c2,c3,c4⟩:=HI.out.cells;have t1:=thawed_row 1 HI.out.row)
  change Code.wp _ _ _ _ (w5.setCell ⟨g5,1,none⟩ (.int .u64 (s:Int)))
  have HI2:=Lib.hid (HI.out.slot s)
  clear HI c0 c1 c2 c3 c4 t1
  have HI:=HI2
  clear HI2
  generalize w5.setCell ⟨g5,1,none⟩ (.int .u64 (s:Int))=w5b at *
  obtain ⟨c0,c1,c2,c3,c4⟩:=HI.out.cells
  go_upto_region 10 with ((with_reducible refine (HTa.out _ _ HI.out.rd).mono ?_);rintro e w5 ⟨rfl,hr5,ho5⟩;have HI2:=Lib.hid (HI.out.but ho5 hr5);clear hr5 ho5 c0 c1 c2 c3 c4 HI;have HI:=HI2;clear HI2;obtain ⟨c0,c1,c2,c3,c4⟩:=HI.out.cells;have t2:=thawed_row 2 HI.out.row;have t3:=thawed_row 3 HI.out.row)
  change Code.wp _ _ _ _ ((w5.setCell ⟨g5,2,none⟩ (.int .u64 (bn:Int))).setCell ⟨g5,3,none⟩ (.int .u8 (br:Int)))
  have HI2:=Lib.hid (HI.out.bal bn br)
  clear HI c0 c1 c2 c3 c4 t2 t3
  have HI:=HI2
  clear HI2
  generalize (w5.setCell ⟨g5,2,none⟩ (.int .u64 (bn:Int))).setCell ⟨g5,3,none⟩ (.int .u8 (br:Int))=w6 at *
  obtain ⟨c0,c1,c2,c3,c4⟩:=HI.out.cells
  go_upto_region 13 with ((with_reducible refine wpList_eql_bal true _ _ rfl ⟨bn,br⟩ bal0 rfl rfl _ HQ.out ?_ ?_);exact (Eq.refl true))
  go_upto_region 15 with ((with_reducible refine (HVa.out _ _ HI.out.rd).mono ?_);rintro e w5 ⟨rfl,hr5,ho5⟩;have HI2:=Lib.hid (HI.out.but ho5 hr5);clear hr5 ho5 c0 c1 c2 c3 c4 HI;have HI:=HI2;clear HI2;obtain ⟨c0,c1,c2,c3,c4⟩:=HI.out.cells;have t4:=thawed_row 4 HI.out.row)
  change Code.wp _ _ _ _ (w5.setCell ⟨g5,4,none⟩ (.string xb))
  have HI2:=Lib.hid (HI.out.val xb)
  clear HI c0 c1 c2 c3 c4 t4
  have HI:=HI2
  clear HI2
  generalize w5.setCell ⟨g5,4,none⟩ (.string xb)=w6b at *
  obtain ⟨c0,c1,c2,c3,c4⟩:=HI.out.cells
  go_upto_region 17 with ((with_reducible refine (HEn.out _ _ HI.out.rd).mono ?_);rintro e w7 ⟨rfl,hr5,ho5⟩;have HI2:=Lib.hid (HI.out.but ho5 hr5);clear hr5 ho5 c0 c1 c2 c3 c4 HI;have HI:=HI2;clear HI2;obtain ⟨c0,c1,c2,c3,c4⟩:=HI.out.cells)
  clear c0 c1 c2 c3 c4
  have HR:=Lib.hid (range_row (cs:=[.int .u8 2,.int .u64 (s:Int),.int .u64 (bn:Int),.int .u8 (br:Int),.string xb]) HI.out.row)
  have HBX:=Lib.hid HI.out.box
  go_wp2_with (first
    | (with_reducible refine wpList_load_mid rfl 67 _ rfl g5 0 rfl [.int .u8 2,.int .u64 (s:Int),.int .u64 (bn:Int),.int .u8 (br:Int),.string xb] _ HR.out Tryz.underlying67 rfl (recD_size _ rfl) ?_)
    | ((with_reducible refine wpList_store_mid rfl 67 _ _ rfl g2 0 _ rfl rfl ?_ ?_ ?_ ?_);exact there_row (cs:=rec0C) HBX.out;exact recD_size _ rfl;exact all_oneCell_toArray (recD_one 2 s bn br xb)))
  change bodyPost _ _ _ _ _ (World.setCells _ g2 0 [.int .u8 2,.int .u64 (s:Int),.int .u64 (bn:Int),.int .u8 (br:Int),.string xb])
  have HZ:=Lib.hid (show (rowSt w7 g2 0 [.int .u8 2,.int .u64 (s:Int),.int .u64 (bn:Int),.int .u8 (br:Int),.string xb]).heap[g2]?=some (.cells ([.int .u8 2,.int .u64 (s:Int),.int .u64 (bn:Int),.int .u8 (br:Int),.string xb]:List Value).toArray 67 (0,0)) from rowSt_row [.int .u8 2,.int .u64 (s:Int),.int .u64 (bn:Int),.int .u8 (br:Int),.string xb] [] rec0C w7 (HBX.out) rfl)
  have HB2:=Lib.hid (rowSt_below (g:=g2) HI.out.lo.1 [.int .u8 2,.int .u64 (s:Int),.int .u64 (bn:Int),.int .u8 (br:Int),.string xb] 0 _ HI.out.bel)
  rw [st_eq]
  generalize rowSt w7 g2 0 [.int .u8 2,.int .u64 (s:Int),.int .u64 (bn:Int),.int .u8 (br:Int),.string xb]=w9 at *
  refine bodyPost_ret (v:=.tuple #[.agg ([.int .u8 2,.int .u64 (s:Int),.int .u64 (bn:Int),.int .u8 (br:Int),.string xb]:List Value).toArray,.bool true]) (by simp [results,Tryz.results25,show (asAddr (Value.pointer (some ⟨g2,0,none⟩))).run Tryz.prog w9=.ok ⟨g2,0,none⟩ w9 from rfl,run_loadVar_mid w9 g2 0 67 [.int .u8 2,.int .u64 (s:Int),.int .u64 (bn:Int),.int .u8 (br:Int),.string xb] _ (range_row HZ.out) Tryz.underlying67 rfl (recD_size _ rfl)]) rfl ?_
  exact ⟨rfl,HB2.out⟩
end Go.Proofs.YticjodhkmidljaaGreatDoor
namespace Go.Proofs.YticjodhkmidljaaGreatDoor
open Go.RowKit Go.Shelf
section
variable {N p bb : Nat} {K ls : List Nat} {D : DskV} {w w' : World}
theorem lw_opens (hN:N≤w.heap.size) (hv:PVB N w) (hlen:D.fs.length≤100000) (h:Lw N p bb K ls D w) (hdd:D.dead=false) (hs : ¬ Spoilt (segL D.fs)) (hok:(lopenD D).2=0) :
    Calls Tryz.prog 24 #[.pointer (some ⟨p,0,none⟩)] w fun e w'=>∃ l v q,e=.returned (.tuple #[.pointer (some ⟨l,0,none⟩),v,.int .i64 0])∧Lw N p bb (l::q::K) (l::ls) (lopenD D).1 w'∧w'.ownsRow w.heap.size 9 1 v (recL (segL D.fs)).length (encS (recL (segL D.fs)))∧(∀ g,v.ownBlock=some g→g=q)∧Hd N K w w'∧w.heap.size≤l:=by
  obtain ⟨n,C,L,h1,h2,h3,h4⟩:=h
  refine (lopen_any hlen w ⟨N,hv,hN,fun g hg=>(h2 g hg).1⟩ h1 (fun g hg=>(h2 g hg).2) hdd (fun _=>hok)).mono ?_
  rintro e w' (⟨q,_⟩ | ⟨_,l,v,W,rfl,hbW,hl,hlw,hlW,ho⟩)
  · exact (hs q).elim
  · have h2W:∀ g ∈ L,N≤g∧g<W.heap.size:=fun g hg=>⟨(h2 g hg).1,Nat.lt_of_lt_of_le (h2 g hg).2 hbW.size⟩
    have h3W:∀ g ∈ K,N≤g∧g<W.heap.size∧g ∉ L:=fun g hg=>⟨(h3 g hg).1,Nat.lt_of_lt_of_le (h3 g hg).2.1 hbW.size,(h3 g hg).2.2⟩
    have h4W:∀ l ∈ ls,l ∈ K∧LogAt W l p:=fun l hl=>⟨(h4 l hl).1,(hbW.block l (h3 l (h4 l hl).1).2.1).trans (h4 l hl).2⟩
    have hNW:N≤W.heap.size:=Nat.le_trans hN hbW.size
    obtain ⟨_,k2,k3⟩:=hl.lw hNW h2W h3W h4W
    have offL:∀ g,w.heap.size≤g→g ∉ L:=fun g hg q=>by have:=(h2 g q).2;omega
    have hHd:Hd N K w w':=⟨(hbW.mono hN).trans k2.bel,fun g hg=>(k2.keep g hg).trans (hbW.block g (h3 g hg).2.1)⟩
    have hrow:w'.ownsRow w.heap.size 9 1 v (recL (segL D.fs)).length (encS (recL (segL D.fs))):=own_stay ho (fun k hk hB hlk=>hl.t.block k hlk (offL k hB))
    cases hvb:v.ownBlock with
    | none=>exact ⟨l,v,l,rfl,k3 (by omega) l (offL l hlw) (by omega) hlW,hrow,fun g hg=>(by rw [hvb] at hg;cases hg),hHd,hlw⟩
    | some q =>
      have hq:=own_at ho hvb
      exact ⟨l,v,q,rfl,k3 (by omega) q (offL q hq.1) (by omega) hq.2,hrow,fun g hg=>(by rw [hvb] at hg;injection hg with hg;exact hg.symm),hHd,hlw⟩
end
theorem kdead_any {N p bb:Nat} {K ls:List Nat} {D:DskV} {w:World} (h:Lw N p bb K ls D w):Calls Tryz.prog 20 #[.pointer (some ⟨p,0,none⟩)] w fun e w'=>e=.returned (.bool D.dead)∧w=w':=by
  obtain ⟨n,C,L,h1,_⟩:=h
  exact dead_any w h1
theorem rec_fit {x:RecK} (h:recOk x):RecFit x:=by
  cases x with
  | pro b=>exact ⟨(by decide:(0:Nat)<18446744073709551616),h.2.2,(by have:=h.1;show b.r<256;omega),Nat.zero_le _⟩
  | vot v=>exact ⟨(by have:=h.2.2.1;show v.slot<_;omega),h.1.2.2,(by have:=h.1.1;show v.b.r<256;omega),(by have:=h.2.2.2;show v.v.length≤_;omega)⟩
theorem read_rec (x:RecK) (h:recOk x) (w:World):Calls Tryz.prog 25 #[.string ⟨(recB x).toArray⟩] w fun e w'=>e=.returned (.tuple #[.agg (recC x).toArray,.bool true])∧Below w.heap.size w w':=by
  cases x with
  | pro b=>exact read_pro b h w
  | vot v=>exact read_vot v h.1 h.2.1 h.2.2.1 h.2.2.2 w
theorem rec_one (x:RecK):∀ u ∈ recC x,u.oneCell'=true:=fun u hu=>by
  unfold recC at hu
  rcases List.mem_cons.1 hu with rfl | hu
  · rfl
  · exact vot_one _ u hu
/-- What Open tells. -/
def KopenR (N p bb c:Nat) (Q:List Nat) (E:DskV) (b:Nat × Bs) (X:List RecK) (w:World) (e:Ending) (w':World):Prop:=∃ k S l g D',e=.returned (.tuple #[.pointer (some ⟨k,0,none⟩),.int .i64 0])∧KpI N p bb k S l g X.length Q D' b (openK b.1 X) w'∧Two D' b (X.map recB) X.length c∧D'.dead=false∧D'.fuse=E.fuse∧Hd N Q w w'
/-- Open, between two records. -/
structure KoI (N p bb k S l g:Nat) (Q:List Nat) (D:DskV) (b:Nat × Bs) (X:List RecK) (w3 w4:World) (i:Nat) (wr:World):Prop where
  kp:KpI N p bb k S l g i Q D b (openK b.1 (X.take i)) wr
  hd:Hd N Q w4 wr
  bel:Below w3.heap.size w3 wr
set_option maxRecDepth 100000 in
set_option maxHeartbeats 16000000 in
theorem kopen_any {N p bb s c:Nat} {Q:List Nat} {D E:DskV} {b:Nat × Bs} {X:List RecK} {w:World} (h:LwV N p bb Q [] D w) (hd:D.dead=false) (hlen:D.fs.length≤1000000) (hnl:∀ f ∈ D.fs,f.nm.length≤maxLen)
    (hsp : ¬ spoilt (baseL D.fs)) (hrm:rems D (rmN (baseL D.fs))=E) (hla:lastG (baseL D.fs)=b) (hT:TwoT E b (X.map recB) s c) (hE:E.dead=false) (hEl:E.fs.length≤100000) (hX:∀ x ∈ X,recOk x) (hXl:X.length≤10000) (hb62:b.1≤4611686018427387904) :
    Calls Tryz.prog 6 #[.pointer (some ⟨p,0,none⟩)] w (KopenR N p bb c Q E b X w):=by
  obtain ⟨D',q1,q2,q3,q4,q5,q6⟩:=two_lopen hT hE
  have HQ:=Lib.hid (And.intro q2 (And.intro q3 q4))
  have HD:=Lib.hid (kdead_any h.lw)
  have HBO:=Lib.hid (lw_bopen h.sz h.pv hlen hnl h.lw hd hsp hrm hla)
  have HLO:=Lib.hid (fun (S:Nat) (y:World) (hy:LwV N p bb (S::Q) [] E y)=>(show Calls Tryz.prog 24 #[.pointer (some ⟨p,0,none⟩)] y fun e w'=>∃ l v q,e=.returned (.tuple #[.pointer (some ⟨l,0,none⟩),v,.int .i64 0])∧Lw N p bb (l::q::S::Q) [l] D' w'∧w'.ownsRow y.heap.size 9 1 v (X.map recB).length (encS (X.map recB))∧(∀ g,v.ownBlock=some g→g=q)∧Hd N (S::Q) y w'∧y.heap.size≤l from by
    have h2:=lw_opens hy.sz hy.pv hEl hy.lw hE q5 (by rw [q1])
    rw [q6,q1] at h2
    exact h2))
  have HL:=Lib.hid h
  have hz:b.1=0→b.2=[]:=hT.zero
  have HZ:=Lib.hid (And.intro hz (And.intro hX hXl))
  rw [hd] at HD
  clear h hlen hnl hsp hrm hla hT hE hEl hX q1 q2 q3 q4 q5 q6 hz hd hXl
  obtain ⟨bs,bt⟩:=b
  have h6 : ¬ (4611686018427387904:Int)<(bs:Int):=by have:bs≤4611686018427387904:=hb62;omega
  clear hb62
  go_enter Tryz.func6,Tryz.ntmps6
  go_upto_region 11 with (first
    | ((with_reducible refine HD.out.mono ?_);rintro e w1 ⟨rfl,rfl⟩)
    | ((with_reducible refine HBO.out.mono ?_);rintro e w2 ⟨S,rfl,hb1,hb2,hb3,hb4,hb5⟩;have HB:=Lib.hid (And.intro (HL.out.of hb1 hb5.bel) (And.intro hb2 (And.intro hb3 (And.intro hb4 hb5))));clear hb1 hb2 hb3 hb4 hb5)
    | ((with_reducible refine (HLO.out _ _ HB.out.1).mono ?_);rintro e w3 ⟨l,v,q,rfl,hl1,hl2,hl3,hl4,hl5⟩;have HO:=Lib.hid (And.intro (HB.out.1.of hl1 hl4.bel) (And.intro hl2 (And.intro hl4 hl5)));clear hl1 hl2 hl3 hl4 hl5))
  obtain ⟨av,cv,rfl⟩:=own_slice_of HO.out.2.1
  have hmm:=@run_makeMap Tryz.prog
  have hs3:(w3.alloc (.map #[] 0)).heap.size=w3.heap.size+1:=by simp
  have hg1:=(Below.refl w3.heap.size w3).alloc (Nat.le_refl _) (.map #[] 0)
  have hg2:=(Below.refl _ (w3.alloc (.map #[] 0))).alloc (Nat.le_refl _) (.cells #[.pointer (some ⟨S,0,none⟩),.pointer (some ⟨l,0,none⟩),.int .u64 ((0:Nat):Int),.int .u8 ((0:Nat):Int),.map (some w3.heap.size)] 65)
  have hlS:S<w3.heap.size:=by
    have h1:=HO.out.1.lw
    obtain ⟨m,C,L,h1,h2,h3,h4⟩:=h1
    exact (h3 S (by simp)).2.1
  have hlw2:=(HO.out.1.lw.marks HO.out.1.sz hg1 (B:=w3.heap.size) ⟨Nat.le_refl _,by simp⟩).marks (by rw [hs3];have:=HO.out.1.sz;omega) hg2 (B:=w3.heap.size+1) ⟨by omega,by simp⟩
  have hbel:Below w3.heap.size w3 ((w3.alloc (.map #[] 0)).alloc (.cells #[.pointer (some ⟨S,0,none⟩),.pointer (some ⟨l,0,none⟩),.int .u64 ((0:Nat):Int),.int .u8 ((0:Nat):Int),.map (some w3.heap.size)] 65)):=hg1.trans (hg2.mono (by rw [hs3];omega))
  have hQl:∀ x ∈ Q,x<w.heap.size:=by
    have h1:=HL.out.lw
    obtain ⟨m,C,L,h1,h2,h3,h4⟩:=h1
    exact fun x hx=>(h3 x hx).2.1
  have hw2:w.heap.size≤w2.heap.size:=HB.out.2.2.2.2.bel.size
  have hw3:w2.heap.size≤w3.heap.size:=HO.out.2.2.1.bel.size
  have hkp:KpI N p bb (w3.heap.size+1) S l w3.heap.size 0 Q D' (bs,bt) (openK bs (X.take 0)) ((w3.alloc (.map #[] 0)).alloc (.cells #[.pointer (some ⟨S,0,none⟩),.pointer (some ⟨l,0,none⟩),.int .u64 ((0:Nat):Int),.int .u8 ((0:Nat):Int),.map (some w3.heap.size)] 65)):=by
    refine ⟨HO.out.1.of (hlw2.sub (fun x hx=>?_) (fun x hx=>?_)) (hbel.mono HO.out.1.sz),?_,⟨?_,?_⟩,HB.out.2.2.1,fun hx=>?_,fun hx=>?_,fun hx=>?_⟩
    · simp only [List.mem_cons] at hx ⊢
      rcases hx with hx | hx | hx | hx | hx <;> simp [hx]
    · simp only [List.mem_cons,List.not_mem_nil,or_false] at hx
      simp [hx]
    · exact (hbel.block S hlS).trans ((HO.out.2.2.1.keep S (by simp)).trans HB.out.2.1)
    · have h9:=heap_alloc_new (w3.alloc (.map #[] 0)) (.cells #[.pointer (some ⟨S,0,none⟩),.pointer (some ⟨l,0,none⟩),.int .u64 ((0:Nat):Int),.int .u8 ((0:Nat):Int),.map (some w3.heap.size)] 65)
      rw [hs3] at h9
      exact h9
    · show MpAt _ _ _ _ _ (mpV (fun _=>none))
      rw [mpV_none]
      exact (mp_new _ _ w3).below hg2
    · have:=hQl _ hx;omega
    · have:=hQl _ hx;omega
    · have h1:=hQl _ hx
      have h2:=HO.out.2.2.2
      omega
  have HK:=Lib.hid (show KoI N p bb (w3.heap.size+1) S l w3.heap.size Q D' (bs,bt) X w3 _ 0 _ from ⟨hkp,Hd.refl _ _ _,hbel⟩)
  have HHD:=Lib.hid (((HB.out.2.2.2.2).trans (HO.out.2.2.1.less (K':=Q) (fun x hx=>by simp [hx]))).trans (show Hd N Q w3 _ from ⟨hbel.mono HO.out.1.sz,fun x hx=>hbel.block x (by have:=hQl x hx;omega)⟩))
  clear hkp hlw2 hg1 hg2 hbel hQl hw2 hw3 hlS hs3
  go_upto_region 12 with fail
  change Code.wp _ _ _ _ ((w3.alloc (.map #[] 0)).alloc (.cells #[.pointer (some ⟨S,0,none⟩),.pointer (some ⟨l,0,none⟩),.int .u64 ((0:Nat):Int),.int .u8 ((0:Nat):Int),.map (some w3.heap.size)] 65))
  generalize (w3.alloc (.map #[] 0)).alloc (.cells #[.pointer (some ⟨S,0,none⟩),.pointer (some ⟨l,0,none⟩),.int .u64 ((0:Nat):Int),.int .u8 ((0:Nat):Int),.map (some w3.heap.size)] 65)=w4 at *
  have HST:=Lib.hid (strS_own HO.out.2.1)
  have hlX:(X.map recB).length=X.length:=List.length_map ..
  rw [hlX]
  have HBA:=Lib.hid (kbase_any HK.out.kp.kep HK.out.kp.sto HZ.out.1)
  have hXI:=HZ.out.2.2
  have HXL:=Lib.hid hXI
  clear hmm hlX hXI
  generalize hm:X.length=m at *
  have HM:=Lib.hid hm
  clear hm
  go_upto_region 16 with ((with_reducible refine HBA.out.mono ?_);rintro e w5 ⟨rfl,hb5⟩;have HB5:=Lib.hid hb5;clear hb5)
  have HK5:=Lib.hid (show KoI N p bb (w3.heap.size+1) S l w3.heap.size Q D' (bs,bt) X w3 w4 0 w5 from ⟨HK.out.kp.below HB5.out,HK.out.hd.trans (HK.out.kp.hd HB5.out),HK.out.bel.trans (HB5.out.mono HK.out.bel.size)⟩)
  have bL:(m:Int)<1152921504606846976:=by have:=HXL.out;omega
  clear h6
  go_loopw [50] (fun s50 wr=>∃ i:Nat,s50=.int .i64 (i:Int)∧i≤m∧KoI N p bb (w3.heap.size+1) S l w3.heap.size Q D' (bs,bt) X w3 w4 i wr) (fun s50 _=>m - (intOf s50).toNat)
  case atStart=>exact ⟨0,rfl,Nat.zero_le _,HK5.out⟩
  case round =>
    obtain ⟨i,rfl,hi,hko⟩:=hrel
    have HKO:=Lib.hid hko
    by_cases hiL:i<m
    · have hiL':(i:Int)<(m:Int):=by omega
      have hin:i<X.length:=by rw [HM.out];exact hiL
      obtain ⟨x,hx⟩:∃ x,x=X[i]:=⟨_,rfl⟩
      have hxs:X[i]?=some x:=by rw [List.getElem?_eq_getElem hin,hx]
      have hxm:x ∈ X:=List.mem_of_getElem? hxs
      obtain ⟨av2,cv2,ee,hst⟩:=HST.out
      simp only [Value.slice.injEq] at ee
      obtain ⟨rfl, -, -⟩:=ee
      obtain ⟨gb,go,rfl,hgb,hgc⟩:=hst i (recB x) (by rw [List.getElem?_map,hxs];rfl)
      obtain ⟨rb,hrb⟩:∃ rb:ByteArray,rb=⟨(recB x).toArray⟩:=⟨_,rfl⟩
      have c0:wr.cell? ⟨gb,go+i,none⟩=some (.string rb):=by
        rw [hrb]
        exact (World.cell?_of_block (a:=⟨gb,go+i,none⟩) (hko.bel.block gb hgb)).trans hgc
      have HRe:=Lib.hid (fun y:World=>(show Calls Tryz.prog 25 #[.string rb] y _ from by rw [hrb];exact read_rec x (HZ.out.2.1 x hxm) y))
      have HFit:=Lib.hid (rec_fit (HZ.out.2.1 x hxm))
      have htake:X.take (i+1)=X.take i++[x]:=by rw [List.take_add_one,hxs];rfl
      have HOP:=Lib.hid (show openK bs (X.take (i+1))=(openK bs (X.take i)).take bs x by rw [htake,openK_snoc])
      have HIL:=Lib.hid (show i<100000 by have:=HXL.out;omega)
      clear hko hin hx hxs hxm hst hgb hgc hrb htake
      go_upto_region 19 with (first
        | ((with_reducible refine (HRe.out _).mono ?_);rintro e w6 ⟨rfl,hb6⟩;have HB6:=Lib.hid hb6;clear hb6)
        | ((with_reducible refine wpList_store_mid rfl 67 _ _ rfl w6.heap.size 0 _ rfl rfl ?_ ?_ ?_ ?_);exact th_new w6 rec0C 67;exact recD_size _ rfl;exact all_oneCell_toArray (rec_one x)))
      change Code.wp _ _ _ _ ((w6.alloc (.cells rec0C.toArray 67)).setCells w6.heap.size 0 (recC x))
      have hbx:=box_below w6 rec0C (recC x) 67
      have HR:=Lib.hid (range_row (box_row w6 rec0C (recC x) 67 rfl))
      have hbw:Below wr.heap.size wr ((w6.alloc (.cells rec0C.toArray 67)).setCells w6.heap.size 0 (recC x)):=HB6.out.trans (hbx.mono HB6.out.size)
      have HK7:=Lib.hid (And.intro (HKO.out.kp.below hbw) (And.intro (HKO.out.hd.trans (HKO.out.kp.hd hbw)) (HKO.out.bel.trans (hbw.mono HKO.out.bel.size))))
      clear hbx hbw c0
      generalize (w6.alloc (.cells rec0C.toArray 67)).setCells w6.heap.size 0 (recC x)=w7 at *
      generalize w6.heap.size=gx at *
      have HTk:=Lib.hid (tk_any HK7.out.1.kep HK7.out.1.sto HZ.out.1 x HFit.out HIL.out)
      go_wp2_with (first
        | (with_reducible refine wpList_load_mid rfl 67 _ rfl gx 0 rfl (recC x) _ HR.out Tryz.underlying67 rfl (rec_size x) ?_)
        | ((with_reducible refine HTk.out.mono ?_);rintro e w8 ⟨rfl,h8,hb8⟩;have H8:=Lib.hid (And.intro h8 hb8);clear h8 hb8))
      have h9:=HK7.out.1.turn H8.out.2 H8.out.1
      refine ⟨⟨i+1,by rw [Int.natCast_add];rfl,by omega,⟨?_,HK7.out.2.1.trans h9.2,H8.out.2.below HK7.out.2.2 HK7.out.2.2.size (by omega) (Nat.le_refl _)⟩⟩,by simp only [intOf];omega⟩
      show KpI N p bb (w3.heap.size+1) S l w3.heap.size (i+1) Q D' (bs,bt) (openK bs (X.take (i+1))) w8
      rw [HOP.out]
      exact h9.1
    · have hiL' : ¬ (i:Int)<(m:Int):=by omega
      obtain rfl:i=m:=by omega
      clear hko hi
      go_wp2_with fail
      go_ret2
      have h9:=HKO.out.kp
      rw [List.take_of_length_le (by rw [HM.out];exact Nat.le_refl _)] at h9
      refine ⟨_,S,l,_,D',rfl,by rw [HM.out];exact h9,?_,HQ.out.2.1,HQ.out.2.2,HHD.out.trans HKO.out.hd⟩
      have h10:=HQ.out.1
      rw [List.length_map] at h10
      exact h10
end Go.Proofs.YticjodhkmidljaaGreatDoor
namespace Go.Proofs.YticjodhkmidljaaGreatDoor
open Go.RowKit Go.Shelf
/-- A record that is not too long. -/
def RecS (x:RecK):Prop:=recOk x∧∀ v,x=.vot v→v.v.length≤20000
theorem RecS.short {x:RecK} (h:RecS x):(recB x).length≤20030∧frOk (recB x):=rec_short h.2
theorem RecS.frl {x:RecK} (h:RecS x):(frL (recB x)).length≤20047:=by
  have h1:=h.short.1
  have h2:=numL_len (recB x).length
  rw [frL_len]
  omega
theorem recs_len {X:List RecK} {m:Nat} (h:∀ x ∈ X,RecS x) (hm:X.length≤m):(frsL (X.map recB)).length≤20047*m:=by
  have h1:=frs_len X (fun x hx=>(h x hx).short.1)
  have h2:20047*X.length≤20047*m:=Nat.mul_le_mul_left _ hm
  omega
theorem recs_oks {X:List RecK} (h:∀ x ∈ X,RecS x):Oks (X.map recB):=fun r hr=>by
  obtain ⟨x,hx,rfl⟩:=List.mem_map.1 hr
  exact (h x hx).short.2
/-- A keep behind m acts. -/
structure KtI (N p bb k S l g:Nat) (Q:List Nat) (D:DskV) (b:Nat × Bs) (X:List RecK) (s c m:Nat) (w:World):Prop where
  kp:∃ n,KpI N p bb k S l g n Q D b (openK b.1 X) w∧n≤m
  two:Two D b (X.map recB) s c
  live:D.dead=false
  ok:∀ x ∈ X,RecS x
  len:X.length≤m+1
  cnt:c≤m
  b62:b.1≤4611686018427387904
section
variable {N p bb k S l g s c m : Nat} {Q : List Nat} {D : DskV} {b : Nat × Bs} {X : List RecK} {w w' : World}
theorem KtI.below (h:KtI N p bb k S l g Q D b X s c m w) (hb:Below w.heap.size w w'):KtI N p bb k S l g Q D b X s c m w'∧Hd N Q w w':=by
  obtain ⟨n,h1,h2⟩:=h.kp
  exact ⟨⟨⟨n,h1.below hb,h2⟩,h.two,h.live,h.ok,h.len,h.cnt,h.b62⟩,h1.hd hb⟩
theorem KtI.wide (h:KtI N p bb k S l g Q D b X s c m w) {m':Nat} (hm:m≤m'):KtI N p bb k S l g Q D b X s c m' w:=by
  obtain ⟨n,h1,h2⟩:=h.kp
  exact ⟨⟨n,h1,by omega⟩,h.two,h.live,h.ok,by have:=h.len;omega,by have:=h.cnt;omega,h.b62⟩
/-- What adding a record leaves. -/
def KtA (N p bb k S l g:Nat) (Q:List Nat) (D:DskV) (b:Nat × Bs) (X:List RecK) (s c m:Nat) (x:RecK) (w':World) (code:Nat):Prop :=
  (code=0∧RecS x∧(∃ D' s',KtI N p bb k S l g Q D' b (X++[x]) s' (c+1) (m+1) w'∧s≤s'∧(D.fuse=none→D'.fuse=none))∧∀ v,x=.vot v→(openK b.1 (X++[x])).vs v.slot=some (v.b,v.v)) ∨
  (code=9∧D.fuse≠none∧RecS x∧∃ D' X' s',LwV N p bb Q [] D' w'∧TwoT D' b X' s' (c+1)∧X.map recB <+: X'∧X' <+: X.map recB++[recB x]∧s≤s'∧D'.dead=true∧D'.fuse=none)
theorem KpI.disk0 {n:Nat} {V:KepV} (h:KpI N p bb k S l g n Q D b V w):LwV N p bb Q [] D w:=⟨h.lw.lw.less (ks:=[]) (fun _ hx=>by cases hx) |>.sub (fun x hx=>by simp [hx]) (fun _ hx=>by cases hx),h.lw.pv,h.lw.sz⟩
theorem ktr_add (h:KtI N p bb k S l g Q D b X s c m w) (hm:m≤80) {x:RecK} (hx:RecS x) (hin:∀ v,x=.vot v→(openK b.1 (X++[x])).vs v.slot=some (v.b,v.v)) {n:Nat} (hn:n≤m)
    (hk:KpI N p bb k S l g (n+1) Q (addW b.1 D (openK b.1 X) x).1 b (addW b.1 D (openK b.1 X) x).2.1 w'):KtA N p bb k S l g Q D b X s c m x w' (addW b.1 D (openK b.1 X) x).2.2:=by
  have hl:=recs_len h.ok (m:=81) (by have:=h.len;omega)
  have hl2:=hx.frl
  rcases two_add h.two h.live (by have:=h.cnt;omega) hx.short.2 (by omega) with ⟨D',s',e1,t1,q1,d1,f1⟩ | ⟨D',X',s',e1,t1,p1,p2,q1,d1,f1,n1⟩
  · unfold addW at hk ⊢
    rw [e1,if_pos rfl] at hk ⊢
    refine .inl ⟨rfl,hx,⟨D',s',⟨⟨n+1,?_,by omega⟩,?_,d1,fun y hy=>?_,?_,by have:=h.cnt;omega,h.b62⟩,q1,f1⟩,hin⟩
    · rw [openK_snoc]
      exact hk
    · rw [List.map_append]
      exact t1
    · rcases List.mem_append.1 hy with hy | hy
      · exact h.ok y hy
      · rw [List.mem_singleton.1 hy];exact hx
    · rw [List.length_append]
      have:=h.len
      simp
      omega
  · unfold addW at hk ⊢
    rw [e1,if_neg (show ¬ (9:Nat)=0 by decide)] at hk ⊢
    exact .inr ⟨rfl,n1,hx,D',X',s',hk.disk0,t1,p1,p2,q1,d1,f1⟩
theorem KtI.same (h:KtI N p bb k S l g Q D b X s c m w) {n:Nat} (hn:n≤m) (hk:KpI N p bb k S l g (n+1) Q D b (openK b.1 X) w'):KtI N p bb k S l g Q D b X s c (m+1) w' :=
  ⟨⟨n+1,hk,by omega⟩,h.two,h.live,h.ok,by have:=h.len;omega,by have:=h.cnt;omega,h.b62⟩
/-- A new vote, on a disk without a fuse. -/
theorem kt_vote_new (h:KtI N p bb k S l g Q D b X s c m w) (hm:m≤80) (v:VotV) (hmay:kMay (openK b.1 X) v.b) (hs1:1≤v.slot) (hs2:v.slot≤4611686018427387904) (hvl:v.v.length≤20000) (hlow:b.1<v.slot) (hnone:(openK b.1 X).vs v.slot=none) (hf:D.fuse=none) :
    Calls Tryz.prog 10 #[.pointer (some ⟨k,0,none⟩),.agg (votK v).toArray] w fun e w'=>e=.returned (.int .i64 0)∧(∃ D' s',KtI N p bb k S l g Q D' b (X++[.vot v]) s' (c+1) (m+1) w'∧D'.fuse=none)∧Hd N Q w w':=by
  obtain ⟨n,h1,h2⟩:=h.kp
  have hr7:=hmay.1.1
  refine (vote_any h1 (h.two.t.seg (by have:=h.cnt;omega)) h.two.zero v (by omega) hmay.1.2.2 (by omega) (by omega) (by omega)).mono ?_
  rintro e w' ⟨rfl,h3,h4⟩
  unfold voteW at h3 ⊢
  rw [if_neg (fun q=>q ⟨hmay,hs1,hs2⟩),if_neg (by omega),hnone] at h3 ⊢
  simp only at h3 ⊢
  rcases ktr_add h hm (x:=.vot v) ⟨⟨hmay.1,hs1,hs2,by omega⟩,fun v' e=>by cases e;exact hvl⟩ (fun v' e=>by
      cases e
      rw [openK_snoc]
      exact vote_in (openK_ok _ _) hmay.2 hlow (fun p hp=>by rw [hnone] at hp;cases hp)) h2 h3 with ⟨q1,_,⟨D',s',q2,_,q3⟩,_⟩ | ⟨_,q,_⟩
  · exact ⟨by rw [q1];rfl,⟨D',s',q2,q3 hf⟩,h4⟩
  · exact (q hf).elim
/-- A vote up to the base. -/
theorem kt_vote_gone (h:KtI N p bb k S l g Q D b X s c m w) (hm:m≤80) (v:VotV) (hmay:kMay (openK b.1 X) v.b) (hs1:1≤v.slot) (hs2:v.slot≤4611686018427387904) (hvl:v.v.length≤20000) (hlow:v.slot≤b.1) :
    Calls Tryz.prog 10 #[.pointer (some ⟨k,0,none⟩),.agg (votK v).toArray] w fun e w'=>e=.returned (.int .i64 12)∧KtI N p bb k S l g Q D b X s c (m+1) w'∧Hd N Q w w':=by
  obtain ⟨n,h1,h2⟩:=h.kp
  have hr7:=hmay.1.1
  refine (vote_any h1 (h.two.t.seg (by have:=h.cnt;omega)) h.two.zero v (by omega) hmay.1.2.2 (by omega) (by omega) (by omega)).mono ?_
  rintro e w' ⟨rfl,h3,h4⟩
  unfold voteW at h3 ⊢
  rw [if_neg (fun q=>q ⟨hmay,hs1,hs2⟩),if_pos hlow] at h3 ⊢
  exact ⟨rfl,h.same h2 h3,h4⟩
/-- A promise that may not be. -/
theorem kt_promise_no (h:KtI N p bb k S l g Q D b X s c m w) (hm:m≤80) (x:BalV) (hxn:x.n<18446744073709551616) (hxr:x.r<256) (hmay : ¬ kMay (openK b.1 X) x) :
    Calls Tryz.prog 9 #[.pointer (some ⟨k,0,none⟩),.agg (balC x).toArray] w fun e w'=>e=.returned (.int .i64 2)∧KtI N p bb k S l g Q D b X s c (m+1) w'∧Hd N Q w w':=by
  obtain ⟨n,h1,h2⟩:=h.kp
  refine (promise_any h1 (h.two.t.seg (by have:=h.cnt;omega)) h.two.zero x hxn hxr (by omega)).mono ?_
  rintro e w' ⟨rfl,h3,h4⟩
  unfold promW at h3 ⊢
  rw [if_pos hmay] at h3 ⊢
  exact ⟨rfl,h.same h2 h3,h4⟩
end
end Go.Proofs.YticjodhkmidljaaGreatDoor
