/- Commands: Check. No condition. -/
import Derived.Deep.DeepCutAuto
import Derived.Test.YtbckjgageofldaaGreatZLearnPlays1
import Derived.Test.YtbckjgageofldaaGreatZLearnPlays3
set_option maxRecDepth 100000
namespace Go.Proofs.YtbckjgageofldaaGreat
open Go.RowKit
theorem lays_any {l:List Oper} {i d:Nat} {z:Obj} {t:TypeId} (h:∀ (ρ:Operand→Value) (x:World) (o:Oper),o.op=.alloc t→(execOp ρ o).run Tryz.prog x=.ok (.value (RegL.ptr x.heap.size)) (x.alloc z)) (hl:(l[i]?).map (fun o=>o.op)=some (.alloc t)) :
  RegL.LayOk Tryz.prog l ⟨i,d,z⟩:=fun o ho ρ x=>h ρ x o (by
 have ho':l[i]?=some o:=ho;rw [ho'] at hl;simpa using hl)
theorem layU8 (ρ:Operand→Value) (x:World) (o:Oper) (h:o.op=.alloc 5):(execOp ρ o).run Tryz.prog x=.ok (.value (RegL.ptr x.heap.size)) (x.alloc (.cells #[.int .u8 0] 5 (0,0))):=by
 simp only [execOp,h];go_simp;exact rfl
def VarAt (w:World) (b:Nat) (v:Value) (t:TypeId):Prop:=w.heap[b]?=some (.cells #[v] t (0,0))
section
variable {w w' : World} {b b' i : Nat} {v x : Value} {t : TypeId}
theorem VarAt.cell (h:VarAt w b v t):w.cell? ⟨b,0,none⟩=some v:=cell_of_row _ _ _ _ _ _ h
theorem VarAt.thawed (h:VarAt w b v t) (j:Nat):w.frozen? ⟨b,j,none⟩=false:=by
 unfold VarAt at h;simp [World.frozen?,h]
theorem VarAt.lt (h:VarAt w b v t):b<w.heap.size:=(Array.getElem?_eq_some_iff.1 h).1
theorem VarAt.below (h:VarAt w b v t) (hb:Below w.heap.size w w'):VarAt w' b v t:=(hb.block b h.lt).trans h
theorem VarAt.new (w:World) (v:Value) (t:TypeId):VarAt (w.alloc (.cells #[v] t)) w.heap.size v t:=heap_alloc_new w _
theorem VarAt.set (h:VarAt w b v t):VarAt (w.setCell ⟨b,0,none⟩ x) b x t:=by
 unfold VarAt;rw [heap_setCell_same _ _ _ _ _ _ h];rfl
theorem VarAt.other (h:VarAt w b v t) (hne:b≠b'):VarAt (w.setCell ⟨b',i,none⟩ x) b v t:=(Below.heap_setCell _ _ _ _ (by exact hne)).trans h
theorem CmdAt.other {c:CmdV} (h:CmdAt w b c) (hne:b≠b'):CmdAt (w.setCell ⟨b',i,none⟩ x) b c:=(Below.heap_setCell _ _ _ _ (by exact hne)).trans h
theorem below_setV {w0:World} {n:Nat} (h:Below n w0 w) (hb:n≤b):Below n w0 (w.setCell ⟨b,i,none⟩ x) :=
 ⟨h.os,h.tape,h.output,by simpa [World.setCell] using h.size,fun q hq=>(Below.heap_setCell _ _ _ _ (by show q≠b;omega)).trans (h.block q hq)⟩
end
theorem zU8 (w:World):(zeroValue 5).run Tryz.prog w=.ok (.int .u8 0) w:=by
 go_simp
theorem keptW_mono (w:World):RegL.Mono (KeptW w):=fun _ _ h hb=>KeptW.mono h hb
set_option maxHeartbeats 4000000 in
theorem check_any (c:CmdV) (w:World):Calls Tryz.prog 78 #[.agg (cmdCells c).toArray] w fun e w'=>e=.returned (.int .i64 (if mayC c=true then 0 else 2))∧Below w.heap.size w w':=by
 have hc1:=CmdAt.new w c;have hb1:=(Below.refl w.heap.size w).alloc (Nat.le_refl _) (.cells (cmdCells c).toArray 56);have hs1:(w.alloc (.cells (cmdCells c).toArray 56)).heap.size=w.heap.size+1:=by simp
 obtain ⟨R,hR⟩:∃ R:Int,(if mayC c=true then (0:Int) else 2)=R:=⟨_,rfl⟩;rw [hR];go_enter Tryz.func78,Tryz.ntmps78
 go_upto_region 1 with fail;change Code.wp _ _ _ _ (w.alloc (.cells (cmdCells c).toArray 56));generalize w.alloc (.cells (cmdCells c).toArray 56)=w1 at *;have Hc1:=Lib.hid hc1;clear hc1
 refine (wpIn_wide (n:=1)).1 ?_;refine RegL.wpIn_region_lays (F:=Fence.wide) (KeptW w1) [⟨7,3,.cells #[.int .u8 0] 5 (0,0)⟩] [(1,0),(2,0),(0,1),(3,0),(4,2),(5,2),(6,2),(8,3),(9,2)] (by kernel_rfl) (by kernel_rfl) (by kernel_rfl) (fun p hp=>by rw [List.mem_singleton] at hp;subst hp;exact lays_any layU8 rfl)
  (fun _ _ d _ _ h=>by cases d <;> exact h) (fun _ _ d _ _ h=>by cases d <;> exact h) ⟨rfl,rfl,rfl,Nat.le_refl _,fun _ _=>rfl⟩ (keptW_mono w1) ?_
 dsimp only [RegK.pick,List.getElem?_cons_zero,List.getElem?_cons_succ];iterate 1 (refine RegL.reads ?_;intro K hK;go_simp;(first | (refine ⟨_,fun _ _=>rfl,hK _ ?_⟩) | (refine ⟨_,fun _=>rfl,hK _ ?_⟩) | (refine hK _ ?_));clear hK K)
 refine RegL.reads ?_;intro K hK;go_simp;refine ⟨.int .u8 (c.kind.toNat:Int),fun y hy=>?_,hK _ ?_⟩
 ·
  have f0:=(Hc1.out.below (KeptW.bel hy)).cells.2.2.1;go_simp
 clear hK K;refine RegL.adds (fun _=>trivial) ?_;go_simp;intro x hx K hK;refine ⟨trivial,?_⟩;refine (callsIn_wide.2 (kinds_any x)).mono ?_;rintro e x2 ⟨rfl,hm,hb⟩;refine hK (fun y=>KeptW w1 y∧MapAt kKind y x.heap.size kindsL) _ _ hb (fun y h=>h.1) (fun y z h hb=>⟨KeptW.mono h.1 hb,h.2.below kKind hb⟩) ⟨KeptW.mono hx hb,hm⟩ ?_;clear hK K hm hb hx;obtain ⟨hv,hhv⟩:∃ n,(hasOf c.kind).getD 0=n:=⟨_,rfl⟩;obtain ⟨ok,hok⟩:∃ b,(hasOf c.kind).isSome=b:=⟨_,rfl⟩;refine RegL.reads ?_;intro K hK;go_simp;refine ⟨.tuple #[.int .u8 (hv:Int),.bool ok],fun y hy hy2=>?_,hK _ ?_⟩
 ·
  have f0:=run_lookup_at kKind hy2 Tryz.underlying230 (zU8 y) c.kind true;rw [kinds_get] at f0;have f1:(Instr.lookup 230 (.map (some x.heap.size)) (.int .u8 (c.kind.toNat:Int)) true).run Tryz.prog y=.ok (.tuple #[.int .u8 (hv:Int),.bool ok]) y:=by
   have f2:(Instr.lookup 230 (.map (some x.heap.size)) (.int .u8 (c.kind.toNat:Int)) true).run Tryz.prog y=_:=f0;rw [f2, ← hhv, ← hok];cases hasOf c.kind <;> rfl
  clear f0;go_simp
 clear hK K;iterate 3 (refine RegL.pures ?_;intro K hK;go_simp;(first | (refine ⟨_,fun _=>rfl,hK _ ?_⟩) | (refine hK _ ?_));clear hK K)
 refine RegL.last ?_;intro g y hF hy;obtain ⟨hg1,hg2⟩:=hF.1 ⟨7,3,.cells #[.int .u8 0] 5 (0,0)⟩ (by simp) rfl;have hg3:VarAt y (g 7) (.int .u8 0) 5:=hg1;have hg4:w.heap.size+1≤g 7:=hg2;have hby:Below w.heap.size w y:=hb1.trans (hy.1.bel.mono hb1.size);have hcy:CmdAt y w.heap.size c:=Hc1.out.below hy.1.bel;simp only [RegL.putS,RegL.ptr,if_true];clear hF hg1 hg2 hy;generalize g 7=g7 at *;have f0:=hg3.cell;have f1:=hg3.thawed 0;have hv3:VarAt (y.setCell ⟨g7,0,none⟩ (.int .u8 (hv:Int))) g7 (.int .u8 (hv:Int)) 5:=hg3.set;have hc3:CmdAt (y.setCell ⟨g7,0,none⟩ (.int .u8 (hv:Int))) w.heap.size c:=hcy.other (by omega);have hb3:Below w.heap.size w (y.setCell ⟨g7,0,none⟩ (.int .u8 (hv:Int))):=below_setV hby (by omega);have Hv3:=Lib.hid hv3;clear hv3
 have Hc3:=Lib.hid hc3;clear hc3
 have Hb3:=Lib.hid hb3;clear hb3 hby hcy hg3 hg4 Hc1 hb1 hs1
 refine RegK.can_frees (fun _=>trivial) ?_;intro K K0 hK hK0;go_simp;refine hK (fun _=>True) _ _ trivial ?_;clear hK K hK0 K0;iterate 1 (refine RegK.can_pure ?_;intro K hK;go_simp;(first | (refine ⟨_,fun _=>rfl,hK _ ?_⟩) | (refine hK _ ?_));clear hK K)
 clear f0 f1;refine RegK.can_nil ?_;change Exit.then _ _ _ _ (y.setCell ⟨g7,0,none⟩ (.int .u8 (hv:Int)));generalize y.setCell ⟨g7,0,none⟩ (.int .u8 (hv:Int))=w3 at *
 have hvs:=has_vals c.kind;rw [hhv] at hvs;have hRe:R=if ok=true∧c.client.toNat<4∧c.seq.toNat≠0∧mostOf hv 1 1≤c.key.size∧c.key.size≤mostOf hv 1 16∧c.old.size≤mostOf hv 2 64∧c.fresh.size≤mostOf hv 4 64∧(c.set.toNat=0∨hv &&& 8≠0) then 0 else 2:=by
  rw [← hR];unfold mayC;rw [hhv,hok];simp only [Bool.and_eq_true,Bool.or_eq_true,decide_eq_true_eq,and_assoc]
 obtain ⟨n1,hn1⟩:∃ n,mostOf hv 1 1=n:=⟨_,rfl⟩;obtain ⟨n2,hn2⟩:∃ n,mostOf hv 1 16=n:=⟨_,rfl⟩;obtain ⟨n3,hn3⟩:∃ n,mostOf hv 2 64=n:=⟨_,rfl⟩;obtain ⟨n4,hn4⟩:∃ n,mostOf hv 4 64=n:=⟨_,rfl⟩;rw [hn1,hn2,hn3,hn4] at hRe;have HRe:=Lib.hid hRe;clear hRe
 have Hl1:=Lib.hid hn1;clear hn1
 have Hl2:=Lib.hid hn2;clear hn2
 have Hl3:=Lib.hid hn3;clear hn3
 have Hl4:=Lib.hid hn4;clear hn4
 have Hhv:=Lib.hid hvs;clear hvs
 clear hR hhv hok;rename_i Kx Qx
 obtain ⟨d0,d1,d2,d3,d4,d5,d6⟩:=Hc3.out.cells;have e0:=Hv3.out.cell;have Hvw3:=Hv3;have Hcw3:=Hc3;have Hbw3:=Hb3;clear Hv3 Hc3 Hb3;clear d2 d3 d4 d5 d6;cases ok with
 | false =>
  have HR2:=Lib.hid (show R=2 by rw [HRe.out];simp);go_wp2_with fail;go_ret;exact ⟨by rw [HR2.out];rfl,Hbw3.out⟩
 | true =>
  by_cases hcl:c.client.toNat<4
  ·
   have hcl' : ¬ (4:Int)≤(c.client.toNat:Int):=by omega
   by_cases hsq:c.seq.toNat=0
   ·
    have hsq':((c.seq.toNat:Int) == 0)=true:=by simp [hsq]
    have HR2:=Lib.hid (show R=2 by rw [HRe.out,hsq];simp);go_wp2_with fail;go_ret;exact ⟨by rw [HR2.out];rfl,Hbw3.out⟩
   ·
    have hsq':((c.seq.toNat:Int) == 0)=false:=by simp;omega
    go_upto_region 7 with fail;clear d0 d1 e0 hcl' hsq';refine (wpIn_wide (n:=1)).1 ?_;refine RegK.wpIn_region_can (F:=Fence.wide) (KeptW w3) [(0,0),(1,0),(2,0),(3,0),(4,1),(5,0),(6,0)] (by kernel_rfl) (by kernel_rfl) (by kernel_rfl) (fun _ _ d _ _ h=>by cases d <;> exact h) ⟨rfl,rfl,rfl,Nat.le_refl _,fun _ _=>rfl⟩ ?_;dsimp only [RegK.pick,List.getElem?_cons_zero,List.getElem?_cons_succ];change RegK.Can _ _ _ _ _ _ _ _ w3.drew;have hcall:=most_any g7 hv 1 1 w3.drew Hhv.out (by simp) (Hvw3.out.below ⟨rfl,rfl,rfl,Nat.le_refl _,fun _ _=>rfl⟩).cell;rw [Hl1.out] at hcall;have Hcall:=Lib.hid hcall;clear hcall
    iterate 1 (refine RegK.can_reads ?_;intro K hK;go_simp;(first | (refine ⟨_,fun _ _=>rfl,hK _ ?_⟩) | (refine hK _ ?_));clear hK K)
    refine RegK.can_reads ?_;intro K hK;go_simp;refine ⟨.string c.key,fun y hy=>?_,hK _ ?_⟩
    ·
     have f0:=(Hcw3.out.below (KeptW.bel hy)).cells.2.2.2.1;go_simp
    clear hK K;iterate 2 (refine RegK.can_reads ?_;intro K hK;go_simp;(first | (refine ⟨_,fun _ _=>rfl,hK _ ?_⟩) | (refine hK _ ?_));clear hK K)
    refine RegK.can_turns (fun _=>trivial) ?_;intro K K0 hK hK0;go_simp;refine ⟨trivial,?_⟩;refine (callsIn_wide.2 Hcall.out).mono ?_;rintro e w' ⟨rfl,rfl⟩;refine hK _ _ ⟨rfl,rfl,rfl,Nat.le_refl _,fun _ _=>rfl⟩ ?_;clear hK K hK0 K0 Hcall;iterate 2 (refine RegK.can_reads ?_;intro K hK;go_simp;(first | (refine ⟨_,fun _ _=>rfl,hK _ ?_⟩) | (refine hK _ ?_));clear hK K)
    refine RegK.can_nil ?_;have Hvwa:=Lib.hid (Hvw3.out.below (show Below w3.heap.size w3 w3.drew from ⟨rfl,rfl,rfl,Nat.le_refl _,fun _ _=>rfl⟩));clear Hvw3
    have Hcwa:=Lib.hid (Hcw3.out.below (show Below w3.heap.size w3 w3.drew from ⟨rfl,rfl,rfl,Nat.le_refl _,fun _ _=>rfl⟩));clear Hcw3
    have Hbwa:=Lib.hid (Hbw3.out.trans ((show Below w3.heap.size w3 w3.drew from ⟨rfl,rfl,rfl,Nat.le_refl _,fun _ _=>rfl⟩).mono Hbw3.out.size));clear Hbw3
    generalize w3.drew=wa at *;by_cases a1:n1≤c.key.size
    ·
     have a1' : ¬ (c.key.size:Int)<(n1:Int):=by omega
     have a1n : ¬ c.key.size<n1:=by omega
     go_upto_region 8 with fail;clear a1' a1n;refine (wpIn_wide (n:=1)).1 ?_;refine RegK.wpIn_region_can (F:=Fence.wide) (KeptW wa) [(0,0),(1,0),(2,0),(3,0),(4,1),(5,0),(6,0)] (by kernel_rfl) (by kernel_rfl) (by kernel_rfl) (fun _ _ d _ _ h=>by cases d <;> exact h) ⟨rfl,rfl,rfl,Nat.le_refl _,fun _ _=>rfl⟩ ?_;dsimp only [RegK.pick,List.getElem?_cons_zero,List.getElem?_cons_succ];change RegK.Can _ _ _ _ _ _ _ _ wa.drew;have hcall:=most_any g7 hv 1 16 wa.drew Hhv.out (by simp) (Hvwa.out.below ⟨rfl,rfl,rfl,Nat.le_refl _,fun _ _=>rfl⟩).cell;rw [Hl2.out] at hcall;have Hcall:=Lib.hid hcall;clear hcall
     iterate 1 (refine RegK.can_reads ?_;intro K hK;go_simp;(first | (refine ⟨_,fun _ _=>rfl,hK _ ?_⟩) | (refine hK _ ?_));clear hK K)
     refine RegK.can_reads ?_;intro K hK;go_simp;refine ⟨.string c.key,fun y hy=>?_,hK _ ?_⟩
     ·
      have f0:=(Hcwa.out.below (KeptW.bel hy)).cells.2.2.2.1;go_simp
     clear hK K;iterate 2 (refine RegK.can_reads ?_;intro K hK;go_simp;(first | (refine ⟨_,fun _ _=>rfl,hK _ ?_⟩) | (refine hK _ ?_));clear hK K)
     refine RegK.can_turns (fun _=>trivial) ?_;intro K K0 hK hK0;go_simp;refine ⟨trivial,?_⟩;refine (callsIn_wide.2 Hcall.out).mono ?_;rintro e w' ⟨rfl,rfl⟩;refine hK _ _ ⟨rfl,rfl,rfl,Nat.le_refl _,fun _ _=>rfl⟩ ?_;clear hK K hK0 K0 Hcall;iterate 2 (refine RegK.can_reads ?_;intro K hK;go_simp;(first | (refine ⟨_,fun _ _=>rfl,hK _ ?_⟩) | (refine hK _ ?_));clear hK K)
     refine RegK.can_nil ?_;have Hvwb:=Lib.hid (Hvwa.out.below (show Below wa.heap.size wa wa.drew from ⟨rfl,rfl,rfl,Nat.le_refl _,fun _ _=>rfl⟩));clear Hvwa
     have Hcwb:=Lib.hid (Hcwa.out.below (show Below wa.heap.size wa wa.drew from ⟨rfl,rfl,rfl,Nat.le_refl _,fun _ _=>rfl⟩));clear Hcwa
     have Hbwb:=Lib.hid (Hbwa.out.trans ((show Below wa.heap.size wa wa.drew from ⟨rfl,rfl,rfl,Nat.le_refl _,fun _ _=>rfl⟩).mono Hbwa.out.size));clear Hbwa
     generalize wa.drew=wb at *;by_cases a2:c.key.size≤n2
     ·
      have a2' : ¬ (n2:Int)<(c.key.size:Int):=by omega
      have a2n : ¬ n2<c.key.size:=by omega
      go_upto_region 10 with fail;clear a2' a2n;refine (wpIn_wide (n:=1)).1 ?_;refine RegK.wpIn_region_can (F:=Fence.wide) (KeptW wb) [(0,0),(1,0),(2,0),(3,0),(4,1),(5,0),(6,0)] (by kernel_rfl) (by kernel_rfl) (by kernel_rfl) (fun _ _ d _ _ h=>by cases d <;> exact h) ⟨rfl,rfl,rfl,Nat.le_refl _,fun _ _=>rfl⟩ ?_;dsimp only [RegK.pick,List.getElem?_cons_zero,List.getElem?_cons_succ];change RegK.Can _ _ _ _ _ _ _ _ wb.drew;have hcall:=most_any g7 hv 2 64 wb.drew Hhv.out (by simp) (Hvwb.out.below ⟨rfl,rfl,rfl,Nat.le_refl _,fun _ _=>rfl⟩).cell;rw [Hl3.out] at hcall;have Hcall:=Lib.hid hcall;clear hcall
      iterate 1 (refine RegK.can_reads ?_;intro K hK;go_simp;(first | (refine ⟨_,fun _ _=>rfl,hK _ ?_⟩) | (refine hK _ ?_));clear hK K)
      refine RegK.can_reads ?_;intro K hK;go_simp;refine ⟨.string c.old,fun y hy=>?_,hK _ ?_⟩
      ·
       have f0:=(Hcwb.out.below (KeptW.bel hy)).cells.2.2.2.2.1;go_simp
      clear hK K;iterate 2 (refine RegK.can_reads ?_;intro K hK;go_simp;(first | (refine ⟨_,fun _ _=>rfl,hK _ ?_⟩) | (refine hK _ ?_));clear hK K)
      refine RegK.can_turns (fun _=>trivial) ?_;intro K K0 hK hK0;go_simp;refine ⟨trivial,?_⟩;refine (callsIn_wide.2 Hcall.out).mono ?_;rintro e w' ⟨rfl,rfl⟩;refine hK _ _ ⟨rfl,rfl,rfl,Nat.le_refl _,fun _ _=>rfl⟩ ?_;clear hK K hK0 K0 Hcall;iterate 2 (refine RegK.can_reads ?_;intro K hK;go_simp;(first | (refine ⟨_,fun _ _=>rfl,hK _ ?_⟩) | (refine hK _ ?_));clear hK K)
      refine RegK.can_nil ?_;have Hvwc:=Lib.hid (Hvwb.out.below (show Below wb.heap.size wb wb.drew from ⟨rfl,rfl,rfl,Nat.le_refl _,fun _ _=>rfl⟩));clear Hvwb
      have Hcwc:=Lib.hid (Hcwb.out.below (show Below wb.heap.size wb wb.drew from ⟨rfl,rfl,rfl,Nat.le_refl _,fun _ _=>rfl⟩));clear Hcwb
      have Hbwc:=Lib.hid (Hbwb.out.trans ((show Below wb.heap.size wb wb.drew from ⟨rfl,rfl,rfl,Nat.le_refl _,fun _ _=>rfl⟩).mono Hbwb.out.size));clear Hbwb
      generalize wb.drew=wc at *;by_cases a3:c.old.size≤n3
      ·
       have a3' : ¬ (n3:Int)<(c.old.size:Int):=by omega
       have a3n : ¬ n3<c.old.size:=by omega
       go_upto_region 11 with fail;clear a3' a3n;refine (wpIn_wide (n:=1)).1 ?_;refine RegK.wpIn_region_can (F:=Fence.wide) (KeptW wc) [(0,0),(1,0),(2,0),(3,0),(4,1),(5,0),(6,0)] (by kernel_rfl) (by kernel_rfl) (by kernel_rfl) (fun _ _ d _ _ h=>by cases d <;> exact h) ⟨rfl,rfl,rfl,Nat.le_refl _,fun _ _=>rfl⟩ ?_;dsimp only [RegK.pick,List.getElem?_cons_zero,List.getElem?_cons_succ];change RegK.Can _ _ _ _ _ _ _ _ wc.drew;have hcall:=most_any g7 hv 4 64 wc.drew Hhv.out (by simp) (Hvwc.out.below ⟨rfl,rfl,rfl,Nat.le_refl _,fun _ _=>rfl⟩).cell;rw [Hl4.out] at hcall;have Hcall:=Lib.hid hcall;clear hcall
       iterate 1 (refine RegK.can_reads ?_;intro K hK;go_simp;(first | (refine ⟨_,fun _ _=>rfl,hK _ ?_⟩) | (refine hK _ ?_));clear hK K)
       refine RegK.can_reads ?_;intro K hK;go_simp;refine ⟨.string c.fresh,fun y hy=>?_,hK _ ?_⟩
       ·
        have f0:=(Hcwc.out.below (KeptW.bel hy)).cells.2.2.2.2.2.1;go_simp
       clear hK K;iterate 2 (refine RegK.can_reads ?_;intro K hK;go_simp;(first | (refine ⟨_,fun _ _=>rfl,hK _ ?_⟩) | (refine hK _ ?_));clear hK K)
       refine RegK.can_turns (fun _=>trivial) ?_;intro K K0 hK hK0;go_simp;refine ⟨trivial,?_⟩;refine (callsIn_wide.2 Hcall.out).mono ?_;rintro e w' ⟨rfl,rfl⟩;refine hK _ _ ⟨rfl,rfl,rfl,Nat.le_refl _,fun _ _=>rfl⟩ ?_;clear hK K hK0 K0 Hcall;iterate 2 (refine RegK.can_reads ?_;intro K hK;go_simp;(first | (refine ⟨_,fun _ _=>rfl,hK _ ?_⟩) | (refine hK _ ?_));clear hK K)
       refine RegK.can_nil ?_;have Hvwd:=Lib.hid (Hvwc.out.below (show Below wc.heap.size wc wc.drew from ⟨rfl,rfl,rfl,Nat.le_refl _,fun _ _=>rfl⟩));clear Hvwc
       have Hcwd:=Lib.hid (Hcwc.out.below (show Below wc.heap.size wc wc.drew from ⟨rfl,rfl,rfl,Nat.le_refl _,fun _ _=>rfl⟩));clear Hcwc
       have Hbwd:=Lib.hid (Hbwc.out.trans ((show Below wc.heap.size wc wc.drew from ⟨rfl,rfl,rfl,Nat.le_refl _,fun _ _=>rfl⟩).mono Hbwc.out.size));clear Hbwc
       generalize wc.drew=wd at *;by_cases a4:c.fresh.size≤n4
       ·
        have a4' : ¬ (n4:Int)<(c.fresh.size:Int):=by omega
        have a4n : ¬ n4<c.fresh.size:=by omega
        obtain ⟨d0,d1,d2,d3,d4,d5,d6⟩:=Hcwd.out.cells;have e0:=Hvwd.out.cell;clear d0 d1 d2 d3 d4 d5;by_cases hst:c.set.toNat=0
        ·
         have hst':((c.set.toNat:Int) == 0)=true:=by simp [hst]
         have HR2:=Lib.hid (show R=0 by rw [HRe.out];simp [hcl,hsq,a1,a2,a3,a4,hst]);go_wp2_with fail;go_ret;exact ⟨by rw [HR2.out];rfl,Hbwd.out⟩
        ·
         have hst':((c.set.toNat:Int) == 0)=false:=by simp;omega
         have hst2:((c.set.toNat:Int) != 0)=true:=by simp;omega
         rcases Hhv.out with rfl | rfl | rfl | rfl | rfl
         ·
          have hb8:(bits BinOp.and IntKind.u8 0 8 == 0)=true:=by decide
          have HR2:=Lib.hid (show R=2 by rw [HRe.out];simp [hcl,hsq,a1,a2,a3,a4,hst]);go_wp2_with fail;go_ret;exact ⟨by rw [HR2.out];rfl,Hbwd.out⟩
         ·
          have hb8:(bits BinOp.and IntKind.u8 1 8 == 0)=true:=by decide
          have HR2:=Lib.hid (show R=2 by rw [HRe.out];simp [hcl,hsq,a1,a2,a3,a4,hst]);go_wp2_with fail;go_ret;exact ⟨by rw [HR2.out];rfl,Hbwd.out⟩
         ·
          have hb8:(bits BinOp.and IntKind.u8 5 8 == 0)=true:=by decide
          have HR2:=Lib.hid (show R=2 by rw [HRe.out];simp [hcl,hsq,a1,a2,a3,a4,hst]);go_wp2_with fail;go_ret;exact ⟨by rw [HR2.out];rfl,Hbwd.out⟩
         ·
          have hb8:(bits BinOp.and IntKind.u8 7 8 == 0)=true:=by decide
          have HR2:=Lib.hid (show R=2 by rw [HRe.out];simp [hcl,hsq,a1,a2,a3,a4,hst]);go_wp2_with fail;go_ret;exact ⟨by rw [HR2.out];rfl,Hbwd.out⟩
         ·
          have hb8:(bits BinOp.and IntKind.u8 8 8 == 0)=false:=by decide
          have HR2:=Lib.hid (show R=0 by rw [HRe.out];simp [hcl,hsq,a1,a2,a3,a4,hst]);go_wp2_with fail;go_ret;exact ⟨by rw [HR2.out];rfl,Hbwd.out⟩
       ·
        have a4':(n4:Int)<(c.fresh.size:Int):=by omega
        have a4n:n4<c.fresh.size:=by omega
        have HR2:=Lib.hid (show R=2 by rw [HRe.out];simp [a4]);go_wp2_with fail;go_ret;exact ⟨by rw [HR2.out];rfl,Hbwd.out⟩
      ·
       have a3':(n3:Int)<(c.old.size:Int):=by omega
       have a3n:n3<c.old.size:=by omega
       have HR2:=Lib.hid (show R=2 by rw [HRe.out];simp [a3]);go_wp2_with fail;go_ret;exact ⟨by rw [HR2.out];rfl,Hbwc.out⟩
     ·
      have a2':(n2:Int)<(c.key.size:Int):=by omega
      have a2n:n2<c.key.size:=by omega
      have HR2:=Lib.hid (show R=2 by rw [HRe.out];simp [a2]);go_wp2_with fail;go_ret;exact ⟨by rw [HR2.out];rfl,Hbwb.out⟩
    ·
     have a1':(c.key.size:Int)<(n1:Int):=by omega
     have a1n:c.key.size<n1:=by omega
     have HR2:=Lib.hid (show R=2 by rw [HRe.out];simp [a1]);go_wp2_with fail;go_ret;exact ⟨by rw [HR2.out];rfl,Hbwa.out⟩
  ·
   have hcl':(4:Int)≤(c.client.toNat:Int):=by omega
   have HR2:=Lib.hid (show R=2 by rw [HRe.out];simp [hcl]);go_wp2_with fail;go_ret;exact ⟨by rw [HR2.out];rfl,Hbw3.out⟩
def Sh.del (key:ByteArray):Sh→Sh
 | .nil=>.nil
 | .node k v wt l r=>if slt key k then .node k v wt (l.del key) r else if slt k key then .node k v wt l (r.del key) else Sh.join l r
def Sh.put (k v:ByteArray) (wt:BitVec 64):Sh→Sh
 | .nil=>.node k v wt .nil .nil
 | .node k0 v0 wt0 l r=>if aboveB wt k wt0 k0 then .node k v wt ((Sh.node k0 v0 wt0 l r).split k).1 ((Sh.node k0 v0 wt0 l r).split k).2 else if slt k k0 then .node k0 v0 wt0 (l.put k v wt) r else if slt k0 k then .node k0 v0 wt0 l (r.put k v wt) else .node k v wt l r
section
variable {b : Nat} {k v key : ByteArray} {wt : BitVec 64} {l r : Tr}
theorem has_lt (h:slt key k=true):(Tr.node b k v wt l r).has key=l.has key:=by
 have hf:(Tr.node b k v wt l r).find key=l.find key:=by
  conv=>lhs;unfold Tr.find
  rw [if_neg (fun e=>by rw [e,slt_irrefl] at h;cases h),if_pos h]
 unfold Tr.has;rw [hf]
theorem has_gt (h:slt k key=true):(Tr.node b k v wt l r).has key=r.has key:=by
 have hf:(Tr.node b k v wt l r).find key=r.find key:=by
  conv=>lhs;unfold Tr.find
  rw [if_neg (slt_ne h),if_neg (by rw [slt_asymm h];exact Bool.false_ne_true)]
 unfold Tr.has;rw [hf]
theorem has_eq:(Tr.node b k v wt l r).has k=1:=by
 have hf:(Tr.node b k v wt l r).find k=.node b k v wt l r:=by
  conv=>lhs;unfold Tr.find
  rw [if_pos rfl]
 unfold Tr.has;rw [hf];rfl
theorem NodeAt.drew {w:World} {pl pr:Option Addr} {c d:Nat} (h:NodeAt w b k v wt pl pr c d):NodeAt w.drew b k v wt pl pr c d:=h
end
structure DelPost (n:Nat) (key:ByteArray) (T:Tr) (w w':World) (D:Tr):Prop where
 at_:TreeAt w' D
 bel:Below w.heap.size w w'
 shp:D.sh=T.sh.del key
 mad:Made n T D
 new:D.newc n≤D.dep
 num:D.cnt+1=T.cnt
structure PutPost (n:Nat) (k v:ByteArray) (wt:BitVec 64) (T:Tr) (w w':World) (D:Tr):Prop where
 at_:TreeAt w' D
 bel:Below w.heap.size w w'
 shp:D.sh=T.sh.put k v wt
 mad:Made n T D
 new:D.newc n≤T.dep+1
 num:D.cnt+T.has k=T.cnt+1
 root:1≤D.newc n
set_option maxHeartbeats 2000000 in
theorem del_any (key:ByteArray) (T:Tr):∀ (n:Nat) (w:World),n≤w.heap.size→T.Lo n→TreeAt w T→T.cnt≤4611686018427387904→T.has key=1 →
  Calls Tryz.prog 177 #[.pointer T.ptr,.string key] w fun e w'=>∃ D,e=.returned (.pointer D.ptr)∧DelPost n key T w w' D:=by
 induction T with
 | nil=>intro n w _ _ _ _ h;cases h
 | node b k v wt l r ihl ihr =>
  intro n w hn hlo hat hc hhas;have hnode:=hat.1;simp only [Tr.cnt] at hc;have Hat:=Lib.hid hat;clear hat
  have Hlo:=Lib.hid hlo;clear hlo
  obtain ⟨c0,c1,c2,c3,c4,c5,c6⟩:=hnode.cells;clear c1 c2 c3 c4 c5 c6 hnode;change Calls _ _ #[.pointer (some ⟨b,0,none⟩),.string key] w _;by_cases h1:slt key k=true
  ·
   have h1':Op.bytesLess key.toList k.toList=true:=h1;rw [has_lt h1] at hhas;have Hih:=Lib.hid (ihl n w.drew hn Hlo.out.2.1 Hat.out.2.1.drew (by omega) hhas);clear ihl ihr
   have H1:=Lib.hid h1;clear h1
   go_enter Tryz.func177,Tryz.ntmps177
   go_upto_region 2 with fail;clear c0 h1' hhas;have hkd:KeptW w w.drew:=⟨rfl,rfl,rfl,Nat.le_refl _,fun _ _=>rfl⟩;have Hkd:=Lib.hid hkd;clear hkd
   refine RegR.wp_region_can (KeptW w) [(0,0),(1,0),(2,0),(3,0),(4,0),(5,0),(7,0),(8,0),(9,0),(10,0),(6,1),(11,1),(12,0)] (by kernel_rfl) (by kernel_rfl) (fun _ _ d _ _ h=>by cases d <;> exact h) Hkd.out ?_;dsimp only [RegR.pick,List.getElem?_cons_zero,List.getElem?_cons_succ];iterate 4 (refine RegR.can_reads (fun K hK=>?_);go_simp;refine ⟨_,fun _ _=>rfl,hK _ ?_⟩;clear hK K)
   refine RegR.can_reads (fun K hK=>?_);go_simp;refine ⟨.pointer l.ptr,fun y hy=>?_,hK _ ?_⟩
   ·
    obtain ⟨f0,f1,f2,f3,f4,f5,f6⟩:=((Hat.out.1).below hy).cells;clear f0 f1 f2 f5 f6;go_simp
   clear hK K;iterate 4 (refine RegR.can_reads (fun K hK=>?_);go_simp;refine ⟨_,fun _ _=>rfl,hK _ ?_⟩;clear hK K)
   refine RegR.can_reads (fun K hK=>?_);go_simp;refine ⟨.pointer r.ptr,fun y hy=>?_,hK _ ?_⟩
   ·
    obtain ⟨f0,f1,f2,f3,f4,f5,f6⟩:=((Hat.out.1).below hy).cells;clear f0 f1 f2 f5 f6;go_simp
   clear hK K;refine RegR.can_turns (fun K K0 hK hK0=>?_);go_simp;refine (Hih.out).mono ?_;rintro e w2 ⟨J,rfl,hj⟩;refine hK _ _ (Hkd.out.mono hj.bel) ?_;clear hK hK0 K K0;have Hk2:=Lib.hid (Hkd.out.mono hj.bel);have Hj:=Lib.hid hj;clear hj
   have hcnt:=Hj.out.num;refine RegR.can_turns (fun K K0 hK hK0=>?_);go_simp;refine (with_any J r w2 (Hat.out.1.below Hk2.out) Hj.out.at_ (Hat.out.2.2.below Hk2.out) (by omega)).mono ?_;rintro e w3 ⟨b2,rfl,hb2,hat3,hbel3⟩;refine hK _ _ (Hk2.out.mono hbel3) ?_;clear hK hK0 K K0;have Hat3:=Lib.hid hat3;clear hat3
   have Hbel3:=Lib.hid hbel3;clear hbel3
   have Hk3:=Lib.hid (Hk2.out.mono Hbel3.out);iterate 1 (refine RegR.can_reads (fun K hK=>?_);go_simp;refine ⟨_,fun _ _=>rfl,hK _ ?_⟩;clear hK K)
   refine RegR.can_nil ?_;go_wp2_with fail;go_ret;have hnb:n≤b2:=Nat.le_trans hn (Nat.le_trans Hk2.out.bel.size hb2);refine ⟨.node b2 k v wt J r,rfl,Hat3.out,Hk3.out,?_,.new hnb (Hj.out.mad.up (.left (.refl _))) (.old (.right (.refl _))),?_,?_⟩
   ·
    have hs:=Hj.out.shp;simp only [Tr.sh];rw [Sh.del,if_pos H1.out,hs]
   ·
    have h1:=Hj.out.new;have h2:=Hlo.out.2.2.newc;have h3 : ¬ b2<n:=by omega
    simp only [Tr.newc,if_neg h3,h2,Tr.dep];omega
   ·
    simp only [Tr.cnt];omega
  by_cases h2:slt k key=true
  ·
   have h1':Op.bytesLess key.toList k.toList=false:=slt_asymm h2;have hnt:=txt_ne (fun e:key=k=>slt_ne h2 e.symm);rw [has_gt h2] at hhas;have Hih:=Lib.hid (ihr n w.drew hn Hlo.out.2.2 Hat.out.2.2.drew (by omega) hhas);clear ihl ihr
   have H1:=Lib.hid h1;clear h1
   have H2:=Lib.hid h2;clear h2
   go_enter Tryz.func177,Tryz.ntmps177
   go_upto_region 4 with fail;clear c0 h1' hhas hnt;have hkd:KeptW w w.drew:=⟨rfl,rfl,rfl,Nat.le_refl _,fun _ _=>rfl⟩;have Hkd:=Lib.hid hkd;clear hkd
   refine RegR.wp_region_can (KeptW w) [(0,0),(1,0),(2,0),(3,0),(4,0),(5,0),(6,0),(7,0),(8,0),(9,0),(10,1),(11,1),(12,0)] (by kernel_rfl) (by kernel_rfl) (fun _ _ d _ _ h=>by cases d <;> exact h) Hkd.out ?_;dsimp only [RegR.pick,List.getElem?_cons_zero,List.getElem?_cons_succ];iterate 4 (refine RegR.can_reads (fun K hK=>?_);go_simp;refine ⟨_,fun _ _=>rfl,hK _ ?_⟩;clear hK K)
   refine RegR.can_reads (fun K hK=>?_);go_simp;refine ⟨.pointer l.ptr,fun y hy=>?_,hK _ ?_⟩
   ·
    obtain ⟨f0,f1,f2,f3,f4,f5,f6⟩:=((Hat.out.1).below hy).cells;clear f0 f1 f2 f5 f6;go_simp
   clear hK K;iterate 3 (refine RegR.can_reads (fun K hK=>?_);go_simp;refine ⟨_,fun _ _=>rfl,hK _ ?_⟩;clear hK K)
   refine RegR.can_reads (fun K hK=>?_);go_simp;refine ⟨.pointer r.ptr,fun y hy=>?_,hK _ ?_⟩
   ·
    obtain ⟨f0,f1,f2,f3,f4,f5,f6⟩:=((Hat.out.1).below hy).cells;clear f0 f1 f2 f5 f6;go_simp
   clear hK K;iterate 1 (refine RegR.can_reads (fun K hK=>?_);go_simp;refine ⟨_,fun _ _=>rfl,hK _ ?_⟩;clear hK K)
   refine RegR.can_turns (fun K K0 hK hK0=>?_);go_simp;refine (Hih.out).mono ?_;rintro e w2 ⟨J,rfl,hj⟩;refine hK _ _ (Hkd.out.mono hj.bel) ?_;clear hK hK0 K K0;have Hk2:=Lib.hid (Hkd.out.mono hj.bel);have Hj:=Lib.hid hj;clear hj
   have hcnt:=Hj.out.num;refine RegR.can_turns (fun K K0 hK hK0=>?_);go_simp;refine (with_any l J w2 (Hat.out.1.below Hk2.out) (Hat.out.2.1.below Hk2.out) Hj.out.at_ (by omega)).mono ?_;rintro e w3 ⟨b2,rfl,hb2,hat3,hbel3⟩;refine hK _ _ (Hk2.out.mono hbel3) ?_;clear hK hK0 K K0;have Hat3:=Lib.hid hat3;clear hat3
   have Hbel3:=Lib.hid hbel3;clear hbel3
   have Hk3:=Lib.hid (Hk2.out.mono Hbel3.out);iterate 1 (refine RegR.can_reads (fun K hK=>?_);go_simp;refine ⟨_,fun _ _=>rfl,hK _ ?_⟩;clear hK K)
   refine RegR.can_nil ?_;go_wp2_with fail;go_ret;have hnb:n≤b2:=Nat.le_trans hn (Nat.le_trans Hk2.out.bel.size hb2);refine ⟨.node b2 k v wt l J,rfl,Hat3.out,Hk3.out,?_,.new hnb (.old (.left (.refl _))) (Hj.out.mad.up (.right (.refl _))),?_,?_⟩
   ·
    have hs:=Hj.out.shp;simp only [Tr.sh];rw [Sh.del,if_neg H1.out,if_pos H2.out,hs]
   ·
    have h1:=Hj.out.new;have h2:=Hlo.out.2.1.newc;have h3 : ¬ b2<n:=by omega
    simp only [Tr.newc,if_neg h3,h2,Tr.dep];omega
   ·
    simp only [Tr.cnt];omega
  ·
   have h1':Op.bytesLess key.toList k.toList=false:=by simpa [slt] using h1
   have he:k=key:=(slt_total (by simpa [slt] using h1') (by simpa using h2)).symm;subst he;have H1:=Lib.hid h1;clear h1 h2 ihl ihr hhas
   have Hjn:=Lib.hid (join_any (.node b k v wt l r) (l.cnt+r.cnt) l r (Nat.le_refl _) n w.drew hn Hlo.out.2.1 Hlo.out.2.2 Hat.out.2.1.drew Hat.out.2.2.drew (.left (.refl _)) (.right (.refl _)) (by omega));go_enter Tryz.func177,Tryz.ntmps177
   go_upto_region 5 with fail;clear c0 h1';have hkd:KeptW w w.drew:=⟨rfl,rfl,rfl,Nat.le_refl _,fun _ _=>rfl⟩;have Hkd:=Lib.hid hkd;clear hkd
   refine RegR.wp_region_can (KeptW w) [(0,0),(1,0),(2,0),(3,0),(4,0),(5,0),(6,0),(7,0),(8,1),(9,0)] (by kernel_rfl) (by kernel_rfl) (fun _ _ d _ _ h=>by cases d <;> exact h) Hkd.out ?_;dsimp only [RegR.pick,List.getElem?_cons_zero,List.getElem?_cons_succ];iterate 3 (refine RegR.can_reads (fun K hK=>?_);go_simp;refine ⟨_,fun _ _=>rfl,hK _ ?_⟩;clear hK K)
   refine RegR.can_reads (fun K hK=>?_);go_simp;refine ⟨.pointer l.ptr,fun y hy=>?_,hK _ ?_⟩
   ·
    obtain ⟨f0,f1,f2,f3,f4,f5,f6⟩:=(Hat.out.1.below hy).cells;clear f0 f1 f2 f5 f6;go_simp
   clear hK K;iterate 3 (refine RegR.can_reads (fun K hK=>?_);go_simp;refine ⟨_,fun _ _=>rfl,hK _ ?_⟩;clear hK K)
   refine RegR.can_reads (fun K hK=>?_);go_simp;refine ⟨.pointer r.ptr,fun y hy=>?_,hK _ ?_⟩
   ·
    obtain ⟨f0,f1,f2,f3,f4,f5,f6⟩:=(Hat.out.1.below hy).cells;clear f0 f1 f2 f5 f6;go_simp
   clear hK K;refine RegR.can_turns (fun K K0 hK hK0=>?_);go_simp;refine (Hjn.out).mono ?_;rintro e w2 ⟨J,rfl,hj⟩;refine hK _ _ (Hkd.out.mono hj.bel) ?_;clear hK hK0 K K0;have Hk2:=Lib.hid (Hkd.out.mono hj.bel);have Hj:=Lib.hid hj;clear hj
   iterate 1 (refine RegR.can_reads (fun K hK=>?_);go_simp;refine ⟨_,fun _ _=>rfl,hK _ ?_⟩;clear hK K)
   refine RegR.can_nil ?_;go_wp2_with fail;go_ret;refine ⟨J,rfl,Hj.out.at_,Hk2.out,?_,Hj.out.mad,Hj.out.new,?_⟩
   ·
    rw [Hj.out.shp];simp only [Tr.sh];rw [Sh.del,if_neg H1.out,if_neg H1.out]
   ·
    rw [Hj.out.num];simp only [Tr.cnt];omega
set_option maxHeartbeats 2000000 in
theorem put_node (bn:Nat) (k v:ByteArray) (wt:BitVec 64) (T:Tr):∀ (n:Nat) (w:World) (pl pr:Option Addr) (c d:Nat),n≤w.heap.size→T.Lo n→TreeAt w T→T.cnt≤4611686018427387903→NodeAt w bn k v wt pl pr c d →
  Calls Tryz.prog 175 #[.pointer T.ptr,.pointer (some ⟨bn,0,none⟩)] w fun e w'=>∃ D,e=.returned (.pointer D.ptr)∧PutPost n k v wt T w w' D:=by
 induction T with
 | nil =>
  intro n w pl pr c d hn _ _ _ hnode;have Hnode:=Lib.hid hnode;obtain ⟨c0,c1,c2,c3,c4,c5,c6⟩:=hnode.cells;clear c1 c2 c3 c4 c5 c6 hnode;have Hsp:=Lib.hid (show Calls Tryz.prog 190 #[.pointer none,.string k] w _ from split_any k .nil n w hn trivial trivial (Nat.zero_le _));change Calls _ _ #[.pointer none,.pointer (some ⟨bn,0,none⟩)] w _;go_enter Tryz.func175,Tryz.ntmps175
  go_upto_region 3 with ((with_reducible refine Hsp.out.mono ?_);rintro e w1 ⟨lo,hi,rfl,hp⟩;have Hp:=Lib.hid hp;clear hp)
  have hnum:=Hp.out.num;simp only [Tr.cnt] at hnum;have Hw:=Lib.hid (with_any lo hi w1 (Hnode.out.below Hp.out.bel) Hp.out.atLo Hp.out.atHi (by omega));clear c0;go_wp2_with ((with_reducible refine Hw.out.mono ?_);rintro e w2 ⟨b',rfl,hb',hat2,hbel2⟩;have Hb':=Lib.hid hb';clear hb';have Hat2:=Lib.hid hat2;clear hat2;have Hbel2:=Lib.hid hbel2;clear hbel2);go_ret;have hs:=Hp.out.shp;simp only [Tr.sh,Sh.split,Prod.mk.injEq] at hs;have hnb:n≤b':=Nat.le_trans hn (Nat.le_trans Hp.out.bel.size Hb'.out);have h3 : ¬ b'<n:=by omega
  have h4:=Hp.out.new;simp only [Tr.dep] at h4;refine ⟨.node b' k v wt lo hi,rfl,Hat2.out,Hp.out.bel.trans (Hbel2.out.mono Hp.out.bel.size),?_,.new hnb Hp.out.mLo Hp.out.mHi,?_,?_,?_⟩
  ·
   simp only [Tr.sh];rw [Sh.put, ← hs.1, ← hs.2]
  ·
   simp only [Tr.newc,if_neg h3,Tr.dep];omega
  ·
   simp only [Tr.cnt];omega
  ·
   simp only [Tr.newc,if_neg h3];omega
 | node b k0 v0 wt0 l r ihl ihr =>
  intro n w pl pr c d hn hlo hat hc hnode;have hab:=above_any w hnode hat.1;have hsz:=hat.1.lt;simp only [Tr.cnt] at hc;have Hat:=Lib.hid hat;clear hat
  have Hlo:=Lib.hid hlo;clear hlo
  have Hnode:=Lib.hid hnode;clear hnode
  obtain ⟨ab,hab'⟩:∃ ab,aboveB wt k wt0 k0=ab:=⟨_,rfl⟩;rw [hab'] at hab;have Hab:=Lib.hid hab;clear hab
  change Calls _ _ #[.pointer (some ⟨b,0,none⟩),.pointer (some ⟨bn,0,none⟩)] w _;go_enter Tryz.func175,Tryz.ntmps175
  cases ab with
  | true =>
   go_upto_region 2 with ((with_reducible refine Hab.out.mono ?_);rintro e w0 ⟨rfl,hb0⟩;have Hb0:=Lib.hid hb0;clear hb0)
   have Hsp:=Lib.hid (show Calls Tryz.prog 190 #[.pointer (some ⟨b,0,none⟩),.string k] w0 _ from split_any k (.node b k0 v0 wt0 l r) n w0 (Nat.le_trans hn Hb0.out.size) Hlo.out (Hat.out.below Hb0.out) (by simp only [Tr.cnt];omega));obtain ⟨c0,c1,c2,c3,c4,c5,c6⟩:=(Hnode.out.below Hb0.out).cells;clear c1 c2 c3 c4 c5 c6 ihl ihr;go_upto_region 3 with ((with_reducible refine Hsp.out.mono ?_);rintro e w1 ⟨lo,hi,rfl,hp⟩;have Hp:=Lib.hid hp;clear hp)
   have hnum:=Hp.out.num;simp only [Tr.cnt] at hnum;have Hk1:=Lib.hid (Hb0.out.trans (Hp.out.bel.mono Hb0.out.size));have Hw:=Lib.hid (with_any lo hi w1 (Hnode.out.below Hk1.out) Hp.out.atLo Hp.out.atHi (by omega));clear c0;go_wp2_with ((with_reducible refine Hw.out.mono ?_);rintro e w2 ⟨b',rfl,hb',hat2,hbel2⟩;have Hb':=Lib.hid hb';clear hb';have Hat2:=Lib.hid hat2;clear hat2;have Hbel2:=Lib.hid hbel2;clear hbel2);go_ret;have hs:=Hp.out.shp;have hnb:n≤b':=Nat.le_trans hn (Nat.le_trans Hk1.out.size Hb'.out);have h3 : ¬ b'<n:=by omega
   have h4:=Hp.out.new;refine ⟨.node b' k v wt lo hi,rfl,Hat2.out,Hk1.out.trans (Hbel2.out.mono Hk1.out.size),?_,.new hnb Hp.out.mLo Hp.out.mHi,?_,?_,?_⟩
   ·
    simp only [Tr.sh] at hs ⊢;rw [Sh.put,if_pos hab',hs]
   ·
    simp only [Tr.newc,if_neg h3];omega
   ·
    simp only [Tr.cnt];omega
   ·
    simp only [Tr.newc,if_neg h3];omega
  | false =>
   go_upto_region 4 with ((with_reducible refine Hab.out.mono ?_);rintro e w0 ⟨rfl,hb0⟩;have Hb0:=Lib.hid hb0;clear hb0)
   have Habn:=Lib.hid (show ¬ aboveB wt k wt0 k0=true by rw [hab'];exact Bool.false_ne_true);clear hab' Hab
   obtain ⟨c0,c1,c2,c3,c4,c5,c6⟩:=(Hnode.out.below Hb0.out).cells;obtain ⟨d0,d1,d2,d3,d4,d5,d6⟩:=(Hat.out.1.below Hb0.out).cells;clear c1 c2 c3 c4 c5 c6 d1 d2 d3 d4 d5 d6;by_cases h1:slt k k0=true
   ·
    have h1':Op.bytesLess k.toList k0.toList=true:=h1;have hhas:=has_lt (b:=b) (v:=v0) (wt:=wt0) (l:=l) (r:=r) h1;have H1:=Lib.hid h1;clear h1
    go_quiet (fail)
    go_upto_region 5 with fail;clear c0 d0 h1';have Hb1:=Lib.hid (show Below w.heap.size w (w0.drewN nq) from Hb0.out.trans ⟨rfl,rfl,rfl,Nat.le_refl _,fun _ _=>rfl⟩);generalize w0.drewN nq=w1 at *;have Hih:=Lib.hid (ihl n w1.drew pl pr c d (Nat.le_trans hn Hb1.out.size) Hlo.out.2.1 (Hat.out.2.1.below Hb1.out).drew (by omega) (Hnode.out.below Hb1.out).drew);clear ihl ihr
    have hkd:KeptW w1 w1.drew:=⟨rfl,rfl,rfl,Nat.le_refl _,fun _ _=>rfl⟩;have Hkd:=Lib.hid hkd;clear hkd
    refine RegR.wp_region_can (KeptW w1) [(0,0),(1,0),(2,0),(3,0),(4,0),(5,0),(7,0),(8,0),(9,0),(10,0),(6,1),(11,1),(12,0)] (by kernel_rfl) (by kernel_rfl) (fun _ _ d _ _ h=>by cases d <;> exact h) Hkd.out ?_;dsimp only [RegR.pick,List.getElem?_cons_zero,List.getElem?_cons_succ];iterate 4 (refine RegR.can_reads (fun K hK=>?_);go_simp;refine ⟨_,fun _ _=>rfl,hK _ ?_⟩;clear hK K)
    refine RegR.can_reads (fun K hK=>?_);go_simp;refine ⟨.pointer l.ptr,fun y hy=>?_,hK _ ?_⟩
    ·
     obtain ⟨f0,f1,f2,f3,f4,f5,f6⟩:=((Hat.out.1.below Hb1.out).below hy).cells;clear f0 f1 f2 f5 f6;go_simp
    clear hK K;iterate 4 (refine RegR.can_reads (fun K hK=>?_);go_simp;refine ⟨_,fun _ _=>rfl,hK _ ?_⟩;clear hK K)
    refine RegR.can_reads (fun K hK=>?_);go_simp;refine ⟨.pointer r.ptr,fun y hy=>?_,hK _ ?_⟩
    ·
     obtain ⟨f0,f1,f2,f3,f4,f5,f6⟩:=((Hat.out.1.below Hb1.out).below hy).cells;clear f0 f1 f2 f5 f6;go_simp
    clear hK K;refine RegR.can_turns (fun K K0 hK hK0=>?_);go_simp;refine (Hih.out).mono ?_;rintro e w2 ⟨J,rfl,hj⟩;refine hK _ _ (Hkd.out.mono hj.bel) ?_;clear hK hK0 K K0;have Hk2:=Lib.hid (Hkd.out.mono hj.bel);have Hk2':=Lib.hid (Hb1.out.trans (Hk2.out.bel.mono Hb1.out.size));have Hj:=Lib.hid hj;clear hj
    have hcnt:=Hj.out.num;refine RegR.can_turns (fun K K0 hK hK0=>?_);go_simp;refine (with_any J r w2 (Hat.out.1.below Hk2'.out) Hj.out.at_ (Hat.out.2.2.below Hk2'.out) (by omega)).mono ?_;rintro e w3 ⟨b2,rfl,hb2,hat3,hbel3⟩;refine hK _ _ (Hk2.out.mono hbel3) ?_;clear hK hK0 K K0;have Hat3:=Lib.hid hat3;clear hat3
    have Hbel3:=Lib.hid hbel3;clear hbel3
    iterate 1 (refine RegR.can_reads (fun K hK=>?_);go_simp;refine ⟨_,fun _ _=>rfl,hK _ ?_⟩;clear hK K)
    refine RegR.can_nil ?_;go_wp2_with fail;go_ret;have hnb:n≤b2:=Nat.le_trans hn (Nat.le_trans Hk2'.out.size hb2);have h3 : ¬ b2<n:=by omega
    refine ⟨.node b2 k0 v0 wt0 J r,rfl,Hat3.out,Hk2'.out.trans (Hbel3.out.mono Hk2'.out.size),?_,.new hnb (Hj.out.mad.up (.left (.refl _))) (.old (.right (.refl _))),?_,?_,?_⟩
    ·
     have hs:=Hj.out.shp;simp only [Tr.sh];rw [Sh.put,if_neg Habn.out,if_pos H1.out,hs]
    ·
     have h1:=Hj.out.new;have h2:=Hlo.out.2.2.newc;simp only [Tr.newc,if_neg h3,h2,Tr.dep];omega
    ·
     rw [hhas];simp only [Tr.cnt];omega
    ·
     simp only [Tr.newc,if_neg h3];omega
   by_cases h2:slt k0 k=true
   ·
    have h1':Op.bytesLess k.toList k0.toList=false:=slt_asymm h2;have hnt:=txt_ne (fun e:k=k0=>slt_ne h2 e.symm);have hhas:=has_gt (b:=b) (v:=v0) (wt:=wt0) (l:=l) (r:=r) h2;have H1:=Lib.hid h1;clear h1
    have H2:=Lib.hid h2;clear h2
    go_quiet (fail)
    generalize nq=q1 at *;go_upto_region 6 with fail;go_quiet (fail)
    go_upto_region 7 with fail;clear c0 d0 h1' hnt;have Hb1:=Lib.hid (show Below w.heap.size w ((w0.drewN q1).drewN nq) from Hb0.out.trans ⟨rfl,rfl,rfl,Nat.le_refl _,fun _ _=>rfl⟩);generalize (w0.drewN q1).drewN nq=w1 at *;have Hih:=Lib.hid (ihr n w1.drew pl pr c d (Nat.le_trans hn Hb1.out.size) Hlo.out.2.2 (Hat.out.2.2.below Hb1.out).drew (by omega) (Hnode.out.below Hb1.out).drew);clear ihl ihr
    have hkd:KeptW w1 w1.drew:=⟨rfl,rfl,rfl,Nat.le_refl _,fun _ _=>rfl⟩;have Hkd:=Lib.hid hkd;clear hkd
    refine RegR.wp_region_can (KeptW w1) [(0,0),(1,0),(2,0),(3,0),(4,0),(5,0),(6,0),(7,0),(8,0),(9,0),(10,1),(11,1),(12,0)] (by kernel_rfl) (by kernel_rfl) (fun _ _ d _ _ h=>by cases d <;> exact h) Hkd.out ?_;dsimp only [RegR.pick,List.getElem?_cons_zero,List.getElem?_cons_succ];iterate 4 (refine RegR.can_reads (fun K hK=>?_);go_simp;refine ⟨_,fun _ _=>rfl,hK _ ?_⟩;clear hK K)
    refine RegR.can_reads (fun K hK=>?_);go_simp;refine ⟨.pointer l.ptr,fun y hy=>?_,hK _ ?_⟩
    ·
     obtain ⟨f0,f1,f2,f3,f4,f5,f6⟩:=((Hat.out.1.below Hb1.out).below hy).cells;clear f0 f1 f2 f5 f6;go_simp
    clear hK K;iterate 3 (refine RegR.can_reads (fun K hK=>?_);go_simp;refine ⟨_,fun _ _=>rfl,hK _ ?_⟩;clear hK K)
    refine RegR.can_reads (fun K hK=>?_);go_simp;refine ⟨.pointer r.ptr,fun y hy=>?_,hK _ ?_⟩
    ·
     obtain ⟨f0,f1,f2,f3,f4,f5,f6⟩:=((Hat.out.1.below Hb1.out).below hy).cells;clear f0 f1 f2 f5 f6;go_simp
    clear hK K;iterate 1 (refine RegR.can_reads (fun K hK=>?_);go_simp;refine ⟨_,fun _ _=>rfl,hK _ ?_⟩;clear hK K)
    refine RegR.can_turns (fun K K0 hK hK0=>?_);go_simp;refine (Hih.out).mono ?_;rintro e w2 ⟨J,rfl,hj⟩;refine hK _ _ (Hkd.out.mono hj.bel) ?_;clear hK hK0 K K0;have Hk2:=Lib.hid (Hkd.out.mono hj.bel);have Hk2':=Lib.hid (Hb1.out.trans (Hk2.out.bel.mono Hb1.out.size));have Hj:=Lib.hid hj;clear hj
    have hcnt:=Hj.out.num;refine RegR.can_turns (fun K K0 hK hK0=>?_);go_simp;refine (with_any l J w2 (Hat.out.1.below Hk2'.out) (Hat.out.2.1.below Hk2'.out) Hj.out.at_ (by omega)).mono ?_;rintro e w3 ⟨b2,rfl,hb2,hat3,hbel3⟩;refine hK _ _ (Hk2.out.mono hbel3) ?_;clear hK hK0 K K0;have Hat3:=Lib.hid hat3;clear hat3
    have Hbel3:=Lib.hid hbel3;clear hbel3
    iterate 1 (refine RegR.can_reads (fun K hK=>?_);go_simp;refine ⟨_,fun _ _=>rfl,hK _ ?_⟩;clear hK K)
    refine RegR.can_nil ?_;go_wp2_with fail;go_ret;have hnb:n≤b2:=Nat.le_trans hn (Nat.le_trans Hk2'.out.size hb2);have h3 : ¬ b2<n:=by omega
    refine ⟨.node b2 k0 v0 wt0 l J,rfl,Hat3.out,Hk2'.out.trans (Hbel3.out.mono Hk2'.out.size),?_,.new hnb (.old (.left (.refl _))) (Hj.out.mad.up (.right (.refl _))),?_,?_,?_⟩
    ·
     have hs:=Hj.out.shp;simp only [Tr.sh];rw [Sh.put,if_neg Habn.out,if_neg H1.out,if_pos H2.out,hs]
    ·
     have h1:=Hj.out.new;have h2:=Hlo.out.2.1.newc;simp only [Tr.newc,if_neg h3,h2,Tr.dep];omega
    ·
     rw [hhas];simp only [Tr.cnt];omega
    ·
     simp only [Tr.newc,if_neg h3];omega
   ·
    have h1':Op.bytesLess k.toList k0.toList=false:=by simpa [slt] using h1
    have he:k0=k:=(slt_total (by simpa [slt] using h1') (by simpa using h2)).symm;subst he;have hhas:=has_eq (b:=b) (k:=k0) (v:=v0) (wt:=wt0) (l:=l) (r:=r);have H1:=Lib.hid h1;clear h1 h2 ihl ihr
    go_quiet (fail)
    generalize nq=q1 at *;go_upto_region 6 with fail;go_quiet (fail)
    go_upto_region 8 with fail;clear c0 d0 h1';have Hb1:=Lib.hid (show Below w.heap.size w ((w0.drewN q1).drewN nq) from Hb0.out.trans ⟨rfl,rfl,rfl,Nat.le_refl _,fun _ _=>rfl⟩);generalize (w0.drewN q1).drewN nq=w1 at *;have hkd:KeptW w1 w1.drew:=⟨rfl,rfl,rfl,Nat.le_refl _,fun _ _=>rfl⟩;have Hkd:=Lib.hid hkd;clear hkd
    refine RegR.wp_region_can (KeptW w1) [(0,0),(1,0),(2,0),(3,0),(4,0),(5,0),(6,0),(7,0),(8,0),(9,1),(10,0)] (by kernel_rfl) (by kernel_rfl) (fun _ _ d _ _ h=>by cases d <;> exact h) Hkd.out ?_;dsimp only [RegR.pick,List.getElem?_cons_zero,List.getElem?_cons_succ];iterate 4 (refine RegR.can_reads (fun K hK=>?_);go_simp;refine ⟨_,fun _ _=>rfl,hK _ ?_⟩;clear hK K)
    refine RegR.can_reads (fun K hK=>?_);go_simp;refine ⟨.pointer l.ptr,fun y hy=>?_,hK _ ?_⟩
    ·
     obtain ⟨f0,f1,f2,f3,f4,f5,f6⟩:=((Hat.out.1.below Hb1.out).below hy).cells;clear f0 f1 f2 f5 f6;go_simp
    clear hK K;iterate 3 (refine RegR.can_reads (fun K hK=>?_);go_simp;refine ⟨_,fun _ _=>rfl,hK _ ?_⟩;clear hK K)
    refine RegR.can_reads (fun K hK=>?_);go_simp;refine ⟨.pointer r.ptr,fun y hy=>?_,hK _ ?_⟩
    ·
     obtain ⟨f0,f1,f2,f3,f4,f5,f6⟩:=((Hat.out.1.below Hb1.out).below hy).cells;clear f0 f1 f2 f5 f6;go_simp
    clear hK K;refine RegR.can_turns (fun K K0 hK hK0=>?_);go_simp;refine (with_any l r w1.drew (NodeAt.below (Hnode.out.below Hb1.out) Hkd.out) (Hat.out.2.1.below Hb1.out).drew (Hat.out.2.2.below Hb1.out).drew (by omega)).mono ?_;rintro e w3 ⟨b2,rfl,hb2,hat3,hbel3⟩;refine hK _ _ (Hkd.out.mono hbel3) ?_;clear hK hK0 K K0;have Hat3:=Lib.hid hat3;clear hat3
    have Hk3:=Lib.hid (Hb1.out.trans ((Hkd.out.mono hbel3).bel.mono Hb1.out.size));clear hbel3
    iterate 1 (refine RegR.can_reads (fun K hK=>?_);go_simp;refine ⟨_,fun _ _=>rfl,hK _ ?_⟩;clear hK K)
    refine RegR.can_nil ?_;go_wp2_with fail;go_ret;have hnb:n≤b2:=Nat.le_trans hn (Nat.le_trans Hb1.out.size hb2);have h3 : ¬ b2<n:=by omega
    refine ⟨.node b2 k0 v wt l r,rfl,Hat3.out,Hk3.out,?_,.new hnb (.old (.left (.refl _))) (.old (.right (.refl _))),?_,?_,?_⟩
    ·
     simp only [Tr.sh];rw [Sh.put,if_neg Habn.out,if_neg H1.out,if_neg H1.out]
    ·
     have h2:=Hlo.out.2.1.newc;have h4:=Hlo.out.2.2.newc;simp only [Tr.newc,if_neg h3,h2,h4,Tr.dep];omega
    ·
     rw [hhas];simp only [Tr.cnt]
    ·
     simp only [Tr.newc,if_neg h3];omega
def Tr.look (key:ByteArray) (T:Tr):Option ByteArray:=(T.find key).val
theorem look_has {key:ByteArray} {T:Tr}:T.has key=if (T.look key).isSome then 1 else 0:=by
 unfold Tr.has Tr.look;cases T.find key <;> rfl
def crcOf (k:ByteArray):BitVec 64:=Crc.sum 0#64 k.data.toList
set_option maxHeartbeats 2000000 in
theorem get_any (key:ByteArray) (T:Tr) (w:World) (h:TreeAt w T) :
  Calls Tryz.prog 174 #[.pointer T.ptr,.string key] w fun e w'=>e=.returned (.tuple #[.string ((T.look key).getD ByteArray.empty),.bool (T.look key).isSome])∧w=w':=by
 have hf:=find_any key T w h;have hat:=find_at h key;unfold Tr.look;generalize T.find key=F at *;cases F with
 | nil =>
  have Hf:=Lib.hid (show Calls Tryz.prog 176 #[.pointer T.ptr,.string key] w (fun e w'=>e=.returned (.pointer none)∧w=w') from hf);clear hf h
  go_enter Tryz.func174,Tryz.ntmps174
  go_wp2_with ((with_reducible refine Hf.out.mono ?_);rintro e w' ⟨rfl,rfl⟩);go_ret2;exact ⟨rfl,rfl⟩
 | node b k v wt l r =>
  obtain ⟨c0,c1,c2,c3,c4,c5,c6⟩:=hat.1.cells;have Hf:=Lib.hid (show Calls Tryz.prog 176 #[.pointer T.ptr,.string key] w (fun e w'=>e=.returned (.pointer (some ⟨b,0,none⟩))∧w=w') from hf);clear hf h
  clear c0 c2 c3 c4 c5 c6 hat;go_enter Tryz.func174,Tryz.ntmps174
  go_wp2_with ((with_reducible refine Hf.out.mono ?_);rintro e w' ⟨rfl,rfl⟩);go_ret2;exact ⟨rfl,rfl⟩
structure ActPost (n:Nat) (same:Bool) (T:Tr) (S:Sh) (w w':World) (X:Tr):Prop where
 at_:TreeAt w' X
 bel:Below w.heap.size w w'
 eqT:same=true→X=T
 neT:same=false→X≠T
 mad:Made n T X
 new:X.newc n≤T.dep+X.dep
 shp:X.sh=S
 num:X.cnt≤T.cnt+1
def putSh (k v:ByteArray) (S:Sh) (had:Option ByteArray):Sh:=if had=some v then S else S.put k v (crcOf k)
def delSh (k:ByteArray) (S:Sh) (had:Option ByteArray):Sh:=if had=none then S else S.del k
theorem ActPost.stay {n:Nat} {T:Tr} {w w':World} (h:TreeAt w' T) (hb:Below w.heap.size w w') (hlo:T.Lo n):ActPost n true T T.sh w w' T :=
 ⟨h,hb,fun _=>rfl,(by intro h;cases h),.old (.refl _),by rw [hlo.newc];exact Nat.zero_le _,rfl,Nat.le_succ _⟩
set_option maxHeartbeats 2000000 in
theorem putT_any (key v:ByteArray) (hk:key.size≤maxLen) (T:Tr) (n:Nat) (w:World) (hn:n≤w.heap.size) (hlo:T.Lo n) (hat:TreeAt w T) (hc:T.cnt≤4611686018427387903) :
  Calls Tryz.prog 154 #[.pointer T.ptr,.string key,.string v] w fun e w'=>∃ X,e=.returned (.pointer X.ptr)∧ActPost n (decide (T.look key=some v)) T (putSh key v T.sh (T.look key)) w w' X:=by
 have Hg:=Lib.hid (get_any key T w hat);have Hat:=Lib.hid hat;clear hat
 unfold putSh;cases hl:T.look key with
 | none =>
  rw [hl] at Hg;obtain ⟨c,hcr⟩:∃ c,crcOf key=c:=⟨_,rfl⟩;have hsum:=fun w=>sum_any key hk w
  have hcr':Crc.sum 0#64 key.data.toList=c:=hcr;rw [hcr'] at hsum;rw [hcr,if_neg (by simp)];have Hs:=Lib.hid hsum;clear hsum hcr hcr'
  go_enter Tryz.func154,Tryz.ntmps154
  simp only [Option.getD_none,Option.isSome_none] at Hg;have Hb:=Lib.hid ((Below.refl w.heap.size w).alloc (Nat.le_refl _) (.cells (nodeCells key v c none none 0 0) 195));have hnew:NodeAt (w.alloc (.cells (nodeCells key v c none none 0 0) 195)) w.heap.size key v c none none 0 0:=heap_alloc_new w _;have Hp:=Lib.hid (put_node w.heap.size key v c T n (w.alloc (.cells (nodeCells key v c none none 0 0) 195)) none none 0 0 (Nat.le_trans hn Hb.out.size) hlo (Hat.out.below Hb.out) hc hnew);clear hnew
  go_wp2_with (first
   | ((with_reducible refine Hg.out.mono ?_);rintro e w' ⟨rfl,rfl⟩)
   | ((with_reducible refine (Hs.out _).mono ?_);rintro e w' ⟨rfl,rfl⟩)
   | (refine Hp.out.mono ?_;rintro e w3 ⟨X,rfl,hx⟩;have Hx:=Lib.hid hx;clear hx))
  go_ret;refine ⟨X,rfl,Hx.out.at_,Hb.out.trans (Hx.out.bel.mono Hb.out.size),by simp,fun _ e=>?_,Hx.out.mad,?_,Hx.out.shp,by have:=Hx.out.num;omega⟩
  ·
   have:=Hx.out.root;rw [e,hlo.newc] at this;omega
  ·
   have h1:=Hx.out.new;have h2:=Hx.out.root;have h3:1≤X.dep:=by
    cases X with
    | nil=>simp [Tr.newc] at h2
    | node=>simp only [Tr.dep];omega
   omega
 | some o =>
  rw [hl] at Hg;simp only [Option.getD_some,Option.isSome_some] at Hg;by_cases e:o=v
  ·
   subst e;rw [if_pos rfl];go_enter Tryz.func154,Tryz.ntmps154
   go_wp2_with ((with_reducible refine Hg.out.mono ?_);rintro e w' ⟨rfl,rfl⟩);go_ret;refine ⟨T,rfl,?_⟩;exact .stay Hat.out (Below.refl _ _) hlo
  ·
   have hne:=txt_ne e;obtain ⟨c,hcr⟩:∃ c,crcOf key=c:=⟨_,rfl⟩;have hsum:=fun w=>sum_any key hk w
   have hcr':Crc.sum 0#64 key.data.toList=c:=hcr;rw [hcr'] at hsum;rw [hcr,if_neg (by simpa using e)];have Hs:=Lib.hid hsum;clear hsum hcr hcr'
   have He:=Lib.hid e;clear e
   go_enter Tryz.func154,Tryz.ntmps154
   have Hb:=Lib.hid ((Below.refl w.heap.size w).alloc (Nat.le_refl _) (.cells (nodeCells key v c none none 0 0) 195));have hnew:NodeAt (w.alloc (.cells (nodeCells key v c none none 0 0) 195)) w.heap.size key v c none none 0 0:=heap_alloc_new w _;have Hp:=Lib.hid (put_node w.heap.size key v c T n (w.alloc (.cells (nodeCells key v c none none 0 0) 195)) none none 0 0 (Nat.le_trans hn Hb.out.size) hlo (Hat.out.below Hb.out) hc hnew);clear hnew
   go_wp2_with (first
    | ((with_reducible refine Hg.out.mono ?_);rintro e w' ⟨rfl,rfl⟩)
    | ((with_reducible refine (Hs.out _).mono ?_);rintro e w' ⟨rfl,rfl⟩)
    | (refine Hp.out.mono ?_;rintro e w3 ⟨X,rfl,hx⟩;have Hx:=Lib.hid hx;clear hx))
   go_ret;refine ⟨X,rfl,Hx.out.at_,Hb.out.trans (Hx.out.bel.mono Hb.out.size),fun h=>absurd (by simpa using h) He.out,fun _ e=>?_,Hx.out.mad,?_,Hx.out.shp,by have:=Hx.out.num;omega⟩
   ·
    have:=Hx.out.root;rw [e,hlo.newc] at this;omega
   ·
    have h1:=Hx.out.new;have h2:=Hx.out.root;have h3:1≤X.dep:=by
     cases X with
     | nil=>simp [Tr.newc] at h2
     | node=>simp only [Tr.dep];omega
    omega
set_option maxHeartbeats 2000000 in
theorem delT_any (key:ByteArray) (T:Tr) (n:Nat) (w:World) (hn:n≤w.heap.size) (hlo:T.Lo n) (hat:TreeAt w T) (hc:T.cnt≤4611686018427387903) :
  Calls Tryz.prog 155 #[.pointer T.ptr,.string key] w fun e w'=>∃ X,e=.returned (.pointer X.ptr)∧ActPost n (T.look key).isNone T (delSh key T.sh (T.look key)) w w' X:=by
 have hf:=find_any key T w hat;have Hat:=Lib.hid hat;clear hat
 have hhas:T.has key=if (T.look key).isSome then 1 else 0:=look_has
 unfold delSh;have hlk:T.look key=(T.find key).val:=rfl;rw [hlk] at hhas ⊢;clear hlk;cases hF:T.find key with
 | nil =>
  rw [hF] at hf;have Hf:=Lib.hid (show Calls Tryz.prog 176 #[.pointer T.ptr,.string key] w (fun e w'=>e=.returned (.pointer none)∧w=w') from hf);clear hf
  go_enter Tryz.func155,Tryz.ntmps155
  go_wp2_with ((with_reducible refine Hf.out.mono ?_);rintro e w' ⟨rfl,rfl⟩);go_ret;refine ⟨T,rfl,?_⟩;exact .stay Hat.out (Below.refl _ _) hlo
 | node b k v wt l r =>
  rw [hF] at hf hhas;have hhas':T.has key=1:=hhas;have Hf:=Lib.hid (show Calls Tryz.prog 176 #[.pointer T.ptr,.string key] w (fun e w'=>e=.returned (.pointer (some ⟨b,0,none⟩))∧w=w') from hf);clear hf
  rw [if_neg (show ¬ (Tr.node b k v wt l r).val=none by simp [Tr.val])];have Hd:=Lib.hid (del_any key T n w hn hlo Hat.out (by omega) hhas');clear hhas hhas'
  go_enter Tryz.func155,Tryz.ntmps155
  go_wp2_with (first
   | ((with_reducible refine Hf.out.mono ?_);rintro e w' ⟨rfl,rfl⟩)
   | ((with_reducible refine Hd.out.mono ?_);rintro e w3 ⟨X,rfl,hx⟩;have Hx:=Lib.hid hx;clear hx))
  go_ret;refine ⟨X,rfl,Hx.out.at_,Hx.out.bel,by simp [Tr.val],fun _ e=>?_,Hx.out.mad,by have:=Hx.out.new;omega,?_,by have:=Hx.out.num;omega⟩
  ·
   have:=Hx.out.num;rw [e] at this;omega
  ·
   exact Hx.out.shp
end Go.Proofs.YtbckjgageofldaaGreat
