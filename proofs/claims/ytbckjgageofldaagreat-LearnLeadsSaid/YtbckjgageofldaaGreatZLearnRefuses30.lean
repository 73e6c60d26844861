/- LearnLeads, plain: which bases are on the shelf. No condition. -/
import Derived.Test.YtbckjgageofldaaGreatZLearnRefuses29
namespace Go.Proofs.YtbckjgageofldaaGreat
open Go.RowKit
def mults (e k:Nat):List Nat:=(List.range k).map fun j=>(j+1)*e
theorem mults_len (e k:Nat):(mults e k).length=k:=by simp [mults]
theorem mults_succ (e k:Nat):mults e (k+1)=mults e k++[(k+1)*e]:=by
 unfold mults;rw [List.range_succ,List.map_append];rfl
def TopsI (e k:Nat) (L:List BsV):Prop:=L.map BsV.top=(mults e k).drop (k - 3)
theorem tops_nil (e:Nat):TopsI e 0 []:=rfl
theorem tops_len {e k:Nat} {L:List BsV} (h:TopsI e k L):L.length=k - (k - 3):=by
 have q:=congrArg List.length h;rw [List.length_map,List.length_drop,mults_len] at q;exact q
theorem tops_put {e k:Nat} {L:List BsV} (h:TopsI e k L) {b:BsV} (hb:b.top=(k+1)*e):TopsI e (k+1) (keep3 (L++[b])):=by
 have hl:=tops_len h;unfold TopsI at *
 unfold keep3;rw [List.map_drop,List.map_append,h,mults_succ,List.map_singleton,hb,List.length_append,List.length_singleton,hl];rw [← List.drop_append_of_le_length (by rw [mults_len];omega),List.drop_drop];congr 1
 omega
theorem tops_mem {e k:Nat} {L:List BsV} (h:TopsI e k L) (s:Nat):(∃ b,b ∈ L∧b.top=s) ↔ ∃ j,k - 3≤j∧j<k∧s=(j+1)*e:=by
 have q:(∃ b,b ∈ L∧b.top=s) ↔ s ∈ L.map BsV.top:=by
  rw [List.mem_map]
 unfold TopsI at h;rw [q,h];constructor
 ·
  intro hs;obtain ⟨i,hi,e1⟩:=List.getElem_of_mem hs;have hi2:=hi;rw [List.length_drop,mults_len] at hi2;have h1:k - 3+i<k:=by omega
  refine ⟨k - 3+i,by omega,h1,?_⟩;rw [← e1,List.getElem_drop];simp [mults]
 ·
  rintro ⟨j,h1,h2,rfl⟩;refine List.mem_iff_getElem.2 ⟨j - (k - 3),by rw [List.length_drop,mults_len];omega,?_⟩;rw [List.getElem_drop];simp [mults];congr 1
  omega
theorem tops_new {e k:Nat} {L:List BsV} (h:TopsI e k L):(newB L).top=k*e:=by
 unfold TopsI at h;cases k with
 | zero =>
  have:L=[]:=by simpa [mults] using h
  subst this;simp [newB,bs0]
 | succ k =>
  have q:=congrArg List.getLast? h;rw [List.getLast?_map,mults_succ,List.getLast?_drop,if_neg (by rw [List.length_append,mults_len];simp;omega),List.getLast?_append] at q;cases hg:L.getLast? with
  | none=>rw [hg] at q;simp at q
  | some b =>
   rw [hg] at q;simp at q;unfold newB;rw [hg];exact q
theorem near_iff {e k s:Nat} (he:1≤e∧e≤5) (hs:s<k*e):(∃ j,k - 3≤j∧j<k∧s=(j+1)*e) ↔ (0<s∧s % e=0∧k*e - s<e*3):=by
 have he5:e=1∨e=2∨e=3∨e=4∨e=5:=by omega
 constructor
 ·
  rintro ⟨j,h1,h2,rfl⟩;rcases he5 with rfl | rfl | rfl | rfl | rfl <;> omega
 ·
  rintro ⟨h1,h2,h3⟩;refine ⟨s / e - 1,?_,?_,?_⟩
  all_goals (rcases he5 with rfl | rfl | rfl | rfl | rfl <;> omega)
theorem lead_kind {L:List BsV} {s:Nat} (h:s<(newB L).top):((leadV L s).1.k=13 ↔ ∃ b,b ∈ L∧b.top=s)∧((leadV L s).1.k=13∨(leadV L s).1.k=12)∧(leadV L s).2=true∧(leadV L s).1.s=(newB L).top:=by
 unfold leadV;rw [if_neg (by omega)];cases hf:L.find? (fun b=>b.top == s) with
 | none =>
  refine ⟨⟨fun h=>(by cases h),fun ⟨b,hb,hs⟩=>?_⟩,.inr rfl,rfl,rfl⟩;have q:=List.find?_eq_none.1 hf b hb;simp [hs] at q
 | some b =>
  have hb:=List.find?_some hf;exact ⟨⟨fun _=>⟨b,List.mem_of_find?_eq_some hf,by simpa using hb⟩,fun _=>rfl⟩,.inl rfl,rfl,rfl⟩
structure AtsI (w:World) (M0:MacV) (z:List CmdV) (A:List (MacV × Option Addr)):Prop where
 m:∀ (j:Nat) (x:MacV × Option Addr),A[j]?=some x→x.1=macsDo M0 (z.take j)
 t:∀ x ∈ A,∃ X,TreeAt w X∧x.2=X.ptr∧X.sh=x.1.sh
theorem AtsI.sorts {w w':World} {M0:MacV} {z:List CmdV} {A:List (MacV × Option Addr)} {ts:List TypeId} (h:AtsI w M0 z A) (hs:Sorts ts w.heap.size w w') (ht:195 ∉ ts):AtsI w' M0 z A :=
 ⟨h.m,fun x hx=>by
  obtain ⟨X,h1,h2,h3⟩:=h.t x hx;exact ⟨X,TreeAt.sorts hs ht h1,h2,h3⟩⟩
def encM (x:MacV × Option Addr):List Value:=macCells x.1 x.2
theorem encM_len (x:MacV × Option Addr):(encM x).length=15:=rfl
theorem encM_one (x:MacV × Option Addr):∀ u ∈ encM x,u.oneCell'=true:=mac_one x.1 x.2
end Go.Proofs.YtbckjgageofldaaGreat
