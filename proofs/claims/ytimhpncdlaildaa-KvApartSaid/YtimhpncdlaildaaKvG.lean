/- The state of keys: the closed chain that 'wakes' walks, worked out. No condition. -/
import Derived.Test.YtimhpncdlaildaaKvE
namespace Go.Proofs.Ytimhpncdlaildaa
open Go.RowKit

def wkA : ByteArray := ⟨#[97]⟩
def wk0 : KvOut := kvDo .nil (ofC 2 wkA ByteArray.empty ⟨#[49]⟩)
def wk1 : KvOut := kvDo wk0.sh (ofC 4 wkA ⟨#[49]⟩ ⟨#[50]⟩)
def wk2 : KvOut := kvDo wk1.sh (ofC 4 wkA ⟨#[49]⟩ ⟨#[51]⟩)
def wk3 : KvOut := kvDo wk2.sh (ofC 3 wkA ByteArray.empty ByteArray.empty)
def wk4 : KvOut := kvDo wk3.sh (ofC 1 wkA ByteArray.empty ByteArray.empty)
def wk5 : KvOut := kvDo wk2.sh (ofC 1 wkA ByteArray.empty ByteArray.empty)
theorem wk0_is : wk0.code = 0 ∧ wk0.text = ByteArray.empty := by decide +kernel
theorem wk1_is : wk1.code = 0 ∧ wk1.text = ByteArray.empty := by decide +kernel
theorem wk2_is : wk2.code = 2 ∧ wk2.text = ⟨#[50]⟩ := by decide +kernel
theorem wk3_is : wk3.code = 0 ∧ wk3.text = ⟨#[50]⟩ := by decide +kernel
theorem wk4_is : wk4.code = 1 ∧ wk4.text = ByteArray.empty := by decide +kernel
theorem wk5_is : wk5.code = 0 ∧ wk5.text = ⟨#[50]⟩ := by decide +kernel

theorem layRep (ρ : Operand → Value) (x : World) (o : Oper) (h : o.op = .alloc 98) : (execOp ρ o).run Try.prog x = .ok (.value (RegL.ptr x.heap.size)) (x.alloc (.cells (repCells 0 ByteArray.empty).toArray 98 (0, 0))) := by
  simp only [execOp, h]
  go_simp
  exact ⟨rfl, rfl⟩
theorem laySt (ρ : Operand → Value) (x : World) (o : Oper) (h : o.op = .alloc 96) : (execOp ρ o).run Try.prog x = .ok (.value (RegL.ptr x.heap.size)) (x.alloc (.cells #[.pointer none] 96 (0, 0))) := by
  simp only [execOp, h]
  go_simp
  exact rfl
/-- The world behind the stores of a new state and a reply. -/
def stW (y : World) (gs ga : Nat) (p : Option Addr) (code : Nat) (text : ByteArray) : World := ((y.setCell ⟨gs, 0, none⟩ (.pointer p)).setCell ⟨ga, 0, none⟩ (.int .u8 (code : Int))).setCell ⟨ga, 1, none⟩ (.string text)
structure StEnd (y z : World) (gs ga : Nat) (p : Option Addr) (code : Nat) (text : ByteArray) : Prop where
  st : VarAt z gs (.pointer p) 96
  rep : RepAt z ga code text
  tree : ∀ T, TreeAt y T → TreeAt z T
  oth : ∀ b, b ≠ gs → b ≠ ga → z.heap[b]? = y.heap[b]?
  bel : ∀ n w0, Below n w0 y → n ≤ gs → n ≤ ga → Below n w0 z
  size : z.heap.size = y.heap.size
theorem st_end {y : World} {gs ga : Nat} {v : Value} {c0 : Nat} {t0 : ByteArray} (hs : VarAt y gs v 96) (hr : RepAt y ga c0 t0) (hne : ga ≠ gs) (p : Option Addr) (code : Nat) (text : ByteArray) :
    StEnd y (stW y gs ga p code text) gs ga p code text := by
  have r1 : RepAt (y.setCell ⟨gs, 0, none⟩ (.pointer p)) ga c0 t0 := hr.other hne
  have r2 : RepAt ((y.setCell ⟨gs, 0, none⟩ (.pointer p)).setCell ⟨ga, 0, none⟩ (.int .u8 (code : Int))) ga code t0 := r1.set rfl
  refine ⟨((hs.set).other (Ne.symm hne)).other (Ne.symm hne), r2.set rfl, fun T hT => ?_, fun b h1 h2 => ?_, fun n w0 hb h1 h2 => below_setV (below_setV (below_setV hb h1) h2) h2, ?_⟩
  · exact TreeAt.setC r2 (by simp [repCells]) (TreeAt.setC r1 (by simp [repCells]) (TreeAt.setC hs (by simp) hT))
  · exact (Below.heap_setCell _ _ _ _ (by exact h2)).trans ((Below.heap_setCell _ _ _ _ (by exact h2)).trans (Below.heap_setCell _ _ _ _ (by exact h1)))
  · simp [stW, World.setCell]
end Go.Proofs.Ytimhpncdlaildaa
