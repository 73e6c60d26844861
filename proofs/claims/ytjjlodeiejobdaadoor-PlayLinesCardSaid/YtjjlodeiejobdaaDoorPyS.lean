/- Play: the words' table. No condition. -/
import Derived.Test.YtjjlodeiejobdaaDoorPyR
import Derived.Test.YtjjlodeiejobdaaDoorPyB
import Derived.Test.YtjjlodeiejobdaaDoorMp
namespace Go.Proofs.YtjjlodeiejobdaaDoor
open Go.RowKit Go.Shelf
open Go.Maps (Keyed)
open Go.ChangeMaps Go.MapKept
theorem lawS : Keyed Tryd.prog 9 := Maps.string_keyed Tryd.underlying9
theorem key_ks {s : ByteArray} (h : s.size ≤ maxLen) : keyOf Tryd.prog 9 (.string s) = some (.string s.data.toList) := Go.WideMaps.keyOf_string_mk Tryd.underlying9 h
theorem wpList_ins_mp {P : Program} {w : World} {ops : Array Oper} {rest : List Oper} {o : Oper} {a : Act} {Q : Exit → Act → World → Prop} {k : TypeId} {b n : Nat} {M : Lit → Option Value} (hg : o.guard = none) (m x v : Operand) (t e : TypeId) (hop : o.op = Op.insert t m x v) (K : Keyed P k) (ht : P.underlying t = some (.map k e))
    (hm : a.eval m = .map (some b)) (h : MpAt P k w b n M) (hn : n < maxLen) (key val : Value) (kl : Lit) (hx : a.eval x = key) (hv : a.eval v = val) (hkey : keyOf P k key = some kl)
    (hK : ∀ w', MpAt P k w' b (n + 1) (mpPut M kl val) → w.mapTurned w' b → wpList P ops Q rest (a.put o.dst undef) w') : wpList P ops Q (o :: rest) a w := by
  refine wpList_plain hg fun K' hK' => ?_
  obtain ⟨w', hrun, r1, r2⟩ := h.store K ht hn (val := val) hkey
  unfold Oper.wp
  simp [execOp, hop, hm, hx, hv, hrun, Result.andThen]
  exact hK' _ _ (hK w' r1 r2)
def formC (f : FormV) : List Value := [.int .u8 (f.d : Int), .int .u8 (f.k : Int), .string ⟨f.t.toArray⟩]
def formV (f : FormV) : Value := .agg (formC f).toArray
/-- The table, as a function. -/
def formM : Lit → Option Value := FT.foldr (fun f M => mpPut M (.string f.w) (formV f)) (fun _ => none)
theorem fold_at (b : Bs) : ∀ l : List FormV, (l.foldr (fun f M => mpPut M (.string f.w) (formV f)) (fun _ => none)) (.string b) = (l.find? (fun f => decide (f.w = b))).map formV
  | [] => rfl
  | f :: r => by
    rw [List.foldr_cons, List.find?_cons, mpPut]
    have e : (Lit.string b).sameKey (.string f.w) = decide (f.w = b) := by
      show (b == f.w) = _
      rw [Bool.eq_iff_iff, beq_iff_eq, decide_eq_true_iff]
      exact eq_comm
    rw [e]
    by_cases h : f.w = b
    · simp [h]
    · simp [h, fold_at b r]
theorem formM_at (b : Bs) : formM (.string b) = (FT.find? (fun f => decide (f.w = b))).map formV := fold_at b FT
set_option maxRecDepth 100000 in
set_option maxHeartbeats 4000000 in
theorem forms_any (w : World) : Calls Tryd.prog 24 #[] w fun e w' => e = .returned (.map (some w.heap.size)) ∧ MpAt Tryd.prog 9 w' w.heap.size 17 formM ∧ Below w.heap.size w w' := by
  have Hm := Lib.hid (mp_new Tryd.prog 9 w)
  have Hb := Lib.hid ((Below.refl w.heap.size w).alloc (Nat.le_refl _) (.map #[] 0))
  go_enter Tryd.func24, Tryd.ntmps24
  have hmm := @run_makeMap Tryd.prog
  go_wp2_with (refine wpList_ins_mp rfl _ _ _ 59 62 rfl lawS Tryd.underlying59 rfl Hm.out (by decide) _ _ _ rfl rfl (key_ks (by decide)) ?_; clear Hm; intro w1 hm1 ht1; have Hm := Lib.hid hm1; have Hb1 := Lib.hid (turned_below ht1 Hb.out (Nat.le_refl _)); clear Hb hm1 ht1; have Hb := Hb1; clear Hb1)
  go_ret
  exact ⟨rfl, Hm.out, Hb.out⟩
end Go.Proofs.YtjjlodeiejobdaaDoor
