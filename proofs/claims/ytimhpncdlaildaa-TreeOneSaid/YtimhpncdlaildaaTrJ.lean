/- Trees: the laws' known tree. No condition. -/
import Derived.Test.YtimhpncdlaildaaTrI
namespace Go.Proofs.Ytimhpncdlaildaa
open Go.RowKit

theorem put_sh (key v : ByteArray) (hk : key.size ≤ maxLen) (T : Tr) (w : World) (hat : TreeAt w T) (hc : T.cnt ≤ 4611686018427387903) (S : Sh) (hS : putSh key v T.sh (T.sh.look key) = S) :
    Calls Try.prog 49 #[.pointer T.ptr, .string key, .string v] w fun e w' => ∃ X, e = .returned (.pointer X.ptr) ∧ TreeAt w' X ∧ Below w.heap.size w w' ∧ X.sh = S := by
  refine (putT_any key v hk T w.heap.size w (Nat.le_refl _) hat.lo hat hc).mono ?_
  rintro e w' ⟨X, rfl, hx⟩
  exact ⟨X, rfl, hx.at_, hx.bel, by rw [hx.shp, sh_look, hS]⟩
theorem del_sh (key : ByteArray) (T : Tr) (w : World) (hat : TreeAt w T) (hc : T.cnt ≤ 4611686018427387903) (S : Sh) (hS : delSh key T.sh (T.sh.look key) = S) :
    Calls Try.prog 50 #[.pointer T.ptr, .string key] w fun e w' => ∃ X, e = .returned (.pointer X.ptr) ∧ TreeAt w' X ∧ Below w.heap.size w w' ∧ X.sh = S := by
  refine (delT_any key T w.heap.size w (Nat.le_refl _) hat.lo hat hc).mono ?_
  rintro e w' ⟨X, rfl, hx⟩
  exact ⟨X, rfl, hx.at_, hx.bel, by rw [hx.shp, sh_look, hS]⟩

set_option maxRecDepth 100000 in
set_option maxHeartbeats 2000000 in
theorem trWakes_any (w : World) : Calls Try.prog 37 #[] w fun e w' => e = .returned (.bool true) ∧ Below w.heap.size w w' := by
  obtain ⟨f1, f2, f3, f4, f5, f6, f7, f8, f9⟩ := s_facts
  have H1 := Lib.hid (show Calls Try.prog 49 #[.pointer none, .string ⟨#[97]⟩, .string ⟨#[49]⟩] w _ from put_sh tA t1 (by decide) .nil w trivial (by decide) s1 rfl)
  have F := Lib.hid (And.intro f1 (And.intro f2 (And.intro f3 (And.intro f4 (And.intro f5 (And.intro f6 (And.intro f7 (And.intro f8 f9))))))))
  clear f1 f2 f3 f4 f5 f6 f7 f8 f9
  go_enter Try.func37, Try.ntmps37
  go_upto_region 3 with (first
    | ((with_reducible refine H1.out.mono ?_); rintro e w1 ⟨X1, rfl, hx⟩; have Hx1 := Lib.hid hx; clear hx; have H2 := Lib.hid (show Calls Try.prog 49 #[.pointer X1.ptr, .string ⟨#[98]⟩, .string ⟨#[50]⟩] w1 _ from put_sh tB t2 (by decide) X1 w1 Hx1.out.1 (by rw [sh_cnt, Hx1.out.2.2, F.out.2.2.2.2.2.2.2.1]; decide) s2 (by rw [Hx1.out.2.2]; rfl)); clear H1)
    | ((with_reducible refine H2.out.mono ?_); rintro e w2 ⟨X2, rfl, hx⟩; have Hx2 := Lib.hid hx; clear hx))
  have hb2 := Hx1.out.2.1.trans (Hx2.out.2.1.mono Hx1.out.2.1.size)
  have Hb2 := Lib.hid hb2; clear hb2
  have H3 := Lib.hid (show Calls Try.prog 50 #[.pointer X2.ptr, .string ⟨#[98]⟩] w2 _ from del_sh tB X2 w2 Hx2.out.1 (by rw [sh_cnt, Hx2.out.2.2, F.out.2.2.2.1]; decide) s3 (by rw [Hx2.out.2.2]; rfl))
  go_upto_region 4 with (first
    | ((with_reducible refine H3.out.mono ?_); rintro e w3 ⟨X3, rfl, hx⟩; have Hx3 := Lib.hid hx; clear hx; have H4 := Lib.hid (show Calls Try.prog 49 #[.pointer X3.ptr, .string ⟨#[97]⟩, .string ⟨#[51]⟩] w3 _ from put_sh tA t3 (by decide) X3 w3 Hx3.out.1 (by rw [sh_cnt, Hx3.out.2.2, F.out.2.2.2.2.2.2.2.2]; decide) s4 (by rw [Hx3.out.2.2]; rfl)); clear H3)
    | ((with_reducible refine H4.out.mono ?_); rintro e w4 ⟨X4, rfl, hx⟩; have Hx4 := Lib.hid hx; clear hx))
  have hb24 := Hx3.out.2.1.trans (Hx4.out.2.1.mono Hx3.out.2.1.size)
  have Hat2 := Lib.hid (Hx2.out.1.below hb24)
  have Hb4 := Lib.hid (Hb2.out.trans (hb24.mono Hb2.out.size)); clear hb24
  have g1 := get_any tA X2 w4 Hat2.out
  have g2 := get_any tA X4 w4 Hx4.out.1
  have g3 := get_any tB X4 w4 Hx4.out.1
  rw [sh_look, Hx2.out.2.2, F.out.1] at g1
  rw [sh_look, Hx4.out.2.2, F.out.2.1] at g2
  rw [sh_look, Hx4.out.2.2, F.out.2.2.1] at g3
  have l1 := len_any X2 w4 Hat2.out
  have l2 := len_any X4 w4 Hx4.out.1
  have p1 := depth_any X2 w4 Hat2.out
  rw [sh_cnt, Hx2.out.2.2, F.out.2.2.2.1] at l1
  rw [sh_cnt, Hx4.out.2.2, F.out.2.2.2.2.1] at l2
  rw [sh_dep, Hx2.out.2.2, F.out.2.2.2.2.2.1] at p1
  have G1 := Lib.hid (show Calls Try.prog 40 #[.pointer X2.ptr, .string ⟨#[97]⟩] w4 (fun e w' => e = .returned (.tuple #[.string ⟨#[49]⟩, .bool true]) ∧ w4 = w') from g1); clear g1
  have G2 := Lib.hid (show Calls Try.prog 40 #[.pointer X4.ptr, .string ⟨#[97]⟩] w4 (fun e w' => e = .returned (.tuple #[.string ⟨#[51]⟩, .bool true]) ∧ w4 = w') from g2); clear g2
  have G3 := Lib.hid (show Calls Try.prog 40 #[.pointer X4.ptr, .string ⟨#[98]⟩] w4 (fun e w' => e = .returned (.tuple #[.string ByteArray.empty, .bool false]) ∧ w4 = w') from g3); clear g3
  have L1 := Lib.hid (show Calls Try.prog 42 #[.pointer X2.ptr] w4 (fun e w' => e = .returned (.int .i64 2) ∧ w4 = w') from l1); clear l1
  have L2 := Lib.hid (show Calls Try.prog 42 #[.pointer X4.ptr] w4 (fun e w' => e = .returned (.int .i64 1) ∧ w4 = w') from l2); clear l2
  have P1 := Lib.hid (show Calls Try.prog 44 #[.pointer X2.ptr] w4 (fun e w' => e = .returned (.int .i64 2) ∧ w4 = w') from p1); clear p1
  have H5 := Lib.hid (show Calls Try.prog 50 #[.pointer X4.ptr, .string ⟨#[97]⟩] w4 _ from del_sh tA X4 w4 Hx4.out.1 (by rw [sh_cnt, Hx4.out.2.2, F.out.2.2.2.2.1]; decide) s5 (by rw [Hx4.out.2.2]; rfl))
  go_upto_region 7 with (first
    | ((with_reducible refine G1.out.mono ?_); rintro e w' ⟨rfl, rfl⟩; clear G1)
    | ((with_reducible refine G2.out.mono ?_); rintro e w' ⟨rfl, rfl⟩; clear G2)
    | ((with_reducible refine G3.out.mono ?_); rintro e w' ⟨rfl, rfl⟩; clear G3))
  go_wp2_with (first
    | ((with_reducible refine L1.out.mono ?_); rintro e w' ⟨rfl, rfl⟩; clear L1)
    | ((with_reducible refine L2.out.mono ?_); rintro e w' ⟨rfl, rfl⟩; clear L2)
    | ((with_reducible refine P1.out.mono ?_); rintro e w' ⟨rfl, rfl⟩; clear P1)
    | ((with_reducible refine H5.out.mono ?_); rintro e w5 ⟨X5, rfl, hx⟩; have Hx5 := Lib.hid hx; clear hx H5; have hz : X5.ptr = none := by (have h := F.out.2.2.2.2.2.2.1; rw [← Hx5.out.2.2, ← sh_cnt] at h; rw [Tr.cnt_nil.1 h]; rfl)))
  go_ret
  exact ⟨rfl, Hb4.out.trans (Hx5.out.2.1.mono Hb4.out.size)⟩
end Go.Proofs.Ytimhpncdlaildaa
