/- Play: strconv.FormatUint at base 10, strconv.ParseUint at base 16 of two bytes. Condition: the library's variables hold what the program's text lays. -/
import Derived.Test.YtjjlodeiejobdaaDoorPyM
import Derived.Lib.Walk
import Derived.BigGuard
import Derived.Deep.DeepCutAuto
namespace Go.Proofs.YtjjlodeiejobdaaDoor
open Go.RowKit Go.Shelf Go.Sort
theorem zero_at (w : World) (nd : Nat) (hs : nd ≤ 24) : Holds (fun (b : UInt8) => Value.int .u8 (b.toNat : Int)) (w.alloc (.cells Lib.zeros24 111)) w.heap.size 0 (Array.replicate nd (0 : UInt8)) := fun j hj => by
  have hj' : j < nd := by simpa using hj
  refine ⟨?_, World.frozen?_alloc_new _ _ _ _⟩
  rw [World.cell?_alloc_new, Lib.zeros24_at _ (by omega), getElem!_pos _ j hj]
  simp
set_option maxHeartbeats 6400000 in
set_option maxRecDepth 100000 in
theorem ifmt_any (u : Nat) (hu : u < 18446744073709551616) (w : World) (hv : PV w) :
    Calls Tryd.prog 63 #[.int .u64 (u : Int), .int .i64 10] w fun e w' => e = .returned (.string ⟨(Lib.decDigits u).toArray⟩) ∧ Below w.heap.size w w' := by
  by_cases hs : u < 100
  · have hs' : (u : Int) < 100 := by omega
    have Hs := Lib.hid (show ∀ y : World, Calls Tryd.prog 78 #[.int .i64 (u : Int)] y fun e w' => e = .returned (.string ⟨(Lib.decDigits u).toArray⟩) ∧ w' = y from fun y => Any.internal_strconv_small lay_small u hs y)
    go_enter Tryd.func63, Tryd.ntmps63
    go_upto_region 3 with fail
    have hwr : IntKind.i64.wrap (u : Int) = (u : Int) := by rw [IntKind.wrap_i64]; omega
    go_wp2_with ((with_reducible refine (Hs.out _).mono ?_); rintro e w' ⟨rfl, rfl⟩)
    go_ret
    exact ⟨rfl, Below.refl _ _⟩
  · have hs' : ¬ (u : Int) < 100 := by omega
    have hnd20 : Lib.nDigits u ≤ 20 := by have := Lib.numDigits_eq u (by omega) hu; split at this <;> omega
    have hal : Tryd.prog.arrayLen 111 = 24 := by simp [Program.arrayLen, Tryd.underlying111]
    have hsl : ∀ W, (Instr.sliceAt 111 (.pointer (some ⟨w.heap.size, 0, none⟩)) none (some (.int .i64 (Lib.nDigits u : Int))) none).run Tryd.prog W = .ok (.slice (some ⟨w.heap.size, 0, none⟩) (Lib.nDigits u) 24) W := fun W => by
      rw [run_sliceAt_array_h W 111 ⟨w.heap.size, 0, none⟩ (by simp [Program.arrayLen, Program.elem, Tryd.underlying111]) .i64 (Lib.nDigits u : Int) (by omega) (by rw [hal]; omega)]
      go_simp
    have hH0 := zero_at w (Lib.nDigits u) (by omega)
    have hfmt := Any.internal_strconv_formatBase10 lay_fb10 w.heap.size 0 24 u (Array.replicate (Lib.nDigits u) 0) (w.alloc (.cells Lib.zeros24 111)) hH0 (by rw [Array.size_replicate]; exact Lib.lt_pow_nDigits u) hu (by rw [Array.size_replicate]; omega)
    rw [Array.size_replicate] at hfmt
    have HH0 := Lib.hid hH0
    have Hf := Lib.hid (show Calls Tryd.prog 80 #[.slice (some ⟨w.heap.size, 0, none⟩) (Lib.nDigits u) 24, .int .u64 (u : Int)] (w.alloc (.cells Lib.zeros24 111)) _ from hfmt)
    have Hn := Lib.hid (show Calls Tryd.prog 79 #[.int .u64 (u : Int)] (w.alloc (.cells Lib.zeros24 111)) (fun e w' => e = .returned (.int .i64 (Lib.nDigits u : Int)) ∧ w' = w.alloc (.cells Lib.zeros24 111)) from Any.internal_strconv_numDigits lay_nd u (by omega) hu _ (Lib.tabIs_alloc hv.tab (.cells Lib.zeros24 111)))
    clear hH0 hal hfmt
    go_enter Tryd.func63, Tryd.ntmps63
    go_upto_region 6 with (go_at_call 79; refine Hn.out.mono ?_; rintro e w' ⟨rfl, rfl⟩)
    go_upto_region 7 with (go_at_call 80; refine Hf.out.mono ?_; rintro e w' ⟨rfl, k, v', dk, rfl, hF⟩; have HF := Lib.hid hF; clear hF)
    have hF := HF.out
    have hcv : (convert 41 9 (.slice (some ⟨w.heap.size, 0, none⟩) (Lib.nDigits u) 24)).run Tryd.prog ((putRow (fun (b : UInt8) => Value.int .u8 (b.toNat : Int)) (w.alloc (.cells Lib.zeros24 111)) w.heap.size 0 dk).drewN k) = .ok (.string ⟨(Lib.decDigits u).toArray⟩) ((putRow (fun (b : UInt8) => Value.int .u8 (b.toNat : Int)) (w.alloc (.cells Lib.zeros24 111)) w.heap.size 0 dk).drewN k) := by
      have h := run_convert_bytes_back (P := Tryd.prog) ((putRow (fun (b : UInt8) => Value.int .u8 (b.toNat : Int)) (w.alloc (.cells Lib.zeros24 111)) w.heap.size 0 dk).drewN k) 41 9 5 ⟨w.heap.size, 0, none⟩ 24 (Lib.decDigits u) Tryd.underlying41 Tryd.underlying5 Tryd.underlying9 (fun j hj => by
        rw [Lib.row_is_numeral hF j hj, Lib.add_plain, World.cell?_drewN]
        exact cell?_putRow (fun (b : UInt8) => Value.int .u8 (b.toNat : Int)) _ w.heap.size 0 _ dk HH0.out (by rw [hF.size, Array.size_replicate]) j (by rw [hF.size]; rw [Lib.decDigits_length] at hj; exact hj))
      rw [Lib.decDigits_length] at h
      exact h
    clear hF
    go_wp2
    go_ret
    obtain ⟨os, eo⟩ := Lib.fin_at w (.cells Lib.zeros24 111) dk k 0
    exact ⟨rfl, by rw [eo]; exact grow_below w k os⟩
theorem fmtuint_any (u : Nat) (hu : u < 18446744073709551616) (w : World) (hv : PV w) :
    Calls Tryd.prog 48 #[.int .u64 (u : Int), .int .i64 10] w fun e w' => e = .returned (.string ⟨(Lib.decDigits u).toArray⟩) ∧ Below w.heap.size w w' := by
  have H := Lib.hid (ifmt_any u hu w hv)
  go_enter Tryd.func48, Tryd.ntmps48
  go_wp2_with ((with_reducible refine H.out.mono ?_); rintro e w' ⟨rfl, hb⟩; have HB := Lib.hid hb; clear hb)
  go_ret
  exact ⟨rfl, HB.out⟩
end Go.Proofs.YtjjlodeiejobdaaDoor
