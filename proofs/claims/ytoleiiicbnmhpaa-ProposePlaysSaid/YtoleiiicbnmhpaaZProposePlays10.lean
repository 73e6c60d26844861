/- ProposePlays: the two desks are the same. Condition: they answer to one another. -/
import Derived.Test.YtoleiiicbnmhpaaZProposePlays9
import Derived.Deep.DeepCutAuto
import Derived.Deep.CutBlock
import Derived.StillTailTactics
import Derived.Test.YtoleiiicbnmhpaaZProposePlays7
namespace Go.Proofs.Ytoleiiicbnmhpaa
open Go.RowKit
theorem srt_eq : ∀ {a b : List Nat}, a.Pairwise (fun x y => x < y) → b.Pairwise (fun x y => x < y) → (∀ s, s ∈ a ↔ s ∈ b) → a = b
  | [], [], _, _, _ => rfl
  | [], y :: b, _, _, h => by have := (h y).2 (List.mem_cons_self ..); cases this
  | x :: a, [], _, _, h => by have := (h x).1 (List.mem_cons_self ..); cases this
  | x :: a, y :: b, ha, hb, h => by
    rw [List.pairwise_cons] at ha hb
    have e : x = y := by
      rcases List.mem_cons.1 ((h x).1 (List.mem_cons_self ..)) with e | m
      · exact e
      · rcases List.mem_cons.1 ((h y).2 (List.mem_cons_self ..)) with e | m2
        · exact e.symm
        · have h1 := hb.1 x m
          have h2 := ha.1 y m2
          omega
    subst e
    rw [srt_eq ha.2 hb.2 fun s => ?_]
    constructor
    · intro m
      rcases List.mem_cons.1 ((h s).1 (List.mem_cons_of_mem _ m)) with e | k
      · have := ha.1 s m
        omega
      · exact k
    · intro m
      rcases List.mem_cons.1 ((h s).2 (List.mem_cons_of_mem _ m)) with e | k
      · have := hb.1 s m
        omega
      · exact k
theorem PlR.slots {D : Nat → Option OpR} {last : Nat} {L : List RoG} (h : PlR D last L) {ns : List Nat} (hs : SlotsOf D ns) : ns = L.map (·.s) :=
  srt_eq hs.1 h.ord fun s => (hs.2 s).trans (h.mem s).symm
set_option maxRecDepth 100000 in
set_option maxHeartbeats 16000000 in
theorem same_any (p g n last : Nat) (D : Nat → Option OpR) (hn : n ≤ 100000) (hr64 : ∀ s r, D s = some r → s < 18446744073709551616) (v : Value) (Z : List RoV) (hP : PlR D last (Z.map (·.g))) (hZ : Z.length ≤ 1000) (w : World) (hd : DeskAt w p g n D last) (h : RdAt2 w v Z last) :
    Calls Try.prog 22 #[.pointer (some ⟨p, 0, none⟩), v] w fun e w' => e = .returned (.bool true) ∧ Below w.heap.size w w' := by
  obtain ⟨A, c0, rfl, hnil, hrows⟩ := h.out
  have b1 := (Below.refl w.heap.size w).alloc (Nat.le_refl _) (.cells (dkC A Z.length c0 last).toArray 50)
  have r1 : DkAt (w.alloc (.cells (dkC A Z.length c0 last).toArray 50)) w.heap.size A Z.length c0 last := heap_alloc_new _ _
  have HALL := Lib.hid (fun (y : World) (hy : Below w.heap.size w y) => all_any p g n last D hn hr64 y (hd.below hy))
  have HLST := Lib.hid (fun (y : World) (hy : Below w.heap.size w y) => dlast_any p g n last D y (hd.below hy))
  have HR := Lib.hid hrows
  have HP := Lib.hid hP
  clear h hrows hnil hd hn hr64 hP
  go_enter Try.func22, Try.ntmps22
  go_upto_region 1 with fail
  change Code.wp _ _ _ _ (w.alloc (.cells (dkC A Z.length c0 last).toArray 50))
  generalize w.alloc (.cells (dkC A Z.length c0 last).toArray 50) = w1 at *
  obtain ⟨m, hm⟩ : ∃ m, m = Z.length := ⟨_, rfl⟩
  rw [← hm] at r1 hZ ⊢
  have HM := Lib.hid hm
  have R1 := Lib.hid r1
  have B1 := Lib.hid b1
  clear hm r1 b1
  go_upto_region 2 with ((with_reducible refine (HALL.out _ B1.out).mono ?_); rintro e w2 ⟨A2, c2, ns, rfl, hsl, hb2, ho2⟩; have hns := HP.out.slots hsl; have HNS := Lib.hid hns; have HSL := Lib.hid hsl; have HO2 := Lib.hid ho2; have B2 := Lib.hid hb2; have hnl : ns.length = m := (by rw [hns, HM.out]; simp); clear hsl ho2 hb2 hns)
  rw [hnl] at HO2
  have HNL := Lib.hid hnl
  clear hnl
  have B12 := Lib.hid (B1.out.trans (B2.out.mono B1.out.size))
  have hR2 := R1.out.below B2.out
  obtain ⟨gd, hgd⟩ : ∃ q, q = w.heap.size := ⟨_, rfl⟩
  rw [← hgd] at hR2 ⊢
  have R2 := Lib.hid hR2
  have HGD := Lib.hid hgd
  clear hgd hR2
  refine (wpIn_wide (n := 1)).1 ?_
  refine RegK.wpIn_region_can (F := Fence.wide) (KeptW w2) [(0, 0), (1, 0), (2, 0), (3, 0), (4, 0), (5, 0), (6, 0), (7, 0), (9, 0), (10, 0), (8, 1), (11, 0), (12, 0)] (by kernel_rfl) (by kernel_rfl) (by kernel_rfl) (fun _ _ d _ _ h => by cases d <;> exact h) ⟨rfl, rfl, rfl, Nat.le_refl _, fun _ _ => rfl⟩ ?_
  dsimp only [RegK.pick, List.getElem?_cons_zero, List.getElem?_cons_succ]
  change RegK.Can _ _ _ _ _ _ _ _ w2.drew
  have hkd : KeptW w2 w2.drew := ⟨rfl, rfl, rfl, Nat.le_refl _, fun _ _ => rfl⟩
  generalize w2.drew = v1 at *
  iterate 3 (refine RegK.can_reads ?_; intro K hK; go_simp; (first | refine ⟨_, fun _ _ => rfl, hK _ ?_⟩ | refine hK _ ?_); clear hK K)
  refine RegK.can_reads ?_
  intro K hK
  go_simp
  refine ⟨.slice A m c0, fun y hy => ?_, hK _ ?_⟩
  · have f0 : y.cell? ⟨gd, 0, none⟩ = some (.slice A m c0) := cell_of_row _ _ _ _ _ _ (R2.out.below (KeptW.bel hy))
    go_simp
  clear hK K
  iterate 5 (refine RegK.can_reads ?_; intro K hK; go_simp; (first | refine ⟨_, fun _ _ => rfl, hK _ ?_⟩ | refine hK _ ?_); clear hK K)
  refine RegK.can_reads ?_
  intro K hK
  go_simp
  refine ⟨.int .u64 (last : Int), fun y hy => ?_, hK _ ?_⟩
  · have f1 : y.cell? ⟨gd, 1, none⟩ = some (.int .u64 (last : Int)) := cell_of_row _ _ _ _ _ _ (R2.out.below (KeptW.bel hy))
    go_simp
  clear hK K
  refine RegK.can_turns (fun _ => trivial) ?_
  intro K K0 hK hK0
  go_simp
  refine ⟨trivial, ?_⟩
  refine (callsIn_wide.2 (HLST.out v1 (B12.out.trans ((KeptW.bel hkd).mono B12.out.size)))).mono ?_
  rintro e v2 ⟨rfl, hb7⟩
  have v2k : KeptW w2 v2 := KeptW.mono hkd hb7
  refine hK _ _ v2k ?_
  clear hK K hK0 K0
  iterate 2 (refine RegK.can_reads ?_; intro K hK; go_simp; (first | refine ⟨_, fun _ _ => rfl, hK _ ?_⟩ | refine hK _ ?_); clear hK K)
  refine RegK.can_nil ?_
  have HK := Lib.hid (KeptW.bel v2k)
  clear hkd hb7 v2k
  go_upto_region 5 with fail
  have B13 := Lib.hid (B12.out.trans (HK.out.mono B12.out.size))
  go_loopw [6] (fun s6 wr => ∃ i : Nat, s6 = .int .i64 (i : Int) ∧ i ≤ m ∧ Below w2.heap.size w2 wr) (fun s6 _ => m - (intOf s6).toNat)
  case atStart => exact ⟨0, rfl, Nat.zero_le _, HK.out⟩
  case round =>
    obtain ⟨i, rfl, hi, hb⟩ := hrel
    have Hb := Lib.hid hb
    have hbw := B12.out.trans (hb.mono B12.out.size)
    have Hbw := Lib.hid hbw
    clear hb hbw
    by_cases hin : i < m
    · have hin' : (i : Int) < (m : Int) := by omega
      have hiZ : i < Z.length := by rw [← HM.out]; exact hin
      obtain ⟨r, hr⟩ := HP.out.row Z[i].g (List.mem_map.2 ⟨Z[i], List.getElem_mem _, rfl⟩)
      obtain ⟨b, oo, rfl, hbl, hrow⟩ := (HR.out.below Hbw.out).sl.cells i Z[i] (List.getElem?_eq_getElem hiZ)
      have hri := (HR.out.below Hbw.out).el Z[i] (List.getElem_mem _)
      have hro : (rowsO D ns)[i]? = some (Z[i].g.s, r) := by
        rw [rowsO, HNS.out]
        simp only [List.map_map, List.getElem?_map, List.getElem?_eq_getElem hiZ, Option.map_some, Function.comp_apply, hr.at_, Option.getD_some]
      obtain ⟨b2, o2, rfl, hbl2, hrow2⟩ := ((own_slice (enc := encO) (k := 4) (fun _ => rfl) HO2.out (by rw [rowsO, List.length_map, HNL.out]) (by simp [maxLen]; omega)).below Hb.out).cells i _ hro
      obtain ⟨q, hq⟩ : ∃ q, q = Z[i] := ⟨_, rfl⟩
      rw [← hq] at hr hrow hri hrow2
      have Hr := Lib.hid (show wr.rangeAt b (oo + i * 4) [.int .u64 (q.g.s : Int), .string q.g.x, .slice q.c.a q.c.n q.c.c, .slice q.w.a q.w.n q.w.c] from fun j u hj => by rw [← hrow j u hj, Nat.add_assoc])
      have Hr2 := Lib.hid (show wr.rangeAt b2 (o2 + i * 4) [.int .u64 (q.g.s : Int), .string r.x, .int .u8 (r.c : Int), .int .u8 (r.who : Int)] from fun j u hj => by rw [← hrow2 j u hj, Nat.add_assoc])
      have Hri := Lib.hid hri
      have HRR := Lib.hid hr
      clear hr hrow hrow2 hri hq hro
      have f0 : wr.cell? ⟨gd, 0, none⟩ = some (.slice (some ⟨b, oo, none⟩) m c0) := cell_of_row _ _ _ _ _ _ (R2.out.below Hb.out)
      go_upto_region 8 with (first
        | (with_reducible refine wpList_load_mid rfl 77 _ rfl b (oo + i * 4) rfl [.int .u64 (q.g.s : Int), .string q.g.x, .slice q.c.a q.c.n q.c.c, .slice q.w.a q.w.n q.w.c] _ Hr.out Try.underlying77 rfl (enc4_size _ _ _ _) ?_)
        | ((with_reducible refine wpList_store_mid rfl 77 _ _ rfl wr.heap.size 0 _ rfl rfl ?_ ?_ ?_ ?_); exact th_new wr oqZ 77; exact oqC_size q; exact all_oneCell_toArray (oqC_one q)))
      change Code.wp _ _ _ _ ((wr.alloc (.cells oqZ.toArray 77)).setCells wr.heap.size 0 (oqC q))
      have hb5 := box_below wr oqZ (oqC q) 77
      have HB5 := Lib.hid (show OqAt _ _ q from box_row wr oqZ (oqC q) 77 rfl)
      have hsz5 := box_size wr oqZ (oqC q) 77
      generalize (wr.alloc (.cells oqZ.toArray 77)).setCells wr.heap.size 0 (oqC q) = w5 at *
      have Hy2 := Lib.hid (fun (y : World) (hy : Below w5.heap.size w5 y) => (show y.cell? ⟨b2, o2 + i * 4, none⟩ = some (.int .u64 (q.g.s : Int)) ∧ y.cell? ⟨b2, o2 + i * 4 + 1, none⟩ = some (.string r.x) ∧ y.cell? ⟨b2, o2 + i * 4 + 2, none⟩ = some (.int .u8 (r.c : Int)) ∧ y.cell? ⟨b2, o2 + i * 4 + 3, none⟩ = some (.int .u8 (r.who : Int)) from
        ⟨((hy.cell (Nat.lt_trans hbl2 hsz5)).trans (hb5.cell hbl2)).trans (Hr2.out 0 _ rfl), ((hy.cell (Nat.lt_trans hbl2 hsz5)).trans (hb5.cell hbl2)).trans (Hr2.out 1 _ rfl), ((hy.cell (Nat.lt_trans hbl2 hsz5)).trans (hb5.cell hbl2)).trans (Hr2.out 2 _ rfl), ((hy.cell (Nat.lt_trans hbl2 hsz5)).trans (hb5.cell hbl2)).trans (Hr2.out 3 _ rfl)⟩))
      have Hy3 := Lib.hid (fun (y : World) (hy : Below w5.heap.size w5 y) => (HB5.out.below hy).cells)
      have Hs1 := Lib.hid (fun (y : World) (hy : Below w5.heap.size w5 y) => (show Calls Try.prog 33 #[.slice q.c.a q.c.n q.c.c] y fun e w' => e = .returned (.int .u8 (r.c : Int)) ∧ Below y.heap.size y w' from by
        have h9 := set8_any (.slice q.c.a q.c.n q.c.c) q.g.cl (by rw [HRR.out.cl]; have := lstB_len r.c 7; omega) y ((Hri.out.1.below hb5).below hy)
        rw [HRR.out.cl, set_bits (bits_lst r.c) HRR.out.c.2] at h9
        exact pure_bel h9))
      have Hs2 := Lib.hid (fun (y : World) (hy : Below w5.heap.size w5 y) => (show Calls Try.prog 33 #[.slice q.w.a q.w.n q.w.c] y fun e w' => e = .returned (.int .u8 (r.who : Int)) ∧ Below y.heap.size y w' from by
        have h9 := set8_any (.slice q.w.a q.w.n q.w.c) q.g.wl (by rw [HRR.out.len]; have := pop8_127 ⟨r.who, HRR.out.who⟩; simp only at this; omega) y ((Hri.out.2.below hb5).below hy)
        rw [set_bits HRR.out.wl HRR.out.who] at h9
        exact pure_bel h9))
      have hx : q.g.x = r.x := HRR.out.x
      have hb8 := Hb.out.trans (hb5.mono Hb.out.size)
      have Hb8 := Lib.hid hb8
      rw [hx] at Hy3
      clear hb5 hb8 hsz5 hx f0
      refine (wpIn_wide (n := 1)).1 ?_
      refine RegK.wpIn_region_can (F := Fence.wide) (KeptW w5) [(0, 0), (1, 0), (2, 0), (3, 0), (4, 0), (5, 0), (6, 0), (7, 0), (8, 0), (9, 0), (10, 0), (11, 0), (12, 0), (13, 0), (14, 0), (15, 0), (16, 0), (17, 0), (18, 0), (19, 0), (20, 0), (21, 0), (22, 0), (23, 0), (24, 0), (25, 0), (26, 1), (27, 0), (28, 0), (29, 0), (30, 0), (31, 0), (32, 0), (33, 0), (34, 0), (35, 0), (36, 0), (37, 1), (38, 0), (39, 0)] (by kernel_rfl) (by kernel_rfl) (by kernel_rfl) (fun _ _ d _ _ h => by cases d <;> exact h) ⟨rfl, rfl, rfl, Nat.le_refl _, fun _ _ => rfl⟩ ?_
      dsimp only [RegK.pick, List.getElem?_cons_zero, List.getElem?_cons_succ]
      change RegK.Can _ _ _ _ _ _ _ _ w5.drew
      have hkd : KeptW w5 w5.drew := ⟨rfl, rfl, rfl, Nat.le_refl _, fun _ _ => rfl⟩
      generalize w5.drew = v3 at *
      iterate 4 (refine RegK.can_reads ?_; intro K hK; go_simp; (first | refine ⟨_, fun _ _ => rfl, hK _ ?_⟩ | refine hK _ ?_); clear hK K)
      refine RegK.can_reads ?_
      intro K hK
      go_simp
      refine ⟨.int .u64 (q.g.s : Int), fun y hy => ?_, hK _ ?_⟩
      · obtain ⟨k0, k1, k2, k3⟩ := Hy2.out y (KeptW.bel hy)
        go_simp
      clear hK K
      refine RegK.can_reads ?_; intro K hK; go_simp; (first | refine ⟨_, fun _ _ => rfl, hK _ ?_⟩ | refine hK _ ?_); clear hK K
      refine RegK.can_reads ?_
      intro K hK
      go_simp
      refine ⟨.int .u64 (q.g.s : Int), fun y hy => ?_, hK _ ?_⟩
      · obtain ⟨k0, k1, k2, k3⟩ := Hy3.out y (KeptW.bel hy)
        go_simp
      clear hK K
      iterate 6 (refine RegK.can_reads ?_; intro K hK; go_simp; (first | refine ⟨_, fun _ _ => rfl, hK _ ?_⟩ | refine hK _ ?_); clear hK K)
      refine RegK.can_reads ?_
      intro K hK
      go_simp
      refine ⟨.string r.x, fun y hy => ?_, hK _ ?_⟩
      · obtain ⟨k0, k1, k2, k3⟩ := Hy2.out y (KeptW.bel hy)
        go_simp
      clear hK K
      refine RegK.can_reads ?_; intro K hK; go_simp; (first | refine ⟨_, fun _ _ => rfl, hK _ ?_⟩ | refine hK _ ?_); clear hK K
      refine RegK.can_reads ?_
      intro K hK
      go_simp
      refine ⟨.string r.x, fun y hy => ?_, hK _ ?_⟩
      · obtain ⟨k0, k1, k2, k3⟩ := Hy3.out y (KeptW.bel hy)
        go_simp
      clear hK K
      iterate 7 (refine RegK.can_reads ?_; intro K hK; go_simp; (first | refine ⟨_, fun _ _ => rfl, hK _ ?_⟩ | refine hK _ ?_); clear hK K)
      refine RegK.can_reads ?_
      intro K hK
      go_simp
      refine ⟨.int .u8 (r.c : Int), fun y hy => ?_, hK _ ?_⟩
      · obtain ⟨k0, k1, k2, k3⟩ := Hy2.out y (KeptW.bel hy)
        go_simp
      clear hK K
      refine RegK.can_reads ?_; intro K hK; go_simp; (first | refine ⟨_, fun _ _ => rfl, hK _ ?_⟩ | refine hK _ ?_); clear hK K
      refine RegK.can_reads ?_
      intro K hK
      go_simp
      refine ⟨.slice q.c.a q.c.n q.c.c, fun y hy => ?_, hK _ ?_⟩
      · obtain ⟨k0, k1, k2, k3⟩ := Hy3.out y (KeptW.bel hy)
        go_simp
      clear hK K
      refine RegK.can_turns (fun _ => trivial) ?_
      intro K K0 hK hK0
      go_simp
      refine ⟨trivial, ?_⟩
      refine (callsIn_wide.2 (Hs1.out v3 (KeptW.bel hkd))).mono ?_
      rintro e x2 ⟨rfl, hb7⟩
      have x2k : KeptW w5 x2 := KeptW.mono hkd hb7
      refine hK _ _ x2k ?_
      clear hK K hK0 K0
      iterate 7 (refine RegK.can_reads ?_; intro K hK; go_simp; (first | refine ⟨_, fun _ _ => rfl, hK _ ?_⟩ | refine hK _ ?_); clear hK K)
      refine RegK.can_reads ?_
      intro K hK
      go_simp
      refine ⟨.int .u8 (r.who : Int), fun y hy => ?_, hK _ ?_⟩
      · obtain ⟨k0, k1, k2, k3⟩ := Hy2.out y (KeptW.bel hy)
        go_simp
      clear hK K
      refine RegK.can_reads ?_; intro K hK; go_simp; (first | refine ⟨_, fun _ _ => rfl, hK _ ?_⟩ | refine hK _ ?_); clear hK K
      refine RegK.can_reads ?_
      intro K hK
      go_simp
      refine ⟨.slice q.w.a q.w.n q.w.c, fun y hy => ?_, hK _ ?_⟩
      · obtain ⟨k0, k1, k2, k3⟩ := Hy3.out y (KeptW.bel hy)
        go_simp
      clear hK K
      refine RegK.can_turns (fun _ => trivial) ?_
      intro K K0 hK hK0
      go_simp
      refine ⟨trivial, ?_⟩
      refine (callsIn_wide.2 (Hs2.out x2 (KeptW.bel x2k))).mono ?_
      rintro e x3 ⟨rfl, hb7⟩
      have x3k : KeptW w5 x3 := KeptW.mono x2k hb7
      refine hK _ _ x3k ?_
      clear hK K hK0 K0
      iterate 2 (refine RegK.can_reads ?_; intro K hK; go_simp; (first | refine ⟨_, fun _ _ => rfl, hK _ ?_⟩ | refine hK _ ?_); clear hK K)
      refine RegK.can_nil ?_
      have H9 := Lib.hid (KeptW.bel x3k)
      go_wp2_with fail
      exact ⟨⟨i + 1, rfl, by omega, Hb8.out.trans (H9.out.mono Hb8.out.size)⟩, by simp only [intOf]; omega⟩
    · have hin' : ¬ (i : Int) < (m : Int) := by omega
      go_wp2_with fail
      go_ret
      exact ⟨rfl, Hbw.out⟩
end Go.Proofs.Ytoleiiicbnmhpaa
namespace Go.Proofs.Ytoleiiicbnmhpaa
open Go.RowKit
/-- 'y' agrees with 'w' on the blocks from 'B' on. -/
structure Above (B : Nat) (w y : World) : Prop where
  size : w.heap.size ≤ y.heap.size
  block : ∀ k, B ≤ k → k < w.heap.size → y.heap[k]? = w.heap[k]?
theorem ReadB.far {B n c : Nat} {a : Option Addr} {w y : World} {l : List UInt8} (h : ReadB w (.slice a n c) l) (hf : FarS B a) (hy : Above B w y) : ReadB y (.slice a n c) l := by
  obtain ⟨a', cap, e, h0, h2⟩ := h.out
  cases e
  exact ⟨a, c, rfl, h0, fun j u hj => by
    obtain ⟨b, o, e1, e2, e3⟩ := h2 j u hj
    exact ⟨b, o, e1, Nat.lt_of_lt_of_le e2 hy.size, (World.cell?_of_block (w := w) (a := ⟨b, o + j, none⟩) (hy.block b (hf b o none e1) e2)).trans e3⟩⟩
theorem SliceAt.far {α : Type} {k B n : Nat} {enc : α → List Value} {w y : World} {a : Option Addr} {z : List α} (h : SliceAt k enc w a n z) (hf : FarS B a) (hy : Above B w y) : SliceAt k enc y a n z := by
  refine ⟨h.hlen, h.hmax, fun i x hi => ?_⟩
  obtain ⟨b, o, h1, h2, h3⟩ := h.cells i x hi
  exact ⟨b, o, h1, Nat.lt_of_lt_of_le h2 hy.size, fun j v hj => (World.cell?_of_block (w := w) (a := ⟨b, o + (i * k + j), none⟩) (hy.block b (hf b o none h1) h2)).trans (h3 j v hj)⟩
/-- Slice and lists of the document's desk lie in no block below 'B'. -/
structure FarR (B : Nat) (A : Option Addr) (Z : List RoV) : Prop where
  sl : FarS B A
  el : ∀ q ∈ Z, FarS B q.c.a ∧ FarS B q.w.a
theorem RowsR.far {B n : Nat} {A : Option Addr} {Z : List RoV} {w y : World} (h : RowsR w A n Z) (hf : FarR B A Z) (hy : Above B w y) : RowsR y A n Z :=
  ⟨SliceAt.far h.sl hf.sl hy, fun q hq => ⟨ReadB.far (h.el q hq).1 (hf.el q hq).1 hy, ReadB.far (h.el q hq).2 (hf.el q hq).2 hy⟩⟩
theorem from_far {B B' : Nat} {A A' : Option Addr} {Z Z' : List RoV} (h : FarR B A Z) (hb : B ≤ B') (ha : FarS B' A') (hz : ∀ q ∈ Z', FromZ B' Z q) : FarR B A' Z' :=
  ⟨ha.mono hb, fun q hq => by
    obtain ⟨p, hp, e1, e2⟩ := hz q hq
    refine ⟨by rw [e1]; exact (h.el p hp).1, ?_⟩
    rcases e2 with e2 | e2
    · rw [e2]
      exact (h.el p hp).2
    · exact e2.mono hb⟩
end Go.Proofs.Ytoleiiicbnmhpaa
namespace Go.Proofs.Ytoleiiicbnmhpaa
open Go.RowKit
open Go.Maps (Keyed)
open Go.ChangeMaps Go.MapKept
def actZ : List Value := [.int .u8 0, .int .u64 0, .string ByteArray.empty, .int .u8 0, .int .u8 0]
/-- An act's cells. -/
def actC (d s : Nat) (x : ByteArray) (c nd : Nat) : List Value := [.int .u8 (d : Int), .int .u64 (s : Int), .string x, .int .u8 (c : Int), .int .u8 (nd : Int)]
theorem actC_one (d s : Nat) (x : ByteArray) (c nd : Nat) : ∀ u ∈ actC d s x c nd, u.oneCell' = true := by simp [actC, Value.oneCell']
theorem actC_size (d s : Nat) (x : ByteArray) (c nd : Nat) : (Try.prog.info? 40).map (·.size) = some (actC d s x c nd).length := (by kernel_rfl : (Try.prog.info? 40).map (·.size) = some 5)
def ActC (w : World) (gx d s : Nat) (x : ByteArray) (c nd : Nat) : Prop := w.heap[gx]? = some (.cells (actC d s x c nd).toArray 40 (0, 0))
theorem ActC.below {w w' : World} {gx d s : Nat} {x : ByteArray} {c nd : Nat} (h : ActC w gx d s x c nd) (hb : Below w.heap.size w w') : ActC w' gx d s x c nd := (hb.block gx (Array.getElem?_eq_some_iff.1 h).1).trans h
theorem ActC.cells {w : World} {gx d s : Nat} {x : ByteArray} {c nd : Nat} (h : ActC w gx d s x c nd) : w.cell? ⟨gx, 0, none⟩ = some (.int .u8 (d : Int)) ∧ w.cell? ⟨gx, 1, none⟩ = some (.int .u64 (s : Int)) ∧ w.cell? ⟨gx, 2, none⟩ = some (.string x) ∧ w.cell? ⟨gx, 3, none⟩ = some (.int .u8 (c : Int)) ∧ w.cell? ⟨gx, 4, none⟩ = some (.int .u8 (nd : Int)) :=
  ⟨cell_of_row _ _ _ _ _ _ h, cell_of_row _ _ _ _ _ _ h, cell_of_row _ _ _ _ _ _ h, cell_of_row _ _ _ _ _ _ h, cell_of_row _ _ _ _ _ _ h⟩
end Go.Proofs.Ytoleiiicbnmhpaa
namespace Go.Proofs.Ytoleiiicbnmhpaa
open Go.RowKit
/-- Between two acts. -/
structure PlyI (w0 wr : World) (p g gb k : Nat) (D : Nat → Option OpR) (last : Nat) (Z : List RoV) (ld : Nat) : Prop where
  d : ∃ n, n ≤ k ∧ DeskAt wr p g n D last
  bx : ∃ A c, (A = none → Z.length = 0 ∧ c = 0) ∧ DkAt wr gb A Z.length c ld ∧ RowsR wr A Z.length Z ∧ FarR (gb + 1) A Z
  len : Z.length ≤ k
  bel : Below w0.heap.size w0 wr
  ord : w0.heap.size ≤ g ∧ g < p ∧ p < gb ∧ gb < wr.heap.size
section
variable {w0 wr y : World} {p g gb k : Nat} {D D' : Nat → Option OpR} {last last' ld : Nat} {Z : List RoV}
theorem PlyI.below (h : PlyI w0 wr p g gb k D last Z ld) (hb : Below wr.heap.size wr y) : PlyI w0 y p g gb k D last Z ld := by
  obtain ⟨n, hn, hd⟩ := h.d
  obtain ⟨A, c, h1, h2, h3, h4⟩ := h.bx
  have o := h.ord
  have s := hb.size
  exact ⟨⟨n, hn, hd.below hb⟩, ⟨A, c, h1, h2.below hb, h3.below hb, h4⟩, h.len, h.bel.trans (hb.mono h.bel.size), by omega⟩
theorem PlyI.desk (h : PlyI w0 wr p g gb k D last Z ld) (hd : ∃ n, n ≤ k + 1 ∧ DeskAt y p g n D' last') (hb : ButTwo p g wr y) : PlyI w0 y p g gb (k + 1) D' last' Z ld := by
  obtain ⟨A, c, h1, h2, h3, h4⟩ := h.bx
  have o := h.ord
  have s := hb.size
  have hl := h.len
  exact ⟨hd, ⟨A, c, h1, (hb.block gb (by omega) (by omega) (by omega)).trans h2, h3.far h4 ⟨s, fun q hq hs => hb.block q hs (by omega) (by omega)⟩, h4⟩, by omega, hb.below h.bel h.bel.size (by omega) o.1, by omega⟩
theorem PlyI.box (h : PlyI w0 wr p g gb k D last Z ld) {A' : Option Addr} {c' l' : Nat} {Z' : List RoV} (h1 : A' = none → Z'.length = 0 ∧ c' = 0) (hr : RowsR wr A' Z'.length Z') (hf : FarR (gb + 1) A' Z') (hl : Z'.length ≤ k) : PlyI w0 (rowSt wr gb 0 (dkC A' Z'.length c' l')) p g gb k D last Z' l' := by
  obtain ⟨n, hn, hd⟩ := h.d
  obtain ⟨A, c, _, h2, _, _⟩ := h.bx
  have o := h.ord
  have hb := rowSt_below (g := gb) (n := w0.heap.size) (by omega) (dkC A' Z'.length c' l') 0 _ h.bel
  have ho := fun (q : Nat) (hq : q ≠ gb) => rowSt_other hq (dkC A' Z'.length c' l') 0 wr
  have hs := (rowSt_below (g := gb) (n := 0) (Nat.zero_le _) (dkC A' Z'.length c' l') 0 _ (Below.refl 0 wr)).size
  exact ⟨⟨n, hn, hd.stay (ho p (by omega)) (ho g (by omega))⟩, ⟨A', c', h1, rowSt_row (dkC A' Z'.length c' l') [] (dkC A Z.length c ld) wr h2 rfl, hr.far hf ⟨hs, fun q hq _ => ho q (by omega)⟩, hf⟩, hl, hb, by omega⟩
theorem PlyI.mono {k' : Nat} (h : PlyI w0 wr p g gb k D last Z ld) (hk : k ≤ k') : PlyI w0 wr p g gb k' D last Z ld := by
  obtain ⟨n, hn, hd⟩ := h.d
  exact ⟨⟨n, by omega, hd⟩, h.bx, Nat.le_trans h.len hk, h.bel, h.ord⟩
theorem PlyI.act {gx d s c nd : Nat} {x : ByteArray} (h : PlyI w0 wr p g gb k D last Z ld) (ha : ActC wr gx d s x c nd) (hg : gb < gx) (A : Option Addr) (n c' l : Nat) : ActC (rowSt wr gb 0 (dkC A n c' l)) gx d s x c nd := by
  have _ := h
  exact (rowSt_other (by omega) (dkC A n c' l) 0 wr).trans ha
theorem PlyI.act2 {gx d s c nd : Nat} {x : ByteArray} (h : PlyI w0 wr p g gb k D last Z ld) (ha : ActC wr gx d s x c nd) (hg : gb < gx) (hb : ButTwo p g wr y) : ActC y gx d s x c nd := by
  have o := h.ord
  exact (hb.block gx (Array.getElem?_eq_some_iff.1 ha).1 (by omega) (by omega)).trans ha
end
theorem PlR.of {D : Nat → Option OpR} {last : Nat} {L : List RoG} (h : PlR D last L) {s : Nat} {r : OpR} (e : D s = some r) : s ≤ last ∧ r.c < 128 ∧ r.who < 128 := by
  obtain ⟨q, hq, hs⟩ := List.mem_map.1 ((h.mem s).2 (by rw [e]; rfl))
  obtain ⟨r', hr⟩ := h.row q hq
  have h1 := hr.at_
  rw [hs, e] at h1
  cases h1
  have h2 := h.le q hq
  exact ⟨by omega, hr.c.2, hr.who⟩
theorem PlR.lens {D : Nat → Option OpR} {last : Nat} {Z : List RoV} (h : PlR D last (Z.map (·.g))) : ∀ q ∈ Z, q.g.cl.length ≤ 7 ∧ q.g.wl.length ≤ 200 := fun q hq => by
  obtain ⟨r, hr⟩ := h.row q.g (List.mem_map.2 ⟨q, hq, rfl⟩)
  have h1 := hr.len
  have h2 := pop8_127 ⟨r.who, hr.who⟩
  refine ⟨?_, by simp only at h2; omega⟩
  rw [hr.cl]
  exact lstB_len _ _
/-- No slot is greater. -/
def LastOk (n : Nat) : Prop := n ≤ 4611686018427387904
theorem bad_good {s c : Nat} (h : badOpen s c = false) : 1 ≤ s ∧ s ≤ 4611686018427387904 ∧ 1 ≤ c ∧ c < 128 := by
  unfold badOpen at h
  simp only [Bool.or_eq_false_iff, decide_eq_false_iff_not] at h
  omega
theorem th_new2 (y : World) (o : Obj) (cs0 : List Value) (t : TypeId) : ((y.alloc o).alloc (.cells cs0.toArray t)).there (y.heap.size + 1) 0 cs0.length := by
  have h := th_new (y.alloc o) cs0 t
  rwa [show (y.alloc o).heap.size = y.heap.size + 1 by simp] at h
theorem rv_len (L : List RoG) (s : Nat) (nd : UInt8) : (rvG L s nd).1.length ≤ L.length := by
  unfold rvG
  cases L.find? (winR s nd) with
  | none => simp
  | some q => exact List.length_filter_le _ _
theorem dk2_size (a b : Value) : (Try.prog.info? 50).map (·.size) = some [a, b].length := (by kernel_rfl : (Try.prog.info? 50).map (·.size) = some 2)
theorem dk_range {w' : World} {g n c last : Nat} {A : Option Addr} (h : DkAt w' g A n c last) : w'.rangeAt g 0 [.slice A n c, .int .u64 (last : Int)] := range_row h
theorem rd_box {w' : World} {v' : Value} {Z' : List RoV} {m c' l' : Nat} {A' : Option Addr} (h : RdAt2 w' v' Z' l') (e : v' = .agg #[.slice A' m c', .int .u64 (l' : Int)]) : m = Z'.length ∧ (A' = none → Z'.length = 0 ∧ c' = 0) ∧ RowsR w' A' Z'.length Z' := by
  obtain ⟨A, c, e2, h1, h2⟩ := h.out
  rw [e] at e2
  simp only [Value.agg.injEq, Array.mk.injEq, List.cons.injEq, Value.slice.injEq, and_true] at e2
  obtain ⟨rfl, rfl, rfl⟩ := e2
  exact ⟨rfl, h1, h2⟩
theorem far_snoc {B B' : Nat} {A A' : Option Addr} {Z : List RoV} {q : RoV} (h : FarR B A Z) (hb : B ≤ B') (ha : FarS B' A') (hc : FarS B' q.c.a) (hw : q.w.a = none) : FarR B A' (Z ++ [q]) :=
  ⟨ha.mono hb, fun p hp => by
    rcases List.mem_append.1 hp with k | k
    · exact h.el p k
    · rw [List.mem_singleton.1 k]
      exact ⟨hc.mono hb, fun b o x e => by rw [hw] at e; cases e⟩⟩
theorem far_filt {B B' : Nat} {A A' : Option Addr} {Z : List RoV} {f : RoV → Bool} (h : FarR B A Z) (hb : B ≤ B') (ha : FarS B' A') : FarR B A' (Z.filter f) := ⟨ha.mono hb, fun p hp => h.el p (List.mem_filter.1 hp).1⟩
set_option maxRecDepth 100000 in
set_option maxHeartbeats 16000000 in
theorem plays_any (a : Option Addr) (len cap : Nat) (z : List PAct) (w : World) (hz : PactsAt w a len z) :
    Calls Try.prog 5 #[.slice a len cap] w fun e w' => e = .returned (.bool true) ∧ Below w.heap.size w w' := by
  have Hwk := Lib.hid (fun y : World => pwakes_any y)
  have hgr := pgreat_any a len cap z w hz
  cases hg : pgreatS z with
  | true =>
    rw [hg] at hgr
    have Hgr := Lib.hid hgr
    clear hgr hg hz
    go_enter Try.func5, Try.ntmps5
    go_wp2_with (first
      | ((with_reducible refine Hgr.out.mono ?_); rintro e w1 ⟨rfl, rfl⟩)
      | ((with_reducible refine (Hwk.out _).mono ?_); rintro e w2 ⟨rfl, h2⟩; have H2 := Lib.hid h2; clear h2))
    go_ret
    exact ⟨rfl, H2.out⟩
  | false =>
    rw [hg] at hgr
    have Hgr := Lib.hid hgr
    have hok := pgreat_ok hg
    have hlen : len ≤ 200 := by have := hz.hlen; omega
    have Hz := Lib.hid hz
    have Hnw := Lib.hid (fun y : World => dnew_any y)
    clear hgr hg hz hok
    go_enter Try.func5, Try.ntmps5
    go_upto_region 6 with (first
      | ((with_reducible refine Hgr.out.mono ?_); rintro e w1 ⟨rfl, rfl⟩)
      | ((with_reducible refine (Hnw.out _).mono ?_); rintro e w2 ⟨rfl, hd2, hb2⟩; have H2 := Lib.hid (And.intro hd2 hb2); clear hd2 hb2))
    change Code.wp _ _ _ _ (w2.alloc (.cells (dkC none 0 0 0).toArray 50))
    have hst : PlyI w (w2.alloc (.cells (dkC none 0 0 0).toArray 50)) (w.heap.size + 1) w.heap.size w2.heap.size 0 (fun _ => none) 0 [] 0 := by
      have hb := (Below.refl w2.heap.size w2).alloc (Nat.le_refl _) (.cells (dkC none 0 0 0).toArray 50)
      have hl := H2.out.1.lt
      exact ⟨⟨0, Nat.le_refl _, H2.out.1.below hb⟩, ⟨none, 0, fun _ => ⟨rfl, rfl⟩, heap_alloc_new _ _, ⟨⟨rfl, Nat.zero_le _, fun i x hx => (by simp at hx)⟩, fun q hq => (by cases hq)⟩, ⟨fun b o x e => (by cases e), fun q hq => (by cases hq)⟩⟩, Nat.le_refl _, H2.out.2.trans (hb.mono H2.out.2.size), Nat.le_refl _, Nat.lt_succ_self _, hl, by simp⟩
    have HST := Lib.hid hst
    clear hst
    generalize w2.alloc (.cells (dkC none 0 0 0).toArray 50) = w3 at *
    obtain ⟨p, hp⟩ : ∃ p, p = w.heap.size + 1 := ⟨_, rfl⟩
    obtain ⟨g, hg⟩ : ∃ g, g = w.heap.size := ⟨_, rfl⟩
    obtain ⟨gb, hgb⟩ : ∃ g, g = w2.heap.size := ⟨_, rfl⟩
    have HS := Lib.hid (show PlyI w w3 p g gb 0 (fun _ => none) 0 [] 0 by rw [hp, hg, hgb]; exact HST.out)
    rw [← hgb, ← hp]
    clear hp hg hgb HST Hnw Hgr H2
    have Hlen := Lib.hid hlen
    go_loopw [5] (fun s5 wr => ∃ (i last : Nat) (D : Nat → Option OpR) (Z : List RoV), s5 = .int .i64 (i : Int) ∧ i ≤ len ∧ PlyI w wr p g gb (2 * i) D last Z last ∧ PlR D last (Z.map (·.g)) ∧ LastOk last) (fun s5 _ => len - (intOf s5).toNat)
    case atStart => exact ⟨0, 0, _, [], rfl, Nat.zero_le _, HS.out, PlR.start, (show (0 : Nat) ≤ 4611686018427387904 from Nat.zero_le _)⟩
    case round =>
      clear HS
      obtain ⟨i, last, D, Z, rfl, hi, hI, hP, hL⟩ := hrel
      have HI := Lib.hid hI
      have HP := Lib.hid hP
      have HL := Lib.hid hL
      clear hI hP hL
      by_cases hil : i < len
      · have hil' : (i : Int) < (len : Int) := by omega
        obtain ⟨ab, ao, rfl, hab, hrow⟩ := pacts_row (Hz.out.below HI.out.bel) hil
        obtain ⟨Act, hAct⟩ : ∃ A, A = z.getD i default := ⟨_, rfl⟩
        rw [← hAct] at hrow
        clear hAct
        obtain ⟨d0, s0, x, c0, ndd⟩ := Act
        obtain ⟨nd, hnd⟩ : ∃ d, d = ndd.toNat := ⟨_, rfl⟩
        obtain ⟨d, hd⟩ : ∃ d, d = d0.toNat := ⟨_, rfl⟩
        obtain ⟨s, hs⟩ : ∃ d, d = s0.toNat := ⟨_, rfl⟩
        obtain ⟨c, hc⟩ : ∃ d, d = c0.toNat := ⟨_, rfl⟩
        have hs64 : s < 18446744073709551616 := by rw [hs]; exact s0.isLt
        have hc8 : c < 256 := by rw [hc]; exact c0.isLt
        have hrow2 : wr.rangeAt ab (ao + i * 5) (actC d s x c nd) := by rw [hd, hs, hc, hnd]; exact hrow
        have Hr := Lib.hid hrow2
        have HB := Lib.hid (And.intro hs64 hc8)
        have HND := Lib.hid hnd
        clear hrow hrow2 hd hs hc hs64 hc8 hnd
        clear d0 s0 c0
        skip
        go_upto_region 9 with (first
          | (with_reducible refine wpList_load_mid rfl 40 _ rfl ab (ao + i * 5) rfl (actC d s x c nd) _ Hr.out Try.underlying40 rfl (actC_size d s x c nd) ?_)
          | ((with_reducible refine wpList_store_mid rfl 40 _ _ rfl wr.heap.size 0 _ rfl rfl ?_ ?_ ?_ ?_); exact th_new wr actZ 40; exact actC_size d s x c nd; exact all_oneCell_toArray (actC_one d s x c nd)))
        change Code.wp _ _ _ _ ((wr.alloc (.cells actZ.toArray 40)).setCells wr.heap.size 0 (actC d s x c nd))
        have hbx := box_below wr actZ (actC d s x c nd) 40
        have HX := Lib.hid (show ActC _ _ d s x c nd from box_row wr actZ (actC d s x c nd) 40 rfl)
        have HI2 := Lib.hid (HI.out.below hbx)
        have Hgx := Lib.hid (show gb < wr.heap.size from HI.out.ord.2.2.2)
        clear hbx HI Hr
        generalize (wr.alloc (.cells actZ.toArray 40)).setCells wr.heap.size 0 (actC d s x c nd) = w4 at *
        generalize wr.heap.size = gx at *
        obtain ⟨f0, f1, f2, f3, f4⟩ := HX.out.cells
        obtain ⟨A, cp, hA0, hdk, hrs, hfar⟩ := HI2.out.bx
        have HRD := Lib.hid (show RdAt2 w4 (.agg #[.slice A Z.length cp, .int .u64 (last : Int)]) Z last from ⟨A, cp, rfl, hA0, hrs⟩)
        have HBX := Lib.hid (And.intro hA0 (And.intro hdk (And.intro hrs hfar)))
        have HDK := Lib.hid (dk_range hdk)
        clear hA0 hdk hrs hfar
        have hZl : Z.length ≤ 1000 := by have := HI2.out.len; have := Hlen.out; omega
        by_cases hd0 : d = 0
        · have hd0' : ((d : Int) == 0) = true := by simp [hd0]
          clear hd0
          cases hbad : badOpen s c
          · by_cases hl : last < s
            · have HO := Lib.hid (ropen_ok _ Z last s x c hZl w4 HRD.out hbad hl)
              have HBL := Lib.hid (And.intro hbad hl)
              clear hbad hl
              go_upto_region 17 with (first
                | (with_reducible refine wpList_load_mid rfl 50 _ rfl gb 0 rfl [.slice A Z.length cp, .int .u64 (last : Int)] _ HDK.out Try.underlying50 rfl (dk2_size _ _) ?_)
                | ((with_reducible refine HO.out.mono ?_); rintro e w5 ⟨v5, q, rfl, hq, hr5, hb5, ⟨A5, c5, rfl, hfa⟩, hfc, hfw⟩; have H5 := Lib.hid (And.intro hb5 (And.intro hr5 (And.intro hq (And.intro hfa (And.intro hfc hfw))))); clear hq hr5 hb5 hfa hfc hfw)
                | ((with_reducible refine wpList_store_mid rfl 50 _ _ rfl w5.heap.size 0 _ rfl rfl ?_ ?_ ?_ ?_); exact th_new w5 (dkC none 0 0 0) 50; exact dkC_size A5 (Z.length + 1) c5 s; exact all_oneCell_toArray (dkC_one A5 (Z.length + 1) c5 s)))
              change Code.wp _ _ _ _ ((w5.alloc (.cells (dkC none 0 0 0).toArray 50)).setCells w5.heap.size 0 (dkC A5 (Z.length + 1) c5 s))
              have hbz := box_below w5 (dkC none 0 0 0) (dkC A5 (Z.length + 1) c5 s) 50
              have HZ := Lib.hid (dk_range (show DkAt _ _ A5 (Z.length + 1) c5 s from box_row w5 (dkC none 0 0 0) (dkC A5 (Z.length + 1) c5 s) 50 rfl))
              have HI6 := Lib.hid ((HI2.out.below H5.out.1).below hbz)
              have HX6 := Lib.hid ((HX.out.below H5.out.1).below hbz)
              have HDK6 := Lib.hid ((HBX.out.2.1.below H5.out.1).below hbz)
              have hbx6 := rd_box H5.out.2.1 rfl
              have HR6 := Lib.hid (And.intro hbx6.1 (And.intro hbx6.2.1 (hbx6.2.2.below hbz)))
              have HF6 := Lib.hid (show FarR (gb + 1) A5 (Z ++ [q]) from far_snoc HBX.out.2.2.2 (Nat.succ_le_of_lt HI2.out.ord.2.2.2) H5.out.2.2.2.1 H5.out.2.2.2.2.1 H5.out.2.2.2.2.2)
              have HQ := Lib.hid H5.out.2.2.1
              clear hbz hbx6 H5 HX f0 f1 f2 f3 f4 HDK HRD HO
              generalize (w5.alloc (.cells (dkC none 0 0 0).toArray 50)).setCells w5.heap.size 0 (dkC A5 (Z.length + 1) c5 s) = w6 at *
              generalize w5.heap.size = gz at *
              go_upto_region 18 with (first
                | (with_reducible refine wpList_load_mid rfl 50 _ rfl gz 0 rfl [.slice A5 (Z.length + 1) c5, .int .u64 (s : Int)] _ HZ.out Try.underlying50 rfl (dk2_size _ _) ?_)
                | ((with_reducible refine wpList_store_mid rfl 50 _ _ rfl gb 0 _ rfl rfl ?_ ?_ ?_ ?_); exact there_row (cs := dkC A Z.length cp last) HDK6.out; exact dkC_size A5 (Z.length + 1) c5 s; exact all_oneCell_toArray (dkC_one A5 (Z.length + 1) c5 s)))
              change Code.wp _ _ _ _ (w6.setCells gb 0 (dkC A5 (Z.length + 1) c5 s))
              have HI7 := Lib.hid (show PlyI w (w6.setCells gb 0 (dkC A5 (Z.length + 1) c5 s)) p g gb (2 * i + 1) D last (Z ++ [q]) s by rw [st_eq, HR6.out.1]; exact (HI6.out.mono (by omega)).box HR6.out.2.1 HR6.out.2.2 HF6.out (by have := HI6.out.len; rw [← HR6.out.1]; omega))
              have HX := Lib.hid (show ActC (w6.setCells gb 0 (dkC A5 (Z.length + 1) c5 s)) gx d s x c nd by rw [st_eq]; exact HI6.out.act HX6.out Hgx.out _ _ _ _)
              clear HI6 HX6 HDK6 HZ HF6 HR6
              generalize w6.setCells gb 0 (dkC A5 (Z.length + 1) c5 s) = w7 at *
              obtain ⟨f0, f1, f2, f3, f4⟩ := HX.out.cells
              obtain ⟨n0, hn0, hD0⟩ := HI7.out.d
              have HO := Lib.hid (dopen_ok p g n0 last D s x c HBL.out.1 HBL.out.2 HB.out.2 (by have := Hlen.out; omega) w7 hD0)
              have HN0 := Lib.hid hn0
              clear hn0 hD0
              go_upto_region 23 with ((with_reducible refine HO.out.mono ?_); rintro e w8 ⟨rfl, hd8, hb8⟩; have H8 := Lib.hid (And.intro hd8 hb8); clear hd8 hb8)
              have HI8 := Lib.hid (HI7.out.desk ⟨n0 + 1, by have := HN0.out; omega, H8.out.1⟩ H8.out.2)
              have hgood : 1 ≤ s ∧ s ≤ 4611686018427387904 ∧ 1 ≤ c ∧ c < 128 := bad_good HBL.out.1
              have HP8 := Lib.hid (show PlR (updD D s (some ⟨x, c, 0⟩)) s ((Z ++ [q]).map (·.g)) by rw [List.map_append, List.map_singleton, HQ.out]; exact HP.out.opened x c HBL.out.2 ⟨hgood.2.2.1, hgood.2.2.2⟩)
              have HL8 := Lib.hid (show LastOk s from hgood.2.1)
              clear hgood HI7 HO H8 HQ HX f0 f1 f2 f3 f4
              generalize (Z ++ [q]) = Zt at HI8 HP8
              obtain ⟨An, cn, hAn, hdn, hrn, _⟩ := HI8.out.bx
              have HDN := Lib.hid (dk_range hdn)
              obtain ⟨nn, hnn, hddn⟩ := HI8.out.d
              have Hsm := Lib.hid (same_any p g nn _ _ (by have := Hlen.out; omega) (fun s r hr => by have h1 := (HP8.out.of hr).1; have h2 : _ ≤ 4611686018427387904 := HL8.out; omega) _ _ HP8.out (by have := HI8.out.len; have := Hlen.out; omega) w8 hddn ⟨An, cn, rfl, hAn, hrn⟩)
              clear hAn hdn hrn hnn hddn
              go_wp2_with (first
                | (with_reducible refine wpList_load_mid rfl 50 _ rfl gb 0 rfl _ _ HDN.out Try.underlying50 rfl (dk2_size _ _) ?_)
                | ((with_reducible refine Hsm.out.mono ?_); rintro e w9 ⟨rfl, h9⟩; have H9 := Lib.hid h9; clear h9))
              exact ⟨⟨i + 1, _, _, _, rfl, by omega, (HI8.out.below H9.out).mono (by omega), HP8.out, HL8.out⟩, by simp only [intOf]; omega⟩
            · have HO := Lib.hid (ropen_state _ Z last s x c hZl w4 HRD.out hbad (by omega))
              have HBL := Lib.hid (And.intro hbad (show s ≤ last by omega))
              clear hbad hl
              go_upto_region 17 with (first
                | (with_reducible refine wpList_load_mid rfl 50 _ rfl gb 0 rfl [.slice A Z.length cp, .int .u64 (last : Int)] _ HDK.out Try.underlying50 rfl (dk2_size _ _) ?_)
                | ((with_reducible refine HO.out.mono ?_); rintro e w5 ⟨v5, rfl, hr5, hb5, rfl⟩; have H5 := Lib.hid (And.intro hb5 hr5); clear hr5 hb5)
                | ((with_reducible refine wpList_store_mid rfl 50 _ _ rfl w5.heap.size 0 _ rfl rfl ?_ ?_ ?_ ?_); exact th_new w5 (dkC none 0 0 0) 50; exact dkC_size A Z.length cp last; exact all_oneCell_toArray (dkC_one A Z.length cp last)))
              change Code.wp _ _ _ _ ((w5.alloc (.cells (dkC none 0 0 0).toArray 50)).setCells w5.heap.size 0 (dkC A Z.length cp last))
              have hbz := box_below w5 (dkC none 0 0 0) (dkC A Z.length cp last) 50
              have HZ := Lib.hid (dk_range (show DkAt _ _ A Z.length cp last from box_row w5 (dkC none 0 0 0) (dkC A Z.length cp last) 50 rfl))
              have HI6 := Lib.hid ((HI2.out.below H5.out.1).below hbz)
              have HX6 := Lib.hid ((HX.out.below H5.out.1).below hbz)
              have HDK6 := Lib.hid ((HBX.out.2.1.below H5.out.1).below hbz)
              have hbx6 := rd_box H5.out.2 rfl
              have HR6 := Lib.hid (And.intro hbx6.1 (And.intro hbx6.2.1 (hbx6.2.2.below hbz)))
              have HF6 := Lib.hid (show FarR (gb + 1) A Z from HBX.out.2.2.2)
              clear hbz hbx6 H5 HX f0 f1 f2 f3 f4 HDK HRD HO
              generalize (w5.alloc (.cells (dkC none 0 0 0).toArray 50)).setCells w5.heap.size 0 (dkC A Z.length cp last) = w6 at *
              generalize w5.heap.size = gz at *
              go_upto_region 18 with (first
                | (with_reducible refine wpList_load_mid rfl 50 _ rfl gz 0 rfl [.slice A Z.length cp, .int .u64 (last : Int)] _ HZ.out Try.underlying50 rfl (dk2_size _ _) ?_)
                | ((with_reducible refine wpList_store_mid rfl 50 _ _ rfl gb 0 _ rfl rfl ?_ ?_ ?_ ?_); exact there_row (cs := dkC A Z.length cp last) HDK6.out; exact dkC_size A Z.length cp last; exact all_oneCell_toArray (dkC_one A Z.length cp last)))
              change Code.wp _ _ _ _ (w6.setCells gb 0 (dkC A Z.length cp last))
              have HI7 := Lib.hid (show PlyI w (w6.setCells gb 0 (dkC A Z.length cp last)) p g gb (2 * i + 1) D last Z last by rw [st_eq, HR6.out.1]; exact (HI6.out.mono (by omega)).box HR6.out.2.1 HR6.out.2.2 HF6.out (by have := HI6.out.len; rw [← HR6.out.1]; omega))
              have HX := Lib.hid (show ActC (w6.setCells gb 0 (dkC A Z.length cp last)) gx d s x c nd by rw [st_eq]; exact HI6.out.act HX6.out Hgx.out _ _ _ _)
              clear HI6 HX6 HDK6 HZ HF6 HR6
              generalize w6.setCells gb 0 (dkC A Z.length cp last) = w7 at *
              obtain ⟨f0, f1, f2, f3, f4⟩ := HX.out.cells
              obtain ⟨n0, hn0, hD0⟩ := HI7.out.d
              have HO := Lib.hid (dopen_state p g n0 last D s x c HBL.out.1 HBL.out.2 w7 hD0)
              clear hn0 hD0
              go_upto_region 23 with ((with_reducible refine HO.out.mono ?_); rintro e w8 ⟨rfl, hb8⟩; have H8 := Lib.hid hb8; clear hb8)
              have HI8 := Lib.hid (HI7.out.below H8.out)
              have HP8 := HP
              have HL8 := HL
              clear HI7 HO H8 HX f0 f1 f2 f3 f4
              obtain ⟨An, cn, hAn, hdn, hrn, _⟩ := HI8.out.bx
              have HDN := Lib.hid (dk_range hdn)
              obtain ⟨nn, hnn, hddn⟩ := HI8.out.d
              have Hsm := Lib.hid (same_any p g nn _ _ (by have := Hlen.out; omega) (fun s r hr => by have h1 := (HP8.out.of hr).1; have h2 : _ ≤ 4611686018427387904 := HL8.out; omega) _ _ HP8.out (by have := HI8.out.len; have := Hlen.out; omega) w8 hddn ⟨An, cn, rfl, hAn, hrn⟩)
              clear hAn hdn hrn hnn hddn
              go_wp2_with (first
                | (with_reducible refine wpList_load_mid rfl 50 _ rfl gb 0 rfl _ _ HDN.out Try.underlying50 rfl (dk2_size _ _) ?_)
                | ((with_reducible refine Hsm.out.mono ?_); rintro e w9 ⟨rfl, h9⟩; have H9 := Lib.hid h9; clear h9))
              exact ⟨⟨i + 1, _, _, _, rfl, by omega, (HI8.out.below H9.out).mono (by omega), HP8.out, HL8.out⟩, by simp only [intOf]; omega⟩
          · have HO := Lib.hid (ropen_bad _ Z last s x c hZl HB.out.2 w4 HRD.out hbad)
            have HBL := Lib.hid (hbad)
            clear hbad
            go_upto_region 17 with (first
              | (with_reducible refine wpList_load_mid rfl 50 _ rfl gb 0 rfl [.slice A Z.length cp, .int .u64 (last : Int)] _ HDK.out Try.underlying50 rfl (dk2_size _ _) ?_)
              | ((with_reducible refine HO.out.mono ?_); rintro e w5 ⟨v5, rfl, hr5, hb5, rfl⟩; have H5 := Lib.hid (And.intro hb5 hr5); clear hr5 hb5)
              | ((with_reducible refine wpList_store_mid rfl 50 _ _ rfl w5.heap.size 0 _ rfl rfl ?_ ?_ ?_ ?_); exact th_new w5 (dkC none 0 0 0) 50; exact dkC_size A Z.length cp last; exact all_oneCell_toArray (dkC_one A Z.length cp last)))
            change Code.wp _ _ _ _ ((w5.alloc (.cells (dkC none 0 0 0).toArray 50)).setCells w5.heap.size 0 (dkC A Z.length cp last))
            have hbz := box_below w5 (dkC none 0 0 0) (dkC A Z.length cp last) 50
            have HZ := Lib.hid (dk_range (show DkAt _ _ A Z.length cp last from box_row w5 (dkC none 0 0 0) (dkC A Z.length cp last) 50 rfl))
            have HI6 := Lib.hid ((HI2.out.below H5.out.1).below hbz)
            have HX6 := Lib.hid ((HX.out.below H5.out.1).below hbz)
            have HDK6 := Lib.hid ((HBX.out.2.1.below H5.out.1).below hbz)
            have hbx6 := rd_box H5.out.2 rfl
            have HR6 := Lib.hid (And.intro hbx6.1 (And.intro hbx6.2.1 (hbx6.2.2.below hbz)))
            have HF6 := Lib.hid (show FarR (gb + 1) A Z from HBX.out.2.2.2)
            clear hbz hbx6 H5 HX f0 f1 f2 f3 f4 HDK HRD HO
            generalize (w5.alloc (.cells (dkC none 0 0 0).toArray 50)).setCells w5.heap.size 0 (dkC A Z.length cp last) = w6 at *
            generalize w5.heap.size = gz at *
            go_upto_region 18 with (first
              | (with_reducible refine wpList_load_mid rfl 50 _ rfl gz 0 rfl [.slice A Z.length cp, .int .u64 (last : Int)] _ HZ.out Try.underlying50 rfl (dk2_size _ _) ?_)
              | ((with_reducible refine wpList_store_mid rfl 50 _ _ rfl gb 0 _ rfl rfl ?_ ?_ ?_ ?_); exact there_row (cs := dkC A Z.length cp last) HDK6.out; exact dkC_size A Z.length cp last; exact all_oneCell_toArray (dkC_one A Z.length cp last)))
            change Code.wp _ _ _ _ (w6.setCells gb 0 (dkC A Z.length cp last))
            have HI7 := Lib.hid (show PlyI w (w6.setCells gb 0 (dkC A Z.length cp last)) p g gb (2 * i + 1) D last Z last by rw [st_eq, HR6.out.1]; exact (HI6.out.mono (by omega)).box HR6.out.2.1 HR6.out.2.2 HF6.out (by have := HI6.out.len; rw [← HR6.out.1]; omega))
            have HX := Lib.hid (show ActC (w6.setCells gb 0 (dkC A Z.length cp last)) gx d s x c nd by rw [st_eq]; exact HI6.out.act HX6.out Hgx.out _ _ _ _)
            clear HI6 HX6 HDK6 HZ HF6 HR6
            generalize w6.setCells gb 0 (dkC A Z.length cp last) = w7 at *
            obtain ⟨f0, f1, f2, f3, f4⟩ := HX.out.cells
            obtain ⟨n0, hn0, hD0⟩ := HI7.out.d
            have HO := Lib.hid (dopen_bad p g n0 last D s x c HBL.out w7 hD0)
            clear hn0 hD0
            go_upto_region 23 with ((with_reducible refine HO.out.mono ?_); rintro e w8 ⟨rfl, hb8⟩; have H8 := Lib.hid hb8; clear hb8)
            have HI8 := Lib.hid (HI7.out.below H8.out)
            have HP8 := HP
            have HL8 := HL
            clear HI7 HO H8 HX f0 f1 f2 f3 f4
            obtain ⟨An, cn, hAn, hdn, hrn, _⟩ := HI8.out.bx
            have HDN := Lib.hid (dk_range hdn)
            obtain ⟨nn, hnn, hddn⟩ := HI8.out.d
            have Hsm := Lib.hid (same_any p g nn _ _ (by have := Hlen.out; omega) (fun s r hr => by have h1 := (HP8.out.of hr).1; have h2 : _ ≤ 4611686018427387904 := HL8.out; omega) _ _ HP8.out (by have := HI8.out.len; have := Hlen.out; omega) w8 hddn ⟨An, cn, rfl, hAn, hrn⟩)
            clear hAn hdn hrn hnn hddn
            go_wp2_with (first
              | (with_reducible refine wpList_load_mid rfl 50 _ rfl gb 0 rfl _ _ HDN.out Try.underlying50 rfl (dk2_size _ _) ?_)
              | ((with_reducible refine Hsm.out.mono ?_); rintro e w9 ⟨rfl, h9⟩; have H9 := Lib.hid h9; clear h9))
            exact ⟨⟨i + 1, _, _, _, rfl, by omega, (HI8.out.below H9.out).mono (by omega), HP8.out, HL8.out⟩, by simp only [intOf]; omega⟩
        · have hd0' : ((d : Int) == 0) = false := by simp [hd0]
          clear hd0
          by_cases hd1 : d = 1
          · have hd1' : ((d : Int) == 1) = true := by simp [hd1]
            clear hd1 HRD
            obtain ⟨n0, hn0, hD0⟩ := HI2.out.d
            have HO := Lib.hid (dclose_any p g n0 last D s HB.out.1 w4 hD0)
            have HN0 := Lib.hid hn0
            clear hn0 hD0
            go_upto_region 22 with ((with_reducible refine HO.out.mono ?_); rintro e w5 ⟨rfl, hd5, hb5⟩; have H5 := Lib.hid (And.intro hd5 hb5); clear hd5 hb5)
            have HI5 := Lib.hid (HI2.out.desk ⟨n0, by have := HN0.out; omega, H5.out.1⟩ H5.out.2)
            have HX5 := Lib.hid (HI2.out.act2 HX.out Hgx.out H5.out.2)
            clear HX f0 f1 f2 f3 f4 HDK HBX HO H5
            have HX := HX5
            obtain ⟨f0, f1, f2, f3, f4⟩ := HX.out.cells
            obtain ⟨A5, c5, hA5, hdk, hrs, hfar⟩ := HI5.out.bx
            have HRD := Lib.hid (show RdAt2 w5 (.agg #[.slice A5 Z.length c5, .int .u64 (last : Int)]) Z last from ⟨A5, c5, rfl, hA5, hrs⟩)
            have HBX := Lib.hid (And.intro hA5 (And.intro hdk (And.intro hrs hfar)))
            have HDK := Lib.hid (dk_range hdk)
            have HC := Lib.hid (rclose_own _ Z last s hZl w5 HRD.out)
            clear hA5 hdk hrs hfar
            obtain ⟨Zf, hZf⟩ : ∃ y, y = (Z.filter (fun q => q.g.s != s)) := ⟨_, rfl⟩
            rw [← hZf] at HC
            have HZF := Lib.hid hZf
            clear hZf
            go_upto_region 23 with (first
              | (with_reducible refine wpList_load_mid rfl 50 _ rfl gb 0 rfl [.slice A5 Z.length c5, .int .u64 (last : Int)] _ HDK.out Try.underlying50 rfl (dk2_size _ _) ?_)
              | ((with_reducible refine HC.out.mono ?_); rintro e w6 ⟨v6, rfl, hr6, hb6, A6, c6, rfl, ho6⟩; have H6 := Lib.hid (And.intro hr6 (And.intro hb6 ho6)); have HDK6 := Lib.hid (HBX.out.2.1.below hb6); clear hr6 hb6 ho6)
              | ((with_reducible refine wpList_store_mid rfl 50 _ _ rfl gb 0 _ rfl rfl ?_ ?_ ?_ ?_); exact there_row (cs := dkC A5 Z.length c5 last) HDK6.out; exact dkC_size A6 Zf.length c6 last; exact all_oneCell_toArray (dkC_one A6 Zf.length c6 last)))
            change Code.wp _ _ _ _ (w6.setCells gb 0 (dkC A6 Zf.length c6 last))
            have hbx6 := rd_box H6.out.1 rfl
            have HI7 := Lib.hid (show PlyI w (w6.setCells gb 0 (dkC A6 Zf.length c6 last)) p g gb (2 * i + 1) (updD D s none) last Zf last by rw [st_eq]; exact (HI5.out.below H6.out.2.1).box hbx6.2.1 hbx6.2.2 (by rw [HZF.out]; exact far_filt HBX.out.2.2.2 (Nat.succ_le_of_lt HI5.out.ord.2.2.2) (own_far H6.out.2.2)) (by have := HI5.out.len; rw [HZF.out]; exact Nat.le_trans (List.length_filter_le _ _) this))
            have HP7 := Lib.hid (show PlR (updD D s none) last (Zf.map (·.g)) by rw [HZF.out, filt_g]; exact HP.out.closed s)
            clear hbx6 HX HX5 f0 f1 f2 f3 f4 HBX HDK HDK6 HRD HC H6 HI5
            generalize w6.setCells gb 0 (dkC A6 Zf.length c6 last) = w7 at *
            obtain ⟨An, cn, hAn, hdn, hrn, _⟩ := HI7.out.bx
            have HDN := Lib.hid (dk_range hdn)
            obtain ⟨nn, hnn, hddn⟩ := HI7.out.d
            have Hsm := Lib.hid (same_any p g nn _ _ (by have := Hlen.out; omega) (fun s r hr => by have h1 := (HP7.out.of hr).1; have h2 : _ ≤ 4611686018427387904 := HL.out; omega) _ _ HP7.out (by have := HI7.out.len; have := Hlen.out; omega) w7 hddn ⟨An, cn, rfl, hAn, hrn⟩)
            clear hAn hdn hrn hnn hddn
            go_wp2_with (first
              | (with_reducible refine wpList_load_mid rfl 50 _ rfl gb 0 rfl _ _ HDN.out Try.underlying50 rfl (dk2_size _ _) ?_)
              | ((with_reducible refine Hsm.out.mono ?_); rintro e w9 ⟨rfl, h9⟩; have H9 := Lib.hid h9; clear h9))
            exact ⟨⟨i + 1, _, _, _, rfl, by omega, (HI7.out.below H9.out).mono (by omega), HP7.out, HL.out⟩, by simp only [intOf]; omega⟩
          · have hd1' : ((d : Int) == 1) = false := by rw [beq_eq_false_iff_ne]; omega
            clear hd1 HRD
            obtain ⟨n0, hn0, hD0⟩ := HI2.out.d
            have HVt := Lib.hid (voted_any p g n0 last D nd s (fun r hr => ⟨by have := (HP.out.of hr).2.1; omega, by have := (HP.out.of hr).2.2; omega⟩) (by rw [HND.out]; exact ndd.isLt) (by have := Hlen.out; omega) HB.out.1 w4 hD0)
            have HN0 := Lib.hid hn0
            clear hn0 hD0
            obtain ⟨nb, hnb⟩ : ∃ b : UInt8, b.toNat = nd := ⟨UInt8.ofBitVec ndd, by rw [HND.out]; rfl⟩
            have hvp := HP.out.voted s nb
            have hRV := fun (y : World) (v : Value) (hy : RdAt2 y v Z last) => rvoted_any v Z last s nb hZl HB.out.1 HP.out.lens y hy
            obtain ⟨G, hG⟩ : ∃ G, G = rvG (Z.map (·.g)) s nb := ⟨_, rfl⟩
            obtain ⟨R, hR⟩ : ∃ R, R = votedS D s nd := ⟨_, rfl⟩
            rw [← hR] at HVt
            rw [hnb, ← hR, ← hG] at hvp
            obtain ⟨hv1, hv2⟩ := hvp
            simp only [hnb, ← hG, ← hv2] at hRV
            have HRV := Lib.hid hRV
            have HR := Lib.hid hR
            have HV1 := Lib.hid hv1
            have hgl := rv_len (Z.map (·.g)) s nb
            rw [← hG, List.length_map] at hgl
            have HGL := Lib.hid hgl
            clear hnb hRV hR hG hv1 hv2 hgl
            obtain ⟨D', ⟨xs, xx⟩, is⟩ := R
            simp only at HVt HRV HV1
            go_upto_region 11 with (first
              | ((with_reducible refine HVt.out.mono ?_); rintro e w5 ⟨rfl, h5⟩; have H5 := Lib.hid h5; clear h5)
              | ((with_reducible refine wpList_store_mid rfl 34 _ _ rfl w5.heap.size 0 _ rfl rfl ?_ ?_ ?_ ?_); exact th_new w5 (itCells 0 ByteArray.empty) 34; exact it_size xs xx; exact all_oneCell_toArray (it_one xs xx)))
            change Code.wp _ _ _ _ ((w5.alloc (.cells (itCells 0 ByteArray.empty).toArray 34)).setCells w5.heap.size 0 (itCells xs xx))
            have hbx := box_below w5 (itCells 0 ByteArray.empty) (itCells xs xx) 34
            have HY := Lib.hid (show ItAt _ _ xs xx from box_row w5 (itCells 0 ByteArray.empty) (itCells xs xx) 34 rfl)
            have hd5 := H5.out.d
            rw [← HR.out] at hd5
            simp only at hd5
            have HI3 := Lib.hid (HI2.out.desk (by obtain ⟨n', h1, h2⟩ := hd5; exact ⟨n', by have := HN0.out; omega, h2⟩) H5.out.two)
            have HX5 := Lib.hid (HI2.out.act2 HX.out Hgx.out H5.out.two)
            have HI6 := Lib.hid (HI3.out.below hbx)
            clear HX f0 f1 f2 f3 f4
            have HX := Lib.hid (HX5.out.below hbx)
            have Hgy := Lib.hid (show gx < w5.heap.size from (Array.getElem?_eq_some_iff.1 HX5.out).1)
            clear hbx HI3 HX5 hd5 HVt H5 HBX HDK
            generalize (w5.alloc (.cells (itCells 0 ByteArray.empty).toArray 34)).setCells w5.heap.size 0 (itCells xs xx) = w6 at *
            generalize w5.heap.size = gy at *
            obtain ⟨f0, f1, f2, f3, f4⟩ := HX.out.cells
            obtain ⟨A6, c6, hA6, hdk, hrs, hfar⟩ := HI6.out.bx
            have HRD := Lib.hid (show RdAt2 w6 (.agg #[.slice A6 Z.length c6, .int .u64 (last : Int)]) Z last from ⟨A6, c6, rfl, hA6, hrs⟩)
            have HBX := Lib.hid (And.intro hA6 (And.intro hdk (And.intro hrs hfar)))
            have HDK := Lib.hid (dk_range hdk)
            have HC := Lib.hid (HRV.out w6 _ HRD.out)
            clear hA6 hdk hrs hfar
            go_upto_region 12 with (first
              | (with_reducible refine wpList_load_mid rfl 50 _ rfl gb 0 rfl [.slice A6 Z.length c6, .int .u64 (last : Int)] _ HDK.out Try.underlying50 rfl (dk2_size _ _) ?_)
              | ((with_reducible refine HC.out.mono ?_); rintro e w7 ⟨v7, Z7, rfl, hr7, hz7, hb7, ⟨A7, c7, rfl, hf7⟩, hfz⟩; have H7 := Lib.hid (And.intro hr7 (And.intro hz7 (And.intro hb7 (And.intro hf7 hfz)))); clear hr7 hz7 hb7 hf7 hfz)
              | ((with_reducible refine wpList_store_mid rfl 34 _ _ rfl (w7.heap.size + 1) 0 _ rfl rfl ?_ ?_ ?_ ?_); exact th_new2 w7 _ (itCells 0 ByteArray.empty) 34; exact it_size xs xx; exact all_oneCell_toArray (it_one xs xx)))
            change Code.wp _ _ _ _ (((w7.alloc (.cells (dkC A7 Z7.length c7 last).toArray 50)).alloc (.cells (itCells 0 ByteArray.empty).toArray 34)).setCells (w7.heap.size + 1) 0 (itCells xs xx))
            have e8 : (w7.alloc (.cells (dkC A7 Z7.length c7 last).toArray 50)).heap.size = w7.heap.size + 1 := by simp
            have hb1 := (Below.refl w7.heap.size w7).alloc (Nat.le_refl _) (.cells (dkC A7 Z7.length c7 last).toArray 50)
            have hb2 := box_below (w7.alloc (.cells (dkC A7 Z7.length c7 last).toArray 50)) (itCells 0 ByteArray.empty) (itCells xs xx) 34
            have hrw := box_row (w7.alloc (.cells (dkC A7 Z7.length c7 last).toArray 50)) (itCells 0 ByteArray.empty) (itCells xs xx) 34 rfl
            have hdz : DkAt (w7.alloc (.cells (dkC A7 Z7.length c7 last).toArray 50)) w7.heap.size A7 Z7.length c7 last := heap_alloc_new _ _
            have hdz2 := dk_range (hdz.below hb2)
            have hb3 := hb1.trans (hb2.mono hb1.size)
            rw [e8] at hrw hdz2 hb3
            have HZ := Lib.hid hdz2
            have HYZ := Lib.hid (show ItAt _ _ xs xx from hrw)
            have hb4 := H7.out.2.2.1.trans (hb3.mono H7.out.2.2.1.size)
            have HI8 := Lib.hid (HI6.out.below hb4)
            have HX8 := Lib.hid (HX.out.below hb4)
            have HY8 := Lib.hid (HY.out.below hb4)
            have HD8 := Lib.hid (HBX.out.2.1.below hb4)
            have hbx7 := rd_box H7.out.1 rfl
            have HR8 := Lib.hid (And.intro hbx7.2.1 (hbx7.2.2.below hb3))
            have HF8 := Lib.hid (from_far HBX.out.2.2.2 (Nat.succ_le_of_lt HI6.out.ord.2.2.2) H7.out.2.2.2.1 H7.out.2.2.2.2)
            have HZ7 := Lib.hid H7.out.2.1
            have Hyz := Lib.hid (show gy < w7.heap.size + 1 from Nat.lt_succ_of_lt (Array.getElem?_eq_some_iff.1 (HY.out.below H7.out.2.2.1)).1)
            have Hgb := Lib.hid (show gb < w7.heap.size + 1 from by have := HI6.out.ord; have := H7.out.2.2.1.size; omega)
            clear hb1 hb2 hrw hdz hdz2 hb3 hb4 hbx7 H7 HX f0 f1 f2 f3 f4 HI6 HY HBX HDK HRD HC e8
            generalize ((w7.alloc (.cells (dkC A7 Z7.length c7 last).toArray 50)).alloc (.cells (itCells 0 ByteArray.empty).toArray 34)).setCells (w7.heap.size + 1) 0 (itCells xs xx) = w8 at *
            generalize w7.heap.size = gz at *
            go_upto_region 13 with (first
              | (with_reducible refine wpList_load_mid rfl 50 _ rfl gz 0 rfl [.slice A7 Z7.length c7, .int .u64 (last : Int)] _ HZ.out Try.underlying50 rfl (dk2_size _ _) ?_)
              | ((with_reducible refine wpList_store_mid rfl 50 _ _ rfl gb 0 _ rfl rfl ?_ ?_ ?_ ?_); exact there_row (cs := dkC A6 Z.length c6 last) HD8.out; exact dkC_size A7 Z7.length c7 last; exact all_oneCell_toArray (dkC_one A7 Z7.length c7 last)))
            change Code.wp _ _ _ _ (w8.setCells gb 0 (dkC A7 Z7.length c7 last))
            have HI9 := Lib.hid (show PlyI w (w8.setCells gb 0 (dkC A7 Z7.length c7 last)) p g gb (2 * i + 1) D' last Z7 last by rw [st_eq]; exact HI8.out.box HR8.out.1 HR8.out.2 HF8.out (by have := HI8.out.len; have h := congrArg List.length HZ7.out; have h2 := HGL.out; rw [List.length_map] at h; omega))
            have HY9 := Lib.hid (show ItAt (w8.setCells gb 0 (dkC A7 Z7.length c7 last)) gy xs xx by rw [st_eq]; exact (rowSt_other (by have := Hgx.out; have := Hgy.out; omega) _ _ _).trans HY8.out)
            have HYZ9 := Lib.hid (show ItAt (w8.setCells gb 0 (dkC A7 Z7.length c7 last)) (gz + 1) xs xx by rw [st_eq]; exact (rowSt_other (by have := Hgb.out; omega) _ _ _).trans HYZ.out)
            have HP9 := Lib.hid (show PlR D' last (Z7.map (·.g)) by rw [HZ7.out]; exact HV1.out)
            clear HI8 HX8 HY8 HYZ HD8 HR8 HF8 HZ HZ7
            generalize w8.setCells gb 0 (dkC A7 Z7.length c7 last) = w9 at *
            have y0 : w9.cell? ⟨gy, 0, none⟩ = some (.int .u64 (xs : Int)) := cell_of_row _ _ _ _ _ _ HY9.out
            have y1 : w9.cell? ⟨gy, 1, none⟩ = some (.string xx) := cell_of_row _ _ _ _ _ _ HY9.out
            have z0 : w9.cell? ⟨gz + 1, 0, none⟩ = some (.int .u64 (xs : Int)) := cell_of_row _ _ _ _ _ _ HYZ9.out
            have z1 : w9.cell? ⟨gz + 1, 1, none⟩ = some (.string xx) := cell_of_row _ _ _ _ _ _ HYZ9.out
            go_upto_region 23 with fail
            clear y0 y1 z0 z1 HY9 HYZ9
            obtain ⟨An, cn, hAn, hdn, hrn, _⟩ := HI9.out.bx
            have HDN := Lib.hid (dk_range hdn)
            obtain ⟨nn, hnn, hddn⟩ := HI9.out.d
            have Hsm := Lib.hid (same_any p g nn _ _ (by have := Hlen.out; omega) (fun s r hr => by have h1 := (HP9.out.of hr).1; have h2 : _ ≤ 4611686018427387904 := HL.out; omega) _ _ HP9.out (by have := HI9.out.len; have := Hlen.out; omega) w9 hddn ⟨An, cn, rfl, hAn, hrn⟩)
            clear hAn hdn hrn hnn hddn
            go_wp2_with (first
              | (with_reducible refine wpList_load_mid rfl 50 _ rfl gb 0 rfl _ _ HDN.out Try.underlying50 rfl (dk2_size _ _) ?_)
              | ((with_reducible refine Hsm.out.mono ?_); rintro e w9 ⟨rfl, h9⟩; have H9 := Lib.hid h9; clear h9))
            exact ⟨⟨i + 1, _, _, _, rfl, by omega, (HI9.out.below H9.out).mono (by omega), HP9.out, HL.out⟩, by simp only [intOf]; omega⟩
      · have hie : i = len := by omega
        subst hie
        have hil' : ¬ (i : Int) < (i : Int) := by omega
        have HBF := Lib.hid HI.out.bel
        go_wp2_with ((with_reducible refine (Hwk.out _).mono ?_); rintro e w6 ⟨rfl, h6⟩; have H6 := Lib.hid h6; clear h6)
        go_ret
        exact ⟨rfl, HBF.out.trans (H6.out.mono HBF.out.size)⟩
end Go.Proofs.Ytoleiiicbnmhpaa
namespace Go.Proofs.Ytoleiiicbnmhpaa
open Go.RowKit
theorem plays_row (a1 : Option Addr) (l1 cap1 : Nat) (z : List PAct) {w : World} (h1 : PactsAt w a1 l1 z) (_W : World) :
    Calls Try.prog 5 #[.slice a1 l1 cap1] w fun e w' => e = .returned (.bool true) ∧ Below w.heap.size w w' :=
  plays_any a1 l1 cap1 z w h1
end Go.Proofs.Ytoleiiicbnmhpaa
