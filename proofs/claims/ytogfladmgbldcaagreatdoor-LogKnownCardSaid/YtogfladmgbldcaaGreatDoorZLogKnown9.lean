/- Log: read: the records of segments. Condition: as the theorem says. -/
import Derived.Test.YtogfladmgbldcaaGreatDoorZLogKnown8
import Derived.BigQuiet
import Derived.Test.YtogfladmgbldcaaGreatDoorZLogKnown7
namespace Go.Proofs.YtogfladmgbldcaaGreatDoor
open Go.RowKit Go.Shelf
theorem wpList_append_rd {P : Program} {w : World} {ops : Array Oper} {rest : List Oper} {o : Oper} {a : Act} {Q : Exit → Act → World → Prop} (hgd : o.guard = none) (s x : Operand) (t : TypeId)
    (ho : o.op = .call { callee := .builtin .append, args := #[s, x], argTypes := #[t, t] })
    (base : Nat) (e : TypeId) (i : TypeInfo) (z : Value) (size bytes : Nat) (ht : P.underlying t = some (.slice e)) (hi : P.info? e = some i) (hz : i.zero = some z)
    (hsize : i.size = size) (hby : i.bytes = bytes) (hzs : z.cells.size = size) (hsz : 0 < size)
    (v : Value) (n : Nat) (xs : List Value) (hs : a.eval s = v) (hown : w.ownsRow base e size v n xs)
    (V : Value) (m : Nat) (news : List Value) (hx : a.eval x = V) (hl : news.length = m * size)
    (hV : (V = .slice none 0 0 ∧ m = 0) ∨ ∃ ad c, V = .slice (some ad) m c ∧ ∀ j u, news[j]? = some u → w.cell? (ad.add j) = some u) (h1 : ∀ u ∈ news, u.oneCell' = true)
    (h63 : n + m ≤ maxLen) (hbytes : (n + m) * bytes ≤ 140737488355328) (hbase : base ≤ w.heap.size)
    (h : ∀ v' w', w'.ownsRow base e size v' (n + m) (xs ++ news) → w.grownBy w' v.ownBlock → (∀ q, v'.ownBlock = some q → v.ownBlock = some q ∨ w.heap.size ≤ q) → wpList P ops Q rest (a.put o.dst v') w') :
    wpList P ops Q (o :: rest) a w := by
  rcases hV with ⟨rfl, rfl⟩ | ⟨ad, c, rfl, hc⟩
  · have h0 : news = [] := List.length_eq_zero_iff.1 (by omega)
    subst h0
    exact wpList_append_own_none hgd s x t ho base e i size ht hi v n xs hs hown hx (h v w (by simpa using hown) ⟨rfl, rfl, rfl, Nat.le_refl _, fun _ _ _ => rfl⟩ (fun q hq => .inl hq))
  · exact wpList_append_own_at w hgd s x t ho base e i z size bytes ht hi hz hsize hby hzs hsz v n xs hs hown ad m c news hx hl hc h1 h63 hbytes hbase (fun v' w' q1 q2 _ q4 => h v' w' q1 q2 (fun q hq => by
      rcases q4 with q4 | q4
      · exact .inl (by rw [← q4]; exact hq)
      · rw [q4] at hq; injection hq with hq; exact .inr (Nat.le_of_eq hq)))
theorem own_read {w : World} {base : Nat} {e : TypeId} {v : Value} {n : Nat} {xs : List Value} (h : w.ownsRow base e 1 v n xs) : (v = .slice none 0 0 ∧ n = 0) ∨ ∃ ad c, v = .slice (some ad) n c ∧ ∀ j u, xs[j]? = some u → w.cell? (ad.add j) = some u := by
  rcases h.2 with q | ⟨g, cap, cur, rfl, r⟩
  · exact .inl q
  · exact .inr ⟨_, _, rfl, h.cells (g := g) rfl⟩
theorem splD_count (s : Bs) : (splD s).1.length ≤ s.length := by
  have key : ∀ (n : Nat) (s : Bs), (splA n s).1.length ≤ s.length := by
    intro n
    induction n with
    | zero => intro s; exact Nat.zero_le _
    | succ n ih =>
      intro s
      rw [splA]
      split
      · exact Nat.zero_le _
      · split
        · exact Nat.zero_le _
        · next he =>
          have ha := takeF_adv (s := s) (by simpa using he)
          have h2 := ih (s.drop (takeF s).2.1)
          rw [List.length_drop] at h2
          show (_ :: _ : List Bs).length ≤ _
          rw [List.length_cons]
          omega
  exact key _ s
/-- All texts' bytes. -/
def totS (all : List (Nat × FilV)) : Nat := (all.map (fun x => x.2.by_.length)).sum
theorem recL_count : ∀ all : List (Nat × FilV), (recL all).length ≤ totS all
  | [] => Nat.le_refl _
  | x :: r => by
    have h1 := recL_count r
    have h2 := splD_count x.2.by_
    unfold recL totS at h1 ⊢
    rw [List.flatMap_cons, List.length_append, List.map_cons, List.sum_cons]
    omega
theorem totS_mem {all : List (Nat × FilV)} {x : Nat × FilV} (h : x ∈ all) : x.2.by_.length ≤ totS all := by
  induction all with
  | nil => cases h
  | cons y r ih =>
    unfold totS at ih ⊢
    rw [List.map_cons, List.sum_cons]
    rcases List.mem_cons.1 h with rfl | h
    · omega
    · have := ih h; omega
theorem totS_take (all : List (Nat × FilV)) (i : Nat) : totS (all.take i) ≤ totS all := by
  have h2 : totS (all.take i ++ all.drop i) = totS all := by rw [List.take_append_drop]
  have h3 : ∀ a b : List (Nat × FilV), totS (a ++ b) = totS a + totS b := fun a b => by unfold totS; simp
  rw [h3] at h2
  omega
/-- A row of segments that can be read. -/
def SegR (B : Nat) (w : World) (v : Value) (all : List (Nat × FilV)) : Prop := ∃ A c, v = .slice A all.length c ∧ ∃ Y : Nat → Prop, (∀ r, Y r → B ≤ r ∧ r < w.heap.size) ∧ ∀ i x, all[i]? = some x → ∃ g, A = some ⟨g, 0, none⟩ ∧ ∀ y, KeptZ Y w y →
  y.cell? ⟨g, i * 4, none⟩ = some (.int .i64 (x.1 : Int)) ∧ y.cell? ⟨g, i * 4 + 1, none⟩ = some (.string ⟨x.2.nm.toArray⟩) ∧ y.cell? ⟨g, i * 4 + 2, none⟩ = some (.string ⟨x.2.by_.toArray⟩) ∧ y.cell? ⟨g, i * 4 + 3, none⟩ = some (.int .i64 (x.2.sy : Int))
theorem seg_row {w : World} {base : Nat} {v : Value} {all : List (Nat × FilV)} (h : w.ownsRow base 97 4 v all.length (flat segE all)) : SegR base w v all := by
  rcases h.2 with ⟨rfl, h0⟩ | ⟨g, cap, cur, rfl, hb, hg, hc1, _, hcs, ht⟩
  · have hl : all = [] := List.length_eq_zero_iff.1 h0
    subst hl
    exact ⟨none, 0, rfl, fun _ => False, fun _ h => h.elim, fun i x hx => by simp at hx⟩
  · refine ⟨_, _, rfl, fun r => r = g, fun r hr => by subst hr; exact ⟨hb, (Array.getElem?_eq_some_iff.1 hg).1⟩, fun i f hf => ⟨g, rfl, fun y hy => ?_⟩⟩
    have hi : i < all.length := (List.getElem?_eq_some_iff.1 hf).1
    have one : ∀ r u, (segE f)[r]? = some u → r < 4 → y.cell? ⟨g, i * 4 + r, none⟩ = some u := fun r u hu hr => by
      have e1 : (cur.toList.take (all.length * 4))[i * 4 + r]? = some u := by
        rw [ht]
        exact flat_at segE_len all i r f u hf hu
      rw [List.getElem?_take, if_pos (by omega)] at e1
      unfold World.cell?
      rw [hy g _ rfl hg]
      show cur[i * 4 + r]? = _
      rw [← Array.getElem?_toList]
      exact e1
    exact ⟨one 0 _ rfl (by decide), one 1 _ rfl (by decide), one 2 _ rfl (by decide), one 3 _ rfl (by decide)⟩
theorem SegR.below {B : Nat} {w w' : World} {v : Value} {all : List (Nat × FilV)} (h : SegR B w v all) (hb : Below w.heap.size w w') : SegR B w' v all := by
  obtain ⟨A, c, rfl, Y, h1, h2⟩ := h
  refine ⟨A, c, rfl, Y, fun r hr => ⟨(h1 r hr).1, Nat.lt_of_lt_of_le (h1 r hr).2 hb.size⟩, fun i x hx => ?_⟩
  obtain ⟨g, e, h3⟩ := h2 i x hx
  exact ⟨g, e, fun y hy => h3 y (fun r o hr ho => hy r o hr ((hb.block r (h1 r hr).2).trans ho))⟩
/-- What read tells. -/
def ReadR (all : List (Nat × FilV)) (w : World) (e : Ending) (w' : World) : Prop :=
  Below w.heap.size w w' ∧ ((Spoilt all ∧ e = .returned (.tuple #[.slice none 0 0, .int .i64 0, .bool false])) ∨ (¬ Spoilt all ∧ ∃ v, e = .returned (.tuple #[v, .int .i64 (endL all : Int), .bool true]) ∧ w'.ownsRow w.heap.size 9 1 v (recL all).length (encS (recL all))))
set_option maxRecDepth 100000 in
set_option maxHeartbeats 16000000 in
theorem read_all (all : List (Nat × FilV)) (htot : totS all ≤ 8000000) (hsy : ∀ x ∈ all, x.2.sy ≤ x.2.by_.length) (hnum : ∀ x ∈ all, x.1 ≤ 4294967295) (hlen : all.length ≤ 1000000) (B : Nat) (w : World) (v : Value) (hr : SegR B w v all) :
    Calls Tryz.prog 52 #[v] w (ReadR all w) := by
  obtain ⟨N, hN⟩ : ∃ N, N = all.length := ⟨_, rfl⟩
  obtain ⟨A, c, rfl, Y, hY1, hY2⟩ := hr
  rw [← hN]
  have HR := Lib.hid (And.intro hY1 hY2)
  have HN := Lib.hid hN
  have hN6 : N ≤ 1000000 := by omega
  have HS := Lib.hid (And.intro htot (And.intro hsy hnum))
  obtain ⟨iS, hiS, hzS, hsS, hbS⟩ := info_parts infoStr
  have HiS := Lib.hid (And.intro hiS (And.intro hzS (And.intro hsS hbS)))
  clear hY1 hY2 hN hlen htot hsy hnum hiS hzS hsS hbS
  go_enter Tryz.func52, Tryz.ntmps52
  go_wp2
  go_loopw [5, 6, 15] (fun s5 s6 s15 wr => ∃ i : Nat, s15 = .int .i64 (i : Int) ∧ i ≤ N ∧ s6 = .int .i64 (endL (all.take i) : Int) ∧ wr.ownsRow w.heap.size 9 1 s5 (recL (all.take i)).length (encS (recL (all.take i))) ∧ Below w.heap.size w wr ∧ ∀ j, j < i → ¬ segBad all j) (fun _ _ s15 _ => N - (intOf s15).toNat)
  case atStart => exact ⟨0, rfl, Nat.zero_le _, rfl, World.ownsRow_nil _ _ _ _, Below.refl _ _, fun j hj => by omega⟩
  case round =>
    obtain ⟨i, rfl, hi, rfl, ho, hb, hgood⟩ := hrel
    obtain ⟨A5, c5, rfl⟩ := own_slice_of ho
    have HO := Lib.hid (And.intro ho (And.intro hb hgood))
    clear ho hb hgood
    obtain ⟨K, hK⟩ : ∃ K, K = (recL (all.take i)).length := ⟨_, rfl⟩
    obtain ⟨XS, hXS⟩ : ∃ XS, XS = encS (recL (all.take i)) := ⟨_, rfl⟩
    obtain ⟨E6, hE6⟩ : ∃ E6, E6 = endL (all.take i) := ⟨_, rfl⟩
    rw [← hK, ← hE6]
    have HK := Lib.hid (And.intro hK (And.intro hXS hE6))
    have HO2 := Lib.hid (by have h2 := HO.out.1; rw [← hK, ← hXS] at h2; exact h2)
    clear hK hXS hE6
    by_cases hiN : i < N
    · have hiI : (i : Int) < (N : Int) := by omega
      have hif : i < all.length := by rw [← HN.out]; exact hiN
      obtain ⟨x, hx⟩ : ∃ x, x = all[i] := ⟨_, rfl⟩
      have hxs : all[i]? = some x := by rw [List.getElem?_eq_getElem hif, hx]
      have hxm : x ∈ all := by rw [hx]; exact List.getElem_mem hif
      have htake : all.take (i + 1) = all.take i ++ [x] := by rw [List.take_add_one, hxs]; rfl
      obtain ⟨gk, rfl, hck⟩ := HR.out.2 i x hxs
      obtain ⟨q0, q1, q2, q3⟩ := hck wr (fun r o hr ho => (HO.out.2.1.block r (HR.out.1 r hr).2).trans ho)
      have hby := totS_mem hxm
      have hsyx := HS.out.2.1 x hxm
      have htot := HS.out.1
      obtain ⟨sy, hsy⟩ : ∃ sy, sy = x.2.sy := ⟨_, rfl⟩
      obtain ⟨bb, hbb⟩ : ∃ bb : ByteArray, bb = ⟨x.2.by_.toArray⟩ := ⟨_, rfl⟩
      have hbs : bb.size = x.2.by_.length := by rw [hbb]; simp [ByteArray.size]
      rw [← hbb] at q2
      rw [← hsy] at q3 hsyx
      have hsb : sy ≤ bb.size := by omega
      obtain ⟨tb, htb⟩ : ∃ tb, tb = bb.extract 0 sy := ⟨_, rfl⟩
      have htl : tb = ⟨(x.2.by_.take sy).toArray⟩ := by
        rw [htb, hbb]
        apply ByteArray.ext
        apply Array.toList_inj.1
        rw [ByteArray.data_extract, Array.toList_extract, List.extract_eq_take_drop]
        simp
      obtain ⟨R1, hR1⟩ : ∃ R, R = splD (x.2.by_.take sy) := ⟨_, rfl⟩
      obtain ⟨R2, hR2⟩ : ∃ R, R = splD x.2.by_ := ⟨_, rfl⟩
      have HSP1 := Lib.hid (show ∀ z : World, Calls Tryz.prog 76 #[.string tb] z fun e w' => ∃ v, e = .returned (.tuple #[v, .int .i64 (R1.2.1 : Int), .int .i64 (R1.2.2 : Int)]) ∧ w'.ownsRow z.heap.size 9 1 v R1.1.length (encS R1.1) ∧ Below z.heap.size z w' from fun z => by rw [htl, hR1]; exact split_any _ (by rw [List.length_take]; omega) z)
      have HSP2 := Lib.hid (show ∀ z : World, Calls Tryz.prog 76 #[.string bb] z fun e w' => ∃ v, e = .returned (.tuple #[v, .int .i64 (R2.2.1 : Int), .int .i64 (R2.2.2 : Int)]) ∧ w'.ownsRow z.heap.size 9 1 v R2.1.length (encS R2.1) ∧ Below z.heap.size z w' from fun z => by rw [hbb, hR2]; exact split_any _ (by omega) z)
      have HTB := Lib.hid htb
      have HX := Lib.hid (And.intro hxs (And.intro htake (And.intro hR1 (And.intro hR2 (And.intro hsy hbs)))))
      have HXL := Lib.hid (And.intro htot hby)
      have HB0 := Lib.hid (fun (o : Obj) => HO.out.2.1.alloc HO.out.2.1.size o)
      have HPV := Lib.hid (fun (y : World) (hy : Below w.heap.size w y) (k : Nat) (z : Nat × FilV) (hz : all[k]? = some z) => (show y.cell? ⟨gk, k * 4, none⟩ = some (.int .i64 (z.1 : Int)) from by
        obtain ⟨g2, e2, h2⟩ := HR.out.2 k z hz
        injection e2 with e2
        injection e2 with e2
        subst e2
        exact (h2 y (fun r o hr ho => (hy.block r (HR.out.1 r hr).2).trans ho)).1))
      clear hif hx hxs hxm htake hck hby htot hsy hbb hbs htb htl hR1 hR2 hsyx
      go_upto_region 6 with fail
      have hr8 : (wr.alloc (.cells #[.int .i64 (x.1 : Int), .string ⟨x.2.nm.toArray⟩, .string bb, .int .i64 (sy : Int)] 97)).heap[wr.heap.size]? = some (.cells #[.int .i64 (x.1 : Int), .string ⟨x.2.nm.toArray⟩, .string bb, .int .i64 (sy : Int)] 97 (0, 0)) := heap_alloc_new _ _
      have hb8 := HB0.out (.cells #[.int .i64 (x.1 : Int), .string ⟨x.2.nm.toArray⟩, .string bb, .int .i64 (sy : Int)] 97)
      have ho8 := World.ownsRow.alloc HO2.out (.cells #[.int .i64 (x.1 : Int), .string ⟨x.2.nm.toArray⟩, .string bb, .int .i64 (sy : Int)] 97)
      have hg8 : ∀ q, (Value.slice A5 K c5).ownBlock = some q → q < wr.heap.size := fun q hq => (own_at HO2.out hq).2
      change Code.wp _ _ _ _ (wr.alloc (.cells #[.int .i64 (x.1 : Int), .string ⟨x.2.nm.toArray⟩, .string bb, .int .i64 (sy : Int)] 97))
      generalize wr.alloc (.cells #[.int .i64 (x.1 : Int), .string ⟨x.2.nm.toArray⟩, .string bb, .int .i64 (sy : Int)] 97) = W1 at *
      have hg9 : w.heap.size ≤ wr.heap.size := HO.out.2.1.size
      generalize wr.heap.size = g8 at *
      have H8 := Lib.hid (And.intro hr8 (And.intro hb8 (And.intro ho8 (And.intro hg8 hg9))))
      have d0 := cell_of_row _ _ 0 _ _ _ hr8
      rw [show (#[Value.int .i64 (x.1 : Int), .string ⟨x.2.nm.toArray⟩, .string bb, .int .i64 (sy : Int)])[0]? = some (.int .i64 (x.1 : Int)) from rfl] at d0
      clear q0 q1 q2 q3 hr8 hb8 ho8 hg8 hg9
      obtain ⟨bd, hbd⟩ : ∃ bd : Bool, bd = decide (0 < i ∧ ∀ y, all[i - 1]? = some y → x.1 ≠ y.1 + 1) := ⟨_, rfl⟩
      have HBD := Lib.hid hbd
      clear hbd
      go_cut [33] (fun s33 wx => s33 = .bool bd ∧ Below W1.heap.size W1 wx)
      case first =>
        by_cases hi0 : i = 0
        · have g0 : ¬ (0 < i) := by omega
          have HBF := Lib.hid (show bd = false from by rw [HBD.out]; exact decide_eq_false (fun q => by omega))
          clear hi0 d0
          refine (wpIn_wide (n := 1)).1 ?_
          refine RegK.wpIn_region_can (F := Fence.wide) (KeptW W1) [(0, 0), (1, 0), (2, 0), (3, 0), (4, 0), (5, 0), (6, 0), (7, 0), (8, 0), (9, 0), (10, 0), (11, 0), (12, 0), (13, 0)] (by kernel_rfl) (by kernel_rfl) (by kernel_rfl) (fun _ _ d _ _ h => by cases d <;> exact h) ⟨rfl, rfl, rfl, Nat.le_refl _, fun _ _ => rfl⟩ ?_
          dsimp only [RegK.pick, List.getElem?_cons_zero, List.getElem?_cons_succ]
          change RegK.Can _ _ _ _ _ _ _ _ W1.drew
          have hkd : KeptW W1 W1.drew := ⟨rfl, rfl, rfl, Nat.le_refl _, fun _ _ => rfl⟩
          generalize W1.drew = v1 at *
          iterate 14 (refine RegK.can_reads ?_; intro K hK; go_simp; (first | refine ⟨_, fun _ _ => rfl, hK _ ?_⟩ | refine hK _ ?_); clear hK K)
          refine RegK.can_nil ?_
          go_wp2_with fail
          go_meet
          exact ⟨by rw [HBF.out], KeptW.bel hkd⟩
        · have g0 : 0 < i := by omega
          obtain ⟨j, hj⟩ : ∃ j, j = i - 1 := ⟨_, rfl⟩
          have hjl : j < all.length := by rw [← HN.out]; omega
          obtain ⟨z9, hy⟩ : ∃ y, y = all[j] := ⟨_, rfl⟩
          have hys : all[j]? = some z9 := by rw [List.getElem?_eq_getElem hjl, hy]
          have p0 := HPV.out W1 H8.out.2.1 j z9 hys
          have hyn := HS.out.2.2 z9 (by rw [hy]; exact List.getElem_mem hjl)
          have w1' : IntKind.i64.wrap ((i : Int) - 1) = (j : Int) := by rw [IntWalk.i64_in _ (by omega)]; omega
          have w2' : IntKind.i64.wrap ((z9.1 : Int) + 1) = (z9.1 : Int) + 1 := IntWalk.i64_in _ (by omega)
          have hjI : (j : Int) < (N : Int) := by omega
          have hj0 : (0 : Int) ≤ (j : Int) := by omega
          have hjn : j < N := by omega
          have HBT := Lib.hid (show bd = ((x.1 : Int) != (z9.1 : Int) + 1) from by
            rw [HBD.out, ← hj, hys]
            by_cases hq : x.1 = z9.1 + 1
            · rw [decide_eq_false (fun q => q.2 z9 rfl hq), hq]
              simp
            · rw [decide_eq_true ⟨by omega, fun z hz => by cases hz; exact hq⟩]
              symm
              rw [bne_iff_ne]
              omega)
          have HD := Lib.hid (fun (z : World) (hz : Below W1.heap.size W1 z) => (show z.cell? ⟨g8, 0, none⟩ = some (.int .i64 (x.1 : Int)) ∧ z.cell? ⟨gk, j * 4, none⟩ = some (.int .i64 (z9.1 : Int)) from ⟨cell_of_row _ _ 0 _ _ _ ((hz.block g8 (Array.getElem?_eq_some_iff.1 H8.out.1).1).trans H8.out.1), HPV.out z (H8.out.2.1.trans (hz.mono (H8.out.2.1).size)) j z9 hys⟩))
          clear hi0 hj hjl hy hys hyn d0 p0
          refine (wpIn_wide (n := 1)).1 ?_
          refine RegK.wpIn_region_can (F := Fence.wide) (KeptW W1) [(0, 0), (1, 0), (2, 0), (3, 0), (4, 0), (5, 0), (6, 0), (7, 0), (8, 0), (9, 0), (10, 0), (11, 0), (12, 0), (13, 0)] (by kernel_rfl) (by kernel_rfl) (by kernel_rfl) (fun _ _ d _ _ h => by cases d <;> exact h) ⟨rfl, rfl, rfl, Nat.le_refl _, fun _ _ => rfl⟩ ?_
          dsimp only [RegK.pick, List.getElem?_cons_zero, List.getElem?_cons_succ]
          change RegK.Can _ _ _ _ _ _ _ _ W1.drew
          have hkd : KeptW W1 W1.drew := ⟨rfl, rfl, rfl, Nat.le_refl _, fun _ _ => rfl⟩
          generalize W1.drew = v1 at *
          iterate 4 (refine RegK.can_reads ?_; intro K hK; go_simp; (first | refine ⟨_, fun _ _ => rfl, hK _ ?_⟩ | refine hK _ ?_); clear hK K)
          refine RegK.can_reads ?_
          intro K hK
          go_simp
          refine ⟨.int .i64 (x.1 : Int), fun y hy => ?_, hK _ ?_⟩
          · have c0 := (HD.out y (KeptW.bel hy)).1
            go_simp
          clear hK K
          iterate 5 (refine RegK.can_reads ?_; intro K hK; go_simp; (first | refine ⟨_, fun _ _ => rfl, hK _ ?_⟩ | refine hK _ ?_); clear hK K)
          refine RegK.can_reads ?_
          intro K hK
          go_simp
          refine ⟨.int .i64 (z9.1 : Int), fun y hy => ?_, hK _ ?_⟩
          · have c0 := (HD.out y (KeptW.bel hy)).2
            go_simp
          clear hK K
          iterate 3 (refine RegK.can_reads ?_; intro K hK; go_simp; (first | refine ⟨_, fun _ _ => rfl, hK _ ?_⟩ | refine hK _ ?_); clear hK K)
          refine RegK.can_nil ?_
          go_wp2_with fail
          go_meet
          exact ⟨by rw [HBT.out], KeptW.bel hkd⟩
      case rest =>
        obtain ⟨rfl, hb9⟩ := hcut
        have hb10 : Below w.heap.size w wc := H8.out.2.1.trans (hb9.mono H8.out.2.1.size)
        have ho10 := own_stay H8.out.2.2.1 (fun k hk hB hl => hb9.block k hl)
        have hr10 := (hb9.block g8 (Array.getElem?_eq_some_iff.1 H8.out.1).1).trans H8.out.1
        have HC := Lib.hid (And.intro hb10 (And.intro ho10 hr10))
        have HCC := Lib.hid (fun (z : World) (hz : Below wc.heap.size wc z) => (show z.cell? ⟨g8, 2, none⟩ = some (.string bb) ∧ z.cell? ⟨g8, 3, none⟩ = some (.int .i64 (sy : Int)) from ⟨cell_of_row _ _ 2 _ _ _ ((hz.block g8 (Array.getElem?_eq_some_iff.1 hr10).1).trans hr10), cell_of_row _ _ 3 _ _ _ ((hz.block g8 (Array.getElem?_eq_some_iff.1 hr10).1).trans hr10)⟩))
        clear hb9 hb10 ho10 hr10 d0
        cases bd
        case true =>
          go_wp2_with fail
          go_ret3
          exact ⟨HC.out.1, .inl ⟨⟨i, x, HX.out.1, .inl (of_decide_eq_true HBD.out.symm)⟩, rfl⟩⟩
        case false =>
          obtain ⟨d2, d3⟩ := HCC.out wc (Below.refl _ _)
          obtain ⟨M, hM⟩ : ∃ M, M = N - 1 := ⟨_, rfl⟩
          have hwN : wrap64 ((N : Int) - 1) = (M : Int) := by unfold wrap64; omega
          have HM := Lib.hid hM
          clear hM
          go_upto_region 9 with (rw [← HTB.out]; go_at_call 76; (with_reducible refine (HSP1.out _).mono ?_); rintro e w3 ⟨v3, rfl, ho3, hb3⟩; have HB3 := Lib.hid hb3; clear ho3 hb3)
          clear d2 d3
          obtain ⟨d2, d3⟩ := HCC.out w3 HB3.out
          obtain ⟨c9, hc9⟩ : ∃ c9, c9 = R1.2.2 := ⟨_, rfl⟩
          rw [← hc9]
          obtain ⟨b9, hb9⟩ : ∃ b9 : Bool, b9 = decide (c9 ≠ 0 ∨ (i + 1 < N ∧ sy < bb.size)) := ⟨_, rfl⟩
          have HB9 := Lib.hid (And.intro hb9 hc9)
          clear hb9 hc9
          go_cut [64] (fun s64 wx => s64 = .bool b9 ∧ wx = w3)
          case first =>
            by_cases hc : c9 = 0
            · have hc1 : ((c9 : Int) != 0) = false := by rw [hc]; rfl
              have HC0 := Lib.hid hc
              clear hc
              by_cases hl : i + 1 < N
              · have hl1 : i < M := by rw [HM.out]; omega
                have hl2 : (i : Int) < (N : Int) - 1 := by omega
                by_cases hs : sy < bb.size
                · have HBV := Lib.hid (show b9 = true from by rw [HB9.out.1]; exact decide_eq_true (.inr ⟨hl, hs⟩))
                  clear hl
                  go_wp2_with fail
                  go_meet
                  exact ⟨by rw [HBV.out], rfl⟩
                · have HBV := Lib.hid (show b9 = false from by rw [HB9.out.1]; exact decide_eq_false (fun q => q.elim (fun q => q HC0.out) (fun q => hs q.2)))
                  clear hl
                  go_wp2_with fail
                  go_meet
                  exact ⟨by rw [HBV.out], rfl⟩
              · have hl1 : ¬ (i < M) := by rw [HM.out]; omega
                have hl2 : ¬ ((i : Int) < (N : Int) - 1) := by omega
                have HBV := Lib.hid (show b9 = false from by rw [HB9.out.1]; exact decide_eq_false (fun q => q.elim (fun q => q HC0.out) (fun q => hl q.1)))
                clear hl
                go_wp2_with fail
                go_meet
                exact ⟨by rw [HBV.out], rfl⟩
            · have hc1 : ((c9 : Int) != 0) = true := by rw [bne_iff_ne]; omega
              have HBV := Lib.hid (show b9 = true from by rw [HB9.out.1]; exact decide_eq_true (.inl hc))
              clear hc
              go_wp2_with fail
              go_meet
              exact ⟨by rw [HBV.out], rfl⟩
          case rest =>
            obtain ⟨rfl, rfl⟩ := hcut
            cases b9
            case true =>
              go_wp2_with fail
              go_ret3
              refine ⟨HC.out.1.trans (HB3.out.mono HC.out.1.size), .inl ⟨⟨i, x, HX.out.1, .inr ?_⟩, rfl⟩⟩
              have h9 := of_decide_eq_true HB9.out.1.symm
              rw [HB9.out.2, HX.out.2.2.1] at h9
              obtain ⟨_, _, _, _, hsy, hbs⟩ := HX.out
              rw [← hsy, ← hbs, ← HN.out]
              exact h9
            case false =>
              go_upto_region 13 with (go_at_call 76; (with_reducible refine (HSP2.out _).mono ?_); rintro e w4 ⟨v4, rfl, ho4, hb4⟩
                                      have ho3 := own_stay HC.out.2.1 (fun k hk hB hl => (hb4.block k (Nat.lt_of_lt_of_le hl HB3.out.size)).trans (HB3.out.block k hl))
                                      have H4 := Lib.hid (And.intro ho3 (And.intro ho4 (And.intro (own_read ho4) (HC.out.1.trans ((HB3.out.mono HC.out.1.size).trans (hb4.mono (Nat.le_trans HC.out.1.size HB3.out.size)))))))
                                      obtain ⟨A4, c4, rfl⟩ := own_slice_of ho4
                                      clear ho3 ho4 hb4)
              have hcnt : K + R2.1.length ≤ 8000000 := by
                have h1 := recL_count (all.take (i + 1))
                have h2 := totS_take all (i + 1)
                have h3 := HXL.out.1
                rw [HX.out.2.1, recL_snoc, List.length_append, ← HK.out.1, ← HX.out.2.2.2.1] at h1
                rw [HX.out.2.1] at h2
                omega
              have HCN := Lib.hid hcnt
              have hw1 : wrap64 ((i : Int) + 1) = ((i + 1 : Nat) : Int) := by unfold wrap64; omega
              clear hcnt
              go_wp2_with (at_builtin; refine wpList_append_rd rfl _ _ 52 rfl w.heap.size 9 iS _ 1 16 Tryz.underlying52 HiS.out.1 HiS.out.2.1 HiS.out.2.2.1 HiS.out.2.2.2 rfl (by decide) _ K XS rfl H4.out.1 (.slice A4 R2.1.length c4) R2.1.length (encS R2.1) rfl (by simp [encS]) H4.out.2.2.1 (encS_one _) (by have := HCN.out; unfold maxLen; omega) (by have := HCN.out; omega) H4.out.2.2.2.size ?_; intro v5 w5 ho5 hg5 hq5; have H5 := Lib.hid (And.intro ho5 hg5); clear ho5 hg5 hq5)
              have htk := HX.out.2.1
              refine ⟨⟨i + 1, by rw [Int.natCast_add]; rfl, by omega, ?_, ?_, ?_, ?_⟩, by simp only [intOf]; omega⟩
              · rw [htk, endL_snoc, ← HX.out.2.2.2.1]
              · rw [htk, recL_snoc, List.length_append, ← HX.out.2.2.2.1, ← HK.out.1, show encS (recL (all.take i) ++ R2.1) = encS (recL (all.take i)) ++ encS R2.1 by simp [encS], ← HK.out.2.1]
                exact H5.out.1
              · exact below_grown H5.out.2 H4.out.2.2.2 H4.out.2.2.2.size (fun k e => (own_at H4.out.1 e).1)
              · intro j hj
                by_cases hji : j = i
                · subst hji
                  rintro ⟨z, hz, hbad⟩
                  rw [HX.out.1] at hz
                  injection hz with hz
                  subst hz
                  have hd := of_decide_eq_false HBD.out.symm
                  have h9 := of_decide_eq_false HB9.out.1.symm
                  rw [HB9.out.2, HX.out.2.2.1] at h9
                  obtain ⟨_, _, _, _, hsy, hbs⟩ := HX.out
                  rw [← hsy, ← hbs, ← HN.out] at hbad
                  rcases hbad with q | q
                  · exact hd q
                  · exact h9 q
                · exact HO.out.2.2 j (by omega)
    · have hiI : ¬ (i : Int) < (N : Int) := by omega
      obtain rfl : i = N := by omega
      have htk : all.take i = all := by rw [HN.out, List.take_length]
      have HE := Lib.hid (show ReadR all w (.returned (.tuple #[.slice A5 K c5, .int .i64 (E6 : Int), .bool true])) wr from by
        have h1 := HK.out
        rw [htk] at h1
        refine ⟨HO.out.2.1, .inr ⟨?_, .slice A5 K c5, ?_, ?_⟩⟩
        · rintro ⟨k, z, hz, hbad⟩
          have hk := (List.getElem?_eq_some_iff.1 hz).1
          rw [← HN.out] at hk
          exact HO.out.2.2 k hk ⟨z, hz, hbad⟩
        · rw [h1.2.2]
        · rw [← h1.2.1, ← h1.1]
          exact HO2.out)
      clear htk
      go_wp2_with fail
      go_ret3
      exact HE.out
end Go.Proofs.YtogfladmgbldcaaGreatDoor
namespace Go.Proofs.YtogfladmgbldcaaGreatDoor
open Go.RowKit Go.Shelf
abbrev Stp := FuncId × Array Value × Array Value
def stpV (f : Stp) : Value := .func (.func f.1) f.2.1 f.2.2
set_option maxRecDepth 100000 in
set_option maxHeartbeats 4000000 in
theorem steps_any (g c n : Nat) (fs : List Stp) (hn : n = fs.length) (hn9 : n ≤ 9) (I : Nat → World → Prop) (R : Int → World → Prop) (w : World) (h0 : I 0 w)
    (hE : ∀ f ∈ fs, ∀ (xs : Array Value) (y : World), (callFunc f.1 xs).run Tryz.prog y = .ok (.enter f.1 xs) y)
    (hrow : ∀ i f y, fs[i]? = some f → I i y → y.cell? ⟨g, i, none⟩ = some (stpV f))
    (hstep : ∀ i f y, fs[i]? = some f → I i y → Calls Tryz.prog f.1 (f.2.1 ++ f.2.2) y fun e w' => ∃ k : Int, e = .returned (.int .i64 k) ∧ ((k = 0 ∧ I (i + 1) w') ∨ (k ≠ 0 ∧ R k w'))) :
    Calls Tryz.prog 53 #[.slice (some ⟨g, 0, none⟩) n c] w fun e w' => ∃ k : Int, e = .returned (.int .i64 k) ∧ ((k = 0 ∧ I n w') ∨ (k ≠ 0 ∧ R k w')) := by
  have HE := Lib.hid hE
  have HR := Lib.hid hrow
  have HS := Lib.hid hstep
  have H0 := Lib.hid h0
  have HN := Lib.hid hn
  clear hE hrow hstep h0 hn
  go_enter Tryz.func53, Tryz.ntmps53
  go_wp2
  go_loopw [8] (fun s8 wr => ∃ i : Nat, s8 = .int .i64 (i : Int) ∧ i ≤ n ∧ I i wr) (fun s8 _ => n - (intOf s8).toNat)
  case atStart => exact ⟨0, rfl, Nat.zero_le _, H0.out⟩
  case round =>
    obtain ⟨i, rfl, hi, hI⟩ := hrel
    by_cases hin : i < n
    · have hiI : (i : Int) < (n : Int) := by omega
      obtain ⟨f, hf⟩ : ∃ f, f = fs[i]'(by rw [← HN.out]; exact hin) := ⟨_, rfl⟩
      have hfs : fs[i]? = some f := by rw [List.getElem?_eq_getElem (by rw [← HN.out]; exact hin), hf]
      have hent := HE.out f (by rw [hf]; exact List.getElem_mem _)
      have hcell := HR.out i f wr hfs hI
      have HF := Lib.hid (HS.out i f wr hfs hI)
      obtain ⟨fi, pre, cap⟩ := f
      have hw1 : wrap64 ((i : Int) + 1) = ((i + 1 : Nat) : Int) := by unfold wrap64; omega
      unfold stpV at hcell
      dsimp only at hent hcell HF
      clear hf hfs hI
      go_upto_region 4 with fail
      go_wp2_with fail
      refine HF.out.mono ?_
      rintro e w' ⟨k, rfl, hk⟩
      have HK := Lib.hid hk
      clear hk hcell hent
      by_cases hk0 : k = 0
      · subst hk0
        have HI := Lib.hid (show I (i + 1) w' from by
          rcases HK.out with ⟨_, h⟩ | ⟨h, _⟩
          · exact h
          · exact (h rfl).elim)
        go_wp2
        exact ⟨⟨i + 1, by rw [Int.natCast_add]; rfl, by omega, HI.out⟩, by simp only [intOf]; omega⟩
      · have hkz : (k != 0) = true := by rw [bne_iff_ne]; exact hk0
        have HX := Lib.hid (show R k w' from by
          rcases HK.out with ⟨h, _⟩ | ⟨_, h⟩
          · exact (hk0 h).elim
          · exact h)
        have HN0 := Lib.hid hk0
        clear hk0
        go_wp2
        go_ret
        exact ⟨k, rfl, .inr ⟨HN0.out, HX.out⟩⟩
    · have hiI : ¬ (i : Int) < (n : Int) := by omega
      obtain rfl : i = n := by omega
      have HI := Lib.hid hI
      clear hI
      go_wp2
      go_ret
      exact ⟨0, rfl, .inl ⟨rfl, HI.out⟩⟩
end Go.Proofs.YtogfladmgbldcaaGreatDoor
namespace Go.Proofs.YtogfladmgbldcaaGreatDoor
theorem sname_fin : ∀ n : Fin 210, numN (sname (n.val + 1)) = some (n.val + 1) ∧ sname n.val < sname (n.val + 1) ∧ (sname (n.val + 1)).length = 9 := by decide +kernel
theorem sname_num {n : Nat} (h1 : 1 ≤ n) (h2 : n ≤ 210) : numN (sname n) = some n := by
  have h := (sname_fin ⟨n - 1, by omega⟩).1
  dsimp only at h
  rwa [show n - 1 + 1 = n by omega] at h
theorem sname_len {n : Nat} (h1 : 1 ≤ n) (h2 : n ≤ 210) : (sname n).length = 9 := by
  have h := (sname_fin ⟨n - 1, by omega⟩).2.2
  dsimp only at h
  rwa [show n - 1 + 1 = n by omega] at h
theorem sname_lt : ∀ (k n : Nat), n + k + 1 ≤ 210 → sname n < sname (n + k + 1)
  | 0, n, h => (sname_fin ⟨n, by omega⟩).2.1
  | k + 1, n, h => List.lt_trans (sname_lt k n (by omega)) ((sname_fin ⟨n + k + 1, by omega⟩).2.1)
theorem sname_lt' {n m : Nat} (h : n < m) (hm : m ≤ 210) : sname n < sname m := by
  have h2 := sname_lt (m - n - 1) n (by omega)
  rwa [show n + (m - n - 1) + 1 = m by omega] at h2
/-- A whole segment. -/
def segW (n : Nat) (R : List Bs) : FilV := ⟨sname n, frsL R, (frsL R).length⟩
def whs : Nat → List (List Bs) → List FilV
  | _, [] => []
  | a, R :: r => segW a R :: whs (a + 1) r
def whsN : Nat → List (List Bs) → List (Nat × FilV)
  | _, [] => []
  | a, R :: r => (a, segW a R) :: whsN (a + 1) r
def lastF (n : Nat) (R : List Bs) (t : Bs) (y : Nat) : FilV := ⟨sname n, frsL R ++ t, (frsL (R.take y)).length⟩
theorem lastF_whole (n : Nat) (R : List Bs) : lastF n R [] R.length = segW n R := by unfold lastF segW; rw [List.append_nil, List.take_length]
theorem whs_len : ∀ (a : Nat) (P : List (List Bs)), (whs a P).length = P.length
  | _, [] => rfl
  | a, R :: r => by rw [whs, List.length_cons, whs_len, List.length_cons]
theorem whsN_len : ∀ (a : Nat) (P : List (List Bs)), (whsN a P).length = P.length
  | _, [] => rfl
  | a, R :: r => by rw [whsN, List.length_cons, whsN_len, List.length_cons]
theorem whs_snoc : ∀ (a : Nat) (P : List (List Bs)) (R : List Bs), whs a (P ++ [R]) = whs a P ++ [segW (a + P.length) R]
  | _, [], _ => rfl
  | a, Q :: r, R => by
    rw [List.cons_append, whs, whs_snoc, whs, List.length_cons, List.cons_append, show a + 1 + r.length = a + (r.length + 1) by omega]
theorem whsN_at : ∀ (a : Nat) (P : List (List Bs)) (i : Nat), (whsN a P)[i]? = (P[i]?).map (fun Q => (a + i, segW (a + i) Q))
  | _, [], _ => by simp [whsN]
  | a, Q :: r, 0 => by simp [whsN]
  | a, Q :: r, i + 1 => by
    rw [whsN, List.getElem?_cons_succ, whsN_at, List.getElem?_cons_succ, show a + 1 + i = a + (i + 1) by omega]
theorem segF_w {n : Nat} {f : FilV} (h1 : 1 ≤ n) (h2 : n ≤ 210) (hf : f.nm = sname n) : segF f = some (n, f) := by
  unfold segF
  rw [hf, sname_num h1 h2]
  rfl
theorem segL_whs : ∀ (a : Nat) (P : List (List Bs)), 1 ≤ a → a + P.length ≤ 211 → segL (whs a P) = whsN a P
  | _, [], _, _ => rfl
  | a, R :: r, h1, h2 => by
    rw [List.length_cons] at h2
    unfold segL
    rw [whs, List.filterMap_cons, segF_w h1 (by omega) rfl]
    dsimp only
    have h3 := segL_whs (a + 1) r (by omega) (by omega)
    unfold segL at h3
    rw [h3, whsN]
theorem whs_mem : ∀ (a : Nat) (P : List (List Bs)) (f : FilV), f ∈ whs a P → ∃ k Q, k < P.length ∧ P[k]? = some Q ∧ f = segW (a + k) Q
  | _, [], _, h => by cases h
  | a, R :: r, f, h => by
    rcases List.mem_cons.1 h with rfl | h
    · exact ⟨0, R, by simp, rfl, rfl⟩
    · obtain ⟨k, Q, h1, h2, h3⟩ := whs_mem (a + 1) r f h
      exact ⟨k + 1, Q, by simpa using h1, by simpa using h2, by rw [h3, show a + 1 + k = a + (k + 1) by omega]⟩
theorem whs_rise : ∀ (a : Nat) (P : List (List Bs)), a + P.length ≤ 211 → Rise (whs a P)
  | _, [], _ => List.Pairwise.nil
  | a, R :: r, h => by
    rw [List.length_cons] at h
    refine List.pairwise_cons.2 ⟨fun f hf => ?_, whs_rise (a + 1) r (by omega)⟩
    obtain ⟨k, Q, h1, _, rfl⟩ := whs_mem _ _ _ hf
    exact sname_lt' (by omega) (by omega)
theorem whs_last_rise {a : Nat} {P : List (List Bs)} {g : FilV} (h : a + P.length ≤ 210) (hg : g.nm = sname (a + P.length)) : Rise (whs a P ++ [g]) := by
  refine List.pairwise_append.2 ⟨whs_rise a P (by omega), List.pairwise_singleton _ _, fun f hf q hq => ?_⟩
  rw [List.mem_singleton.1 hq, hg]
  obtain ⟨k, Q, h1, _, rfl⟩ := whs_mem _ _ _ hf
  exact sname_lt' (by omega) (by omega)
theorem put_end {f : FilV} : ∀ {l : List FilV}, (∀ g ∈ l, g.nm < f.nm) → putF f l = l ++ [f]
  | [], _ => rfl
  | g :: r, h => by
    have h1 := h g (List.mem_cons_self ..)
    rw [putF, if_neg (fun e => by rw [e] at h1; exact List.lt_irrefl _ h1), if_neg (fun e => List.lt_irrefl _ (List.lt_trans h1 e)), put_end (fun q hq => h q (List.mem_cons_of_mem _ hq))]
    rfl
theorem tot_app (a b : List FilV) : totF (a ++ b) = totF a + totF b := by simp [totF]
theorem tot_whs : ∀ (a : Nat) (P : List (List Bs)), totF (whs a P) = (frsL P.flatten).length
  | _, [] => rfl
  | a, R :: r => by
    rw [whs, tot_cons, tot_whs, List.flatten_cons, frsL_app, List.length_append]
    rfl
/-- Bytes that are no frame, nor begin with one. -/
def Tor (t : Bs) : Prop := (splD t).1 = [] ∧ (splD t).2.1 = 0
theorem tor_nil : Tor [] := ⟨rfl, rfl⟩
theorem tor_pre {x t : Bs} (h : frOk x) (hp : t <+: frL x) (hl : t.length < (frL x).length) : Tor t := by
  by_cases h0 : t.length = 0
  · rw [List.length_eq_zero_iff.1 h0]
    exact tor_nil
  · have h2 := take_torn h.1 h.2 hp hl
    unfold Tor
    rw [splD_err (by rw [h2]; decide) h0]
    exact ⟨rfl, rfl⟩
theorem splD_tor {R : List Bs} {t : Bs} (h : Oks R) (ht : Tor t) : (splD (frsL R ++ t)).1 = R ∧ (splD (frsL R ++ t)).2.1 = (frsL R).length := by
  rw [splD_frs R h t]
  dsimp only
  rw [ht.1, ht.2]
  exact ⟨List.append_nil _, rfl⟩
/-- A disk that holds a log's segments: whole ones from a on, and a last one. -/
structure Lg (D : DskV) (a : Nat) (P : List (List Bs)) (R : List Bs) (t : Bs) (y : Nat) : Prop where
  fs : D.fs = whs a P ++ [lastF (a + P.length) R t y]
  ok : Oks P.flatten
  okR : Oks R
  num : 1 ≤ a ∧ a + P.length ≤ 200
  yR : y ≤ R.length
  tor : Tor t
  sum : D.room + totF D.fs = 4194304
/-- .. none. -/
structure Lg0 (D : DskV) : Prop where
  fs : D.fs = []
  room : D.room = 4194304
section
variable {D : DskV} {a : Nat} {P : List (List Bs)} {R : List Bs} {t : Bs} {y : Nat}
theorem Lg.rise (h : Lg D a P R t y) : Rise D.fs := by rw [h.fs]; exact whs_last_rise (by have := h.num; omega) rfl
theorem Lg.seg (h : Lg D a P R t y) : segL D.fs = whsN a P ++ [(a + P.length, lastF (a + P.length) R t y)] := by
  have hn := h.num
  rw [h.fs, segL_snoc, segL_whs a P hn.1 (by omega), segF_w (n := a + P.length) (by omega) (by omega) rfl]
  rfl
theorem oks_take {l : List Bs} (h : Oks l) (n : Nat) : Oks (l.take n) := fun x hx => h x (List.take_subset _ _ hx)
theorem frsL_take (l : List Bs) (n : Nat) : frsL (l.take n) <+: frsL l := by
  refine ⟨frsL (l.drop n), ?_⟩
  rw [← frsL_app, List.take_append_drop]
theorem Lg.sy_le (_ : Lg D a P R t y) : (lastF (a + P.length) R t y).by_.take (lastF (a + P.length) R t y).sy = frsL (R.take y) := by
  show (frsL R ++ t).take (frsL (R.take y)).length = _
  have h2 : frsL (R.take y) <+: frsL R ++ t := (frsL_take R y).trans (List.prefix_append _ _)
  exact (List.prefix_iff_eq_take.1 h2).symm
theorem Lg.good (h : Lg D a P R t y) : ¬ Spoilt (segL D.fs) := by
  rintro ⟨i, x, hx, hb⟩
  rw [h.seg] at hx hb
  have hl := whsN_len a P
  by_cases hi : i < P.length
  · rw [List.getElem?_append_left (by omega), whsN_at, List.getElem?_eq_getElem hi] at hx
    simp only [Option.map_some, Option.some.injEq] at hx
    subst hx
    rcases hb with ⟨h0, hb⟩ | hb | ⟨_, hb⟩
    · rw [List.getElem?_append_left (by omega), whsN_at, List.getElem?_eq_getElem (by omega)] at hb
      exact hb _ rfl (by show a + i = a + (i - 1) + 1; omega)
    · refine hb ?_
      show (splD ((frsL P[i]).take (frsL P[i]).length)).2.2 = 0
      rw [List.take_length, splD_all (fun z hz => h.ok z (List.mem_flatten.2 ⟨_, List.getElem_mem hi, hz⟩))]
    · exact Nat.lt_irrefl _ hb
  · have hi2 : i = P.length := by
      have := (List.getElem?_eq_some_iff.1 hx).1
      simp [hl] at this
      omega
    subst hi2
    rw [List.getElem?_append_right (by omega), hl, Nat.sub_self, List.getElem?_cons_zero] at hx
    obtain rfl := Option.some.inj hx
    rcases hb with ⟨h0, hb⟩ | hb | ⟨hb, _⟩
    · rw [List.getElem?_append_left (by omega), whsN_at, List.getElem?_eq_getElem (by omega)] at hb
      exact hb _ rfl (by show a + P.length = a + (P.length - 1) + 1; omega)
    · refine hb ?_
      dsimp only
      rw [h.sy_le, splD_all (oks_take h.okR y)]
    · simp [hl] at hb
theorem recL_whsN : ∀ (a : Nat) (P : List (List Bs)), Oks P.flatten → recL (whsN a P) = P.flatten
  | _, [], _ => rfl
  | a, R :: r, h => by
    rw [List.flatten_cons] at h
    have h1 : Oks R := fun z hz => h z (List.mem_append_left _ hz)
    have h2 : Oks r.flatten := fun z hz => h z (List.mem_append_right _ hz)
    have h3 := recL_whsN (a + 1) r h2
    unfold recL at h3 ⊢
    rw [whsN, List.flatMap_cons, h3, List.flatten_cons]
    show (splD (frsL R)).1 ++ _ = _
    rw [splD_all h1]
theorem Lg.recs (h : Lg D a P R t y) : recL (segL D.fs) = P.flatten ++ R := by
  rw [h.seg, recL_snoc, recL_whsN a P h.ok]
  show _ ++ (splD (frsL R ++ t)).1 = _
  rw [(splD_tor h.okR h.tor).1]
theorem Lg.ends (h : Lg D a P R t y) : endL (segL D.fs) = (frsL R).length := by
  rw [h.seg, endL_snoc]
  exact (splD_tor h.okR h.tor).2
theorem Lg.find (h : Lg D a P R t y) : findF (sname (a + P.length)) D.fs = some (lastF (a + P.length) R t y) :=
  find_of h.rise (f := lastF (a + P.length) R t y) (by rw [h.fs]; exact List.mem_append_right _ (List.mem_singleton.2 rfl))
theorem Lg.putl (h : Lg D a P R t y) (g : FilV) (hg : g.nm = sname (a + P.length)) : putF g D.fs = whs a P ++ [g] := by
  have hr := h.rise
  rw [h.fs] at hr ⊢
  exact put_mid (f := lastF (a + P.length) R t y) hg hr
theorem Lg.tot (h : Lg D a P R t y) : totF D.fs = (frsL P.flatten).length + (frsL R).length + t.length := by
  rw [h.fs, tot_app, tot_whs, tot_cons]
  show _ + ((frsL R ++ t).length + 0) = _
  rw [List.length_append]
  omega
end
end Go.Proofs.YtogfladmgbldcaaGreatDoor
namespace Go.Proofs.YtogfladmgbldcaaGreatDoor
def lastS (D : DskV) : Option (Nat × FilV) := (segL D.fs).getLast?
def lsyncD (D : DskV) : DskV × Nat := match lastS D with
  | none => (D, 0)
  | some x => syncD D x.2.nm
/-- What Open does to a log that is whole. -/
def lopenD (D : DskV) : DskV × Nat := match lastS D with
  | none => (D, 0)
  | some x => if (cutD D x.2.nm (endL (segL D.fs) : Int)).2 ≠ 0 then cutD D x.2.nm (endL (segL D.fs) : Int) else lsyncD (cutD D x.2.nm (endL (segL D.fs) : Int)).1
def laddD (D : DskV) (r : Bs) : DskV × Nat := if ¬ frOk r then (D, 6) else match lastS D with
  | none => appD D (sname 1) (frL r)
  | some x => if x.2.by_.length < 1024 then appD D x.2.nm (frL r) else if (lsyncD D).2 ≠ 0 then lsyncD D else if x.1 = 99999999 then ((lsyncD D).1, 7) else appD (lsyncD D).1 (sname (x.1 + 1)) (frL r)
def nextN (D : DskV) : Nat := match lastS D with
  | none => 1
  | some x => x.1 + 1
/-- Renew, up to the elder segments' removal. -/
def lnewD (D : DskV) (rs : List Bs) : DskV × Nat := if (lsyncD D).2 ≠ 0 then lsyncD D else if 99999999 < nextN D then ((lsyncD D).1, 7) else
  if (appD (lsyncD D).1 (sname (nextN D)) (frsL rs)).2 ≠ 0 then appD (lsyncD D).1 (sname (nextN D)) (frsL rs) else lsyncD (appD (lsyncD D).1 (sname (nextN D)) (frsL rs)).1
section
variable {D : DskV} {a : Nat} {P : List (List Bs)} {R : List Bs} {t : Bs} {y : Nat}
theorem Lg.last (h : Lg D a P R t y) : lastS D = some (a + P.length, lastF (a + P.length) R t y) := by
  unfold lastS
  rw [h.seg, List.getLast?_append]
  rfl
theorem Lg0.last (h : Lg0 D) : lastS D = none := by
  unfold lastS
  rw [h.fs]
  rfl
/-- The last file is another one. -/
theorem Lg.set (h : Lg D a P R t y) {D' : DskV} {R' : List Bs} {t' : Bs} {y' : Nat} (hf : D'.fs = putF (lastF (a + P.length) R' t' y') D.fs) (hR : Oks R') (hy : y' ≤ R'.length) (ht : Tor t')
    (hr : D'.room + (frsL R').length + t'.length = D.room + (frsL R).length + t.length) : Lg D' a P R' t' y' := by
  have h1 := h.putl (lastF (a + P.length) R' t' y') rfl
  have h2 := h.tot
  have h3 := h.sum
  refine ⟨hf.trans h1, h.ok, hR, h.num, hy, ht, ?_⟩
  have h4 : totF D'.fs = (frsL P.flatten).length + (frsL R').length + t'.length := by
    rw [hf, h1, tot_app, tot_whs, tot_cons]
    show _ + ((frsL R' ++ t').length + 0) = _
    rw [List.length_append]
    omega
  omega
theorem Lg.same (h : Lg D a P R t y) {D' : DskV} (hf : D'.fs = D.fs) (hr : D'.room = D.room) : Lg D' a P R t y := ⟨hf.trans h.fs, h.ok, h.okR, h.num, h.yR, h.tor, by rw [hf, hr]; exact h.sum⟩
theorem lg_sync1 (h : Lg D a P R [] y) (hd : D.dead = false) : ∃ D', syncD D (sname (a + P.length)) = (D', 0) ∧ Lg D' a P R [] R.length ∧ D'.dead = false ∧ D'.fuse = D.fuse := by
  refine ⟨{ D with fs := putF (lastF (a + P.length) R [] R.length) D.fs }, ?_, h.set rfl h.okR (Nat.le_refl _) tor_nil rfl, hd, rfl⟩
  unfold syncD
  rw [with_some hd h.find]
  congr 3
  unfold lastF
  dsimp only
  rw [List.append_nil, List.take_length]
theorem lg_sync (h : Lg D a P R [] y) (hd : D.dead = false) : ∃ D', lsyncD D = (D', 0) ∧ Lg D' a P R [] R.length ∧ D'.dead = false ∧ D'.fuse = D.fuse := by
  obtain ⟨D', h1, h2⟩ := lg_sync1 h hd
  refine ⟨D', ?_, h2⟩
  unfold lsyncD
  rw [h.last]
  exact h1
theorem lg_open (h : Lg D a P R t y) (hd : D.dead = false) : ∃ D', lopenD D = (D', 0) ∧ Lg D' a P R [] R.length ∧ D'.dead = false ∧ D'.fuse = D.fuse := by
  have hy : (frsL (R.take y)).length ≤ (frsL R).length := (frsL_take R y).length_le
  have hb : (lastF (a + P.length) R t y).by_.length = (frsL R).length + t.length := by unfold lastF; rw [List.length_append]
  have hc : cutD D (sname (a + P.length)) (((frsL R).length : Nat) : Int) = ({ D with fs := putF (lastF (a + P.length) R [] y) D.fs, room := D.room + t.length }, 0) := by
    unfold cutD
    rw [with_some hd h.find]
    rw [if_neg (by rw [hb]; show ¬ (_ < (((frsL (R.take y)).length : Nat) : Int) ∨ _); omega), hb, Int.toNat_natCast, Nat.add_sub_cancel_left]
    congr 3
    unfold lastF
    rw [List.take_left, List.append_nil]
  have h2 : Lg ({ D with fs := putF (lastF (a + P.length) R [] y) D.fs, room := D.room + t.length } : DskV) a P R [] y := h.set rfl h.okR h.yR tor_nil (by show D.room + t.length + _ + 0 = _; omega)
  obtain ⟨D', h3, h4, h5, h6⟩ := lg_sync h2 hd
  refine ⟨D', ?_, h4, h5, h6⟩
  unfold lopenD
  rw [h.last]
  dsimp only
  rw [h.ends, show (lastF (a + P.length) R t y).nm = sname (a + P.length) from rfl, hc, if_neg (by simp)]
  exact h3
theorem lg0_open (h : Lg0 D) : lopenD D = (D, 0) := by unfold lopenD; rw [h.last]
theorem frsL_one (r : Bs) : frsL [r] = frL r := by simp [frsL]
theorem Lg.all_lt (h : Lg D a P R t y) : ∀ g ∈ D.fs, g.nm < sname (a + P.length + 1) := fun g hg => by
  have hn := h.num
  rw [h.fs] at hg
  rcases List.mem_append.1 hg with q | q
  · obtain ⟨k, Q, h1, _, rfl⟩ := whs_mem _ _ _ q
    exact sname_lt' (by omega) (by omega)
  · rw [List.mem_singleton.1 q]
    exact sname_lt' (Nat.lt_succ_self _) (by omega)
theorem none_of_lt {nm : Bs} {l : List FilV} (h : ∀ g ∈ l, g.nm < nm) : findF nm l = none := by
  unfold findF
  rw [List.find?_eq_none]
  intro g hg e
  have h1 := h g hg
  have e : g.nm = nm := by simpa using e
  rw [e] at h1
  exact List.lt_irrefl _ h1
/-- How many bytes go behind the fuse. -/
theorem app_cases (hd : D.dead = false) {nm s : Bs} (hn : 1 ≤ nm.length ∧ nm.length ≤ 24) (hr : s.length ≤ D.room) (hl : (findF nm D.fs).isNone = true → D.fs.length < 1000) :
    (∃ o, appD D nm s = ({ D.more ((findF nm D.fs).getD ⟨nm, [], 0⟩) s with fuse := o }, 0) ∧ (D.fuse = none → o = none)) ∨
    (∃ k, D.fuse = some k ∧ k < s.length ∧ appD D nm s = ({ D.more ((findF nm D.fs).getD ⟨nm, [], 0⟩) (s.take k) with fuse := none, dead := true }, 9)) := by
  unfold appD
  rw [if_neg (by rw [hd]; simp), if_neg (by omega), if_neg (by rintro (q | ⟨q1, q2⟩); · omega
                                                               · have := hl q1; omega)]
  cases hf : D.fuse with
  | none => exact .inl ⟨none, by unfold DskV.more; rw [hf], fun _ => rfl⟩
  | some k =>
    dsimp only
    by_cases hk : k < s.length
    · exact .inr ⟨k, rfl, hk, by rw [if_pos hk]⟩
    · exact .inl ⟨_, by rw [if_neg hk], fun q => by cases q⟩
theorem Lg.flen (h : Lg D a P R t y) : D.fs.length ≤ 200 := by
  have hn := h.num
  rw [h.fs, List.length_append, whs_len]
  simp
  omega
/-- A new segment, that holds some records, or a beginning of them. -/
theorem torn_cut : ∀ (l : List Bs), Oks l → ∀ k, k ≤ (frsL l).length → ∃ j t, j ≤ l.length ∧ (frsL l).take k = frsL (l.take j) ++ t ∧ Tor t ∧ ∀ y, y ≤ l.length → (frsL (l.take y)).length ≤ k → y ≤ j
  | [], _, k, _ => ⟨0, [], Nat.le_refl _, by simp [frsL], tor_nil, fun y hy _ => hy⟩
  | x :: l, h, k, hk => by
    have hx := h x (List.mem_cons_self ..)
    have hfx := frL_len x
    rw [frsL_cons, List.length_append] at hk
    by_cases hkx : k < (frL x).length
    · refine ⟨0, (frL x).take k, Nat.zero_le _, ?_, tor_pre hx (List.take_prefix _ _) (by rw [List.length_take]; omega), fun y hy hl => ?_⟩
      · rw [frsL_cons, List.take_append_of_le_length (by omega)]
        rfl
      · cases y with
        | zero => exact Nat.le_refl _
        | succ y =>
          rw [List.take_succ_cons, frsL_cons, List.length_append] at hl
          omega
    · obtain ⟨j, t, h1, h2, h3, h4⟩ := torn_cut l (fun z hz => h z (List.mem_cons_of_mem _ hz)) (k - (frL x).length) (by omega)
      refine ⟨j + 1, t, by rw [List.length_cons]; omega, ?_, h3, fun y hy hl => ?_⟩
      · rw [frsL_cons, List.take_append, List.take_of_length_le (by omega), h2, List.take_succ_cons, frsL_cons, List.append_assoc]
      · cases y with
        | zero => exact Nat.zero_le _
        | succ y =>
          rw [List.take_succ_cons, frsL_cons, List.length_append] at hl
          have := h4 y (by rw [List.length_cons] at hy; omega) (by omega)
          omega
/-- A file behind all others. -/
theorem Lg.more (h : Lg D a P R [] R.length) (hq : a + P.length + 1 ≤ 200) {D' : DskV} {R' : List Bs} {t' : Bs} {y' : Nat} (hf : D'.fs = putF (lastF (a + P.length + 1) R' t' y') D.fs) (hR : Oks R') (hy : y' ≤ R'.length) (ht : Tor t')
    (hr : D'.room + (frsL R').length + t'.length = D.room) : Lg D' a (P ++ [R]) R' t' y' := by
  have h1 : putF (lastF (a + P.length + 1) R' t' y') D.fs = whs a (P ++ [R]) ++ [lastF (a + (P ++ [R]).length) R' t' y'] := by
    rw [put_end (f := lastF (a + P.length + 1) R' t' y') h.all_lt, h.fs, lastF_whole, ← whs_snoc, List.length_append, List.length_singleton, Nat.add_assoc]
  have h3 := h.sum
  have h2 := h.tot
  refine ⟨hf.trans h1, ?_, hR, ?_, hy, ht, ?_⟩
  · rw [List.flatten_append, List.flatten_singleton]
    intro x hx
    rcases List.mem_append.1 hx with q | q
    · exact h.ok x q
    · exact h.okR x q
  · rw [List.length_append, List.length_singleton]
    exact ⟨h.num.1, by omega⟩
  · rw [hf, h1, tot_app, tot_whs, tot_cons, List.flatten_append, List.flatten_singleton, frsL_app, List.length_append]
    show D'.room + (_ + _ + ((frsL R' ++ t').length + 0)) = _
    rw [List.length_append]
    simp at h2
    omega
/-- A first file. -/
theorem Lg0.more (h : Lg0 D) {D' : DskV} {n : Nat} (hn : 1 ≤ n ∧ n ≤ 200) {R' : List Bs} {t' : Bs} {y' : Nat} (hf : D'.fs = putF (lastF n R' t' y') D.fs) (hR : Oks R') (hy : y' ≤ R'.length) (ht : Tor t')
    (hr : D'.room + (frsL R').length + t'.length = D.room) : Lg D' n [] R' t' y' := by
  rw [h.fs] at hf
  have h3 := h.room
  refine ⟨hf, fun x hx => (by cases hx), hR, hn, hy, ht, ?_⟩
  rw [hf]
  show D'.room + totF [_] = _
  rw [tot_cons]
  show D'.room + ((frsL R' ++ t').length + 0) = _
  rw [List.length_append]
  omega
/-- A new segment is written. -/
theorem lg_new (h : Lg D a P R [] R.length) (hq : a + P.length + 1 ≤ 200) (hd : D.dead = false) {rs : List Bs} (hr : Oks rs) (hroom : (frsL rs).length ≤ D.room) :
    (∃ D', appD D (sname (a + P.length + 1)) (frsL rs) = (D', 0) ∧ Lg D' a (P ++ [R]) rs [] 0 ∧ D'.dead = false ∧ (D.fuse = none → D'.fuse = none)) ∨
    (∃ D' j t, appD D (sname (a + P.length + 1)) (frsL rs) = (D', 9) ∧ j ≤ rs.length ∧ Lg D' a (P ++ [R]) (rs.take j) t 0 ∧ D'.dead = true ∧ D'.fuse = none ∧ D.fuse ≠ none) := by
  have hnone := none_of_lt h.all_lt
  have hl := sname_len (n := a + P.length + 1) (by omega) (by omega)
  have hfl := h.flen
  rcases app_cases hd (nm := sname (a + P.length + 1)) (s := frsL rs) (by omega) hroom (fun _ => by omega) with ⟨o, h1, h2⟩ | ⟨k, h0, h1, h2⟩
  · refine .inl ⟨_, h1, ?_, hd, h2⟩
    refine h.more hq (R' := rs) (t' := []) (y' := 0) ?_ hr (Nat.zero_le _) tor_nil (by show D.room - (frsL rs).length + _ + 0 = _; omega)
    rw [hnone]
    show putF ⟨sname (a + P.length + 1), [] ++ frsL rs, 0⟩ D.fs = _
    unfold lastF
    rw [List.nil_append, List.append_nil]
    rfl
  · obtain ⟨j, t, j1, j2, j3, _⟩ := torn_cut rs hr k (by omega)
    have hlen := congrArg List.length j2
    rw [List.length_take, List.length_append] at hlen
    refine .inr ⟨_, j, t, h2, j1, ?_, rfl, rfl, by rw [h0]; simp⟩
    refine h.more hq (R' := rs.take j) (t' := t) (y' := 0) ?_ (oks_take hr j) (Nat.zero_le _) j3 (by show D.room - ((frsL rs).take k).length + _ + _ = _; rw [List.length_take]; omega)
    rw [hnone]
    show putF ⟨sname (a + P.length + 1), [] ++ (frsL rs).take k, 0⟩ D.fs = _
    unfold lastF
    rw [List.nil_append, j2]
    rfl
theorem lg0_new (h : Lg0 D) (hd : D.dead = false) {rs : List Bs} (hr : Oks rs) (hroom : (frsL rs).length ≤ D.room) :
    (∃ D', appD D (sname 1) (frsL rs) = (D', 0) ∧ Lg D' 1 [] rs [] 0 ∧ D'.dead = false ∧ (D.fuse = none → D'.fuse = none)) ∨
    (∃ D' j t, appD D (sname 1) (frsL rs) = (D', 9) ∧ j ≤ rs.length ∧ Lg D' 1 [] (rs.take j) t 0 ∧ D'.dead = true ∧ D'.fuse = none ∧ D.fuse ≠ none) := by
  have hnone : findF (sname 1) D.fs = none := by rw [h.fs]; rfl
  have hl := sname_len (n := 1) (by omega) (by omega)
  rcases app_cases hd (nm := sname 1) (s := frsL rs) (by omega) hroom (fun _ => by rw [h.fs]; decide) with ⟨o, h1, h2⟩ | ⟨k, h0, h1, h2⟩
  · refine .inl ⟨_, h1, ?_, hd, h2⟩
    refine h.more (n := 1) (by decide) (R' := rs) (t' := []) (y' := 0) ?_ hr (Nat.zero_le _) tor_nil (by show D.room - (frsL rs).length + _ + 0 = _; omega)
    rw [hnone]
    show putF ⟨sname 1, [] ++ frsL rs, 0⟩ D.fs = _
    unfold lastF
    rw [List.nil_append, List.append_nil]
    rfl
  · obtain ⟨j, t, j1, j2, j3, _⟩ := torn_cut rs hr k (by omega)
    have hlen := congrArg List.length j2
    rw [List.length_take, List.length_append] at hlen
    refine .inr ⟨_, j, t, h2, j1, ?_, rfl, rfl, by rw [h0]; simp⟩
    refine h.more (n := 1) (by decide) (R' := rs.take j) (t' := t) (y' := 0) ?_ (oks_take hr j) (Nat.zero_le _) j3 (by show D.room - ((frsL rs).take k).length + _ + _ = _; rw [List.length_take]; omega)
    rw [hnone]
    show putF ⟨sname 1, [] ++ (frsL rs).take k, 0⟩ D.fs = _
    unfold lastF
    rw [List.nil_append, j2]
    rfl
end
end Go.Proofs.YtogfladmgbldcaaGreatDoor
namespace Go.Proofs.YtogfladmgbldcaaGreatDoor
/-- A disk that holds the records X, of which s at least are synced, in c + 1 segments at most, and torn bytes. -/
def LgT (D : DskV) (X : List Bs) (s c : Nat) : Prop := (Lg0 D ∧ X = [] ∧ s = 0) ∨ ∃ a P R t y, Lg D a P R t y ∧ X = P.flatten ++ R ∧ s = P.flatten.length + y ∧ a + P.length ≤ c + 1
section
variable {D : DskV} {X : List Bs} {s c : Nat}
theorem LgT.le (h : LgT D X s c) : s ≤ X.length := by
  rcases h with ⟨_, rfl, rfl⟩ | ⟨a, P, R, t, y, h1, rfl, rfl, _⟩
  · exact Nat.le_refl _
  · rw [List.length_append]; have := h1.yR; omega
theorem LgT.wide (h : LgT D X s c) {c' : Nat} (hc : c ≤ c') : LgT D X s c' := by
  rcases h with h | ⟨a, P, R, t, y, h1, h2, h3, h4⟩
  · exact .inl h
  · exact .inr ⟨a, P, R, t, y, h1, h2, h3, by omega⟩
theorem LgT.same (h : LgT D X s c) {D' : DskV} (hf : D'.fs = D.fs) (hr : D'.room = D.room) : LgT D' X s c := by
  rcases h with ⟨h1, h2⟩ | ⟨a, P, R, t, y, h1, h2⟩
  · exact .inl ⟨⟨hf.trans h1.fs, hr.trans h1.room⟩, h2⟩
  · exact .inr ⟨a, P, R, t, y, h1.same hf hr, h2⟩
theorem LgT.good (h : LgT D X s c) : ¬ Spoilt (segL D.fs) ∧ recL (segL D.fs) = X := by
  rcases h with ⟨h1, rfl, rfl⟩ | ⟨a, P, R, t, y, h1, rfl, rfl, _⟩
  · rw [h1.fs]
    refine ⟨?_, rfl⟩
    rintro ⟨i, x, hx, _⟩
    simp [segL] at hx
  · exact ⟨h1.good, h1.recs⟩
end
end Go.Proofs.YtogfladmgbldcaaGreatDoor
namespace Go.Proofs.YtogfladmgbldcaaGreatDoor
open Go.RowKit Go.Shelf
/-- A disk, all of whose blocks lie at N or behind. -/
def Dk (N p bb : Nat) (D : DskV) (w : World) : Prop := ∃ n C L, DskAt w p bb n C L D ∧ ∀ g ∈ L, N ≤ g ∧ g < w.heap.size
theorem Dk.below {N p bb : Nat} {D : DskV} {w w' : World} (h : Dk N p bb D w) (hb : Below w.heap.size w w') : Dk N p bb D w' := by
  obtain ⟨n, C, L, h1, h2⟩ := h
  exact ⟨n, C, L, h1.keep (fun g hg => hb.block g (h2 g hg).2), fun g hg => ⟨(h2 g hg).1, Nat.lt_of_lt_of_le (h2 g hg).2 hb.size⟩⟩
theorem new_dk (N : Nat) (w : World) (hN : N ≤ w.heap.size) : Calls Tryz.prog 16 #[] w fun e w' => ∃ p bb, e = .returned (.pointer (some ⟨p, 0, none⟩)) ∧ Dk N p bb dsk0 w' ∧ Below N w w' := by
  refine (new_any w).mono ?_
  rintro e w' ⟨C, L, rfl, hd, hb, hl⟩
  obtain ⟨L2, hd2, h2⟩ := hd.trim
  exact ⟨_, _, rfl, ⟨_, C, L2, hd2, fun g hg => ⟨Nat.le_trans hN (hl g (h2 g hg).1), (h2 g hg).2⟩⟩, hb.mono hN⟩
theorem turns_below {N : Nat} {L : List Nat} {w w' : World} (h : Turns L w w') (hN : N ≤ w.heap.size) (hL : ∀ g ∈ L, N ≤ g) : Below N w w' := h.below (Below.refl _ _) hN hL
theorem files_dk {N p bb : Nat} {D : DskV} {w : World} (hlen : D.fs.length ≤ 1000000) (h : Dk N p bb D w) :
    Calls Tryz.prog 19 #[.pointer (some ⟨p, 0, none⟩)] w fun e w' => ∃ v, e = .returned v ∧ w'.ownsRow w.heap.size 35 3 v D.fs.length (flat filE D.fs) ∧ Below w.heap.size w w' := by
  obtain ⟨n, C, L, h1, h2⟩ := h
  exact callsIn_wide.1 (files_in p bb n C L D hlen w h1)
/-- A row of one file. -/
theorem one_file {w : World} {base : Nat} {v : Value} {l : List FilV} {f : FilV} (hl : l = [f]) (h : w.ownsRow base 35 3 v l.length (flat filE l)) : ∃ g c, v = .slice (some ⟨g, 0, none⟩) 1 c ∧ base ≤ g ∧ ∀ y, Below w.heap.size w y → y.cell? ⟨g, 0, none⟩ = some (.string ⟨f.nm.toArray⟩) ∧ y.cell? ⟨g, 1, none⟩ = some (.string ⟨f.by_.toArray⟩) ∧ y.cell? ⟨g, 2, none⟩ = some (.int .i64 (f.sy : Int)) := by
  subst hl
  obtain ⟨A, c, hv, Y, hY, h1⟩ := files_row (N := 1) rfl h
  obtain ⟨g, rfl, h2⟩ := h1 0 f rfl
  refine ⟨g, c, hv, ?_, fun y hy => ?_⟩
  · subst hv
    exact (own_at h rfl).1
  · have h3 := h2 y (fun r o hr ho => (hy.block r (hY r hr).2).trans ho)
    simpa using h3
end Go.Proofs.YtogfladmgbldcaaGreatDoor
namespace Go.Proofs.YtogfladmgbldcaaGreatDoor
def nmsL (D : DskV) : List Bs := (segL D.fs).map (fun x => x.2.nm)
/-- May the elder segments be removed? -/
structure RemOk (D : DskV) (l : List Bs) : Prop where
  dead : D.dead = false
  nd : l.Nodup
  mem : ∀ nm ∈ l, ∃ f ∈ D.fs, f.nm = nm
theorem rems_sum (l : List Bs) : ∀ (D : DskV), Rise D.fs → D.dead = false → l.Nodup → (∀ nm ∈ l, ∃ f ∈ D.fs, f.nm = nm) → (rems D l).room + totF (rems D l).fs = D.room + totF D.fs := by
  induction l with
  | nil => intro D _ _ _ _; rfl
  | cons nm l ih =>
    intro D hr hd hn hm
    obtain ⟨hn1, hn2⟩ := List.nodup_cons.1 hn
    obtain ⟨f, hf, rfl⟩ := hm nm (List.mem_cons_self ..)
    have hg := find_of hr hf
    have ht := del_tot hr hg
    rw [rems_cons, rem_one hd hg]
    rw [ih { D with fs := delF f.nm D.fs, room := D.room + f.by_.length } (del_rise hr) hd hn2 (fun q hq => by
      obtain ⟨x, hx, rfl⟩ := hm q (List.mem_cons_of_mem _ hq)
      exact ⟨x, List.mem_filter.2 ⟨hx, by simpa using fun e => hn1 (by rw [← e]; exact hq)⟩, rfl⟩)]
    show D.room + f.by_.length + totF (delF f.nm D.fs) = _
    omega
theorem whsN_nms : ∀ (a : Nat) (P : List (List Bs)), (whsN a P).map (fun x => x.2.nm) = (whs a P).map (fun f => f.nm)
  | _, [] => rfl
  | a, R :: r => by rw [whsN, whs, List.map_cons, List.map_cons, whsN_nms]
theorem Lg.nms {D : DskV} {a : Nat} {P : List (List Bs)} {R : List Bs} {t : Bs} {y : Nat} (h : Lg D a P R t y) : nmsL D = (whs a (P ++ [R])).map (fun f => f.nm) := by
  unfold nmsL
  rw [h.seg, List.map_append, whsN_nms, whs_snoc, List.map_append]
  rfl
theorem nms_nd {l : List FilV} (h : Rise l) : (l.map (fun f => f.nm)).Nodup := List.pairwise_map.2 (List.Pairwise.imp (R := fun f g : FilV => f.nm < g.nm) (fun {a b} (hab : a.nm < b.nm) (e : a.nm = b.nm) => by rw [e] at hab; exact List.lt_irrefl _ hab) h)
theorem lg_rem {D : DskV} {a n : Nat} {P : List (List Bs)} {R : List Bs} {y : Nat} (h : Lg D a P R [] y) (hd : D.dead = false) (hn : n = a + P.length) :
    RemOk D ((whs a P).map (fun f => f.nm)) ∧ Lg (rems D ((whs a P).map (fun f => f.nm))) n [] R [] y ∧ (rems D ((whs a P).map (fun f => f.nm))).dead = false ∧ (rems D ((whs a P).map (fun f => f.nm))).fuse = D.fuse := by
  subst hn
  have hnum := h.num
  have hrw : Rise (whs a P) := whs_rise a P (by omega)
  have hm : ∀ nm ∈ (whs a P).map (fun f => f.nm), ∃ f ∈ D.fs, f.nm = nm := fun nm hnm => by
    obtain ⟨f, hf, rfl⟩ := List.mem_map.1 hnm
    exact ⟨f, by rw [h.fs]; exact List.mem_append_left _ hf, rfl⟩
  obtain ⟨r1, r2, r3⟩ := rems_spec _ D hd (nms_nd hrw) hm
  have r4 := rems_sum _ D h.rise hd (nms_nd hrw) hm
  refine ⟨⟨hd, nms_nd hrw, hm⟩, ⟨?_, fun x hx => (by cases hx), h.okR, ⟨by omega, by simp; omega⟩, h.yR, h.tor, by rw [r4]; exact h.sum⟩, r1, r2⟩
  rw [r3, h.fs, List.filter_append]
  have e1 : (whs a P).filter (fun f => decide (f.nm ∉ (whs a P).map (fun f => f.nm))) = [] := by
    rw [List.filter_eq_nil_iff]
    intro f hf
    simpa using ⟨f, hf, rfl⟩
  rw [e1, List.nil_append, List.filter_cons_of_pos]
  · rfl
  · simp only [decide_eq_true_eq]
    intro hq
    obtain ⟨f, hf, he⟩ := List.mem_map.1 hq
    obtain ⟨k, Q, k1, _, rfl⟩ := whs_mem _ _ _ hf
    have h3 : sname (a + k) < sname (a + P.length) := sname_lt' (by omega) (by omega)
    have h4 : sname (a + k) = sname (a + P.length) := he
    rw [h4] at h3
    exact List.lt_irrefl _ h3
end Go.Proofs.YtogfladmgbldcaaGreatDoor
