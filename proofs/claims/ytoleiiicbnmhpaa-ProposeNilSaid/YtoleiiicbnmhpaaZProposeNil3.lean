/- The open slots of a desk that has one at most: All. Condition: the desk lies there. -/
import Derived.Test.YtoleiiicbnmhpaaZProposeNil2
import Derived.ChangeArms
import Derived.Deep.Slices
import Derived.Deep.Fields
import Derived.WideShapes
namespace Go.Proofs.Ytoleiiicbnmhpaa
open Go.RowKit Go.Maps Go.Shelf
def encO (q : Nat × OpR) : List Value := opCells q.1 q.2
theorem infoOp : (Try.prog.info? 63).map (fun i => (i.zero, i.size, i.bytes)) = some (some (opV 0 op0), 4, 32) := by kernel_rfl
theorem op_new (w : World) (s : Nat) (r : OpR) : SliceAt 4 encO (w.alloc (.cells (opCells s r).toArray 63)) (some ⟨w.heap.size, 0, none⟩) 1 [(s, r)] := by
  refine ⟨rfl, by decide, fun i x hx => ?_⟩
  cases i with
  | zero =>
    simp at hx
    subst hx
    refine ⟨w.heap.size, 0, rfl, by simp, fun j v hj => ?_⟩
    have h := range_row (heap_alloc_new w (.cells (opCells s r).toArray 63)) j v hj
    rw [Nat.zero_mul, Nat.zero_add]
    exact h
  | succ i => simp at hx
/-- What All tells of a desk with one open slot at most. -/
def AllPost (Dm : Nat → Option OpR) (w : World) (e : Ending) (w' : World) : Prop := ∃ A m c, e = .returned (.slice A m c) ∧ Below w.heap.size w w' ∧ ((m = 0 ∧ ∀ s, s < 18446744073709551616 → Dm s = none) ∨ (m = 1 ∧ ∃ s r B o, Dm s = some r ∧ A = some ⟨B, o, none⟩ ∧ (w.heap.size ≤ B ∧ B < w'.heap.size) ∧ w'.rangeAt B o (opCells s r)))
theorem all_nil (w : World) : Calls Try.prog 16 #[.pointer none] w fun e w' => e = .returned (.slice none 0 0) ∧ Below w.heap.size w w' := by
  go_enter Try.func16, Try.ntmps16
  go_wp2_with fail
  go_ret
  exact ⟨rfl, Below.refl _ _⟩
theorem mpOf_some {Dm : Nat → Option OpR} {x : Int} (h : (mpOf Dm (.int .u64 x)).isSome = true) : ∃ (s : Nat) (r : OpR), x = (s : Int) ∧ Dm s = some r := by
  unfold mpOf at h
  simp only at h
  split at h
  · next h0 =>
    cases hd : Dm x.toNat with
    | none => rw [hd] at h; cases h
    | some r => exact ⟨x.toNat, r, by omega, hd⟩
  · cases h
set_option maxRecDepth 100000 in
set_option maxHeartbeats 4000000 in
theorem all1_any (p g n last : Nat) (Dm : Nat → Option OpR) (h1 : ∀ a b r q, Dm a = some r → Dm b = some q → a = b) (hn : n ≤ 100000) (hr64 : ∀ s r, Dm s = some r → s < 18446744073709551616) (w : World) (h : DeskAt w p g n Dm last) :
    Calls Try.prog 16 #[.pointer (some ⟨p, 0, none⟩)] w (AllPost Dm w) := by
  obtain ⟨c0, c1⟩ := h.cells
  clear c1
  obtain ⟨D, hown, hM⟩ := h.mp
  have hsz : Maps.size D ≤ 1000000 := by have := hown.size_le; omega
  have huniq : ∀ x y : Int, Maps.has D (.int .u64 x) = true → Maps.has D (.int .u64 y) = true → x = y := fun x y hx hy => by
    rw [(hM (.int .u64 x) trivial).1] at hx
    rw [(hM (.int .u64 y) trivial).1] at hy
    obtain ⟨a, r, rfl, ha⟩ := mpOf_some hx
    obtain ⟨b, q, rfl, hb⟩ := mpOf_some hy
    rw [h1 a b r q ha hb]
  have hk := callsIn_wide.1 (keys_in 5 (some g) w)
  have hb1 := (Below.refl w.heap.size w).alloc (Nat.le_refl _) (.cells #[.map (some g)] 65)
  have hs := sorted1_any w.heap.size g n D hsz huniq (w.alloc (.cells #[.map (some g)] 65)) (by simp) (cell_of_row _ _ _ _ _ _ (heap_alloc_new _ _)) (hown.alloc _)
  have Hk := Lib.hid hk
  have Hs := Lib.hid hs
  have Hb1 := Lib.hid hb1
  have H := Lib.hid h
  have HM := Lib.hid hM
  have HU := Lib.hid huniq
  have hR := Lib.hid hr64
  clear hr64
  clear hk hs hb1 h hM hown huniq hsz
  go_enter Try.func16, Try.ntmps16
  go_upto_region 5 with (first
    | ((with_reducible refine Hk.out.mono ?_); rintro e w1 ⟨rfl, rfl⟩)
    | ((with_reducible refine Hs.out.mono ?_); rintro e w2 ⟨v, ss, rfl, k1, k2, k3, k4⟩; have H2 := Lib.hid (And.intro k1 (And.intro k2 (And.intro k3 k4))); clear k1 k2 k3 k4; obtain ⟨A, c, rfl⟩ : ∃ A c, v = .slice A ss.length c := (by
        rcases H2.out.2.1.2 with ⟨rfl, h0⟩ | ⟨g', cap, cur, rfl, _⟩
        · rw [h0]; exact ⟨none, 0, rfl⟩
        · exact ⟨_, _, rfl⟩)))
  have hb2 : Below w.heap.size w w2 := Hb1.out.trans (H2.out.2.2.2.mono Hb1.out.size)
  have Hd2 := Lib.hid (H.out.below hb2)
  have Hb2 := Lib.hid hb2
  have hss := came_len H2.out.1 HU.out
  clear hb2 Hk Hs Hb1 c0
  match ss, hss, H2 with
  | [], _, H2 =>
    have hno : ∀ s, s < 18446744073709551616 → Dm s = none := fun s hs => by
      cases hd : Dm s with
      | none => rfl
      | some r =>
        have hh : Maps.has D (.int .u64 (s : Int)) = true := by
          rw [(HM.out (.int .u64 (s : Int)) trivial).1]
          have := mpOf_at Dm s
          unfold ku at this
          rw [this, hd]
          rfl
        have := (H2.out.1.2 (s : Int)).2 ⟨hh, rfl⟩
        simp at this
    have Hno := Lib.hid hno
    clear hno
    go_loopw [3, 15] (fun s3 s15 wr => w2 = wr ∧ s3 = .slice none 0 0 ∧ s15 = .int .i64 0) (fun _ _ _ => 0)
    case atStart => exact ⟨rfl, rfl, rfl⟩
    case round =>
      obtain ⟨rfl, rfl, rfl⟩ := hrel
      go_wp2_with fail
      go_ret
      exact ⟨none, 0, 0, rfl, Hb2.out, .inl ⟨rfl, Hno.out⟩⟩
  | [x], _, H2 =>
    have hx := ((H2.out.1.2 x).1 (by simp)).1
    rw [(HM.out (.int .u64 x) trivial).1] at hx
    obtain ⟨s, r, rfl, hD⟩ := mpOf_some hx
    obtain ⟨i0, hi0, hz0, hs0, hb0⟩ := info_parts infoOp
    have Hi0 := Lib.hid (And.intro hi0 (And.intro hz0 (And.intro hs0 hb0)))
    obtain ⟨gk, rfl, hgk⟩ : ∃ gk, A = some ⟨gk, 0, none⟩ ∧ w2.cell? ⟨gk, 0, none⟩ = some (.int .u64 (s : Int)) := by
      rcases H2.out.2.1.2 with ⟨_, h0⟩ | ⟨gk, cap, cur, e, _, hg, _, _, _, ht⟩
      · cases h0
      · cases e
        refine ⟨gk, rfl, ?_⟩
        simp only [World.cell?, hg]
        have : cur.toList[0]? = some (u64v (s : Int)) := by
          have h0 : (cur.toList.take (([(s : Int)] : List Int).length * 1))[0]? = some (u64v (s : Int)) := by rw [ht]; rfl
          rw [List.getElem?_take] at h0
          simpa using h0
        simpa using this
    have hgl : gk < w2.heap.size := World.block_lt_of_cell? _ _ hgk
    have Hgk := Lib.hid (And.intro hgl hgk)
    have HD := Lib.hid hD
    have hlt : s < 18446744073709551616 := hR.out s r hD
    have hk := key_ku hlt
    have hMo : mpOf Dm (ku s) = some (.agg #[.int .u64 (s : Int), .string r.x, .int .u8 (r.c : Int), .int .u8 (r.who : Int)]) := by rw [mpOf_at, hD]; rfl
    clear hx hD hgk hgl hi0 hz0 hs0 hb0
    go_loopw [3, 15] (fun s3 s15 wr => Below w2.heap.size w2 wr ∧ ((s3 = .slice none 0 0 ∧ s15 = .int .i64 0) ∨ (s15 = .int .i64 1 ∧ ∃ B o c, s3 = .slice (some ⟨B, o, none⟩) 1 c ∧ (w.heap.size ≤ B ∧ B < wr.heap.size) ∧ wr.rangeAt B o (opCells s r)))) (fun _ s15 _ => 1 - (intOf s15).toNat)
    case atStart => exact ⟨Below.refl _ _, .inl ⟨rfl, rfl⟩⟩
    case round =>
      obtain ⟨hb, ⟨rfl, rfl⟩ | ⟨rfl, B, o, c3, rfl, hB, hr⟩⟩ := hrel
      · have Hb := Lib.hid hb
        have hd3 := Hd2.out.below hb
        obtain ⟨c0, c1⟩ := hd3.cells
        have Hd3 := Lib.hid hd3
        have f0 := (hb.cell (p := ⟨gk, 0, none⟩) Hgk.out.1).trans Hgk.out.2
        have Hn3 := Lib.hid (op_new wr s r)
        clear hb hd3 c1
        go_wp2_with (first
          | (at_lookup; refine wpList_look_mp rfl _ _ 65 63 rfl lawU Try.underlying65 op_zero rfl Hd3.out.mp _ (ku s) rfl hk ?_)
          | (at_builtin; refine wpList_plain rfl (fun K hK => ?_); refine wp_append_slice (k := 4) (enc := encO) _ _ 42 rfl wr.heap.size 63 i0 _ 32 Try.underlying42 Hi0.out.1 Hi0.out.2.1 Hi0.out.2.2.1 Hi0.out.2.2.2 rfl (by omega) (fun _ => rfl) (fun q => op_one q.1 q.2) (.slice none 0 0) 0 [] rfl (World.ownsRow_nil _ _ _ _) (some ⟨wr.heap.size, 0, none⟩) 1 1 [(s, r)] rfl Hn3.out (fun e => by cases e) (by decide) (by decide) (by simp) ?_; intro v7 w7 ho7 hg7; have H7 := Lib.hid (And.intro ho7 hg7); clear ho7 hg7; refine hK _ _ ?_))
        have hg7 : (wr.alloc (.cells (opCells s r).toArray 63)).grownBy w7 none := H7.out.2
        have hb7 : Below w2.heap.size w2 w7 := (Hb.out.alloc Hb.out.size _).trans ⟨hg7.os, hg7.tape, hg7.output, hg7.size, fun q hq => hg7.block q (by have := Hb.out.size; simp; omega) (fun e => by cases e)⟩
        have ho7 := H7.out.1
        obtain ⟨A7, c7, rfl⟩ := own_slice_of ho7
        have hs7 : SliceAt 4 encO w7 A7 1 [(s, r)] := own_slice (fun _ => rfl) ho7 rfl (by decide)
        obtain ⟨B, o, rfl, hB, hr⟩ := hs7.cells 0 (s, r) rfl
        have hB2 : w.heap.size ≤ B := by
          rcases ho7.2 with ⟨e, _⟩ | ⟨g5, _, _, e, h5, _⟩
          · cases e
          · cases e
            have := Hb2.out.size
            have := Hb.out.size
            omega
        go_roundw
        case rel => exact ⟨_, _, _, _, _, _, _, _, _, _, _, _, _, _, _, _, ⟨hb7, .inr ⟨rfl, B, o, c7, rfl, ⟨hB2, hB⟩, fun j v hv => by have q := hr j v hv; rwa [Nat.zero_mul, Nat.zero_add] at q⟩⟩, rfl⟩
        case measure => simp [intOf]
      · go_wp2_with fail
        go_ret
        exact ⟨_, 1, c3, rfl, Hb2.out.trans (hb.mono Hb2.out.size), .inr ⟨rfl, s, r, B, o, HD.out, rfl, hB, hr⟩⟩
  | _ :: _ :: _, h, _ => simp at h
end Go.Proofs.Ytoleiiicbnmhpaa
namespace Go.Proofs.Ytoleiiicbnmhpaa
open Go.RowKit
open Go.Maps (Keyed)
/-- A desk with the slot 1 open. -/
def dk (r : OpR) : Nat → Option OpR := updD (fun _ => none) 1 (some r)
theorem dk_at (r : OpR) : dk r 1 = some r := by simp [dk, updD]
theorem dk_put (r q : OpR) : updD (dk r) 1 (some q) = dk q := by
  funext k
  simp only [dk, updD]
  split <;> rfl
theorem dk_del (r : OpR) : updD (dk r) 1 none = fun _ => none := by
  funext k
  simp only [dk, updD]
  split <;> rfl
theorem dk_only {r : OpR} (a b : Nat) (x y : OpR) (ha : dk r a = some x) (hb : dk r b = some y) : a = b := by
  simp only [dk, updD] at ha hb
  split at ha
  · split at hb
    · omega
    · cases hb
  · cases ha
theorem dk_low {r : OpR} (s : Nat) (x : OpR) (h : dk r s = some x) : s = 1 ∧ x = r := by
  simp only [dk, updD] at h
  split at h
  · next e => cases h; exact ⟨e, rfl⟩
  · cases h
/-- Between two steps. -/
structure WkI (w0 : World) (p g n : Nat) (Dm : Nat → Option OpR) (y : World) : Prop where
  d : DeskAt y p g n Dm 1
  bel : Below w0.heap.size w0 y
  pg : w0.heap.size ≤ p ∧ w0.heap.size ≤ g
theorem WkI.below {w0 y y' : World} {p g n : Nat} {Dm : Nat → Option OpR} (h : WkI w0 p g n Dm y) (hb : Below y.heap.size y y') : WkI w0 p g n Dm y' := ⟨h.d.below hb, h.bel.trans (hb.mono h.bel.size), h.pg⟩
theorem WkI.next {w0 y y' : World} {p g n m : Nat} {Dm De : Nat → Option OpR} (h : WkI w0 p g n Dm y) (hd : DeskAt y' p g m De 1) (hb : ButTwo p g y y') : WkI w0 p g m De y' := ⟨hd, hb.below h.bel h.bel.size h.pg.1 h.pg.2, h.pg⟩
/-- A load behind a guard that says yes. Over any program. -/
theorem wpList_load_grd {P : Program} {ops : Array Oper} {rest : List Oper} {op : Oper} {a : Act} {w : World} {Q : Exit → Act → World → Prop} (ty : TypeId) (x : Operand) (ho : op.op = .load ty x)
    (b o : Nat) (hx : a.eval x = .pointer (some ⟨b, o, none⟩)) (cs : List Value) (d : TypeDesc) (hc : w.rangeAt b o cs) (hu : P.underlying ty = some d) (hd : d.isRow = true) (hi : (P.info? ty).map (·.size) = some cs.length)
    (hw : Region.wanted op (yielded ops a.tmps) = true) (h : wpList P ops Q rest (a.put op.dst (.agg cs.toArray)) w) : wpList P ops Q (op :: rest) a w :=
  BigFrame.wpList_want hw fun _ hK => wp_load_mid ty x ho b o hx cs d hc hu hd hi (hK _ _ h)
theorem range_block {w w' : World} {B o : Nat} {cs : List Value} (h : w.rangeAt B o cs) (e : w'.heap[B]? = w.heap[B]?) : w'.rangeAt B o cs := fun j v hv => by
  rw [← h j v hv]
  simp only [World.cell?, e]
/-- An open slot, out of the desk's blocks. -/
structure OpIn (w : World) (p g B o : Nat) (cs : List Value) : Prop where
  lt : B < w.heap.size
  ne : B ≠ p ∧ B ≠ g
  cells : w.rangeAt B o cs
theorem OpIn.below {w w' : World} {p g B o : Nat} {cs : List Value} (h : OpIn w p g B o cs) (hb : Below w.heap.size w w') : OpIn w' p g B o cs := ⟨Nat.lt_of_lt_of_le h.lt hb.size, h.ne, range_block h.cells (hb.block B h.lt)⟩
theorem OpIn.two {w w' : World} {p g B o : Nat} {cs : List Value} (h : OpIn w p g B o cs) (hb : ButTwo p g w w') : OpIn w' p g B o cs := ⟨Nat.lt_of_lt_of_le h.lt hb.size, h.ne, range_block h.cells (hb.block B h.lt h.ne.1 h.ne.2)⟩
set_option maxRecDepth 100000 in
set_option maxHeartbeats 16000000 in
theorem pwakes_any (w : World) : Calls Try.prog 7 #[] w fun e w' => e = .returned (.bool true) ∧ Below w.heap.size w w' := by
  have Hnew := Lib.hid dnew_any
  go_enter Try.func7, Try.ntmps7
  go_upto_region 2 with ((with_reducible refine (Hnew.out _).mono ?_); rintro e w1 ⟨rfl, hd, hb⟩; have H1 := Lib.hid (And.intro hd hb); clear hd hb)
  clear Hnew
  obtain ⟨p, hp⟩ : ∃ p, w.heap.size + 1 = p := ⟨_, rfl⟩
  obtain ⟨g, hg⟩ : ∃ g, w.heap.size = g := ⟨_, rfl⟩
  have Hpg := Lib.hid (show w.heap.size ≤ p ∧ w.heap.size ≤ g by omega)
  have H1 := Lib.hid (show DeskAt w1 p g 0 (fun _ => none) 0 ∧ (True ∧ Below w.heap.size w w1) from ⟨by rw [← hp, ← hg]; exact H1.out.1, trivial, H1.out.2⟩)
  rw [hp]
  clear hp
  have hop := dopen_ok p g 0 0 (fun _ => none) 1 ⟨#[97]⟩ 7 (by decide) (by decide) (by decide) (by decide) w1 H1.out.1
  have Hop := Lib.hid (show Calls Try.prog 11 #[.pointer (some ⟨p, 0, none⟩), .int .u64 1, .string ⟨#[97]⟩, .int .u8 7] w1 fun e w' => e = .returned (.int .i64 0) ∧ DeskAt w' p g 1 (dk ⟨⟨#[97]⟩, 7, 0⟩) 1 ∧ ButTwo p g w1 w' from hop)
  clear hop
  go_upto_region 3 with ((with_reducible refine Hop.out.mono ?_); rintro e w2 ⟨rfl, hd, hb⟩; have H2 := Lib.hid (And.intro hd hb); clear hd hb)
  have HI := Lib.hid (show WkI w p g 1 (dk ⟨⟨#[97]⟩, 7, 0⟩) w2 from ⟨H2.out.1, H2.out.2.below H1.out.2.2 H1.out.2.2.size Hpg.out.1 Hpg.out.2, Hpg.out⟩)
  clear H1 H2 Hop Hpg hg
  have Hv := Lib.hid (show Calls Try.prog 13 #[.pointer (some ⟨p, 0, none⟩), .int .u8 0, .int .u64 1] w2 fun e w' => e = .returned (.tuple #[.agg (itCells 0 ByteArray.empty).toArray, .bool false]) ∧ DeskAt w' p g 2 (dk ⟨⟨#[97]⟩, 7, 1⟩) 1 ∧ ButTwo p g w2 w' from (by have q := voted_more p g 1 1 (dk ⟨⟨#[97]⟩, 7, 0⟩) 0 1 ⟨⟨#[97]⟩, 7, 0⟩ (dk_at _) (by decide) (by decide) (by decide) (by decide) (by decide) (by decide) (by decide) _ HI.out.d; rw [dk_put] at q; exact q))
  go_upto_region 4 with (first
    | ((with_reducible refine Hv.out.mono ?_); rintro e w3 ⟨rfl, hd, hb⟩; have Hk := Lib.hid (HI.out.next hd hb); clear hd hb)
    | ((with_reducible refine wpList_store_mid rfl 34 _ _ rfl w3.heap.size 0 _ rfl rfl ?_ ?_ ?_ ?_); exact th_new w3 (itCells 0 ByteArray.empty) 34; exact it_size 0 ByteArray.empty; exact all_oneCell_toArray (it_one 0 ByteArray.empty)))
  have HI := Lib.hid Hk.out
  clear Hv Hk
  change Code.wp _ _ _ _ ((w3.alloc (.cells (itCells 0 ByteArray.empty).toArray 34)).setCells w3.heap.size 0 (itCells 0 ByteArray.empty))
  have hbx := box_below w3 (itCells 0 ByteArray.empty) (itCells 0 ByteArray.empty) 34
  have HI := Lib.hid (HI.out.below hbx)
  clear hbx
  generalize (w3.alloc (.cells (itCells 0 ByteArray.empty).toArray 34)).setCells w3.heap.size 0 (itCells 0 ByteArray.empty) = w3b at *
  have Hv := Lib.hid (show Calls Try.prog 13 #[.pointer (some ⟨p, 0, none⟩), .int .u8 0, .int .u64 1] w3b fun e w' => e = .returned (.tuple #[.agg (itCells 0 ByteArray.empty).toArray, .bool false]) ∧ DeskAt w' p g 3 (dk ⟨⟨#[97]⟩, 7, 1⟩) 1 ∧ ButTwo p g w3b w' from (by have q := voted_more p g 2 1 (dk ⟨⟨#[97]⟩, 7, 1⟩) 0 1 ⟨⟨#[97]⟩, 7, 1⟩ (dk_at _) (by decide) (by decide) (by decide) (by decide) (by decide) (by decide) (by decide) _ HI.out.d; rw [dk_put] at q; exact q))
  go_upto_region 5 with (first
    | ((with_reducible refine Hv.out.mono ?_); rintro e w4 ⟨rfl, hd, hb⟩; have Hk := Lib.hid (HI.out.next hd hb); clear hd hb)
    | ((with_reducible refine wpList_store_mid rfl 34 _ _ rfl w4.heap.size 0 _ rfl rfl ?_ ?_ ?_ ?_); exact th_new w4 (itCells 0 ByteArray.empty) 34; exact it_size 0 ByteArray.empty; exact all_oneCell_toArray (it_one 0 ByteArray.empty)))
  have HI := Lib.hid Hk.out
  clear Hv Hk
  change Code.wp _ _ _ _ ((w4.alloc (.cells (itCells 0 ByteArray.empty).toArray 34)).setCells w4.heap.size 0 (itCells 0 ByteArray.empty))
  have hbx := box_below w4 (itCells 0 ByteArray.empty) (itCells 0 ByteArray.empty) 34
  have HI := Lib.hid (HI.out.below hbx)
  clear hbx
  generalize (w4.alloc (.cells (itCells 0 ByteArray.empty).toArray 34)).setCells w4.heap.size 0 (itCells 0 ByteArray.empty) = w4b at *
  have Hv := Lib.hid (show Calls Try.prog 13 #[.pointer (some ⟨p, 0, none⟩), .int .u8 3, .int .u64 1] w4b fun e w' => e = .returned (.tuple #[.agg (itCells 0 ByteArray.empty).toArray, .bool false]) ∧ Below w4b.heap.size w4b w' from (voted_not p g 3 1 (dk ⟨⟨#[97]⟩, 7, 1⟩) 3 1 ⟨⟨#[97]⟩, 7, 1⟩ (dk_at _) (by decide) (by decide) (by decide) (by decide) _ HI.out.d))
  go_upto_region 6 with (first
    | ((with_reducible refine Hv.out.mono ?_); rintro e w5 ⟨rfl, hb⟩; have Hk := Lib.hid (HI.out.below hb); clear hb)
    | ((with_reducible refine wpList_store_mid rfl 34 _ _ rfl w5.heap.size 0 _ rfl rfl ?_ ?_ ?_ ?_); exact th_new w5 (itCells 0 ByteArray.empty) 34; exact it_size 0 ByteArray.empty; exact all_oneCell_toArray (it_one 0 ByteArray.empty)))
  have HI := Lib.hid Hk.out
  clear Hv Hk
  change Code.wp _ _ _ _ ((w5.alloc (.cells (itCells 0 ByteArray.empty).toArray 34)).setCells w5.heap.size 0 (itCells 0 ByteArray.empty))
  have hbx := box_below w5 (itCells 0 ByteArray.empty) (itCells 0 ByteArray.empty) 34
  have HI := Lib.hid (HI.out.below hbx)
  clear hbx
  generalize (w5.alloc (.cells (itCells 0 ByteArray.empty).toArray 34)).setCells w5.heap.size 0 (itCells 0 ByteArray.empty) = w5b at *
  have Hv := Lib.hid (all1_any p g 3 1 (dk ⟨⟨#[97]⟩, 7, 1⟩) dk_only (by decide) (fun s r h => by have k := (dk_low s r h).1; omega) w5b HI.out.d)
  go_upto_region 7 with ((with_reducible refine Hv.out.mono ?_); rintro e w6 ⟨A, m, c, rfl, hb, hal⟩; have H6 := Lib.hid (And.intro hb hal); clear hb hal)
  have Hlt := Lib.hid (And.intro HI.out.d.lt HI.out.d.mp.lt)
  have HI := Lib.hid (HI.out.below H6.out.1)
  obtain ⟨hb6, ⟨-, hno⟩ | ⟨rfl, s6, r6, B, bo, hD6, rfl, hB6, hr6⟩⟩ := H6.out
  · exact absurd ((dk_at _).symm.trans (hno 1 (by decide))) (by simp)
  obtain ⟨rfl, rfl⟩ := dk_low s6 r6 hD6
  have HR := Lib.hid (show OpIn w6 p g B bo (opCells 1 ⟨⟨#[97]⟩, 7, 1⟩) from ⟨hB6.2, ⟨by have := Hlt.out.1; omega, by have := Hlt.out.2; omega⟩, hr6⟩)
  clear hD6 hB6 hr6 hb6 H6 Hv Hlt
  have Hv := Lib.hid (show Calls Try.prog 13 #[.pointer (some ⟨p, 0, none⟩), .int .u8 2, .int .u64 1] w6 fun e w' => e = .returned (.tuple #[.agg (itCells 1 ⟨#[97]⟩).toArray, .bool true]) ∧ DeskAt w' p g 3 (fun _ => none) 1 ∧ ButTwo p g w6 w' from (by have q := voted_wins p g 3 1 (dk ⟨⟨#[97]⟩, 7, 1⟩) 2 1 ⟨⟨#[97]⟩, 7, 1⟩ (dk_at _) (by decide) (by decide) (by decide) (by decide) (by decide) (by decide) _ HI.out.d; rw [dk_del] at q; exact q))
  go_upto_region 8 with (first
    | ((with_reducible refine Hv.out.mono ?_); rintro e w7 ⟨rfl, hd, hb⟩; have Hk := Lib.hid (And.intro (HI.out.next hd hb) (HR.out.two hb)); clear hd hb)
    | ((with_reducible refine wpList_store_mid rfl 34 _ _ rfl w7.heap.size 0 _ rfl rfl ?_ ?_ ?_ ?_); exact th_new w7 (itCells 0 ByteArray.empty) 34; exact it_size 1 ⟨#[97]⟩; exact all_oneCell_toArray (it_one 1 ⟨#[97]⟩)))
  have HI := Lib.hid Hk.out.1
  have HR := Lib.hid Hk.out.2
  clear Hv Hk
  change Code.wp _ _ _ _ ((w7.alloc (.cells (itCells 0 ByteArray.empty).toArray 34)).setCells w7.heap.size 0 (itCells 1 ⟨#[97]⟩))
  have hbx := box_below w7 (itCells 0 ByteArray.empty) (itCells 1 ⟨#[97]⟩) 34
  have HI := Lib.hid (HI.out.below hbx)
  have HR := Lib.hid (HR.out.below hbx)
  have HT := Lib.hid (show ItAt ((w7.alloc (.cells (itCells 0 ByteArray.empty).toArray 34)).setCells w7.heap.size 0 (itCells 1 ⟨#[97]⟩)) w7.heap.size 1 ⟨#[97]⟩ from box_row w7 (itCells 0 ByteArray.empty) (itCells 1 ⟨#[97]⟩) 34 rfl)
  clear hbx
  generalize (w7.alloc (.cells (itCells 0 ByteArray.empty).toArray 34)).setCells w7.heap.size 0 (itCells 1 ⟨#[97]⟩) = w7b at *
  have Hv := Lib.hid (show Calls Try.prog 13 #[.pointer (some ⟨p, 0, none⟩), .int .u8 1, .int .u64 1] w7b fun e w' => e = .returned (.tuple #[.agg (itCells 0 ByteArray.empty).toArray, .bool false]) ∧ Below w7b.heap.size w7b w' from (voted_none p g 3 1 (fun _ => none) 1 1 rfl (by decide) _ HI.out.d))
  go_upto_region 9 with (first
    | ((with_reducible refine Hv.out.mono ?_); rintro e w8 ⟨rfl, hb⟩; have Hk := Lib.hid (And.intro (HI.out.below hb) (And.intro (HR.out.below hb) (HT.out.below hb))); clear hb)
    | ((with_reducible refine wpList_store_mid rfl 34 _ _ rfl w8.heap.size 0 _ rfl rfl ?_ ?_ ?_ ?_); exact th_new w8 (itCells 0 ByteArray.empty) 34; exact it_size 0 ByteArray.empty; exact all_oneCell_toArray (it_one 0 ByteArray.empty)))
  have HI := Lib.hid Hk.out.1
  have HR := Lib.hid Hk.out.2.1
  have HT := Lib.hid Hk.out.2.2
  clear Hv Hk
  change Code.wp _ _ _ _ ((w8.alloc (.cells (itCells 0 ByteArray.empty).toArray 34)).setCells w8.heap.size 0 (itCells 0 ByteArray.empty))
  have hbx := box_below w8 (itCells 0 ByteArray.empty) (itCells 0 ByteArray.empty) 34
  have HI := Lib.hid (HI.out.below hbx)
  have HR := Lib.hid (HR.out.below hbx)
  have HT := Lib.hid (HT.out.below hbx)
  clear hbx
  generalize (w8.alloc (.cells (itCells 0 ByteArray.empty).toArray 34)).setCells w8.heap.size 0 (itCells 0 ByteArray.empty) = w8b at *
  have Hos := Lib.hid (show ∀ y : World, DeskAt y p g 3 (fun _ => none) 1 → Calls Try.prog 11 #[.pointer (some ⟨p, 0, none⟩), .int .u64 1, .string ⟨#[98]⟩, .int .u8 7] y fun e w' => e = .returned (.int .i64 13) ∧ Below y.heap.size y w' from fun y h => dopen_state p g 3 1 (fun _ => none) 1 ⟨#[98]⟩ 7 (by decide) (by decide) y h)
  have Hae := Lib.hid (fun (y : World) (h : DeskAt y p g 3 (fun _ => none) 1) => all1_any p g 3 1 (fun _ => none) (fun _ _ _ _ h _ => absurd h (by simp)) (by decide) (fun _ _ h => absurd h (by simp)) y h)
  have Hls := Lib.hid (show ∀ y : World, DeskAt y p g 3 (fun _ => none) 1 → Calls Try.prog 17 #[.pointer (some ⟨p, 0, none⟩)] y fun e w' => e = .returned (.int .u64 1) ∧ Below y.heap.size y w' from fun y h => dlast_any p g 3 1 (fun _ => none) y h)
  have hIT : (Try.prog.info? 34).map (·.size) = some [(.int .u64 1 : Value), .string ⟨#[97]⟩].length := it_size 1 ⟨#[97]⟩
  have hOP : (Try.prog.info? 63).map (·.size) = some [(.int .u64 1 : Value), .string ⟨#[97]⟩, .int .u8 7, .int .u8 1].length := op_size 1 ⟨⟨#[97]⟩, 7, 1⟩
  have Hrl := Lib.hid (show w8b.rangeAt B bo [.int .u64 1, .string ⟨#[97]⟩, .int .u8 7, .int .u8 1] from HR.out.cells)
  have Hil := Lib.hid (show w8b.rangeAt w7.heap.size 0 [.int .u64 1, .string ⟨#[97]⟩] from range_row HT.out)
  go_wp2_with (first
    | ((with_reducible refine wpList_load_grd 63 _ rfl B bo rfl [.int .u64 1, .string ⟨#[97]⟩, .int .u8 7, .int .u8 1] _ Hrl.out Try.underlying63 rfl hOP ?_ ?_); exact (Eq.refl true))
    | ((with_reducible refine wpList_load_grd 63 _ rfl B (bo + 0 * 4) rfl [.int .u64 1, .string ⟨#[97]⟩, .int .u8 7, .int .u8 1] _ Hrl.out Try.underlying63 rfl hOP ?_ ?_); exact (Eq.refl true))
    | ((with_reducible refine wpList_load_grd 34 _ rfl w7.heap.size 0 rfl [.int .u64 1, .string ⟨#[97]⟩] _ Hil.out Try.underlying34 rfl hIT ?_ ?_); exact (Eq.refl true))
    | ((with_reducible refine (Hos.out _ HI.out.d).mono ?_); rintro e wa ⟨rfl, hb⟩; have HI := Lib.hid (HI.out.below hb); clear hb)
    | ((with_reducible refine (Hae.out _ HI.out.d).mono ?_); rintro e wb ⟨A, m, c, rfl, hb, hal⟩; have hm : m = 0 := hal.elim (·.1) (fun q => by obtain ⟨-, s6, r6, B6, o6, q, -⟩ := q; cases q); subst hm; have HI := Lib.hid (HI.out.below hb); clear hb hal)
    | ((with_reducible refine (Hls.out _ HI.out.d).mono ?_); rintro e wc ⟨rfl, hb⟩; have HI := Lib.hid (HI.out.below hb); clear hb))
  go_ret
  exact ⟨rfl, HI.out.bel⟩
end Go.Proofs.Ytoleiiicbnmhpaa
namespace Go.Proofs.Ytoleiiicbnmhpaa
open Go.RowKit
open Go.Maps (Keyed)
open Go.ChangeShapes Go.WideShapes Go.Deep Go.RowKit
structure PAct where
  d : BitVec 8
  s : BitVec 64
  x : ByteArray
  c : BitVec 8
  nd : BitVec 8
def pactCells (a : PAct) : List Value := [.int .u8 (a.d.toNat : Int), .int .u64 (a.s.toNat : Int), .string a.x, .int .u8 (a.c.toNat : Int), .int .u8 (a.nd.toNat : Int)]
theorem tr_u8 {n : Int} (h : (Lit.int .u8 n).wf = true) : ∃ x : BitVec 8, n = (x.toNat : Int) := by
  have h' : 0 ≤ n ∧ n ≤ 255 := by simpa [Lit.wf, IntKind.min, IntKind.max, IntKind.signed, IntKind.bits] using h
  exact ⟨BitVec.ofInt 8 n, by simp only [BitVec.toNat_ofInt]; omega⟩
theorem tr_u64 {n : Int} (h : (Lit.int .u64 n).wf = true) : ∃ x : BitVec 64, n = (x.toNat : Int) := by
  have h' : 0 ≤ n ∧ n ≤ 18446744073709551615 := by simpa [Lit.wf, IntKind.min, IntKind.max, IntKind.signed, IntKind.bits] using h
  exact ⟨BitVec.ofInt 64 n, by simp only [BitVec.toNat_ofInt]; omega⟩
section
variable {H : Type} {enc : TypeId × Value → H} {P : Program} {w : World} {base : Nat} {spare : Nat → Bool} {held : Bool}
theorem open_agg {α : Type} (toCells : α → List Value) {e : TypeId} {fs : Array Field} {cs : Array Value} {d : DataW H} {pl : List MemPlace} (he : P.underlying e = some (.struct fs))
    (hone : oneCellFields P fs = true) (hsz : cs.size = fs.size)
    (hx : ∀ vs : List Value, vs.length = fs.size → (∀ (j : Nat) (f : Field), fs[j]? = some f → ∃ (v : Value) (y : DataW H × List MemPlace) (n : Nat), vs[j]? = some v ∧ DataW.trod enc P w base spare held n f.type [v] = some y) → ∃ x : α, vs = toCells x)
    (h : DataW.Trod enc P w base spare held e (.agg cs) d pl) : ∃ x : α, cs = (toCells x).toArray := by
  obtain ⟨m, hm⟩ := h
  have hm' : DataW.trod enc P w base spare held m e cs.toList = some (d, pl) := hm
  obtain ⟨ys, n', _, _, _, hyl, hf⟩ := DataW.trod_struct he hm'
  have hcl : cs.toList.length = fs.size := by simpa using hsz
  obtain ⟨x, hx⟩ := hx cs.toList hcl (fun j f hj => by
    have hjl : j < fs.size := (Array.getElem?_eq_some_iff.1 hj).1
    obtain ⟨ho, hk⟩ := hone_of hone j f hj
    have hq := hf j f hj
    rw [ho, hk, take1_drop _ _ undef (by omega)] at hq
    refine ⟨cs.toList.getD j undef, ys[j]'(by omega), n', ?_, ?_⟩
    · rw [List.getD, List.getElem?_eq_getElem (show j < cs.toList.length by omega)]; rfl
    · rw [hq, List.getElem?_eq_getElem (by omega)])
  exact ⟨x, by rw [← hx]⟩
end
theorem pact_hx {H : Type} {enc : TypeId × Value → H} {w : World} {base : Nat} {spare : Nat → Bool} {held : Bool} {fs : Array Field} (he : Try.prog.underlying 40 = some (.struct fs)) (vs : List Value) (hl : vs.length = fs.size)
    (hf : ∀ (j : Nat) (f : Field), fs[j]? = some f → ∃ (v : Value) (y : DataW H × List MemPlace) (n : Nat), vs[j]? = some v ∧ DataW.trod enc Try.prog w base spare held n f.type [v] = some y) : ∃ x : PAct, vs = pactCells x := by
  obtain rfl := (TypeDesc.struct.inj (Option.some.inj (he.symm.trans Try.underlying40)))
  obtain ⟨v0, y0, n0, e0, t0⟩ := hf 0 _ rfl
  obtain ⟨v1, y1, n1, e1, t1⟩ := hf 1 _ rfl
  obtain ⟨v2, y2, n2, e2, t2⟩ := hf 2 _ rfl
  obtain ⟨v3, y3, n3, e3, t3⟩ := hf 3 _ rfl
  obtain ⟨v4, y4, n4, e4, t4⟩ := hf 4 _ rfl
  obtain ⟨m0, q0, _, f0⟩ := DataW.trod_int Try.underlying5 t0
  obtain ⟨m1, q1, _, f1⟩ := DataW.trod_int Try.underlying31 t1
  obtain ⟨m2, q2, _, _⟩ := DataW.trod_string Try.underlying9 t2
  obtain ⟨m3, q3, _, f3⟩ := DataW.trod_int Try.underlying5 t3
  obtain ⟨m4, q4, _, f4⟩ := DataW.trod_int Try.underlying5 t4
  obtain ⟨x0, rfl⟩ := tr_u8 f0
  obtain ⟨x1, rfl⟩ := tr_u64 f1
  obtain ⟨x3, rfl⟩ := tr_u8 f3
  obtain ⟨x4, rfl⟩ := tr_u8 f4
  simp only [List.cons.injEq, and_true] at q0 q1 q2 q3 q4
  subst q0 q1 q2 q3 q4
  refine ⟨⟨x0, x1, m2, x3, x4⟩, ?_⟩
  match vs, hl with
  | [a0, a1, a2, a3, a4], _ =>
    simp only [List.getElem?_cons_zero, List.getElem?_cons_succ, Option.some.injEq] at e0 e1 e2 e3 e4
    rw [e0, e1, e2, e3, e4]
    rfl
set_option maxRecDepth 100000 in
theorem pact_open {H : Type} {enc : TypeId × Value → H} {w : World} {base : Nat} {spare : Nat → Bool} {held : Bool} {v : Value} {d : DataW H} {pl : List MemPlace} {r : Reach} {ob : Nat}
    (hv : Value.okWide Try.prog w r ob 40 v) (h : DataW.Trod enc Try.prog w base spare held 40 v d pl) : ∃ c : PAct, v = .agg (pactCells c).toArray := by
  obtain ⟨cs, rfl, hsz⟩ := okWide_struct Try.underlying40 hv
  have h5 : cs.size = 5 := by rw [hsz]; kernel_rfl
  obtain ⟨c, hc⟩ : ∃ c : PAct, cs = (pactCells c).toArray := open_agg pactCells Try.underlying40 (by kernel_rfl) (by rw [h5]; rfl) (pact_hx Try.underlying40) h
  exact ⟨c, by rw [hc]⟩
def ActAt (w : World) (g : Nat) (a : PAct) : Prop := w.heap[g]? = some (.cells (pactCells a).toArray 40 (0, 0))
theorem ActAt.below {w w' : World} {g : Nat} {a : PAct} (h : ActAt w g a) (hb : Below w.heap.size w w') : ActAt w' g a := (hb.block g (Array.getElem?_eq_some_iff.1 h).1).trans h
theorem act_cells {w : World} {g : Nat} {a : PAct} (h : ActAt w g a) : w.cell? ⟨g, 1, none⟩ = some (.int .u64 (a.s.toNat : Int)) ∧ w.cell? ⟨g, 2, none⟩ = some (.string a.x) ∧ w.cell? ⟨g, 3, none⟩ = some (.int .u8 (a.c.toNat : Int)) ∧ w.cell? ⟨g, 4, none⟩ = some (.int .u8 (a.nd.toNat : Int)) := ⟨cell_of_row _ _ _ _ _ _ h, cell_of_row _ _ _ _ _ _ h, cell_of_row _ _ _ _ _ _ h, cell_of_row _ _ _ _ _ _ h⟩
set_option maxRecDepth 100000 in
set_option maxHeartbeats 16000000 in
theorem proposeNil_any (a : PAct) (w : World) : Calls Try.prog 4 #[.agg (pactCells a).toArray] w fun e w' => e = .returned (.bool true) ∧ Below w.heap.size w w' := by
  have Hc := Lib.hid (fun y : World => dclose_nil a.s.toNat y)
  have Hv := Lib.hid (show ∀ y : World, Calls Try.prog 13 #[.pointer none, .int .u8 (a.nd.toNat : Int), .int .u64 (a.s.toNat : Int)] y fun e w' => e = .returned (.tuple #[.agg (itCells 0 ByteArray.empty).toArray, .bool false]) ∧ Below y.heap.size y w' from fun y => voted_nil a.nd.toNat a.s.toNat y)
  have Ho := Lib.hid (fun y : World => dopen_nil a.s.toNat a.x a.c.toNat y)
  have Ha := Lib.hid (fun y : World => all_nil y)
  have Hl := Lib.hid (fun y : World => dlast_nil y)
  have Hk := Lib.hid (fun y : World => pwakes_any y)
  go_enter Try.func4, Try.ntmps4
  go_upto_region 1 with fail
  have hr0 : (w.alloc (.cells (pactCells a).toArray 40)).heap[w.heap.size]? = some (.cells (pactCells a).toArray 40 (0, 0)) := heap_alloc_new _ _
  have hb0 : Below w.heap.size w (w.alloc (.cells (pactCells a).toArray 40)) := (Below.refl _ _).alloc (Nat.le_refl _) _
  have HG := Lib.hid (show w.heap.size < (w.alloc (.cells (pactCells a).toArray 40)).heap.size by simp)
  generalize w.alloc (.cells (pactCells a).toArray 40) = w0 at *
  obtain ⟨g, hg⟩ : ∃ g, g = w.heap.size := ⟨_, rfl⟩
  rw [← hg] at hr0 HG ⊢
  have HB := Lib.hid hb0
  have HR := Lib.hid (show ActAt w0 g a from hr0)
  clear hr0 hb0 hg HG
  obtain ⟨c1, c2, c3, c4⟩ := act_cells HR.out
  go_upto_region 3 with ((with_reducible refine (Hc.out _).mono ?_); rintro e w1 ⟨rfl, hb⟩; have H1 := Lib.hid hb; clear hb)
  have HB := Lib.hid (HB.out.trans (H1.out.mono HB.out.size))
  have HR := Lib.hid (HR.out.below H1.out)
  clear H1 c1 c2 c3 c4
  obtain ⟨c1, c2, c3, c4⟩ := act_cells HR.out
  go_upto_region 4 with (first
    | ((with_reducible refine (Hv.out _).mono ?_); rintro e w2 ⟨rfl, hb⟩; have H2 := Lib.hid hb; clear hb)
    | ((with_reducible refine wpList_store_mid rfl 34 _ _ rfl w2.heap.size 0 _ rfl rfl ?_ ?_ ?_ ?_); exact th_new w2 (itCells 0 ByteArray.empty) 34; exact it_size 0 ByteArray.empty; exact all_oneCell_toArray (it_one 0 ByteArray.empty)))
  change Code.wp _ _ _ _ ((w2.alloc (.cells (itCells 0 ByteArray.empty).toArray 34)).setCells w2.heap.size 0 (itCells 0 ByteArray.empty))
  have hbx := box_below w2 (itCells 0 ByteArray.empty) (itCells 0 ByteArray.empty) 34
  have hit := box_row w2 (itCells 0 ByteArray.empty) (itCells 0 ByteArray.empty) 34 rfl
  have HB := Lib.hid ((HB.out.trans (H2.out.mono HB.out.size)).trans (hbx.mono (Nat.le_trans HB.out.size H2.out.size)))
  have HR := Lib.hid ((HR.out.below H2.out).below hbx)
  have HT := Lib.hid (show ItAt _ w2.heap.size 0 ByteArray.empty from hit)
  clear hbx hit H2 c1 c2 c3 c4
  generalize (w2.alloc (.cells (itCells 0 ByteArray.empty).toArray 34)).setCells w2.heap.size 0 (itCells 0 ByteArray.empty) = w3 at *
  obtain ⟨c1, c2, c3, c4⟩ := act_cells HR.out
  have hIT : (Try.prog.info? 34).map (·.size) = some [(.int .u64 0 : Value), .string ByteArray.empty].length := it_size 0 ByteArray.empty
  go_wp2_with (first
    | ((with_reducible refine (Ho.out _).mono ?_); rintro e w4 ⟨rfl, hb⟩; have HB := Lib.hid (HB.out.trans (hb.mono HB.out.size)); have HT := Lib.hid (HT.out.below hb); have Hil := Lib.hid (show w4.rangeAt w2.heap.size 0 [.int .u64 0, .string ByteArray.empty] from range_row HT.out); clear hb)
    | ((with_reducible refine wpList_load_grd 34 _ rfl w2.heap.size 0 rfl [.int .u64 0, .string ByteArray.empty] _ Hil.out Try.underlying34 rfl hIT ?_ ?_); exact (Eq.refl true))
    | ((with_reducible refine (Ha.out _).mono ?_); rintro e wa ⟨rfl, hb⟩; have HB := Lib.hid (HB.out.trans (hb.mono HB.out.size)); clear hb)
    | ((with_reducible refine (Hl.out _).mono ?_); rintro e wb ⟨rfl, hb⟩; have HB := Lib.hid (HB.out.trans (hb.mono HB.out.size)); clear hb)
    | ((with_reducible refine (Hk.out _).mono ?_); rintro e wc ⟨rfl, hb⟩; have HB := Lib.hid (HB.out.trans (hb.mono HB.out.size)); clear hb))
  go_ret
  exact ⟨rfl, HB.out⟩
end Go.Proofs.Ytoleiiicbnmhpaa
