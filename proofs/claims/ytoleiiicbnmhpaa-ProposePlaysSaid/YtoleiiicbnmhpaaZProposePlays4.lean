/- The open slots of a desk that has one at most: All. Condition: the desk lies there. -/
import Derived.Test.YtoleiiicbnmhpaaZProposePlays3
import Derived.ChangeArms
import Derived.Deep.Slices
import Derived.Deep.Fields
import Derived.WideShapes
import Derived.Test.YtoleiiicbnmhpaaZProposePlays1
import Derived.Test.YtoleiiicbnmhpaaZProposePlays2
import Derived.Sort.WalkA
import Derived.Sort.WalkB2
namespace Go.Proofs.Ytoleiiicbnmhpaa
open Go.RowKit Go.Maps Go.Shelf
def encO (q : Nat × OpR) : List Value := opCells q.1 q.2
theorem infoOp : (Try.prog.info? 63).map (fun i => (i.zero, i.size, i.bytes)) = some (some (opV 0 op0), 4, 32) := by kernel_rfl
theorem op_new (w : World) (s : Nat) (r : OpR) : SliceAt 4 encO (w.alloc (.cells (opCells s r).toArray 63)) (some ⟨w.heap.size, 0, none⟩) 1 [(s, r)] := by
  refine ⟨rfl, by decide, fun i x hx => ?_⟩
  cases i with
  | zero =>
    simp at hx
    subst hx
    refine ⟨w.heap.size, 0, rfl, by simp, fun j v hj => ?_⟩
    have h := range_row (heap_alloc_new w (.cells (opCells s r).toArray 63)) j v hj
    rw [Nat.zero_mul, Nat.zero_add]
    exact h
  | succ i => simp at hx
/-- What All tells of a desk with one open slot at most. -/
def AllPost (Dm : Nat → Option OpR) (w : World) (e : Ending) (w' : World) : Prop := ∃ A m c, e = .returned (.slice A m c) ∧ Below w.heap.size w w' ∧ ((m = 0 ∧ ∀ s, s < 18446744073709551616 → Dm s = none) ∨ (m = 1 ∧ ∃ s r B o, Dm s = some r ∧ A = some ⟨B, o, none⟩ ∧ (w.heap.size ≤ B ∧ B < w'.heap.size) ∧ w'.rangeAt B o (opCells s r)))
theorem mpOf_some {Dm : Nat → Option OpR} {x : Int} (h : (mpOf Dm (.int .u64 x)).isSome = true) : ∃ (s : Nat) (r : OpR), x = (s : Int) ∧ Dm s = some r := by
  unfold mpOf at h
  simp only at h
  split at h
  · next h0 =>
    cases hd : Dm x.toNat with
    | none => rw [hd] at h; cases h
    | some r => exact ⟨x.toNat, r, by omega, hd⟩
  · cases h
set_option maxRecDepth 100000 in
set_option maxHeartbeats 4000000 in
theorem all1_any (p g n last : Nat) (Dm : Nat → Option OpR) (h1 : ∀ a b r q, Dm a = some r → Dm b = some q → a = b) (hn : n ≤ 100000) (hr64 : ∀ s r, Dm s = some r → s < 18446744073709551616) (w : World) (h : DeskAt w p g n Dm last) :
    Calls Try.prog 16 #[.pointer (some ⟨p, 0, none⟩)] w (AllPost Dm w) := by
  obtain ⟨c0, c1⟩ := h.cells
  clear c1
  obtain ⟨D, hown, hM⟩ := h.mp
  have hsz : Maps.size D ≤ 1000000 := by have := hown.size_le; omega
  have huniq : ∀ x y : Int, Maps.has D (.int .u64 x) = true → Maps.has D (.int .u64 y) = true → x = y := fun x y hx hy => by
    rw [(hM (.int .u64 x) trivial).1] at hx
    rw [(hM (.int .u64 y) trivial).1] at hy
    obtain ⟨a, r, rfl, ha⟩ := mpOf_some hx
    obtain ⟨b, q, rfl, hb⟩ := mpOf_some hy
    rw [h1 a b r q ha hb]
  have hk := callsIn_wide.1 (keys_in 5 (some g) w)
  have hb1 := (Below.refl w.heap.size w).alloc (Nat.le_refl _) (.cells #[.map (some g)] 65)
  have hs := sorted1_any w.heap.size g n D hsz huniq (w.alloc (.cells #[.map (some g)] 65)) (by simp) (cell_of_row _ _ _ _ _ _ (heap_alloc_new _ _)) (hown.alloc _)
  have Hk := Lib.hid hk
  have Hs := Lib.hid hs
  have Hb1 := Lib.hid hb1
  have H := Lib.hid h
  have HM := Lib.hid hM
  have HU := Lib.hid huniq
  have hR := Lib.hid hr64
  clear hr64
  clear hk hs hb1 h hM hown huniq hsz
  go_enter Try.func16, Try.ntmps16
  go_upto_region 5 with (first
    | ((with_reducible refine Hk.out.mono ?_); rintro e w1 ⟨rfl, rfl⟩)
    | ((with_reducible refine Hs.out.mono ?_); rintro e w2 ⟨v, ss, rfl, k1, k2, k3, k4⟩; have H2 := Lib.hid (And.intro k1 (And.intro k2 (And.intro k3 k4))); clear k1 k2 k3 k4; obtain ⟨A, c, rfl⟩ : ∃ A c, v = .slice A ss.length c := (by
        rcases H2.out.2.1.2 with ⟨rfl, h0⟩ | ⟨g', cap, cur, rfl, _⟩
        · rw [h0]; exact ⟨none, 0, rfl⟩
        · exact ⟨_, _, rfl⟩)))
  have hb2 : Below w.heap.size w w2 := Hb1.out.trans (H2.out.2.2.2.mono Hb1.out.size)
  have Hd2 := Lib.hid (H.out.below hb2)
  have Hb2 := Lib.hid hb2
  have hss := came_len H2.out.1 HU.out
  clear hb2 Hk Hs Hb1 c0
  match ss, hss, H2 with
  | [], _, H2 =>
    have hno : ∀ s, s < 18446744073709551616 → Dm s = none := fun s hs => by
      cases hd : Dm s with
      | none => rfl
      | some r =>
        have hh : Maps.has D (.int .u64 (s : Int)) = true := by
          rw [(HM.out (.int .u64 (s : Int)) trivial).1]
          have := mpOf_at Dm s
          unfold ku at this
          rw [this, hd]
          rfl
        have := (H2.out.1.2 (s : Int)).2 ⟨hh, rfl⟩
        simp at this
    have Hno := Lib.hid hno
    clear hno
    go_loopw [3, 15] (fun s3 s15 wr => w2 = wr ∧ s3 = .slice none 0 0 ∧ s15 = .int .i64 0) (fun _ _ _ => 0)
    case atStart => exact ⟨rfl, rfl, rfl⟩
    case round =>
      obtain ⟨rfl, rfl, rfl⟩ := hrel
      go_wp2_with fail
      go_ret
      exact ⟨none, 0, 0, rfl, Hb2.out, .inl ⟨rfl, Hno.out⟩⟩
  | [x], _, H2 =>
    have hx := ((H2.out.1.2 x).1 (by simp)).1
    rw [(HM.out (.int .u64 x) trivial).1] at hx
    obtain ⟨s, r, rfl, hD⟩ := mpOf_some hx
    obtain ⟨i0, hi0, hz0, hs0, hb0⟩ := info_parts infoOp
    have Hi0 := Lib.hid (And.intro hi0 (And.intro hz0 (And.intro hs0 hb0)))
    obtain ⟨gk, rfl, hgk⟩ : ∃ gk, A = some ⟨gk, 0, none⟩ ∧ w2.cell? ⟨gk, 0, none⟩ = some (.int .u64 (s : Int)) := by
      rcases H2.out.2.1.2 with ⟨_, h0⟩ | ⟨gk, cap, cur, e, _, hg, _, _, _, ht⟩
      · cases h0
      · cases e
        refine ⟨gk, rfl, ?_⟩
        simp only [World.cell?, hg]
        have : cur.toList[0]? = some (u64v (s : Int)) := by
          have h0 : (cur.toList.take (([(s : Int)] : List Int).length * 1))[0]? = some (u64v (s : Int)) := by rw [ht]; rfl
          rw [List.getElem?_take] at h0
          simpa using h0
        simpa using this
    have hgl : gk < w2.heap.size := World.block_lt_of_cell? _ _ hgk
    have Hgk := Lib.hid (And.intro hgl hgk)
    have HD := Lib.hid hD
    have hlt : s < 18446744073709551616 := hR.out s r hD
    have hk := key_ku hlt
    have hMo : mpOf Dm (ku s) = some (.agg #[.int .u64 (s : Int), .string r.x, .int .u8 (r.c : Int), .int .u8 (r.who : Int)]) := by rw [mpOf_at, hD]; rfl
    clear hx hD hgk hgl hi0 hz0 hs0 hb0
    go_loopw [3, 15] (fun s3 s15 wr => Below w2.heap.size w2 wr ∧ ((s3 = .slice none 0 0 ∧ s15 = .int .i64 0) ∨ (s15 = .int .i64 1 ∧ ∃ B o c, s3 = .slice (some ⟨B, o, none⟩) 1 c ∧ (w.heap.size ≤ B ∧ B < wr.heap.size) ∧ wr.rangeAt B o (opCells s r)))) (fun _ s15 _ => 1 - (intOf s15).toNat)
    case atStart => exact ⟨Below.refl _ _, .inl ⟨rfl, rfl⟩⟩
    case round =>
      obtain ⟨hb, ⟨rfl, rfl⟩ | ⟨rfl, B, o, c3, rfl, hB, hr⟩⟩ := hrel
      · have Hb := Lib.hid hb
        have hd3 := Hd2.out.below hb
        obtain ⟨c0, c1⟩ := hd3.cells
        have Hd3 := Lib.hid hd3
        have f0 := (hb.cell (p := ⟨gk, 0, none⟩) Hgk.out.1).trans Hgk.out.2
        have Hn3 := Lib.hid (op_new wr s r)
        clear hb hd3 c1
        go_wp2_with (first
          | (at_lookup; refine wpList_look_mp rfl _ _ 65 63 rfl lawU Try.underlying65 op_zero rfl Hd3.out.mp _ (ku s) rfl hk ?_)
          | (at_builtin; refine wpList_plain rfl (fun K hK => ?_); refine wp_append_slice (k := 4) (enc := encO) _ _ 42 rfl wr.heap.size 63 i0 _ 32 Try.underlying42 Hi0.out.1 Hi0.out.2.1 Hi0.out.2.2.1 Hi0.out.2.2.2 rfl (by omega) (fun _ => rfl) (fun q => op_one q.1 q.2) (.slice none 0 0) 0 [] rfl (World.ownsRow_nil _ _ _ _) (some ⟨wr.heap.size, 0, none⟩) 1 1 [(s, r)] rfl Hn3.out (fun e => by cases e) (by decide) (by decide) (by simp) ?_; intro v7 w7 ho7 hg7; have H7 := Lib.hid (And.intro ho7 hg7); clear ho7 hg7; refine hK _ _ ?_))
        have hg7 : (wr.alloc (.cells (opCells s r).toArray 63)).grownBy w7 none := H7.out.2
        have hb7 : Below w2.heap.size w2 w7 := (Hb.out.alloc Hb.out.size _).trans ⟨hg7.os, hg7.tape, hg7.output, hg7.size, fun q hq => hg7.block q (by have := Hb.out.size; simp; omega) (fun e => by cases e)⟩
        have ho7 := H7.out.1
        obtain ⟨A7, c7, rfl⟩ := own_slice_of ho7
        have hs7 : SliceAt 4 encO w7 A7 1 [(s, r)] := own_slice (fun _ => rfl) ho7 rfl (by decide)
        obtain ⟨B, o, rfl, hB, hr⟩ := hs7.cells 0 (s, r) rfl
        have hB2 : w.heap.size ≤ B := by
          rcases ho7.2 with ⟨e, _⟩ | ⟨g5, _, _, e, h5, _⟩
          · cases e
          · cases e
            have := Hb2.out.size
            have := Hb.out.size
            omega
        go_roundw
        case rel => exact ⟨_, _, _, _, _, _, _, _, _, _, _, _, _, _, _, _, ⟨hb7, .inr ⟨rfl, B, o, c7, rfl, ⟨hB2, hB⟩, fun j v hv => by have q := hr j v hv; rwa [Nat.zero_mul, Nat.zero_add] at q⟩⟩, rfl⟩
        case measure => simp [intOf]
      · go_wp2_with fail
        go_ret
        exact ⟨_, 1, c3, rfl, Hb2.out.trans (hb.mono Hb2.out.size), .inr ⟨rfl, s, r, B, o, HD.out, rfl, hB, hr⟩⟩
  | _ :: _ :: _, h, _ => simp at h
end Go.Proofs.Ytoleiiicbnmhpaa
namespace Go.Proofs.Ytoleiiicbnmhpaa
open Go.RowKit
open Go.Maps (Keyed)
/-- A desk with the slot 1 open. -/
def dk (r : OpR) : Nat → Option OpR := updD (fun _ => none) 1 (some r)
theorem dk_at (r : OpR) : dk r 1 = some r := by simp [dk, updD]
theorem dk_put (r q : OpR) : updD (dk r) 1 (some q) = dk q := by
  funext k
  simp only [dk, updD]
  split <;> rfl
theorem dk_del (r : OpR) : updD (dk r) 1 none = fun _ => none := by
  funext k
  simp only [dk, updD]
  split <;> rfl
theorem dk_only {r : OpR} (a b : Nat) (x y : OpR) (ha : dk r a = some x) (hb : dk r b = some y) : a = b := by
  simp only [dk, updD] at ha hb
  split at ha
  · split at hb
    · omega
    · cases hb
  · cases ha
theorem dk_low {r : OpR} (s : Nat) (x : OpR) (h : dk r s = some x) : s = 1 ∧ x = r := by
  simp only [dk, updD] at h
  split at h
  · next e => cases h; exact ⟨e, rfl⟩
  · cases h
/-- Between two steps. -/
structure WkI (w0 : World) (p g n : Nat) (Dm : Nat → Option OpR) (y : World) : Prop where
  d : DeskAt y p g n Dm 1
  bel : Below w0.heap.size w0 y
  pg : w0.heap.size ≤ p ∧ w0.heap.size ≤ g
theorem WkI.below {w0 y y' : World} {p g n : Nat} {Dm : Nat → Option OpR} (h : WkI w0 p g n Dm y) (hb : Below y.heap.size y y') : WkI w0 p g n Dm y' := ⟨h.d.below hb, h.bel.trans (hb.mono h.bel.size), h.pg⟩
theorem WkI.next {w0 y y' : World} {p g n m : Nat} {Dm De : Nat → Option OpR} (h : WkI w0 p g n Dm y) (hd : DeskAt y' p g m De 1) (hb : ButTwo p g y y') : WkI w0 p g m De y' := ⟨hd, hb.below h.bel h.bel.size h.pg.1 h.pg.2, h.pg⟩
/-- A load behind a guard that says yes. Over any program. -/
theorem wpList_load_grd {P : Program} {ops : Array Oper} {rest : List Oper} {op : Oper} {a : Act} {w : World} {Q : Exit → Act → World → Prop} (ty : TypeId) (x : Operand) (ho : op.op = .load ty x)
    (b o : Nat) (hx : a.eval x = .pointer (some ⟨b, o, none⟩)) (cs : List Value) (d : TypeDesc) (hc : w.rangeAt b o cs) (hu : P.underlying ty = some d) (hd : d.isRow = true) (hi : (P.info? ty).map (·.size) = some cs.length)
    (hw : Region.wanted op (yielded ops a.tmps) = true) (h : wpList P ops Q rest (a.put op.dst (.agg cs.toArray)) w) : wpList P ops Q (op :: rest) a w :=
  BigFrame.wpList_want hw fun _ hK => wp_load_mid ty x ho b o hx cs d hc hu hd hi (hK _ _ h)
theorem range_block {w w' : World} {B o : Nat} {cs : List Value} (h : w.rangeAt B o cs) (e : w'.heap[B]? = w.heap[B]?) : w'.rangeAt B o cs := fun j v hv => by
  rw [← h j v hv]
  simp only [World.cell?, e]
/-- An open slot, out of the desk's blocks. -/
structure OpIn (w : World) (p g B o : Nat) (cs : List Value) : Prop where
  lt : B < w.heap.size
  ne : B ≠ p ∧ B ≠ g
  cells : w.rangeAt B o cs
theorem OpIn.below {w w' : World} {p g B o : Nat} {cs : List Value} (h : OpIn w p g B o cs) (hb : Below w.heap.size w w') : OpIn w' p g B o cs := ⟨Nat.lt_of_lt_of_le h.lt hb.size, h.ne, range_block h.cells (hb.block B h.lt)⟩
theorem OpIn.two {w w' : World} {p g B o : Nat} {cs : List Value} (h : OpIn w p g B o cs) (hb : ButTwo p g w w') : OpIn w' p g B o cs := ⟨Nat.lt_of_lt_of_le h.lt hb.size, h.ne, range_block h.cells (hb.block B h.lt h.ne.1 h.ne.2)⟩
set_option maxRecDepth 100000 in
set_option maxHeartbeats 16000000 in
theorem pwakes_any (w : World) : Calls Try.prog 7 #[] w fun e w' => e = .returned (.bool true) ∧ Below w.heap.size w w' := by
  have Hnew := Lib.hid dnew_any
  go_enter Try.func7, Try.ntmps7
  go_upto_region 2 with ((with_reducible refine (Hnew.out _).mono ?_); rintro e w1 ⟨rfl, hd, hb⟩; have H1 := Lib.hid (And.intro hd hb); clear hd hb)
  clear Hnew
  obtain ⟨p, hp⟩ : ∃ p, w.heap.size + 1 = p := ⟨_, rfl⟩
  obtain ⟨g, hg⟩ : ∃ g, w.heap.size = g := ⟨_, rfl⟩
  have Hpg := Lib.hid (show w.heap.size ≤ p ∧ w.heap.size ≤ g by omega)
  have H1 := Lib.hid (show DeskAt w1 p g 0 (fun _ => none) 0 ∧ (True ∧ Below w.heap.size w w1) from ⟨by rw [← hp, ← hg]; exact H1.out.1, trivial, H1.out.2⟩)
  rw [hp]
  clear hp
  have hop := dopen_ok p g 0 0 (fun _ => none) 1 ⟨#[97]⟩ 7 (by decide) (by decide) (by decide) (by decide) w1 H1.out.1
  have Hop := Lib.hid (show Calls Try.prog 11 #[.pointer (some ⟨p, 0, none⟩), .int .u64 1, .string ⟨#[97]⟩, .int .u8 7] w1 fun e w' => e = .returned (.int .i64 0) ∧ DeskAt w' p g 1 (dk ⟨⟨#[97]⟩, 7, 0⟩) 1 ∧ ButTwo p g w1 w' from hop)
  clear hop
  go_upto_region 3 with ((with_reducible refine Hop.out.mono ?_); rintro e w2 ⟨rfl, hd, hb⟩; have H2 := Lib.hid (And.intro hd hb); clear hd hb)
  have HI := Lib.hid (show WkI w p g 1 (dk ⟨⟨#[97]⟩, 7, 0⟩) w2 from ⟨H2.out.1, H2.out.2.below H1.out.2.2 H1.out.2.2.size Hpg.out.1 Hpg.out.2, Hpg.out⟩)
  clear H1 H2 Hop Hpg hg
  have Hv := Lib.hid (show Calls Try.prog 13 #[.pointer (some ⟨p, 0, none⟩), .int .u8 0, .int .u64 1] w2 fun e w' => e = .returned (.tuple #[.agg (itCells 0 ByteArray.empty).toArray, .bool false]) ∧ DeskAt w' p g 2 (dk ⟨⟨#[97]⟩, 7, 1⟩) 1 ∧ ButTwo p g w2 w' from (by have q := voted_more p g 1 1 (dk ⟨⟨#[97]⟩, 7, 0⟩) 0 1 ⟨⟨#[97]⟩, 7, 0⟩ (dk_at _) (by decide) (by decide) (by decide) (by decide) (by decide) (by decide) (by decide) _ HI.out.d; rw [dk_put] at q; exact q))
  go_upto_region 4 with (first
    | ((with_reducible refine Hv.out.mono ?_); rintro e w3 ⟨rfl, hd, hb⟩; have Hk := Lib.hid (HI.out.next hd hb); clear hd hb)
    | ((with_reducible refine wpList_store_mid rfl 34 _ _ rfl w3.heap.size 0 _ rfl rfl ?_ ?_ ?_ ?_); exact th_new w3 (itCells 0 ByteArray.empty) 34; exact it_size 0 ByteArray.empty; exact all_oneCell_toArray (it_one 0 ByteArray.empty)))
  have HI := Lib.hid Hk.out
  clear Hv Hk
  change Code.wp _ _ _ _ ((w3.alloc (.cells (itCells 0 ByteArray.empty).toArray 34)).setCells w3.heap.size 0 (itCells 0 ByteArray.empty))
  have hbx := box_below w3 (itCells 0 ByteArray.empty) (itCells 0 ByteArray.empty) 34
  have HI := Lib.hid (HI.out.below hbx)
  clear hbx
  generalize (w3.alloc (.cells (itCells 0 ByteArray.empty).toArray 34)).setCells w3.heap.size 0 (itCells 0 ByteArray.empty) = w3b at *
  have Hv := Lib.hid (show Calls Try.prog 13 #[.pointer (some ⟨p, 0, none⟩), .int .u8 0, .int .u64 1] w3b fun e w' => e = .returned (.tuple #[.agg (itCells 0 ByteArray.empty).toArray, .bool false]) ∧ DeskAt w' p g 3 (dk ⟨⟨#[97]⟩, 7, 1⟩) 1 ∧ ButTwo p g w3b w' from (by have q := voted_more p g 2 1 (dk ⟨⟨#[97]⟩, 7, 1⟩) 0 1 ⟨⟨#[97]⟩, 7, 1⟩ (dk_at _) (by decide) (by decide) (by decide) (by decide) (by decide) (by decide) (by decide) _ HI.out.d; rw [dk_put] at q; exact q))
  go_upto_region 5 with (first
    | ((with_reducible refine Hv.out.mono ?_); rintro e w4 ⟨rfl, hd, hb⟩; have Hk := Lib.hid (HI.out.next hd hb); clear hd hb)
    | ((with_reducible refine wpList_store_mid rfl 34 _ _ rfl w4.heap.size 0 _ rfl rfl ?_ ?_ ?_ ?_); exact th_new w4 (itCells 0 ByteArray.empty) 34; exact it_size 0 ByteArray.empty; exact all_oneCell_toArray (it_one 0 ByteArray.empty)))
  have HI := Lib.hid Hk.out
  clear Hv Hk
  change Code.wp _ _ _ _ ((w4.alloc (.cells (itCells 0 ByteArray.empty).toArray 34)).setCells w4.heap.size 0 (itCells 0 ByteArray.empty))
  have hbx := box_below w4 (itCells 0 ByteArray.empty) (itCells 0 ByteArray.empty) 34
  have HI := Lib.hid (HI.out.below hbx)
  clear hbx
  generalize (w4.alloc (.cells (itCells 0 ByteArray.empty).toArray 34)).setCells w4.heap.size 0 (itCells 0 ByteArray.empty) = w4b at *
  have Hv := Lib.hid (show Calls Try.prog 13 #[.pointer (some ⟨p, 0, none⟩), .int .u8 3, .int .u64 1] w4b fun e w' => e = .returned (.tuple #[.agg (itCells 0 ByteArray.empty).toArray, .bool false]) ∧ Below w4b.heap.size w4b w' from (voted_not p g 3 1 (dk ⟨⟨#[97]⟩, 7, 1⟩) 3 1 ⟨⟨#[97]⟩, 7, 1⟩ (dk_at _) (by decide) (by decide) (by decide) (by decide) _ HI.out.d))
  go_upto_region 6 with (first
    | ((with_reducible refine Hv.out.mono ?_); rintro e w5 ⟨rfl, hb⟩; have Hk := Lib.hid (HI.out.below hb); clear hb)
    | ((with_reducible refine wpList_store_mid rfl 34 _ _ rfl w5.heap.size 0 _ rfl rfl ?_ ?_ ?_ ?_); exact th_new w5 (itCells 0 ByteArray.empty) 34; exact it_size 0 ByteArray.empty; exact all_oneCell_toArray (it_one 0 ByteArray.empty)))
  have HI := Lib.hid Hk.out
  clear Hv Hk
  change Code.wp _ _ _ _ ((w5.alloc (.cells (itCells 0 ByteArray.empty).toArray 34)).setCells w5.heap.size 0 (itCells 0 ByteArray.empty))
  have hbx := box_below w5 (itCells 0 ByteArray.empty) (itCells 0 ByteArray.empty) 34
  have HI := Lib.hid (HI.out.below hbx)
  clear hbx
  generalize (w5.alloc (.cells (itCells 0 ByteArray.empty).toArray 34)).setCells w5.heap.size 0 (itCells 0 ByteArray.empty) = w5b at *
  have Hv := Lib.hid (all1_any p g 3 1 (dk ⟨⟨#[97]⟩, 7, 1⟩) dk_only (by decide) (fun s r h => by have k := (dk_low s r h).1; omega) w5b HI.out.d)
  go_upto_region 7 with ((with_reducible refine Hv.out.mono ?_); rintro e w6 ⟨A, m, c, rfl, hb, hal⟩; have H6 := Lib.hid (And.intro hb hal); clear hb hal)
  have Hlt := Lib.hid (And.intro HI.out.d.lt HI.out.d.mp.lt)
  have HI := Lib.hid (HI.out.below H6.out.1)
  obtain ⟨hb6, ⟨-, hno⟩ | ⟨rfl, s6, r6, B, bo, hD6, rfl, hB6, hr6⟩⟩ := H6.out
  · exact absurd ((dk_at _).symm.trans (hno 1 (by decide))) (by simp)
  obtain ⟨rfl, rfl⟩ := dk_low s6 r6 hD6
  have HR := Lib.hid (show OpIn w6 p g B bo (opCells 1 ⟨⟨#[97]⟩, 7, 1⟩) from ⟨hB6.2, ⟨by have := Hlt.out.1; omega, by have := Hlt.out.2; omega⟩, hr6⟩)
  clear hD6 hB6 hr6 hb6 H6 Hv Hlt
  have Hv := Lib.hid (show Calls Try.prog 13 #[.pointer (some ⟨p, 0, none⟩), .int .u8 2, .int .u64 1] w6 fun e w' => e = .returned (.tuple #[.agg (itCells 1 ⟨#[97]⟩).toArray, .bool true]) ∧ DeskAt w' p g 3 (fun _ => none) 1 ∧ ButTwo p g w6 w' from (by have q := voted_wins p g 3 1 (dk ⟨⟨#[97]⟩, 7, 1⟩) 2 1 ⟨⟨#[97]⟩, 7, 1⟩ (dk_at _) (by decide) (by decide) (by decide) (by decide) (by decide) (by decide) _ HI.out.d; rw [dk_del] at q; exact q))
  go_upto_region 8 with (first
    | ((with_reducible refine Hv.out.mono ?_); rintro e w7 ⟨rfl, hd, hb⟩; have Hk := Lib.hid (And.intro (HI.out.next hd hb) (HR.out.two hb)); clear hd hb)
    | ((with_reducible refine wpList_store_mid rfl 34 _ _ rfl w7.heap.size 0 _ rfl rfl ?_ ?_ ?_ ?_); exact th_new w7 (itCells 0 ByteArray.empty) 34; exact it_size 1 ⟨#[97]⟩; exact all_oneCell_toArray (it_one 1 ⟨#[97]⟩)))
  have HI := Lib.hid Hk.out.1
  have HR := Lib.hid Hk.out.2
  clear Hv Hk
  change Code.wp _ _ _ _ ((w7.alloc (.cells (itCells 0 ByteArray.empty).toArray 34)).setCells w7.heap.size 0 (itCells 1 ⟨#[97]⟩))
  have hbx := box_below w7 (itCells 0 ByteArray.empty) (itCells 1 ⟨#[97]⟩) 34
  have HI := Lib.hid (HI.out.below hbx)
  have HR := Lib.hid (HR.out.below hbx)
  have HT := Lib.hid (show ItAt ((w7.alloc (.cells (itCells 0 ByteArray.empty).toArray 34)).setCells w7.heap.size 0 (itCells 1 ⟨#[97]⟩)) w7.heap.size 1 ⟨#[97]⟩ from box_row w7 (itCells 0 ByteArray.empty) (itCells 1 ⟨#[97]⟩) 34 rfl)
  clear hbx
  generalize (w7.alloc (.cells (itCells 0 ByteArray.empty).toArray 34)).setCells w7.heap.size 0 (itCells 1 ⟨#[97]⟩) = w7b at *
  have Hv := Lib.hid (show Calls Try.prog 13 #[.pointer (some ⟨p, 0, none⟩), .int .u8 1, .int .u64 1] w7b fun e w' => e = .returned (.tuple #[.agg (itCells 0 ByteArray.empty).toArray, .bool false]) ∧ Below w7b.heap.size w7b w' from (voted_none p g 3 1 (fun _ => none) 1 1 rfl (by decide) _ HI.out.d))
  go_upto_region 9 with (first
    | ((with_reducible refine Hv.out.mono ?_); rintro e w8 ⟨rfl, hb⟩; have Hk := Lib.hid (And.intro (HI.out.below hb) (And.intro (HR.out.below hb) (HT.out.below hb))); clear hb)
    | ((with_reducible refine wpList_store_mid rfl 34 _ _ rfl w8.heap.size 0 _ rfl rfl ?_ ?_ ?_ ?_); exact th_new w8 (itCells 0 ByteArray.empty) 34; exact it_size 0 ByteArray.empty; exact all_oneCell_toArray (it_one 0 ByteArray.empty)))
  have HI := Lib.hid Hk.out.1
  have HR := Lib.hid Hk.out.2.1
  have HT := Lib.hid Hk.out.2.2
  clear Hv Hk
  change Code.wp _ _ _ _ ((w8.alloc (.cells (itCells 0 ByteArray.empty).toArray 34)).setCells w8.heap.size 0 (itCells 0 ByteArray.empty))
  have hbx := box_below w8 (itCells 0 ByteArray.empty) (itCells 0 ByteArray.empty) 34
  have HI := Lib.hid (HI.out.below hbx)
  have HR := Lib.hid (HR.out.below hbx)
  have HT := Lib.hid (HT.out.below hbx)
  clear hbx
  generalize (w8.alloc (.cells (itCells 0 ByteArray.empty).toArray 34)).setCells w8.heap.size 0 (itCells 0 ByteArray.empty) = w8b at *
  have Hos := Lib.hid (show ∀ y : World, DeskAt y p g 3 (fun _ => none) 1 → Calls Try.prog 11 #[.pointer (some ⟨p, 0, none⟩), .int .u64 1, .string ⟨#[98]⟩, .int .u8 7] y fun e w' => e = .returned (.int .i64 13) ∧ Below y.heap.size y w' from fun y h => dopen_state p g 3 1 (fun _ => none) 1 ⟨#[98]⟩ 7 (by decide) (by decide) y h)
  have Hae := Lib.hid (fun (y : World) (h : DeskAt y p g 3 (fun _ => none) 1) => all1_any p g 3 1 (fun _ => none) (fun _ _ _ _ h _ => absurd h (by simp)) (by decide) (fun _ _ h => absurd h (by simp)) y h)
  have Hls := Lib.hid (show ∀ y : World, DeskAt y p g 3 (fun _ => none) 1 → Calls Try.prog 17 #[.pointer (some ⟨p, 0, none⟩)] y fun e w' => e = .returned (.int .u64 1) ∧ Below y.heap.size y w' from fun y h => dlast_any p g 3 1 (fun _ => none) y h)
  have hIT : (Try.prog.info? 34).map (·.size) = some [(.int .u64 1 : Value), .string ⟨#[97]⟩].length := it_size 1 ⟨#[97]⟩
  have hOP : (Try.prog.info? 63).map (·.size) = some [(.int .u64 1 : Value), .string ⟨#[97]⟩, .int .u8 7, .int .u8 1].length := op_size 1 ⟨⟨#[97]⟩, 7, 1⟩
  have Hrl := Lib.hid (show w8b.rangeAt B bo [.int .u64 1, .string ⟨#[97]⟩, .int .u8 7, .int .u8 1] from HR.out.cells)
  have Hil := Lib.hid (show w8b.rangeAt w7.heap.size 0 [.int .u64 1, .string ⟨#[97]⟩] from range_row HT.out)
  go_wp2_with (first
    | ((with_reducible refine wpList_load_grd 63 _ rfl B bo rfl [.int .u64 1, .string ⟨#[97]⟩, .int .u8 7, .int .u8 1] _ Hrl.out Try.underlying63 rfl hOP ?_ ?_); exact (Eq.refl true))
    | ((with_reducible refine wpList_load_grd 63 _ rfl B (bo + 0 * 4) rfl [.int .u64 1, .string ⟨#[97]⟩, .int .u8 7, .int .u8 1] _ Hrl.out Try.underlying63 rfl hOP ?_ ?_); exact (Eq.refl true))
    | ((with_reducible refine wpList_load_grd 34 _ rfl w7.heap.size 0 rfl [.int .u64 1, .string ⟨#[97]⟩] _ Hil.out Try.underlying34 rfl hIT ?_ ?_); exact (Eq.refl true))
    | ((with_reducible refine (Hos.out _ HI.out.d).mono ?_); rintro e wa ⟨rfl, hb⟩; have HI := Lib.hid (HI.out.below hb); clear hb)
    | ((with_reducible refine (Hae.out _ HI.out.d).mono ?_); rintro e wb ⟨A, m, c, rfl, hb, hal⟩; have hm : m = 0 := hal.elim (·.1) (fun q => by obtain ⟨-, s6, r6, B6, o6, q, -⟩ := q; cases q); subst hm; have HI := Lib.hid (HI.out.below hb); clear hb hal)
    | ((with_reducible refine (Hls.out _ HI.out.d).mono ?_); rintro e wc ⟨rfl, hb⟩; have HI := Lib.hid (HI.out.below hb); clear hb))
  go_ret
  exact ⟨rfl, HI.out.bel⟩
end Go.Proofs.Ytoleiiicbnmhpaa
namespace Go.Proofs.Ytoleiiicbnmhpaa
open Go.RowKit
open Go.Maps (Keyed)
open Go.ChangeShapes Go.WideShapes Go.Deep Go.RowKit
structure PAct where
  d : BitVec 8
  s : BitVec 64
  x : ByteArray
  c : BitVec 8
  nd : BitVec 8
def pactCells (a : PAct) : List Value := [.int .u8 (a.d.toNat : Int), .int .u64 (a.s.toNat : Int), .string a.x, .int .u8 (a.c.toNat : Int), .int .u8 (a.nd.toNat : Int)]
theorem tr_u8 {n : Int} (h : (Lit.int .u8 n).wf = true) : ∃ x : BitVec 8, n = (x.toNat : Int) := by
  have h' : 0 ≤ n ∧ n ≤ 255 := by simpa [Lit.wf, IntKind.min, IntKind.max, IntKind.signed, IntKind.bits] using h
  exact ⟨BitVec.ofInt 8 n, by simp only [BitVec.toNat_ofInt]; omega⟩
theorem tr_u64 {n : Int} (h : (Lit.int .u64 n).wf = true) : ∃ x : BitVec 64, n = (x.toNat : Int) := by
  have h' : 0 ≤ n ∧ n ≤ 18446744073709551615 := by simpa [Lit.wf, IntKind.min, IntKind.max, IntKind.signed, IntKind.bits] using h
  exact ⟨BitVec.ofInt 64 n, by simp only [BitVec.toNat_ofInt]; omega⟩
theorem pact_hx {H : Type} {enc : TypeId × Value → H} {w : World} {base : Nat} {spare : Nat → Bool} {held : Bool} {fs : Array Field} (he : Try.prog.underlying 40 = some (.struct fs)) (vs : List Value) (hl : vs.length = fs.size)
    (hf : ∀ (j : Nat) (f : Field), fs[j]? = some f → ∃ (v : Value) (y : DataW H × List MemPlace) (n : Nat), vs[j]? = some v ∧ DataW.trod enc Try.prog w base spare held n f.type [v] = some y) : ∃ x : PAct, vs = pactCells x := by
  obtain rfl := (TypeDesc.struct.inj (Option.some.inj (he.symm.trans Try.underlying40)))
  obtain ⟨v0, y0, n0, e0, t0⟩ := hf 0 _ rfl
  obtain ⟨v1, y1, n1, e1, t1⟩ := hf 1 _ rfl
  obtain ⟨v2, y2, n2, e2, t2⟩ := hf 2 _ rfl
  obtain ⟨v3, y3, n3, e3, t3⟩ := hf 3 _ rfl
  obtain ⟨v4, y4, n4, e4, t4⟩ := hf 4 _ rfl
  obtain ⟨m0, q0, _, f0⟩ := DataW.trod_int Try.underlying5 t0
  obtain ⟨m1, q1, _, f1⟩ := DataW.trod_int Try.underlying31 t1
  obtain ⟨m2, q2, _, _⟩ := DataW.trod_string Try.underlying9 t2
  obtain ⟨m3, q3, _, f3⟩ := DataW.trod_int Try.underlying5 t3
  obtain ⟨m4, q4, _, f4⟩ := DataW.trod_int Try.underlying5 t4
  obtain ⟨x0, rfl⟩ := tr_u8 f0
  obtain ⟨x1, rfl⟩ := tr_u64 f1
  obtain ⟨x3, rfl⟩ := tr_u8 f3
  obtain ⟨x4, rfl⟩ := tr_u8 f4
  simp only [List.cons.injEq, and_true] at q0 q1 q2 q3 q4
  subst q0 q1 q2 q3 q4
  refine ⟨⟨x0, x1, m2, x3, x4⟩, ?_⟩
  match vs, hl with
  | [a0, a1, a2, a3, a4], _ =>
    simp only [List.getElem?_cons_zero, List.getElem?_cons_succ, Option.some.injEq] at e0 e1 e2 e3 e4
    rw [e0, e1, e2, e3, e4]
    rfl
end Go.Proofs.Ytoleiiicbnmhpaa
namespace Go.Proofs.Ytoleiiicbnmhpaa
open Go.RowKit
def pickI (a b : List UInt8) : List UInt8 := a.filter fun x => hasB b x
theorem pickI_take {a b : List UInt8} {i : Nat} (hi : i < a.length) : pickI (a.take (i + 1)) b = pickI (a.take i) b ++ (if hasB b (a.getD i 0) = true then [a.getD i 0] else []) := by
  unfold pickI
  rw [List.take_succ_eq_append_getElem hi, List.filter_append]
  have e : a.getD i 0 = a[i] := by simp [List.getD, List.getElem?_eq_getElem hi]
  rw [e]
  cases h : hasB b a[i] <;> simp [h]
set_option maxRecDepth 100000 in
set_option maxHeartbeats 4000000 in
theorem pickI_any (va vb : Value) (a b : List UInt8) (ha : a.length ≤ 1000) (hb : b.length ≤ 1000) (w : World) (h1 : ReadB w va a) (h2 : ReadB w vb b) :
    Calls Try.prog 37 #[va, vb, .bool true] w fun e w' => ∃ v, e = .returned v ∧ OwnB w' w.heap.size 5 v (pickI a b) ∧ Below w.heap.size w w' := by
  obtain ⟨i0, hi0, hz0, hs0, hb0⟩ := info_parts info8
  obtain ⟨aa, ca, rfl, _, _⟩ := h1.out
  have H1 := Lib.hid h1; clear h1
  have H2 := Lib.hid h2; clear h2
  go_enter Try.func37, Try.ntmps37
  go_wp2_with fail
  go_loopw [7, 8] (fun s7 s8 wr => ∃ i : Nat, i ≤ a.length ∧ s8 = .int .i64 (i : Int) ∧ OwnB wr w.heap.size 5 s7 (pickI (a.take i) b) ∧ Below w.heap.size w wr) (fun _ s8 _ => a.length - (intOf s8).toNat)
  case atStart => exact ⟨0, by omega, rfl, ⟨rfl, .inl ⟨rfl, rfl⟩⟩, Below.refl _ _⟩
  case round =>
    obtain ⟨i, hi, rfl, ho, hbl⟩ := hrel
    have Ho := Lib.hid ho; clear ho
    have Hb := Lib.hid hbl; clear hbl
    by_cases hlt : i < a.length
    · have hlt' : (i : Int) < (a.length : Int) := by omega
      have hsucc := tsucc (n := i) (by omega)
      have hst := pickI_take (b := b) hlt
      obtain ⟨g, o, c', e, _, c0⟩ := readB_at (H1.out.below Hb.out) hlt
      cases e
      have hpl : (pickI (a.take i) b).length ≤ 1000 := by
        have h3 := List.length_filter_le (fun x => hasB b x) (a.take i)
        rw [List.length_take] at h3
        unfold pickI
        omega
      generalize a.getD i 0 = y at *
      have Hst := Lib.hid hst; clear hst
      have Hh := Lib.hid (has8_any vb b y (by omega) wr (H2.out.below Hb.out))
      obtain ⟨hv, hhv⟩ : ∃ q, hasB b y = q := ⟨_, rfl⟩
      rw [hhv] at Hh Hst
      clear hhv
      have Hlw := Lib.hid (show w.heap.size ≤ wr.heap.size from Hb.out.size)
      have Hone := Lib.hid (ReadB.one wr y 5)
      cases hv with
      | false =>
        go_wp2_with ((with_reducible refine Hh.out.mono ?_); rintro e w' ⟨rfl, rfl⟩)
        go_roundw
        case rel => exact ⟨i + 1, hlt, rfl, by rw [Hst.out, if_neg (by simp), List.append_nil]; exact Ho.out, Hb.out⟩
        case measure => simp [intOf]; omega
      | true =>
        go_wp2_with (first
          | ((with_reducible refine Hh.out.mono ?_); rintro e w' ⟨rfl, rfl⟩)
          | (at_builtin; refine wpList_append_read rfl _ _ 22 rfl w.heap.size 5 i0 (.int .u8 0) Try.underlying22 hi0 hz0 hs0 hb0 rfl _ _ _ rfl (World.ownsRow.alloc Ho.out _) _ _ rfl Hone.out (by simp; omega) (by simp; have := Hlw.out; omega) ?_; intro v4 w4 ho4 hg4; have Hg4 := Lib.hid hg4; clear hg4; have Ho4 := Lib.hid ho4; clear ho4))
        go_roundw
        case rel =>
          refine ⟨i + 1, hlt, rfl, ?_, below_grown Hg4.out (Hb.out.alloc Hlw.out _) (by simp; have := Hlw.out; omega) (fun k hk => (World.ownsRow.lt Ho.out k hk).1)⟩
          rw [Hst.out, if_pos (by simp)]
          exact OwnB.of Ho4.out rfl rfl
        case measure => simp [intOf]; omega
    · have hlt' : ¬ (i : Int) < (a.length : Int) := by omega
      go_wp2_with fail
      go_ret
      refine ⟨_, rfl, ?_, Hb.out⟩
      have h3 := Ho.out
      rwa [List.take_of_length_le (by omega)] at h3
theorem ownB_len {w : World} {base : Nat} {t : TypeId} {v : Value} {l : List UInt8} (h : OwnB w base t v l) : ∃ A c, v = .slice A l.length c := by
  rcases h.2 with ⟨rfl, h0⟩ | ⟨g, cap, cur, rfl, _⟩
  · exact ⟨none, 0, by rw [h0]⟩
  · exact ⟨_, _, rfl⟩
/-- A majority of a: those that b has. -/
def rmajB (a b : List UInt8) : Bool := decide (a.length < 2 * (pickI a b).length)
theorem rmaj_any (va vb : Value) (a b : List UInt8) (ha : a.length ≤ 1000) (hb : b.length ≤ 1000) (w : World) (h1 : ReadB w va a) (h2 : ReadB w vb b) :
    Calls Try.prog 32 #[va, vb] w fun e w' => e = .returned (.bool (rmajB a b)) ∧ Below w.heap.size w w' := by
  have H := Lib.hid (pickI_any va vb a b ha hb w h1 h2)
  obtain ⟨aa, ca, rfl, _, _⟩ := h1.out
  have hpl : (pickI a b).length ≤ 1000 := by
    have h3 := List.length_filter_le (fun x => hasB b x) a
    unfold pickI
    omega
  have hr : rmajB a b = decide ((a.length : Int) < 2 * ((pickI a b).length : Int)) := by unfold rmajB; exact decide_eq_decide.2 ⟨fun h => by omega, fun h => by omega⟩
  have HR := Lib.hid hr
  clear hr h1 h2 hb
  go_enter Try.func32, Try.ntmps32
  go_wp2_with ((with_reducible refine H.out.mono ?_); rintro e w' ⟨v, rfl, ho, hbl⟩; obtain ⟨A5, c5, rfl⟩ := ownB_len ho; have Hb := Lib.hid hbl; clear hbl ho)
  go_ret
  exact ⟨by rw [HR.out]; rfl, Hb.out⟩
/-- A set's number, by its bits. -/
def sumB (p : Nat → Bool) : Nat → Nat
  | 0 => 0
  | i + 1 => sumB p i + (if p i then 2 ^ i else 0)
theorem sumB_lt (p : Nat → Bool) : ∀ i, sumB p i < 2 ^ i
  | 0 => by simp [sumB]
  | i + 1 => by
    have := sumB_lt p i
    unfold sumB
    rw [Nat.pow_succ]
    split <;> omega
def setB (l : List UInt8) : Nat := sumB (fun i => hasB l (UInt8.ofNat i)) 7
set_option maxRecDepth 100000 in
set_option maxHeartbeats 4000000 in
theorem set8_any (v : Value) (l : List UInt8) (hl : l.length ≤ 1000) (w : World) (h : ReadB w v l) :
    Calls Try.prog 33 #[v] w fun e w' => e = .returned (.int .u8 (setB l : Int)) ∧ w = w' := by
  obtain ⟨aa, ca, rfl, _, _⟩ := h.out
  have H := Lib.hid h; clear h
  have h128 : setB l < 2 ^ 7 := sumB_lt _ 7
  go_enter Try.func33, Try.ntmps33
  go_wp2_with fail
  go_loopw [3, 4, 5] (fun s3 s4 s5 wr => w = wr ∧ ∃ i : Nat, i ≤ 7 ∧ s5 = .int .i64 (i : Int) ∧ s4 = .int .i64 ((2 ^ i : Nat) : Int) ∧ s3 = .int .i64 (sumB (fun i => hasB l (UInt8.ofNat i)) i : Int)) (fun _ _ s5 _ => 7 - (intOf s5).toNat)
  case atStart => exact ⟨rfl, 0, by omega, rfl, rfl, rfl⟩
  case round =>
    obtain ⟨rfl, i, hi, rfl, rfl, rfl⟩ := hrel
    by_cases h7 : i < 7
    · have h7' : (i : Int) < 7 := by omega
      have hmod : (i : Int) % 256 = (i : Int) := by omega
      have hh := has8_any (.slice aa l.length ca) l (UInt8.ofNat i) (by omega) w H.out
      rw [show ((UInt8.ofNat i).toNat : Int) = (i : Int) by simp; omega] at hh
      have hst : sumB (fun i => hasB l (UInt8.ofNat i)) (i + 1) = sumB (fun i => hasB l (UInt8.ofNat i)) i + (if hasB l (UInt8.ofNat i) then 2 ^ i else 0) := rfl
      have hs := sumB_lt (fun i => hasB l (UInt8.ofNat i)) i
      have hp : 2 ^ i ≤ 64 := by
        have : 2 ^ i ≤ 2 ^ 6 := Nat.pow_le_pow_right (by decide) (by omega)
        simpa using this
      have hp2 : 2 ^ (i + 1) = 2 * 2 ^ i := by rw [Nat.pow_succ]; omega
      obtain ⟨b, hb⟩ : ∃ b, b = hasB l (UInt8.ofNat i) := ⟨_, rfl⟩
      rw [← hb] at hh hst
      have HST := Lib.hid hst
      have HP2 := Lib.hid hp2
      have HH := Lib.hid hh
      clear hst hp2 hh hb
      generalize 2 ^ i = m at *
      generalize hS : sumB (fun i => hasB l (UInt8.ofNat i)) i = S at *
      clear hS
      cases b with
      | true =>
        go_wp2_with ((with_reducible refine HH.out.mono ?_); rintro e w' ⟨rfl, rfl⟩)
        refine ⟨⟨trivial, i + 1, by omega, rfl, by rw [HP2.out]; congr 1, by rw [HST.out]; congr 1⟩, by simp only [intOf]; omega⟩
      | false =>
        go_wp2_with ((with_reducible refine HH.out.mono ?_); rintro e w' ⟨rfl, rfl⟩)
        refine ⟨⟨trivial, i + 1, by omega, rfl, by rw [HP2.out]; congr 1, by rw [HST.out]; congr 1⟩, by simp only [intOf]; omega⟩
    · have h7' : ¬ (i : Int) < 7 := by omega
      have hi7 : i = 7 := by omega
      subst hi7
      have hmod : ((setB l : Nat) : Int) % 256 = (setB l : Int) := by omega
      rw [show sumB (fun i => hasB l (UInt8.ofNat i)) 7 = setB l from rfl]
      generalize hS : setB l = S at *
      have HS := Lib.hid hS
      clear hS
      go_wp2_with fail
      go_ret
      exact ⟨by rw [HS.out]; rfl, rfl⟩
theorem dir_any (s : Nat) (w : World) : Calls Try.prog 29 #[.int .u8 (s : Int)] w fun e w' => e = .returned (.bool (decide (s < 128) && decide (0 < s))) ∧ w = w' := by
  by_cases h1 : s < 128
  · have h1' : (s : Int) < 128 := by omega
    by_cases h2 : 0 < s
    · have h2' : (0 : Int) < (s : Int) := by omega
      have e : (decide (s < 128) && decide (0 < s)) = true := by simp [h1, h2]
      rw [e]
      have E2 := Lib.hid (show decide (0 < s) = true by simp [h2])
      clear e h1 h2
      go_enter Try.func29, Try.ntmps29
      go_wp2_with fail
      go_ret
      exact ⟨show Ending.returned (Value.bool (decide (0 < s))) = _ by rw [E2.out], rfl⟩
    · have h2' : s = 0 := by omega
      subst h2'
      go_enter Try.func29, Try.ntmps29
      go_wp2_with fail
      go_ret
      exact ⟨rfl, rfl⟩
  · have h1' : ¬ (s : Int) < 128 := by omega
    have e : (decide (s < 128) && decide (0 < s)) = false := by simp [h1]
    rw [e]
    clear e h1
    go_enter Try.func29, Try.ntmps29
    go_wp2_with fail
    go_ret
    exact ⟨rfl, rfl⟩
end Go.Proofs.Ytoleiiicbnmhpaa
namespace Go.Proofs.Ytoleiiicbnmhpaa
open Go.RowKit Go.Sort
/-- The row, behind n draws. -/
def rw64 (w : World) (n b : Nat) (d : Array Int) : World := putRow (Value.int .u64) (Sort.ahead w n) b 0 d
/-- The row is d in w. -/
abbrev R64 (w : World) (b : Nat) (d : Array Int) : Prop := Holds (Value.int .u64) w b 0 d
theorem rw_cell {w : World} {b : Nat} {d0 : Array Int} (h : R64 w b d0) (n : Nat) {d : Array Int} (hs : d.size = d0.size) (i : Nat) (hi : i < d0.size) : (rw64 w n b d).cell? ⟨b, i, none⟩ = some (.int .u64 d[i]!) := by
  have q := cell?_putRow (Value.int .u64) _ b 0 d0 d (holds_ahead _ _ n _ _ _ h) hs i (by omega)
  rwa [Nat.zero_add] at q
theorem rw_thaw {w : World} {b : Nat} {d0 : Array Int} (h : R64 w b d0) (n : Nat) (d : Array Int) (i : Nat) (hi : i < d0.size) : (rw64 w n b d).frozen? ⟨b, i, none⟩ = false := by
  have q := (holds_ahead _ _ n _ _ _ h i hi).2
  unfold rw64
  rw [frozen?_putRow]
  rwa [Nat.zero_add] at q
theorem rw_draw (w : World) (n q b : Nat) (d : Array Int) : (rw64 w n b d).drewN q = rw64 w (n + q) b d := putRow_drewN _ w n q b 0 d
theorem rw_swap (w : World) (n q b : Nat) (d : Array Int) (i j : Nat) (hi : i < d.size) (hj : j < d.size) : (((rw64 w n b d).drewN q).setCell ⟨b, i, none⟩ (.int .u64 d[j]!)).setCell ⟨b, j, none⟩ (.int .u64 d[i]!) = rw64 w (n + q) b (swp d i j) := by
  have h := swap_worldA (Value.int .u64) w n q b 0 d i j hi hj
  rwa [Nat.zero_add, Nat.zero_add] at h
theorem rw_new {w : World} {b : Nat} {d : Array Int} (h : R64 w b d) : w = rw64 w 0 b d := (putRow_self _ _ _ _ _ h).symm
theorem rw_holds {w : World} {b : Nat} {d0 d : Array Int} (h : R64 w b d0) (n : Nat) (hs : d.size = d0.size) : R64 (rw64 w n b d) b d := holds_putRow _ _ _ _ _ _ (holds_ahead _ _ n _ _ _ h) hs
theorem nan_any (x : Int) (w : World) : Calls Try.prog 57 #[.int .u64 x] w fun e w' => e = .returned (.bool false) ∧ w' = w := by
  go_enter Try.func57, Try.ntmps57
  go_wp2_with fail
  go_ret
  exact ⟨by simp, rfl⟩
theorem less_any (x y : Int) (w : World) : Calls Try.prog 47 #[.int .u64 x, .int .u64 y] w fun e w' => e = .returned (.bool (ltInt x y)) ∧ w' = w := by
  have H := Lib.hid (fun (z : Int) (y : World) => nan_any z y)
  go_enter Try.func47, Try.ntmps47
  go_wp2_with ((with_reducible refine (H.out _ _).mono ?_); rintro e w' ⟨rfl, rfl⟩)
  go_ret
  exact ⟨rfl, rfl⟩
set_option maxRecDepth 100000 in
theorem ins64 (b cap x y : Nat) (d : Array Int) (w : World) (hR : R64 w b d) (hxy : x ≤ y) (hy : y ≤ d.size) (hsz : d.size < 4611686018427387904) :
    Calls Try.prog 41 #[.slice (some ⟨b, 0, none⟩) d.size cap, .int .i64 (x : Int), .int .i64 (y : Int)] w fun e w' => e = .returned (.tuple #[]) ∧ ∃ n, w' = rw64 w n b (insertionSort ltInt d x y) := by
  have HR := Lib.hid hR
  clear hR
  generalize hL : d.size = L at *
  go_enter Try.func41, Try.ntmps41
  go_upto_region 1 with fail
  go_loopw [6] (fun s6 wr => ∃ (i n : Nat) (c : Array Int), s6 = .int .i64 (i : Int) ∧ x < i ∧ i ≤ y + 1 ∧ c.size = L ∧ wr = rw64 w n b c ∧ insOuter ltInt x y i c = insertionSort ltInt d x y) (fun s6 _ => y + 1 - (intOf s6).toNat)
  case atStart => exact ⟨x + 1, 0, d, rfl, by omega, by omega, hL, rw_new HR.out, rfl⟩
  case round =>
    obtain ⟨i, n, c, rfl, hxi, hiy, hc, hw, ho⟩ := hrel
    have HO := Lib.hid ho
    clear ho
    by_cases hi : i < y
    · have hi' : (i : Int) < (y : Int) := by omega
      go_upto_region 4 with fail
      go_loopw [7] (fun s7 wr2 => ∃ (j m : Nat) (c2 : Array Int), s7 = .int .i64 (j : Int) ∧ x ≤ j ∧ j ≤ i ∧ c2.size = L ∧ wr2 = rw64 w m b c2 ∧ insInner ltInt x j c2 = insInner ltInt x i c) (fun s7 _ => (intOf s7).toNat)
      case atStart => exact ⟨i, n, c, rfl, by omega, Nat.le_refl _, hc, by first | exact hw | rfl, rfl⟩
      case round =>
        clear hw
        obtain ⟨j, m, c2, rfl, hxj, hji, hc2, hw2, hin⟩ := hrel
        have HI := Lib.hid hin
        clear hin
        by_cases hj : x < j
        · have hj' : (x : Int) < (j : Int) := by omega
          have c0 := rw_cell HR.out m (d := c2) (by rw [hc2, hL]) j (by omega)
          have c1 := rw_cell HR.out m (d := c2) (by rw [hc2, hL]) (j - 1) (by omega)
          have t0 := rw_thaw HR.out m c2 j (by omega)
          have t1 := rw_thaw HR.out m c2 (j - 1) (by omega)
          rw [← hw2] at c0 c1 t0 t1
          have HW := Lib.hid hw2
          obtain ⟨vj, hvj⟩ : ∃ v, v = c2[j]! := ⟨_, rfl⟩
          obtain ⟨vk, hvk⟩ : ∃ v, v = c2[j - 1]! := ⟨_, rfl⟩
          rw [← hvj] at c0
          rw [← hvk] at c1
          have HV := Lib.hid (And.intro hvj hvk)
          clear hw2 hvj hvk
          cases hl : ltInt vj vk
          · go_wp2_with fail
            go_quiet (first | (go_at_call 47; exact Calls.quiet_of_same (less_any _ _ _)))
            go_wp2_with fail
            exact ⟨⟨i + 1, m + nq, c2, rfl, by omega, by omega, hc2, by rw [HW.out]; exact rw_draw _ _ _ _ _, by rw [← HO.out, insOuter_go _ _ _ _ _ hi, ← HI.out, insInner_stop _ _ _ _ (.inr (by rw [← HV.out.1, ← HV.out.2]; exact hl))]⟩, by simp only [intOf]; omega⟩
          · go_wp2_with fail
            go_quiet (first | (go_at_call 47; exact Calls.quiet_of_same (less_any _ _ _)))
            go_wp2_with fail
            go_region
            all_goals go_wp2_with fail
            refine ⟨⟨j - 1, m + (nq + 1), swp c2 j (j - 1), by congr 1; omega, by omega, by omega, by rw [size_swp]; exact hc2, ?_, ?_⟩, by simp only [intOf]; omega⟩
            · rw [HW.out, HV.out.1, HV.out.2]
              exact rw_swap w m (nq + 1) b c2 j (j - 1) (by omega) (by omega)
            · rw [← HI.out, insInner_go _ _ _ _ hj (by rw [← HV.out.1, ← HV.out.2]; exact hl)]
        · have hj' : ¬ (x : Int) < (j : Int) := by omega
          go_wp2_with fail
          go_quiet (first | (go_at_call 47; exact Calls.quiet_of_same (less_any _ _ _)))
          go_wp2_with fail
          exact ⟨⟨i + 1, m + nq, c2, rfl, by omega, by omega, hc2, rw_draw _ _ _ _ _, by rw [← HO.out, insOuter_go _ _ _ _ _ hi, ← HI.out, insInner_stop _ _ _ _ (.inl (by omega))]⟩, by simp only [intOf]; omega⟩
    · have hi' : ¬ (i : Int) < (y : Int) := by omega
      go_wp2_with fail
      refine bodyPost_end (results_none rfl _ _ _) rfl ?_
      exact ⟨rfl, n, by rw [← HO.out, insOuter_stop _ _ _ _ _ hi]⟩
end Go.Proofs.Ytoleiiicbnmhpaa
namespace Go.Proofs.Ytoleiiicbnmhpaa
open Go.RowKit Go.Sort
set_option maxRecDepth 100000 in
set_option maxHeartbeats 16000000 in
theorem sift64 (b cap lo hi F : Nat) (d : Array Int) (w : World) (hR : R64 w b d) (hF : F + hi ≤ d.size) (hlo : lo < hi ∨ lo = 0) (hsz : d.size < 1152921504606846976) :
    Calls Try.prog 52 #[.slice (some ⟨b, 0, none⟩) d.size cap, .int .i64 (lo : Int), .int .i64 (hi : Int), .int .i64 (F : Int)] w fun e w' => e = .returned (.tuple #[]) ∧ ∃ n, w' = rw64 w n b (siftDown ltInt hi F lo d) := by
  have HR := Lib.hid hR
  clear hR
  generalize hL : d.size = L at *
  go_enter Try.func52, Try.ntmps52
  go_upto_region 1 with fail
  go_loopw [8] (fun s8 wr => ∃ (r n : Nat) (c : Array Int), s8 = .int .i64 (r : Int) ∧ (r < hi ∨ r = 0) ∧ c.size = L ∧ wr = rw64 w n b c ∧ siftDown ltInt hi F r c = siftDown ltInt hi F lo d) (fun s8 _ => hi - (intOf s8).toNat)
  case atStart => exact ⟨lo, 0, d, rfl, hlo, hL, rw_new HR.out, rfl⟩
  case round =>
    obtain ⟨r, n, c, rfl, hr, hc, hw, ho⟩ := hrel
    have HO := Lib.hid ho
    have HW := Lib.hid hw
    clear ho hlo hw
    have b0 : r < 1152921504606846976 := by omega
    have b1 : F < 1152921504606846976 := by omega
    have b2 : hi < 1152921504606846976 := by omega
    by_cases hend : hi ≤ 2 * r + 1
    · have hend' : (hi : Int) ≤ 2 * (r : Int) + 1 := by omega
      go_wp2_with fail
      refine bodyPost_end (results_none rfl _ _ _) rfl ?_
      exact ⟨rfl, n, by rw [← HO.out, sd_end _ _ hend]; exact HW.out⟩
    · have hend' : ¬ (hi : Int) ≤ 2 * (r : Int) + 1 := by omega
      go_upto_region 3 with fail
      have cellN := fun m i (h : i < L) => rw_cell HR.out m (d := c) (by rw [hc, hL]) i (by omega)
      have thawN := fun m i (h : i < L) => rw_thaw HR.out m c i (by omega)
      obtain ⟨ch, hche⟩ : ∃ y : Nat, y = 2 * r + 1 := ⟨_, rfl⟩
      have hce : 2 * (r : Int) + 1 = (ch : Int) := by omega
      obtain ⟨x0, hx0e⟩ : ∃ y : Nat, y = F + r := ⟨_, rfl⟩
      obtain ⟨x1, hx1e⟩ : ∃ y : Nat, y = F + ch := ⟨_, rfl⟩
      have w1 : IntKind.i64.wrap ((ch : Int) + 1) = (ch : Int) + 1 := by rw [IntKind.wrap_i64]; omega
      have w2 : IntKind.i64.wrap ((F : Int) + (ch : Int)) = (x1 : Int) := by rw [IntKind.wrap_i64]; omega
      have w3 : IntKind.i64.wrap ((x1 : Int) + 1) = ((x1 + 1 : Nat) : Int) := by rw [IntKind.wrap_i64]; omega
      have w4 : IntKind.i64.wrap ((F : Int) + (r : Int)) = (x0 : Int) := by rw [IntKind.wrap_i64]; omega
      have hx0 : x0 < L := by omega
      have hx1 : x1 < L := by omega
      obtain ⟨v0, hv0⟩ : ∃ v, v = c[x0]! := ⟨_, rfl⟩
      have HV0 := Lib.hid hv0
      clear hv0
      obtain ⟨v1, hv1⟩ : ∃ v, v = c[x1]! := ⟨_, rfl⟩
      have HV1 := Lib.hid hv1
      clear hv1
      have HE := Lib.hid (And.intro hx1e (And.intro hx0e hche))
      have c0 := cellN (n) x0 hx0
      have t0 := thawN (n) x0 hx0
      rw [← HW.out, ← HV0.out] at c0
      rw [← HW.out] at t0
      have c1 := cellN (n) x1 hx1
      have t1 := thawN (n) x1 hx1
      rw [← HW.out, ← HV1.out] at c1
      rw [← HW.out] at t1
      rw [hce]
      clear hce
      by_cases h2 : ch + 1 < hi
      · have h2' : (ch : Int) + 1 < (hi : Int) := by omega
        have hx2 : x1 + 1 < L := by omega
        clear hx1e hx0e hche
        obtain ⟨v2, hv2⟩ : ∃ v, v = c[x1 + 1]! := ⟨_, rfl⟩
        have HV2 := Lib.hid hv2
        clear hv2
        have c2 := cellN (n) (x1 + 1) hx2
        have t2 := thawN (n) (x1 + 1) hx2
        rw [← HW.out, ← HV2.out] at c2
        rw [← HW.out] at t2
        cases hl : ltInt v1 v2
        · go_quiet (first | (go_at_call 47; exact Calls.quiet_of_same (less_any _ _ _)))
          revert nq; intro q1
          go_upto_region 5 with fail
          clear c0 c1 t0 t1
          clear c2 t2
          have hwd : wr.drewN q1 = rw64 w (n + q1) b c := by rw [HW.out]; exact rw_draw _ _ _ _ _
          generalize wr.drewN q1 = wr2 at hwd ⊢
          have HW2 := Lib.hid hwd
          clear hwd
          have c0 := cellN (n + q1) x0 hx0
          have t0 := thawN (n + q1) x0 hx0
          rw [← HW2.out, ← HV0.out] at c0
          rw [← HW2.out] at t0
          have c1 := cellN (n + q1) x1 hx1
          have t1 := thawN (n + q1) x1 hx1
          rw [← HW2.out, ← HV1.out] at c1
          rw [← HW2.out] at t1
          have hne : ¬ x0 = x1 := by have := HE.out; omega
          cases hl2 : ltInt v0 v1
          · go_quiet (first | (go_at_call 47; exact Calls.quiet_of_same (less_any _ _ _)))
            go_wp2_with fail
            refine bodyPost_ret (results_none rfl _ _ _) rfl ?_
            refine ⟨rfl, n + q1 + nq, ?_⟩
            rw [← HO.out, sd_left_stop ltInt c (by have := HE.out; omega) (fun _ => by have q := HE.out; rw [show F + (2 * r + 1) = x1 by omega, show F + (2 * r + 2) = x1 + 1 by omega, ← HV1.out, ← HV2.out]; exact hl) (by have q := HE.out; rw [show F + r = x0 by omega, show F + (2 * r + 1) = x1 by omega, ← HV0.out, ← HV1.out]; exact hl2)]
            first | exact rw_draw _ _ _ _ _ | (rw [HW2.out]; exact rw_draw _ _ _ _ _)
          · go_quiet (first | (go_at_call 47; exact Calls.quiet_of_same (less_any _ _ _)))
            go_wp2_with fail
            go_region
            all_goals go_wp2_with fail
            refine ⟨⟨ch, n + q1 + (nq + 1), swp c x0 x1, rfl, by have := HE.out; omega, by rw [size_swp]; exact hc, ?_, ?_⟩, by have := HE.out; simp only [intOf, Int.toNat_natCast]; omega⟩
            · first | (rw [HW2.out, HV0.out, HV1.out]; exact rw_swap w _ _ b c x0 x1 (by omega) (by omega)) | (rw [HV0.out, HV1.out]; exact rw_swap w _ _ b c x0 x1 (by omega) (by omega))
            · rw [← HO.out, sd_left_go ltInt c (by have := HE.out; omega) (fun _ => by have q := HE.out; rw [show F + (2 * r + 1) = x1 by omega, show F + (2 * r + 2) = x1 + 1 by omega, ← HV1.out, ← HV2.out]; exact hl) (by have q := HE.out; rw [show F + r = x0 by omega, show F + (2 * r + 1) = x1 by omega, ← HV0.out, ← HV1.out]; exact hl2), show F + (2 * r + 1) = x1 by have := HE.out; omega, show F + r = x0 by have := HE.out; omega, show 2 * r + 1 = ch by have := HE.out; omega]
        · go_quiet (first | (go_at_call 47; exact Calls.quiet_of_same (less_any _ _ _)))
          revert nq; intro q1
          obtain ⟨x2, hx2e⟩ : ∃ y : Nat, y = x1 + 1 := ⟨_, rfl⟩
          obtain ⟨k, hke⟩ : ∃ y : Nat, y = ch + 1 := ⟨_, rfl⟩
          have w5 : IntKind.i64.wrap ((F : Int) + (k : Int)) = (x2 : Int) := by have := HE.out; rw [IntKind.wrap_i64]; omega
          have w6 : (ch : Int) + 1 = (k : Int) := by omega
          have w7 : IntKind.i64.wrap ((ch : Int) + 1) = (k : Int) := by rw [w1]; exact w6
          have HK := Lib.hid (And.intro hx2e hke)
          clear w1 w3 c2 t2
          have HV2' := HV2.out
          rw [← hx2e] at HV2' hx2
          clear HV2
          have HV2 := Lib.hid HV2'
          clear HV2' hx2e hke
          go_upto_region 5 with fail
          clear c0 c1 t0 t1
          try rw [w6]
          have hwd : wr.drewN q1 = rw64 w (n + q1) b c := by rw [HW.out]; exact rw_draw _ _ _ _ _
          generalize wr.drewN q1 = wr2 at hwd ⊢
          have HW2 := Lib.hid hwd
          clear hwd
          have c0 := cellN (n + q1) x0 hx0
          have t0 := thawN (n + q1) x0 hx0
          rw [← HW2.out, ← HV0.out] at c0
          rw [← HW2.out] at t0
          have c2 := cellN (n + q1) x2 hx2
          have t2 := thawN (n + q1) x2 hx2
          rw [← HW2.out, ← HV2.out] at c2
          rw [← HW2.out] at t2
          have hne : ¬ x0 = x2 := by have := HE.out; have := HK.out; omega
          cases hl2 : ltInt v0 v2
          · go_quiet (first | (go_at_call 47; exact Calls.quiet_of_same (less_any _ _ _)))
            go_wp2_with fail
            refine bodyPost_ret (results_none rfl _ _ _) rfl ?_
            refine ⟨rfl, n + q1 + nq, ?_⟩
            rw [← HO.out, sd_right_stop ltInt c (by have := HE.out; have := HK.out; omega) (by rw [show F + (2 * r + 1) = x1 by have := HE.out; have := HK.out; omega, show F + (2 * r + 2) = x2 by have := HE.out; have := HK.out; omega, ← HV1.out, ← HV2.out]; exact hl) (by rw [show F + r = x0 by have := HE.out; have := HK.out; omega, show F + (2 * r + 2) = x2 by have := HE.out; have := HK.out; omega, ← HV0.out, ← HV2.out]; exact hl2)]
            first | exact rw_draw _ _ _ _ _ | (rw [HW2.out]; exact rw_draw _ _ _ _ _)
          · go_quiet (first | (go_at_call 47; exact Calls.quiet_of_same (less_any _ _ _)))
            go_wp2_with fail
            go_region
            all_goals go_wp2_with fail
            refine ⟨⟨k, n + q1 + (nq + 1), swp c x0 x2, rfl, by have := HE.out; have := HK.out; omega, by rw [size_swp]; exact hc, ?_, ?_⟩, by have := HE.out; have := HK.out; simp only [intOf, Int.toNat_natCast]; omega⟩
            · first | (rw [HW2.out, HV0.out, HV2.out]; exact rw_swap w _ _ b c x0 x2 (by omega) (by omega)) | (rw [HV0.out, HV2.out]; exact rw_swap w _ _ b c x0 x2 (by omega) (by omega))
            · rw [← HO.out, sd_right_go ltInt c (by have := HE.out; have := HK.out; omega) (by rw [show F + (2 * r + 1) = x1 by have := HE.out; have := HK.out; omega, show F + (2 * r + 2) = x2 by have := HE.out; have := HK.out; omega, ← HV1.out, ← HV2.out]; exact hl) (by rw [show F + r = x0 by have := HE.out; have := HK.out; omega, show F + (2 * r + 2) = x2 by have := HE.out; have := HK.out; omega, ← HV0.out, ← HV2.out]; exact hl2), show F + (2 * r + 2) = x2 by have := HE.out; have := HK.out; omega, show F + r = x0 by have := HE.out; have := HK.out; omega, show 2 * r + 2 = k by have := HE.out; have := HK.out; omega]
      · have h2' : decide ((ch : Int) + 1 < (hi : Int)) = false := by simp; omega
        clear hx1e hx0e hche
        go_quiet (first | (go_at_call 47; exact Calls.quiet_of_same (less_any _ _ _)))
        revert nq; intro q1
        go_upto_region 5 with fail
        clear c0 c1 t0 t1
        have hwd : wr.drewN q1 = rw64 w (n + q1) b c := by rw [HW.out]; exact rw_draw _ _ _ _ _
        generalize wr.drewN q1 = wr2 at hwd ⊢
        have HW2 := Lib.hid hwd
        clear hwd
        have c0 := cellN (n + q1) x0 hx0
        have t0 := thawN (n + q1) x0 hx0
        rw [← HW2.out, ← HV0.out] at c0
        rw [← HW2.out] at t0
        have c1 := cellN (n + q1) x1 hx1
        have t1 := thawN (n + q1) x1 hx1
        rw [← HW2.out, ← HV1.out] at c1
        rw [← HW2.out] at t1
        have hne : ¬ x0 = x1 := by have := HE.out; omega
        cases hl2 : ltInt v0 v1
        · go_quiet (first | (go_at_call 47; exact Calls.quiet_of_same (less_any _ _ _)))
          go_wp2_with fail
          refine bodyPost_ret (results_none rfl _ _ _) rfl ?_
          refine ⟨rfl, n + q1 + nq, ?_⟩
          rw [← HO.out, sd_left_stop ltInt c (by have := HE.out; omega) (fun h => by have := HE.out; omega) (by have q := HE.out; rw [show F + r = x0 by omega, show F + (2 * r + 1) = x1 by omega, ← HV0.out, ← HV1.out]; exact hl2)]
          first | exact rw_draw _ _ _ _ _ | (rw [HW2.out]; exact rw_draw _ _ _ _ _)
        · go_quiet (first | (go_at_call 47; exact Calls.quiet_of_same (less_any _ _ _)))
          go_wp2_with fail
          go_region
          all_goals go_wp2_with fail
          refine ⟨⟨ch, n + q1 + (nq + 1), swp c x0 x1, rfl, by have := HE.out; omega, by rw [size_swp]; exact hc, ?_, ?_⟩, by have := HE.out; simp only [intOf, Int.toNat_natCast]; omega⟩
          · first | (rw [HW2.out, HV0.out, HV1.out]; exact rw_swap w _ _ b c x0 x1 (by omega) (by omega)) | (rw [HV0.out, HV1.out]; exact rw_swap w _ _ b c x0 x1 (by omega) (by omega))
          · rw [← HO.out, sd_left_go ltInt c (by have := HE.out; omega) (fun h => by have := HE.out; omega) (by have q := HE.out; rw [show F + r = x0 by omega, show F + (2 * r + 1) = x1 by omega, ← HV0.out, ← HV1.out]; exact hl2), show F + (2 * r + 1) = x1 by have := HE.out; omega, show F + r = x0 by have := HE.out; omega, show 2 * r + 1 = ch by have := HE.out; omega]
end Go.Proofs.Ytoleiiicbnmhpaa
