/- Log: contracts of a log's disk by what it holds; an append behind a guard; texts as arguments. Condition: as each theorem says. -/
import Derived.Test.YtogfladmgbldcaaGreatDoorZLogBits13
import Derived.Test.YtogfladmgbldcaaGreatDoorZLogBits1
namespace Go.Proofs.YtogfladmgbldcaaGreatDoor
open Go.ChangeShapes Go.WideShapes Go.Deep Go.RowKit Go.Shelf
/-- A row of texts that lies in a block of its own. -/
structure GotR (B q : Nat) (v : Value) (X : List Bs) (w : World) : Prop where
  own : w.ownsRow B 9 1 v X.length (encS X)
  blk : ∀ g, v.ownBlock = some g → g = q
theorem GotR.str {B q : Nat} {v : Value} {X : List Bs} {w : World} (h : GotR B q v X w) : StrS w v X := strS_own h.own
theorem GotR.below {B q : Nat} {v : Value} {X : List Bs} {w w' : World} (h : GotR B q v X w) (hb : Below w.heap.size w w') : GotR B q v X w' := ⟨own_stay h.own (fun k _ _ hl => hb.block k hl), h.blk⟩
theorem GotR.hd {N B q : Nat} {K : List Nat} {v : Value} {X : List Bs} {w w' : World} (h : GotR B q v X w) (hh : Hd N K w w') (hq : q ∈ K) : GotR B q v X w' := ⟨own_stay h.own (fun k hk _ _ => by rw [h.blk k hk]; exact hh.keep q hq), h.blk⟩
section
variable {N p bb : Nat} {K ls : List Nat} {D D' : DskV} {w : World} {X : List Bs} {s c k : Nat}
theorem LwV.below {w' : World} (h : LwV N p bb K ls D w) (hb : Below w.heap.size w w') : LwV N p bb K ls D w' := h.of (h.lw.below hb) (hb.mono h.sz)
theorem lo_open (h : LwV N p bb K ls D w) (hg : LgT D X s c) (hd : D.dead = false) :
    Calls Tryz.prog 26 #[.pointer (some ⟨p, 0, none⟩)] w fun e w' => ∃ l v q D', e = .returned (.tuple #[.pointer (some ⟨l, 0, none⟩), v, .int .i64 0]) ∧ LwV N p bb (l :: q :: K) (l :: ls) D' w' ∧ LgS D' X X.length c ∧ D'.dead = false ∧ D'.fuse = D.fuse ∧ GotR w.heap.size q v X w' ∧ Hd N K w w' := by
  obtain ⟨D', e1, e2, e3, e4⟩ := lgt_open hg hd
  refine (lw_open h.sz h.pv (by have := hg.names.2; omega) h.lw hd hg.good.1 (by rw [e1])).mono ?_
  rintro e w' ⟨l, v, q, rfl, h2, ho, hob, hb⟩
  rw [hg.good.2] at ho
  rw [e1] at h2
  exact ⟨l, v, q, D', rfl, h.of h2 hb.bel, e2, e3, e4, ⟨ho, hob⟩, hb⟩
theorem lo_add {l : Nat} (hl : l ∈ ls) (h : LwV N p bb K ls D w) (hg : LgT D X s c) (hc : c ≤ 200) (x : ByteArray) (hx : x.size ≤ 1000000) (he : laddD D x.data.toList = (D', k)) :
    Calls Tryz.prog 27 #[.pointer (some ⟨l, 0, none⟩), .string x] w fun e w' => e = .returned (.int .i64 (k : Int)) ∧ LwV N p bb K ls D' w' ∧ Hd N K w w' := by
  have h2 := lw_add hl h.sz h.pv (by have := hg.names.2; omega) (hg.nums hc) x hx h.lw
  rw [he] at h2
  refine h2.mono ?_
  rintro e w' ⟨rfl, h3, hb⟩
  exact ⟨rfl, h.of h3 hb.bel, hb⟩
theorem lo_sync {l : Nat} (hl : l ∈ ls) (h : LwV N p bb K ls D w) (hg : LgT D X s c) (he : lsyncD D = (D', k)) :
    Calls Tryz.prog 28 #[.pointer (some ⟨l, 0, none⟩)] w fun e w' => e = .returned (.int .i64 (k : Int)) ∧ LwV N p bb K ls D' w' ∧ Hd N K w w' := by
  have h2 := lw_sync hl h.sz h.pv (by have := hg.names.2; omega) h.lw
  rw [he] at h2
  refine h2.mono ?_
  rintro e w' ⟨rfl, h3, hb⟩
  exact ⟨rfl, h.of h3 hb.bel, hb⟩
theorem lo_start (h : LwV N p bb K ls D w) :
    Calls Tryz.prog 24 #[.pointer (some ⟨p, 0, none⟩)] w fun e w' => e = .returned (.int .i64 0) ∧ LwV N p bb K ls { D with dead := false } w' ∧ Hd N K w w' := by
  refine (lw_start h.sz h.lw).mono ?_
  rintro e w' ⟨rfl, h3, hb⟩
  exact ⟨rfl, h.of h3 hb.bel, hb⟩
theorem lo_new (N : Nat) (w : World) (hv : PVB N w) (hN : N ≤ w.heap.size) : Calls Tryz.prog 16 #[] w fun e w' => ∃ p bb, e = .returned (.pointer (some ⟨p, 0, none⟩)) ∧ LwV N p bb [] [] dsk0 w' ∧ Below N w w' := by
  refine (lw_new N w hN).mono ?_
  rintro e w' ⟨p, bb, rfl, h, hb⟩
  exact ⟨p, bb, rfl, ⟨h, hv.on hb, Nat.le_trans hN hb.size⟩, hb⟩
end
/-- A row of texts, as an argument. -/
structure TxsIn (w : World) (a : Option Addr) (len cap : Nat) (z : List ByteArray) : Prop where
  at_ : SliceAt 1 (fun s : ByteArray => [Value.string s]) w a len z
  cap : len ≤ cap
theorem txs_open {H : Type} {enc : TypeId × Value → H} {w : World} {base : Nat} {spare : Nat → Bool} {held : Bool} {a : Option Addr} {len cap : Nat} {d : DataW H} {pl : List MemPlace}
    (h : DataW.Trod enc Tryz.prog w base spare held 52 (.slice a len cap) d pl) : ∃ z : List ByteArray, TxsIn w a len cap z := by
  obtain ⟨z, hz⟩ := ones_open (P := Tryz.prog) (fun s : ByteArray => Value.string s) Tryz.underlying52 (by kernel_rfl) (fun v y n hv => by
    obtain ⟨m, q, _, _⟩ := DataW.trod_string Tryz.underlying9 hv
    simp only [List.cons.injEq, and_true] at q
    exact ⟨m, q⟩) h
  refine ⟨z, hz, ?_⟩
  obtain ⟨m, hm⟩ := h
  rcases open_slice Tryz.underlying52 hm with ⟨h0, _⟩ | ⟨_, len', cap', _, _, _, _, h0, _, hl, _⟩
  · have h0' : [Value.slice a len cap] = [Value.slice none 0 0] := h0
    simp only [List.cons.injEq, Value.slice.injEq, and_true] at h0'
    omega
  · have h0' : [Value.slice a len cap] = [Value.slice _ len' cap'] := h0
    simp only [List.cons.injEq, Value.slice.injEq, and_true] at h0'
    omega
theorem str_back5 (x : ByteArray) : (⟨x.data.toList.toArray⟩ : ByteArray) = x := by cases x; simp
/-- Each of its texts, and each beginning of it. -/
theorem TxsIn.str {w : World} {a : Option Addr} {len cap : Nat} {z : List ByteArray} (h : TxsIn w a len cap z) : (z.map (fun x => x.data.toList)).length = len ∧ ∀ i x, (z.map (fun x => x.data.toList))[i]? = some x → ∃ b o, a = some ⟨b, o, none⟩ ∧ b < w.heap.size ∧ w.cell? ⟨b, o + i, none⟩ = some (.string ⟨x.toArray⟩) := by
  refine ⟨by rw [List.length_map]; exact h.at_.hlen, fun i x hx => ?_⟩
  rw [List.getElem?_map] at hx
  cases hz : z[i]? with
  | none => rw [hz] at hx; cases hx
  | some y =>
    rw [hz] at hx
    cases hx
    obtain ⟨b, o, h1, h2, h3⟩ := h.at_.cells i y hz
    refine ⟨b, o, h1, h2, ?_⟩
    have h4 := h3 0 _ rfl
    rw [str_back5]
    rwa [show o + (i * 1 + 0) = o + i by omega] at h4
end Go.Proofs.YtogfladmgbldcaaGreatDoor
namespace Go.Proofs.YtogfladmgbldcaaGreatDoor
open Go.ChangeShapes Go.WideShapes Go.Deep Go.RowKit Go.Shelf
/-- A beginning. -/
theorem StrS.take {w : World} {a : Option Addr} {c : Nat} {X : List Bs} {n : Nat} (h : StrS w (.slice a X.length c) X) (hn : n ≤ X.length) : StrS w (.slice a n c) (X.take n) := by
  obtain ⟨a', c', hv, h2⟩ := h
  injection hv with e1 _ e3
  subst e1 e3
  refine ⟨_, c, by rw [List.length_take, Nat.min_eq_left hn], fun i x hx => ?_⟩
  rw [List.getElem?_take] at hx
  split at hx
  · exact h2 i x hx
  · cases hx
/-- A row of texts, as an argument; nil has no room. -/
structure TxsI2 (w : World) (a : Option Addr) (len cap : Nat) (z : List ByteArray) : Prop where
  txs : TxsIn w a len cap z
  nil : a = none → len = 0 ∧ cap = 0
theorem txs2_open {H : Type} {enc : TypeId × Value → H} {w : World} {base : Nat} {spare : Nat → Bool} {held : Bool} {a : Option Addr} {len cap : Nat} {d : DataW H} {pl : List MemPlace}
    (h : DataW.Trod enc Tryz.prog w base spare held 52 (.slice a len cap) d pl) : ∃ z : List ByteArray, TxsI2 w a len cap z := by
  obtain ⟨z, hz⟩ := txs_open h
  refine ⟨z, hz, fun ha => ?_⟩
  obtain ⟨m, hm⟩ := h
  rcases open_slice Tryz.underlying52 hm with ⟨h0, _⟩ | ⟨_, len', cap', _, _, _, _, h0, _, hl, _⟩
  · have h0' : [Value.slice a len cap] = [Value.slice none 0 0] := h0
    simp only [List.cons.injEq, Value.slice.injEq, and_true] at h0'
    omega
  · have h0' : [Value.slice a len cap] = [Value.slice _ len' cap'] := h0
    simp only [List.cons.injEq, Value.slice.injEq, and_true] at h0'
    rw [ha] at h0'
    cases h0'.1
end Go.Proofs.YtogfladmgbldcaaGreatDoor
namespace Go.Proofs.YtogfladmgbldcaaGreatDoor
open Go.RowKit Go.Shelf
theorem args_cells {w : World} {a : Option Addr} {len cap N : Nat} {z : List ByteArray} (hN : N = w.heap.size) (hz : TxsIn w a len cap z) (y : World) (hy : Below N w y) (i : Nat) (x : Bs) (hx : (z.map (fun x => x.data.toList))[i]? = some x) : ∃ b o, a = some ⟨b, o, none⟩ ∧ b < y.heap.size ∧ y.cell? ⟨b, o + i, none⟩ = some (.string ⟨x.toArray⟩) := by
  obtain ⟨b, o, h1, h2, h3⟩ := hz.str.2 i x hx
  exact ⟨b, o, h1, Nat.lt_of_lt_of_le h2 hy.size, (World.cell?_of_block (a := ⟨b, o + i, none⟩) (hy.block b (by omega))).trans h3⟩
end Go.Proofs.YtogfladmgbldcaaGreatDoor
namespace Go.Proofs.YtogfladmgbldcaaGreatDoor
open Go.RowKit Go.Shelf
def bitS : List Bs → Nat
  | [] => 0
  | x :: r => 8 * (8 + x.length) + bitS r
theorem bitS_app : ∀ a b : List Bs, bitS (a ++ b) = bitS a + bitS b
  | [], b => by simp [bitS]
  | x :: r, b => by rw [List.cons_append, bitS, bitS, bitS_app r b]; omega
theorem hit_pre : ∀ (X Y : List Bs) (k : Nat), HitL Y k → HitL (X ++ Y) (8 * (frsL X).length + k)
  | [], Y, k, h => by simpa [frsL] using h
  | x :: r, Y, k, h => by
    rw [List.cons_append, frsL_cons, List.length_append]
    refine .inr ⟨by omega, ?_⟩
    rw [show 8 * ((frL x).length + (frsL r).length) + k - 8 * (frL x).length = 8 * (frsL r).length + k by omega]
    exact hit_pre r Y k h
theorem numL_one {n : Nat} (h : n ≤ 200) : (numL n).length = 1 := by
  unfold numL
  rw [if_pos (by omega)]
  exact List.length_singleton
theorem hit_here {x : Bs} (hx : x.length ≤ 200) (r : List Bs) {k : Nat} (hk : k < 8 * (8 + x.length)) : HitL (x :: r) (8 + k) := by
  refine .inl ⟨by rw [numL_one hx]; omega, ?_⟩
  rw [frL_len, numL_one hx]
  omega
theorem frsL_more {e : List Bs} {i : Nat} {x : Bs} (h : e[i]? = some x) (hx : x.length ≤ 200) : (frsL (e.take (i + 1))).length = (frsL (e.take i)).length + (9 + x.length) := by
  rw [List.take_add_one, h]
  show (frsL (e.take i ++ [x])).length = _
  rw [frsL_app, List.length_append, show frsL [x] = frL x from by simp [frsL], frL_len, numL_one hx]
theorem bitS_more {e : List Bs} {i : Nat} {x : Bs} (h : e[i]? = some x) : bitS (e.take (i + 1)) = bitS (e.take i) + 8 * (8 + x.length) := by
  rw [List.take_add_one, h]
  show bitS (e.take i ++ [x]) = _
  rw [bitS_app]
  simp [bitS]
theorem drop_more {e : List Bs} {i : Nat} {x : Bs} (h : e[i]? = some x) : e.drop i = x :: e.drop (i + 1) := by
  obtain ⟨hl, rfl⟩ := List.getElem?_eq_some_iff.1 h
  exact List.drop_eq_getElem_cons hl
theorem bitS_drop {e : List Bs} {i : Nat} {x : Bs} (h : e[i]? = some x) : bitS (e.drop i) = 8 * (8 + x.length) + bitS (e.drop (i + 1)) := by
  rw [drop_more h]
  rfl
theorem hit_at {e : List Bs} {i k : Nat} {x : Bs} (h : e[i]? = some x) (hx : x.length ≤ 200) (hk : k < 8 * (8 + x.length)) : HitL e (8 * (frsL (e.take i)).length + (8 + k)) := by
  have h2 := hit_pre (e.take i) (e.drop i) (8 + k) (by rw [drop_more h]; exact hit_here hx _ hk)
  rwa [List.take_append_drop] at h2
theorem whs_sync : ∀ (a : Nat) (P : List (List Bs)), ∀ f ∈ whs a P, f.sy = f.by_.length
  | _, [], f, h => by cases h
  | a, R :: r, f, h => by
    rw [whs] at h
    rcases List.mem_cons.1 h with rfl | h
    · rfl
    · exact whs_sync _ r f h
theorem lgs_whole {D : DskV} {X : List Bs} {c : Nat} (h : LgS D X X.length c) : Rise D.fs ∧ ∀ f ∈ D.fs, f.sy = f.by_.length := by
  rcases h with ⟨h1, _, _⟩ | ⟨a, P, R, y, h1, rfl, hs, h2⟩
  · rw [h1.fs]
    exact ⟨List.Pairwise.nil, fun f hf => by cases hf⟩
  · have hy : y = R.length := by rw [List.length_append] at hs; omega
    subst hy
    refine ⟨h1.rise, ?_⟩
    rw [h1.fs, lastF_whole, ← whs_snoc]
    exact whs_sync _ _
theorem fil_eql (f : FilV) (d : Nat) (w : World) : (Op.equalIn (d + 3) 35 (.agg (filE f).toArray) (.agg (filE f).toArray)).run Tryz.prog w = .ok true w := by
  unfold filE filR
  go_simp
theorem fil_neq (ρ : Operand → Value) (o : Oper) (a b : Operand) (h : o.op = .binOp .neq 35 a b 35) (f : FilV) (ha : ρ a = .agg (filE f).toArray) (hb : ρ b = .agg (filE f).toArray) (w : World) :
    (execOp ρ o).run Tryz.prog w = .ok (.value (.bool false)) w := by
  have hg : (eqGuard .neq 35 a b (.agg (filE f).toArray) (.agg (filE f).toArray)).run Tryz.prog w = .ok () w := by
    unfold filE filR
    go_simp
  have h0 : (Op.equal 35 (.agg (filE f).toArray) (.agg (filE f).toArray)).run Tryz.prog w = .ok true w := fil_eql f 9997 w
  have he : (binOp .neq 35 (.agg (filE f).toArray) (.agg (filE f).toArray)).run Tryz.prog w = .ok (.bool false) w := by
    simp only [binOp]
    simp only [Sem.run_bind, h0, Result.andThen_ok, Sem.run_pure]
    rfl
  simp only [execOp, h, ha, hb, Sem.run_bind, hg, he, Result.andThen_ok, Sem.run_pure]
theorem fil_size : (Tryz.prog.info? 35).map (fun i => i.size) = some 3 := by kernel_rfl
/-- A row of files as it is read. -/
structure FilsAt (w : World) (a : Option Addr) (l : List FilV) : Prop where
  at_ : ∀ (i : Nat) (f : FilV), l[i]? = some f → ∃ g, a = some ⟨g, 0, none⟩ ∧ g < w.heap.size ∧ w.rangeAt g (i * 3) (filE f)
theorem FilsAt.below {w w' : World} {a : Option Addr} {l : List FilV} {B : Nat} (h : FilsAt w a l) (hb : Below B w w') (hB : w.heap.size ≤ B) : FilsAt w' a l := ⟨fun i f hf => by
  obtain ⟨g, h1, h2, h3⟩ := h.at_ i f hf
  exact ⟨g, h1, Nat.lt_of_lt_of_le h2 hb.size, fun j v hv => (World.cell?_of_block (a := ⟨g, i * 3 + j, none⟩) (hb.block g (by omega))).trans (h3 j v hv)⟩⟩
theorem fils_own {w : World} {base N : Nat} {a : Option Addr} {c : Nat} {l : List FilV} (hN : l.length = N) (h : w.ownsRow base 35 3 (.slice a N c) N (flat filE l)) : FilsAt w a l := ⟨fun i f hf => by
  obtain ⟨A, c2, hv, Y, hY, h1⟩ := files_row hN h
  cases hv
  obtain ⟨g, rfl, h2⟩ := h1 i f hf
  have h3 := h2 w (fun r o hr ho => ho)
  refine ⟨g, rfl, (own_at h rfl).2, fun j v hv => ?_⟩
  match j, hv with
  | 0, hv => cases hv; exact h3.1
  | 1, hv => cases hv; exact h3.2.1
  | 2, hv => cases hv; exact h3.2.2
  | j + 3, hv => simp [filE, filR] at hv⟩
end Go.Proofs.YtogfladmgbldcaaGreatDoor
namespace Go.Proofs.YtogfladmgbldcaaGreatDoor
open Go.RowKit Go.Shelf
/-- A log between two records, each of at most 200 bytes. -/
structure LcI (N p bb x q : Nat) (e : List Bs) (w0 : World) (i : Nat) (D : DskV) (s : Nat) (wr : World) : Prop where
  lw : LwV N p bb [x, q] [x] D wr
  bel : Below N w0 wr
  lg : LgS D (e.take i) s i
  dd : D.dead = false
  fz : D.fuse = none
  good : ∀ j y, j < i → e[j]? = some y → 1 ≤ y.length ∧ y.length ≤ 200
theorem few2 {e : List Bs} {i : Nat} (h : ∀ j y, j < i → e[j]? = some y → 1 ≤ y.length ∧ y.length ≤ 200) : ∀ y ∈ e.take i, 1 ≤ y.length ∧ y.length ≤ 200 := fun y hy => by
  obtain ⟨j, hj⟩ := List.getElem?_of_mem hy
  have hjl := (List.getElem?_eq_some_iff.1 hj).1
  rw [List.length_take] at hjl
  rw [List.getElem?_take, if_pos (by omega)] at hj
  exact h j y (by omega) hj
theorem few3 {l : List Bs} (h : ∀ y ∈ l, 1 ≤ y.length ∧ y.length ≤ 200) : Few l := fun y hy => ⟨(h y hy).1, by have := (h y hy).2; omega⟩
set_option maxRecDepth 100000 in
set_option maxHeartbeats 16000000 in
theorem logBits_any (a1 : Option Addr) (n1 c1 : Nat) (z1 : List ByteArray) (at0 : Nat) (hat : at0 < 4294967296) {w : World} (hz1 : TxsI2 w a1 n1 c1 z1) (hv0 : PV w) :
    Calls Tryz.prog 11 #[.slice a1 n1 c1, .int .u32 (at0 : Int)] w fun e w' => e = .returned (.bool true) ∧ Below w.heap.size w w' := by
  obtain ⟨N, hN⟩ : ∃ N, N = w.heap.size := ⟨_, rfl⟩
  have HV := Lib.hid (show PVB N w from by rw [hN]; exact PVB.of hv0)
  have HNZ := Lib.hid hN
  have HC1 := Lib.hid (args_cells hN hz1.txs)
  have HL1 := Lib.hid hz1.txs.str
  obtain ⟨e, he⟩ : ∃ e : List Bs, e = z1.map (fun x => x.data.toList) := ⟨_, rfl⟩
  rw [← he] at HC1 HL1
  clear hz1 hv0 hN he
  by_cases hn0 : n1 < 1
  · have hb1 : (n1 : Int) < 1 := by omega
    go_enter Tryz.func11, Tryz.ntmps11
    go_wp2_with (go_at_call 31; (with_reducible refine (wakes05_any _ HV.out.here).mono ?_); rintro e w5 ⟨rfl, hb⟩; have HB5 := Lib.hid hb; clear hb)
    go_ret
    exact ⟨rfl, HB5.out⟩
  by_cases hn4 : 40 < n1
  · have hb1 : ¬ ((n1 : Int) < 1) := by omega
    have hb2 : 40 < n1 := hn4
    go_enter Tryz.func11, Tryz.ntmps11
    go_wp2_with (go_at_call 31; (with_reducible refine (wakes05_any _ HV.out.here).mono ?_); rintro e w5 ⟨rfl, hb⟩; have HB5 := Lib.hid hb; clear hb)
    go_ret
    exact ⟨rfl, HB5.out⟩
  have hb1 : ¬ ((n1 : Int) < 1) := by omega
  have hm1 : n1 ≤ 40 := by omega
  have hm0 : 1 ≤ n1 := by omega
  have Hop := Lib.hid (fun (p bb : Nat) (y : World) (h : LwV N p bb [] [] dsk0 y) => lo_open (s := 0) (c := 0) (X := []) h (.inl ⟨lg00, rfl, rfl⟩) rfl)
  obtain ⟨w0, rfl⟩ : ∃ w0, w0 = w := ⟨_, rfl⟩
  go_enter Tryz.func11, Tryz.ntmps11
  go_upto_region 7 with (first
    | (go_at_call 16; (with_reducible refine (lo_new N _ HV.out (by have := HNZ.out; omega)).mono ?_); rintro e w1 ⟨p, bb, rfl, hd, hb⟩; have H1 := Lib.hid (And.intro hd hb); clear hd hb)
    | (go_at_call 26; (with_reducible refine (Hop.out p bb _ H1.out.1).mono ?_); rintro e w2 ⟨x, v0, q, D0, rfl, h1, h2, h3, h4, h5, h6⟩
       obtain ⟨a0, c0, rfl⟩ := own_slice_of h5.own
       have H2 := Lib.hid (And.intro h1 (And.intro (H1.out.2.trans h6.bel) (And.intro h2 (And.intro h3 h4)))); clear h1 h2 h3 h4 h5 h6))
  have hI0 : LcI N p bb x q e w0 0 D0 0 w2 := ⟨H2.out.1, H2.out.2.1, H2.out.2.2.1, H2.out.2.2.2.1, H2.out.2.2.2.2, fun j y hj => by omega⟩
  have HI0 := Lib.hid hI0
  clear hI0 Hop hn0 hn4 hb1
  obtain ⟨lx, hlx⟩ : ∃ lx, lx = x := ⟨_, rfl⟩
  rw [← hlx] at HI0 ⊢
  clear hlx
  go_wp2
  go_loopw [9, 10] (fun s9 s10 wr => ∃ (i bt : Nat) (D : DskV) (s : Nat), s10 = .int .i64 (i : Int) ∧ s9 = .int .i64 (bt : Int) ∧ bt = bitS (e.take i) ∧ bt ≤ 1664 * i ∧ i ≤ n1 ∧ LcI N p bb lx q e w0 i D s wr) (fun _ s10 _ => n1 - (intOf s10).toNat)
  case atStart => exact ⟨0, 0, D0, 0, rfl, rfl, rfl, Nat.zero_le _, Nat.zero_le _, HI0.out⟩
  case round =>
    clear HI0
    obtain ⟨i, bt, D, s, rfl, rfl, hbt, hble, hi, hI⟩ := hrel
    have HI := Lib.hid hI
    have HBS := Lib.hid hbt
    clear hI hbt
    by_cases hin : i < n1
    · have hiI : (i : Int) < (n1 : Int) := by omega
      have hil : i < e.length := by rw [HL1.out.1]; exact hin
      obtain ⟨x, hx⟩ : ∃ x, x = e[i] := ⟨_, rfl⟩
      have hxs : e[i]? = some x := by rw [List.getElem?_eq_getElem hil, hx]
      obtain ⟨gb, go, rfl, hgb, hc⟩ := HC1.out wr HI.out.bel i x hxs
      obtain ⟨xb, hxb⟩ : ∃ xb : ByteArray, xb = ⟨x.toArray⟩ := ⟨_, rfl⟩
      have hxz : xb.size = x.length := by rw [hxb]; simp [ByteArray.size]
      rw [← hxb] at hc
      have hw1 : wrap64 ((i : Int) + 1) = ((i + 1 : Nat) : Int) := by unfold wrap64; omega
      have HX := Lib.hid (And.intro hxs (And.intro hxz hxb))
      clear hil hx hxs hgb hxb
      go_upto_region 11 with fail
      obtain ⟨bq, hbq⟩ : ∃ bq : Bool, bq = decide (x.length = 0 ∨ 200 < x.length) := ⟨_, rfl⟩
      have HBQ := Lib.hid hbq
      clear hbq
      go_cut [61] (fun s wx => s = .bool bq ∧ wx = wr)
      case first =>
        by_cases h0 : x.length = 0
        · have hxe : xb = ⟨#[]⟩ := by rw [HX.out.2.2, List.length_eq_zero_iff.1 h0]
          have HBT := Lib.hid (show bq = true from by rw [HBQ.out]; exact decide_eq_true (.inl h0))
          clear h0
          rw [hxe] at hc
          clear hxe hxz
          go_wp2_with fail
          go_meet
          exact ⟨by rw [HBT.out], rfl⟩
        · have hne : xb.data.toList ≠ [] := fun e => h0 (by rw [← hxz]; show xb.data.size = 0; rw [← Array.length_toList, e]; rfl)
          have hem : xb.toList.isEmpty = false := by rw [Lib.toList_data, List.isEmpty_eq_false_iff]; exact hne
          have HBT := Lib.hid (show bq = decide (200 < x.length) from by rw [HBQ.out]; simp [h0])
          clear h0 hne
          by_cases h3 : 200 < x.length
          · have h3' : 200 < xb.size := by omega
            have HB3 := Lib.hid h3
            clear h3 hxz
            go_wp2_with fail
            go_meet
            exact ⟨by rw [HBT.out, decide_eq_true HB3.out]; congr 1; exact decide_eq_true (by omega), rfl⟩
          · have h3' : ¬ (200 < xb.size) := by omega
            have HB3 := Lib.hid h3
            clear h3 hxz
            go_wp2_with fail
            go_meet
            exact ⟨by rw [HBT.out, decide_eq_false HB3.out]; congr 1; exact decide_eq_false (by omega), rfl⟩
      case rest =>
        obtain ⟨rfl, rfl⟩ := hcut
        cases bq
        case true =>
          go_wp2_with (go_at_call 31; (with_reducible refine (wakes05_any _ HI.out.lw.pv.here).mono ?_); rintro e w5 ⟨rfl, hb⟩; have HB5 := Lib.hid hb; clear hb)
          go_ret
          exact ⟨rfl, by rw [← HNZ.out]; exact HI.out.bel.trans (HB5.out.mono HI.out.lw.sz)⟩
        case false =>
          have hgx : 1 ≤ x.length ∧ x.length ≤ 200 := by
            have h1 := of_decide_eq_false HBQ.out.symm
            omega
          have hI := HI.out
          have htk : e.take (i + 1) = e.take i ++ [x] := by rw [List.take_add_one, HX.out.1]; rfl
          have hfew : Few (e.take i) := few3 (few2 hI.good)
          have hxl2 : xb.data.toList = x := by rw [HX.out.2.2]
          have hroom : (frL x).length + (frsL (e.take i)).length ≤ 4194304 := by
            have h1 := few_len _ hfew
            have h2 := frL_len x
            have h3 := (numL_len x.length).1
            rw [List.length_take] at h1
            omega
          rcases lgs_add hI.lg hI.dd (by omega) (r := x) ⟨hgx.1, by omega⟩ hroom with ⟨D', s', e1, g1, k1, d1, f1⟩ | ⟨D', X, s', e1, g1, p1, p2, k1, d1, f1, n1⟩
          · have Had := Lib.hid (lo_add (l := lx) (by simp) hI.lw hI.lg.t (by omega) xb (by rw [HX.out.2.1]; omega) (show laddD D xb.data.toList = (D', 0) from by rw [hxl2]; exact e1))
            have HG := Lib.hid (And.intro g1 (And.intro d1 (f1 hI.fz)))
            have HGX := Lib.hid hgx
            have hxb2 : x.length ≤ 200 := hgx.2
            have hxb3 : xb.size ≤ 200 := by rw [HX.out.2.1]; exact hgx.2
            have HBX := Lib.hid (show bt + 8 * (8 + x.length) = bitS (e.take (i + 1)) from by rw [bitS_more HX.out.1, HBS.out])
            clear e1 g1 k1 d1 f1 hI hgx htk hfew hxl2 hroom
            go_wp2_with (go_at_call 27; (with_reducible refine Had.out.mono ?_); rintro e w7 ⟨rfl, h1, h2⟩; have H7 := Lib.hid (And.intro h1 h2); obtain ⟨gb7, go7, hq7, -, hc7⟩ := HC1.out _ (HI.out.bel.trans h2.bel) i x HX.out.1; cases hq7; rw [← HX.out.2.2] at hc7; clear h1 h2)
            refine ⟨⟨i + 1, bt + 8 * (8 + x.length), D', s', by rw [Int.natCast_add]; rfl, by push_cast; rfl, HBX.out, by omega, by omega, ⟨H7.out.1, HI.out.bel.trans H7.out.2.bel, ?_, HG.out.2.1, HG.out.2.2, fun j y hj hy => ?_⟩⟩, by simp only [intOf]; omega⟩
            · rw [show e.take (i + 1) = e.take i ++ [x] by rw [List.take_add_one, HX.out.1]; rfl]
              exact HG.out.1
            · by_cases hji : j = i
              · subst hji
                rw [HX.out.1] at hy
                cases hy
                exact HGX.out
              · exact HI.out.good j y (by omega) hy
          · exact (n1 hI.fz).elim
    · have hiI : ¬ (i : Int) < (n1 : Int) := by omega
      obtain rfl : i = n1 := by omega
      have hI := HI.out
      have hgA := hI.lg
      have hbt := HBS.out
      have hte : e.take i = e := by rw [← HL1.out.1, List.take_length]
      have hg2 := few2 hI.good
      rw [hte] at hgA hbt hg2
      have hbt0 : 0 < bt := by
        obtain ⟨y, hy⟩ : ∃ y, e[0]? = some y := ⟨_, List.getElem?_eq_getElem (by rw [HL1.out.1]; omega)⟩
        have h1 := bitS_drop hy
        rw [List.drop_zero] at h1
        omega
      have HA := Lib.hid (show LwV N p bb [lx, q] [lx] D wr ∧ Below N w0 wr ∧ LgS D e s 60 ∧ D.dead = false ∧ (∀ y ∈ e, 1 ≤ y.length ∧ y.length ≤ 200) from ⟨hI.lw, hI.bel, hgA.wide (by omega), hI.dd, hg2⟩)
      have HBB := Lib.hid hbt
      clear hI hgA HI hi hin hbt hte hg2 HBS
      obtain ⟨w3, rfl⟩ : ∃ w3, w3 = wr := ⟨_, rfl⟩
      obtain ⟨n1, rfl⟩ : ∃ n1, n1 = i := ⟨_, rfl⟩
      obtain ⟨D1, e1, g1, d1, f1⟩ := lgs_sync HA.out.2.2.1 HA.out.2.2.2.1
      have Hsy := Lib.hid (lo_sync (l := lx) (by simp) HA.out.1 HA.out.2.2.1.t e1)
      have HG1 := Lib.hid (And.intro g1 d1)
      clear e1 g1 d1 f1
      obtain ⟨K0, hK0⟩ : ∃ K0, K0 = at0 % bt := ⟨_, rfl⟩
      have hmod : Int.tmod (at0 : Int) (bt : Int) = (K0 : Int) := by rw [Int.tmod_eq_emod_of_nonneg (by omega), hK0]; exact (Int.natCast_emod at0 bt).symm
      have hK1 : K0 < bt := by rw [hK0]; exact Nat.mod_lt _ hbt0
      have hbt1 : (bt : Int) ≠ 0 := by omega
      have HBQ0 := Lib.hid (And.intro hbt0 hat)
      clear hK0
      go_upto_region 18 with (go_at_call 28; (with_reducible refine Hsy.out.mono ?_); rintro e w5 ⟨rfl, h1, h2⟩; have H5 := Lib.hid (And.intro h1 (HA.out.2.1.trans h2.bel)); clear h1 h2)
      go_upto_region 19 with fail
      try rw [hmod]
      go_wp2
      clear hmod Hsy
      go_loopw [11, 12, 13] (fun s11 s12 s13 wr => ∃ (i kk by0 : Nat), s13 = .int .i64 (i : Int) ∧ s12 = .int .i64 (by0 : Int) ∧ s11 = .int .i64 (kk : Int) ∧ i ≤ n1 ∧ by0 = (frsL (e.take i)).length ∧ by0 ≤ 320 * i ∧ kk < bitS (e.drop i) ∧ kk ≤ 100000 ∧ wr = w5) (fun _ _ s13 _ => n1 - (intOf s13).toNat)
      case atStart => exact ⟨0, K0, 0, rfl, rfl, rfl, Nat.zero_le _, rfl, Nat.zero_le _, by rw [List.drop_zero, ← HBB.out]; exact hK1, by omega, rfl⟩
      case round =>
        obtain ⟨i, kk, by0, rfl, rfl, rfl, hi, hby, hbyl, hkk, hkl, rfl⟩ := hrel
        have HBY := Lib.hid (And.intro hby hkk)
        clear hby hkk
        by_cases hin : i < n1
        · have hiI : (i : Int) < (n1 : Int) := by omega
          have hil : i < e.length := by rw [HL1.out.1]; exact hin
          obtain ⟨x, hx⟩ : ∃ x, x = e[i] := ⟨_, rfl⟩
          have hxs : e[i]? = some x := by rw [List.getElem?_eq_getElem hil, hx]
          obtain ⟨gb, go, rfl, hgb, hc⟩ := HC1.out wr H5.out.2 i x hxs
          obtain ⟨xb, hxb⟩ : ∃ xb : ByteArray, xb = ⟨x.toArray⟩ := ⟨_, rfl⟩
          have hxz : xb.size = x.length := by rw [hxb]; simp [ByteArray.size]
          rw [← hxb] at hc
          have hw1 : wrap64 ((i : Int) + 1) = ((i + 1 : Nat) : Int) := by unfold wrap64; omega
          have HX := Lib.hid (And.intro hxs (And.intro hxz hxb))
          clear hil hx hxs hgb hxb
          have hx2 : x.length ≤ 200 := (HA.out.2.2.2.2 x (List.mem_of_getElem? HX.out.1)).2
          have hxb2 : xb.size ≤ 200 := by omega
          by_cases hlt : kk < 8 * (8 + xb.size)
          · have hltI : (kk : Int) < 8 * (8 + (xb.size : Int)) := by omega
            obtain ⟨k, hk⟩ : ∃ k, k = 8 * by0 + (8 + kk) := ⟨_, rfl⟩
            have hhit : HitL e k := by
              rw [hk, HBY.out.1]
              exact hit_at HX.out.1 hx2 (by omega)
            have hkI : 8 * ((by0 : Int) + 1) + (kk : Int) = (k : Int) := by omega
            have HK := Lib.hid hhit
            clear hk hhit hx2
            clear hxz
            go_upto_region 27 with fail
            clear hw1
            try rw [hkI]
            have hfew := few3 HA.out.2.2.2.2
            have hwh := lgs_whole HG1.out.1
            have hfl0 : 1 ≤ D1.fs.length := by
              rcases HG1.out.1 with ⟨_, h2, _⟩ | ⟨a, P, R, y, h1, _⟩
              · exfalso
                have := HL1.out.1
                rw [h2] at this
                simp at this
                omega
              · rw [h1.fs, List.length_append]
                simp
            obtain ⟨sp, hk8, hnl, hln⟩ := lgs_turn HG1.out.1 HK.out
            obtain ⟨D2, hD2⟩ : ∃ D2 : DskV, D2 = { D1 with fuse := none, dead := true } := ⟨_, rfl⟩
            have hcr : crashD D1 0 = (D2, 0) := by rw [hD2]; exact crash_all 0 hwh.1 HG1.out.2 hwh.2
            have hfs2 : D2.fs = D1.fs := by rw [hD2]
            have hdd2 : D2.dead = true := by rw [hD2]
            obtain ⟨D3, hD3⟩ : ∃ D3 : DskV, D3 = { D2 with fs := turnL k D2.fs } := ⟨_, rfl⟩
            have hfs3 : D3.fs = turnL k D1.fs := by rw [hD3, ← hfs2]
            obtain ⟨D4, hD4⟩ : ∃ D4 : DskV, D4 = { D3 with dead := false } := ⟨_, rfl⟩
            have hfs4 : D4.fs = turnL k D1.fs := by rw [hD4, ← hfs3]
            have hdd4 : D4.dead = false := by rw [hD4]
            have hl1 : D1.fs.length ≤ 200 := HG1.out.1.t.names.2
            obtain ⟨m, hm⟩ : ∃ m, m = D4.fs.length := ⟨_, rfl⟩
            have hm2 : m ≤ 200 := by rw [hm, hfs4]; exact hln
            have Hcr := Lib.hid (fun (y : World) (h : LwV N p bb [lx, q] [lx] D1 y) => (show Calls Tryz.prog 23 #[.pointer (some ⟨p, 0, none⟩), .int .i64 0] y (fun e w' => e = .returned (.int .i64 0) ∧ LwV N p bb [lx, q] [lx] D2 w' ∧ Hd N [lx, q] y w') from by
              have h2 := lw_act (R := crashD D1 0) (f := 23) (args := #[.pointer (some ⟨p, 0, none⟩), .int .i64 0]) h.sz h.lw (fun n C L h1 hl => crash_any 0 (by decide) (by omega) y h1 hl)
              rw [hcr] at h2
              exact h2.mono (by rintro e w' ⟨rfl, h3, hb⟩; exact ⟨rfl, h.of h3 hb.bel, hb⟩)))
            have Htu := Lib.hid (fun (y : World) (h : LwV N p bb [lx, q] [lx] D2 y) => (show Calls Tryz.prog 25 #[.pointer (some ⟨p, 0, none⟩), .int .i64 (k : Int)] y (fun e w' => e = .returned (.int .i64 0) ∧ LwV N p bb [] [] D3 w' ∧ Below N y w') from by
              have h2 := lw_turn h.sz k (by rw [hfs2]; exact hk8) (by rw [hfs2]; omega) h.lw hdd2
              rw [← hD3] at h2
              exact h2.mono (by rintro e w' ⟨rfl, h3, hb⟩; exact ⟨rfl, h.of h3 hb, hb⟩)))
            have Hst := Lib.hid (fun (y : World) (h : LwV N p bb [] [] D3 y) => by have h2 := lo_start h; rw [← hD4] at h2; exact h2)
            have Hfi := Lib.hid (fun (y : World) (h : LwV N p bb [] [] D4 y) => (show Calls Tryz.prog 19 #[.pointer (some ⟨p, 0, none⟩)] y (fun e w' => ∃ a c, e = .returned (.slice a m c) ∧ FilsAt w' a D4.fs ∧ Below y.heap.size y w') from (lw_files (by rw [← hm]; omega) h.lw).mono (by
              rintro e w' ⟨v, rfl, ho, hb⟩
              rw [← hm] at ho
              obtain ⟨a, c, rfl⟩ := own_slice_of ho
              exact ⟨a, c, rfl, fils_own hm.symm ho, hb⟩)))
            have Hha := Lib.hid (fun (y : World) (h : LwV N p bb [] [] D4 y) => (show Calls Tryz.prog 26 #[.pointer (some ⟨p, 0, none⟩)] y (fun e w' => e = .returned (.tuple #[.pointer none, .slice none 0 0, .int .i64 10]) ∧ Below y.heap.size y w') from (lw_halt h.sz h.pv (by rw [← hm]; omega) h.lw hdd4 (by rw [hfs4]; exact sp)).mono (by
              rintro e w' ⟨rfl, _, hb⟩
              exact ⟨rfl, hb⟩)))
            have HM := Lib.hid hm
            clear hfew hwh hfl0 sp hk8 hnl hln hD2 hcr hfs2 hdd2 hD3 hfs3 hD4 hfs4 hdd4 hl1 hm
            go_upto_region 30 with (first
              | (go_at_call 23; (with_reducible refine (Hcr.out _ H5.out.1).mono ?_); rintro e w6 ⟨rfl, h1, h2⟩; have H6 := Lib.hid (And.intro h1 (H5.out.2.trans h2.bel)); clear h1 h2)
              | (go_at_call 25; (with_reducible refine (Htu.out _ H6.out.1).mono ?_); rintro e w7 ⟨rfl, h1, h2⟩; have H7 := Lib.hid (And.intro h1 (H6.out.2.trans h2)); clear h1 h2)
              | (go_at_call 24; (with_reducible refine (Hst.out _ H7.out.1).mono ?_); rintro e w8 ⟨rfl, h1, h2⟩; have H8 := Lib.hid (And.intro h1 (H7.out.2.trans h2.bel)); clear h1 h2)
              | (go_at_call 19; (with_reducible refine (Hfi.out _ H8.out.1).mono ?_); rintro e w9 ⟨a9, c9, rfl, h1, h2⟩; have H9 := Lib.hid (And.intro (H8.out.1.below h2) (And.intro (H8.out.2.trans (h2.mono H8.out.1.sz)) h1)); clear h1 h2))
            go_wp2
            go_loopw [15] (fun s15 wr => ∃ j : Nat, s15 = .int .i64 (j : Int) ∧ j ≤ 2 ∧ LwV N p bb [] [] D4 wr ∧ Below N w0 wr ∧ FilsAt wr a9 D4.fs) (fun s15 _ => 2 - (intOf s15).toNat)
            case atStart => exact ⟨0, rfl, by omega, H9.out⟩
            case round =>
              obtain ⟨j, rfl, hj, hL⟩ := hrel
              have HJ := Lib.hid hL
              clear hL
              by_cases hj2 : j < 2
              · have hjI : (j : Int) < 2 := by omega
                go_upto_region 37 with (first
                  | (go_at_call 26; (with_reducible refine (Hha.out _ HJ.out.1).mono ?_); rintro e w10 ⟨rfl, h2⟩; have H10 := Lib.hid (And.intro (HJ.out.1.below h2) (And.intro (HJ.out.2.1.trans (h2.mono HJ.out.1.sz)) (HJ.out.2.2.below h2 (Nat.le_refl _)))); clear h2)
                  | (go_at_call 19; (with_reducible refine (Hfi.out _ H10.out.1).mono ?_); rintro e w11 ⟨a11, c11, rfl, h1, h2⟩; have H11 := Lib.hid (And.intro (H10.out.1.below h2) (And.intro (H10.out.2.1.trans (h2.mono H10.out.1.sz)) (And.intro (H10.out.2.2.below h2 (Nat.le_refl _)) h1))); clear h1 h2))
                go_wp2
                go_loopw [20] (fun s20 wr => ∃ i : Nat, s20 = .int .i64 (i : Int) ∧ i ≤ m ∧ Below w11.heap.size w11 wr) (fun s20 _ => m - (intOf s20).toNat)
                case atStart => exact ⟨0, rfl, Nat.zero_le _, Below.refl _ _⟩
                case round =>
                  obtain ⟨i, rfl, him, hb⟩ := hrel
                  have HB := Lib.hid hb
                  clear hb
                  by_cases hi2 : i < m
                  · have hiI : (i : Int) < (m : Int) := by omega
                    obtain ⟨f, hf⟩ : ∃ f, D4.fs[i]? = some f := ⟨_, List.getElem?_eq_getElem (by rw [← HM.out]; exact hi2)⟩
                    obtain ⟨g9, rfl, hg9, hr9⟩ := H11.out.2.2.1.at_ i f hf
                    obtain ⟨g11, rfl, hg11, hr11⟩ := H11.out.2.2.2.at_ i f hf
                    have HR := Lib.hid (fun (y : World) (hy : Below w11.heap.size w11 y) => (show y.rangeAt g9 (i * 3) (filE f) ∧ y.rangeAt g11 (i * 3) (filE f) from ⟨fun j v hv => (World.cell?_of_block (a := ⟨g9, i * 3 + j, none⟩) (hy.block g9 hg9)).trans (hr9 j v hv), fun j v hv => (World.cell?_of_block (a := ⟨g11, i * 3 + j, none⟩) (hy.block g11 hg11)).trans (hr11 j v hv)⟩))
                    clear hr9 hr11 hf hg9 hg11
                    go_upto_region 40 with fail
                    have hbw := HB.out.size
                    refine (wpIn_wide (n := 1)).1 ?_
                    refine RegK.wpIn_region_can (F := Fence.wide) (KeptW wr) [(0, 0), (1, 0), (2, 0), (3, 0), (4, 0), (5, 0), (6, 0), (7, 0), (8, 0)] (by kernel_rfl) (by kernel_rfl) (by kernel_rfl) (fun _ _ d _ _ h => by cases d <;> exact h) ⟨rfl, rfl, rfl, Nat.le_refl _, fun _ _ => rfl⟩ ?_
                    dsimp only [RegK.pick, List.getElem?_cons_zero, List.getElem?_cons_succ]
                    change RegK.Can _ _ _ _ _ _ _ _ wr.drew
                    have hkd : KeptW wr wr.drew := ⟨rfl, rfl, rfl, Nat.le_refl _, fun _ _ => rfl⟩
                    generalize wr.drew = v2 at *
                    iterate 3 (refine RegK.can_reads ?_; intro K hK; go_simp; (first | refine ⟨_, fun _ _ => rfl, hK _ ?_⟩ | refine hK _ ?_); clear hK K)
                    refine RegK.can_reads ?_
                    intro K hK
                    rw [if_pos (by first | (simp [Region.wanted]; done) | (go_simp; done))]
                    refine ⟨.agg (filE f).toArray, fun y hy => exec_load rfl rfl (run_loadAt_mid y g11 (i * 3) 35 (filE f) _ (HR.out y (HB.out.trans ((KeptW.bel hy).mono hbw))).2 Tryz.underlying35 rfl fil_size), hK _ ?_⟩
                    clear hK K
                    go_simp
                    iterate 3 (refine RegK.can_reads ?_; intro K hK; go_simp; (first | refine ⟨_, fun _ _ => rfl, hK _ ?_⟩ | refine hK _ ?_); clear hK K)
                    refine RegK.can_reads ?_
                    intro K hK
                    rw [if_pos (by first | (simp [Region.wanted]; done) | (go_simp; done))]
                    refine ⟨.agg (filE f).toArray, fun y hy => exec_load rfl rfl (run_loadAt_mid y g9 (i * 3) 35 (filE f) _ (HR.out y (HB.out.trans ((KeptW.bel hy).mono hbw))).1 Tryz.underlying35 rfl fil_size), hK _ ?_⟩
                    clear hK K
                    go_simp
                    refine RegK.can_reads ?_
                    intro K hK
                    refine ⟨.bool false, fun y hy => fil_neq _ _ _ _ rfl f rfl rfl y, hK _ ?_⟩
                    clear hK K
                    go_simp
                    refine RegK.can_nil ?_
                    have HB2 := Lib.hid (HB.out.trans ((KeptW.bel hkd).mono hbw))
                    clear hkd hbw
                    go_wp2
                    refine ⟨⟨i + 1, by rw [Int.natCast_add]; rfl, by omega, HB2.out⟩, by simp only [intOf]; omega⟩
                  · have hiI : ¬ ((i : Int) < (m : Int)) := by omega
                    go_wp2
                    refine ⟨⟨j + 1, by rw [Int.natCast_add]; rfl, by omega, H11.out.1.below HB.out, H11.out.2.1.trans (HB.out.mono H11.out.1.sz), H11.out.2.2.1.below HB.out (Nat.le_refl _)⟩, by simp only [intOf]; omega⟩
              · have hjI : ¬ ((j : Int) < 2) := by omega
                go_wp2_with (go_at_call 31; (with_reducible refine (wakes05_any _ HJ.out.1.pv.here).mono ?_); rintro e w13 ⟨rfl, hb⟩; have H13 := Lib.hid (HJ.out.2.1.trans (hb.mono HJ.out.1.sz)); clear hb)
                go_ret
                exact ⟨rfl, by rw [← HNZ.out]; exact H13.out⟩
          · have hltI : ¬ ((kk : Int) < 8 * (8 + (xb.size : Int))) := by omega
            have hd := bitS_drop HX.out.1
            have hf := frsL_more HX.out.1 hx2
            have hkk := HBY.out.2
            have hby := HBY.out.1
            have h1 : ∃ k2 : Nat, k2 = kk - 8 * (8 + x.length) := ⟨_, rfl⟩
            obtain ⟨k2, hk2⟩ := h1
            have HE := Lib.hid (show by0 + 9 + xb.size = (frsL (e.take (i + 1))).length ∧ k2 < bitS (e.drop (i + 1)) from ⟨by omega, by omega⟩)
            have HE2 := Lib.hid (show (kk : Int) - 8 * (8 + (xb.size : Int)) = (k2 : Int) ∧ k2 ≤ kk from ⟨by omega, by omega⟩)
            clear hd hf hkk hby hk2 hxz
            go_wp2
            refine ⟨⟨i + 1, k2, by0 + 9 + xb.size, by rw [Int.natCast_add]; rfl, by push_cast; rfl, by rw [HE2.out.1], by omega, HE.out.1, by omega, HE.out.2, by have := HE2.out.2; omega, by first | rfl | trivial⟩, by simp only [intOf]; omega⟩
        · exfalso
          have h1 := HBY.out.2
          rw [List.drop_eq_nil_of_le (by rw [HL1.out.1]; omega)] at h1
          exact absurd h1 (Nat.not_lt_zero _)
end Go.Proofs.YtogfladmgbldcaaGreatDoor
namespace Go.Proofs.YtogfladmgbldcaaGreatDoor
open Go.RowKit
theorem u32_wf {n : Int} (h : (Lit.int .u32 n).wf = true) : 0 ≤ n ∧ n < 4294967296 := by
  have h' : 0 ≤ n ∧ n ≤ 4294967295 := by simpa [Lit.wf, IntKind.min, IntKind.max, IntKind.signed, IntKind.bits] using h
  omega
theorem logBits_row (a1 : Option Addr) (n1 c1 : Nat) (z1 : List ByteArray) (k : Int) {W : World} (hz1 : TxsI2 W a1 n1 c1 z1) (hk : (Lit.int .u32 k).wf = true) (hv : PV W) :
    Calls Tryz.prog 11 #[.slice a1 n1 c1, .int .u32 k] W fun e w' => e = .returned (.bool true) ∧ Below W.heap.size W w' := by
  have h1 := u32_wf hk
  rw [show k = ((k.toNat : Nat) : Int) by omega]
  exact logBits_any a1 n1 c1 z1 k.toNat (by omega) hz1 hv
end Go.Proofs.YtogfladmgbldcaaGreatDoor
