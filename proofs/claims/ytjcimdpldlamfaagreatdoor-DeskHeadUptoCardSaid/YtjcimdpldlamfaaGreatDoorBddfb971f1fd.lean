/- One text: WarpCells. -/
import Derived.BigRegion
import Derived.Test.YtjcimdpldlamfaaGreatDoorBd4452353c6b
import Derived.Test.YtjcimdpldlamfaaGreatDoorBd069242f7b3
import Derived.Test.YtjcimdpldlamfaaGreatDoorBd0c5f6043f6
/- The walk of warp.cells (printed by genwarpcells.py). -/
namespace Go.Proofs.YtjcimdpldlamfaaGreatDoor
open Go.RowKit Go.Shelf

theorem warpFar_is {n : Int} {b : Bool} (h : farB n = b) (w : World) : Calls Tryz.prog 178 #[.int .i64 n] w fun e w' => e = .returned (.bool b) ∧ w = w' := by
 subst h
 by_cases h1 : n < -1000000000
 ·have HF : Hid (farB n = true) := Lib.hid (farB_true (.inl h1))
  rw [HF.out]
  go_enter Tryz.func178, Tryz.ntmps178
  go_wp2_with fail
  go_ret
  exact ⟨rfl, rfl⟩
 ·by_cases h2 : 1000000000 < n
  ·have HF : Hid (farB n = true) := Lib.hid (farB_true (.inr h2))
   have hd1 : decide (n < -1000000000) = false := by simpa using h1
   have hd2 : decide (n > 1000000000) = true := by simpa using h2
   rw [HF.out]
   clear h1 h2
   go_enter Tryz.func178, Tryz.ntmps178
   go_wp2_with fail
   go_ret
   exact ⟨rfl, rfl⟩
  ·have HF : Hid (farB n = false) := Lib.hid (farB_false h1 h2)
   have hd1 : decide (n < -1000000000) = false := by simpa using h1
   have hd2 : decide (n > 1000000000) = false := by simpa using h2
   rw [HF.out]
   clear h1 h2
   go_enter Tryz.func178, Tryz.ntmps178
   go_wp2_with fail
   go_ret
   exact ⟨rfl, rfl⟩
def cellC (x : CellD) : List Value := [.int .i64 x.f, .int .i64 x.t, .int .i64 x.s, .bool x.has, .int .i64 x.v]
theorem cellC_len (x : CellD) : (cellC x).length = 5 := rfl
def RCell (w : World) (b o : Nat) (x : CellD) : Prop := (cellIs w b o (.int .i64 x.f) ∧ cellIs w b (o + 1) (.int .i64 x.t) ∧ cellIs w b (o + 2) (.int .i64 x.s) ∧ cellIs w b (o + 3) (.bool x.has) ∧ cellIs w b (o + 4) (.int .i64 x.v)) ∧ I64 x.f ∧ I64 x.t ∧ I64 x.s ∧ I64 x.v
theorem RCell.stable : Stable RCell := fun _ _ _ _ _ hb hlt h => ⟨⟨h.1.1.ext hb hlt, h.1.2.1.ext hb hlt, h.1.2.2.1.ext hb hlt, h.1.2.2.2.1.ext hb hlt, h.1.2.2.2.2.ext hb hlt⟩, h.2⟩
structure CellsAt (w : World) (A : Option Addr) (c : Nat) (l : List CellD) : Prop where
 lc : l.length ≤ c
 cm : c ≤ maxLen
 sl : SlAt RCell 5 w A l
theorem CellsAt.ext {w w' : World} {A : Option Addr} {c : Nat} {l : List CellD} (h : CellsAt w A c l) (hb : Below w.heap.size w w') : CellsAt w' A c l := ⟨h.lc, h.cm, h.sl.ext RCell.stable hb⟩
theorem CellsAt.len {w : World} {A : Option Addr} {c : Nat} {l : List CellD} (h : CellsAt w A c l) : l.length ≤ 9223372036854775807 := Nat.le_trans h.lc h.cm
theorem CellsAt.get {w : World} {A : Option Addr} {c k : Nat} {l : List CellD} (h : CellsAt w A c l) {x : CellD} (hx : l[k]? = some x) : ∃ b off, A = some ⟨b, off, none⟩ ∧ b < w.heap.size ∧ w.cell? ⟨b, off + k * 5, none⟩ = some (.int .i64 x.f) ∧ w.cell? ⟨b, off + k * 5 + 1, none⟩ = some (.int .i64 x.t) ∧ w.cell? ⟨b, off + k * 5 + 2, none⟩ = some (.int .i64 x.s) ∧ w.cell? ⟨b, off + k * 5 + 3, none⟩ = some (.bool x.has) ∧ w.cell? ⟨b, off + k * 5 + 4, none⟩ = some (.int .i64 x.v) := by
 obtain ⟨b, off, hS⟩ := h.sl
 obtain ⟨h1, h2, ⟨h3, h4, h5, h6, h7⟩, _⟩ := hS k x hx
 exact ⟨b, off, h1, h2, h3, h4, h5, h6, h7⟩
theorem CellsAt.nil {w : World} {A : Option Addr} : CellsAt w A 0 [] := ⟨Nat.le_refl _, Nat.zero_le _, SlAt.nil⟩
theorem own_cells {w : World} {base : Nat} {v : Value} {l : List CellD} (h : Own cellC 5 w base 221 v l) (hi : ∀ x, x ∈ l → I64 x.f ∧ I64 x.t ∧ I64 x.s ∧ I64 x.v) : ∃ A c, v = .slice A l.length c ∧ CellsAt w A c l := by
 obtain ⟨A, c, hv, hS⟩ := Own.slAt (R := RCell) (enc := cellC) (fun _ => rfl) (fun x hx b o hc => ⟨⟨by have := hc 0 _ rfl; simpa using this, by have := hc 1 _ rfl; simpa using this, by have := hc 2 _ rfl; simpa using this, by have := hc 3 _ rfl; simpa using this, by have := hc 4 _ rfl; simpa using this⟩, hi x hx⟩) h
 subst hv
 exact ⟨A, c, rfl, h.room.1, h.room.2, hS⟩
theorem info_cell : (Tryz.prog.info? 221).map (fun i => (i.zero, i.size, i.bytes)) = some (some (.agg #[.int .i64 0, .int .i64 0, .int .i64 0, .bool false, .int .i64 0]), 5, 40) := by kernel_rfl
theorem info_cell2 : ∃ i, Tryz.prog.info? 221 = some i ∧ i.zero = some (.agg #[.int .i64 0, .int .i64 0, .int .i64 0, .bool false, .int .i64 0]) ∧ i.size = 5 ∧ i.bytes = 40 := by
 obtain ⟨i0, hi, hzz⟩ := Option.map_eq_some_iff.1 info_cell
 simp only [Prod.mk.injEq] at hzz
 exact ⟨i0, hi, hzz.1, hzz.2.1, hzz.2.2⟩
theorem five_cells {a b c d : Int} {e : Bool} : ∀ u ∈ (#[.int .i64 a, .int .i64 b, .int .i64 c, .bool e, .int .i64 d] : Array Value).toList, u.oneCell' = true := by simp [Value.oneCell']
abbrev pk (a c : Int) (w : List Int) (o : Option Int) : PieceG Key := ⟨a, c, (w, o)⟩
def farP (l : List PieceD) (k : Int) (p : PieceG Key) : Bool := farB (valOf l k p.v.1)
theorem valOf_bound {l : List PieceD} {k t : Int} (hm : MsgOk l) (hl : l.length ≤ 200) (hk : 1 ≤ k ∧ k ≤ 3) : -1000000000000 ≤ valOf l k (whichL l t) ∧ valOf l k (whichL l t) ≤ 1000000000000 := by
 have hi : ∀ i, i ∈ whichL l t → 0 ≤ i ∧ i < l.length := fun i hi => by have := mem_whichK hi; exact ⟨this.1, this.2.1⟩
 have hwl := which_len (l := l) (t := t) (n := l.length)
 cases hw : whichL l t with
 | nil => simp [valOf]
 | cons i is =>
  rw [hw] at hi
  unfold whichL at hw
  rw [hw] at hwl
  obtain ⟨x, hx⟩ := get_lt (show i.toNat < l.length by have := hi i (by simp); omega)
  have hx2 : vAt l i = x.v := by unfold vAt; rw [hx]; rfl
  have hb := near_iff.1 (hm x (List.mem_of_getElem? hx)).1.2.2
  have := valF_bound hm hk is (vAt l i) 1000000000 (fun j hj => hi j (List.mem_cons_of_mem _ hj)) (by rw [hx2]; omega) (by omega)
  simp only [valOf, List.length_cons] at hwl ⊢
  omega
theorem ints_set {w : World} {A : Option Addr} {c g j : Nat} {l : List Int} {u : Value} (h : IntsAt w A c l) (hne : ∀ b, A = some b → b.block ≠ g) : IntsAt (w.setCell ⟨g, j, none⟩ u) A c l := by
 obtain ⟨x, off, hS⟩ := h.sl
 refine ⟨h.lc, h.cm, x, off, fun i y hy => ?_⟩
 obtain ⟨h1, h2, h3, h4⟩ := hS i y hy
 exact ⟨h1, by simpa using h2, (World.cell?_of_block (w := w) (Below.heap_setCell w ⟨g, j, none⟩ u x (hne _ h1))).trans h3, h4⟩
/-- Two numbers in a row don't lie in a moment's block. -/
theorem ints_apart {w : World} {A B : Option Addr} {c n d g : Nat} {o : Option Int} {D : List Int} {i : Nat} {x y : Int} (h : IntsAt w A c D) (hB : Blk w g 241 (momC B n d o)) (hx : D[i]? = some x) (hy : D[i + 1]? = some y) : ∀ b, A = some b → b.block ≠ g := by
 rintro b rfl hg
 obtain ⟨b1, off, e1, _, h1⟩ := h.get hx
 obtain ⟨b2, off2, e2, _, h2⟩ := h.get hy
 injection e1 with e1
 injection e2 with e2
 subst e1
 simp only [Addr.mk.injEq] at e2
 obtain ⟨rfl, rfl, _⟩ := e2
 simp only at hg
 subst hg
 rw [hB.cell] at h1 h2
 unfold momC at h1 h2
 match hk : off + i, h1 with
 | 0, h1 => simp [hk] at h1
 | 1, h1 => rw [show off + (i + 1) = 2 by omega] at h2; simp at h2
 | 2, h1 => simp [hk] at h1
 | m + 3, h1 => simp [hk] at h1
theorem Own.set3 {α : Type} {enc : α → List Value} {k : Nat} {w : World} {base g : Nat} {e t : TypeId} {v x y z p q r : Value} {l : List α} (h : Own enc k w base e v l) (hB : Blk w g t #[x, y, z]) (ht : t ≠ e) : Own enc k (((w.setCell ⟨g, 0, none⟩ p).setCell ⟨g, 1, none⟩ q).setCell ⟨g, 2, none⟩ r) base e v l :=
 ((h.set_far hB ht 0 p).set_far (hB.set_ 0 p) ht 1 q).set_far ((hB.set_ 0 p).set_ 1 q) ht 2 r
theorem Blk.set3 {w : World} {g : Nat} {t : TypeId} {x y z p q r : Value} (hB : Blk w g t #[x, y, z]) : Blk (((w.setCell ⟨g, 0, none⟩ p).setCell ⟨g, 1, none⟩ q).setCell ⟨g, 2, none⟩ r) g t #[p, q, r] := by
 have h := ((hB.set_ 0 p).set_ 1 q).set_ 2 r
 simpa using h
theorem ints_set3 {w : World} {A : Option Addr} {c g : Nat} {l : List Int} {p q r : Value} (h : IntsAt w A c l) (hne : ∀ b, A = some b → b.block ≠ g) : IntsAt (((w.setCell ⟨g, 0, none⟩ p).setCell ⟨g, 1, none⟩ q).setCell ⟨g, 2, none⟩ r) A c l := ints_set (ints_set (ints_set h hne) hne) hne
theorem ints_below {w w' : World} {A : Option Addr} {c B : Nat} {l : List Int} (h : IntsAt w A c l) (hb : Below B w w') (hA : ∀ b, A = some b → b.block < B) : IntsAt w' A c l := by
 obtain ⟨x, off, hS⟩ := h.sl
 refine ⟨h.lc, h.cm, x, off, fun i y hy => ?_⟩
 obtain ⟨h1, h2, h3, h4⟩ := hS i y hy
 exact ⟨h1, Nat.lt_of_lt_of_le h2 hb.size, (hb.cell (p := ⟨x, off + i * 1, none⟩) (hA ⟨x, off, none⟩ h1)).trans h3, h4⟩
theorem below_set3 {B : Nat} {a w : World} {g : Nat} {p q r : Value} (h : Below B a w) (hg : B ≤ g) : Below B a (((w.setCell ⟨g, 0, none⟩ p).setCell ⟨g, 1, none⟩ q).setCell ⟨g, 2, none⟩ r) := ((h.setCell (p := ⟨g, 0, none⟩) hg p).setCell (p := ⟨g, 1, none⟩) hg q).setCell (p := ⟨g, 2, none⟩) hg r
theorem size_set3 {w : World} {g : Nat} {p q r : Value} : (((w.setCell ⟨g, 0, none⟩ p).setCell ⟨g, 1, none⟩ q).setCell ⟨g, 2, none⟩ r).heap.size = w.heap.size := by simp
def CellsRaw (state l : List PieceD) (k : Int) (w : World) (e : Ending) (w' : World) : Prop := ∃ U A c, Hid (MapG U ∧ ∀ t, atG U t = keyF state l t) ∧ e = .returned (.tuple #[.slice A U.length c, .bool (U.any (farP l k))]) ∧ CellsAt w' A c (U.map (toCell l k)) ∧ Below w.heap.size w w' ∧ U.length ≤ 1000
theorem endsP_sub {l : List PieceD} {D S : List Int} (hm : ∀ x, x ∈ D ↔ x ∈ S) (hS : ∀ x, x ∈ endsP l → x ∈ S) : ∀ x, x ∈ l → x.f ∈ D ∧ x.t ∈ D := fun x hx => ⟨(hm _).2 (hS _ (mem_endsP.2 ⟨x, hx, .inl rfl⟩)), (hm _).2 (hS _ (mem_endsP.2 ⟨x, hx, .inr rfl⟩))⟩

set_option maxRecDepth 100000 in
set_option maxHeartbeats 16000000 in
theorem warpCells_any (A B : Option Addr) (c d : Nat) (state l : List PieceD) (how : Int) (w : World) (hA : PiecesAt w A c state) (hB : PiecesAt w B d l) (hs0 : mapErr state = 0) (hm0 : msgErr l = 0) (hk : 1 ≤ how ∧ how ≤ 3) :
  Calls Tryz.prog 168 #[.slice A state.length c, .slice B l.length d, .int .i64 how] w (CellsRaw state l how w) := by
 obtain ⟨i0, hi, hz0, hz1, hz2⟩ := info_cell2
 have m1 := hA.len
 have m2 := hB.len
 have HS := Lib.hid (mapErr_zero hs0)
 have HM := Lib.hid (msgErr_zero hm0)
 have hsl : state.length ≤ 200 := by have := HS.out.1; omega
 have hll := HM.out.1
 have HA := Lib.hid hA; have HB := Lib.hid hB; have HK := Lib.hid hk
 clear hA hB hk hs0 hm0
 go_enter Tryz.func168, Tryz.ntmps168
 go_wp2_with fail
 have B9 := Blk.new w 241 (momC none 0 0 none)
 have hb0 := ext_alloc (Below.refl _ w) (Obj.cells (momC none 0 0 none) 241)
 refine (warpTimes_any A B c d state l _ (HA.out.ext hb0) (HB.out.ext hb0) (by omega) (by omega)).mono ?_
 rintro e w1 ⟨A1, c1, D, HD, rfl, hI1, hb1⟩
 have B9 := B9.ext hb1
 have hb1 := ext_trans hb0 hb1
 have hg9 : w.heap.size < w1.heap.size := B9.lt
 have hDl : D.length ≤ 1000 := by
  have := HD.out.2.2
  rw [List.length_append, endsP_len, endsP_len] at this
  omega
 have hD9 := hI1.len
 have HT : Hid (TurnsAt D none (keyF state l)) := Lib.hid (key_turns HD.out.1 (endsP_sub HD.out.2.1 fun _ h => List.mem_append_right _ h) (endsP_sub HD.out.2.1 fun _ h => List.mem_append_left _ h))
 have HDI : Hid (∀ k x, D[k]? = some x → I64 x) := Lib.hid fun k x hx => hI1.i64 x (List.mem_of_getElem? hx)
 clear hb0
 have HI1 := Lib.hid hI1
 go_wp2_with fail
 go_loopw [8, 10, 12] (fun u8 u10 x12 wr => ∃ (i : Nat) (out : List (PieceG Key)) (A9 : Option Addr) (n9 c9 : Nat) (o9 : Option Int) (lw : List Int) (bl : Nat), x12 = .int .i64 i ∧ u10 = .bool (out.any (farP l how)) ∧ Hid (i < D.length ∨ (D = [] ∧ i = 0 ∧ out = [])) ∧ Hid (KeyK (keyF state l) D i out) ∧ Hid (LastIs state l D i lw o9) ∧ lw.length = n9 ∧
  Own cellC 5 wr w1.heap.size 221 u8 (out.map (toCell l how)) ∧ Blk wr w.heap.size 241 (momC A9 n9 c9 o9) ∧ Own intEnc 1 wr bl 3 (.slice A9 n9 c9) lw ∧ IntsAt wr A1 c1 D ∧ Below w.heap.size w wr ∧ w1.heap.size ≤ wr.heap.size) (fun _ _ x _ => D.length - (intOf x).toNat)
 case atStart => exact ⟨0, [], none, 0, 0, none, [], 0, rfl, rfl, Lib.hid (by cases D with
  | nil => exact .inr ⟨rfl, rfl, rfl⟩
  | cons y r => exact .inl (by simp)), Lib.hid KeyK.start, Lib.hid LastIs.start, rfl, Own.nil, B9, Own.nil, hI1, hb1, Nat.le_refl _⟩
 case round =>
  clear B9 hI1 hb1
  obtain ⟨i, out, A9, n9, c9, o9, lw, bl, rfl, rfl, H0, HKK, HL, hlw, hO, B9, hO9, hI1, hb, hzr⟩ := hrel
  have hil : i ≤ D.length := by rcases H0.out with h | ⟨h, h2, _⟩ <;> omega
  have hol := HKK.out.2.1
  by_cases hlt : i + 1 < D.length
  case neg =>
   have HF : Hid (MapG out ∧ ∀ t, atG out t = keyF state l t) := Lib.hid (HKK.out.fin HD.out.1 HT.out (by omega) (H0.out.imp id fun h => ⟨h.1, h.2.2⟩))
   obtain ⟨Ao, co, rfl, hIo⟩ := own_cells hO (fun y hy => by
    obtain ⟨p, hp, rfl⟩ := List.mem_map.1 hy
    have h1 := HKK.out.2.2 p hp
    have h2 := HF.out.1.2 p hp
    have h3 := HF.out.2 p.f
    rw [HF.out.1.mem_at hp (Int.le_refl _) h2] at h3
    unfold keyF at h3
    split at h3
    ·simp at h3
    ·have e3 : p.v = (whichL l p.f, atM state p.f) := by simpa using h3
     have hvb := valOf_bound (t := p.f) HM.out.2 HM.out.1 HK.out
     refine ⟨h1.1, h1.2, ?_, ?_⟩
     ·show I64 (p.v.2.getD 0)
      rw [e3]
      cases hc : atM state p.f with
      | none => simp [I64]
      | some v => exact near_i64 (HS.out.2.vals hc)
     ·show I64 (valOf l how p.v.1)
      rw [e3]
      unfold I64
      simp only
      omega)
   rw [List.length_map]
   clear hO hO9 B9 hI1
   go_wp2_with fail
   go_ret2
   exact ⟨out, Ao, co, HF, rfl, hIo, hb, by omega⟩
  case pos =>
   obtain ⟨a, ha⟩ := get_lt (show i < D.length by omega)
   obtain ⟨e, he⟩ := get_lt hlt
   have HA0 := Lib.hid ha; have HE0 := Lib.hid he
   have hne9 := ints_apart hI1 B9 ha he
   obtain ⟨b, off, rfl, hb0, x0⟩ := hI1.get ha
   obtain ⟨b', off', e', _, x1⟩ := hI1.get he
   obtain ⟨rfl, rfl⟩ : b = b' ∧ off = off' := by simpa using e'
   have hb9 : b ≠ w.heap.size := hne9 _ rfl
   have hbl1 : b < w1.heap.size := by
    obtain ⟨b2, off2, e2, h2, _⟩ := HI1.out.get ha
    obtain ⟨rfl, _⟩ : b = b2 ∧ off = off2 := by simpa using e2
    exact h2
   have HIA := Lib.hid (HDI.out i a ha); have HIE := Lib.hid (HDI.out (i + 1) e he)
   have hil' : i < D.length := by omega
   have hltz : (i : Int) + 1 < (D.length : Int) := by omega
   have hi0 : (0 : Int) ≤ (i : Int) + 1 := by omega
   have hiw : IntKind.i64.wrap ((i : Int) + 1) = (i : Int) + 1 := IntWalk.i64_in _ (by omega)
   have HLN : Hid (LastIs state l D (i + 1) (whichL l a) (atM state a)) := Lib.hid (LastIs.next ha)
   obtain ⟨wh, hwh⟩ : ∃ wh, whichL l a = wh := ⟨_, rfl⟩
   obtain ⟨om, hom⟩ : ∃ om, atM state a = om := ⟨_, rfl⟩
   have HWH := Lib.hid hwh; have HOM := Lib.hid hom
   have hAt := warpAt_any A B c d state l a wr (HA.out.ext hb) (HB.out.ext hb) (by omega)
   unfold AtOut at hAt
   rw [hwh, hom] at hAt HLN
   obtain ⟨nm, hnm⟩ : ∃ nm, wh.length = nm := ⟨_, rfl⟩
   rw [hnm] at hAt
   clear ha he e' hwh hom hne9
   go_wp2_with fail
   refine hAt.mono ?_
   rintro ee w2 ⟨Am, cm, bm, rfl, hOm, hbm, hb2⟩
   have hO := hO.ext hb2
   have B9 := B9.ext hb2
   have hO9 := hO9.ext hb2
   have hI2 := hI1.ext hb2
   have hbw := ext_trans hb hb2
   have hzr := Nat.le_trans hzr hb2.size
   have x0 := (hb2.cell (p := ⟨b, off + i, none⟩) hb0).trans x0
   have x1 := (hb2.cell (p := ⟨b, off + (i + 1), none⟩) hb0).trans x1
   have hb0 : b < w2.heap.size := Nat.lt_of_lt_of_le hb0 hb2.size
   have hlm : nm ≤ 200 := by rw [← hnm, ← HWH.out]; exact Nat.le_trans which_len hll
   clear hAt hb hb2 hI1 hbm
   obtain ⟨sv, hsv⟩ : ∃ x, om.getD 0 = x := ⟨_, rfl⟩
   obtain ⟨sb, hsb⟩ : ∃ x, om.isSome = x := ⟨_, rfl⟩
   obtain ⟨sv9, hsv9⟩ : ∃ x, o9.getD 0 = x := ⟨_, rfl⟩
   obtain ⟨sb9, hsb9⟩ : ∃ x, o9.isSome = x := ⟨_, rfl⟩
   have HMC : Hid (momC Am nm cm om = #[.slice Am nm cm, .int .i64 sv, .bool sb]) := Lib.hid (by unfold momC; rw [hsv, hsb])
   have HMC9 : Hid (momC A9 n9 c9 o9 = #[.slice A9 n9 c9, .int .i64 sv9, .bool sb9]) := Lib.hid (by unfold momC; rw [hsv9, hsb9])
   have HSV := Lib.hid hsv; have HSB := Lib.hid hsb
   unfold momV
   rw [HMC.out]
   rw [HMC9.out] at B9
   clear hsv hsb hsv9 hsb9
   have B3 := Blk.new w2 241 #[.slice Am nm cm, .int .i64 sv, .bool sb]
   have hba := ext_alloc (Below.refl _ w2) (Obj.cells #[.slice Am nm cm, .int .i64 sv, .bool sb] 241)
   have B9a := B9.alloc (Obj.cells #[.slice Am nm cm, .int .i64 sv, .bool sb] 241)
   have X0 : (w2.alloc (Obj.cells #[.slice Am nm cm, .int .i64 sv, .bool sb] 241)).cell? ⟨b, off + i, none⟩ = some (.int .i64 a) := (hba.cell (p := ⟨b, off + i, none⟩) hb0).trans x0
   have X1 : (w2.alloc (Obj.cells #[.slice Am nm cm, .int .i64 sv, .bool sb] 241)).cell? ⟨b, off + (i + 1), none⟩ = some (.int .i64 e) := (hba.cell (p := ⟨b, off + (i + 1), none⟩) hb0).trans x1
   obtain ⟨f1, f2, f3⟩ := B9a.facts
   obtain ⟨g1, g2, g3⟩ := B3.facts
   clear x0 x1
   by_cases hw0 : wh = []
   case pos =>
    have hnm0 : nm = 0 := by rw [← hnm, hw0]; rfl
    have HKN := Lib.hid (step_skip HKK.out HD.out.1 HT.out HA0.out HE0.out (by rw [HWH.out]; exact hw0))
    subst hnm0
    go_wp2_with fail
    go_roundw
    case rel =>
     refine ⟨i + 1, out, Am, 0, cm, om, wh, bm, by go_num, rfl, Lib.hid (.inl hlt), HKN, HLN, hnm, ?_, ?_, ?_, ?_, ?_, ?_⟩
     ·exact (hO.alloc _).set3 B9a (by decide)
     ·rw [HMC.out]; exact B9a.set3
     ·exact (hOm.alloc _).set3 B9a (by decide)
     ·exact ints_set3 (hI2.ext hba) fun b' hb' => by injection hb' with hb'; rw [← hb']; exact hb9
     ·exact below_set3 (ext_alloc hbw _) (Nat.le_refl _)
     ·rw [size_set3]; simp; omega
    case measure => simp [intOf]; omega
   case neg =>
   have hnmd : ((nm : Int) == 0) = false := by
    have : nm ≠ 0 := fun h => hw0 (List.eq_nil_of_length_eq_zero (by rw [hnm]; exact h))
    simp; omega
   have IOM0 : Hid (IntsAt w2 Am cm wh) := Lib.hid (by
    have h := hOm
    rw [← hnm] at h
    obtain ⟨Ax, cx, ex, hx⟩ := own_ints h (fun x hx => by rw [← HWH.out] at hx; exact which_i64 (by omega) x hx)
    have ex : Am = Ax ∧ cm = cx := by simpa using ex
    obtain ⟨rfl, rfl⟩ := ex
    exact hx)
   by_cases hl0 : lw = []
   case pos =>
    have hn90 : n9 = 0 := by rw [← hlw, hl0]; rfl
    have hne : lw = [] ∨ ¬ (lw = wh ∧ o9 = om) := .inl hl0
    subst hn90
    go_wp2_with fail
    obtain ⟨w4, hw4⟩ : ∃ x, x = (w2.alloc (Obj.cells #[.slice Am nm cm, .int .i64 sv, .bool sb] 241)) := ⟨_, rfl⟩
    rw [← hw4] at X0 X1 B9a B3 hba ⊢
    have hz4 : w2.heap.size < w4.heap.size := B3.lt
    have IOM := IOM0.out.ext hba
    have hbc := ext_trans hbw hba
    have hO := hO.ext hba
    have hOm := hOm.ext hba
    have hI2 := hI2.ext hba
    have B9 := B9a
    have hb0 : b < w4.heap.size := by omega
    have hzr : w1.heap.size ≤ w4.heap.size := by omega
    clear hw4 f1 f2 f3 g1 g2 g3 B9a hba hbw
    have HKN := Lib.hid (step_next HKK.out HD.out.1 HT.out HA0.out HE0.out HIA.out HIE.out HL.out (by rw [HWH.out]; exact hw0) (by rw [HWH.out, HOM.out]; exact hne))
    rw [HWH.out, HOM.out] at HKN
    obtain ⟨vv, hvv⟩ : ∃ vv, valOf l how wh = vv := ⟨_, rfl⟩
    have HVV := Lib.hid hvv
    have hVal := warpValue_any Am B cm d nm om wh l how w4 IOM hnm hw0 (fun i hi => by rw [← HWH.out] at hi; have := mem_whichK hi; exact ⟨this.1, this.2.1⟩) (HB.out.ext hbc) HM.out.2 HM.out.1 (by rw [hnm]; exact hlm) HK.out
    rw [hvv] at hVal
    unfold momV at hVal
    rw [HMC.out] at hVal
    clear hne hvv
    refine hVal.mono ?_
    rintro ee w5 ⟨rfl, hb5⟩
    have hO := hO.ext hb5
    have B9 := B9.ext hb5
    have B3 := B3.ext hb5
    have hOm := hOm.ext hb5
    have hI2 := hI2.ext hb5
    have X0 := (hb5.cell (p := ⟨b, off + i, none⟩) hb0).trans X0
    have X1 := (hb5.cell (p := ⟨b, off + (i + 1), none⟩) hb0).trans X1
    have hb0 : b < w5.heap.size := Nat.lt_of_lt_of_le hb0 hb5.size
    have hbc := ext_trans hbc hb5
    have hzr := Nat.le_trans hzr hb5.size
    have hl3 := B3.lt
    clear hVal hb5
    obtain ⟨fb, hfb⟩ : ∃ fb, farB vv = fb := ⟨_, rfl⟩
    have hWF := fun w => warpFar_is hfb w
    obtain ⟨qa, hqa⟩ : ∃ qa, out.any (farP l how) = qa := ⟨_, rfl⟩
    have HQA : Hid ((out ++ [pk a e wh om]).any (farP l how) = (qa || fb)) := Lib.hid (by rw [List.any_append, hqa]; simp [farP, pk, HVV.out, hfb])
    have HCE : Hid (toCell l how (pk a e wh om) = ⟨a, e, sv, sb, vv⟩) := Lib.hid (by unfold toCell pk; simp only [HVV.out, HSV.out, HSB.out])
    have HMAP : Hid ((out ++ [pk a e wh om]).map (toCell l how) = out.map (toCell l how) ++ [⟨a, e, sv, sb, vv⟩]) := Lib.hid (by rw [List.map_append, List.map_cons, List.map_nil, HCE.out])
    have hcl : (out.map (toCell l how)).length + 1 ≤ 1000000 := by rw [List.length_map]; omega
    obtain ⟨oc, hoc⟩ : ∃ oc, oc = out.map (toCell l how) := ⟨_, rfl⟩
    rw [← hoc] at hO HMAP hcl
    rw [hqa]
    clear hqa hfb hoc
    cases qa
    case true =>
     clear hWF
     obtain ⟨Ao, co, rfl⟩ := hO.form
     obtain ⟨f1, f2, f3⟩ := B9.facts
     obtain ⟨g1, g2, g3⟩ := B3.facts
     go_wp2_with fail
     have S0 : w5.drew.cell? ⟨b, off + i, none⟩ = some (.int .i64 a) ∧ w5.drew.cell? ⟨b, off + (i + 1), none⟩ = some (.int .i64 e) ∧ w5.drew.cell? ⟨w2.heap.size, 1, none⟩ = some (.int .i64 sv) ∧ w5.drew.cell? ⟨w2.heap.size, 2, none⟩ = some (.bool sb) := ⟨X0, X1, B3.cell 1, B3.cell 2⟩
     have hOd := hO.drew
     have hOmd := hOm.drew
     have B3d := B3.drew
     have B9d := B9.drew
     have hzd : w1.heap.size ≤ w5.drew.heap.size := hzr
     clear f1 f2 f3 g1 g2 g3
     go_region_held_law (fun w' => w'.cell? ⟨b, off + i, none⟩ = some (.int .i64 a) ∧ w'.cell? ⟨b, off + (i + 1), none⟩ = some (.int .i64 e) ∧ w'.cell? ⟨w2.heap.size, 1, none⟩ = some (.int .i64 sv) ∧ w'.cell? ⟨w2.heap.size, 2, none⟩ = some (.bool sb))
      (first | exact S0 | (exact keepB4 (B := w5.drew.heap.size) ((Below.refl _ w5.drew).alloc (Nat.le_refl _) _) hb0 hb0 hl3 hl3 S0) | (exact ⟨(keepB2 (B := w1.heap.size) (((Below.refl _ w5.drew).alloc hzd _).trans hb8) hbl1 hbl1 ⟨S0.1, S0.2.1⟩).1, (keepB2 (B := w1.heap.size) (((Below.refl _ w5.drew).alloc hzd _).trans hb8) hbl1 hbl1 ⟨S0.1, S0.2.1⟩).2, B38.cell 1, B38.cell 2⟩))
      (first | (refine step_append_els (enc := cellC) rfl (.tmp 66) (.tmp 82) 217 rfl w1.heap.size 221 i0 _ 5 40 Tryz.underlying217 hi hz0 hz1 hz2 rfl (by decide) _ oc [⟨a, e, sv, sb, vv⟩] 1 rfl (by decide) rfl (hOd.alloc _) #[.int .i64 a, .int .i64 e, .int .i64 sv, .bool sb, .int .i64 vv] rfl _ (Blk.new w5.drew 221 _) rfl rfl five_cells hcl (by decide) (by simp; omega) ?_; intro v' w8 hown8 hb8 hkp8; have B38 := hkp8 _ _ _ (B3d.alloc _) (by decide); have B98 := hkp8 _ _ _ (B9d.alloc _) (by decide)))
     obtain ⟨f1, f2, f3⟩ := B98.facts
     obtain ⟨g1, g2, g3⟩ := B38.facts
     go_wp2_with fail
     go_roundw
     case rel =>
      have hbw8 : Below w.heap.size w w8 := (below_drew hbc).trans ((((Below.refl _ w5.drew).alloc hzd _).trans hb8).mono (by omega))
      refine ⟨i + 1, out ++ [pk a e wh om], Am, nm, cm, om, wh, bm, by go_num, by rw [HQA.out]; simp, Lib.hid (.inl hlt), HKN, HLN, hnm, ?_, ?_, ?_, ?_, ?_, ?_⟩
      ·rw [HMAP.out]; exact hown8.set3 B98 (by decide)
      ·rw [HMC.out]; exact B98.set3
      ·exact (Own.keep hOmd fun bb cs h => hkp8 _ _ _ (h.alloc _) (by decide)).set3 B98 (by decide)
      ·exact ints_set3 (ints_below hI2 (((below_drew (Below.refl w1.heap.size w5)).alloc hzd _).trans hb8) fun b' hb' => by injection hb' with hb'; rw [← hb']; exact hbl1) fun b' hb' => by injection hb' with hb'; rw [← hb']; exact hb9
      ·exact below_set3 hbw8 (Nat.le_refl _)
      ·rw [size_set3]; have := hb8.size; simp at this; omega
     case measure => simp [intOf]; omega
    case false =>
     go_wp2_with (go_at_call 178; refine (hWF _).mono ?_; rintro ee w6 ⟨rfl, rfl⟩)
     obtain ⟨Ao, co, rfl⟩ := hO.form
     obtain ⟨f1, f2, f3⟩ := B9.facts
     obtain ⟨g1, g2, g3⟩ := B3.facts
     have S0 : w5.drew.cell? ⟨b, off + i, none⟩ = some (.int .i64 a) ∧ w5.drew.cell? ⟨b, off + (i + 1), none⟩ = some (.int .i64 e) ∧ w5.drew.cell? ⟨w2.heap.size, 1, none⟩ = some (.int .i64 sv) ∧ w5.drew.cell? ⟨w2.heap.size, 2, none⟩ = some (.bool sb) := ⟨X0, X1, B3.cell 1, B3.cell 2⟩
     have hOd := hO.drew
     have hOmd := hOm.drew
     have B3d := B3.drew
     have B9d := B9.drew
     have hzd : w1.heap.size ≤ w5.drew.heap.size := hzr
     clear f1 f2 f3 g1 g2 g3
     go_region_held_law (fun w' => w'.cell? ⟨b, off + i, none⟩ = some (.int .i64 a) ∧ w'.cell? ⟨b, off + (i + 1), none⟩ = some (.int .i64 e) ∧ w'.cell? ⟨w2.heap.size, 1, none⟩ = some (.int .i64 sv) ∧ w'.cell? ⟨w2.heap.size, 2, none⟩ = some (.bool sb))
      (first | exact S0 | (exact keepB4 (B := w5.drew.heap.size) ((Below.refl _ w5.drew).alloc (Nat.le_refl _) _) hb0 hb0 hl3 hl3 S0) | (exact ⟨(keepB2 (B := w1.heap.size) (((Below.refl _ w5.drew).alloc hzd _).trans hb8) hbl1 hbl1 ⟨S0.1, S0.2.1⟩).1, (keepB2 (B := w1.heap.size) (((Below.refl _ w5.drew).alloc hzd _).trans hb8) hbl1 hbl1 ⟨S0.1, S0.2.1⟩).2, B38.cell 1, B38.cell 2⟩))
      (first | (refine step_append_els (enc := cellC) rfl (.tmp 66) (.tmp 82) 217 rfl w1.heap.size 221 i0 _ 5 40 Tryz.underlying217 hi hz0 hz1 hz2 rfl (by decide) _ oc [⟨a, e, sv, sb, vv⟩] 1 rfl (by decide) rfl (hOd.alloc _) #[.int .i64 a, .int .i64 e, .int .i64 sv, .bool sb, .int .i64 vv] rfl _ (Blk.new w5.drew 221 _) rfl rfl five_cells hcl (by decide) (by simp; omega) ?_; intro v' w8 hown8 hb8 hkp8; have B38 := hkp8 _ _ _ (B3d.alloc _) (by decide); have B98 := hkp8 _ _ _ (B9d.alloc _) (by decide)))
     obtain ⟨f1, f2, f3⟩ := B98.facts
     obtain ⟨g1, g2, g3⟩ := B38.facts
     go_wp2_with fail
     go_roundw
     case rel =>
      have hbw8 : Below w.heap.size w w8 := (below_drew hbc).trans ((((Below.refl _ w5.drew).alloc hzd _).trans hb8).mono (by omega))
      refine ⟨i + 1, out ++ [pk a e wh om], Am, nm, cm, om, wh, bm, by go_num, by rw [HQA.out]; simp, Lib.hid (.inl hlt), HKN, HLN, hnm, ?_, ?_, ?_, ?_, ?_, ?_⟩
      ·rw [HMAP.out]; exact hown8.set3 B98 (by decide)
      ·rw [HMC.out]; exact B98.set3
      ·exact (Own.keep hOmd fun bb cs h => hkp8 _ _ _ (h.alloc _) (by decide)).set3 B98 (by decide)
      ·exact ints_set3 (ints_below hI2 (((below_drew (Below.refl w1.heap.size w5)).alloc hzd _).trans hb8) fun b' hb' => by injection hb' with hb'; rw [← hb']; exact hbl1) fun b' hb' => by injection hb' with hb'; rw [← hb']; exact hb9
      ·exact below_set3 hbw8 (Nat.le_refl _)
      ·rw [size_set3]; have := hb8.size; simp at this; omega
     case measure => simp [intOf]; omega
   case neg =>
   have hn9p : 0 < n9 := by
    have : n9 ≠ 0 := fun h => hl0 (List.eq_nil_of_length_eq_zero (by rw [hlw]; exact h))
    omega
   have hn9d : decide ((n9 : Int) > 0) = true := by simp; omega
   have IOL0 : Hid (IntsAt w2 A9 c9 lw) := Lib.hid (by
    have h := hO9
    rw [← hlw] at h
    obtain ⟨Ax, cx, ex, hx⟩ := own_ints h (fun x hx => by
     have hi : i ≠ 0 := fun h => hl0 (HL.out.1 h)
     obtain ⟨p, hp⟩ := get_lt (show i - 1 < D.length by omega)
     have := (HL.out.2 (i - 1) p (by omega) hp).1
     rw [this] at hx
     exact which_i64 (by omega) x hx)
    have ex : A9 = Ax ∧ c9 = cx := by simpa using ex
    obtain ⟨rfl, rfl⟩ := ex
    exact hx)
   have hSa := warpSame_any A9 Am c9 cm n9 nm o9 om lw wh (w2.alloc (Obj.cells #[.slice Am nm cm, .int .i64 sv, .bool sb] 241)) (IOL0.out.ext hba) (IOM0.out.ext hba) hlw hnm
   unfold momV at hSa
   rw [HMC.out, HMC9.out] at hSa
   by_cases hsm : lw = wh ∧ o9 = om
   case neg =>
    rw [decide_eq_false hsm] at hSa
    have hne : lw = [] ∨ ¬ (lw = wh ∧ o9 = om) := .inr hsm
    clear hsm
    go_wp2_with fail
    refine hSa.mono ?_
    rintro ee w4 ⟨rfl, hb4⟩
    have hba := ext_trans hba hb4
    have X0 := (hb4.cell (p := ⟨b, off + i, none⟩) (by simp; omega)).trans X0
    have X1 := (hb4.cell (p := ⟨b, off + (i + 1), none⟩) (by simp; omega)).trans X1
    have B9 := B9a.ext hb4
    have B3 := B3.ext hb4
    have hz4 : w2.heap.size < w4.heap.size := B3.lt
    have IOM := IOM0.out.ext hba
    have hbc := ext_trans hbw hba
    have hO := hO.ext hba
    have hOm := hOm.ext hba
    have hI2 := hI2.ext hba
    have hb0 : b < w4.heap.size := by omega
    have hzr : w1.heap.size ≤ w4.heap.size := by omega
    clear hSa f1 f2 f3 g1 g2 g3 B9a hba hbw hb4
    obtain ⟨g1, g2, g3⟩ := B3.facts
    go_wp2_with fail
    clear g1 g2 g3
    have HKN := Lib.hid (step_next HKK.out HD.out.1 HT.out HA0.out HE0.out HIA.out HIE.out HL.out (by rw [HWH.out]; exact hw0) (by rw [HWH.out, HOM.out]; exact hne))
    rw [HWH.out, HOM.out] at HKN
    obtain ⟨vv, hvv⟩ : ∃ vv, valOf l how wh = vv := ⟨_, rfl⟩
    have HVV := Lib.hid hvv
    have hVal := warpValue_any Am B cm d nm om wh l how w4 IOM hnm hw0 (fun i hi => by rw [← HWH.out] at hi; have := mem_whichK hi; exact ⟨this.1, this.2.1⟩) (HB.out.ext hbc) HM.out.2 HM.out.1 (by rw [hnm]; exact hlm) HK.out
    rw [hvv] at hVal
    unfold momV at hVal
    rw [HMC.out] at hVal
    clear hne hvv
    refine hVal.mono ?_
    rintro ee w5 ⟨rfl, hb5⟩
    have hO := hO.ext hb5
    have B9 := B9.ext hb5
    have B3 := B3.ext hb5
    have hOm := hOm.ext hb5
    have hI2 := hI2.ext hb5
    have X0 := (hb5.cell (p := ⟨b, off + i, none⟩) hb0).trans X0
    have X1 := (hb5.cell (p := ⟨b, off + (i + 1), none⟩) hb0).trans X1
    have hb0 : b < w5.heap.size := Nat.lt_of_lt_of_le hb0 hb5.size
    have hbc := ext_trans hbc hb5
    have hzr := Nat.le_trans hzr hb5.size
    have hl3 := B3.lt
    clear hVal hb5
    obtain ⟨fb, hfb⟩ : ∃ fb, farB vv = fb := ⟨_, rfl⟩
    have hWF := fun w => warpFar_is hfb w
    obtain ⟨qa, hqa⟩ : ∃ qa, out.any (farP l how) = qa := ⟨_, rfl⟩
    have HQA : Hid ((out ++ [pk a e wh om]).any (farP l how) = (qa || fb)) := Lib.hid (by rw [List.any_append, hqa]; simp [farP, pk, HVV.out, hfb])
    have HCE : Hid (toCell l how (pk a e wh om) = ⟨a, e, sv, sb, vv⟩) := Lib.hid (by unfold toCell pk; simp only [HVV.out, HSV.out, HSB.out])
    have HMAP : Hid ((out ++ [pk a e wh om]).map (toCell l how) = out.map (toCell l how) ++ [⟨a, e, sv, sb, vv⟩]) := Lib.hid (by rw [List.map_append, List.map_cons, List.map_nil, HCE.out])
    have hcl : (out.map (toCell l how)).length + 1 ≤ 1000000 := by rw [List.length_map]; omega
    obtain ⟨oc, hoc⟩ : ∃ oc, oc = out.map (toCell l how) := ⟨_, rfl⟩
    rw [← hoc] at hO HMAP hcl
    rw [hqa]
    clear hqa hfb hoc
    cases qa
    case true =>
     clear hWF
     obtain ⟨Ao, co, rfl⟩ := hO.form
     obtain ⟨f1, f2, f3⟩ := B9.facts
     obtain ⟨g1, g2, g3⟩ := B3.facts
     go_wp2_with fail
     have S0 : w5.drew.cell? ⟨b, off + i, none⟩ = some (.int .i64 a) ∧ w5.drew.cell? ⟨b, off + (i + 1), none⟩ = some (.int .i64 e) ∧ w5.drew.cell? ⟨w2.heap.size, 1, none⟩ = some (.int .i64 sv) ∧ w5.drew.cell? ⟨w2.heap.size, 2, none⟩ = some (.bool sb) := ⟨X0, X1, B3.cell 1, B3.cell 2⟩
     have hOd := hO.drew
     have hOmd := hOm.drew
     have B3d := B3.drew
     have B9d := B9.drew
     have hzd : w1.heap.size ≤ w5.drew.heap.size := hzr
     clear f1 f2 f3 g1 g2 g3
     go_region_held_law (fun w' => w'.cell? ⟨b, off + i, none⟩ = some (.int .i64 a) ∧ w'.cell? ⟨b, off + (i + 1), none⟩ = some (.int .i64 e) ∧ w'.cell? ⟨w2.heap.size, 1, none⟩ = some (.int .i64 sv) ∧ w'.cell? ⟨w2.heap.size, 2, none⟩ = some (.bool sb))
      (first | exact S0 | (exact keepB4 (B := w5.drew.heap.size) ((Below.refl _ w5.drew).alloc (Nat.le_refl _) _) hb0 hb0 hl3 hl3 S0) | (exact ⟨(keepB2 (B := w1.heap.size) (((Below.refl _ w5.drew).alloc hzd _).trans hb8) hbl1 hbl1 ⟨S0.1, S0.2.1⟩).1, (keepB2 (B := w1.heap.size) (((Below.refl _ w5.drew).alloc hzd _).trans hb8) hbl1 hbl1 ⟨S0.1, S0.2.1⟩).2, B38.cell 1, B38.cell 2⟩))
      (first | (refine step_append_els (enc := cellC) rfl (.tmp 66) (.tmp 82) 217 rfl w1.heap.size 221 i0 _ 5 40 Tryz.underlying217 hi hz0 hz1 hz2 rfl (by decide) _ oc [⟨a, e, sv, sb, vv⟩] 1 rfl (by decide) rfl (hOd.alloc _) #[.int .i64 a, .int .i64 e, .int .i64 sv, .bool sb, .int .i64 vv] rfl _ (Blk.new w5.drew 221 _) rfl rfl five_cells hcl (by decide) (by simp; omega) ?_; intro v' w8 hown8 hb8 hkp8; have B38 := hkp8 _ _ _ (B3d.alloc _) (by decide); have B98 := hkp8 _ _ _ (B9d.alloc _) (by decide)))
     obtain ⟨f1, f2, f3⟩ := B98.facts
     obtain ⟨g1, g2, g3⟩ := B38.facts
     go_wp2_with fail
     go_roundw
     case rel =>
      have hbw8 : Below w.heap.size w w8 := (below_drew hbc).trans ((((Below.refl _ w5.drew).alloc hzd _).trans hb8).mono (by omega))
      refine ⟨i + 1, out ++ [pk a e wh om], Am, nm, cm, om, wh, bm, by go_num, by rw [HQA.out]; simp, Lib.hid (.inl hlt), HKN, HLN, hnm, ?_, ?_, ?_, ?_, ?_, ?_⟩
      ·rw [HMAP.out]; exact hown8.set3 B98 (by decide)
      ·rw [HMC.out]; exact B98.set3
      ·exact (Own.keep hOmd fun bb cs h => hkp8 _ _ _ (h.alloc _) (by decide)).set3 B98 (by decide)
      ·exact ints_set3 (ints_below hI2 (((below_drew (Below.refl w1.heap.size w5)).alloc hzd _).trans hb8) fun b' hb' => by injection hb' with hb'; rw [← hb']; exact hbl1) fun b' hb' => by injection hb' with hb'; rw [← hb']; exact hb9
      ·exact below_set3 hbw8 (Nat.le_refl _)
      ·rw [size_set3]; have := hb8.size; simp at this; omega
     case measure => simp [intOf]; omega
    case false =>
     go_wp2_with (go_at_call 178; refine (hWF _).mono ?_; rintro ee w6 ⟨rfl, rfl⟩)
     obtain ⟨Ao, co, rfl⟩ := hO.form
     obtain ⟨f1, f2, f3⟩ := B9.facts
     obtain ⟨g1, g2, g3⟩ := B3.facts
     have S0 : w5.drew.cell? ⟨b, off + i, none⟩ = some (.int .i64 a) ∧ w5.drew.cell? ⟨b, off + (i + 1), none⟩ = some (.int .i64 e) ∧ w5.drew.cell? ⟨w2.heap.size, 1, none⟩ = some (.int .i64 sv) ∧ w5.drew.cell? ⟨w2.heap.size, 2, none⟩ = some (.bool sb) := ⟨X0, X1, B3.cell 1, B3.cell 2⟩
     have hOd := hO.drew
     have hOmd := hOm.drew
     have B3d := B3.drew
     have B9d := B9.drew
     have hzd : w1.heap.size ≤ w5.drew.heap.size := hzr
     clear f1 f2 f3 g1 g2 g3
     go_region_held_law (fun w' => w'.cell? ⟨b, off + i, none⟩ = some (.int .i64 a) ∧ w'.cell? ⟨b, off + (i + 1), none⟩ = some (.int .i64 e) ∧ w'.cell? ⟨w2.heap.size, 1, none⟩ = some (.int .i64 sv) ∧ w'.cell? ⟨w2.heap.size, 2, none⟩ = some (.bool sb))
      (first | exact S0 | (exact keepB4 (B := w5.drew.heap.size) ((Below.refl _ w5.drew).alloc (Nat.le_refl _) _) hb0 hb0 hl3 hl3 S0) | (exact ⟨(keepB2 (B := w1.heap.size) (((Below.refl _ w5.drew).alloc hzd _).trans hb8) hbl1 hbl1 ⟨S0.1, S0.2.1⟩).1, (keepB2 (B := w1.heap.size) (((Below.refl _ w5.drew).alloc hzd _).trans hb8) hbl1 hbl1 ⟨S0.1, S0.2.1⟩).2, B38.cell 1, B38.cell 2⟩))
      (first | (refine step_append_els (enc := cellC) rfl (.tmp 66) (.tmp 82) 217 rfl w1.heap.size 221 i0 _ 5 40 Tryz.underlying217 hi hz0 hz1 hz2 rfl (by decide) _ oc [⟨a, e, sv, sb, vv⟩] 1 rfl (by decide) rfl (hOd.alloc _) #[.int .i64 a, .int .i64 e, .int .i64 sv, .bool sb, .int .i64 vv] rfl _ (Blk.new w5.drew 221 _) rfl rfl five_cells hcl (by decide) (by simp; omega) ?_; intro v' w8 hown8 hb8 hkp8; have B38 := hkp8 _ _ _ (B3d.alloc _) (by decide); have B98 := hkp8 _ _ _ (B9d.alloc _) (by decide)))
     obtain ⟨f1, f2, f3⟩ := B98.facts
     obtain ⟨g1, g2, g3⟩ := B38.facts
     go_wp2_with fail
     go_roundw
     case rel =>
      have hbw8 : Below w.heap.size w w8 := (below_drew hbc).trans ((((Below.refl _ w5.drew).alloc hzd _).trans hb8).mono (by omega))
      refine ⟨i + 1, out ++ [pk a e wh om], Am, nm, cm, om, wh, bm, by go_num, by rw [HQA.out]; simp, Lib.hid (.inl hlt), HKN, HLN, hnm, ?_, ?_, ?_, ?_, ?_, ?_⟩
      ·rw [HMAP.out]; exact hown8.set3 B98 (by decide)
      ·rw [HMC.out]; exact B98.set3
      ·exact (Own.keep hOmd fun bb cs h => hkp8 _ _ _ (h.alloc _) (by decide)).set3 B98 (by decide)
      ·exact ints_set3 (ints_below hI2 (((below_drew (Below.refl w1.heap.size w5)).alloc hzd _).trans hb8) fun b' hb' => by injection hb' with hb'; rw [← hb']; exact hbl1) fun b' hb' => by injection hb' with hb'; rw [← hb']; exact hb9
      ·exact below_set3 hbw8 (Nat.le_refl _)
      ·rw [size_set3]; have := hb8.size; simp at this; omega
     case measure => simp [intOf]; omega
   case pos =>
    rw [decide_eq_true hsm] at hSa
    obtain ⟨q, z, rfl, hz, hzv, hkg⟩ := step_grow HKK.out HD.out.1 HT.out HA0.out HE0.out HIE.out HL.out hl0 (by rw [HWH.out]; exact hsm.1) (by rw [HOM.out]; exact hsm.2)
    have HKN := Lib.hid hkg
    have HQA : Hid ((q ++ [pk z.f e z.v.1 z.v.2]).any (farP l how) = (q.any (farP l how) || farP l how z)) := Lib.hid (by simp [List.any_append, farP, pk])
    clear hsm hz hzv hkg
    go_wp2_with fail
    refine hSa.mono ?_
    rintro ee w4 ⟨rfl, hb4⟩
    have hba := ext_trans hba hb4
    have X0 := (hb4.cell (p := ⟨b, off + i, none⟩) (by simp; omega)).trans X0
    have X1 := (hb4.cell (p := ⟨b, off + (i + 1), none⟩) (by simp; omega)).trans X1
    have B9 := B9a.ext hb4
    have B3 := B3.ext hb4
    have hz4 : w2.heap.size < w4.heap.size := B3.lt
    have hbc := ext_trans hbw hba
    have hO := hO.ext hba
    have hOm := hOm.ext hba
    have hI2 := hI2.ext hba
    have hzr : w1.heap.size ≤ w4.heap.size := by omega
    clear hSa f1 f2 f3 g1 g2 g3 B9a hba hbw hb4
    obtain ⟨qa, hqa⟩ : ∃ qa, (q.any (farP l how) || farP l how z) = qa := ⟨_, rfl⟩
    rw [hqa] at HQA ⊢
    have hlq : q.length + 1 ≤ 1000 := by simp at hol; omega
    clear hqa
    rw [List.map_append, List.map_cons, List.map_nil] at hO
    obtain ⟨Ao, co, rfl⟩ := hO.form
    rw [List.length_append, List.length_map] at hO ⊢
    simp only [List.length_cons, List.length_nil, Nat.zero_add] at hO ⊢
    obtain ⟨go, rfl⟩ : ∃ g, Ao = some ⟨g, 0, none⟩ := by
     rcases hO.2 with ⟨h1, _⟩ | ⟨g, cap, cur, hv, _⟩
     ·simp at h1
     ·simp only [Value.slice.injEq] at hv
      exact ⟨g, hv.1⟩
    obtain ⟨hnmx, hgo, hmc, hcm, cs, hBk, hcs, hrow⟩ := hO.cells cellC_len
    have hza : (q.map (toCell l how) ++ [toCell l how z])[q.length]? = some (toCell l how z) := by
     rw [List.getElem?_append_right (by simp)]
     simp
    have hz1 : cs[q.length * 5 + 1]? = some (.int .i64 z.t) := by have := hrow _ _ hza 1 (by decide); simpa [cellC, toCell] using this
    have hjw : IntKind.i64.wrap (q.length : Int) = q.length := IntWalk.i64_in _ (by omega)
    have hjl : q.length < q.length + 1 := by omega
    have hgne : w.heap.size ≠ go := by omega
    have B3o := B3.far (p := ⟨go, q.length * 5 + 1, none⟩) (by
     intro h
     unfold Blk at B3 hBk
     rw [show w2.heap.size = go from h, hBk] at B3
     cases B3) (.int .i64 e)
    have B9o := B9.far (p := ⟨go, q.length * 5 + 1, none⟩) hgne (.int .i64 e)
    obtain ⟨c1', c2', c3'⟩ := hBk.facts
    obtain ⟨f1, f2, f3⟩ := B9o.facts
    obtain ⟨g1, g2, g3⟩ := B3o.facts
    have HR := Lib.hid hrow
    have HMC5 := Lib.hid hmc
    have HZA := Lib.hid hza
    clear hrow hmc hnmx hza
    go_wp2_with fail
    go_roundw
    case rel =>
     have BS : Blk (w4.setCell ⟨go, q.length * 5 + 1, none⟩ (.int .i64 e)) go 221 (cs.setIfInBounds (q.length * 5 + 1) (.int .i64 e)) := hBk.set_ _ _
     have hMAP : (q ++ [pk z.f e z.v.1 z.v.2]).map (toCell l how) = (q.map (toCell l how) ++ [toCell l how z]).set q.length (toCell l how (pk z.f e z.v.1 z.v.2)) := by
      rw [List.map_append, List.map_cons, List.map_nil]
      have : q.length = (q.map (toCell l how)).length := by simp
      rw [this, List.set_append_right (h := Nat.le_refl _)]
      simp
     have hO2 : Own cellC 5 (w4.setCell ⟨go, q.length * 5 + 1, none⟩ (.int .i64 e)) w1.heap.size 221 (.slice (some ⟨go, 0, none⟩) (q.length + 1) co) ((q ++ [pk z.f e z.v.1 z.v.2]).map (toCell l how)) := by
      have h2 := Own.of_cells (enc := cellC) (m := (q ++ [pk z.f e z.v.1 z.v.2]).map (toCell l how)) cellC_len (by decide) BS hgo (by have := HMC5.out; simpa using this) hcm (by simpa using hcs) (by
       rw [hMAP]
       refine HR.out.set (by simp) (fun t ht => by rw [Array.getElem?_setIfInBounds_ne (by omega)]) (fun t ht => ?_)
       have k1 : q.length * 5 + 1 < cs.size := (Array.getElem?_eq_some_iff.1 hz1).1
       have hrow := HR.out _ _ HZA.out
       match t, ht with
       | 0, _ => rw [Array.getElem?_setIfInBounds_ne (by omega)]; exact hrow 0 (by decide)
       | 1, _ => rw [Array.getElem?_setIfInBounds_self_of_lt k1]; rfl
       | 2, _ => rw [Array.getElem?_setIfInBounds_ne (by omega)]; exact hrow 2 (by decide)
       | 3, _ => rw [Array.getElem?_setIfInBounds_ne (by omega)]; exact hrow 3 (by decide)
       | 4, _ => rw [Array.getElem?_setIfInBounds_ne (by omega)]; exact hrow 4 (by decide))
      simpa using h2
     refine ⟨i + 1, q ++ [pk z.f e z.v.1 z.v.2], Am, nm, cm, om, wh, bm, by go_num, by rw [HQA.out], Lib.hid (.inl hlt), HKN, HLN, hnm, ?_, ?_, ?_, ?_, ?_, ?_⟩
     ·exact hO2.set3 B9o (by decide)
     ·rw [HMC.out]; exact B9o.set3
     ·exact (hOm.set_far hBk (by decide) _ _).set3 B9o (by decide)
     ·exact ints_set3 (ints_set hI2 fun b' hb' => by injection hb' with hb'; rw [← hb']; simp only; omega) fun b' hb' => by injection hb' with hb'; rw [← hb']; exact hb9
     ·exact below_set3 (hbc.setCell (by simp only; omega) _) (Nat.le_refl _)
     ·rw [size_set3]; simpa using hzr
    case measure => simp [intOf]; omega
end Go.Proofs.YtjcimdpldlamfaaGreatDoor
