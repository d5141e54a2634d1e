/- Several texts in one: Those, Builder, Each. -/
import Derived.Shelf.Abstract
import Derived.Shelf.GgClosure.Gives
import Derived.BigRegion
import Derived.Test.YtjcimdpldlamfaaGreatDoorBd069242f7b3
import Derived.Test.YtjcimdpldlamfaaGreatDoorBd2f7b3eaff4
import Derived.Test.YtjcimdpldlamfaaGreatDoorBd1aa46607c4
import Derived.Test.YtjcimdpldlamfaaGreatDoorBd4452353c6b
/- The walks of the document's ends and Those. -/
namespace Go.Proofs.YtjcimdpldlamfaaGreatDoor
open Go.RowKit Go.Shelf

theorem keepB2 {B : Nat} {w w' : World} {p0 p1 : Addr} {v0 v1 : Value} (hb : Below B w w') (h0 : p0.block < B) (h1 : p1.block < B) (h : w.cell? p0 = some v0 ∧ w.cell? p1 = some v1) : w'.cell? p0 = some v0 ∧ w'.cell? p1 = some v1 := ⟨cell_keepB hb h0 h.1, cell_keepB hb h1 h.2⟩
section
variable {is : Int → Bool} {D : List Int} {i : Nat} {out o : List IvlD} {a c : Int} {z : IvlD}
theorem rises_low (h : D.Pairwise (· < ·)) {b : Int} (hb : D[0]? = some b) (ha : D[i]? = some a) : b ≤ a := rises_first h hb (List.mem_of_getElem? ha)
theorem first_of_D (ha : D[i]? = some a) : ∃ b, D[0]? = some b := get_lt (by have := lt_of_get ha; omega)
end

end Go.Proofs.YtjcimdpldlamfaaGreatDoor
/- The walks of the builder of a map: add, done (printed by genbuilder.py). -/
namespace Go.Proofs.YtjcimdpldlamfaaGreatDoor
open Go.RowKit Go.Shelf

theorem pieceC_len (x : PieceD) : (pieceC x).length = 3 := rfl
def joins (z p : PieceD) : Prop := z.t = p.f ∧ z.v = p.v
def AddOut (B bb base : Nat) (out' : List PieceD) (W : World) (e : Ending) (w' : World) : Prop := e = .returned (.tuple #[]) ∧ ∃ v', Blk w' bb 248 #[v'] ∧ Own pieceC 3 w' base 113 v' out' ∧ Below B W w'

set_option maxRecDepth 100000 in
set_option maxHeartbeats 16000000 in
theorem add_first (B bb base : Nat) (v : Value) (out : List PieceD) (p : PieceD) (W : World) (hB : Blk W bb 248 #[v]) (hO : Own pieceC 3 W base 113 v out) (hBb : B ≤ bb) (hBs : B ≤ base) (hbs : base ≤ W.heap.size) (hl : out.length ≤ 100000) (hp : p.f < p.t)
  (hn : out = [] ∨ ∃ o z, out = o ++ [z] ∧ ¬ joins z p) :
  Calls Tryz.prog 183 #[.pointer (some ⟨bb, 0, none⟩), pieceV p] W (AddOut B bb base (out ++ [p]) W) := by
 obtain ⟨i0, hi, hz0, hz1, hz2⟩ := info_piece2
 have dp : decide (p.t ≤ p.f) = false := by simp; omega
 obtain ⟨A, c, rfl⟩ := hO.form
 have Bp := Blk.new W 113 #[.int .i64 p.f, .int .i64 p.t, .int .i64 p.v]
 have hb1 := ext_alloc (Below.refl _ W) (Obj.cells #[.int .i64 p.f, .int .i64 p.t, .int .i64 p.v] 113)
 have hB1 := hB.alloc (Obj.cells #[.int .i64 p.f, .int .i64 p.t, .int .i64 p.v] 113)
 have hO1 := hO.alloc (Obj.cells #[.int .i64 p.f, .int .i64 p.t, .int .i64 p.v] 113)
 have hBlt := hB.lt
 have hBW : B ≤ W.heap.size := by omega
 obtain ⟨c1, c2, c3⟩ := hB1.facts
 obtain ⟨e1, e2, e3⟩ := Bp.facts
 have HCL : Hid (out.length + 1 ≤ 1000000) := Lib.hid (by omega)
 have hO0 := Lib.hid hO
 clear hB hO hp
 go_enter Tryz.func183, Tryz.ntmps183
 rcases hn with rfl | ⟨o, z, rfl, hj⟩
 ·have hd : decide ((0 : Int) > 0) = false := by decide
  go_wp2_with fail
  go_quiet (fail)
  go_wp2_with fail
  obtain ⟨wr, hwr⟩ : ∃ wr, wr = (W.alloc (Obj.cells #[.int .i64 p.f, .int .i64 p.t, .int .i64 p.v] 113)).drewN nq := ⟨_, rfl⟩
  have hB2 : Blk wr bb 248 #[.slice A ([] : List PieceD).length c] := by rw [hwr]; exact hB1.drewN _
  have Bp2 : Blk wr W.heap.size 113 #[.int .i64 p.f, .int .i64 p.t, .int .i64 p.v] := by rw [hwr]; exact Bp.drewN _
  have hO2 : Own pieceC 3 wr base 113 (.slice A ([] : List PieceD).length c) ([] : List PieceD) := by rw [hwr]; exact hO1.drewN _
  have hb2 : Below W.heap.size W wr := by rw [hwr]; exact below_drewN hb1 _
  rw [← hwr]
  clear hwr c1 c2 c3 e1 e2 e3 hB1 Bp hO1 hb1
  obtain ⟨S, hSS⟩ : ∃ S : World → Prop, Hid (S = fun w' => w'.cell? ⟨bb, 0, none⟩ = some (.slice A ([] : List PieceD).length c) ∧ w'.cell? ⟨W.heap.size, 0, none⟩ = some (.int .i64 p.f) ∧ w'.cell? ⟨W.heap.size, 1, none⟩ = some (.int .i64 p.t) ∧ w'.cell? ⟨W.heap.size, 2, none⟩ = some (.int .i64 p.v)) := ⟨_, Lib.hid rfl⟩
  have HSB : Hid (∀ w' : World, Blk w' bb 248 #[.slice A ([] : List PieceD).length c] → Blk w' W.heap.size 113 #[.int .i64 p.f, .int .i64 p.t, .int .i64 p.v] → S w') := Lib.hid fun w' h1 h2 => by rw [hSS.out]; exact ⟨h1.cell 0, h2.cell 0, h2.cell 1, h2.cell 2⟩
  have hB2 := hB2.drew
  have Bp2 := Bp2.drew
  have hO2 := hO2.drew
  have hb2 := below_drew hb2
  have hzw := hb2.size
  have hS0 := HSB.out _ hB2 Bp2
  refine WpN.begin (S := S) 10 (by kernel_rfl) ?_
  refine tN 0 ?_ ?_ <| tN 1 ?_ ?_ <| tN 2 ?_ ?_ <| tN 3 ?_ ?_ <| tN 4 ?_ ?_ <| tN 5 ?_ ?_ ?_
  iterate 6
   rotate_left
   ·intro w hSw; rw [hSS.out] at hSw; obtain ⟨sw0, sw1, sw2, sw3⟩ := hSw; (try simp only [pS]); go_simp; try with_reducible rfl
  try simp only [pS]
  refine WpN.one (i := 6) rfl (by kernel_rfl) fun K hK => ?_
  go_wp2_with fail
  have hS7 := HSB.out _ (hB2.alloc (Obj.cells #[.int .i64 p.f, .int .i64 p.t, .int .i64 p.v] 113)) (Bp2.alloc (Obj.cells #[.int .i64 p.f, .int .i64 p.t, .int .i64 p.v] 113))
  refine hK.out _ _ ⟨fun _ => hS7, ?_⟩
  clear hK K
  try simp only [pS]
  refine WpN.one (i := 7) rfl (by kernel_rfl) fun K hK => ?_
  refine wp_append_lie (enc := pieceC) (.tmp 59) (.tmp 61) 111 rfl base 113 i0 _ 3 24 Tryz.underlying111 hi hz0 hz1 hz2 rfl (by decide) _ ([] : List PieceD) p rfl hO2 #[.int .i64 p.f, .int .i64 p.t, .int .i64 p.v] rfl wr.drew.heap.size rfl rfl rfl three_ints (by have := HCL.out; first | (simp; done) | (simp; omega)) (by decide) (by omega) ?_
  intro gn cap w6 hown6 hbb hkp hgn
  have X6 := hkp _ _ _ hB2 (hO2.other hB2 (by decide))
  have P6 := hkp _ _ _ Bp2 (fun e => by have := (World.ownsRow.lt hO0.out _ e.symm).2; omega)
  have hS8 := HSB.out _ X6 P6
  refine hK.out _ _ ⟨fun _ => hS8, ?_⟩
  clear hK K
  try simp only [Act.put, List.setIfInBounds_toArray]
  refine WpN.takeD (i := 8) (v := ?_) rfl rfl (by kernel_rfl) (fun _ _ _ h => h) (Or.inl ⟨by rfl, ?_⟩) (by assumption) ?_
  rotate_left
  ·intro w hSw; rw [hSS.out] at hSw; obtain ⟨sw0, sw1, sw2, sw3⟩ := hSw; go_simp; try with_reducible rfl
  try simp only [Act.put]
  refine WpN.takeD (i := 9) (v := ?_) rfl rfl (by kernel_rfl) (fun _ _ _ h => h) (Or.inl ⟨by rfl, ?_⟩) (by assumption) ?_
  rotate_left
  ·intro w hSw; rw [hSS.out] at hSw; obtain ⟨sw0, sw1, sw2, sw3⟩ := hSw; go_simp; try with_reducible rfl
  try simp only [Act.put]
  refine WpN.one (i := 10) rfl (by kernel_rfl) fun K hK => ?_
  obtain ⟨y1, y2, y3⟩ := X6.facts
  go_wp2_with fail
  refine hK.out _ _ ⟨fun h => by omega, ?_⟩
  clear hK K
  refine WpN.done (by kernel_rfl) ?_ _
  clear y1 y2 y3
  go_wp2_with fail
  refine ⟨rfl, .tuple #[], by simp [results, Tryz.results183], ?_⟩
  refine ⟨rfl, _, by simpa using X6.set_ 0 (.slice (some ⟨gn, 0, none⟩) ((([] : List PieceD)).length + 1) cap), by simpa using hown6.keep (keep_store X6 (by decide) 0 _), ?_⟩
  exact ((hb2.mono hBW).trans (hbb.mono hBs)).setCell hBb _
 ·rw [List.length_append] at hB1 hO1 hO0 c1 HCL
  simp only [List.length_cons, List.length_nil, Nat.zero_add] at hB1 hO1 hO0 c1 HCL
  obtain ⟨go, rfl⟩ : ∃ g, A = some ⟨g, 0, none⟩ := by
   rcases hO1.2 with ⟨h1, _⟩ | ⟨g, cap, cur, hv, _⟩
   ·simp at h1
   ·simp only [Value.slice.injEq] at hv
    exact ⟨g, hv.1⟩
  obtain ⟨hnm, hgo, hmc, hcm, cs, hBk, hcs, hrow⟩ := hO1.cells pieceC_len
  have hza : (o ++ [z])[o.length]? = some z := by simp
  have z1 : cs[o.length * 3 + 1]? = some (.int .i64 z.t) := by have := hrow _ z hza 1 (by decide); simpa [pieceC] using this
  have z2 : cs[o.length * 3 + 2]? = some (.int .i64 z.v) := by have := hrow _ z hza 2 (by decide); simpa [pieceC] using this
  have hjw : IntKind.i64.wrap (o.length : Int) = o.length := IntWalk.i64_in _ (by simp at hl; omega)
  have hd : (0 : Int) < (o.length : Int) + 1 := by omega
  obtain ⟨g1, g2, g3⟩ := hBk.facts
  have hjl : o.length < o.length + 1 := by omega
  clear hrow hmc hnm hza hcs hcm
  by_cases a1 : z.t = p.f
  case neg =>
   have d1 : (z.t == p.f) = false := by simpa using a1
   clear a1 hj
   go_wp2_with fail
   go_quiet (fail)
   go_wp2_with fail
   clear g1 g2 g3 hBk z1 z2
   obtain ⟨wr, hwr⟩ : ∃ wr, wr = (W.alloc (Obj.cells #[.int .i64 p.f, .int .i64 p.t, .int .i64 p.v] 113)).drewN nq := ⟨_, rfl⟩
   have hB2 : Blk wr bb 248 #[.slice (some ⟨go, 0, none⟩) (o.length + 1) c] := by rw [hwr]; exact hB1.drewN _
   have Bp2 : Blk wr W.heap.size 113 #[.int .i64 p.f, .int .i64 p.t, .int .i64 p.v] := by rw [hwr]; exact Bp.drewN _
   have hO2 : Own pieceC 3 wr base 113 (.slice (some ⟨go, 0, none⟩) (o.length + 1) c) (o ++ [z]) := by rw [hwr]; exact hO1.drewN _
   have hb2 : Below W.heap.size W wr := by rw [hwr]; exact below_drewN hb1 _
   rw [← hwr]
   clear hwr c1 c2 c3 e1 e2 e3 hB1 Bp hO1 hb1
   obtain ⟨S, hSS⟩ : ∃ S : World → Prop, Hid (S = fun w' => w'.cell? ⟨bb, 0, none⟩ = some (.slice (some ⟨go, 0, none⟩) (o.length + 1) c) ∧ w'.cell? ⟨W.heap.size, 0, none⟩ = some (.int .i64 p.f) ∧ w'.cell? ⟨W.heap.size, 1, none⟩ = some (.int .i64 p.t) ∧ w'.cell? ⟨W.heap.size, 2, none⟩ = some (.int .i64 p.v)) := ⟨_, Lib.hid rfl⟩
   have HSB : Hid (∀ w' : World, Blk w' bb 248 #[.slice (some ⟨go, 0, none⟩) (o.length + 1) c] → Blk w' W.heap.size 113 #[.int .i64 p.f, .int .i64 p.t, .int .i64 p.v] → S w') := Lib.hid fun w' h1 h2 => by rw [hSS.out]; exact ⟨h1.cell 0, h2.cell 0, h2.cell 1, h2.cell 2⟩
   have hB2 := hB2.drew
   have Bp2 := Bp2.drew
   have hO2 := hO2.drew
   have hb2 := below_drew hb2
   have hzw := hb2.size
   have hS0 := HSB.out _ hB2 Bp2
   refine WpN.begin (S := S) 10 (by kernel_rfl) ?_
   refine tN 0 ?_ ?_ <| tN 1 ?_ ?_ <| tN 2 ?_ ?_ <| tN 3 ?_ ?_ <| tN 4 ?_ ?_ <| tN 5 ?_ ?_ ?_
   iterate 6
    rotate_left
    ·intro w hSw; rw [hSS.out] at hSw; obtain ⟨sw0, sw1, sw2, sw3⟩ := hSw; (try simp only [pS]); go_simp; try with_reducible rfl
   try simp only [pS]
   refine WpN.one (i := 6) rfl (by kernel_rfl) fun K hK => ?_
   go_wp2_with fail
   have hS7 := HSB.out _ (hB2.alloc (Obj.cells #[.int .i64 p.f, .int .i64 p.t, .int .i64 p.v] 113)) (Bp2.alloc (Obj.cells #[.int .i64 p.f, .int .i64 p.t, .int .i64 p.v] 113))
   refine hK.out _ _ ⟨fun _ => hS7, ?_⟩
   clear hK K
   try simp only [pS]
   refine WpN.one (i := 7) rfl (by kernel_rfl) fun K hK => ?_
   refine wp_append_lie (enc := pieceC) (.tmp 59) (.tmp 61) 111 rfl base 113 i0 _ 3 24 Tryz.underlying111 hi hz0 hz1 hz2 rfl (by decide) _ (o ++ [z]) p rfl hO2 #[.int .i64 p.f, .int .i64 p.t, .int .i64 p.v] rfl wr.drew.heap.size rfl rfl rfl three_ints (by have := HCL.out; first | (simp; done) | (simp; omega)) (by decide) (by omega) ?_
   intro gn cap w6 hown6 hbb hkp hgn
   have X6 := hkp _ _ _ hB2 (hO2.other hB2 (by decide))
   have P6 := hkp _ _ _ Bp2 (fun e => by have := (World.ownsRow.lt hO0.out _ e.symm).2; omega)
   have hS8 := HSB.out _ X6 P6
   refine hK.out _ _ ⟨fun _ => hS8, ?_⟩
   clear hK K
   try simp only [Act.put, List.setIfInBounds_toArray]
   refine WpN.takeD (i := 8) (v := ?_) rfl rfl (by kernel_rfl) (fun _ _ _ h => h) (Or.inl ⟨by rfl, ?_⟩) (by assumption) ?_
   rotate_left
   ·intro w hSw; rw [hSS.out] at hSw; obtain ⟨sw0, sw1, sw2, sw3⟩ := hSw; go_simp; try with_reducible rfl
   try simp only [Act.put]
   refine WpN.takeD (i := 9) (v := ?_) rfl rfl (by kernel_rfl) (fun _ _ _ h => h) (Or.inl ⟨by rfl, ?_⟩) (by assumption) ?_
   rotate_left
   ·intro w hSw; rw [hSS.out] at hSw; obtain ⟨sw0, sw1, sw2, sw3⟩ := hSw; go_simp; try with_reducible rfl
   try simp only [Act.put]
   refine WpN.one (i := 10) rfl (by kernel_rfl) fun K hK => ?_
   obtain ⟨y1, y2, y3⟩ := X6.facts
   go_wp2_with fail
   refine hK.out _ _ ⟨fun h => by omega, ?_⟩
   clear hK K
   refine WpN.done (by kernel_rfl) ?_ _
   clear y1 y2 y3
   go_wp2_with fail
   refine ⟨rfl, .tuple #[], by simp [results, Tryz.results183], ?_⟩
   refine ⟨rfl, _, by simpa using X6.set_ 0 (.slice (some ⟨gn, 0, none⟩) (((o ++ [z])).length + 1) cap), by simpa using hown6.keep (keep_store X6 (by decide) 0 _), ?_⟩
   exact ((hb2.mono hBW).trans (hbb.mono hBs)).setCell hBb _
  case pos =>
   have d1 : (z.t == p.f) = true := by simpa using a1
   have d2 : (z.v == p.v) = false := by
    simp only [beq_eq_false_iff_ne]
    exact fun e => hj ⟨a1, e⟩
   clear a1 hj
   go_wp2_with fail
   go_quiet (fail)
   go_wp2_with fail
   clear g1 g2 g3 hBk z1 z2
   obtain ⟨wr, hwr⟩ : ∃ wr, wr = (W.alloc (Obj.cells #[.int .i64 p.f, .int .i64 p.t, .int .i64 p.v] 113)).drewN nq := ⟨_, rfl⟩
   have hB2 : Blk wr bb 248 #[.slice (some ⟨go, 0, none⟩) (o.length + 1) c] := by rw [hwr]; exact hB1.drewN _
   have Bp2 : Blk wr W.heap.size 113 #[.int .i64 p.f, .int .i64 p.t, .int .i64 p.v] := by rw [hwr]; exact Bp.drewN _
   have hO2 : Own pieceC 3 wr base 113 (.slice (some ⟨go, 0, none⟩) (o.length + 1) c) (o ++ [z]) := by rw [hwr]; exact hO1.drewN _
   have hb2 : Below W.heap.size W wr := by rw [hwr]; exact below_drewN hb1 _
   rw [← hwr]
   clear hwr c1 c2 c3 e1 e2 e3 hB1 Bp hO1 hb1
   obtain ⟨S, hSS⟩ : ∃ S : World → Prop, Hid (S = fun w' => w'.cell? ⟨bb, 0, none⟩ = some (.slice (some ⟨go, 0, none⟩) (o.length + 1) c) ∧ w'.cell? ⟨W.heap.size, 0, none⟩ = some (.int .i64 p.f) ∧ w'.cell? ⟨W.heap.size, 1, none⟩ = some (.int .i64 p.t) ∧ w'.cell? ⟨W.heap.size, 2, none⟩ = some (.int .i64 p.v)) := ⟨_, Lib.hid rfl⟩
   have HSB : Hid (∀ w' : World, Blk w' bb 248 #[.slice (some ⟨go, 0, none⟩) (o.length + 1) c] → Blk w' W.heap.size 113 #[.int .i64 p.f, .int .i64 p.t, .int .i64 p.v] → S w') := Lib.hid fun w' h1 h2 => by rw [hSS.out]; exact ⟨h1.cell 0, h2.cell 0, h2.cell 1, h2.cell 2⟩
   have hB2 := hB2.drew
   have Bp2 := Bp2.drew
   have hO2 := hO2.drew
   have hb2 := below_drew hb2
   have hzw := hb2.size
   have hS0 := HSB.out _ hB2 Bp2
   refine WpN.begin (S := S) 10 (by kernel_rfl) ?_
   refine tN 0 ?_ ?_ <| tN 1 ?_ ?_ <| tN 2 ?_ ?_ <| tN 3 ?_ ?_ <| tN 4 ?_ ?_ <| tN 5 ?_ ?_ ?_
   iterate 6
    rotate_left
    ·intro w hSw; rw [hSS.out] at hSw; obtain ⟨sw0, sw1, sw2, sw3⟩ := hSw; (try simp only [pS]); go_simp; try with_reducible rfl
   try simp only [pS]
   refine WpN.one (i := 6) rfl (by kernel_rfl) fun K hK => ?_
   go_wp2_with fail
   have hS7 := HSB.out _ (hB2.alloc (Obj.cells #[.int .i64 p.f, .int .i64 p.t, .int .i64 p.v] 113)) (Bp2.alloc (Obj.cells #[.int .i64 p.f, .int .i64 p.t, .int .i64 p.v] 113))
   refine hK.out _ _ ⟨fun _ => hS7, ?_⟩
   clear hK K
   try simp only [pS]
   refine WpN.one (i := 7) rfl (by kernel_rfl) fun K hK => ?_
   refine wp_append_lie (enc := pieceC) (.tmp 59) (.tmp 61) 111 rfl base 113 i0 _ 3 24 Tryz.underlying111 hi hz0 hz1 hz2 rfl (by decide) _ (o ++ [z]) p rfl hO2 #[.int .i64 p.f, .int .i64 p.t, .int .i64 p.v] rfl wr.drew.heap.size rfl rfl rfl three_ints (by have := HCL.out; first | (simp; done) | (simp; omega)) (by decide) (by omega) ?_
   intro gn cap w6 hown6 hbb hkp hgn
   have X6 := hkp _ _ _ hB2 (hO2.other hB2 (by decide))
   have P6 := hkp _ _ _ Bp2 (fun e => by have := (World.ownsRow.lt hO0.out _ e.symm).2; omega)
   have hS8 := HSB.out _ X6 P6
   refine hK.out _ _ ⟨fun _ => hS8, ?_⟩
   clear hK K
   try simp only [Act.put, List.setIfInBounds_toArray]
   refine WpN.takeD (i := 8) (v := ?_) rfl rfl (by kernel_rfl) (fun _ _ _ h => h) (Or.inl ⟨by rfl, ?_⟩) (by assumption) ?_
   rotate_left
   ·intro w hSw; rw [hSS.out] at hSw; obtain ⟨sw0, sw1, sw2, sw3⟩ := hSw; go_simp; try with_reducible rfl
   try simp only [Act.put]
   refine WpN.takeD (i := 9) (v := ?_) rfl rfl (by kernel_rfl) (fun _ _ _ h => h) (Or.inl ⟨by rfl, ?_⟩) (by assumption) ?_
   rotate_left
   ·intro w hSw; rw [hSS.out] at hSw; obtain ⟨sw0, sw1, sw2, sw3⟩ := hSw; go_simp; try with_reducible rfl
   try simp only [Act.put]
   refine WpN.one (i := 10) rfl (by kernel_rfl) fun K hK => ?_
   obtain ⟨y1, y2, y3⟩ := X6.facts
   go_wp2_with fail
   refine hK.out _ _ ⟨fun h => by omega, ?_⟩
   clear hK K
   refine WpN.done (by kernel_rfl) ?_ _
   clear y1 y2 y3
   go_wp2_with fail
   refine ⟨rfl, .tuple #[], by simp [results, Tryz.results183], ?_⟩
   refine ⟨rfl, _, by simpa using X6.set_ 0 (.slice (some ⟨gn, 0, none⟩) (((o ++ [z])).length + 1) cap), by simpa using hown6.keep (keep_store X6 (by decide) 0 _), ?_⟩
   exact ((hb2.mono hBW).trans (hbb.mono hBs)).setCell hBb _
set_option maxRecDepth 100000 in
set_option maxHeartbeats 8000000 in
theorem add_grow (B bb base : Nat) (v : Value) (o : List PieceD) (z p : PieceD) (W : World) (hB : Blk W bb 248 #[v]) (hO : Own pieceC 3 W base 113 v (o ++ [z])) (hBb : B ≤ bb) (hBs : B ≤ base) (_ : base ≤ W.heap.size) (hl : (o ++ [z]).length ≤ 100000) (hp : p.f < p.t)
  (hj : joins z p) :
  Calls Tryz.prog 183 #[.pointer (some ⟨bb, 0, none⟩), pieceV p] W (AddOut B bb base (o ++ [⟨z.f, p.t, z.v⟩]) W) := by
 have dp : decide (p.t ≤ p.f) = false := by simp; omega
 obtain ⟨A, c, rfl⟩ := hO.form
 have Bp := Blk.new W 113 #[.int .i64 p.f, .int .i64 p.t, .int .i64 p.v]
 have hb1 := ext_alloc (Below.refl _ W) (Obj.cells #[.int .i64 p.f, .int .i64 p.t, .int .i64 p.v] 113)
 have hB1 := hB.alloc (Obj.cells #[.int .i64 p.f, .int .i64 p.t, .int .i64 p.v] 113)
 have hO1 := hO.alloc (Obj.cells #[.int .i64 p.f, .int .i64 p.t, .int .i64 p.v] 113)
 have hBlt := hB.lt
 have hBW : B ≤ W.heap.size := by omega
 clear hB hO hp
 rw [List.length_append] at hB1 hO1
 simp only [List.length_cons, List.length_nil, Nat.zero_add] at hB1 hO1
 obtain ⟨c1, c2, c3⟩ := hB1.facts
 obtain ⟨e1, e2, e3⟩ := Bp.facts
 obtain ⟨go, rfl⟩ : ∃ g, A = some ⟨g, 0, none⟩ := by
  rcases hO1.2 with ⟨h1, _⟩ | ⟨g, cap, cur, hv, _⟩
  ·simp at h1
  ·simp only [Value.slice.injEq] at hv
   exact ⟨g, hv.1⟩
 obtain ⟨hnm, hgo, hmc, hcm, cs, hBk, hcs, hrow⟩ := hO1.cells pieceC_len
 have hza : (o ++ [z])[o.length]? = some z := by simp
 have z0 : cs[o.length * 3]? = some (.int .i64 z.f) := by have := hrow _ z hza 0 (by decide); simpa [pieceC] using this
 have z1 : cs[o.length * 3 + 1]? = some (.int .i64 z.t) := by have := hrow _ z hza 1 (by decide); simpa [pieceC] using this
 have z2 : cs[o.length * 3 + 2]? = some (.int .i64 z.v) := by have := hrow _ z hza 2 (by decide); simpa [pieceC] using this
 have hjw : IntKind.i64.wrap (o.length : Int) = o.length := IntWalk.i64_in _ (by simp at hl; omega)
 have hd : (0 : Int) < (o.length : Int) + 1 := by omega
 obtain ⟨g1, g2, g3⟩ := hBk.facts
 have hjl : o.length < o.length + 1 := by omega
 have HR := Lib.hid hrow
 have HMC := Lib.hid hmc
 have HZ0 := Lib.hid z0; have HZ1 := Lib.hid z1; have HZ2 := Lib.hid z2
 have d1 : (z.t == p.f) = true := by simpa using hj.1
 have d2 : (z.v == p.v) = true := by simpa using hj.2
 have hne : go ≠ bb := blk_ne hBk hB1 (by decide)
 clear hrow hmc hnm hza hj
 go_enter Tryz.func183, Tryz.ntmps183
 go_wp2_with fail
 go_quiet (fail)
 go_wp2_with fail
 go_region
 go_wp2_with fail
 refine ⟨rfl, .tuple #[], by simp [results, Tryz.results183], ?_⟩
 have hX := ((hBk.drewN nq).drew).set_ (o.length * 3 + 1) (.int .i64 p.t)
 have h2 := Own.of_cells (enc := pieceC) (m := o ++ [⟨z.f, p.t, z.v⟩]) pieceC_len (by decide) hX hgo (by have := HMC.out; simpa using this) hcm (by simpa using hcs) (by
  have e : (o ++ [z]).set o.length ⟨z.f, p.t, z.v⟩ = o ++ [⟨z.f, p.t, z.v⟩] := by simp
  rw [← e]
  refine HR.out.set (by simp) (fun t ht => by rw [Array.getElem?_setIfInBounds_ne (by omega)]) (fun t ht => ?_)
  have k1 : o.length * 3 + 1 < cs.size := (Array.getElem?_eq_some_iff.1 HZ1.out).1
  match t, ht with
  | 0, _ =>
   show (cs.setIfInBounds (o.length * 3 + 1) (.int .i64 p.t))[o.length * 3]? = _
   rw [Array.getElem?_setIfInBounds_ne (by omega), HZ0.out]; rfl
  | 1, _ => rw [Array.getElem?_setIfInBounds_self_of_lt k1]; rfl
  | 2, _ => rw [Array.getElem?_setIfInBounds_ne (by omega), HZ2.out]; rfl)
 refine ⟨rfl, .slice (some ⟨go, 0, none⟩) (o.length + 1) c, ?_, by simpa using h2, ?_⟩
 ·exact ((hB1.drewN nq).drew).far hne.symm _
 ·exact ((below_drew (below_drewN hb1 nq)).mono hBW).setCell (by show B ≤ go; omega) _
set_option maxHeartbeats 2000000 in
theorem bdone_any (bb : Nat) (A : Option Addr) (n c : Nat) (W : World) (hB : Blk W bb 248 #[.slice A n c]) :
  Calls Tryz.prog 184 #[.pointer (some ⟨bb, 0, none⟩)] W fun e w' => e = .returned (if 200 < n then .tuple #[.slice none 0 0, .int .i64 2] else .tuple #[.slice A n c, .int .i64 0]) ∧ W = w' := by
 obtain ⟨c1, c2, c3⟩ := hB.facts
 by_cases hn : 200 < n
 ·have hd : decide ((n : Int) > 200) = true := by simp; omega
  rw [if_pos hn]
  clear hn
  go_enter Tryz.func184, Tryz.ntmps184
  go_wp2_with fail
  refine bodyPost_ret (v := .tuple #[.slice none 0 0, .int .i64 2]) (by simp [results, Tryz.results184]) rfl ?_
  exact ⟨rfl, rfl⟩
 ·have hd : decide ((n : Int) > 200) = false := by simp; omega
  rw [if_neg hn]
  clear hn
  go_enter Tryz.func184, Tryz.ntmps184
  go_wp2_with fail
  refine bodyPost_ret (v := .tuple #[.slice A n c, .int .i64 0]) (by simp [results, Tryz.results184]) rfl ?_
  exact ⟨rfl, rfl⟩
end Go.Proofs.YtjcimdpldlamfaaGreatDoor
/- The walk of imap.each: a map by what is told between two edges (printed by geneach.py). -/
namespace Go.Proofs.YtjcimdpldlamfaaGreatDoor
open Go.RowKit Go.Shelf

def ToldK (fn : Int → Option Int) (D : List Int) (i : Nat) (out : List PieceD) : Prop := (∀ b a, D[0]? = some b → D[i]? = some a → Told fn b a out) ∧ out.length ≤ i ∧ (∀ x, x ∈ out → I64 x.f ∧ I64 x.t ∧ I64 x.v)
section
variable {fn : Int → Option Int} {D : List Int} {i : Nat} {out o : List PieceD} {a c v : Int} {z : PieceD}
theorem ToldK.start : ToldK fn D 0 [] :=
 ⟨fun b a hb ha => by
  obtain rfl : b = a := by rw [hb] at ha; simpa using ha
  exact Told.start, Nat.le_refl _, fun x h => by simp at h⟩
theorem ToldK.skip (h : ToldK fn D i out) (hD : D.Pairwise (· < ·)) (hT : TurnsAt D none fn) (ha : D[i]? = some a) (hc : D[i + 1]? = some c) (hn : fn a = none) : ToldK fn D (i + 1) out :=
 ⟨fun b c' hb hc' => by
  obtain rfl : c = c' := by rw [hc] at hc'; simpa using hc'
  exact (h.1 b a hb ha).skip (rises_lt hD ha hc) (hT.const i a c ha hc) hn, by have := h.2.1; omega, h.2.2⟩
theorem ToldK.grow (h : ToldK fn D i (o ++ [z])) (hD : D.Pairwise (· < ·)) (hT : TurnsAt D none fn) (ha : D[i]? = some a) (hc : D[i + 1]? = some c) (hn : fn a = some v) (hz : joins z ⟨a, c, v⟩) (hi : I64 c) : ToldK fn D (i + 1) (o ++ [⟨z.f, c, z.v⟩]) :=
 ⟨fun b c' hb hc' => by
  obtain rfl : c = c' := by rw [hc] at hc'; simpa using hc'
  exact (h.1 b a hb ha).grow (rises_low hD hb ha) (rises_lt hD ha hc) (hT.const i a c ha hc) (by rw [hn, hz.2]) hz.1, by have := h.2.1; simp at this ⊢; omega, fun x hx => by
  rcases List.mem_append.1 hx with hx | hx
  ·exact h.2.2 x (List.mem_append_left _ hx)
  ·obtain rfl : x = _ := by simpa using hx
   exact ⟨(h.2.2 z (by simp)).1, hi, (h.2.2 z (by simp)).2.2⟩⟩
theorem ToldK.next (h : ToldK fn D i out) (hD : D.Pairwise (· < ·)) (hT : TurnsAt D none fn) (ha : D[i]? = some a) (hc : D[i + 1]? = some c) (hn : fn a = some v) (hz : ∀ y, y ∈ out → y.t = a → y.v ≠ v) (hia : I64 a) (hic : I64 c) (hiv : I64 v) : ToldK fn D (i + 1) (out ++ [⟨a, c, v⟩]) :=
 ⟨fun b c' hb hc' => by
  obtain rfl : c = c' := by rw [hc] at hc'; simpa using hc'
  exact (h.1 b a hb ha).next (rises_low hD hb ha) (rises_lt hD ha hc) (hT.const i a c ha hc) hn hz, by have := h.2.1; simp; omega, fun x hx => by
  rcases List.mem_append.1 hx with hx | hx
  ·exact h.2.2 x hx
  ·obtain rfl : x = _ := by simpa using hx
   exact ⟨hia, hic, hiv⟩⟩
theorem ToldK.last (h : ToldK fn D i (o ++ [z])) (ha : D[i]? = some a) (hz : ¬ joins z ⟨a, c, v⟩) : ∀ y, y ∈ o ++ [z] → y.t = a → y.v ≠ v := fun y hy e ev => by
 obtain ⟨b, hb⟩ := first_of_D ha
 have h1 := h.1 b a hb ha
 rcases List.mem_append.1 hy with hy | hy
 ·have h2 := h1.map.ahead hy
  have h3 := h1.low z (by simp)
  omega
 ·obtain rfl : y = z := by simpa using hy
  exact hz ⟨e, ev⟩
theorem ToldK.fin (h : ToldK fn D i out) (hD : D.Pairwise (· < ·)) (hT : TurnsAt D none fn) (hi : D.length ≤ i + 1) (h0 : i < D.length ∨ (D = [] ∧ out = [])) : MapL out ∧ ∀ t, atM out t = fn t := by
 rcases h0 with h0 | ⟨rfl, rfl⟩
 ·obtain ⟨a, ha⟩ := get_lt h0
  obtain ⟨b, hb⟩ := first_of_D ha
  exact (h.1 b a hb ha).fin hD hT hb ha (by omega)
 ·exact ⟨.nil, fun t => (hT.empty t).symm⟩
end
/-- What each tells: the values may be too far. -/
def EachSay (fn : Int → Option Int) (er : Int) (out : List PieceD) : Prop := ∃ U, MapL U ∧ (∀ t, atM U t = fn t) ∧ er = (if 200 < U.length then 2 else 0) ∧ out = if 200 < U.length then [] else U

set_option maxRecDepth 100000 in
set_option maxHeartbeats 16000000 in
theorem each_any (fn : Nat) (lb : Array Value) (f : Int → Option Int) (eg : ∀ args w, (callFunc fn args).run Tryz.prog w = .ok (.enter fn args) w) (A : Option Addr) (c : Nat) (D : List Int) (w : World) (hA : IntsAt w A c D) (hDl : D.length ≤ 10000)
  (hD : D.Pairwise (· < ·)) (hT : TurnsAt D none f) (hv : ∀ t v, f t = some v → I64 v)
  (hp : ∀ (W : World) (x : Int), Below w.heap.size w W → Calls Tryz.prog fn (#[.int .i64 x] ++ lb) W fun e w' => e = .returned (atV (f x)) ∧ Below W.heap.size W w') :
  Calls Tryz.prog 170 #[.slice A D.length c, .func (.func fn) #[] lb] w (MapOut (EachSay f) w) := by
 have HI64 := Lib.hid hA.i64
 have HP := Lib.hid hp; have HTD := Lib.hid hT; have HD := Lib.hid hD; have HV := Lib.hid hv
 have HI1 := Lib.hid hA
 have hD9 := hA.len
 clear hA hp hT hD hv
 go_enter Tryz.func170, Tryz.ntmps170
 go_wp2_with fail
 go_loopw [7] (fun v wr => ∃ (i : Nat) (out : List PieceD) (v' : Value), v = .int .i64 i ∧ Hid (i < D.length ∨ (D = [] ∧ i = 0 ∧ out = [])) ∧ Hid (ToldK f D i out) ∧ Blk wr w.heap.size 248 #[v'] ∧ Own pieceC 3 wr (w.heap.size + 1) 113 v' out ∧ Below w.heap.size w wr ∧ w.heap.size + 1 ≤ wr.heap.size) (fun v _ => D.length - (intOf v).toNat)
 case atStart => exact ⟨0, [], _, rfl, Lib.hid (by cases D with
  | nil => exact .inr ⟨rfl, rfl, rfl⟩
  | cons y r => exact .inl (by simp)), Lib.hid ToldK.start, Blk.new w _ _, Own.nil, by go_grown, by simp⟩
 case round =>
  obtain ⟨i, out, v', rfl, H0, HB, BB, hO, hb, hwr⟩ := hrel
  have hil : i ≤ D.length := by rcases H0.out with h | ⟨h, h2, _⟩ <;> omega
  have hol := HB.out.2.1
  by_cases hlt : i + 1 < D.length
  case neg =>
   have HF : Hid (MapL out ∧ ∀ t, atM out t = f t) := Lib.hid (HB.out.fin HD.out HTD.out (by omega) (H0.out.imp id fun h => ⟨h.1, h.2.2⟩))
   obtain ⟨Ao, co, rfl, hIo⟩ := own_pieces hO HB.out.2.2
   have hDn := bdone_any w.heap.size Ao out.length co wr BB
   by_cases hl : 200 < out.length
   ·rw [if_pos hl] at hDn
    have HS : Hid (EachSay f 2 []) := Lib.hid ⟨out, HF.out.1, HF.out.2, by rw [if_pos hl], by rw [if_pos hl]⟩
    clear hl
    go_wp2_with (go_at_call 184; refine hDn.mono ?_; rintro e w' ⟨rfl, rfl⟩)
    refine bodyPost_ret (v := .tuple #[.slice none 0 0, .int .i64 2]) (by simp [results, Tryz.results170]) rfl ?_
    exact ⟨2, [], none, 0, HS, rfl, .nil, hb⟩
   ·rw [if_neg hl] at hDn
    have HS : Hid (EachSay f 0 out) := Lib.hid ⟨out, HF.out.1, HF.out.2, by rw [if_neg hl], by rw [if_neg hl]⟩
    clear hl
    go_wp2_with (go_at_call 184; refine hDn.mono ?_; rintro e w' ⟨rfl, rfl⟩)
    refine bodyPost_ret (v := .tuple #[.slice Ao out.length co, .int .i64 0]) (by simp [results, Tryz.results170]) rfl ?_
    exact ⟨0, out, Ao, co, HS, rfl, hIo.since (Nat.le_succ _), hb⟩
  case pos =>
   obtain ⟨a, ha⟩ := get_lt (show i < D.length by omega)
   obtain ⟨d, hd⟩ := get_lt hlt
   obtain ⟨b, off, rfl, hb0, x0⟩ := HI1.out.get ha
   obtain ⟨b', off', e', _, x1⟩ := HI1.out.get hd
   obtain ⟨rfl, rfl⟩ : b = b' ∧ off = off' := by simpa using e'
   have HIA := Lib.hid (HI64.out a (List.mem_of_getElem? ha)); have HID := Lib.hid (HI64.out d (List.mem_of_getElem? hd))
   have HAD : Hid (a < d) := Lib.hid (rises_lt HD.out ha hd)
   have WX0 := Lib.hid x0; have WX1 := Lib.hid x1
   rw [← hb.cell (by exact hb0)] at x0 x1
   have HA := Lib.hid ha; have HDD := Lib.hid hd
   have hc := HP.out wr a hb
   have hil' : i < D.length := by omega
   have hltz : (i : Int) + 1 < (D.length : Int) := by omega
   have hiw : IntKind.i64.wrap ((i : Int) + 1) = (i : Int) + 1 := IntWalk.i64_in _ (by omega)
   have hol9 : out.length ≤ 100000 := by omega
   have hi0 : (0 : Int) ≤ (i : Int) + 1 := by omega
   clear ha hd e' x1
   cases hq : f a with
   | none =>
    rw [hq] at hc
    have HQ := Lib.hid hq
    unfold atV at hc
    simp only [Option.getD_none, Option.isSome_none] at hc
    clear hq
    go_wp2_with fail
    refine hc.mono ?_
    rintro e w' ⟨rfl, hb'⟩
    go_wp2_with fail
    go_roundw
    case rel => exact ⟨i + 1, out, v', by go_num, Lib.hid (.inl hlt), Lib.hid (HB.out.skip HD.out HTD.out HA.out HDD.out HQ.out), BB.ext hb', hO.ext hb', ext_trans hb hb', Nat.le_trans hwr hb'.size⟩
    case measure => simp [intOf]; omega
   | some y =>
    rw [hq] at hc
    have HQ := Lib.hid hq
    have HIY := Lib.hid (HV.out a y hq)
    unfold atV at hc
    simp only [Option.getD_some, Option.isSome_some] at hc
    clear hq
    go_wp2_with fail
    refine hc.mono ?_
    rintro e w2 ⟨rfl, hb2⟩
    have hO := hO.ext hb2
    have BB := BB.ext hb2
    have hb := ext_trans hb hb2
    have hwr := Nat.le_trans hwr hb2.size
    clear hb2 x0
    go_wp2_with fail
    rcases List.eq_nil_or_concat out with rfl | ⟨o, z, rfl⟩
    ·have HB2 : Hid (ToldK f D (i + 1) ([] ++ [⟨a, d, y⟩])) := Lib.hid (HB.out.next HD.out HTD.out HA.out HDD.out HQ.out (fun y hy => by simp at hy) HIA.out HID.out HIY.out)
     obtain ⟨S, hSS⟩ : ∃ S : World → Prop, Hid (S = fun w' => w'.cell? ⟨b, off + i, none⟩ = some (.int .i64 a) ∧ w'.cell? ⟨b, off + (i + 1), none⟩ = some (.int .i64 d)) := ⟨_, Lib.hid rfl⟩
     have BB := BB.drew
     have hO := hO.drew
     have hb := below_drew hb
     have hwr : w.heap.size + 1 ≤ w2.drew.heap.size := hwr
     have hS0 : S w2.drew := by rw [hSS.out]; exact ⟨(hb.cell (p := ⟨b, off + i, none⟩) hb0).trans WX0.out, (hb.cell (p := ⟨b, off + (i + 1), none⟩) hb0).trans WX1.out⟩
     refine WpN.begin (S := S) 12 (by kernel_rfl) ?_
     refine tN 0 ?_ ?_ <| tN 1 ?_ ?_ <| tN 2 ?_ ?_ <| tN 3 ?_ ?_ <| tN 4 ?_ ?_ <| tN 5 ?_ ?_ <| tN 6 ?_ ?_ <| tN 7 ?_ ?_ <| tN 8 ?_ ?_ <| tN 9 ?_ ?_ <| tN 10 ?_ ?_ <| tN 11 ?_ ?_ ?_
     iterate 12
      rotate_left
      ·intro w hSw; rw [hSS.out] at hSw; obtain ⟨sw0, sw1⟩ := hSw; (try simp only [pS]); go_simp; try with_reducible rfl
     try simp only [pS]
     refine WpN.one (i := 12) rfl (by kernel_rfl) fun K hK => ?_
     go_wp2_with fail
     refine (add_first (w.heap.size) w.heap.size (w.heap.size + 1) v' ([] : List PieceD) ⟨a, d, y⟩ w2.drew BB hO (Nat.le_refl _) (by omega) (by omega) hol9 HAD.out (.inl rfl)).mono ?_
     rintro e w4 ⟨rfl, v4, BB4, hO4, hb4⟩
     refine hK.out _ _ ⟨fun h => by omega, ?_⟩
     refine WpN.done (by kernel_rfl) ?_ _
     clear hK K hSS hS0
     go_wp2_with fail
     go_roundw
     case rel => exact ⟨i + 1, [] ++ [⟨a, d, y⟩], v4, by go_num, Lib.hid (.inl hlt), HB2, BB4, hO4, hb.trans (hb4.mono (by omega)), Nat.le_trans hwr hb4.size⟩
     case measure => simp [intOf]; omega
    ·rw [List.concat_eq_append] at HB hO hol hol9
     by_cases hj : joins z ⟨a, d, y⟩
     ·have HJ := Lib.hid hj
      have HB2 : Hid (ToldK f D (i + 1) (o ++ [⟨z.f, d, z.v⟩])) := Lib.hid (HB.out.grow HD.out HTD.out HA.out HDD.out HQ.out hj HID.out)
      clear hj
      obtain ⟨S, hSS⟩ : ∃ S : World → Prop, Hid (S = fun w' => w'.cell? ⟨b, off + i, none⟩ = some (.int .i64 a) ∧ w'.cell? ⟨b, off + (i + 1), none⟩ = some (.int .i64 d)) := ⟨_, Lib.hid rfl⟩
      have BB := BB.drew
      have hO := hO.drew
      have hb := below_drew hb
      have hwr : w.heap.size + 1 ≤ w2.drew.heap.size := hwr
      have hS0 : S w2.drew := by rw [hSS.out]; exact ⟨(hb.cell (p := ⟨b, off + i, none⟩) hb0).trans WX0.out, (hb.cell (p := ⟨b, off + (i + 1), none⟩) hb0).trans WX1.out⟩
      refine WpN.begin (S := S) 12 (by kernel_rfl) ?_
      refine tN 0 ?_ ?_ <| tN 1 ?_ ?_ <| tN 2 ?_ ?_ <| tN 3 ?_ ?_ <| tN 4 ?_ ?_ <| tN 5 ?_ ?_ <| tN 6 ?_ ?_ <| tN 7 ?_ ?_ <| tN 8 ?_ ?_ <| tN 9 ?_ ?_ <| tN 10 ?_ ?_ <| tN 11 ?_ ?_ ?_
      iterate 12
       rotate_left
       ·intro w hSw; rw [hSS.out] at hSw; obtain ⟨sw0, sw1⟩ := hSw; (try simp only [pS]); go_simp; try with_reducible rfl
      try simp only [pS]
      refine WpN.one (i := 12) rfl (by kernel_rfl) fun K hK => ?_
      go_wp2_with fail
      refine (add_grow (w.heap.size) w.heap.size (w.heap.size + 1) v' o z ⟨a, d, y⟩ w2.drew BB hO (Nat.le_refl _) (by omega) (by omega) hol9 HAD.out HJ.out).mono ?_
      rintro e w4 ⟨rfl, v4, BB4, hO4, hb4⟩
      refine hK.out _ _ ⟨fun h => by omega, ?_⟩
      refine WpN.done (by kernel_rfl) ?_ _
      clear hK K hSS hS0
      go_wp2_with fail
      go_roundw
      case rel => exact ⟨i + 1, o ++ [⟨z.f, d, z.v⟩], v4, by go_num, Lib.hid (.inl hlt), HB2, BB4, hO4, hb.trans (hb4.mono (by omega)), Nat.le_trans hwr hb4.size⟩
      case measure => simp [intOf]; omega
     ·have HJ := Lib.hid hj
      have HB2 : Hid (ToldK f D (i + 1) (o ++ [z] ++ [⟨a, d, y⟩])) := Lib.hid (HB.out.next HD.out HTD.out HA.out HDD.out HQ.out (HB.out.last HA.out hj) HIA.out HID.out HIY.out)
      clear hj
      obtain ⟨S, hSS⟩ : ∃ S : World → Prop, Hid (S = fun w' => w'.cell? ⟨b, off + i, none⟩ = some (.int .i64 a) ∧ w'.cell? ⟨b, off + (i + 1), none⟩ = some (.int .i64 d)) := ⟨_, Lib.hid rfl⟩
      have BB := BB.drew
      have hO := hO.drew
      have hb := below_drew hb
      have hwr : w.heap.size + 1 ≤ w2.drew.heap.size := hwr
      have hS0 : S w2.drew := by rw [hSS.out]; exact ⟨(hb.cell (p := ⟨b, off + i, none⟩) hb0).trans WX0.out, (hb.cell (p := ⟨b, off + (i + 1), none⟩) hb0).trans WX1.out⟩
      refine WpN.begin (S := S) 12 (by kernel_rfl) ?_
      refine tN 0 ?_ ?_ <| tN 1 ?_ ?_ <| tN 2 ?_ ?_ <| tN 3 ?_ ?_ <| tN 4 ?_ ?_ <| tN 5 ?_ ?_ <| tN 6 ?_ ?_ <| tN 7 ?_ ?_ <| tN 8 ?_ ?_ <| tN 9 ?_ ?_ <| tN 10 ?_ ?_ <| tN 11 ?_ ?_ ?_
      iterate 12
       rotate_left
       ·intro w hSw; rw [hSS.out] at hSw; obtain ⟨sw0, sw1⟩ := hSw; (try simp only [pS]); go_simp; try with_reducible rfl
      try simp only [pS]
      refine WpN.one (i := 12) rfl (by kernel_rfl) fun K hK => ?_
      go_wp2_with fail
      refine (add_first (w.heap.size) w.heap.size (w.heap.size + 1) v' (o ++ [z]) ⟨a, d, y⟩ w2.drew BB hO (Nat.le_refl _) (by omega) (by omega) hol9 HAD.out (.inr ⟨o, z, rfl, HJ.out⟩)).mono ?_
      rintro e w4 ⟨rfl, v4, BB4, hO4, hb4⟩
      refine hK.out _ _ ⟨fun h => by omega, ?_⟩
      refine WpN.done (by kernel_rfl) ?_ _
      clear hK K hSS hS0
      go_wp2_with fail
      go_roundw
      case rel => exact ⟨i + 1, o ++ [z] ++ [⟨a, d, y⟩], v4, by go_num, Lib.hid (.inl hlt), HB2, BB4, hO4, hb.trans (hb4.mono (by omega)), Nat.le_trans hwr hb4.size⟩
      case measure => simp [intOf]; omega
end Go.Proofs.YtjcimdpldlamfaaGreatDoor
