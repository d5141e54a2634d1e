/- Several texts in one: GoMain, LawGoes, Equal, Pair, BackG, Shot, LabelSpec, HopRow. -/
import Derived.Laws.StructEq
import Derived.Test.YtjcimdpldlamfaaGreatDoorBdcbb4f396b9
import Derived.Test.YtjcimdpldlamfaaGreatDoorBd2df7774ef4
import Derived.Test.YtjcimdpldlamfaaGreatDoorBd0848e2b72a
import Derived.Test.YtjcimdpldlamfaaGreatDoorBd9cdc4f3309
import Derived.Test.YtjcimdpldlamfaaGreatDoorBd96fdae9b88
import Derived.Test.YtjcimdpldlamfaaGreatDoorBd1aa46607c4
import Derived.Test.YtjcimdpldlamfaaGreatDoorBd19914bea13
/- The walk of journey.Go behind its checks. -/
namespace Go.Proofs.YtjcimdpldlamfaaGreatDoor
open Go.RowKit

set_option maxRecDepth 100000 in
set_option maxHeartbeats 8000000 in
theorem go_main (A A' Ah : Option Addr) (c c' ch : Nat) (g : GraphD) (v t : Int) (l : List HopD) (w : World) (hG : GraphAt w A c A' c' g) (hH : SlAt RHop 2 w Ah l) (hhl : l.length ≤ maxLen)
  (h0 : placeErr g v t = 0) (h500 : ¬ 500 < l.length) (hal : aliveB g v t = true) :
  Calls Tryz.prog 47 #[gV A c A' c' g, .int .i64 v, .int .i64 t, .slice Ah l.length ch] w fun e w' => e = .returned (goV (goR g v t l)) ∧ Below w.heap.size w w' := by
 unfold maxLen at hhl
 obtain ⟨hV, hv, ht⟩ := place_of h0
 obtain ⟨hv0, hv1⟩ := hv
 obtain ⟨ht0, ht1⟩ := ht
 have hh := hV.h1
 have hne := hV.ne
 have HN := Lib.hid (fun h4 => goR_none h0 h500 hal h4)
 have HS := Lib.hid (fun a b c h4 => goR_some (a := a) (b := b) (c := c) h0 h500 hal h4)
 obtain ⟨bh, oh, hHp⟩ := hH
 go_enter Tryz.func47, Tryz.ntmps47
 go_wp2_with fail
 refine (checkPlace_any _ _ _ _ g v t _ (hG.ext (by go_grown))).mono ?_
 rintro e w1 ⟨rfl, hb1⟩
 obtain ⟨B0, c1, c2, c3⟩ := (Blk.new w 68 (gC A c A' c' g)).go hb1
 have hb2 : Below w.heap.size w w1 := ext_trans (by go_grown) hb1
 go_wp2_with fail
 refine (alive_any _ _ _ _ g v t _ (hG.ext hb2) hv0 hv1).mono ?_
 rintro e w2 ⟨rfl, hb3⟩
 have hb4 := ext_trans hb2 hb3
 have B0' := B0.ext hb3
 go_wp2_with fail
 clear hb3 B0 c1 c2 c3 hb1 hal h0
 go_loopw [13, 14, 15, 40] (fun a b d k wr => ∃ (n : Nat) (x y z : Int), n ≤ l.length ∧ k = .int .i64 n ∧ a = .int .i64 x ∧ b = .int .i64 y ∧ d = .int .i64 z ∧ 0 ≤ z ∧ z ≤ 1000 * n ∧ Hid (goL g x y z (l.drop n) = goL g v t 0 l) ∧ Below w.heap.size w wr ∧ Blk wr w.heap.size 68 (gC A c A' c' g))
  (fun _ _ _ k _ => l.length - (intOf k).toNat)
 case atStart => exact ⟨0, v, t, 0, Nat.zero_le _, rfl, rfl, rfl, rfl, by omega, by omega, Lib.hid rfl, hb4, B0'⟩
 case round =>
  clear hb4 B0' hb2 
  obtain ⟨n, x, y, z, hn, rfl, rfl, rfl, rfl, hz0, hz1, HI, hb, B0⟩ := hrel
  obtain ⟨b1, b2, b3⟩ := B0.facts
  by_cases hlt : n < l.length
  ·obtain ⟨h, hh'⟩ := get_lt hlt
   obtain ⟨rfl, hbh, ⟨⟨x0, x1⟩, hw0, hw1⟩⟩ := hHp n h hh'
   have y0 := x0.now hb
   have y1 := x1.now hb
   have hd := drop_cons hh'
   have HI2 : Hid (goL g x y z (h :: l.drop (n + 1)) = goL g v t 0 l) := by rw [← hd]; exact HI
   clear hHp hd hh' HI x0 x1
   by_cases he : 0 ≤ h.edge ∧ h.edge ≤ (g.edges.length : Int) - 1
   case neg =>
    have HF := Lib.hid (HN.out (HI2.out.symm.trans (goL_none (hopTo_far (inB_false' he)))))
    go_wp2_with fail
    all_goals refine bodyPost_ret (results_tmp4 rfl _ _ _) rfl ?_
    all_goals exact ⟨by rw [HF.out]; rfl, ext_alloc hb _⟩
   have hin := inB_true' he
   obtain ⟨he0, he1⟩ := he
   obtain ⟨q, hq⟩ := get_lt (show h.edge.toNat < g.edges.length by omega)
   have HF := Lib.hid (fun hx => HN.out (HI2.out.symm.trans (goL_none hx)))
   have HF2 := Lib.hid (fun a b d hx => HI2.out.symm.trans (goL_some (a := a) (b := b) (d := d) hx))
   have hnot := fun h2 => hopTo_not (v := x) (t := y) hin hq h2
   have hnone := fun h3 => hopTo_none (v := x) (t := y) hin hq h3
   have hsome := fun to lg h2 h3 => hopTo_some (v := x) (t := y) (to := to) (l := lg) hin hq h2 h3
   have HNOT := Lib.hid hnot
   have HNONE := Lib.hid hnone
   have HSOME := Lib.hid hsome
   have hqe : EdgeOk g q := hV.edges q (List.mem_of_getElem? hq)
   obtain ⟨be, oe, hE⟩ := hG.edges
   obtain ⟨rfl, hbe, ⟨⟨z0, z1, L, cl, z2, hl1, hl2, hL⟩, _⟩⟩ := hE _ q hq
   have k0 := z0.now hb
   have k1 := z1.now hb
   have k2 := z2.now hb
   have hbe' := Nat.lt_of_lt_of_le hbe hb.size
   clear hnot hnone hsome hE hq hin z0 z1 z2
   by_cases hqa : q.a = x ∧ y ≤ h.depart
   case neg =>
    have H9 := Lib.hid (HF.out (HNOT.out hqa))
    go_wp2_with fail
    all_goals refine bodyPost_ret (results_tmp4 rfl _ _ _) rfl ?_
    all_goals exact ⟨by rw [H9.out]; rfl, ext_alloc hb _⟩
   obtain ⟨rfl, hqd⟩ := hqa
   go_wp2_with fail
   have hlq : q.legs.length ≤ maxLen := Nat.le_trans hl1 hl2
   have e0 := b1 0
   have e1 := b1 1
   have e2 := b1 2
   simp at e0 e1 e2
   have S0 : (wr.alloc (Obj.cells #[Value.int IntKind.i64 h.edge, Value.int IntKind.i64 h.depart] 64)).cell? ⟨w.heap.size, 0, none⟩ = some (.int .i64 g.h) ∧ (wr.alloc (Obj.cells #[Value.int IntKind.i64 h.edge, Value.int IntKind.i64 h.depart] 64)).cell? ⟨w.heap.size, 1, none⟩ = some (.slice A g.lives.length c) ∧ (wr.alloc (Obj.cells #[Value.int IntKind.i64 h.edge, Value.int IntKind.i64 h.depart] 64)).cell? ⟨w.heap.size, 2, none⟩ = some (.slice (some { block := be, off := oe }) g.edges.length c') ∧ (wr.alloc (Obj.cells #[Value.int IntKind.i64 h.edge, Value.int IntKind.i64 h.depart] 64)).cell? ⟨be, oe + h.edge.toNat * 3, none⟩ = some (.int .i64 q.a) ∧ (wr.alloc (Obj.cells #[Value.int IntKind.i64 h.edge, Value.int IntKind.i64 h.depart] 64)).cell? ⟨be, oe + h.edge.toNat * 3 + 1, none⟩ = some (.int .i64 q.b) ∧ (wr.alloc (Obj.cells #[Value.int IntKind.i64 h.edge, Value.int IntKind.i64 h.depart] 64)).cell? ⟨be, oe + h.edge.toNat * 3 + 2, none⟩ = some (.slice L q.legs.length cl) ∧ (wr.alloc (Obj.cells #[Value.int IntKind.i64 h.edge, Value.int IntKind.i64 h.depart] 64)).cell? ⟨wr.heap.size, 0, none⟩ = some (.int .i64 h.edge) ∧ (wr.alloc (Obj.cells #[Value.int IntKind.i64 h.edge, Value.int IntKind.i64 h.depart] 64)).cell? ⟨wr.heap.size, 1, none⟩ = some (.int .i64 h.depart) := by
    refine ⟨?_, ?_, ?_, ?_, ?_, ?_, ?_, ?_⟩ <;> simp [go_sem, e0, e1, e2, k0, k1, k2, b3, hbe']
   have hbq : Below w.heap.size w (wr.alloc (Obj.cells #[Value.int IntKind.i64 h.edge, Value.int IntKind.i64 h.depart] 64)) := ext_alloc hb _
   have Bq := B0.alloc (Obj.cells #[Value.int IntKind.i64 h.edge, Value.int IntKind.i64 h.depart] 64)
   have hGq := hG.ext hbq
   have hLq := hL.ext RLeg.stable hbq
   generalize hn17 : wr.heap.size = n17 at S0 ⊢
   generalize hwq : wr.alloc (Obj.cells #[Value.int IntKind.i64 h.edge, Value.int IntKind.i64 h.depart] 64) = wq at S0 hbq Bq hGq hLq ⊢
   clear hn17 hwq e0 e1 e2 k0 k1 k2 b1 b2 b3 y0 y1 hb B0 hbe'
   have hzq := hbq.size
   cases har : arrive g q h.depart with
   | none =>
    have HAR := Lib.hid har
    have H9 := Lib.hid (HF.out (HNONE.out har))
    clear har
    go_region_held3 (fun w' => w'.cell? ⟨w.heap.size, 0, none⟩ = some (.int .i64 g.h) ∧ w'.cell? ⟨w.heap.size, 1, none⟩ = some (.slice A g.lives.length c) ∧ w'.cell? ⟨w.heap.size, 2, none⟩ = some (.slice (some { block := be, off := oe }) g.edges.length c') ∧ w'.cell? ⟨be, oe + h.edge.toNat * 3, none⟩ = some (.int .i64 q.a) ∧ w'.cell? ⟨be, oe + h.edge.toNat * 3 + 1, none⟩ = some (.int .i64 q.b) ∧ w'.cell? ⟨be, oe + h.edge.toNat * 3 + 2, none⟩ = some (.slice L q.legs.length cl) ∧ w'.cell? ⟨n17, 0, none⟩ = some (.int .i64 h.edge) ∧ w'.cell? ⟨n17, 1, none⟩ = some (.int .i64 h.depart))
     (first | exact S0 | (refine keep8 ?_ S0; go_grown))
     (first | (go_at_call 98; refine (arrive_no_any _ _ L _ _ cl g q h.depart _ (hGq.ext (by go_grown)) hV hqe (hLq.ext RLeg.stable (by go_grown)) hlq hw1 HAR.out).mono ?_; rintro e w5 ⟨rfl, hb5⟩; have hb6 : Below wq.heap.size wq w5 := ext_trans (by go_grown) hb5; have hz6 := hb6.size; obtain ⟨hc5, hf5⟩ := bcell hb5))
    all_goals
     have hb7 : Below w.heap.size w w5 := ext_trans hbq hb6
     have hz7 := hb7.size
     go_wp2_with fail
     refine bodyPost_ret (results_tmp4 rfl _ _ _) rfl ?_
     exact ⟨by rw [H9.out]; rfl, by go_grown⟩
   | some p =>
    obtain ⟨lg, to⟩ := p
    have HAR := Lib.hid har
    have H9 := Lib.hid (HF2.out _ _ _ (HSOME.out to lg ⟨trivial, hqd⟩ har))
    have ha := arrive_some har
    have hlg := hqe.legs lg ha.1
    have c0 : 0 ≤ lg.cost := by omega
    have c1 : lg.cost ≤ 1000 := by omega
    have hbe2 := World.block_lt_of_cell? _ _ S0.2.2.2.1
    have hn2 := World.block_lt_of_cell? _ _ S0.2.2.2.2.2.2.1
    have hg2 := World.block_lt_of_cell? _ _ S0.1
    simp only at hbe2 hn2 hg2
    have hbe3 : be ≠ wq.heap.size := by omega
    have hn3 : n17 ≠ wq.heap.size := by omega
    have hg3 : w.heap.size ≠ wq.heap.size := by omega
    clear har ha hlg
    go_region_held3 (fun w' => w'.cell? ⟨w.heap.size, 0, none⟩ = some (.int .i64 g.h) ∧ w'.cell? ⟨w.heap.size, 1, none⟩ = some (.slice A g.lives.length c) ∧ w'.cell? ⟨w.heap.size, 2, none⟩ = some (.slice (some { block := be, off := oe }) g.edges.length c') ∧ w'.cell? ⟨be, oe + h.edge.toNat * 3, none⟩ = some (.int .i64 q.a) ∧ w'.cell? ⟨be, oe + h.edge.toNat * 3 + 1, none⟩ = some (.int .i64 q.b) ∧ w'.cell? ⟨be, oe + h.edge.toNat * 3 + 2, none⟩ = some (.slice L q.legs.length cl) ∧ w'.cell? ⟨n17, 0, none⟩ = some (.int .i64 h.edge) ∧ w'.cell? ⟨n17, 1, none⟩ = some (.int .i64 h.depart))
     (first | exact S0 | (refine keep8 ?_ S0; go_grown))
     (first | (go_at_call 98; refine (arrive_yes_any _ _ L _ _ cl g q h.depart lg to _ (hGq.ext (by go_grown)) hV hqe (hLq.ext RLeg.stable (by go_grown)) hlq hw1 HAR.out).mono ?_; rintro e w5 ⟨rfl, hb5⟩; have hb6 : Below wq.heap.size wq w5 := ext_trans (by go_grown) hb5; have hz6 := hb6.size; obtain ⟨hc5, hf5⟩ := bcell hb5; obtain ⟨r0, r1, r2, r3, r4, r5, r6, r7⟩ := keep8 hb6 S0))
    all_goals
     have hb7 : Below w.heap.size w w5 := ext_trans hbq hb6
     have hz7 := hb7.size
     have Bq5 := Bq.ext hb6
     have q0 : be < w5.heap.size := by omega
     have q1 : n17 < w5.heap.size := by omega
     have q2 : w.heap.size < w5.heap.size := by omega
     go_wp2_with fail
     go_quiet (fail)
     go_wp2
     go_roundw
     case rel =>
      refine ⟨n + 1, q.b, to, z + lg.cost, by omega, by go_num, rfl, rfl, rfl, by omega, by omega, Lib.hid H9.out.symm, below_drewN (by go_grown) _, ?_⟩
      first
       | exact (Bq5.alloc _).drewN _
       | exact ((((Bq5.far hg3 _).far hg3 _).far hg3 _).far hg3 _).drewN _
     case measure => simp [intOf]; omega
  ·have hfin := Lib.hid (HS.out x y z (HI.out.symm.trans (by rw [drop_end (by omega)]; rfl)))
   go_wp2_with fail
   refine bodyPost_ret (results_tmp4 rfl _ _ _) rfl ?_
   exact ⟨by rw [hfin.out]; rfl, hb⟩
end Go.Proofs.YtjcimdpldlamfaaGreatDoor
/- The walk of the law JourneyGoes: both Go's tell the same. -/
namespace Go.Proofs.YtjcimdpldlamfaaGreatDoor
open Go.RowKit

end Go.Proofs.YtjcimdpldlamfaaGreatDoor
/- The walks of the library's slices.Equal, at hops, ints, bools and lives. -/
namespace Go.Proofs.YtjcimdpldlamfaaGreatDoor
open Go.RowKit

end Go.Proofs.YtjcimdpldlamfaaGreatDoor
/- The walks of small things that the keeping laws begin with: the graph of a pair, the rest of a division, a hop among others, goes. -/
namespace Go.Proofs.YtjcimdpldlamfaaGreatDoor
open Go.RowKit

end Go.Proofs.YtjcimdpldlamfaaGreatDoor
/- What is printed is read as it was, and what is read is printed as it stood; no program in sight. -/
namespace Go.Proofs.YtjcimdpldlamfaaGreatDoor
open Go.Lib

/-! ### numerals -/
theorem itoa_nat {n : Int} (h : 0 ≤ n) : itoa n = decDigits n.toNat := by
 unfold itoa
 rw [if_neg (by omega)]
theorem numB_itoa {n : Int} (h : 0 ≤ n ∧ n < 10000) : numB (itoa n) = n := by
 rw [itoa_nat h.1, numB_of, read_dec]
 ·omega
 ·refine ⟨?_, dec_len4 (by omega), fun ⟨h1, h2⟩ => dec_head h2 h1⟩
  have := dec_ne n.toNat
  rw [Nat.one_le_iff_ne_zero]
  exact fun e => this (List.eq_nil_of_length_eq_zero e)
 ·rw [List.all_eq_true]
  intro b hb
  simpa [digitB] using dec_digit _ b hb
theorem itoa_len4 {n : Int} (h : 0 ≤ n ∧ n < 10000) : (itoa n).length ≤ 4 := by rw [itoa_nat h.1]; exact dec_len4 (by omega)
/-! ### printed lines -/
def Small (l : List Int) : Prop := ∀ n ∈ l, 0 ≤ n ∧ n < 10000
theorem numsT_len4 : ∀ {l : List Int}, Small l → (numsT l).length ≤ l.length * 5
 | [], _ => by simp [numsT]
 | n :: l, h => by
  have h1 := itoa_len4 (h n (by simp))
  have h2 := numsT_len4 (l := l) fun m hm => h m (by simp [hm])
  have e : numsT (n :: l) = (32 :: itoa n) ++ numsT l := rfl
  rw [e, List.length_append, List.length_cons, List.length_cons]
  omega
theorem lineT_len4 {v : List UInt8} {l : List Int} (h : Small l) : (lineT v l).length ≤ v.length + l.length * 5 + 1 := by
 have := numsT_len4 h
 unfold lineT
 rw [List.length_append, List.length_append]
 simp only [List.length_cons, List.length_nil]
 omega
theorem valid_smalls {g : GraphD} (hV : Valid g) : Small [g.h] ∧ (∀ x ∈ g.lives, Small [x.f, x.t]) ∧ ∀ x ∈ g.edges, Small [x.a, x.b] ∧ x.legs.length ≤ 6 ∧ ∀ y ∈ x.legs, Small [y.f, y.t, y.time, y.cost] := by
 have h0 := hV.h0; have h1 := hV.h1; have hn := hV.nl
 refine ⟨fun n hn => ?_, fun x hx n hn => ?_, fun x hx => ?_⟩
 ·simp at hn; omega
 ·have := hV.lives x hx
  simp at hn; omega
 ·have h := hV.edges x hx
  have a0 := h.a0; have a1 := h.a1; have b0 := h.b0; have b1 := h.b1
  refine ⟨fun n hn => ?_, h.six, fun y hy n hn => ?_⟩
  ·simp at hn; omega
  ·have := h.legs y hy
   simp at hn; omega
theorem graphT_len {g : GraphD} (hV : Valid g) : (graphT g).length ≤ 8192 := by
 obtain ⟨h1, h2, h3⟩ := valid_smalls hV
 have l1 := lineT_len4 (v := wTime) h1
 have l2 := flat_len (f := vertexT) (l := g.lives) (m := 17) fun x hx => lineT_len4 (v := wVertex) (h2 x hx)
 have l3 := flat_len (f := edgeT) (l := g.edges) (m := 159) fun x hx => by
  have k1 := lineT_len4 (v := wEdge) (h3 x hx).1
  have k2 := flat_len (f := legT) (l := x.legs) (m := 24) fun y hy => lineT_len4 (v := wLeg) ((h3 x hx).2.2 y hy)
  have k3 := (h3 x hx).2.1
  have e : wEdge.length = 4 := rfl
  unfold edgeT
  rw [List.length_append]
  simp only [List.length_cons, List.length_nil] at k1
  omega
 have h4 := hV.nl; have h5 := hV.ne
 have e : wTime.length = 4 := rfl
 unfold graphT
 rw [List.length_append, List.length_append]
 simp only [List.length_cons, List.length_nil] at l1
 omega
/-! ### what is read -/
end Go.Proofs.YtjcimdpldlamfaaGreatDoor
/- The walks of the checks of a snapshot, the program's and the document's. -/
namespace Go.Proofs.YtjcimdpldlamfaaGreatDoor
open Go.RowKit

abbrev arcV (x : ArcD) : Value := .agg #[.int .i64 x.a, .int .i64 x.b, .int .i64 x.cost]
abbrev snapC (A : Option Addr) (c : Nat) (A' : Option Addr) (c' : Nat) (s : SnapD) : Array Value := #[.slice A s.alive.length c, .slice A' s.arcs.length c']
theorem aliveAt_neg {s : SnapD} {v : Int} (h : ¬ 0 ≤ v) : aliveAt s v = false := by simp [aliveAt]; omega
theorem aliveAt_far {s : SnapD} {v : Int} (h : (s.alive.length : Int) ≤ v) : aliveAt s v = false := by
 simp only [aliveAt, Bool.and_eq_false_iff]
 right
 rw [List.getElem?_eq_none (by omega)]; rfl
theorem aliveAt_in {s : SnapD} {v : Int} {b : Bool} (h : 0 ≤ v) (h2 : s.alive[v.toNat]? = some b) : aliveAt s v = b := by simp [aliveAt, h, h2]

set_option maxHeartbeats 1000000 in
theorem aliveClo_any (A A' : Option Addr) (c c' : Nat) (s : SnapD) (v : Int) (bn bs : Nat) (w : World) (hS : SnapAt w A c A' c' s) (hn : Blk w bn 3 #[.int .i64 s.alive.length]) (hs : Blk w bs 86 (snapC A c A' c' s)) :
  Calls Tryz.prog 133 #[.int .i64 v, .pointer (some ⟨bn, 0, none⟩), .pointer (some ⟨bs, 0, none⟩)] w fun e w' => e = .returned (.bool (aliveAt s v)) ∧ w = w' := by
 have m1 : s.alive.length ≤ 9223372036854775807 := Nat.le_trans hS.lc hS.cm
 obtain ⟨n1, n2, n3⟩ := hn.facts
 obtain ⟨q1, q2, q3⟩ := hs.facts
 have n10 := n1 0
 have q10 := q1 0
 simp at n10 q10
 obtain ⟨b, off, hL⟩ := hS.alive
 by_cases h0 : 0 ≤ v
 case neg =>
  have HA := Lib.hid (aliveAt_neg (s := s) h0)
  have hd : decide (0 ≤ v) = false := by simpa using h0
  go_enter Tryz.func133, Tryz.ntmps133
  go_wp2_with fail
  go_ret
  exact ⟨ret_bool HA.out.symm, rfl⟩
 by_cases h1 : (v : Int) < s.alive.length
 case neg =>
  have HA := Lib.hid (aliveAt_far (s := s) (v := v) (by omega))
  have hd : decide (v < (s.alive.length : Int)) = false := by simpa using h1
  go_enter Tryz.func133, Tryz.ntmps133
  go_wp2_with fail
  go_ret
  exact ⟨ret_bool HA.out.symm, rfl⟩
 obtain ⟨y, hy⟩ := get_lt (show v.toNat < s.alive.length by omega)
 have HA := Lib.hid (aliveAt_in h0 hy)
 obtain ⟨rfl, hb0, x0⟩ := hL _ y hy
 unfold RBool cellIs at x0
 simp only [Nat.mul_one] at x0
 clear hL hy
 go_enter Tryz.func133, Tryz.ntmps133
 go_wp2_with fail
 go_ret
 exact ⟨ret_bool HA.out.symm, rfl⟩
set_option maxRecDepth 100000 in
set_option maxHeartbeats 4000000 in
theorem shotCheck_any (A A' : Option Addr) (c c' : Nat) (s : SnapD) (w : World) (hS : SnapAt w A c A' c' s) :
  Calls Tryz.prog 105 #[snapV A c A' c' s] w fun e w' => e = .returned (.int .i64 (shotErr s)) ∧ Below w.heap.size w w' := by
 have m1 : s.alive.length ≤ 9223372036854775807 := Nat.le_trans hS.lc hS.cm
 have m2 : s.arcs.length ≤ 9223372036854775807 := Nat.le_trans hS.lc' hS.cm'
 have hmf : ∀ (fn : Fn) (first cap : Array Value) (w : World), (Instr.makeFunc fn first cap).run Tryz.prog w = .ok (.func fn first cap) w := fun _ _ _ _ => rfl
 by_cases h1 : 12 < s.alive.length
 ·go_enter Tryz.func105, Tryz.ntmps105
  go_wp2_with fail
  go_ret
  exact ⟨ret_int (shotErr_large (.inl h1)).symm, by go_grown⟩
 by_cases h2 : 30 < s.arcs.length
 ·go_enter Tryz.func105, Tryz.ntmps105
  go_wp2_with fail
  go_ret
  exact ⟨ret_int (shotErr_large (.inr h2)).symm, by go_grown⟩
 obtain ⟨b, off, hL⟩ := hS.arcs
 go_enter Tryz.func105, Tryz.ntmps105
 go_wp2_with fail
 go_loopw [24] (fun v wr => ∃ k : Nat, k ≤ s.arcs.length ∧ v = .int .i64 k ∧ Hid ((s.arcs.drop k).all (arcAlive s) = s.arcs.all (arcAlive s)) ∧ Below w.heap.size w wr ∧ Blk wr w.heap.size 86 (snapC A c A' c' s) ∧ Blk wr (w.heap.size + 1) 3 #[.int .i64 s.alive.length])
  (fun v _ => s.arcs.length - (intOf v).toNat)
 case atStart => exact ⟨0, Nat.zero_le _, rfl, Lib.hid rfl, by go_grown, (Blk.new _ _ _).alloc _, Blk.new_ (by simp)⟩
 case round =>
  obtain ⟨k, hk, rfl, HI, hb, hB1, hB2⟩ := hrel
  obtain ⟨b1, b2, b3⟩ := hB1.facts
  by_cases hlt : k < s.arcs.length
  ·obtain ⟨y, hy⟩ := get_lt hlt
   obtain ⟨rfl, hb0, ⟨⟨x0, x1, x2⟩, _⟩⟩ := hL k y hy
   have y0 := x0.now hb
   have y1 := x1.now hb
   have y2 := x2.now hb
   have hd := drop_cons hy
   have HI2 : Hid ((y :: s.arcs.drop (k + 1)).all (arcAlive s) = s.arcs.all (arcAlive s)) := by rw [← hd]; exact HI
   clear hL hd hy HI x0 x1 x2
   cases ha : aliveAt s y.a
   case false =>
    have hf : Hid (shotErr s = 4) := Lib.hid (shotErr_dead (by omega) (HI2.out.symm.trans (all_bad (by simp [arcAlive, ha]))))
    go_wp2_with fail
    refine (aliveClo_any _ _ _ _ s y.a _ _ _ (hS.ext (ext_alloc hb _)) (hB2.alloc _) (hB1.alloc _)).mono ?_
    rw [ha]
    rintro e w1 ⟨rfl, rfl⟩
    go_wp2_with fail
    go_ret
    exact ⟨ret_int hf.out.symm, ext_alloc hb _⟩
   cases hbb : aliveAt s y.b
   case false =>
    have hf : Hid (shotErr s = 4) := Lib.hid (shotErr_dead (by omega) (HI2.out.symm.trans (all_bad (by simp [arcAlive, hbb]))))
    go_wp2_with fail
    refine (aliveClo_any _ _ _ _ s y.a _ _ _ (hS.ext (ext_alloc hb _)) (hB2.alloc _) (hB1.alloc _)).mono ?_
    rw [ha]
    rintro e w1 ⟨rfl, rfl⟩
    go_wp2_with fail
    refine (aliveClo_any _ _ _ _ s y.b _ _ _ (hS.ext (ext_alloc hb _)) (hB2.alloc _) (hB1.alloc _)).mono ?_
    rw [hbb]
    rintro e w1 ⟨rfl, rfl⟩
    go_wp2_with fail
    go_ret
    exact ⟨ret_int hf.out.symm, ext_alloc hb _⟩
   have hnx : Hid ((s.arcs.drop (k + 1)).all (arcAlive s) = s.arcs.all (arcAlive s)) := Lib.hid ((all_next (by simp [arcAlive, ha, hbb])).symm.trans HI2.out)
   clear HI2
   go_wp2_with fail
   refine (aliveClo_any _ _ _ _ s y.a _ _ _ (hS.ext (ext_alloc hb _)) (hB2.alloc _) (hB1.alloc _)).mono ?_
   rw [ha]
   rintro e w1 ⟨rfl, rfl⟩
   go_wp2_with fail
   refine (aliveClo_any _ _ _ _ s y.b _ _ _ (hS.ext (ext_alloc hb _)) (hB2.alloc _) (hB1.alloc _)).mono ?_
   rw [hbb]
   rintro e w1 ⟨rfl, rfl⟩
   go_wp2_with fail
   go_roundw
   case rel => exact ⟨k + 1, by omega, by go_num, hnx, ext_alloc hb _, hB1.alloc _, hB2.alloc _⟩
   case measure => simp [intOf]; omega
  ·have hall : s.arcs.all (arcAlive s) = true := by rw [← HI.out, drop_end (by omega)]; rfl
   have HALL := Lib.hid hall
   clear hall HI
   obtain ⟨wo, rfl⟩ : ∃ wo : World, wo = wr := ⟨_, rfl⟩
   go_wp2_with fail
   go_loopw [44] (fun v wr => ∃ k : Nat, k ≤ s.arcs.length ∧ v = .int .i64 k ∧ Hid ((s.arcs.drop k).all costOk = s.arcs.all costOk) ∧ Below w.heap.size w wr)
    (fun v _ => s.arcs.length - (intOf v).toNat)
   case atStart => exact ⟨0, Nat.zero_le _, rfl, Lib.hid rfl, hb⟩
   case round =>
    clear hb hB1 hB2 b1 b2 b3
    obtain ⟨j, hj, rfl, HI, hb⟩ := hrel
    by_cases hlt : j < s.arcs.length
    ·obtain ⟨y, hy⟩ := get_lt hlt
     obtain ⟨rfl, hb0, ⟨⟨x0, x1, x2⟩, _⟩⟩ := hL j y hy
     have y0 := x0.now hb
     have y1 := x1.now hb
     have y2 := x2.now hb
     have hd := drop_cons hy
     have HI2 : Hid ((y :: s.arcs.drop (j + 1)).all costOk = s.arcs.all costOk) := by rw [← hd]; exact HI
     clear hL hd hy HI x0 x1 x2
     by_cases hc : 0 ≤ y.cost ∧ y.cost ≤ 1000
     ·have hnx : Hid ((s.arcs.drop (j + 1)).all costOk = s.arcs.all costOk) := Lib.hid ((all_next (by simp [costOk, hc])).symm.trans HI2.out)
      obtain ⟨hc0, hc1⟩ := hc
      clear HI2
      go_wp2_with fail
      go_roundw
      case rel => exact ⟨j + 1, by omega, by go_num, hnx, ext_alloc hb _⟩
      case measure => simp [intOf]; omega
     ·have hf : Hid (shotErr s = 1) := Lib.hid (shotErr_cost (by omega) HALL.out (HI2.out.symm.trans (all_bad (by simp only [costOk, decide_eq_false_iff_not]; exact hc))))
      go_wp2_with fail
      all_goals go_ret
      all_goals exact ⟨ret_int hf.out.symm, ext_alloc hb _⟩
    ·have hf : Hid (shotErr s = 0) := Lib.hid (shotErr_ok (by omega) HALL.out (by rw [← HI.out, drop_end (by omega)]; rfl))
     go_wp2_with fail
     go_ret
     exact ⟨ret_int hf.out.symm, hb⟩

end Go.Proofs.YtjcimdpldlamfaaGreatDoor
/- Labels and degrees of a snapshot, step by step, as plain Lean; no program in sight. -/
namespace Go.Proofs.YtjcimdpldlamfaaGreatDoor

/-- In the midst of a round of labels: j arcs have been looked at. -/
structure LMid (s : SnapD) (l0 l : List Int) (more : Bool) (j : Nat) : Prop where
 len : l.length = s.alive.length
 le : ∀ i, gi l i ≤ gi (labelD s) i
 above : Above (ArcsP s wZero true) (gi (labelD s)) (gi l)
 tot : total l ≤ total l0
 less : more = true → total l < total l0
 told : more = false → ∀ a, a ∈ s.arcs.take j → gi l a.a.toNat = gi l a.b.toNat
section
variable {s : SnapD} {l0 l : List Int} {more : Bool} {j : Nat}
theorem LMid.pos (h : LMid s l0 l more j) (i : Nat) : 0 ≤ gi l i :=
 above_pos h.above (label_pos s) (fun x hx => by obtain ⟨a, _, rfl | ⟨_, rfl⟩⟩ := hx <;> simp [arcF, arcB, wZero]) i
theorem LMid.start : LMid s (labelD s) (labelD s) false 0 := ⟨by simp [labelD], fun _ => Int.le_refl _, above_init, Nat.le_refl _, fun h => by simp at h, fun _ a ha => by simp at ha⟩
theorem LMid.again (h : LMid s l0 l more j) : LMid s l l false 0 := ⟨h.len, h.le, h.above, Nat.le_refl _, fun h => by simp at h, fun _ a ha => by simp at ha⟩
theorem LMid.same (h : LMid s l0 l more j) {y : ArcD} (hy : s.arcs[j]? = some y) (he : gi l y.a.toNat = gi l y.b.toNat) : LMid s l0 l more (j + 1) :=
 ⟨h.len, h.le, h.above, h.tot, h.less, fun hm a ha => by
  rw [List.take_add_one, hy] at ha
  rcases List.mem_append.1 ha with ha | ha
  ·exact h.told hm a ha
  ·obtain rfl : a = y := by simpa using ha
   exact he⟩
theorem LMid.change (h : LMid s l0 l more j) (hs : SnapOk s) {y : ArcD} (hy : s.arcs[j]? = some y) (hne : ¬ gi l y.a.toNat = gi l y.b.toNat) {n : Int} (hn : min (gi l y.a.toNat) (gi l y.b.toNat) = n) :
  LMid s l0 ((l.set y.a.toNat n).set y.b.toNat n) true (j + 1) := by
 have hm := List.mem_of_getElem? hy
 have ho := hs.arcs y hm
 have h1 := ho.a1; have h2 := ho.b1
 have hl := h.len
 have hab : ¬ y.b.toNat = y.a.toNat := fun e => hne (by rw [e])
 have e1 : gi (l.set y.a.toNat n) = upd (gi l) y.a.toNat n := gi_set (by omega) n
 have e2 : gi ((l.set y.a.toNat n).set y.b.toNat n) = upd (upd (gi l) y.a.toNat n) y.b.toNat n := by rw [gi_set (by simp; omega), e1]
 have hb : gi (l.set y.a.toNat n) y.b.toNat = gi l y.b.toNat := by rw [e1, upd_ne _ _ hab]
 have hp1 := h.pos y.a.toNat
 have hp2 := h.pos y.b.toNat
 have t1 := total_set (l := l) (i := y.a.toNat) (by omega) n
 have t2 := total_set (l := l.set y.a.toNat n) (i := y.b.toNat) (by simp; omega) n
 rw [hb] at t2
 have hlt : total ((l.set y.a.toNat n).set y.b.toNat n) < total l0 := by have := h.tot; omega
 have k1 : Above (ArcsP s wZero true) (gi (labelD s)) (upd (gi l) y.a.toNat n) := by
  have := h.above.upd h.above (x := arcB wZero y) ⟨y, hm, .inr ⟨rfl, rfl⟩⟩ (mono_add _) (Int.le_refl _)
  simp only [arcB, wZero, Int.add_zero] at this
  rwa [hn] at this
 have k2 : Above (ArcsP s wZero true) (gi (labelD s)) (upd (upd (gi l) y.a.toNat n) y.b.toNat n) := by
  have := k1.upd k1 (x := arcF wZero y) ⟨y, hm, .inl rfl⟩ (mono_add _) (Int.le_refl _)
  simp only [arcF, wZero, Int.add_zero, upd_at] at this
  rw [upd_ne _ _ hab, show min (gi l y.b.toNat) n = n by omega] at this
  exact this
 refine ⟨by simp [hl], fun i => ?_, by rw [e2]; exact k2, by omega, fun _ => hlt, fun e => by simp at e⟩
 rw [e2]
 by_cases hi : i = y.b.toNat
 ·rw [hi, upd_at]; have := h.le y.b.toNat; omega
 ·rw [upd_ne _ _ hi]
  by_cases hi : i = y.a.toNat
  ·rw [hi, upd_at]; have := h.le y.a.toNat; omega
  ·rw [upd_ne _ _ hi]; exact h.le i
theorem LMid.fin (h : LMid s l0 l false j) (hj : s.arcs.length ≤ j) : LabelsL s l := by
 refine ⟨h.len, ⟨h.le, fun x hx => ?_⟩, h.above⟩
 obtain ⟨a, ha, he⟩ := hx
 have := h.told rfl a (by rw [List.take_of_length_le hj]; exact ha)
 rcases he with rfl | ⟨_, rfl⟩ <;> simp only [arcF, arcB, wZero] <;> omega
/-- In the midst of the first round: k vertices have been told themselves. -/
def LFirst (s : SnapD) (l : List Int) (k : Nat) : Prop := l.length = s.alive.length ∧ ∀ i, i < k → gi l i = gi (labelD s) i
theorem LFirst.zero : LFirst s (List.replicate s.alive.length 0) 0 := ⟨by simp, fun i h => by omega⟩
theorem LFirst.next {k : Nat} (h : LFirst s l k) (hk : k < s.alive.length) {x : Int} (hx : gi (labelD s) k = x) : LFirst s (l.set k x) (k + 1) := by
 refine ⟨by simp [h.1], fun i hi => ?_⟩
 rw [gi_set (by rw [h.1]; exact hk)]
 by_cases e : i = k
 ·rw [e, upd_at, hx]
 ·rw [upd_ne _ _ e]; exact h.2 i (by omega)
theorem LFirst.fin {k : Nat} (h : LFirst s l k) (hk : s.alive.length ≤ k) : l = labelD s := gi_eq_of (by simp [h.1, labelD]) fun i hi => h.2 i (by have := h.1; omega)
theorem label_yes {k : Nat} (hk : s.alive[k]? = some true) : gi (labelD s) k = k := by rw [label_val (lt_of_get hk), if_pos hk]
theorem label_no {k : Nat} (hk : s.alive[k]? = some false) : gi (labelD s) k = Far := by rw [label_val (lt_of_get hk), if_neg (by simp [hk])]
/-! ### degrees -/
end
end Go.Proofs.YtjcimdpldlamfaaGreatDoor
/- Blocks that hold a list of hops: how they are made, read, written; which hop one has come by. -/
namespace Go.Proofs.YtjcimdpldlamfaaGreatDoor
open Go.RowKit

def HRow (w : World) (b : Nat) (hs : List HopD) : Prop := ∃ cs, Blk w b 64 cs ∧ ∀ k h, hs[k]? = some h → cs[k * 2]? = some (.int .i64 h.edge) ∧ cs[k * 2 + 1]? = some (.int .i64 h.depart)
theorem made_two (z : Value) (n : Nat) : madeCells #[z, z] n = (List.replicate n z).toArray := by
 apply Array.toList_inj.1
 apply List.ext_getElem?
 intro j
 by_cases hj : j < n
 ·have h2 : j % 2 = 0 ∨ j % 2 = 1 := by omega
  rcases h2 with h2 | h2 <;> simp [madeCells, hj, h2]
 ·simp [madeCells, hj]
section
variable {w w' : World} {b : Nat} {hs : List HopD}
theorem HRow.made {n : Nat} (hb : b = w.heap.size) : HRow (w.alloc (.cells (madeCells #[.int .i64 0, .int .i64 0] (n * 2)) 64)) b (List.replicate n ⟨0, 0⟩) := by
 refine ⟨_, Blk.new_ hb, fun k h hk => ?_⟩
 have hlt := lt_of_get hk
 simp only [List.length_replicate] at hlt
 rw [List.getElem?_replicate, if_pos hlt] at hk
 obtain rfl : (⟨0, 0⟩ : HopD) = h := by simpa using hk
 rw [made_two]
 constructor
 ·rw [List.getElem?_toArray, List.getElem?_replicate, if_pos (by omega)]
 ·rw [List.getElem?_toArray, List.getElem?_replicate, if_pos (by omega)]
theorem HRow.lt (h : HRow w b hs) : b < w.heap.size := by obtain ⟨cs, h, _⟩ := h; exact h.lt
theorem HRow.frozen (h : HRow w b hs) (i : Nat) : w.frozen? ⟨b, i, none⟩ = false := by obtain ⟨cs, h, _⟩ := h; exact h.frozen i
theorem HRow.cell (h : HRow w b hs) {k : Nat} {x : HopD} (hk : hs[k]? = some x) : w.cell? ⟨b, k * 2, none⟩ = some (.int .i64 x.edge) ∧ w.cell? ⟨b, k * 2 + 1, none⟩ = some (.int .i64 x.depart) := by
 obtain ⟨cs, h, hc⟩ := h
 rw [h.cell, h.cell]
 exact hc k x hk
theorem HRow.ext (h : HRow w b hs) (hb : Below w.heap.size w w') : HRow w' b hs := by obtain ⟨cs, h, hc⟩ := h; exact ⟨cs, h.ext hb, hc⟩
theorem HRow.alloc (h : HRow w b hs) (o : Obj) : HRow (w.alloc o) b hs := by obtain ⟨cs, h, hc⟩ := h; exact ⟨cs, h.alloc o, hc⟩
theorem HRow.drew (h : HRow w b hs) : HRow w.drew b hs := h
theorem HRow.far (h : HRow w b hs) {p : Addr} (hp : b ≠ p.block) (u : Value) : HRow (w.setCell p u) b hs := by obtain ⟨cs, h, hc⟩ := h; exact ⟨cs, h.far hp u, hc⟩
theorem HRow.set (h : HRow w b hs) (k : Nat) (x : HopD) (hk : k < hs.length) : HRow ((w.setCell ⟨b, k * 2, none⟩ (.int .i64 x.edge)).setCell ⟨b, k * 2 + 1, none⟩ (.int .i64 x.depart)) b (hs.set k x) := by
 obtain ⟨cs, h, hc⟩ := h
 obtain ⟨y, hy⟩ := get_lt hk
 have h1 := hc k y hy
 have hz : k * 2 + 1 < cs.size := by
  refine Classical.byContradiction fun hn => ?_
  have h2 := h1.2
  rw [Array.getElem?_eq_none (by omega)] at h2
  simp at h2
 refine ⟨_, (h.set_ _ _).set_ _ _, fun i z hi => ?_⟩
 by_cases e : k = i
 ·subst e
  rw [List.getElem?_set_self hk] at hi
  obtain rfl : x = z := by simpa using hi
  constructor
  ·rw [Array.getElem?_setIfInBounds_ne (by omega), Array.getElem?_setIfInBounds_self_of_lt (by omega)]
  ·rw [Array.getElem?_setIfInBounds_self_of_lt (by simp; omega)]
 ·rw [List.getElem?_set_ne e] at hi
  have h2 := hc i z hi
  constructor
  ·rw [Array.getElem?_setIfInBounds_ne (by omega), Array.getElem?_setIfInBounds_ne (by omega)]; exact h2.1
  ·rw [Array.getElem?_setIfInBounds_ne (by omega), Array.getElem?_setIfInBounds_ne (by omega)]; exact h2.2
theorem HRow.slAt (h : HRow w b hs) (hi : ∀ x, x ∈ hs → I64 x.edge ∧ I64 x.depart) : SlAt RHop 2 w (some ⟨b, 0, none⟩) hs := by
 refine ⟨b, 0, fun i x hx => ⟨rfl, h.lt, ?_⟩⟩
 have h2 := h.cell hx
 have h3 := hi x (List.mem_of_getElem? hx)
 refine ⟨⟨?_, ?_⟩, h3⟩ <;> (unfold cellIs; rw [Nat.zero_add])
 ·exact h2.1
 ·exact h2.2
end
theorem make_hops (n : Nat) (h : n ≤ 1000000) (w : World) : (Instr.makeSlice 62 (.int .i64 (n : Int)) (.int .i64 (n : Int))).run Tryz.prog w = .ok (.slice (some ⟨w.heap.size, 0, none⟩) n n) (w.alloc (.cells (madeCells #[.int .i64 0, .int .i64 0] (n * 2)) 64)) := by
 obtain ⟨i, hi, hzz⟩ := Option.map_eq_some_iff.1 info_hop
 simp only [Prod.mk.injEq] at hzz
 obtain ⟨hz, hs, hb⟩ := hzz
 have hr := run_make (P := Tryz.prog) w 62 64 i _ Tryz.underlying62 hi hz .i64 .i64 n n (by omega) (Int.le_refl _) (by rw [hb]; omega) (by omega)
 simp only [Int.toNat_natCast, hs] at hr
 exact hr

/-- By which hop one has come to each vertex. -/
structure HopsOk (g : GraphD) (v t : Int) (l : List Int) (hs : List HopD) (done : Nat → Bool) : Prop where
 len : hs.length = g.lives.length
 small : ∀ h, h ∈ hs → 0 ≤ h.edge ∧ h.edge ≤ 30 ∧ 0 ≤ h.depart ∧ h.depart ≤ 100
 come : ∀ k, k < g.lives.length → gi l k < Never → ((k : Int) = v ∧ gi l k = t ∧ aliveB g v t = true) ∨
  ∃ x h lg, hs[k]? = some h ∧ g.edges[h.edge.toNat]? = some x ∧ x.b = (k : Int) ∧ done x.a.toNat = true ∧ gi l x.a.toNat ≤ h.depart ∧ arrive g x h.depart = some (lg, gi l k)
section
variable {g : GraphD} {v t : Int} {l : List Int} {hs : List HopD} {done done' : Nat → Bool}
theorem HopsOk.start : HopsOk g v t (startE g v t) (List.replicate g.lives.length ⟨0, 0⟩) done :=
 ⟨by simp, fun h hm => by obtain ⟨_, rfl⟩ := List.mem_replicate.1 hm; simp, fun k hk hf => by
  rw [startE_val hk] at hf ⊢
  split at hf
  ·rename_i hp
   exact .inl ⟨hp.2, by rw [if_pos hp], hp.1⟩
  ·omega⟩
theorem HopsOk.mono (h : HopsOk g v t l hs done) (hd : ∀ u, done u = true → done' u = true) : HopsOk g v t l hs done' :=
 ⟨h.len, h.small, fun k hk hf => (h.come k hk hf).imp id fun ⟨x, y, lg, h1, h2, h3, h4, h5⟩ => ⟨x, y, lg, h1, h2, h3, hd _ h4, h5⟩⟩
theorem HopsOk.step (hV : Valid g) (h : HopsOk g v t l hs done) (hl : l.length = g.lives.length) {x : EdgeD} {j : Nat} (hx : g.edges[j]? = some x) {d to : Int} (hf : first g x (gi l x.a.toNat) = some (d, to)) (_ : 0 ≤ gi l x.a.toNat)
  (hlt : to < gi l x.b.toNat) (hda : done x.a.toNat = true) (hle : ∀ u, done u = true → gi l u ≤ gi l x.a.toNat) : HopsOk g v t (l.set x.b.toNat to) (hs.set x.b.toNat ⟨j, d⟩) done := by
 have ho := hV.edges x (List.mem_of_getElem? hx)
 have h0 := ho.b0; have h1 := ho.b1; have h2 := ho.a0; have h3 := ho.a1
 obtain ⟨f1, ⟨lg, f2⟩, _⟩ := first_some hf
 have f3 := arrive_late hV ho f2
 have hj := lt_of_get hx
 have hne := hV.ne
 have hb : done x.b.toNat = false := by
  cases hb : done x.b.toNat with
  | false => rfl
  | true => have := hle _ hb; omega
 have ha : ¬ x.a.toNat = x.b.toNat := fun e => by rw [e, hb] at hda; simp at hda
 have e0 : gi (l.set x.b.toNat to) = upd (gi l) x.b.toNat to := gi_set (by omega) to
 refine ⟨by simp [h.len], fun y hy => ?_, fun k hk hn => ?_⟩
 ·rcases List.mem_or_eq_of_mem_set hy with hy | rfl
  ·exact h.small y hy
  ·simp only; omega
 ·rw [e0] at hn ⊢
  by_cases e : k = x.b.toNat
  ·right
   refine ⟨x, ⟨j, d⟩, lg, by rw [e, List.getElem?_set_self (by rw [h.len]; omega)], by simpa using hx, by omega, hda, ?_, ?_⟩
   ·rw [upd_ne _ _ ha]; exact f1
   ·rw [e, upd_at]; exact f2
  ·rw [upd_ne _ _ e] at hn ⊢
   rcases h.come k hk hn with hc | ⟨y, z, lg', c1, c2, c3, c4, c5, c6⟩
   ·exact .inl hc
   ·right
    have hya : ¬ y.a.toNat = x.b.toNat := fun e => by rw [e, hb] at c4; simp at c4
    exact ⟨y, z, lg', by rw [List.getElem?_set_ne (fun h => e h.symm)]; exact c1, c2, c3, c4, by rw [upd_ne _ _ hya]; exact c5, c6⟩
end
end Go.Proofs.YtjcimdpldlamfaaGreatDoor
