/- One text: BspAlong. -/
import Derived.Test.YtjcimdpldlamfaaGreatDoorBd1aa46607c4
import Derived.Test.YtjcimdpldlamfaaGreatDoorBd74e84032f1
import Derived.Test.YtjcimdpldlamfaaGreatDoorBd069242f7b3
import Derived.Test.YtjcimdpldlamfaaGreatDoorBd0848e2b72a
import Derived.Test.YtjcimdpldlamfaaGreatDoorBd2f7b3eaff4
/- The walk of (*bsp.engine).along (printed by genalong.py). -/
namespace Go.Proofs.YtjcimdpldlamfaaGreatDoor
open Go.RowKit

def mailC (m : MailD) : List Value := [.int .i64 m.1, .int .i64 m.2.f, .int .i64 m.2.t, .int .i64 m.2.v]
theorem mail_four {a b c d : Int} : ∀ u ∈ (#[.int .i64 a, .int .i64 b, .int .i64 c, .int .i64 d] : Array Value).toList, u.oneCell' = true := by simp [Value.oneCell']
theorem info_mail : (Tryz.prog.info? 212).map (fun i => (i.zero, i.size, i.bytes)) = some (some (.agg #[.int .i64 0, .int .i64 0, .int .i64 0, .int .i64 0]), 4, 32) := by kernel_rfl
theorem info_mail2 : ∃ i, Tryz.prog.info? 212 = some i ∧ i.zero = some (.agg #[.int .i64 0, .int .i64 0, .int .i64 0, .int .i64 0]) ∧ i.size = 4 ∧ i.bytes = 32 := by
 obtain ⟨i0, hi, hzz⟩ := Option.map_eq_some_iff.1 info_mail
 simp only [Prod.mk.injEq] at hzz
 exact ⟨i0, hi, hzz.1, hzz.2.1, hzz.2.2⟩
/-- What is told of the first k legs, and of the next leg along the first j pieces. -/
def alongK (p : Int) (life : IvlD) (legs : List LegD) (fresh : List PieceD) (k : Nat) : List PieceD := alongL p life (legs.take k) fresh
def alongJ (p : Int) (life : IvlD) (l : LegD) (fresh : List PieceD) (j : Nat) : List PieceD := (fresh.take j).flatMap (tellOf p life l)
theorem alongK_next {p : Int} {life : IvlD} {legs : List LegD} {fresh : List PieceD} {k : Nat} {l : LegD} (h : legs[k]? = some l) : alongK p life legs fresh (k + 1) = alongK p life legs fresh k ++ alongJ p life l fresh fresh.length := by
 unfold alongK alongJ alongL
 rw [List.take_add_one, h, List.flatMap_append]
 simp
theorem alongJ_next {p : Int} {life : IvlD} {l : LegD} {fresh : List PieceD} {j : Nat} {q : PieceD} (h : fresh[j]? = some q) : alongJ p life l fresh (j + 1) = alongJ p life l fresh j ++ tellOf p life l q := by
 unfold alongJ
 rw [List.take_add_one, h, List.flatMap_append]
 simp
def AlongOut (to : Int) (l : List PieceD) (w : World) (e : Ending) (w' : World) : Prop := ∃ v, e = .returned v ∧ Own mailC 4 w' w.heap.size 212 v (l.map (Prod.mk to)) ∧ Below w.heap.size w w'
set_option maxRecDepth 100000 in
set_option maxHeartbeats 4000000 in
theorem along_any (e gv n cv c c' d cl : Nat) (cs : Array Value) (A A' B L : Option Addr) (g : GraphD) (p : Int) (x : EdgeD) (fr to : Int) (fresh : List PieceD) (life : IvlD) (w : World)
  (hE : Blk w e 190 #[.int .i64 g.h, .slice A g.lives.length c, .slice A' g.edges.length c', .int .i64 p, .slice (some ⟨gv, 0, none⟩) n cv])
  (hG : GraphAt w A c A' c' g) (hV : Blk w gv 192 cs) (hf0 : 0 ≤ fr) (hf1 : fr < n) (hcs : cs[fr.toNat * 2 + 1]? = some (.slice B fresh.length d)) (hF : PiecesAt w B d fresh)
  (hX : SlAt RLeg 4 w L x.legs) (hl : x.legs.length ≤ maxLen) (ht0 : 0 ≤ to) (ht1 : to < g.lives.length) (hlf : g.lives[to.toNat]? = some life)
  (hq : ∀ q, q ∈ fresh → 0 ≤ q.v ∧ q.v ≤ 100000) (hm : ∀ l, l ∈ x.legs → 0 ≤ moreL p l ∧ moreL p l ≤ 1000) (hlen : x.legs.length * fresh.length ≤ 100000) :
  Calls Tryz.prog 152 #[.pointer (some ⟨e, 0, none⟩), .agg #[.int .i64 x.a, .int .i64 x.b, .slice L x.legs.length cl], .int .i64 fr, .int .i64 to] w (AlongOut to (alongL p life x.legs fresh) w) := by
 obtain ⟨i0, hi, hz0, hz1, hz2⟩ := info_mail2
 have m1 : g.lives.length ≤ 9223372036854775807 := Nat.le_trans hG.lc hG.cm
 have m2 := hF.len
 unfold maxLen at hl
 have HQ := Lib.hid hq; have HM := Lib.hid hm; have HLN := Lib.hid hlen
 obtain ⟨bl, ol, hLv⟩ := hG.lives
 obtain ⟨rfl, hbl, ⟨v0, v1⟩, _⟩ := hLv _ life hlf
 unfold cellIs at v0 v1
 have HF := Lib.hid hF; have HX := Lib.hid hX; have HE := Lib.hid hE; have HV := Lib.hid hV; have HCS := Lib.hid hcs; have HG := Lib.hid hG
 obtain ⟨e1, e2, e3⟩ := hE.facts
 clear hLv hq hm hlen hF hX hV hcs hlf hG
 go_enter Tryz.func152, Tryz.ntmps152
 go_wp2_with fail
 have hbw : Below w.heap.size w ((w.alloc (Obj.cells #[.int .i64 x.a, .int .i64 x.b, .slice L x.legs.length cl] 97)).alloc (Obj.cells #[.int .i64 life.f, .int .i64 life.t] 94)) := by go_grown
 have BL : Blk ((w.alloc (Obj.cells #[.int .i64 x.a, .int .i64 x.b, .slice L x.legs.length cl] 97)).alloc (Obj.cells #[.int .i64 life.f, .int .i64 life.t] 94)) (w.heap.size + 1) 94 #[.int .i64 life.f, .int .i64 life.t] := Blk.new_ (by simp)
 clear e1 e2 e3 v0 v1
 go_loopw [10, 27] (fun u v wt => ∃ (k : Nat) (o : List MailD), k ≤ x.legs.length ∧ v = .int .i64 k ∧ Own mailC 4 wt w.heap.size 212 u o ∧ Hid (o = (alongK p life x.legs fresh k).map (Prod.mk to) ∧ o.length ≤ k * fresh.length) ∧
  Blk wt (w.heap.size + 1) 94 #[.int .i64 life.f, .int .i64 life.t] ∧ Below w.heap.size w wt) (fun _ v _ => x.legs.length - (intOf v).toNat)
 case atStart => exact ⟨0, [], Nat.zero_le _, rfl, Own.nil, Lib.hid ⟨rfl, by simp⟩, BL, hbw⟩
 case round =>
  clear BL hbw hE
  obtain ⟨k, o, hk, rfl, hO, HO, BL, hb⟩ := hrel
  have hzr := hb.size
  obtain ⟨Ao, co, rfl⟩ := hO.form
  by_cases hlt : k < x.legs.length
  case neg =>
   obtain rfl : k = x.legs.length := by omega
   go_wp2_with fail
   refine bodyPost_ret (v := .slice Ao o.length co) (by simp [results, Tryz.results152]) rfl ?_
   refine ⟨_, rfl, ?_, hb⟩
   have h1 := HO.out.1
   unfold alongK at h1
   rw [List.take_length] at h1
   rw [← h1]
   exact hO
  case pos =>
   obtain ⟨l, hl0⟩ := get_lt hlt
   have HLK := Lib.hid hl0
   obtain ⟨bg, og, hS⟩ := HX.out
   obtain ⟨rfl, hbg, ⟨l0, l1, l2, l3⟩, hl64⟩ := hS k l hl0
   unfold cellIs at l0 l1 l2 l3
   rw [← hb.cell (by exact hbg)] at l0 l1 l2 l3
   obtain ⟨e1, e2, e3⟩ := (HE.out.ext hb).facts
   obtain ⟨y1, y2, y3⟩ := (HV.out.ext hb).facts
   have hcv := (y1 _).trans HCS.out
   have hHL := Lib.hid hl64
   obtain ⟨b1, b2, b3⟩ := BL.facts
   clear hS hl0 y1 hl64
   go_wp2_with fail
   have BG := Blk.new wr 100 #[.int .i64 l.f, .int .i64 l.t, .int .i64 l.time, .int .i64 l.cost]
   have O1 := hO.alloc (Obj.cells #[.int .i64 l.f, .int .i64 l.t, .int .i64 l.time, .int .i64 l.cost] 100)
   have BL1 := BL.alloc (Obj.cells #[.int .i64 l.f, .int .i64 l.t, .int .i64 l.time, .int .i64 l.cost] 100)
   have hb1 := ext_alloc hb (Obj.cells #[.int .i64 l.f, .int .i64 l.t, .int .i64 l.time, .int .i64 l.cost] 100)
   obtain ⟨gl, hgl⟩ : ∃ gl : Nat, wr.heap.size = gl := ⟨_, rfl⟩
   have HRL : Hid (moreL p l = moreL p l) := Lib.hid rfl
   rw [hgl] at BG hzr ⊢
   clear e1 e2 e3 y2 y3 hcv b1 b2 b3 l0 l1 l2 l3 hO BL hb
   go_loopw [10, 40] (fun u v wt => ∃ (j : Nat) (o2 : List MailD), j ≤ fresh.length ∧ v = .int .i64 j ∧ Own mailC 4 wt w.heap.size 212 u o2 ∧ Hid (o2 = o ++ (alongJ p life l fresh j).map (Prod.mk to) ∧ o2.length ≤ k * fresh.length + j) ∧
    Blk wt (w.heap.size + 1) 94 #[.int .i64 life.f, .int .i64 life.t] ∧ Blk wt gl 100 #[.int .i64 l.f, .int .i64 l.t, .int .i64 l.time, .int .i64 l.cost] ∧ Below w.heap.size w wt) (fun _ v _ => fresh.length - (intOf v).toNat)
   case atStart => exact ⟨0, o, Nat.zero_le _, rfl, O1, Lib.hid ⟨by simp [alongJ], by simpa using HO.out.2⟩, BL1, BG, hb1⟩
   case round =>
    clear BG O1 BL1 hb1
    obtain ⟨j, o2, hj, rfl, hO, HO2, BL, BG, hb⟩ := hrel
    have hzr2 := hb.size
    obtain ⟨Ao2, co2, rfl⟩ := hO.form
    by_cases hlt2 : j < fresh.length
    case neg =>
     obtain rfl : j = fresh.length := by omega
     go_wp2_with fail
     go_roundw
     case rel =>
      refine ⟨k + 1, o2, by omega, by go_num, hO, Lib.hid ⟨?_, ?_⟩, BL, hb⟩
      ·rw [HO2.out.1, HO.out.1, alongK_next HLK.out, List.map_append]
      ·rw [Nat.succ_mul]; exact HO2.out.2
     case measure => simp [intOf]; omega
    case pos =>
     obtain ⟨q, hq⟩ := get_lt hlt2
     have HQJ := Lib.hid hq
     obtain ⟨bf, of_, rfl, hbf, q0, q1, q2⟩ := HF.out.get hq
     rw [← hb.cell (by exact hbf)] at q0 q1 q2
     have hqv := HQ.out q (List.mem_of_getElem? hq)
     have hmv := HM.out l (List.mem_of_getElem? HLK.out)
     have HHV := Lib.hid hqv
     clear hq
     go_wp2_with fail
     have hal : Below wr.heap.size wr (wr.alloc (Obj.cells #[.int .i64 q.f, .int .i64 q.t, .int .i64 q.v] 113)) := ext_alloc (Below.refl _ _) _
     have BP := Blk.new wr 113 #[.int .i64 q.f, .int .i64 q.t, .int .i64 q.v]
     have BL1 := BL.ext hal
     have BG1 := BG.ext hal
     have BE1 := HE.out.ext (ext_trans hb hal)
     have O1 := hO.ext hal
     have hb1 := ext_trans hb hal
     obtain ⟨gp, hgp⟩ : ∃ gp : Nat, wr.heap.size = gp := ⟨_, rfl⟩
     obtain ⟨wq, hwq⟩ : ∃ wq : World, wr.alloc (Obj.cells #[.int .i64 q.f, .int .i64 q.t, .int .i64 q.v] 113) = wq := ⟨_, rfl⟩
     rw [hwq] at BP BL1 BG1 BE1 O1 hb1 ⊢
     rw [hgp] at BP ⊢
     have S0 : wq.cell? ⟨gp, 0, none⟩ = some (.int .i64 q.f) ∧ wq.cell? ⟨gp, 1, none⟩ = some (.int .i64 q.t) ∧ wq.cell? ⟨gp, 2, none⟩ = some (.int .i64 q.v) ∧ wq.cell? ⟨gl, 0, none⟩ = some (.int .i64 l.f) ∧ wq.cell? ⟨gl, 1, none⟩ = some (.int .i64 l.t) ∧ wq.cell? ⟨gl, 2, none⟩ = some (.int .i64 l.time) ∧ wq.cell? ⟨gl, 3, none⟩ = some (.int .i64 l.cost) ∧ wq.cell? ⟨w.heap.size + 1, 0, none⟩ = some (.int .i64 life.f) ∧ wq.cell? ⟨w.heap.size + 1, 1, none⟩ = some (.int .i64 life.t) :=
      ⟨by rw [BP.cell]; rfl, by rw [BP.cell]; rfl, by rw [BP.cell]; rfl, by rw [BG1.cell]; rfl, by rw [BG1.cell]; rfl, by rw [BG1.cell]; rfl, by rw [BG1.cell]; rfl, by rw [BL1.cell]; rfl, by rw [BL1.cell]; rfl⟩
     have hsum : IntKind.i64.wrap (q.v + moreL p l) = q.v + moreL p l := IntWalk.i64_in _ (by omega)
     obtain ⟨mf, hmx⟩ : ∃ mf : Int, (if (if q.f < l.f then l.f else q.f) < life.f then life.f else if q.f < l.f then l.f else q.f) = mf := ⟨_, rfl⟩
     obtain ⟨mt, hmn⟩ : ∃ mt : Int, (if life.t < (if l.t < q.t then l.t else q.t) then life.t else if l.t < q.t then l.t else q.t) = mt := ⟨_, rfl⟩
     have HMF : Hid (msgOf p life l q = ⟨mf, mt, q.v + moreL p l⟩) := Lib.hid (by
      have e1 : max (max q.f l.f) life.f = mf := by rw [← hmx]; split <;> split <;> omega
      have e2 : min (min q.t l.t) life.t = mt := by rw [← hmn]; split <;> split <;> omega
      unfold msgOf
      rw [e1, e2])
     have hzq := hb1.size
     have hlp := BP.lt
     have hlg := BG1.lt
     have hll := BL1.lt
     clear q0 q1 q2 hO BL BG hb
     obtain ⟨S1, hSS⟩ : ∃ S1 : World → Prop, Hid (S1 = fun w' => w'.cell? ⟨gp, 0, none⟩ = some (.int .i64 q.f) ∧ w'.cell? ⟨gp, 1, none⟩ = some (.int .i64 q.t) ∧ w'.cell? ⟨gp, 2, none⟩ = some (.int .i64 q.v) ∧ w'.cell? ⟨gl, 0, none⟩ = some (.int .i64 l.f) ∧ w'.cell? ⟨gl, 1, none⟩ = some (.int .i64 l.t) ∧ w'.cell? ⟨gl, 2, none⟩ = some (.int .i64 l.time) ∧ w'.cell? ⟨gl, 3, none⟩ = some (.int .i64 l.cost) ∧ w'.cell? ⟨w.heap.size + 1, 0, none⟩ = some (.int .i64 life.f) ∧ w'.cell? ⟨w.heap.size + 1, 1, none⟩ = some (.int .i64 life.t)) := ⟨_, Lib.hid rfl⟩
     have hS0 : S1 wq.drew := by rw [hSS.out]; exact S0
     have HKS : Hid (∀ w', Below wq.heap.size wq w' → S1 w') := Lib.hid fun w' h => by rw [hSS.out]; exact keep9 h S0
     have HKM : Hid (∀ w', Below wq.heap.size wq w' → Blk w' e 190 #[.int .i64 g.h, .slice (some ⟨bl, ol, none⟩) g.lives.length c, .slice A' g.edges.length c', .int .i64 p, .slice (some ⟨gv, 0, none⟩) n cv]) := Lib.hid fun w' h => BE1.ext h
     clear S0
     refine anyH_begin S1 (by kernel_rfl) ?_
     refine tH 0 ?_ ?_ <| tH 1 ?_ ?_ <| tH 2 ?_ ?_ <| tH 3 ?_ ?_ <| tH 4 ?_ ?_ <| tH 5 ?_ ?_ <| tH 6 ?_ ?_ <| tH 7 ?_ ?_ <| tH 8 ?_ ?_ <| tH 9 ?_ ?_ <| tH 10 ?_ ?_ <| tH 11 ?_ ?_ <| tH 12 ?_ ?_ <| tH 13 ?_ ?_ <| tH 14 ?_ ?_ <| tH 15 ?_ ?_ <| tH 16 ?_ ?_ <| tH 17 ?_ ?_ ?_
     iterate 18
      rotate_left
      ·intro w hSw; rw [hSS.out] at hSw; obtain ⟨sw0, sw1, sw2, sw3, sw4, sw5, sw6, sw7, sw8⟩ := hSw; (try simp only [pS]); go_simp; try with_reducible rfl
     try simp only [pS]
     refine anyH_two (i := 18) (j := 21) rfl rfl (by kernel_rfl) (fun K hK => ?_) (fun K hK => ?_)
     ·go_wp2_with fail
      refine (more_any e _ p l _ (HKM.out _ (below_drew (Below.refl wq.heap.size wq))) rfl).mono ?_
      rintro en w5 ⟨rfl, hb5⟩
      have hb6 : Below wq.heap.size wq w5 := ext_trans (below_drew (Below.refl wq.heap.size wq)) hb5
      have hS5 : S1 w5 := HKS.out _ hb6
      refine hK.out _ _ ⟨hS5, ?_⟩
      clear hK K
      try simp only [pS]
      refine tH 19 ?_ ?_ <| tH 20 ?_ ?_ ?_
      iterate 2
       rotate_left
       ·intro w hSw; rw [hSS.out] at hSw; obtain ⟨sw0, sw1, sw2, sw3, sw4, sw5, sw6, sw7, sw8⟩ := hSw; (try simp only [pS]); go_simp; try with_reducible rfl
      try simp only [pS]
      refine anyH_one (i := 21) rfl (by kernel_rfl) fun K hK => ?_
      go_wp2_with fail
      refine hK.out _ _ ⟨HKS.out _ (ext_alloc hb6 _), ?_⟩
      clear hK K
      try simp only [pS]
      refine anyH_one (i := 22) rfl (by kernel_rfl) fun K hK => ?_
      go_wp2_with fail
      refine hK.out _ _ ⟨HKS.out _ (ext_alloc hb6 _), ?_⟩
      clear hK K
      refine wpAnyH_done (by kernel_rfl) ?_ _
      try simp only [pS]
      have BM := Blk.new w5 210 #[.int .i64 mf, .int .i64 mt, .int .i64 (q.v + moreL p l)]
      have hbW : Below wq.heap.size wq (w5.alloc (Obj.cells #[.int .i64 mf, .int .i64 mt, .int .i64 (q.v + moreL p l)] 210)) := ext_alloc hb6 _
      obtain ⟨gm, hgm⟩ : ∃ gm : Nat, w5.heap.size = gm := ⟨_, rfl⟩
      obtain ⟨W, hW⟩ : ∃ W : World, w5.alloc (Obj.cells #[.int .i64 mf, .int .i64 mt, .int .i64 (q.v + moreL p l)] 210) = W := ⟨_, rfl⟩
      rw [hgm] at BM ⊢
      rw [hW] at BM hbW ⊢
      have hS5 := hS5
      clear hS5 hb6 hb5 HKM HKS hSS
      have BLW := BL1.ext hbW
      have BGW := BG1.ext hbW
      have OW := O1.ext hbW
      have hbw2 := ext_trans hb1 hbW
      have hzW := hbw2.size
      obtain ⟨z0, z1, z2⟩ := BM.facts
      have hlen9 : o2.length + 1 ≤ 1000000 := by
       have h1 := HO2.out.2
       have h2 : (k + 1) * fresh.length ≤ 100000 := Nat.le_trans (Nat.mul_le_mul_right _ (by omega)) HLN.out
       rw [Nat.succ_mul] at h2
       omega
      have hk9 : k * fresh.length + j + 1 ≤ k * fresh.length + (j + 1) := by omega
      by_cases hlt3 : mf < mt
      case neg =>
       have HE2 : Hid (tellOf p life l q = []) := Lib.hid (by unfold tellOf; rw [HMF.out, if_neg hlt3])
       go_wp2_with fail
       go_roundw
       case rel => exact ⟨j + 1, o2, by omega, by go_num, OW, Lib.hid ⟨by rw [HO2.out.1, alongJ_next HQJ.out, HE2.out, List.append_nil], by have := HO2.out.2; omega⟩, BLW, BGW, hbw2⟩
       case measure => simp [intOf]; omega
      case pos =>
       have HE2 : Hid (tellOf p life l q = [⟨mf, mt, q.v + moreL p l⟩]) := Lib.hid (by unfold tellOf; rw [HMF.out, if_pos hlt3])
       go_wp2_with (at_builtin; refine wpList_append_lie (enc := mailC) rfl (.tmp 70) (.tmp 74) 166 rfl w.heap.size 212 i0 _ 4 32 Tryz.underlying166 hi hz0 hz1 hz2 rfl (by decide) _ o2 ((to, ⟨mf, mt, q.v + moreL p l⟩) : MailD) rfl OW #[.int .i64 to, .int .i64 mf, .int .i64 mt, .int .i64 (q.v + moreL p l)] rfl _ rfl rfl rfl mail_four hlen9 (by decide) hzW ?_; intro g7 cap7 w7 hown7 hbb7 hoth7 hlie7; have BL7 := hoth7 _ _ _ BLW (OW.other BLW (by decide)); have BG7 := hoth7 _ _ _ BGW (OW.other BGW (by decide)); have hb7 := hbw2.trans hbb7)
       go_roundw
       case rel =>
        refine ⟨j + 1, o2 ++ [(to, ⟨mf, mt, q.v + moreL p l⟩)], by omega, by go_num, ?_, Lib.hid ⟨by rw [HO2.out.1, alongJ_next HQJ.out, HE2.out]; simp, by have := HO2.out.2; simp; omega⟩, BL7, BG7, hb7⟩
        simpa using hown7
       case measure => simp [intOf]; omega
     ·go_wp2_with fail
      refine hK.out _ _ ⟨HKS.out _ (ext_alloc (below_drew (Below.refl wq.heap.size wq)) (Obj.cells #[.int .i64 0, .int .i64 0, .int .i64 0] 210)), ?_⟩
      have hS4 := HKS.out _ (ext_alloc (below_drew (Below.refl wq.heap.size wq)) (Obj.cells #[.int .i64 0, .int .i64 0, .int .i64 0] 210))
      clear hK K hS0
      try simp only [pS]
      refine anyH_one (i := 18) rfl (by kernel_rfl) fun K hK => ?_
      go_wp2_with fail
      refine (more_any e _ p l _ (HKM.out _ (ext_alloc (below_drew (Below.refl wq.heap.size wq)) (Obj.cells #[.int .i64 0, .int .i64 0, .int .i64 0] 210))) rfl).mono ?_
      rintro en w5 ⟨rfl, hb5⟩
      have hb6 : Below wq.heap.size wq w5 := ext_trans (ext_alloc (below_drew (Below.refl wq.heap.size wq)) (Obj.cells #[.int .i64 0, .int .i64 0, .int .i64 0] 210)) hb5
      have hS5 : S1 w5 := HKS.out _ hb6
      refine hK.out _ _ ⟨hS5, ?_⟩
      clear hK K
      try simp only [pS]
      refine tH 19 ?_ ?_ <| tH 20 ?_ ?_ ?_
      iterate 2
       rotate_left
       ·intro w hSw; rw [hSS.out] at hSw; obtain ⟨sw0, sw1, sw2, sw3, sw4, sw5, sw6, sw7, sw8⟩ := hSw; (try simp only [pS]); go_simp; try with_reducible rfl
      try simp only [pS]
      have BM0 := (Blk.new wq.drew 210 #[.int .i64 0, .int .i64 0, .int .i64 0]).ext hb5
      have y0 : w5.cell? ⟨wq.heap.size, 0, none⟩ = some (.int .i64 0) := BM0.cell 0
      have y1 : w5.cell? ⟨wq.heap.size, 1, none⟩ = some (.int .i64 0) := BM0.cell 1
      have y2 : w5.cell? ⟨wq.heap.size, 2, none⟩ = some (.int .i64 0) := BM0.cell 2
      have f0 : w5.frozen? ⟨wq.heap.size, 0, none⟩ = false := BM0.frozen 0
      have f1 : w5.frozen? ⟨wq.heap.size, 1, none⟩ = false := BM0.frozen 1
      have f2 : w5.frozen? ⟨wq.heap.size, 2, none⟩ = false := BM0.frozen 2
      have y3 := BM0.lt
      refine anyH_one (i := 22) rfl (by kernel_rfl) fun K hK => ?_
      go_wp2_with fail
      obtain ⟨gm, hgm⟩ : ∃ gm : Nat, wq.heap.size = gm := ⟨_, rfl⟩
      have hgm2 : wq.heap.size ≤ gm := by omega
      obtain ⟨W, hW⟩ : ∃ W : World, ((w5.setCell ⟨gm, 0, none⟩ (.int .i64 mf)).setCell ⟨gm, 1, none⟩ (.int .i64 mt)).setCell ⟨gm, 2, none⟩ (.int .i64 (q.v + moreL p l)) = W := ⟨_, rfl⟩
      have BM0 : Blk w5 gm 210 #[.int .i64 0, .int .i64 0, .int .i64 0] := by rw [← hgm]; exact BM0
      have BM : Blk W gm 210 #[.int .i64 mf, .int .i64 mt, .int .i64 (q.v + moreL p l)] := by
       have h9 := ((BM0.set_ 0 (.int .i64 mf)).set_ 1 (.int .i64 mt)).set_ 2 (.int .i64 (q.v + moreL p l))
       rw [hW] at h9
       exact h9
      have hbW : Below wq.heap.size wq W := by rw [← hW]; exact ((hb6.setCell hgm2 _).setCell hgm2 _).setCell hgm2 _
      rw [hgm, hW]
      refine hK.out _ _ ⟨HKS.out _ hbW, ?_⟩
      clear hK K y0 y1 y2 y3 f0 f1 f2 BM0 hS4
      refine wpAnyH_done (by kernel_rfl) ?_ _
      try simp only [pS]
      have hS5 := hS5
      clear hS5 hb6 hb5 HKM HKS hSS
      have BLW := BL1.ext hbW
      have BGW := BG1.ext hbW
      have OW := O1.ext hbW
      have hbw2 := ext_trans hb1 hbW
      have hzW := hbw2.size
      obtain ⟨z0, z1, z2⟩ := BM.facts
      have hlen9 : o2.length + 1 ≤ 1000000 := by
       have h1 := HO2.out.2
       have h2 : (k + 1) * fresh.length ≤ 100000 := Nat.le_trans (Nat.mul_le_mul_right _ (by omega)) HLN.out
       rw [Nat.succ_mul] at h2
       omega
      have hk9 : k * fresh.length + j + 1 ≤ k * fresh.length + (j + 1) := by omega
      by_cases hlt3 : mf < mt
      case neg =>
       have HE2 : Hid (tellOf p life l q = []) := Lib.hid (by unfold tellOf; rw [HMF.out, if_neg hlt3])
       go_wp2_with fail
       go_roundw
       case rel => exact ⟨j + 1, o2, by omega, by go_num, OW, Lib.hid ⟨by rw [HO2.out.1, alongJ_next HQJ.out, HE2.out, List.append_nil], by have := HO2.out.2; omega⟩, BLW, BGW, hbw2⟩
       case measure => simp [intOf]; omega
      case pos =>
       have HE2 : Hid (tellOf p life l q = [⟨mf, mt, q.v + moreL p l⟩]) := Lib.hid (by unfold tellOf; rw [HMF.out, if_pos hlt3])
       go_wp2_with (at_builtin; refine wpList_append_lie (enc := mailC) rfl (.tmp 70) (.tmp 74) 166 rfl w.heap.size 212 i0 _ 4 32 Tryz.underlying166 hi hz0 hz1 hz2 rfl (by decide) _ o2 ((to, ⟨mf, mt, q.v + moreL p l⟩) : MailD) rfl OW #[.int .i64 to, .int .i64 mf, .int .i64 mt, .int .i64 (q.v + moreL p l)] rfl _ rfl rfl rfl mail_four hlen9 (by decide) hzW ?_; intro g7 cap7 w7 hown7 hbb7 hoth7 hlie7; have BL7 := hoth7 _ _ _ BLW (OW.other BLW (by decide)); have BG7 := hoth7 _ _ _ BGW (OW.other BGW (by decide)); have hb7 := hbw2.trans hbb7)
       go_roundw
       case rel =>
        refine ⟨j + 1, o2 ++ [(to, ⟨mf, mt, q.v + moreL p l⟩)], by omega, by go_num, ?_, Lib.hid ⟨by rw [HO2.out.1, alongJ_next HQJ.out, HE2.out]; simp, by have := HO2.out.2; simp; omega⟩, BL7, BG7, hb7⟩
        simpa using hown7
       case measure => simp [intOf]; omega
end Go.Proofs.YtjcimdpldlamfaaGreatDoor
