/- Several texts in one: Less, FillStep, SumSpec, PackSpec, Nums. -/
import Derived.BigQuiet
import Derived.WideKeyEntry
import Derived.Laws.BitsLemmas
import Derived.Laws.BytesArg
import Derived.Test.YtjcimdpldlamfaaGreatDoorBd1aa46607c4
import Derived.Test.YtjcimdpldlamfaaGreatDoorBd2279927ebf
import Derived.Test.YtjcimdpldlamfaaGreatDoorBd96fdae9b88
import Derived.Test.YtjcimdpldlamfaaGreatDoorBd0848e2b72a
import Derived.Test.YtjcimdpldlamfaaGreatDoorBd002cafd2b4
import Derived.Test.YtjcimdpldlamfaaGreatDoorBd2df7774ef4
import Derived.Test.YtjcimdpldlamfaaGreatDoorBd9cdc4f3309
/- The walk of the table's less: a lesser sum is kept, with where it comes from. -/
namespace Go.Proofs.YtjcimdpldlamfaaGreatDoor
open Go.RowKit

def iV2 (n : Int) : Value := .int .i64 n
def origV (o : OrigD) : Value := .agg #[.int .i64 o.v, .int .i64 o.t, .int .i64 o.edge, .int .i64 o.depart, .bool o.hops]
theorem zero_best (w : World) : (zeroValue 3).run Tryz.prog w = .ok (.int .i64 0) w := by kernel_rfl
theorem zero_orig (w : World) : (zeroValue 204).run Tryz.prog w = .ok (.agg #[.int .i64 0, .int .i64 0, .int .i64 0, .int .i64 0, .bool false]) w := by kernel_rfl
set_option maxRecDepth 100000 in
theorem law_st0 : WideMaps.KeyLaw Tryz.prog 200 := deep_law_laid Tryz.laidOut (m := 2) (by omega) row_st keyT_st wide_st
section
variable {α : Type} {enc : α → Value} {w : World} {b n : Nat} {F : Tab α}
theorem TabAt.heap (h : TabAt enc w b n F) {w' : World} (he : w'.heap[b]? = w.heap[b]?) : TabAt enc w' b n F := by
 obtain ⟨D, ⟨es, clock, h1, h2, h3, h4⟩, h5⟩ := h
 exact ⟨D, ⟨es, clock, by rw [he]; exact h1, h2, h3, h4⟩, h5⟩
theorem TabAt.drewN (h : TabAt enc w b n F) (k : Nat) : TabAt enc (w.drewN k) b n F := h
set_option maxRecDepth 100000 in
/-- An entry is fetched, or made; then its element is stored. -/
theorem TabAt.entry (h : TabAt enc w b n F) {t e : TypeId} (ht : Tryz.prog.underlying t = some (.map 200 e)) {z : Value} (hz : ∀ u : World, (zeroValue e).run Tryz.prog u = .ok z u) (hn : n < maxLen) {p : Nat × Nat} (hp : Sml p) :
  ∃ (v0 : Value) (st : Nat) (w1 : World), (Instr.mapEntry t (.map (some b)) (.agg #[.int .i64 (p.1 : Int), .int .i64 (p.2 : Int)])).run Tryz.prog w = .ok (.tuple #[v0, goInt st]) w1 ∧ w.mapTurned w1 b ∧
   ∀ (w2 : World) (y : α), w2.heap[b]? = w1.heap[b]? → ∃ w3, (Instr.entryStore t (.map (some b)) (goInt st) (enc y)).run Tryz.prog w2 = .ok () w3 ∧ TabAt enc w3 b (n + 1) (setF F p y) ∧ w2.mapTurned w3 b := by
 have h' := h
 obtain ⟨D, ⟨es, clock, h1, h2, h3, h4⟩, h5⟩ := h
 obtain ⟨v0, st, es1, c1, k1, _, k2⟩ := WideElems.entry_then_store law_st0 ht hz h1 h2 (key_st hp)
 have hh : (ChangeMaps.setBlock w b (.map es1 c1)).heap[b]? = some (.map es1 c1) := ChangeMaps.heap_setBlock_same h1 _
 refine ⟨v0, st, _, k1, ⟨es, clock, es1, c1, h1, rfl⟩, fun w2 y hw2 => ?_⟩
 rw [hh] at hw2
 obtain ⟨es', c', k3, k4⟩ := k2 w2 (enc y) hw2
 obtain ⟨w', k5, k6, k7⟩ := h'.store ht hn hp y
 have e : w' = ChangeMaps.setBlock w b (.map es' c') := by
  have h8 : (Instr.mapUpdate t (.map (some b)) (stV p) (enc y)).run Tryz.prog w = .ok () w' := k5
  rw [k4] at h8
  injection h8 with _ h9
  exact h9.symm
 refine ⟨_, k3, k6.heap ?_, ⟨es1, c1, es', c', hw2, rfl⟩⟩
 rw [ChangeMaps.heap_setBlock_same hw2, e, ChangeMaps.heap_setBlock_same h1]
end
theorem wp_mapEntry {P : Program} {o : Oper} {a : Act} {K : Act → World → Prop} {Q : Exit → Act → World → Prop} {w w1 : World} {v mv kv : Value} (m x : Operand) (t : TypeId) (ho : o.op = .mapEntry t m x) (hm : a.eval m = mv) (hx : a.eval x = kv)
  (hrun : (Instr.mapEntry t mv kv).run P w = .ok v w1) (h : K (a.put o.dst v) w1) : Oper.wp P o a w K Q := by
 unfold Oper.wp
 simp [execOp, ho, hm, hx, hrun, Result.andThen]
 exact h
theorem wp_entryStore {P : Program} {o : Oper} {a : Act} {K : Act → World → Prop} {Q : Exit → Act → World → Prop} {w w1 : World} {mv sv xv : Value} (m s x : Operand) (t : TypeId) (ho : o.op = .entryStore t m s x) (hm : a.eval m = mv) (hs : a.eval s = sv) (hx : a.eval x = xv)
  (hrun : (Instr.entryStore t mv sv xv).run P w = .ok () w1) (h : K (a.put o.dst undef) w1) : Oper.wp P o a w K Q := by
 unfold Oper.wp
 simp [execOp, ho, hm, hs, hx, hrun, Result.andThen]
 exact h
/-- What less leaves. -/
structure LessOut (tb b1 b2 n : Nat) (B : Tab Int) (O : Tab OrigD) (p : Nat × Nat) (m : Int) (o : OrigD) (w w' : World) : Prop where
 best : TabAt iV2 w' b1 (n + 1) (lessF B B p m m)
 orig : TabAt origV w' b2 (n + 1) (lessF B O p m o)
 blks : ∀ g t cs, Blk w g t cs → Blk w' g t cs
 below : ∀ k (w0 : World), Below k w0 w → k ≤ b1 → k ≤ b2 → k ≤ w.heap.size → Below k w0 w'
/-- The cells that less reads. -/
def SLess (tb b1 b2 gp : Nat) (p : Nat × Nat) (o : OrigD) (w : World) : Prop := w.cell? ⟨tb, 0, none⟩ = some (.map (some b1)) ∧ w.cell? ⟨tb, 1, none⟩ = some (.map (some b2)) ∧ w.cell? ⟨gp, 0, none⟩ = some (.int .i64 (p.1 : Int)) ∧ w.cell? ⟨gp, 1, none⟩ = some (.int .i64 (p.2 : Int)) ∧
 w.cell? ⟨gp + 1, 0, none⟩ = some (.int .i64 o.v) ∧ w.cell? ⟨gp + 1, 1, none⟩ = some (.int .i64 o.t) ∧ w.cell? ⟨gp + 1, 2, none⟩ = some (.int .i64 o.edge) ∧ w.cell? ⟨gp + 1, 3, none⟩ = some (.int .i64 o.depart) ∧ w.cell? ⟨gp + 1, 4, none⟩ = some (.bool o.hops)

set_option maxRecDepth 100000 in
set_option maxHeartbeats 4000000 in
theorem less_any (tb b1 b2 n : Nat) (B : Tab Int) (O : Tab OrigD) (p : Nat × Nat) (m : Int) (o : OrigD) (w : World) (hT : Blk w tb 198 #[.map (some b1), .map (some b2)]) (hB : TabAt iV2 w b1 n B) (hO : TabAt origV w b2 n O) (hne : b1 ≠ b2) (hp : Sml p) (hn : n < 1000000) (hm : m < Never) :
  Calls Tryz.prog 153 #[.pointer (some ⟨tb, 0, none⟩), .agg #[.int .i64 (p.1 : Int), .int .i64 (p.2 : Int)], .int .i64 m, .agg #[.int .i64 o.v, .int .i64 o.t, .int .i64 o.edge, .int .i64 o.depart, .bool o.hops]] w (fun e w' => e = .returned (.tuple #[]) ∧ LessOut tb b1 b2 n B O p m o w w') := by
 have hnm : n < maxLen := by unfold maxLen; omega
 have hT0 := hT
 go_enter Tryz.func153, Tryz.ntmps153
 go_wp2_with fail
 have HT := (hT.alloc (Obj.cells #[.int .i64 (p.1 : Int), .int .i64 (p.2 : Int)] 200)).alloc (Obj.cells #[.int .i64 o.v, .int .i64 o.t, .int .i64 o.edge, .int .i64 o.depart, .bool o.hops] 204)
 have BP := (Blk.new w 200 #[.int .i64 (p.1 : Int), .int .i64 (p.2 : Int)]).alloc (Obj.cells #[.int .i64 o.v, .int .i64 o.t, .int .i64 o.edge, .int .i64 o.depart, .bool o.hops] 204)
 have BO : Blk ((w.alloc (Obj.cells #[.int .i64 (p.1 : Int), .int .i64 (p.2 : Int)] 200)).alloc (Obj.cells #[.int .i64 o.v, .int .i64 o.t, .int .i64 o.edge, .int .i64 o.depart, .bool o.hops] 204)) (w.heap.size + 1) 204 #[.int .i64 o.v, .int .i64 o.t, .int .i64 o.edge, .int .i64 o.depart, .bool o.hops] := Blk.new_ (by simp)
 have HB := (hB.alloc (Obj.cells #[.int .i64 (p.1 : Int), .int .i64 (p.2 : Int)] 200)).alloc (Obj.cells #[.int .i64 o.v, .int .i64 o.t, .int .i64 o.edge, .int .i64 o.depart, .bool o.hops] 204)
 have HO := (hO.alloc (Obj.cells #[.int .i64 (p.1 : Int), .int .i64 (p.2 : Int)] 200)).alloc (Obj.cells #[.int .i64 o.v, .int .i64 o.t, .int .i64 o.edge, .int .i64 o.depart, .bool o.hops] 204)
 have hblk : ∀ g t cs, Blk w g t cs → Blk ((w.alloc (Obj.cells #[.int .i64 (p.1 : Int), .int .i64 (p.2 : Int)] 200)).alloc (Obj.cells #[.int .i64 o.v, .int .i64 o.t, .int .i64 o.edge, .int .i64 o.depart, .bool o.hops] 204)) g t cs := fun g t cs h => (h.alloc _).alloc _
 have hbel : ∀ k (w0 : World), k ≤ w.heap.size → Below k w0 w → Below k w0 ((w.alloc (Obj.cells #[.int .i64 (p.1 : Int), .int .i64 (p.2 : Int)] 200)).alloc (Obj.cells #[.int .i64 o.v, .int .i64 o.t, .int .i64 o.edge, .int .i64 o.depart, .bool o.hops] 204)) := fun k w0 hk h => (h.alloc hk _).alloc (by simp; omega) _
 have hsz : w.heap.size ≤ ((w.alloc (Obj.cells #[.int .i64 (p.1 : Int), .int .i64 (p.2 : Int)] 200)).alloc (Obj.cells #[.int .i64 o.v, .int .i64 o.t, .int .i64 o.edge, .int .i64 o.depart, .bool o.hops] 204)).heap.size := by simp; omega
 obtain ⟨gp, hgp⟩ : ∃ gp, gp = w.heap.size := ⟨_, rfl⟩
 rw [← hgp] at BP BO ⊢
 clear hgp
 obtain ⟨wa, hwa⟩ : ∃ wa : World, wa = (w.alloc (Obj.cells #[.int .i64 (p.1 : Int), .int .i64 (p.2 : Int)] 200)).alloc (Obj.cells #[.int .i64 o.v, .int .i64 o.t, .int .i64 o.edge, .int .i64 o.depart, .bool o.hops] 204) := ⟨_, rfl⟩
 rw [← hwa] at HT BP BO HB HO hblk hbel hsz ⊢
 clear hwa
 have hlook := fun n => (HB.drewN n).look Tryz.underlying195 (zero_best _) hp
 obtain ⟨t1, t2, t3⟩ := HT.facts
 obtain ⟨p1, p2, p3⟩ := BP.facts
 obtain ⟨o1, o2, o3⟩ := BO.facts
 have HSOME : Hid (m < vT B p ↔ (B p = none ∨ ∃ k, B p = some k ∧ m < k)) := Lib.hid (by
  cases hB : B p with
  | none => rw [vT_none hB]; simp [hm]
  | some k => rw [vT_some hB]; simp)
 by_cases hlt : m < vT B p
 case neg =>
  obtain ⟨k, hk, hmk⟩ : ∃ k, B p = some k ∧ ¬ m < k := by
   cases hB : B p with
   | none => rw [vT_none hB] at hlt; omega
   | some k => rw [vT_some hB] at hlt; exact ⟨k, rfl, hlt⟩
  rw [hk] at hlook
  simp only [Option.map_some, Option.getD_some, Option.isSome_some, iV2] at hlook
  have hd : decide (m < k) = false := by simpa using hmk
  have HL1 : Hid (lessF B B p m m = B ∧ lessF B O p m o = O) := Lib.hid ⟨by unfold lessF; rw [if_neg hlt], by unfold lessF; rw [if_neg hlt]⟩
  clear hlt hk hmk HSOME
  go_wp2_with fail
  go_quiet (fail)
  go_wp2_with fail
  refine ⟨rfl, .tuple #[], by simp [results, Tryz.results153], ?_⟩
  exact ⟨rfl, by rw [HL1.out.1]; exact HB.mono (by omega), by rw [HL1.out.2]; exact HO.mono (by omega), fun g t cs h => hblk g t cs h, fun k w0 h1 h2 h3 h4 => below_drewN (hbel k w0 h4 h1) _⟩
 have HL1 : Hid (lessF B B p m m = setF B p m ∧ lessF B O p m o = setF O p o) := Lib.hid ⟨by unfold lessF; rw [if_pos hlt], by unfold lessF; rw [if_pos hlt]⟩
 obtain ⟨uv, ub, hlk, hub⟩ : ∃ (uv : Int) (ub : Bool), ((B p).map iV2).getD (.int .i64 0) = .int .i64 uv ∧ (B p).isSome = ub ∧ (ub = true → decide (m < uv) = true) := by
  rcases HSOME.out.1 hlt with h | ⟨k, h, h2⟩
  ·rw [h]; exact ⟨0, false, rfl, rfl, by simp⟩
  ·rw [h]; exact ⟨k, true, rfl, rfl, fun _ => by simpa using h2⟩
 rw [hlk, hub.1] at hlook
 have hub := hub.2
 clear hlt hlk HSOME
 have hSb : ∀ w', Blk w' tb 198 #[.map (some b1), .map (some b2)] → Blk w' gp 200 #[.int .i64 (p.1 : Int), .int .i64 (p.2 : Int)] → Blk w' (gp + 1) 204 #[.int .i64 o.v, .int .i64 o.t, .int .i64 o.edge, .int .i64 o.depart, .bool o.hops] → SLess tb b1 b2 gp p o w' := fun w' h1 h2 h3 =>
  ⟨by rw [h1.cell]; rfl, by rw [h1.cell]; rfl, by rw [h2.cell]; rfl, by rw [h2.cell]; rfl, by rw [h3.cell]; rfl, by rw [h3.cell]; rfl, by rw [h3.cell]; rfl, by rw [h3.cell]; rfl, by rw [h3.cell]; rfl⟩
 have HSB := Lib.hid hSb
 clear hSb
 obtain ⟨S, hSS⟩ : ∃ S : World → Prop, Hid (S = SLess tb b1 b2 gp p o) := ⟨_, Lib.hid rfl⟩
 rw [← hSS.out] at HSB
 cases ub
 case false =>
  clear hub
  go_wp2_with fail
  go_quiet (fail)
  go_wp2_with fail
  have HTq := HT.drewN nq; have BPq := BP.drewN nq; have BOq := BO.drewN nq; have HBq := HB.drewN nq; have HOq := HO.drewN nq
  have hblkq : ∀ g t cs, Blk w g t cs → Blk (wa.drewN nq).drew g t cs := fun g t cs h => (hblk g t cs h).drewN nq
  have hbelq : ∀ k (w0 : World), k ≤ w.heap.size → Below k w0 w → Below k w0 (wa.drewN nq).drew := fun k w0 hk h => below_drew (below_drewN (hbel k w0 hk h) nq)
  have hszq : w.heap.size ≤ (wa.drewN nq).drew.heap.size := hsz
  obtain ⟨v0, st0, wb, hr0, hT1, hs1⟩ := (TabAt.drew HBq).entry Tryz.underlying195 zero_best hnm hp
  have hS0 := HSB.out _ HTq.drew BPq.drew BOq.drew
  have HTb := HTq.drew.turned hT1 (TabAt.noBlk HBq HTq)
  have BPb := BPq.drew.turned hT1 (TabAt.noBlk HBq BPq)
  have BOb := BOq.drew.turned hT1 (TabAt.noBlk HBq BOq)
  have HOb := (TabAt.drew HOq).grown hT1.grown (by simpa using hne.symm)
  have hS1 := HSB.out _ HTb BPb BOb
  obtain ⟨wc, hr1, hB1, hT2⟩ := hs1 wb m rfl
  have HTc := HTb.turned hT2 (TabAt.noBlk HBq HTq)
  have BPc := BPb.turned hT2 (TabAt.noBlk HBq BPq)
  have BOc := BOb.turned hT2 (TabAt.noBlk HBq BOq)
  have HOc := HOb.grown hT2.grown (by simpa using hne.symm)
  have hS2 := HSB.out _ HTc BPc BOc
  obtain ⟨v1, st1, wd, hr2, hT3, hs3⟩ := HOc.entry Tryz.underlying196 zero_orig hnm hp
  have HTd := HTc.turned hT3 (TabAt.noBlk HOc HTc)
  have BPd := BPc.turned hT3 (TabAt.noBlk HOc BPc)
  have BOd := BOc.turned hT3 (TabAt.noBlk HOc BOc)
  have hB2 := hB1.grown hT3.grown (by simpa using hne)
  have hS3 := HSB.out _ HTd BPd BOd
  obtain ⟨we, hr3, hO1, hT4⟩ := hs3 wd o rfl
  have hB3 := hB2.grown hT4.grown (by simpa using hne)
  have HEND : Hid (LessOut tb b1 b2 n B O p m o w we) := Lib.hid ⟨by rw [HL1.out.1]; exact hB3, by rw [HL1.out.2]; exact hO1,
   fun g t cs h => (((((hblkq g t cs h).turned hT1 (TabAt.noBlk HBq (hblkq g t cs h))).turned hT2 (TabAt.noBlk HBq (hblkq g t cs h))).turned hT3 (TabAt.noBlk HOq (hblkq g t cs h))).turned hT4 (TabAt.noBlk HOq (hblkq g t cs h))),
   fun k w0 h1 h2 h3 h4 => by
    have s0 : k ≤ (wa.drewN nq).drew.heap.size := Nat.le_trans h4 hszq
    have k1 := below_turned (hbelq k w0 h4 h1) hT1 s0 h2
    have s1 : k ≤ wb.heap.size := Nat.le_trans s0 hT1.grown.size
    have k2 := below_turned k1 hT2 s1 h2
    have s2 : k ≤ wc.heap.size := Nat.le_trans s1 hT2.grown.size
    have k3 := below_turned k2 hT3 s2 h3
    exact below_turned k3 hT4 (Nat.le_trans s2 hT3.grown.size) h3⟩
  clear HTq BPq BOq HBq HOq hblkq hbelq hszq HTb BPb BOb HOb HTc BPc BOc HOc HTd BPd BOd hB2 hB3 hO1 hB1 hT1 hT2 hT3 hT4 hs1 hs3 HL1 hlook t1 t2 t3 p1 p2 p3 o1 o2 o3
  refine WpN.begin (S := S) 17 (by kernel_rfl) ?_
  refine WpN.takeD (i := 0) (v := ?_) rfl rfl (by kernel_rfl) (fun _ _ _ h => h) (Or.inl ⟨by rfl, ?_⟩) (by assumption) ?_
  rotate_left
  ·intro w hSw; rw [hSS.out] at hSw; unfold SLess at hSw; obtain ⟨sw0, sw1, sw2, sw3, sw4, sw5, sw6, sw7, sw8⟩ := hSw; go_simp; try with_reducible rfl
  simp only [pS]
  refine WpN.takeD (i := 1) (v := ?_) rfl rfl (by kernel_rfl) (fun _ _ _ h => h) (Or.inl ⟨by rfl, ?_⟩) (by assumption) ?_
  rotate_left
  ·intro w hSw; rw [hSS.out] at hSw; unfold SLess at hSw; obtain ⟨sw0, sw1, sw2, sw3, sw4, sw5, sw6, sw7, sw8⟩ := hSw; go_simp; try with_reducible rfl
  simp only [pS]
  refine WpN.takeD (i := 2) (v := ?_) rfl rfl (by kernel_rfl) (fun _ _ _ h => h) (Or.inl ⟨by rfl, ?_⟩) (by assumption) ?_
  rotate_left
  ·intro w hSw; rw [hSS.out] at hSw; unfold SLess at hSw; obtain ⟨sw0, sw1, sw2, sw3, sw4, sw5, sw6, sw7, sw8⟩ := hSw; go_simp; try with_reducible rfl
  simp only [pS]
  refine WpN.takeD (i := 3) (v := ?_) rfl rfl (by kernel_rfl) (fun _ _ _ h => h) (Or.inl ⟨by rfl, ?_⟩) (by assumption) ?_
  rotate_left
  ·intro w hSw; rw [hSS.out] at hSw; unfold SLess at hSw; obtain ⟨sw0, sw1, sw2, sw3, sw4, sw5, sw6, sw7, sw8⟩ := hSw; go_simp; try with_reducible rfl
  simp only [pS]
  refine WpN.takeD (i := 4) (v := ?_) rfl rfl (by kernel_rfl) (fun _ _ _ h => h) (Or.inl ⟨by rfl, ?_⟩) (by assumption) ?_
  rotate_left
  ·intro w hSw; rw [hSS.out] at hSw; unfold SLess at hSw; obtain ⟨sw0, sw1, sw2, sw3, sw4, sw5, sw6, sw7, sw8⟩ := hSw; go_simp; try with_reducible rfl
  simp only [pS]
  refine WpN.takeD (i := 5) (v := ?_) rfl rfl (by kernel_rfl) (fun _ _ _ h => h) (Or.inl ⟨by rfl, ?_⟩) (by assumption) ?_
  rotate_left
  ·intro w hSw; rw [hSS.out] at hSw; unfold SLess at hSw; obtain ⟨sw0, sw1, sw2, sw3, sw4, sw5, sw6, sw7, sw8⟩ := hSw; go_simp; try with_reducible rfl
  simp only [pS]
  refine WpN.takeD (i := 6) (v := ?_) rfl rfl (by kernel_rfl) (fun _ _ _ h => h) (Or.inl ⟨by rfl, ?_⟩) (by assumption) ?_
  rotate_left
  ·intro w hSw; rw [hSS.out] at hSw; unfold SLess at hSw; obtain ⟨sw0, sw1, sw2, sw3, sw4, sw5, sw6, sw7, sw8⟩ := hSw; go_simp; try with_reducible rfl
  simp only [pS]
  refine WpN.takeD (i := 7) (v := ?_) rfl rfl (by kernel_rfl) (fun _ _ _ h => h) (Or.inl ⟨by rfl, ?_⟩) (by assumption) ?_
  rotate_left
  ·intro w hSw; rw [hSS.out] at hSw; unfold SLess at hSw; obtain ⟨sw0, sw1, sw2, sw3, sw4, sw5, sw6, sw7, sw8⟩ := hSw; go_simp; try with_reducible rfl
  simp only [pS]
  refine WpN.takeD (i := 8) (v := ?_) rfl rfl (by kernel_rfl) (fun _ _ _ h => h) (Or.inl ⟨by rfl, ?_⟩) (by assumption) ?_
  rotate_left
  ·intro w hSw; rw [hSS.out] at hSw; unfold SLess at hSw; obtain ⟨sw0, sw1, sw2, sw3, sw4, sw5, sw6, sw7, sw8⟩ := hSw; go_simp; try with_reducible rfl
  simp only [pS]
  refine WpN.takeD (i := 9) (v := ?_) rfl rfl (by kernel_rfl) (fun _ _ _ h => h) (Or.inl ⟨by rfl, ?_⟩) (by assumption) ?_
  rotate_left
  ·intro w hSw; rw [hSS.out] at hSw; unfold SLess at hSw; obtain ⟨sw0, sw1, sw2, sw3, sw4, sw5, sw6, sw7, sw8⟩ := hSw; go_simp; try with_reducible rfl
  simp only [pS]
  refine WpN.takeD (i := 10) (v := ?_) rfl rfl (by kernel_rfl) (fun _ _ _ h => h) (Or.inl ⟨by rfl, ?_⟩) (by assumption) ?_
  rotate_left
  ·intro w hSw; rw [hSS.out] at hSw; unfold SLess at hSw; obtain ⟨sw0, sw1, sw2, sw3, sw4, sw5, sw6, sw7, sw8⟩ := hSw; go_simp; try with_reducible rfl
  simp only [pS]
  refine WpN.takeD (i := 11) (v := ?_) rfl rfl (by kernel_rfl) (fun _ _ _ h => h) (Or.inl ⟨by rfl, ?_⟩) (by assumption) ?_
  rotate_left
  ·intro w hSw; rw [hSS.out] at hSw; unfold SLess at hSw; obtain ⟨sw0, sw1, sw2, sw3, sw4, sw5, sw6, sw7, sw8⟩ := hSw; go_simp; try with_reducible rfl
  simp only [pS]
  refine WpN.one (i := 12) rfl (by kernel_rfl) fun K hK => ?_
  refine wp_mapEntry (.tmp 29) (.tmp 30) 195 rfl rfl rfl hr0 ?_
  refine hK.out _ _ ⟨fun _ => hS1, ?_⟩
  clear hK K
  try simp only [Act.put, List.setIfInBounds_toArray]
  refine WpN.takeD (i := 13) (v := ?_) rfl rfl (by kernel_rfl) (fun _ _ _ h => h) (Or.inl ⟨by rfl, ?_⟩) (by assumption) ?_
  rotate_left
  ·intro w hSw; rw [hSS.out] at hSw; unfold SLess at hSw; obtain ⟨sw0, sw1, sw2, sw3, sw4, sw5, sw6, sw7, sw8⟩ := hSw; go_simp; try with_reducible rfl
  simp only [Act.put]
  refine WpN.one (i := 14) rfl (by kernel_rfl) fun K hK => ?_
  refine wp_entryStore (.tmp 29) (.tmp 39) (.tmp 36) 195 rfl rfl rfl rfl hr1 ?_
  refine hK.out _ _ ⟨fun _ => hS2, ?_⟩
  clear hK K
  try simp only [Act.put]
  refine WpN.one (i := 15) rfl (by kernel_rfl) fun K hK => ?_
  refine wp_mapEntry (.tmp 34) (.tmp 35) 196 rfl rfl rfl hr2 ?_
  refine hK.out _ _ ⟨fun _ => hS3, ?_⟩
  clear hK K
  try simp only [Act.put]
  refine WpN.takeD (i := 16) (v := ?_) rfl rfl (by kernel_rfl) (fun _ _ _ h => h) (Or.inl ⟨by rfl, ?_⟩) (by assumption) ?_
  rotate_left
  ·intro w hSw; rw [hSS.out] at hSw; unfold SLess at hSw; obtain ⟨sw0, sw1, sw2, sw3, sw4, sw5, sw6, sw7, sw8⟩ := hSw; go_simp; try with_reducible rfl
  simp only [Act.put]
  refine WpN.one (i := 17) rfl (by kernel_rfl) fun K hK => ?_
  refine wp_entryStore (.tmp 34) (.tmp 41) (.tmp 37) 196 rfl rfl rfl rfl hr3 ?_
  refine hK.out _ _ ⟨fun h => by omega, ?_⟩
  clear hK K
  refine WpN.done (by kernel_rfl) ?_ _
  go_wp2_with fail
  refine ⟨rfl, .tuple #[], by simp [results, Tryz.results153], ?_⟩
  exact ⟨rfl, HEND.out⟩
 case true =>
  have hd := hub rfl
  clear hub
  go_wp2_with fail
  go_quiet (fail)
  go_wp2_with fail
  have HTq := HT.drewN nq; have BPq := BP.drewN nq; have BOq := BO.drewN nq; have HBq := HB.drewN nq; have HOq := HO.drewN nq
  have hblkq : ∀ g t cs, Blk w g t cs → Blk (wa.drewN nq).drew g t cs := fun g t cs h => (hblk g t cs h).drewN nq
  have hbelq : ∀ k (w0 : World), k ≤ w.heap.size → Below k w0 w → Below k w0 (wa.drewN nq).drew := fun k w0 hk h => below_drew (below_drewN (hbel k w0 hk h) nq)
  have hszq : w.heap.size ≤ (wa.drewN nq).drew.heap.size := hsz
  obtain ⟨v0, st0, wb, hr0, hT1, hs1⟩ := (TabAt.drew HBq).entry Tryz.underlying195 zero_best hnm hp
  have hS0 := HSB.out _ HTq.drew BPq.drew BOq.drew
  have HTb := HTq.drew.turned hT1 (TabAt.noBlk HBq HTq)
  have BPb := BPq.drew.turned hT1 (TabAt.noBlk HBq BPq)
  have BOb := BOq.drew.turned hT1 (TabAt.noBlk HBq BOq)
  have HOb := (TabAt.drew HOq).grown hT1.grown (by simpa using hne.symm)
  have hS1 := HSB.out _ HTb BPb BOb
  obtain ⟨wc, hr1, hB1, hT2⟩ := hs1 wb m rfl
  have HTc := HTb.turned hT2 (TabAt.noBlk HBq HTq)
  have BPc := BPb.turned hT2 (TabAt.noBlk HBq BPq)
  have BOc := BOb.turned hT2 (TabAt.noBlk HBq BOq)
  have HOc := HOb.grown hT2.grown (by simpa using hne.symm)
  have hS2 := HSB.out _ HTc BPc BOc
  obtain ⟨v1, st1, wd, hr2, hT3, hs3⟩ := HOc.entry Tryz.underlying196 zero_orig hnm hp
  have HTd := HTc.turned hT3 (TabAt.noBlk HOc HTc)
  have BPd := BPc.turned hT3 (TabAt.noBlk HOc BPc)
  have BOd := BOc.turned hT3 (TabAt.noBlk HOc BOc)
  have hB2 := hB1.grown hT3.grown (by simpa using hne)
  have hS3 := HSB.out _ HTd BPd BOd
  obtain ⟨we, hr3, hO1, hT4⟩ := hs3 wd o rfl
  have hB3 := hB2.grown hT4.grown (by simpa using hne)
  have HEND : Hid (LessOut tb b1 b2 n B O p m o w we) := Lib.hid ⟨by rw [HL1.out.1]; exact hB3, by rw [HL1.out.2]; exact hO1,
   fun g t cs h => (((((hblkq g t cs h).turned hT1 (TabAt.noBlk HBq (hblkq g t cs h))).turned hT2 (TabAt.noBlk HBq (hblkq g t cs h))).turned hT3 (TabAt.noBlk HOq (hblkq g t cs h))).turned hT4 (TabAt.noBlk HOq (hblkq g t cs h))),
   fun k w0 h1 h2 h3 h4 => by
    have s0 : k ≤ (wa.drewN nq).drew.heap.size := Nat.le_trans h4 hszq
    have k1 := below_turned (hbelq k w0 h4 h1) hT1 s0 h2
    have s1 : k ≤ wb.heap.size := Nat.le_trans s0 hT1.grown.size
    have k2 := below_turned k1 hT2 s1 h2
    have s2 : k ≤ wc.heap.size := Nat.le_trans s1 hT2.grown.size
    have k3 := below_turned k2 hT3 s2 h3
    exact below_turned k3 hT4 (Nat.le_trans s2 hT3.grown.size) h3⟩
  clear HTq BPq BOq HBq HOq hblkq hbelq hszq HTb BPb BOb HOb HTc BPc BOc HOc HTd BPd BOd hB2 hB3 hO1 hB1 hT1 hT2 hT3 hT4 hs1 hs3 HL1 hlook t1 t2 t3 p1 p2 p3 o1 o2 o3
  refine WpN.begin (S := S) 17 (by kernel_rfl) ?_
  refine WpN.takeD (i := 0) (v := ?_) rfl rfl (by kernel_rfl) (fun _ _ _ h => h) (Or.inl ⟨by rfl, ?_⟩) (by assumption) ?_
  rotate_left
  ·intro w hSw; rw [hSS.out] at hSw; unfold SLess at hSw; obtain ⟨sw0, sw1, sw2, sw3, sw4, sw5, sw6, sw7, sw8⟩ := hSw; go_simp; try with_reducible rfl
  simp only [pS]
  refine WpN.takeD (i := 1) (v := ?_) rfl rfl (by kernel_rfl) (fun _ _ _ h => h) (Or.inl ⟨by rfl, ?_⟩) (by assumption) ?_
  rotate_left
  ·intro w hSw; rw [hSS.out] at hSw; unfold SLess at hSw; obtain ⟨sw0, sw1, sw2, sw3, sw4, sw5, sw6, sw7, sw8⟩ := hSw; go_simp; try with_reducible rfl
  simp only [pS]
  refine WpN.takeD (i := 2) (v := ?_) rfl rfl (by kernel_rfl) (fun _ _ _ h => h) (Or.inl ⟨by rfl, ?_⟩) (by assumption) ?_
  rotate_left
  ·intro w hSw; rw [hSS.out] at hSw; unfold SLess at hSw; obtain ⟨sw0, sw1, sw2, sw3, sw4, sw5, sw6, sw7, sw8⟩ := hSw; go_simp; try with_reducible rfl
  simp only [pS]
  refine WpN.takeD (i := 3) (v := ?_) rfl rfl (by kernel_rfl) (fun _ _ _ h => h) (Or.inl ⟨by rfl, ?_⟩) (by assumption) ?_
  rotate_left
  ·intro w hSw; rw [hSS.out] at hSw; unfold SLess at hSw; obtain ⟨sw0, sw1, sw2, sw3, sw4, sw5, sw6, sw7, sw8⟩ := hSw; go_simp; try with_reducible rfl
  simp only [pS]
  refine WpN.takeD (i := 4) (v := ?_) rfl rfl (by kernel_rfl) (fun _ _ _ h => h) (Or.inl ⟨by rfl, ?_⟩) (by assumption) ?_
  rotate_left
  ·intro w hSw; rw [hSS.out] at hSw; unfold SLess at hSw; obtain ⟨sw0, sw1, sw2, sw3, sw4, sw5, sw6, sw7, sw8⟩ := hSw; go_simp; try with_reducible rfl
  simp only [pS]
  refine WpN.takeD (i := 5) (v := ?_) rfl rfl (by kernel_rfl) (fun _ _ _ h => h) (Or.inl ⟨by rfl, ?_⟩) (by assumption) ?_
  rotate_left
  ·intro w hSw; rw [hSS.out] at hSw; unfold SLess at hSw; obtain ⟨sw0, sw1, sw2, sw3, sw4, sw5, sw6, sw7, sw8⟩ := hSw; go_simp; try with_reducible rfl
  simp only [pS]
  refine WpN.takeD (i := 6) (v := ?_) rfl rfl (by kernel_rfl) (fun _ _ _ h => h) (Or.inl ⟨by rfl, ?_⟩) (by assumption) ?_
  rotate_left
  ·intro w hSw; rw [hSS.out] at hSw; unfold SLess at hSw; obtain ⟨sw0, sw1, sw2, sw3, sw4, sw5, sw6, sw7, sw8⟩ := hSw; go_simp; try with_reducible rfl
  simp only [pS]
  refine WpN.takeD (i := 7) (v := ?_) rfl rfl (by kernel_rfl) (fun _ _ _ h => h) (Or.inl ⟨by rfl, ?_⟩) (by assumption) ?_
  rotate_left
  ·intro w hSw; rw [hSS.out] at hSw; unfold SLess at hSw; obtain ⟨sw0, sw1, sw2, sw3, sw4, sw5, sw6, sw7, sw8⟩ := hSw; go_simp; try with_reducible rfl
  simp only [pS]
  refine WpN.takeD (i := 8) (v := ?_) rfl rfl (by kernel_rfl) (fun _ _ _ h => h) (Or.inl ⟨by rfl, ?_⟩) (by assumption) ?_
  rotate_left
  ·intro w hSw; rw [hSS.out] at hSw; unfold SLess at hSw; obtain ⟨sw0, sw1, sw2, sw3, sw4, sw5, sw6, sw7, sw8⟩ := hSw; go_simp; try with_reducible rfl
  simp only [pS]
  refine WpN.takeD (i := 9) (v := ?_) rfl rfl (by kernel_rfl) (fun _ _ _ h => h) (Or.inl ⟨by rfl, ?_⟩) (by assumption) ?_
  rotate_left
  ·intro w hSw; rw [hSS.out] at hSw; unfold SLess at hSw; obtain ⟨sw0, sw1, sw2, sw3, sw4, sw5, sw6, sw7, sw8⟩ := hSw; go_simp; try with_reducible rfl
  simp only [pS]
  refine WpN.takeD (i := 10) (v := ?_) rfl rfl (by kernel_rfl) (fun _ _ _ h => h) (Or.inl ⟨by rfl, ?_⟩) (by assumption) ?_
  rotate_left
  ·intro w hSw; rw [hSS.out] at hSw; unfold SLess at hSw; obtain ⟨sw0, sw1, sw2, sw3, sw4, sw5, sw6, sw7, sw8⟩ := hSw; go_simp; try with_reducible rfl
  simp only [pS]
  refine WpN.takeD (i := 11) (v := ?_) rfl rfl (by kernel_rfl) (fun _ _ _ h => h) (Or.inl ⟨by rfl, ?_⟩) (by assumption) ?_
  rotate_left
  ·intro w hSw; rw [hSS.out] at hSw; unfold SLess at hSw; obtain ⟨sw0, sw1, sw2, sw3, sw4, sw5, sw6, sw7, sw8⟩ := hSw; go_simp; try with_reducible rfl
  simp only [pS]
  refine WpN.one (i := 12) rfl (by kernel_rfl) fun K hK => ?_
  refine wp_mapEntry (.tmp 29) (.tmp 30) 195 rfl rfl rfl hr0 ?_
  refine hK.out _ _ ⟨fun _ => hS1, ?_⟩
  clear hK K
  try simp only [Act.put, List.setIfInBounds_toArray]
  refine WpN.takeD (i := 13) (v := ?_) rfl rfl (by kernel_rfl) (fun _ _ _ h => h) (Or.inl ⟨by rfl, ?_⟩) (by assumption) ?_
  rotate_left
  ·intro w hSw; rw [hSS.out] at hSw; unfold SLess at hSw; obtain ⟨sw0, sw1, sw2, sw3, sw4, sw5, sw6, sw7, sw8⟩ := hSw; go_simp; try with_reducible rfl
  simp only [Act.put]
  refine WpN.one (i := 14) rfl (by kernel_rfl) fun K hK => ?_
  refine wp_entryStore (.tmp 29) (.tmp 39) (.tmp 36) 195 rfl rfl rfl rfl hr1 ?_
  refine hK.out _ _ ⟨fun _ => hS2, ?_⟩
  clear hK K
  try simp only [Act.put]
  refine WpN.one (i := 15) rfl (by kernel_rfl) fun K hK => ?_
  refine wp_mapEntry (.tmp 34) (.tmp 35) 196 rfl rfl rfl hr2 ?_
  refine hK.out _ _ ⟨fun _ => hS3, ?_⟩
  clear hK K
  try simp only [Act.put]
  refine WpN.takeD (i := 16) (v := ?_) rfl rfl (by kernel_rfl) (fun _ _ _ h => h) (Or.inl ⟨by rfl, ?_⟩) (by assumption) ?_
  rotate_left
  ·intro w hSw; rw [hSS.out] at hSw; unfold SLess at hSw; obtain ⟨sw0, sw1, sw2, sw3, sw4, sw5, sw6, sw7, sw8⟩ := hSw; go_simp; try with_reducible rfl
  simp only [Act.put]
  refine WpN.one (i := 17) rfl (by kernel_rfl) fun K hK => ?_
  refine wp_entryStore (.tmp 34) (.tmp 41) (.tmp 37) 196 rfl rfl rfl rfl hr3 ?_
  refine hK.out _ _ ⟨fun h => by omega, ?_⟩
  clear hK K
  refine WpN.done (by kernel_rfl) ?_ _
  go_wp2_with fail
  refine ⟨rfl, .tuple #[], by simp [results, Tryz.results153], ?_⟩
  exact ⟨rfl, HEND.out⟩
end Go.Proofs.YtjcimdpldlamfaaGreatDoor
/- The steps of the filling in, as the program takes them; what lies in memory meanwhile. -/
namespace Go.Proofs.YtjcimdpldlamfaaGreatDoor
open Go.RowKit

section
variable {g : GraphD} {wt : LegD → Int} {v s : Int} {t u i : Nat} {B : Tab Int} {O : Tab OrigD}
theorem FillInv.putWait (h : FillInv g wt v s t u false 0 B O) {m : Int} (hm : B (u, t) = some m) (hu : u < g.lives.length) (h1 : (t : Int) + 1 < g.h) (ha : aliveB g u ((t : Int) + 1) = true) :
  FillInv g wt v s t u true 0 (lessF B B (u, t + 1) m m) (lessF B O (u, t + 1) m ⟨u, t, 0, 0, false⟩) ∧ lessF B B (u, t + 1) m m (u, t) = some m := by
 obtain ⟨_, _, _, _, k1, k2⟩ := h.told _ _ hm
 obtain ⟨a1, a2, a3⟩ := h.put hm (p := (u, t + 1)) (n := m) (f := fun n => n) (.inl ⟨u, t, rfl, hu, h1, ha⟩) rfl hu (by simp only; omega) (by simp only; omega) (by simpa using ha) k1 (by simp only at k2 ⊢; omega) (o := ⟨u, t, 0, 0, false⟩)
  (.inl ⟨rfl, rfl, by simp, by simp, rfl, rfl, by simpa using hm⟩) (by simp)
 have a4 := a3 (u, t) (Nat.le_refl _)
 refine ⟨a1.wait fun _ _ => ?_, by rw [a4]; exact hm⟩
 rw [vT_some (show lessF B B (u, t + 1) m m (u, t) = some m by rw [a4]; exact hm)]
 exact a2
theorem FillInv.putEdge (hV : Valid g) (hw : Light g wt) (h : FillInv g wt v s t u true i B O) {m : Int} (hm : B (u, t) = some m) {x : EdgeD} (hx : g.edges[i]? = some x) (hxa : x.a = u) {l : LegD} {to : Int} (harr : arrive g x t = some (l, to)) :
  FillInv g wt v s t u true (i + 1) (lessF B B (x.b.toNat, to.toNat) (m + wt l) (m + wt l)) (lessF B O (x.b.toNat, to.toNat) (m + wt l) ⟨u, t, i, t, true⟩) ∧ lessF B B (x.b.toNat, to.toNat) (m + wt l) (m + wt l) (u, t) = some m := by
 obtain ⟨_, _, _, _, k1, k2⟩ := h.told _ _ hm
 have hmem := List.mem_of_getElem? hx
 have ho := hV.edges x hmem
 have b0 := ho.b0; have b1 := ho.b1
 have hl := arrive_late hV ho harr
 have hs := arrive_some harr
 have hwl := hw x hmem l hs.1
 have hu : u = x.a.toNat := by omega
 have e1 : ((x.b.toNat : Nat) : Int) = x.b := by omega
 have e2 : ((to.toNat : Nat) : Int) = to := by omega
 obtain ⟨a1, a2, a3⟩ := h.put hm (p := (x.b.toNat, to.toNat)) (n := m + wt l) (f := fun n => n + wt l) (.inr ⟨x, l, to, t, hmem, harr, by rw [← hu]⟩) rfl (by simp only; omega) (by simp only; omega) (by simp only; omega) (by simp only [e1, e2]; exact hs.2.2.2.2.2.2) (by omega) (by simp only at k2 ⊢; omega) (o := ⟨u, t, i, t, true⟩)
  (.inr ⟨rfl, i, x, l, m, rfl, hx, hxa.symm, e1.symm, rfl, by simp, by simp only [e2]; exact harr, by rw [← hu]; simpa using hm, rfl⟩) (by simp)
 have a4 := a3 (u, t) (Nat.le_refl _)
 refine ⟨a1.edge hx fun _ l' to' h' => ?_, by rw [a4]; exact hm⟩
 rw [harr] at h'
 simp only [Option.some.injEq, Prod.mk.injEq] at h'
 obtain ⟨rfl, rfl⟩ := h'
 rw [vT_some (show lessF B B (x.b.toNat, to.toNat) (m + wt l) (m + wt l) (u, t) = some m by rw [a4]; exact hm)]
 exact a2
theorem FillInv.small {ww : Bool} (hV : Valid g) (h : FillInv g wt v s t u ww i B O) {p : Nat × Nat} {m : Int} (hm : B p = some m) : 0 ≤ m ∧ m ≤ 100000 := by
 obtain ⟨_, _, k, _, k1, k2⟩ := h.told _ _ hm
 have := hV.h1
 omega
end
/-- What lies in memory while a table is filled in. -/
structure FMem (g0 tb b1 b2 n : Nat) (gc : Array Value) (w0 : World) (B : Tab Int) (O : Tab OrigD) (w : World) : Prop where
 tab : Blk w tb 198 #[.map (some b1), .map (some b2)]
 best : TabAt iV2 w b1 n B
 orig : TabAt origV w b2 n O
 gr : Blk w g0 68 gc
 bel : Below w0.heap.size w0 w
section
variable {g0 tb b1 b2 n : Nat} {gc : Array Value} {w0 w w' : World} {B : Tab Int} {O : Tab OrigD}
theorem FMem.alloc (h : FMem g0 tb b1 b2 n gc w0 B O w) (o : Obj) : FMem g0 tb b1 b2 n gc w0 B O (w.alloc o) := ⟨h.tab.alloc o, h.best.alloc o, h.orig.alloc o, h.gr.alloc o, ext_alloc h.bel o⟩
theorem TabAt.ext {α : Type} {enc : α → Value} {b : Nat} {F : Tab α} (h : TabAt enc w b n F) (hb : Below w.heap.size w w') : TabAt enc w' b n F := h.heap (hb.block b h.lt)
theorem FMem.ext (h : FMem g0 tb b1 b2 n gc w0 B O w) (hb : Below w.heap.size w w') : FMem g0 tb b1 b2 n gc w0 B O w' := ⟨h.tab.ext hb, h.best.ext hb, h.orig.ext hb, h.gr.ext hb, ext_trans h.bel hb⟩
theorem FMem.turned (h : FMem g0 tb b1 b2 n gc w0 B O w) (hT : w.mapTurned w' b1) {m : Nat} {B' : Tab Int} (hB : TabAt iV2 w' b1 m B') (hn : n ≤ m) (hne : b1 ≠ b2) (h1 : w0.heap.size ≤ b1) : FMem g0 tb b1 b2 m gc w0 B' O w' :=
 ⟨h.tab.turned hT (TabAt.noBlk h.best h.tab), hB, (h.orig.mono hn).grown hT.grown (by simpa using hne.symm), h.gr.turned hT (TabAt.noBlk h.best h.gr), below_turned h.bel hT h.bel.size h1⟩
theorem FMem.made {gc : Array Value} (w : World) : FMem w.heap.size (w.heap.size + 1 + 1 + 1) (w.heap.size + 1) (w.heap.size + 1 + 1) 0 gc w (fun _ => none) (fun _ => none)
  ((((w.alloc (Obj.cells gc 68)).alloc (Obj.map #[] 0)).alloc (Obj.map #[] 0)).alloc (Obj.cells #[.map (some (w.heap.size + 1)), .map (some (w.heap.size + 1 + 1))] 198)) := by
 refine ⟨Blk.new_ (by simp), ?_, ?_, (((Blk.new w 68 gc).alloc _).alloc _).alloc _, by go_grown⟩
 ·have := TabAt.made iV2 (w.alloc (Obj.cells gc 68))
  rw [show (w.alloc (Obj.cells gc 68)).heap.size = w.heap.size + 1 by simp] at this
  exact (this.alloc _).alloc _
 ·have := TabAt.made origV ((w.alloc (Obj.cells gc 68)).alloc (Obj.map #[] 0))
  rw [show ((w.alloc (Obj.cells gc 68)).alloc (Obj.map #[] 0)).heap.size = w.heap.size + 1 + 1 by simp] at this
  exact this.alloc _
theorem FMem.less (h : FMem g0 tb b1 b2 n gc w0 B O w) (h1 : w0.heap.size ≤ b1) (h2 : w0.heap.size ≤ b2) {p : Nat × Nat} {m : Int} {o : OrigD} (hL : LessOut tb b1 b2 n B O p m o w w') : FMem g0 tb b1 b2 (n + 1) gc w0 (lessF B B p m m) (lessF B O p m o) w' :=
 ⟨hL.blks _ _ _ h.tab, hL.best, hL.orig, hL.blks _ _ _ h.gr, hL.below _ _ h.bel h1 h2 h.bel.size⟩
theorem FMem.less_any (h : FMem g0 tb b1 b2 n gc w0 B O w) (h1 : w0.heap.size ≤ b1) (h2 : w0.heap.size ≤ b2) (hne : b1 ≠ b2) (hn : n < 1000000) {p : Nat × Nat} {m : Int} {o : OrigD} (hp : Sml p) (hm : m < Never) {kx kt : Int} (hx : kx = (p.1 : Int)) (ht : kt = (p.2 : Int)) :
  Calls Tryz.prog 153 #[.pointer (some ⟨tb, 0, none⟩), .agg #[.int .i64 kx, .int .i64 kt], .int .i64 m, .agg #[.int .i64 o.v, .int .i64 o.t, .int .i64 o.edge, .int .i64 o.depart, .bool o.hops]] w
   (fun e w' => e = .returned (.tuple #[]) ∧ FMem g0 tb b1 b2 (n + 1) gc w0 (lessF B B p m m) (lessF B O p m o) w' ∧ ∀ g t cs, Blk w g t cs → Blk w' g t cs) := by
 subst hx ht
 exact (YtjcimdpldlamfaaGreatDoor.less_any tb b1 b2 n B O p m o w h.tab h.best h.orig hne hp hn hm).mono fun e w' ⟨he, hL⟩ => ⟨he, h.less h1 h2 hL, hL.blks⟩
theorem FMem.look (h : FMem g0 tb b1 b2 n gc w0 B O w) {p : Nat × Nat} (hp : Sml p) {kx kt : Int} (hx : kx = (p.1 : Int)) (ht : kt = (p.2 : Int)) :
  (Instr.lookup 195 (.map (some b1)) (.agg #[.int .i64 kx, .int .i64 kt]) true).run Tryz.prog w = .ok (.tuple #[((B p).map iV2).getD (.int .i64 0), .bool (B p).isSome]) w := by
 subst hx ht
 exact h.best.look Tryz.underlying195 (zero_best w) hp
end
end Go.Proofs.YtjcimdpldlamfaaGreatDoor
/- The sum of bytes, as a plain Lean function; the laws of bits that its walks need. No program in sight. -/
namespace Go.Proofs.YtjcimdpldlamfaaGreatDoor
open Go.RowKit

def byteAt (s : ByteArray) (k : Nat) : Nat := if h : k < s.size then s[k].toNat else 0
theorem byteAt_of {s : ByteArray} {k : Nat} (h : k < s.size) : byteAt s k = s[k].toNat := by simp [byteAt, h]
theorem byteAt_lt (s : ByteArray) (k : Nat) : byteAt s k < 256 := by
 unfold byteAt
 split
 ·exact UInt8.toNat_lt _
 ·omega
end Go.Proofs.YtjcimdpldlamfaaGreatDoor
/- A graph's numbers and bytes, as plain Lean functions; no program in sight. -/
namespace Go.Proofs.YtjcimdpldlamfaaGreatDoor
open Go.RowKit

def lifeNums (l : IvlD) : List Int := [l.f, l.t]
def legNums (l : LegD) : List Int := [l.f, l.t, l.time, l.cost]
def edgeNums (x : EdgeD) : List Int := [x.a, x.b, (x.legs.length : Int)] ++ x.legs.flatMap legNums
/-- P23: the numbers of a graph. -/
def numsL (g : GraphD) : List Int := [g.h, (g.lives.length : Int), (g.edges.length : Int)] ++ (g.lives.flatMap lifeNums ++ g.edges.flatMap edgeNums)
end Go.Proofs.YtjcimdpldlamfaaGreatDoor
/- The walk of the document's numbers: it tells numsL. -/
namespace Go.Proofs.YtjcimdpldlamfaaGreatDoor
open Go.RowKit

theorem info_parts' {i : Option TypeInfo} {v : Value} {a b : Nat} (h : i.map (fun i => (i.zero, i.size, i.bytes)) = some (some v, a, b)) : ∃ i0, i = some i0 ∧ i0.zero = some v ∧ i0.size = a ∧ i0.bytes = b := by
 cases i with
 | none => simp at h
 | some i0 => simp at h; exact ⟨i0, rfl, h⟩
def intEncN (n : Int) : List Value := [.int .i64 n]
theorem int_one1N {a : Int} : ∀ u ∈ (#[.int .i64 a] : Array Value).toList, u.oneCell' = true := by simp [Value.oneCell']
theorem own_intsN {w : World} {base : Nat} {v : Value} {l : List Int} (h : Own intEncN 1 w base 3 v l) (hi : ∀ x, x ∈ l → I64 x) : ∃ A c, v = .slice A l.length c ∧ SlAt RInt 1 w A l :=
 h.slAt (fun _ => rfl) fun x hx b o hc => ⟨by simpa using hc 0 _ rfl, hi x hx⟩
end Go.Proofs.YtjcimdpldlamfaaGreatDoor
