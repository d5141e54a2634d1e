/- One text: Less. -/
import Derived.BigQuiet
import Derived.WideKeyEntry
import Derived.Test.YtdpibehpmghghaaGreatBd5b8e7f3b89
import Derived.Test.YtdpibehpmghghaaGreatBd8dbe371942
import Derived.Test.YtdpibehpmghghaaGreatBdcc6882d3e7
/- The walk of the table's less: a lesser sum is kept, with where it comes from. -/
namespace Go.Proofs.YtdpibehpmghghaaGreat
open Go.RowKit

def iV2 (n : Int) : Value := .int .i64 n
def origV (o : OrigD) : Value := .agg #[.int .i64 o.v, .int .i64 o.t, .int .i64 o.edge, .int .i64 o.depart, .bool o.hops]
theorem zero_best (w : World) : (zeroValue 3).run Tryz.prog w = .ok (.int .i64 0) w := by kernel_rfl
theorem zero_orig (w : World) : (zeroValue 177).run Tryz.prog w = .ok (.agg #[.int .i64 0, .int .i64 0, .int .i64 0, .int .i64 0, .bool false]) w := by kernel_rfl
set_option maxRecDepth 100000 in
theorem law_st0 : WideMaps.KeyLaw Tryz.prog 174 := deep_law_laid Tryz.laidOut (m := 2) (by omega) row_st keyT_st wide_st
section
variable {α : Type} {enc : α → Value} {w : World} {b n : Nat} {F : Tab α}
theorem TabAt.heap (h : TabAt enc w b n F) {w' : World} (he : w'.heap[b]? = w.heap[b]?) : TabAt enc w' b n F := by
  obtain ⟨D, ⟨es, clock, h1, h2, h3, h4⟩, h5⟩ := h
  exact ⟨D, ⟨es, clock, by rw [he]; exact h1, h2, h3, h4⟩, h5⟩
theorem TabAt.drewN (h : TabAt enc w b n F) (k : Nat) : TabAt enc (w.drewN k) b n F := h
set_option maxRecDepth 100000 in
/-- An entry is fetched, or made; then its element is stored. -/
theorem TabAt.entry (h : TabAt enc w b n F) {t e : TypeId} (ht : Tryz.prog.underlying t = some (.map 174 e)) {z : Value} (hz : ∀ u : World, (zeroValue e).run Tryz.prog u = .ok z u) (hn : n < maxLen) {p : Nat × Nat} (hp : Sml p) :
    ∃ (v0 : Value) (st : Nat) (w1 : World), (Instr.mapEntry t (.map (some b)) (.agg #[.int .i64 (p.1 : Int), .int .i64 (p.2 : Int)])).run Tryz.prog w = .ok (.tuple #[v0, goInt st]) w1 ∧ w.mapTurned w1 b ∧
      ∀ (w2 : World) (y : α), w2.heap[b]? = w1.heap[b]? → ∃ w3, (Instr.entryStore t (.map (some b)) (goInt st) (enc y)).run Tryz.prog w2 = .ok () w3 ∧ TabAt enc w3 b (n + 1) (setF F p y) ∧ w2.mapTurned w3 b := by
  have h' := h
  obtain ⟨D, ⟨es, clock, h1, h2, h3, h4⟩, h5⟩ := h
  obtain ⟨v0, st, es1, c1, k1, _, k2⟩ := WideElems.entry_then_store law_st0 ht hz h1 h2 (key_st hp)
  have hh : (ChangeMaps.setBlock w b (.map es1 c1)).heap[b]? = some (.map es1 c1) := ChangeMaps.heap_setBlock_same h1 _
  refine ⟨v0, st, _, k1, ⟨es, clock, es1, c1, h1, rfl⟩, fun w2 y hw2 => ?_⟩
  rw [hh] at hw2
  obtain ⟨es', c', k3, k4⟩ := k2 w2 (enc y) hw2
  obtain ⟨w', k5, k6, k7⟩ := h'.store ht hn hp y
  have e : w' = ChangeMaps.setBlock w b (.map es' c') := by
    have h8 : (Instr.mapUpdate t (.map (some b)) (stV p) (enc y)).run Tryz.prog w = .ok () w' := k5
    rw [k4] at h8
    injection h8 with _ h9
    exact h9.symm
  refine ⟨_, k3, k6.heap ?_, ⟨es1, c1, es', c', hw2, rfl⟩⟩
  rw [ChangeMaps.heap_setBlock_same hw2, e, ChangeMaps.heap_setBlock_same h1]
end
theorem wp_mapEntry {P : Program} {o : Oper} {a : Act} {K : Act → World → Prop} {Q : Exit → Act → World → Prop} {w w1 : World} {v mv kv : Value} (m x : Operand) (t : TypeId) (ho : o.op = .mapEntry t m x) (hm : a.eval m = mv) (hx : a.eval x = kv)
    (hrun : (Instr.mapEntry t mv kv).run P w = .ok v w1) (h : K (a.put o.dst v) w1) : Oper.wp P o a w K Q := by
  unfold Oper.wp
  simp [execOp, ho, hm, hx, hrun, Result.andThen]
  exact h
theorem wp_entryStore {P : Program} {o : Oper} {a : Act} {K : Act → World → Prop} {Q : Exit → Act → World → Prop} {w w1 : World} {mv sv xv : Value} (m s x : Operand) (t : TypeId) (ho : o.op = .entryStore t m s x) (hm : a.eval m = mv) (hs : a.eval s = sv) (hx : a.eval x = xv)
    (hrun : (Instr.entryStore t mv sv xv).run P w = .ok () w1) (h : K (a.put o.dst undef) w1) : Oper.wp P o a w K Q := by
  unfold Oper.wp
  simp [execOp, ho, hm, hs, hx, hrun, Result.andThen]
  exact h
/-- What less leaves. -/
structure LessOut (tb b1 b2 n : Nat) (B : Tab Int) (O : Tab OrigD) (p : Nat × Nat) (m : Int) (o : OrigD) (w w' : World) : Prop where
  best : TabAt iV2 w' b1 (n + 1) (lessF B B p m m)
  orig : TabAt origV w' b2 (n + 1) (lessF B O p m o)
  blks : ∀ g t cs, Blk w g t cs → Blk w' g t cs
  below : ∀ k (w0 : World), Below k w0 w → k ≤ b1 → k ≤ b2 → k ≤ w.heap.size → Below k w0 w'
theorem orig_one {o : OrigD} : ∀ u ∈ (#[.int .i64 o.v, .int .i64 o.t, .int .i64 o.edge, .int .i64 o.depart, .bool o.hops] : Array Value).toList, u.oneCell' = true := by simp [Value.oneCell']

/-- The cells that less reads. -/
def SLess (tb b1 b2 gp : Nat) (p : Nat × Nat) (o : OrigD) (w : World) : Prop := w.cell? ⟨tb, 0, none⟩ = some (.map (some b1)) ∧ w.cell? ⟨tb, 1, none⟩ = some (.map (some b2)) ∧ w.cell? ⟨gp, 0, none⟩ = some (.int .i64 (p.1 : Int)) ∧ w.cell? ⟨gp, 1, none⟩ = some (.int .i64 (p.2 : Int)) ∧
  w.cell? ⟨gp + 1, 0, none⟩ = some (.int .i64 o.v) ∧ w.cell? ⟨gp + 1, 1, none⟩ = some (.int .i64 o.t) ∧ w.cell? ⟨gp + 1, 2, none⟩ = some (.int .i64 o.edge) ∧ w.cell? ⟨gp + 1, 3, none⟩ = some (.int .i64 o.depart) ∧ w.cell? ⟨gp + 1, 4, none⟩ = some (.bool o.hops)

set_option maxRecDepth 100000 in
set_option maxHeartbeats 4000000 in
theorem less_any (tb b1 b2 n : Nat) (B : Tab Int) (O : Tab OrigD) (p : Nat × Nat) (m : Int) (o : OrigD) (w : World) (hT : Blk w tb 172 #[.map (some b1), .map (some b2)]) (hB : TabAt iV2 w b1 n B) (hO : TabAt origV w b2 n O) (hne : b1 ≠ b2) (hp : Sml p) (hn : n < 1000000) (hm : m < Never) :
    Calls Tryz.prog 109 #[.pointer (some ⟨tb, 0, none⟩), .agg #[.int .i64 (p.1 : Int), .int .i64 (p.2 : Int)], .int .i64 m, .agg #[.int .i64 o.v, .int .i64 o.t, .int .i64 o.edge, .int .i64 o.depart, .bool o.hops]] w (fun e w' => e = .returned (.tuple #[]) ∧ LessOut tb b1 b2 n B O p m o w w') := by
  have hnm : n < maxLen := by unfold maxLen; omega
  have hT0 := hT
  go_enter Tryz.func109, Tryz.ntmps109
  go_wp2_with fail
  have HT := (hT.alloc (Obj.cells #[.int .i64 (p.1 : Int), .int .i64 (p.2 : Int)] 174)).alloc (Obj.cells #[.int .i64 o.v, .int .i64 o.t, .int .i64 o.edge, .int .i64 o.depart, .bool o.hops] 177)
  have BP := (Blk.new w 174 #[.int .i64 (p.1 : Int), .int .i64 (p.2 : Int)]).alloc (Obj.cells #[.int .i64 o.v, .int .i64 o.t, .int .i64 o.edge, .int .i64 o.depart, .bool o.hops] 177)
  have BO : Blk ((w.alloc (Obj.cells #[.int .i64 (p.1 : Int), .int .i64 (p.2 : Int)] 174)).alloc (Obj.cells #[.int .i64 o.v, .int .i64 o.t, .int .i64 o.edge, .int .i64 o.depart, .bool o.hops] 177)) (w.heap.size + 1) 177 #[.int .i64 o.v, .int .i64 o.t, .int .i64 o.edge, .int .i64 o.depart, .bool o.hops] := Blk.new_ (by simp)
  have HB := (hB.alloc (Obj.cells #[.int .i64 (p.1 : Int), .int .i64 (p.2 : Int)] 174)).alloc (Obj.cells #[.int .i64 o.v, .int .i64 o.t, .int .i64 o.edge, .int .i64 o.depart, .bool o.hops] 177)
  have HO := (hO.alloc (Obj.cells #[.int .i64 (p.1 : Int), .int .i64 (p.2 : Int)] 174)).alloc (Obj.cells #[.int .i64 o.v, .int .i64 o.t, .int .i64 o.edge, .int .i64 o.depart, .bool o.hops] 177)
  have hblk : ∀ g t cs, Blk w g t cs → Blk ((w.alloc (Obj.cells #[.int .i64 (p.1 : Int), .int .i64 (p.2 : Int)] 174)).alloc (Obj.cells #[.int .i64 o.v, .int .i64 o.t, .int .i64 o.edge, .int .i64 o.depart, .bool o.hops] 177)) g t cs := fun g t cs h => (h.alloc _).alloc _
  have hbel : ∀ k (w0 : World), k ≤ w.heap.size → Below k w0 w → Below k w0 ((w.alloc (Obj.cells #[.int .i64 (p.1 : Int), .int .i64 (p.2 : Int)] 174)).alloc (Obj.cells #[.int .i64 o.v, .int .i64 o.t, .int .i64 o.edge, .int .i64 o.depart, .bool o.hops] 177)) := fun k w0 hk h => (h.alloc hk _).alloc (by simp; omega) _
  have hsz : w.heap.size ≤ ((w.alloc (Obj.cells #[.int .i64 (p.1 : Int), .int .i64 (p.2 : Int)] 174)).alloc (Obj.cells #[.int .i64 o.v, .int .i64 o.t, .int .i64 o.edge, .int .i64 o.depart, .bool o.hops] 177)).heap.size := by simp; omega
  obtain ⟨gp, hgp⟩ : ∃ gp, gp = w.heap.size := ⟨_, rfl⟩
  rw [← hgp] at BP BO ⊢
  clear hgp
  obtain ⟨wa, hwa⟩ : ∃ wa : World, wa = (w.alloc (Obj.cells #[.int .i64 (p.1 : Int), .int .i64 (p.2 : Int)] 174)).alloc (Obj.cells #[.int .i64 o.v, .int .i64 o.t, .int .i64 o.edge, .int .i64 o.depart, .bool o.hops] 177) := ⟨_, rfl⟩
  rw [← hwa] at HT BP BO HB HO hblk hbel hsz ⊢
  clear hwa
  have hlook := fun n => (HB.drewN n).look Tryz.underlying169 (zero_best _) hp
  obtain ⟨t1, t2, t3⟩ := HT.facts
  obtain ⟨p1, p2, p3⟩ := BP.facts
  obtain ⟨o1, o2, o3⟩ := BO.facts
  have HSOME : Hid (m < vT B p ↔ (B p = none ∨ ∃ k, B p = some k ∧ m < k)) := Lib.hid (by
    cases hB : B p with
    | none => rw [vT_none hB]; simp [hm]
    | some k => rw [vT_some hB]; simp)
  by_cases hlt : m < vT B p
  case neg =>
    obtain ⟨k, hk, hmk⟩ : ∃ k, B p = some k ∧ ¬ m < k := by
      cases hB : B p with
      | none => rw [vT_none hB] at hlt; omega
      | some k => rw [vT_some hB] at hlt; exact ⟨k, rfl, hlt⟩
    rw [hk] at hlook
    simp only [Option.map_some, Option.getD_some, Option.isSome_some, iV2] at hlook
    have hd : decide (m < k) = false := by simpa using hmk
    have HL1 : Hid (lessF B B p m m = B ∧ lessF B O p m o = O) := Lib.hid ⟨by unfold lessF; rw [if_neg hlt], by unfold lessF; rw [if_neg hlt]⟩
    clear hlt hk hmk HSOME
    go_wp2_with fail
    go_quiet (fail)
    go_wp2_with fail
    refine ⟨rfl, .tuple #[], by simp [results, Tryz.results109], ?_⟩
    exact ⟨rfl, by rw [HL1.out.1]; exact HB.mono (by omega), by rw [HL1.out.2]; exact HO.mono (by omega), fun g t cs h => hblk g t cs h, fun k w0 h1 h2 h3 h4 => below_drewN (hbel k w0 h4 h1) _⟩
  have HL1 : Hid (lessF B B p m m = setF B p m ∧ lessF B O p m o = setF O p o) := Lib.hid ⟨by unfold lessF; rw [if_pos hlt], by unfold lessF; rw [if_pos hlt]⟩
  obtain ⟨uv, ub, hlk, hub⟩ : ∃ (uv : Int) (ub : Bool), ((B p).map iV2).getD (.int .i64 0) = .int .i64 uv ∧ (B p).isSome = ub ∧ (ub = true → decide (m < uv) = true) := by
    rcases HSOME.out.1 hlt with h | ⟨k, h, h2⟩
    · rw [h]; exact ⟨0, false, rfl, rfl, by simp⟩
    · rw [h]; exact ⟨k, true, rfl, rfl, fun _ => by simpa using h2⟩
  rw [hlk, hub.1] at hlook
  have hub := hub.2
  clear hlt hlk HSOME
  have hSb : ∀ w', Blk w' tb 172 #[.map (some b1), .map (some b2)] → Blk w' gp 174 #[.int .i64 (p.1 : Int), .int .i64 (p.2 : Int)] → Blk w' (gp + 1) 177 #[.int .i64 o.v, .int .i64 o.t, .int .i64 o.edge, .int .i64 o.depart, .bool o.hops] → SLess tb b1 b2 gp p o w' := fun w' h1 h2 h3 =>
    ⟨by rw [h1.cell]; rfl, by rw [h1.cell]; rfl, by rw [h2.cell]; rfl, by rw [h2.cell]; rfl, by rw [h3.cell]; rfl, by rw [h3.cell]; rfl, by rw [h3.cell]; rfl, by rw [h3.cell]; rfl, by rw [h3.cell]; rfl⟩
  have HSB := Lib.hid hSb
  clear hSb
  obtain ⟨S, hSS⟩ : ∃ S : World → Prop, Hid (S = SLess tb b1 b2 gp p o) := ⟨_, Lib.hid rfl⟩
  rw [← hSS.out] at HSB
  cases ub
  case false =>
    clear hub
    go_wp2_with fail
    go_quiet (fail)
    go_wp2_with fail
    have HTq := HT.drewN nq; have BPq := BP.drewN nq; have BOq := BO.drewN nq; have HBq := HB.drewN nq; have HOq := HO.drewN nq
    have hblkq : ∀ g t cs, Blk w g t cs → Blk (wa.drewN nq).drew g t cs := fun g t cs h => (hblk g t cs h).drewN nq
    have hbelq : ∀ k (w0 : World), k ≤ w.heap.size → Below k w0 w → Below k w0 (wa.drewN nq).drew := fun k w0 hk h => below_drew (below_drewN (hbel k w0 hk h) nq)
    have hszq : w.heap.size ≤ (wa.drewN nq).drew.heap.size := hsz
    obtain ⟨v0, st0, wb, hr0, hT1, hs1⟩ := (TabAt.drew HBq).entry Tryz.underlying169 zero_best hnm hp
    have hS0 := HSB.out _ HTq.drew BPq.drew BOq.drew
    have HTb := HTq.drew.turned hT1 (TabAt.noBlk HBq HTq)
    have BPb := BPq.drew.turned hT1 (TabAt.noBlk HBq BPq)
    have BOb := BOq.drew.turned hT1 (TabAt.noBlk HBq BOq)
    have HOb := (TabAt.drew HOq).grown hT1.grown (by simpa using hne.symm)
    have hS1 := HSB.out _ HTb BPb BOb
    obtain ⟨wc, hr1, hB1, hT2⟩ := hs1 wb m rfl
    have HTc := HTb.turned hT2 (TabAt.noBlk HBq HTq)
    have BPc := BPb.turned hT2 (TabAt.noBlk HBq BPq)
    have BOc := BOb.turned hT2 (TabAt.noBlk HBq BOq)
    have HOc := HOb.grown hT2.grown (by simpa using hne.symm)
    have hS2 := HSB.out _ HTc BPc BOc
    obtain ⟨v1, st1, wd, hr2, hT3, hs3⟩ := HOc.entry Tryz.underlying170 zero_orig hnm hp
    have HTd := HTc.turned hT3 (TabAt.noBlk HOc HTc)
    have BPd := BPc.turned hT3 (TabAt.noBlk HOc BPc)
    have BOd := BOc.turned hT3 (TabAt.noBlk HOc BOc)
    have hB2 := hB1.grown hT3.grown (by simpa using hne)
    have hS3 := HSB.out _ HTd BPd BOd
    obtain ⟨we, hr3, hO1, hT4⟩ := hs3 wd o rfl
    have hB3 := hB2.grown hT4.grown (by simpa using hne)
    have HEND : Hid (LessOut tb b1 b2 n B O p m o w we) := Lib.hid ⟨by rw [HL1.out.1]; exact hB3, by rw [HL1.out.2]; exact hO1,
      fun g t cs h => (((((hblkq g t cs h).turned hT1 (TabAt.noBlk HBq (hblkq g t cs h))).turned hT2 (TabAt.noBlk HBq (hblkq g t cs h))).turned hT3 (TabAt.noBlk HOq (hblkq g t cs h))).turned hT4 (TabAt.noBlk HOq (hblkq g t cs h))),
      fun k w0 h1 h2 h3 h4 => by
        have s0 : k ≤ (wa.drewN nq).drew.heap.size := Nat.le_trans h4 hszq
        have k1 := below_turned (hbelq k w0 h4 h1) hT1 s0 h2
        have s1 : k ≤ wb.heap.size := Nat.le_trans s0 hT1.grown.size
        have k2 := below_turned k1 hT2 s1 h2
        have s2 : k ≤ wc.heap.size := Nat.le_trans s1 hT2.grown.size
        have k3 := below_turned k2 hT3 s2 h3
        exact below_turned k3 hT4 (Nat.le_trans s2 hT3.grown.size) h3⟩
    clear HTq BPq BOq HBq HOq hblkq hbelq hszq HTb BPb BOb HOb HTc BPc BOc HOc HTd BPd BOd hB2 hB3 hO1 hB1 hT1 hT2 hT3 hT4 hs1 hs3 HL1 hlook t1 t2 t3 p1 p2 p3 o1 o2 o3
    refine WpN.begin (S := S) 17 (by kernel_rfl) ?_
    refine WpN.takeD (i := 0) (v := ?_) rfl rfl (by kernel_rfl) (fun _ _ _ h => h) (Or.inl ⟨by rfl, ?_⟩) (by assumption) ?_
    rotate_left
    · intro w hSw; rw [hSS.out] at hSw; unfold SLess at hSw; obtain ⟨sw0, sw1, sw2, sw3, sw4, sw5, sw6, sw7, sw8⟩ := hSw; go_simp; try with_reducible rfl
    simp only [Act.put, List.setIfInBounds_toArray, List.set_cons_zero, List.set_cons_succ]
    refine WpN.takeD (i := 1) (v := ?_) rfl rfl (by kernel_rfl) (fun _ _ _ h => h) (Or.inl ⟨by rfl, ?_⟩) (by assumption) ?_
    rotate_left
    · intro w hSw; rw [hSS.out] at hSw; unfold SLess at hSw; obtain ⟨sw0, sw1, sw2, sw3, sw4, sw5, sw6, sw7, sw8⟩ := hSw; go_simp; try with_reducible rfl
    simp only [Act.put, List.setIfInBounds_toArray, List.set_cons_zero, List.set_cons_succ]
    refine WpN.takeD (i := 2) (v := ?_) rfl rfl (by kernel_rfl) (fun _ _ _ h => h) (Or.inl ⟨by rfl, ?_⟩) (by assumption) ?_
    rotate_left
    · intro w hSw; rw [hSS.out] at hSw; unfold SLess at hSw; obtain ⟨sw0, sw1, sw2, sw3, sw4, sw5, sw6, sw7, sw8⟩ := hSw; go_simp; try with_reducible rfl
    simp only [Act.put, List.setIfInBounds_toArray, List.set_cons_zero, List.set_cons_succ]
    refine WpN.takeD (i := 3) (v := ?_) rfl rfl (by kernel_rfl) (fun _ _ _ h => h) (Or.inl ⟨by rfl, ?_⟩) (by assumption) ?_
    rotate_left
    · intro w hSw; rw [hSS.out] at hSw; unfold SLess at hSw; obtain ⟨sw0, sw1, sw2, sw3, sw4, sw5, sw6, sw7, sw8⟩ := hSw; go_simp; try with_reducible rfl
    simp only [Act.put, List.setIfInBounds_toArray, List.set_cons_zero, List.set_cons_succ]
    refine WpN.takeD (i := 4) (v := ?_) rfl rfl (by kernel_rfl) (fun _ _ _ h => h) (Or.inl ⟨by rfl, ?_⟩) (by assumption) ?_
    rotate_left
    · intro w hSw; rw [hSS.out] at hSw; unfold SLess at hSw; obtain ⟨sw0, sw1, sw2, sw3, sw4, sw5, sw6, sw7, sw8⟩ := hSw; go_simp; try with_reducible rfl
    simp only [Act.put, List.setIfInBounds_toArray, List.set_cons_zero, List.set_cons_succ]
    refine WpN.takeD (i := 5) (v := ?_) rfl rfl (by kernel_rfl) (fun _ _ _ h => h) (Or.inl ⟨by rfl, ?_⟩) (by assumption) ?_
    rotate_left
    · intro w hSw; rw [hSS.out] at hSw; unfold SLess at hSw; obtain ⟨sw0, sw1, sw2, sw3, sw4, sw5, sw6, sw7, sw8⟩ := hSw; go_simp; try with_reducible rfl
    simp only [Act.put, List.setIfInBounds_toArray, List.set_cons_zero, List.set_cons_succ]
    refine WpN.takeD (i := 6) (v := ?_) rfl rfl (by kernel_rfl) (fun _ _ _ h => h) (Or.inl ⟨by rfl, ?_⟩) (by assumption) ?_
    rotate_left
    · intro w hSw; rw [hSS.out] at hSw; unfold SLess at hSw; obtain ⟨sw0, sw1, sw2, sw3, sw4, sw5, sw6, sw7, sw8⟩ := hSw; go_simp; try with_reducible rfl
    simp only [Act.put, List.setIfInBounds_toArray, List.set_cons_zero, List.set_cons_succ]
    refine WpN.takeD (i := 7) (v := ?_) rfl rfl (by kernel_rfl) (fun _ _ _ h => h) (Or.inl ⟨by rfl, ?_⟩) (by assumption) ?_
    rotate_left
    · intro w hSw; rw [hSS.out] at hSw; unfold SLess at hSw; obtain ⟨sw0, sw1, sw2, sw3, sw4, sw5, sw6, sw7, sw8⟩ := hSw; go_simp; try with_reducible rfl
    simp only [Act.put, List.setIfInBounds_toArray, List.set_cons_zero, List.set_cons_succ]
    refine WpN.takeD (i := 8) (v := ?_) rfl rfl (by kernel_rfl) (fun _ _ _ h => h) (Or.inl ⟨by rfl, ?_⟩) (by assumption) ?_
    rotate_left
    · intro w hSw; rw [hSS.out] at hSw; unfold SLess at hSw; obtain ⟨sw0, sw1, sw2, sw3, sw4, sw5, sw6, sw7, sw8⟩ := hSw; go_simp; try with_reducible rfl
    simp only [Act.put, List.setIfInBounds_toArray, List.set_cons_zero, List.set_cons_succ]
    refine WpN.takeD (i := 9) (v := ?_) rfl rfl (by kernel_rfl) (fun _ _ _ h => h) (Or.inl ⟨by rfl, ?_⟩) (by assumption) ?_
    rotate_left
    · intro w hSw; rw [hSS.out] at hSw; unfold SLess at hSw; obtain ⟨sw0, sw1, sw2, sw3, sw4, sw5, sw6, sw7, sw8⟩ := hSw; go_simp; try with_reducible rfl
    simp only [Act.put, List.setIfInBounds_toArray, List.set_cons_zero, List.set_cons_succ]
    refine WpN.takeD (i := 10) (v := ?_) rfl rfl (by kernel_rfl) (fun _ _ _ h => h) (Or.inl ⟨by rfl, ?_⟩) (by assumption) ?_
    rotate_left
    · intro w hSw; rw [hSS.out] at hSw; unfold SLess at hSw; obtain ⟨sw0, sw1, sw2, sw3, sw4, sw5, sw6, sw7, sw8⟩ := hSw; go_simp; try with_reducible rfl
    simp only [Act.put, List.setIfInBounds_toArray, List.set_cons_zero, List.set_cons_succ]
    refine WpN.takeD (i := 11) (v := ?_) rfl rfl (by kernel_rfl) (fun _ _ _ h => h) (Or.inl ⟨by rfl, ?_⟩) (by assumption) ?_
    rotate_left
    · intro w hSw; rw [hSS.out] at hSw; unfold SLess at hSw; obtain ⟨sw0, sw1, sw2, sw3, sw4, sw5, sw6, sw7, sw8⟩ := hSw; go_simp; try with_reducible rfl
    simp only [Act.put, List.setIfInBounds_toArray, List.set_cons_zero, List.set_cons_succ]
    refine WpN.one (i := 12) rfl (by kernel_rfl) fun K hK => ?_
    refine wp_mapEntry (.tmp 29) (.tmp 30) 169 rfl rfl rfl hr0 ?_
    refine hK.out _ _ ⟨fun _ => hS1, ?_⟩
    clear hK K
    try simp only [Act.put, List.setIfInBounds_toArray]
    refine WpN.takeD (i := 13) (v := ?_) rfl rfl (by kernel_rfl) (fun _ _ _ h => h) (Or.inl ⟨by rfl, ?_⟩) (by assumption) ?_
    rotate_left
    · intro w hSw; rw [hSS.out] at hSw; unfold SLess at hSw; obtain ⟨sw0, sw1, sw2, sw3, sw4, sw5, sw6, sw7, sw8⟩ := hSw; go_simp; try with_reducible rfl
    simp only [Act.put]
    refine WpN.one (i := 14) rfl (by kernel_rfl) fun K hK => ?_
    refine wp_entryStore (.tmp 29) (.tmp 39) (.tmp 36) 169 rfl rfl rfl rfl hr1 ?_
    refine hK.out _ _ ⟨fun _ => hS2, ?_⟩
    clear hK K
    try simp only [Act.put]
    refine WpN.one (i := 15) rfl (by kernel_rfl) fun K hK => ?_
    refine wp_mapEntry (.tmp 34) (.tmp 35) 170 rfl rfl rfl hr2 ?_
    refine hK.out _ _ ⟨fun _ => hS3, ?_⟩
    clear hK K
    try simp only [Act.put]
    refine WpN.takeD (i := 16) (v := ?_) rfl rfl (by kernel_rfl) (fun _ _ _ h => h) (Or.inl ⟨by rfl, ?_⟩) (by assumption) ?_
    rotate_left
    · intro w hSw; rw [hSS.out] at hSw; unfold SLess at hSw; obtain ⟨sw0, sw1, sw2, sw3, sw4, sw5, sw6, sw7, sw8⟩ := hSw; go_simp; try with_reducible rfl
    simp only [Act.put]
    refine WpN.one (i := 17) rfl (by kernel_rfl) fun K hK => ?_
    refine wp_entryStore (.tmp 34) (.tmp 41) (.tmp 37) 170 rfl rfl rfl rfl hr3 ?_
    refine hK.out _ _ ⟨fun h => by omega, ?_⟩
    clear hK K
    refine WpN.done (by kernel_rfl) ?_ _
    go_wp2_with fail
    refine ⟨rfl, .tuple #[], by simp [results, Tryz.results109], ?_⟩
    exact ⟨rfl, HEND.out⟩
  case true =>
    have hd := hub rfl
    clear hub
    go_wp2_with fail
    go_quiet (fail)
    go_wp2_with fail
    have HTq := HT.drewN nq; have BPq := BP.drewN nq; have BOq := BO.drewN nq; have HBq := HB.drewN nq; have HOq := HO.drewN nq
    have hblkq : ∀ g t cs, Blk w g t cs → Blk (wa.drewN nq).drew g t cs := fun g t cs h => (hblk g t cs h).drewN nq
    have hbelq : ∀ k (w0 : World), k ≤ w.heap.size → Below k w0 w → Below k w0 (wa.drewN nq).drew := fun k w0 hk h => below_drew (below_drewN (hbel k w0 hk h) nq)
    have hszq : w.heap.size ≤ (wa.drewN nq).drew.heap.size := hsz
    obtain ⟨v0, st0, wb, hr0, hT1, hs1⟩ := (TabAt.drew HBq).entry Tryz.underlying169 zero_best hnm hp
    have hS0 := HSB.out _ HTq.drew BPq.drew BOq.drew
    have HTb := HTq.drew.turned hT1 (TabAt.noBlk HBq HTq)
    have BPb := BPq.drew.turned hT1 (TabAt.noBlk HBq BPq)
    have BOb := BOq.drew.turned hT1 (TabAt.noBlk HBq BOq)
    have HOb := (TabAt.drew HOq).grown hT1.grown (by simpa using hne.symm)
    have hS1 := HSB.out _ HTb BPb BOb
    obtain ⟨wc, hr1, hB1, hT2⟩ := hs1 wb m rfl
    have HTc := HTb.turned hT2 (TabAt.noBlk HBq HTq)
    have BPc := BPb.turned hT2 (TabAt.noBlk HBq BPq)
    have BOc := BOb.turned hT2 (TabAt.noBlk HBq BOq)
    have HOc := HOb.grown hT2.grown (by simpa using hne.symm)
    have hS2 := HSB.out _ HTc BPc BOc
    obtain ⟨v1, st1, wd, hr2, hT3, hs3⟩ := HOc.entry Tryz.underlying170 zero_orig hnm hp
    have HTd := HTc.turned hT3 (TabAt.noBlk HOc HTc)
    have BPd := BPc.turned hT3 (TabAt.noBlk HOc BPc)
    have BOd := BOc.turned hT3 (TabAt.noBlk HOc BOc)
    have hB2 := hB1.grown hT3.grown (by simpa using hne)
    have hS3 := HSB.out _ HTd BPd BOd
    obtain ⟨we, hr3, hO1, hT4⟩ := hs3 wd o rfl
    have hB3 := hB2.grown hT4.grown (by simpa using hne)
    have HEND : Hid (LessOut tb b1 b2 n B O p m o w we) := Lib.hid ⟨by rw [HL1.out.1]; exact hB3, by rw [HL1.out.2]; exact hO1,
      fun g t cs h => (((((hblkq g t cs h).turned hT1 (TabAt.noBlk HBq (hblkq g t cs h))).turned hT2 (TabAt.noBlk HBq (hblkq g t cs h))).turned hT3 (TabAt.noBlk HOq (hblkq g t cs h))).turned hT4 (TabAt.noBlk HOq (hblkq g t cs h))),
      fun k w0 h1 h2 h3 h4 => by
        have s0 : k ≤ (wa.drewN nq).drew.heap.size := Nat.le_trans h4 hszq
        have k1 := below_turned (hbelq k w0 h4 h1) hT1 s0 h2
        have s1 : k ≤ wb.heap.size := Nat.le_trans s0 hT1.grown.size
        have k2 := below_turned k1 hT2 s1 h2
        have s2 : k ≤ wc.heap.size := Nat.le_trans s1 hT2.grown.size
        have k3 := below_turned k2 hT3 s2 h3
        exact below_turned k3 hT4 (Nat.le_trans s2 hT3.grown.size) h3⟩
    clear HTq BPq BOq HBq HOq hblkq hbelq hszq HTb BPb BOb HOb HTc BPc BOc HOc HTd BPd BOd hB2 hB3 hO1 hB1 hT1 hT2 hT3 hT4 hs1 hs3 HL1 hlook t1 t2 t3 p1 p2 p3 o1 o2 o3
    refine WpN.begin (S := S) 17 (by kernel_rfl) ?_
    refine WpN.takeD (i := 0) (v := ?_) rfl rfl (by kernel_rfl) (fun _ _ _ h => h) (Or.inl ⟨by rfl, ?_⟩) (by assumption) ?_
    rotate_left
    · intro w hSw; rw [hSS.out] at hSw; unfold SLess at hSw; obtain ⟨sw0, sw1, sw2, sw3, sw4, sw5, sw6, sw7, sw8⟩ := hSw; go_simp; try with_reducible rfl
    simp only [Act.put, List.setIfInBounds_toArray, List.set_cons_zero, List.set_cons_succ]
    refine WpN.takeD (i := 1) (v := ?_) rfl rfl (by kernel_rfl) (fun _ _ _ h => h) (Or.inl ⟨by rfl, ?_⟩) (by assumption) ?_
    rotate_left
    · intro w hSw; rw [hSS.out] at hSw; unfold SLess at hSw; obtain ⟨sw0, sw1, sw2, sw3, sw4, sw5, sw6, sw7, sw8⟩ := hSw; go_simp; try with_reducible rfl
    simp only [Act.put, List.setIfInBounds_toArray, List.set_cons_zero, List.set_cons_succ]
    refine WpN.takeD (i := 2) (v := ?_) rfl rfl (by kernel_rfl) (fun _ _ _ h => h) (Or.inl ⟨by rfl, ?_⟩) (by assumption) ?_
    rotate_left
    · intro w hSw; rw [hSS.out] at hSw; unfold SLess at hSw; obtain ⟨sw0, sw1, sw2, sw3, sw4, sw5, sw6, sw7, sw8⟩ := hSw; go_simp; try with_reducible rfl
    simp only [Act.put, List.setIfInBounds_toArray, List.set_cons_zero, List.set_cons_succ]
    refine WpN.takeD (i := 3) (v := ?_) rfl rfl (by kernel_rfl) (fun _ _ _ h => h) (Or.inl ⟨by rfl, ?_⟩) (by assumption) ?_
    rotate_left
    · intro w hSw; rw [hSS.out] at hSw; unfold SLess at hSw; obtain ⟨sw0, sw1, sw2, sw3, sw4, sw5, sw6, sw7, sw8⟩ := hSw; go_simp; try with_reducible rfl
    simp only [Act.put, List.setIfInBounds_toArray, List.set_cons_zero, List.set_cons_succ]
    refine WpN.takeD (i := 4) (v := ?_) rfl rfl (by kernel_rfl) (fun _ _ _ h => h) (Or.inl ⟨by rfl, ?_⟩) (by assumption) ?_
    rotate_left
    · intro w hSw; rw [hSS.out] at hSw; unfold SLess at hSw; obtain ⟨sw0, sw1, sw2, sw3, sw4, sw5, sw6, sw7, sw8⟩ := hSw; go_simp; try with_reducible rfl
    simp only [Act.put, List.setIfInBounds_toArray, List.set_cons_zero, List.set_cons_succ]
    refine WpN.takeD (i := 5) (v := ?_) rfl rfl (by kernel_rfl) (fun _ _ _ h => h) (Or.inl ⟨by rfl, ?_⟩) (by assumption) ?_
    rotate_left
    · intro w hSw; rw [hSS.out] at hSw; unfold SLess at hSw; obtain ⟨sw0, sw1, sw2, sw3, sw4, sw5, sw6, sw7, sw8⟩ := hSw; go_simp; try with_reducible rfl
    simp only [Act.put, List.setIfInBounds_toArray, List.set_cons_zero, List.set_cons_succ]
    refine WpN.takeD (i := 6) (v := ?_) rfl rfl (by kernel_rfl) (fun _ _ _ h => h) (Or.inl ⟨by rfl, ?_⟩) (by assumption) ?_
    rotate_left
    · intro w hSw; rw [hSS.out] at hSw; unfold SLess at hSw; obtain ⟨sw0, sw1, sw2, sw3, sw4, sw5, sw6, sw7, sw8⟩ := hSw; go_simp; try with_reducible rfl
    simp only [Act.put, List.setIfInBounds_toArray, List.set_cons_zero, List.set_cons_succ]
    refine WpN.takeD (i := 7) (v := ?_) rfl rfl (by kernel_rfl) (fun _ _ _ h => h) (Or.inl ⟨by rfl, ?_⟩) (by assumption) ?_
    rotate_left
    · intro w hSw; rw [hSS.out] at hSw; unfold SLess at hSw; obtain ⟨sw0, sw1, sw2, sw3, sw4, sw5, sw6, sw7, sw8⟩ := hSw; go_simp; try with_reducible rfl
    simp only [Act.put, List.setIfInBounds_toArray, List.set_cons_zero, List.set_cons_succ]
    refine WpN.takeD (i := 8) (v := ?_) rfl rfl (by kernel_rfl) (fun _ _ _ h => h) (Or.inl ⟨by rfl, ?_⟩) (by assumption) ?_
    rotate_left
    · intro w hSw; rw [hSS.out] at hSw; unfold SLess at hSw; obtain ⟨sw0, sw1, sw2, sw3, sw4, sw5, sw6, sw7, sw8⟩ := hSw; go_simp; try with_reducible rfl
    simp only [Act.put, List.setIfInBounds_toArray, List.set_cons_zero, List.set_cons_succ]
    refine WpN.takeD (i := 9) (v := ?_) rfl rfl (by kernel_rfl) (fun _ _ _ h => h) (Or.inl ⟨by rfl, ?_⟩) (by assumption) ?_
    rotate_left
    · intro w hSw; rw [hSS.out] at hSw; unfold SLess at hSw; obtain ⟨sw0, sw1, sw2, sw3, sw4, sw5, sw6, sw7, sw8⟩ := hSw; go_simp; try with_reducible rfl
    simp only [Act.put, List.setIfInBounds_toArray, List.set_cons_zero, List.set_cons_succ]
    refine WpN.takeD (i := 10) (v := ?_) rfl rfl (by kernel_rfl) (fun _ _ _ h => h) (Or.inl ⟨by rfl, ?_⟩) (by assumption) ?_
    rotate_left
    · intro w hSw; rw [hSS.out] at hSw; unfold SLess at hSw; obtain ⟨sw0, sw1, sw2, sw3, sw4, sw5, sw6, sw7, sw8⟩ := hSw; go_simp; try with_reducible rfl
    simp only [Act.put, List.setIfInBounds_toArray, List.set_cons_zero, List.set_cons_succ]
    refine WpN.takeD (i := 11) (v := ?_) rfl rfl (by kernel_rfl) (fun _ _ _ h => h) (Or.inl ⟨by rfl, ?_⟩) (by assumption) ?_
    rotate_left
    · intro w hSw; rw [hSS.out] at hSw; unfold SLess at hSw; obtain ⟨sw0, sw1, sw2, sw3, sw4, sw5, sw6, sw7, sw8⟩ := hSw; go_simp; try with_reducible rfl
    simp only [Act.put, List.setIfInBounds_toArray, List.set_cons_zero, List.set_cons_succ]
    refine WpN.one (i := 12) rfl (by kernel_rfl) fun K hK => ?_
    refine wp_mapEntry (.tmp 29) (.tmp 30) 169 rfl rfl rfl hr0 ?_
    refine hK.out _ _ ⟨fun _ => hS1, ?_⟩
    clear hK K
    try simp only [Act.put, List.setIfInBounds_toArray]
    refine WpN.takeD (i := 13) (v := ?_) rfl rfl (by kernel_rfl) (fun _ _ _ h => h) (Or.inl ⟨by rfl, ?_⟩) (by assumption) ?_
    rotate_left
    · intro w hSw; rw [hSS.out] at hSw; unfold SLess at hSw; obtain ⟨sw0, sw1, sw2, sw3, sw4, sw5, sw6, sw7, sw8⟩ := hSw; go_simp; try with_reducible rfl
    simp only [Act.put]
    refine WpN.one (i := 14) rfl (by kernel_rfl) fun K hK => ?_
    refine wp_entryStore (.tmp 29) (.tmp 39) (.tmp 36) 169 rfl rfl rfl rfl hr1 ?_
    refine hK.out _ _ ⟨fun _ => hS2, ?_⟩
    clear hK K
    try simp only [Act.put]
    refine WpN.one (i := 15) rfl (by kernel_rfl) fun K hK => ?_
    refine wp_mapEntry (.tmp 34) (.tmp 35) 170 rfl rfl rfl hr2 ?_
    refine hK.out _ _ ⟨fun _ => hS3, ?_⟩
    clear hK K
    try simp only [Act.put]
    refine WpN.takeD (i := 16) (v := ?_) rfl rfl (by kernel_rfl) (fun _ _ _ h => h) (Or.inl ⟨by rfl, ?_⟩) (by assumption) ?_
    rotate_left
    · intro w hSw; rw [hSS.out] at hSw; unfold SLess at hSw; obtain ⟨sw0, sw1, sw2, sw3, sw4, sw5, sw6, sw7, sw8⟩ := hSw; go_simp; try with_reducible rfl
    simp only [Act.put]
    refine WpN.one (i := 17) rfl (by kernel_rfl) fun K hK => ?_
    refine wp_entryStore (.tmp 34) (.tmp 41) (.tmp 37) 170 rfl rfl rfl rfl hr3 ?_
    refine hK.out _ _ ⟨fun h => by omega, ?_⟩
    clear hK K
    refine WpN.done (by kernel_rfl) ?_ _
    go_wp2_with fail
    refine ⟨rfl, .tuple #[], by simp [results, Tryz.results109], ?_⟩
    exact ⟨rfl, HEND.out⟩
end Go.Proofs.YtdpibehpmghghaaGreat
