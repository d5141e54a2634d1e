/- One text: Tab. -/
import Derived.Maps.OwnSet
import Derived.DeepKeys4
import Derived.Test.YtdpibehpmghghaaGreatBd615d7ca311
import Derived.Test.YtdpibehpmghghaaGreatBdcd95ff1835
/- A map keyed by a vertex and a time, as a plain function: what its look-ups tell and its stores leave. -/
namespace Go.Proofs.YtdpibehpmghghaaGreat
open Go.RowKit
open Go.Maps (Keyed has atKey_put_same atKey_put_other has_put_same has_put_other atKey_of_not_has)

theorem row_st : (174 : TypeId) < Tryz.prog.types.size := of_decide_eq_true (by kernel_rfl)
theorem keyT_st : Tryz.prog.keyTypeAt 2 174 = true := by kernel_rfl
set_option maxRecDepth 100000 in
theorem wide_st : (match Tryz.prog.underlying 174 with | some (.array _ _) | some (.struct _) => true | _ => false) = true := by rw [Tryz.underlying174]
set_option maxRecDepth 100000 in
theorem law_st : Keyed Tryz.prog 174 := Keyed.of_law (deep_law_laid Tryz.laidOut (m := 2) (by omega) row_st keyT_st wide_st)
def klS (p : Nat × Nat) : Lit := .string (keyBytes [.int .i64 (p.1 : Int), .int .i64 (p.2 : Int)])
def stV (p : Nat × Nat) : Value := .agg #[.int .i64 (p.1 : Int), .int .i64 (p.2 : Int)]
def Sml (p : Nat × Nat) : Prop := p.1 ≤ 1000 ∧ p.2 ≤ 1000
theorem keyType_st : Tryz.prog.keyType 174 = true := by kernel_rfl
theorem formed_st (a b : Int) : (Value.agg #[.int .i64 a, .int .i64 b]).formed Tryz.prog 174 = true := by
  simp [Value.formed, Tryz.underlying174, show Tryz.prog.cellsOf 174 = 2 by kernel_rfl]
theorem lits_st (a b : Int) (ha : (Lit.int .i64 a).wf = true) (hb : (Lit.int .i64 b).wf = true) : Tryz.prog.keyLits (Tryz.prog.types.size + 1) 174 [.int .i64 a, .int .i64 b] = some [.int .i64 a, .int .i64 b] := by
  obtain ⟨k, hk⟩ : ∃ k, Tryz.prog.types.size = k + 1 := Nat.exists_eq_add_one.2 (Nat.lt_of_le_of_lt (Nat.zero_le _) row_st)
  rw [hk]
  simp [Program.keyLits, Tryz.underlying174, Tryz.underlying3, show Tryz.prog.cellsOf 174 = 2 by kernel_rfl, show Tryz.prog.cellsOf 3 = 1 by kernel_rfl, ha, hb]
theorem wf_small {n : Nat} (h : n ≤ 1000) : (Lit.int .i64 (n : Int)).wf = true := WalkArith.wf_i64 (by omega)
theorem key_st {p : Nat × Nat} (h : Sml p) : keyOf Tryz.prog 174 (stV p) = some (klS p) := by
  unfold keyOf
  rw [Tryz.underlying174]
  simp only [stV, keyType_st, formed_st, Bool.and_self, if_true]
  show (Tryz.prog.keyLits (Tryz.prog.types.size + 1) 174 [.int .i64 (p.1 : Int), .int .i64 (p.2 : Int)]).map _ = _
  rw [lits_st _ _ (wf_small h.1) (wf_small h.2)]
  rfl
theorem kl_inj {p q : Nat × Nat} (hp : Sml p) (hq : Sml q) (h : klS p = klS q) : p = q := by
  have h1 := key_st hp
  rw [h] at h1
  have := law_st.inj h1 (key_st hq)
  simp only [stV, Value.agg.injEq, Array.mk.injEq, List.cons.injEq, Value.int.injEq, true_and, and_true] at this
  exact Prod.ext (by omega) (by omega)
theorem kl_key {p : Nat × Nat} (h : Sml p) : WideAt.IsKeyLit (klS p) := law_st.key (key_st h)

def rV (v : Value) : Option (DataW Value × List MemPlace) := some (.held v, [])
section
variable {α : Type}
/-- Block b is a map of at most n entries that tells what the function tells. -/
def TabAt (enc : α → Value) (w : World) (b n : Nat) (F : Tab α) : Prop := ∃ D : DataW Value, w.ownsMap Tryz.prog 174 rV b n D ∧ ∀ p, Sml p → match F p with
  | some a => has D (klS p) = true ∧ ∀ z, D.atKey (klS p) z = .held (enc a)
  | none => has D (klS p) = false
variable {enc : α → Value} {w : World} {b n : Nat} {F : Tab α}
theorem TabAt.made (enc : α → Value) (w : World) : TabAt enc (w.alloc (.map #[] 0)) w.heap.size 0 (fun _ => none) := ⟨_, World.ownsMap_made _ _ _ _, fun _ _ => rfl⟩
theorem TabAt.mono (h : TabAt enc w b n F) {m : Nat} (hn : n ≤ m) : TabAt enc w b m F := by
  obtain ⟨D, h1, h2⟩ := h
  exact ⟨D, h1.mono hn, h2⟩
theorem TabAt.lt (h : TabAt enc w b n F) : b < w.heap.size := by
  obtain ⟨D, h1, _⟩ := h
  exact h1.lt
theorem TabAt.grown (h : TabAt enc w b n F) {w' : World} {row : Option Nat} (hg : w.grownBy w' row) (hne : some b ≠ row) : TabAt enc w' b n F := by
  obtain ⟨D, h1, h2⟩ := h
  exact ⟨D, h1.kept hg hne, h2⟩
theorem TabAt.alloc (h : TabAt enc w b n F) (o : Obj) : TabAt enc (w.alloc o) b n F := by
  obtain ⟨D, h1, h2⟩ := h
  exact ⟨D, h1.alloc o, h2⟩
theorem TabAt.drew (h : TabAt enc w b n F) : TabAt enc w.drew b n F := h
theorem TabAt.far (h : TabAt enc w b n F) {a : Addr} (ha : b ≠ a.block) (u : Value) : TabAt enc (w.setCell a u) b n F := by
  obtain ⟨D, h1, h2⟩ := h
  exact ⟨D, h1.setCell ha u, h2⟩
theorem TabAt.noBlk (h : TabAt enc w b n F) {g : Nat} {t : TypeId} {cs : Array Value} (hB : Blk w g t cs) : g ≠ b := by
  obtain ⟨D, ⟨es, clock, h1, _⟩, _⟩ := h
  rintro rfl
  unfold Blk at hB
  rw [h1] at hB
  simp at hB
/-- 'v, ok := m[k]' -/
theorem TabAt.look (h : TabAt enc w b n F) {t e : TypeId} (ht : Tryz.prog.underlying t = some (.map 174 e)) {z : Value} (hz : (zeroValue e).run Tryz.prog w = .ok z w) {p : Nat × Nat} (hp : Sml p) :
    (Instr.lookup t (.map (some b)) (.agg #[.int .i64 (p.1 : Int), .int .i64 (p.2 : Int)]) true).run Tryz.prog w = .ok (.tuple #[((F p).map enc).getD z, .bool (F p).isSome]) w := by
  obtain ⟨D, h1, h2⟩ := h
  obtain ⟨v, ps, hrun, hv⟩ := h1.look_ok law_st ht hz (zd := .held z) (zp := []) rfl (key_st hp)
  have h3 := h2 p hp
  simp only [rV, Option.some.injEq, Prod.mk.injEq] at hv
  rw [show (Value.agg #[.int .i64 (p.1 : Int), .int .i64 (p.2 : Int)]) = stV p from rfl, hrun]
  cases hF : F p with
  | none =>
    rw [hF] at h3
    rw [h3]
    have := hv.1
    rw [atKey_of_not_has h3] at this
    simp only [DataW.held.injEq] at this
    rw [this]; rfl
  | some a =>
    rw [hF] at h3
    rw [h3.1]
    have := hv.1
    rw [h3.2] at this
    simp only [DataW.held.injEq] at this
    rw [this]; rfl
theorem TabAt.store (h : TabAt enc w b n F) {t e : TypeId} (ht : Tryz.prog.underlying t = some (.map 174 e)) (hn : n < maxLen) {p : Nat × Nat} (hp : Sml p) (a : α) :
    ∃ w', (Instr.mapUpdate t (.map (some b)) (.agg #[.int .i64 (p.1 : Int), .int .i64 (p.2 : Int)]) (enc a)).run Tryz.prog w = .ok () w' ∧ TabAt enc w' b (n + 1) (setF F p a) ∧ w.mapTurned w' b := by
  obtain ⟨D, h1, h2⟩ := h
  obtain ⟨w', hrun, h3, h4⟩ := h1.store law_st ht hn (key_st hp) (val := enc a) (d := .held (enc a)) (ps := []) rfl
  refine ⟨w', hrun, ⟨_, h3, fun q hq => ?_⟩, h4⟩
  by_cases e : q = p
  · subst e
    rw [setF_at]
    exact ⟨has_put_same h1.isMap (kl_key hp) _, fun z => atKey_put_same h1.isMap (kl_key hp) _ z⟩
  · have hne : klS q ≠ klS p := fun h => e (kl_inj hq hp h)
    rw [setF_ne _ _ e]
    have := h2 q hq
    cases hF : F q with
    | none =>
      rw [hF] at this
      simp only
      rw [has_put_other hne]; exact this
    | some a' =>
      rw [hF] at this
      simp only
      rw [has_put_other hne]
      exact ⟨this.1, fun z => by rw [atKey_put_other hne]; exact this.2 z⟩
theorem Blk.turned {w w' : World} {b g : Nat} {t : TypeId} {cs : Array Value} (h : Blk w g t cs) (hT : w.mapTurned w' b) (hne : g ≠ b) : Blk w' g t cs := by
  have := hT.grown.block g h.lt (by simpa using hne)
  exact this.trans h
theorem below_turned {k : Nat} {w0 w w' : World} {b : Nat} (h : Below k w0 w) (hT : w.mapTurned w' b) (hk : k ≤ w.heap.size) (hb : k ≤ b) : Below k w0 w' := h.grown hT.grown hk (fun j hj => by cases hj; exact hb)
variable {P : Program} {ops : Array Oper} {rest : List Oper} {o : Oper} {a : Act} {Q : Exit → Act → World → Prop}
theorem wpList_store_tab (hg : o.guard = none) (m x v : Operand) (t : TypeId) (hop : o.op = Op.mapUpdate t m x v) (e : TypeId) (ht : Tryz.prog.underlying t = some (.map 174 e)) (enc : α → Value) (b n : Nat) (F : Tab α)
    (hm : a.eval m = .map (some b)) (hown : TabAt enc w b n F) (hn : n < maxLen) (p : Nat × Nat) (hp : Sml p) (y : α) (hx : a.eval x = .agg #[.int .i64 (p.1 : Int), .int .i64 (p.2 : Int)]) (hv : a.eval v = enc y)
    (hK : ∀ w', TabAt enc w' b (n + 1) (setF F p y) → w.mapTurned w' b → wpList Tryz.prog ops Q rest (a.put o.dst undef) w') : wpList Tryz.prog ops Q (o :: rest) a w := by
  refine wpList_plain hg fun K' hK' => ?_
  obtain ⟨w', hrun, r1, r2⟩ := hown.store ht hn hp y
  unfold Oper.wp
  simp [execOp, hop, hm, hx, hv, hrun, Result.andThen]
  exact hK' _ _ (hK w' r1 r2)
end
end Go.Proofs.YtdpibehpmghghaaGreat
