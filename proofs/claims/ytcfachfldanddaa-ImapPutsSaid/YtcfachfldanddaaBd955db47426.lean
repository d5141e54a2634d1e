/- Several texts in one: Own2, EarlyF, PlainSpec, Shot, PlainLaw. -/
import Derived.Deep.AppendLies
import Derived.Deep.RegionHeldLaw
import Derived.IntWalk
import Derived.Test.YtcfachfldanddaaBd2aa8e41777
import Derived.Test.YtcfachfldanddaaBd61ccbd2765
import Derived.Test.YtcfachfldanddaaBd99a0450026
import Derived.Test.YtcfachfldanddaaBd52e2510bab
/- More on lists that a call owns: an append of several elements, a list that a literal makes. -/
namespace Go.Proofs.Ytcfachfldanddaa
open Go.RowKit

/-- A block of another kind than a list's rows is not the list's. -/
theorem Own.other {α : Type} {enc : α → List Value} {sz : Nat} {w : World} {base : Nat} {e t : TypeId} {v : Value} {l : List α} {b : Nat} {cs : Array Value} (h : Own enc sz w base e v l) (hb : Blk w b t cs) (ht : t ≠ e) : some b ≠ v.ownBlock := by
  rcases h.2 with ⟨rfl, _⟩ | ⟨g, cap, cur, rfl, _, hh, _⟩
  · simp [Value.ownBlock]
  · intro hbg
    simp only [Value.ownBlock, Option.some.injEq] at hbg
    subst hbg
    unfold Blk at hb
    rw [hh] at hb
    cases hb
    exact ht rfl
theorem wpList_append_els {P : Program} {ops : Array Oper} {rest : List Oper} {o : Oper} {a : Act} {Q : Exit → Act → World → Prop} {w0 : World} {α : Type} {enc : α → List Value} (hgd : o.guard = none) (s x : Operand) (t : TypeId)
    (ho : o.op = .call { callee := .builtin .append, args := #[s, x], argTypes := #[t, t] })
    (base : Nat) (e : TypeId) (i : TypeInfo) (z : Value) (size bytes : Nat) (ht : P.underlying t = some (.slice e)) (hi : P.info? e = some i) (hz : i.zero = some z)
    (hsize : i.size = size) (hby : i.bytes = bytes) (hzs : z.cells.size = size) (hsz : 0 < size)
    (v : Value) (l : List α) (ys : List α) (m : Nat) (hm : ys.length = m) (hs : a.eval s = v) (hown : Own enc size w0 base e v l) (cs : Array Value) (hcy : cs.toList = ys.flatMap enc) (k : Nat) (hk : k = w0.heap.size) (hx : a.eval x = .slice (some ⟨k, 0, none⟩) m m) (hcs : cs.size = m * size)
    (h1 : ∀ u ∈ cs.toList, u.oneCell' = true) (h63 : l.length + m ≤ 1000000) (hby2 : bytes ≤ 1000) (hbase : base ≤ w0.heap.size)
    (h : ∀ v' w', Own enc size w' base e v' (l ++ ys) → Below base w0 w' → (∀ b t' cs', Blk w0 b t' cs' → t' ≠ e → Blk w' b t' cs') → wpList P ops Q rest (a.put o.dst v') w') : wpList P ops Q (o :: rest) a (w0.alloc (.cells cs e)) := by
  subst hk
  have hb2 : (l.length + m) * bytes ≤ 140737488355328 := Nat.le_trans (Nat.mul_le_mul h63 hby2) (by decide)
  refine wpList_append_own _ hgd s x t ho base e i z size bytes ht hi hz hsize hby hzs hsz v l.length (l.flatMap enc) hs (World.ownsRow.alloc hown _) ⟨w0.heap.size, 0, none⟩ m m cs.toList hx (by simp [hcs])
    ?_ h1 (by unfold maxLen; omega) hb2 (by simp; omega) ?_
  · intro j u hu
    rw [Go.WideShapes.add_plain, cell_of_row _ _ _ cs e (0, 0) (heap_alloc_new w0 _)]
    simpa using hu
  · intro v' w' h2 h3 _
    refine h v' w' ?_ ?_ fun b t' cs' hB ht' => (hB.alloc _).grown h3 (hown.other hB ht')
    · show w'.ownsRow base e size v' (l ++ ys).length ((l ++ ys).flatMap enc)
      rw [List.flatMap_append, List.length_append, hm]
      simpa [hcy] using h2
    · have hb : Below base w0 (w0.alloc (.cells cs e)) := (Below.refl _ _).alloc hbase _
      exact hb.grown h3 (by simp; omega) fun k hk => (World.ownsRow.lt hown k hk).1
/-- What a literal makes is owned. -/
theorem Own.lit {α : Type} {enc : α → List Value} {sz : Nat} {w : World} {base : Nat} {e : TypeId} {cs : Array Value} {l : List α} {n m : Nat} (hn : n = w.heap.size) (hb : base ≤ n) (hl : l.length = m) (hcs : cs.toList = l.flatMap enc) (hsz : cs.size = m * sz) (hm : m ≤ maxLen) :
    Own enc sz (w.alloc (.cells cs e)) base e (.slice (some ⟨n, 0, none⟩) m m) l := by
  subst hn
  refine ⟨by rw [← hcs, hl]; simpa using hsz, .inr ⟨w.heap.size, m, cs, by rw [hl], hb, heap_alloc_new w _, by omega, hm, hsz, ?_⟩⟩
  rw [← hcs, hl, List.take_of_length_le]
  simp [hsz]
theorem below_drew {B : Nat} {a w : World} (h : Below B a w) : Below B a w.drew := ⟨h.os, h.tape, h.output, h.size, h.block⟩
theorem cell_keepB {B : Nat} {w w' : World} {p : Addr} {v : Value} (hb : Below B w w') (hp : p.block < B) (h : w.cell? p = some v) : w'.cell? p = some v := (hb.cell hp).trans h
theorem keepB4 {B : Nat} {w w' : World} {p0 p1 p2 p3 : Addr} {v0 v1 v2 v3 : Value} (hb : Below B w w') (h0 : p0.block < B) (h1 : p1.block < B) (h2 : p2.block < B) (h3 : p3.block < B)
    (h : w.cell? p0 = some v0 ∧ w.cell? p1 = some v1 ∧ w.cell? p2 = some v2 ∧ w.cell? p3 = some v3) : w'.cell? p0 = some v0 ∧ w'.cell? p1 = some v1 ∧ w'.cell? p2 = some v2 ∧ w'.cell? p3 = some v3 := by
  obtain ⟨k0, k1, k2, k3⟩ := h
  exact ⟨cell_keepB hb h0 k0, cell_keepB hb h1 k1, cell_keepB hb h2 k2, cell_keepB hb h3 k3⟩
theorem keepB5 {B : Nat} {w w' : World} {p0 p1 p2 p3 p4 : Addr} {v0 v1 v2 v3 v4 : Value} (hb : Below B w w') (h0 : p0.block < B) (h1 : p1.block < B) (h2 : p2.block < B) (h3 : p3.block < B) (h4 : p4.block < B)
    (h : w.cell? p0 = some v0 ∧ w.cell? p1 = some v1 ∧ w.cell? p2 = some v2 ∧ w.cell? p3 = some v3 ∧ w.cell? p4 = some v4) : w'.cell? p0 = some v0 ∧ w'.cell? p1 = some v1 ∧ w'.cell? p2 = some v2 ∧ w'.cell? p3 = some v3 ∧ w'.cell? p4 = some v4 := by
  obtain ⟨k0, k1, k2, k3, k4⟩ := h
  exact ⟨cell_keepB hb h0 k0, cell_keepB hb h1 k1, cell_keepB hb h2 k2, cell_keepB hb h3 k3, cell_keepB hb h4 k4⟩
/-- An append of several elements at a step of a region that draws its order. -/
theorem step_append_els {P : Program} {w : World} {ops : Array Oper} {o : Oper} {a : Act} {K : Act → World → Prop} {Q : Exit → Act → World → Prop} {E : Prop} {α : Type} {enc : α → List Value} (hgd : o.guard = none) (s x : Operand) (t : TypeId)
    (ho : o.op = .call { callee := .builtin .append, args := #[s, x], argTypes := #[t, t] })
    (base : Nat) (e : TypeId) (i : TypeInfo) (z : Value) (size bytes : Nat) (ht : P.underlying t = some (.slice e)) (hi : P.info? e = some i) (hz : i.zero = some z)
    (hsize : i.size = size) (hby : i.bytes = bytes) (hzs : z.cells.size = size) (hsz : 0 < size)
    (v : Value) (l : List α) (ys : List α) (m : Nat) (hm : ys.length = m) (hm0 : 0 < m) (hs : a.eval s = v) (hown : Own enc size w base e v l) (cs : Array Value) (hcy : cs.toList = ys.flatMap enc) (k : Nat) (hk : Blk w k e cs) (hx : a.eval x = .slice (some ⟨k, 0, none⟩) m m) (hcs : cs.size = m * size)
    (h1 : ∀ u ∈ cs.toList, u.oneCell' = true) (h63 : l.length + m ≤ 1000000) (hby2 : bytes ≤ 1000) (hbase : base ≤ w.heap.size)
    (h : ∀ v' w', Own enc size w' base e v' (l ++ ys) → Below base w w' → (∀ b t' cs', Blk w b t' cs' → t' ≠ e → Blk w' b t' cs') → K (a.put o.dst v') w') :
    if Region.wanted o (yielded ops a.tmps) = true then Oper.wp P o a w K Q else E := by
  have hb2 : (l.length + m) * bytes ≤ 140737488355328 := Nat.le_trans (Nat.mul_le_mul h63 hby2) (by decide)
  refine step_append_lies w hgd s x t ho base e i z size bytes ht hi hz hsize hby hzs hsz v l.length (l.flatMap enc) hs hown ⟨k, 0, none⟩ m m cs.toList hx (by simp [hcs])
    (World.news_of_block hk) h1 hm0 (by unfold maxLen; omega) hb2 hbase _ rfl ?_
  intro g cap w' h2 h3 _ _
  refine h _ w' ?_ ?_ fun b t' cs' hB ht' => hB.grown h3 (hown.other hB ht')
  · show w'.ownsRow base e size _ (l ++ ys).length ((l ++ ys).flatMap enc)
    rw [List.flatMap_append, List.length_append, hm]
    simpa [hcy] using h2
  · exact (Below.refl base w).grown h3 hbase fun k hk => (World.ownsRow.lt hown k hk).1
end Go.Proofs.Ytcfachfldanddaa
/- The walks of the first and of the last hop along an edge. -/
namespace Go.Proofs.Ytcfachfldanddaa
open Go.RowKit

theorem arrive_yes {A A' L : Option Addr} {c c' cl : Nat} {g : GraphD} {x : EdgeD} {t to : Int} {l : LegD} (w : World) (hG : GraphAt w A c A' c' g) (hV : Valid g) (hx : EdgeOk g x) (hL : SlAt RLeg 4 w L x.legs) (hl : x.legs.length ≤ maxLen) (ht : I64 t) (h : arrive g x t = some (l, to)) :
    Calls Try.prog 121 #[gV A c A' c' g, edgeV L cl x, .int .i64 t] w fun e w' => e = .returned (.tuple #[legV l, .int .i64 to, .bool true]) ∧ Below w.heap.size w w' :=
  (arrive_any A A' L c c' cl g x t w hG hV hx hL hl ht).mono fun e w' ⟨he, hb⟩ => ⟨by rw [he, h]; rfl, hb⟩
theorem arrive_not {A A' L : Option Addr} {c c' cl : Nat} {g : GraphD} {x : EdgeD} {t : Int} (w : World) (hG : GraphAt w A c A' c' g) (hV : Valid g) (hx : EdgeOk g x) (hL : SlAt RLeg 4 w L x.legs) (hl : x.legs.length ≤ maxLen) (ht : I64 t) (h : arrive g x t = none) :
    Calls Try.prog 121 #[gV A c A' c' g, edgeV L cl x, .int .i64 t] w fun e w' => e = .returned (.tuple #[legV ⟨0, 0, 0, 0⟩, .int .i64 0, .bool false]) ∧ Below w.heap.size w w' :=
  (arrive_any A A' L c c' cl g x t w hG hV hx hL hl ht).mono fun e w' ⟨he, hb⟩ => ⟨by rw [he, h]; rfl, hb⟩
abbrev edgeC (L : Option Addr) (cl : Nat) (x : EdgeD) : Array Value := #[.int .i64 x.a, .int .i64 x.b, .slice L x.legs.length cl]
theorem results3 {fn : Func} {t u v : Tmp} (h : fn.results = #[.tmp t, .tmp u, .tmp v]) (tmps : Array Value) (P : Program) (w : World) :
    (results fn tmps).run P w = .ok (.tuple #[tmps.getD t undef, tmps.getD u undef, tmps.getD v undef]) w := by simp [results, h]
/-- The three results of first. -/
def firstR (o : Option (Int × Int)) : Value := match o with
  | some p => .tuple #[.int .i64 p.1, .int .i64 p.2, .bool true]
  | none => .tuple #[.int .i64 0, .int .i64 0, .bool false]
/-- The three variables of the loop: what is best, when one leaves, whether there is one. -/
def FState (o : Option (Int × Int)) (b d f : Value) : Prop := match o with
  | some p => b = .int .i64 p.2 ∧ d = .int .i64 p.1 ∧ f = .bool true
  | none => b = .int .i64 0 ∧ d = .int .i64 0 ∧ f = .bool false
theorem firstL_end {g : GraphD} {x : EdgeD} {d : Int} {o : Option (Int × Int)} {n : Nat} (h : n = 0) : firstL g x n d o = o := by subst h; rfl
theorem firstL_go {g : GraphD} {x : EdgeD} {d : Int} {o : Option (Int × Int)} {n : Nat} (h : 0 < n) : firstL g x n d o = firstL g x (n - 1) (d + 1) (fstep g x o d) := by
  cases n with
  | zero => omega
  | succ n => rfl

set_option maxRecDepth 100000 in
set_option maxHeartbeats 4000000 in
theorem first_any (A A' L : Option Addr) (c c' cl : Nat) (g : GraphD) (x : EdgeD) (t : Int) (w : World) (hG : GraphAt w A c A' c' g) (hV : Valid g) (hx : EdgeOk g x) (hL : SlAt RLeg 4 w L x.legs) (hl : x.legs.length ≤ maxLen) (ht0 : 0 ≤ t) (ht1 : t ≤ 100) :
    Calls Try.prog 122 #[gV A c A' c' g, edgeV L cl x, .int .i64 t] w fun e w' => e = .returned (firstR (first g x t)) ∧ Below w.heap.size w w' := by
  have hh1 := hV.h1
  have hh0 := hV.h0
  go_enter Try.func122, Try.ntmps122
  go_wp2_with fail
  go_loopw [9, 10, 11, 12] (fun vb vd vf vt wr => ∃ (d : Int) (o : Option (Int × Int)), t ≤ d ∧ d ≤ 100 ∧ vt = .int .i64 d ∧ Hid (FState o vb vd vf) ∧ Hid (firstL g x (g.h - d).toNat d o = first g x t) ∧ Hid (∀ p q, o = some (p, q) → p ≤ 100 ∧ q ≤ 100) ∧
      Blk wr w.heap.size 78 (gC A c A' c' g) ∧ Blk wr (w.heap.size + 1) 118 (edgeC L cl x) ∧ Below w.heap.size w wr)
    (fun _ _ _ vt _ => (100 - intOf vt).toNat)
  case atStart => exact ⟨t, none, Int.le_refl _, ht1, rfl, Lib.hid ⟨rfl, rfl, rfl⟩, Lib.hid rfl, Lib.hid (fun p q h => by simp at h), (Blk.new _ _ _).alloc _, Blk.new_ (by simp), by go_grown⟩
  case round =>
    obtain ⟨d, o, hd0, hd1, rfl, HS, HF, HO, B0, B1, hb⟩ := hrel
    obtain ⟨c1, c2, c3⟩ := B0.facts
    obtain ⟨e1, e2, e3⟩ := B1.facts
    by_cases hlt : d < g.h
    case neg =>
      have HE : Hid (o = first g x t) := Lib.hid ((firstL_end (by omega)).symm.trans HF.out)
      cases o with
      | none =>
        obtain ⟨rfl, rfl, rfl⟩ := HS.out
        go_wp2_with fail
        refine bodyPost_ret (results3 rfl _ _ _) rfl ?_
        exact ⟨by rw [← HE.out]; rfl, hb⟩
      | some p =>
        obtain ⟨p, q⟩ := p
        obtain ⟨rfl, rfl, rfl⟩ := HS.out
        go_wp2_with fail
        refine bodyPost_ret (results3 rfl _ _ _) rfl ?_
        exact ⟨by rw [← HE.out]; rfl, hb⟩
    have HN : Hid (firstL g x (g.h - (d + 1)).toNat (d + 1) (fstep g x o d) = first g x t) := Lib.hid (by
      rw [← HF.out, firstL_go (n := (g.h - d).toNat) (by omega), show (g.h - d).toNat - 1 = (g.h - (d + 1)).toNat by omega])
    have hw1 : IntKind.i64.wrap (d + 1) = d + 1 := IntWalk.i64_in _ (by omega)
    clear HF
    cases ha : arrive g x d with
    | none =>
      have HA := Lib.hid ha
      rw [fstep_no ha] at HN
      clear ha
      cases o with
      | none =>
        obtain ⟨rfl, rfl, rfl⟩ := HS.out
        go_wp2_with fail
        refine (arrive_not _ (hG.ext hb) hV hx (hL.ext RLeg.stable hb) hl ⟨by omega, by omega⟩ HA.out).mono ?_
        rintro e w1 ⟨rfl, hb1⟩
        have B0 := B0.ext hb1
        have B1 := B1.ext hb1
        have hb := ext_trans hb hb1
        go_wp2_with fail
        go_roundw
        case rel => exact ⟨d + 1, none, by omega, by omega, by go_num, HS, HN, HO, B0.alloc _, B1.alloc _, ext_alloc hb _⟩
        case measure => simp [intOf]; omega
      | some p =>
        obtain ⟨p, q⟩ := p
        obtain ⟨rfl, rfl, rfl⟩ := HS.out
        go_wp2_with fail
        refine (arrive_not _ (hG.ext hb) hV hx (hL.ext RLeg.stable hb) hl ⟨by omega, by omega⟩ HA.out).mono ?_
        rintro e w1 ⟨rfl, hb1⟩
        have B0 := B0.ext hb1
        have B1 := B1.ext hb1
        have hb := ext_trans hb hb1
        go_wp2_with fail
        go_roundw
        case rel => exact ⟨d + 1, some (p, q), by omega, by omega, by go_num, HS, HN, HO, B0.alloc _, B1.alloc _, ext_alloc hb _⟩
        case measure => simp [intOf]; omega
    | some p =>
      obtain ⟨lg, to⟩ := p
      have HA := Lib.hid ha
      have hto := arrive_late hV hx ha
      obtain ⟨hto0, hto1, hto2, hto3⟩ := hto
      cases o with
      | none =>
        rw [fstep_new ha] at HN
        clear ha
        obtain ⟨rfl, rfl, rfl⟩ := HS.out
        go_wp2_with fail
        refine (arrive_yes _ (hG.ext hb) hV hx (hL.ext RLeg.stable hb) hl ⟨by omega, by omega⟩ HA.out).mono ?_
        rintro e w1 ⟨rfl, hb1⟩
        have B0 := B0.ext hb1
        have B1 := B1.ext hb1
        have hb := ext_trans hb hb1
        go_wp2_with fail
        go_roundw
        case rel => exact ⟨d + 1, some (d, to), by omega, by omega, by go_num, Lib.hid ⟨rfl, rfl, rfl⟩, HN, Lib.hid (fun p q h => by simp only [Option.some.injEq, Prod.mk.injEq] at h; omega), B0.alloc _, B1.alloc _, ext_alloc hb _⟩
        case measure => simp [intOf]; omega
      | some p =>
        obtain ⟨p, q⟩ := p
        obtain ⟨rfl, rfl, rfl⟩ := HS.out
        by_cases hq : to < q
        case pos =>
          rw [fstep_less ha hq] at HN
          have hqd : decide (to < q) = true := by simpa using hq
          clear ha
          go_wp2_with fail
          refine (arrive_yes _ (hG.ext hb) hV hx (hL.ext RLeg.stable hb) hl ⟨by omega, by omega⟩ HA.out).mono ?_
          rintro e w1 ⟨rfl, hb1⟩
          have B0 := B0.ext hb1
          have B1 := B1.ext hb1
          have hb := ext_trans hb hb1
          go_wp2_with fail
          go_roundw
          case rel => exact ⟨d + 1, some (d, to), by omega, by omega, by go_num, Lib.hid ⟨rfl, rfl, rfl⟩, HN, Lib.hid (fun p q h => by simp only [Option.some.injEq, Prod.mk.injEq] at h; omega), B0.alloc _, B1.alloc _, ext_alloc hb _⟩
          case measure => simp [intOf]; omega
        case neg =>
          rw [fstep_more ha hq] at HN
          have hqd : decide (to < q) = false := by simpa using hq
          clear ha
          go_wp2_with fail
          refine (arrive_yes _ (hG.ext hb) hV hx (hL.ext RLeg.stable hb) hl ⟨by omega, by omega⟩ HA.out).mono ?_
          rintro e w1 ⟨rfl, hb1⟩
          have B0 := B0.ext hb1
          have B1 := B1.ext hb1
          have hb := ext_trans hb hb1
          go_wp2_with fail
          go_roundw
          case rel => exact ⟨d + 1, some (p, q), by omega, by omega, by go_num, HS, HN, HO, B0.alloc _, B1.alloc _, ext_alloc hb _⟩
          case measure => simp [intOf]; omega

end Go.Proofs.Ytcfachfldanddaa
/- What is told of a snapshot, as plain Lean: errors, ways as greatest solutions, labels, degrees; no program in sight. -/
namespace Go.Proofs.Ytcfachfldanddaa

def Far : Int := 1099511627776
def aliveAt (s : SnapD) (v : Int) : Bool := decide (0 ≤ v) && (s.alive[v.toNat]? == some true)
def arcAlive (s : SnapD) (a : ArcD) : Bool := aliveAt s a.a && aliveAt s a.b
def costOk (a : ArcD) : Bool := decide (0 ≤ a.cost ∧ a.cost ≤ 1000)
def shotErr (s : SnapD) : Int := if 12 < s.alive.length ∨ 30 < s.arcs.length then 2 else if s.arcs.all (arcAlive s) = false then 4 else if s.arcs.all costOk = false then 1 else 0
theorem shotErr_large {s : SnapD} (h : 12 < s.alive.length ∨ 30 < s.arcs.length) : shotErr s = 2 := by unfold shotErr; rw [if_pos h]
theorem shotErr_dead {s : SnapD} (h : ¬ (12 < s.alive.length ∨ 30 < s.arcs.length)) (h2 : s.arcs.all (arcAlive s) = false) : shotErr s = 4 := by unfold shotErr; rw [if_neg h, if_pos h2]
theorem shotErr_cost {s : SnapD} (h : ¬ (12 < s.alive.length ∨ 30 < s.arcs.length)) (h2 : s.arcs.all (arcAlive s) = true) (h3 : s.arcs.all costOk = false) : shotErr s = 1 := by
  unfold shotErr; rw [if_neg h, if_neg (by simp [h2]), if_pos h3]
theorem shotErr_ok {s : SnapD} (h : ¬ (12 < s.alive.length ∨ 30 < s.arcs.length)) (h2 : s.arcs.all (arcAlive s) = true) (h3 : s.arcs.all costOk = true) : shotErr s = 0 := by
  unfold shotErr; rw [if_neg h, if_neg (by simp [h2]), if_neg (by simp [h3])]
structure ArcOk (s : SnapD) (a : ArcD) : Prop where
  a0 : 0 ≤ a.a
  a1 : a.a.toNat < s.alive.length
  al : s.alive[a.a.toNat]? = some true
  b0 : 0 ≤ a.b
  b1 : a.b.toNat < s.alive.length
  bl : s.alive[a.b.toNat]? = some true
  c0 : 0 ≤ a.cost
  c1 : a.cost ≤ 1000
structure SnapOk (s : SnapD) : Prop where
  nv : s.alive.length ≤ 12
  na : s.arcs.length ≤ 30
  arcs : ∀ a, a ∈ s.arcs → ArcOk s a
theorem snapOk_of {s : SnapD} (h : shotErr s = 0) : SnapOk s := by
  unfold shotErr at h
  split at h
  · simp at h
  · rename_i h1
    split at h
    · simp at h
    · rename_i h2
      split at h
      · simp at h
      · rename_i h3
        simp only [Bool.not_eq_false, List.all_eq_true] at h2 h3
        refine ⟨by omega, by omega, fun a ha => ?_⟩
        have k2 := h2 a ha
        have k3 := h3 a ha
        simp only [arcAlive, aliveAt, Bool.and_eq_true, decide_eq_true_eq, beq_iff_eq] at k2
        simp only [costOk, decide_eq_true_eq] at k3
        obtain ⟨⟨k4, k5⟩, k6, k7⟩ := k2
        exact ⟨k4, lt_of_get k5, k5, k6, lt_of_get k7, k7, k3.1, k3.2⟩

/-! ### ways -/
def arcF (wt : ArcD → Int) (a : ArcD) : Arc Nat := ⟨a.a.toNat, a.b.toNat, fun t => t + wt a⟩
def arcB (wt : ArcD → Int) (a : ArcD) : Arc Nat := ⟨a.b.toNat, a.a.toNat, fun t => t + wt a⟩
def arcsOf (s : SnapD) (wt : ArcD → Int) : List (Arc Nat) := s.arcs.map (arcF wt)
/-- The arcs as a set, perhaps either way round. -/
def ArcsP (s : SnapD) (wt : ArcD → Int) (back : Bool) (x : Arc Nat) : Prop := ∃ a, a ∈ s.arcs ∧ (x = arcF wt a ∨ back = true ∧ x = arcB wt a)
def wOne (_ : ArcD) : Int := 1
def wCost (a : ArcD) : Int := a.cost
def wZero (_ : ArcD) : Int := 0
def startD (s : SnapD) (v : Int) : List Int := (List.range s.alive.length).map fun (k : Nat) => if s.alive[k]? = some true ∧ (k : Int) = v then 0 else Far
def labelD (s : SnapD) : List Int := (List.range s.alive.length).map fun (k : Nat) => if s.alive[k]? = some true then (k : Int) else Far
theorem gi_range {n : Nat} {f : Nat → Int} {k : Nat} (h : k < n) : gi ((List.range n).map f) k = f k := gi_of (by simp [h])
theorem gi_range_far {n : Nat} {f : Nat → Int} {k : Nat} (h : n ≤ k) : gi ((List.range n).map f) k = 0 := gi_far (by simpa using h)
theorem mem_arcsOf {s : SnapD} {wt : ArcD → Int} : (fun x => x ∈ arcsOf s wt) = ArcsP s wt false := by
  funext x
  simp only [arcsOf, ArcsP, List.mem_map, eq_iff_iff]
  constructor
  · rintro ⟨a, h, rfl⟩; exact ⟨a, h, .inl rfl⟩
  · rintro ⟨a, h, rfl | ⟨h2, _⟩⟩
    · exact ⟨a, h, rfl⟩
    · simp at h2
theorem mono_add (n : Int) : Mono fun t => t + n := fun s t h => by simp only; omega
/-- The list tells the ways from a vertex. -/
def WaysL (s : SnapD) (wt : ArcD → Int) (v : Int) (l : List Int) : Prop := l.length = s.alive.length ∧ Best (ArcsP s wt false) (gi (startD s v)) (gi l)
def LabelsL (s : SnapD) (l : List Int) : Prop := l.length = s.alive.length ∧ Best (ArcsP s wZero true) (gi (labelD s)) (gi l)
theorem WaysL.eq {s : SnapD} {wt : ArcD → Int} {v : Int} {l r : List Int} (h : WaysL s wt v l) (k : WaysL s wt v r) : l = r := gi_ext (h.1.trans k.1.symm) (h.2.eq k.2)
theorem LabelsL.eq {s : SnapD} {l r : List Int} (h : LabelsL s l) (k : LabelsL s r) : l = r := gi_ext (h.1.trans k.1.symm) (h.2.eq k.2)
def outOf (v : Nat) : List ArcD → Int
  | [] => 0
  | a :: l => if a.a.toNat = v then outOf v l + 1 else outOf v l
def degreesD (s : SnapD) : List Int := (List.range s.alive.length).map fun (k : Nat) => if s.alive[k]? = some true then outOf k s.arcs else Far
def waysErr (s : SnapD) (v : Int) : Int := if shotErr s = 0 then (if 0 ≤ v ∧ v < s.alive.length then 0 else 4) else shotErr s
theorem waysErr_bad {s : SnapD} {v : Int} (h : ¬ shotErr s = 0) : waysErr s v = shotErr s := by unfold waysErr; rw [if_neg h]
theorem waysErr_none {s : SnapD} {v : Int} (h : shotErr s = 0) (h2 : ¬ (0 ≤ v ∧ v < s.alive.length)) : waysErr s v = 4 := by unfold waysErr; rw [if_pos h, if_neg h2]
theorem waysErr_ok {s : SnapD} {v : Int} (h : shotErr s = 0) (h2 : 0 ≤ v ∧ v < s.alive.length) : waysErr s v = 0 := by unfold waysErr; rw [if_pos h, if_pos h2]
theorem waysErr_0 {s : SnapD} {v : Int} (h : waysErr s v = 0) : shotErr s = 0 ∧ 0 ≤ v ∧ v < s.alive.length := by
  unfold waysErr at h
  split at h
  · rename_i h1
    split at h
    · rename_i h2; exact ⟨h1, h2⟩
    · simp at h
  · contradiction

/-! ### bounds -/
section
variable {s : SnapD} {v : Int}
theorem start_big (s : SnapD) (v : Int) (i : Nat) : gi (startD s v) i ≤ Far := by
  by_cases h : i < s.alive.length
  · unfold startD; rw [gi_range h]; split <;> simp [Far]
  · unfold startD; rw [gi_range_far (by omega)]; simp [Far]
theorem label_big (s : SnapD) (hn : s.alive.length ≤ 12) (i : Nat) : gi (labelD s) i ≤ Far := by
  by_cases h : i < s.alive.length
  · unfold labelD; rw [gi_range h]; split <;> (simp only [Far]; omega)
  · unfold labelD; rw [gi_range_far (by omega)]; simp [Far]
theorem start_pos (s : SnapD) (v : Int) (i : Nat) : 0 ≤ gi (startD s v) i := by
  by_cases h : i < s.alive.length
  · unfold startD; rw [gi_range h]; split <;> simp [Far]
  · unfold startD; rw [gi_range_far (by omega)]; simp
theorem label_pos (s : SnapD) (i : Nat) : 0 ≤ gi (labelD s) i := by
  by_cases h : i < s.alive.length
  · unfold labelD; rw [gi_range h]; split <;> first | (unfold Far; omega) | omega
  · unfold labelD; rw [gi_range_far (by omega)]; simp
/-- Nothing is told below nought. -/
theorem above_pos {ι : Type} {A : Arc ι → Prop} {init d : ι → Int} (h : Above A init d) (hi : ∀ i, 0 ≤ init i) (hf : ∀ x, A x → 0 ≤ x.f 0) : ∀ i, 0 ≤ d i :=
  h (fun _ => 0) ⟨hi, fun x hx => hf x hx⟩
end
end Go.Proofs.Ytcfachfldanddaa
/- The walks of the checks of a snapshot, the program's and the document's. -/
namespace Go.Proofs.Ytcfachfldanddaa
open Go.RowKit

abbrev arcV (x : ArcD) : Value := .agg #[.int .i64 x.a, .int .i64 x.b, .int .i64 x.cost]
abbrev snapC (A : Option Addr) (c : Nat) (A' : Option Addr) (c' : Nat) (s : SnapD) : Array Value := #[.slice A s.alive.length c, .slice A' s.arcs.length c']
theorem aliveAt_neg {s : SnapD} {v : Int} (h : ¬ 0 ≤ v) : aliveAt s v = false := by simp [aliveAt]; omega
theorem aliveAt_far {s : SnapD} {v : Int} (h : (s.alive.length : Int) ≤ v) : aliveAt s v = false := by
  simp only [aliveAt, Bool.and_eq_false_iff]
  right
  rw [List.getElem?_eq_none (by omega)]; rfl
theorem aliveAt_in {s : SnapD} {v : Int} {b : Bool} (h : 0 ≤ v) (h2 : s.alive[v.toNat]? = some b) : aliveAt s v = b := by simp [aliveAt, h, h2]

theorem aliveAt_known {s : SnapD} {v : Int} (h : aliveAt s v = true) : 0 ≤ v ∧ v.toNat < s.alive.length ∧ s.alive[v.toNat]? = some true := by
  simp only [aliveAt, Bool.and_eq_true, decide_eq_true_eq, beq_iff_eq] at h
  exact ⟨h.1, lt_of_get h.2, h.2⟩
end Go.Proofs.Ytcfachfldanddaa
/- The plain law of PlainWays: what greatest solutions, labels and degrees have in common; no program in sight. -/
namespace Go.Proofs.Ytcfachfldanddaa

theorem count_more {p q : Nat → Bool} (h : ∀ u, p u = true → q u = true) : ∀ (l : List Nat), (∃ u, u ∈ l ∧ q u = true ∧ p u = false) → l.countP p + 1 ≤ l.countP q
  | [], ⟨u, hu, _⟩ => by simp at hu
  | x :: l, ⟨u, hu, h1, h2⟩ => by
    have hle : l.countP p ≤ l.countP q := List.countP_mono_left fun y _ hy => h y hy
    rcases List.mem_cons.1 hu with rfl | hu
    · simp [h1, h2]; omega
    · have ih := count_more h l ⟨u, hu, h1, h2⟩
      have hx := h x
      cases hp : p x <;> cases hq : q x <;> simp [hp, hq] <;> simp [hp, hq] at hx <;> omega

section
variable {s : SnapD} {v : Int} {c h lb : List Int}
theorem ways_big {wt : ArcD → Int} (hc : WaysL s wt v c) (i : Nat) : gi c i ≤ Far := Int.le_trans (hc.2.1.1 i) (start_big s v i)
theorem ways_pos {wt : ArcD → Int} (hw : ∀ a, a ∈ s.arcs → 0 ≤ wt a) (hc : WaysL s wt v c) (i : Nat) : 0 ≤ gi c i :=
  above_pos hc.2.2 (start_pos s v) (fun x hx => by
    obtain ⟨a, ha, rfl | ⟨hb, _⟩⟩ := hx
    · have := hw a ha; simp only [arcF]; omega
    · simp at hb) i
theorem start_val {i : Nat} (hi : i < s.alive.length) : gi (startD s v) i = if s.alive[i]? = some true ∧ (i : Int) = v then 0 else Far := by unfold startD; rw [gi_range hi]
theorem label_val {i : Nat} (hi : i < s.alive.length) : gi (labelD s) i = if s.alive[i]? = some true then (i : Int) else Far := by unfold labelD; rw [gi_range hi]
theorem ways_arc {wt : ArcD → Int} (hc : WaysL s wt v c) {a : ArcD} (ha : a ∈ s.arcs) : gi c a.b.toNat ≤ gi c a.a.toNat + wt a := hc.2.1.2 (arcF wt a) ⟨a, ha, .inl rfl⟩
theorem ways_tight {wt : ArcD → Int} (hc : WaysL s wt v c) {k : Nat} (hk : gi c k < gi (startD s v) k) : ∃ a, a ∈ s.arcs ∧ a.b.toNat = k ∧ gi c a.a.toNat + wt a = gi c k := by
  obtain ⟨x, ⟨a, ha, rfl | ⟨hb, _⟩⟩, h1, h2⟩ := hc.2.tight (fun x hx => by
    obtain ⟨a, ha, rfl | ⟨hb, _⟩⟩ := hx
    · exact mono_add _
    · simp at hb) hk
  · exact ⟨a, ha, h1, h2⟩
  · simp at hb
theorem start_low {k : Nat} {x : Int} (hk : k < s.alive.length) (h0 : 0 < x) (h1 : x < Far) (h2 : x ≤ gi (startD s v) k) : x < gi (startD s v) k := by
  rw [start_val hk] at h2 ⊢
  split at h2
  · omega
  · rename_i hn; rw [if_neg hn]; exact h1
theorem hops_down (hs : SnapOk s) (hh : WaysL s wOne v h) (m : Nat) : ∀ (k : Nat), k < s.alive.length → gi h k = m → (m : Int) < Far → ∀ j, j ≤ m → ∃ u, u < s.alive.length ∧ gi h u = (j : Int) := by
  induction m with
  | zero => exact fun k hk he _ j hj => ⟨k, hk, by rw [he]; omega⟩
  | succ m ih =>
    intro k hk he hm j hj
    by_cases e : j = m + 1
    · exact ⟨k, hk, by rw [he, e]⟩
    · obtain ⟨a, ha, h1, h2⟩ := ways_tight hh (start_low hk (by rw [he]; omega) (by rw [he]; exact hm) (hh.2.1.1 k))
      have hp : gi h a.a.toNat = (m : Int) := by simp only [wOne] at h2; rw [he] at h2; omega
      exact ih a.a.toNat (hs.arcs a ha).a1 hp (by omega) j (by omega)
theorem hops_few (hs : SnapOk s) (hh : WaysL s wOne v h) {k : Nat} (hk : k < s.alive.length) (hf : gi h k < Far) : gi h k < s.alive.length := by
  have h0 := ways_pos (fun _ _ => by simp [wOne]) hh k
  obtain ⟨m, hm⟩ : ∃ m : Nat, gi h k = m := ⟨(gi h k).toNat, by omega⟩
  have hc : ∀ j, j ≤ m → j + 1 ≤ (List.range s.alive.length).countP fun u => decide (gi h u ≤ j) := by
    intro j
    induction j with
    | zero =>
      intro _
      obtain ⟨u, hu, he⟩ := hops_down hs hh m k hk hm (by omega) 0 (by omega)
      have : 0 < (List.range s.alive.length).countP fun u => decide (gi h u ≤ (0 : Nat)) := List.countP_pos_iff.2 ⟨u, by simpa using hu, by simp [he]⟩
      omega
    | succ j ih =>
      intro hj
      obtain ⟨u, hu, he⟩ := hops_down hs hh m k hk hm (by omega) (j + 1) hj
      have := count_more (p := fun u => decide (gi h u ≤ (j : Int))) (q := fun u => decide (gi h u ≤ ((j + 1 : Nat) : Int))) (fun u hu => by simp at hu ⊢; omega) (List.range s.alive.length)
        ⟨u, by simpa using hu, by simp [he], by simp [he]; omega⟩
      have := ih (by omega)
      omega
  have h1 := hc m (Nat.le_refl _)
  have h2 : (List.range s.alive.length).countP (fun u => decide (gi h u ≤ (m : Int))) ≤ (List.range s.alive.length).length := List.countP_le_length
  simp only [List.length_range] at h2
  omega
theorem cost_of_hops (hs : SnapOk s) (hc : WaysL s wCost v c) (hh : WaysL s wOne v h) (m : Nat) : ∀ (k : Nat), k < s.alive.length → gi h k = m → (m : Int) < Far → gi c k ≤ 1000 * m := by
  induction m with
  | zero =>
    intro k hk he _
    have h1 := hh.2.1.1 k
    rw [he, start_val hk] at h1
    have h2 := hc.2.1.1 k
    rw [start_val hk] at h2
    by_cases hz : gi h k = gi (startD s v) k
    · rw [he, start_val hk] at hz
      split at hz
      · rename_i hp; rw [if_pos hp] at h2; omega
      · simp [Far] at hz
    · have hlt : gi h k < gi (startD s v) k := by have := hh.2.1.1 k; omega
      obtain ⟨a, ha, h3, h4⟩ := ways_tight hh hlt
      have := ways_pos (fun _ _ => by simp [wOne]) hh a.a.toNat
      simp only [wOne] at h4
      omega
  | succ m ih =>
    intro k hk he hm
    obtain ⟨a, ha, h1, h2⟩ := ways_tight hh (start_low hk (by rw [he]; omega) (by rw [he]; exact hm) (hh.2.1.1 k))
    have hp : gi h a.a.toNat = (m : Int) := by simp only [wOne] at h2; rw [he] at h2; omega
    have ih := ih a.a.toNat (hs.arcs a ha).a1 hp (by omega)
    have h3 := ways_arc hc ha
    have h4 := (hs.arcs a ha).c1
    rw [h1] at h3
    simp only [wCost] at h3
    omega
theorem ways_far_iff (hs : SnapOk s) (hc : WaysL s wCost v c) (hh : WaysL s wOne v h) {k : Nat} (hk : k < s.alive.length) : gi c k = Far ↔ gi h k = Far := by
  constructor
  · intro he
    have hb := ways_big hh k
    refine Classical.byContradiction fun hn => ?_
    have hlt : gi h k < Far := by omega
    have h1 := hops_few hs hh hk hlt
    have h0 := ways_pos (fun _ _ => by simp [wOne]) hh k
    have h2 := cost_of_hops hs hc hh (gi h k).toNat k hk (by omega) (by omega)
    have h3 := hs.nv
    rw [he] at h2
    simp only [Far] at h2
    omega
  · intro he
    refine hc.2.far (I := Far) (ways_big hc) ?_ ?_ (fun i => gi h i = Far) ?_ ?_ k he
    · rintro x ⟨a, ha, rfl | ⟨hb, _⟩⟩
      · exact mono_add _
      · simp at hb
    · rintro x ⟨a, ha, rfl | ⟨hb, _⟩⟩
      · have := (hs.arcs a ha).c0; simp only [arcF, wCost]; omega
      · simp at hb
    · rintro x ⟨a, ha, rfl | ⟨hb, _⟩⟩ hx
      · simp only [arcF] at hx ⊢
        have h1 := ways_arc hh ha
        have hb := ways_big hh a.a.toNat
        refine Classical.byContradiction fun hn => ?_
        have h2 := hops_few hs hh (hs.arcs a ha).a1 (by omega)
        have h3 := hs.nv
        rw [hx] at h1
        simp only [wOne, Far] at h1
        omega
      · simp at hb
    · intro i hi
      have := hh.2.1.1 i
      omega
theorem labels_arc (hl : LabelsL s lb) {a : ArcD} (ha : a ∈ s.arcs) : gi lb a.a.toNat = gi lb a.b.toNat := by
  have h1 := hl.2.1.2 (arcF wZero a) ⟨a, ha, .inl rfl⟩
  have h2 := hl.2.1.2 (arcB wZero a) ⟨a, ha, .inr ⟨rfl, rfl⟩⟩
  simp only [arcF, arcB, wZero] at h1 h2
  omega
theorem ways_label (hs : SnapOk s) (hc : WaysL s wCost v c) (hl : LabelsL s lb) {k : Nat} (hk : k < s.alive.length) (hf : gi c k < Far) : gi lb k = gi lb v.toNat := by
  refine Classical.byContradiction fun hn => ?_
  have := hc.2.far (I := Far) (ways_big hc) (by
      rintro x ⟨a, ha, rfl | ⟨hb, _⟩⟩
      · exact mono_add _
      · simp at hb) (by
      rintro x ⟨a, ha, rfl | ⟨hb, _⟩⟩
      · have := (hs.arcs a ha).c0; simp only [arcF, wCost]; omega
      · simp at hb) (fun i => i < s.alive.length ∧ ¬ gi lb i = gi lb v.toNat) (by
      rintro x ⟨a, ha, rfl | ⟨hb, _⟩⟩ hx
      · simp only [arcF] at hx ⊢
        exact ⟨(hs.arcs a ha).a1, by rw [labels_arc hl ha]; exact hx.2⟩
      · simp at hb) (by
      rintro i ⟨hi, hne⟩
      rw [start_val hi]
      split
      · rename_i hp
        exact absurd (by rw [show i = v.toNat by omega]) hne
      · exact Int.le_refl _) k ⟨hk, hn⟩
  omega
theorem ways_by (hs : SnapOk s) (hc : WaysL s wCost v c) {k : Nat} (hk : k < s.alive.length) (hf : gi c k < Far) (hv : ¬ (k : Int) = v) : ∃ a, a ∈ s.arcs ∧ a.b = k ∧ gi c a.a.toNat < Far ∧ gi c a.a.toNat + a.cost = gi c k := by
  obtain ⟨a, ha, h1, h2⟩ := ways_tight hc (k := k) (by rw [start_val hk, if_neg (fun h => hv h.2)]; exact hf)
  have ho := hs.arcs a ha
  have h3 := ho.b0; have h4 := ho.c0
  simp only [wCost] at h2
  exact ⟨a, ha, by omega, by omega, h2⟩
theorem labels_dead (hs : SnapOk s) (hl : LabelsL s lb) {k : Nat} (hk : k < s.alive.length) : (gi lb k = Far ↔ ¬ s.alive[k]? = some true) ∧ (¬ gi lb k = Far → gi lb k ≤ k) := by
  have h1 := hl.2.1.1 k
  rw [label_val hk] at h1
  have h2 := hs.nv
  by_cases ha : s.alive[k]? = some true
  · rw [if_pos ha] at h1
    exact ⟨⟨fun e => by rw [e] at h1; simp only [Far] at h1; omega, fun e => absurd ha e⟩, fun _ => h1⟩
  · have hd : gi lb k = Far := by
      refine hl.2.far (I := Far) (fun i => Int.le_trans (hl.2.1.1 i) (label_big s hs.nv i)) ?_ ?_ (fun i => i < s.alive.length ∧ ¬ s.alive[i]? = some true) ?_ ?_ k ⟨hk, ha⟩
      · rintro x ⟨a, _, rfl | ⟨_, rfl⟩⟩ <;> exact mono_add _
      · rintro x ⟨a, _, rfl | ⟨_, rfl⟩⟩ <;> simp [arcF, arcB, wZero]
      · rintro x ⟨a, hm, rfl | ⟨_, rfl⟩⟩ hx
        · exact absurd (hs.arcs a hm).bl hx.2
        · exact absurd (hs.arcs a hm).al hx.2
      · rintro i ⟨hi, hn⟩
        rw [label_val hi, if_neg hn]
        exact Int.le_refl _
    exact ⟨⟨fun _ => ha, fun _ => hd⟩, fun hn => absurd hd hn⟩
theorem outOf_bound (k : Nat) : ∀ l : List ArcD, 0 ≤ outOf k l ∧ outOf k l ≤ l.length
  | [] => by simp [outOf]
  | a :: l => by
    have := outOf_bound k l
    unfold outOf
    split <;> simp <;> omega
theorem degree_val {k : Nat} (hk : k < s.alive.length) : gi (degreesD s) k = if s.alive[k]? = some true then outOf k s.arcs else Far := by unfold degreesD; rw [gi_range hk]
theorem degree_far (hs : SnapOk s) {k : Nat} (hk : k < s.alive.length) : gi (degreesD s) k = Far ↔ ¬ s.alive[k]? = some true := by
  rw [degree_val hk]
  have h1 := outOf_bound k s.arcs
  have h2 := hs.na
  split
  · rename_i ha
    exact ⟨fun e => by simp only [Far] at e; omega, fun e => absurd ha e⟩
  · rename_i ha; exact ⟨fun _ => ha, fun _ => rfl⟩
/-- The sum of the degrees that are told. -/
def sumNear : List Int → Int
  | [] => 0
  | d :: l => (if d = Far then 0 else d) + sumNear l
theorem sumNear_append : ∀ (l r : List Int), sumNear (l ++ r) = sumNear l + sumNear r
  | [], r => by simp [sumNear]
  | x :: l, r => by simp only [List.cons_append, sumNear, sumNear_append l r]; omega
theorem sum_point {f g : Nat → Int} {j : Nat} (hf : ∀ k, ¬ k = j → f k = g k) (hj : sumNear [f j] = sumNear [g j] + 1) : ∀ n, j < n → sumNear ((List.range n).map f) = sumNear ((List.range n).map g) + 1 := by
  have hlow : ∀ n, n ≤ j → sumNear ((List.range n).map f) = sumNear ((List.range n).map g) := by
    intro n
    induction n with
    | zero => intro _; rfl
    | succ n ih =>
      intro h
      rw [List.range_succ, List.map_append, List.map_append, sumNear_append, sumNear_append, ih (by omega)]
      simp [hf n (by omega)]
  intro n
  induction n with
  | zero => intro h; omega
  | succ n ih =>
    intro h
    rw [List.range_succ, List.map_append, List.map_append, sumNear_append, sumNear_append]
    by_cases e : j = n
    · subst e
      rw [hlow j (Nat.le_refl _)]
      simp only [List.map_cons, List.map_nil]
      omega
    · rw [ih (by omega)]
      simp only [List.map_cons, List.map_nil, hf n (by omega)]
      omega
theorem sum_degrees (n : Nat) (al : List Bool) (hn : al.length = n) : ∀ (l : List ArcD), l.length ≤ 30 → (∀ a, a ∈ l → a.a.toNat < n ∧ al[a.a.toNat]? = some true) →
    sumNear ((List.range n).map fun k => if al[k]? = some true then outOf k l else Far) = l.length
  | [], _, _ => by
    have : ∀ m, sumNear ((List.range m).map fun k => if al[k]? = some true then outOf k [] else Far) = 0 := by
      intro m
      induction m with
      | zero => rfl
      | succ m ih =>
        rw [List.range_succ, List.map_append, sumNear_append, ih]
        simp only [List.map_cons, List.map_nil, sumNear, outOf]
        split <;> simp [Far]
    simpa using this n
  | a :: l, hl, ha => by
    obtain ⟨h1, h2⟩ := ha a (by simp)
    have ih := sum_degrees n al hn l (by simp at hl; omega) fun b hb => ha b (by simp [hb])
    have hb := outOf_bound a.a.toNat l
    have := sum_point (f := fun k => if al[k]? = some true then outOf k (a :: l) else Far) (g := fun k => if al[k]? = some true then outOf k l else Far) (j := a.a.toNat) (fun k hk => by
      simp only [outOf, if_neg (fun e : a.a.toNat = k => hk e.symm)]) (by
      simp only [sumNear, if_pos h2, outOf, if_true]
      have e1 : ¬ outOf a.a.toNat l + 1 = Far := by simp only [Far]; simp at hl; omega
      have e2 : ¬ outOf a.a.toNat l = Far := by simp only [Far]; simp at hl; omega
      rw [if_neg e1, if_neg e2]
      omega) n h1
    rw [this, ih]
    simp
theorem degrees_sum (hs : SnapOk s) : sumNear (degreesD s) = s.arcs.length :=
  sum_degrees s.alive.length s.alive rfl s.arcs hs.na fun a ha => ⟨(hs.arcs a ha).a1, (hs.arcs a ha).al⟩
end
/-- The row of three vertices. -/
def rowD : SnapD := ⟨[true, true, true], [⟨0, 1, 4⟩, ⟨1, 2, 5⟩]⟩
theorem row_ways {l : List Int} (h : WaysL rowD wCost 0 l) : l = [0, 4, 9] := by
  refine h.eq ⟨rfl, ⟨fun i => ?_, ?_⟩, fun e he i => ?_⟩
  · match i with
    | 0 => decide
    | 1 => decide
    | 2 => decide
    | n + 3 => rw [gi_far (by simp), gi_far (by simp [startD, rowD])]; exact Int.le_refl _
  · rintro x ⟨a, ha, rfl | ⟨hb, _⟩⟩
    · simp [rowD] at ha
      rcases ha with rfl | rfl <;> decide
    · simp at hb
  · have h0 := he.1 0
    have h1 := he.2 (arcF wCost ⟨0, 1, 4⟩) ⟨_, by simp [rowD], .inl rfl⟩
    have h2 := he.2 (arcF wCost ⟨1, 2, 5⟩) ⟨_, by simp [rowD], .inl rfl⟩
    have e0 : gi (startD rowD 0) 0 = 0 := by decide
    simp [arcF, wCost] at h1 h2
    match i with
    | 0 => show e 0 ≤ 0; omega
    | 1 => show e 1 ≤ 4; omega
    | 2 => show e 2 ≤ 9; omega
    | n + 3 =>
      have := he.1 (n + 3)
      rw [gi_far (by simp [startD, rowD])] at this
      rw [gi_far (by simp)]
      exact this
end Go.Proofs.Ytcfachfldanddaa
