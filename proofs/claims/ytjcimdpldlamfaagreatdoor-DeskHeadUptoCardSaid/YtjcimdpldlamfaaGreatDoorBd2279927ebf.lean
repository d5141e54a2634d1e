/- Several texts in one: EarlyF, CostSpec, FillSpec, LeastSpec, Tab. -/
import Derived.IntWalk
import Derived.Maps.OwnSet
import Derived.DeepKeys4
import Derived.Test.YtjcimdpldlamfaaGreatDoorBdcbb4f396b9
import Derived.Test.YtjcimdpldlamfaaGreatDoorBd19914bea13
import Derived.Test.YtjcimdpldlamfaaGreatDoorBd002cafd2b4
/- The walks of the first and of the last hop along an edge. -/
namespace Go.Proofs.YtjcimdpldlamfaaGreatDoor
open Go.RowKit

theorem arrive_yes {A A' L : Option Addr} {c c' cl : Nat} {g : GraphD} {x : EdgeD} {t to : Int} {l : LegD} (w : World) (hG : GraphAt w A c A' c' g) (hV : Valid g) (hx : EdgeOk g x) (hL : SlAt RLeg 4 w L x.legs) (hl : x.legs.length ≤ maxLen) (ht : I64 t) (h : arrive g x t = some (l, to)) :
  Calls Tryz.prog 98 #[gV A c A' c' g, edgeV L cl x, .int .i64 t] w fun e w' => e = .returned (.tuple #[legV l, .int .i64 to, .bool true]) ∧ Below w.heap.size w w' :=
 (arrive_any A A' L c c' cl g x t w hG hV hx hL hl ht).mono fun e w' ⟨he, hb⟩ => ⟨by rw [he, h]; rfl, hb⟩
theorem arrive_not {A A' L : Option Addr} {c c' cl : Nat} {g : GraphD} {x : EdgeD} {t : Int} (w : World) (hG : GraphAt w A c A' c' g) (hV : Valid g) (hx : EdgeOk g x) (hL : SlAt RLeg 4 w L x.legs) (hl : x.legs.length ≤ maxLen) (ht : I64 t) (h : arrive g x t = none) :
  Calls Tryz.prog 98 #[gV A c A' c' g, edgeV L cl x, .int .i64 t] w fun e w' => e = .returned (.tuple #[legV ⟨0, 0, 0, 0⟩, .int .i64 0, .bool false]) ∧ Below w.heap.size w w' :=
 (arrive_any A A' L c c' cl g x t w hG hV hx hL hl ht).mono fun e w' ⟨he, hb⟩ => ⟨by rw [he, h]; rfl, hb⟩
abbrev edgeC (L : Option Addr) (cl : Nat) (x : EdgeD) : Array Value := #[.int .i64 x.a, .int .i64 x.b, .slice L x.legs.length cl]
theorem results3 {fn : Func} {t u v : Tmp} (h : fn.results = #[.tmp t, .tmp u, .tmp v]) (tmps : Array Value) (P : Program) (w : World) :
  (results fn tmps).run P w = .ok (.tuple #[tmps.getD t undef, tmps.getD u undef, tmps.getD v undef]) w := by simp [results, h]
/-- The three results of first. -/
def firstR (o : Option (Int × Int)) : Value := match o with
 | some p => .tuple #[.int .i64 p.1, .int .i64 p.2, .bool true]
 | none => .tuple #[.int .i64 0, .int .i64 0, .bool false]
/-- The three variables of the loop: what is best, when one leaves, whether there is one. -/
def FState (o : Option (Int × Int)) (b d f : Value) : Prop := match o with
 | some p => b = .int .i64 p.2 ∧ d = .int .i64 p.1 ∧ f = .bool true
 | none => b = .int .i64 0 ∧ d = .int .i64 0 ∧ f = .bool false
theorem firstL_end {g : GraphD} {x : EdgeD} {d : Int} {o : Option (Int × Int)} {n : Nat} (h : n = 0) : firstL g x n d o = o := by subst h; rfl
theorem firstL_go {g : GraphD} {x : EdgeD} {d : Int} {o : Option (Int × Int)} {n : Nat} (h : 0 < n) : firstL g x n d o = firstL g x (n - 1) (d + 1) (fstep g x o d) := by
 cases n with
 | zero => omega
 | succ n => rfl

set_option maxRecDepth 100000 in
set_option maxHeartbeats 4000000 in
theorem first_any (A A' L : Option Addr) (c c' cl : Nat) (g : GraphD) (x : EdgeD) (t : Int) (w : World) (hG : GraphAt w A c A' c' g) (hV : Valid g) (hx : EdgeOk g x) (hL : SlAt RLeg 4 w L x.legs) (hl : x.legs.length ≤ maxLen) (ht0 : 0 ≤ t) (ht1 : t ≤ 100) :
  Calls Tryz.prog 140 #[gV A c A' c' g, edgeV L cl x, .int .i64 t] w fun e w' => e = .returned (firstR (first g x t)) ∧ Below w.heap.size w w' := by
 have hh1 := hV.h1
 have hh0 := hV.h0
 go_enter Tryz.func140, Tryz.ntmps140
 go_wp2_with fail
 go_loopw [9, 10, 11, 12] (fun vb vd vf vt wr => ∃ (d : Int) (o : Option (Int × Int)), t ≤ d ∧ d ≤ 100 ∧ vt = .int .i64 d ∧ Hid (FState o vb vd vf) ∧ Hid (firstL g x (g.h - d).toNat d o = first g x t) ∧ Hid (∀ p q, o = some (p, q) → p ≤ 100 ∧ q ≤ 100) ∧
   Blk wr w.heap.size 68 (gC A c A' c' g) ∧ Blk wr (w.heap.size + 1) 97 (edgeC L cl x) ∧ Below w.heap.size w wr)
  (fun _ _ _ vt _ => (100 - intOf vt).toNat)
 case atStart => exact ⟨t, none, Int.le_refl _, ht1, rfl, Lib.hid ⟨rfl, rfl, rfl⟩, Lib.hid rfl, Lib.hid (fun p q h => by simp at h), (Blk.new _ _ _).alloc _, Blk.new_ (by simp), by go_grown⟩
 case round =>
  obtain ⟨d, o, hd0, hd1, rfl, HS, HF, HO, B0, B1, hb⟩ := hrel
  obtain ⟨c1, c2, c3⟩ := B0.facts
  obtain ⟨e1, e2, e3⟩ := B1.facts
  by_cases hlt : d < g.h
  case neg =>
   have HE : Hid (o = first g x t) := Lib.hid ((firstL_end (by omega)).symm.trans HF.out)
   cases o with
   | none =>
    obtain ⟨rfl, rfl, rfl⟩ := HS.out
    go_wp2_with fail
    refine bodyPost_ret (results3 rfl _ _ _) rfl ?_
    exact ⟨by rw [← HE.out]; rfl, hb⟩
   | some p =>
    obtain ⟨p, q⟩ := p
    obtain ⟨rfl, rfl, rfl⟩ := HS.out
    go_wp2_with fail
    refine bodyPost_ret (results3 rfl _ _ _) rfl ?_
    exact ⟨by rw [← HE.out]; rfl, hb⟩
  have HN : Hid (firstL g x (g.h - (d + 1)).toNat (d + 1) (fstep g x o d) = first g x t) := Lib.hid (by
   rw [← HF.out, firstL_go (n := (g.h - d).toNat) (by omega), show (g.h - d).toNat - 1 = (g.h - (d + 1)).toNat by omega])
  have hw1 : IntKind.i64.wrap (d + 1) = d + 1 := IntWalk.i64_in _ (by omega)
  clear HF
  cases ha : arrive g x d with
  | none =>
   have HA := Lib.hid ha
   rw [fstep_no ha] at HN
   clear ha
   cases o with
   | none =>
    obtain ⟨rfl, rfl, rfl⟩ := HS.out
    go_wp2_with fail
    refine (arrive_not _ (hG.ext hb) hV hx (hL.ext RLeg.stable hb) hl ⟨by omega, by omega⟩ HA.out).mono ?_
    rintro e w1 ⟨rfl, hb1⟩
    have B0 := B0.ext hb1
    have B1 := B1.ext hb1
    have hb := ext_trans hb hb1
    go_wp2_with fail
    go_roundw
    case rel => exact ⟨d + 1, none, by omega, by omega, by go_num, HS, HN, HO, B0.alloc _, B1.alloc _, ext_alloc hb _⟩
    case measure => simp [intOf]; omega
   | some p =>
    obtain ⟨p, q⟩ := p
    obtain ⟨rfl, rfl, rfl⟩ := HS.out
    go_wp2_with fail
    refine (arrive_not _ (hG.ext hb) hV hx (hL.ext RLeg.stable hb) hl ⟨by omega, by omega⟩ HA.out).mono ?_
    rintro e w1 ⟨rfl, hb1⟩
    have B0 := B0.ext hb1
    have B1 := B1.ext hb1
    have hb := ext_trans hb hb1
    go_wp2_with fail
    go_roundw
    case rel => exact ⟨d + 1, some (p, q), by omega, by omega, by go_num, HS, HN, HO, B0.alloc _, B1.alloc _, ext_alloc hb _⟩
    case measure => simp [intOf]; omega
  | some p =>
   obtain ⟨lg, to⟩ := p
   have HA := Lib.hid ha
   have hto := arrive_late hV hx ha
   obtain ⟨hto0, hto1, hto2, hto3⟩ := hto
   cases o with
   | none =>
    rw [fstep_new ha] at HN
    clear ha
    obtain ⟨rfl, rfl, rfl⟩ := HS.out
    go_wp2_with fail
    refine (arrive_yes _ (hG.ext hb) hV hx (hL.ext RLeg.stable hb) hl ⟨by omega, by omega⟩ HA.out).mono ?_
    rintro e w1 ⟨rfl, hb1⟩
    have B0 := B0.ext hb1
    have B1 := B1.ext hb1
    have hb := ext_trans hb hb1
    go_wp2_with fail
    go_roundw
    case rel => exact ⟨d + 1, some (d, to), by omega, by omega, by go_num, Lib.hid ⟨rfl, rfl, rfl⟩, HN, Lib.hid (fun p q h => by simp only [Option.some.injEq, Prod.mk.injEq] at h; omega), B0.alloc _, B1.alloc _, ext_alloc hb _⟩
    case measure => simp [intOf]; omega
   | some p =>
    obtain ⟨p, q⟩ := p
    obtain ⟨rfl, rfl, rfl⟩ := HS.out
    by_cases hq : to < q
    case pos =>
     rw [fstep_less ha hq] at HN
     have hqd : decide (to < q) = true := by simpa using hq
     clear ha
     go_wp2_with fail
     refine (arrive_yes _ (hG.ext hb) hV hx (hL.ext RLeg.stable hb) hl ⟨by omega, by omega⟩ HA.out).mono ?_
     rintro e w1 ⟨rfl, hb1⟩
     have B0 := B0.ext hb1
     have B1 := B1.ext hb1
     have hb := ext_trans hb hb1
     go_wp2_with fail
     go_roundw
     case rel => exact ⟨d + 1, some (d, to), by omega, by omega, by go_num, Lib.hid ⟨rfl, rfl, rfl⟩, HN, Lib.hid (fun p q h => by simp only [Option.some.injEq, Prod.mk.injEq] at h; omega), B0.alloc _, B1.alloc _, ext_alloc hb _⟩
     case measure => simp [intOf]; omega
    case neg =>
     rw [fstep_more ha hq] at HN
     have hqd : decide (to < q) = false := by simpa using hq
     clear ha
     go_wp2_with fail
     refine (arrive_yes _ (hG.ext hb) hV hx (hL.ext RLeg.stable hb) hl ⟨by omega, by omega⟩ HA.out).mono ?_
     rintro e w1 ⟨rfl, hb1⟩
     have B0 := B0.ext hb1
     have B1 := B1.ext hb1
     have hb := ext_trans hb hb1
     go_wp2_with fail
     go_roundw
     case rel => exact ⟨d + 1, some (p, q), by omega, by omega, by go_num, HS, HN, HO, B0.alloc _, B1.alloc _, ext_alloc hb _⟩
     case measure => simp [intOf]; omega

set_option maxRecDepth 100000 in
set_option maxHeartbeats 4000000 in
theorem last_any (A A' L : Option Addr) (c c' cl : Nat) (g : GraphD) (x : EdgeD) (t : Int) (w : World) (hG : GraphAt w A c A' c' g) (hV : Valid g) (hx : EdgeOk g x) (hL : SlAt RLeg 4 w L x.legs) (hl : x.legs.length ≤ maxLen) :
  Calls Tryz.prog 110 #[gV A c A' c' g, edgeV L cl x, .int .i64 t] w fun e w' => e = .returned (.int .i64 (lastT g x t)) ∧ Below w.heap.size w w' := by
 have hh1 := hV.h1
 have hh0 := hV.h0
 have hw0 : IntKind.i64.wrap (g.h - 1) = g.h - 1 := IntWalk.i64_in _ (by omega)
 go_enter Tryz.func110, Tryz.ntmps110
 go_wp2_with fail
 go_loopw [7] (fun vt wr => ∃ n : Nat, n ≤ 100 ∧ vt = .int .i64 ((n : Int) - 1) ∧ Hid (lastL g x t n = lastT g x t) ∧
   Blk wr w.heap.size 68 (gC A c A' c' g) ∧ Blk wr (w.heap.size + 1) 97 (edgeC L cl x) ∧ Below w.heap.size w wr)
  (fun vt _ => (intOf vt + 1).toNat)
 case atStart => exact ⟨g.h.toNat, by omega, by congr 1; omega, Lib.hid rfl, (Blk.new _ _ _).alloc _, Blk.new_ (by simp), by go_grown⟩
 case round =>
  obtain ⟨n, hn, rfl, HF, B0, B1, hb⟩ := hrel
  obtain ⟨c1, c2, c3⟩ := B0.facts
  obtain ⟨e1, e2, e3⟩ := B1.facts
  cases n with
  | zero =>
   have HE : Hid (lastT g x t = -1) := Lib.hid (HF.out.symm)
   have hge : decide ((((0 : Nat) : Int) - 1) ≥ 0) = false := by decide
   go_wp2_with fail
   go_ret
   exact ⟨ret_int HE.out.symm, hb⟩
  | succ n =>
   have hs : (((n + 1 : Nat) : Int) - 1) = n := by omega
   rw [hs]
   have hw1 : IntKind.i64.wrap ((n : Int) - 1) = (n : Int) - 1 := IntWalk.i64_in _ (by omega)
   cases ha : arrive g x n with
   | none =>
    have HA := Lib.hid ha
    rw [lastL_no ha] at HF
    clear ha hs
    go_wp2_with fail
    refine (arrive_not _ (hG.ext hb) hV hx (hL.ext RLeg.stable hb) hl ⟨by omega, by omega⟩ HA.out).mono ?_
    rintro e w1 ⟨rfl, hb1⟩
    have B0 := B0.ext hb1
    have B1 := B1.ext hb1
    have hb := ext_trans hb hb1
    go_wp2_with fail
    go_roundw
    case rel => exact ⟨n, by omega, rfl, HF, B0.alloc _, B1.alloc _, ext_alloc hb _⟩
    case measure => simp [intOf]
   | some p =>
    obtain ⟨lg, to⟩ := p
    have HA := Lib.hid ha
    by_cases hle : to ≤ t
    case pos =>
     rw [lastL_yes ha hle] at HF
     have hld : decide (to ≤ t) = true := by simpa using hle
     clear ha hs
     go_wp2_with fail
     refine (arrive_yes _ (hG.ext hb) hV hx (hL.ext RLeg.stable hb) hl ⟨by omega, by omega⟩ HA.out).mono ?_
     rintro e w1 ⟨rfl, hb1⟩
     have hb := ext_trans hb hb1
     go_wp2_with fail
     go_ret
     exact ⟨ret_int HF.out, ext_alloc hb _⟩
    case neg =>
     rw [lastL_late ha hle] at HF
     have hld : decide (to ≤ t) = false := by simpa using hle
     clear ha hs
     go_wp2_with fail
     refine (arrive_yes _ (hG.ext hb) hV hx (hL.ext RLeg.stable hb) hl ⟨by omega, by omega⟩ HA.out).mono ?_
     rintro e w1 ⟨rfl, hb1⟩
     have B0 := B0.ext hb1
     have B1 := B1.ext hb1
     have hb := ext_trans hb hb1
     go_wp2_with fail
     go_roundw
     case rel => exact ⟨n, by omega, rfl, HF, B0.alloc _, B1.alloc _, ext_alloc hb _⟩
     case measure => simp [intOf]
end Go.Proofs.YtjcimdpldlamfaaGreatDoor
/- The least sums by vertex and time, as greatest solutions; what they say of the earliest times; no program in sight. -/
namespace Go.Proofs.YtjcimdpldlamfaaGreatDoor

def CostA (g : GraphD) (wt : LegD → Int) (y : Arc (Nat × Nat)) : Prop :=
 (∃ v t : Nat, y = ⟨(v, t), (v, t + 1), fun n => n⟩ ∧ v < g.lives.length ∧ (t : Int) + 1 < g.h ∧ aliveB g v ((t : Int) + 1) = true) ∨
 ∃ x l to, ∃ t : Nat, x ∈ g.edges ∧ arrive g x t = some (l, to) ∧ y = ⟨(x.a.toNat, t), (x.b.toNat, to.toNat), fun n => n + wt l⟩
def initC (g : GraphD) (v t : Int) (p : Nat × Nat) : Int := if aliveB g v t = true ∧ (p.1 : Int) = v ∧ (p.2 : Int) = t then 0 else Never
/-- The function tells the least sums from a place. -/
def CostL (g : GraphD) (wt : LegD → Int) (v t : Int) (d : Nat × Nat → Int) : Prop := Best (CostA g wt) (initC g v t) d
def lCost (l : LegD) : Int := l.cost
def lOne (_ : LegD) : Int := 1
/-- Weights of legs that serve: not below nought, not large. -/
def Light (g : GraphD) (wt : LegD → Int) : Prop := ∀ x, x ∈ g.edges → ∀ l, l ∈ x.legs → 0 ≤ wt l ∧ wt l ≤ 1000
theorem light_cost {g : GraphD} (hV : Valid g) : Light g lCost := fun x hx l hl => by have := (hV.edges x hx).legs l hl; simp only [lCost]; omega
theorem light_one {g : GraphD} : Light g lOne := fun x _ l _ => by simp only [lOne]; omega
section
variable {g : GraphD} {wt : LegD → Int} {v t : Int} {d : Nat × Nat → Int}
theorem cost_mono : ∀ y, CostA g wt y → Mono y.f := by
 rintro y (⟨_, _, rfl, _⟩ | ⟨_, l, _, _, _, _, rfl⟩)
 ·exact fun s t h => h
 ·exact fun s t h => by simp only; omega
theorem cost_up (hw : Light g wt) (N : Int) : ∀ y, CostA g wt y → N ≤ y.f N := by
 rintro y (⟨_, _, rfl, _⟩ | ⟨x, l, _, _, hx, ha, rfl⟩)
 ·exact Int.le_refl _
 ·have := hw x hx l (arrive_some ha).1
  simp only; omega
theorem initC_big (p : Nat × Nat) : initC g v t p ≤ Never := by unfold initC; split <;> simp [Never]
theorem CostL.pos (hw : Light g wt) (h : CostL g wt v t d) (p : Nat × Nat) : 0 ≤ d p :=
 h.2 (fun _ => 0) ⟨fun p => by unfold initC; split <;> simp [Never], fun y hy => cost_up hw 0 y hy⟩ p
end
end Go.Proofs.YtjcimdpldlamfaaGreatDoor
/- The least sums by vertex and time, told one after another: what stays true while they are filled in; no program in sight. -/
namespace Go.Proofs.YtjcimdpldlamfaaGreatDoor

/-- From where, and by which hop, one comes. -/
structure OrigD where
 v : Int
 t : Int
 edge : Int
 depart : Int
 hops : Bool
abbrev Tab (α : Type) := Nat × Nat → Option α
def vT (B : Tab Int) (p : Nat × Nat) : Int := (B p).getD Never
def setF {α : Type} (F : Tab α) (p : Nat × Nat) (a : α) : Tab α := fun q => if q = p then some a else F q
def lessF {α : Type} (B : Tab Int) (F : Tab α) (p : Nat × Nat) (n : Int) (a : α) : Tab α := if n < vT B p then setF F p a else F
theorem setF_at {α : Type} (F : Tab α) (p : Nat × Nat) (a : α) : setF F p a p = some a := by simp [setF]
theorem setF_ne {α : Type} (F : Tab α) {p q : Nat × Nat} (a : α) (h : q ≠ p) : setF F p a q = F q := by simp [setF, h]
theorem lessF_ne {α : Type} (B : Tab Int) (F : Tab α) {p q : Nat × Nat} (n : Int) (a : α) (h : q ≠ p) : lessF B F p n a q = F q := by
 unfold lessF
 split
 ·exact setF_ne _ _ h
 ·rfl
theorem vT_less (B : Tab Int) (p : Nat × Nat) (n : Int) : vT (lessF B B p n n) = upd (vT B) p (min (vT B p) n) := by
 funext q
 by_cases h : q = p
 ·subst h
  rw [upd_at]
  unfold lessF
  split
  ·rw [vT, setF_at, Option.getD_some]; omega
  ·omega
 ·rw [upd_ne _ _ h, vT, lessF_ne _ _ _ _ h, vT]
theorem vT_some {B : Tab Int} {p : Nat × Nat} {n : Int} (h : B p = some n) : vT B p = n := by rw [vT, h]; rfl
theorem vT_none {B : Tab Int} {p : Nat × Nat} (h : B p = none) : vT B p = Never := by rw [vT, h]; rfl

/-- An origin says how one comes here with this sum. -/
def OrigOk (g : GraphD) (wt : LegD → Int) (B : Tab Int) (p : Nat × Nat) (n : Int) (o : OrigD) : Prop :=
 (o.hops = false ∧ o.v = p.1 ∧ o.t + 1 = p.2 ∧ 0 ≤ o.t ∧ o.edge = 0 ∧ o.depart = 0 ∧ B (p.1, o.t.toNat) = some n) ∨
 (o.hops = true ∧ ∃ (j : Nat) (x : EdgeD) (l : LegD) (m : Int), o.edge = j ∧ g.edges[j]? = some x ∧ o.v = x.a ∧ x.b = p.1 ∧ o.depart = o.t ∧ 0 ≤ o.t ∧ arrive g x o.t = some (l, (p.2 : Int)) ∧ B (x.a.toNat, o.t.toNat) = some m ∧ n = m + wt l)
structure FillInv (g : GraphD) (wt : LegD → Int) (v s : Int) (t u : Nat) (ww : Bool) (i : Nat) (B : Tab Int) (O : Tab OrigD) : Prop where
 above : Above (CostA g wt) (initC g v s) (vT B)
 start : aliveB g v s = true → B (v.toNat, s.toNat) = some 0
 told : ∀ p n, B p = some n → p.1 < g.lives.length ∧ s ≤ p.2 ∧ (p.2 : Int) < g.h ∧ aliveB g p.1 p.2 = true ∧ 0 ≤ n ∧ n ≤ 1000 * (p.2 : Int)
 orig : ∀ p n, B p = some n → p ≠ (v.toNat, s.toNat) → s < p.2 ∧ ∃ o, O p = some o ∧ OrigOk g wt B p n o ∧ o.t ≤ t
 waits : ∀ (w r : Nat), (r < t ∨ r = t ∧ (w < u ∨ w = u ∧ ww = true)) → w < g.lives.length → (r : Int) + 1 < g.h → aliveB g w ((r : Int) + 1) = true → vT B (w, r + 1) ≤ vT B (w, r)
 legs : ∀ (j r : Nat) x l to, g.edges[j]? = some x → arrive g x r = some (l, to) → (r < t ∨ r = t ∧ (x.a < u ∨ x.a = u ∧ j < i)) → vT B (x.b.toNat, to.toNat) ≤ vT B (x.a.toNat, r) + wt l

section
variable {g : GraphD} {wt : LegD → Int} {v s : Int} {t u i : Nat} {ww : Bool} {B : Tab Int} {O : Tab OrigD}
theorem FillInv.big (hV : Valid g) (h : FillInv g wt v s t u ww i B O) (p : Nat × Nat) : vT B p ≤ Never := by
 cases hp : B p with
 | none => rw [vT_none hp]; exact Int.le_refl _
 | some n =>
  have := h.told p n hp
  have := hV.h1
  rw [vT_some hp]
  simp only [Never]
  omega
/-- At the start. -/
theorem fill_start (hV : Valid g) (hw : Light g wt) (hv : 0 ≤ v ∧ v < g.lives.length) (hs : 0 ≤ s ∧ s < g.h) (ha : aliveB g v s = true) : FillInv g wt v s s.toNat 0 false 0 (setF (fun _ => none) (v.toNat, s.toNat) 0) (fun _ => none) := by
 have hval : vT (setF (fun _ => none) (v.toNat, s.toNat) 0) = initC g v s := by
  funext q
  unfold initC
  by_cases h : q = (v.toNat, s.toNat)
  ·rw [vT, h, setF_at, if_pos ⟨ha, by simp only; omega, by simp only; omega⟩]; rfl
  ·rw [vT, setF_ne _ _ h, if_neg]
   ·rfl
   ·rintro ⟨_, h1, h2⟩
    apply h
    apply Prod.ext
    ·simp only; omega
    ·simp only; omega
 have hsome : ∀ p n, setF (fun _ => none) (v.toNat, s.toNat) (0 : Int) p = some n → p = (v.toNat, s.toNat) ∧ n = 0 := fun p n hp => by
  by_cases h : p = (v.toNat, s.toNat)
  ·subst h
   rw [setF_at] at hp
   exact ⟨rfl, by simpa using hp.symm⟩
  ·rw [setF_ne _ _ h] at hp; simp at hp
 have hnone : ∀ (r w : Nat), r < s.toNat → vT (setF (fun _ => none) (v.toNat, s.toNat) 0) (w, r) = Never := fun r w hr => by
  rw [vT, setF_ne _ _ (fun e => by simp only [Prod.mk.injEq] at e; omega)]; rfl
 have hle : ∀ p, vT (setF (fun _ => none) (v.toNat, s.toNat) 0) p ≤ Never := fun p => by rw [hval]; exact initC_big p
 refine ⟨by rw [hval]; exact above_init, fun _ => setF_at _ _ _, fun p n hp => ?_, fun p n hp hne => ?_, fun w r hr h1 h2 h3 => ?_, fun j r x l to hx hr hc => ?_⟩
 ·obtain ⟨rfl, rfl⟩ := hsome p n hp
  refine ⟨by simp only; omega, by simp only; omega, by simp only; omega, ?_, by omega, by simp only; omega⟩
  simp only
  rw [show ((v.toNat : Nat) : Int) = v by omega, show ((s.toNat : Nat) : Int) = s by omega]
  exact ha
 ·exact absurd (hsome p n hp).1 hne
 ·rw [hnone r w (by rcases hr with h | ⟨h, h4 | h4⟩ <;> simp at * <;> omega)]
  exact hle _
 ·have ho := hV.edges x (List.mem_of_getElem? hx)
  have h0 := ho.a0
  rw [hnone r x.a.toNat (by omega)]
  have := hw x (List.mem_of_getElem? hx) l (arrive_some hr).1
  have := hle (x.b.toNat, to.toNat)
  omega
theorem fill_start0 (hw : Light g wt) (ha : aliveB g v s = false) : FillInv g wt v s s.toNat 0 false 0 (fun _ => none) (fun _ => none) := by
 have hval : vT (fun _ => none) = initC g v s := by
  funext q
  unfold initC
  rw [if_neg (by rw [ha]; simp)]; rfl
 refine ⟨by rw [hval]; exact above_init, fun h => by rw [ha] at h; simp at h, fun p n hp => by simp at hp, fun p n hp => by simp at hp, fun w r hr h1 h2 h3 => Int.le_refl _, fun j r x l to hx hr hc => ?_⟩
 have := hw x (List.mem_of_getElem? hx) l (arrive_some hr).1
 show Never ≤ Never + wt l
 omega
theorem FillInv.put (h : FillInv g wt v s t u ww i B O) {m : Int} (hm : B (u, t) = some m) {p : Nat × Nat} {n : Int} {f : Int → Int} (hy : CostA g wt ⟨(u, t), p, f⟩) (hn : f m = n) (hp1 : p.1 < g.lives.length) (hp2 : t < p.2) (hp3 : (p.2 : Int) < g.h)
  (hp4 : aliveB g p.1 p.2 = true) (h0 : 0 ≤ n) (h1 : n ≤ 1000 * (p.2 : Int)) {o : OrigD} (ho : OrigOk g wt B p n o) (hot : o.t ≤ t) :
  FillInv g wt v s t u ww i (lessF B B p n n) (lessF B O p n o) ∧ vT (lessF B B p n n) p ≤ n ∧ ∀ q : Nat × Nat, q.2 ≤ t → lessF B B p n n q = B q := by
 have hk : ∀ q : Nat × Nat, q.2 ≤ t → lessF B B p n n q = B q := fun q hq => lessF_ne _ _ _ _ (fun e => by rw [e] at hq; omega)
 have hkv : ∀ q : Nat × Nat, q.2 ≤ t → vT (lessF B B p n n) q = vT B q := fun q hq => by rw [vT, vT, hk q hq]
 have hle : ∀ q, vT (lessF B B p n n) q ≤ vT B q := fun q => by
  rw [vT_less]
  by_cases e : q = p
  ·rw [e, upd_at]; omega
  ·rw [upd_ne _ _ e]; exact Int.le_refl _
 have hst : s ≤ t := (h.told _ _ hm).2.1
 have hor : ∀ q n' o', OrigOk g wt B q n' o' → o'.t ≤ t → OrigOk g wt (lessF B B p n n) q n' o' := fun q n' o' hq ht => by
  rcases hq with ⟨a1, a2, a3, a4, a5, a6, a7⟩ | ⟨a1, j, x, l, m', a2, a3, a4, a5, a6, a7, a8, a9, a10⟩
  ·exact .inl ⟨a1, a2, a3, a4, a5, a6, by rw [hk _ (by simp only; omega)]; exact a7⟩
  ·exact .inr ⟨a1, j, x, l, m', a2, a3, a4, a5, a6, a7, a8, by rw [hk _ (by simp only; omega)]; exact a9, a10⟩
 refine ⟨⟨?_, fun ha => ?_, fun q n' hq => ?_, fun q n' hq hne => ?_, fun w r hr k1 k2 k3 => ?_, fun j r x l to hx hr hc => ?_⟩, ?_, hk⟩
 ·rw [vT_less]
  exact Above.upd h.above h.above hy (cost_mono _ hy) (by simp only; rw [vT_some hm, hn]; exact Int.le_refl _)
 ·rw [hk _ (by simp only; omega)]; exact h.start ha
 ·by_cases e : q = p
  ·subst e
   unfold lessF at hq
   split at hq
   ·rw [setF_at] at hq
    obtain rfl : n = n' := by simpa using hq
    exact ⟨hp1, by omega, hp3, hp4, h0, h1⟩
   ·exact h.told _ _ hq
  ·rw [lessF_ne _ _ _ _ e] at hq
   exact h.told _ _ hq
 ·by_cases e : q = p
  ·subst e
   by_cases hlt : n < vT B q
   ·have e1 : lessF B B q n n q = some n := by unfold lessF; rw [if_pos hlt, setF_at]
    have e2 : lessF B O q n o q = some o := by unfold lessF; rw [if_pos hlt, setF_at]
    rw [e1] at hq
    obtain rfl : n = n' := by simpa using hq
    exact ⟨by omega, o, e2, hor _ _ _ ho hot, hot⟩
   ·have e1 : lessF B B q n n q = B q := by unfold lessF; rw [if_neg hlt]
    have e2 : lessF B O q n o q = O q := by unfold lessF; rw [if_neg hlt]
    rw [e1] at hq
    obtain ⟨k1, o', k2, k3, k4⟩ := h.orig _ _ hq hne
    exact ⟨k1, o', by rw [e2]; exact k2, hor _ _ _ k3 k4, k4⟩
  ·rw [lessF_ne _ _ _ _ e] at hq
   obtain ⟨k1, o', k2, k3, k4⟩ := h.orig _ _ hq hne
   exact ⟨k1, o', by rw [lessF_ne _ _ _ _ e]; exact k2, hor _ _ _ k3 k4, k4⟩
 ·have := h.waits w r hr k1 k2 k3
  rw [hkv (w, r) (by simp only; omega)]
  exact Int.le_trans (hle _) this
 ·have := h.legs j r x l to hx hr hc
  rw [hkv (x.a.toNat, r) (by simp only; omega)]
  exact Int.le_trans (hle _) this
 ·rw [vT_less, upd_at]; omega
/-- A vertex at which one isn't then. -/
theorem FillInv.skip (hV : Valid g) (hw : Light g wt) (h : FillInv g wt v s t u false 0 B O) (hn : B (u, t) = none) : FillInv g wt v s t (u + 1) false 0 B O := by
 refine ⟨h.above, h.start, h.told, h.orig, fun w r hr k1 k2 k3 => ?_, fun j r x l to hx hr hc => ?_⟩
 ·by_cases e : r = t ∧ w = u
  ·rw [e.1, e.2, vT_none hn]; exact h.big hV _
  ·exact h.waits w r (by rcases hr with hr | ⟨hr, hr2 | hr2⟩ <;> simp at * <;> omega) k1 k2 k3
 ·have h2 := hw x (List.mem_of_getElem? hx) l (arrive_some hr).1
  have h0 := (hV.edges x (List.mem_of_getElem? hx)).a0
  by_cases e : r = t ∧ x.a = u
  ·rw [e.1, show x.a.toNat = u by omega, vT_none hn]; have := h.big hV (x.b.toNat, to.toNat); omega
  ·exact h.legs j r x l to hx hr (by omega)
theorem FillInv.wait (h : FillInv g wt v s t u false 0 B O) (hd : (t : Int) + 1 < g.h → aliveB g u ((t : Int) + 1) = true → vT B (u, t + 1) ≤ vT B (u, t)) : FillInv g wt v s t u true 0 B O := by
 refine ⟨h.above, h.start, h.told, h.orig, fun w r hr k1 k2 k3 => ?_, h.legs⟩
 by_cases e : r = t ∧ w = u
 ·obtain ⟨rfl, rfl⟩ := e; exact hd k2 k3
 ·exact h.waits w r (by rcases hr with hr | ⟨hr, hr2 | hr2⟩ <;> simp at * <;> omega) k1 k2 k3
theorem FillInv.edge (h : FillInv g wt v s t u true i B O) {x : EdgeD} (hx : g.edges[i]? = some x) (hd : x.a = u → ∀ l to, arrive g x t = some (l, to) → vT B (x.b.toNat, to.toNat) ≤ vT B (u, t) + wt l) : FillInv g wt v s t u true (i + 1) B O := by
 refine ⟨h.above, h.start, h.told, h.orig, h.waits, fun j r y l to hy hr hc => ?_⟩
 by_cases e : r = t ∧ y.a = u ∧ j = i
 ·obtain ⟨rfl, e2, rfl⟩ := e
  rw [hx] at hy
  obtain rfl : x = y := by simpa using hy
  have := hd e2 l to hr
  rw [show x.a.toNat = u by omega]
  exact this
 ·exact h.legs j r y l to hy hr (by omega)
theorem FillInv.nextV (h : FillInv g wt v s t u true g.edges.length B O) : FillInv g wt v s t (u + 1) false 0 B O := by
 refine ⟨h.above, h.start, h.told, h.orig, fun w r hr k1 k2 k3 => ?_, fun j r x l to hx hr hc => ?_⟩
 ·exact h.waits w r (by rcases hr with hr | ⟨hr, hr2 | hr2⟩ <;> simp at * <;> omega) k1 k2 k3
 ·have := (List.getElem?_eq_some_iff.1 hx).1
  exact h.legs j r x l to hx hr (by omega)
theorem FillInv.nextT (hV : Valid g) (h : FillInv g wt v s t g.lives.length false 0 B O) : FillInv g wt v s (t + 1) 0 false 0 B O := by
 refine ⟨h.above, h.start, h.told, fun p n hp hne => ?_, fun w r hr k1 k2 k3 => ?_, fun j r x l to hx hr hc => ?_⟩
 ·obtain ⟨k1, o, k2, k3, k4⟩ := h.orig p n hp hne
  exact ⟨k1, o, k2, k3, by omega⟩
 ·exact h.waits w r (by rcases hr with hr | ⟨hr, hr2 | hr2⟩ <;> simp at * <;> omega) k1 k2 k3
 ·have h0 := (hV.edges x (List.mem_of_getElem? hx)).a0
  have h1 := (hV.edges x (List.mem_of_getElem? hx)).a1
  exact h.legs j r x l to hx hr (by omega)
/-- All is filled in. -/
theorem FillInv.ends (hV : Valid g) (hv : 0 ≤ v ∧ v < g.lives.length) (hs : 0 ≤ s) (h : FillInv g wt v s t 0 false 0 B O) (ht : g.h ≤ t) : CostL g wt v s (vT B) := by
 refine ⟨⟨fun p => ?_, ?_⟩, h.above⟩
 ·unfold initC
  split
  ·rename_i hp
   have e : p = (v.toNat, s.toNat) := Prod.ext (by simp only; omega) (by simp only; omega)
   rw [e, vT_some (h.start hp.1)]; exact Int.le_refl _
  ·exact h.big hV p
 ·rintro y (⟨w, r, rfl, h1, h2, h3⟩ | ⟨x, l, to, r, hx, ha, rfl⟩)
  ·exact h.waits w r (.inl (by omega)) h1 h2 h3
  ·obtain ⟨j, hj⟩ := List.getElem?_of_mem hx
   have := arrive_late hV (hV.edges x hx) ha
   exact h.legs j r x l to hj ha (.inl (by omega))
end
end Go.Proofs.YtjcimdpldlamfaaGreatDoor
/- The least sum of each vertex; no program in sight. -/
namespace Go.Proofs.YtjcimdpldlamfaaGreatDoor

/-- The least of the first k sums of a vertex, and when it is told first. -/
def leastN (d : Nat × Nat → Int) (v : Nat) : Nat → Int × Int
 | 0 => (Never, 0)
 | k + 1 => if d (v, k) < (leastN d v k).1 then (d (v, k), (k : Int)) else leastN d v k
theorem leastN_le (d : Nat × Nat → Int) (v : Nat) : ∀ k, (leastN d v k).1 ≤ Never
 | 0 => Int.le_refl _
 | k + 1 => by
  have ih := leastN_le d v k
  rw [leastN]
  split
  ·simp only; omega
  ·exact ih
theorem leastN_at {d : Nat × Nat → Int} {v : Nat} : ∀ {k : Nat}, (leastN d v k).1 < Never → ∃ r : Nat, r < k ∧ (leastN d v k).2 = r ∧ d (v, r) = (leastN d v k).1
 | 0, h => by simp [leastN] at h
 | k + 1, h => by
  rw [leastN] at h ⊢
  by_cases c : d (v, k) < (leastN d v k).1
  ·rw [if_pos c]
   exact ⟨k, by omega, rfl, rfl⟩
  ·rw [if_neg c] at h ⊢
   obtain ⟨r, h1, h2, h3⟩ := leastN_at h
   exact ⟨r, by omega, h2, h3⟩
/-- The least sums of the vertices. -/
def leastL (g : GraphD) (d : Nat × Nat → Int) : List Int := (List.range g.lives.length).map fun u => (leastN d u g.h.toNat).1
/-- The list tells the least sums from a place. -/
def CostsL (g : GraphD) (wt : LegD → Int) (v s : Int) (l : List Int) : Prop := ∃ d, CostL g wt v s d ∧ l = leastL g d
theorem CostsL.eq {g : GraphD} {wt : LegD → Int} {v s : Int} {l r : List Int} (h : CostsL g wt v s l) (k : CostsL g wt v s r) : l = r := by
 obtain ⟨d, h1, rfl⟩ := h
 obtain ⟨e, k1, rfl⟩ := k
 rw [h1.eq k1]
def CostsOut (g : GraphD) (wt : LegD → Int) (v s : Int) (l : List Int) : Prop := if placeErr g v s = 0 then CostsL g wt v s l else l = []
theorem leastL_get {g : GraphD} {d : Nat × Nat → Int} {k : Nat} (h : k < g.lives.length) : (leastL g d)[k]? = some (leastN d k g.h.toNat).1 := by simp [leastL, h]
theorem leastL_len (g : GraphD) (d : Nat × Nat → Int) : (leastL g d).length = g.lives.length := by simp [leastL]
end Go.Proofs.YtjcimdpldlamfaaGreatDoor
/- A map keyed by a vertex and a time, as a plain function: what its look-ups tell and its stores leave. -/
namespace Go.Proofs.YtjcimdpldlamfaaGreatDoor
open Go.RowKit
open Go.Maps (Keyed has atKey_put_same atKey_put_other has_put_same has_put_other atKey_of_not_has)

theorem row_st : (200 : TypeId) < Tryz.prog.types.size := of_decide_eq_true (by kernel_rfl)
theorem keyT_st : Tryz.prog.keyTypeAt 2 200 = true := by kernel_rfl
set_option maxRecDepth 100000 in
theorem wide_st : (match Tryz.prog.underlying 200 with | some (.array _ _) | some (.struct _) => true | _ => false) = true := by rw [Tryz.underlying200]
set_option maxRecDepth 100000 in
theorem law_st : Keyed Tryz.prog 200 := Keyed.of_law (deep_law_laid Tryz.laidOut (m := 2) (by omega) row_st keyT_st wide_st)
def klS (p : Nat × Nat) : Lit := .string (keyBytes [.int .i64 (p.1 : Int), .int .i64 (p.2 : Int)])
def stV (p : Nat × Nat) : Value := .agg #[.int .i64 (p.1 : Int), .int .i64 (p.2 : Int)]
def Sml (p : Nat × Nat) : Prop := p.1 ≤ 1000 ∧ p.2 ≤ 1000
theorem keyType_st : Tryz.prog.keyType 200 = true := by kernel_rfl
theorem formed_st (a b : Int) : (Value.agg #[.int .i64 a, .int .i64 b]).formed Tryz.prog 200 = true := by
 simp [Value.formed, Tryz.underlying200, show Tryz.prog.cellsOf 200 = 2 by kernel_rfl]
theorem lits_st (a b : Int) (ha : (Lit.int .i64 a).wf = true) (hb : (Lit.int .i64 b).wf = true) : Tryz.prog.keyLits (Tryz.prog.types.size + 1) 200 [.int .i64 a, .int .i64 b] = some [.int .i64 a, .int .i64 b] := by
 obtain ⟨k, hk⟩ : ∃ k, Tryz.prog.types.size = k + 1 := Nat.exists_eq_add_one.2 (Nat.lt_of_le_of_lt (Nat.zero_le _) row_st)
 rw [hk]
 simp [Program.keyLits, Tryz.underlying200, Tryz.underlying3, show Tryz.prog.cellsOf 200 = 2 by kernel_rfl, show Tryz.prog.cellsOf 3 = 1 by kernel_rfl, ha, hb]
theorem wf_small {n : Nat} (h : n ≤ 1000) : (Lit.int .i64 (n : Int)).wf = true := WalkArith.wf_i64 (by omega)
theorem key_st {p : Nat × Nat} (h : Sml p) : keyOf Tryz.prog 200 (stV p) = some (klS p) := by
 unfold keyOf
 rw [Tryz.underlying200]
 simp only [stV, keyType_st, formed_st, Bool.and_self, if_true]
 show (Tryz.prog.keyLits (Tryz.prog.types.size + 1) 200 [.int .i64 (p.1 : Int), .int .i64 (p.2 : Int)]).map _ = _
 rw [lits_st _ _ (wf_small h.1) (wf_small h.2)]
 rfl
theorem kl_inj {p q : Nat × Nat} (hp : Sml p) (hq : Sml q) (h : klS p = klS q) : p = q := by
 have h1 := key_st hp
 rw [h] at h1
 have := law_st.inj h1 (key_st hq)
 simp only [stV, Value.agg.injEq, Array.mk.injEq, List.cons.injEq, Value.int.injEq, true_and, and_true] at this
 exact Prod.ext (by omega) (by omega)
theorem kl_key {p : Nat × Nat} (h : Sml p) : WideAt.IsKeyLit (klS p) := law_st.key (key_st h)

def rV (v : Value) : Option (DataW Value × List MemPlace) := some (.held v, [])
section
variable {α : Type}
/-- Block b is a map of at most n entries that tells what the function tells. -/
def TabAt (enc : α → Value) (w : World) (b n : Nat) (F : Tab α) : Prop := ∃ D : DataW Value, w.ownsMap Tryz.prog 200 rV b n D ∧ ∀ p, Sml p → match F p with
 | some a => has D (klS p) = true ∧ ∀ z, D.atKey (klS p) z = .held (enc a)
 | none => has D (klS p) = false
variable {enc : α → Value} {w : World} {b n : Nat} {F : Tab α}
theorem TabAt.made (enc : α → Value) (w : World) : TabAt enc (w.alloc (.map #[] 0)) w.heap.size 0 (fun _ => none) := ⟨_, World.ownsMap_made _ _ _ _, fun _ _ => rfl⟩
theorem TabAt.mono (h : TabAt enc w b n F) {m : Nat} (hn : n ≤ m) : TabAt enc w b m F := by
 obtain ⟨D, h1, h2⟩ := h
 exact ⟨D, h1.mono hn, h2⟩
theorem TabAt.lt (h : TabAt enc w b n F) : b < w.heap.size := by
 obtain ⟨D, h1, _⟩ := h
 exact h1.lt
theorem TabAt.grown (h : TabAt enc w b n F) {w' : World} {row : Option Nat} (hg : w.grownBy w' row) (hne : some b ≠ row) : TabAt enc w' b n F := by
 obtain ⟨D, h1, h2⟩ := h
 exact ⟨D, h1.kept hg hne, h2⟩
theorem TabAt.alloc (h : TabAt enc w b n F) (o : Obj) : TabAt enc (w.alloc o) b n F := by
 obtain ⟨D, h1, h2⟩ := h
 exact ⟨D, h1.alloc o, h2⟩
theorem TabAt.drew (h : TabAt enc w b n F) : TabAt enc w.drew b n F := h
theorem TabAt.noBlk (h : TabAt enc w b n F) {g : Nat} {t : TypeId} {cs : Array Value} (hB : Blk w g t cs) : g ≠ b := by
 obtain ⟨D, ⟨es, clock, h1, _⟩, _⟩ := h
 rintro rfl
 unfold Blk at hB
 rw [h1] at hB
 simp at hB
/-- 'v, ok := m[k]' -/
theorem TabAt.look (h : TabAt enc w b n F) {t e : TypeId} (ht : Tryz.prog.underlying t = some (.map 200 e)) {z : Value} (hz : (zeroValue e).run Tryz.prog w = .ok z w) {p : Nat × Nat} (hp : Sml p) :
  (Instr.lookup t (.map (some b)) (.agg #[.int .i64 (p.1 : Int), .int .i64 (p.2 : Int)]) true).run Tryz.prog w = .ok (.tuple #[((F p).map enc).getD z, .bool (F p).isSome]) w := by
 obtain ⟨D, h1, h2⟩ := h
 obtain ⟨v, ps, hrun, hv⟩ := h1.look_ok law_st ht hz (zd := .held z) (zp := []) rfl (key_st hp)
 have h3 := h2 p hp
 simp only [rV, Option.some.injEq, Prod.mk.injEq] at hv
 rw [show (Value.agg #[.int .i64 (p.1 : Int), .int .i64 (p.2 : Int)]) = stV p from rfl, hrun]
 cases hF : F p with
 | none =>
  rw [hF] at h3
  rw [h3]
  have := hv.1
  rw [atKey_of_not_has h3] at this
  simp only [DataW.held.injEq] at this
  rw [this]; rfl
 | some a =>
  rw [hF] at h3
  rw [h3.1]
  have := hv.1
  rw [h3.2] at this
  simp only [DataW.held.injEq] at this
  rw [this]; rfl
theorem TabAt.store (h : TabAt enc w b n F) {t e : TypeId} (ht : Tryz.prog.underlying t = some (.map 200 e)) (hn : n < maxLen) {p : Nat × Nat} (hp : Sml p) (a : α) :
  ∃ w', (Instr.mapUpdate t (.map (some b)) (.agg #[.int .i64 (p.1 : Int), .int .i64 (p.2 : Int)]) (enc a)).run Tryz.prog w = .ok () w' ∧ TabAt enc w' b (n + 1) (setF F p a) ∧ w.mapTurned w' b := by
 obtain ⟨D, h1, h2⟩ := h
 obtain ⟨w', hrun, h3, h4⟩ := h1.store law_st ht hn (key_st hp) (val := enc a) (d := .held (enc a)) (ps := []) rfl
 refine ⟨w', hrun, ⟨_, h3, fun q hq => ?_⟩, h4⟩
 by_cases e : q = p
 ·subst e
  rw [setF_at]
  exact ⟨has_put_same h1.isMap (kl_key hp) _, fun z => atKey_put_same h1.isMap (kl_key hp) _ z⟩
 ·have hne : klS q ≠ klS p := fun h => e (kl_inj hq hp h)
  rw [setF_ne _ _ e]
  have := h2 q hq
  cases hF : F q with
  | none =>
   rw [hF] at this
   simp only
   rw [has_put_other hne]; exact this
  | some a' =>
   rw [hF] at this
   simp only
   rw [has_put_other hne]
   exact ⟨this.1, fun z => by rw [atKey_put_other hne]; exact this.2 z⟩
theorem Blk.turned {w w' : World} {b g : Nat} {t : TypeId} {cs : Array Value} (h : Blk w g t cs) (hT : w.mapTurned w' b) (hne : g ≠ b) : Blk w' g t cs := by
 have := hT.grown.block g h.lt (by simpa using hne)
 exact this.trans h
theorem below_turned {k : Nat} {w0 w w' : World} {b : Nat} (h : Below k w0 w) (hT : w.mapTurned w' b) (hk : k ≤ w.heap.size) (hb : k ≤ b) : Below k w0 w' := h.grown hT.grown hk (fun j hj => by cases hj; exact hb)
variable {P : Program} {ops : Array Oper} {rest : List Oper} {o : Oper} {a : Act} {Q : Exit → Act → World → Prop}
theorem wpList_store_tab (hg : o.guard = none) (m x v : Operand) (t : TypeId) (hop : o.op = Op.mapUpdate t m x v) (e : TypeId) (ht : Tryz.prog.underlying t = some (.map 200 e)) (enc : α → Value) (b n : Nat) (F : Tab α)
  (hm : a.eval m = .map (some b)) (hown : TabAt enc w b n F) (hn : n < maxLen) (p : Nat × Nat) (hp : Sml p) (y : α) (hx : a.eval x = .agg #[.int .i64 (p.1 : Int), .int .i64 (p.2 : Int)]) (hv : a.eval v = enc y)
  (hK : ∀ w', TabAt enc w' b (n + 1) (setF F p y) → w.mapTurned w' b → wpList Tryz.prog ops Q rest (a.put o.dst undef) w') : wpList Tryz.prog ops Q (o :: rest) a w := by
 refine wpList_plain hg fun K' hK' => ?_
 obtain ⟨w', hrun, r1, r2⟩ := hown.store ht hn hp y
 unfold Oper.wp
 simp [execOp, hop, hm, hx, hv, hrun, Result.andThen]
 exact hK' _ _ (hK w' r1 r2)
end
end Go.Proofs.YtjcimdpldlamfaaGreatDoor
