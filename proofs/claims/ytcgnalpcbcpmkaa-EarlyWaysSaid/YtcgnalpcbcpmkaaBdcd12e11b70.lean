/- Several texts in one: EarlyF, PlainSpec, Shot. -/
import Derived.IntWalk
import Derived.Test.YtcgnalpcbcpmkaaBd449dd27526
import Derived.Test.YtcgnalpcbcpmkaaBd62db7b8b90
import Derived.Test.YtcgnalpcbcpmkaaBd298c705468
/- The walks of the first and of the last hop along an edge. -/
namespace Go.Proofs.Ytcgnalpcbcpmkaa
open Go.RowKit

theorem arrive_yes {A A' L : Option Addr} {c c' cl : Nat} {g : GraphD} {x : EdgeD} {t to : Int} {l : LegD} (w : World) (hG : GraphAt w A c A' c' g) (hV : Valid g) (hx : EdgeOk g x) (hL : SlAt RLeg 4 w L x.legs) (hl : x.legs.length ≤ maxLen) (ht : I64 t) (h : arrive g x t = some (l, to)) :
    Calls Try.prog 94 #[gV A c A' c' g, edgeV L cl x, .int .i64 t] w fun e w' => e = .returned (.tuple #[legV l, .int .i64 to, .bool true]) ∧ Below w.heap.size w w' :=
  (arrive_any A A' L c c' cl g x t w hG hV hx hL hl ht).mono fun e w' ⟨he, hb⟩ => ⟨by rw [he, h]; rfl, hb⟩
theorem arrive_not {A A' L : Option Addr} {c c' cl : Nat} {g : GraphD} {x : EdgeD} {t : Int} (w : World) (hG : GraphAt w A c A' c' g) (hV : Valid g) (hx : EdgeOk g x) (hL : SlAt RLeg 4 w L x.legs) (hl : x.legs.length ≤ maxLen) (ht : I64 t) (h : arrive g x t = none) :
    Calls Try.prog 94 #[gV A c A' c' g, edgeV L cl x, .int .i64 t] w fun e w' => e = .returned (.tuple #[legV ⟨0, 0, 0, 0⟩, .int .i64 0, .bool false]) ∧ Below w.heap.size w w' :=
  (arrive_any A A' L c c' cl g x t w hG hV hx hL hl ht).mono fun e w' ⟨he, hb⟩ => ⟨by rw [he, h]; rfl, hb⟩
abbrev edgeC (L : Option Addr) (cl : Nat) (x : EdgeD) : Array Value := #[.int .i64 x.a, .int .i64 x.b, .slice L x.legs.length cl]
theorem results3 {fn : Func} {t u v : Tmp} (h : fn.results = #[.tmp t, .tmp u, .tmp v]) (tmps : Array Value) (P : Program) (w : World) :
    (results fn tmps).run P w = .ok (.tuple #[tmps.getD t undef, tmps.getD u undef, tmps.getD v undef]) w := by simp [results, h]
/-- The three results of first. -/
def firstR (o : Option (Int × Int)) : Value := match o with
  | some p => .tuple #[.int .i64 p.1, .int .i64 p.2, .bool true]
  | none => .tuple #[.int .i64 0, .int .i64 0, .bool false]
/-- The three variables of the loop: what is best, when one leaves, whether there is one. -/
def FState (o : Option (Int × Int)) (b d f : Value) : Prop := match o with
  | some p => b = .int .i64 p.2 ∧ d = .int .i64 p.1 ∧ f = .bool true
  | none => b = .int .i64 0 ∧ d = .int .i64 0 ∧ f = .bool false
theorem firstL_end {g : GraphD} {x : EdgeD} {d : Int} {o : Option (Int × Int)} {n : Nat} (h : n = 0) : firstL g x n d o = o := by subst h; rfl
theorem firstL_go {g : GraphD} {x : EdgeD} {d : Int} {o : Option (Int × Int)} {n : Nat} (h : 0 < n) : firstL g x n d o = firstL g x (n - 1) (d + 1) (fstep g x o d) := by
  cases n with
  | zero => omega
  | succ n => rfl

set_option maxRecDepth 100000 in
set_option maxHeartbeats 4000000 in
theorem first_any (A A' L : Option Addr) (c c' cl : Nat) (g : GraphD) (x : EdgeD) (t : Int) (w : World) (hG : GraphAt w A c A' c' g) (hV : Valid g) (hx : EdgeOk g x) (hL : SlAt RLeg 4 w L x.legs) (hl : x.legs.length ≤ maxLen) (ht0 : 0 ≤ t) (ht1 : t ≤ 100) :
    Calls Try.prog 129 #[gV A c A' c' g, edgeV L cl x, .int .i64 t] w fun e w' => e = .returned (firstR (first g x t)) ∧ Below w.heap.size w w' := by
  have hh1 := hV.h1
  have hh0 := hV.h0
  go_enter Try.func129, Try.ntmps129
  go_wp2_with fail
  go_loopw [9, 10, 11, 12] (fun vb vd vf vt wr => ∃ (d : Int) (o : Option (Int × Int)), t ≤ d ∧ d ≤ 100 ∧ vt = .int .i64 d ∧ Hid (FState o vb vd vf) ∧ Hid (firstL g x (g.h - d).toNat d o = first g x t) ∧ Hid (∀ p q, o = some (p, q) → p ≤ 100 ∧ q ≤ 100) ∧
      Blk wr w.heap.size 28 (gC A c A' c' g) ∧ Blk wr (w.heap.size + 1) 99 (edgeC L cl x) ∧ Below w.heap.size w wr)
    (fun _ _ _ vt _ => (100 - intOf vt).toNat)
  case atStart => exact ⟨t, none, Int.le_refl _, ht1, rfl, Lib.hid ⟨rfl, rfl, rfl⟩, Lib.hid rfl, Lib.hid (fun p q h => by simp at h), (Blk.new _ _ _).alloc _, Blk.new_ (by simp), by go_grown⟩
  case round =>
    obtain ⟨d, o, hd0, hd1, rfl, HS, HF, HO, B0, B1, hb⟩ := hrel
    obtain ⟨c1, c2, c3⟩ := B0.facts
    obtain ⟨e1, e2, e3⟩ := B1.facts
    by_cases hlt : d < g.h
    case neg =>
      have HE : Hid (o = first g x t) := Lib.hid ((firstL_end (by omega)).symm.trans HF.out)
      cases o with
      | none =>
        obtain ⟨rfl, rfl, rfl⟩ := HS.out
        go_wp2_with fail
        refine bodyPost_ret (results3 rfl _ _ _) rfl ?_
        exact ⟨by rw [← HE.out]; rfl, hb⟩
      | some p =>
        obtain ⟨p, q⟩ := p
        obtain ⟨rfl, rfl, rfl⟩ := HS.out
        go_wp2_with fail
        refine bodyPost_ret (results3 rfl _ _ _) rfl ?_
        exact ⟨by rw [← HE.out]; rfl, hb⟩
    have HN : Hid (firstL g x (g.h - (d + 1)).toNat (d + 1) (fstep g x o d) = first g x t) := Lib.hid (by
      rw [← HF.out, firstL_go (n := (g.h - d).toNat) (by omega), show (g.h - d).toNat - 1 = (g.h - (d + 1)).toNat by omega])
    have hw1 : IntKind.i64.wrap (d + 1) = d + 1 := IntWalk.i64_in _ (by omega)
    clear HF
    cases ha : arrive g x d with
    | none =>
      have HA := Lib.hid ha
      rw [fstep_no ha] at HN
      clear ha
      cases o with
      | none =>
        obtain ⟨rfl, rfl, rfl⟩ := HS.out
        go_wp2_with fail
        refine (arrive_not _ (hG.ext hb) hV hx (hL.ext RLeg.stable hb) hl ⟨by omega, by omega⟩ HA.out).mono ?_
        rintro e w1 ⟨rfl, hb1⟩
        have B0 := B0.ext hb1
        have B1 := B1.ext hb1
        have hb := ext_trans hb hb1
        go_wp2_with fail
        go_roundw
        case rel => exact ⟨d + 1, none, by omega, by omega, by go_num, HS, HN, HO, B0.alloc _, B1.alloc _, ext_alloc hb _⟩
        case measure => simp [intOf]; omega
      | some p =>
        obtain ⟨p, q⟩ := p
        obtain ⟨rfl, rfl, rfl⟩ := HS.out
        go_wp2_with fail
        refine (arrive_not _ (hG.ext hb) hV hx (hL.ext RLeg.stable hb) hl ⟨by omega, by omega⟩ HA.out).mono ?_
        rintro e w1 ⟨rfl, hb1⟩
        have B0 := B0.ext hb1
        have B1 := B1.ext hb1
        have hb := ext_trans hb hb1
        go_wp2_with fail
        go_roundw
        case rel => exact ⟨d + 1, some (p, q), by omega, by omega, by go_num, HS, HN, HO, B0.alloc _, B1.alloc _, ext_alloc hb _⟩
        case measure => simp [intOf]; omega
    | some p =>
      obtain ⟨lg, to⟩ := p
      have HA := Lib.hid ha
      have hto := arrive_late hV hx ha
      obtain ⟨hto0, hto1, hto2, hto3⟩ := hto
      cases o with
      | none =>
        rw [fstep_new ha] at HN
        clear ha
        obtain ⟨rfl, rfl, rfl⟩ := HS.out
        go_wp2_with fail
        refine (arrive_yes _ (hG.ext hb) hV hx (hL.ext RLeg.stable hb) hl ⟨by omega, by omega⟩ HA.out).mono ?_
        rintro e w1 ⟨rfl, hb1⟩
        have B0 := B0.ext hb1
        have B1 := B1.ext hb1
        have hb := ext_trans hb hb1
        go_wp2_with fail
        go_roundw
        case rel => exact ⟨d + 1, some (d, to), by omega, by omega, by go_num, Lib.hid ⟨rfl, rfl, rfl⟩, HN, Lib.hid (fun p q h => by simp only [Option.some.injEq, Prod.mk.injEq] at h; omega), B0.alloc _, B1.alloc _, ext_alloc hb _⟩
        case measure => simp [intOf]; omega
      | some p =>
        obtain ⟨p, q⟩ := p
        obtain ⟨rfl, rfl, rfl⟩ := HS.out
        by_cases hq : to < q
        case pos =>
          rw [fstep_less ha hq] at HN
          have hqd : decide (to < q) = true := by simpa using hq
          clear ha
          go_wp2_with fail
          refine (arrive_yes _ (hG.ext hb) hV hx (hL.ext RLeg.stable hb) hl ⟨by omega, by omega⟩ HA.out).mono ?_
          rintro e w1 ⟨rfl, hb1⟩
          have B0 := B0.ext hb1
          have B1 := B1.ext hb1
          have hb := ext_trans hb hb1
          go_wp2_with fail
          go_roundw
          case rel => exact ⟨d + 1, some (d, to), by omega, by omega, by go_num, Lib.hid ⟨rfl, rfl, rfl⟩, HN, Lib.hid (fun p q h => by simp only [Option.some.injEq, Prod.mk.injEq] at h; omega), B0.alloc _, B1.alloc _, ext_alloc hb _⟩
          case measure => simp [intOf]; omega
        case neg =>
          rw [fstep_more ha hq] at HN
          have hqd : decide (to < q) = false := by simpa using hq
          clear ha
          go_wp2_with fail
          refine (arrive_yes _ (hG.ext hb) hV hx (hL.ext RLeg.stable hb) hl ⟨by omega, by omega⟩ HA.out).mono ?_
          rintro e w1 ⟨rfl, hb1⟩
          have B0 := B0.ext hb1
          have B1 := B1.ext hb1
          have hb := ext_trans hb hb1
          go_wp2_with fail
          go_roundw
          case rel => exact ⟨d + 1, some (p, q), by omega, by omega, by go_num, HS, HN, HO, B0.alloc _, B1.alloc _, ext_alloc hb _⟩
          case measure => simp [intOf]; omega

set_option maxRecDepth 100000 in
set_option maxHeartbeats 4000000 in
theorem last_any (A A' L : Option Addr) (c c' cl : Nat) (g : GraphD) (x : EdgeD) (t : Int) (w : World) (hG : GraphAt w A c A' c' g) (hV : Valid g) (hx : EdgeOk g x) (hL : SlAt RLeg 4 w L x.legs) (hl : x.legs.length ≤ maxLen) :
    Calls Try.prog 121 #[gV A c A' c' g, edgeV L cl x, .int .i64 t] w fun e w' => e = .returned (.int .i64 (lastT g x t)) ∧ Below w.heap.size w w' := by
  have hh1 := hV.h1
  have hh0 := hV.h0
  have hw0 : IntKind.i64.wrap (g.h - 1) = g.h - 1 := IntWalk.i64_in _ (by omega)
  go_enter Try.func121, Try.ntmps121
  go_wp2_with fail
  go_loopw [7] (fun vt wr => ∃ n : Nat, n ≤ 100 ∧ vt = .int .i64 ((n : Int) - 1) ∧ Hid (lastL g x t n = lastT g x t) ∧
      Blk wr w.heap.size 28 (gC A c A' c' g) ∧ Blk wr (w.heap.size + 1) 99 (edgeC L cl x) ∧ Below w.heap.size w wr)
    (fun vt _ => (intOf vt + 1).toNat)
  case atStart => exact ⟨g.h.toNat, by omega, by congr 1; omega, Lib.hid rfl, (Blk.new _ _ _).alloc _, Blk.new_ (by simp), by go_grown⟩
  case round =>
    obtain ⟨n, hn, rfl, HF, B0, B1, hb⟩ := hrel
    obtain ⟨c1, c2, c3⟩ := B0.facts
    obtain ⟨e1, e2, e3⟩ := B1.facts
    cases n with
    | zero =>
      have HE : Hid (lastT g x t = -1) := Lib.hid (HF.out.symm)
      have hge : decide ((((0 : Nat) : Int) - 1) ≥ 0) = false := by decide
      go_wp2_with fail
      go_ret
      exact ⟨ret_int HE.out.symm, hb⟩
    | succ n =>
      have hs : (((n + 1 : Nat) : Int) - 1) = n := by omega
      rw [hs]
      have hw1 : IntKind.i64.wrap ((n : Int) - 1) = (n : Int) - 1 := IntWalk.i64_in _ (by omega)
      cases ha : arrive g x n with
      | none =>
        have HA := Lib.hid ha
        rw [lastL_no ha] at HF
        clear ha hs
        go_wp2_with fail
        refine (arrive_not _ (hG.ext hb) hV hx (hL.ext RLeg.stable hb) hl ⟨by omega, by omega⟩ HA.out).mono ?_
        rintro e w1 ⟨rfl, hb1⟩
        have B0 := B0.ext hb1
        have B1 := B1.ext hb1
        have hb := ext_trans hb hb1
        go_wp2_with fail
        go_roundw
        case rel => exact ⟨n, by omega, rfl, HF, B0.alloc _, B1.alloc _, ext_alloc hb _⟩
        case measure => simp [intOf]
      | some p =>
        obtain ⟨lg, to⟩ := p
        have HA := Lib.hid ha
        by_cases hle : to ≤ t
        case pos =>
          rw [lastL_yes ha hle] at HF
          have hld : decide (to ≤ t) = true := by simpa using hle
          clear ha hs
          go_wp2_with fail
          refine (arrive_yes _ (hG.ext hb) hV hx (hL.ext RLeg.stable hb) hl ⟨by omega, by omega⟩ HA.out).mono ?_
          rintro e w1 ⟨rfl, hb1⟩
          have hb := ext_trans hb hb1
          go_wp2_with fail
          go_ret
          exact ⟨ret_int HF.out, ext_alloc hb _⟩
        case neg =>
          rw [lastL_late ha hle] at HF
          have hld : decide (to ≤ t) = false := by simpa using hle
          clear ha hs
          go_wp2_with fail
          refine (arrive_yes _ (hG.ext hb) hV hx (hL.ext RLeg.stable hb) hl ⟨by omega, by omega⟩ HA.out).mono ?_
          rintro e w1 ⟨rfl, hb1⟩
          have B0 := B0.ext hb1
          have B1 := B1.ext hb1
          have hb := ext_trans hb hb1
          go_wp2_with fail
          go_roundw
          case rel => exact ⟨n, by omega, rfl, HF, B0.alloc _, B1.alloc _, ext_alloc hb _⟩
          case measure => simp [intOf]
end Go.Proofs.Ytcgnalpcbcpmkaa
/- What is told of a snapshot, as plain Lean: errors, ways as greatest solutions, labels, degrees; no program in sight. -/
namespace Go.Proofs.Ytcgnalpcbcpmkaa

def Far : Int := 1099511627776
def aliveAt (s : SnapD) (v : Int) : Bool := decide (0 ≤ v) && (s.alive[v.toNat]? == some true)
def arcAlive (s : SnapD) (a : ArcD) : Bool := aliveAt s a.a && aliveAt s a.b
def costOk (a : ArcD) : Bool := decide (0 ≤ a.cost ∧ a.cost ≤ 1000)
def shotErr (s : SnapD) : Int := if 12 < s.alive.length ∨ 30 < s.arcs.length then 2 else if s.arcs.all (arcAlive s) = false then 4 else if s.arcs.all costOk = false then 1 else 0
theorem shotErr_large {s : SnapD} (h : 12 < s.alive.length ∨ 30 < s.arcs.length) : shotErr s = 2 := by unfold shotErr; rw [if_pos h]
theorem shotErr_dead {s : SnapD} (h : ¬ (12 < s.alive.length ∨ 30 < s.arcs.length)) (h2 : s.arcs.all (arcAlive s) = false) : shotErr s = 4 := by unfold shotErr; rw [if_neg h, if_pos h2]
theorem shotErr_cost {s : SnapD} (h : ¬ (12 < s.alive.length ∨ 30 < s.arcs.length)) (h2 : s.arcs.all (arcAlive s) = true) (h3 : s.arcs.all costOk = false) : shotErr s = 1 := by
  unfold shotErr; rw [if_neg h, if_neg (by simp [h2]), if_pos h3]
theorem shotErr_ok {s : SnapD} (h : ¬ (12 < s.alive.length ∨ 30 < s.arcs.length)) (h2 : s.arcs.all (arcAlive s) = true) (h3 : s.arcs.all costOk = true) : shotErr s = 0 := by
  unfold shotErr; rw [if_neg h, if_neg (by simp [h2]), if_neg (by simp [h3])]
structure ArcOk (s : SnapD) (a : ArcD) : Prop where
  a0 : 0 ≤ a.a
  a1 : a.a.toNat < s.alive.length
  al : s.alive[a.a.toNat]? = some true
  b0 : 0 ≤ a.b
  b1 : a.b.toNat < s.alive.length
  bl : s.alive[a.b.toNat]? = some true
  c0 : 0 ≤ a.cost
  c1 : a.cost ≤ 1000
structure SnapOk (s : SnapD) : Prop where
  nv : s.alive.length ≤ 12
  na : s.arcs.length ≤ 30
  arcs : ∀ a, a ∈ s.arcs → ArcOk s a
theorem snapOk_of {s : SnapD} (h : shotErr s = 0) : SnapOk s := by
  unfold shotErr at h
  split at h
  · simp at h
  · rename_i h1
    split at h
    · simp at h
    · rename_i h2
      split at h
      · simp at h
      · rename_i h3
        simp only [Bool.not_eq_false, List.all_eq_true] at h2 h3
        refine ⟨by omega, by omega, fun a ha => ?_⟩
        have k2 := h2 a ha
        have k3 := h3 a ha
        simp only [arcAlive, aliveAt, Bool.and_eq_true, decide_eq_true_eq, beq_iff_eq] at k2
        simp only [costOk, decide_eq_true_eq] at k3
        obtain ⟨⟨k4, k5⟩, k6, k7⟩ := k2
        exact ⟨k4, lt_of_get k5, k5, k6, lt_of_get k7, k7, k3.1, k3.2⟩

/-! ### ways -/
def arcF (wt : ArcD → Int) (a : ArcD) : Arc Nat := ⟨a.a.toNat, a.b.toNat, fun t => t + wt a⟩
def arcB (wt : ArcD → Int) (a : ArcD) : Arc Nat := ⟨a.b.toNat, a.a.toNat, fun t => t + wt a⟩
def arcsOf (s : SnapD) (wt : ArcD → Int) : List (Arc Nat) := s.arcs.map (arcF wt)
/-- The arcs as a set, perhaps either way round. -/
def ArcsP (s : SnapD) (wt : ArcD → Int) (back : Bool) (x : Arc Nat) : Prop := ∃ a, a ∈ s.arcs ∧ (x = arcF wt a ∨ back = true ∧ x = arcB wt a)
def wOne (_ : ArcD) : Int := 1
def wCost (a : ArcD) : Int := a.cost
def wZero (_ : ArcD) : Int := 0
def startD (s : SnapD) (v : Int) : List Int := (List.range s.alive.length).map fun (k : Nat) => if s.alive[k]? = some true ∧ (k : Int) = v then 0 else Far
def labelD (s : SnapD) : List Int := (List.range s.alive.length).map fun (k : Nat) => if s.alive[k]? = some true then (k : Int) else Far
theorem gi_range {n : Nat} {f : Nat → Int} {k : Nat} (h : k < n) : gi ((List.range n).map f) k = f k := gi_of (by simp [h])
theorem gi_range_far {n : Nat} {f : Nat → Int} {k : Nat} (h : n ≤ k) : gi ((List.range n).map f) k = 0 := gi_far (by simpa using h)
theorem mem_arcsOf {s : SnapD} {wt : ArcD → Int} : (fun x => x ∈ arcsOf s wt) = ArcsP s wt false := by
  funext x
  simp only [arcsOf, ArcsP, List.mem_map, eq_iff_iff]
  constructor
  · rintro ⟨a, h, rfl⟩; exact ⟨a, h, .inl rfl⟩
  · rintro ⟨a, h, rfl | ⟨h2, _⟩⟩
    · exact ⟨a, h, rfl⟩
    · simp at h2
theorem mono_add (n : Int) : Mono fun t => t + n := fun s t h => by simp only; omega
/-- The list tells the ways from a vertex. -/
def WaysL (s : SnapD) (wt : ArcD → Int) (v : Int) (l : List Int) : Prop := l.length = s.alive.length ∧ Best (ArcsP s wt false) (gi (startD s v)) (gi l)
def LabelsL (s : SnapD) (l : List Int) : Prop := l.length = s.alive.length ∧ Best (ArcsP s wZero true) (gi (labelD s)) (gi l)
theorem WaysL.eq {s : SnapD} {wt : ArcD → Int} {v : Int} {l r : List Int} (h : WaysL s wt v l) (k : WaysL s wt v r) : l = r := gi_ext (h.1.trans k.1.symm) (h.2.eq k.2)
theorem LabelsL.eq {s : SnapD} {l r : List Int} (h : LabelsL s l) (k : LabelsL s r) : l = r := gi_ext (h.1.trans k.1.symm) (h.2.eq k.2)
def outOf (v : Nat) : List ArcD → Int
  | [] => 0
  | a :: l => if a.a.toNat = v then outOf v l + 1 else outOf v l
def degreesD (s : SnapD) : List Int := (List.range s.alive.length).map fun (k : Nat) => if s.alive[k]? = some true then outOf k s.arcs else Far
def waysErr (s : SnapD) (v : Int) : Int := if shotErr s = 0 then (if 0 ≤ v ∧ v < s.alive.length then 0 else 4) else shotErr s
theorem waysErr_bad {s : SnapD} {v : Int} (h : ¬ shotErr s = 0) : waysErr s v = shotErr s := by unfold waysErr; rw [if_neg h]
theorem waysErr_none {s : SnapD} {v : Int} (h : shotErr s = 0) (h2 : ¬ (0 ≤ v ∧ v < s.alive.length)) : waysErr s v = 4 := by unfold waysErr; rw [if_pos h, if_neg h2]
theorem waysErr_ok {s : SnapD} {v : Int} (h : shotErr s = 0) (h2 : 0 ≤ v ∧ v < s.alive.length) : waysErr s v = 0 := by unfold waysErr; rw [if_pos h, if_pos h2]
theorem waysErr_0 {s : SnapD} {v : Int} (h : waysErr s v = 0) : shotErr s = 0 ∧ 0 ≤ v ∧ v < s.alive.length := by
  unfold waysErr at h
  split at h
  · rename_i h1
    split at h
    · rename_i h2; exact ⟨h1, h2⟩
    · simp at h
  · contradiction

/-! ### bounds -/
section
variable {s : SnapD} {v : Int}
theorem start_big (s : SnapD) (v : Int) (i : Nat) : gi (startD s v) i ≤ Far := by
  by_cases h : i < s.alive.length
  · unfold startD; rw [gi_range h]; split <;> simp [Far]
  · unfold startD; rw [gi_range_far (by omega)]; simp [Far]
theorem label_big (s : SnapD) (hn : s.alive.length ≤ 12) (i : Nat) : gi (labelD s) i ≤ Far := by
  by_cases h : i < s.alive.length
  · unfold labelD; rw [gi_range h]; split <;> (simp only [Far]; omega)
  · unfold labelD; rw [gi_range_far (by omega)]; simp [Far]
theorem start_pos (s : SnapD) (v : Int) (i : Nat) : 0 ≤ gi (startD s v) i := by
  by_cases h : i < s.alive.length
  · unfold startD; rw [gi_range h]; split <;> simp [Far]
  · unfold startD; rw [gi_range_far (by omega)]; simp
theorem label_pos (s : SnapD) (i : Nat) : 0 ≤ gi (labelD s) i := by
  by_cases h : i < s.alive.length
  · unfold labelD; rw [gi_range h]; split <;> first | (unfold Far; omega) | omega
  · unfold labelD; rw [gi_range_far (by omega)]; simp
/-- Nothing is told below nought. -/
theorem above_pos {ι : Type} {A : Arc ι → Prop} {init d : ι → Int} (h : Above A init d) (hi : ∀ i, 0 ≤ init i) (hf : ∀ x, A x → 0 ≤ x.f 0) : ∀ i, 0 ≤ d i :=
  h (fun _ => 0) ⟨hi, fun x hx => hf x hx⟩
end
end Go.Proofs.Ytcgnalpcbcpmkaa
/- The walks of the checks of a snapshot, the program's and the document's. -/
namespace Go.Proofs.Ytcgnalpcbcpmkaa
open Go.RowKit

abbrev arcV (x : ArcD) : Value := .agg #[.int .i64 x.a, .int .i64 x.b, .int .i64 x.cost]
abbrev snapC (A : Option Addr) (c : Nat) (A' : Option Addr) (c' : Nat) (s : SnapD) : Array Value := #[.slice A s.alive.length c, .slice A' s.arcs.length c']
theorem aliveAt_neg {s : SnapD} {v : Int} (h : ¬ 0 ≤ v) : aliveAt s v = false := by simp [aliveAt]; omega
theorem aliveAt_far {s : SnapD} {v : Int} (h : (s.alive.length : Int) ≤ v) : aliveAt s v = false := by
  simp only [aliveAt, Bool.and_eq_false_iff]
  right
  rw [List.getElem?_eq_none (by omega)]; rfl
theorem aliveAt_in {s : SnapD} {v : Int} {b : Bool} (h : 0 ≤ v) (h2 : s.alive[v.toNat]? = some b) : aliveAt s v = b := by simp [aliveAt, h, h2]

set_option maxHeartbeats 1000000 in
theorem aliveClo_any (A A' : Option Addr) (c c' : Nat) (s : SnapD) (v : Int) (bn bs : Nat) (w : World) (hS : SnapAt w A c A' c' s) (hn : Blk w bn 3 #[.int .i64 s.alive.length]) (hs : Blk w bs 51 (snapC A c A' c' s)) :
    Calls Try.prog 96 #[.int .i64 v, .pointer (some ⟨bn, 0, none⟩), .pointer (some ⟨bs, 0, none⟩)] w fun e w' => e = .returned (.bool (aliveAt s v)) ∧ w = w' := by
  have m1 : s.alive.length ≤ 9223372036854775807 := Nat.le_trans hS.lc hS.cm
  obtain ⟨n1, n2, n3⟩ := hn.facts
  obtain ⟨q1, q2, q3⟩ := hs.facts
  have n10 := n1 0
  have q10 := q1 0
  simp at n10 q10
  obtain ⟨b, off, hL⟩ := hS.alive
  by_cases h0 : 0 ≤ v
  case neg =>
    have HA := Lib.hid (aliveAt_neg (s := s) h0)
    have hd : decide (0 ≤ v) = false := by simpa using h0
    go_enter Try.func96, Try.ntmps96
    go_wp2_with fail
    go_ret
    exact ⟨ret_bool HA.out.symm, rfl⟩
  by_cases h1 : (v : Int) < s.alive.length
  case neg =>
    have HA := Lib.hid (aliveAt_far (s := s) (v := v) (by omega))
    have hd : decide (v < (s.alive.length : Int)) = false := by simpa using h1
    go_enter Try.func96, Try.ntmps96
    go_wp2_with fail
    go_ret
    exact ⟨ret_bool HA.out.symm, rfl⟩
  obtain ⟨y, hy⟩ := get_lt (show v.toNat < s.alive.length by omega)
  have HA := Lib.hid (aliveAt_in h0 hy)
  obtain ⟨rfl, hb0, x0⟩ := hL _ y hy
  unfold RBool cellIs at x0
  simp only [Nat.mul_one] at x0
  clear hL hy
  go_enter Try.func96, Try.ntmps96
  go_wp2_with fail
  go_ret
  exact ⟨ret_bool HA.out.symm, rfl⟩
theorem aliveAt_known {s : SnapD} {v : Int} (h : aliveAt s v = true) : 0 ≤ v ∧ v.toNat < s.alive.length ∧ s.alive[v.toNat]? = some true := by
  simp only [aliveAt, Bool.and_eq_true, decide_eq_true_eq, beq_iff_eq] at h
  exact ⟨h.1, lt_of_get h.2, h.2⟩
set_option maxRecDepth 100000 in
set_option maxHeartbeats 4000000 in
theorem shotCheck_any (A A' : Option Addr) (c c' : Nat) (s : SnapD) (w : World) (hS : SnapAt w A c A' c' s) :
    Calls Try.prog 43 #[snapV A c A' c' s] w fun e w' => e = .returned (.int .i64 (shotErr s)) ∧ Below w.heap.size w w' := by
  have m1 : s.alive.length ≤ 9223372036854775807 := Nat.le_trans hS.lc hS.cm
  have m2 : s.arcs.length ≤ 9223372036854775807 := Nat.le_trans hS.lc' hS.cm'
  have hmf : ∀ (fn : Fn) (first cap : Array Value) (w : World), (Instr.makeFunc fn first cap).run Try.prog w = .ok (.func fn first cap) w := fun _ _ _ _ => rfl
  by_cases h1 : 12 < s.alive.length
  · go_enter Try.func43, Try.ntmps43
    go_wp2_with fail
    go_ret
    exact ⟨ret_int (shotErr_large (.inl h1)).symm, by go_grown⟩
  by_cases h2 : 30 < s.arcs.length
  · go_enter Try.func43, Try.ntmps43
    go_wp2_with fail
    go_ret
    exact ⟨ret_int (shotErr_large (.inr h2)).symm, by go_grown⟩
  obtain ⟨b, off, hL⟩ := hS.arcs
  go_enter Try.func43, Try.ntmps43
  go_wp2_with fail
  go_loopw [24] (fun v wr => ∃ k : Nat, k ≤ s.arcs.length ∧ v = .int .i64 k ∧ Hid ((s.arcs.drop k).all (arcAlive s) = s.arcs.all (arcAlive s)) ∧ Below w.heap.size w wr ∧ Blk wr w.heap.size 51 (snapC A c A' c' s) ∧ Blk wr (w.heap.size + 1) 3 #[.int .i64 s.alive.length])
    (fun v _ => s.arcs.length - (intOf v).toNat)
  case atStart => exact ⟨0, Nat.zero_le _, rfl, Lib.hid rfl, by go_grown, (Blk.new _ _ _).alloc _, Blk.new_ (by simp)⟩
  case round =>
    obtain ⟨k, hk, rfl, HI, hb, hB1, hB2⟩ := hrel
    obtain ⟨b1, b2, b3⟩ := hB1.facts
    by_cases hlt : k < s.arcs.length
    · obtain ⟨y, hy⟩ := get_lt hlt
      obtain ⟨rfl, hb0, ⟨⟨x0, x1, x2⟩, _⟩⟩ := hL k y hy
      have y0 := x0.now hb
      have y1 := x1.now hb
      have y2 := x2.now hb
      have hd := drop_cons hy
      have HI2 : Hid ((y :: s.arcs.drop (k + 1)).all (arcAlive s) = s.arcs.all (arcAlive s)) := by rw [← hd]; exact HI
      clear hL hd hy HI x0 x1 x2
      cases ha : aliveAt s y.a
      case false =>
        have hf : Hid (shotErr s = 4) := Lib.hid (shotErr_dead (by omega) (HI2.out.symm.trans (all_bad (by simp [arcAlive, ha]))))
        go_wp2_with fail
        refine (aliveClo_any _ _ _ _ s y.a _ _ _ (hS.ext (ext_alloc hb _)) (hB2.alloc _) (hB1.alloc _)).mono ?_
        rw [ha]
        rintro e w1 ⟨rfl, rfl⟩
        go_wp2_with fail
        go_ret
        exact ⟨ret_int hf.out.symm, ext_alloc hb _⟩
      cases hbb : aliveAt s y.b
      case false =>
        have hf : Hid (shotErr s = 4) := Lib.hid (shotErr_dead (by omega) (HI2.out.symm.trans (all_bad (by simp [arcAlive, hbb]))))
        go_wp2_with fail
        refine (aliveClo_any _ _ _ _ s y.a _ _ _ (hS.ext (ext_alloc hb _)) (hB2.alloc _) (hB1.alloc _)).mono ?_
        rw [ha]
        rintro e w1 ⟨rfl, rfl⟩
        go_wp2_with fail
        refine (aliveClo_any _ _ _ _ s y.b _ _ _ (hS.ext (ext_alloc hb _)) (hB2.alloc _) (hB1.alloc _)).mono ?_
        rw [hbb]
        rintro e w1 ⟨rfl, rfl⟩
        go_wp2_with fail
        go_ret
        exact ⟨ret_int hf.out.symm, ext_alloc hb _⟩
      have hnx : Hid ((s.arcs.drop (k + 1)).all (arcAlive s) = s.arcs.all (arcAlive s)) := Lib.hid ((all_next (by simp [arcAlive, ha, hbb])).symm.trans HI2.out)
      clear HI2
      go_wp2_with fail
      refine (aliveClo_any _ _ _ _ s y.a _ _ _ (hS.ext (ext_alloc hb _)) (hB2.alloc _) (hB1.alloc _)).mono ?_
      rw [ha]
      rintro e w1 ⟨rfl, rfl⟩
      go_wp2_with fail
      refine (aliveClo_any _ _ _ _ s y.b _ _ _ (hS.ext (ext_alloc hb _)) (hB2.alloc _) (hB1.alloc _)).mono ?_
      rw [hbb]
      rintro e w1 ⟨rfl, rfl⟩
      go_wp2_with fail
      go_roundw
      case rel => exact ⟨k + 1, by omega, by go_num, hnx, ext_alloc hb _, hB1.alloc _, hB2.alloc _⟩
      case measure => simp [intOf]; omega
    · have hall : s.arcs.all (arcAlive s) = true := by rw [← HI.out, drop_end (by omega)]; rfl
      have HALL := Lib.hid hall
      clear hall HI
      obtain ⟨wo, rfl⟩ : ∃ wo : World, wo = wr := ⟨_, rfl⟩
      go_wp2_with fail
      go_loopw [44] (fun v wr => ∃ k : Nat, k ≤ s.arcs.length ∧ v = .int .i64 k ∧ Hid ((s.arcs.drop k).all costOk = s.arcs.all costOk) ∧ Below w.heap.size w wr)
        (fun v _ => s.arcs.length - (intOf v).toNat)
      case atStart => exact ⟨0, Nat.zero_le _, rfl, Lib.hid rfl, hb⟩
      case round =>
        clear hb hB1 hB2 b1 b2 b3
        obtain ⟨j, hj, rfl, HI, hb⟩ := hrel
        by_cases hlt : j < s.arcs.length
        · obtain ⟨y, hy⟩ := get_lt hlt
          obtain ⟨rfl, hb0, ⟨⟨x0, x1, x2⟩, _⟩⟩ := hL j y hy
          have y0 := x0.now hb
          have y1 := x1.now hb
          have y2 := x2.now hb
          have hd := drop_cons hy
          have HI2 : Hid ((y :: s.arcs.drop (j + 1)).all costOk = s.arcs.all costOk) := by rw [← hd]; exact HI
          clear hL hd hy HI x0 x1 x2
          by_cases hc : 0 ≤ y.cost ∧ y.cost ≤ 1000
          · have hnx : Hid ((s.arcs.drop (j + 1)).all costOk = s.arcs.all costOk) := Lib.hid ((all_next (by simp [costOk, hc])).symm.trans HI2.out)
            obtain ⟨hc0, hc1⟩ := hc
            clear HI2
            go_wp2_with fail
            go_roundw
            case rel => exact ⟨j + 1, by omega, by go_num, hnx, ext_alloc hb _⟩
            case measure => simp [intOf]; omega
          · have hf : Hid (shotErr s = 1) := Lib.hid (shotErr_cost (by omega) HALL.out (HI2.out.symm.trans (all_bad (by simp only [costOk, decide_eq_false_iff_not]; exact hc))))
            go_wp2_with fail
            all_goals go_ret
            all_goals exact ⟨ret_int hf.out.symm, ext_alloc hb _⟩
        · have hf : Hid (shotErr s = 0) := Lib.hid (shotErr_ok (by omega) HALL.out (by rw [← HI.out, drop_end (by omega)]; rfl))
          go_wp2_with fail
          go_ret
          exact ⟨ret_int hf.out.symm, hb⟩

set_option maxRecDepth 100000 in
set_option maxHeartbeats 4000000 in
theorem shot_any (A A' : Option Addr) (c c' : Nat) (s : SnapD) (w : World) (hS : SnapAt w A c A' c' s) :
    Calls Try.prog 42 #[snapV A c A' c' s] w fun e w' => e = .returned (.int .i64 (shotErr s)) ∧ Below w.heap.size w w' := by
  have m1 : s.alive.length ≤ 9223372036854775807 := Nat.le_trans hS.lc hS.cm
  have m2 : s.arcs.length ≤ 9223372036854775807 := Nat.le_trans hS.lc' hS.cm'
  by_cases h1 : 12 < s.alive.length
  · go_enter Try.func42, Try.ntmps42
    go_wp2_with fail
    go_ret
    exact ⟨ret_int (shotErr_large (.inl h1)).symm, by go_grown⟩
  by_cases h2 : 30 < s.arcs.length
  · go_enter Try.func42, Try.ntmps42
    go_wp2_with fail
    go_ret
    exact ⟨ret_int (shotErr_large (.inr h2)).symm, by go_grown⟩
  obtain ⟨b, off, hL⟩ := hS.arcs
  go_enter Try.func42, Try.ntmps42
  go_wp2_with fail
  go_loopw [4] (fun v wr => ∃ k : Nat, k ≤ s.arcs.length ∧ v = .int .i64 k ∧ Hid ((s.arcs.drop k).all (arcAlive s) = s.arcs.all (arcAlive s)) ∧ Below w.heap.size w wr ∧ Blk wr w.heap.size 51 (snapC A c A' c' s))
    (fun v _ => s.arcs.length - (intOf v).toNat)
  case atStart => exact ⟨0, Nat.zero_le _, rfl, Lib.hid rfl, by go_grown, Blk.new _ _ _⟩
  case round =>
    obtain ⟨k, hk, rfl, HI, hb, hB1⟩ := hrel
    obtain ⟨b1, b2, b3⟩ := hB1.facts
    by_cases hlt : k < s.arcs.length
    · obtain ⟨y, hy⟩ := get_lt hlt
      obtain ⟨rfl, hb0, ⟨⟨x0, x1, x2⟩, _⟩⟩ := hL k y hy
      have y0 := x0.now hb
      have y1 := x1.now hb
      have y2 := x2.now hb
      have hd := drop_cons hy
      have HI2 : Hid ((y :: s.arcs.drop (k + 1)).all (arcAlive s) = s.arcs.all (arcAlive s)) := by rw [← hd]; exact HI
      have hno : arcAlive s y = false → Hid (shotErr s = 4) := fun h => Lib.hid (shotErr_dead (by omega) (HI2.out.symm.trans (all_bad h)))
      have HNO := Lib.hid hno
      clear hL hd hy HI x0 x1 x2 hno
      cases ha : inB y.a 0 ((s.alive.length : Int) - 1)
      case false =>
        have hf := (HNO.out (by
          have h := inB_iff'.1 ha
          have : aliveAt s y.a = false := by
            by_cases h0 : 0 ≤ y.a
            · exact aliveAt_far (by omega)
            · exact aliveAt_neg h0
          simp [arcAlive, this]))
        go_wp2_with (go_at_call 46; refine (in_any _ _ _ _).mono ?_; rintro e w' ⟨rfl, rfl⟩)
        go_ret
        exact ⟨ret_int hf.out.symm, ext_alloc hb _⟩
      cases hbb : inB y.b 0 ((s.alive.length : Int) - 1)
      case false =>
        have hf := (HNO.out (by
          have h := inB_iff'.1 hbb
          have : aliveAt s y.b = false := by
            by_cases h0 : 0 ≤ y.b
            · exact aliveAt_far (by omega)
            · exact aliveAt_neg h0
          simp [arcAlive, this]))
        go_wp2_with (go_at_call 46; refine (in_any _ _ _ _).mono ?_; rintro e w' ⟨rfl, rfl⟩)
        go_ret
        exact ⟨ret_int hf.out.symm, ext_alloc hb _⟩
      have ha' := inB_iff.1 ha
      have hb' := inB_iff.1 hbb
      obtain ⟨a0, a1⟩ := ha'
      obtain ⟨e0, e1⟩ := hb'
      obtain ⟨ba, oa, hAl⟩ := hS.alive
      obtain ⟨p, hp⟩ := get_lt (show y.a.toNat < s.alive.length by omega)
      obtain ⟨q, hq⟩ := get_lt (show y.b.toNat < s.alive.length by omega)
      obtain ⟨rfl, hba, p0⟩ := hAl _ p hp
      obtain ⟨_, hbq, q0⟩ := hAl _ q hq
      unfold RBool at p0 q0
      have p1 := p0.now hb
      have q1 := q0.now hb
      simp only [Nat.mul_one] at p1 q1
      have hbz : ba < wr.heap.size := Nat.lt_of_lt_of_le hba hb.size
      have HPA := Lib.hid (aliveAt_in a0 hp)
      have HPB := Lib.hid (aliveAt_in e0 hq)
      clear hAl hp hq p0 q0
      have a2 : y.a < s.alive.length := by omega
      have e2 : y.b < s.alive.length := by omega
      cases p
      case false =>
        have hf := (HNO.out (by simp [arcAlive, HPA.out]))
        go_wp2_with (go_at_call 46; refine (in_any _ _ _ _).mono ?_; rintro e w' ⟨rfl, rfl⟩)
        go_ret
        exact ⟨ret_int hf.out.symm, ext_alloc hb _⟩
      cases q
      case false =>
        have hf := (HNO.out (by simp [arcAlive, HPB.out]))
        go_wp2_with (go_at_call 46; refine (in_any _ _ _ _).mono ?_; rintro e w' ⟨rfl, rfl⟩)
        go_ret
        exact ⟨ret_int hf.out.symm, ext_alloc hb _⟩
      have hnx : Hid ((s.arcs.drop (k + 1)).all (arcAlive s) = s.arcs.all (arcAlive s)) := Lib.hid ((all_next (by simp [arcAlive, HPA.out, HPB.out])).symm.trans HI2.out)
      clear HI2
      go_wp2_with (go_at_call 46; refine (in_any _ _ _ _).mono ?_; rintro e w' ⟨rfl, rfl⟩)
      go_roundw
      case rel => exact ⟨k + 1, by omega, by go_num, hnx, ext_alloc hb _, hB1.alloc _⟩
      case measure => simp [intOf]; omega
    · have hall : s.arcs.all (arcAlive s) = true := by rw [← HI.out, drop_end (by omega)]; rfl
      have HALL := Lib.hid hall
      clear hall HI
      obtain ⟨wo, rfl⟩ : ∃ wo : World, wo = wr := ⟨_, rfl⟩
      go_wp2_with fail
      go_loopw [6] (fun v wr => ∃ k : Nat, k ≤ s.arcs.length ∧ v = .int .i64 k ∧ Hid ((s.arcs.drop k).all costOk = s.arcs.all costOk) ∧ wr = wo)
        (fun v _ => s.arcs.length - (intOf v).toNat)
      case atStart => exact ⟨0, Nat.zero_le _, rfl, Lib.hid rfl, rfl⟩
      case round =>
        obtain ⟨j, hj, rfl, HI, rfl⟩ := hrel
        by_cases hlt : j < s.arcs.length
        · obtain ⟨y, hy⟩ := get_lt hlt
          obtain ⟨rfl, hb0, ⟨⟨x0, x1, x2⟩, _⟩⟩ := hL j y hy
          have y2 := x2.now hb
          have hd := drop_cons hy
          have HI2 : Hid ((y :: s.arcs.drop (j + 1)).all costOk = s.arcs.all costOk) := by rw [← hd]; exact HI
          clear hL hd hy HI x0 x1 x2
          cases hc : inB y.cost 0 1000
          case true =>
            have hnx : Hid ((s.arcs.drop (j + 1)).all costOk = s.arcs.all costOk) := Lib.hid ((all_next (by simp only [costOk, decide_eq_true_eq]; exact inB_iff.1 hc)).symm.trans HI2.out)
            clear HI2
            go_wp2_with (go_at_call 46; refine (in_any _ _ _ _).mono ?_; rintro e w' ⟨rfl, rfl⟩)
            go_roundw
            case rel => exact ⟨j + 1, by omega, by go_num, hnx, trivial⟩
            case measure => simp [intOf]; omega
          case false =>
            have hf : Hid (shotErr s = 1) := Lib.hid (shotErr_cost (by omega) HALL.out (HI2.out.symm.trans (all_bad (by simp only [costOk, decide_eq_false_iff_not]; exact inB_iff'.1 hc))))
            go_wp2_with (go_at_call 46; refine (in_any _ _ _ _).mono ?_; rintro e w' ⟨rfl, rfl⟩)
            go_ret
            exact ⟨ret_int hf.out.symm, hb⟩
        · have hf : Hid (shotErr s = 0) := Lib.hid (shotErr_ok (by omega) HALL.out (by rw [← HI.out, drop_end (by omega)]; rfl))
          go_wp2_with fail
          go_ret
          exact ⟨ret_int hf.out.symm, hb⟩
end Go.Proofs.Ytcgnalpcbcpmkaa
