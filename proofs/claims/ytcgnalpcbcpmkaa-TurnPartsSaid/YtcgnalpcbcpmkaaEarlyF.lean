/- The walks of the first and of the last hop along an edge. -/
import Derived.Test.YtcgnalpcbcpmkaaArrive
import Derived.Test.YtcgnalpcbcpmkaaLateMid
import Derived.IntWalk
namespace Go.Proofs.Ytcgnalpcbcpmkaa
open Go.RowKit

theorem arrive_yes {A A' L : Option Addr} {c c' cl : Nat} {g : GraphD} {x : EdgeD} {t to : Int} {l : LegD} (w : World) (hG : GraphAt w A c A' c' g) (hV : Valid g) (hx : EdgeOk g x) (hL : SlAt RLeg 4 w L x.legs) (hl : x.legs.length ≤ maxLen) (ht : I64 t) (h : arrive g x t = some (l, to)) :
    Calls Try.prog 94 #[gV A c A' c' g, edgeV L cl x, .int .i64 t] w fun e w' => e = .returned (.tuple #[legV l, .int .i64 to, .bool true]) ∧ Below w.heap.size w w' :=
  (arrive_any A A' L c c' cl g x t w hG hV hx hL hl ht).mono fun e w' ⟨he, hb⟩ => ⟨by rw [he, h]; rfl, hb⟩
theorem arrive_not {A A' L : Option Addr} {c c' cl : Nat} {g : GraphD} {x : EdgeD} {t : Int} (w : World) (hG : GraphAt w A c A' c' g) (hV : Valid g) (hx : EdgeOk g x) (hL : SlAt RLeg 4 w L x.legs) (hl : x.legs.length ≤ maxLen) (ht : I64 t) (h : arrive g x t = none) :
    Calls Try.prog 94 #[gV A c A' c' g, edgeV L cl x, .int .i64 t] w fun e w' => e = .returned (.tuple #[legV ⟨0, 0, 0, 0⟩, .int .i64 0, .bool false]) ∧ Below w.heap.size w w' :=
  (arrive_any A A' L c c' cl g x t w hG hV hx hL hl ht).mono fun e w' ⟨he, hb⟩ => ⟨by rw [he, h]; rfl, hb⟩
abbrev edgeC (L : Option Addr) (cl : Nat) (x : EdgeD) : Array Value := #[.int .i64 x.a, .int .i64 x.b, .slice L x.legs.length cl]
theorem results3 {fn : Func} {t u v : Tmp} (h : fn.results = #[.tmp t, .tmp u, .tmp v]) (tmps : Array Value) (P : Program) (w : World) :
    (results fn tmps).run P w = .ok (.tuple #[tmps.getD t undef, tmps.getD u undef, tmps.getD v undef]) w := by simp [results, h]
/-- The three results of first. -/
def firstR (o : Option (Int × Int)) : Value := match o with
  | some p => .tuple #[.int .i64 p.1, .int .i64 p.2, .bool true]
  | none => .tuple #[.int .i64 0, .int .i64 0, .bool false]
/-- The three variables of the loop: what is best, when one leaves, whether there is one. -/
def FState (o : Option (Int × Int)) (b d f : Value) : Prop := match o with
  | some p => b = .int .i64 p.2 ∧ d = .int .i64 p.1 ∧ f = .bool true
  | none => b = .int .i64 0 ∧ d = .int .i64 0 ∧ f = .bool false
theorem firstL_end {g : GraphD} {x : EdgeD} {d : Int} {o : Option (Int × Int)} {n : Nat} (h : n = 0) : firstL g x n d o = o := by subst h; rfl
theorem firstL_go {g : GraphD} {x : EdgeD} {d : Int} {o : Option (Int × Int)} {n : Nat} (h : 0 < n) : firstL g x n d o = firstL g x (n - 1) (d + 1) (fstep g x o d) := by
  cases n with
  | zero => omega
  | succ n => rfl

set_option maxRecDepth 100000 in
set_option maxHeartbeats 4000000 in
theorem first_any (A A' L : Option Addr) (c c' cl : Nat) (g : GraphD) (x : EdgeD) (t : Int) (w : World) (hG : GraphAt w A c A' c' g) (hV : Valid g) (hx : EdgeOk g x) (hL : SlAt RLeg 4 w L x.legs) (hl : x.legs.length ≤ maxLen) (ht0 : 0 ≤ t) (ht1 : t ≤ 100) :
    Calls Try.prog 129 #[gV A c A' c' g, edgeV L cl x, .int .i64 t] w fun e w' => e = .returned (firstR (first g x t)) ∧ Below w.heap.size w w' := by
  have hh1 := hV.h1
  have hh0 := hV.h0
  go_enter Try.func129, Try.ntmps129
  go_wp2_with fail
  go_loopw [9, 10, 11, 12] (fun vb vd vf vt wr => ∃ (d : Int) (o : Option (Int × Int)), t ≤ d ∧ d ≤ 100 ∧ vt = .int .i64 d ∧ Hid (FState o vb vd vf) ∧ Hid (firstL g x (g.h - d).toNat d o = first g x t) ∧ Hid (∀ p q, o = some (p, q) → p ≤ 100 ∧ q ≤ 100) ∧
      Blk wr w.heap.size 28 (gC A c A' c' g) ∧ Blk wr (w.heap.size + 1) 99 (edgeC L cl x) ∧ Below w.heap.size w wr)
    (fun _ _ _ vt _ => (100 - intOf vt).toNat)
  case atStart => exact ⟨t, none, Int.le_refl _, ht1, rfl, Lib.hid ⟨rfl, rfl, rfl⟩, Lib.hid rfl, Lib.hid (fun p q h => by simp at h), (Blk.new _ _ _).alloc _, Blk.new_ (by simp), by go_grown⟩
  case round =>
    obtain ⟨d, o, hd0, hd1, rfl, HS, HF, HO, B0, B1, hb⟩ := hrel
    obtain ⟨c1, c2, c3⟩ := B0.facts
    obtain ⟨e1, e2, e3⟩ := B1.facts
    by_cases hlt : d < g.h
    case neg =>
      have HE : Hid (o = first g x t) := Lib.hid ((firstL_end (by omega)).symm.trans HF.out)
      cases o with
      | none =>
        obtain ⟨rfl, rfl, rfl⟩ := HS.out
        go_wp2_with fail
        refine bodyPost_ret (results3 rfl _ _ _) rfl ?_
        exact ⟨by rw [← HE.out]; rfl, hb⟩
      | some p =>
        obtain ⟨p, q⟩ := p
        obtain ⟨rfl, rfl, rfl⟩ := HS.out
        go_wp2_with fail
        refine bodyPost_ret (results3 rfl _ _ _) rfl ?_
        exact ⟨by rw [← HE.out]; rfl, hb⟩
    have HN : Hid (firstL g x (g.h - (d + 1)).toNat (d + 1) (fstep g x o d) = first g x t) := Lib.hid (by
      rw [← HF.out, firstL_go (n := (g.h - d).toNat) (by omega), show (g.h - d).toNat - 1 = (g.h - (d + 1)).toNat by omega])
    have hw1 : IntKind.i64.wrap (d + 1) = d + 1 := IntWalk.i64_in _ (by omega)
    clear HF
    cases ha : arrive g x d with
    | none =>
      have HA := Lib.hid ha
      rw [fstep_no ha] at HN
      clear ha
      cases o with
      | none =>
        obtain ⟨rfl, rfl, rfl⟩ := HS.out
        go_wp2_with fail
        refine (arrive_not _ (hG.ext hb) hV hx (hL.ext RLeg.stable hb) hl ⟨by omega, by omega⟩ HA.out).mono ?_
        rintro e w1 ⟨rfl, hb1⟩
        have B0 := B0.ext hb1
        have B1 := B1.ext hb1
        have hb := ext_trans hb hb1
        go_wp2_with fail
        go_roundw
        case rel => exact ⟨d + 1, none, by omega, by omega, by go_num, HS, HN, HO, B0.alloc _, B1.alloc _, ext_alloc hb _⟩
        case measure => simp [intOf]; omega
      | some p =>
        obtain ⟨p, q⟩ := p
        obtain ⟨rfl, rfl, rfl⟩ := HS.out
        go_wp2_with fail
        refine (arrive_not _ (hG.ext hb) hV hx (hL.ext RLeg.stable hb) hl ⟨by omega, by omega⟩ HA.out).mono ?_
        rintro e w1 ⟨rfl, hb1⟩
        have B0 := B0.ext hb1
        have B1 := B1.ext hb1
        have hb := ext_trans hb hb1
        go_wp2_with fail
        go_roundw
        case rel => exact ⟨d + 1, some (p, q), by omega, by omega, by go_num, HS, HN, HO, B0.alloc _, B1.alloc _, ext_alloc hb _⟩
        case measure => simp [intOf]; omega
    | some p =>
      obtain ⟨lg, to⟩ := p
      have HA := Lib.hid ha
      have hto := arrive_late hV hx ha
      obtain ⟨hto0, hto1, hto2, hto3⟩ := hto
      cases o with
      | none =>
        rw [fstep_new ha] at HN
        clear ha
        obtain ⟨rfl, rfl, rfl⟩ := HS.out
        go_wp2_with fail
        refine (arrive_yes _ (hG.ext hb) hV hx (hL.ext RLeg.stable hb) hl ⟨by omega, by omega⟩ HA.out).mono ?_
        rintro e w1 ⟨rfl, hb1⟩
        have B0 := B0.ext hb1
        have B1 := B1.ext hb1
        have hb := ext_trans hb hb1
        go_wp2_with fail
        go_roundw
        case rel => exact ⟨d + 1, some (d, to), by omega, by omega, by go_num, Lib.hid ⟨rfl, rfl, rfl⟩, HN, Lib.hid (fun p q h => by simp only [Option.some.injEq, Prod.mk.injEq] at h; omega), B0.alloc _, B1.alloc _, ext_alloc hb _⟩
        case measure => simp [intOf]; omega
      | some p =>
        obtain ⟨p, q⟩ := p
        obtain ⟨rfl, rfl, rfl⟩ := HS.out
        by_cases hq : to < q
        case pos =>
          rw [fstep_less ha hq] at HN
          have hqd : decide (to < q) = true := by simpa using hq
          clear ha
          go_wp2_with fail
          refine (arrive_yes _ (hG.ext hb) hV hx (hL.ext RLeg.stable hb) hl ⟨by omega, by omega⟩ HA.out).mono ?_
          rintro e w1 ⟨rfl, hb1⟩
          have B0 := B0.ext hb1
          have B1 := B1.ext hb1
          have hb := ext_trans hb hb1
          go_wp2_with fail
          go_roundw
          case rel => exact ⟨d + 1, some (d, to), by omega, by omega, by go_num, Lib.hid ⟨rfl, rfl, rfl⟩, HN, Lib.hid (fun p q h => by simp only [Option.some.injEq, Prod.mk.injEq] at h; omega), B0.alloc _, B1.alloc _, ext_alloc hb _⟩
          case measure => simp [intOf]; omega
        case neg =>
          rw [fstep_more ha hq] at HN
          have hqd : decide (to < q) = false := by simpa using hq
          clear ha
          go_wp2_with fail
          refine (arrive_yes _ (hG.ext hb) hV hx (hL.ext RLeg.stable hb) hl ⟨by omega, by omega⟩ HA.out).mono ?_
          rintro e w1 ⟨rfl, hb1⟩
          have B0 := B0.ext hb1
          have B1 := B1.ext hb1
          have hb := ext_trans hb hb1
          go_wp2_with fail
          go_roundw
          case rel => exact ⟨d + 1, some (p, q), by omega, by omega, by go_num, HS, HN, HO, B0.alloc _, B1.alloc _, ext_alloc hb _⟩
          case measure => simp [intOf]; omega

set_option maxRecDepth 100000 in
set_option maxHeartbeats 4000000 in
theorem last_any (A A' L : Option Addr) (c c' cl : Nat) (g : GraphD) (x : EdgeD) (t : Int) (w : World) (hG : GraphAt w A c A' c' g) (hV : Valid g) (hx : EdgeOk g x) (hL : SlAt RLeg 4 w L x.legs) (hl : x.legs.length ≤ maxLen) :
    Calls Try.prog 121 #[gV A c A' c' g, edgeV L cl x, .int .i64 t] w fun e w' => e = .returned (.int .i64 (lastT g x t)) ∧ Below w.heap.size w w' := by
  have hh1 := hV.h1
  have hh0 := hV.h0
  have hw0 : IntKind.i64.wrap (g.h - 1) = g.h - 1 := IntWalk.i64_in _ (by omega)
  go_enter Try.func121, Try.ntmps121
  go_wp2_with fail
  go_loopw [7] (fun vt wr => ∃ n : Nat, n ≤ 100 ∧ vt = .int .i64 ((n : Int) - 1) ∧ Hid (lastL g x t n = lastT g x t) ∧
      Blk wr w.heap.size 28 (gC A c A' c' g) ∧ Blk wr (w.heap.size + 1) 99 (edgeC L cl x) ∧ Below w.heap.size w wr)
    (fun vt _ => (intOf vt + 1).toNat)
  case atStart => exact ⟨g.h.toNat, by omega, by congr 1; omega, Lib.hid rfl, (Blk.new _ _ _).alloc _, Blk.new_ (by simp), by go_grown⟩
  case round =>
    obtain ⟨n, hn, rfl, HF, B0, B1, hb⟩ := hrel
    obtain ⟨c1, c2, c3⟩ := B0.facts
    obtain ⟨e1, e2, e3⟩ := B1.facts
    cases n with
    | zero =>
      have HE : Hid (lastT g x t = -1) := Lib.hid (HF.out.symm)
      have hge : decide ((((0 : Nat) : Int) - 1) ≥ 0) = false := by decide
      go_wp2_with fail
      go_ret
      exact ⟨ret_int HE.out.symm, hb⟩
    | succ n =>
      have hs : (((n + 1 : Nat) : Int) - 1) = n := by omega
      rw [hs]
      have hw1 : IntKind.i64.wrap ((n : Int) - 1) = (n : Int) - 1 := IntWalk.i64_in _ (by omega)
      cases ha : arrive g x n with
      | none =>
        have HA := Lib.hid ha
        rw [lastL_no ha] at HF
        clear ha hs
        go_wp2_with fail
        refine (arrive_not _ (hG.ext hb) hV hx (hL.ext RLeg.stable hb) hl ⟨by omega, by omega⟩ HA.out).mono ?_
        rintro e w1 ⟨rfl, hb1⟩
        have B0 := B0.ext hb1
        have B1 := B1.ext hb1
        have hb := ext_trans hb hb1
        go_wp2_with fail
        go_roundw
        case rel => exact ⟨n, by omega, rfl, HF, B0.alloc _, B1.alloc _, ext_alloc hb _⟩
        case measure => simp [intOf]
      | some p =>
        obtain ⟨lg, to⟩ := p
        have HA := Lib.hid ha
        by_cases hle : to ≤ t
        case pos =>
          rw [lastL_yes ha hle] at HF
          have hld : decide (to ≤ t) = true := by simpa using hle
          clear ha hs
          go_wp2_with fail
          refine (arrive_yes _ (hG.ext hb) hV hx (hL.ext RLeg.stable hb) hl ⟨by omega, by omega⟩ HA.out).mono ?_
          rintro e w1 ⟨rfl, hb1⟩
          have hb := ext_trans hb hb1
          go_wp2_with fail
          go_ret
          exact ⟨ret_int HF.out, ext_alloc hb _⟩
        case neg =>
          rw [lastL_late ha hle] at HF
          have hld : decide (to ≤ t) = false := by simpa using hle
          clear ha hs
          go_wp2_with fail
          refine (arrive_yes _ (hG.ext hb) hV hx (hL.ext RLeg.stable hb) hl ⟨by omega, by omega⟩ HA.out).mono ?_
          rintro e w1 ⟨rfl, hb1⟩
          have B0 := B0.ext hb1
          have B1 := B1.ext hb1
          have hb := ext_trans hb hb1
          go_wp2_with fail
          go_roundw
          case rel => exact ⟨n, by omega, rfl, HF, B0.alloc _, B1.alloc _, ext_alloc hb _⟩
          case measure => simp [intOf]
end Go.Proofs.Ytcgnalpcbcpmkaa
