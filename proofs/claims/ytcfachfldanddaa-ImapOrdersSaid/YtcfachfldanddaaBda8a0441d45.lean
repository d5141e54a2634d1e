/- One text: LawOrders. -/
import Derived.Test.YtcfachfldanddaaBd712578e31d
import Derived.Test.YtcfachfldanddaaBd1064f1ead7
/- The law ImapOrders. -/
namespace Go.Proofs.Ytcfachfldanddaa
open Go.RowKit Go.Shelf

/-- What is told of two maps at a time, as the law asks for it. -/
theorem bothO_told (k : Int) (x y : Option Int) : toldV (bothO k x y) = match x, y with
  | none, none => .agg #[.int .i64 (0 + 0), .int .i64 0]
  | some x, none => .agg #[.int .i64 (x + 0), .int .i64 1]
  | none, some y => .agg #[.int .i64 (0 + y), .int .i64 1]
  | some x, some y => if k = 3 then .agg #[.int .i64 (x + y), .int .i64 1] else .agg #[.int .i64 (if k = 1 then min x y else max x y), .int .i64 1] := by
  cases x <;> cases y <;> simp [toldV, bothO]
  unfold both3
  split <;> rfl
set_option maxRecDepth 100000 in
set_option maxHeartbeats 16000000 in
theorem imapOrders_calls (A0 : Option Addr) (c0 : Nat) (l0 : List PieceD) {w0 : World} (hI0 : PiecesAt w0 A0 c0 l0) (A1 : Option Addr) (c1 : Nat) (l1 : List PieceD) (hI1 : PiecesAt w0 A1 c1 l1) (A2 : Option Addr) (c2 : Nat) (l2 : List PieceD) (hI2 : PiecesAt w0 A2 c2 l2) (k : Int) (hk : I64 k) (t : Int) (_ : I64 t) :
    Calls Try.prog 9 #[.slice A0 l0.length c0, .slice A1 l1.length c1, .slice A2 l2.length c2, .int .i64 k, .int .i64 t] w0 fun e w' => e = .returned (.bool true) ∧ Below w0.heap.size w0 w' := by
  have m0 := hI0.len
  have m1 := hI1.len
  have m2 := hI2.len
  have H0 := Lib.hid hI0
  have H1 := Lib.hid hI1
  have H2 := Lib.hid hI2
  have hk0 := Int.emod_nonneg k (show (3 : Int) ≠ 0 by decide)
  have hk1 := Int.emod_lt_of_pos k (show (0 : Int) < 3 by decide)
  have hR := fun w => rest_any k 3 w hk (by decide) (by decide)
  obtain ⟨j, hj⟩ : ∃ j, 1 + k % 3 = j := ⟨_, rfl⟩
  have hkw : IntKind.i64.wrap (1 + k % 3) = j := by rw [← hj]; exact IntWalk.i64_in _ (by omega)
  have HJ : Hid (1 ≤ j ∧ j ≤ 3) := Lib.hid (by omega)
  clear hI0 hI1 hI2 hk hj hk0 hk1
  go_enter Try.func9, Try.ntmps9
  go_wp2_with fail
  refine (begunMap_any _).mono ?_
  rintro e w1 ⟨rfl, hb1⟩
  go_wp2_with fail
  refine (hR _).mono ?_
  rintro e w1' ⟨rfl, rfl⟩
  go_wp2_with fail
  refine (built_any A0 c0 l0 _ (H0.out.ext hb1)).mono ?_
  rintro e w2 ⟨Aa, ca, a, Ha, rfl, hIa, hb2⟩
  have hb2 := ext_trans hb1 hb2
  clear hb1 hR
  go_wp2_with fail
  refine (built_any A1 c1 l1 _ (H1.out.ext hb2)).mono ?_
  rintro e w3 ⟨Ab, cb, b, Hb, rfl, hIb, hb3⟩
  have hIa := hIa.ext hb3
  have hb3 := ext_trans hb2 hb3
  clear hb2
  go_wp2_with fail
  refine (built_any A2 c2 l2 _ (H2.out.ext hb3)).mono ?_
  rintro e w4 ⟨Ac, cc, c, Hc, rfl, hIc, hb4⟩
  have hIa := hIa.ext hb4
  have hIb := hIb.ext hb4
  have hb4 := ext_trans hb3 hb4
  have Oa := Lib.hid Ha.out.ok
  have Ob := Lib.hid Hb.out.ok
  have Oc := Lib.hid Hc.out.ok
  clear hb3 Ha Hb Hc
  go_wp2_with fail
  refine (imapMerge_any Aa Ab ca cb a b j _ hIa hIb).mono ?_
  rintro e w5 ⟨er, ab, Aab, cab, HAB, rfl, hIab, hb5⟩
  have hIa := hIa.ext hb5
  have hIb := hIb.ext hb5
  have hIc := hIc.ext hb5
  have hb5 := ext_trans hb4 hb5
  clear hb4
  go_wp2_with fail
  refine (imapMerge_any Ab Aa cb ca b a j _ hIb hIa).mono ?_
  rintro e w6 ⟨er', ba, Aba, cba, HBA, rfl, hIba, hb6⟩
  obtain ⟨rfl, rfl⟩ := HAB.out.comm HBA.out Oa.out Ob.out HJ.out
  have hIa := hIa.ext hb6
  have hIb := hIb.ext hb6
  have hIc := hIc.ext hb6
  have hIab := hIab.ext hb6
  have hb6 := ext_trans hb5 hb6
  clear hb5 HBA
  go_wp2_with fail
  refine (equalPiecesSame _ _ _ _ _ _ hIab hIba).mono ?_
  rintro e w7 ⟨rfl, hb7⟩
  have hIa := hIa.ext hb7
  have hIb := hIb.ext hb7
  have hIc := hIc.ext hb7
  have hIab := hIab.ext hb7
  have hb7 := ext_trans hb6 hb7
  clear hb6 hIba
  by_cases h0 : er = 0
  case neg =>
    have hd : (er != 0) = true := by simpa using h0
    clear h0
    go_wp2_with fail
    go_ret
    exact ⟨rfl, hb7⟩
  case pos =>
  subst h0
  have HT : Hid (atM ab t = bothO j (atM a t) (atM b t)) := Lib.hid (((HAB.out.tells Oa.out Ob.out HJ.out).good rfl).2.1 t)
  have OAB : Hid (mapErr ab = 0) := Lib.hid (HAB.out.ok Oa.out Ob.out HJ.out rfl)
  have hIa' := Lib.hid hIa; have hIb' := Lib.hid hIb; have hIc' := Lib.hid hIc; have hIab' := Lib.hid hIab
  clear hIb hIc hIab
  have hta := fun w => told_any Aa ca a t w
  have htb := fun w => told_any Ab cb b t w
  have hto := fun w => told_any Aab cab ab t w
  have HVA : Hid (∀ x, atM a t = some x → nearB x = true) := Lib.hid fun x hx => (mapErr_zero Oa.out).2.vals hx
  have HVB : Hid (∀ x, atM b t = some x → nearB x = true) := Lib.hid fun x hx => (mapErr_zero Ob.out).2.vals hx
  simp only [HT.out] at hto
  obtain ⟨p, hp⟩ : ∃ p, atM a t = p := ⟨_, rfl⟩
  obtain ⟨q, hq⟩ : ∃ q, atM b t = q := ⟨_, rfl⟩
  rw [hp, hq] at hto
  rw [hp] at hta HVA
  rw [hq] at htb HVB
  have HTA := Lib.hid hta; have HTB := Lib.hid htb; have HTO := Lib.hid hto
  clear hp hq HT hta htb hto hIa
  cases p with
  | none =>
    cases q with
    | none =>
        have hta := HTA.out w7 hIa'.out
        rw [show toldV none = .agg #[.int .i64 0, .int .i64 0] from rfl] at hta
        go_wp2_with fail
        refine hta.mono ?_
        rintro e w8 ⟨rfl, hb8⟩
        have htb := HTB.out w8 (hIb'.out.ext hb8)
        rw [show toldV none = .agg #[.int .i64 0, .int .i64 0] from rfl] at htb
        clear hta
        go_wp2_with fail
        refine htb.mono ?_
        rintro e w9 ⟨rfl, hb9⟩
        have hb9 := ext_trans hb8 hb9
        clear hb8 htb
        have P0 : Blk ((w9.alloc (Obj.cells #[.int .i64 0, .int .i64 0] 48)).alloc (Obj.cells #[.int .i64 0, .int .i64 0] 48)) w9.heap.size 48 #[.int .i64 0, .int .i64 0] := (Blk.new w9 _ _).alloc _
        have Q0 : Blk ((w9.alloc (Obj.cells #[.int .i64 0, .int .i64 0] 48)).alloc (Obj.cells #[.int .i64 0, .int .i64 0] 48)) (w9.heap.size + 1) 48 #[.int .i64 0, .int .i64 0] := Blk.new_ (by simp)
        obtain ⟨p1, p2, p3⟩ := P0.facts
        obtain ⟨q1, q2, q3⟩ := Q0.facts
        have W0 : Blk (((w9.alloc (Obj.cells #[.int .i64 0, .int .i64 0] 48)).alloc (Obj.cells #[.int .i64 0, .int .i64 0] 48)).alloc (Obj.cells #[.int .i64 0, .int .i64 0] 48)) (w9.heap.size + 1 + 1) 48 #[.int .i64 0, .int .i64 0] := Blk.new_ (by simp)
        have hbW : Below w9.heap.size w9 (((w9.alloc (Obj.cells #[.int .i64 0, .int .i64 0] 48)).alloc (Obj.cells #[.int .i64 0, .int .i64 0] 48)).alloc (Obj.cells #[.int .i64 0, .int .i64 0] 48)) := by go_grown
        go_wp2_with fail
        obtain ⟨w10, hw10⟩ : ∃ w10, w10 = (((w9.alloc (Obj.cells #[.int .i64 0, .int .i64 0] 48)).alloc (Obj.cells #[.int .i64 0, .int .i64 0] 48)).alloc (Obj.cells #[.int .i64 0, .int .i64 0] 48)) := ⟨_, rfl⟩
        rw [← hw10] at W0 hbW ⊢
        have hbW := below_drew (ext_trans hb9 hbW)
        have hto := HTO.out w10.drew (hIab'.out.ext hbW)
        rw [show toldV (bothO j none none) = .agg #[.int .i64 0, .int .i64 0] from rfl] at hto
        have hsm := same_two 0 0 0 0
        have S0 : w10.drew.cell? ⟨w9.heap.size + 1 + 1, 0, none⟩ = some (.int .i64 0) ∧ w10.drew.cell? ⟨w9.heap.size + 1 + 1, 1, none⟩ = some (.int .i64 0) := ⟨W0.cell 0, W0.cell 1⟩
        have hz6 := W0.lt
        clear hw10 hb9 p1 p2 p3 q1 q2 q3 P0 Q0
        go_region_held3 (fun w' => w'.cell? ⟨w9.heap.size + 1 + 1, 0, none⟩ = some (.int .i64 0) ∧ w'.cell? ⟨w9.heap.size + 1 + 1, 1, none⟩ = some (.int .i64 0))
          (first | exact S0 | exact keepB2 hb11 hz6 hz6 S0)
          (first | (go_at_call 33; refine hto.mono ?_; rintro e w11 ⟨rfl, hb11⟩))
        have hb11 := ext_trans hbW hb11
        have hb11' := ext_trans hb7 hb11
        have hIa := hIa'.out.ext hb11
        have hIb := hIb'.out.ext hb11
        have hIc := hIc'.out.ext hb11
        have hIab := hIab'.out.ext hb11
        clear hbW S0 hz6 W0 hto hsm
        go_wp2_with fail
        refine (imapMerge_any Aab Ac cab cc ab c j _ hIab hIc).mono ?_
        rintro e w12 ⟨e1, left, Al, cl, HL, rfl, hIl, hb12⟩
        have hIa := hIa.ext hb12
        have hIb := hIb.ext hb12
        have hIc := hIc.ext hb12
        have hb12 := ext_trans hb11' hb12
        go_wp2_with fail
        refine (imapMerge_any Ab Ac cb cc b c j _ hIb hIc).mono ?_
        rintro e w13 ⟨e2, bc, Abc, cbc, HBC, rfl, hIbc, hb13⟩
        have hIa := hIa.ext hb13
        have hIl := hIl.ext hb13
        have hb13 := ext_trans hb12 hb13
        by_cases g1 : e1 = 0
        case neg =>
          have hd : (e1 != 0) = true := by simpa using g1
          clear g1
          go_wp2_with fail
          go_ret
          exact ⟨rfl, hb13⟩
        case pos =>
        subst g1
        by_cases g2 : e2 = 0
        case neg =>
          have hd : (e2 != 0) = true := by simpa using g2
          clear g2
          go_wp2_with fail
          go_ret
          exact ⟨rfl, hb13⟩
        case pos =>
        subst g2
        go_wp2_with fail
        refine (imapMerge_any Aa Abc ca cbc a bc j _ hIa hIbc).mono ?_
        rintro e w14 ⟨e3, right, Ar, cr, HR, rfl, hIr, hb14⟩
        have hIl := hIl.ext hb14
        have hb14 := ext_trans hb13 hb14
        by_cases g3 : e3 = 0
        case neg =>
          have hd : (e3 != 0) = true := by simpa using g3
          clear g3
          go_wp2_with fail
          go_ret
          exact ⟨rfl, hb14⟩
        case pos =>
        subst g3
        obtain rfl := merge_assoc HAB.out HL.out HBC.out HR.out Oa.out Ob.out Oc.out HJ.out
        go_wp2_with fail
        refine (equalPiecesSame _ _ _ _ _ _ hIl hIr).mono ?_
        rintro e w15 ⟨rfl, hb15⟩
        go_wp2_with fail
        go_ret
        exact ⟨rfl, ext_trans hb14 hb15⟩
    | some y =>
        have hy := near_iff.1 (HVB.out y rfl)
        have hs : IntKind.i64.wrap (0 + y) = y := by rw [Int.zero_add]; exact IntWalk.i64_in _ (by omega)
        have hs2 : IntKind.i64.wrap y = y := IntWalk.i64_in _ (by omega)
        have hmx : max (0 : Int) 1 = 1 := by decide
        clear hy
        have hta := HTA.out w7 hIa'.out
        rw [show toldV none = .agg #[.int .i64 0, .int .i64 0] from rfl] at hta
        go_wp2_with fail
        refine hta.mono ?_
        rintro e w8 ⟨rfl, hb8⟩
        have htb := HTB.out w8 (hIb'.out.ext hb8)
        rw [show toldV (some y) = .agg #[.int .i64 y, .int .i64 1] from rfl] at htb
        clear hta
        go_wp2_with fail
        refine htb.mono ?_
        rintro e w9 ⟨rfl, hb9⟩
        have hb9 := ext_trans hb8 hb9
        clear hb8 htb
        have P0 : Blk ((w9.alloc (Obj.cells #[.int .i64 0, .int .i64 0] 48)).alloc (Obj.cells #[.int .i64 y, .int .i64 1] 48)) w9.heap.size 48 #[.int .i64 0, .int .i64 0] := (Blk.new w9 _ _).alloc _
        have Q0 : Blk ((w9.alloc (Obj.cells #[.int .i64 0, .int .i64 0] 48)).alloc (Obj.cells #[.int .i64 y, .int .i64 1] 48)) (w9.heap.size + 1) 48 #[.int .i64 y, .int .i64 1] := Blk.new_ (by simp)
        obtain ⟨p1, p2, p3⟩ := P0.facts
        obtain ⟨q1, q2, q3⟩ := Q0.facts
        have W0 : Blk (((w9.alloc (Obj.cells #[.int .i64 0, .int .i64 0] 48)).alloc (Obj.cells #[.int .i64 y, .int .i64 1] 48)).alloc (Obj.cells #[.int .i64 y, .int .i64 1] 48)) (w9.heap.size + 1 + 1) 48 #[.int .i64 y, .int .i64 1] := Blk.new_ (by simp)
        have hbW : Below w9.heap.size w9 (((w9.alloc (Obj.cells #[.int .i64 0, .int .i64 0] 48)).alloc (Obj.cells #[.int .i64 y, .int .i64 1] 48)).alloc (Obj.cells #[.int .i64 y, .int .i64 1] 48)) := by go_grown
        go_wp2_with fail
        obtain ⟨w10, hw10⟩ : ∃ w10, w10 = (((w9.alloc (Obj.cells #[.int .i64 0, .int .i64 0] 48)).alloc (Obj.cells #[.int .i64 y, .int .i64 1] 48)).alloc (Obj.cells #[.int .i64 y, .int .i64 1] 48)) := ⟨_, rfl⟩
        rw [← hw10] at W0 hbW ⊢
        have hbW := below_drew (ext_trans hb9 hbW)
        have hto := HTO.out w10.drew (hIab'.out.ext hbW)
        rw [show toldV (bothO j none (some y)) = .agg #[.int .i64 y, .int .i64 1] from rfl] at hto
        have hsm := same_two y 1 y 1
        have S0 : w10.drew.cell? ⟨w9.heap.size + 1 + 1, 0, none⟩ = some (.int .i64 y) ∧ w10.drew.cell? ⟨w9.heap.size + 1 + 1, 1, none⟩ = some (.int .i64 1) := ⟨W0.cell 0, W0.cell 1⟩
        have hz6 := W0.lt
        clear hw10 hb9 p1 p2 p3 q1 q2 q3 P0 Q0
        go_region_held3 (fun w' => w'.cell? ⟨w9.heap.size + 1 + 1, 0, none⟩ = some (.int .i64 y) ∧ w'.cell? ⟨w9.heap.size + 1 + 1, 1, none⟩ = some (.int .i64 1))
          (first | exact S0 | exact keepB2 hb11 hz6 hz6 S0)
          (first | (go_at_call 33; refine hto.mono ?_; rintro e w11 ⟨rfl, hb11⟩))
        have hb11 := ext_trans hbW hb11
        have hb11' := ext_trans hb7 hb11
        have hIa := hIa'.out.ext hb11
        have hIb := hIb'.out.ext hb11
        have hIc := hIc'.out.ext hb11
        have hIab := hIab'.out.ext hb11
        clear hbW S0 hz6 W0 hto hsm
        go_wp2_with fail
        refine (imapMerge_any Aab Ac cab cc ab c j _ hIab hIc).mono ?_
        rintro e w12 ⟨e1, left, Al, cl, HL, rfl, hIl, hb12⟩
        have hIa := hIa.ext hb12
        have hIb := hIb.ext hb12
        have hIc := hIc.ext hb12
        have hb12 := ext_trans hb11' hb12
        go_wp2_with fail
        refine (imapMerge_any Ab Ac cb cc b c j _ hIb hIc).mono ?_
        rintro e w13 ⟨e2, bc, Abc, cbc, HBC, rfl, hIbc, hb13⟩
        have hIa := hIa.ext hb13
        have hIl := hIl.ext hb13
        have hb13 := ext_trans hb12 hb13
        by_cases g1 : e1 = 0
        case neg =>
          have hd : (e1 != 0) = true := by simpa using g1
          clear g1
          go_wp2_with fail
          go_ret
          exact ⟨rfl, hb13⟩
        case pos =>
        subst g1
        by_cases g2 : e2 = 0
        case neg =>
          have hd : (e2 != 0) = true := by simpa using g2
          clear g2
          go_wp2_with fail
          go_ret
          exact ⟨rfl, hb13⟩
        case pos =>
        subst g2
        go_wp2_with fail
        refine (imapMerge_any Aa Abc ca cbc a bc j _ hIa hIbc).mono ?_
        rintro e w14 ⟨e3, right, Ar, cr, HR, rfl, hIr, hb14⟩
        have hIl := hIl.ext hb14
        have hb14 := ext_trans hb13 hb14
        by_cases g3 : e3 = 0
        case neg =>
          have hd : (e3 != 0) = true := by simpa using g3
          clear g3
          go_wp2_with fail
          go_ret
          exact ⟨rfl, hb14⟩
        case pos =>
        subst g3
        obtain rfl := merge_assoc HAB.out HL.out HBC.out HR.out Oa.out Ob.out Oc.out HJ.out
        go_wp2_with fail
        refine (equalPiecesSame _ _ _ _ _ _ hIl hIr).mono ?_
        rintro e w15 ⟨rfl, hb15⟩
        go_wp2_with fail
        go_ret
        exact ⟨rfl, ext_trans hb14 hb15⟩
  | some x =>
    cases q with
    | none =>
        have hx := near_iff.1 (HVA.out x rfl)
        have hs : IntKind.i64.wrap (x + 0) = x := by rw [Int.add_zero]; exact IntWalk.i64_in _ (by omega)
        have hs2 : IntKind.i64.wrap x = x := IntWalk.i64_in _ (by omega)
        have hmx : max (1 : Int) 0 = 1 := by decide
        clear hx
        have hta := HTA.out w7 hIa'.out
        rw [show toldV (some x) = .agg #[.int .i64 x, .int .i64 1] from rfl] at hta
        go_wp2_with fail
        refine hta.mono ?_
        rintro e w8 ⟨rfl, hb8⟩
        have htb := HTB.out w8 (hIb'.out.ext hb8)
        rw [show toldV none = .agg #[.int .i64 0, .int .i64 0] from rfl] at htb
        clear hta
        go_wp2_with fail
        refine htb.mono ?_
        rintro e w9 ⟨rfl, hb9⟩
        have hb9 := ext_trans hb8 hb9
        clear hb8 htb
        have P0 : Blk ((w9.alloc (Obj.cells #[.int .i64 x, .int .i64 1] 48)).alloc (Obj.cells #[.int .i64 0, .int .i64 0] 48)) w9.heap.size 48 #[.int .i64 x, .int .i64 1] := (Blk.new w9 _ _).alloc _
        have Q0 : Blk ((w9.alloc (Obj.cells #[.int .i64 x, .int .i64 1] 48)).alloc (Obj.cells #[.int .i64 0, .int .i64 0] 48)) (w9.heap.size + 1) 48 #[.int .i64 0, .int .i64 0] := Blk.new_ (by simp)
        obtain ⟨p1, p2, p3⟩ := P0.facts
        obtain ⟨q1, q2, q3⟩ := Q0.facts
        have W0 : Blk (((w9.alloc (Obj.cells #[.int .i64 x, .int .i64 1] 48)).alloc (Obj.cells #[.int .i64 0, .int .i64 0] 48)).alloc (Obj.cells #[.int .i64 x, .int .i64 1] 48)) (w9.heap.size + 1 + 1) 48 #[.int .i64 x, .int .i64 1] := Blk.new_ (by simp)
        have hbW : Below w9.heap.size w9 (((w9.alloc (Obj.cells #[.int .i64 x, .int .i64 1] 48)).alloc (Obj.cells #[.int .i64 0, .int .i64 0] 48)).alloc (Obj.cells #[.int .i64 x, .int .i64 1] 48)) := by go_grown
        go_wp2_with fail
        obtain ⟨w10, hw10⟩ : ∃ w10, w10 = (((w9.alloc (Obj.cells #[.int .i64 x, .int .i64 1] 48)).alloc (Obj.cells #[.int .i64 0, .int .i64 0] 48)).alloc (Obj.cells #[.int .i64 x, .int .i64 1] 48)) := ⟨_, rfl⟩
        rw [← hw10] at W0 hbW ⊢
        have hbW := below_drew (ext_trans hb9 hbW)
        have hto := HTO.out w10.drew (hIab'.out.ext hbW)
        rw [show toldV (bothO j (some x) none) = .agg #[.int .i64 x, .int .i64 1] from rfl] at hto
        have hsm := same_two x 1 x 1
        have S0 : w10.drew.cell? ⟨w9.heap.size + 1 + 1, 0, none⟩ = some (.int .i64 x) ∧ w10.drew.cell? ⟨w9.heap.size + 1 + 1, 1, none⟩ = some (.int .i64 1) := ⟨W0.cell 0, W0.cell 1⟩
        have hz6 := W0.lt
        clear hw10 hb9 p1 p2 p3 q1 q2 q3 P0 Q0
        go_region_held3 (fun w' => w'.cell? ⟨w9.heap.size + 1 + 1, 0, none⟩ = some (.int .i64 x) ∧ w'.cell? ⟨w9.heap.size + 1 + 1, 1, none⟩ = some (.int .i64 1))
          (first | exact S0 | exact keepB2 hb11 hz6 hz6 S0)
          (first | (go_at_call 33; refine hto.mono ?_; rintro e w11 ⟨rfl, hb11⟩))
        have hb11 := ext_trans hbW hb11
        have hb11' := ext_trans hb7 hb11
        have hIa := hIa'.out.ext hb11
        have hIb := hIb'.out.ext hb11
        have hIc := hIc'.out.ext hb11
        have hIab := hIab'.out.ext hb11
        clear hbW S0 hz6 W0 hto hsm
        go_wp2_with fail
        refine (imapMerge_any Aab Ac cab cc ab c j _ hIab hIc).mono ?_
        rintro e w12 ⟨e1, left, Al, cl, HL, rfl, hIl, hb12⟩
        have hIa := hIa.ext hb12
        have hIb := hIb.ext hb12
        have hIc := hIc.ext hb12
        have hb12 := ext_trans hb11' hb12
        go_wp2_with fail
        refine (imapMerge_any Ab Ac cb cc b c j _ hIb hIc).mono ?_
        rintro e w13 ⟨e2, bc, Abc, cbc, HBC, rfl, hIbc, hb13⟩
        have hIa := hIa.ext hb13
        have hIl := hIl.ext hb13
        have hb13 := ext_trans hb12 hb13
        by_cases g1 : e1 = 0
        case neg =>
          have hd : (e1 != 0) = true := by simpa using g1
          clear g1
          go_wp2_with fail
          go_ret
          exact ⟨rfl, hb13⟩
        case pos =>
        subst g1
        by_cases g2 : e2 = 0
        case neg =>
          have hd : (e2 != 0) = true := by simpa using g2
          clear g2
          go_wp2_with fail
          go_ret
          exact ⟨rfl, hb13⟩
        case pos =>
        subst g2
        go_wp2_with fail
        refine (imapMerge_any Aa Abc ca cbc a bc j _ hIa hIbc).mono ?_
        rintro e w14 ⟨e3, right, Ar, cr, HR, rfl, hIr, hb14⟩
        have hIl := hIl.ext hb14
        have hb14 := ext_trans hb13 hb14
        by_cases g3 : e3 = 0
        case neg =>
          have hd : (e3 != 0) = true := by simpa using g3
          clear g3
          go_wp2_with fail
          go_ret
          exact ⟨rfl, hb14⟩
        case pos =>
        subst g3
        obtain rfl := merge_assoc HAB.out HL.out HBC.out HR.out Oa.out Ob.out Oc.out HJ.out
        go_wp2_with fail
        refine (equalPiecesSame _ _ _ _ _ _ hIl hIr).mono ?_
        rintro e w15 ⟨rfl, hb15⟩
        go_wp2_with fail
        go_ret
        exact ⟨rfl, ext_trans hb14 hb15⟩
    | some y =>
        by_cases hj3 : j = 3
        · have h3 : bothO j (some x) (some y) = some (x + y) := by show some (both3 j x y) = _; unfold both3; rw [if_pos hj3]
          have hj3' : (j != 3) = false := by simpa using hj3
          have hx := near_iff.1 (HVA.out x rfl)
          have hy := near_iff.1 (HVB.out y rfl)
          obtain ⟨z, hz⟩ : ∃ z, x + y = z := ⟨_, rfl⟩
          have hs : IntKind.i64.wrap (x + y) = z := by rw [hz]; exact IntWalk.i64_in _ (by omega)
          rw [hz] at h3
          have H3 := Lib.hid h3
          clear hx hy hz h3 hj3
          have hta := HTA.out w7 hIa'.out
          rw [show toldV (some x) = .agg #[.int .i64 x, .int .i64 1] from rfl] at hta
          go_wp2_with fail
          refine hta.mono ?_
          rintro e w8 ⟨rfl, hb8⟩
          have htb := HTB.out w8 (hIb'.out.ext hb8)
          rw [show toldV (some y) = .agg #[.int .i64 y, .int .i64 1] from rfl] at htb
          clear hta
          go_wp2_with fail
          refine htb.mono ?_
          rintro e w9 ⟨rfl, hb9⟩
          have hb9 := ext_trans hb8 hb9
          clear hb8 htb
          have P0 : Blk ((w9.alloc (Obj.cells #[.int .i64 x, .int .i64 1] 48)).alloc (Obj.cells #[.int .i64 y, .int .i64 1] 48)) w9.heap.size 48 #[.int .i64 x, .int .i64 1] := (Blk.new w9 _ _).alloc _
          have Q0 : Blk ((w9.alloc (Obj.cells #[.int .i64 x, .int .i64 1] 48)).alloc (Obj.cells #[.int .i64 y, .int .i64 1] 48)) (w9.heap.size + 1) 48 #[.int .i64 y, .int .i64 1] := Blk.new_ (by simp)
          obtain ⟨p1, p2, p3⟩ := P0.facts
          obtain ⟨q1, q2, q3⟩ := Q0.facts
          have W0 : Blk (((w9.alloc (Obj.cells #[.int .i64 x, .int .i64 1] 48)).alloc (Obj.cells #[.int .i64 y, .int .i64 1] 48)).alloc (Obj.cells #[.int .i64 z, .int .i64 1] 48)) (w9.heap.size + 1 + 1) 48 #[.int .i64 z, .int .i64 1] := Blk.new_ (by simp)
          have hbW : Below w9.heap.size w9 (((w9.alloc (Obj.cells #[.int .i64 x, .int .i64 1] 48)).alloc (Obj.cells #[.int .i64 y, .int .i64 1] 48)).alloc (Obj.cells #[.int .i64 z, .int .i64 1] 48)) := by go_grown
          go_wp2_with fail
          obtain ⟨w10, hw10⟩ : ∃ w10, w10 = (((w9.alloc (Obj.cells #[.int .i64 x, .int .i64 1] 48)).alloc (Obj.cells #[.int .i64 y, .int .i64 1] 48)).alloc (Obj.cells #[.int .i64 z, .int .i64 1] 48)) := ⟨_, rfl⟩
          rw [← hw10] at W0 hbW ⊢
          have hbW := below_drew (ext_trans hb9 hbW)
          have hto := HTO.out w10.drew (hIab'.out.ext hbW)
          rw [H3.out, show toldV (some z) = .agg #[.int .i64 z, .int .i64 1] from rfl] at hto
          have hsm := same_two z 1 z 1
          have S0 : w10.drew.cell? ⟨w9.heap.size + 1 + 1, 0, none⟩ = some (.int .i64 z) ∧ w10.drew.cell? ⟨w9.heap.size + 1 + 1, 1, none⟩ = some (.int .i64 1) := ⟨W0.cell 0, W0.cell 1⟩
          have hz6 := W0.lt
          clear hw10 hb9 p1 p2 p3 q1 q2 q3 P0 Q0
          go_region_held3 (fun w' => w'.cell? ⟨w9.heap.size + 1 + 1, 0, none⟩ = some (.int .i64 z) ∧ w'.cell? ⟨w9.heap.size + 1 + 1, 1, none⟩ = some (.int .i64 1))
            (first | exact S0 | exact keepB2 hb11 hz6 hz6 S0)
            (first | (go_at_call 33; refine hto.mono ?_; rintro e w11 ⟨rfl, hb11⟩))
          have hb11 := ext_trans hbW hb11
          have hb11' := ext_trans hb7 hb11
          have hIa := hIa'.out.ext hb11
          have hIb := hIb'.out.ext hb11
          have hIc := hIc'.out.ext hb11
          have hIab := hIab'.out.ext hb11
          clear hbW S0 hz6 W0 hto hsm
          go_wp2_with fail
          refine (imapMerge_any Aab Ac cab cc ab c j _ hIab hIc).mono ?_
          rintro e w12 ⟨e1, left, Al, cl, HL, rfl, hIl, hb12⟩
          have hIa := hIa.ext hb12
          have hIb := hIb.ext hb12
          have hIc := hIc.ext hb12
          have hb12 := ext_trans hb11' hb12
          go_wp2_with fail
          refine (imapMerge_any Ab Ac cb cc b c j _ hIb hIc).mono ?_
          rintro e w13 ⟨e2, bc, Abc, cbc, HBC, rfl, hIbc, hb13⟩
          have hIa := hIa.ext hb13
          have hIl := hIl.ext hb13
          have hb13 := ext_trans hb12 hb13
          by_cases g1 : e1 = 0
          case neg =>
            have hd : (e1 != 0) = true := by simpa using g1
            clear g1
            go_wp2_with fail
            go_ret
            exact ⟨rfl, hb13⟩
          case pos =>
          subst g1
          by_cases g2 : e2 = 0
          case neg =>
            have hd : (e2 != 0) = true := by simpa using g2
            clear g2
            go_wp2_with fail
            go_ret
            exact ⟨rfl, hb13⟩
          case pos =>
          subst g2
          go_wp2_with fail
          refine (imapMerge_any Aa Abc ca cbc a bc j _ hIa hIbc).mono ?_
          rintro e w14 ⟨e3, right, Ar, cr, HR, rfl, hIr, hb14⟩
          have hIl := hIl.ext hb14
          have hb14 := ext_trans hb13 hb14
          by_cases g3 : e3 = 0
          case neg =>
            have hd : (e3 != 0) = true := by simpa using g3
            clear g3
            go_wp2_with fail
            go_ret
            exact ⟨rfl, hb14⟩
          case pos =>
          subst g3
          obtain rfl := merge_assoc HAB.out HL.out HBC.out HR.out Oa.out Ob.out Oc.out HJ.out
          go_wp2_with fail
          refine (equalPiecesSame _ _ _ _ _ _ hIl hIr).mono ?_
          rintro e w15 ⟨rfl, hb15⟩
          go_wp2_with fail
          go_ret
          exact ⟨rfl, ext_trans hb14 hb15⟩
        · have h3 : bothO j (some x) (some y) = some (if j = 1 then min x y else max x y) := by show some (both3 j x y) = _; unfold both3; rw [if_neg hj3]
          have hj3' : (j != 3) = true := by simpa using hj3
          obtain ⟨u, hu⟩ : ∃ u, (if j = 1 then min x y else max x y) = u := ⟨_, rfl⟩
          have hle := fun w => imapLess_any x y j w
          rw [hu] at h3
          simp only [hu] at hle
          have hx := near_iff.1 (HVA.out x rfl)
          have hy := near_iff.1 (HVB.out y rfl)
          obtain ⟨z, hz⟩ : ∃ z, x + y = z := ⟨_, rfl⟩
          have hs : IntKind.i64.wrap (x + y) = z := by rw [hz]; exact IntWalk.i64_in _ (by omega)
          have H3 := Lib.hid h3
          clear hx hy hz h3 hu hj3
          have hta := HTA.out w7 hIa'.out
          rw [show toldV (some x) = .agg #[.int .i64 x, .int .i64 1] from rfl] at hta
          go_wp2_with fail
          refine hta.mono ?_
          rintro e w8 ⟨rfl, hb8⟩
          have htb := HTB.out w8 (hIb'.out.ext hb8)
          rw [show toldV (some y) = .agg #[.int .i64 y, .int .i64 1] from rfl] at htb
          clear hta
          go_wp2_with fail
          refine htb.mono ?_
          rintro e w9 ⟨rfl, hb9⟩
          have hb9 := ext_trans hb8 hb9
          clear hb8 htb
          have P0 : Blk ((w9.alloc (Obj.cells #[.int .i64 x, .int .i64 1] 48)).alloc (Obj.cells #[.int .i64 y, .int .i64 1] 48)) w9.heap.size 48 #[.int .i64 x, .int .i64 1] := (Blk.new w9 _ _).alloc _
          have Q0 : Blk ((w9.alloc (Obj.cells #[.int .i64 x, .int .i64 1] 48)).alloc (Obj.cells #[.int .i64 y, .int .i64 1] 48)) (w9.heap.size + 1) 48 #[.int .i64 y, .int .i64 1] := Blk.new_ (by simp)
          obtain ⟨p1, p2, p3⟩ := P0.facts
          obtain ⟨q1, q2, q3⟩ := Q0.facts
          have V0 : Blk (((w9.alloc (Obj.cells #[.int .i64 x, .int .i64 1] 48)).alloc (Obj.cells #[.int .i64 y, .int .i64 1] 48)).alloc (Obj.cells #[.int .i64 z, .int .i64 1] 48)) w9.heap.size 48 #[.int .i64 x, .int .i64 1] := P0.alloc _
          have V1 : Blk (((w9.alloc (Obj.cells #[.int .i64 x, .int .i64 1] 48)).alloc (Obj.cells #[.int .i64 y, .int .i64 1] 48)).alloc (Obj.cells #[.int .i64 z, .int .i64 1] 48)) (w9.heap.size + 1) 48 #[.int .i64 y, .int .i64 1] := Q0.alloc _
          obtain ⟨v1, v2, v3⟩ := V0.facts
          obtain ⟨u1, u2, u3⟩ := V1.facts
          go_wp2_with (go_at_call 38; refine (hle _).mono ?_; rintro e w9' ⟨rfl, rfl⟩)
          have W0 : Blk (((w9.alloc (Obj.cells #[.int .i64 x, .int .i64 1] 48)).alloc (Obj.cells #[.int .i64 y, .int .i64 1] 48)).alloc (Obj.cells #[.int .i64 u, .int .i64 1] 48)) (w9.heap.size + 1 + 1) 48 #[.int .i64 u, .int .i64 1] := Blk.new_ (by simp)
          have hbW : Below w9.heap.size w9 (((w9.alloc (Obj.cells #[.int .i64 x, .int .i64 1] 48)).alloc (Obj.cells #[.int .i64 y, .int .i64 1] 48)).alloc (Obj.cells #[.int .i64 u, .int .i64 1] 48)) := by go_grown
          go_wp2_with fail
          obtain ⟨w10, hw10⟩ : ∃ w10, w10 = (((w9.alloc (Obj.cells #[.int .i64 x, .int .i64 1] 48)).alloc (Obj.cells #[.int .i64 y, .int .i64 1] 48)).alloc (Obj.cells #[.int .i64 u, .int .i64 1] 48)) := ⟨_, rfl⟩
          rw [← hw10] at W0 hbW ⊢
          have hbW := below_drew (ext_trans hb9 hbW)
          have hto := HTO.out w10.drew (hIab'.out.ext hbW)
          rw [H3.out, show toldV (some u) = .agg #[.int .i64 u, .int .i64 1] from rfl] at hto
          have hsm := same_two u 1 u 1
          have S0 : w10.drew.cell? ⟨w9.heap.size + 1 + 1, 0, none⟩ = some (.int .i64 u) ∧ w10.drew.cell? ⟨w9.heap.size + 1 + 1, 1, none⟩ = some (.int .i64 1) := ⟨W0.cell 0, W0.cell 1⟩
          have hz6 := W0.lt
          clear hw10 hb9 p1 p2 p3 q1 q2 q3 P0 Q0
          go_region_held3 (fun w' => w'.cell? ⟨w9.heap.size + 1 + 1, 0, none⟩ = some (.int .i64 u) ∧ w'.cell? ⟨w9.heap.size + 1 + 1, 1, none⟩ = some (.int .i64 1))
            (first | exact S0 | exact keepB2 hb11 hz6 hz6 S0)
            (first | (go_at_call 33; refine hto.mono ?_; rintro e w11 ⟨rfl, hb11⟩))
          have hb11 := ext_trans hbW hb11
          have hb11' := ext_trans hb7 hb11
          have hIa := hIa'.out.ext hb11
          have hIb := hIb'.out.ext hb11
          have hIc := hIc'.out.ext hb11
          have hIab := hIab'.out.ext hb11
          clear hbW S0 hz6 W0 hto hsm
          go_wp2_with fail
          refine (imapMerge_any Aab Ac cab cc ab c j _ hIab hIc).mono ?_
          rintro e w12 ⟨e1, left, Al, cl, HL, rfl, hIl, hb12⟩
          have hIa := hIa.ext hb12
          have hIb := hIb.ext hb12
          have hIc := hIc.ext hb12
          have hb12 := ext_trans hb11' hb12
          go_wp2_with fail
          refine (imapMerge_any Ab Ac cb cc b c j _ hIb hIc).mono ?_
          rintro e w13 ⟨e2, bc, Abc, cbc, HBC, rfl, hIbc, hb13⟩
          have hIa := hIa.ext hb13
          have hIl := hIl.ext hb13
          have hb13 := ext_trans hb12 hb13
          by_cases g1 : e1 = 0
          case neg =>
            have hd : (e1 != 0) = true := by simpa using g1
            clear g1
            go_wp2_with fail
            go_ret
            exact ⟨rfl, hb13⟩
          case pos =>
          subst g1
          by_cases g2 : e2 = 0
          case neg =>
            have hd : (e2 != 0) = true := by simpa using g2
            clear g2
            go_wp2_with fail
            go_ret
            exact ⟨rfl, hb13⟩
          case pos =>
          subst g2
          go_wp2_with fail
          refine (imapMerge_any Aa Abc ca cbc a bc j _ hIa hIbc).mono ?_
          rintro e w14 ⟨e3, right, Ar, cr, HR, rfl, hIr, hb14⟩
          have hIl := hIl.ext hb14
          have hb14 := ext_trans hb13 hb14
          by_cases g3 : e3 = 0
          case neg =>
            have hd : (e3 != 0) = true := by simpa using g3
            clear g3
            go_wp2_with fail
            go_ret
            exact ⟨rfl, hb14⟩
          case pos =>
          subst g3
          obtain rfl := merge_assoc HAB.out HL.out HBC.out HR.out Oa.out Ob.out Oc.out HJ.out
          go_wp2_with fail
          refine (equalPiecesSame _ _ _ _ _ _ hIl hIr).mono ?_
          rintro e w15 ⟨rfl, hb15⟩
          go_wp2_with fail
          go_ret
          exact ⟨rfl, ext_trans hb14 hb15⟩
end Go.Proofs.Ytcfachfldanddaa
