/- Several texts in one: CWay, LawTopWays. -/
import Derived.Test.YtcgnalpcbcpmkaaBd196fa40ec3
import Derived.Test.YtcgnalpcbcpmkaaBd48cc3a8d25
import Derived.Test.YtcgnalpcbcpmkaaBd75e2e67139
import Derived.Test.YtcgnalpcbcpmkaaBd3d7c8cd354
import Derived.Test.YtcgnalpcbcpmkaaBd0f08d7f12b
import Derived.Test.YtcgnalpcbcpmkaaBdde16ed6342
/- The walk of cheap.Way. -/
namespace Go.Proofs.Ytcgnalpcbcpmkaa
open Go.RowKit

theorem fields_state : Try.prog.underlying 148 = some (.struct (Try.prog.fieldsOf 148)) := by kernel_rfl
theorem guard_state : Try.prog.eqGuardType Try.prog.depth 148 = false := by kernel_rfl
theorem held_state : Try.prog.stoodInHeld 148 = false := by kernel_rfl
theorem same_state (a b c d : Int) (w : World) : (Op.equalIn 10000 148 (.agg #[.int .i64 a, .int .i64 b]) (.agg #[.int .i64 c, .int .i64 d])).run Try.prog w = .ok (decide (a = c ∧ b = d)) w := by
  rw [run_equalIn_agg w 9999 148 _ _ fields_state held_state]
  have hf : (Try.prog.fieldsOf 148).toList = (match Try.prog.underlying 148 with | some (.struct fs) => fs.toList | _ => []) := by kernel_rfl
  rw [hf, Try.underlying148]
  simp [Op.eqFields, go_sem]
  by_cases h1 : a = c <;> by_cases h2 : b = d <;> simp [*]
theorem TabAt.look1 {α : Type} {enc : α → Value} {w : World} {b n : Nat} {F : Tab α} (h : TabAt enc w b n F) {t e : TypeId} (ht : Try.prog.underlying t = some (.map 148 e)) {z : Value} (hz : (zeroValue e).run Try.prog w = .ok z w) {p : Nat × Nat} (hp : Sml p) {a : α} (hF : F p = some a) :
    (Instr.lookup t (.map (some b)) (.agg #[.int .i64 (p.1 : Int), .int .i64 (p.2 : Int)]) false).run Try.prog w = .ok (enc a) w := by
  obtain ⟨D, h1, h2⟩ := h
  obtain ⟨v, ps, hrun, hv⟩ := h1.lookup law_st ht hz (zd := .held z) (zp := []) rfl (key_st hp)
  have h3 := h2 p hp
  rw [hF] at h3
  simp only [rV, Option.some.injEq, Prod.mk.injEq] at hv
  have := hv.1
  rw [h3.2] at this
  simp only [DataW.held.injEq] at this
  rw [show (Value.agg #[.int .i64 (p.1 : Int), .int .i64 (p.2 : Int)]) = stV p from rfl, hrun, this]
theorem field_from (a b c d : Int) (x : Bool) (w : World) : (Instr.field 150 (.agg #[.int .i64 a, .int .i64 b, .int .i64 c, .int .i64 d, .bool x]) 0).run Try.prog w = .ok (.agg #[.int .i64 a, .int .i64 b]) w := by kernel_rfl
theorem vT_ex {B : Tab Int} {p : Nat × Nat} {n : Int} (h : vT B p = n) (hn : n < Never) : B p = some n := by
  cases hB : B p with
  | none => rw [vT_none hB] at h; omega
  | some m => rw [vT_some hB] at h; rw [h]

set_option maxRecDepth 100000 in
set_option maxHeartbeats 8000000 in
theorem cheapWay_any (A A' : Option Addr) (c c' : Nat) (g : GraphD) (v s te : Int) (w : World) (hG : GraphAt w A c A' c' g) :
    Calls Try.prog 66 #[gV A c A' c' g, .int .i64 v, .int .i64 s, .int .i64 te] w (WayGives (CWayR g v s te) w) := by
  by_cases h0 : placeErr g v s = 0
  case neg =>
    have H0 := Lib.hid h0
    have hn : (placeErr g v s != 0) = true := by simp [h0]
    clear h0
    go_enter Try.func66, Try.ntmps66
    go_wp2_with fail
    refine (out_any _ _ _ _ g v s _ (hG.ext (by go_grown))).mono ?_
    rintro e w1 ⟨Ao, co, rfl, hSo, hmo, hb1⟩
    go_wp2_with fail
    go_ret2
    exact ⟨[], none, 0, _, .inl ⟨H0.out, rfl, rfl⟩, rfl, SlAt.nil, by simp, ext_trans (by go_grown) hb1⟩
  obtain ⟨hV, ⟨hv0, hv1⟩, ht0, ht1⟩ := place_of h0
  have H0 := Lib.hid h0
  have hh1 := hV.h1
  have hh0 := hV.h0
  have hn12 := hV.nl
  have hne := hV.ne
  have m1 : g.lives.length ≤ 9223372036854775807 := by omega
  clear h0
  obtain ⟨i0, hi, hz0, hz1, hz2⟩ := info_parts info_hop
  go_enter Try.func66, Try.ntmps66
  go_wp2_with fail
  refine (out_any _ _ _ _ g v s _ (hG.ext (by go_grown))).mono ?_
  rw [H0.out]
  rintro e w1 ⟨Ao, co, rfl, hSo, hmo, hb1⟩
  obtain ⟨B0, c1, c2, c3⟩ := (Blk.new w 28 (gC A c A' c' g)).go hb1
  have hbw : Below w.heap.size w w1 := ext_trans (by go_grown) hb1
  clear hb1
  by_cases hr : 0 ≤ te ∧ te < g.lives.length
  case neg =>
    by_cases hneg : te < 0
    case pos =>
      have hd : decide (te < 0) = true := by simpa using hneg
      have HE : Hid (CWayR g v s te [] 4) := Lib.hid (.inr (.inl ⟨H0.out, .inl hneg, rfl, rfl⟩))
      clear hr hneg
      go_wp2_with fail
      go_ret2
      exact ⟨[], none, 0, _, HE.out, rfl, SlAt.nil, by simp, hbw⟩
    case neg =>
      have hd : decide (te < 0) = false := by simpa using hneg
      have hd2 : decide (te ≥ (g.lives.length : Int)) = true := by simp; omega
      have HE : Hid (CWayR g v s te [] 4) := Lib.hid (.inr (.inl ⟨H0.out, .inr (by omega), rfl, rfl⟩))
      clear hr hneg
      go_wp2_with fail
      go_ret2
      exact ⟨[], none, 0, _, HE.out, rfl, SlAt.nil, by simp, hbw⟩
  obtain ⟨hr0, hr1⟩ := hr
  obtain ⟨tn, rfl⟩ := Int.eq_ofNat_of_zero_le hr0
  have hd1 : decide ((tn : Int) < 0) = false := by simp
  have hd2 : decide (g.lives.length ≤ tn) = false := by simp; omega
  go_wp2_with fail
  refine (fill_any 115 lCost _ _ _ _ g v s _ enters_cost (hG.ext hbw) hV (light_cost hV) hv0 hv1 ht0 ht1 cost_any).mono ?_
  rintro e w2 ⟨tb, b1, b2, n, t, B, O, rfl, HI, hT, hB, hO, hb2⟩
  obtain ⟨B0, c1, c2, c3⟩ := B0.go hb2
  have hbw : Below w.heap.size w w2 := ext_trans hbw hb2
  have HCL : Hid (CostL g lCost v s (vT B)) := Lib.hid (HI.out.1.ends hV ⟨hv0, hv1⟩ ht0 HI.out.2)
  clear hb2
  go_wp2_with fail
  refine (least_any tb b1 b2 n tn B A A' c c' g _ hT hB hh0 hh1 (by omega)).mono ?_
  obtain ⟨q, hq⟩ : ∃ q, leastN (vT B) tn g.h.toNat = q := ⟨_, rfl⟩
  have HQ := Lib.hid hq
  rw [hq]
  clear hq
  obtain ⟨nn, an⟩ := q
  simp only
  rintro e w3 ⟨rfl, hb2⟩
  have hT := hT.ext hb2
  have hO := hO.ext hb2
  obtain ⟨B0, c1, c2, c3⟩ := B0.go hb2
  have hbw : Below w.heap.size w w3 := ext_trans hbw hb2
  clear hb2 hB
  by_cases hnn : nn = 1099511627776
  case pos =>
    have hd3 : (nn == 1099511627776) = true := by simpa using hnn
    have HE : Hid (CWayR g v s tn [] 4) := Lib.hid (.inr (.inr ⟨H0.out, by omega, hr1, _, HCL.out, .inl ⟨by rw [Int.toNat_natCast, HQ.out]; exact hnn, rfl, rfl⟩⟩))
    clear hnn
    go_wp2_with fail
    go_ret2
    exact ⟨[], none, 0, _, HE.out, rfl, SlAt.nil, by simp, hbw⟩
  have hd3 : (nn == 1099511627776) = false := by simpa using hnn
  have hnf : nn < Never := by
    have := leastN_le (vT B) tn g.h.toNat
    rw [HQ.out] at this
    simp only [Never] at this ⊢
    omega
  have HNF := Lib.hid hnf
  obtain ⟨a0, ha0, ha1, ha2⟩ := leastN_at (d := vT B) (v := tn) (k := g.h.toNat) (by rw [HQ.out]; exact hnf)
  rw [HQ.out] at ha1 ha2
  simp only at ha1 ha2
  subst ha1
  have HST : Hid (CWayInv g B s (tn : Int) nn a0 (tn, a0) []) := Lib.hid (CWayInv.start (vT_ex ha2 hnf) rfl)
  have ha100 : a0 ≤ 100 := by omega
  clear hnn hnf ha2
  have HRES : Hid (∀ hops, CWayOk g v s tn nn hops → CWayR g v s tn hops 0) := Lib.hid (fun hops h => .inr (.inr ⟨H0.out, by omega, hr1, _, HCL.out, .inr ⟨by rw [Int.toNat_natCast, HQ.out]; exact HNF.out, rfl, by rw [Int.toNat_natCast, HQ.out]; exact h⟩⟩))
  have hs100 : s ≤ 100 := by omega
  go_wp2_with fail
  clear c1 c2 c3 hd1 hd2 hd3 B0
  have BS := Blk.new w3 148 #[.int .i64 (tn : Int), .int .i64 (a0 : Int)]
  have hb0 : Below w3.heap.size w3 (w3.alloc (Obj.cells #[.int .i64 (tn : Int), .int .i64 (a0 : Int)] 148)) := ext_alloc (Below.refl _ _) _
  go_loopg [15, 16] (a0 + 1) (fun gk o p wr => ∃ (q : Nat × Nat) (ga : Nat) (acc : List HopD), p = .pointer (some ⟨ga, 0, none⟩) ∧ q.2 < gk ∧ q.1 ≤ 12 ∧ q.2 ≤ 100 ∧ Hid (CWayInv g B s (tn : Int) nn a0 q acc) ∧ acc.length + q.2 ≤ 100 ∧ w3.heap.size ≤ ga ∧ Blk wr ga 148 #[.int .i64 (q.1 : Int), .int .i64 (q.2 : Int)] ∧ Own hopEnc 2 wr w3.heap.size 46 o acc ∧ Below w3.heap.size w3 wr)
  case atStart => exact ⟨(tn, a0), w3.heap.size, [], rfl, by simp, by simp only; omega, by simp only; omega, HST, by simpa using ha100, Nat.le_refl _, BS, Own.nil, hb0⟩
  case round =>
    clear BS hb0
    obtain ⟨q, ga, acc, rfl, hqg, hq1, hq2, HW, hal, hga, BS, hown, hb⟩ := hrel
    have hbwr := ext_trans hbw hb
    have hT' := hT.ext hb
    have hO' := hO.ext hb
    obtain ⟨t1, t2, t3⟩ := hT'.facts
    obtain ⟨s1, s2, s3⟩ := BS.facts
    have hss := same_state (q.1 : Int) (q.2 : Int) v s
    have hgd := guard_state
    by_cases hqv : (q.1 : Int) = v ∧ (q.2 : Int) = s
    case pos =>
      have hdd : decide ((q.1 : Int) = v ∧ (q.2 : Int) = s) = true := by simpa using hqv
      rw [hdd] at hss
      have HF := Lib.hid (HW.out.fin hV HI.out.1 ha100 hv0 ht0 (Prod.ext (by simp only; omega) (by simp only; omega)))
      have HE := Lib.hid (HRES.out _ HF.out)
      have hsm : ∀ x, x ∈ acc.reverse → I64 x.edge ∧ I64 x.depart := fun x hx => by
        have := HF.out.small x hx
        unfold I64; omega
      have HS := Lib.hid hsm
      clear hqv hdd hsm
      obtain ⟨Ac, cc, rfl⟩ := hown.form
      by_cases hnil : acc = []
      case pos =>
        subst hnil
        go_wp2_with fail
        refine (reverseHops_nil Ac cc _).mono ?_
        rintro e w5 ⟨rfl, rfl⟩
        go_wp2_with fail
        go_ret2
        exact ⟨[], Ac, cc, 0, HE.out, rfl, ⟨0, 0, fun i x hx => by simp at hx⟩, by simp, hbwr⟩
      case neg =>
        obtain ⟨bq, rfl, hbq, hH⟩ := hown.hrow hnil
        clear hnil
        go_wp2_with fail
        refine (reverseHops_any bq cc acc.length acc _ hH rfl (by omega)).mono ?_
        rintro e w5 ⟨rfl, hH5, hK5, hB5⟩
        have hbw5 := hB5 _ _ hbwr (by have := hbw.size; omega)
        go_wp2_with fail
        go_ret2
        exact ⟨acc.reverse, some ⟨bq, 0, none⟩, cc, 0, HE.out, by simp, hH5.slAt HS.out, by simp; unfold maxLen; omega, hbw5⟩
    case neg =>
      have hdd : decide ((q.1 : Int) = v ∧ (q.2 : Int) = s) = false := by simpa using hqv
      rw [hdd] at hss
      obtain ⟨o, hoq, o1, o2, o3, o4, o5, HN⟩ := HW.out.step hV HI.out.1 (fun e => hqv (by rw [e]; simp only; omega)) ht0
      have HN := Lib.hid HN
      have hlook : ∀ w', Below w3.heap.size w3 w' → (Instr.lookup 152 (.map (some b2)) (.agg #[.int .i64 (q.1 : Int), .int .i64 (q.2 : Int)]) false).run Try.prog w' = .ok (.agg #[.int .i64 o.v, .int .i64 o.t, .int .i64 o.edge, .int .i64 o.depart, .bool o.hops]) w' := fun w' hb' =>
        (hO.ext hb').look1 Try.underlying152 (zero_orig _) (by unfold Sml; omega) hoq
      have HLK := Lib.hid hlook
      clear hqv hdd hlook hoq t1 t2 t3
      have hsz0 : w3.heap.size ≤ wr.heap.size := hb.size
      go_wp2_with fail
      obtain ⟨S, hSS⟩ : ∃ S : World → Prop, Hid (S = fun w' => w'.cell? ⟨tb, 1, none⟩ = some (.map (some b2)) ∧ w'.cell? ⟨ga, 0, none⟩ = some (.int .i64 (q.1 : Int)) ∧ w'.cell? ⟨ga, 1, none⟩ = some (.int .i64 (q.2 : Int)) ∧ (Instr.lookup 152 (.map (some b2)) (.agg #[.int .i64 (q.1 : Int), .int .i64 (q.2 : Int)]) false).run Try.prog w' = .ok (.agg #[.int .i64 o.v, .int .i64 o.t, .int .i64 o.edge, .int .i64 o.depart, .bool o.hops]) w') := ⟨_, Lib.hid rfl⟩
      have hSb : ∀ wz, Below wr.heap.size wr wz → S wz := fun wz hz => by
        rw [hSS.out]
        exact ⟨cell_keep hz (by rw [hT'.cell]; rfl), cell_keep hz (by rw [BS.cell]; rfl), cell_keep hz (by rw [BS.cell]; rfl), HLK.out _ (hb.trans (hz.mono hsz0))⟩
      have hS0 : S wr.drew := hSb _ (below_drew (Below.refl _ _))
      have HSB := Lib.hid hSb
      clear hSb s1 s2 s3 hss hgd
      refine WpN.begin (S := S) 7 (by kernel_rfl) ?_
      refine WpN.takeD (i := 0) (v := ?_) rfl rfl (by kernel_rfl) (fun _ _ _ h => h) (Or.inl ⟨by rfl, ?_⟩) (by assumption) ?_
      rotate_left
      · intro w hSw; rw [hSS.out] at hSw; obtain ⟨sw0, sw1, sw2, sw3⟩ := hSw; go_simp; try with_reducible rfl
      simp only [Act.put, List.setIfInBounds_toArray, List.set_cons_zero, List.set_cons_succ]
      refine WpN.takeD (i := 1) (v := ?_) rfl rfl (by kernel_rfl) (fun _ _ _ h => h) (Or.inl ⟨by rfl, ?_⟩) (by assumption) ?_
      rotate_left
      · intro w hSw; rw [hSS.out] at hSw; obtain ⟨sw0, sw1, sw2, sw3⟩ := hSw; go_simp; try with_reducible rfl
      simp only [Act.put, List.setIfInBounds_toArray, List.set_cons_zero, List.set_cons_succ]
      refine WpN.takeD (i := 2) (v := ?_) rfl rfl (by kernel_rfl) (fun _ _ _ h => h) (Or.inl ⟨by rfl, ?_⟩) (by assumption) ?_
      rotate_left
      · intro w hSw; rw [hSS.out] at hSw; obtain ⟨sw0, sw1, sw2, sw3⟩ := hSw; go_simp; try with_reducible rfl
      simp only [Act.put, List.setIfInBounds_toArray, List.set_cons_zero, List.set_cons_succ]
      refine WpN.takeD (i := 3) (v := ?_) rfl rfl (by kernel_rfl) (fun _ _ _ h => h) (Or.inl ⟨by rfl, ?_⟩) (by assumption) ?_
      rotate_left
      · intro w hSw; rw [hSS.out] at hSw; obtain ⟨sw0, sw1, sw2, sw3⟩ := hSw; go_simp; try with_reducible rfl
      simp only [Act.put, List.setIfInBounds_toArray, List.set_cons_zero, List.set_cons_succ]
      refine WpN.takeD (i := 4) (v := ?_) rfl rfl (by kernel_rfl) (fun _ _ _ h => h) (Or.inl ⟨by rfl, ?_⟩) (by assumption) ?_
      rotate_left
      · intro w hSw; rw [hSS.out] at hSw; obtain ⟨sw0, sw1, sw2, sw3⟩ := hSw; go_simp; try with_reducible rfl
      simp only [Act.put, List.setIfInBounds_toArray, List.set_cons_zero, List.set_cons_succ]
      refine WpN.takeD (i := 5) (v := ?_) rfl rfl (by kernel_rfl) (fun _ _ _ h => h) (Or.inl ⟨by rfl, ?_⟩) (by assumption) ?_
      rotate_left
      · intro w hSw; rw [hSS.out] at hSw; obtain ⟨sw0, sw1, sw2, sw3⟩ := hSw; go_simp; try with_reducible rfl
      simp only [Act.put, List.setIfInBounds_toArray, List.set_cons_zero, List.set_cons_succ]
      refine WpN.one (i := 6) rfl (by kernel_rfl) fun K hK => ?_
      go_wp2_with fail
      have hb6 : Below wr.heap.size wr wr.drew := below_drew (Below.refl _ _)
      have hS5 : S (wr.drew.alloc (Obj.cells #[.int .i64 0, .int .i64 0, .int .i64 0, .int .i64 0, .bool false] 150)) := HSB.out _ (ext_alloc hb6 _)
      refine hK.out _ _ ⟨fun _ => hS5, ?_⟩
      clear hK K
      try simp only [Act.put, List.setIfInBounds_toArray, List.set_cons_zero, List.set_cons_succ]
      refine WpN.one (i := 7) rfl (by kernel_rfl) fun K hK => ?_
      go_wp2_with fail
      refine hK.out _ _ ⟨fun h => by omega, ?_⟩
      clear hK K
      refine WpN.done (by kernel_rfl) ?_ _
      have BB := (Blk.new wr 150 #[.int .i64 o.v, .int .i64 o.t, .int .i64 o.edge, .int .i64 o.depart, .bool o.hops]).drew
      have BS := (BS.alloc (Obj.cells #[.int .i64 o.v, .int .i64 o.t, .int .i64 o.edge, .int .i64 o.depart, .bool o.hops] 150)).drew
      have hown := (hown.alloc (Obj.cells #[.int .i64 o.v, .int .i64 o.t, .int .i64 o.edge, .int .i64 o.depart, .bool o.hops] 150)).keep (fun _ _ h => h.drew)
      have hb := below_drew (hb.alloc hsz0 (Obj.cells #[.int .i64 o.v, .int .i64 o.t, .int .i64 o.edge, .int .i64 o.depart, .bool o.hops] 150))
      have hgb : w3.heap.size ≤ wr.heap.size := hsz0
      obtain ⟨gb, hgbe⟩ : ∃ gb, gb = wr.heap.size := ⟨_, rfl⟩
      rw [← hgbe] at BB ⊢
      obtain ⟨wq, hwq⟩ : ∃ wq : World, wq = (wr.alloc (Obj.cells #[.int .i64 o.v, .int .i64 o.t, .int .i64 o.edge, .int .i64 o.depart, .bool o.hops] 150)).drew := ⟨_, rfl⟩
      rw [← hwq] at BB BS hown hb ⊢
      clear hwq hgbe HSB hS0 hS5 hSS S hb6 hT' hO' hbwr
      obtain ⟨s1, s2, s3⟩ := BS.facts
      obtain ⟨r1, r2, r3⟩ := BB.facts
      have hsz1 := hb.size
      obtain ⟨oo, hoo⟩ : ∃ x, o.hops = x := ⟨_, rfl⟩
      rw [hoo] at HN r1 BB
      have HOO := Lib.hid hoo
      clear hoo
      cases oo
      case false =>
        simp only [Bool.false_eq_true, if_false] at HN
        have HLEN := Lib.hid HN.out.len
        have hownx := hown
        have hbx := hb
        go_wp2_with fail
        have BC := Blk.new wq 148 #[.int .i64 (q.1 : Int), .int .i64 (q.2 : Int)]
        have hszx := hbx.size
        have hb9 := hbx.alloc hszx (Obj.cells #[.int .i64 (q.1 : Int), .int .i64 (q.2 : Int)] 148)
        have hown9 := hownx.alloc (Obj.cells #[.int .i64 (q.1 : Int), .int .i64 (q.2 : Int)] 148)
        have hT9 := hT.ext hb9
        have hgc : w3.heap.size ≤ wq.heap.size := hszx
        clear s1 s2 s3 r1 r2 r3
        obtain ⟨gc, hgce⟩ : ∃ gc, gc = wq.heap.size := ⟨_, rfl⟩
        rw [← hgce] at BC hgc ⊢
        clear hgce
        obtain ⟨wz, hwz⟩ : ∃ wz : World, wz = wq.alloc (Obj.cells #[.int .i64 (q.1 : Int), .int .i64 (q.2 : Int)] 148) := ⟨_, rfl⟩
        rw [← hwz] at BC hb9 hown9 hT9 ⊢
        clear hwz
        have hsz9 := hb9.size
        obtain ⟨S, hSS⟩ : ∃ S : World → Prop, Hid (S = fun w' => w'.cell? ⟨tb, 1, none⟩ = some (.map (some b2)) ∧ w'.cell? ⟨gc, 0, none⟩ = some (.int .i64 (q.1 : Int)) ∧ w'.cell? ⟨gc, 1, none⟩ = some (.int .i64 (q.2 : Int)) ∧ (Instr.lookup 152 (.map (some b2)) (.agg #[.int .i64 (q.1 : Int), .int .i64 (q.2 : Int)]) false).run Try.prog w' = .ok (.agg #[.int .i64 o.v, .int .i64 o.t, .int .i64 o.edge, .int .i64 o.depart, .bool false]) w') := ⟨_, Lib.hid rfl⟩
        have hSb : ∀ wz', Below wz.heap.size wz wz' → S wz' := fun wz' hz => by
          rw [hSS.out]
          refine ⟨cell_keep hz (by rw [hT9.cell]; rfl), cell_keep hz (by rw [BC.cell]; rfl), cell_keep hz (by rw [BC.cell]; rfl), ?_⟩
          have := HLK.out wz' (hb9.trans (hz.mono hsz9))
          rw [HOO.out] at this
          exact this
        have hS0 : S wz.drew := hSb _ (below_drew (Below.refl _ _))
        have hff := fun w => field_from o.v o.t o.edge o.depart false w
        clear hSb
        refine WpN.begin (S := S) 7 (by kernel_rfl) ?_
        refine WpN.takeD (i := 0) (v := ?_) rfl rfl (by kernel_rfl) (fun _ _ _ h => h) (Or.inl ⟨by rfl, ?_⟩) (by assumption) ?_
        rotate_left
        · intro w hSw; rw [hSS.out] at hSw; obtain ⟨sw0, sw1, sw2, sw3⟩ := hSw; go_simp; try with_reducible rfl
        simp only [Act.put, List.setIfInBounds_toArray, List.set_cons_zero, List.set_cons_succ]
        refine WpN.takeD (i := 1) (v := ?_) rfl rfl (by kernel_rfl) (fun _ _ _ h => h) (Or.inl ⟨by rfl, ?_⟩) (by assumption) ?_
        rotate_left
        · intro w hSw; rw [hSS.out] at hSw; obtain ⟨sw0, sw1, sw2, sw3⟩ := hSw; go_simp; try with_reducible rfl
        simp only [Act.put, List.setIfInBounds_toArray, List.set_cons_zero, List.set_cons_succ]
        refine WpN.takeD (i := 2) (v := ?_) rfl rfl (by kernel_rfl) (fun _ _ _ h => h) (Or.inl ⟨by rfl, ?_⟩) (by assumption) ?_
        rotate_left
        · intro w hSw; rw [hSS.out] at hSw; obtain ⟨sw0, sw1, sw2, sw3⟩ := hSw; go_simp; try with_reducible rfl
        simp only [Act.put, List.setIfInBounds_toArray, List.set_cons_zero, List.set_cons_succ]
        refine WpN.takeD (i := 3) (v := ?_) rfl rfl (by kernel_rfl) (fun _ _ _ h => h) (Or.inl ⟨by rfl, ?_⟩) (by assumption) ?_
        rotate_left
        · intro w hSw; rw [hSS.out] at hSw; obtain ⟨sw0, sw1, sw2, sw3⟩ := hSw; go_simp; try with_reducible rfl
        simp only [Act.put, List.setIfInBounds_toArray, List.set_cons_zero, List.set_cons_succ]
        refine WpN.takeD (i := 4) (v := ?_) rfl rfl (by kernel_rfl) (fun _ _ _ h => h) (Or.inl ⟨by rfl, ?_⟩) (by assumption) ?_
        rotate_left
        · intro w hSw; rw [hSS.out] at hSw; obtain ⟨sw0, sw1, sw2, sw3⟩ := hSw; go_simp; try with_reducible rfl
        simp only [Act.put, List.setIfInBounds_toArray, List.set_cons_zero, List.set_cons_succ]
        refine WpN.takeD (i := 5) (v := ?_) rfl rfl (by kernel_rfl) (fun _ _ _ h => h) (Or.inl ⟨by rfl, ?_⟩) (by assumption) ?_
        rotate_left
        · intro w hSw; rw [hSS.out] at hSw; obtain ⟨sw0, sw1, sw2, sw3⟩ := hSw; go_simp; try with_reducible rfl
        simp only [Act.put, List.setIfInBounds_toArray, List.set_cons_zero, List.set_cons_succ]
        refine WpN.takeD (i := 6) (v := ?_) rfl rfl (by kernel_rfl) (fun _ _ _ h => h) (Or.inl ⟨by rfl, ?_⟩) (by assumption) ?_
        rotate_left
        · intro w hSw; rw [hSS.out] at hSw; obtain ⟨sw0, sw1, sw2, sw3⟩ := hSw; go_simp; try with_reducible rfl
        simp only [Act.put, List.setIfInBounds_toArray, List.set_cons_zero, List.set_cons_succ]
        refine WpN.one (i := 7) rfl (by kernel_rfl) fun K hK => ?_
        obtain ⟨s1, s2, s3⟩ := BC.facts
        go_wp2_with fail
        refine hK.out _ _ ⟨fun h => by omega, ?_⟩
        clear hK K
        refine WpN.done (by kernel_rfl) ?_ _
        go_wp2_with fail
        go_roundg (q.2)
        case rel =>
          have BC2 := ((BC.set_ 0 (.int .i64 o.v)).set_ 1 (.int .i64 o.t)).drew
          refine ⟨(o.v.toNat, o.t.toNat), gc, acc, rfl, by simp only; omega, by simp only; omega, by simp only; omega, HN, Nat.le_trans HLEN.out ha100, hgc, ?_, hown9.keep (fun _ _ h => ((h.far (blk_ne h BC (by decide)) _).far (blk_ne (h.far (blk_ne h BC (by decide)) _) (BC.set_ 0 (.int .i64 o.v)) (by decide)) _).drew), below_drew ((hb9.setCell hgc _).setCell hgc _)⟩
          simp only
          rw [show ((o.v.toNat : Nat) : Int) = o.v by omega, show ((o.t.toNat : Nat) : Int) = o.t by omega]
          simpa using BC2
        case measure => omega
      case true =>
        simp only [if_true] at HN
        have HLEN := Lib.hid HN.out.len
        obtain ⟨Ac, cc, rfl⟩ := hown.form
        go_wp2_with (at_builtin; refine wpList_append_els (enc := hopEnc) rfl (.tmp 73) (.tmp 76) 36 rfl w3.heap.size 46 i0 _ 2 16 Try.underlying36 hi hz0 hz1 hz2 rfl (by decide) _ acc [⟨o.edge, o.depart⟩] 1 rfl rfl hown _ rfl wq.heap.size (by simp) rfl rfl hop_one (by omega) (by decide) hsz1 ?_; intro v' w6 hown6 hb6 hkp; have BS6 := hkp _ _ _ BS (by decide); obtain ⟨p1, p2, p3⟩ := BS6.facts)
        have hownx := hown6
        have hbx := hb.trans hb6
        have BC := Blk.new w6 148 #[.int .i64 (q.1 : Int), .int .i64 (q.2 : Int)]
        have hszx := hbx.size
        have hb9 := hbx.alloc hszx (Obj.cells #[.int .i64 (q.1 : Int), .int .i64 (q.2 : Int)] 148)
        have hown9 := hownx.alloc (Obj.cells #[.int .i64 (q.1 : Int), .int .i64 (q.2 : Int)] 148)
        have hT9 := hT.ext hb9
        have hgc : w3.heap.size ≤ w6.heap.size := hszx
        clear s1 s2 s3 r1 r2 r3
        obtain ⟨gc, hgce⟩ : ∃ gc, gc = w6.heap.size := ⟨_, rfl⟩
        rw [← hgce] at BC hgc ⊢
        clear hgce
        obtain ⟨wz, hwz⟩ : ∃ wz : World, wz = w6.alloc (Obj.cells #[.int .i64 (q.1 : Int), .int .i64 (q.2 : Int)] 148) := ⟨_, rfl⟩
        rw [← hwz] at BC hb9 hown9 hT9 ⊢
        clear hwz
        have hsz9 := hb9.size
        obtain ⟨S, hSS⟩ : ∃ S : World → Prop, Hid (S = fun w' => w'.cell? ⟨tb, 1, none⟩ = some (.map (some b2)) ∧ w'.cell? ⟨gc, 0, none⟩ = some (.int .i64 (q.1 : Int)) ∧ w'.cell? ⟨gc, 1, none⟩ = some (.int .i64 (q.2 : Int)) ∧ (Instr.lookup 152 (.map (some b2)) (.agg #[.int .i64 (q.1 : Int), .int .i64 (q.2 : Int)]) false).run Try.prog w' = .ok (.agg #[.int .i64 o.v, .int .i64 o.t, .int .i64 o.edge, .int .i64 o.depart, .bool true]) w') := ⟨_, Lib.hid rfl⟩
        have hSb : ∀ wz', Below wz.heap.size wz wz' → S wz' := fun wz' hz => by
          rw [hSS.out]
          refine ⟨cell_keep hz (by rw [hT9.cell]; rfl), cell_keep hz (by rw [BC.cell]; rfl), cell_keep hz (by rw [BC.cell]; rfl), ?_⟩
          have := HLK.out wz' (hb9.trans (hz.mono hsz9))
          rw [HOO.out] at this
          exact this
        have hS0 : S wz.drew := hSb _ (below_drew (Below.refl _ _))
        have hff := fun w => field_from o.v o.t o.edge o.depart true w
        clear hSb
        refine WpN.begin (S := S) 7 (by kernel_rfl) ?_
        refine WpN.takeD (i := 0) (v := ?_) rfl rfl (by kernel_rfl) (fun _ _ _ h => h) (Or.inl ⟨by rfl, ?_⟩) (by assumption) ?_
        rotate_left
        · intro w hSw; rw [hSS.out] at hSw; obtain ⟨sw0, sw1, sw2, sw3⟩ := hSw; go_simp; try with_reducible rfl
        simp only [Act.put, List.setIfInBounds_toArray, List.set_cons_zero, List.set_cons_succ]
        refine WpN.takeD (i := 1) (v := ?_) rfl rfl (by kernel_rfl) (fun _ _ _ h => h) (Or.inl ⟨by rfl, ?_⟩) (by assumption) ?_
        rotate_left
        · intro w hSw; rw [hSS.out] at hSw; obtain ⟨sw0, sw1, sw2, sw3⟩ := hSw; go_simp; try with_reducible rfl
        simp only [Act.put, List.setIfInBounds_toArray, List.set_cons_zero, List.set_cons_succ]
        refine WpN.takeD (i := 2) (v := ?_) rfl rfl (by kernel_rfl) (fun _ _ _ h => h) (Or.inl ⟨by rfl, ?_⟩) (by assumption) ?_
        rotate_left
        · intro w hSw; rw [hSS.out] at hSw; obtain ⟨sw0, sw1, sw2, sw3⟩ := hSw; go_simp; try with_reducible rfl
        simp only [Act.put, List.setIfInBounds_toArray, List.set_cons_zero, List.set_cons_succ]
        refine WpN.takeD (i := 3) (v := ?_) rfl rfl (by kernel_rfl) (fun _ _ _ h => h) (Or.inl ⟨by rfl, ?_⟩) (by assumption) ?_
        rotate_left
        · intro w hSw; rw [hSS.out] at hSw; obtain ⟨sw0, sw1, sw2, sw3⟩ := hSw; go_simp; try with_reducible rfl
        simp only [Act.put, List.setIfInBounds_toArray, List.set_cons_zero, List.set_cons_succ]
        refine WpN.takeD (i := 4) (v := ?_) rfl rfl (by kernel_rfl) (fun _ _ _ h => h) (Or.inl ⟨by rfl, ?_⟩) (by assumption) ?_
        rotate_left
        · intro w hSw; rw [hSS.out] at hSw; obtain ⟨sw0, sw1, sw2, sw3⟩ := hSw; go_simp; try with_reducible rfl
        simp only [Act.put, List.setIfInBounds_toArray, List.set_cons_zero, List.set_cons_succ]
        refine WpN.takeD (i := 5) (v := ?_) rfl rfl (by kernel_rfl) (fun _ _ _ h => h) (Or.inl ⟨by rfl, ?_⟩) (by assumption) ?_
        rotate_left
        · intro w hSw; rw [hSS.out] at hSw; obtain ⟨sw0, sw1, sw2, sw3⟩ := hSw; go_simp; try with_reducible rfl
        simp only [Act.put, List.setIfInBounds_toArray, List.set_cons_zero, List.set_cons_succ]
        refine WpN.takeD (i := 6) (v := ?_) rfl rfl (by kernel_rfl) (fun _ _ _ h => h) (Or.inl ⟨by rfl, ?_⟩) (by assumption) ?_
        rotate_left
        · intro w hSw; rw [hSS.out] at hSw; obtain ⟨sw0, sw1, sw2, sw3⟩ := hSw; go_simp; try with_reducible rfl
        simp only [Act.put, List.setIfInBounds_toArray, List.set_cons_zero, List.set_cons_succ]
        refine WpN.one (i := 7) rfl (by kernel_rfl) fun K hK => ?_
        obtain ⟨s1, s2, s3⟩ := BC.facts
        go_wp2_with fail
        refine hK.out _ _ ⟨fun h => by omega, ?_⟩
        clear hK K
        refine WpN.done (by kernel_rfl) ?_ _
        go_wp2_with fail
        go_roundg (q.2)
        case rel =>
          have BC2 := ((BC.set_ 0 (.int .i64 o.v)).set_ 1 (.int .i64 o.t)).drew
          refine ⟨(o.v.toNat, o.t.toNat), gc, acc ++ [⟨o.edge, o.depart⟩], rfl, by simp only; omega, by simp only; omega, by simp only; omega, HN, Nat.le_trans HLEN.out ha100, hgc, ?_, hown9.keep (fun _ _ h => ((h.far (blk_ne h BC (by decide)) _).far (blk_ne (h.far (blk_ne h BC (by decide)) _) (BC.set_ 0 (.int .i64 o.v)) (by decide)) _).drew), below_drew ((hb9.setCell hgc _).setCell hgc _)⟩
          simp only
          rw [show ((o.v.toNat : Nat) : Int) = o.v by omega, show ((o.t.toNat : Nat) : Int) = o.t by omega]
          simpa using BC2
        case measure => omega
end Go.Proofs.Ytcgnalpcbcpmkaa
/- The walk of the law TopWays. -/
namespace Go.Proofs.Ytcgnalpcbcpmkaa
open Go.RowKit

section
variable {g : GraphD} {v s : Int}
theorem costsL_length {wt : LegD → Int} {l : List Int} (h : CostsL g wt v s l) : l.length = g.lives.length := by
  obtain ⟨d, _, rfl⟩ := h
  exact leastL_len g d
/-- Where one comes at all, there is a sum; and the other way round. -/
theorem never_both {wt : LegD → Int} {a l : List Int} (hV : Valid g) (hw : Light g wt) (hv : 0 ≤ v ∧ v < g.lives.length) (hs : 0 ≤ s ∧ s < g.h) (ha : EarlyL g v s a) (hl : CostsL g wt v s l) {k : Nat} (hk : k < g.lives.length) : gi a k < Never ↔ gi l k < Never := by
  obtain ⟨d, hd, rfl⟩ := hl
  have hh := hV.h1
  rw [leastL_val hk]
  constructor
  · intro hf
    have hH := ha.here hV ⟨hv.1, hv.2, hs.1, hs.2⟩ hk hf
    obtain ⟨_, _, h0, h1, h2⟩ := hH
    have := (hd.reach hV hw hv hs ha hk (s := (gi a k).toNat) (by omega)).2 ⟨by omega, by rw [show (((gi a k).toNat : Nat) : Int) = gi a k by omega]; exact h2⟩
    have h3 := leastN_all (d := d) (v := k) (k := g.h.toNat) (r := (gi a k).toNat) (by omega)
    omega
  · intro hf
    obtain ⟨r, h1, _, h2⟩ := leastN_at hf
    have := ((hd.reach hV hw hv hs ha hk (s := r) (by omega)).1 (by omega)).1
    simp only [Never]
    omega
theorem costs_le {wt : LegD → Int} {l : List Int} (hl : CostsL g wt v s l) {k : Nat} (hk : k < g.lives.length) : gi l k ≤ Never := by
  obtain ⟨d, _, rfl⟩ := hl
  rw [leastL_val hk]
  exact leastN_le _ _ _
end

set_option maxRecDepth 100000 in
set_option maxHeartbeats 8000000 in
theorem topWays_calls (A A' : Option Addr) (c c' : Nat) (g : GraphD) {w : World} (hG : GraphAt w A c A' c' g) (v : Int) (_hv : I64 v) (t : Int) (_ht : I64 t) (te : Int) (_hu : I64 te) :
    Calls Try.prog 22 #[gV A c A' c' g, .int .i64 v, .int .i64 t, .int .i64 te] w fun e w' => e = .returned (.bool true) ∧ Below w.heap.size w w' := by
  go_enter Try.func22, Try.ntmps22
  go_wp2_with fail
  refine (said_any _).mono ?_
  rintro e w1 ⟨rfl, hb1⟩
  obtain ⟨B0, c1, c2, c3⟩ := (Blk.new w 28 (gC A c A' c' g)).go hb1
  have hbw : Below w.heap.size w w1 := ext_trans (by go_grown) hb1
  clear hb1
  go_wp2_with fail
  refine (arrivals_any _ _ _ _ g v t _ (hG.ext hbw)).mono ?_
  rintro e w2 ⟨l1, A1, d1, hl1, rfl, hA1, hm1, hb2⟩
  obtain ⟨B0, c1, c2, c3⟩ := B0.go hb2
  have hbw := ext_trans hbw hb2
  have HL1 := Lib.hid hl1
  clear hb2 hl1
  go_wp2_with fail
  refine (costs_any _ _ _ _ g v t _ (hG.ext hbw)).mono ?_
  rintro e w3 ⟨l2, A2, d2, hl2, rfl, hA2, hm2, hb2⟩
  obtain ⟨B0, c1, c2, c3⟩ := B0.go hb2
  have hbw := ext_trans hbw hb2
  have hA1 := hA1.ext RInt.stable hb2
  have HL2 := Lib.hid hl2
  clear hb2 hl2
  obtain ⟨p1, hp⟩ : ∃ p, placeErr g v t = p := ⟨_, rfl⟩
  have HP1 := Lib.hid hp
  rw [hp]
  clear hp
  by_cases h1 : p1 = 0
  case neg =>
    have hn : (p1 != 0) = true := by simp [h1]
    clear h1
    go_wp2_with fail
    go_ret
    exact ⟨by simp, hbw⟩
  subst h1
  obtain ⟨hV, ⟨hv0, hv1⟩, ht0, ht1⟩ := place_of HP1.out
  have hh1 := hV.h1
  have hn12 := hV.nl
  have HE1 := Lib.hid (arr_good HP1.out HL1.out)
  have HE2 := Lib.hid (costs_good HP1.out HL2.out)
  have hn1 := HE1.out.1
  have hn2 := costsL_length HE2.out
  rw [hn1, hn2]
  have HN1 := Lib.hid hn1
  have HN2 := Lib.hid hn2
  clear hn1 hn2
  by_cases hr : 0 ≤ te ∧ te < g.lives.length
  case neg =>
    by_cases hneg : te < 0
    case pos =>
      have hd : decide (te < 0) = true := by simpa using hneg
      clear hr hneg
      go_wp2_with fail
      go_ret
      exact ⟨rfl, hbw⟩
    case neg =>
      have hd : decide (te < 0) = false := by simpa using hneg
      have hd2 : decide (te ≥ (g.lives.length : Int)) = true := by simp; omega
      clear hr hneg
      go_wp2_with fail
      go_ret
      exact ⟨rfl, hbw⟩
  obtain ⟨hr0, hr1⟩ := hr
  obtain ⟨tn, rfl⟩ := Int.eq_ofNat_of_zero_le hr0
  have hd1 : decide ((tn : Int) < 0) = false := by simp
  have hd2 : decide (g.lives.length ≤ tn) = false := by simp; omega
  go_wp2_with fail
  refine (earlyWay_any _ _ _ _ g v t (tn : Int) _ (hG.ext hbw)).mono ?_
  rintro e w4 ⟨hops, A3, d3, er3, hR, rfl, hA3, hm3, hb2⟩
  obtain ⟨B0, c1, c2, c3⟩ := B0.go hb2
  have hbw := ext_trans hbw hb2
  have hA1 := hA1.ext RInt.stable hb2
  have hA2 := hA2.ext RInt.stable hb2
  have HR3 := Lib.hid hR
  clear hb2 hR
  go_wp2_with fail
  refine (cheapWay_any _ _ _ _ g v t (tn : Int) _ (hG.ext hbw)).mono ?_
  rintro e w5 ⟨hops2, A4, d4, er4, hR, rfl, hA4, hm4, hb2⟩
  obtain ⟨B0, c1, c2, c3⟩ := B0.go hb2
  have hbw := ext_trans hbw hb2
  have hA1 := hA1.ext RInt.stable hb2
  have hA2 := hA2.ext RInt.stable hb2
  have hA3 := hA3.ext RHop.stable hb2
  have HR4 := Lib.hid hR
  clear hb2 hR
  have htn : tn < g.lives.length := by omega
  obtain ⟨b1, o1, rfl, hz1, hx1⟩ := hA1.cells (by rw [HN1.out]; omega)
  obtain ⟨b2, o2, rfl, hz2, hx2⟩ := hA2.cells (by rw [HN2.out]; omega)
  have y1 := hx1 tn (by rw [HN1.out]; omega)
  have y2 := hx2 tn (by rw [HN2.out]; omega)
  clear hx1 hx2 hA1 hA2
  have HNB := Lib.hid (never_both hV (light_cost hV) ⟨hv0, hv1⟩ ⟨ht0, ht1⟩ HE1.out HE2.out htn)
  have hle1 := HE1.out.big (show t ≤ 100 by omega) tn
  have hle2 := costs_le HE2.out htn
  have K1 : Hid ((gi l1 tn = Never → er3 = 4) ∧ (gi l1 tn < Never → er3 = 0 ∧ WayOk g v t tn l1 hops)) := Lib.hid (by
    rcases HR3.out with ⟨h, _⟩ | ⟨_, a, ha, h⟩
    · exact absurd HP1.out h
    · obtain rfl := ha.eq HE1.out
      simp only [Int.toNat_natCast] at h
      rcases h with ⟨h, _, h3⟩ | ⟨_, _, h1, h2, h3⟩
      · exact ⟨fun _ => h3, fun hf => by exfalso; omega⟩
      · exact ⟨fun hf => by omega, fun _ => ⟨h2, h3⟩⟩)
  have K2 : Hid ((gi l2 tn = Never → er4 = 4) ∧ (gi l2 tn < Never → er4 = 0 ∧ CWayOk g v t tn (gi l2 tn) hops2)) := Lib.hid (by
    rcases HR4.out with ⟨h, _⟩ | ⟨_, h, _⟩ | ⟨_, _, _, d, hd, h⟩
    · exact absurd HP1.out h
    · exfalso; omega
    · obtain ⟨d', hd', rfl⟩ := HE2.out
      obtain rfl := hd.eq hd'
      simp only [Int.toNat_natCast] at h
      rw [leastL_val htn]
      rcases h with ⟨h, _, h3⟩ | ⟨h1, h2, h3⟩
      · exact ⟨fun _ => h3, fun hf => by exfalso; omega⟩
      · exact ⟨fun hf => by omega, fun _ => ⟨h2, h3⟩⟩)
  obtain ⟨z1, hz1'⟩ : ∃ z, gi l1 tn = z := ⟨_, rfl⟩
  obtain ⟨z2, hz2'⟩ : ∃ z, gi l2 tn = z := ⟨_, rfl⟩
  have HZ1 := Lib.hid hz1'
  have HZ2 := Lib.hid hz2'
  rw [hz1'] at y1 HNB hle1 K1
  rw [hz2'] at y2 HNB hle2 K2
  clear hz1' hz2' HR3 HR4
  simp only [Never] at hle1 hle2
  by_cases hzn : z1 = 1099511627776
  case pos =>
    have hz2n : z2 = 1099511627776 := by
      have := HNB.out
      simp only [Never] at this
      omega
    have he3 : er3 = 4 := K1.out.1 hzn
    have he4 : er4 = 4 := K2.out.1 hz2n
    subst hzn hz2n he3 he4
    go_wp2_with fail
    go_ret
    exact ⟨rfl, hbw⟩
  have hlt1 : z1 < Never := by simp only [Never]; omega
  have hlt2 : z2 < Never := HNB.out.1 hlt1
  obtain ⟨he3, W1⟩ := K1.out.2 hlt1
  obtain ⟨he4, W2⟩ := K2.out.2 hlt2
  subst he3 he4
  have hd3 : (z1 == 1099511627776) = false := by simpa using hzn
  obtain ⟨cc, hgo1⟩ := W1.go
  obtain ⟨u2, hgo2⟩ := W2.go
  rw [Int.toNat_natCast, HZ1.out] at hgo1
  have G1 := Lib.hid (goR_some (l := hops) HP1.out (by have := W1.len; omega) W1.alive hgo1)
  have G2 := Lib.hid (goR_some (l := hops2) HP1.out (by have := W2.len; omega) W1.alive hgo2)
  clear W1 W2 hgo1 hgo2 hlt1 hlt2 hzn hd1 hd2
  go_wp2_with fail
  refine (go_tuple _ _ _ _ _ _ g v t hops _ (hG.ext hbw) hA3 hm3 G1.out).mono ?_
  rintro e w6 ⟨rfl, hb2⟩
  obtain ⟨B0, c1, c2, c3⟩ := B0.go hb2
  have hbw := ext_trans hbw hb2
  have hA4 := hA4.ext RHop.stable hb2
  have y1 := cell_keep hb2 y1
  have y2 := cell_keep hb2 y2
  clear hb2
  go_wp2_with fail
  refine (go_tuple _ _ _ _ _ _ g v t hops2 _ (hG.ext hbw) hA4 hm4 G2.out).mono ?_
  rintro e w7 ⟨rfl, hb2⟩
  have hbw := ext_trans hbw hb2
  have y1 := cell_keep hb2 y1
  have y2 := cell_keep hb2 y2
  clear hb2
  go_wp2_with fail
  go_ret
  exact ⟨by simp, hbw⟩
end Go.Proofs.Ytcgnalpcbcpmkaa
