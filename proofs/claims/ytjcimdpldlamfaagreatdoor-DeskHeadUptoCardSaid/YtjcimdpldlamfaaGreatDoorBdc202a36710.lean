/- Several texts in one: Least, DeskAns, DeskRange, DeskLines, DeskHeadSpec. -/
import Derived.Test.YtjcimdpldlamfaaGreatDoorBd2279927ebf
import Derived.Test.YtjcimdpldlamfaaGreatDoorBd1a520ba1d5
import Derived.Test.YtjcimdpldlamfaaGreatDoorBdcbb4f396b9
import Derived.Test.YtjcimdpldlamfaaGreatDoorBd3cd328b1d4
import Derived.Test.YtjcimdpldlamfaaGreatDoorBd2f7b3eaff4
import Derived.Test.YtjcimdpldlamfaaGreatDoorBd96fdae9b88
import Derived.Test.YtjcimdpldlamfaaGreatDoorBd6f7411337b
import Derived.Test.YtjcimdpldlamfaaGreatDoorBd063e407aa3
import Derived.Test.YtjcimdpldlamfaaGreatDoorBdeeb9e5e53a
import Derived.Test.YtjcimdpldlamfaaGreatDoorBd0525ff7ab7
import Derived.Test.YtjcimdpldlamfaaGreatDoorBdb803e228da
import Derived.Test.YtjcimdpldlamfaaGreatDoorBdda53a8748f
import Derived.Test.YtjcimdpldlamfaaGreatDoorBd19914bea13
/- The walks of the table's least, of the sums, of Costs and Hops. -/
namespace Go.Proofs.YtjcimdpldlamfaaGreatDoor
open Go.RowKit

set_option maxRecDepth 100000 in
set_option maxHeartbeats 4000000 in
theorem least_any (tb b1 b2 n v : Nat) (B : Tab Int) (A A' : Option Addr) (c c' : Nat) (g : GraphD) (w : World) (hT : Blk w tb 198 #[.map (some b1), .map (some b2)]) (hB : TabAt iV2 w b1 n B) (hh0 : 1 ≤ g.h) (hh1 : g.h ≤ 100) (hv : v ≤ 1000) :
  Calls Tryz.prog 142 #[.pointer (some ⟨tb, 0, none⟩), gV A c A' c' g, .int .i64 (v : Int)] w fun e w' => e = .returned (.tuple #[.int .i64 (leastN (vT B) v g.h.toNat).1, .int .i64 (leastN (vT B) v g.h.toNat).2]) ∧ Below w.heap.size w w' := by
 go_enter Tryz.func142, Tryz.ntmps142
 go_wp2_with fail
 have HT := hT.alloc (Obj.cells (gC A c A' c' g) 68)
 have HB := hB.alloc (Obj.cells (gC A c A' c' g) 68)
 have hbw : Below w.heap.size w (w.alloc (Obj.cells (gC A c A' c' g) 68)) := by go_grown
 obtain ⟨wa, hwa⟩ : ∃ wa : World, wa = w.alloc (Obj.cells (gC A c A' c' g) 68) := ⟨_, rfl⟩
 rw [← hwa] at HT HB hbw ⊢
 clear hwa hT hB
 go_loopw [8, 9, 15] (fun b a x wr => ∃ (k : Nat) (bb aa : Int), (k : Int) ≤ g.h ∧ x = .int .i64 k ∧ b = .int .i64 bb ∧ a = .int .i64 aa ∧ Hid (leastN (vT B) v k = (bb, aa)) ∧ wr = wa) (fun _ _ x _ => g.h.toNat - (intOf x).toNat)
 case atStart => exact ⟨0, Never, 0, by omega, rfl, rfl, rfl, Lib.hid rfl, rfl⟩
 case round =>
  obtain ⟨k, bb, aa, hk, rfl, rfl, rfl, HL, rfl⟩ := hrel
  have hbb : bb ≤ Never := by have := leastN_le (vT B) v k; rw [HL.out] at this; exact this
  by_cases hlt : (k : Int) < g.h
  case neg =>
   have hE : Hid (leastN (vT B) v g.h.toNat = (bb, aa)) := Lib.hid (by rw [show g.h.toNat = k by omega]; exact HL.out)
   go_wp2_with fail
   go_ret2
   exact ⟨by rw [hE.out]; rfl, hbw⟩
  obtain ⟨t1, t2, t3⟩ := HT.facts
  have hlook := HB.look Tryz.underlying195 (zero_best _) (p := (v, k)) (by unfold Sml; omega)
  cases hp : B (v, k) with
  | none =>
   rw [hp] at hlook
   simp only [Option.map_none, Option.getD_none, Option.isSome_none] at hlook
   have HN : Hid (leastN (vT B) v (k + 1) = (bb, aa)) := Lib.hid (by rw [leastN, HL.out, vT_none hp, if_neg (by simp only; omega)])
   clear hp
   go_wp2_with fail
   go_roundw
   case rel => exact ⟨k + 1, bb, aa, by omega, by go_num, rfl, rfl, HN, by trivial⟩
   case measure => simp [intOf]; omega
  | some m =>
   rw [hp] at hlook
   simp only [Option.map_some, Option.getD_some, Option.isSome_some, iV2] at hlook
   by_cases hm : m < bb
   case pos =>
    have hd : decide (m < bb) = true := by simpa using hm
    have HN : Hid (leastN (vT B) v (k + 1) = (m, (k : Int))) := Lib.hid (by rw [leastN, HL.out, vT_some hp, if_pos (by simp only; omega)])
    clear hp
    go_wp2_with fail
    go_roundw
    case rel => exact ⟨k + 1, m, k, by omega, by go_num, rfl, rfl, HN, by trivial⟩
    case measure => simp [intOf]; omega
   case neg =>
    have hd : decide (m < bb) = false := by simpa using hm
    have HN : Hid (leastN (vT B) v (k + 1) = (bb, aa)) := Lib.hid (by rw [leastN, HL.out, vT_some hp, if_neg (by simp only; omega)])
    clear hp
    go_wp2_with fail
    go_roundw
    case rel => exact ⟨k + 1, bb, aa, by omega, by go_num, rfl, rfl, HN, by trivial⟩
    case measure => simp [intOf]; omega

set_option maxRecDepth 100000 in
set_option maxHeartbeats 4000000 in
theorem sums_any (kf : Nat) (wt : LegD → Int) (A A' : Option Addr) (c c' : Nat) (g : GraphD) (v s : Int) (w : World) (hent : Enters Tryz.prog kf) (hG : GraphAt w A c A' c' g) (hw : Valid g → Light g wt)
  (hcost : ∀ l w, Calls Tryz.prog kf #[legV l] w fun e w' => e = .returned (.int .i64 (wt l)) ∧ Below w.heap.size w w') :
  Calls Tryz.prog 111 #[gV A c A' c' g, .int .i64 v, .int .i64 s, .func (.func kf) #[] #[]] w (IntsOut (CostsOut g wt v s) (placeErr g v s) w) := by
 by_cases h0 : placeErr g v s = 0
 case neg =>
  have H0 := Lib.hid h0
  have hn : (placeErr g v s != 0) = true := by simp [h0]
  clear h0 hcost
  go_enter Tryz.func111, Tryz.ntmps111
  go_wp2_with fail
  refine (out_any _ _ _ _ g v s _ (hG.ext (by go_grown))).mono ?_
  rintro e w1 ⟨Ao, co, rfl, hSo, hmo, hb1⟩
  go_wp2_with fail
  go_ret2
  exact ⟨[], none, 0, by unfold CostsOut; rw [if_neg H0.out], rfl, SlAt.nil, by simp, ext_trans (by go_grown) hb1⟩
 obtain ⟨hV, ⟨hv0, hv1⟩, ht0, ht1⟩ := place_of h0
 have H0 := Lib.hid h0
 have hh1 := hV.h1
 have hh0 := hV.h0
 have hn12 := hV.nl
 have m1 : g.lives.length ≤ 9223372036854775807 := by omega
 have HC := Lib.hid hcost
 clear h0 hcost
 obtain ⟨i0, hi, hz0, hz1, hz2⟩ := info_parts' info_int
 go_enter Tryz.func111, Tryz.ntmps111
 go_wp2_with fail
 refine (out_any _ _ _ _ g v s _ (hG.ext (by go_grown))).mono ?_
 rw [H0.out]
 rintro e w1 ⟨Ao, co, rfl, hSo, hmo, hb1⟩
 obtain ⟨B0, c1, c2, c3⟩ := (Blk.new w 68 (gC A c A' c' g)).go hb1
 have hbw : Below w.heap.size w w1 := ext_trans (by go_grown) hb1
 clear hb1
 go_wp2_with fail
 refine (fill_any kf wt _ _ _ _ g v s _ hent (hG.ext hbw) hV (hw hV) hv0 hv1 ht0 ht1 HC.out).mono ?_
 rintro e w2 ⟨tb, b1, b2, n, t, B, O, rfl, HI, hT, hB, hO, hb2⟩
 obtain ⟨B0, c1, c2, c3⟩ := B0.go hb2
 have hbw : Below w.heap.size w w2 := ext_trans hbw hb2
 have HCL : Hid (CostL g wt v s (vT B)) := Lib.hid (HI.out.1.ends hV ⟨hv0, hv1⟩ ht0 HI.out.2)
 clear hb2 HI hO
 go_wp2_with fail
 clear c1 c2
 go_loopw [13, 35] (fun o x wr => ∃ (k : Nat) (lo : List Int), k ≤ g.lives.length ∧ x = .int .i64 k ∧ Hid (lo = (leastL g (vT B)).take k) ∧ lo.length ≤ 12 ∧ Own intEncN 1 wr w2.heap.size 3 o lo ∧ Below w2.heap.size w2 wr) (fun _ x _ => g.lives.length - (intOf x).toNat)
 case atStart => exact ⟨0, [], Nat.zero_le _, rfl, Lib.hid (by simp), by simp, Own.nil, Below.refl _ _⟩
 case round =>
  obtain ⟨k, lo, hk, rfl, HLO, hlo, hown, hb⟩ := hrel
  have hbwr := ext_trans hbw hb
  obtain ⟨f1, f2, f3⟩ := (B0.ext hb).facts
  have hT' := hT.ext hb
  have hB' := hB.ext hb
  have hzs := hb.size
  by_cases hlt : k < g.lives.length
  case pos =>
   have HN : Hid (lo ++ [(leastN (vT B) k g.h.toNat).1] = (leastL g (vT B)).take (k + 1)) := Lib.hid (by rw [HLO.out, List.take_add_one, leastL_get hlt]; rfl)
   have hlk : lo.length ≤ k := by rw [HLO.out, List.length_take]; omega
   obtain ⟨Ao2, co2, rfl⟩ := hown.form
   go_wp2_with fail
   refine (least_any tb b1 b2 n k B A A' c c' g _ hT' hB' hh0 hh1 (by omega)).mono ?_
   obtain ⟨q, hq⟩ : ∃ q, leastN (vT B) k g.h.toNat = q := ⟨_, rfl⟩
   rw [hq] at HN ⊢
   obtain ⟨q1, q2⟩ := q
   clear hq
   rintro e w3 ⟨rfl, hb3⟩
   have hown := hown.keep (fun b cs h => (Blk.go h hb3).1)
   have hb := ext_trans hb hb3
   have hz3 := hb.size
   clear hb3 hT' hB' f1 f2 f3
   go_wp2_with (at_builtin; refine wpList_append_els (enc := intEncN) rfl (.tmp 45) (.tmp 47) 55 rfl w2.heap.size 3 i0 _ 1 8 Tryz.underlying55 hi hz0 hz1 hz2 rfl (by decide) _ lo [q1] 1 rfl rfl hown _ rfl w3.heap.size (by simp) rfl rfl int_one1N (by omega) (by decide) hz3 ?_; intro v' w8 hown8 hb8 hkp8)
   go_roundw
   case rel => exact ⟨k + 1, lo ++ [q1], by omega, by go_num, HN, by simp; omega, hown8, hb.trans hb8⟩
   case measure => simp [intOf]; omega
  case neg =>
   have HE : Hid (lo = leastL g (vT B)) := Lib.hid (by rw [HLO.out, List.take_of_length_le]; rw [leastL_len]; omega)
   have hi64 : ∀ x, x ∈ lo → I64 x := fun x hx => by
    rw [HE.out] at hx
    simp only [leastL, List.mem_map, List.mem_range] at hx
    obtain ⟨u, _, rfl⟩ := hx
    have h1 := leastN_le (vT B) u g.h.toNat
    have h2 : 0 ≤ (leastN (vT B) u g.h.toNat).1 := by
     rcases Int.lt_or_le (leastN (vT B) u g.h.toNat).1 Never with h | h
     ·obtain ⟨r, _, _, h3⟩ := leastN_at h
      rw [← h3]; exact HCL.out.pos (hw hV) _
     ·simp only [Never] at h; omega
    unfold I64
    simp only [Never] at h1
    omega
   obtain ⟨Ar, cr, rfl, hSr⟩ := own_intsN hown hi64
   go_wp2_with fail
   go_ret2
   rw [H0.out]
   exact ⟨lo, Ar, cr, by unfold CostsOut; rw [if_pos H0.out]; exact ⟨_, HCL.out, HE.out⟩, rfl, hSr, by unfold maxLen; omega, hbwr⟩

theorem cost_any (l : LegD) (w : World) : Calls Tryz.prog 112 #[legV l] w fun e w' => e = .returned (.int .i64 (lCost l)) ∧ Below w.heap.size w w' := by
 go_enter Tryz.func112, Tryz.ntmps112
 go_wp2
 go_ret
 exact ⟨rfl, by go_grown⟩
theorem one_any (l : LegD) (w : World) : Calls Tryz.prog 113 #[legV l] w fun e w' => e = .returned (.int .i64 (lOne l)) ∧ Below w.heap.size w w' := by
 go_enter Tryz.func113, Tryz.ntmps113
 go_wp2
 go_ret
 exact ⟨rfl, by go_grown⟩
theorem enters_cost : Enters Tryz.prog 112 := enters_of Tryz.func112 (by kernel_rfl) rfl
theorem enters_one : Enters Tryz.prog 113 := enters_of Tryz.func113 (by kernel_rfl) rfl
set_option maxRecDepth 100000 in
theorem costs_any (A A' : Option Addr) (c c' : Nat) (g : GraphD) (v s : Int) (w : World) (hG : GraphAt w A c A' c' g) :
  Calls Tryz.prog 66 #[gV A c A' c' g, .int .i64 v, .int .i64 s] w (IntsOut (CostsOut g lCost v s) (placeErr g v s) w) := by
 go_enter Tryz.func66, Tryz.ntmps66
 go_wp2_with fail
 refine (sums_any 112 lCost _ _ _ _ g v s _ enters_cost (hG.ext (by go_grown)) light_cost cost_any).mono ?_
 rintro e w1 ⟨l, Ar, cr, hl, rfl, hS, hm, hb⟩
 have HL := Lib.hid hl
 clear hl
 go_wp2_with fail
 go_ret2
 exact ⟨l, Ar, cr, HL.out, rfl, hS, hm, ext_trans (by go_grown) hb⟩
set_option maxRecDepth 100000 in
theorem hopsum_any (A A' : Option Addr) (c c' : Nat) (g : GraphD) (v s : Int) (w : World) (hG : GraphAt w A c A' c' g) :
  Calls Tryz.prog 68 #[gV A c A' c' g, .int .i64 v, .int .i64 s] w (IntsOut (CostsOut g lOne v s) (placeErr g v s) w) := by
 go_enter Tryz.func68, Tryz.ntmps68
 go_wp2_with fail
 refine (sums_any 113 lOne _ _ _ _ g v s _ enters_one (hG.ext (by go_grown)) (fun _ => light_one) one_any).mono ?_
 rintro e w1 ⟨l, Ar, cr, hl, rfl, hS, hm, hb⟩
 have HL := Lib.hid hl
 clear hl
 go_wp2_with fail
 go_ret2
 exact ⟨l, Ar, cr, HL.out, rfl, hS, hm, ext_trans (by go_grown) hb⟩
end Go.Proofs.YtjcimdpldlamfaaGreatDoor
/- What the desk answers; no program in sight (the outcomes of the calls as functions). -/
namespace Go.Proofs.YtjcimdpldlamfaaGreatDoor

/-! ### the one that a relation allows -/
noncomputable def the (P : List Int → Prop) : List Int := Classical.epsilon P
theorem the_of {P : List Int → Prop} {l : List Int} (h : P l) (u : ∀ a b, P a → P b → a = b) : the P = l := u _ _ (Classical.epsilon_spec ⟨l, h⟩) h
theorem if_eq {p : Prop} [Decidable p] {P : List Int → Prop} (u : ∀ a b, P a → P b → a = b) : ∀ a b : List Int, (if p then P a else a = []) → (if p then P b else b = []) → a = b := fun a b h k => by
 by_cases hp : p
 ·rw [if_pos hp] at h k; exact u a b h k
 ·rw [if_neg hp] at h k; rw [h, k]
section
variable {g : GraphD} {s : SnapD} {v t p : Int} {l : List Int}
theorem ways_the {wt : ArcD → Int} (h : WaysOut s wt v l) : the (WaysOut s wt v) = l := the_of h (if_eq fun _ _ h k => h.eq k)
theorem labels_the (h : LabelsOut s l) : the (LabelsOut s) = l := the_of h (if_eq fun _ _ h k => h.eq k)
theorem arr_the (h : ArrOut g v t l) : the (ArrOut g v t) = l := the_of h (if_eq fun _ _ h k => h.eq k)
theorem dep_the (h : DepOut g v t l) : the (DepOut g v t) = l := the_of h (if_eq fun _ _ h k => h.eq k)
theorem costs_the {wt : LegD → Int} (h : CostsOut g wt v t l) : the (CostsOut g wt v t) = l := the_of h (if_eq fun _ _ h k => h.eq k)
noncomputable def runF (g : GraphD) (p v : Int) : List (List PieceD) := Classical.epsilon fun out => ∃ k, RunSay g p v k out
theorem run_the {k : Nat} {out : List (List PieceD)} (h : RunSay g p v k out) : runF g p v = out := by
 obtain ⟨k', h'⟩ := Classical.epsilon_spec (p := fun out => ∃ k, RunSay g p v k out) ⟨out, k, h⟩
 exact (h'.eq h).2
noncomputable def fastF (g : GraphD) (v u : Int) : Int × Int × Int := Classical.epsilon fun r => FastOk g v u r.1 r.2.1 r.2.2
theorem fast_the {u d a er : Int} (h : FastOk g v u d a er) : fastF g v u = (d, a, er) := by
 have h' := Classical.epsilon_spec (p := fun r : Int × Int × Int => FastOk g v u r.1 r.2.1 r.2.2) ⟨(d, a, er), h⟩
 obtain ⟨h1, h2, h3⟩ := h'.eq h
 exact Prod.ext h1 (Prod.ext h2 h3)
end
/-! ### the commands -/
abbrev Ans := GraphD → List Int → List UInt8
def arg (n : List Int) (i : Nat) : Int := (n[i]?).getD 0
def snapT (g : GraphD) (t : Int) (tell : SnapD → List Int × Int) : List UInt8 := if atErr g t = 0 then toldT (tell (atD g t)).1 (tell (atD g t)).2 else errT (atErr g t)
def ansShow : Ans := fun g _ => (if graphErr g = 0 then graphT g else []) ++ wOk
noncomputable def ansHops : Ans := fun g n => snapT g (arg n 0) fun s => (the (WaysOut s wOne (arg n 1)), waysErr s (arg n 1))
noncomputable def ansCosts : Ans := fun g n => snapT g (arg n 0) fun s => (the (WaysOut s wCost (arg n 1)), waysErr s (arg n 1))
noncomputable def ansLabels : Ans := fun g n => snapT g (arg n 0) fun s => (the (LabelsOut s), shotErr s)
noncomputable def ansAll : Ans := fun g n => if runErr g (arg n 0) (arg n 1) = 0 then (if runF g (arg n 0) (arg n 1) = [] then wNone else joinB 32 ((runF g (arg n 0) (arg n 1)).map piecesT)) else errT (runErr g (arg n 0) (arg n 1))
noncomputable def ansEarly : Ans := fun g n => toldT (the (ArrOut g (arg n 0) (arg n 1))) (placeErr g (arg n 0) (arg n 1))
noncomputable def ansLate : Ans := fun g n => toldT (the (DepOut g (arg n 0) (arg n 1))) (placeErr g (arg n 0) (arg n 1))
noncomputable def ansCheap : Ans := fun g n => toldT (the (CostsOut g lCost (arg n 0) (arg n 1))) (placeErr g (arg n 0) (arg n 1))
noncomputable def ansFew : Ans := fun g n => toldT (the (CostsOut g lOne (arg n 0) (arg n 1))) (placeErr g (arg n 0) (arg n 1))
noncomputable def ansFast : Ans := fun g n => toldT [(fastF g (arg n 0) (arg n 1)).1, (fastF g (arg n 0) (arg n 1)).2.1] (fastF g (arg n 0) (arg n 1)).2.2
def ansGo (l : List HopD) : Ans := fun g n => toldT [(goR g (arg n 0) (arg n 1) l).1, (goR g (arg n 0) (arg n 1) l).2.1, (goR g (arg n 0) (arg n 1) l).2.2.1] (goR g (arg n 0) (arg n 1) l).2.2.2
def vShow : List UInt8 := [115, 104, 111, 119]
def vHops : List UInt8 := [104, 111, 112, 115]
def vCosts : List UInt8 := [99, 111, 115, 116, 115]
def vLabels : List UInt8 := [108, 97, 98, 101, 108, 115]
def vAll : List UInt8 := [97, 108, 108]
def vEarly : List UInt8 := [101, 97, 114, 108, 121]
def vLate : List UInt8 := [108, 97, 116, 101]
def vCheap : List UInt8 := [99, 104, 101, 97, 112]
def vFew : List UInt8 := [102, 101, 119]
def vFast : List UInt8 := [102, 97, 115, 116]
def vGraph : List UInt8 := [103, 114, 97, 112, 104]
def vGo : List UInt8 := [103, 111]
def vClear : List UInt8 := [99, 108, 101, 97, 114]
/-- How many numbers a command has, and what it answers. -/
noncomputable def askT (verb : List UInt8) : Option (Nat × Ans) :=
 if verb = vShow then some (0, ansShow) else if verb = vHops then some (2, ansHops) else if verb = vCosts then some (2, ansCosts) else if verb = vLabels then some (1, ansLabels) else if verb = vAll then some (2, ansAll)
 else if verb = vEarly then some (2, ansEarly) else if verb = vLate then some (2, ansLate) else if verb = vCheap then some (2, ansCheap) else if verb = vFew then some (2, ansFew) else if verb = vFast then some (2, ansFast) else none
def netT (text : List UInt8) (F : Ans) (n : List Int) : List UInt8 := if (parseD text).2.2 = 0 then F (parseD text).1 n else errT (parseD text).2.2 ++ [32] ++ Lib.itoa (parseD text).2.1
def hopT (s : List UInt8) : Option HopD := match numsB [(Lib.cut s [64]).1, (Lib.cut s [64]).2.1] with | some n => some ⟨arg n 0, arg n 1⟩ | none => none
def hopsT : List (List UInt8) → Option (List HopD)
 | [] => some []
 | s :: l => match hopT s, hopsT l with | some h, some r => some (h :: r) | _, _ => none
def goT (text : List UInt8) (w : List (List UInt8)) : List UInt8 := if w.length < 2 then errT 3 else match numsB (w.take 2), hopsT (w.drop 2) with | some n, some l => netT text (ansGo l) n | _, _ => errT 3
noncomputable def askedT (text verb : List UInt8) (w : List (List UInt8)) : List UInt8 := match askT verb, numsB w with | some f, some n => if n.length = f.1 then netT text f.2 n else errT 3 | _, _ => errT 3
def moreT (text : List UInt8) (w : List (List UInt8)) : List UInt8 × List UInt8 := if w = [] then (text, errT 3) else if 8192 < text.length + (joinB 32 w ++ [10]).length then (text, errT 2) else (text ++ (joinB 32 w ++ [10]), wOk)
/-- A command: the text behind it, the answer. -/
noncomputable def doT (text verb : List UInt8) (w : List (List UInt8)) : List UInt8 × List UInt8 :=
 if verb = vGraph then moreT text w else if verb = vGo then (text, goT text w) else if verb = vClear then (if w = [] then ([], wOk) else (text, errT 3)) else (text, askedT text verb w)
end Go.Proofs.YtjcimdpldlamfaaGreatDoor
/- How great the desk's numbers and how long its answers are; no program in sight. -/
namespace Go.Proofs.YtjcimdpldlamfaaGreatDoor

section
variable {g : GraphD} {s : SnapD} {v t u p : Int} {l : List Int}
theorem small_i64 {n : Int} (h0 : -1 ≤ n) (h1 : n ≤ 1000000000) : I64 n := by constructor <;> omega
theorem legsErr_range {h : Int} : ∀ (l : List LegD) (p : Option Int), 0 ≤ legsErr h p l ∧ legsErr h p l ≤ 9
 | [], _ => by simp [legsErr]
 | x :: r, p => by
  have ih := legsErr_range (h := h) r (some x.t)
  rw [legsErr.eq_def]
  simp only
  split
  ·omega
  ·split
   ·omega
   ·exact ih
theorem edgesErr_range {h n : Int} : ∀ (l : List EdgeD), 0 ≤ edgesErr h n l ∧ edgesErr h n l ≤ 9
 | [] => by simp [edgesErr]
 | x :: r => by
  have ih := edgesErr_range (h := h) (n := n) r
  rw [edgesErr]
  split
  ·exact ih
  ·unfold edgeErr
   split
   ·omega
   ·split
    ·omega
    ·exact legsErr_range _ _
theorem graphErr_range (g : GraphD) : 0 ≤ graphErr g ∧ graphErr g ≤ 9 := by
 unfold graphErr
 split
 ·omega
 ·split
  ·omega
  ·split
   ·omega
   ·exact edgesErr_range _
theorem placeErr_range (g : GraphD) (v t : Int) : 0 ≤ placeErr g v t ∧ placeErr g v t ≤ 9 := by
 have := graphErr_range g
 unfold placeErr
 split
 ·split
  ·split <;> omega
  ·omega
 ·exact this
theorem atErr_range (g : GraphD) (t : Int) : 0 ≤ atErr g t ∧ atErr g t ≤ 9 := by
 have := graphErr_range g
 unfold atErr
 split
 ·split <;> omega
 ·exact this
theorem runErr_range (g : GraphD) (p v : Int) : 0 ≤ runErr g p v ∧ runErr g p v ≤ 9 := by
 have := graphErr_range g
 unfold runErr
 split
 ·split
  ·split <;> omega
  ·omega
 ·exact this
theorem goR_range (hV : Valid g) (h : List HopD) : I64 (goR g v t h).1 ∧ I64 (goR g v t h).2.1 ∧ I64 (goR g v t h).2.2.1 ∧ I64 (goR g v t h).2.2.2 := by
 have h0 : I64 0 := small_i64 (by decide) (by decide)
 by_cases hp : placeErr g v t = 0
 ·by_cases hl : 500 < h.length
  ·rw [goR_large hp hl]; exact ⟨h0, h0, h0, small_i64 (by decide) (by decide)⟩
  ·cases ha : aliveB g v t with
   | false => rw [goR_dead hp hl ha]; exact ⟨h0, h0, h0, small_i64 (by decide) (by decide)⟩
   | true =>
    cases hg : goL g v t 0 h with
    | none => rw [goR_none hp hl ha hg]; exact ⟨h0, h0, h0, small_i64 (by decide) (by decide)⟩
    | some r =>
     have hh : Here g v t := by
      unfold placeErr at hp
      rw [if_pos (valid_ok hV)] at hp
      split at hp
      ·next h1 =>
       split at hp
       ·next h2 =>
        simp only [inB, decide_eq_true_eq] at h1 h2
        exact ⟨h1.1, by omega, h2.1, by omega, ha⟩
       ·simp at hp
      ·simp at hp
     obtain ⟨a, b, d⟩ := r
     obtain ⟨⟨a1, a2, a3, a4, _⟩, _, h7, h8⟩ := goL_here hV h v t 0 a b d hh hg
     have e : goR g v t h = (a, b, d, 0) := by unfold goR; rw [if_pos hp, if_neg hl, if_pos ha, hg]
     have hn := hV.nl
     have hh1 := hV.h1
     rw [e]
     simp only
     exact ⟨small_i64 (by omega) (by omega), small_i64 (by omega) (by omega), small_i64 (by omega) (by omega), h0⟩
 ·rw [goR_place hp]
  have := placeErr_range g v t
  simp only
  exact ⟨h0, h0, h0, small_i64 (by omega) (by omega)⟩
theorem fast_range (hV : Valid g) {d a er : Int} (h : FastOk g v u d a er) : I64 d ∧ I64 a ∧ I64 er := by
 have h0 : I64 0 := small_i64 (by decide) (by decide)
 cases h with
 | bad h => exact absurd (valid_ok hV) h
 | out h h2 => exact ⟨h0, h0, small_i64 (by decide) (by decide)⟩
 | none h hv hu h2 => exact ⟨h0, h0, small_i64 (by decide) (by decide)⟩
 | some h hv hu h2 =>
  have hh1 := hV.h1
  have a0 := h2.a0; have a1 := h2.a1; have b0 := h2.b0; have b1 := h2.b1
  exact ⟨small_i64 (by omega) (by omega), small_i64 (by omega) (by omega), h0⟩
theorem ways_len {wt : ArcD → Int} (h : WaysOut s wt v l) : l.length ≤ s.alive.length := by
 unfold WaysOut at h
 split at h
 ·exact Nat.le_of_eq h.1
 ·rw [h]; simp
theorem labels_len (h : LabelsOut s l) : l.length ≤ s.alive.length := by
 unfold LabelsOut at h
 split at h
 ·exact Nat.le_of_eq h.1
 ·rw [h]; simp
theorem arr_len (h : ArrOut g v t l) : l.length ≤ g.lives.length := by
 unfold ArrOut at h
 split at h
 ·exact Nat.le_of_eq h.1
 ·rw [h]; simp
theorem dep_len (h : DepOut g v t l) : l.length ≤ g.lives.length := by
 unfold DepOut at h
 split at h
 ·exact Nat.le_of_eq h.1
 ·rw [h]; simp
theorem costs_len {wt : LegD → Int} (h : CostsOut g wt v t l) : l.length ≤ g.lives.length := by
 unfold CostsOut at h
 split at h
 ·obtain ⟨d, _, rfl⟩ := h
  exact Nat.le_of_eq (leastL_len g d)
 ·rw [h]; simp
theorem err_short {e : Int} (he : I64 e) : (errT e).length ≤ 100000 := by
 have := errT_len he
 omega
theorem atD_len (g : GraphD) (t : Int) (hV : Valid g) : (atD g t).alive.length ≤ 12 := by
 unfold atD
 split
 ·rw [show (snapD g t).alive.length = g.lives.length from snapL_len g t]; exact hV.nl
 ·simp
end
/-! ### where a text errs -/
theorem readOut_range : ∀ (l : List (List UInt8)) (i : Nat) (g : GraphD), 0 ≤ (readOut i g l).2.1 ∧ (readOut i g l).2.1 ≤ i + l.length + 1 ∧ 0 ≤ (readOut i g l).2.2 ∧ (readOut i g l).2.2 ≤ 9
 | [], i, g => by
  have := graphErr_range g
  rw [readOut]
  unfold finG
  split <;> simp <;> omega
 | [q], i, g => by
  have := graphErr_range g
  rw [readOut]
  split
  ·unfold finG
   split <;> simp <;> omega
  ·simp; omega
 | q :: r :: l, i, g => by
  rw [readOut]
  cases hs : stepG g (decide (i = 0)) (piecesB 32 q) with
  | none => simp; omega
  | some g' =>
   have ih := readOut_range (r :: l) (i + 1) g'
   simp only [List.length_cons] at ih ⊢
   omega
theorem pieces_count (c : UInt8) : ∀ l : List UInt8, (piecesB c l).length ≤ l.length + 1
 | [] => by simp [piecesB]
 | b :: l => by
  have ih := pieces_count c l
  obtain ⟨p, ps, hp⟩ := pieces_form c l
  by_cases hb : b = c
  ·subst hb; rw [pieces_cons_hit]; simp; omega
  ·rw [pieces_cons_miss hb hp]; rw [hp] at ih; simp at ih ⊢; omega
theorem parseD_range (s : List UInt8) : I64 (parseD s).2.1 ∧ I64 (parseD s).2.2 := by
 unfold parseD
 split
 ·exact ⟨small_i64 (by decide) (by decide), small_i64 (by decide) (by decide)⟩
 ·next h =>
  have h1 := readOut_range (piecesB 10 s) 0 noG
  have h2 := pieces_count 10 s
  exact ⟨small_i64 (by omega) (by omega), small_i64 (by omega) (by omega)⟩
theorem parseD_valid {s : List UInt8} (h : (parseD s).2.2 = 0) : Valid (parseD s).1 := by
 have hk : ∀ (l : List (List UInt8)) (i : Nat) (g : GraphD), (readOut i g l).2.2 = 0 → graphErr (readOut i g l).1 = 0 := by
  intro l
  induction l with
  | nil =>
   intro i g h
   rw [readOut] at h ⊢
   unfold finG at h ⊢
   split at h
   ·next h1 => rw [if_pos h1]; exact h1
   ·next h1 => exact absurd h h1
  | cons q l ih =>
   intro i g h
   cases l with
   | nil =>
    rw [readOut] at h ⊢
    split at h
    ·next h0 =>
     rw [if_pos h0]
     unfold finG at h ⊢
     split at h
     ·next h1 => rw [if_pos h1]; exact h1
     ·next h1 => exact absurd h h1
    ·simp at h
   | cons r l =>
    rw [readOut] at h ⊢
    cases hs : stepG g (decide (i = 0)) (piecesB 32 q) with
    | none => rw [hs] at h; simp at h
    | some g' =>
     rw [hs] at h
     exact ih (i + 1) g' h
 unfold parseD at h ⊢
 split at h
 ·simp at h
 ·next h1 => rw [if_neg h1]; exact valid_of (hk _ _ _ h)
end Go.Proofs.YtjcimdpldlamfaaGreatDoor
/- The desk's lines and what it answers to them all; no program in sight. -/
namespace Go.Proofs.YtjcimdpldlamfaaGreatDoor

/-- Lines of a text, without their bytes 10. -/
def linesB (s : List UInt8) : List (List UInt8) := if (piecesB 10 s).getLast? = some [] then (piecesB 10 s).dropLast else piecesB 10 s
def wordsB (l : List UInt8) : List (List UInt8) := (piecesB 32 l).filter fun p => decide (p ≠ [])
def err2T : List UInt8 := [101, 114, 114, 111, 114, 32, 50, 10]
/-- A line: the text and the answer behind it. -/
noncomputable def lineStep (st : List UInt8 × List UInt8) (l : List UInt8) : List UInt8 × List UInt8 :=
 match wordsB l with
 | [] => st
 | v :: w => if v.head? = some 35 then st else ((doT st.1 v w).1, st.2 ++ ((doT st.1 v w).2 ++ [10]))
noncomputable def linesRun (l : List (List UInt8)) : List UInt8 × List UInt8 := l.foldl lineStep ([], [])
noncomputable def deskT (s : List UInt8) : List UInt8 := if 65536 < s.length ∨ 200 < (linesB s).length then err2T else (linesRun (linesB s)).2
section
variable {l : List (List UInt8)} {k : Nat} {x : List UInt8} {st : List UInt8 × List UInt8}
theorem linesRun_take (h : l[k]? = some x) : linesRun (l.take (k + 1)) = lineStep (linesRun (l.take k)) x := by
 unfold linesRun
 rw [List.take_add_one, h, List.foldl_append]
 rfl
theorem step_none (h : wordsB x = []) : lineStep st x = st := by unfold lineStep; rw [h]
theorem step_hash {v : List UInt8} {w : List (List UInt8)} (h : wordsB x = v :: w) (h2 : v.head? = some 35) : lineStep st x = st := by unfold lineStep; rw [h]; simp only; rw [if_pos h2]
theorem step_do {v : List UInt8} {w : List (List UInt8)} (h : wordsB x = v :: w) (h2 : ¬ v.head? = some 35) : lineStep st x = ((doT st.1 v w).1, st.2 ++ ((doT st.1 v w).2 ++ [10])) := by unfold lineStep; rw [h]; simp only; rw [if_neg h2]
/-- What has been told stays. -/
theorem fold_head : ∀ (m : List (List UInt8)) (st : List UInt8 × List UInt8), st.2 <+: (m.foldl lineStep st).2
 | [], st => List.prefix_refl _
 | x :: m, st => by
  rw [List.foldl_cons]
  refine List.IsPrefix.trans ?_ (fold_head m _)
  unfold lineStep
  split
  ·exact List.prefix_refl _
  ·split
   ·exact List.prefix_refl _
   ·exact List.prefix_append _ _
theorem run_head (m : List (List UInt8)) : (linesRun l).2 <+: (linesRun (l ++ m)).2 := by
 unfold linesRun
 rw [List.foldl_append]
 exact fold_head m _
end
end Go.Proofs.YtjcimdpldlamfaaGreatDoor
/- What follows is not seen in what was answered; a script whose answer is known; no program in sight. -/
namespace Go.Proofs.YtjcimdpldlamfaaGreatDoor

theorem pieces_append (b : List UInt8) : ∀ a : List UInt8, piecesB 10 (a ++ 10 :: b) = piecesB 10 a ++ piecesB 10 b
 | [] => by rw [List.nil_append, pieces_cons_hit]; rfl
 | x :: a => by
  have ih := pieces_append b a
  by_cases hx : x = 10
  ·subst hx
   rw [List.cons_append, pieces_cons_hit, pieces_cons_hit, ih]
   rfl
  ·obtain ⟨p, ps, hp⟩ := pieces_form 10 a
   rw [hp] at ih
   rw [List.cons_append, pieces_cons_miss hx ih, pieces_cons_miss hx hp]
   rfl
theorem run_pieces (s : List UInt8) : linesRun (piecesB 10 s) = linesRun (linesB s) := by
 unfold linesB
 split
 ·next h =>
  obtain ⟨ys, hy⟩ := List.getLast?_eq_some_iff.1 h
  rw [hy, List.dropLast_concat]
  unfold linesRun
  rw [List.foldl_append]
  simp only [List.foldl_cons, List.foldl_nil]
  exact step_none (by decide)
 ·rfl
theorem lines_append (a b : List UInt8) : ∃ m, linesB (a ++ 10 :: b) = piecesB 10 a ++ m := by
 unfold linesB
 rw [pieces_append]
 have hb := pieces_ne 10 b
 split
 ·exact ⟨(piecesB 10 b).dropLast, by rw [List.dropLast_append_of_ne_nil hb]⟩
 ·exact ⟨_, rfl⟩
theorem lines_le (s : List UInt8) : (linesB s).length ≤ (piecesB 10 s).length := by
 unfold linesB
 split
 ·rw [List.length_dropLast]; omega
 ·exact Nat.le_refl _
theorem desk_head (a b : List UInt8) (h1 : (a ++ 10 :: b).length ≤ 65536) (h2 : (linesB (a ++ 10 :: b)).length ≤ 200) : deskT a <+: deskT (a ++ 10 :: b) := by
 obtain ⟨m, hm⟩ := lines_append a b
 have h3 := lines_le a
 have h4 : (piecesB 10 a).length ≤ 200 := by rw [hm, List.length_append] at h2; omega
 have h5 : a.length ≤ 65536 := by rw [List.length_append] at h1; omega
 unfold deskT
 rw [if_neg (by omega), if_neg (by omega), hm, ← run_pieces]
 exact run_head m
/-! ### a script -/
def hG : GraphD := ⟨5, [⟨0, 5⟩, ⟨1, 4⟩], [⟨0, 1, [⟨0, 2, 2, 3⟩]⟩]⟩
def hText : List UInt8 := [116, 105, 109, 101, 32, 53, 10, 118, 101, 114, 116, 101, 120, 32, 48, 32, 53, 10, 118, 101, 114, 116, 101, 120, 32, 49, 32, 52, 10, 101, 100, 103, 101, 32, 48, 32, 49, 10, 108, 101, 103, 32, 48, 32, 50, 32, 50, 32, 51, 10]
theorem hText_parse : parseD hText = (hG, 0, 0) := by decide +kernel
theorem hG_valid : Valid hG := by
 have h := parseD_valid (s := hText) (by rw [hText_parse])
 rwa [hText_parse] at h
theorem hG_early : EarlyL hG 0 1 [1, 3] := by
 have hx : arcE hG ⟨0, 1, [⟨0, 2, 2, 3⟩]⟩ ∈ arcsE hG := mem_arcsE.2 ⟨_, by simp [hG], rfl⟩
 have h0 : gi (startE hG 0 1) 0 = 1 := by decide +kernel
 have h1 : gi (startE hG 0 1) 1 = Never := by decide +kernel
 have hf : earlyF hG ⟨0, 1, [⟨0, 2, 2, 3⟩]⟩ 1 = 3 := by decide +kernel
 have far : ∀ i, 2 ≤ i → gi (startE hG 0 1) i = 0 := fun i hi => gi_far (by show (startE hG 0 1).length ≤ i; exact hi)
 have farl : ∀ i, 2 ≤ i → gi ([1, 3] : List Int) i = 0 := fun i hi => gi_far hi
 have g0 : gi ([1, 3] : List Int) 0 = 1 := by decide
 have g1 : gi ([1, 3] : List Int) 1 = 3 := by decide
 refine ⟨rfl, ⟨fun i => ?_, fun x hx => ?_⟩, fun e he i => ?_⟩
 ·match i with
  | 0 => rw [g0, h0]; decide
  | 1 => rw [g1, h1]; decide
  | i + 2 => rw [far _ (by omega), farl _ (by omega)]; decide
 ·obtain ⟨y, hy, rfl⟩ := mem_arcsE.1 hx
  obtain rfl : y = ⟨0, 1, [⟨0, 2, 2, 3⟩]⟩ := by simpa [hG] using hy
  have hq : gi ([1, 3] : List Int) 1 ≤ earlyF hG ⟨0, 1, [⟨0, 2, 2, 3⟩]⟩ (gi ([1, 3] : List Int) 0) := by rw [g0, g1, hf]; decide
  exact hq
 ·match i with
  | 0 => rw [g0, ← h0]; exact he.1 0
  | 1 =>
   have k1 := he.2 _ hx
   have k0 := he.1 0
   rw [h0] at k0
   have km : Mono (arcE hG ⟨0, 1, [⟨0, 2, 2, 3⟩]⟩).f := (arcsE_ok hG_valid _ hx).2.2.1
   have k2 := km _ _ k0
   have k3 : (arcE hG ⟨0, 1, [⟨0, 2, 2, 3⟩]⟩).f 1 = 3 := hf
   rw [k3] at k2
   rw [g1]
   exact Int.le_trans k1 k2
  | i + 2 => rw [farl _ (by omega), ← far (i + 2) (by omega)]; exact he.1 _
theorem hG_labels : LabelsL (atD hG 0) [0, Far] := by
 have ha : (atD hG 0).arcs = [] := by decide +kernel
 have hl : labelD (atD hG 0) = [0, Far] := by decide +kernel
 refine ⟨by decide +kernel, ?_⟩
 rw [hl]
 refine ⟨⟨fun i => Int.le_refl _, fun x hx => ?_⟩, above_init⟩
 obtain ⟨y, hy, _⟩ := hx
 rw [ha] at hy
 simp at hy
theorem h_early : doT hText vEarly [[48], [49]] = (hText, [49, 32, 51]) := by
 have he : placeErr hG 0 1 = 0 := by decide +kernel
 have hn : numsB [[48], [49]] = some [0, 1] := by decide +kernel
 have ho : ArrOut hG 0 1 [1, 3] := by unfold ArrOut; rw [if_pos he]; exact hG_early
 unfold doT askedT netT askT
 rw [if_neg (by decide), if_neg (by decide), if_neg (by decide), if_neg (by decide), if_neg (by decide), if_neg (by decide), if_neg (by decide), if_neg (by decide), if_pos rfl, hn, hText_parse]
 simp only [List.length_cons, List.length_nil, if_true]
 show (hText, toldT (the (ArrOut hG 0 1)) (placeErr hG 0 1)) = _
 rw [arr_the ho, he]
 decide +kernel
theorem h_labels : doT hText vLabels [[48]] = (hText, [48, 32, 45]) := by
 have he : atErr hG 0 = 0 := by decide +kernel
 have hs : shotErr (atD hG 0) = 0 := by decide +kernel
 have hn : numsB [[48]] = some [0] := by decide +kernel
 have ho : LabelsOut (atD hG 0) [0, Far] := labels_out hs hG_labels
 unfold doT askedT netT askT
 rw [if_neg (by decide), if_neg (by decide), if_neg (by decide), if_neg (by decide), if_neg (by decide), if_neg (by decide), if_pos rfl, hn, hText_parse]
 simp only [List.length_cons, List.length_nil, if_true]
 show (hText, snapT hG 0 fun s => (the (LabelsOut s), shotErr s)) = _
 unfold snapT
 rw [if_pos he]
 show (hText, toldT (the (LabelsOut (atD hG 0))) (shotErr (atD hG 0))) = _
 rw [labels_the ho, hs]
 decide +kernel
def hScript : List UInt8 := [103, 114, 97, 112, 104, 32, 116, 105, 109, 101, 32, 53, 10, 103, 114, 97, 112, 104, 32, 118, 101, 114, 116, 101, 120, 32, 48, 32, 53, 10, 103, 114, 97, 112, 104, 32, 118, 101, 114, 116, 101, 120, 32, 49, 32, 52, 10, 103, 114, 97, 112, 104, 32, 101, 100, 103, 101, 32, 48, 32, 49, 10, 103, 114, 97, 112, 104, 32, 108, 101, 103, 32, 48, 32, 50, 32, 50, 32, 51, 10, 101, 97, 114, 108, 121, 32, 48, 32, 49, 10, 108, 97, 98, 101, 108, 115, 32, 48, 10]
theorem graph_do (text : List UInt8) (l : List (List UInt8)) : doT text vGraph l = moreT text l := by unfold doT; rw [if_pos rfl]
theorem guard_head : deskT hScript = [111, 107, 10, 111, 107, 10, 111, 107, 10, 111, 107, 10, 111, 107, 10, 49, 32, 51, 10, 48, 32, 45, 10] := by
 have hl : linesB hScript = [[103, 114, 97, 112, 104, 32, 116, 105, 109, 101, 32, 53], [103, 114, 97, 112, 104, 32, 118, 101, 114, 116, 101, 120, 32, 48, 32, 53], [103, 114, 97, 112, 104, 32, 118, 101, 114, 116, 101, 120, 32, 49, 32, 52], [103, 114, 97, 112, 104, 32, 101, 100, 103, 101, 32, 48, 32, 49], [103, 114, 97, 112, 104, 32, 108, 101, 103, 32, 48, 32, 50, 32, 50, 32, 51]] ++ [[101, 97, 114, 108, 121, 32, 48, 32, 49], [108, 97, 98, 101, 108, 115, 32, 48]] := by decide +kernel
 have h5 : linesRun [[103, 114, 97, 112, 104, 32, 116, 105, 109, 101, 32, 53], [103, 114, 97, 112, 104, 32, 118, 101, 114, 116, 101, 120, 32, 48, 32, 53], [103, 114, 97, 112, 104, 32, 118, 101, 114, 116, 101, 120, 32, 49, 32, 52], [103, 114, 97, 112, 104, 32, 101, 100, 103, 101, 32, 48, 32, 49], [103, 114, 97, 112, 104, 32, 108, 101, 103, 32, 48, 32, 50, 32, 50, 32, 51]] = (hText, [111, 107, 10, 111, 107, 10, 111, 107, 10, 111, 107, 10, 111, 107, 10]) := by
  unfold linesRun
  simp only [List.foldl_cons, List.foldl_nil]
  rw [step_do (x := [103, 114, 97, 112, 104, 32, 116, 105, 109, 101, 32, 53]) (v := vGraph) (w := [[116, 105, 109, 101], [53]]) (by decide +kernel) (by decide), graph_do,
   step_do (x := [103, 114, 97, 112, 104, 32, 118, 101, 114, 116, 101, 120, 32, 48, 32, 53]) (v := vGraph) (w := [[118, 101, 114, 116, 101, 120], [48], [53]]) (by decide +kernel) (by decide), graph_do,
   step_do (x := [103, 114, 97, 112, 104, 32, 118, 101, 114, 116, 101, 120, 32, 49, 32, 52]) (v := vGraph) (w := [[118, 101, 114, 116, 101, 120], [49], [52]]) (by decide +kernel) (by decide), graph_do,
   step_do (x := [103, 114, 97, 112, 104, 32, 101, 100, 103, 101, 32, 48, 32, 49]) (v := vGraph) (w := [[101, 100, 103, 101], [48], [49]]) (by decide +kernel) (by decide), graph_do,
   step_do (x := [103, 114, 97, 112, 104, 32, 108, 101, 103, 32, 48, 32, 50, 32, 50, 32, 51]) (v := vGraph) (w := [[108, 101, 103], [48], [50], [50], [51]]) (by decide +kernel) (by decide), graph_do]
  decide +kernel
 unfold deskT
 rw [hl, if_neg (by decide)]
 unfold linesRun at h5 ⊢
 rw [List.foldl_append, h5]
 simp only [List.foldl_cons, List.foldl_nil]
 rw [step_do (x := [101, 97, 114, 108, 121, 32, 48, 32, 49]) (v := vEarly) (w := [[48], [49]]) (by decide +kernel) (by decide), h_early,
  step_do (x := [108, 97, 98, 101, 108, 115, 32, 48]) (v := vLabels) (w := [[48]]) (by decide +kernel) (by decide), h_labels]
 rfl
end Go.Proofs.YtjcimdpldlamfaaGreatDoor
