/- Several texts in one: WarpCheck, WarpCells2, CoverSpec, CoverSpec2, IvlNorm. -/
import Derived.BigRegion
import Derived.Test.YtdpibehpmghghaaGreatBdacf280bac4
import Derived.Test.YtdpibehpmghghaaGreatBd0099a17721
import Derived.Test.YtdpibehpmghghaaGreatBd2ead63bc01
import Derived.Test.YtdpibehpmghghaaGreatBd168de68ad9
/- The walks of warp.Check and of what holds of one of some messages (printed by genwarpfold.py). -/
namespace Go.Proofs.YtdpibehpmghghaaGreat
open Go.RowKit Go.Shelf

def PredP (fn : Nat) (lb : Array Value) (p : PieceD → Bool) (w : World) : Prop :=
  ∀ (W : World) (x : PieceD), Below w.heap.size w W → I64 x.f ∧ I64 x.t ∧ I64 x.v → Calls Tryz.prog fn (#[pieceV x] ++ lb) W fun e w' => e = .returned (.bool (p x)) ∧ Below W.heap.size W w'
def FirstP (p : PieceD → Bool) (l : List PieceD) (r : Int) : Prop :=
  (r = -1 ∧ ∀ x, x ∈ l → p x = false) ∨ ∃ (k : Nat) (x : PieceD), r = k ∧ l[k]? = some x ∧ p x = true ∧ ∀ y, y ∈ l.take k → p y = false
theorem FirstP.any {p : PieceD → Bool} {l : List PieceD} {r : Int} (h : FirstP p l r) : decide (r ≥ 0) = l.any p := by
  rw [Bool.eq_iff_iff, List.any_eq_true, decide_eq_true_iff]
  rcases h with ⟨rfl, h⟩ | ⟨k, x, rfl, hx, hp, _⟩
  · exact ⟨fun h1 => by omega, fun ⟨x, hx, hp⟩ => by rw [h x hx] at hp; simp at hp⟩
  · exact ⟨fun _ => ⟨x, List.mem_of_getElem? hx, hp⟩, fun _ => by omega⟩
set_option maxHeartbeats 1000000 in
theorem indexMsg_any (fn : Nat) (lb : Array Value) (p : PieceD → Bool) (eg : ∀ args w, (callFunc fn args).run Tryz.prog w = .ok (.enter fn args) w) (A : Option Addr) (c : Nat) (l : List PieceD) (w : World) (hI : PiecesAt w A c l) (hp : PredP fn lb p w) :
    Calls Tryz.prog 157 #[.slice A l.length c, .func (.func fn) #[] lb] w fun e w' => (∃ r, e = .returned (.int .i64 r) ∧ FirstP p l r) ∧ Below w.heap.size w w' := by
  have m1 := hI.len
  have HI := Lib.hid hI
  have HP := Lib.hid hp
  clear hI hp
  go_enter Tryz.func157, Tryz.ntmps157
  go_wp2_with fail
  go_loopw [5, 8] (fun _ v wr => ∃ k : Nat, k ≤ l.length ∧ v = .int .i64 k ∧ Hid (∀ y, y ∈ l.take k → p y = false) ∧ Below w.heap.size w wr) (fun _ v _ => l.length - (intOf v).toNat)
  case atStart => exact ⟨0, Nat.zero_le _, rfl, Lib.hid (by simp), Below.refl _ _⟩
  case round =>
    obtain ⟨k, hk, rfl, HN, hb⟩ := hrel
    by_cases hlt : k < l.length
    case neg =>
      obtain rfl : k = l.length := by omega
      go_wp2_with fail
      go_ret
      exact ⟨⟨-1, rfl, .inl ⟨rfl, by have := HN.out; rwa [List.take_length] at this⟩⟩, hb⟩
    case pos =>
      obtain ⟨x, hx⟩ := get_lt hlt
      obtain ⟨b, off, rfl, hb0, x0, x1, x2⟩ := HI.out.get hx
      rw [← hb.cell (by exact hb0)] at x0 x1 x2
      have HX := Lib.hid hx
      have hc := HP.out wr x hb (HI.out.i64 hx)
      clear hx
      cases hq : p x
      case true =>
        rw [hq] at hc
        go_wp2_with (go_at_fn fn; refine hc.mono ?_; rintro e w' ⟨rfl, hb'⟩)
        go_ret
        exact ⟨⟨k, rfl, .inr ⟨k, x, rfl, HX.out, hq, HN.out⟩⟩, ext_trans hb hb'⟩
      case false =>
        rw [hq] at hc
        go_wp2_with (go_at_fn fn; refine hc.mono ?_; rintro e w' ⟨rfl, hb'⟩)
        go_roundw
        case rel =>
          refine ⟨k + 1, by omega, by go_num, Lib.hid fun y hy => ?_, ext_trans hb hb'⟩
          rw [takeM_succ HX.out] at hy
          rcases List.mem_append.1 hy with hy | hy
          · exact HN.out y hy
          · obtain rfl : y = x := by simpa using hy
            exact hq
        case measure => simp [intOf]; omega
set_option maxHeartbeats 1000000 in
theorem containsMsg_any (fn : Nat) (lb : Array Value) (p : PieceD → Bool) (eg : ∀ args w, (callFunc fn args).run Tryz.prog w = .ok (.enter fn args) w) (A : Option Addr) (c : Nat) (l : List PieceD) (w : World) (hI : PiecesAt w A c l) (hp : PredP fn lb p w) :
    Calls Tryz.prog 142 #[.slice A l.length c, .func (.func fn) #[] lb] w fun e w' => e = .returned (.bool (l.any p)) ∧ Below w.heap.size w w' := by
  have HI := Lib.hid hI
  have HP := Lib.hid hp
  clear hI hp
  go_enter Tryz.func142, Tryz.ntmps142
  go_wp2_with (go_at_call 157; refine (indexMsg_any fn lb p eg A c l _ HI.out HP.out).mono ?_; rintro e w' ⟨⟨r, rfl, hr⟩, hb⟩)
  go_ret
  exact ⟨ret_bool hr.any, hb⟩
/-- Is a message wrong? -/
def badMsg (x : PieceD) : Bool := farB x.f || farB x.t || farB x.v || decide (x.t ≤ x.f)
theorem bad_any {l : List PieceD} : l.any badMsg = false ↔ MsgOk l := by
  rw [List.any_eq_false]
  unfold MsgOk badMsg farB
  constructor
  · intro h x hx
    have := h x hx
    simp at this
    exact ⟨⟨this.1.1.1, this.1.1.2, this.1.2⟩, by omega⟩
  · intro h x hx
    have := h x hx
    simp [this.1.1, this.1.2.1, this.1.2.2]
    omega
theorem enters_msg1 : Enters Tryz.prog 143 := enters_of Tryz.func143 (by kernel_rfl) rfl
set_option maxHeartbeats 2000000 in
theorem msg1_any (x : PieceD) (W : World) : Calls Tryz.prog 143 #[pieceV x] W fun e w' => e = .returned (.bool (badMsg x)) ∧ Below W.heap.size W w' := by
  unfold badMsg
  have hle : decide (x.t ≤ x.f) = decide (x.t ≤ x.f) := rfl
  cases h1 : farB x.f
  case true =>
    have hf1 := fun w => warpFar_is h1 w
    clear h1 hle
    go_enter Tryz.func143, Tryz.ntmps143
    go_wp2_with (first | (go_at_call 144; refine (hf1 _).mono ?_; rintro e w' ⟨rfl, rfl⟩))
    go_ret
    exact ⟨by simp, by go_grown⟩
  case false =>
  have hf1 := fun w => warpFar_is h1 w
  cases h2 : farB x.t
  case true =>
    have hf2 := fun w => warpFar_is h2 w
    have H1 := Lib.hid h1; have H2 := Lib.hid h2
    clear hle
    go_enter Tryz.func143, Tryz.ntmps143
    go_wp2_with (first | (go_at_call 144; refine (warpFar_is (by assumption) _).mono ?_; rintro e w' ⟨rfl, rfl⟩))
    go_ret
    exact ⟨by simp, by go_grown⟩
  case false =>
  cases h3 : farB x.v
  case true =>
    clear hle
    go_enter Tryz.func143, Tryz.ntmps143
    go_wp2_with (first | (go_at_call 144; refine (warpFar_is (by assumption) _).mono ?_; rintro e w' ⟨rfl, rfl⟩))
    go_ret
    exact ⟨by simp, by go_grown⟩
  case false =>
    by_cases h4 : x.t ≤ x.f
    · have hd : decide (x.t ≤ x.f) = true := by simpa using h4
      rw [hd]
      clear h4 hle
      go_enter Tryz.func143, Tryz.ntmps143
      go_wp2_with (first | (go_at_call 144; refine (warpFar_is (by assumption) _).mono ?_; rintro e w' ⟨rfl, rfl⟩))
      go_ret
      exact ⟨by simp, by go_grown⟩
    · have hd : decide (x.t ≤ x.f) = false := by simpa using h4
      rw [hd]
      clear h4 hle
      go_enter Tryz.func143, Tryz.ntmps143
      go_wp2_with (first | (go_at_call 144; refine (warpFar_is (by assumption) _).mono ?_; rintro e w' ⟨rfl, rfl⟩))
      go_ret
      exact ⟨by simp, by go_grown⟩
set_option maxHeartbeats 2000000 in
theorem warpCheck_any (A : Option Addr) (c : Nat) (l : List PieceD) (w : World) (hI : PiecesAt w A c l) :
    Calls Tryz.prog 131 #[.slice A l.length c] w fun e w' => e = .returned (.int .i64 (msgErr l)) ∧ Below w.heap.size w w' := by
  have m1 := hI.len
  have hent := enters_msg1
  unfold Enters at hent
  by_cases hl : 200 < l.length
  case pos =>
    have HR : Hid (msgErr l = 2) := Lib.hid (msgErr_large hl)
    have hd : decide ((l.length : Int) > 200) = true := by simp; omega
    rw [HR.out]
    clear hl
    go_enter Tryz.func131, Tryz.ntmps131
    go_wp2_with fail
    go_ret
    exact ⟨rfl, Below.refl _ _⟩
  case neg =>
  have hd : decide ((l.length : Int) > 200) = false := by simp; omega
  have hC := containsMsg_any 143 #[] badMsg hent A c l w hI (fun W x _ _ => msg1_any x W)
  cases hq : l.any badMsg
  case true =>
    have HR : Hid (msgErr l = 5) := Lib.hid (msgErr_bad hl fun h => by rw [bad_any.2 h] at hq; simp at hq)
    rw [hq] at hC
    rw [HR.out]
    clear hl hI hq
    go_enter Tryz.func131, Tryz.ntmps131
    go_wp2_with (first | (go_at_call 142; refine hC.mono ?_; rintro e w' ⟨rfl, hb⟩))
    go_ret
    exact ⟨rfl, hb⟩
  case false =>
    have HR : Hid (msgErr l = 0) := Lib.hid (msgErr_ok hl (bad_any.1 hq))
    rw [hq] at hC
    rw [HR.out]
    clear hl hI hq
    go_enter Tryz.func131, Tryz.ntmps131
    go_wp2_with (first | (go_at_call 142; refine hC.mono ?_; rintro e w' ⟨rfl, hb⟩))
    go_ret
    exact ⟨rfl, hb⟩
end Go.Proofs.YtdpibehpmghghaaGreat
/- The walk of warp.Cells (printed by genwarpfold.py). -/
namespace Go.Proofs.YtdpibehpmghghaaGreat
open Go.RowKit Go.Shelf

/-- What Cells tells of right arguments. -/
def CellsTell (state l : List PieceD) (k er : Int) (out : List CellD) : Prop := ∃ U, MapG U ∧ (∀ t, atG U t = keyF state l t) ∧ er = (if U.any (farP l k) = true then 5 else if 200 < U.length then 2 else 0) ∧ (er = 0 → out = U.map (toCell l k)) ∧ (er ≠ 0 → out = [])
def CellsSay (state l : List PieceD) (k er : Int) (out : List CellD) : Prop :=
  if mapErr state = 0 then if msgErr l = 0 then if 1 ≤ k ∧ k ≤ 3 then CellsTell state l k er out else er = 1 ∧ out = [] else er = msgErr l ∧ out = [] else er = mapErr state ∧ out = []
def CellsOut (R : Int → List CellD → Prop) (w : World) (e : Ending) (w' : World) : Prop := ∃ er out A c, Hid (R er out) ∧ e = .returned (.tuple #[.slice A out.length c, .int .i64 er]) ∧ CellsAt w' A c out ∧ Below w.heap.size w w'
set_option maxRecDepth 100000 in
set_option maxHeartbeats 4000000 in
theorem warpCellsP_any (A B : Option Addr) (c d : Nat) (state l : List PieceD) (k : Int) (w : World) (hA : PiecesAt w A c state) (hB : PiecesAt w B d l) :
    Calls Tryz.prog 112 #[.slice A state.length c, .slice B l.length d, .int .i64 k] w (CellsOut (CellsSay state l k) w) := by
  have m1 := hA.len
  have m2 := hB.len
  have HA := Lib.hid hA; have HB := Lib.hid hB
  have hC1 := imapCheck_any A c state w hA
  have hC2 := fun W (h : PiecesAt W B d l) => warpCheck_any B d l W h
  clear hA hB
  by_cases h0 : mapErr state = 0
  case neg =>
    have hd : (mapErr state != 0) = true := by simpa using h0
    have HS : Hid (CellsSay state l k (mapErr state) []) := Lib.hid (by unfold CellsSay; rw [if_neg h0]; exact ⟨rfl, rfl⟩)
    clear h0
    obtain ⟨er, her⟩ : ∃ er, mapErr state = er := ⟨_, rfl⟩
    rw [her] at hd HS hC1
    clear her
    go_enter Tryz.func112, Tryz.ntmps112
    go_wp2_with fail
    refine hC1.mono ?_
    rintro e w1 ⟨rfl, hb1⟩
    go_wp2_with fail
    go_ret2
    exact ⟨er, [], none, 0, HS, rfl, CellsAt.nil, hb1⟩
  case pos =>
  rw [h0] at hC1
  by_cases h1 : msgErr l = 0
  case neg =>
    have hd : (msgErr l != 0) = true := by simpa using h1
    have HS : Hid (CellsSay state l k (msgErr l) []) := Lib.hid (by unfold CellsSay; rw [if_pos h0, if_neg h1]; exact ⟨rfl, rfl⟩)
    clear h0 h1
    obtain ⟨er, her⟩ : ∃ er, msgErr l = er := ⟨_, rfl⟩
    rw [her] at hd HS
    simp only [her] at hC2
    clear her
    go_enter Tryz.func112, Tryz.ntmps112
    go_wp2_with fail
    refine hC1.mono ?_
    rintro e w1 ⟨rfl, hb1⟩
    clear hC1
    go_wp2_with fail
    refine (hC2 _ (HB.out.ext hb1)).mono ?_
    rintro e w2 ⟨rfl, hb2⟩
    go_wp2_with fail
    go_ret2
    exact ⟨er, [], none, 0, HS, rfl, CellsAt.nil, ext_trans hb1 hb2⟩
  case pos =>
  simp only [h1] at hC2
  have H0 := Lib.hid h0; have H1 := Lib.hid h1
  clear h0 h1
  by_cases hk : 1 ≤ k ∧ k ≤ 3
  case neg =>
    have HS : Hid (CellsSay state l k 1 []) := Lib.hid (by unfold CellsSay; rw [if_pos H0.out, if_pos H1.out, if_neg hk]; exact ⟨rfl, rfl⟩)
    have h3 : decide (k < 1) = true ∨ (decide (k < 1) = false ∧ decide (k > 3) = true) := by simp; omega
    clear hk
    rcases h3 with h3 | ⟨h3, h4⟩
    all_goals
      go_enter Tryz.func112, Tryz.ntmps112
      go_wp2_with fail
      refine hC1.mono ?_
      rintro e w1 ⟨rfl, hb1⟩
      go_wp2_with fail
      refine (hC2 _ (HB.out.ext hb1)).mono ?_
      rintro e w2 ⟨rfl, hb2⟩
      go_wp2_with fail
      go_ret2
      exact ⟨1, [], none, 0, HS, rfl, CellsAt.nil, ext_trans hb1 hb2⟩
  case pos =>
  have HK := Lib.hid hk
  have h3 : decide (k < 1) = false := by simp; omega
  have h4 : decide (k > 3) = false := by simp; omega
  clear hk
  go_enter Tryz.func112, Tryz.ntmps112
  go_wp2_with fail
  refine hC1.mono ?_
  rintro e w1 ⟨rfl, hb1⟩
  clear hC1
  go_wp2_with fail
  refine (hC2 _ (HB.out.ext hb1)).mono ?_
  rintro e w2 ⟨rfl, hb2⟩
  have hb2 := ext_trans hb1 hb2
  clear hC2 hb1
  go_wp2_with fail
  refine (warpCells_any A B c d state l k _ (HA.out.ext hb2) (HB.out.ext hb2) H0.out H1.out HK.out).mono ?_
  rintro e w3 ⟨U, A3, c3, HU, rfl, hI3, hb3, hU9⟩
  have hb3 := ext_trans hb2 hb3
  have m3 := hI3.len
  rw [List.length_map] at m3
  clear hb2
  obtain ⟨q, hq⟩ : ∃ q, U.any (farP l k) = q := ⟨_, rfl⟩
  have HQ := Lib.hid hq
  rw [hq]
  clear hq
  cases q
  case true =>
    have HS : Hid (CellsSay state l k 5 []) := Lib.hid (by unfold CellsSay; rw [if_pos H0.out, if_pos H1.out, if_pos HK.out]; exact ⟨U, HU.out.1, HU.out.2, by rw [if_pos HQ.out], fun h => by simp at h, fun _ => rfl⟩)
    go_wp2_with fail
    go_ret2
    exact ⟨5, [], none, 0, HS, rfl, CellsAt.nil, hb3⟩
  case false =>
    by_cases hl : 200 < U.length
    case pos =>
      have hd : decide ((U.length : Int) > 200) = true := by simp; omega
      have HS : Hid (CellsSay state l k 2 []) := Lib.hid (by unfold CellsSay; rw [if_pos H0.out, if_pos H1.out, if_pos HK.out]; exact ⟨U, HU.out.1, HU.out.2, by rw [HQ.out, if_neg (by simp), if_pos hl], fun h => by simp at h, fun _ => rfl⟩)
      clear hl
      go_wp2_with fail
      go_ret2
      exact ⟨2, [], none, 0, HS, rfl, CellsAt.nil, hb3⟩
    case neg =>
      have hd : decide ((U.length : Int) > 200) = false := by simp; omega
      have HS : Hid (CellsSay state l k 0 (U.map (toCell l k))) := Lib.hid (by unfold CellsSay; rw [if_pos H0.out, if_pos H1.out, if_pos HK.out]; exact ⟨U, HU.out.1, HU.out.2, by rw [HQ.out, if_neg (by simp), if_neg hl], fun _ => rfl, fun h => absurd rfl h⟩)
      clear hl
      go_wp2_with fail
      go_ret2
      exact ⟨0, U.map (toCell l k), A3, c3, HS, by rw [List.length_map]; rfl, hI3, hb3⟩
end Go.Proofs.YtdpibehpmghghaaGreat
/- What the law WarpCovers says of cells and folds; no program in sight. -/
namespace Go.Proofs.YtdpibehpmghghaaGreat

def litU : List (PieceG Key) := [pk 3 5 [0] (some 3), pk 5 8 [0] none]
theorem lit_which (t : Int) : whichL [⟨3, 8, 9⟩] t = if 3 ≤ t ∧ t < 8 then [0] else [] := by
  show whichK [⟨3, 8, 9⟩] t 1 = _
  rw [whichK_succ (x := ⟨3, 8, 9⟩) rfl]
  unfold inP whichK
  by_cases h : 3 ≤ t ∧ t < 8 <;> simp [h]
theorem lit_key (t : Int) : atG litU t = keyF [⟨0, 5, 3⟩] [⟨3, 8, 9⟩] t := by
  unfold keyF
  rw [lit_which]
  unfold litU pk
  by_cases h1 : 3 ≤ t ∧ t < 5
  · rw [atG_hit h1, if_pos (show 3 ≤ t ∧ t < 8 by omega), if_neg (by simp), at_hit (show (0 : Int) ≤ t ∧ t < 5 by omega)]
  · rw [atG_miss h1]
    by_cases h2 : 5 ≤ t ∧ t < 8
    · rw [atG_hit h2, if_pos (show 3 ≤ t ∧ t < 8 by omega), if_neg (by simp), at_miss (show ¬ ((0 : Int) ≤ t ∧ t < 5) by omega), at_nil]
    · rw [atG_miss h2, atG_nil, if_neg (show ¬ (3 ≤ t ∧ t < 8) by omega), if_pos rfl]
theorem lit_map : MapG litU := by
  refine ⟨?_, fun x hx => ?_⟩
  · unfold litU pk
    refine List.pairwise_cons.2 ⟨fun y hy => ?_, List.pairwise_cons.2 ⟨fun y hy => by simp at hy, .nil⟩⟩
    obtain rfl : y = _ := by simpa using hy
    exact ⟨by decide, fun _ h => by simp at h⟩
  · unfold litU pk at hx
    simp only [List.mem_cons, List.not_mem_nil, or_false] at hx
    rcases hx with rfl | rfl <;> decide
theorem cells_lit_say {er : Int} {out : List CellD} (h : CellsSay [⟨0, 5, 3⟩] [⟨3, 8, 9⟩] 1 er out) : er = 0 ∧ out = [⟨3, 5, 3, true, 9⟩, ⟨5, 8, 0, false, 9⟩] := by
  unfold CellsSay at h
  rw [if_pos (mapErr_ok (by decide) ⟨⟨by simp, by decide⟩, by decide⟩), if_pos (msgErr_ok (by decide) (by unfold MsgOk; decide)), if_pos (by decide)] at h
  obtain ⟨U, h1, h2, h3, h4, _⟩ := h
  obtain rfl : U = litU := mapG_unique h1 lit_map fun t => by rw [h2, lit_key]
  have h0 : er = 0 := by rw [h3, if_neg (by decide), if_neg (by decide)]
  exact ⟨h0, (h4 h0).trans (by decide)⟩
/-- Does one of the first cells have the time? -/
def hit (U : List (PieceG Key)) (t : Int) (k : Nat) : Int := if (atG (U.take k) t).isSome then 1 else 0
section
variable {U : List (PieceG Key)} {t : Int} {k : Nat} {y : PieceG Key}
theorem takeG_succ (hy : U[k]? = some y) : U.take (k + 1) = U.take k ++ [y] := by rw [List.take_add_one, hy]; rfl
theorem hit_in (hU : MapG U) (hy : U[k]? = some y) (h : y.f ≤ t ∧ t < y.t) : hit U t k = 0 ∧ hit U t (k + 1) = 1 := by
  obtain ⟨i1, i2⟩ := List.getElem?_eq_some_iff.1 hy
  have h0 : atG (U.take k) t = none := atG_none fun x hx => by
    rintro ⟨h3, h4⟩
    obtain ⟨i, hi, rfl⟩ := List.mem_iff_getElem.1 hx
    rw [List.length_take] at hi
    rw [List.getElem_take] at h4
    have := List.pairwise_iff_getElem.1 hU.1 i k (by omega) i1 (by omega)
    rw [i2] at this
    omega
  unfold hit
  rw [h0, takeG_succ hy, atG_append, h0]
  simp only [Option.none_or]
  rw [atG_hit h]
  exact ⟨rfl, rfl⟩
theorem hit_out (hy : U[k]? = some y) (h : ¬ (y.f ≤ t ∧ t < y.t)) : hit U t (k + 1) = hit U t k := by
  unfold hit
  rw [takeG_succ hy, atG_append, atG_miss h, atG_nil]
  cases atG (U.take k) t <;> rfl
theorem hit_end : hit U t U.length = if (atG U t).isSome then 1 else 0 := by unfold hit; rw [List.take_length]
theorem has_key {state l : List PieceD} (h : ∀ t, atG U t = keyF state l t) : (atG U t).isSome = l.any (fun x => decide (x.f ≤ t ∧ t < x.t)) := by
  rw [h]
  unfold keyF
  rw [Bool.eq_iff_iff, List.any_eq_true]
  by_cases hw : whichL l t = []
  · rw [if_pos hw]
    refine ⟨fun h => by simp at h, fun ⟨x, hx, hp⟩ => ?_⟩
    exact absurd hw (which_has.2 ⟨x, hx, hp⟩)
  · rw [if_neg hw]
    obtain ⟨x, hx, hp⟩ := which_has.1 hw
    exact ⟨fun _ => ⟨x, hx, hp⟩, fun _ => rfl⟩
end
end Go.Proofs.YtdpibehpmghghaaGreat
/- What WarpCovers draws from Cells and Fold; no program in sight. -/
namespace Go.Proofs.YtdpibehpmghghaaGreat

section
variable {state l : List PieceD} {k er : Int} {out : List CellD} {fo : List PieceD}
theorem whichK_same {t : Int} (h : ∀ x, x ∈ l → inP x t = inP x (t - 1)) : ∀ n, whichK l t n = whichK l (t - 1) n
  | 0 => rfl
  | n + 1 => by
    show whichK l t n ++ _ = whichK l (t - 1) n ++ _
    rw [whichK_same h n]
    cases hx : l[n]? with
    | none => rfl
    | some x => simp only [h x (List.mem_of_getElem? hx)]
theorem mix_turns (l : List PieceD) (k : Int) : TurnsIn (endsM l) (mixO l k) := fun t h => by
  have hc := Classical.em (t ∈ endsM l)
  rcases hc with hc | hc
  · exact hc
  · exfalso
    apply h
    have key : ∀ x, x ∈ l → inP x t = inP x (t - 1) := fun x hx => by
      have h1 : t ≠ x.f := fun e => hc (List.mem_append_left _ (List.mem_map.2 ⟨x, hx, e.symm⟩))
      have h2 : t ≠ x.t := fun e => hc (List.mem_append_right _ (List.mem_map.2 ⟨x, hx, e.symm⟩))
      unfold inP
      rw [decide_eq_decide]
      omega
    unfold mixO whichL
    rw [whichK_same key]
theorem CellsSay.zero (h : CellsSay state l k 0 out) : ∃ U, MapG U ∧ (∀ t, atG U t = keyF state l t) ∧ out = U.map (toCell l k) := by
  unfold CellsSay at h
  split at h
  · split at h
    · split at h
      · obtain ⟨U, h1, h2, _, h4, _⟩ := h
        exact ⟨U, h1, h2, h4 rfl⟩
      · simp at h
    · rename_i hn; exact absurd h.1.symm hn
  · rename_i hn; exact absurd h.1.symm hn
theorem CellsSay.none (h : CellsSay state l k er out) (h0 : er ≠ 0) : out = [] := by
  unfold CellsSay at h
  split at h
  · split at h
    · split at h
      · obtain ⟨U, _, _, _, _, h5⟩ := h
        exact h5 h0
      · exact h.2
    · exact h.2
  · exact h.2
theorem FoldSay.none (h : FoldSay l k er fo) (h0 : er ≠ 0) : fo = [] := by
  unfold FoldSay at h
  split at h
  · split at h
    · obtain ⟨U, _, _, _, _, h5⟩ := h
      exact h5 h0
    · exact h.2
  · exact h.2
theorem FoldSay.zero (h : FoldSay l k 0 fo) : (∀ t, atM fo t = mixO l k t) ∧ mapErr fo = 0 := by
  unfold FoldSay at h
  split at h
  · rename_i hm
    split at h
    · refine ⟨(Tells.good h rfl).2.1, Tells.mok h rfl (mix_turns l k) fun t ht => ?_⟩
      have hO := (msgErr_zero hm).2
      rcases List.mem_append.1 ht with ht | ht
      · obtain ⟨x, hx, rfl⟩ := List.mem_map.1 ht
        exact (hO x hx).1.1
      · obtain ⟨x, hx, rfl⟩ := List.mem_map.1 ht
        exact (hO x hx).1.2.1
    · simp at h
  · rename_i hn; exact absurd h.1.symm hn
/-- One cell of Cells: how it lies to the one ahead, and what it has at a time. -/
theorem cover_cell {U : List (PieceG Key)} {n : Nat} {c : CellD} (hU : MapG U) (h : out = U.map (toCell l k)) (hc : out[n]? = some c) : ∃ y, U[n]? = some y ∧ c = toCell l k y ∧ c.f < c.t ∧ ∀ j b, j + 1 = n → out[j]? = some b → b.t ≤ c.f := by
  subst h
  rw [List.getElem?_map] at hc
  cases hy : U[n]? with
  | none => rw [hy] at hc; simp at hc
  | some y =>
    rw [hy] at hc
    obtain rfl : toCell l k y = c := by simpa using hc
    refine ⟨y, rfl, rfl, hU.2 y (List.mem_of_getElem? hy), fun j b hj hb => ?_⟩
    subst hj
    rw [List.getElem?_map] at hb
    cases hz : U[j]? with
    | none => rw [hz] at hb; simp at hb
    | some z =>
      rw [hz] at hb
      obtain rfl : toCell l k z = b := by simpa using hb
      obtain ⟨i1, i2⟩ := List.getElem?_eq_some_iff.1 hy
      obtain ⟨j1, j2⟩ := List.getElem?_eq_some_iff.1 hz
      have := List.pairwise_iff_getElem.1 hU.1 j (j + 1) j1 i1 (by omega)
      rw [i2, j2] at this
      exact this.1
theorem cover_in {U : List (PieceG Key)} {c : CellD} {y : PieceG Key} {t : Int} (hU : MapG U) (h : ∀ t, atG U t = keyF state l t) (hy : y ∈ U) (hc : c = toCell l k y) (h1 : c.f ≤ t) (h2 : t < c.t) :
    c.s = (atM state t).getD 0 ∧ c.has = (atM state t).isSome ∧ mixO l k t = some c.v := by
  subst hc
  have h3 := hU.mem_at hy h1 h2
  rw [h] at h3
  unfold keyF at h3
  unfold mixO
  split at h3
  · simp at h3
  · rename_i hw
    rw [if_neg hw]
    have h4 : y.v = (whichL l t, atM state t) := (Option.some.inj h3).symm
    unfold toCell
    rw [h4]
    exact ⟨rfl, rfl, rfl⟩
end
end Go.Proofs.YtdpibehpmghghaaGreat
/- The walk of what a list of intervals is written as, the program's: deleted, sorted, put together. -/
namespace Go.Proofs.YtdpibehpmghghaaGreat
open Go.RowKit Go.Shelf Go.Sort

abbrev NearI := { x : IvlD // nearB x.f = true ∧ nearB x.t = true }
instance : Inhabited NearI := ⟨⟨⟨0, 0⟩, by decide⟩⟩
def encN (x : NearI) : List Value := ivlC x.1
def cfN (x y : NearI) : Int := x.1.f - y.1.f
theorem ltN (x y : NearI) : Go.Proofs.ltOf cfN x y = decide (x.1.f < y.1.f) := by
  unfold Go.Proofs.ltOf cfN
  by_cases h : x.1.f < y.1.f
  · simp [h]; omega
  · simp [h]; omega
theorem swoN : SWO (Go.Proofs.ltOf cfN) where
  irrefl x := by rw [ltN]; simp
  trans x y z h1 h2 := by rw [ltN] at *; simp at *; omega
  ntrans x y z h1 h2 := by rw [ltN] at *; simp at *; omega
set_option maxHeartbeats 1000000 in
theorem norm2_any (x y : NearI) (W : World) : Calls Tryz.prog 163 #[.agg #[.int .i64 x.1.f, .int .i64 x.1.t], .agg #[.int .i64 y.1.f, .int .i64 y.1.t]] W fun e w' => e = .returned (.int .i64 (cfN x y)) ∧ ∃ q os', w' = grow (W.drewN q) os' := by
  obtain ⟨⟨a, b⟩, ha, _⟩ := x
  obtain ⟨⟨c, d⟩, hc, _⟩ := y
  have h1 := near_iff.1 ha
  have h2 := near_iff.1 hc
  simp only at h1 h2
  have hw : IntKind.i64.wrap (a - c) = a - c := IntWalk.i64_in _ (by omega)
  unfold cfN
  simp only
  clear ha hc
  go_enter Tryz.func163, Tryz.ntmps163
  go_wp2_with fail
  go_ret
  exact ⟨rfl, 0, _, by rw [alloc_eq_grow, alloc_eq_grow, grow_grow]; rfl⟩
theorem near_list : ∀ {l : List IvlD}, (∀ x, x ∈ l → nearB x.f = true ∧ nearB x.t = true) → ∃ l' : List NearI, l'.map Subtype.val = l
  | [], _ => ⟨[], rfl⟩
  | x :: l, h => by
    obtain ⟨l', e⟩ := near_list (l := l) fun y hy => h y (List.mem_cons_of_mem _ hy)
    exact ⟨⟨x, h x (by simp)⟩ :: l', by rw [List.map_cons, e]⟩
theorem flat_near (l : List NearI) : l.flatMap encN = (l.map Subtype.val).flatMap ivlC := by
  induction l with
  | nil => rfl
  | cons x l ih => rw [List.flatMap_cons, List.map_cons, List.flatMap_cons, ih]; rfl
theorem Own.near {w : World} {base : Nat} {e : TypeId} {v : Value} {l : List NearI} : Own encN 2 w base e v l ↔ Own ivlC 2 w base e v (l.map Subtype.val) := by
  unfold Own
  rw [flat_near, List.length_map]
/-- A list is sorted in its place. -/
def SortOut (l : List IvlD) (v : Value) (w : World) (base : Nat) (e : Ending) (w' : World) : Prop := e = .returned (.tuple #[]) ∧ ∃ r, (∀ x, x ∈ r ↔ x ∈ l) ∧ r.length = l.length ∧ r.Pairwise (fun x y => x.f ≤ y.f) ∧ Own ivlC 2 w' base 107 v r ∧ Below base w w'
theorem ivlSort_any (v : Value) (l : List IvlD) (w : World) (base : Nat) (hown : Own ivlC 2 w base 107 v l) (hbase : base ≤ w.heap.size) (hn : ∀ x, x ∈ l → nearB x.f = true ∧ nearB x.t = true) (hl : l.length ≤ 100000) :
    Calls Tryz.prog 162 #[v, .func (.func 163) #[] #[]] w (SortOut l v w base) := by
  obtain ⟨l', rfl⟩ := near_list hn
  rcases hown.2 with ⟨hv, h0⟩ | ⟨g, cap, cur, hv, hg, hh, _⟩
  · rw [hv]
    have h0' : l'.map Subtype.val = [] := List.eq_nil_of_length_eq_zero h0
    have hS := AnyF.slices_SortFunc_none (P := Tryz.prog) (ρ := Tryz.sortIvl_ren) { Tryz.sortIvl with } none 0 (.func (.func 163) #[] #[]) w
    refine hS.mono fun e w' ⟨he, hw⟩ => ⟨he, [], by simp [h0'], by simp [h0'], by simp, by subst hw; rw [← hv, ← h0']; exact hown, by rw [hw]; exact Below.refl _ _⟩
  · have hlt : g < w.heap.size := by
      rcases Nat.lt_or_ge g w.heap.size with hlt | hge
      · exact hlt
      · rw [Array.getElem?_eq_none hge] at hh; cases hh
    have hO : Own encN 2 w base 107 (.slice (some ⟨g, 0, none⟩) l'.length cap) l' := by
      have := Own.near.2 hown
      rw [hv] at this
      simpa using this
    have hH := hO.holdsK (sz := 2) (fun _ => rfl) (by decide)
    have eg : ∀ args w, (callFunc 163 args).run Tryz.prog w = .ok (.enter 163 args) w := enters_of Tryz.func163 (by kernel_rfl) rfl
    have hcon := AnyQ.slices_SortFunc Tryz.sortIvl 2 Tryz.isAgg107 Tryz.sizeOf107 encN (fun _ => rfl) (fun x v hv => by simp [encN, ivlC] at hv; rcases hv with rfl | rfl <;> rfl) cfN swoN 163 #[] g 0 cap l'.toArray w eg (fun _ _ _ _ x y => norm2_any x y _) hH hlt (by simp at hl ⊢; omega)
    rw [hv]
    have hle : (l'.map Subtype.val).length = l'.toArray.size := by simp
    rw [hle]
    refine hcon.mono fun e w' ⟨he, d', n, os, hp, hs, hw⟩ => ?_
    obtain ⟨d'⟩ := d'
    have hsz : d'.length = l'.length := by simpa using hp.1
    have hperm : d'.Perm l' := by
      have := hp.2.2
      simp only [List.size_toArray, List.extract_toArray, List.extract_eq_take_drop, List.drop_zero, Nat.sub_zero] at this
      rwa [← hsz, List.take_length, hsz, List.take_length] at this
    refine ⟨he, d'.map Subtype.val, fun x => by rw [List.mem_map, List.mem_map]; exact ⟨fun ⟨y, hy, e⟩ => ⟨y, hperm.subset hy, e⟩, fun ⟨y, hy, e⟩ => ⟨y, hperm.symm.subset hy, e⟩⟩, by simp [hsz], ?_, ?_, ?_⟩
    · rw [List.pairwise_map, List.pairwise_iff_getElem]
      intro i j hi hj hij
      have h1 := hs i j (Nat.zero_le _) hij (by simp; omega)
      rw [ltN] at h1
      simp only [List.getElem!_toArray] at h1
      rw [getElem!_pos d' j hj, getElem!_pos d' i hi] at h1
      simpa using h1
    · rw [hw]
      have h2 := hO.sortWorld (sz := 2) (l' := d') (m := n) (os := os) (fun _ => rfl) (by decide) hsz
      have h3 := Own.near.1 h2
      simpa using h3
    · rw [hw]
      exact below_sort hg hbase
end Go.Proofs.YtdpibehpmghghaaGreat
