/- Several texts in one: WarpCheck, WarpCells2, CoverSpec, CoverSpec2, IvlNorm, IvlNormW. -/
import Derived.BigRegion
import Derived.Test.YtjcimdpldlamfaaGreatDoorBddfb971f1fd
import Derived.Test.YtjcimdpldlamfaaGreatDoorBd069242f7b3
import Derived.Test.YtjcimdpldlamfaaGreatDoorBdda32f21b61
/- The walks of warp.Check and of what holds of one of some messages (printed by genwarpfold.py). -/
namespace Go.Proofs.YtjcimdpldlamfaaGreatDoor
open Go.RowKit Go.Shelf

def PredP (fn : Nat) (lb : Array Value) (p : PieceD → Bool) (w : World) : Prop :=
 ∀ (W : World) (x : PieceD), Below w.heap.size w W → I64 x.f ∧ I64 x.t ∧ I64 x.v → Calls Tryz.prog fn (#[pieceV x] ++ lb) W fun e w' => e = .returned (.bool (p x)) ∧ Below W.heap.size W w'
def FirstP (p : PieceD → Bool) (l : List PieceD) (r : Int) : Prop :=
 (r = -1 ∧ ∀ x, x ∈ l → p x = false) ∨ ∃ (k : Nat) (x : PieceD), r = k ∧ l[k]? = some x ∧ p x = true ∧ ∀ y, y ∈ l.take k → p y = false
theorem FirstP.any {p : PieceD → Bool} {l : List PieceD} {r : Int} (h : FirstP p l r) : decide (r ≥ 0) = l.any p := by
 rw [Bool.eq_iff_iff, List.any_eq_true, decide_eq_true_iff]
 rcases h with ⟨rfl, h⟩ | ⟨k, x, rfl, hx, hp, _⟩
 ·exact ⟨fun h1 => by omega, fun ⟨x, hx, hp⟩ => by rw [h x hx] at hp; simp at hp⟩
 ·exact ⟨fun _ => ⟨x, List.mem_of_getElem? hx, hp⟩, fun _ => by omega⟩
set_option maxHeartbeats 1000000 in
theorem indexMsg_any (fn : Nat) (lb : Array Value) (p : PieceD → Bool) (eg : ∀ args w, (callFunc fn args).run Tryz.prog w = .ok (.enter fn args) w) (A : Option Addr) (c : Nat) (l : List PieceD) (w : World) (hI : PiecesAt w A c l) (hp : PredP fn lb p w) :
  Calls Tryz.prog 194 #[.slice A l.length c, .func (.func fn) #[] lb] w fun e w' => (∃ r, e = .returned (.int .i64 r) ∧ FirstP p l r) ∧ Below w.heap.size w w' := by
 have m1 := hI.len
 have HI := Lib.hid hI
 have HP := Lib.hid hp
 clear hI hp
 go_enter Tryz.func194, Tryz.ntmps194
 go_wp2_with fail
 go_loopw [5, 8] (fun _ v wr => ∃ k : Nat, k ≤ l.length ∧ v = .int .i64 k ∧ Hid (∀ y, y ∈ l.take k → p y = false) ∧ Below w.heap.size w wr) (fun _ v _ => l.length - (intOf v).toNat)
 case atStart => exact ⟨0, Nat.zero_le _, rfl, Lib.hid (by simp), Below.refl _ _⟩
 case round =>
  obtain ⟨k, hk, rfl, HN, hb⟩ := hrel
  by_cases hlt : k < l.length
  case neg =>
   obtain rfl : k = l.length := by omega
   go_wp2_with fail
   go_ret
   exact ⟨⟨-1, rfl, .inl ⟨rfl, by have := HN.out; rwa [List.take_length] at this⟩⟩, hb⟩
  case pos =>
   obtain ⟨x, hx⟩ := get_lt hlt
   obtain ⟨b, off, rfl, hb0, x0, x1, x2⟩ := HI.out.get hx
   rw [← hb.cell (by exact hb0)] at x0 x1 x2
   have HX := Lib.hid hx
   have hc := HP.out wr x hb (HI.out.i64 hx)
   clear hx
   cases hq : p x
   case true =>
    rw [hq] at hc
    go_wp2_with (go_at_fn fn; refine hc.mono ?_; rintro e w' ⟨rfl, hb'⟩)
    go_ret
    exact ⟨⟨k, rfl, .inr ⟨k, x, rfl, HX.out, hq, HN.out⟩⟩, ext_trans hb hb'⟩
   case false =>
    rw [hq] at hc
    go_wp2_with (go_at_fn fn; refine hc.mono ?_; rintro e w' ⟨rfl, hb'⟩)
    go_roundw
    case rel =>
     refine ⟨k + 1, by omega, by go_num, Lib.hid fun y hy => ?_, ext_trans hb hb'⟩
     rw [takeM_succ HX.out] at hy
     rcases List.mem_append.1 hy with hy | hy
     ·exact HN.out y hy
     ·obtain rfl : y = x := by simpa using hy
      exact hq
    case measure => simp [intOf]; omega
set_option maxHeartbeats 1000000 in
theorem containsMsg_any (fn : Nat) (lb : Array Value) (p : PieceD → Bool) (eg : ∀ args w, (callFunc fn args).run Tryz.prog w = .ok (.enter fn args) w) (A : Option Addr) (c : Nat) (l : List PieceD) (w : World) (hI : PiecesAt w A c l) (hp : PredP fn lb p w) :
  Calls Tryz.prog 176 #[.slice A l.length c, .func (.func fn) #[] lb] w fun e w' => e = .returned (.bool (l.any p)) ∧ Below w.heap.size w w' := by
 have HI := Lib.hid hI
 have HP := Lib.hid hp
 clear hI hp
 go_enter Tryz.func176, Tryz.ntmps176
 go_wp2_with (go_at_call 194; refine (indexMsg_any fn lb p eg A c l _ HI.out HP.out).mono ?_; rintro e w' ⟨⟨r, rfl, hr⟩, hb⟩)
 go_ret
 exact ⟨ret_bool hr.any, hb⟩
/-- Is a message wrong? -/
def badMsg (x : PieceD) : Bool := farB x.f || farB x.t || farB x.v || decide (x.t ≤ x.f)
theorem bad_any {l : List PieceD} : l.any badMsg = false ↔ MsgOk l := by
 rw [List.any_eq_false]
 unfold MsgOk badMsg farB
 constructor
 ·intro h x hx
  have := h x hx
  simp at this
  exact ⟨⟨this.1.1.1, this.1.1.2, this.1.2⟩, by omega⟩
 ·intro h x hx
  have := h x hx
  simp [this.1.1, this.1.2.1, this.1.2.2]
  omega
theorem enters_msg1 : Enters Tryz.prog 177 := enters_of Tryz.func177 (by kernel_rfl) rfl
set_option maxHeartbeats 2000000 in
theorem msg1_any (x : PieceD) (W : World) : Calls Tryz.prog 177 #[pieceV x] W fun e w' => e = .returned (.bool (badMsg x)) ∧ Below W.heap.size W w' := by
 unfold badMsg
 have hle : decide (x.t ≤ x.f) = decide (x.t ≤ x.f) := rfl
 cases h1 : farB x.f
 case true =>
  have hf1 := fun w => warpFar_is h1 w
  clear h1 hle
  go_enter Tryz.func177, Tryz.ntmps177
  go_wp2_with (first | (go_at_call 178; refine (hf1 _).mono ?_; rintro e w' ⟨rfl, rfl⟩))
  go_ret
  exact ⟨by simp, by go_grown⟩
 case false =>
 have hf1 := fun w => warpFar_is h1 w
 cases h2 : farB x.t
 case true =>
  have hf2 := fun w => warpFar_is h2 w
  have H1 := Lib.hid h1; have H2 := Lib.hid h2
  clear hle
  go_enter Tryz.func177, Tryz.ntmps177
  go_wp2_with (first | (go_at_call 178; refine (warpFar_is (by assumption) _).mono ?_; rintro e w' ⟨rfl, rfl⟩))
  go_ret
  exact ⟨by simp, by go_grown⟩
 case false =>
 cases h3 : farB x.v
 case true =>
  clear hle
  go_enter Tryz.func177, Tryz.ntmps177
  go_wp2_with (first | (go_at_call 178; refine (warpFar_is (by assumption) _).mono ?_; rintro e w' ⟨rfl, rfl⟩))
  go_ret
  exact ⟨by simp, by go_grown⟩
 case false =>
  by_cases h4 : x.t ≤ x.f
  ·have hd : decide (x.t ≤ x.f) = true := by simpa using h4
   rw [hd]
   clear h4 hle
   go_enter Tryz.func177, Tryz.ntmps177
   go_wp2_with (first | (go_at_call 178; refine (warpFar_is (by assumption) _).mono ?_; rintro e w' ⟨rfl, rfl⟩))
   go_ret
   exact ⟨by simp, by go_grown⟩
  ·have hd : decide (x.t ≤ x.f) = false := by simpa using h4
   rw [hd]
   clear h4 hle
   go_enter Tryz.func177, Tryz.ntmps177
   go_wp2_with (first | (go_at_call 178; refine (warpFar_is (by assumption) _).mono ?_; rintro e w' ⟨rfl, rfl⟩))
   go_ret
   exact ⟨by simp, by go_grown⟩
set_option maxHeartbeats 2000000 in
theorem warpCheck_any (A : Option Addr) (c : Nat) (l : List PieceD) (w : World) (hI : PiecesAt w A c l) :
  Calls Tryz.prog 167 #[.slice A l.length c] w fun e w' => e = .returned (.int .i64 (msgErr l)) ∧ Below w.heap.size w w' := by
 have m1 := hI.len
 have hent := enters_msg1
 unfold Enters at hent
 by_cases hl : 200 < l.length
 case pos =>
  have HR : Hid (msgErr l = 2) := Lib.hid (msgErr_large hl)
  have hd : decide ((l.length : Int) > 200) = true := by simp; omega
  rw [HR.out]
  clear hl
  go_enter Tryz.func167, Tryz.ntmps167
  go_wp2_with fail
  go_ret
  exact ⟨rfl, Below.refl _ _⟩
 case neg =>
 have hd : decide ((l.length : Int) > 200) = false := by simp; omega
 have hC := containsMsg_any 177 #[] badMsg hent A c l w hI (fun W x _ _ => msg1_any x W)
 cases hq : l.any badMsg
 case true =>
  have HR : Hid (msgErr l = 5) := Lib.hid (msgErr_bad hl fun h => by rw [bad_any.2 h] at hq; simp at hq)
  rw [hq] at hC
  rw [HR.out]
  clear hl hI hq
  go_enter Tryz.func167, Tryz.ntmps167
  go_wp2_with (first | (go_at_call 176; refine hC.mono ?_; rintro e w' ⟨rfl, hb⟩))
  go_ret
  exact ⟨rfl, hb⟩
 case false =>
  have HR : Hid (msgErr l = 0) := Lib.hid (msgErr_ok hl (bad_any.1 hq))
  rw [hq] at hC
  rw [HR.out]
  clear hl hI hq
  go_enter Tryz.func167, Tryz.ntmps167
  go_wp2_with (first | (go_at_call 176; refine hC.mono ?_; rintro e w' ⟨rfl, hb⟩))
  go_ret
  exact ⟨rfl, hb⟩
end Go.Proofs.YtjcimdpldlamfaaGreatDoor
/- The walk of warp.Cells (printed by genwarpfold.py). -/
namespace Go.Proofs.YtjcimdpldlamfaaGreatDoor
open Go.RowKit Go.Shelf

/-- What Cells tells of right arguments. -/
def CellsTell (state l : List PieceD) (k er : Int) (out : List CellD) : Prop := ∃ U, MapG U ∧ (∀ t, atG U t = keyF state l t) ∧ er = (if U.any (farP l k) = true then 5 else if 200 < U.length then 2 else 0) ∧ (er = 0 → out = U.map (toCell l k)) ∧ (er ≠ 0 → out = [])
def CellsSay (state l : List PieceD) (k er : Int) (out : List CellD) : Prop :=
 if mapErr state = 0 then if msgErr l = 0 then if 1 ≤ k ∧ k ≤ 3 then CellsTell state l k er out else er = 1 ∧ out = [] else er = msgErr l ∧ out = [] else er = mapErr state ∧ out = []
def CellsOut (R : Int → List CellD → Prop) (w : World) (e : Ending) (w' : World) : Prop := ∃ er out A c, Hid (R er out) ∧ e = .returned (.tuple #[.slice A out.length c, .int .i64 er]) ∧ CellsAt w' A c out ∧ Below w.heap.size w w'
set_option maxRecDepth 100000 in
set_option maxHeartbeats 4000000 in
theorem warpCellsP_any (A B : Option Addr) (c d : Nat) (state l : List PieceD) (k : Int) (w : World) (hA : PiecesAt w A c state) (hB : PiecesAt w B d l) :
  Calls Tryz.prog 163 #[.slice A state.length c, .slice B l.length d, .int .i64 k] w (CellsOut (CellsSay state l k) w) := by
 have m1 := hA.len
 have m2 := hB.len
 have HA := Lib.hid hA; have HB := Lib.hid hB
 have hC1 := imapCheck_any A c state w hA
 have hC2 := fun W (h : PiecesAt W B d l) => warpCheck_any B d l W h
 clear hA hB
 by_cases h0 : mapErr state = 0
 case neg =>
  have hd : (mapErr state != 0) = true := by simpa using h0
  have HS : Hid (CellsSay state l k (mapErr state) []) := Lib.hid (by unfold CellsSay; rw [if_neg h0]; exact ⟨rfl, rfl⟩)
  clear h0
  obtain ⟨er, her⟩ : ∃ er, mapErr state = er := ⟨_, rfl⟩
  rw [her] at hd HS hC1
  clear her
  go_enter Tryz.func163, Tryz.ntmps163
  go_wp2_with fail
  refine hC1.mono ?_
  rintro e w1 ⟨rfl, hb1⟩
  go_wp2_with fail
  go_ret2
  exact ⟨er, [], none, 0, HS, rfl, CellsAt.nil, hb1⟩
 case pos =>
 rw [h0] at hC1
 by_cases h1 : msgErr l = 0
 case neg =>
  have hd : (msgErr l != 0) = true := by simpa using h1
  have HS : Hid (CellsSay state l k (msgErr l) []) := Lib.hid (by unfold CellsSay; rw [if_pos h0, if_neg h1]; exact ⟨rfl, rfl⟩)
  clear h0 h1
  obtain ⟨er, her⟩ : ∃ er, msgErr l = er := ⟨_, rfl⟩
  rw [her] at hd HS
  simp only [her] at hC2
  clear her
  go_enter Tryz.func163, Tryz.ntmps163
  go_wp2_with fail
  refine hC1.mono ?_
  rintro e w1 ⟨rfl, hb1⟩
  clear hC1
  go_wp2_with fail
  refine (hC2 _ (HB.out.ext hb1)).mono ?_
  rintro e w2 ⟨rfl, hb2⟩
  go_wp2_with fail
  go_ret2
  exact ⟨er, [], none, 0, HS, rfl, CellsAt.nil, ext_trans hb1 hb2⟩
 case pos =>
 simp only [h1] at hC2
 have H0 := Lib.hid h0; have H1 := Lib.hid h1
 clear h0 h1
 by_cases hk : 1 ≤ k ∧ k ≤ 3
 case neg =>
  have HS : Hid (CellsSay state l k 1 []) := Lib.hid (by unfold CellsSay; rw [if_pos H0.out, if_pos H1.out, if_neg hk]; exact ⟨rfl, rfl⟩)
  have h3 : decide (k < 1) = true ∨ (decide (k < 1) = false ∧ decide (k > 3) = true) := by simp; omega
  clear hk
  rcases h3 with h3 | ⟨h3, h4⟩
  all_goals
   go_enter Tryz.func163, Tryz.ntmps163
   go_wp2_with fail
   refine hC1.mono ?_
   rintro e w1 ⟨rfl, hb1⟩
   go_wp2_with fail
   refine (hC2 _ (HB.out.ext hb1)).mono ?_
   rintro e w2 ⟨rfl, hb2⟩
   go_wp2_with fail
   go_ret2
   exact ⟨1, [], none, 0, HS, rfl, CellsAt.nil, ext_trans hb1 hb2⟩
 case pos =>
 have HK := Lib.hid hk
 have h3 : decide (k < 1) = false := by simp; omega
 have h4 : decide (k > 3) = false := by simp; omega
 clear hk
 go_enter Tryz.func163, Tryz.ntmps163
 go_wp2_with fail
 refine hC1.mono ?_
 rintro e w1 ⟨rfl, hb1⟩
 clear hC1
 go_wp2_with fail
 refine (hC2 _ (HB.out.ext hb1)).mono ?_
 rintro e w2 ⟨rfl, hb2⟩
 have hb2 := ext_trans hb1 hb2
 clear hC2 hb1
 go_wp2_with fail
 refine (warpCells_any A B c d state l k _ (HA.out.ext hb2) (HB.out.ext hb2) H0.out H1.out HK.out).mono ?_
 rintro e w3 ⟨U, A3, c3, HU, rfl, hI3, hb3, hU9⟩
 have hb3 := ext_trans hb2 hb3
 have m3 := hI3.len
 rw [List.length_map] at m3
 clear hb2
 obtain ⟨q, hq⟩ : ∃ q, U.any (farP l k) = q := ⟨_, rfl⟩
 have HQ := Lib.hid hq
 rw [hq]
 clear hq
 cases q
 case true =>
  have HS : Hid (CellsSay state l k 5 []) := Lib.hid (by unfold CellsSay; rw [if_pos H0.out, if_pos H1.out, if_pos HK.out]; exact ⟨U, HU.out.1, HU.out.2, by rw [if_pos HQ.out], fun h => by simp at h, fun _ => rfl⟩)
  go_wp2_with fail
  go_ret2
  exact ⟨5, [], none, 0, HS, rfl, CellsAt.nil, hb3⟩
 case false =>
  by_cases hl : 200 < U.length
  case pos =>
   have hd : decide ((U.length : Int) > 200) = true := by simp; omega
   have HS : Hid (CellsSay state l k 2 []) := Lib.hid (by unfold CellsSay; rw [if_pos H0.out, if_pos H1.out, if_pos HK.out]; exact ⟨U, HU.out.1, HU.out.2, by rw [HQ.out, if_neg (by simp), if_pos hl], fun h => by simp at h, fun _ => rfl⟩)
   clear hl
   go_wp2_with fail
   go_ret2
   exact ⟨2, [], none, 0, HS, rfl, CellsAt.nil, hb3⟩
  case neg =>
   have hd : decide ((U.length : Int) > 200) = false := by simp; omega
   have HS : Hid (CellsSay state l k 0 (U.map (toCell l k))) := Lib.hid (by unfold CellsSay; rw [if_pos H0.out, if_pos H1.out, if_pos HK.out]; exact ⟨U, HU.out.1, HU.out.2, by rw [HQ.out, if_neg (by simp), if_neg hl], fun _ => rfl, fun h => absurd rfl h⟩)
   clear hl
   go_wp2_with fail
   go_ret2
   exact ⟨0, U.map (toCell l k), A3, c3, HS, by rw [List.length_map]; rfl, hI3, hb3⟩
end Go.Proofs.YtjcimdpldlamfaaGreatDoor
/- What the law WarpCovers says of cells and folds; no program in sight. -/
namespace Go.Proofs.YtjcimdpldlamfaaGreatDoor

/-- Does one of the first cells have the time? -/
def hit (U : List (PieceG Key)) (t : Int) (k : Nat) : Int := if (atG (U.take k) t).isSome then 1 else 0
section
variable {U : List (PieceG Key)} {t : Int} {k : Nat} {y : PieceG Key}
end
end Go.Proofs.YtjcimdpldlamfaaGreatDoor
/- What WarpCovers draws from Cells and Fold; no program in sight. -/
namespace Go.Proofs.YtjcimdpldlamfaaGreatDoor

section
variable {state l : List PieceD} {k er : Int} {out : List CellD} {fo : List PieceD}
theorem CellsSay.zero (h : CellsSay state l k 0 out) : ∃ U, MapG U ∧ (∀ t, atG U t = keyF state l t) ∧ out = U.map (toCell l k) := by
 unfold CellsSay at h
 split at h
 ·split at h
  ·split at h
   ·obtain ⟨U, h1, h2, _, h4, _⟩ := h
    exact ⟨U, h1, h2, h4 rfl⟩
   ·simp at h
  ·rename_i hn; exact absurd h.1.symm hn
 ·rename_i hn; exact absurd h.1.symm hn
theorem cover_in {U : List (PieceG Key)} {c : CellD} {y : PieceG Key} {t : Int} (hU : MapG U) (h : ∀ t, atG U t = keyF state l t) (hy : y ∈ U) (hc : c = toCell l k y) (h1 : c.f ≤ t) (h2 : t < c.t) :
  c.s = (atM state t).getD 0 ∧ c.has = (atM state t).isSome ∧ mixO l k t = some c.v := by
 subst hc
 have h3 := hU.mem_at hy h1 h2
 rw [h] at h3
 unfold keyF at h3
 unfold mixO
 split at h3
 ·simp at h3
 ·rename_i hw
  rw [if_neg hw]
  have h4 : y.v = (whichL l t, atM state t) := (Option.some.inj h3).symm
  unfold toCell
  rw [h4]
  exact ⟨rfl, rfl, rfl⟩
end
end Go.Proofs.YtjcimdpldlamfaaGreatDoor
/- The walk of what a list of intervals is written as, the program's: deleted, sorted, put together. -/
namespace Go.Proofs.YtjcimdpldlamfaaGreatDoor
open Go.RowKit Go.Shelf Go.Sort

abbrev NearI := { x : IvlD // nearB x.f = true ∧ nearB x.t = true }
instance : Inhabited NearI := ⟨⟨⟨0, 0⟩, by decide⟩⟩
def encN (x : NearI) : List Value := ivlC x.1
def cfN (x y : NearI) : Int := x.1.f - y.1.f
theorem ltN (x y : NearI) : Go.Proofs.ltOf cfN x y = decide (x.1.f < y.1.f) := by
 unfold Go.Proofs.ltOf cfN
 by_cases h : x.1.f < y.1.f
 ·simp [h]; omega
 ·simp [h]; omega
theorem swoN : SWO (Go.Proofs.ltOf cfN) where
 irrefl x := by rw [ltN]; simp
 trans x y z h1 h2 := by rw [ltN] at *; simp at *; omega
 ntrans x y z h1 h2 := by rw [ltN] at *; simp at *; omega
set_option maxHeartbeats 1000000 in
theorem norm2_any (x y : NearI) (W : World) : Calls Tryz.prog 203 #[.agg #[.int .i64 x.1.f, .int .i64 x.1.t], .agg #[.int .i64 y.1.f, .int .i64 y.1.t]] W fun e w' => e = .returned (.int .i64 (cfN x y)) ∧ ∃ q os', w' = grow (W.drewN q) os' := by
 obtain ⟨⟨a, b⟩, ha, _⟩ := x
 obtain ⟨⟨c, d⟩, hc, _⟩ := y
 have h1 := near_iff.1 ha
 have h2 := near_iff.1 hc
 simp only at h1 h2
 have hw : IntKind.i64.wrap (a - c) = a - c := IntWalk.i64_in _ (by omega)
 unfold cfN
 simp only
 clear ha hc
 go_enter Tryz.func203, Tryz.ntmps203
 go_wp2_with fail
 go_ret
 exact ⟨rfl, 0, _, by rw [alloc_eq_grow, alloc_eq_grow, grow_grow]; rfl⟩
theorem near_list : ∀ {l : List IvlD}, (∀ x, x ∈ l → nearB x.f = true ∧ nearB x.t = true) → ∃ l' : List NearI, l'.map Subtype.val = l
 | [], _ => ⟨[], rfl⟩
 | x :: l, h => by
  obtain ⟨l', e⟩ := near_list (l := l) fun y hy => h y (List.mem_cons_of_mem _ hy)
  exact ⟨⟨x, h x (by simp)⟩ :: l', by rw [List.map_cons, e]⟩
theorem flat_near (l : List NearI) : l.flatMap encN = (l.map Subtype.val).flatMap ivlC := by
 induction l with
 | nil => rfl
 | cons x l ih => rw [List.flatMap_cons, List.map_cons, List.flatMap_cons, ih]; rfl
theorem Own.near {w : World} {base : Nat} {e : TypeId} {v : Value} {l : List NearI} : Own encN 2 w base e v l ↔ Own ivlC 2 w base e v (l.map Subtype.val) := by
 unfold Own
 rw [flat_near, List.length_map]
/-- A list is sorted in its place. -/
def SortOut (l : List IvlD) (v : Value) (w : World) (base : Nat) (e : Ending) (w' : World) : Prop := e = .returned (.tuple #[]) ∧ ∃ r, (∀ x, x ∈ r ↔ x ∈ l) ∧ r.length = l.length ∧ r.Pairwise (fun x y => x.f ≤ y.f) ∧ Own ivlC 2 w' base 94 v r ∧ Below base w w'
theorem ivlSort_any (v : Value) (l : List IvlD) (w : World) (base : Nat) (hown : Own ivlC 2 w base 94 v l) (hbase : base ≤ w.heap.size) (hn : ∀ x, x ∈ l → nearB x.f = true ∧ nearB x.t = true) (hl : l.length ≤ 100000) :
  Calls Tryz.prog 202 #[v, .func (.func 203) #[] #[]] w (SortOut l v w base) := by
 obtain ⟨l', rfl⟩ := near_list hn
 rcases hown.2 with ⟨hv, h0⟩ | ⟨g, cap, cur, hv, hg, hh, _⟩
 ·rw [hv]
  have h0' : l'.map Subtype.val = [] := List.eq_nil_of_length_eq_zero h0
  have hS := AnyF.slices_SortFunc_none (P := Tryz.prog) (ρ := Tryz.sortIvl_ren) { Tryz.sortIvl with } none 0 (.func (.func 203) #[] #[]) w
  refine hS.mono fun e w' ⟨he, hw⟩ => ⟨he, [], by simp [h0'], by simp [h0'], by simp, by subst hw; rw [← hv, ← h0']; exact hown, by rw [hw]; exact Below.refl _ _⟩
 ·have hlt : g < w.heap.size := by
   rcases Nat.lt_or_ge g w.heap.size with hlt | hge
   ·exact hlt
   ·rw [Array.getElem?_eq_none hge] at hh; cases hh
  have hO : Own encN 2 w base 94 (.slice (some ⟨g, 0, none⟩) l'.length cap) l' := by
   have := Own.near.2 hown
   rw [hv] at this
   simpa using this
  have hH := hO.holdsK (sz := 2) (fun _ => rfl) (by decide)
  have eg : ∀ args w, (callFunc 203 args).run Tryz.prog w = .ok (.enter 203 args) w := enters_of Tryz.func203 (by kernel_rfl) rfl
  have hcon := AnyQ.slices_SortFunc Tryz.sortIvl 2 Tryz.isAgg94 Tryz.sizeOf94 encN (fun _ => rfl) (fun x v hv => by simp [encN, ivlC] at hv; rcases hv with rfl | rfl <;> rfl) cfN swoN 203 #[] g 0 cap l'.toArray w eg (fun _ _ _ _ x y => norm2_any x y _) hH hlt (by simp at hl ⊢; omega)
  rw [hv]
  have hle : (l'.map Subtype.val).length = l'.toArray.size := by simp
  rw [hle]
  refine hcon.mono fun e w' ⟨he, d', n, os, hp, hs, hw⟩ => ?_
  obtain ⟨d'⟩ := d'
  have hsz : d'.length = l'.length := by simpa using hp.1
  have hperm : d'.Perm l' := by
   have := hp.2.2
   simp only [List.size_toArray, List.extract_toArray, List.extract_eq_take_drop, List.drop_zero, Nat.sub_zero] at this
   rwa [← hsz, List.take_length, hsz, List.take_length] at this
  refine ⟨he, d'.map Subtype.val, fun x => by rw [List.mem_map, List.mem_map]; exact ⟨fun ⟨y, hy, e⟩ => ⟨y, hperm.subset hy, e⟩, fun ⟨y, hy, e⟩ => ⟨y, hperm.symm.subset hy, e⟩⟩, by simp [hsz], ?_, ?_, ?_⟩
  ·rw [List.pairwise_map, List.pairwise_iff_getElem]
   intro i j hi hj hij
   have h1 := hs i j (Nat.zero_le _) hij (by simp; omega)
   rw [ltN] at h1
   simp only [List.getElem!_toArray] at h1
   rw [getElem!_pos d' j hj, getElem!_pos d' i hi] at h1
   simpa using h1
  ·rw [hw]
   have h2 := hO.sortWorld (sz := 2) (l' := d') (m := n) (os := os) (fun _ => rfl) (by decide) hsz
   have h3 := Own.near.1 h2
   simpa using h3
  ·rw [hw]
   exact below_sort hg hbase
end Go.Proofs.YtjcimdpldlamfaaGreatDoor
/- The walk of ivl.norm: the loop that puts together; Norm, Union. -/
namespace Go.Proofs.YtjcimdpldlamfaaGreatDoor
open Go.RowKit Go.Shelf

theorem enters_norm1 : Enters Tryz.prog 201 := enters_of Tryz.func201 (by kernel_rfl) rfl
set_option maxHeartbeats 1000000 in
theorem norm1_any (x : IvlD) (W : World) : Calls Tryz.prog 201 #[ivlV x] W fun e w' => e = .returned (.bool (decide (x.t ≤ x.f))) ∧ Below W.heap.size W w' := by
 go_enter Tryz.func201, Tryz.ntmps201
 go_wp2_with fail
 go_ret
 exact ⟨rfl, by go_grown⟩
/-- What has been put together of a sorted list, up to k. -/
def MergedK (l : List IvlD) (k : Nat) (out : List IvlD) : Prop := (∃ m, Merged (l.take k) out m ∧ ∀ j x, k ≤ j → l[j]? = some x → m ≤ x.f) ∧ out.length ≤ k ∧ ∀ y, y ∈ out → nearB y.f = true ∧ nearB y.t = true
section
variable {l out o : List IvlD} {k : Nat} {x z : IvlD}
theorem MergedK.start : MergedK l 0 [] := ⟨by
 cases l with
 | nil => exact ⟨0, Merged.start, fun j x _ h => by simp at h⟩
 | cons y r =>
  obtain ⟨m, hm⟩ : ∃ m : Int, ∀ x, x ∈ y :: r → m ≤ x.f := by
   generalize y :: r = q
   induction q with
   | nil => exact ⟨0, fun x h => by simp at h⟩
   | cons u q ih =>
    obtain ⟨m, hm⟩ := ih
    refine ⟨min m u.f, fun x hx => ?_⟩
    rcases List.mem_cons.1 hx with rfl | hx
    ·omega
    ·have := hm x hx; omega
  exact ⟨m, Merged.start, fun j x _ h => hm x (List.mem_of_getElem? h)⟩, Nat.le_refl _, fun y h => by simp at h⟩
theorem MergedK.at_ (h : MergedK l k out) (hx : l[k]? = some x) : Merged (l.take k) out x.f := by
 obtain ⟨⟨m, h1, h2⟩, _⟩ := h
 exact h1.later (h2 k x (Nat.le_refl _) hx)
theorem sorted_le (hs : l.Pairwise fun x y => x.f ≤ y.f) {j : Nat} {y : IvlD} (hx : l[k]? = some x) (hy : l[j]? = some y) (hj : k + 1 ≤ j) : x.f ≤ y.f := by
 obtain ⟨h1, h2⟩ := List.getElem?_eq_some_iff.1 hx
 obtain ⟨h3, h4⟩ := List.getElem?_eq_some_iff.1 hy
 have := List.pairwise_iff_getElem.1 hs k j h1 h3 (by omega)
 rw [h2, h4] at this
 exact this
theorem MergedK.join (h : MergedK l k (o ++ [z])) (hs : l.Pairwise fun x y => x.f ≤ y.f) (hx : l[k]? = some x) (hxt : x.f < x.t) (hn : nearB x.f = true ∧ nearB x.t = true) (hz : x.f ≤ z.t) : MergedK l (k + 1) (o ++ [⟨z.f, max z.t x.t⟩]) := by
 have h1 := (h.at_ hx).join hxt hz
 refine ⟨⟨x.f, by rw [take_succ_ hx]; exact h1, fun j y hj hy => sorted_le hs hx hy hj⟩, by have := h.2.1; simp at this ⊢; omega, fun y hy => ?_⟩
 rcases List.mem_append.1 hy with hy | hy
 ·exact h.2.2 y (List.mem_append_left _ hy)
 ·obtain rfl : y = _ := by simpa using hy
  have h2 := h.2.2 z (by simp)
  refine ⟨h2.1, ?_⟩
  simp only
  rw [Int.max_def]
  split
  ·exact hn.2
  ·exact h2.2
theorem MergedK.next (h : MergedK l k out) (hs : l.Pairwise fun x y => x.f ≤ y.f) (hx : l[k]? = some x) (hxt : x.f < x.t) (hn : nearB x.f = true ∧ nearB x.t = true) (hz : ∀ y, y ∈ out → y.t < x.f) : MergedK l (k + 1) (out ++ [x]) := by
 refine ⟨⟨x.f, by rw [take_succ_ hx]; exact (h.at_ hx).next hxt hz, fun j y hj hy => sorted_le hs hx hy hj⟩, by have := h.2.1; simp; omega, fun y hy => ?_⟩
 rcases List.mem_append.1 hy with hy | hy
 ·exact h.2.2 y hy
 ·obtain rfl : y = x := by simpa using hy
  exact hn
theorem MergedK.fin (h : MergedK l k out) (hk : l.length ≤ k) : NormIs l out := by
 obtain ⟨⟨m, h1, _⟩, _⟩ := h
 rw [List.take_of_length_le hk] at h1
 exact ⟨h1.norm, h1.has⟩
end
/-- A set is told, in a block of its own. -/
def NormedOut (l : List IvlD) (w : World) (e : Ending) (w' : World) : Prop := ∃ A c out, Hid (NormIs l out ∧ out.length ≤ l.length ∧ ∀ y, y ∈ out → nearB y.f = true ∧ nearB y.t = true) ∧ e = .returned (.slice A out.length c) ∧ IvlsNew w.heap.size w' A c out ∧ Below w.heap.size w w'

set_option maxRecDepth 100000 in
set_option maxHeartbeats 8000000 in
theorem norm_any (A : Option Addr) (c : Nat) (l : List IvlD) (w : World) (hI : IvlsAt w A c l) (hl : l.length ≤ 1000) (hn : ∀ x, x ∈ l → nearB x.f = true ∧ nearB x.t = true) :
  Calls Tryz.prog 190 #[.slice A l.length c] w (NormedOut l w) := by
 obtain ⟨i0, hi, hz0, hz1, hz2⟩ := info_ivl2
 have hC := fun W (h : IvlsAt W A c l) => ivlClone_any A c l W h (by omega)
 have hD := fun v W base (h : Own ivlC 2 W base 94 v l) (hb : base ≤ W.heap.size) => ivlDelete_any 201 #[] (fun x => decide (x.t ≤ x.f)) enters_norm1 v l W base h hb (fun x hx => ⟨near_i64 (hn x hx).1, near_i64 (hn x hx).2⟩) (by omega) (fun W x => norm1_any x W)
 obtain ⟨l2, hl2⟩ : ∃ l2, l2 = l.filter fun x => !decide (x.t ≤ x.f) := ⟨_, rfl⟩
 rw [← hl2] at hD
 have h2l : l2.length ≤ l.length := by rw [hl2]; exact List.length_filter_le _ _
 have h2n : ∀ x, x ∈ l2 → (nearB x.f = true ∧ nearB x.t = true) ∧ x.f < x.t := fun x hx => by
  rw [hl2] at hx
  have := List.mem_filter.1 hx
  exact ⟨hn x this.1, by have h3 := this.2; simp at h3; omega⟩
 have h2h : ∀ t, hasB l2 t = hasB l t := fun t => by
  have e : l2 = l.filter fun x => decide (x.f < x.t) := by
   rw [hl2]
   congr 1
   funext x
   by_cases h : x.t ≤ x.f
   ·have h' : ¬ x.f < x.t := by omega
    simp [h, h']
   ·have h' : x.f < x.t := by omega
    simp [h, h']
  rw [e]; exact has_filter
 have H2N := Lib.hid h2n
 have H2H := Lib.hid h2h
 have HL := Lib.hid hl
 have H2L := Lib.hid h2l
 clear hl2 hn hl h2l h2n h2h
 go_enter Tryz.func190, Tryz.ntmps190
 go_wp2_with fail
 refine (hC _ hI).mono ?_
 rintro e w1 ⟨v1, rfl, O1, hb1⟩
 clear hC hI
 go_wp2_with fail
 refine (hD v1 w1 _ O1 hb1.size).mono ?_
 rintro e w2 ⟨v2, rfl, O2, hb2⟩
 clear hD O1
 have hsz2 : w.heap.size ≤ w2.heap.size := Nat.le_trans hb1.size hb2.size
 have hb2 : Below w.heap.size w w2 := hb1.trans hb2
 clear hb1
 go_wp2_with fail
 refine (ivlSort_any v2 l2 w2 w.heap.size O2 hsz2 (fun x hx => (H2N.out x hx).1) (by have := HL.out; have := H2L.out; omega)).mono ?_
 rintro e w3 ⟨rfl, l3, hmem, hlen, hsort, O3, hb3⟩
 obtain ⟨A3, c3, rfl, hI3⟩ := own_ivls O3 (fun x hx => by have := (H2N.out x ((hmem x).1 hx)).1; exact ⟨near_i64 this.1, near_i64 this.2⟩)
 have hbw : Below w.heap.size w w3 := hb2.trans hb3
 have H3N : Hid (∀ x, x ∈ l3 → (nearB x.f = true ∧ nearB x.t = true) ∧ x.f < x.t) := Lib.hid fun x hx => H2N.out x ((hmem x).1 hx)
 have H3H : Hid (∀ t, hasB l3 t = hasB l t) := Lib.hid fun t => (has_perm hmem t).trans (H2H.out t)
 have H3S := Lib.hid hsort
 have H3L : Hid (l3.length ≤ l.length) := Lib.hid (by have := H2L.out; omega)
 have m3 : l3.length ≤ 1000 := by have := HL.out; have := H3L.out; omega
 have HI3 := Lib.hid hI3
 have hw3 : w.heap.size ≤ w3.heap.size := hbw.size
 clear hmem hlen hsort O3 O2 hb3 hb2 hI3 hsz2
 go_wp2_with fail
 go_loopw [3, 14] (fun u v wr => ∃ (k : Nat) (out : List IvlD), k ≤ l3.length ∧ v = .int .i64 k ∧ Hid (MergedK l3 k out) ∧ Own ivlC 2 wr w3.heap.size 94 u out ∧ Below w3.heap.size w3 wr) (fun _ v _ => l3.length - (intOf v).toNat)
 case atStart => exact ⟨0, [], Nat.zero_le _, rfl, Lib.hid MergedK.start, Own.nil, Below.refl _ _⟩
 case round =>
  obtain ⟨k, out, hk, rfl, HM, hO, hb⟩ := hrel
  have hol := HM.out.2.1
  have hwr := hb.size
  by_cases hlt : k < l3.length
  case neg =>
   obtain rfl : k = l3.length := by omega
   obtain ⟨Ao, co, rfl, hIo⟩ := own_ivls hO (fun x hx => by have := HM.out.2.2 x hx; exact ⟨near_i64 this.1, near_i64 this.2⟩)
   have hbe : Below w.heap.size w wr := hbw.trans (hb.mono hw3)
   go_wp2_with fail
   go_ret
   refine ⟨Ao, co, out, Lib.hid ⟨⟨(HM.out.fin (Nat.le_refl _)).1, fun t => ((HM.out.fin (Nat.le_refl _)).2 t).trans (H3H.out t)⟩, by have := H3L.out; omega, HM.out.2.2⟩, rfl, hIo.since hw3, hbe⟩
  case pos =>
   obtain ⟨x, hx⟩ := get_lt hlt
   obtain ⟨b, off, rfl, hb0, x0, x1⟩ := HI3.out.get hx
   rw [← hb.cell (by exact hb0)] at x0 x1
   have hxn := H3N.out x (List.mem_of_getElem? hx)
   have HX := Lib.hid hx
   have HXN := Lib.hid hxn
   clear hx hxn
   rcases List.eq_nil_or_concat out with rfl | ⟨o, z, rfl⟩
   ·have hd : decide ((0 : Int) > 0) = false := by decide
    have HM2 : Hid (MergedK l3 (k + 1) ([] ++ [x])) := Lib.hid (HM.out.next H3S.out HX.out HXN.out.2 HXN.out.1 fun y hy => by simp at hy)
    obtain ⟨Ao, co, rfl⟩ := hO.form
    go_wp2_with fail
    go_quiet (fail)
    go_wp2_with (at_builtin; refine wpList_append_lie (enc := ivlC) rfl (.tmp 47) (.tmp 49) 65 rfl w3.heap.size 94 i0 _ 2 16 Tryz.underlying65 hi hz0 hz1 hz2 rfl (by decide) _ [] x rfl ((hO.alloc _).drewN _) #[.int .i64 x.f, .int .i64 x.t] rfl (wr.heap.size + 1) (by simp) rfl rfl two_one (by simp) (by decide) (by simp; omega) ?_; intro gn cap w6 hown6 hbb hkp hgn)
    go_roundw
    case rel => exact ⟨k + 1, [] ++ [x], by omega, by go_num, HM2, hown6, (below_drewN (ext_alloc hb _) _).trans hbb⟩
    case measure => simp [intOf]; omega
   ·rw [List.concat_eq_append] at HM hO hol
    obtain ⟨Ao, co, rfl⟩ := hO.form
    rw [List.length_append] at hO hol ⊢
    simp only [List.length_cons, List.length_nil, Nat.zero_add] at hO hol ⊢
    obtain ⟨go, rfl⟩ : ∃ g, Ao = some ⟨g, 0, none⟩ := by
     rcases hO.2 with ⟨h1, _⟩ | ⟨g, cap, cur, hv, _⟩
     ·simp at h1
     ·simp only [Value.slice.injEq] at hv
      exact ⟨g, hv.1⟩
    obtain ⟨hnm, hgo, hmc, hcm, cs, hBk, hcs, hrow⟩ := hO.cells ivlC_len
    have hza : (o ++ [z])[o.length]? = some z := by simp
    have z0 : cs[o.length * 2]? = some (.int .i64 z.f) := by have := hrow _ z hza 0 (by decide); simpa [ivlC] using this
    have z1 : cs[o.length * 2 + 1]? = some (.int .i64 z.t) := by have := hrow _ z hza 1 (by decide); simpa [ivlC] using this
    have hjw : IntKind.i64.wrap (o.length : Int) = o.length := IntWalk.i64_in _ (by omega)
    have hd : (0 : Int) < (o.length : Int) + 1 := by omega
    have hBw := hBk.alloc (Obj.cells #[.int .i64 x.f, .int .i64 x.t] 94)
    obtain ⟨c1, c2, c3'⟩ := hBw.facts
    have hjl : o.length < o.length + 1 := by omega
    have HR := Lib.hid hrow
    have HMC := Lib.hid hmc
    have HZA := Lib.hid hza
    clear hrow hmc hnm hza
    by_cases hz : x.f ≤ z.t
    case pos =>
     have hd2 : decide (x.f ≤ z.t) = true := by simpa using hz
     have HM2 := Lib.hid (HM.out.join H3S.out HX.out HXN.out.2 HXN.out.1 hz)
     clear hz
     go_wp2_with fail
     go_quiet (fail)
     go_wp2_with fail
     go_region
     go_wp2_with fail
     go_roundw
     case rel =>
      refine ⟨k + 1, o ++ [⟨z.f, max z.t x.t⟩], by omega, by go_num, HM2, ?_, (below_drewN (ext_alloc hb _) _).setCell hgo _⟩
      have h2 := Own.of_cells (enc := ivlC) (m := o ++ [⟨z.f, max z.t x.t⟩]) ivlC_len (by decide) ((hBw.drewN (nq + 1)).set_ (o.length * 2 + 1) (.int .i64 (max z.t x.t))) hgo (by have := HMC.out; simpa using this) hcm (by simpa using hcs) (by
       have e : (o ++ [z]).set o.length ⟨z.f, max z.t x.t⟩ = o ++ [⟨z.f, max z.t x.t⟩] := by simp
       rw [← e]
       refine HR.out.set (by simp) (fun t ht => by rw [Array.getElem?_setIfInBounds_ne (by omega)]) (fun t ht => ?_)
       have k1 : o.length * 2 + 1 < cs.size := (Array.getElem?_eq_some_iff.1 z1).1
       match t, ht with
       | 0, _ =>
        show (cs.setIfInBounds (o.length * 2 + 1) (.int .i64 (max z.t x.t)))[o.length * 2]? = _
        rw [Array.getElem?_setIfInBounds_ne (by omega), z0]; rfl
       | 1, _ => rw [Array.getElem?_setIfInBounds_self_of_lt k1]; rfl)
      simpa using h2
     case measure => simp [intOf]; omega
    case neg =>
     have hd2 : decide (x.f ≤ z.t) = false := by simpa using hz
     have HM2 : Hid (MergedK l3 (k + 1) (o ++ [z] ++ [x])) := Lib.hid (HM.out.next H3S.out HX.out HXN.out.2 HXN.out.1 fun y hy => by
      have := (HM.out.at_ HX.out).norm.rise y hy; omega)
     clear hz
     go_wp2_with fail
     go_quiet (fail)
     go_wp2_with (at_builtin; refine wpList_append_lie (enc := ivlC) rfl (.tmp 47) (.tmp 49) 65 rfl w3.heap.size 94 i0 _ 2 16 Tryz.underlying65 hi hz0 hz1 hz2 rfl (by decide) _ (o ++ [z]) x rfl ((hO.alloc _).drewN _) #[.int .i64 x.f, .int .i64 x.t] rfl (wr.heap.size + 1) (by simp) rfl rfl two_one (by simp; omega) (by decide) (by simp; omega) ?_; intro gn cap w6 hown6 hbb hkp hgn)
     go_roundw
     case rel => exact ⟨k + 1, o ++ [z] ++ [x], by omega, by go_num, HM2, by simpa using hown6, (below_drewN (ext_alloc hb _) _).trans hbb⟩
     case measure => simp [intOf]; omega
end Go.Proofs.YtjcimdpldlamfaaGreatDoor
