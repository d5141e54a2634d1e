/- Several texts in one: WarpCheck, WarpCells2, WarpFold, EqualC, CoverSpec, CoverSpec2. -/
import Derived.Test.YtcfachfldanddaaBd0852ff3e70
import Derived.Test.YtcfachfldanddaaBd42210b3887
import Derived.Test.YtcfachfldanddaaBd4f7f833849
import Derived.Test.YtcfachfldanddaaBd476b4ef948
import Derived.Test.YtcfachfldanddaaBd0b6a58c66c
/- The walks of warp.Check and of what holds of one of some messages (printed by genwarpfold.py). -/
namespace Go.Proofs.Ytcfachfldanddaa
open Go.RowKit Go.Shelf

def PredP (fn : Nat) (lb : Array Value) (p : PieceD → Bool) (w : World) : Prop :=
  ∀ (W : World) (x : PieceD), Below w.heap.size w W → I64 x.f ∧ I64 x.t ∧ I64 x.v → Calls Try.prog fn (#[pieceV x] ++ lb) W fun e w' => e = .returned (.bool (p x)) ∧ Below W.heap.size W w'
def FirstP (p : PieceD → Bool) (l : List PieceD) (r : Int) : Prop :=
  (r = -1 ∧ ∀ x, x ∈ l → p x = false) ∨ ∃ (k : Nat) (x : PieceD), r = k ∧ l[k]? = some x ∧ p x = true ∧ ∀ y, y ∈ l.take k → p y = false
theorem FirstP.any {p : PieceD → Bool} {l : List PieceD} {r : Int} (h : FirstP p l r) : decide (r ≥ 0) = l.any p := by
  rw [Bool.eq_iff_iff, List.any_eq_true, decide_eq_true_iff]
  rcases h with ⟨rfl, h⟩ | ⟨k, x, rfl, hx, hp, _⟩
  · exact ⟨fun h1 => by omega, fun ⟨x, hx, hp⟩ => by rw [h x hx] at hp; simp at hp⟩
  · exact ⟨fun _ => ⟨x, List.mem_of_getElem? hx, hp⟩, fun _ => by omega⟩
set_option maxHeartbeats 1000000 in
theorem indexMsg_any (fn : Nat) (lb : Array Value) (p : PieceD → Bool) (eg : ∀ args w, (callFunc fn args).run Try.prog w = .ok (.enter fn args) w) (A : Option Addr) (c : Nat) (l : List PieceD) (w : World) (hI : PiecesAt w A c l) (hp : PredP fn lb p w) :
    Calls Try.prog 93 #[.slice A l.length c, .func (.func fn) #[] lb] w fun e w' => (∃ r, e = .returned (.int .i64 r) ∧ FirstP p l r) ∧ Below w.heap.size w w' := by
  have m1 := hI.len
  have HI := Lib.hid hI
  have HP := Lib.hid hp
  clear hI hp
  go_enter Try.func93, Try.ntmps93
  go_wp2_with fail
  go_loopw [5, 8] (fun _ v wr => ∃ k : Nat, k ≤ l.length ∧ v = .int .i64 k ∧ Hid (∀ y, y ∈ l.take k → p y = false) ∧ Below w.heap.size w wr) (fun _ v _ => l.length - (intOf v).toNat)
  case atStart => exact ⟨0, Nat.zero_le _, rfl, Lib.hid (by simp), Below.refl _ _⟩
  case round =>
    obtain ⟨k, hk, rfl, HN, hb⟩ := hrel
    by_cases hlt : k < l.length
    case neg =>
      obtain rfl : k = l.length := by omega
      go_wp2_with fail
      go_ret
      exact ⟨⟨-1, rfl, .inl ⟨rfl, by have := HN.out; rwa [List.take_length] at this⟩⟩, hb⟩
    case pos =>
      obtain ⟨x, hx⟩ := get_lt hlt
      obtain ⟨b, off, rfl, hb0, x0, x1, x2⟩ := HI.out.get hx
      rw [← hb.cell (by exact hb0)] at x0 x1 x2
      have HX := Lib.hid hx
      have hc := HP.out wr x hb (HI.out.i64 hx)
      clear hx
      cases hq : p x
      case true =>
        rw [hq] at hc
        go_wp2_with (go_at_fn fn; refine hc.mono ?_; rintro e w' ⟨rfl, hb'⟩)
        go_ret
        exact ⟨⟨k, rfl, .inr ⟨k, x, rfl, HX.out, hq, HN.out⟩⟩, ext_trans hb hb'⟩
      case false =>
        rw [hq] at hc
        go_wp2_with (go_at_fn fn; refine hc.mono ?_; rintro e w' ⟨rfl, hb'⟩)
        go_roundw
        case rel =>
          refine ⟨k + 1, by omega, by go_num, Lib.hid fun y hy => ?_, ext_trans hb hb'⟩
          rw [takeM_succ HX.out] at hy
          rcases List.mem_append.1 hy with hy | hy
          · exact HN.out y hy
          · obtain rfl : y = x := by simpa using hy
            exact hq
        case measure => simp [intOf]; omega
set_option maxHeartbeats 1000000 in
theorem containsMsg_any (fn : Nat) (lb : Array Value) (p : PieceD → Bool) (eg : ∀ args w, (callFunc fn args).run Try.prog w = .ok (.enter fn args) w) (A : Option Addr) (c : Nat) (l : List PieceD) (w : World) (hI : PiecesAt w A c l) (hp : PredP fn lb p w) :
    Calls Try.prog 50 #[.slice A l.length c, .func (.func fn) #[] lb] w fun e w' => e = .returned (.bool (l.any p)) ∧ Below w.heap.size w w' := by
  have HI := Lib.hid hI
  have HP := Lib.hid hp
  clear hI hp
  go_enter Try.func50, Try.ntmps50
  go_wp2_with (go_at_call 93; refine (indexMsg_any fn lb p eg A c l _ HI.out HP.out).mono ?_; rintro e w' ⟨⟨r, rfl, hr⟩, hb⟩)
  go_ret
  exact ⟨ret_bool hr.any, hb⟩
/-- Is a message wrong? -/
def badMsg (x : PieceD) : Bool := farB x.f || farB x.t || farB x.v || decide (x.t ≤ x.f)
theorem bad_any {l : List PieceD} : l.any badMsg = false ↔ MsgOk l := by
  rw [List.any_eq_false]
  unfold MsgOk badMsg farB
  constructor
  · intro h x hx
    have := h x hx
    simp at this
    exact ⟨⟨this.1.1.1, this.1.1.2, this.1.2⟩, by omega⟩
  · intro h x hx
    have := h x hx
    simp [this.1.1, this.1.2.1, this.1.2.2]
    omega
theorem enters_msg1 : Enters Try.prog 111 := enters_of Try.func111 (by kernel_rfl) rfl
set_option maxHeartbeats 2000000 in
theorem msg1_any (x : PieceD) (W : World) : Calls Try.prog 111 #[pieceV x] W fun e w' => e = .returned (.bool (badMsg x)) ∧ Below W.heap.size W w' := by
  unfold badMsg
  have hle : decide (x.t ≤ x.f) = decide (x.t ≤ x.f) := rfl
  cases h1 : farB x.f
  case true =>
    have hf1 := fun w => warpFar_is h1 w
    clear h1 hle
    go_enter Try.func111, Try.ntmps111
    go_wp2_with (first | (go_at_call 112; refine (hf1 _).mono ?_; rintro e w' ⟨rfl, rfl⟩))
    go_ret
    exact ⟨by simp, by go_grown⟩
  case false =>
  have hf1 := fun w => warpFar_is h1 w
  cases h2 : farB x.t
  case true =>
    have hf2 := fun w => warpFar_is h2 w
    have H1 := Lib.hid h1; have H2 := Lib.hid h2
    clear hle
    go_enter Try.func111, Try.ntmps111
    go_wp2_with (first | (go_at_call 112; refine (warpFar_is (by assumption) _).mono ?_; rintro e w' ⟨rfl, rfl⟩))
    go_ret
    exact ⟨by simp, by go_grown⟩
  case false =>
  cases h3 : farB x.v
  case true =>
    clear hle
    go_enter Try.func111, Try.ntmps111
    go_wp2_with (first | (go_at_call 112; refine (warpFar_is (by assumption) _).mono ?_; rintro e w' ⟨rfl, rfl⟩))
    go_ret
    exact ⟨by simp, by go_grown⟩
  case false =>
    by_cases h4 : x.t ≤ x.f
    · have hd : decide (x.t ≤ x.f) = true := by simpa using h4
      rw [hd]
      clear h4 hle
      go_enter Try.func111, Try.ntmps111
      go_wp2_with (first | (go_at_call 112; refine (warpFar_is (by assumption) _).mono ?_; rintro e w' ⟨rfl, rfl⟩))
      go_ret
      exact ⟨by simp, by go_grown⟩
    · have hd : decide (x.t ≤ x.f) = false := by simpa using h4
      rw [hd]
      clear h4 hle
      go_enter Try.func111, Try.ntmps111
      go_wp2_with (first | (go_at_call 112; refine (warpFar_is (by assumption) _).mono ?_; rintro e w' ⟨rfl, rfl⟩))
      go_ret
      exact ⟨by simp, by go_grown⟩
set_option maxHeartbeats 2000000 in
theorem warpCheck_any (A : Option Addr) (c : Nat) (l : List PieceD) (w : World) (hI : PiecesAt w A c l) :
    Calls Try.prog 91 #[.slice A l.length c] w fun e w' => e = .returned (.int .i64 (msgErr l)) ∧ Below w.heap.size w w' := by
  have m1 := hI.len
  have hent := enters_msg1
  unfold Enters at hent
  by_cases hl : 200 < l.length
  case pos =>
    have HR : Hid (msgErr l = 2) := Lib.hid (msgErr_large hl)
    have hd : decide ((l.length : Int) > 200) = true := by simp; omega
    rw [HR.out]
    clear hl
    go_enter Try.func91, Try.ntmps91
    go_wp2_with fail
    go_ret
    exact ⟨rfl, Below.refl _ _⟩
  case neg =>
  have hd : decide ((l.length : Int) > 200) = false := by simp; omega
  have hC := containsMsg_any 111 #[] badMsg hent A c l w hI (fun W x _ _ => msg1_any x W)
  cases hq : l.any badMsg
  case true =>
    have HR : Hid (msgErr l = 5) := Lib.hid (msgErr_bad hl fun h => by rw [bad_any.2 h] at hq; simp at hq)
    rw [hq] at hC
    rw [HR.out]
    clear hl hI hq
    go_enter Try.func91, Try.ntmps91
    go_wp2_with (first | (go_at_call 50; refine hC.mono ?_; rintro e w' ⟨rfl, hb⟩))
    go_ret
    exact ⟨rfl, hb⟩
  case false =>
    have HR : Hid (msgErr l = 0) := Lib.hid (msgErr_ok hl (bad_any.1 hq))
    rw [hq] at hC
    rw [HR.out]
    clear hl hI hq
    go_enter Try.func91, Try.ntmps91
    go_wp2_with (first | (go_at_call 50; refine hC.mono ?_; rintro e w' ⟨rfl, hb⟩))
    go_ret
    exact ⟨rfl, hb⟩
end Go.Proofs.Ytcfachfldanddaa
/- The walk of warp.Cells (printed by genwarpfold.py). -/
namespace Go.Proofs.Ytcfachfldanddaa
open Go.RowKit Go.Shelf

/-- What Cells tells of right arguments. -/
def CellsTell (state l : List PieceD) (k er : Int) (out : List CellD) : Prop := ∃ U, MapG U ∧ (∀ t, atG U t = keyF state l t) ∧ er = (if U.any (farP l k) = true then 5 else if 200 < U.length then 2 else 0) ∧ (er = 0 → out = U.map (toCell l k)) ∧ (er ≠ 0 → out = [])
def CellsSay (state l : List PieceD) (k er : Int) (out : List CellD) : Prop :=
  if mapErr state = 0 then if msgErr l = 0 then if 1 ≤ k ∧ k ≤ 3 then CellsTell state l k er out else er = 1 ∧ out = [] else er = msgErr l ∧ out = [] else er = mapErr state ∧ out = []
def CellsOut (R : Int → List CellD → Prop) (w : World) (e : Ending) (w' : World) : Prop := ∃ er out A c, Hid (R er out) ∧ e = .returned (.tuple #[.slice A out.length c, .int .i64 er]) ∧ CellsAt w' A c out ∧ Below w.heap.size w w'
set_option maxRecDepth 100000 in
set_option maxHeartbeats 4000000 in
theorem warpCellsP_any (A B : Option Addr) (c d : Nat) (state l : List PieceD) (k : Int) (w : World) (hA : PiecesAt w A c state) (hB : PiecesAt w B d l) :
    Calls Try.prog 47 #[.slice A state.length c, .slice B l.length d, .int .i64 k] w (CellsOut (CellsSay state l k) w) := by
  have m1 := hA.len
  have m2 := hB.len
  have HA := Lib.hid hA; have HB := Lib.hid hB
  have hC1 := imapCheck_any A c state w hA
  have hC2 := fun W (h : PiecesAt W B d l) => warpCheck_any B d l W h
  clear hA hB
  by_cases h0 : mapErr state = 0
  case neg =>
    have hd : (mapErr state != 0) = true := by simpa using h0
    have HS : Hid (CellsSay state l k (mapErr state) []) := Lib.hid (by unfold CellsSay; rw [if_neg h0]; exact ⟨rfl, rfl⟩)
    clear h0
    obtain ⟨er, her⟩ : ∃ er, mapErr state = er := ⟨_, rfl⟩
    rw [her] at hd HS hC1
    clear her
    go_enter Try.func47, Try.ntmps47
    go_wp2_with fail
    refine hC1.mono ?_
    rintro e w1 ⟨rfl, hb1⟩
    go_wp2_with fail
    go_ret2
    exact ⟨er, [], none, 0, HS, rfl, CellsAt.nil, hb1⟩
  case pos =>
  rw [h0] at hC1
  by_cases h1 : msgErr l = 0
  case neg =>
    have hd : (msgErr l != 0) = true := by simpa using h1
    have HS : Hid (CellsSay state l k (msgErr l) []) := Lib.hid (by unfold CellsSay; rw [if_pos h0, if_neg h1]; exact ⟨rfl, rfl⟩)
    clear h0 h1
    obtain ⟨er, her⟩ : ∃ er, msgErr l = er := ⟨_, rfl⟩
    rw [her] at hd HS
    simp only [her] at hC2
    clear her
    go_enter Try.func47, Try.ntmps47
    go_wp2_with fail
    refine hC1.mono ?_
    rintro e w1 ⟨rfl, hb1⟩
    clear hC1
    go_wp2_with fail
    refine (hC2 _ (HB.out.ext hb1)).mono ?_
    rintro e w2 ⟨rfl, hb2⟩
    go_wp2_with fail
    go_ret2
    exact ⟨er, [], none, 0, HS, rfl, CellsAt.nil, ext_trans hb1 hb2⟩
  case pos =>
  simp only [h1] at hC2
  have H0 := Lib.hid h0; have H1 := Lib.hid h1
  clear h0 h1
  by_cases hk : 1 ≤ k ∧ k ≤ 3
  case neg =>
    have HS : Hid (CellsSay state l k 1 []) := Lib.hid (by unfold CellsSay; rw [if_pos H0.out, if_pos H1.out, if_neg hk]; exact ⟨rfl, rfl⟩)
    have h3 : decide (k < 1) = true ∨ (decide (k < 1) = false ∧ decide (k > 3) = true) := by simp; omega
    clear hk
    rcases h3 with h3 | ⟨h3, h4⟩
    all_goals
      go_enter Try.func47, Try.ntmps47
      go_wp2_with fail
      refine hC1.mono ?_
      rintro e w1 ⟨rfl, hb1⟩
      go_wp2_with fail
      refine (hC2 _ (HB.out.ext hb1)).mono ?_
      rintro e w2 ⟨rfl, hb2⟩
      go_wp2_with fail
      go_ret2
      exact ⟨1, [], none, 0, HS, rfl, CellsAt.nil, ext_trans hb1 hb2⟩
  case pos =>
  have HK := Lib.hid hk
  have h3 : decide (k < 1) = false := by simp; omega
  have h4 : decide (k > 3) = false := by simp; omega
  clear hk
  go_enter Try.func47, Try.ntmps47
  go_wp2_with fail
  refine hC1.mono ?_
  rintro e w1 ⟨rfl, hb1⟩
  clear hC1
  go_wp2_with fail
  refine (hC2 _ (HB.out.ext hb1)).mono ?_
  rintro e w2 ⟨rfl, hb2⟩
  have hb2 := ext_trans hb1 hb2
  clear hC2 hb1
  go_wp2_with fail
  refine (warpCells_any A B c d state l k _ (HA.out.ext hb2) (HB.out.ext hb2) H0.out H1.out HK.out).mono ?_
  rintro e w3 ⟨U, A3, c3, HU, rfl, hI3, hb3, hU9⟩
  have hb3 := ext_trans hb2 hb3
  have m3 := hI3.len
  rw [List.length_map] at m3
  clear hb2
  obtain ⟨q, hq⟩ : ∃ q, U.any (farP l k) = q := ⟨_, rfl⟩
  have HQ := Lib.hid hq
  rw [hq]
  clear hq
  cases q
  case true =>
    have HS : Hid (CellsSay state l k 5 []) := Lib.hid (by unfold CellsSay; rw [if_pos H0.out, if_pos H1.out, if_pos HK.out]; exact ⟨U, HU.out.1, HU.out.2, by rw [if_pos HQ.out], fun h => by simp at h, fun _ => rfl⟩)
    go_wp2_with fail
    go_ret2
    exact ⟨5, [], none, 0, HS, rfl, CellsAt.nil, hb3⟩
  case false =>
    by_cases hl : 200 < U.length
    case pos =>
      have hd : decide ((U.length : Int) > 200) = true := by simp; omega
      have HS : Hid (CellsSay state l k 2 []) := Lib.hid (by unfold CellsSay; rw [if_pos H0.out, if_pos H1.out, if_pos HK.out]; exact ⟨U, HU.out.1, HU.out.2, by rw [HQ.out, if_neg (by simp), if_pos hl], fun h => by simp at h, fun _ => rfl⟩)
      clear hl
      go_wp2_with fail
      go_ret2
      exact ⟨2, [], none, 0, HS, rfl, CellsAt.nil, hb3⟩
    case neg =>
      have hd : decide ((U.length : Int) > 200) = false := by simp; omega
      have HS : Hid (CellsSay state l k 0 (U.map (toCell l k))) := Lib.hid (by unfold CellsSay; rw [if_pos H0.out, if_pos H1.out, if_pos HK.out]; exact ⟨U, HU.out.1, HU.out.2, by rw [HQ.out, if_neg (by simp), if_neg hl], fun _ => rfl, fun h => absurd rfl h⟩)
      clear hl
      go_wp2_with fail
      go_ret2
      exact ⟨0, U.map (toCell l k), A3, c3, HS, by rw [List.length_map]; rfl, hI3, hb3⟩
end Go.Proofs.Ytcfachfldanddaa
/- The walk of warp.Fold (printed by genwarpfold.py). -/
namespace Go.Proofs.Ytcfachfldanddaa
open Go.RowKit Go.Shelf

theorem cell_at {U : List (PieceG Key)} {l : List PieceD} {how : Int} {k : Nat} {y : PieceG Key} (h : U[k]? = some y) : (U.map (toCell l how))[k]? = some (toCell l how y) := by rw [List.getElem?_map, h]; rfl
theorem mapErr_nil' : mapErr [] = 0 := mapErr_ok (by simp) MapOk.nil
theorem fold_vals {l : List PieceD} {how : Int} {U : List (PieceG Key)} (hU : MapG U) (hk : ∀ t, atG U t = keyF [] l t) (hq : U.any (farP l how) = false) : ∀ t v, mixO l how t = some v → nearB v = true := fun t v hv => by
  rw [← mix_fold hk] at hv
  unfold foldF at hv
  cases hc : atG U t with
  | none => rw [hc] at hv; simp at hv
  | some q =>
    rw [hc] at hv
    obtain ⟨x, hx, _, _, rfl⟩ := atG_some hc
    have := List.any_eq_false.1 hq x hx
    obtain rfl : valOf l how x.v.1 = v := by simpa using hv
    exact far_off (by simpa [farP] using this)
theorem cells_i64 {w : World} {A : Option Addr} {c : Nat} {U : List (PieceG Key)} {l : List PieceD} {k : Int} (h : CellsAt w A c (U.map (toCell l k))) : ∀ y, y ∈ U → I64 y.f ∧ I64 y.t ∧ I64 (valOf l k y.v.1) := fun y hy => by
  obtain ⟨j, hj⟩ := List.getElem?_of_mem hy
  obtain ⟨b, off, hS⟩ := h.sl
  have := (hS j _ (cell_at (l := l) (how := k) hj)).2.2.2
  exact ⟨this.1, this.2.1, this.2.2.2⟩
theorem fold_far {l : List PieceD} {how : Int} {U : List (PieceG Key)} (hU : MapG U) (hk : ∀ t, atG U t = keyF [] l t) (hq : U.any (farP l how) = true) : ∃ t v, mixO l how t = some v ∧ nearB v = false := by
  obtain ⟨x, hx, hf⟩ := List.any_eq_true.1 hq
  refine ⟨x.f, valOf l how x.v.1, ?_, far_on hf⟩
  rw [← mix_fold hk]
  unfold foldF
  rw [hU.mem_at hx (Int.le_refl _) (hU.2 x hx)]
  rfl
set_option maxRecDepth 100000 in
set_option maxHeartbeats 8000000 in
theorem warpFold_any (B : Option Addr) (d : Nat) (l : List PieceD) (k : Int) (w : World) (hB : PiecesAt w B d l) :
    Calls Try.prog 49 #[.slice B l.length d, .int .i64 k] w (MapOut (FoldSay l k) w) := by
  obtain ⟨i0, hi, hz0, hz1, hz2⟩ := info_piece2
  have m2 := hB.len
  have HB := Lib.hid hB
  have hC2 := warpCheck_any B d l w hB
  clear hB
  by_cases h1 : msgErr l = 0
  case neg =>
    have hd : (msgErr l != 0) = true := by simpa using h1
    have HS : Hid (FoldSay l k (msgErr l) []) := Lib.hid (by unfold FoldSay; rw [if_neg h1]; exact ⟨rfl, rfl⟩)
    clear h1
    obtain ⟨er, her⟩ : ∃ er, msgErr l = er := ⟨_, rfl⟩
    rw [her] at hd HS hC2
    clear her
    go_enter Try.func49, Try.ntmps49
    go_wp2_with fail
    refine hC2.mono ?_
    rintro e w2 ⟨rfl, hb2⟩
    go_wp2_with fail
    go_ret2
    exact ⟨er, [], none, 0, HS, rfl, PiecesAt.nil, hb2⟩
  case pos =>
  rw [h1] at hC2
  have H1 := Lib.hid h1
  clear h1
  by_cases hk : 1 ≤ k ∧ k ≤ 3
  case neg =>
    have HS : Hid (FoldSay l k 1 []) := Lib.hid (by unfold FoldSay; rw [if_pos H1.out, if_neg hk]; exact ⟨rfl, rfl⟩)
    have h3 : decide (k < 1) = true ∨ (decide (k < 1) = false ∧ decide (k > 3) = true) := by simp; omega
    clear hk
    rcases h3 with h3 | ⟨h3, h4⟩
    all_goals
      go_enter Try.func49, Try.ntmps49
      go_wp2_with fail
      refine hC2.mono ?_
      rintro e w2 ⟨rfl, hb2⟩
      go_wp2_with fail
      go_ret2
      exact ⟨1, [], none, 0, HS, rfl, PiecesAt.nil, hb2⟩
  case pos =>
  have HK := Lib.hid hk
  have h3 : decide (k < 1) = false := by simp; omega
  have h4 : decide (k > 3) = false := by simp; omega
  clear hk
  go_enter Try.func49, Try.ntmps49
  go_wp2_with fail
  refine hC2.mono ?_
  rintro e w2 ⟨rfl, hb2⟩
  clear hC2
  go_wp2_with fail
  refine (warpCells_any none B 0 d [] l k _ PiecesAt.nil (HB.out.ext hb2) mapErr_nil' H1.out HK.out).mono ?_
  rintro e w3 ⟨U, A3, c3, HU, rfl, hI3, hb3, hU9⟩
  have hb3 := ext_trans hb2 hb3
  have m3 := hI3.len
  rw [List.length_map] at m3
  clear hb2
  obtain ⟨q, hq⟩ : ∃ q, U.any (farP l k) = q := ⟨_, rfl⟩
  have HQ := Lib.hid hq
  rw [hq]
  clear hq
  cases q
  case true =>
    have HS : Hid (FoldSay l k 5 []) := Lib.hid (by
      unfold FoldSay
      rw [if_pos H1.out, if_pos HK.out]
      obtain ⟨t, v, hv, hf⟩ := fold_far HU.out.1 HU.out.2 HQ.out
      obtain ⟨out, ho⟩ := fold_ex (g := fun q => valOf l k q.1) HU.out.1 (cells_i64 hI3) U.length (Nat.le_refl _)
      exact ⟨out, (ho.fin HU.out.1).1, fun t => by rw [(ho.fin HU.out.1).2, mix_fold HU.out.2], (tellErr_far hv hf).symm, fun h => by simp at h, fun _ => rfl⟩)
    go_wp2_with fail
    go_ret2
    exact ⟨5, [], none, 0, HS, rfl, PiecesAt.nil, hb3⟩
  case false =>
  have HI3 := Lib.hid hI3
  clear hI3
  go_wp2_with fail
  go_loopw [9, 33] (fun u x wr => ∃ (j : Nat) (out : List PieceD), j ≤ U.length ∧ x = .int .i64 j ∧ Hid (FoldK U (fun q => valOf l k q.1) j out) ∧ Own pieceC 3 wr w3.heap.size 42 u out ∧ Below w3.heap.size w3 wr) (fun _ x _ => U.length - (intOf x).toNat)
  case atStart => exact ⟨0, [], Nat.zero_le _, rfl, Lib.hid FoldK.start, Own.nil, Below.refl _ _⟩
  case round =>
    obtain ⟨j, out, hj, rfl, HF, hO, hb⟩ := hrel
    have hol := HF.out.2.2.1
    have hzr := hb.size
    have hbr := ext_trans hb3 hb
    by_cases hlt : j < U.length
    case neg =>
      obtain rfl : j = U.length := by omega
      have HM : Hid (MapL out ∧ ∀ t, atM out t = mixO l k t) := Lib.hid ⟨(HF.out.fin HU.out.1).1, fun t => by rw [(HF.out.fin HU.out.1).2, mix_fold HU.out.2]⟩
      obtain ⟨Ao, co, rfl, hIo⟩ := own_pieces hO HF.out.2.2.2
      have HT : Hid (Tells (mixO l k) (if 200 < out.length then 2 else 0) (if 200 < out.length then [] else out)) := Lib.hid (EachSay.tells ⟨out, HM.out.1, HM.out.2, rfl, rfl⟩ (fold_vals HU.out.1 HU.out.2 HQ.out))
      by_cases hl : 200 < out.length
      · have hd : decide ((out.length : Int) > 200) = true := by simp; omega
        rw [if_pos hl, if_pos hl] at HT
        clear hl
        go_wp2_with fail
        go_ret2
        exact ⟨2, [], none, 0, Lib.hid (by unfold FoldSay; rw [if_pos H1.out, if_pos HK.out]; exact HT.out), rfl, PiecesAt.nil, hbr⟩
      · have hd : decide ((out.length : Int) > 200) = false := by simp; omega
        rw [if_neg hl, if_neg hl] at HT
        clear hl
        go_wp2_with fail
        go_ret2
        exact ⟨0, out, Ao, co, Lib.hid (by unfold FoldSay; rw [if_pos H1.out, if_pos HK.out]; exact HT.out), rfl, hIo, hbr⟩
    case pos =>
      obtain ⟨y, hy⟩ := get_lt hlt
      have hyc := cell_at (l := l) (how := k) hy
      obtain ⟨b, off, rfl, hb0, x0, x1, x2, x3, x4⟩ := HI3.out.get hyc
      rw [← hb.cell (by exact hb0)] at x0 x1 x2 x3 x4
      have HY := Lib.hid hy
      obtain ⟨bb, oo, hSS⟩ := HI3.out.sl
      have hi64 := (hSS j _ hyc).2.2.2
      have HIY : Hid (I64 y.f ∧ I64 y.t ∧ I64 (valOf l k y.v.1)) := Lib.hid ⟨hi64.1, hi64.2.1, hi64.2.2.2⟩
      unfold toCell at x0 x1 x2 x3 x4
      simp only at x0 x1 x2 x3 x4
      obtain ⟨yf, hyf⟩ : ∃ a, y.f = a := ⟨_, rfl⟩
      obtain ⟨yt, hyt⟩ : ∃ a, y.t = a := ⟨_, rfl⟩
      obtain ⟨yv, hyv⟩ : ∃ a, valOf l k y.v.1 = a := ⟨_, rfl⟩
      obtain ⟨ys, hys⟩ : ∃ a, y.v.2.getD 0 = a := ⟨_, rfl⟩
      obtain ⟨yb, hyb⟩ : ∃ a, y.v.2.isSome = a := ⟨_, rfl⟩
      rw [hyf] at x0 HIY
      rw [hyt] at x1 HIY
      rw [hys] at x2
      rw [hyb] at x3
      rw [hyv] at x4 HIY
      have HYF := Lib.hid hyf; have HYT := Lib.hid hyt; have HYV := Lib.hid hyv
      have hcl : out.length + 1 ≤ 1000000 := by omega
      clear hy hyc hSS hi64 hyf hyt hyv hys hyb
      rcases List.eq_nil_or_concat out with rfl | ⟨o, z, rfl⟩
      · have HF2 : Hid (FoldK U (fun q => valOf l k q.1) (j + 1) ([] ++ [⟨yf, yt, yv⟩])) := Lib.hid (by
          have h := HF.out.next HU.out.1 HY.out (fun y hy => by simp at hy) (by rw [HYF.out]; exact HIY.out.1) (by rw [HYT.out]; exact HIY.out.2.1) (by simp only [HYV.out]; exact HIY.out.2.2)
          simpa only [HYF.out, HYT.out, HYV.out] using h)
        obtain ⟨Ao, co, rfl⟩ := hO.form
        go_wp2_with fail
        go_quiet (fail)
        go_wp2_with (at_builtin; refine wpList_append_lie (enc := pieceC) rfl (.tmp 70) (.tmp 78) 40 rfl w3.heap.size 42 i0 _ 3 24 Try.underlying40 hi hz0 hz1 hz2 rfl (by decide) _ [] ⟨yf, yt, yv⟩ rfl ((hO.alloc _).drewN _) #[.int .i64 yf, .int .i64 yt, .int .i64 yv] rfl (wr.heap.size + 1) (by simp) rfl rfl three_ints hcl (by decide) (by simp; omega) ?_; intro gn cap w6 hown6 hb8 hkp hgn)
        go_roundw
        case rel => exact ⟨j + 1, [] ++ [⟨yf, yt, yv⟩], by omega, by go_num, HF2, by first | exact hown6 | (have h := hown6; rw [List.length_append] at h; exact h), (below_drewN (hb.alloc hzr _) _).trans hb8⟩
        case measure => simp [intOf]; omega
      · rw [List.concat_eq_append] at HF hO hol hcl
        obtain ⟨Ao, co, rfl⟩ := hO.form
        rw [List.length_append] at hO hol hcl ⊢
        simp only [List.length_cons, List.length_nil, Nat.zero_add] at hO hol hcl ⊢
        obtain ⟨go, rfl⟩ : ∃ g, Ao = some ⟨g, 0, none⟩ := by
          rcases hO.2 with ⟨h1, _⟩ | ⟨g, cap, cur, hv, _⟩
          · simp at h1
          · simp only [Value.slice.injEq] at hv
            exact ⟨g, hv.1⟩
        obtain ⟨hnm, hgo, hmc, hcm, cs, hBk, hcs, hrow⟩ := hO.cells pieceC_len
        have hza : (o ++ [z])[o.length]? = some z := by simp
        have z0 : cs[o.length * 3]? = some (.int .i64 z.f) := by have := hrow _ z hza 0 (by decide); simpa [pieceC] using this
        have z1 : cs[o.length * 3 + 1]? = some (.int .i64 z.t) := by have := hrow _ z hza 1 (by decide); simpa [pieceC] using this
        have z2 : cs[o.length * 3 + 2]? = some (.int .i64 z.v) := by have := hrow _ z hza 2 (by decide); simpa [pieceC] using this
        have hjw : IntKind.i64.wrap (o.length : Int) = o.length := IntWalk.i64_in _ (by omega)
        have hjl : o.length < o.length + 1 := by omega
        have hBa := hBk.alloc (Obj.cells #[.int .i64 yf, .int .i64 yt, .int .i64 ys, .bool yb, .int .i64 yv] 71)
        obtain ⟨c1', c2', c3'⟩ := hBa.facts
        have HR := Lib.hid hrow
        have HMC := Lib.hid hmc
        clear hrow hmc hnm hza
        by_cases hz : z.t = yf ∧ z.v = yv
        case pos =>
          have hd2 : (z.t == yf) = true := by simpa using hz.1
          have hd3 : (z.v == yv) = true := by simpa using hz.2
          have HF2 : Hid (FoldK U (fun q => valOf l k q.1) (j + 1) (o ++ [⟨z.f, yt, z.v⟩])) := Lib.hid (by
            have h := HF.out.grow HU.out.1 HY.out (by rw [HYF.out]; exact hz.1) (by simp only [HYV.out]; exact hz.2) (by rw [HYT.out]; exact HIY.out.2.1)
            simpa only [HYT.out] using h)
          clear hz
          go_wp2_with fail
          go_quiet (fail)
          go_wp2_with fail
          go_roundw
          case rel =>
            have hbS : Below w3.heap.size w3 (((wr.alloc (Obj.cells #[.int .i64 yf, .int .i64 yt, .int .i64 ys, .bool yb, .int .i64 yv] 71)).drewN nq).setCell ⟨go, o.length * 3 + 1, none⟩ (.int .i64 yt)) := (below_drewN (hb.alloc hzr _) _).setCell hgo _
            refine ⟨j + 1, o ++ [⟨z.f, yt, z.v⟩], by omega, by go_num, HF2, ?_, hbS⟩
            have h2 := Own.of_cells (enc := pieceC) (m := o ++ [⟨z.f, yt, z.v⟩]) pieceC_len (by decide) ((hBa.drewN nq).set_ (o.length * 3 + 1) (.int .i64 yt)) hgo (by have := HMC.out; simpa using this) hcm (by simpa using hcs) (by
              have e : (o ++ [z]).set o.length ⟨z.f, yt, z.v⟩ = o ++ [⟨z.f, yt, z.v⟩] := by simp
              rw [← e]
              refine HR.out.set (by simp) (fun t ht => by rw [Array.getElem?_setIfInBounds_ne (by omega)]) (fun t ht => ?_)
              have k1 : o.length * 3 + 1 < cs.size := (Array.getElem?_eq_some_iff.1 z1).1
              match t, ht with
              | 0, _ =>
                show (cs.setIfInBounds (o.length * 3 + 1) (.int .i64 yt))[o.length * 3]? = _
                rw [Array.getElem?_setIfInBounds_ne (by omega), z0]; rfl
              | 1, _ => rw [Array.getElem?_setIfInBounds_self_of_lt k1]; rfl
              | 2, _ =>
                rw [Array.getElem?_setIfInBounds_ne (by omega), z2]; rfl)
            simpa using h2
          case measure => simp [intOf]; omega
        case neg =>
          have HF2 : Hid (FoldK U (fun q => valOf l k q.1) (j + 1) (o ++ [z] ++ [⟨yf, yt, yv⟩])) := Lib.hid (by
            have h := HF.out.next HU.out.1 HY.out (HF.out.last HU.out.1 HY.out (by simp only [HYF.out, HYV.out]; exact hz)) (by rw [HYF.out]; exact HIY.out.1) (by rw [HYT.out]; exact HIY.out.2.1) (by simp only [HYV.out]; exact HIY.out.2.2)
            simpa only [HYF.out, HYT.out, HYV.out] using h)
          by_cases ht : z.t = yf
          case pos =>
            have hd2 : (z.t == yf) = true := by simpa using ht
            have hd3 : (z.v == yv) = false := by
              cases hc : (z.v == yv)
              · rfl
              · exact absurd ⟨ht, by simpa using hc⟩ hz
            clear hz ht
            go_wp2_with fail
            go_quiet (fail)
            go_wp2_with (at_builtin; refine wpList_append_lie (enc := pieceC) rfl (.tmp 70) (.tmp 78) 40 rfl w3.heap.size 42 i0 _ 3 24 Try.underlying40 hi hz0 hz1 hz2 rfl (by decide) _ (o ++ [z]) ⟨yf, yt, yv⟩ rfl ((hO.alloc _).drewN _) #[.int .i64 yf, .int .i64 yt, .int .i64 yv] rfl (wr.heap.size + 1) (by simp) rfl rfl three_ints (by simp; omega) (by decide) (by simp; omega) ?_; intro gn cap w6 hown6 hb8 hkp hgn)
            go_roundw
            case rel => exact ⟨j + 1, (o ++ [z]) ++ [⟨yf, yt, yv⟩], by omega, by go_num, HF2, by first | exact hown6 | (have h := hown6; rw [List.length_append] at h; exact h), (below_drewN (hb.alloc hzr _) _).trans hb8⟩
            case measure => simp [intOf]; omega
          case neg =>
            have hd2 : (z.t == yf) = false := by simpa using ht
            clear hz ht
            go_wp2_with fail
            go_quiet (fail)
            go_wp2_with (at_builtin; refine wpList_append_lie (enc := pieceC) rfl (.tmp 70) (.tmp 78) 40 rfl w3.heap.size 42 i0 _ 3 24 Try.underlying40 hi hz0 hz1 hz2 rfl (by decide) _ (o ++ [z]) ⟨yf, yt, yv⟩ rfl ((hO.alloc _).drewN _) #[.int .i64 yf, .int .i64 yt, .int .i64 yv] rfl (wr.heap.size + 1) (by simp) rfl rfl three_ints (by simp; omega) (by decide) (by simp; omega) ?_; intro gn cap w6 hown6 hb8 hkp hgn)
            go_roundw
            case rel => exact ⟨j + 1, (o ++ [z]) ++ [⟨yf, yt, yv⟩], by omega, by go_num, HF2, by first | exact hown6 | (have h := hown6; rw [List.length_append] at h; exact h), (below_drewN (hb.alloc hzr _) _).trans hb8⟩
            case measure => simp [intOf]; omega
end Go.Proofs.Ytcfachfldanddaa
/- The walk of slices.Equal at cells; a list of cells in a block of its own. -/
namespace Go.Proofs.Ytcfachfldanddaa
open Go.RowKit Go.Shelf

abbrev cellV (x : CellD) : Value := .agg #[.int .i64 x.f, .int .i64 x.t, .int .i64 x.s, .bool x.has, .int .i64 x.v]
theorem fields_cell : Try.prog.underlying 71 = some (.struct (Try.prog.fieldsOf 71)) := by kernel_rfl
theorem guard_cell : Try.prog.eqGuardType Try.prog.depth 71 = false := by kernel_rfl
theorem held_cell : Try.prog.stoodInHeld 71 = false := by kernel_rfl
theorem same_cell (x y : CellD) (w : World) : (Op.equalIn 10000 71 (cellV x) (cellV y)).run Try.prog w = .ok (decide (x = y)) w := by
  have e : decide (x = y) = decide (x.f = y.f ∧ x.t = y.t ∧ x.s = y.s ∧ x.has = y.has ∧ x.v = y.v) := by rw [decide_eq_decide]; cases x; cases y; simp
  rw [e, run_equalIn_agg w 9999 71 _ _ fields_cell held_cell]
  have hf : (Try.prog.fieldsOf 71).toList = (match Try.prog.underlying 71 with | some (.struct fs) => fs.toList | _ => []) := by kernel_rfl
  rw [hf, Try.underlying71]
  simp [Op.eqFields, go_sem]
  by_cases hf : x.f = y.f <;> by_cases ht : x.t = y.t <;> by_cases hs : x.s = y.s <;> by_cases hh : x.has = y.has <;> by_cases hv : x.v = y.v <;> simp [*]
set_option maxHeartbeats 1000000 in
theorem equalCells_any (A B : Option Addr) (c d : Nat) (a b : List CellD) (w : World) (hA : SlAt RCell 5 w A a) (hB : SlAt RCell 5 w B b) (ha : a.length ≤ maxLen) (hb : b.length ≤ maxLen) :
    Calls Try.prog 48 #[.slice A a.length c, .slice B b.length d] w fun e w' => e = .returned (.bool (decide (a = b))) ∧ Below w.heap.size w w' := by
  unfold maxLen at ha hb
  by_cases hl : a.length = b.length
  case neg =>
    have hne : ((a.length : Int) != (b.length : Int)) = true := by simp; omega
    go_enter Try.func48, Try.ntmps48
    go_wp2_with fail
    go_ret
    exact ⟨ret_bool (by symm; simp; intro h; exact hl (by rw [h])), Below.refl _ _⟩
  have hne : ((a.length : Int) != (b.length : Int)) = false := by simp; omega
  obtain ⟨ba, oa, hA⟩ := hA
  obtain ⟨bb, ob, hB⟩ := hB
  have HL := Lib.hid hl
  have hl1 : a.length ≤ b.length := by omega
  have hl2 : b.length ≤ a.length := by omega
  clear hl
  go_enter Try.func48, Try.ntmps48
  go_wp2_with fail
  go_loopw [13] (fun v wr => ∃ k : Nat, k ≤ a.length ∧ v = .int .i64 k ∧ Hid (a.take k = b.take k) ∧ Below w.heap.size w wr) (fun v _ => a.length - (intOf v).toNat)
  case atStart => exact ⟨0, Nat.zero_le _, rfl, Lib.hid (by simp), Below.refl _ _⟩
  case round =>
    obtain ⟨k, hk, rfl, HI, hw⟩ := hrel
    by_cases hlt : k < a.length
    · obtain ⟨x, hx⟩ := get_lt hlt
      obtain ⟨y, hy⟩ := get_lt (show k < b.length by omega)
      obtain ⟨rfl, hba, ⟨x0, x1, x2, x3, x4⟩, _⟩ := hA k x hx
      obtain ⟨rfl, hbb, ⟨y0, y1, y2, y3, y4⟩, _⟩ := hB k y hy
      have x0' := x0.now hw
      have y0' := y0.now hw
      have x1' := x1.now hw
      have y1' := y1.now hw
      have x2' := x2.now hw
      have y2' := y2.now hw
      have x3' := x3.now hw
      have y3' := y3.now hw
      have x4' := x4.now hw
      have y4' := y4.now hw
      have HX := Lib.hid hx
      have HY := Lib.hid hy
      have hlt2 : k < b.length := by omega
      clear hA hB hx hy x0 y0 x1 y1 x2 y2 x3 y3 x4 y4
      by_cases hxy : x = y
      · have HXY := Lib.hid hxy
        have hn : decide (x = y) = true := by simp [hxy]
        have hs := same_cell x y
        rw [hn] at hs
        have hgd := guard_cell
        clear hxy
        go_wp2_with fail
        go_quiet (fail)
        go_wp2
        go_roundw
        case rel => exact ⟨k + 1, by omega, by go_num, Lib.hid (take_step HX.out HY.out HI.out HXY.out), below_drewN hw _⟩
        case measure => simp [intOf]; omega
      · have HXY := Lib.hid hxy
        have hn : decide (x = y) = false := by simp [hxy]
        have hs := same_cell x y
        rw [hn] at hs
        have hgd := guard_cell
        clear hxy
        go_wp2_with fail
        go_quiet (fail)
        go_wp2
        go_ret
        exact ⟨ret_bool (by symm; simp; exact ne_of_get HX.out HY.out HXY.out), below_drewN hw _⟩
    · go_wp2_with fail
      go_ret
      exact ⟨ret_bool (by symm; simp; exact take_eq_of HL.out (by omega) HI.out), hw⟩

/-- A list of two cells in a block of its own. -/
theorem cells_lit {w : World} {g : Nat} {x y : CellD} (h : Blk w g 71 (cellC x ++ cellC y).toArray) (hx : I64 x.f ∧ I64 x.t ∧ I64 x.s ∧ I64 x.v) (hy : I64 y.f ∧ I64 y.t ∧ I64 y.s ∧ I64 y.v) : CellsAt w (some ⟨g, 0, none⟩) 2 [x, y] := by
  refine ⟨by simp, by decide, g, 0, fun i z hz => ?_⟩
  match i, hz with
  | 0, hz =>
    obtain rfl : x = z := by simpa using hz
    exact ⟨rfl, h.lt, ⟨h.cell 0, h.cell 1, h.cell 2, h.cell 3, h.cell 4⟩, hx⟩
  | 1, hz =>
    obtain rfl : y = z := by simpa using hz
    exact ⟨rfl, h.lt, ⟨h.cell 5, h.cell 6, h.cell 7, h.cell 8, h.cell 9⟩, hy⟩
  | n + 2, hz => simp at hz
end Go.Proofs.Ytcfachfldanddaa
/- What the law WarpCovers says of cells and folds; no program in sight. -/
namespace Go.Proofs.Ytcfachfldanddaa

def litU : List (PieceG Key) := [pk 3 5 [0] (some 3), pk 5 8 [0] none]
theorem lit_which (t : Int) : whichL [⟨3, 8, 9⟩] t = if 3 ≤ t ∧ t < 8 then [0] else [] := by
  show whichK [⟨3, 8, 9⟩] t 1 = _
  rw [whichK_succ (x := ⟨3, 8, 9⟩) rfl]
  unfold inP whichK
  by_cases h : 3 ≤ t ∧ t < 8 <;> simp [h]
theorem lit_key (t : Int) : atG litU t = keyF [⟨0, 5, 3⟩] [⟨3, 8, 9⟩] t := by
  unfold keyF
  rw [lit_which]
  unfold litU pk
  by_cases h1 : 3 ≤ t ∧ t < 5
  · rw [atG_hit h1, if_pos (show 3 ≤ t ∧ t < 8 by omega), if_neg (by simp), at_hit (show (0 : Int) ≤ t ∧ t < 5 by omega)]
  · rw [atG_miss h1]
    by_cases h2 : 5 ≤ t ∧ t < 8
    · rw [atG_hit h2, if_pos (show 3 ≤ t ∧ t < 8 by omega), if_neg (by simp), at_miss (show ¬ ((0 : Int) ≤ t ∧ t < 5) by omega), at_nil]
    · rw [atG_miss h2, atG_nil, if_neg (show ¬ (3 ≤ t ∧ t < 8) by omega), if_pos rfl]
theorem lit_map : MapG litU := by
  refine ⟨?_, fun x hx => ?_⟩
  · unfold litU pk
    refine List.pairwise_cons.2 ⟨fun y hy => ?_, List.pairwise_cons.2 ⟨fun y hy => by simp at hy, .nil⟩⟩
    obtain rfl : y = _ := by simpa using hy
    exact ⟨by decide, fun _ h => by simp at h⟩
  · unfold litU pk at hx
    simp only [List.mem_cons, List.not_mem_nil, or_false] at hx
    rcases hx with rfl | rfl <;> decide
theorem cells_lit_say {er : Int} {out : List CellD} (h : CellsSay [⟨0, 5, 3⟩] [⟨3, 8, 9⟩] 1 er out) : er = 0 ∧ out = [⟨3, 5, 3, true, 9⟩, ⟨5, 8, 0, false, 9⟩] := by
  unfold CellsSay at h
  rw [if_pos (mapErr_ok (by decide) ⟨⟨by simp, by decide⟩, by decide⟩), if_pos (msgErr_ok (by decide) (by unfold MsgOk; decide)), if_pos (by decide)] at h
  obtain ⟨U, h1, h2, h3, h4, _⟩ := h
  obtain rfl : U = litU := mapG_unique h1 lit_map fun t => by rw [h2, lit_key]
  have h0 : er = 0 := by rw [h3, if_neg (by decide), if_neg (by decide)]
  exact ⟨h0, (h4 h0).trans (by decide)⟩
/-- Does one of the first cells have the time? -/
def hit (U : List (PieceG Key)) (t : Int) (k : Nat) : Int := if (atG (U.take k) t).isSome then 1 else 0
section
variable {U : List (PieceG Key)} {t : Int} {k : Nat} {y : PieceG Key}
theorem takeG_succ (hy : U[k]? = some y) : U.take (k + 1) = U.take k ++ [y] := by rw [List.take_add_one, hy]; rfl
theorem hit_in (hU : MapG U) (hy : U[k]? = some y) (h : y.f ≤ t ∧ t < y.t) : hit U t k = 0 ∧ hit U t (k + 1) = 1 := by
  obtain ⟨i1, i2⟩ := List.getElem?_eq_some_iff.1 hy
  have h0 : atG (U.take k) t = none := atG_none fun x hx => by
    rintro ⟨h3, h4⟩
    obtain ⟨i, hi, rfl⟩ := List.mem_iff_getElem.1 hx
    rw [List.length_take] at hi
    rw [List.getElem_take] at h4
    have := List.pairwise_iff_getElem.1 hU.1 i k (by omega) i1 (by omega)
    rw [i2] at this
    omega
  unfold hit
  rw [h0, takeG_succ hy, atG_append, h0]
  simp only [Option.none_or]
  rw [atG_hit h]
  exact ⟨rfl, rfl⟩
theorem hit_out (hy : U[k]? = some y) (h : ¬ (y.f ≤ t ∧ t < y.t)) : hit U t (k + 1) = hit U t k := by
  unfold hit
  rw [takeG_succ hy, atG_append, atG_miss h, atG_nil]
  cases atG (U.take k) t <;> rfl
theorem hit_end : hit U t U.length = if (atG U t).isSome then 1 else 0 := by unfold hit; rw [List.take_length]
theorem has_key {state l : List PieceD} (h : ∀ t, atG U t = keyF state l t) : (atG U t).isSome = l.any (fun x => decide (x.f ≤ t ∧ t < x.t)) := by
  rw [h]
  unfold keyF
  rw [Bool.eq_iff_iff, List.any_eq_true]
  by_cases hw : whichL l t = []
  · rw [if_pos hw]
    refine ⟨fun h => by simp at h, fun ⟨x, hx, hp⟩ => ?_⟩
    exact absurd hw (which_has.2 ⟨x, hx, hp⟩)
  · rw [if_neg hw]
    obtain ⟨x, hx, hp⟩ := which_has.1 hw
    exact ⟨fun _ => ⟨x, hx, hp⟩, fun _ => rfl⟩
end
end Go.Proofs.Ytcfachfldanddaa
/- What WarpCovers draws from Cells and Fold; no program in sight. -/
namespace Go.Proofs.Ytcfachfldanddaa

section
variable {state l : List PieceD} {k er : Int} {out : List CellD} {fo : List PieceD}
theorem whichK_same {t : Int} (h : ∀ x, x ∈ l → inP x t = inP x (t - 1)) : ∀ n, whichK l t n = whichK l (t - 1) n
  | 0 => rfl
  | n + 1 => by
    show whichK l t n ++ _ = whichK l (t - 1) n ++ _
    rw [whichK_same h n]
    cases hx : l[n]? with
    | none => rfl
    | some x => simp only [h x (List.mem_of_getElem? hx)]
theorem mix_turns (l : List PieceD) (k : Int) : TurnsIn (endsM l) (mixO l k) := fun t h => by
  have hc := Classical.em (t ∈ endsM l)
  rcases hc with hc | hc
  · exact hc
  · exfalso
    apply h
    have key : ∀ x, x ∈ l → inP x t = inP x (t - 1) := fun x hx => by
      have h1 : t ≠ x.f := fun e => hc (List.mem_append_left _ (List.mem_map.2 ⟨x, hx, e.symm⟩))
      have h2 : t ≠ x.t := fun e => hc (List.mem_append_right _ (List.mem_map.2 ⟨x, hx, e.symm⟩))
      unfold inP
      rw [decide_eq_decide]
      omega
    unfold mixO whichL
    rw [whichK_same key]
theorem CellsSay.zero (h : CellsSay state l k 0 out) : ∃ U, MapG U ∧ (∀ t, atG U t = keyF state l t) ∧ out = U.map (toCell l k) := by
  unfold CellsSay at h
  split at h
  · split at h
    · split at h
      · obtain ⟨U, h1, h2, _, h4, _⟩ := h
        exact ⟨U, h1, h2, h4 rfl⟩
      · simp at h
    · rename_i hn; exact absurd h.1.symm hn
  · rename_i hn; exact absurd h.1.symm hn
theorem CellsSay.none (h : CellsSay state l k er out) (h0 : er ≠ 0) : out = [] := by
  unfold CellsSay at h
  split at h
  · split at h
    · split at h
      · obtain ⟨U, _, _, _, _, h5⟩ := h
        exact h5 h0
      · exact h.2
    · exact h.2
  · exact h.2
theorem FoldSay.none (h : FoldSay l k er fo) (h0 : er ≠ 0) : fo = [] := by
  unfold FoldSay at h
  split at h
  · split at h
    · obtain ⟨U, _, _, _, _, h5⟩ := h
      exact h5 h0
    · exact h.2
  · exact h.2
theorem FoldSay.zero (h : FoldSay l k 0 fo) : (∀ t, atM fo t = mixO l k t) ∧ mapErr fo = 0 := by
  unfold FoldSay at h
  split at h
  · rename_i hm
    split at h
    · refine ⟨(Tells.good h rfl).2.1, Tells.mok h rfl (mix_turns l k) fun t ht => ?_⟩
      have hO := (msgErr_zero hm).2
      rcases List.mem_append.1 ht with ht | ht
      · obtain ⟨x, hx, rfl⟩ := List.mem_map.1 ht
        exact (hO x hx).1.1
      · obtain ⟨x, hx, rfl⟩ := List.mem_map.1 ht
        exact (hO x hx).1.2.1
    · simp at h
  · rename_i hn; exact absurd h.1.symm hn
/-- One cell of Cells: how it lies to the one ahead, and what it has at a time. -/
theorem cover_cell {U : List (PieceG Key)} {n : Nat} {c : CellD} (hU : MapG U) (h : out = U.map (toCell l k)) (hc : out[n]? = some c) : ∃ y, U[n]? = some y ∧ c = toCell l k y ∧ c.f < c.t ∧ ∀ j b, j + 1 = n → out[j]? = some b → b.t ≤ c.f := by
  subst h
  rw [List.getElem?_map] at hc
  cases hy : U[n]? with
  | none => rw [hy] at hc; simp at hc
  | some y =>
    rw [hy] at hc
    obtain rfl : toCell l k y = c := by simpa using hc
    refine ⟨y, rfl, rfl, hU.2 y (List.mem_of_getElem? hy), fun j b hj hb => ?_⟩
    subst hj
    rw [List.getElem?_map] at hb
    cases hz : U[j]? with
    | none => rw [hz] at hb; simp at hb
    | some z =>
      rw [hz] at hb
      obtain rfl : toCell l k z = b := by simpa using hb
      obtain ⟨i1, i2⟩ := List.getElem?_eq_some_iff.1 hy
      obtain ⟨j1, j2⟩ := List.getElem?_eq_some_iff.1 hz
      have := List.pairwise_iff_getElem.1 hU.1 j (j + 1) j1 i1 (by omega)
      rw [i2, j2] at this
      exact this.1
theorem cover_in {U : List (PieceG Key)} {c : CellD} {y : PieceG Key} {t : Int} (hU : MapG U) (h : ∀ t, atG U t = keyF state l t) (hy : y ∈ U) (hc : c = toCell l k y) (h1 : c.f ≤ t) (h2 : t < c.t) :
    c.s = (atM state t).getD 0 ∧ c.has = (atM state t).isSome ∧ mixO l k t = some c.v := by
  subst hc
  have h3 := hU.mem_at hy h1 h2
  rw [h] at h3
  unfold keyF at h3
  unfold mixO
  split at h3
  · simp at h3
  · rename_i hw
    rw [if_neg hw]
    have h4 : y.v = (whichL l t, atM state t) := (Option.some.inj h3).symm
    unfold toCell
    rw [h4]
    exact ⟨rfl, rfl, rfl⟩
end
end Go.Proofs.Ytcfachfldanddaa
