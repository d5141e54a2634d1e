/- Several texts in one: WarpCheck, WarpCells2, RefCellsSpec. -/
import Derived.Test.YtdpibehpmghghaaDoorBd703ae6fc1d
import Derived.Test.YtdpibehpmghghaaDoorBd01d24bf232
import Derived.Test.YtdpibehpmghghaaDoorBd9ec67c05a9
/- The walks of warp.Check and of what holds of one of some messages (printed by genwarpfold.py). -/
namespace Go.Proofs.YtdpibehpmghghaaDoor
open Go.RowKit Go.Shelf

def PredP (fn : Nat) (lb : Array Value) (p : PieceD → Bool) (w : World) : Prop :=
  ∀ (W : World) (x : PieceD), Below w.heap.size w W → I64 x.f ∧ I64 x.t ∧ I64 x.v → Calls Tryd.prog fn (#[pieceV x] ++ lb) W fun e w' => e = .returned (.bool (p x)) ∧ Below W.heap.size W w'
def FirstP (p : PieceD → Bool) (l : List PieceD) (r : Int) : Prop :=
  (r = -1 ∧ ∀ x, x ∈ l → p x = false) ∨ ∃ (k : Nat) (x : PieceD), r = k ∧ l[k]? = some x ∧ p x = true ∧ ∀ y, y ∈ l.take k → p y = false
theorem FirstP.any {p : PieceD → Bool} {l : List PieceD} {r : Int} (h : FirstP p l r) : decide (r ≥ 0) = l.any p := by
  rw [Bool.eq_iff_iff, List.any_eq_true, decide_eq_true_iff]
  rcases h with ⟨rfl, h⟩ | ⟨k, x, rfl, hx, hp, _⟩
  · exact ⟨fun h1 => by omega, fun ⟨x, hx, hp⟩ => by rw [h x hx] at hp; simp at hp⟩
  · exact ⟨fun _ => ⟨x, List.mem_of_getElem? hx, hp⟩, fun _ => by omega⟩
set_option maxHeartbeats 1000000 in
theorem indexMsg_any (fn : Nat) (lb : Array Value) (p : PieceD → Bool) (eg : ∀ args w, (callFunc fn args).run Tryd.prog w = .ok (.enter fn args) w) (A : Option Addr) (c : Nat) (l : List PieceD) (w : World) (hI : PiecesAt w A c l) (hp : PredP fn lb p w) :
    Calls Tryd.prog 91 #[.slice A l.length c, .func (.func fn) #[] lb] w fun e w' => (∃ r, e = .returned (.int .i64 r) ∧ FirstP p l r) ∧ Below w.heap.size w w' := by
  have m1 := hI.len
  have HI := Lib.hid hI
  have HP := Lib.hid hp
  clear hI hp
  go_enter Tryd.func91, Tryd.ntmps91
  go_wp2_with fail
  go_loopw [5, 8] (fun _ v wr => ∃ k : Nat, k ≤ l.length ∧ v = .int .i64 k ∧ Hid (∀ y, y ∈ l.take k → p y = false) ∧ Below w.heap.size w wr) (fun _ v _ => l.length - (intOf v).toNat)
  case atStart => exact ⟨0, Nat.zero_le _, rfl, Lib.hid (by simp), Below.refl _ _⟩
  case round =>
    obtain ⟨k, hk, rfl, HN, hb⟩ := hrel
    by_cases hlt : k < l.length
    case neg =>
      obtain rfl : k = l.length := by omega
      go_wp2_with fail
      go_ret
      exact ⟨⟨-1, rfl, .inl ⟨rfl, by have := HN.out; rwa [List.take_length] at this⟩⟩, hb⟩
    case pos =>
      obtain ⟨x, hx⟩ := get_lt hlt
      obtain ⟨b, off, rfl, hb0, x0, x1, x2⟩ := HI.out.get hx
      rw [← hb.cell (by exact hb0)] at x0 x1 x2
      have HX := Lib.hid hx
      have hc := HP.out wr x hb (HI.out.i64 hx)
      clear hx
      cases hq : p x
      case true =>
        rw [hq] at hc
        go_wp2_with (go_at_fn fn; refine hc.mono ?_; rintro e w' ⟨rfl, hb'⟩)
        go_ret
        exact ⟨⟨k, rfl, .inr ⟨k, x, rfl, HX.out, hq, HN.out⟩⟩, ext_trans hb hb'⟩
      case false =>
        rw [hq] at hc
        go_wp2_with (go_at_fn fn; refine hc.mono ?_; rintro e w' ⟨rfl, hb'⟩)
        go_roundw
        case rel =>
          refine ⟨k + 1, by omega, by go_num, Lib.hid fun y hy => ?_, ext_trans hb hb'⟩
          rw [takeM_succ HX.out] at hy
          rcases List.mem_append.1 hy with hy | hy
          · exact HN.out y hy
          · obtain rfl : y = x := by simpa using hy
            exact hq
        case measure => simp [intOf]; omega
set_option maxHeartbeats 1000000 in
theorem containsMsg_any (fn : Nat) (lb : Array Value) (p : PieceD → Bool) (eg : ∀ args w, (callFunc fn args).run Tryd.prog w = .ok (.enter fn args) w) (A : Option Addr) (c : Nat) (l : List PieceD) (w : World) (hI : PiecesAt w A c l) (hp : PredP fn lb p w) :
    Calls Tryd.prog 68 #[.slice A l.length c, .func (.func fn) #[] lb] w fun e w' => e = .returned (.bool (l.any p)) ∧ Below w.heap.size w w' := by
  have HI := Lib.hid hI
  have HP := Lib.hid hp
  clear hI hp
  go_enter Tryd.func68, Tryd.ntmps68
  go_wp2_with (go_at_call 91; refine (indexMsg_any fn lb p eg A c l _ HI.out HP.out).mono ?_; rintro e w' ⟨⟨r, rfl, hr⟩, hb⟩)
  go_ret
  exact ⟨ret_bool hr.any, hb⟩
/-- Is a message wrong? -/
def badMsg (x : PieceD) : Bool := farB x.f || farB x.t || farB x.v || decide (x.t ≤ x.f)
theorem bad_any {l : List PieceD} : l.any badMsg = false ↔ MsgOk l := by
  rw [List.any_eq_false]
  unfold MsgOk badMsg farB
  constructor
  · intro h x hx
    have := h x hx
    simp at this
    exact ⟨⟨this.1.1.1, this.1.1.2, this.1.2⟩, by omega⟩
  · intro h x hx
    have := h x hx
    simp [this.1.1, this.1.2.1, this.1.2.2]
    omega
theorem enters_msg1 : Enters Tryd.prog 69 := enters_of Tryd.func69 (by kernel_rfl) rfl
set_option maxHeartbeats 2000000 in
theorem msg1_any (x : PieceD) (W : World) : Calls Tryd.prog 69 #[pieceV x] W fun e w' => e = .returned (.bool (badMsg x)) ∧ Below W.heap.size W w' := by
  unfold badMsg
  have hle : decide (x.t ≤ x.f) = decide (x.t ≤ x.f) := rfl
  cases h1 : farB x.f
  case true =>
    have hf1 := fun w => warpFar_is h1 w
    clear h1 hle
    go_enter Tryd.func69, Tryd.ntmps69
    go_wp2_with (first | (go_at_call 70; refine (hf1 _).mono ?_; rintro e w' ⟨rfl, rfl⟩))
    go_ret
    exact ⟨by simp, by go_grown⟩
  case false =>
  have hf1 := fun w => warpFar_is h1 w
  cases h2 : farB x.t
  case true =>
    have hf2 := fun w => warpFar_is h2 w
    have H1 := Lib.hid h1; have H2 := Lib.hid h2
    clear hle
    go_enter Tryd.func69, Tryd.ntmps69
    go_wp2_with (first | (go_at_call 70; refine (warpFar_is (by assumption) _).mono ?_; rintro e w' ⟨rfl, rfl⟩))
    go_ret
    exact ⟨by simp, by go_grown⟩
  case false =>
  cases h3 : farB x.v
  case true =>
    clear hle
    go_enter Tryd.func69, Tryd.ntmps69
    go_wp2_with (first | (go_at_call 70; refine (warpFar_is (by assumption) _).mono ?_; rintro e w' ⟨rfl, rfl⟩))
    go_ret
    exact ⟨by simp, by go_grown⟩
  case false =>
    by_cases h4 : x.t ≤ x.f
    · have hd : decide (x.t ≤ x.f) = true := by simpa using h4
      rw [hd]
      clear h4 hle
      go_enter Tryd.func69, Tryd.ntmps69
      go_wp2_with (first | (go_at_call 70; refine (warpFar_is (by assumption) _).mono ?_; rintro e w' ⟨rfl, rfl⟩))
      go_ret
      exact ⟨by simp, by go_grown⟩
    · have hd : decide (x.t ≤ x.f) = false := by simpa using h4
      rw [hd]
      clear h4 hle
      go_enter Tryd.func69, Tryd.ntmps69
      go_wp2_with (first | (go_at_call 70; refine (warpFar_is (by assumption) _).mono ?_; rintro e w' ⟨rfl, rfl⟩))
      go_ret
      exact ⟨by simp, by go_grown⟩
set_option maxHeartbeats 2000000 in
theorem warpCheck_any (A : Option Addr) (c : Nat) (l : List PieceD) (w : World) (hI : PiecesAt w A c l) :
    Calls Tryd.prog 27 #[.slice A l.length c] w fun e w' => e = .returned (.int .i64 (msgErr l)) ∧ Below w.heap.size w w' := by
  have m1 := hI.len
  have hent := enters_msg1
  unfold Enters at hent
  by_cases hl : 200 < l.length
  case pos =>
    have HR : Hid (msgErr l = 2) := Lib.hid (msgErr_large hl)
    have hd : decide ((l.length : Int) > 200) = true := by simp; omega
    rw [HR.out]
    clear hl
    go_enter Tryd.func27, Tryd.ntmps27
    go_wp2_with fail
    go_ret
    exact ⟨rfl, Below.refl _ _⟩
  case neg =>
  have hd : decide ((l.length : Int) > 200) = false := by simp; omega
  have hC := containsMsg_any 69 #[] badMsg hent A c l w hI (fun W x _ _ => msg1_any x W)
  cases hq : l.any badMsg
  case true =>
    have HR : Hid (msgErr l = 5) := Lib.hid (msgErr_bad hl fun h => by rw [bad_any.2 h] at hq; simp at hq)
    rw [hq] at hC
    rw [HR.out]
    clear hl hI hq
    go_enter Tryd.func27, Tryd.ntmps27
    go_wp2_with (first | (go_at_call 68; refine hC.mono ?_; rintro e w' ⟨rfl, hb⟩))
    go_ret
    exact ⟨rfl, hb⟩
  case false =>
    have HR : Hid (msgErr l = 0) := Lib.hid (msgErr_ok hl (bad_any.1 hq))
    rw [hq] at hC
    rw [HR.out]
    clear hl hI hq
    go_enter Tryd.func27, Tryd.ntmps27
    go_wp2_with (first | (go_at_call 68; refine hC.mono ?_; rintro e w' ⟨rfl, hb⟩))
    go_ret
    exact ⟨rfl, hb⟩
end Go.Proofs.YtdpibehpmghghaaDoor
/- The walk of warp.Cells (printed by genwarpfold.py). -/
namespace Go.Proofs.YtdpibehpmghghaaDoor
open Go.RowKit Go.Shelf

/-- What Cells tells of right arguments. -/
def CellsTell (state l : List PieceD) (k er : Int) (out : List CellD) : Prop := ∃ U, MapG U ∧ (∀ t, atG U t = keyF state l t) ∧ er = (if U.any (farP l k) = true then 5 else if 200 < U.length then 2 else 0) ∧ (er = 0 → out = U.map (toCell l k)) ∧ (er ≠ 0 → out = [])
def CellsSay (state l : List PieceD) (k er : Int) (out : List CellD) : Prop :=
  if mapErr state = 0 then if msgErr l = 0 then if 1 ≤ k ∧ k ≤ 3 then CellsTell state l k er out else er = 1 ∧ out = [] else er = msgErr l ∧ out = [] else er = mapErr state ∧ out = []
def CellsOut (R : Int → List CellD → Prop) (w : World) (e : Ending) (w' : World) : Prop := ∃ er out A c, Hid (R er out) ∧ e = .returned (.tuple #[.slice A out.length c, .int .i64 er]) ∧ CellsAt w' A c out ∧ Below w.heap.size w w'
set_option maxRecDepth 100000 in
set_option maxHeartbeats 4000000 in
theorem warpCellsP_any (A B : Option Addr) (c d : Nat) (state l : List PieceD) (k : Int) (w : World) (hA : PiecesAt w A c state) (hB : PiecesAt w B d l) :
    Calls Tryd.prog 23 #[.slice A state.length c, .slice B l.length d, .int .i64 k] w (CellsOut (CellsSay state l k) w) := by
  have m1 := hA.len
  have m2 := hB.len
  have HA := Lib.hid hA; have HB := Lib.hid hB
  have hC1 := imapCheck_any A c state w hA
  have hC2 := fun W (h : PiecesAt W B d l) => warpCheck_any B d l W h
  clear hA hB
  by_cases h0 : mapErr state = 0
  case neg =>
    have hd : (mapErr state != 0) = true := by simpa using h0
    have HS : Hid (CellsSay state l k (mapErr state) []) := Lib.hid (by unfold CellsSay; rw [if_neg h0]; exact ⟨rfl, rfl⟩)
    clear h0
    obtain ⟨er, her⟩ : ∃ er, mapErr state = er := ⟨_, rfl⟩
    rw [her] at hd HS hC1
    clear her
    go_enter Tryd.func23, Tryd.ntmps23
    go_wp2_with fail
    refine hC1.mono ?_
    rintro e w1 ⟨rfl, hb1⟩
    go_wp2_with fail
    go_ret2
    exact ⟨er, [], none, 0, HS, rfl, CellsAt.nil, hb1⟩
  case pos =>
  rw [h0] at hC1
  by_cases h1 : msgErr l = 0
  case neg =>
    have hd : (msgErr l != 0) = true := by simpa using h1
    have HS : Hid (CellsSay state l k (msgErr l) []) := Lib.hid (by unfold CellsSay; rw [if_pos h0, if_neg h1]; exact ⟨rfl, rfl⟩)
    clear h0 h1
    obtain ⟨er, her⟩ : ∃ er, msgErr l = er := ⟨_, rfl⟩
    rw [her] at hd HS
    simp only [her] at hC2
    clear her
    go_enter Tryd.func23, Tryd.ntmps23
    go_wp2_with fail
    refine hC1.mono ?_
    rintro e w1 ⟨rfl, hb1⟩
    clear hC1
    go_wp2_with fail
    refine (hC2 _ (HB.out.ext hb1)).mono ?_
    rintro e w2 ⟨rfl, hb2⟩
    go_wp2_with fail
    go_ret2
    exact ⟨er, [], none, 0, HS, rfl, CellsAt.nil, ext_trans hb1 hb2⟩
  case pos =>
  simp only [h1] at hC2
  have H0 := Lib.hid h0; have H1 := Lib.hid h1
  clear h0 h1
  by_cases hk : 1 ≤ k ∧ k ≤ 3
  case neg =>
    have HS : Hid (CellsSay state l k 1 []) := Lib.hid (by unfold CellsSay; rw [if_pos H0.out, if_pos H1.out, if_neg hk]; exact ⟨rfl, rfl⟩)
    have h3 : decide (k < 1) = true ∨ (decide (k < 1) = false ∧ decide (k > 3) = true) := by simp; omega
    clear hk
    rcases h3 with h3 | ⟨h3, h4⟩
    all_goals
      go_enter Tryd.func23, Tryd.ntmps23
      go_wp2_with fail
      refine hC1.mono ?_
      rintro e w1 ⟨rfl, hb1⟩
      go_wp2_with fail
      refine (hC2 _ (HB.out.ext hb1)).mono ?_
      rintro e w2 ⟨rfl, hb2⟩
      go_wp2_with fail
      go_ret2
      exact ⟨1, [], none, 0, HS, rfl, CellsAt.nil, ext_trans hb1 hb2⟩
  case pos =>
  have HK := Lib.hid hk
  have h3 : decide (k < 1) = false := by simp; omega
  have h4 : decide (k > 3) = false := by simp; omega
  clear hk
  go_enter Tryd.func23, Tryd.ntmps23
  go_wp2_with fail
  refine hC1.mono ?_
  rintro e w1 ⟨rfl, hb1⟩
  clear hC1
  go_wp2_with fail
  refine (hC2 _ (HB.out.ext hb1)).mono ?_
  rintro e w2 ⟨rfl, hb2⟩
  have hb2 := ext_trans hb1 hb2
  clear hC2 hb1
  go_wp2_with fail
  refine (warpCells_any A B c d state l k _ (HA.out.ext hb2) (HB.out.ext hb2) H0.out H1.out HK.out).mono ?_
  rintro e w3 ⟨U, A3, c3, HU, rfl, hI3, hb3, hU9⟩
  have hb3 := ext_trans hb2 hb3
  have m3 := hI3.len
  rw [List.length_map] at m3
  clear hb2
  obtain ⟨q, hq⟩ : ∃ q, U.any (farP l k) = q := ⟨_, rfl⟩
  have HQ := Lib.hid hq
  rw [hq]
  clear hq
  cases q
  case true =>
    have HS : Hid (CellsSay state l k 5 []) := Lib.hid (by unfold CellsSay; rw [if_pos H0.out, if_pos H1.out, if_pos HK.out]; exact ⟨U, HU.out.1, HU.out.2, by rw [if_pos HQ.out], fun h => by simp at h, fun _ => rfl⟩)
    go_wp2_with fail
    go_ret2
    exact ⟨5, [], none, 0, HS, rfl, CellsAt.nil, hb3⟩
  case false =>
    by_cases hl : 200 < U.length
    case pos =>
      have hd : decide ((U.length : Int) > 200) = true := by simp; omega
      have HS : Hid (CellsSay state l k 2 []) := Lib.hid (by unfold CellsSay; rw [if_pos H0.out, if_pos H1.out, if_pos HK.out]; exact ⟨U, HU.out.1, HU.out.2, by rw [HQ.out, if_neg (by simp), if_pos hl], fun h => by simp at h, fun _ => rfl⟩)
      clear hl
      go_wp2_with fail
      go_ret2
      exact ⟨2, [], none, 0, HS, rfl, CellsAt.nil, hb3⟩
    case neg =>
      have hd : decide ((U.length : Int) > 200) = false := by simp; omega
      have HS : Hid (CellsSay state l k 0 (U.map (toCell l k))) := Lib.hid (by unfold CellsSay; rw [if_pos H0.out, if_pos H1.out, if_pos HK.out]; exact ⟨U, HU.out.1, HU.out.2, by rw [HQ.out, if_neg (by simp), if_neg hl], fun _ => rfl, fun h => absurd rfl h⟩)
      clear hl
      go_wp2_with fail
      go_ret2
      exact ⟨0, U.map (toCell l k), A3, c3, HS, by rw [List.length_map]; rfl, hI3, hb3⟩
end Go.Proofs.YtdpibehpmghghaaDoor
/- What the document's Cells keeps while it goes; no program in sight. -/
namespace Go.Proofs.YtdpibehpmghghaaDoor

theorem nil_or_snoc {α : Type} (l : List α) : l = [] ∨ ∃ o z, l = o ++ [z] := by
  rcases List.eq_nil_or_concat l with h | ⟨o, z, h⟩
  · exact .inl h
  · exact .inr ⟨o, z, by rw [h, List.concat_eq_append]⟩
/-- Which messages the last cell has. -/
def lastW (out : List (PieceG Key)) : List Int := match out.getLast? with | some z => z.v.1 | none => []
theorem lastW_nil : lastW [] = [] := rfl
theorem lastW_snoc {o : List (PieceG Key)} {z : PieceG Key} : lastW (o ++ [z]) = z.v.1 := by simp [lastW]
section
variable {fn : Int → Option Key} {D : List Int} {i : Nat} {out o : List (PieceG Key)} {z : PieceG Key} {a : Int} {v : Key} {l : List PieceD} {k : Int}
theorem KeyK.last (h : KeyK fn D i (o ++ [z])) (ha : D[i]? = some a) (hne : ¬ (z.t = a ∧ z.v = v)) : ∀ y, y ∈ o ++ [z] → y.t = a → y.v ≠ v := fun y hy hya hyv => by
  obtain ⟨b, hb⟩ := head_of ha
  have hT := h.1 b a hb ha
  rcases List.mem_append.1 hy with hy | hy
  · have h2 := hT.map.ahead hy
    have h3 := hT.low z (by simp)
    omega
  · obtain rfl : y = z := by simpa using hy
    exact hne ⟨hya, hyv⟩
theorem key_nonneg {state : List PieceD} (h : KeyK (keyF state l) D i out) (ha : D[i]? = some a) (hz : z ∈ out) : ∀ q ∈ z.v.1, 0 ≤ q := fun q hq => by
  obtain ⟨b, hb⟩ := head_of ha
  have hT := h.1 b a hb ha
  have h1 := hT.tells z.f
  rw [hT.map.mem_at hz (Int.le_refl _) (hT.map.2 z hz)] at h1
  split at h1
  · unfold keyF at h1
    split at h1
    · simp at h1
    · have e : z.v = (whichL l z.f, atM state z.f) := by simpa using h1
      rw [e] at hq
      exact (mem_whichK hq).1
  · simp at h1
/-- What is wrong so far. -/
def farE (l : List PieceD) (k : Int) (out : List (PieceG Key)) : Int := if out.any (farP l k) = true then 5 else 0
theorem farE_nil : farE l k [] = 0 := rfl
theorem farE_near (h : nearB (valOf l k v.1) = true) {c : Int} : farE l k (out ++ [⟨a, c, v⟩]) = farE l k out := by
  unfold farE
  have : farP l k ⟨a, c, v⟩ = false := by simp [farP, farB, h]
  rw [List.any_append]
  simp [this]
theorem farE_far (h : nearB (valOf l k v.1) = false) {c : Int} : farE l k (out ++ [⟨a, c, v⟩]) = 5 := by
  unfold farE
  have : farP l k ⟨a, c, v⟩ = true := by simp [farP, farB, h]
  rw [List.any_append]
  simp [this]
theorem farE_grow {c d : Int} : farE l k (o ++ [⟨c, d, v⟩]) = farE l k (o ++ [⟨c, a, v⟩]) := by
  unfold farE
  rw [List.any_append, List.any_append]
  rfl
theorem farE_again {c d : Int} (h : z.v = v) : farE l k (o ++ [z] ++ [⟨a, c, v⟩]) = farE l k (o ++ [⟨z.f, d, z.v⟩]) := by
  unfold farE
  rw [List.any_append, List.any_append, List.any_append]
  subst h
  simp [farP, Bool.or_assoc]
/-- Two states are the same as the cells tell them. -/
theorem state_same {s t : Option Int} : (s.getD 0 = t.getD 0 ∧ s.isSome = t.isSome) ↔ s = t := by
  cases s <;> cases t <;> simp
end
/-- What Cells tells, out of what was kept. -/
theorem cells_tell {state l : List PieceD} {k : Int} {U : List (PieceG Key)} (hU : MapG U) (hk : ∀ t, atG U t = keyF state l t) : CellsTell state l k (if farE l k U = 0 then (if 200 < U.length then 2 else 0) else farE l k U) (if farE l k U = 0 then (if 200 < U.length then [] else U.map (toCell l k)) else []) := by
  refine ⟨U, hU, hk, ?_, ?_, ?_⟩
  · unfold farE
    by_cases h : U.any (farP l k) = true
    · rw [if_pos h, if_neg (by simp), if_pos h]
    · rw [if_neg h, if_pos rfl, if_neg h]
  · intro h
    by_cases h1 : farE l k U = 0
    · rw [if_pos h1] at h ⊢
      by_cases h2 : 200 < U.length
      · rw [if_pos h2] at h; simp at h
      · rw [if_neg h2]
    · rw [if_neg h1] at h; exact absurd h h1
  · intro h
    by_cases h1 : farE l k U = 0
    · rw [if_pos h1] at h ⊢
      by_cases h2 : 200 < U.length
      · rw [if_pos h2]
      · rw [if_neg h2] at h; exact absurd rfl h
    · rw [if_neg h1]
end Go.Proofs.YtdpibehpmghghaaDoor
