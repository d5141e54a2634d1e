/- Several texts in one: IvlMinus, IvlLaw1, LawLists. -/
import Derived.Test.YtdpibehpmghghaaBde5c343c550
import Derived.Test.YtdpibehpmghghaaBd6a3dbd6c91
import Derived.Test.YtdpibehpmghghaaBd65f6cfb29a
/- The walks of Meet and Minus. -/
namespace Go.Proofs.Ytdpibehpmghghaa
open Go.RowKit Go.Shelf

set_option maxRecDepth 100000 in
set_option maxHeartbeats 2000000 in
theorem meetS_any (A B : Option Addr) (c d : Nat) (a b : List IvlD) (w : World) (hA : IvlsAt w A c a) (hB : IvlsAt w B d b) :
    Calls Try.prog 13 #[.slice A a.length c, .slice B b.length d] w (SetOut (SetsSay opAnd a b) w) := by
  have hBo := both_any A B c d a b w hA hB
  by_cases h0 : bothErr a b = 0
  case neg =>
    have hd : (bothErr a b != 0) = true := by simpa using h0
    have HS : Hid (SetsSay opAnd a b (bothErr a b) []) := Lib.hid (bothErr_bad h0)
    clear h0 hA hB
    obtain ⟨er, her⟩ : ∃ er, bothErr a b = er := ⟨_, rfl⟩
    rw [her] at hBo hd HS
    clear her
    go_enter Try.func13, Try.ntmps13
    go_wp2_with (go_at_call 30; refine hBo.mono ?_; rintro e w1 ⟨rfl, hb⟩)
    refine bodyPost_ret (v := .tuple #[.slice none 0 0, .int .i64 er]) (by simp [results, Try.results13]) rfl ?_
    exact ⟨er, [], none, 0, HS, rfl, .nil, hb⟩
  case pos =>
    rw [h0] at hBo
    obtain ⟨ha, hb⟩ := bothErr_zero h0
    obtain ⟨hla, hoa⟩ := setErr_zero ha
    obtain ⟨hlb, hob⟩ := setErr_zero hb
    have HA := Lib.hid hA; have HB := Lib.hid hB; have HEA := Lib.hid ha; have HEB := Lib.hid hb; have HOA := Lib.hid hoa; have HOB := Lib.hid hob
    clear h0 ha hb hA hB hoa hob
    go_enter Try.func13, Try.ntmps13
    go_wp2_with (go_at_call 30; refine hBo.mono ?_; rintro e w1 ⟨rfl, hb1⟩)
    refine (meet_any A B c d a b _ (HA.out.ext hb1) (HB.out.ext hb1) HOA.out.norm HOB.out.norm (by omega) (by omega)).mono ?_
    rintro e w7 ⟨A7, c7, out, HO, rfl, hI7, hb7⟩
    clear hBo
    go_wp2_with fail
    refine (done_any (op := opAnd) A7 c7 w7 (hI7.since hb1.size) HEA.out HEB.out HO.out.1 HO.out.2).mono ?_
    rintro e w8 ⟨er, out', A8, c8, HS, rfl, hI8, hb8⟩
    go_wp2_with fail
    refine bodyPost_ret (v := .tuple #[.slice A8 out'.length c8, .int .i64 er]) (by simp [results, Try.results13]) rfl ?_
    exact ⟨er, out', A8, c8, HS, rfl, hI8, ext_trans (ext_trans hb1 hb7) hb8⟩

theorem ranged_i64 {out : List IvlD} (hn : NormL out) (h : ∀ t, hasB out t = true → -1000000000 ≤ t ∧ t < 1000000000) : ∀ x, x ∈ out → I64 x.f ∧ I64 x.t := fun x hx => by
  have hxl := hn.2 x hx
  have h1 := h x.f (hn.at_ hx (Int.le_refl _) hxl)
  have h2 := h (x.t - 1) (hn.at_ hx (by omega) (by omega))
  unfold I64
  omega
theorem minus_has {a b r o : List IvlD} (ha : SetOk a) (hr : ∀ t, hasB r t = true ↔ -1000000000 ≤ t ∧ t < 1000000000 ∧ ¬ hasB b t = true) (ho : ∀ t, hasB o t = (hasB a t && hasB r t)) (t : Int) : hasB o t = opNot (hasB a t) (hasB b t) := by
  rw [ho]
  unfold opNot
  cases h1 : hasB a t
  · rfl
  · have h2 := ha.inside h1
    rw [Bool.true_and, Bool.true_and, Bool.eq_iff_iff, hr t]
    simp only [Bool.not_eq_true']
    constructor
    · intro h; simpa using h.2.2
    · intro h; exact ⟨h2.1, h2.2, by simpa using h⟩
theorem Gaps.ranged {b out : List IvlD} {k : Nat} {m : Int} (h : Gaps b k m out) : ∀ t, hasB out t = true → -1000000000 ≤ t ∧ t < 1000000000 := fun t ht => by
  have h1 := (h.has t).1 ht
  have := h.m1
  omega

set_option maxRecDepth 100000 in
set_option maxHeartbeats 4000000 in
theorem minus_any (A B : Option Addr) (c d : Nat) (a b : List IvlD) (w : World) (hA : IvlsAt w A c a) (hB : IvlsAt w B d b) :
    Calls Try.prog 14 #[.slice A a.length c, .slice B b.length d] w (SetOut (SetsSay opNot a b) w) := by
  have hBo := both_any A B c d a b w hA hB
  by_cases h0 : bothErr a b = 0
  case neg =>
    have hd : (bothErr a b != 0) = true := by simpa using h0
    have HS : Hid (SetsSay opNot a b (bothErr a b) []) := Lib.hid (bothErr_bad h0)
    clear h0 hA hB
    obtain ⟨er, her⟩ : ∃ er, bothErr a b = er := ⟨_, rfl⟩
    rw [her] at hBo hd HS
    clear her
    go_enter Try.func14, Try.ntmps14
    go_wp2_with (go_at_call 30; refine hBo.mono ?_; rintro e w1 ⟨rfl, hb⟩)
    refine bodyPost_ret (v := .tuple #[.slice none 0 0, .int .i64 er]) (by simp [results, Try.results14]) rfl ?_
    exact ⟨er, [], none, 0, HS, rfl, .nil, hb⟩
  case pos =>
    rw [h0] at hBo
    obtain ⟨ha, hb⟩ := bothErr_zero h0
    obtain ⟨hla, hoa⟩ := setErr_zero ha
    obtain ⟨hlb, hob⟩ := setErr_zero hb
    have mB := hB.len
    have HA := Lib.hid hA; have HB := Lib.hid hB; have HEA := Lib.hid ha; have HEB := Lib.hid hb; have HOA := Lib.hid hoa; have HOB := Lib.hid hob
    clear h0 ha hb hA hB hoa hob
    obtain ⟨i0, hi, hz0, hz1, hz2⟩ := info_ivl2
    go_enter Try.func14, Try.ntmps14
    go_wp2_with (go_at_call 30; refine hBo.mono ?_; rintro e w1 ⟨rfl, hb1⟩)
    clear hBo
    have hw1 := hb1.size
    have HB1 := Lib.hid (HB.out.ext hb1)
    have HW := Lib.hid hb1
    go_loopw [7, 8, 19] (fun u v v' wr => ∃ (k : Nat) (m : Int) (out : List IvlD), k ≤ b.length ∧ v = .int .i64 m ∧ v' = .int .i64 k ∧ Hid (Gaps b k m out) ∧ out.length ≤ k ∧ Own ivlC 2 wr w1.heap.size 29 u out ∧ Below w1.heap.size w1 wr) (fun _ _ v' _ => b.length - (intOf v').toNat)
    case atStart => exact ⟨0, -1000000000, [], Nat.zero_le _, rfl, rfl, Lib.hid (Gaps.start HOB.out), Nat.le_refl _, Own.nil, Below.refl _ _⟩
    case round =>
      clear hb1
      obtain ⟨k, m, out, hk, rfl, rfl, HG, hol, hO, hbl⟩ := hrel
      have hwr := hbl.size
      obtain ⟨Ao, co, rfl⟩ := hO.form
      by_cases hlt : k < b.length
      case neg =>
        obtain rfl : k = b.length := by omega
        have hcl : out.length + 1 ≤ 1000000 := by omega
        by_cases hm : m < 1000000000
        case pos =>
          have d3 : decide (m < 1000000000) = true := by simpa using hm
          have HF := Lib.hid (HG.out.fin (Nat.le_refl _) rfl)
          rw [if_pos hm] at HF
          clear hm
          go_wp2_with (at_builtin; refine wpList_append_lie (enc := ivlC) rfl (.tmp 39) (.tmp 42) 22 rfl w1.heap.size 29 i0 _ 2 16 Try.underlying22 hi hz0 hz1 hz2 rfl (by decide) _ out ⟨m, 1000000000⟩ rfl hO #[.int .i64 m, .int .i64 1000000000] rfl wr.heap.size rfl rfl rfl two_one hcl (by decide) hwr ?_; intro gn cap w6 hown6 hbb hkp hgn)
          obtain ⟨Ax, cx, ex, hIo⟩ := own_ivls hown6 (ranged_i64 HF.out.1 fun t ht => by have := (HF.out.2 t).1 ht; omega)
          have hb6 : Below w.heap.size w w6 := HW.out.trans ((hbl.trans hbb).mono hw1)
          have hM := meet_any A Ax c cx a _ w6 (HA.out.ext hb6) hIo HOA.out.norm HF.out.1 (by omega) (by simp; omega)
          rw [← ex] at hM
          clear ex hIo
          refine hM.mono ?_
          rintro e w7 ⟨A7, c7, o7, HO, rfl, hI7, hb7⟩
          clear hM
          have HO2 : Hid (∀ t, hasB o7 t = opNot (hasB a t) (hasB b t)) := Lib.hid fun t => minus_has HOA.out HF.out.2 HO.out.2 t
          go_wp2_with fail
          refine (done_any (op := opNot) A7 c7 w7 (hI7.since hb6.size) HEA.out HEB.out HO.out.1 HO2.out).mono ?_
          rintro e w8 ⟨er, out', A8, c8, HS, rfl, hI8, hb8⟩
          go_wp2_with fail
          refine bodyPost_ret (v := .tuple #[.slice A8 out'.length c8, .int .i64 er]) (by simp [results, Try.results14]) rfl ?_
          exact ⟨er, out', A8, c8, HS, rfl, hI8, ext_trans (ext_trans hb6 hb7) hb8⟩
        case neg =>
          have d3 : decide (m < 1000000000) = false := by simpa using hm
          have HF := Lib.hid (HG.out.fin (Nat.le_refl _) rfl)
          rw [if_neg hm] at HF
          clear hm
          obtain ⟨Ax, cx, ex, hIo⟩ := own_ivls hO (ranged_i64 HF.out.1 fun t ht => by have := (HF.out.2 t).1 ht; omega)
          have hb6 : Below w.heap.size w wr := HW.out.trans (hbl.mono hw1)
          have hM := meet_any A Ax c cx a _ wr (HA.out.ext hb6) hIo HOA.out.norm HF.out.1 (by omega) (by omega)
          rw [← ex] at hM
          clear ex hIo
          go_wp2_with fail
          refine hM.mono ?_
          rintro e w7 ⟨A7, c7, o7, HO, rfl, hI7, hb7⟩
          clear hM
          have HO2 : Hid (∀ t, hasB o7 t = opNot (hasB a t) (hasB b t)) := Lib.hid fun t => minus_has HOA.out HF.out.2 HO.out.2 t
          go_wp2_with fail
          refine (done_any (op := opNot) A7 c7 w7 (hI7.since hb6.size) HEA.out HEB.out HO.out.1 HO2.out).mono ?_
          rintro e w8 ⟨er, out', A8, c8, HS, rfl, hI8, hb8⟩
          go_wp2_with fail
          refine bodyPost_ret (v := .tuple #[.slice A8 out'.length c8, .int .i64 er]) (by simp [results, Try.results14]) rfl ?_
          exact ⟨er, out', A8, c8, HS, rfl, hI8, ext_trans (ext_trans hb6 hb7) hb8⟩
      case pos =>
        obtain ⟨x, hx⟩ := get_lt hlt
        obtain ⟨bb, ob, rfl, hbb0, x0, x1⟩ := HB1.out.get hx
        rw [← hbl.cell (by exact hbb0)] at x0 x1
        have HX := Lib.hid hx
        clear hx
        have hcl : out.length + 1 ≤ 1000000 := by omega
        by_cases hm : m < x.f
        case pos =>
          have d3 : decide (m < x.f) = true := by simpa using hm
          have HG2 := Lib.hid (HG.out.step HOB.out HX.out rfl)
          rw [if_pos hm] at HG2
          clear hm
          obtain ⟨z0, z1, z2⟩ := (Blk.new wr 29 #[.int .i64 x.f, .int .i64 x.t]).facts
          have hO5 := hO.alloc (Obj.cells #[Value.int IntKind.i64 x.f, Value.int IntKind.i64 x.t] 29)
          have hb5 := ext_alloc hbl (Obj.cells #[Value.int IntKind.i64 x.f, Value.int IntKind.i64 x.t] 29)
          go_wp2_with (at_builtin; refine wpList_append_lie (enc := ivlC) rfl (.tmp 27) (.tmp 32) 22 rfl w1.heap.size 29 i0 _ 2 16 Try.underlying22 hi hz0 hz1 hz2 rfl (by decide) _ out ⟨m, x.f⟩ rfl hO5 #[.int .i64 m, .int .i64 x.f] rfl (wr.heap.size + 1) (by simp) rfl rfl two_one hcl (by decide) hb5.size ?_; intro gn cap w6 hown6 hbb hkp hgn; obtain ⟨q0, q1, q2⟩ := (hkp _ _ _ (Blk.new wr 29 #[.int .i64 x.f, .int .i64 x.t]) (hO.block_lt (Nat.le_refl _))).facts; clear z0 z1 z2)
          go_roundw
          case rel => exact ⟨k + 1, x.t, out ++ [⟨m, x.f⟩], by omega, rfl, by go_num, HG2, by simp; omega, by simpa using hown6, hb5.trans hbb⟩
          case measure => simp [intOf]; omega
        case neg =>
          have d3 : decide (m < x.f) = false := by simpa using hm
          have HG2 := Lib.hid (HG.out.step HOB.out HX.out rfl)
          rw [if_neg hm] at HG2
          clear hm
          have hO5 := hO.alloc (Obj.cells #[Value.int IntKind.i64 x.f, Value.int IntKind.i64 x.t] 29)
          have hb5 := ext_alloc hbl (Obj.cells #[Value.int IntKind.i64 x.f, Value.int IntKind.i64 x.t] 29)
          go_wp2_with fail
          go_roundw
          case rel => exact ⟨k + 1, x.t, out, by omega, rfl, by go_num, HG2, by omega, hO5, hb5⟩
          case measure => simp [intOf]; omega
end Go.Proofs.Ytdpibehpmghghaa
/- The walks of made and got, and of the law IvlHas. -/
namespace Go.Proofs.Ytdpibehpmghghaa
open Go.RowKit Go.Shelf

theorem IvlsAt.take {w : World} {A : Option Addr} {c : Nat} {l : List IvlD} (h : IvlsAt w A c l) (k : Nat) : IvlsAt w A c (l.take k) := ⟨by have := h.lc; simp; omega, h.cm, h.sl.take k⟩
theorem ivls_lit {w : World} {g : Nat} {a b : Int} (h : Blk w g 29 #[.int .i64 a, .int .i64 b]) (ha : I64 a) (hb : I64 b) : IvlsAt w (some ⟨g, 0, none⟩) 1 [⟨a, b⟩] := by
  refine ⟨Nat.le_refl _, by unfold maxLen; omega, g, 0, fun i x hx => ?_⟩
  match i, hx with
  | 0, hx =>
    obtain rfl : (⟨a, b⟩ : IvlD) = x := by simpa using hx
    exact ⟨rfl, h.lt, ⟨h.cell 0, h.cell 1⟩, ha, hb⟩
  | i + 1, hx => simp at hx
/-- A set is made. -/
def MadeOut (l : List IvlD) (w : World) (e : Ending) (w' : World) : Prop := ∃ A c out, Hid (∃ er, NormSay (l.take 60) er out) ∧ e = .returned (.slice A out.length c) ∧ IvlsAt w' A c out ∧ Below w.heap.size w w'
theorem made_of {l out : List IvlD} (h : ∃ er, NormSay (l.take 60) er out) : Of (hasB out) 60 out := by
  obtain ⟨er, h⟩ := h
  by_cases h0 : er = 0
  · obtain ⟨h1, _⟩ := h.of h0
    have h2 := h1.len
    exact ⟨h1.norm, fun _ => rfl, h1.near, by simp at h2; omega⟩
  · have e : out = [] := by
      unfold NormSay at h
      split at h
      · exact h.2
      · split at h
        · exact h.2
        · exact absurd h.1 h0
    rw [e]
    exact ⟨.nil, fun _ => rfl, fun x hx => by simp at hx, Nat.zero_le _⟩
set_option maxHeartbeats 1000000 in
theorem made_any (A : Option Addr) (c : Nat) (l : List IvlD) (w : World) (hI : IvlsAt w A c l) : Calls Try.prog 7 #[.slice A l.length c] w (MadeOut l w) := by
  have m1 := hI.len
  have hlc := hI.lc
  have hcm : c ≤ 9223372036854775807 := hI.cm
  have hN := ivlNorm_any A c (l.take 60) w (hI.take 60)
  by_cases h60 : 60 ≤ l.length
  · have hmin : min (60 : Int) (l.length : Int) = 60 := by omega
    have hlen : (l.take 60).length = 60 := by simp; omega
    have h60c : 60 ≤ c := by omega
    rw [hlen] at hN
    clear hlen hI
    go_enter Try.func7, Try.ntmps7
    go_wp2_with fail
    refine hN.mono ?_
    rintro e w1 ⟨er, out, A2, c2, HS, rfl, hI2, hb⟩
    go_wp2_with fail
    go_ret
    exact ⟨A2, c2, out, Lib.hid ⟨er, HS.out⟩, rfl, hI2, hb⟩
  · have hmin : min (60 : Int) (l.length : Int) = (l.length : Int) := by omega
    have hlen : (l.take 60).length = l.length := by simp; omega
    rw [hlen] at hN
    clear hlen hI
    go_enter Try.func7, Try.ntmps7
    go_wp2_with fail
    refine hN.mono ?_
    rintro e w1 ⟨er, out, A2, c2, HS, rfl, hI2, hb⟩
    go_wp2_with fail
    go_ret
    exact ⟨A2, c2, out, Lib.hid ⟨er, HS.out⟩, rfl, hI2, hb⟩
end Go.Proofs.Ytdpibehpmghghaa
/- The law ListsOwn (printed by genlists.py). -/
namespace Go.Proofs.Ytdpibehpmghghaa
open Go.RowKit Go.Shelf

theorem enters_unionL : Enters Try.prog 12 := enters_of Try.func12 (by kernel_rfl) rfl
theorem enters_meetL : Enters Try.prog 13 := enters_of Try.func13 (by kernel_rfl) rfl
theorem enters_minusL : Enters Try.prog 14 := enters_of Try.func14 (by kernel_rfl) rfl
theorem enters_cutL : Enters Try.prog 17 := enters_of Try.func17 (by kernel_rfl) rfl
theorem enters_keepL : Enters Try.prog 18 := enters_of Try.func18 (by kernel_rfl) rfl
theorem ivls_same (A B : Option Addr) (c d : Nat) (l : List IvlD) (w : World) (hA : IvlsAt w A c l) (hB : IvlsAt w B d l) :
    Calls Try.prog 22 #[.slice A l.length c, .slice B l.length d] w fun e w' => e = .returned (.bool true) ∧ Below w.heap.size w w' :=
  (equalIvls_any A B c d l l w hA.sl hB.sl (Nat.le_trans hA.lc hA.cm) (Nat.le_trans hB.lc hB.cm)).mono fun _ _ ⟨h1, h2⟩ => ⟨by rw [h1]; simp, h2⟩
theorem pieces_same (A B : Option Addr) (c d : Nat) (l : List PieceD) (w : World) (hA : PiecesAt w A c l) (hB : PiecesAt w B d l) :
    Calls Try.prog 23 #[.slice A l.length c, .slice B l.length d] w fun e w' => e = .returned (.bool true) ∧ Below w.heap.size w w' :=
  (equalPieces_any A B c d l l w hA.sl hB.sl (Nat.le_trans hA.lc hA.cm) (Nat.le_trans hB.lc hB.cm)).mono fun _ _ ⟨h1, h2⟩ => ⟨by rw [h1]; simp, h2⟩
theorem IvlsAt.front {w : World} {A : Option Addr} {c : Nat} {l m : List IvlD} (h : IvlsAt w A c (l ++ m)) : IvlsAt w A c l := by
  have := h.take l.length
  rwa [List.take_left] at this
theorem PiecesAt.front {w : World} {A : Option Addr} {c : Nat} {l m : List PieceD} (h : PiecesAt w A c (l ++ m)) : PiecesAt w A c l := by
  have := h.take l.length
  rwa [List.take_left] at this
theorem mapErr_len {m : List PieceD} (h : mapErr m = 0) : m.length ≤ 200 := Nat.le_of_not_lt (mapErr_zero h).1
set_option maxRecDepth 100000 in
set_option maxHeartbeats 16000000 in
theorem listsOwn_calls (A0 : Option Addr) (c0 : Nat) (x : List IvlD) {w0 : World} (hI0 : IvlsAt w0 A0 c0 x) (A1 : Option Addr) (c1 : Nat) (y : List IvlD) (hI1 : IvlsAt w0 A1 c1 y) (A2 : Option Addr) (c2 : Nat) (l : List PieceD) (hI2 : PiecesAt w0 A2 c2 l) (p : PieceD) (hp : I64 p.f ∧ I64 p.t ∧ I64 p.v) :
    Calls Try.prog 3 #[.slice A0 x.length c0, .slice A1 y.length c1, .slice A2 l.length c2, pieceV p] w0 fun e w' => e = .returned (.bool true) ∧ Below w0.heap.size w0 w' := by
  have H0 := Lib.hid hI0; have H1 := Lib.hid hI1; have H2 := Lib.hid hI2
  have e0 := enters_unionL; have e1 := enters_meetL; have e2 := enters_minusL; have e3 := enters_cutL; have e4 := enters_keepL
  unfold Enters at e0 e1 e2 e3 e4
  have m0 := hI0.len; have m1 := hI1.len; have m2 := hI2.len
  clear hI0 hI1 hI2 hp
  go_enter Try.func3, Try.ntmps3
  go_wp2_with fail
  obtain ⟨wb, hwb⟩ : ∃ wb, wb = w0.alloc (Obj.cells #[.int .i64 p.f, .int .i64 p.t, .int .i64 p.v] 25) := ⟨_, rfl⟩
  have HP : Hid (Blk wb w0.heap.size 25 #[.int .i64 p.f, .int .i64 p.t, .int .i64 p.v]) := Lib.hid (by rw [hwb]; exact Blk.new _ _ _)
  have HBB : Hid (Below w0.heap.size w0 wb) := Lib.hid (by rw [hwb]; exact ext_alloc (Below.refl _ w0) _)
  have HZB : Hid (w0.heap.size < wb.heap.size) := Lib.hid (by rw [hwb]; simp)
  rw [← hwb]
  clear hwb
  refine (begunMap_any _).mono ?_
  rintro e w1 ⟨rfl, hb1⟩
  go_wp2_with fail
  refine (made_any A0 c0 x _ ((H0.out.ext HBB.out).ext hb1)).mono ?_
  rintro e w2 ⟨Aa, ca, a, HA, rfl, hIa, hb2⟩
  have hb2 := ext_trans hb1 hb2
  have hal := (made_of HA.out).len
  clear hb1
  have hr := roomy_ivl Aa ca a ⟨7, 7⟩ w2 hIa (by omega) (by simp [I64])
  rw [show ivlV ⟨7, 7⟩ = .agg #[.int .i64 7, .int .i64 7] from rfl] at hr
  go_wp2_with fail
  refine hr.mono ?_
  rintro e w3 ⟨ga, ka, rfl, hka, hma, hRa, hb3⟩
  have hb3 := ext_trans hb2 hb3
  clear hb2 hr hIa
  go_wp2_with fail
  refine (made_any A1 c1 y _ ((H1.out.ext HBB.out).ext hb3)).mono ?_
  rintro e w4 ⟨Ab, cb, b, HB, rfl, hIb, hb4⟩
  have hRa := hRa.ext hb4
  have hb4 := ext_trans hb3 hb4
  have hbl := (made_of HB.out).len
  clear hb3
  have hr := roomy_ivl Ab cb b ⟨7, 7⟩ w4 hIb (by omega) (by simp [I64])
  rw [show ivlV ⟨7, 7⟩ = .agg #[.int .i64 7, .int .i64 7] from rfl] at hr
  go_wp2_with fail
  refine hr.mono ?_
  rintro e w5 ⟨gb, kb, rfl, hkb, hmb, hRb, hb5⟩
  have hRa := hRa.ext hb5
  have hb5 := ext_trans hb4 hb5
  clear hb4 hr hIb
  go_wp2_with fail
  refine (built_any A2 c2 l _ ((H2.out.ext HBB.out).ext hb5)).mono ?_
  rintro e w6 ⟨Am, cm, m, HM, rfl, hIm, hb6⟩
  have hRa := hRa.ext hb6
  have hRb := hRb.ext hb6
  have hb6 := ext_trans hb5 hb6
  have hml := mapErr_len HM.out.ok
  clear hb5
  have hr := roomy_piece Am cm m ⟨0, 0, 7⟩ w6 hIm (by omega) (by simp [I64])
  rw [show pieceV ⟨0, 0, 7⟩ = .agg #[.int .i64 0, .int .i64 0, .int .i64 7] from rfl] at hr
  go_wp2_with fail
  refine hr.mono ?_
  rintro e w7 ⟨gm, km, rfl, hkm, hmm, hRm, hb7⟩
  have hRa := hRa.ext hb7
  have hRb := hRb.ext hb7
  have hb7 := ext_trans hb6 hb7
  clear hb6 hr hIm
  go_wp2_with fail
  refine (ivlClone_any _ ka a _ hRa.front (by omega)).mono ?_
  rintro e w8 ⟨va, rfl, hCa, hb8⟩
  have hRa := hRa.ext hb8
  have hRb := hRb.ext hb8
  have hRm := hRm.ext hb8
  have hb8 := ext_trans hb7 hb8
  clear hb7
  go_wp2_with fail
  refine (ivlClone_any _ kb b _ hRb.front (by omega)).mono ?_
  rintro e w9 ⟨vb, rfl, hCb, hb9⟩
  have hRa := hRa.ext hb9
  have hRb := hRb.ext hb9
  have hRm := hRm.ext hb9
  have hCa := hCa.ext hb9
  have hb9 := ext_trans hb8 hb9
  clear hb8
  go_wp2_with fail
  refine (pieceClone_any _ km m _ hRm.front (by omega)).mono ?_
  rintro e wc ⟨vm, rfl, hCm, hbc⟩
  have hRa := hRa.ext hbc
  have hRb := hRb.ext hbc
  have hRm := hRm.ext hbc
  have hCa := hCa.ext hbc
  have hCb := hCb.ext hbc
  have hbc := ext_trans hb9 hbc
  clear hb9
  obtain ⟨Xa, da, rfl, hXa⟩ := own_ivls hCa (fun z hz => by obtain ⟨k, hk⟩ := List.getElem?_of_mem hz; exact hRa.front.i64 hk)
  obtain ⟨Xb, db, rfl, hXb⟩ := own_ivls hCb (fun z hz => by obtain ⟨k, hk⟩ := List.getElem?_of_mem hz; exact hRb.front.i64 hk)
  obtain ⟨Xm, dm, rfl, hXm⟩ := own_pieces hCm (fun z hz => by obtain ⟨k, hk⟩ := List.getElem?_of_mem hz; exact hRm.front.i64 hk)
  have RA := Lib.hid hRa; have RB := Lib.hid hRb; have RM := Lib.hid hRm
  have XA := Lib.hid hXa.toIvlsAt; have XB := Lib.hid hXb.toIvlsAt; have XM := Lib.hid hXm.toPiecesAt
  have HPC := Lib.hid (HP.out.ext hbc)
  have HBC := Lib.hid (HBB.out.trans (hbc.mono (Nat.le_of_lt HZB.out)))
  clear hRa hRb hRm hXa hXb hXm hCa hCb hCm hbc hka hma hkb hmb hkm hmm
  go_wp2_with fail
  obtain ⟨wl, hwl⟩ : ∃ wl, wl = wc.alloc (Obj.cells #[.func (.func 12) #[] #[], .func (.func 13) #[] #[], .func (.func 14) #[] #[]] 33) := ⟨_, rfl⟩
  have B0 : Blk wl wc.heap.size 33 #[.func (.func 12) #[] #[], .func (.func 13) #[] #[], .func (.func 14) #[] #[]] := by rw [hwl]; exact Blk.new _ _ _
  have hbl0 : Below wc.heap.size wc wl := by rw [hwl]; exact ext_alloc (Below.refl _ wc) _
  rw [← hwl]
  clear hwl
  have HBL := Lib.hid hbl0
  clear hbl0
  go_loopw [51] (fun v wr => ∃ k : Nat, k ≤ 3 ∧ v = .int .i64 k ∧ Below wl.heap.size wl wr) (fun v _ => 3 - (intOf v).toNat)
  case atStart => exact ⟨0, by omega, rfl, Below.refl _ _⟩
  case round =>
    obtain ⟨k, hk, rfl, hb⟩ := hrel
    obtain ⟨q1, q2, q3⟩ := (B0.ext hb).facts
    have hbw := ext_trans HBL.out hb
    by_cases hlt : k < 3
    case pos =>
      have hk3 : k = 0 ∨ k = 1 ∨ k = 2 := by omega
      rcases hk3 with rfl | rfl | rfl
      · clear hk hlt
        go_wp2_with fail
        refine (union_any _ _ ka kb a b _ (RA.out.front.ext hbw) (RB.out.front.ext hbw)).mono ?_
        rintro e w1 ⟨er, o, Ao, co, HS, rfl, hN, hb1⟩
        have hs := spoil_ivl Ao co o.length _ o ⟨1, 0⟩ w1 hN.own hb1.size
        rw [show ivlV ⟨1, 0⟩ = .agg #[.int .i64 1, .int .i64 0] from rfl] at hs
        clear q1 q2 q3
        go_wp2_with fail
        refine hs.mono ?_
        rintro e w2 ⟨rfl, hb2⟩
        have hbs := ext_trans hb (hb1.trans hb2)
        clear hs hb1 hb2 hN HS
        go_wp2_with fail
        go_roundw
        case rel => exact ⟨1, by omega, by go_num, hbs⟩
        case measure => simp [intOf]
      · clear hk hlt
        go_wp2_with fail
        refine (meetS_any _ _ ka kb a b _ (RA.out.front.ext hbw) (RB.out.front.ext hbw)).mono ?_
        rintro e w1 ⟨er, o, Ao, co, HS, rfl, hN, hb1⟩
        have hs := spoil_ivl Ao co o.length _ o ⟨1, 0⟩ w1 hN.own hb1.size
        rw [show ivlV ⟨1, 0⟩ = .agg #[.int .i64 1, .int .i64 0] from rfl] at hs
        clear q1 q2 q3
        go_wp2_with fail
        refine hs.mono ?_
        rintro e w2 ⟨rfl, hb2⟩
        have hbs := ext_trans hb (hb1.trans hb2)
        clear hs hb1 hb2 hN HS
        go_wp2_with fail
        go_roundw
        case rel => exact ⟨2, by omega, by go_num, hbs⟩
        case measure => simp [intOf]
      · clear hk hlt
        go_wp2_with fail
        refine (minus_any _ _ ka kb a b _ (RA.out.front.ext hbw) (RB.out.front.ext hbw)).mono ?_
        rintro e w1 ⟨er, o, Ao, co, HS, rfl, hN, hb1⟩
        have hs := spoil_ivl Ao co o.length _ o ⟨1, 0⟩ w1 hN.own hb1.size
        rw [show ivlV ⟨1, 0⟩ = .agg #[.int .i64 1, .int .i64 0] from rfl] at hs
        clear q1 q2 q3
        go_wp2_with fail
        refine hs.mono ?_
        rintro e w2 ⟨rfl, hb2⟩
        have hbs := ext_trans hb (hb1.trans hb2)
        clear hs hb1 hb2 hN HS
        go_wp2_with fail
        go_roundw
        case rel => exact ⟨3, by omega, by go_num, hbs⟩
        case measure => simp [intOf]
    case neg =>
      obtain rfl : k = 3 := by omega
      have HBW := Lib.hid hbw
      clear hb hbw q1 q2 q3 B0
      go_wp2_with fail
      refine (ivlNorm_any _ ka a _ (RA.out.front.ext HBW.out)).mono ?_
      rintro e w1 ⟨er, o, Ao, co, HS, rfl, hN, hb1⟩
      have hs := spoil_ivl Ao co o.length _ o ⟨2, 0⟩ w1 hN.own hb1.size
      rw [show ivlV ⟨2, 0⟩ = .agg #[.int .i64 2, .int .i64 0] from rfl] at hs
      go_wp2_with fail
      refine hs.mono ?_
      rintro e w2 ⟨rfl, hb2⟩
      have hbs := ext_trans HBW.out (hb1.trans hb2)
      clear hs hb1 hb2 hN HS
      go_wp2_with fail
      obtain ⟨wk, hwk⟩ : ∃ wk, wk = w2.alloc (Obj.cells #[.func (.func 17) #[] #[], .func (.func 18) #[] #[]] 39) := ⟨_, rfl⟩
      have B0 : Blk wk w2.heap.size 39 #[.func (.func 17) #[] #[], .func (.func 18) #[] #[]] := by rw [hwk]; exact Blk.new _ _ _
      have hbk : Below wc.heap.size wc wk := by rw [hwk]; exact ext_alloc hbs _
      rw [← hwk]
      clear hwk hbs
      have HBK := Lib.hid hbk
      clear hbk
      go_loopw [76] (fun v wr => ∃ k : Nat, k ≤ 2 ∧ v = .int .i64 k ∧ Below wk.heap.size wk wr) (fun v _ => 2 - (intOf v).toNat)
      case atStart => exact ⟨0, by omega, rfl, Below.refl _ _⟩
      case round =>
        obtain ⟨k, hk, rfl, hb⟩ := hrel
        obtain ⟨q1, q2, q3⟩ := (B0.ext hb).facts
        have hbw := ext_trans HBK.out hb
        by_cases hlt : k < 2
        case pos =>
          have hk3 : k = 0 ∨ k = 1 := by omega
          rcases hk3 with rfl | rfl
          · clear hk hlt
            go_wp2_with fail
            refine (imapCut_any _ _ km ka m a _ (RM.out.front.ext hbw) (RA.out.front.ext hbw)).mono ?_
            rintro e w1 ⟨er, o, Ao, co, HS, rfl, hN, hb1⟩
            have hs := spoil_piece Ao co o.length _ o ⟨3, 0, 0⟩ w1 hN.own hb1.size
            rw [show pieceV ⟨3, 0, 0⟩ = .agg #[.int .i64 3, .int .i64 0, .int .i64 0] from rfl] at hs
            clear q1 q2 q3
            go_wp2_with fail
            refine hs.mono ?_
            rintro e w2 ⟨rfl, hb2⟩
            have hbs := ext_trans hb (hb1.trans hb2)
            clear hs hb1 hb2 hN HS
            go_wp2_with fail
            go_roundw
            case rel => exact ⟨1, by omega, by go_num, hbs⟩
            case measure => simp [intOf]
          · clear hk hlt
            go_wp2_with fail
            refine (imapKeep_any _ _ km ka m a _ (RM.out.front.ext hbw) (RA.out.front.ext hbw)).mono ?_
            rintro e w1 ⟨er, o, Ao, co, HS, rfl, hN, hb1⟩
            have hs := spoil_piece Ao co o.length _ o ⟨3, 0, 0⟩ w1 hN.own hb1.size
            rw [show pieceV ⟨3, 0, 0⟩ = .agg #[.int .i64 3, .int .i64 0, .int .i64 0] from rfl] at hs
            clear q1 q2 q3
            go_wp2_with fail
            refine hs.mono ?_
            rintro e w2 ⟨rfl, hb2⟩
            have hbs := ext_trans hb (hb1.trans hb2)
            clear hs hb1 hb2 hN HS
            go_wp2_with fail
            go_roundw
            case rel => exact ⟨2, by omega, by go_num, hbs⟩
            case measure => simp [intOf]
        case neg =>
          obtain rfl : k = 2 := by omega
          obtain ⟨p1, p2, p3⟩ := (HPC.out.ext hbw).facts
          have HBW := Lib.hid hbw
          clear hb hbw q1 q2 q3 B0
          go_wp2_with fail
          refine (imapPut_any _ km m p _ (RM.out.front.ext HBW.out)).mono ?_
          rintro e w1 ⟨er, o, Ao, co, HS, rfl, hN, hb1⟩
          have hs := spoil_piece Ao co o.length _ o ⟨4, 0, 0⟩ w1 hN.own hb1.size
          rw [show pieceV ⟨4, 0, 0⟩ = .agg #[.int .i64 4, .int .i64 0, .int .i64 0] from rfl] at hs
          clear p1 p2 p3
          go_wp2_with fail
          refine hs.mono ?_
          rintro e w2 ⟨rfl, hb2⟩
          have hbs := ext_trans HBW.out (hb1.trans hb2)
          clear hs hb1 hb2 hN HS
          have HBW := Lib.hid hbs
          clear hbs
          go_wp2_with fail
          refine (imapMerge_any _ _ km km m m 1 _ (RM.out.front.ext HBW.out) (RM.out.front.ext HBW.out)).mono ?_
          rintro e w1 ⟨er, o, Ao, co, HS, rfl, hN, hb1⟩
          have hs := spoil_piece Ao co o.length _ o ⟨5, 0, 0⟩ w1 hN.own hb1.size
          rw [show pieceV ⟨5, 0, 0⟩ = .agg #[.int .i64 5, .int .i64 0, .int .i64 0] from rfl] at hs
          go_wp2_with fail
          refine hs.mono ?_
          rintro e w2 ⟨rfl, hb2⟩
          have hbs := ext_trans HBW.out (hb1.trans hb2)
          clear hs hb1 hb2 hN HS
          go_wp2_with fail
          refine (ivls_same _ _ ka da a _ (RA.out.front.ext hbs) (XA.out.ext hbs)).mono ?_
          rintro e w3 ⟨rfl, hb3⟩
          have hbs := ext_trans hbs hb3
          clear hb3
          go_wp2_with fail
          refine (ivls_same _ _ kb db b _ (RB.out.front.ext hbs) (XB.out.ext hbs)).mono ?_
          rintro e w3 ⟨rfl, hb3⟩
          have hbs := ext_trans hbs hb3
          clear hb3
          go_wp2_with fail
          refine (pieces_same _ _ km dm m _ (RM.out.front.ext hbs) (XM.out.ext hbs)).mono ?_
          rintro e w3 ⟨rfl, hb3⟩
          have hbs := ext_trans hbs hb3
          clear hb3
          have hk := fun W h => kept_ivl ga ka a ⟨7, 7⟩ W h
          rw [show ivlV ⟨7, 7⟩ = .agg #[.int .i64 7, .int .i64 7] from rfl] at hk
          have HK := Lib.hid hk
          clear hk
          go_wp2_with fail
          refine (HK.out _ (RA.out.ext hbs)).mono ?_
          rintro e w3 ⟨rfl, hb3⟩
          have hbs := ext_trans hbs hb3
          clear hb3
          have hk := fun W h => kept_ivl gb kb b ⟨7, 7⟩ W h
          rw [show ivlV ⟨7, 7⟩ = .agg #[.int .i64 7, .int .i64 7] from rfl] at hk
          have HK := Lib.hid hk
          clear hk
          go_wp2_with fail
          refine (HK.out _ (RB.out.ext hbs)).mono ?_
          rintro e w3 ⟨rfl, hb3⟩
          have hbs := ext_trans hbs hb3
          clear hb3
          have hk := fun W h => kept_piece gm km m ⟨0, 0, 7⟩ W h
          rw [show pieceV ⟨0, 0, 7⟩ = .agg #[.int .i64 0, .int .i64 0, .int .i64 7] from rfl] at hk
          have HK := Lib.hid hk
          clear hk
          go_wp2_with fail
          refine (HK.out _ (RM.out.ext hbs)).mono ?_
          rintro e w3 ⟨rfl, hb3⟩
          have hbs := ext_trans hbs hb3
          clear hb3
          go_wp2_with fail
          go_ret
          exact ⟨rfl, HBC.out.trans (hbs.mono (by have := HBC.out.size; exact this))⟩
end Go.Proofs.Ytdpibehpmghghaa
