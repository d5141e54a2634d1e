/- Several texts in one: IvlMinus, IvlLaw1. -/
import Derived.Test.YtdpibehpmghghaaBdb7881c2570
/- The walks of Meet and Minus. -/
namespace Go.Proofs.Ytdpibehpmghghaa
open Go.RowKit Go.Shelf

set_option maxRecDepth 100000 in
set_option maxHeartbeats 2000000 in
theorem meetS_any (A B : Option Addr) (c d : Nat) (a b : List IvlD) (w : World) (hA : IvlsAt w A c a) (hB : IvlsAt w B d b) :
    Calls Try.prog 13 #[.slice A a.length c, .slice B b.length d] w (SetOut (SetsSay opAnd a b) w) := by
  have hBo := both_any A B c d a b w hA hB
  by_cases h0 : bothErr a b = 0
  case neg =>
    have hd : (bothErr a b != 0) = true := by simpa using h0
    have HS : Hid (SetsSay opAnd a b (bothErr a b) []) := Lib.hid (bothErr_bad h0)
    clear h0 hA hB
    obtain ⟨er, her⟩ : ∃ er, bothErr a b = er := ⟨_, rfl⟩
    rw [her] at hBo hd HS
    clear her
    go_enter Try.func13, Try.ntmps13
    go_wp2_with (go_at_call 30; refine hBo.mono ?_; rintro e w1 ⟨rfl, hb⟩)
    refine bodyPost_ret (v := .tuple #[.slice none 0 0, .int .i64 er]) (by simp [results, Try.results13]) rfl ?_
    exact ⟨er, [], none, 0, HS, rfl, .nil, hb⟩
  case pos =>
    rw [h0] at hBo
    obtain ⟨ha, hb⟩ := bothErr_zero h0
    obtain ⟨hla, hoa⟩ := setErr_zero ha
    obtain ⟨hlb, hob⟩ := setErr_zero hb
    have HA := Lib.hid hA; have HB := Lib.hid hB; have HEA := Lib.hid ha; have HEB := Lib.hid hb; have HOA := Lib.hid hoa; have HOB := Lib.hid hob
    clear h0 ha hb hA hB hoa hob
    go_enter Try.func13, Try.ntmps13
    go_wp2_with (go_at_call 30; refine hBo.mono ?_; rintro e w1 ⟨rfl, hb1⟩)
    refine (meet_any A B c d a b _ (HA.out.ext hb1) (HB.out.ext hb1) HOA.out.norm HOB.out.norm (by omega) (by omega)).mono ?_
    rintro e w7 ⟨A7, c7, out, HO, rfl, hI7, hb7⟩
    clear hBo
    go_wp2_with fail
    refine (done_any (op := opAnd) A7 c7 w7 (hI7.since hb1.size) HEA.out HEB.out HO.out.1 HO.out.2).mono ?_
    rintro e w8 ⟨er, out', A8, c8, HS, rfl, hI8, hb8⟩
    go_wp2_with fail
    refine bodyPost_ret (v := .tuple #[.slice A8 out'.length c8, .int .i64 er]) (by simp [results, Try.results13]) rfl ?_
    exact ⟨er, out', A8, c8, HS, rfl, hI8, ext_trans (ext_trans hb1 hb7) hb8⟩

theorem ranged_i64 {out : List IvlD} (hn : NormL out) (h : ∀ t, hasB out t = true → -1000000000 ≤ t ∧ t < 1000000000) : ∀ x, x ∈ out → I64 x.f ∧ I64 x.t := fun x hx => by
  have hxl := hn.2 x hx
  have h1 := h x.f (hn.at_ hx (Int.le_refl _) hxl)
  have h2 := h (x.t - 1) (hn.at_ hx (by omega) (by omega))
  unfold I64
  omega
theorem minus_has {a b r o : List IvlD} (ha : SetOk a) (hr : ∀ t, hasB r t = true ↔ -1000000000 ≤ t ∧ t < 1000000000 ∧ ¬ hasB b t = true) (ho : ∀ t, hasB o t = (hasB a t && hasB r t)) (t : Int) : hasB o t = opNot (hasB a t) (hasB b t) := by
  rw [ho]
  unfold opNot
  cases h1 : hasB a t
  · rfl
  · have h2 := ha.inside h1
    rw [Bool.true_and, Bool.true_and, Bool.eq_iff_iff, hr t]
    simp only [Bool.not_eq_true']
    constructor
    · intro h; simpa using h.2.2
    · intro h; exact ⟨h2.1, h2.2, by simpa using h⟩
theorem Gaps.ranged {b out : List IvlD} {k : Nat} {m : Int} (h : Gaps b k m out) : ∀ t, hasB out t = true → -1000000000 ≤ t ∧ t < 1000000000 := fun t ht => by
  have h1 := (h.has t).1 ht
  have := h.m1
  omega

set_option maxRecDepth 100000 in
set_option maxHeartbeats 4000000 in
theorem minus_any (A B : Option Addr) (c d : Nat) (a b : List IvlD) (w : World) (hA : IvlsAt w A c a) (hB : IvlsAt w B d b) :
    Calls Try.prog 14 #[.slice A a.length c, .slice B b.length d] w (SetOut (SetsSay opNot a b) w) := by
  have hBo := both_any A B c d a b w hA hB
  by_cases h0 : bothErr a b = 0
  case neg =>
    have hd : (bothErr a b != 0) = true := by simpa using h0
    have HS : Hid (SetsSay opNot a b (bothErr a b) []) := Lib.hid (bothErr_bad h0)
    clear h0 hA hB
    obtain ⟨er, her⟩ : ∃ er, bothErr a b = er := ⟨_, rfl⟩
    rw [her] at hBo hd HS
    clear her
    go_enter Try.func14, Try.ntmps14
    go_wp2_with (go_at_call 30; refine hBo.mono ?_; rintro e w1 ⟨rfl, hb⟩)
    refine bodyPost_ret (v := .tuple #[.slice none 0 0, .int .i64 er]) (by simp [results, Try.results14]) rfl ?_
    exact ⟨er, [], none, 0, HS, rfl, .nil, hb⟩
  case pos =>
    rw [h0] at hBo
    obtain ⟨ha, hb⟩ := bothErr_zero h0
    obtain ⟨hla, hoa⟩ := setErr_zero ha
    obtain ⟨hlb, hob⟩ := setErr_zero hb
    have mB := hB.len
    have HA := Lib.hid hA; have HB := Lib.hid hB; have HEA := Lib.hid ha; have HEB := Lib.hid hb; have HOA := Lib.hid hoa; have HOB := Lib.hid hob
    clear h0 ha hb hA hB hoa hob
    obtain ⟨i0, hi, hz0, hz1, hz2⟩ := info_ivl2
    go_enter Try.func14, Try.ntmps14
    go_wp2_with (go_at_call 30; refine hBo.mono ?_; rintro e w1 ⟨rfl, hb1⟩)
    clear hBo
    have hw1 := hb1.size
    have HB1 := Lib.hid (HB.out.ext hb1)
    have HW := Lib.hid hb1
    go_loopw [7, 8, 19] (fun u v v' wr => ∃ (k : Nat) (m : Int) (out : List IvlD), k ≤ b.length ∧ v = .int .i64 m ∧ v' = .int .i64 k ∧ Hid (Gaps b k m out) ∧ out.length ≤ k ∧ Own ivlC 2 wr w1.heap.size 29 u out ∧ Below w1.heap.size w1 wr) (fun _ _ v' _ => b.length - (intOf v').toNat)
    case atStart => exact ⟨0, -1000000000, [], Nat.zero_le _, rfl, rfl, Lib.hid (Gaps.start HOB.out), Nat.le_refl _, Own.nil, Below.refl _ _⟩
    case round =>
      clear hb1
      obtain ⟨k, m, out, hk, rfl, rfl, HG, hol, hO, hbl⟩ := hrel
      have hwr := hbl.size
      obtain ⟨Ao, co, rfl⟩ := hO.form
      by_cases hlt : k < b.length
      case neg =>
        obtain rfl : k = b.length := by omega
        have hcl : out.length + 1 ≤ 1000000 := by omega
        by_cases hm : m < 1000000000
        case pos =>
          have d3 : decide (m < 1000000000) = true := by simpa using hm
          have HF := Lib.hid (HG.out.fin (Nat.le_refl _) rfl)
          rw [if_pos hm] at HF
          clear hm
          go_wp2_with (at_builtin; refine wpList_append_lie (enc := ivlC) rfl (.tmp 39) (.tmp 42) 22 rfl w1.heap.size 29 i0 _ 2 16 Try.underlying22 hi hz0 hz1 hz2 rfl (by decide) _ out ⟨m, 1000000000⟩ rfl hO #[.int .i64 m, .int .i64 1000000000] rfl wr.heap.size rfl rfl rfl two_one hcl (by decide) hwr ?_; intro gn cap w6 hown6 hbb hkp hgn)
          obtain ⟨Ax, cx, ex, hIo⟩ := own_ivls hown6 (ranged_i64 HF.out.1 fun t ht => by have := (HF.out.2 t).1 ht; omega)
          have hb6 : Below w.heap.size w w6 := HW.out.trans ((hbl.trans hbb).mono hw1)
          have hM := meet_any A Ax c cx a _ w6 (HA.out.ext hb6) hIo HOA.out.norm HF.out.1 (by omega) (by simp; omega)
          rw [← ex] at hM
          clear ex hIo
          refine hM.mono ?_
          rintro e w7 ⟨A7, c7, o7, HO, rfl, hI7, hb7⟩
          clear hM
          have HO2 : Hid (∀ t, hasB o7 t = opNot (hasB a t) (hasB b t)) := Lib.hid fun t => minus_has HOA.out HF.out.2 HO.out.2 t
          go_wp2_with fail
          refine (done_any (op := opNot) A7 c7 w7 (hI7.since hb6.size) HEA.out HEB.out HO.out.1 HO2.out).mono ?_
          rintro e w8 ⟨er, out', A8, c8, HS, rfl, hI8, hb8⟩
          go_wp2_with fail
          refine bodyPost_ret (v := .tuple #[.slice A8 out'.length c8, .int .i64 er]) (by simp [results, Try.results14]) rfl ?_
          exact ⟨er, out', A8, c8, HS, rfl, hI8, ext_trans (ext_trans hb6 hb7) hb8⟩
        case neg =>
          have d3 : decide (m < 1000000000) = false := by simpa using hm
          have HF := Lib.hid (HG.out.fin (Nat.le_refl _) rfl)
          rw [if_neg hm] at HF
          clear hm
          obtain ⟨Ax, cx, ex, hIo⟩ := own_ivls hO (ranged_i64 HF.out.1 fun t ht => by have := (HF.out.2 t).1 ht; omega)
          have hb6 : Below w.heap.size w wr := HW.out.trans (hbl.mono hw1)
          have hM := meet_any A Ax c cx a _ wr (HA.out.ext hb6) hIo HOA.out.norm HF.out.1 (by omega) (by omega)
          rw [← ex] at hM
          clear ex hIo
          go_wp2_with fail
          refine hM.mono ?_
          rintro e w7 ⟨A7, c7, o7, HO, rfl, hI7, hb7⟩
          clear hM
          have HO2 : Hid (∀ t, hasB o7 t = opNot (hasB a t) (hasB b t)) := Lib.hid fun t => minus_has HOA.out HF.out.2 HO.out.2 t
          go_wp2_with fail
          refine (done_any (op := opNot) A7 c7 w7 (hI7.since hb6.size) HEA.out HEB.out HO.out.1 HO2.out).mono ?_
          rintro e w8 ⟨er, out', A8, c8, HS, rfl, hI8, hb8⟩
          go_wp2_with fail
          refine bodyPost_ret (v := .tuple #[.slice A8 out'.length c8, .int .i64 er]) (by simp [results, Try.results14]) rfl ?_
          exact ⟨er, out', A8, c8, HS, rfl, hI8, ext_trans (ext_trans hb6 hb7) hb8⟩
      case pos =>
        obtain ⟨x, hx⟩ := get_lt hlt
        obtain ⟨bb, ob, rfl, hbb0, x0, x1⟩ := HB1.out.get hx
        rw [← hbl.cell (by exact hbb0)] at x0 x1
        have HX := Lib.hid hx
        clear hx
        have hcl : out.length + 1 ≤ 1000000 := by omega
        by_cases hm : m < x.f
        case pos =>
          have d3 : decide (m < x.f) = true := by simpa using hm
          have HG2 := Lib.hid (HG.out.step HOB.out HX.out rfl)
          rw [if_pos hm] at HG2
          clear hm
          obtain ⟨z0, z1, z2⟩ := (Blk.new wr 29 #[.int .i64 x.f, .int .i64 x.t]).facts
          have hO5 := hO.alloc (Obj.cells #[Value.int IntKind.i64 x.f, Value.int IntKind.i64 x.t] 29)
          have hb5 := ext_alloc hbl (Obj.cells #[Value.int IntKind.i64 x.f, Value.int IntKind.i64 x.t] 29)
          go_wp2_with (at_builtin; refine wpList_append_lie (enc := ivlC) rfl (.tmp 27) (.tmp 32) 22 rfl w1.heap.size 29 i0 _ 2 16 Try.underlying22 hi hz0 hz1 hz2 rfl (by decide) _ out ⟨m, x.f⟩ rfl hO5 #[.int .i64 m, .int .i64 x.f] rfl (wr.heap.size + 1) (by simp) rfl rfl two_one hcl (by decide) hb5.size ?_; intro gn cap w6 hown6 hbb hkp hgn; obtain ⟨q0, q1, q2⟩ := (hkp _ _ _ (Blk.new wr 29 #[.int .i64 x.f, .int .i64 x.t]) (hO.block_lt (Nat.le_refl _))).facts; clear z0 z1 z2)
          go_roundw
          case rel => exact ⟨k + 1, x.t, out ++ [⟨m, x.f⟩], by omega, rfl, by go_num, HG2, by simp; omega, by simpa using hown6, hb5.trans hbb⟩
          case measure => simp [intOf]; omega
        case neg =>
          have d3 : decide (m < x.f) = false := by simpa using hm
          have HG2 := Lib.hid (HG.out.step HOB.out HX.out rfl)
          rw [if_neg hm] at HG2
          clear hm
          have hO5 := hO.alloc (Obj.cells #[Value.int IntKind.i64 x.f, Value.int IntKind.i64 x.t] 29)
          have hb5 := ext_alloc hbl (Obj.cells #[Value.int IntKind.i64 x.f, Value.int IntKind.i64 x.t] 29)
          go_wp2_with fail
          go_roundw
          case rel => exact ⟨k + 1, x.t, out, by omega, rfl, by go_num, HG2, by omega, hO5, hb5⟩
          case measure => simp [intOf]; omega
end Go.Proofs.Ytdpibehpmghghaa
/- The walks of made and got, and of the law IvlHas. -/
namespace Go.Proofs.Ytdpibehpmghghaa
open Go.RowKit Go.Shelf

theorem IvlsAt.take {w : World} {A : Option Addr} {c : Nat} {l : List IvlD} (h : IvlsAt w A c l) (k : Nat) : IvlsAt w A c (l.take k) := ⟨by have := h.lc; simp; omega, h.cm, h.sl.take k⟩
theorem ivls_lit {w : World} {g : Nat} {a b : Int} (h : Blk w g 29 #[.int .i64 a, .int .i64 b]) (ha : I64 a) (hb : I64 b) : IvlsAt w (some ⟨g, 0, none⟩) 1 [⟨a, b⟩] := by
  refine ⟨Nat.le_refl _, by unfold maxLen; omega, g, 0, fun i x hx => ?_⟩
  match i, hx with
  | 0, hx =>
    obtain rfl : (⟨a, b⟩ : IvlD) = x := by simpa using hx
    exact ⟨rfl, h.lt, ⟨h.cell 0, h.cell 1⟩, ha, hb⟩
  | i + 1, hx => simp at hx
/-- A set is made. -/
def MadeOut (l : List IvlD) (w : World) (e : Ending) (w' : World) : Prop := ∃ A c out, Hid (∃ er, NormSay (l.take 60) er out) ∧ e = .returned (.slice A out.length c) ∧ IvlsAt w' A c out ∧ Below w.heap.size w w'
theorem made_of {l out : List IvlD} (h : ∃ er, NormSay (l.take 60) er out) : Of (hasB out) 60 out := by
  obtain ⟨er, h⟩ := h
  by_cases h0 : er = 0
  · obtain ⟨h1, _⟩ := h.of h0
    have h2 := h1.len
    exact ⟨h1.norm, fun _ => rfl, h1.near, by simp at h2; omega⟩
  · have e : out = [] := by
      unfold NormSay at h
      split at h
      · exact h.2
      · split at h
        · exact h.2
        · exact absurd h.1 h0
    rw [e]
    exact ⟨.nil, fun _ => rfl, fun x hx => by simp at hx, Nat.zero_le _⟩
set_option maxHeartbeats 1000000 in
theorem made_any (A : Option Addr) (c : Nat) (l : List IvlD) (w : World) (hI : IvlsAt w A c l) : Calls Try.prog 7 #[.slice A l.length c] w (MadeOut l w) := by
  have m1 := hI.len
  have hlc := hI.lc
  have hcm : c ≤ 9223372036854775807 := hI.cm
  have hN := ivlNorm_any A c (l.take 60) w (hI.take 60)
  by_cases h60 : 60 ≤ l.length
  · have hmin : min (60 : Int) (l.length : Int) = 60 := by omega
    have hlen : (l.take 60).length = 60 := by simp; omega
    have h60c : 60 ≤ c := by omega
    rw [hlen] at hN
    clear hlen hI
    go_enter Try.func7, Try.ntmps7
    go_wp2_with fail
    refine hN.mono ?_
    rintro e w1 ⟨er, out, A2, c2, HS, rfl, hI2, hb⟩
    go_wp2_with fail
    go_ret
    exact ⟨A2, c2, out, Lib.hid ⟨er, HS.out⟩, rfl, hI2, hb⟩
  · have hmin : min (60 : Int) (l.length : Int) = (l.length : Int) := by omega
    have hlen : (l.take 60).length = l.length := by simp; omega
    rw [hlen] at hN
    clear hlen hI
    go_enter Try.func7, Try.ntmps7
    go_wp2_with fail
    refine hN.mono ?_
    rintro e w1 ⟨er, out, A2, c2, HS, rfl, hI2, hb⟩
    go_wp2_with fail
    go_ret
    exact ⟨A2, c2, out, Lib.hid ⟨er, HS.out⟩, rfl, hI2, hb⟩
end Go.Proofs.Ytdpibehpmghghaa
