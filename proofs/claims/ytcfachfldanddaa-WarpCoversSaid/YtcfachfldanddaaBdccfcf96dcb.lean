/- Several texts in one: IvlMinus, IvlLaw1. -/
import Derived.Test.YtcfachfldanddaaBd412ff9c6d9
/- The walks of Meet and Minus. -/
namespace Go.Proofs.Ytcfachfldanddaa
open Go.RowKit Go.Shelf

set_option maxRecDepth 100000 in
set_option maxHeartbeats 2000000 in
theorem meetS_any (A B : Option Addr) (c d : Nat) (a b : List IvlD) (w : World) (hA : IvlsAt w A c a) (hB : IvlsAt w B d b) :
    Calls Try.prog 20 #[.slice A a.length c, .slice B b.length d] w (SetOut (SetsSay opAnd a b) w) := by
  have hBo := both_any A B c d a b w hA hB
  by_cases h0 : bothErr a b = 0
  case neg =>
    have hd : (bothErr a b != 0) = true := by simpa using h0
    have HS : Hid (SetsSay opAnd a b (bothErr a b) []) := Lib.hid (bothErr_bad h0)
    clear h0 hA hB
    obtain ⟨er, her⟩ : ∃ er, bothErr a b = er := ⟨_, rfl⟩
    rw [her] at hBo hd HS
    clear her
    go_enter Try.func20, Try.ntmps20
    go_wp2_with (go_at_call 68; refine hBo.mono ?_; rintro e w1 ⟨rfl, hb⟩)
    refine bodyPost_ret (v := .tuple #[.slice none 0 0, .int .i64 er]) (by simp [results, Try.results20]) rfl ?_
    exact ⟨er, [], none, 0, HS, rfl, IvlsAt.nil, hb⟩
  case pos =>
    rw [h0] at hBo
    obtain ⟨ha, hb⟩ := bothErr_zero h0
    obtain ⟨hla, hoa⟩ := setErr_zero ha
    obtain ⟨hlb, hob⟩ := setErr_zero hb
    have HA := Lib.hid hA; have HB := Lib.hid hB; have HEA := Lib.hid ha; have HEB := Lib.hid hb; have HOA := Lib.hid hoa; have HOB := Lib.hid hob
    clear h0 ha hb hA hB hoa hob
    go_enter Try.func20, Try.ntmps20
    go_wp2_with (go_at_call 68; refine hBo.mono ?_; rintro e w1 ⟨rfl, hb1⟩)
    refine (meet_any A B c d a b _ (HA.out.ext hb1) (HB.out.ext hb1) HOA.out.norm HOB.out.norm (by omega) (by omega)).mono ?_
    rintro e w7 ⟨A7, c7, out, HO, rfl, hI7, hb7⟩
    clear hBo
    go_wp2_with fail
    refine (done_any (op := opAnd) A7 c7 w7 hI7 HEA.out HEB.out HO.out.1 HO.out.2).mono ?_
    rintro e w8 ⟨er, out', A8, c8, HS, rfl, hI8, hb8⟩
    go_wp2_with fail
    refine bodyPost_ret (v := .tuple #[.slice A8 out'.length c8, .int .i64 er]) (by simp [results, Try.results20]) rfl ?_
    exact ⟨er, out', A8, c8, HS, rfl, hI8, ext_trans (ext_trans hb1 hb7) hb8⟩

theorem ranged_i64 {out : List IvlD} (hn : NormL out) (h : ∀ t, hasB out t = true → -1000000000 ≤ t ∧ t < 1000000000) : ∀ x, x ∈ out → I64 x.f ∧ I64 x.t := fun x hx => by
  have hxl := hn.2 x hx
  have h1 := h x.f (hn.at_ hx (Int.le_refl _) hxl)
  have h2 := h (x.t - 1) (hn.at_ hx (by omega) (by omega))
  unfold I64
  omega
theorem minus_has {a b r o : List IvlD} (ha : SetOk a) (hr : ∀ t, hasB r t = true ↔ -1000000000 ≤ t ∧ t < 1000000000 ∧ ¬ hasB b t = true) (ho : ∀ t, hasB o t = (hasB a t && hasB r t)) (t : Int) : hasB o t = opNot (hasB a t) (hasB b t) := by
  rw [ho]
  unfold opNot
  cases h1 : hasB a t
  · rfl
  · have h2 := ha.inside h1
    rw [Bool.true_and, Bool.true_and, Bool.eq_iff_iff, hr t]
    simp only [Bool.not_eq_true']
    constructor
    · intro h; simpa using h.2.2
    · intro h; exact ⟨h2.1, h2.2, by simpa using h⟩
theorem Gaps.ranged {b out : List IvlD} {k : Nat} {m : Int} (h : Gaps b k m out) : ∀ t, hasB out t = true → -1000000000 ≤ t ∧ t < 1000000000 := fun t ht => by
  have h1 := (h.has t).1 ht
  have := h.m1
  omega

set_option maxRecDepth 100000 in
set_option maxHeartbeats 4000000 in
theorem minus_any (A B : Option Addr) (c d : Nat) (a b : List IvlD) (w : World) (hA : IvlsAt w A c a) (hB : IvlsAt w B d b) :
    Calls Try.prog 21 #[.slice A a.length c, .slice B b.length d] w (SetOut (SetsSay opNot a b) w) := by
  have hBo := both_any A B c d a b w hA hB
  by_cases h0 : bothErr a b = 0
  case neg =>
    have hd : (bothErr a b != 0) = true := by simpa using h0
    have HS : Hid (SetsSay opNot a b (bothErr a b) []) := Lib.hid (bothErr_bad h0)
    clear h0 hA hB
    obtain ⟨er, her⟩ : ∃ er, bothErr a b = er := ⟨_, rfl⟩
    rw [her] at hBo hd HS
    clear her
    go_enter Try.func21, Try.ntmps21
    go_wp2_with (go_at_call 68; refine hBo.mono ?_; rintro e w1 ⟨rfl, hb⟩)
    refine bodyPost_ret (v := .tuple #[.slice none 0 0, .int .i64 er]) (by simp [results, Try.results21]) rfl ?_
    exact ⟨er, [], none, 0, HS, rfl, IvlsAt.nil, hb⟩
  case pos =>
    rw [h0] at hBo
    obtain ⟨ha, hb⟩ := bothErr_zero h0
    obtain ⟨hla, hoa⟩ := setErr_zero ha
    obtain ⟨hlb, hob⟩ := setErr_zero hb
    have mB := hB.len
    have HA := Lib.hid hA; have HB := Lib.hid hB; have HEA := Lib.hid ha; have HEB := Lib.hid hb; have HOA := Lib.hid hoa; have HOB := Lib.hid hob
    clear h0 ha hb hA hB hoa hob
    obtain ⟨i0, hi, hz0, hz1, hz2⟩ := info_ivl2
    go_enter Try.func21, Try.ntmps21
    go_wp2_with (go_at_call 68; refine hBo.mono ?_; rintro e w1 ⟨rfl, hb1⟩)
    clear hBo
    have hw1 := hb1.size
    have HB1 := Lib.hid (HB.out.ext hb1)
    have HW := Lib.hid hb1
    go_loopw [7, 8, 19] (fun u v v' wr => ∃ (k : Nat) (m : Int) (out : List IvlD), k ≤ b.length ∧ v = .int .i64 m ∧ v' = .int .i64 k ∧ Hid (Gaps b k m out) ∧ out.length ≤ k ∧ Own ivlC 2 wr w1.heap.size 25 u out ∧ Below w1.heap.size w1 wr) (fun _ _ v' _ => b.length - (intOf v').toNat)
    case atStart => exact ⟨0, -1000000000, [], Nat.zero_le _, rfl, rfl, Lib.hid (Gaps.start HOB.out), Nat.le_refl _, Own.nil, Below.refl _ _⟩
    case round =>
      clear hb1
      obtain ⟨k, m, out, hk, rfl, rfl, HG, hol, hO, hbl⟩ := hrel
      have hwr := hbl.size
      obtain ⟨Ao, co, rfl⟩ := hO.form
      by_cases hlt : k < b.length
      case neg =>
        obtain rfl : k = b.length := by omega
        have hcl : out.length + 1 ≤ 1000000 := by omega
        by_cases hm : m < 1000000000
        case pos =>
          have d3 : decide (m < 1000000000) = true := by simpa using hm
          have HF := Lib.hid (HG.out.fin (Nat.le_refl _) rfl)
          rw [if_pos hm] at HF
          clear hm
          go_wp2_with (at_builtin; refine wpList_append_lie (enc := ivlC) rfl (.tmp 39) (.tmp 42) 22 rfl w1.heap.size 25 i0 _ 2 16 Try.underlying22 hi hz0 hz1 hz2 rfl (by decide) _ out ⟨m, 1000000000⟩ rfl hO #[.int .i64 m, .int .i64 1000000000] rfl wr.heap.size rfl rfl rfl two_one hcl (by decide) hwr ?_; intro gn cap w6 hown6 hbb hkp hgn)
          obtain ⟨Ax, cx, ex, hIo⟩ := own_ivls hown6 (ranged_i64 HF.out.1 fun t ht => by have := (HF.out.2 t).1 ht; omega)
          have hb6 : Below w.heap.size w w6 := HW.out.trans ((hbl.trans hbb).mono hw1)
          have hM := meet_any A Ax c cx a _ w6 (HA.out.ext hb6) hIo HOA.out.norm HF.out.1 (by omega) (by simp; omega)
          rw [← ex] at hM
          clear ex hIo
          refine hM.mono ?_
          rintro e w7 ⟨A7, c7, o7, HO, rfl, hI7, hb7⟩
          clear hM
          have HO2 : Hid (∀ t, hasB o7 t = opNot (hasB a t) (hasB b t)) := Lib.hid fun t => minus_has HOA.out HF.out.2 HO.out.2 t
          go_wp2_with fail
          refine (done_any (op := opNot) A7 c7 w7 hI7 HEA.out HEB.out HO.out.1 HO2.out).mono ?_
          rintro e w8 ⟨er, out', A8, c8, HS, rfl, hI8, hb8⟩
          go_wp2_with fail
          refine bodyPost_ret (v := .tuple #[.slice A8 out'.length c8, .int .i64 er]) (by simp [results, Try.results21]) rfl ?_
          exact ⟨er, out', A8, c8, HS, rfl, hI8, ext_trans (ext_trans hb6 hb7) hb8⟩
        case neg =>
          have d3 : decide (m < 1000000000) = false := by simpa using hm
          have HF := Lib.hid (HG.out.fin (Nat.le_refl _) rfl)
          rw [if_neg hm] at HF
          clear hm
          obtain ⟨Ax, cx, ex, hIo⟩ := own_ivls hO (ranged_i64 HF.out.1 fun t ht => by have := (HF.out.2 t).1 ht; omega)
          have hb6 : Below w.heap.size w wr := HW.out.trans (hbl.mono hw1)
          have hM := meet_any A Ax c cx a _ wr (HA.out.ext hb6) hIo HOA.out.norm HF.out.1 (by omega) (by omega)
          rw [← ex] at hM
          clear ex hIo
          go_wp2_with fail
          refine hM.mono ?_
          rintro e w7 ⟨A7, c7, o7, HO, rfl, hI7, hb7⟩
          clear hM
          have HO2 : Hid (∀ t, hasB o7 t = opNot (hasB a t) (hasB b t)) := Lib.hid fun t => minus_has HOA.out HF.out.2 HO.out.2 t
          go_wp2_with fail
          refine (done_any (op := opNot) A7 c7 w7 hI7 HEA.out HEB.out HO.out.1 HO2.out).mono ?_
          rintro e w8 ⟨er, out', A8, c8, HS, rfl, hI8, hb8⟩
          go_wp2_with fail
          refine bodyPost_ret (v := .tuple #[.slice A8 out'.length c8, .int .i64 er]) (by simp [results, Try.results21]) rfl ?_
          exact ⟨er, out', A8, c8, HS, rfl, hI8, ext_trans (ext_trans hb6 hb7) hb8⟩
      case pos =>
        obtain ⟨x, hx⟩ := get_lt hlt
        obtain ⟨bb, ob, rfl, hbb0, x0, x1⟩ := HB1.out.get hx
        rw [← hbl.cell (by exact hbb0)] at x0 x1
        have HX := Lib.hid hx
        clear hx
        have hcl : out.length + 1 ≤ 1000000 := by omega
        by_cases hm : m < x.f
        case pos =>
          have d3 : decide (m < x.f) = true := by simpa using hm
          have HG2 := Lib.hid (HG.out.step HOB.out HX.out rfl)
          rw [if_pos hm] at HG2
          clear hm
          obtain ⟨z0, z1, z2⟩ := (Blk.new wr 25 #[.int .i64 x.f, .int .i64 x.t]).facts
          have hO5 := hO.alloc (Obj.cells #[Value.int IntKind.i64 x.f, Value.int IntKind.i64 x.t] 25)
          have hb5 := ext_alloc hbl (Obj.cells #[Value.int IntKind.i64 x.f, Value.int IntKind.i64 x.t] 25)
          go_wp2_with (at_builtin; refine wpList_append_lie (enc := ivlC) rfl (.tmp 27) (.tmp 32) 22 rfl w1.heap.size 25 i0 _ 2 16 Try.underlying22 hi hz0 hz1 hz2 rfl (by decide) _ out ⟨m, x.f⟩ rfl hO5 #[.int .i64 m, .int .i64 x.f] rfl (wr.heap.size + 1) (by simp) rfl rfl two_one hcl (by decide) hb5.size ?_; intro gn cap w6 hown6 hbb hkp hgn; obtain ⟨q0, q1, q2⟩ := (hkp _ _ _ (Blk.new wr 25 #[.int .i64 x.f, .int .i64 x.t]) (hO.block_lt (Nat.le_refl _))).facts; clear z0 z1 z2)
          go_roundw
          case rel => exact ⟨k + 1, x.t, out ++ [⟨m, x.f⟩], by omega, rfl, by go_num, HG2, by simp; omega, by simpa using hown6, hb5.trans hbb⟩
          case measure => simp [intOf]; omega
        case neg =>
          have d3 : decide (m < x.f) = false := by simpa using hm
          have HG2 := Lib.hid (HG.out.step HOB.out HX.out rfl)
          rw [if_neg hm] at HG2
          clear hm
          have hO5 := hO.alloc (Obj.cells #[Value.int IntKind.i64 x.f, Value.int IntKind.i64 x.t] 25)
          have hb5 := ext_alloc hbl (Obj.cells #[Value.int IntKind.i64 x.f, Value.int IntKind.i64 x.t] 25)
          go_wp2_with fail
          go_roundw
          case rel => exact ⟨k + 1, x.t, out, by omega, rfl, by go_num, HG2, by omega, hO5, hb5⟩
          case measure => simp [intOf]; omega
end Go.Proofs.Ytcfachfldanddaa
/- The walks of made and got, and of the law IvlHas. -/
namespace Go.Proofs.Ytcfachfldanddaa
open Go.RowKit Go.Shelf

theorem IvlsAt.take {w : World} {A : Option Addr} {c : Nat} {l : List IvlD} (h : IvlsAt w A c l) (k : Nat) : IvlsAt w A c (l.take k) := ⟨by have := h.lc; simp; omega, h.cm, h.sl.take k⟩
theorem ivls_lit {w : World} {g : Nat} {a b : Int} (h : Blk w g 25 #[.int .i64 a, .int .i64 b]) (ha : I64 a) (hb : I64 b) : IvlsAt w (some ⟨g, 0, none⟩) 1 [⟨a, b⟩] := by
  refine ⟨Nat.le_refl _, by unfold maxLen; omega, g, 0, fun i x hx => ?_⟩
  match i, hx with
  | 0, hx =>
    obtain rfl : (⟨a, b⟩ : IvlD) = x := by simpa using hx
    exact ⟨rfl, h.lt, ⟨h.cell 0, h.cell 1⟩, ha, hb⟩
  | i + 1, hx => simp at hx
/-- A set is made. -/
def MadeOut (l : List IvlD) (w : World) (e : Ending) (w' : World) : Prop := ∃ A c out, Hid (∃ er, NormSay (l.take 60) er out) ∧ e = .returned (.slice A out.length c) ∧ IvlsAt w' A c out ∧ Below w.heap.size w w'
theorem made_of {l out : List IvlD} (h : ∃ er, NormSay (l.take 60) er out) : Of (hasB out) 60 out := by
  obtain ⟨er, h⟩ := h
  by_cases h0 : er = 0
  · obtain ⟨h1, _⟩ := h.of h0
    have h2 := h1.len
    exact ⟨h1.norm, fun _ => rfl, h1.near, by simp at h2; omega⟩
  · have e : out = [] := by
      unfold NormSay at h
      split at h
      · exact h.2
      · split at h
        · exact h.2
        · exact absurd h.1 h0
    rw [e]
    exact ⟨.nil, fun _ => rfl, fun x hx => by simp at hx, Nat.zero_le _⟩
set_option maxHeartbeats 1000000 in
theorem made_any (A : Option Addr) (c : Nat) (l : List IvlD) (w : World) (hI : IvlsAt w A c l) : Calls Try.prog 16 #[.slice A l.length c] w (MadeOut l w) := by
  have m1 := hI.len
  have hlc := hI.lc
  have hcm : c ≤ 9223372036854775807 := hI.cm
  have hN := ivlNorm_any A c (l.take 60) w (hI.take 60)
  by_cases h60 : 60 ≤ l.length
  · have hmin : min (60 : Int) (l.length : Int) = 60 := by omega
    have hlen : (l.take 60).length = 60 := by simp; omega
    have h60c : 60 ≤ c := by omega
    rw [hlen] at hN
    clear hlen hI
    go_enter Try.func16, Try.ntmps16
    go_wp2_with fail
    refine hN.mono ?_
    rintro e w1 ⟨er, out, A2, c2, HS, rfl, hI2, hb⟩
    go_wp2_with fail
    go_ret
    exact ⟨A2, c2, out, Lib.hid ⟨er, HS.out⟩, rfl, hI2, hb⟩
  · have hmin : min (60 : Int) (l.length : Int) = (l.length : Int) := by omega
    have hlen : (l.take 60).length = l.length := by simp; omega
    rw [hlen] at hN
    clear hlen hI
    go_enter Try.func16, Try.ntmps16
    go_wp2_with fail
    refine hN.mono ?_
    rintro e w1 ⟨er, out, A2, c2, HS, rfl, hI2, hb⟩
    go_wp2_with fail
    go_ret
    exact ⟨A2, c2, out, Lib.hid ⟨er, HS.out⟩, rfl, hI2, hb⟩
theorem got_ok (A : Option Addr) (n c : Nat) (w : World) : Calls Try.prog 18 #[.slice A n c, .int .i64 0] w fun e w' => e = .returned (.slice A n c) ∧ w = w' := by
  go_enter Try.func18, Try.ntmps18
  go_wp2_with fail
  go_ret
  exact ⟨rfl, rfl⟩

set_option maxRecDepth 100000 in
set_option maxHeartbeats 4000000 in
theorem ivlHas_calls (A0 : Option Addr) (c0 : Nat) (l0 : List IvlD) {w0 : World} (hI0 : IvlsAt w0 A0 c0 l0) (A1 : Option Addr) (c1 : Nat) (l1 : List IvlD) (hI1 : IvlsAt w0 A1 c1 l1) (t : Int) (_ : I64 t) :
    Calls Try.prog 3 #[.slice A0 l0.length c0, .slice A1 l1.length c1, .int .i64 t] w0 fun e w' => e = .returned (.bool true) ∧ Below w0.heap.size w0 w' := by
  have m0 := hI0.len
  have hlc := hI0.lc
  have hcm : c0 ≤ 9223372036854775807 := hI0.cm
  have H0 := Lib.hid hI0; have H1 := Lib.hid hI1
  clear hI0 hI1
  go_enter Try.func3, Try.ntmps3
  go_wp2_with fail
  refine (ivlHas_any _ _ [⟨1, 3⟩] 2 _ (ivls_lit (Blk.new w0 25 #[.int .i64 1, .int .i64 3]) (by unfold I64; omega) (by unfold I64; omega))).mono ?_
  rw [show hasB [⟨1, 3⟩] 2 = true from rfl]
  rintro e w1 ⟨rfl, hb1⟩
  have hb1 : Below w0.heap.size w0 w1 := ext_trans (by go_grown) hb1
  go_wp2_with fail
  refine (ivlHas_any _ _ [⟨1, 3⟩] 3 _ (ivls_lit (Blk.new w1 25 #[.int .i64 1, .int .i64 3]) (by unfold I64; omega) (by unfold I64; omega))).mono ?_
  rw [show hasB [⟨1, 3⟩] 3 = false from rfl]
  rintro e w2 ⟨rfl, hb2⟩
  have hb2 : Below w0.heap.size w0 w2 := ext_trans (ext_trans hb1 (by go_grown)) hb2
  clear hb1
  go_wp2_with fail
  refine (made_any A0 c0 l0 _ (H0.out.ext hb2)).mono ?_
  rintro e w3 ⟨Aa, ca, a, Ha, rfl, hIa, hb3⟩
  have hb3 := ext_trans hb2 hb3
  have Oa := Lib.hid (made_of Ha.out)
  clear hb2
  go_wp2_with fail
  refine (made_any A1 c1 l1 _ (H1.out.ext hb3)).mono ?_
  rintro e w4 ⟨Ab, cb, b, Hb, rfl, hIb, hb4⟩
  have Ob := Lib.hid (made_of Hb.out)
  have hIa := hIa.ext hb4
  have hb4 := ext_trans hb3 hb4
  clear hb3
  obtain ⟨p, hp⟩ : ∃ p, hasB a t = p := ⟨_, rfl⟩
  obtain ⟨q, hq⟩ : ∃ q, hasB b t = q := ⟨_, rfl⟩
  have HP := Lib.hid hp; have HQ := Lib.hid hq
  clear hp hq
  go_wp2_with fail
  refine (ivlHas_any _ _ a t _ hIa).mono ?_
  rw [HP.out]
  rintro e w5 ⟨rfl, hb5⟩
  have hIa := hIa.ext hb5; have hIb := hIb.ext hb5
  have hb5 := ext_trans hb4 hb5
  clear hb4
  go_wp2_with fail
  refine (ivlHas_any _ _ b t _ hIb).mono ?_
  rw [HQ.out]
  rintro e w6 ⟨rfl, hb6⟩
  have hIa := hIa.ext hb6; have hIb := hIb.ext hb6
  have hb6 := ext_trans hb5 hb6
  clear hb5
  obtain ⟨n, hn⟩ : ∃ n, (l0.take 60).length = n := ⟨_, rfl⟩
  have hnl : n ≤ l0.length := by rw [← hn]; simp; omega
  have hnc : n ≤ c0 := by omega
  have hmin : min (60 : Int) (l0.length : Int) = (n : Int) := by rw [← hn]; simp; omega
  have hIn := (H0.out.take 60).ext hb6
  have hN := ivlNorm_any A0 c0 (l0.take 60) w6 hIn
  rw [hn] at hN
  have HNN := Lib.hid hn
  clear hn
  go_wp2_with fail
  refine hN.mono ?_
  rintro e w7 ⟨er, o7, A7, c7, HS7, rfl, _, hb7⟩
  clear hN
  have hIa := hIa.ext hb7; have hIb := hIb.ext hb7; have hIn := hIn.ext hb7
  have hb7 := ext_trans hb6 hb7
  have HEQ : Hid (er = 0 → hasB (l0.take 60) t = p) := Lib.hid fun h => by
    obtain ⟨er', h2⟩ := Ha.out
    obtain ⟨rfl, rfl⟩ := HS7.out.same h2
    rw [← HP.out, (HS7.out.of h).1.has]
  by_cases h0 : er = 0
  case neg =>
    have hd : (er == 0) = false := by simpa using h0
    clear h0 hIn
    cases p <;> cases q
    all_goals
      go_wp2_with fail
      refine (union_any Aa Ab ca cb a b _ hIa hIb).mono ?_
      rintro e w10 ⟨er10, o10, A10', d10, HS10, rfl, hIo, hb10⟩
      obtain ⟨rfl, h10⟩ := HS10.out.or_ Oa.out Ob.out (by omega) (by omega) (by omega)
      have hIa := hIa.ext hb10; have hIb := hIb.ext hb10
      have hb10 := ext_trans hb7 hb10
      have HV10 := Lib.hid (h10.has t)
      rw [HP.out, HQ.out] at HV10
      clear h10
      go_wp2_with fail
      refine (got_ok _ _ _ _).mono ?_
      rintro e w' ⟨rfl, rfl⟩
      go_wp2_with fail
      refine (ivlHas_any _ _ o10 t _ hIo).mono ?_
      rw [HV10.out]
      rintro e w11 ⟨rfl, hb11⟩
      have hIa := hIa.ext hb11; have hIb := hIb.ext hb11
      have hb11 := ext_trans hb10 hb11
      go_wp2_with fail
      refine (meetS_any Aa Ab ca cb a b _ hIa hIb).mono ?_
      rintro e w12 ⟨er12, o12, A12', d12, HS12, rfl, hIo, hb12⟩
      obtain ⟨rfl, h12⟩ := HS12.out.and_ Oa.out Ob.out (by omega) (by omega) (by omega)
      have hIa := hIa.ext hb12; have hIb := hIb.ext hb12
      have hb12 := ext_trans hb11 hb12
      have HV12 := Lib.hid (h12.has t)
      rw [HP.out, HQ.out] at HV12
      clear h12
      go_wp2_with fail
      refine (got_ok _ _ _ _).mono ?_
      rintro e w' ⟨rfl, rfl⟩
      go_wp2_with fail
      refine (ivlHas_any _ _ o12 t _ hIo).mono ?_
      rw [HV12.out]
      rintro e w13 ⟨rfl, hb13⟩
      have hIa := hIa.ext hb13; have hIb := hIb.ext hb13
      have hb13 := ext_trans hb12 hb13
      go_wp2_with fail
      refine (minus_any Aa Ab ca cb a b _ hIa hIb).mono ?_
      rintro e w14 ⟨er14, o14, A14', d14, HS14, rfl, hIo, hb14⟩
      obtain ⟨rfl, h14⟩ := HS14.out.not_ Oa.out Ob.out (by omega) (by omega) (by omega)
      have hIa := hIa.ext hb14; have hIb := hIb.ext hb14
      have hb14 := ext_trans hb13 hb14
      have HV14 := Lib.hid (h14.has t)
      rw [HP.out, HQ.out] at HV14
      clear h14
      go_wp2_with fail
      refine (got_ok _ _ _ _).mono ?_
      rintro e w' ⟨rfl, rfl⟩
      go_wp2_with fail
      refine (ivlHas_any _ _ o14 t _ hIo).mono ?_
      rw [HV14.out]
      rintro e w15 ⟨rfl, hb15⟩
      have hIa := hIa.ext hb15; have hIb := hIb.ext hb15
      have hb15 := ext_trans hb14 hb15
      go_wp2_with fail
      go_ret
      exact ⟨rfl, hb15⟩
  case pos =>
    have HE0 := Lib.hid h0
    have hd : (er == 0) = true := by simpa using h0
    have hH := ivlHas_any A0 c0 (l0.take 60) t w7 hIn
    rw [HNN.out, HEQ.out h0] at hH
    have hpp : (p != p) = false := by cases p <;> rfl
    clear h0 hIn
    go_wp2_with fail
    refine hH.mono ?_
    rintro e w8 ⟨rfl, hb8⟩
    have hIa := hIa.ext hb8; have hIb := hIb.ext hb8
    have hb8 := ext_trans hb7 hb8
    cases p <;> cases q
    all_goals
      go_wp2_with fail
      refine (union_any Aa Ab ca cb a b _ hIa hIb).mono ?_
      rintro e w10 ⟨er10, o10, A10', d10, HS10, rfl, hIo, hb10⟩
      obtain ⟨rfl, h10⟩ := HS10.out.or_ Oa.out Ob.out (by omega) (by omega) (by omega)
      have hIa := hIa.ext hb10; have hIb := hIb.ext hb10
      have hb10 := ext_trans hb8 hb10
      have HV10 := Lib.hid (h10.has t)
      rw [HP.out, HQ.out] at HV10
      clear h10
      go_wp2_with fail
      refine (got_ok _ _ _ _).mono ?_
      rintro e w' ⟨rfl, rfl⟩
      go_wp2_with fail
      refine (ivlHas_any _ _ o10 t _ hIo).mono ?_
      rw [HV10.out]
      rintro e w11 ⟨rfl, hb11⟩
      have hIa := hIa.ext hb11; have hIb := hIb.ext hb11
      have hb11 := ext_trans hb10 hb11
      go_wp2_with fail
      refine (meetS_any Aa Ab ca cb a b _ hIa hIb).mono ?_
      rintro e w12 ⟨er12, o12, A12', d12, HS12, rfl, hIo, hb12⟩
      obtain ⟨rfl, h12⟩ := HS12.out.and_ Oa.out Ob.out (by omega) (by omega) (by omega)
      have hIa := hIa.ext hb12; have hIb := hIb.ext hb12
      have hb12 := ext_trans hb11 hb12
      have HV12 := Lib.hid (h12.has t)
      rw [HP.out, HQ.out] at HV12
      clear h12
      go_wp2_with fail
      refine (got_ok _ _ _ _).mono ?_
      rintro e w' ⟨rfl, rfl⟩
      go_wp2_with fail
      refine (ivlHas_any _ _ o12 t _ hIo).mono ?_
      rw [HV12.out]
      rintro e w13 ⟨rfl, hb13⟩
      have hIa := hIa.ext hb13; have hIb := hIb.ext hb13
      have hb13 := ext_trans hb12 hb13
      go_wp2_with fail
      refine (minus_any Aa Ab ca cb a b _ hIa hIb).mono ?_
      rintro e w14 ⟨er14, o14, A14', d14, HS14, rfl, hIo, hb14⟩
      obtain ⟨rfl, h14⟩ := HS14.out.not_ Oa.out Ob.out (by omega) (by omega) (by omega)
      have hIa := hIa.ext hb14; have hIb := hIb.ext hb14
      have hb14 := ext_trans hb13 hb14
      have HV14 := Lib.hid (h14.has t)
      rw [HP.out, HQ.out] at HV14
      clear h14
      go_wp2_with fail
      refine (got_ok _ _ _ _).mono ?_
      rintro e w' ⟨rfl, rfl⟩
      go_wp2_with fail
      refine (ivlHas_any _ _ o14 t _ hIo).mono ?_
      rw [HV14.out]
      rintro e w15 ⟨rfl, hb15⟩
      have hIa := hIa.ext hb15; have hIb := hIb.ext hb15
      have hb15 := ext_trans hb14 hb15
      go_wp2_with fail
      go_ret
      exact ⟨rfl, hb15⟩
end Go.Proofs.Ytcfachfldanddaa
