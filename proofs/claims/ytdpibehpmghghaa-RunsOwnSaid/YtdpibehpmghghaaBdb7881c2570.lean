/- Several texts in one: IvlSetW, IvlMeet. -/
import Derived.Test.YtdpibehpmghghaaBd06c4b71d1b
/- The walks of Norm, both, done, Union. -/
namespace Go.Proofs.Ytdpibehpmghghaa
open Go.RowKit Go.Shelf

def farX (x : IvlD) : Bool := farB x.f || farB x.t
def NormSay (l : List IvlD) (er : Int) (out : List IvlD) : Prop :=
  if 200 < l.length then er = 2 ∧ out = [] else if l.any farX = true then er = 5 ∧ out = [] else er = 0 ∧ NormIs l out
theorem NormSay.same {l : List IvlD} {er er' : Int} {out out' : List IvlD} (h : NormSay l er out) (k : NormSay l er' out') : er = er' ∧ out = out' := by
  unfold NormSay at h k
  split at h
  · rename_i h1; rw [if_pos h1] at k; rw [h.1, h.2, k.1, k.2]; exact ⟨rfl, rfl⟩
  · rename_i h1
    rw [if_neg h1] at k
    split at h
    · rename_i h2; rw [if_pos h2] at k; rw [h.1, h.2, k.1, k.2]; exact ⟨rfl, rfl⟩
    · rename_i h2; rw [if_neg h2] at k; rw [h.1, k.1]; exact ⟨rfl, h.2.eq k.2⟩
theorem far_none {l : List IvlD} (h : ¬ l.any farX = true) : ∀ x, x ∈ l → nearB x.f = true ∧ nearB x.t = true := fun x hx => by
  have h1 : farX x = false := by
    cases hc : farX x
    · rfl
    · exact absurd (List.any_eq_true.2 ⟨x, hx, hc⟩) h
  unfold farX at h1
  rw [Bool.or_eq_false_iff] at h1
  exact ⟨far_off h1.1, far_off h1.2⟩
/-- What is made of a list, no more than 200 of it. -/
theorem NormSay.of {l : List IvlD} {er : Int} {out : List IvlD} (h : NormSay l er out) (h0 : er = 0) : Of (hasB l) l.length out ∧ l.length ≤ 200 := by
  unfold NormSay at h
  split at h
  · rw [h0] at h; simp at h
  · rename_i h1
    split at h
    · rw [h0] at h; simp at h
    · rename_i h2
      exact ⟨h.2.of (far_none h2), by omega⟩

theorem enters_Norm1 : Enters Try.prog 35 := enters_of Try.func35 (by kernel_rfl) rfl
set_option maxHeartbeats 1000000 in
theorem Norm1_any (x : IvlD) (W : World) : Calls Try.prog 35 #[ivlV x] W fun e w' => e = .returned (.bool (farX x)) ∧ Below W.heap.size W w' := by
  cases f1 : farB x.f
  case true =>
    go_enter Try.func35, Try.ntmps35
    go_wp2_with (first | (go_at_call 36; refine (far_is (by assumption) _).mono ?_; rintro e w' ⟨rfl, rfl⟩))
    go_ret
    exact ⟨ret_bool (by simp [farX, f1]), by go_grown⟩
  case false =>
    cases f2 : farB x.t
    all_goals
      go_enter Try.func35, Try.ntmps35
      go_wp2_with (first | (go_at_call 36; refine (far_is (by assumption) _).mono ?_; rintro e w' ⟨rfl, rfl⟩))
      go_ret
      exact ⟨ret_bool (by simp [farX, f1, f2]), by go_grown⟩

set_option maxHeartbeats 1000000 in
theorem ivlNorm_any (A : Option Addr) (c : Nat) (l : List IvlD) (w : World) (hI : IvlsAt w A c l) : Calls Try.prog 16 #[.slice A l.length c] w (SetOut (NormSay l) w) := by
  have m1 := hI.len
  by_cases hl : 200 < l.length
  case pos =>
    have hd : decide ((l.length : Int) > 200) = true := by simp; omega
    have HS : Hid (NormSay l 2 []) := Lib.hid (by unfold NormSay; rw [if_pos hl]; exact ⟨rfl, rfl⟩)
    clear hl hI
    go_enter Try.func16, Try.ntmps16
    go_wp2_with fail
    refine bodyPost_ret (v := .tuple #[.slice none 0 0, .int .i64 2]) (by simp [results, Try.results16]) rfl ?_
    exact ⟨2, [], none, 0, HS, rfl, .nil, Below.refl _ _⟩
  case neg =>
    have hd : decide ((l.length : Int) > 200) = false := by simp; omega
    have hC := containsFunc_any 35 #[] farX enters_Norm1 A c l w hI fun W x _ => Norm1_any x W
    cases hf : l.any farX
    case true =>
      have HS : Hid (NormSay l 5 []) := Lib.hid (by unfold NormSay; rw [if_neg hl, if_pos hf]; exact ⟨rfl, rfl⟩)
      rw [hf] at hC
      clear hl hI hf
      go_enter Try.func16, Try.ntmps16
      go_wp2_with (go_at_call 34; refine hC.mono ?_; rintro e w1 ⟨rfl, hb⟩)
      refine bodyPost_ret (v := .tuple #[.slice none 0 0, .int .i64 5]) (by simp [results, Try.results16]) rfl ?_
      exact ⟨5, [], none, 0, HS, rfl, .nil, hb⟩
    case false =>
      have hn := far_none (l := l) (by rw [hf]; simp)
      rw [hf] at hC
      have HS : ∀ out, NormIs l out → NormSay l 0 out := fun out h => by unfold NormSay; rw [if_neg hl, if_neg (by rw [hf]; simp)]; exact ⟨rfl, h⟩
      have HSS := Lib.hid HS
      have HL := Lib.hid hl
      have hN := fun W (h : IvlsAt W A c l) => norm_any A c l W h (by omega) hn
      have HI := Lib.hid hI
      clear hl hf HS hn hI
      go_enter Try.func16, Try.ntmps16
      go_wp2_with (go_at_call 34; refine hC.mono ?_; rintro e w1 ⟨rfl, hb⟩)
      refine (hN _ (HI.out.ext hb)).mono ?_
      rintro e w2 ⟨A2, c2, out, HO, rfl, hI2, hb2⟩
      clear hN hC
      go_wp2_with fail
      refine bodyPost_ret (v := .tuple #[.slice A2 out.length c2, .int .i64 0]) (by simp [results, Try.results16]) rfl ?_
      exact ⟨0, out, A2, c2, Lib.hid (HSS.out out HO.out.1), rfl, hI2.since hb.size, ext_trans hb hb2⟩

/-- What is wrong with two sets. -/
noncomputable def bothErr (a b : List IvlD) : Int := if setErr a = 0 then setErr b else setErr a
set_option maxHeartbeats 1000000 in
theorem both_any (A B : Option Addr) (c d : Nat) (a b : List IvlD) (w : World) (hA : IvlsAt w A c a) (hB : IvlsAt w B d b) :
    Calls Try.prog 30 #[.slice A a.length c, .slice B b.length d] w fun e w' => e = .returned (.int .i64 (bothErr a b)) ∧ Below w.heap.size w w' := by
  have hCa := ivlCheck_any A c a w hA
  have HB := Lib.hid hB
  by_cases h0 : setErr a = 0
  case pos =>
    unfold bothErr
    rw [if_pos h0]
    rw [h0] at hCa
    clear h0 hA hB
    go_enter Try.func30, Try.ntmps30
    go_wp2_with (go_at_call_of 53 a; refine hCa.mono ?_; rintro e w1 ⟨rfl, hb⟩)
    refine (ivlCheck_any B d b _ (HB.out.ext hb)).mono ?_
    rintro e w2 ⟨rfl, hb2⟩
    go_wp2_with fail
    go_ret
    exact ⟨rfl, ext_trans hb hb2⟩
  case neg =>
    have hd : (setErr a != 0) = true := by simpa using h0
    unfold bothErr
    rw [if_neg h0]
    clear h0 hA hB
    go_enter Try.func30, Try.ntmps30
    go_wp2_with (go_at_call 53; refine hCa.mono ?_; rintro e w1 ⟨rfl, hb⟩)
    go_ret
    exact ⟨rfl, hb⟩
theorem done_yes (A : Option Addr) (n c : Nat) (w : World) (h : 200 < n) : Calls Try.prog 31 #[.slice A n c] w fun e w' => e = .returned (.tuple #[.slice none 0 0, .int .i64 2]) ∧ w = w' := by
  have hd : decide ((n : Int) > 200) = true := by simp; omega
  go_enter Try.func31, Try.ntmps31
  go_wp2_with fail
  refine bodyPost_ret (v := .tuple #[.slice none 0 0, .int .i64 2]) (by simp [results, Try.results31]) rfl ?_
  exact ⟨rfl, rfl⟩
theorem done_no (A : Option Addr) (n c : Nat) (w : World) (h : ¬ 200 < n) : Calls Try.prog 31 #[.slice A n c] w fun e w' => e = .returned (.tuple #[.slice A n c, .int .i64 0]) ∧ w = w' := by
  have hd : decide ((n : Int) > 200) = false := by simp; omega
  go_enter Try.func31, Try.ntmps31
  go_wp2_with fail
  refine bodyPost_ret (v := .tuple #[.slice A n c, .int .i64 0]) (by simp [results, Try.results31]) rfl ?_
  exact ⟨rfl, rfl⟩
/-- What done tells of a set, where two sets are right. -/
theorem done_any {op : Bool → Bool → Bool} {a b out : List IvlD} (A : Option Addr) (c : Nat) (w : World) {b0 : Nat} (hI : IvlsNew b0 w A c out) (ha : setErr a = 0) (hb : setErr b = 0) (hn : NormL out) (hs : ∀ t, hasB out t = op (hasB a t) (hasB b t)) :
    Calls Try.prog 31 #[.slice A out.length c] w (SetOutB b0 (SetsSay op a b) w) := by
  by_cases hl : 200 < out.length
  · exact (done_yes A out.length c w hl).mono fun e w' ⟨he, hw⟩ => ⟨2, [], none, 0, Lib.hid (SetsSay.large ha hb hn hs hl), he, by rw [← hw]; exact .nil, by rw [← hw]; exact Below.refl _ _⟩
  · exact (done_no A out.length c w hl).mono fun e w' ⟨he, hw⟩ => ⟨0, out, A, c, Lib.hid (SetsSay.good ha hb hn hs hl), he, by rw [← hw]; exact hI, by rw [← hw]; exact Below.refl _ _⟩
theorem bothErr_bad {op : Bool → Bool → Bool} {a b : List IvlD} (h : bothErr a b ≠ 0) : SetsSay op a b (bothErr a b) [] := by
  unfold bothErr at h ⊢
  by_cases h0 : setErr a = 0
  · rw [if_pos h0] at h ⊢
    exact SetsSay.badB h0 h
  · rw [if_neg h0]
    exact SetsSay.badA h0
theorem bothErr_zero {a b : List IvlD} (h : bothErr a b = 0) : setErr a = 0 ∧ setErr b = 0 := by
  unfold bothErr at h
  by_cases h0 : setErr a = 0
  · rw [if_pos h0] at h; exact ⟨h0, h⟩
  · rw [if_neg h0] at h; exact absurd h h0
/-- A call that begins by looking at both sets, and finds one wrong. -/
theorem SetOut.trans {R : Int → List IvlD → Prop} {w w1 : World} {e : Ending} {w' : World} (hb : Below w.heap.size w w1) (h : SetOut R w1 e w') : SetOut R w e w' := by
  obtain ⟨er, out, A, c, h1, h2, h3, h4⟩ := h
  exact ⟨er, out, A, c, h1, h2, h3.since hb.size, ext_trans hb h4⟩

set_option maxRecDepth 100000 in
set_option maxHeartbeats 2000000 in
theorem union_any (A B : Option Addr) (c d : Nat) (a b : List IvlD) (w : World) (hA : IvlsAt w A c a) (hB : IvlsAt w B d b) :
    Calls Try.prog 12 #[.slice A a.length c, .slice B b.length d] w (SetOut (SetsSay opOr a b) w) := by
  have hBo := both_any A B c d a b w hA hB
  by_cases h0 : bothErr a b = 0
  case neg =>
    have hd : (bothErr a b != 0) = true := by simpa using h0
    have HS : Hid (SetsSay opOr a b (bothErr a b) []) := Lib.hid (bothErr_bad h0)
    clear h0 hA hB
    obtain ⟨er, her⟩ : ∃ er, bothErr a b = er := ⟨_, rfl⟩
    rw [her] at hBo hd HS
    clear her
    go_enter Try.func12, Try.ntmps12
    go_wp2_with (go_at_call 30; refine hBo.mono ?_; rintro e w1 ⟨rfl, hb⟩)
    refine bodyPost_ret (v := .tuple #[.slice none 0 0, .int .i64 er]) (by simp [results, Try.results12]) rfl ?_
    exact ⟨er, [], none, 0, HS, rfl, .nil, hb⟩
  case pos =>
    rw [h0] at hBo
    obtain ⟨ha, hb⟩ := bothErr_zero h0
    obtain ⟨hla, hoa⟩ := setErr_zero ha
    obtain ⟨hlb, hob⟩ := setErr_zero hb
    have HA := Lib.hid hA; have HB := Lib.hid hB; have HEA := Lib.hid ha; have HEB := Lib.hid hb; have HOA := Lib.hid hoa; have HOB := Lib.hid hob
    clear h0 ha hb hA hB hoa hob
    obtain ⟨i0, hi, hz0, hz1, hz2⟩ := info_ivl2
    go_enter Try.func12, Try.ntmps12
    go_wp2_with (go_at_call 30; refine hBo.mono ?_; rintro e w1 ⟨rfl, hb1⟩)
    refine (ivlClone_any A c a _ (HA.out.ext hb1) (by omega)).mono ?_
    rintro e w2 ⟨v2, rfl, O2, hb2⟩
    have hbb : Below w.heap.size w w2 := ext_trans hb1 hb2
    have hw12 := hb1.size
    have hI2 := HB.out.ext hbb
    have HW := Lib.hid hbb
    clear hBo hb1 hbb
    have hn : ∀ x, x ∈ a ++ b → nearB x.f = true ∧ nearB x.t = true := fun x hx => (List.mem_append.1 hx).elim (HOA.out.near x) (HOB.out.near x)
    have hi6 : ∀ x, x ∈ a ++ b → I64 x.f ∧ I64 x.t := fun x hx => ⟨near_i64 (hn x hx).1, near_i64 (hn x hx).2⟩
    have HN := Lib.hid hn; have HI6 := Lib.hid hi6
    clear hn hi6
    have hz12 := hb2.size
    have tok : True := trivial
    obtain ⟨A2, c2, rfl⟩ := O2.form
    have hrm := O2.room
    suffices hsuf : ∀ (v' : Value) (w6 : World), Own ivlC 2 w6 w1.heap.size 29 v' (a ++ b) → Below w1.heap.size w2 w6 → Hid (∃ A6 c6, v' = .slice A6 (a ++ b).length c6 ∧ IvlsAt w6 A6 c6 (a ++ b) ∧ Below w.heap.size w w6) by
      cases B with
      | none =>
        have h0 : b = [] := by
          cases b with
          | nil => rfl
          | cons y l =>
            obtain ⟨b', off, e, _⟩ := hI2.get (k := 0) (x := y) rfl
            simp at e
        have hS6 := (hsuf (.slice A2 a.length c2) w2 (by rw [h0, List.append_nil]; exact O2) (Below.refl _ _)).out
        have HB0 := Lib.hid h0
        obtain ⟨A6, c6, e6, hI6, hb6⟩ := hS6
        have hN := norm_any A6 c6 (a ++ b) w2 hI6 (by simp; omega) HN.out
        rw [← e6] at hN
        have hlb : b.length = 0 := by rw [h0]; rfl
        clear hsuf e6 hI6 h0 hI2
        rw [hlb]
        go_wp2_with (at_builtin; refine wpList_append_nothing rfl (.tmp 14) (.tmp 15) 22 rfl 29 i0 Try.underlying22 hi A2 a.length c2 d rfl rfl hrm.1 ?_)
        refine hN.mono ?_
        rintro e w7 ⟨A7, c7, out, HO, rfl, hI7, hb7⟩
        clear hN
        go_wp2_with fail
        refine (done_any (op := opOr) A7 c7 w7 (hI7.since hb6.size) HEA.out HEB.out HO.out.1.1 (fun t => by rw [HO.out.1.2, has_append]; rfl)).mono ?_
        rintro e w8 ⟨er, out', A8, c8, HS, rfl, hI8, hb8⟩
        go_wp2_with fail
        refine bodyPost_ret (v := .tuple #[.slice A8 out'.length c8, .int .i64 er]) (by simp [results, Try.results12]) rfl ?_
        exact ⟨er, out', A8, c8, HS, rfl, hI8, ext_trans (ext_trans hb6 hb7) hb8⟩
      | some ad =>
        have hcells : ∀ (j : Nat) u, (b.flatMap ivlC)[j]? = some u → w2.cell? (ad.add j) = some u := fun j u hu => by
          cases b with
          | nil => simp at hu
          | cons y l =>
            obtain ⟨b', off, e, _⟩ := hI2.get (k := 0) (x := y) rfl
            obtain rfl : ad = ⟨b', off, none⟩ := by simpa using e
            rw [Go.WideShapes.add_plain]
            exact hI2.flat j u hu
        clear hI2
        go_wp2_with (at_builtin; refine wpList_append_own_at _ rfl (.tmp 14) (.tmp 15) 22 rfl w1.heap.size 29 i0 _ 2 16 Try.underlying22 hi hz0 hz1 hz2 rfl (by decide) _ a.length (a.flatMap ivlC) rfl O2 ad b.length d (b.flatMap ivlC) rfl (flat_length ivlC_len b) hcells (ivls_one b) (by unfold maxLen; omega) (by omega) hz12 ?_; intro v6 w6 h2 h3 _ _; obtain ⟨A6, c6, e6, hI6, hb6⟩ := (hsuf v6 w6 (by simpa [Own] using h2) ((Below.refl w1.heap.size w2).grown h3 hz12 fun k hk => (World.ownsRow.lt O2 k hk).1)).out; subst e6)
        have hN := norm_any A6 c6 (a ++ b) w6 hI6 (by simp; omega) HN.out
        rw [List.length_append] at hN
        refine hN.mono ?_
        rintro e w7 ⟨A7, c7, out, HO, rfl, hI7, hb7⟩
        go_wp2_with fail
        refine (done_any (op := opOr) A7 c7 w7 (hI7.since hb6.size) HEA.out HEB.out HO.out.1.1 (fun t => by rw [HO.out.1.2, has_append]; rfl)).mono ?_
        rintro e w8 ⟨er, out', A8, c8, HS, rfl, hI8, hb8⟩
        go_wp2_with fail
        refine bodyPost_ret (v := .tuple #[.slice A8 out'.length c8, .int .i64 er]) (by simp [results, Try.results12]) rfl ?_
        exact ⟨er, out', A8, c8, HS, rfl, hI8, ext_trans (ext_trans hb6 hb7) hb8⟩
    intro v' w6 hO6 hb6
    refine Lib.hid ?_
    obtain ⟨A6, c6, e6, hI6⟩ := own_ivls hO6 HI6.out
    exact ⟨A6, c6, e6, hI6, HW.out.trans (hb6.mono hw12)⟩
end Go.Proofs.Ytdpibehpmghghaa
/- The walks of meet, Meet, Minus. -/
namespace Go.Proofs.Ytdpibehpmghghaa
open Go.RowKit Go.Shelf

/-- Two sets' common times are told. -/
def CommonOut (a b : List IvlD) (w : World) (e : Ending) (w' : World) : Prop := ∃ A c out, Hid (NormL out ∧ ∀ t, hasB out t = (hasB a t && hasB b t)) ∧ e = .returned (.slice A out.length c) ∧ IvlsNew w.heap.size w' A c out ∧ Below w.heap.size w w'
def commonNext (x y : IvlD) (out : List IvlD) : List IvlD := if max x.f y.f < min x.t y.t then out ++ [⟨max x.f y.f, min x.t y.t⟩] else out

set_option maxRecDepth 100000 in
set_option maxHeartbeats 8000000 in
theorem meet_any (A B : Option Addr) (c d : Nat) (a b : List IvlD) (w : World) (hA : IvlsAt w A c a) (hB : IvlsAt w B d b) (ha : NormL a) (hb : NormL b) (hla : a.length ≤ 1000) (hlb : b.length ≤ 1000) :
    Calls Try.prog 33 #[.slice A a.length c, .slice B b.length d] w (CommonOut a b w) := by
  obtain ⟨i0, hi, hz0, hz1, hz2⟩ := info_ivl2
  have HA := Lib.hid hA; have HB := Lib.hid hB
  have HNA := Lib.hid ha; have HNB := Lib.hid hb
  clear hA hB ha hb
  go_enter Try.func33, Try.ntmps33
  go_wp2_with fail
  go_loopw [5, 6, 7] (fun u v v' wr => ∃ (i j : Nat) (out : List IvlD), v = .int .i64 i ∧ v' = .int .i64 j ∧ i ≤ a.length ∧ j ≤ b.length ∧ Hid (Common a b i j out ∧ out.length ≤ i + j ∧ ∀ x, x ∈ out → I64 x.f ∧ I64 x.t) ∧ Own ivlC 2 wr w.heap.size 29 u out ∧ Below w.heap.size w wr) (fun _ v v' _ => a.length + b.length - (intOf v).toNat - (intOf v').toNat)
  case atStart => exact ⟨0, 0, [], rfl, rfl, Nat.zero_le _, Nat.zero_le _, Lib.hid ⟨Common.start, Nat.le_refl _, fun x h => by simp at h⟩, Own.nil, Below.refl _ _⟩
  case round =>
    obtain ⟨i, j, out, rfl, rfl, hia, hjb, HC, hO, hbl⟩ := hrel
    have hwr := hbl.size
    obtain ⟨Ao, co, rfl⟩ := hO.form
    have hol := HC.out.2.1
    by_cases hlt : i < a.length ∧ j < b.length
    case neg =>
      have hfin : Hid (NormL out ∧ ∀ t, hasB out t = (hasB a t && hasB b t)) := Lib.hid (HC.out.1.fin (by omega))
      obtain ⟨Ax, cx, ex, hIo⟩ := own_ivls hO HC.out.2.2
      have ex : Ao = Ax ∧ co = cx := by simpa using ex
      obtain ⟨rfl, rfl⟩ := ex
      by_cases h1 : i < a.length
      · have h2 : ¬ j < b.length := fun h => hlt ⟨h1, h⟩
        have d1 : decide (i < a.length) = true := by simpa using h1
        have d2 : decide (j < b.length) = false := by simpa using h2
        clear hlt
        go_wp2_with fail
        go_ret
        exact ⟨Ao, co, out, hfin, rfl, hIo, hbl⟩
      · have d1 : decide (i < a.length) = false := by simpa using h1
        clear hlt
        go_wp2_with fail
        go_ret
        exact ⟨Ao, co, out, hfin, rfl, hIo, hbl⟩
    case pos =>
      obtain ⟨h1, h2⟩ := hlt
      obtain ⟨x, hx⟩ := get_lt h1
      obtain ⟨y, hy⟩ := get_lt h2
      obtain ⟨ba, oa, rfl, hba, x0, x1⟩ := HA.out.get hx
      obtain ⟨bb, ob, rfl, hbb0, y0, y1⟩ := HB.out.get hy
      have WX := Lib.hid x1; have WY := Lib.hid y1
      rw [← hbl.cell (by exact hba)] at x0 x1
      rw [← hbl.cell (by exact hbb0)] at y0 y1
      have xi := HA.out.i64 hx
      have yi := HB.out.i64 hy
      have HX := Lib.hid hx; have HY := Lib.hid hy
      have HI : Hid (I64 (max x.f y.f) ∧ I64 (min x.t y.t)) := Lib.hid (by
        obtain ⟨p1, p2⟩ := xi
        obtain ⟨q1, q2⟩ := yi
        unfold I64 at p1 p2 q1 q2 ⊢
        omega)
      have d1 : decide (i < a.length) = true := by simpa using h1
      have d2 : decide (j < b.length) = true := by simpa using h2
      have k0 := cell_keep (ext_alloc (Below.refl _ wr) (Obj.cells #[Value.int IntKind.i64 0, Value.int IntKind.i64 0] 29)) x0
      have k1 := cell_keep (ext_alloc (Below.refl _ wr) (Obj.cells #[Value.int IntKind.i64 0, Value.int IntKind.i64 0] 29)) x1
      have k2 := cell_keep (ext_alloc (Below.refl _ wr) (Obj.cells #[Value.int IntKind.i64 0, Value.int IntKind.i64 0] 29)) y0
      have k3 := cell_keep (ext_alloc (Below.refl _ wr) (Obj.cells #[Value.int IntKind.i64 0, Value.int IntKind.i64 0] 29)) y1
      clear hx hy xi yi
      obtain ⟨out', ho'⟩ : ∃ o, o = commonNext x y out := ⟨_, rfl⟩
      have HO' := Lib.hid ho'
      have hol' : out'.length ≤ out.length + 1 := by rw [ho']; unfold commonNext; split <;> simp
      clear ho'
      have Hi : Hid (∀ z, z ∈ out' → I64 z.f ∧ I64 z.t) := Lib.hid (by
        rw [HO'.out]
        unfold commonNext
        split
        · intro z hz
          rcases List.mem_append.1 hz with hz | hz
          · exact HC.out.2.2 z hz
          · obtain rfl : z = _ := by simpa using hz
            exact HI.out
        · exact HC.out.2.2)
      have HA1 : Hid (x.t ≤ y.t → Common a b (i + 1) j out' ∧ out'.length ≤ i + 1 + j) := Lib.hid fun h => ⟨HC.out.1.stepA HNA.out HNB.out HX.out HY.out h HO'.out, by omega⟩
      have HB1 : Hid (y.t ≤ x.t → Common a b i (j + 1) out' ∧ out'.length ≤ i + (j + 1)) := Lib.hid fun h => ⟨HC.out.1.stepB HNA.out HNB.out HX.out HY.out h HO'.out, by omega⟩
      clear hol'
      by_cases hcm : max x.f y.f < min x.t y.t
      case pos =>
        have d3 : decide (max x.f y.f < min x.t y.t) = true := by simpa using hcm
        have HE : Hid (out' = out ++ [⟨max x.f y.f, min x.t y.t⟩]) := Lib.hid (by rw [HO'.out]; unfold commonNext; rw [if_pos hcm])
        clear hcm
        go_wp2_with fail
        go_region
        clear k0 k1 k2 k3 x0 x1 y0 y1
        obtain ⟨w5, hw5⟩ : ∃ w5, w5 = (wr.alloc (Obj.cells #[Value.int IntKind.i64 (max x.f y.f), Value.int IntKind.i64 (min x.t y.t)] 29)).drew := ⟨_, rfl⟩
        have hb5 : Below w.heap.size w w5 := by rw [hw5]; exact below_drew (ext_alloc hbl _)
        have hown5 : Own ivlC 2 w5 w.heap.size 29 (.slice Ao out.length co) out := by rw [hw5]; exact (hO.alloc _).drew
        have z0 : w5.cell? ⟨wr.heap.size, 0, none⟩ = some (.int .i64 (max x.f y.f)) := by rw [hw5]; exact (Blk.new wr 29 #[.int .i64 (max x.f y.f), .int .i64 (min x.t y.t)]).cell 0
        have z1 : w5.cell? ⟨wr.heap.size, 1, none⟩ = some (.int .i64 (min x.t y.t)) := by rw [hw5]; exact (Blk.new wr 29 #[.int .i64 (max x.f y.f), .int .i64 (min x.t y.t)]).cell 1
        rw [← hw5]
        clear hw5
        have hw5 := hb5.size
        have hcl : out.length + 1 ≤ 1000000 := by omega
        go_wp2_with (at_builtin; refine wpList_append_lie (enc := ivlC) rfl (.tmp 47) (.tmp 49) 22 rfl w.heap.size 29 i0 _ 2 16 Try.underlying22 hi hz0 hz1 hz2 rfl (by decide) _ out ⟨max x.f y.f, min x.t y.t⟩ rfl hown5 #[.int .i64 (max x.f y.f), .int .i64 (min x.t y.t)] rfl w5.heap.size rfl rfl rfl two_one hcl (by decide) hw5 ?_; intro gn cap w6 hown6 hbb hkp hgn; have hbz : Below w.heap.size w w6 := hb5.trans hbb; clear hbb hkp hgn z0 z1; have x1 := (hbz.cell (p := ⟨ba, oa + i * 2 + 1, none⟩) hba).trans WX.out; have y1 := (hbz.cell (p := ⟨bb, ob + j * 2 + 1, none⟩) hbb0).trans WY.out)
        by_cases hcmp : x.t < y.t
        case pos =>
          have d4 : decide (x.t < y.t) = true := by simpa using hcmp
          go_wp2_with fail
          go_quiet (fail)
          go_wp2_with fail
          go_roundw
          case rel => exact ⟨i + 1, j, out', by go_num, rfl, by omega, by omega, Lib.hid ⟨(HA1.out (by omega)).1, (HA1.out (by omega)).2, Hi.out⟩, by rw [HE.out]; exact hown6.drewN _, below_drewN hbz _⟩
          case measure => simp [intOf]; omega
        case neg =>
          have d4 : decide (x.t < y.t) = false := by simpa using hcmp
          go_wp2_with fail
          go_quiet (fail)
          go_wp2_with fail
          go_roundw
          case rel => exact ⟨i, j + 1, out', rfl, by go_num, by omega, by omega, Lib.hid ⟨(HB1.out (by omega)).1, (HB1.out (by omega)).2, Hi.out⟩, by rw [HE.out]; exact hown6.drewN _, below_drewN hbz _⟩
          case measure => simp [intOf]; omega
      case neg =>
        have d3 : decide (max x.f y.f < min x.t y.t) = false := by simpa using hcm
        have HE : Hid (out' = out) := Lib.hid (by rw [HO'.out]; unfold commonNext; rw [if_neg hcm])
        clear hcm
        go_wp2_with fail
        go_region
        clear k0 k1 k2 k3 x0 x1 y0 y1
        obtain ⟨w6, hw6⟩ : ∃ w6, w6 = (wr.alloc (Obj.cells #[Value.int IntKind.i64 (max x.f y.f), Value.int IntKind.i64 (min x.t y.t)] 29)).drew := ⟨_, rfl⟩
        have hbz : Below w.heap.size w w6 := by rw [hw6]; exact below_drew (ext_alloc hbl _)
        have hown6 : Own ivlC 2 w6 w.heap.size 29 (.slice Ao out.length co) out := by rw [hw6]; exact (hO.alloc _).drew
        have z0 : w6.cell? ⟨wr.heap.size, 0, none⟩ = some (.int .i64 (max x.f y.f)) := by rw [hw6]; exact (Blk.new wr 29 #[.int .i64 (max x.f y.f), .int .i64 (min x.t y.t)]).cell 0
        have z1 : w6.cell? ⟨wr.heap.size, 1, none⟩ = some (.int .i64 (min x.t y.t)) := by rw [hw6]; exact (Blk.new wr 29 #[.int .i64 (max x.f y.f), .int .i64 (min x.t y.t)]).cell 1
        have x1 := (hbz.cell (p := ⟨ba, oa + i * 2 + 1, none⟩) hba).trans WX.out
        have y1 := (hbz.cell (p := ⟨bb, ob + j * 2 + 1, none⟩) hbb0).trans WY.out
        rw [← hw6]
        clear hw6
        by_cases hcmp : x.t < y.t
        case pos =>
          have d4 : decide (x.t < y.t) = true := by simpa using hcmp
          go_wp2_with fail
          go_quiet (fail)
          go_wp2_with fail
          go_roundw
          case rel => exact ⟨i + 1, j, out', by go_num, rfl, by omega, by omega, Lib.hid ⟨(HA1.out (by omega)).1, (HA1.out (by omega)).2, Hi.out⟩, by rw [HE.out]; exact hown6.drewN _, below_drewN hbz _⟩
          case measure => simp [intOf]; omega
        case neg =>
          have d4 : decide (x.t < y.t) = false := by simpa using hcmp
          go_wp2_with fail
          go_quiet (fail)
          go_wp2_with fail
          go_roundw
          case rel => exact ⟨i, j + 1, out', rfl, by go_num, by omega, by omega, Lib.hid ⟨(HB1.out (by omega)).1, (HB1.out (by omega)).2, Hi.out⟩, by rw [HE.out]; exact hown6.drewN _, below_drewN hbz _⟩
          case measure => simp [intOf]; omega
end Go.Proofs.Ytdpibehpmghghaa
