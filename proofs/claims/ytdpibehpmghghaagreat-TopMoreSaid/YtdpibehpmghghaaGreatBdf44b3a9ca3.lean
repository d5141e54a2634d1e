/- Several texts in one: MoreSpec, EachG, MapOnly. -/
import Derived.Test.YtdpibehpmghghaaGreatBd4045126264
import Derived.Test.YtdpibehpmghghaaGreatBdcd95ff1835
import Derived.Test.YtdpibehpmghghaaGreatBd7809182ad4
import Derived.Test.YtdpibehpmghghaaGreatBde6a0dff157
import Derived.Test.YtdpibehpmghghaaGreatBd0099a17721
import Derived.Test.YtdpibehpmghghaaGreatBd8dbe371942
/- With an edge more one comes nowhere later, nor at a greater cost, and a run tells nowhere more; no program in sight. -/
namespace Go.Proofs.YtdpibehpmghghaaGreat

def moreG (g : GraphD) (x : EdgeD) : GraphD := ⟨g.h, g.lives, g.edges ++ [x]⟩
section
variable {g : GraphD} {x z : EdgeD} {v t s p : Int} {k k' : Nat} {out out' : List (List PieceD)}
theorem alive_more : aliveB (moreG g x) v t = aliveB g v t := rfl
theorem arrive_more : arrive (moreG g x) z t = arrive g z t := rfl
theorem firstL_more : ∀ (n : Nat) (d : Int) (o : Option (Int × Int)), firstL (moreG g x) z n d o = firstL g z n d o
  | 0, _, _ => rfl
  | n + 1, d, o => by
    show firstL (moreG g x) z n (d + 1) (fstep (moreG g x) z o d) = firstL g z n (d + 1) (fstep g z o d)
    rw [firstL_more n]
    rfl
theorem earlyF_more : earlyF (moreG g x) z = earlyF g z := funext fun t => by
  unfold earlyF first
  rw [firstL_more]
  rfl
theorem best_more {ι : Type} {A B : Arc ι → Prop} {init d e : ι → Int} (h : Best A init d) (k : Best B init e) (hs : ∀ y, A y → B y) : ∀ i, e i ≤ d i := h.2 e ⟨k.1.1, fun y hy => k.1.2 y (hs y hy)⟩
theorem more_early {la lb : List Int} (h : EarlyL g v t la) (k : EarlyL (moreG g x) v t lb) : ∀ i, gi lb i ≤ gi la i := by
  refine best_more h.2 (show Best (fun y => y ∈ arcsE (moreG g x)) (gi (startE g v t)) (gi lb) from k.2) fun y hy => ?_
  obtain ⟨z, hz, rfl⟩ := mem_arcsE.1 hy
  refine mem_arcsE.2 ⟨z, List.mem_append_left _ hz, ?_⟩
  unfold arcE
  rw [earlyF_more]
theorem leastN_mono {d e : Nat × Nat → Int} (h : ∀ i, e i ≤ d i) (u n : Nat) : (leastN e u n).1 ≤ (leastN d u n).1 := by
  rcases Int.lt_or_le (leastN d u n).1 Never with h1 | h1
  · obtain ⟨r, hr, _, h2⟩ := leastN_at h1
    have h3 := leastN_all (d := e) (v := u) hr
    have h4 := h (u, r)
    omega
  · exact Int.le_trans (leastN_le e u n) h1
theorem more_costs {wt : LegD → Int} {la lb : List Int} (h : CostsL g wt v s la) (k : CostsL (moreG g x) wt v s lb) : la.length = g.lives.length ∧ lb.length = g.lives.length ∧ ∀ i, gi lb i ≤ gi la i := by
  obtain ⟨d, hd, rfl⟩ := h
  obtain ⟨e, he, rfl⟩ := k
  have hm := best_more hd (show Best (CostA (moreG g x) wt) (initC g v s) e from he) fun y hy => by
    rcases hy with ⟨v, t, h1, h2, h3, h4⟩ | ⟨z, l, to, t, h1, h2, h3⟩
    · exact .inl ⟨v, t, h1, h2, h3, h4⟩
    · exact .inr ⟨z, l, to, t, List.mem_append_left _ h1, h2, h3⟩
  refine ⟨leastL_len g d, leastL_len _ e, fun i => ?_⟩
  rcases Nat.lt_or_ge i g.lives.length with hi | hi
  · rw [gi_of (leastL_get hi), gi_of (leastL_get (g := moreG g x) hi)]
    exact leastN_mono hm i g.h.toNat
  · rw [gi_far (by rw [leastL_len]; exact hi), gi_far (by rw [leastL_len]; exact hi)]
    exact Int.le_refl _
theorem arcsL_more : ∀ l : List EdgeD, arcsL (moreG g x) t l = arcsL g t l
  | [] => rfl
  | y :: l => by
    show arcOf (moreG g x) t y ++ arcsL (moreG g x) t l = arcOf g t y ++ arcsL g t l
    rw [arcsL_more l]
    rfl
theorem more_run (hV : Valid g) (hV' : Valid (moreG g x)) (h : RunSay g p v k out) (h' : RunSay (moreG g x) p v k' out') {i : Nat} {m m' : List PieceD} (hm : out[i]? = some m) (hm' : out'[i]? = some m') : ∀ t, val m' t ≤ val m t := fun t => by
  have l1 := h.lies m (List.mem_of_getElem? hm)
  have l2 := h'.lies m' (List.mem_of_getElem? hm')
  by_cases ht : 0 ≤ t ∧ t < g.h
  · have b1 := run_best hV h ht.1 ht.2
    have b2 := run_best hV' h' ht.1 ht.2
    have e : initAt (moreG g x) p v t = initAt g p v t := rfl
    rw [e] at b2
    have h3 := best_more b1 b2 (fun y hy => by
      obtain ⟨a, ha, hb⟩ := hy
      refine ⟨a, ?_, hb⟩
      show a ∈ arcsL (moreG g x) t (g.edges ++ [x])
      have ha' : a ∈ arcsL g t g.edges := ha
      have e2 : arcsL (moreG g x) t (g.edges ++ [x]) = arcsL g t g.edges ++ arcsL (moreG g x) t [x] := by
        rw [← arcsL_more (x := x) g.edges]
        unfold arcsL
        rw [List.flatMap_append]
      rw [e2]
      exact List.mem_append_left _ ha') i
    rwa [dAt_of hm, dAt_of hm'] at h3
  · rcases l1.val_cases t with ⟨k1, _⟩ | ⟨_, _, k2, _⟩
    · rcases l2.val_cases t with ⟨k3, _⟩ | ⟨_, _, k4, _⟩
      · rw [k1, k3]
        exact Int.le_refl _
      · exact absurd k4 ht
    · exact absurd k2 ht
theorem merge_more {h er : Int} {m m' o : List PieceD} (hm : Lies h m) (hm' : Lies h m') (h1 : 1 ≤ h) (h100 : h ≤ 100) (hle : ∀ t, val m' t ≤ val m t) (hs : MergeSay 1 m m' er o) : er = 0 ∧ o = m' := by
  unfold MergeSay at hs
  rw [if_pos (hm.ok h1 h100).2, if_pos (hm'.ok h1 h100).2, if_pos (by decide)] at hs
  have key : ∀ t, mergeF 1 m m' t = atM m' t := fun t => by
    unfold mergeF
    have h2 := hle t
    rcases hm.val_cases t with ⟨k1, k2⟩ | ⟨k1, k3, _, k2⟩
    · rw [k2]
      cases atM m' t <;> rfl
    · rcases hm'.val_cases t with ⟨k4, _⟩ | ⟨_, _, _, k5⟩
      · rw [k4] at h2; unfold Far at h2; omega
      · rw [k2, k5]
        show some (both3 1 (val m t) (val m' t)) = _
        have e : both3 1 (val m t) (val m' t) = val m' t := by unfold both3; rw [if_neg (by decide), if_pos rfl]; omega
        rw [e]
  obtain ⟨U, u1, u2, u3, u4, _⟩ := hs
  have hU : U = m' := map_unique u1 hm'.map fun t => by rw [u2, key]
  have hl := hm'.len (by omega)
  have h0 : er = 0 := by
    rw [u3]
    refine tellErr_ok (fun t v hv => ?_) (by rw [hU]; omega)
    rw [key] at hv
    have := (hm'.at_ hv).2
    exact near_in this.1 this.2
  exact ⟨h0, by rw [u4 h0, hU]⟩
end
end Go.Proofs.YtdpibehpmghghaaGreat
/- The walk of imap.each, of a closure that writes (printed by geneachg.py). -/
namespace Go.Proofs.YtdpibehpmghghaaGreat
open Go.RowKit Go.Shelf

set_option maxRecDepth 100000 in
set_option maxHeartbeats 16000000 in
theorem each_gen (fn : Nat) (lb : Array Value) (f : Int → Option Int) (eg : ∀ args w, (callFunc fn args).run Tryz.prog w = .ok (.enter fn args) w) (A : Option Addr) (c : Nat) (D : List Int) (w : World) (hA : IntsAt w A c D) (hDl : D.length ≤ 10000)
    (hD : D.Pairwise (· < ·)) (hT : TurnsAt D none f) (hv : ∀ t v, f t = some v → I64 v) (J : Nat → World → Prop) (hJ0 : J 0 w) (hJA : ∀ i W, J i W → IntsAt W A c D) (hJB : ∀ i W W', J i W → Below w.heap.size W W' → J i W')
    (hp : ∀ (i : Nat) (W : World) (x : Int), J i W → D[i]? = some x → i + 1 < D.length → Calls Tryz.prog fn (#[.int .i64 x] ++ lb) W fun e w' => e = .returned (atV (f x)) ∧ J (i + 1) w' ∧ W.heap.size ≤ w'.heap.size ∧ ∀ b t cs, t ≠ 4 → Blk W b t cs → Blk w' b t cs) :
    Calls Tryz.prog 60 #[.slice A D.length c, .func (.func fn) #[] lb] w (fun e w' => ∃ er out A' c' i, Hid (EachSay f er out) ∧ e = .returned (.tuple #[.slice A' out.length c', .int .i64 er]) ∧ PiecesNew w.heap.size w' A' c' out ∧ Hid (J i w') ∧ D.length ≤ i + 1 ∧ (i < D.length ∨ i = 0)) := by
  have HI64 := Lib.hid hA.i64
  have HP := Lib.hid hp; have HTD := Lib.hid hT; have HD := Lib.hid hD; have HV := Lib.hid hv
  have HJA := Lib.hid hJA; have HJB := Lib.hid hJB; have HJ0 := Lib.hid hJ0
  have hD9 := hA.len
  clear hA hp hT hD hv hJ0 hJA hJB
  go_enter Tryz.func60, Tryz.ntmps60
  go_wp2_with fail
  go_loopw [7] (fun v wr => ∃ (i : Nat) (out : List PieceD) (v' : Value), v = .int .i64 i ∧ Hid (i < D.length ∨ (D = [] ∧ i = 0 ∧ out = [])) ∧ Hid (ToldK f D i out) ∧ Blk wr w.heap.size 141 #[v'] ∧ Own pieceC 3 wr (w.heap.size + 1) 53 v' out ∧ Hid (J i wr) ∧ w.heap.size + 1 ≤ wr.heap.size) (fun v _ => D.length - (intOf v).toNat)
  case atStart => exact ⟨0, [], _, rfl, Lib.hid (by cases D with
    | nil => exact .inr ⟨rfl, rfl, rfl⟩
    | cons y r => exact .inl (by simp)), Lib.hid ToldK.start, Blk.new w _ _, Own.nil, Lib.hid (HJB.out _ _ _ HJ0.out (by go_grown)), by simp⟩
  case round =>
    obtain ⟨i, out, v', rfl, H0, HB, BB, hO, HJ0, hwr⟩ := hrel
    have hil : i ≤ D.length := by rcases H0.out with h | ⟨h, h2, _⟩ <;> omega
    have hol := HB.out.2.1
    by_cases hlt : i + 1 < D.length
    case neg =>
      have HF : Hid (MapL out ∧ ∀ t, atM out t = f t) := Lib.hid (HB.out.fin HD.out HTD.out (by omega) (H0.out.imp id fun h => ⟨h.1, h.2.2⟩))
      obtain ⟨Ao, co, rfl, hIo⟩ := own_pieces hO HB.out.2.2
      have hDn := bdone_any w.heap.size Ao out.length co wr BB
      by_cases hl : 200 < out.length
      · rw [if_pos hl] at hDn
        have HS : Hid (EachSay f 2 []) := Lib.hid ⟨out, HF.out.1, HF.out.2, by rw [if_pos hl], by rw [if_pos hl]⟩
        clear hl
        go_wp2_with (go_at_call 85; refine hDn.mono ?_; rintro e w' ⟨rfl, rfl⟩)
        refine bodyPost_ret (v := .tuple #[.slice none 0 0, .int .i64 2]) (by simp [results, Tryz.results60]) rfl ?_
        exact ⟨2, [], none, 0, i, HS, rfl, .nil, HJ0, by omega, H0.out.imp id fun h => h.2.1⟩
      · rw [if_neg hl] at hDn
        have HS : Hid (EachSay f 0 out) := Lib.hid ⟨out, HF.out.1, HF.out.2, by rw [if_neg hl], by rw [if_neg hl]⟩
        clear hl
        go_wp2_with (go_at_call 85; refine hDn.mono ?_; rintro e w' ⟨rfl, rfl⟩)
        refine bodyPost_ret (v := .tuple #[.slice Ao out.length co, .int .i64 0]) (by simp [results, Tryz.results60]) rfl ?_
        exact ⟨0, out, Ao, co, i, HS, rfl, hIo.since (Nat.le_succ _), HJ0, by omega, H0.out.imp id fun h => h.2.1⟩
    case pos =>
      obtain ⟨a, ha⟩ := get_lt (show i < D.length by omega)
      obtain ⟨d, hd⟩ := get_lt hlt
      obtain ⟨b, off, rfl, hb0, x0⟩ := (HJA.out _ _ HJ0.out).get ha
      obtain ⟨b', off', e', _, x1⟩ := (HJA.out _ _ HJ0.out).get hd
      obtain ⟨rfl, rfl⟩ : b = b' ∧ off = off' := by simpa using e'
      have HIA := Lib.hid (HI64.out a (List.mem_of_getElem? ha)); have HID := Lib.hid (HI64.out d (List.mem_of_getElem? hd))
      have HAD : Hid (a < d) := Lib.hid (rises_lt HD.out ha hd)
      have HA := Lib.hid ha; have HDD := Lib.hid hd
      have hc := HP.out i wr a HJ0.out ha hlt
      have hil' : i < D.length := by omega
      have hltz : (i : Int) + 1 < (D.length : Int) := by omega
      have hiw : IntKind.i64.wrap ((i : Int) + 1) = (i : Int) + 1 := IntWalk.i64_in _ (by omega)
      have hol9 : out.length ≤ 100000 := by omega
      have hi0 : (0 : Int) ≤ (i : Int) + 1 := by omega
      clear ha hd e' x1
      cases hq : f a with
      | none =>
        rw [hq] at hc
        have HQ := Lib.hid hq
        unfold atV at hc
        simp only [Option.getD_none, Option.isSome_none] at hc
        clear hq
        go_wp2_with fail
        refine hc.mono ?_
        rintro e w' ⟨rfl, hJ2, hz2, hk2⟩
        go_wp2_with fail
        go_roundw
        case rel => exact ⟨i + 1, out, v', by go_num, Lib.hid (.inl hlt), Lib.hid (HB.out.skip HD.out HTD.out HA.out HDD.out HQ.out), hk2 _ _ _ (by decide) BB, hO.keep (fun b cs h => hk2 b _ cs (by decide) h), Lib.hid hJ2, Nat.le_trans hwr hz2⟩
        case measure => simp [intOf]; omega
      | some y =>
        rw [hq] at hc
        have HQ := Lib.hid hq
        have HIY := Lib.hid (HV.out a y hq)
        unfold atV at hc
        simp only [Option.getD_some, Option.isSome_some] at hc
        clear hq
        go_wp2_with fail
        refine hc.mono ?_
        rintro e w2 ⟨rfl, hJ2, hz2, hk2⟩
        have hO := hO.keep (fun b cs h => hk2 b _ cs (by decide) h)
        have BB := hk2 _ _ _ (by decide) BB
        have HJ2 := Lib.hid hJ2
        have hwr := Nat.le_trans hwr hz2
        clear hz2 hk2 hJ2 x0
        go_wp2_with fail
        rcases List.eq_nil_or_concat out with rfl | ⟨o, z, rfl⟩
        · have HB2 : Hid (ToldK f D (i + 1) ([] ++ [⟨a, d, y⟩])) := Lib.hid (HB.out.next HD.out HTD.out HA.out HDD.out HQ.out (fun y hy => by simp at hy) HIA.out HID.out HIY.out)
          obtain ⟨S, hSS⟩ : ∃ S : World → Prop, Hid (S = fun w' => w'.cell? ⟨b, off + i, none⟩ = some (.int .i64 a) ∧ w'.cell? ⟨b, off + (i + 1), none⟩ = some (.int .i64 d)) := ⟨_, Lib.hid rfl⟩
          have BB := BB.drew
          have hO := hO.drew
          have HJ2 : Hid (J (i + 1) w2.drew) := Lib.hid (HJB.out _ _ _ HJ2.out (below_drew (Below.refl _ w2)))
          have hwr : w.heap.size + 1 ≤ w2.drew.heap.size := hwr
          have hS0 : S w2.drew := by
            rw [hSS.out]
            obtain ⟨b2, off2, e2, -, y0⟩ := (HJA.out _ _ HJ2.out).get HA.out
            obtain ⟨b3, off3, e3, -, y1⟩ := (HJA.out _ _ HJ2.out).get HDD.out
            obtain ⟨rfl, rfl⟩ : b = b2 ∧ off = off2 := by simpa using e2
            obtain ⟨rfl, rfl⟩ : b = b3 ∧ off = off3 := by simpa using e3
            exact ⟨y0, y1⟩
          refine WpN.begin (S := S) 12 (by kernel_rfl) ?_
          refine WpN.takeD (i := 0) (v := ?_) rfl rfl (by kernel_rfl) (fun _ _ _ h => h) (Or.inl ⟨by rfl, ?_⟩) (by assumption) ?_
          rotate_left
          · intro w hSw; rw [hSS.out] at hSw; obtain ⟨sw0, sw1⟩ := hSw; go_simp; try with_reducible rfl
          try simp only [Act.put, List.setIfInBounds_toArray, List.set_cons_zero, List.set_cons_succ]
          refine WpN.takeD (i := 1) (v := ?_) rfl rfl (by kernel_rfl) (fun _ _ _ h => h) (Or.inl ⟨by rfl, ?_⟩) (by assumption) ?_
          rotate_left
          · intro w hSw; rw [hSS.out] at hSw; obtain ⟨sw0, sw1⟩ := hSw; go_simp; try with_reducible rfl
          try simp only [Act.put, List.setIfInBounds_toArray, List.set_cons_zero, List.set_cons_succ]
          refine WpN.takeD (i := 2) (v := ?_) rfl rfl (by kernel_rfl) (fun _ _ _ h => h) (Or.inl ⟨by rfl, ?_⟩) (by assumption) ?_
          rotate_left
          · intro w hSw; rw [hSS.out] at hSw; obtain ⟨sw0, sw1⟩ := hSw; go_simp; try with_reducible rfl
          try simp only [Act.put, List.setIfInBounds_toArray, List.set_cons_zero, List.set_cons_succ]
          refine WpN.takeD (i := 3) (v := ?_) rfl rfl (by kernel_rfl) (fun _ _ _ h => h) (Or.inl ⟨by rfl, ?_⟩) (by assumption) ?_
          rotate_left
          · intro w hSw; rw [hSS.out] at hSw; obtain ⟨sw0, sw1⟩ := hSw; go_simp; try with_reducible rfl
          try simp only [Act.put, List.setIfInBounds_toArray, List.set_cons_zero, List.set_cons_succ]
          refine WpN.takeD (i := 4) (v := ?_) rfl rfl (by kernel_rfl) (fun _ _ _ h => h) (Or.inl ⟨by rfl, ?_⟩) (by assumption) ?_
          rotate_left
          · intro w hSw; rw [hSS.out] at hSw; obtain ⟨sw0, sw1⟩ := hSw; go_simp; try with_reducible rfl
          try simp only [Act.put, List.setIfInBounds_toArray, List.set_cons_zero, List.set_cons_succ]
          refine WpN.takeD (i := 5) (v := ?_) rfl rfl (by kernel_rfl) (fun _ _ _ h => h) (Or.inl ⟨by rfl, ?_⟩) (by assumption) ?_
          rotate_left
          · intro w hSw; rw [hSS.out] at hSw; obtain ⟨sw0, sw1⟩ := hSw; go_simp; try with_reducible rfl
          try simp only [Act.put, List.setIfInBounds_toArray, List.set_cons_zero, List.set_cons_succ]
          refine WpN.takeD (i := 6) (v := ?_) rfl rfl (by kernel_rfl) (fun _ _ _ h => h) (Or.inl ⟨by rfl, ?_⟩) (by assumption) ?_
          rotate_left
          · intro w hSw; rw [hSS.out] at hSw; obtain ⟨sw0, sw1⟩ := hSw; go_simp; try with_reducible rfl
          try simp only [Act.put, List.setIfInBounds_toArray, List.set_cons_zero, List.set_cons_succ]
          refine WpN.takeD (i := 7) (v := ?_) rfl rfl (by kernel_rfl) (fun _ _ _ h => h) (Or.inl ⟨by rfl, ?_⟩) (by assumption) ?_
          rotate_left
          · intro w hSw; rw [hSS.out] at hSw; obtain ⟨sw0, sw1⟩ := hSw; go_simp; try with_reducible rfl
          try simp only [Act.put, List.setIfInBounds_toArray, List.set_cons_zero, List.set_cons_succ]
          refine WpN.takeD (i := 8) (v := ?_) rfl rfl (by kernel_rfl) (fun _ _ _ h => h) (Or.inl ⟨by rfl, ?_⟩) (by assumption) ?_
          rotate_left
          · intro w hSw; rw [hSS.out] at hSw; obtain ⟨sw0, sw1⟩ := hSw; go_simp; try with_reducible rfl
          try simp only [Act.put, List.setIfInBounds_toArray, List.set_cons_zero, List.set_cons_succ]
          refine WpN.takeD (i := 9) (v := ?_) rfl rfl (by kernel_rfl) (fun _ _ _ h => h) (Or.inl ⟨by rfl, ?_⟩) (by assumption) ?_
          rotate_left
          · intro w hSw; rw [hSS.out] at hSw; obtain ⟨sw0, sw1⟩ := hSw; go_simp; try with_reducible rfl
          try simp only [Act.put, List.setIfInBounds_toArray, List.set_cons_zero, List.set_cons_succ]
          refine WpN.takeD (i := 10) (v := ?_) rfl rfl (by kernel_rfl) (fun _ _ _ h => h) (Or.inl ⟨by rfl, ?_⟩) (by assumption) ?_
          rotate_left
          · intro w hSw; rw [hSS.out] at hSw; obtain ⟨sw0, sw1⟩ := hSw; go_simp; try with_reducible rfl
          try simp only [Act.put, List.setIfInBounds_toArray, List.set_cons_zero, List.set_cons_succ]
          refine WpN.takeD (i := 11) (v := ?_) rfl rfl (by kernel_rfl) (fun _ _ _ h => h) (Or.inl ⟨by rfl, ?_⟩) (by assumption) ?_
          rotate_left
          · intro w hSw; rw [hSS.out] at hSw; obtain ⟨sw0, sw1⟩ := hSw; go_simp; try with_reducible rfl
          try simp only [Act.put, List.setIfInBounds_toArray, List.set_cons_zero, List.set_cons_succ]
          refine WpN.one (i := 12) rfl (by kernel_rfl) fun K hK => ?_
          go_wp2_with fail
          refine (add_first (w.heap.size) w.heap.size (w.heap.size + 1) v' ([] : List PieceD) ⟨a, d, y⟩ w2.drew BB hO (Nat.le_refl _) (by omega) (by omega) hol9 HAD.out (.inl rfl)).mono ?_
          rintro e w4 ⟨rfl, v4, BB4, hO4, hb4⟩
          refine hK.out _ _ ⟨fun h => by omega, ?_⟩
          refine WpN.done (by kernel_rfl) ?_ _
          clear hK K hSS hS0
          go_wp2_with fail
          go_roundw
          case rel => exact ⟨i + 1, [] ++ [⟨a, d, y⟩], v4, by go_num, Lib.hid (.inl hlt), HB2, BB4, hO4, Lib.hid (HJB.out _ _ _ HJ2.out (hb4.mono (by omega))), Nat.le_trans hwr hb4.size⟩
          case measure => simp [intOf]; omega
        · rw [List.concat_eq_append] at HB hO hol hol9
          by_cases hj : joins z ⟨a, d, y⟩
          · have HJ := Lib.hid hj
            have HB2 : Hid (ToldK f D (i + 1) (o ++ [⟨z.f, d, z.v⟩])) := Lib.hid (HB.out.grow HD.out HTD.out HA.out HDD.out HQ.out hj HID.out)
            clear hj
            obtain ⟨S, hSS⟩ : ∃ S : World → Prop, Hid (S = fun w' => w'.cell? ⟨b, off + i, none⟩ = some (.int .i64 a) ∧ w'.cell? ⟨b, off + (i + 1), none⟩ = some (.int .i64 d)) := ⟨_, Lib.hid rfl⟩
            have BB := BB.drew
            have hO := hO.drew
            have HJ2 : Hid (J (i + 1) w2.drew) := Lib.hid (HJB.out _ _ _ HJ2.out (below_drew (Below.refl _ w2)))
            have hwr : w.heap.size + 1 ≤ w2.drew.heap.size := hwr
            have hS0 : S w2.drew := by
              rw [hSS.out]
              obtain ⟨b2, off2, e2, -, y0⟩ := (HJA.out _ _ HJ2.out).get HA.out
              obtain ⟨b3, off3, e3, -, y1⟩ := (HJA.out _ _ HJ2.out).get HDD.out
              obtain ⟨rfl, rfl⟩ : b = b2 ∧ off = off2 := by simpa using e2
              obtain ⟨rfl, rfl⟩ : b = b3 ∧ off = off3 := by simpa using e3
              exact ⟨y0, y1⟩
            refine WpN.begin (S := S) 12 (by kernel_rfl) ?_
            refine WpN.takeD (i := 0) (v := ?_) rfl rfl (by kernel_rfl) (fun _ _ _ h => h) (Or.inl ⟨by rfl, ?_⟩) (by assumption) ?_
            rotate_left
            · intro w hSw; rw [hSS.out] at hSw; obtain ⟨sw0, sw1⟩ := hSw; go_simp; try with_reducible rfl
            try simp only [Act.put, List.setIfInBounds_toArray, List.set_cons_zero, List.set_cons_succ]
            refine WpN.takeD (i := 1) (v := ?_) rfl rfl (by kernel_rfl) (fun _ _ _ h => h) (Or.inl ⟨by rfl, ?_⟩) (by assumption) ?_
            rotate_left
            · intro w hSw; rw [hSS.out] at hSw; obtain ⟨sw0, sw1⟩ := hSw; go_simp; try with_reducible rfl
            try simp only [Act.put, List.setIfInBounds_toArray, List.set_cons_zero, List.set_cons_succ]
            refine WpN.takeD (i := 2) (v := ?_) rfl rfl (by kernel_rfl) (fun _ _ _ h => h) (Or.inl ⟨by rfl, ?_⟩) (by assumption) ?_
            rotate_left
            · intro w hSw; rw [hSS.out] at hSw; obtain ⟨sw0, sw1⟩ := hSw; go_simp; try with_reducible rfl
            try simp only [Act.put, List.setIfInBounds_toArray, List.set_cons_zero, List.set_cons_succ]
            refine WpN.takeD (i := 3) (v := ?_) rfl rfl (by kernel_rfl) (fun _ _ _ h => h) (Or.inl ⟨by rfl, ?_⟩) (by assumption) ?_
            rotate_left
            · intro w hSw; rw [hSS.out] at hSw; obtain ⟨sw0, sw1⟩ := hSw; go_simp; try with_reducible rfl
            try simp only [Act.put, List.setIfInBounds_toArray, List.set_cons_zero, List.set_cons_succ]
            refine WpN.takeD (i := 4) (v := ?_) rfl rfl (by kernel_rfl) (fun _ _ _ h => h) (Or.inl ⟨by rfl, ?_⟩) (by assumption) ?_
            rotate_left
            · intro w hSw; rw [hSS.out] at hSw; obtain ⟨sw0, sw1⟩ := hSw; go_simp; try with_reducible rfl
            try simp only [Act.put, List.setIfInBounds_toArray, List.set_cons_zero, List.set_cons_succ]
            refine WpN.takeD (i := 5) (v := ?_) rfl rfl (by kernel_rfl) (fun _ _ _ h => h) (Or.inl ⟨by rfl, ?_⟩) (by assumption) ?_
            rotate_left
            · intro w hSw; rw [hSS.out] at hSw; obtain ⟨sw0, sw1⟩ := hSw; go_simp; try with_reducible rfl
            try simp only [Act.put, List.setIfInBounds_toArray, List.set_cons_zero, List.set_cons_succ]
            refine WpN.takeD (i := 6) (v := ?_) rfl rfl (by kernel_rfl) (fun _ _ _ h => h) (Or.inl ⟨by rfl, ?_⟩) (by assumption) ?_
            rotate_left
            · intro w hSw; rw [hSS.out] at hSw; obtain ⟨sw0, sw1⟩ := hSw; go_simp; try with_reducible rfl
            try simp only [Act.put, List.setIfInBounds_toArray, List.set_cons_zero, List.set_cons_succ]
            refine WpN.takeD (i := 7) (v := ?_) rfl rfl (by kernel_rfl) (fun _ _ _ h => h) (Or.inl ⟨by rfl, ?_⟩) (by assumption) ?_
            rotate_left
            · intro w hSw; rw [hSS.out] at hSw; obtain ⟨sw0, sw1⟩ := hSw; go_simp; try with_reducible rfl
            try simp only [Act.put, List.setIfInBounds_toArray, List.set_cons_zero, List.set_cons_succ]
            refine WpN.takeD (i := 8) (v := ?_) rfl rfl (by kernel_rfl) (fun _ _ _ h => h) (Or.inl ⟨by rfl, ?_⟩) (by assumption) ?_
            rotate_left
            · intro w hSw; rw [hSS.out] at hSw; obtain ⟨sw0, sw1⟩ := hSw; go_simp; try with_reducible rfl
            try simp only [Act.put, List.setIfInBounds_toArray, List.set_cons_zero, List.set_cons_succ]
            refine WpN.takeD (i := 9) (v := ?_) rfl rfl (by kernel_rfl) (fun _ _ _ h => h) (Or.inl ⟨by rfl, ?_⟩) (by assumption) ?_
            rotate_left
            · intro w hSw; rw [hSS.out] at hSw; obtain ⟨sw0, sw1⟩ := hSw; go_simp; try with_reducible rfl
            try simp only [Act.put, List.setIfInBounds_toArray, List.set_cons_zero, List.set_cons_succ]
            refine WpN.takeD (i := 10) (v := ?_) rfl rfl (by kernel_rfl) (fun _ _ _ h => h) (Or.inl ⟨by rfl, ?_⟩) (by assumption) ?_
            rotate_left
            · intro w hSw; rw [hSS.out] at hSw; obtain ⟨sw0, sw1⟩ := hSw; go_simp; try with_reducible rfl
            try simp only [Act.put, List.setIfInBounds_toArray, List.set_cons_zero, List.set_cons_succ]
            refine WpN.takeD (i := 11) (v := ?_) rfl rfl (by kernel_rfl) (fun _ _ _ h => h) (Or.inl ⟨by rfl, ?_⟩) (by assumption) ?_
            rotate_left
            · intro w hSw; rw [hSS.out] at hSw; obtain ⟨sw0, sw1⟩ := hSw; go_simp; try with_reducible rfl
            try simp only [Act.put, List.setIfInBounds_toArray, List.set_cons_zero, List.set_cons_succ]
            refine WpN.one (i := 12) rfl (by kernel_rfl) fun K hK => ?_
            go_wp2_with fail
            refine (add_grow (w.heap.size) w.heap.size (w.heap.size + 1) v' o z ⟨a, d, y⟩ w2.drew BB hO (Nat.le_refl _) (by omega) (by omega) hol9 HAD.out HJ.out).mono ?_
            rintro e w4 ⟨rfl, v4, BB4, hO4, hb4⟩
            refine hK.out _ _ ⟨fun h => by omega, ?_⟩
            refine WpN.done (by kernel_rfl) ?_ _
            clear hK K hSS hS0
            go_wp2_with fail
            go_roundw
            case rel => exact ⟨i + 1, o ++ [⟨z.f, d, z.v⟩], v4, by go_num, Lib.hid (.inl hlt), HB2, BB4, hO4, Lib.hid (HJB.out _ _ _ HJ2.out (hb4.mono (by omega))), Nat.le_trans hwr hb4.size⟩
            case measure => simp [intOf]; omega
          · have HJ := Lib.hid hj
            have HB2 : Hid (ToldK f D (i + 1) (o ++ [z] ++ [⟨a, d, y⟩])) := Lib.hid (HB.out.next HD.out HTD.out HA.out HDD.out HQ.out (HB.out.last HA.out hj) HIA.out HID.out HIY.out)
            clear hj
            obtain ⟨S, hSS⟩ : ∃ S : World → Prop, Hid (S = fun w' => w'.cell? ⟨b, off + i, none⟩ = some (.int .i64 a) ∧ w'.cell? ⟨b, off + (i + 1), none⟩ = some (.int .i64 d)) := ⟨_, Lib.hid rfl⟩
            have BB := BB.drew
            have hO := hO.drew
            have HJ2 : Hid (J (i + 1) w2.drew) := Lib.hid (HJB.out _ _ _ HJ2.out (below_drew (Below.refl _ w2)))
            have hwr : w.heap.size + 1 ≤ w2.drew.heap.size := hwr
            have hS0 : S w2.drew := by
              rw [hSS.out]
              obtain ⟨b2, off2, e2, -, y0⟩ := (HJA.out _ _ HJ2.out).get HA.out
              obtain ⟨b3, off3, e3, -, y1⟩ := (HJA.out _ _ HJ2.out).get HDD.out
              obtain ⟨rfl, rfl⟩ : b = b2 ∧ off = off2 := by simpa using e2
              obtain ⟨rfl, rfl⟩ : b = b3 ∧ off = off3 := by simpa using e3
              exact ⟨y0, y1⟩
            refine WpN.begin (S := S) 12 (by kernel_rfl) ?_
            refine WpN.takeD (i := 0) (v := ?_) rfl rfl (by kernel_rfl) (fun _ _ _ h => h) (Or.inl ⟨by rfl, ?_⟩) (by assumption) ?_
            rotate_left
            · intro w hSw; rw [hSS.out] at hSw; obtain ⟨sw0, sw1⟩ := hSw; go_simp; try with_reducible rfl
            try simp only [Act.put, List.setIfInBounds_toArray, List.set_cons_zero, List.set_cons_succ]
            refine WpN.takeD (i := 1) (v := ?_) rfl rfl (by kernel_rfl) (fun _ _ _ h => h) (Or.inl ⟨by rfl, ?_⟩) (by assumption) ?_
            rotate_left
            · intro w hSw; rw [hSS.out] at hSw; obtain ⟨sw0, sw1⟩ := hSw; go_simp; try with_reducible rfl
            try simp only [Act.put, List.setIfInBounds_toArray, List.set_cons_zero, List.set_cons_succ]
            refine WpN.takeD (i := 2) (v := ?_) rfl rfl (by kernel_rfl) (fun _ _ _ h => h) (Or.inl ⟨by rfl, ?_⟩) (by assumption) ?_
            rotate_left
            · intro w hSw; rw [hSS.out] at hSw; obtain ⟨sw0, sw1⟩ := hSw; go_simp; try with_reducible rfl
            try simp only [Act.put, List.setIfInBounds_toArray, List.set_cons_zero, List.set_cons_succ]
            refine WpN.takeD (i := 3) (v := ?_) rfl rfl (by kernel_rfl) (fun _ _ _ h => h) (Or.inl ⟨by rfl, ?_⟩) (by assumption) ?_
            rotate_left
            · intro w hSw; rw [hSS.out] at hSw; obtain ⟨sw0, sw1⟩ := hSw; go_simp; try with_reducible rfl
            try simp only [Act.put, List.setIfInBounds_toArray, List.set_cons_zero, List.set_cons_succ]
            refine WpN.takeD (i := 4) (v := ?_) rfl rfl (by kernel_rfl) (fun _ _ _ h => h) (Or.inl ⟨by rfl, ?_⟩) (by assumption) ?_
            rotate_left
            · intro w hSw; rw [hSS.out] at hSw; obtain ⟨sw0, sw1⟩ := hSw; go_simp; try with_reducible rfl
            try simp only [Act.put, List.setIfInBounds_toArray, List.set_cons_zero, List.set_cons_succ]
            refine WpN.takeD (i := 5) (v := ?_) rfl rfl (by kernel_rfl) (fun _ _ _ h => h) (Or.inl ⟨by rfl, ?_⟩) (by assumption) ?_
            rotate_left
            · intro w hSw; rw [hSS.out] at hSw; obtain ⟨sw0, sw1⟩ := hSw; go_simp; try with_reducible rfl
            try simp only [Act.put, List.setIfInBounds_toArray, List.set_cons_zero, List.set_cons_succ]
            refine WpN.takeD (i := 6) (v := ?_) rfl rfl (by kernel_rfl) (fun _ _ _ h => h) (Or.inl ⟨by rfl, ?_⟩) (by assumption) ?_
            rotate_left
            · intro w hSw; rw [hSS.out] at hSw; obtain ⟨sw0, sw1⟩ := hSw; go_simp; try with_reducible rfl
            try simp only [Act.put, List.setIfInBounds_toArray, List.set_cons_zero, List.set_cons_succ]
            refine WpN.takeD (i := 7) (v := ?_) rfl rfl (by kernel_rfl) (fun _ _ _ h => h) (Or.inl ⟨by rfl, ?_⟩) (by assumption) ?_
            rotate_left
            · intro w hSw; rw [hSS.out] at hSw; obtain ⟨sw0, sw1⟩ := hSw; go_simp; try with_reducible rfl
            try simp only [Act.put, List.setIfInBounds_toArray, List.set_cons_zero, List.set_cons_succ]
            refine WpN.takeD (i := 8) (v := ?_) rfl rfl (by kernel_rfl) (fun _ _ _ h => h) (Or.inl ⟨by rfl, ?_⟩) (by assumption) ?_
            rotate_left
            · intro w hSw; rw [hSS.out] at hSw; obtain ⟨sw0, sw1⟩ := hSw; go_simp; try with_reducible rfl
            try simp only [Act.put, List.setIfInBounds_toArray, List.set_cons_zero, List.set_cons_succ]
            refine WpN.takeD (i := 9) (v := ?_) rfl rfl (by kernel_rfl) (fun _ _ _ h => h) (Or.inl ⟨by rfl, ?_⟩) (by assumption) ?_
            rotate_left
            · intro w hSw; rw [hSS.out] at hSw; obtain ⟨sw0, sw1⟩ := hSw; go_simp; try with_reducible rfl
            try simp only [Act.put, List.setIfInBounds_toArray, List.set_cons_zero, List.set_cons_succ]
            refine WpN.takeD (i := 10) (v := ?_) rfl rfl (by kernel_rfl) (fun _ _ _ h => h) (Or.inl ⟨by rfl, ?_⟩) (by assumption) ?_
            rotate_left
            · intro w hSw; rw [hSS.out] at hSw; obtain ⟨sw0, sw1⟩ := hSw; go_simp; try with_reducible rfl
            try simp only [Act.put, List.setIfInBounds_toArray, List.set_cons_zero, List.set_cons_succ]
            refine WpN.takeD (i := 11) (v := ?_) rfl rfl (by kernel_rfl) (fun _ _ _ h => h) (Or.inl ⟨by rfl, ?_⟩) (by assumption) ?_
            rotate_left
            · intro w hSw; rw [hSS.out] at hSw; obtain ⟨sw0, sw1⟩ := hSw; go_simp; try with_reducible rfl
            try simp only [Act.put, List.setIfInBounds_toArray, List.set_cons_zero, List.set_cons_succ]
            refine WpN.one (i := 12) rfl (by kernel_rfl) fun K hK => ?_
            go_wp2_with fail
            refine (add_first (w.heap.size) w.heap.size (w.heap.size + 1) v' (o ++ [z]) ⟨a, d, y⟩ w2.drew BB hO (Nat.le_refl _) (by omega) (by omega) hol9 HAD.out (.inr ⟨o, z, rfl, HJ.out⟩)).mono ?_
            rintro e w4 ⟨rfl, v4, BB4, hO4, hb4⟩
            refine hK.out _ _ ⟨fun h => by omega, ?_⟩
            refine WpN.done (by kernel_rfl) ?_ _
            clear hK K hSS hS0
            go_wp2_with fail
            go_roundw
            case rel => exact ⟨i + 1, o ++ [z] ++ [⟨a, d, y⟩], v4, by go_num, Lib.hid (.inl hlt), HB2, BB4, hO4, Lib.hid (HJB.out _ _ _ HJ2.out (hb4.mono (by omega))), Nat.le_trans hwr hb4.size⟩
            case measure => simp [intOf]; omega
end Go.Proofs.YtdpibehpmghghaaGreat
/- The walks of imap.only, Cut, Keep; imap.pieces (printed by genmaponly.py). -/
namespace Go.Proofs.YtdpibehpmghghaaGreat
open Go.RowKit Go.Shelf

/-- Pieces of a set. -/
def zeroP (l : List IvlD) : List PieceD := l.map fun x => ⟨x.f, x.t, 0⟩
theorem zeroP_succ {l : List IvlD} {k : Nat} {x : IvlD} (h : l[k]? = some x) : zeroP (l.take (k + 1)) = zeroP (l.take k) ++ [⟨x.f, x.t, 0⟩] := by
  unfold zeroP; rw [take_succ_ h, List.map_append]; rfl
theorem zeroP_len (l : List IvlD) : (zeroP l).length = l.length := List.length_map _
theorem mem_zeroP {l : List IvlD} {x : IvlD} (h : x ∈ l) : x.f ∈ endsP (zeroP l) ∧ x.t ∈ endsP (zeroP l) := by
  have h2 : (⟨x.f, x.t, 0⟩ : PieceD) ∈ zeroP l := List.mem_map.2 ⟨x, h, rfl⟩
  exact ⟨mem_endsP.2 ⟨_, h2, .inl rfl⟩, mem_endsP.2 ⟨_, h2, .inr rfl⟩⟩
end Go.Proofs.YtdpibehpmghghaaGreat
