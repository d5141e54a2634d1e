/- Several texts in one: IvlSetW, TimeSpec. -/
import Derived.Test.YtjcimdpldlamfaaGreatDoorBd3677bc1331
import Derived.Test.YtjcimdpldlamfaaGreatDoorBd1aa46607c4
/- The walks of Norm, both, done, Union. -/
namespace Go.Proofs.YtjcimdpldlamfaaGreatDoor
open Go.RowKit Go.Shelf

def farX (x : IvlD) : Bool := farB x.f || farB x.t
def NormSay (l : List IvlD) (er : Int) (out : List IvlD) : Prop :=
 if 200 < l.length then er = 2 ∧ out = [] else if l.any farX = true then er = 5 ∧ out = [] else er = 0 ∧ NormIs l out
theorem far_none {l : List IvlD} (h : ¬ l.any farX = true) : ∀ x, x ∈ l → nearB x.f = true ∧ nearB x.t = true := fun x hx => by
 have h1 : farX x = false := by
  cases hc : farX x
  ·rfl
  ·exact absurd (List.any_eq_true.2 ⟨x, hx, hc⟩) h
 unfold farX at h1
 rw [Bool.or_eq_false_iff] at h1
 exact ⟨far_off h1.1, far_off h1.2⟩
/-- What is made of a list, no more than 200 of it. -/
theorem NormSay.of {l : List IvlD} {er : Int} {out : List IvlD} (h : NormSay l er out) (h0 : er = 0) : Of (hasB l) l.length out ∧ l.length ≤ 200 := by
 unfold NormSay at h
 split at h
 ·rw [h0] at h; simp at h
 ·rename_i h1
  split at h
  ·rw [h0] at h; simp at h
  ·rename_i h2
   exact ⟨h.2.of (far_none h2), by omega⟩

theorem enters_Norm1 : Enters Tryz.prog 188 := enters_of Tryz.func188 (by kernel_rfl) rfl
set_option maxHeartbeats 1000000 in
theorem Norm1_any (x : IvlD) (W : World) : Calls Tryz.prog 188 #[ivlV x] W fun e w' => e = .returned (.bool (farX x)) ∧ Below W.heap.size W w' := by
 cases f1 : farB x.f
 case true =>
  go_enter Tryz.func188, Tryz.ntmps188
  go_wp2_with (first | (go_at_call 189; refine (far_is (by assumption) _).mono ?_; rintro e w' ⟨rfl, rfl⟩))
  go_ret
  exact ⟨ret_bool (by simp [farX, f1]), by go_grown⟩
 case false =>
  cases f2 : farB x.t
  all_goals
   go_enter Tryz.func188, Tryz.ntmps188
   go_wp2_with (first | (go_at_call 189; refine (far_is (by assumption) _).mono ?_; rintro e w' ⟨rfl, rfl⟩))
   go_ret
   exact ⟨ret_bool (by simp [farX, f1, f2]), by go_grown⟩

set_option maxHeartbeats 1000000 in
theorem ivlNorm_any (A : Option Addr) (c : Nat) (l : List IvlD) (w : World) (hI : IvlsAt w A c l) : Calls Tryz.prog 174 #[.slice A l.length c] w (SetOut (NormSay l) w) := by
 have m1 := hI.len
 by_cases hl : 200 < l.length
 case pos =>
  have hd : decide ((l.length : Int) > 200) = true := by simp; omega
  have HS : Hid (NormSay l 2 []) := Lib.hid (by unfold NormSay; rw [if_pos hl]; exact ⟨rfl, rfl⟩)
  clear hl hI
  go_enter Tryz.func174, Tryz.ntmps174
  go_wp2_with fail
  refine bodyPost_ret (v := .tuple #[.slice none 0 0, .int .i64 2]) (by simp [results, Tryz.results174]) rfl ?_
  exact ⟨2, [], none, 0, HS, rfl, .nil, Below.refl _ _⟩
 case neg =>
  have hd : decide ((l.length : Int) > 200) = false := by simp; omega
  have hC := containsFunc_any 188 #[] farX enters_Norm1 A c l w hI fun W x _ => Norm1_any x W
  cases hf : l.any farX
  case true =>
   have HS : Hid (NormSay l 5 []) := Lib.hid (by unfold NormSay; rw [if_neg hl, if_pos hf]; exact ⟨rfl, rfl⟩)
   rw [hf] at hC
   clear hl hI hf
   go_enter Tryz.func174, Tryz.ntmps174
   go_wp2_with (go_at_call 187; refine hC.mono ?_; rintro e w1 ⟨rfl, hb⟩)
   refine bodyPost_ret (v := .tuple #[.slice none 0 0, .int .i64 5]) (by simp [results, Tryz.results174]) rfl ?_
   exact ⟨5, [], none, 0, HS, rfl, .nil, hb⟩
  case false =>
   have hn := far_none (l := l) (by rw [hf]; simp)
   rw [hf] at hC
   have HS : ∀ out, NormIs l out → NormSay l 0 out := fun out h => by unfold NormSay; rw [if_neg hl, if_neg (by rw [hf]; simp)]; exact ⟨rfl, h⟩
   have HSS := Lib.hid HS
   have HL := Lib.hid hl
   have hN := fun W (h : IvlsAt W A c l) => norm_any A c l W h (by omega) hn
   have HI := Lib.hid hI
   clear hl hf HS hn hI
   go_enter Tryz.func174, Tryz.ntmps174
   go_wp2_with (go_at_call 187; refine hC.mono ?_; rintro e w1 ⟨rfl, hb⟩)
   refine (hN _ (HI.out.ext hb)).mono ?_
   rintro e w2 ⟨A2, c2, out, HO, rfl, hI2, hb2⟩
   clear hN hC
   go_wp2_with fail
   refine bodyPost_ret (v := .tuple #[.slice A2 out.length c2, .int .i64 0]) (by simp [results, Tryz.results174]) rfl ?_
   exact ⟨0, out, A2, c2, Lib.hid (HSS.out out HO.out.1), rfl, hI2.since hb.size, ext_trans hb hb2⟩

/-- What is wrong with two sets. -/
noncomputable def bothErr (a b : List IvlD) : Int := if setErr a = 0 then setErr b else setErr a
set_option maxHeartbeats 1000000 in
theorem both_any (A B : Option Addr) (c d : Nat) (a b : List IvlD) (w : World) (hA : IvlsAt w A c a) (hB : IvlsAt w B d b) :
  Calls Tryz.prog 191 #[.slice A a.length c, .slice B b.length d] w fun e w' => e = .returned (.int .i64 (bothErr a b)) ∧ Below w.heap.size w w' := by
 have hCa := ivlCheck_any A c a w hA
 have HB := Lib.hid hB
 by_cases h0 : setErr a = 0
 case pos =>
  unfold bothErr
  rw [if_pos h0]
  rw [h0] at hCa
  clear h0 hA hB
  go_enter Tryz.func191, Tryz.ntmps191
  go_wp2_with (go_at_call_of 204 a; refine hCa.mono ?_; rintro e w1 ⟨rfl, hb⟩)
  refine (ivlCheck_any B d b _ (HB.out.ext hb)).mono ?_
  rintro e w2 ⟨rfl, hb2⟩
  go_wp2_with fail
  go_ret
  exact ⟨rfl, ext_trans hb hb2⟩
 case neg =>
  have hd : (setErr a != 0) = true := by simpa using h0
  unfold bothErr
  rw [if_neg h0]
  clear h0 hA hB
  go_enter Tryz.func191, Tryz.ntmps191
  go_wp2_with (go_at_call 204; refine hCa.mono ?_; rintro e w1 ⟨rfl, hb⟩)
  go_ret
  exact ⟨rfl, hb⟩
theorem done_yes (A : Option Addr) (n c : Nat) (w : World) (h : 200 < n) : Calls Tryz.prog 192 #[.slice A n c] w fun e w' => e = .returned (.tuple #[.slice none 0 0, .int .i64 2]) ∧ w = w' := by
 have hd : decide ((n : Int) > 200) = true := by simp; omega
 go_enter Tryz.func192, Tryz.ntmps192
 go_wp2_with fail
 refine bodyPost_ret (v := .tuple #[.slice none 0 0, .int .i64 2]) (by simp [results, Tryz.results192]) rfl ?_
 exact ⟨rfl, rfl⟩
theorem done_no (A : Option Addr) (n c : Nat) (w : World) (h : ¬ 200 < n) : Calls Tryz.prog 192 #[.slice A n c] w fun e w' => e = .returned (.tuple #[.slice A n c, .int .i64 0]) ∧ w = w' := by
 have hd : decide ((n : Int) > 200) = false := by simp; omega
 go_enter Tryz.func192, Tryz.ntmps192
 go_wp2_with fail
 refine bodyPost_ret (v := .tuple #[.slice A n c, .int .i64 0]) (by simp [results, Tryz.results192]) rfl ?_
 exact ⟨rfl, rfl⟩
/-- What done tells of a set, where two sets are right. -/
theorem done_any {op : Bool → Bool → Bool} {a b out : List IvlD} (A : Option Addr) (c : Nat) (w : World) {b0 : Nat} (hI : IvlsNew b0 w A c out) (ha : setErr a = 0) (hb : setErr b = 0) (hn : NormL out) (hs : ∀ t, hasB out t = op (hasB a t) (hasB b t)) :
  Calls Tryz.prog 192 #[.slice A out.length c] w (SetOutB b0 (SetsSay op a b) w) := by
 by_cases hl : 200 < out.length
 ·exact (done_yes A out.length c w hl).mono fun e w' ⟨he, hw⟩ => ⟨2, [], none, 0, Lib.hid (SetsSay.large ha hb hn hs hl), he, by rw [← hw]; exact .nil, by rw [← hw]; exact Below.refl _ _⟩
 ·exact (done_no A out.length c w hl).mono fun e w' ⟨he, hw⟩ => ⟨0, out, A, c, Lib.hid (SetsSay.good ha hb hn hs hl), he, by rw [← hw]; exact hI, by rw [← hw]; exact Below.refl _ _⟩
theorem bothErr_bad {op : Bool → Bool → Bool} {a b : List IvlD} (h : bothErr a b ≠ 0) : SetsSay op a b (bothErr a b) [] := by
 unfold bothErr at h ⊢
 by_cases h0 : setErr a = 0
 ·rw [if_pos h0] at h ⊢
  exact SetsSay.badB h0 h
 ·rw [if_neg h0]
  exact SetsSay.badA h0
theorem bothErr_zero {a b : List IvlD} (h : bothErr a b = 0) : setErr a = 0 ∧ setErr b = 0 := by
 unfold bothErr at h
 by_cases h0 : setErr a = 0
 ·rw [if_pos h0] at h; exact ⟨h0, h⟩
 ·rw [if_neg h0] at h; exact absurd h h0
end Go.Proofs.YtjcimdpldlamfaaGreatDoor
/- States by time: messages taken into a map (bsp.take), where a map tells less (bsp.less); no program in sight. -/
namespace Go.Proofs.YtjcimdpldlamfaaGreatDoor

def val (m : List PieceD) (t : Int) : Int := (atM m t).getD Far
/-- A map within the horizon, of values that are not far. -/
structure Lies (h : Int) (m : List PieceD) : Prop where
 map : MapL m
 in_ : ∀ x, x ∈ m → (0 ≤ x.f ∧ x.t ≤ h) ∧ 0 ≤ x.v ∧ x.v ≤ 100000
/-- A message so. -/
def MsgIn (h : Int) (x : PieceD) : Prop := (0 ≤ x.f ∧ x.f < x.t ∧ x.t ≤ h) ∧ 0 ≤ x.v ∧ x.v ≤ 100000
theorem span_len : ∀ {l : List (Int × Int)} {lo hi : Int}, l.Pairwise (fun x y => x.2 ≤ y.1) → (∀ x ∈ l, x.1 < x.2 ∧ lo ≤ x.1 ∧ x.2 ≤ hi) → lo ≤ hi → (l.length : Int) ≤ hi - lo
 | [], lo, hi, _, _, h => by simp; omega
 | x :: l, lo, hi, hp, hb, _ => by
  obtain ⟨h1, h2, h3⟩ := hb x (by simp)
  have ih := span_len (l := l) (lo := x.2) (hi := hi) (List.pairwise_cons.1 hp).2 (fun y hy => ⟨(hb y (by simp [hy])).1, (List.pairwise_cons.1 hp).1 y hy, (hb y (by simp [hy])).2.2⟩) h3
  simp only [List.length_cons]
  omega
section
variable {h t v d er : Int} {m out S batch l r : List PieceD} {x p q : PieceD}
theorem Lies.len (hm : Lies h m) (h0 : 0 ≤ h) : (m.length : Int) ≤ h := by
 have := span_len (l := m.map fun x => (x.f, x.t)) (lo := 0) (hi := h) (List.pairwise_map.2 (hm.map.1.imp fun k => k.1)) (fun y hy => by
  obtain ⟨x, hx, rfl⟩ := List.mem_map.1 hy
  exact ⟨hm.map.2 x hx, (hm.in_ x hx).1.1, (hm.in_ x hx).1.2⟩) h0
 simpa using this
theorem near_in {n : Int} (h1 : 0 ≤ n) (h2 : n ≤ 100000) : nearB n = true := near_iff.2 (by omega)
theorem Lies.ok (hm : Lies h m) (h1 : 1 ≤ h) (h2 : h ≤ 100) : MapOk m ∧ mapErr m = 0 := by
 have hl := hm.len (by omega)
 have : MapOk m := ⟨hm.map, fun x hx => by
  have h3 := hm.in_ x hx
  have h4 := hm.map.2 x hx
  exact ⟨near_in h3.1.1 (by omega), near_in (by omega) (by omega), near_in h3.2.1 h3.2.2⟩⟩
 exact ⟨this, mapErr_ok (by omega) this⟩
theorem Lies.nil : Lies h [] := ⟨.nil, fun x hx => by simp at hx⟩
theorem Lies.at_ (hm : Lies h m) (ht : atM m t = some v) : (0 ≤ t ∧ t < h) ∧ 0 ≤ v ∧ v ≤ 100000 := by
 obtain ⟨x, hx, h1, h2, rfl⟩ := at_some ht
 have := hm.in_ x hx
 omega
theorem lies_of (hm : MapL m) (hi : ∀ t v, atM m t = some v → (0 ≤ t ∧ t < h) ∧ 0 ≤ v ∧ v ≤ 100000) : Lies h m := ⟨hm, fun x hx => by
 have h1 := hm.2 x hx
 have h2 := hi x.f x.v (hm.mem_at hx (Int.le_refl _) h1)
 have h3 := hi (x.t - 1) x.v (hm.mem_at hx (by omega) (by omega))
 omega⟩
theorem val_some (h : atM m t = some v) : val m t = v := by unfold val; rw [h]; rfl
theorem val_none (h : atM m t = none) : val m t = Far := by unfold val; rw [h]; rfl
theorem Lies.val_cases (hm : Lies h m) (t : Int) : (val m t = Far ∧ atM m t = none) ∨ (val m t ≤ 100000 ∧ 0 ≤ val m t ∧ (0 ≤ t ∧ t < h) ∧ atM m t = some (val m t)) := by
 cases ha : atM m t with
 | none => exact .inl ⟨val_none ha, rfl⟩
 | some v => rw [val_some ha]; have := hm.at_ ha; exact .inr ⟨this.2.2, this.2.1, this.1, rfl⟩
/-- Maps that tell the same are the same. -/
theorem Lies.eq (hm : Lies h m) (hl : Lies h l) (he : ∀ t, val m t = val l t) : m = l := map_unique hm.map hl.map fun t => by
 have h1 := he t
 rcases hm.val_cases t with ⟨k1, k2⟩ | ⟨k1, _, _, k2⟩
 ·rcases hl.val_cases t with ⟨k3, k4⟩ | ⟨k3, _, _, k4⟩
  ·rw [k2, k4]
  ·rw [k1] at h1; unfold Far at h1; omega
 ·rcases hl.val_cases t with ⟨k3, k4⟩ | ⟨k3, _, _, k4⟩
  ·rw [k3] at h1; unfold Far at h1; omega
  ·rw [k2, k4, h1]

/-! ### the least of messages -/
def minAt (l : List PieceD) (t d : Int) : Int := l.foldl (fun m x => if inP x t = true then min m x.v else m) d
theorem minAt_cons : minAt (x :: l) t d = minAt l t (if inP x t = true then min d x.v else d) := rfl
theorem minAt_append : minAt (l ++ r) t d = minAt r t (minAt l t d) := List.foldl_append
theorem minAt_le : ∀ {l : List PieceD} {d : Int}, minAt l t d ≤ d
 | [], _ => Int.le_refl _
 | x :: l, d => by
  rw [minAt_cons]
  refine Int.le_trans minAt_le ?_
  split <;> omega
theorem minAt_mem : ∀ {l : List PieceD} {d : Int}, x ∈ l → inP x t = true → minAt l t d ≤ x.v
 | y :: l, d, hx, hp => by
  rw [minAt_cons]
  rcases List.mem_cons.1 hx with rfl | hx
  ·rw [if_pos hp]
   exact Int.le_trans minAt_le (by omega)
  ·exact minAt_mem hx hp
theorem minAt_from : ∀ {l : List PieceD} {d : Int}, minAt l t d = d ∨ ∃ x, x ∈ l ∧ inP x t = true ∧ minAt l t d = x.v
 | [], _ => .inl rfl
 | y :: l, d => by
  rw [minAt_cons]
  rcases minAt_from (l := l) (d := if inP y t = true then min d y.v else d) with h1 | ⟨x, hx, hp, h1⟩
  ·rw [h1]
   by_cases hp : inP y t = true
   ·rw [if_pos hp]
    rcases Int.le_total d y.v with h2 | h2
    ·left; omega
    ·right; exact ⟨y, by simp, hp, by omega⟩
   ·rw [if_neg hp]; exact .inl rfl
  ·exact .inr ⟨x, by simp [hx], hp, h1⟩
theorem minAt_none (h : ∀ x, x ∈ l → inP x t = false) : minAt l t d = d := by
 rcases minAt_from (l := l) (t := t) (d := d) with h1 | ⟨x, hx, hp, _⟩
 ·exact h1
 ·rw [h x hx] at hp; cases hp
/-- It is the lesser of what was and of what all have. -/
theorem minAt_min (h1 : ∀ x, x ∈ l → inP x t = true → v ≤ x.v) (h2 : ∃ x, x ∈ l ∧ inP x t = true ∧ x.v = v) : minAt l t d = min d v := by
 obtain ⟨x, hx, hp, rfl⟩ := h2
 have k1 := minAt_le (l := l) (t := t) (d := d)
 have k2 := minAt_mem (d := d) hx hp
 rcases minAt_from (l := l) (t := t) (d := d) with h3 | ⟨y, hy, hq, h3⟩
 ·omega
 ·have := h1 y hy hq; omega
theorem valF_least : ∀ (is : List Int) (v : Int), (valF l 1 v is ≤ v ∧ ∀ i, i ∈ is → valF l 1 v is ≤ vAt l i) ∧ (valF l 1 v is = v ∨ ∃ i, i ∈ is ∧ valF l 1 v is = vAt l i)
 | [], v => ⟨⟨Int.le_refl _, fun i h => by simp at h⟩, .inl rfl⟩
 | j :: is, v => by
  have e : valF l 1 v (j :: is) = valF l 1 (min v (vAt l j)) is := rfl
  obtain ⟨⟨h1, h2⟩, h3⟩ := valF_least is (min v (vAt l j))
  rw [e]
  refine ⟨⟨by omega, fun i hi => ?_⟩, ?_⟩
  ·rcases List.mem_cons.1 hi with rfl | hi
   ·omega
   ·exact h2 i hi
  ·rcases h3 with h3 | ⟨i, hi, h3⟩
   ·rcases Int.le_total v (vAt l j) with h4 | h4
    ·left; omega
    ·right; exact ⟨j, by simp, by omega⟩
   ·exact .inr ⟨i, by simp [hi], h3⟩
theorem valOf_least {is : List Int} (hn : is ≠ []) : (∀ i, i ∈ is → valOf l 1 is ≤ vAt l i) ∧ ∃ i, i ∈ is ∧ valOf l 1 is = vAt l i := by
 cases is with
 | nil => exact absurd rfl hn
 | cons j is =>
  obtain ⟨⟨h1, h2⟩, h3⟩ := valF_least (l := l) is (vAt l j)
  refine ⟨fun i hi => ?_, ?_⟩
  ·rcases List.mem_cons.1 hi with rfl | hi
   ·exact h1
   ·exact h2 i hi
  ·rcases h3 with h3 | ⟨i, hi, h3⟩
   ·exact ⟨j, by simp, h3⟩
   ·exact ⟨i, by simp [hi], h3⟩
theorem vAt_ofT {i : Nat} (h : l[i]? = some x) : vAt l (i : Int) = x.v := by unfold vAt; rw [Int.toNat_natCast, h]; rfl
theorem mix_least (h : mixO l 1 t = some v) : (∀ x, x ∈ l → inP x t = true → v ≤ x.v) ∧ ∃ x, x ∈ l ∧ inP x t = true ∧ x.v = v := by
 unfold mixO at h
 split at h
 ·cases h
 ·next hw =>
  obtain rfl := Option.some.inj h
  obtain ⟨h1, i, hi, h2⟩ := valOf_least (l := l) hw
  refine ⟨fun x hx hp => ?_, ?_⟩
  ·obtain ⟨j, hj⟩ := List.getElem?_of_mem hx
   have := h1 j (which_mem (n := l.length) (lt_of_get hj) hj hp)
   rwa [vAt_ofT hj] at this
  ·obtain ⟨h3, _, x, hx, hp⟩ := mem_whichK hi
   refine ⟨x, List.mem_of_getElem? hx, hp, ?_⟩
   rw [h2]
   unfold vAt
   rw [hx]; rfl
theorem mix_some (h : mixO l 1 t = some v) : minAt l t d = min d v := minAt_min (mix_least h).1 (mix_least h).2

/-! ### cells of a batch, put one by one -/
def putB (c : CellD) : Bool := !c.has || decide (c.v < c.s)
def pieceOf (c : CellD) : PieceD := ⟨c.f, c.t, c.v⟩
def cellStep (f : Int → Option Int) (c : CellD) : Int → Option Int := if putB c = true then fun t => if c.f ≤ t ∧ t < c.t then some c.v else f t else f
def cellsF (f : Int → Option Int) (l : List CellD) : Int → Option Int := l.foldl cellStep f
theorem cellsF_snoc {f : Int → Option Int} {l : List CellD} {c : CellD} {k : Nat} (h : l[k]? = some c) : cellsF f (l.take (k + 1)) = cellStep (cellsF f (l.take k)) c := by
 have e : l.take (k + 1) = l.take k ++ [c] := by rw [List.take_add_one, h]; rfl
 rw [e]
 unfold cellsF
 rw [List.foldl_append]
 rfl
theorem cellsF_miss : ∀ {l : List CellD} {f : Int → Option Int}, (∀ c, c ∈ l → ¬ (c.f ≤ t ∧ t < c.t)) → cellsF f l t = f t
 | [], _, _ => rfl
 | c :: l, f, hn => by
  show cellsF (cellStep f c) l t = f t
  rw [cellsF_miss (l := l) fun d hd => hn d (by simp [hd])]
  unfold cellStep
  split
  ·simp only; rw [if_neg (hn c (by simp))]
  ·rfl
theorem cellsF_hit {b : Bool} {v : Int} : ∀ {l : List CellD} {f : Int → Option Int}, (∀ c, c ∈ l → c.f ≤ t ∧ t < c.t → putB c = b ∧ c.v = v) → (∃ c, c ∈ l ∧ c.f ≤ t ∧ t < c.t) → cellsF f l t = if b = true then some v else f t
 | [], _, _, h => by obtain ⟨c, hc, _⟩ := h; simp at hc
 | c :: l, f, hs, _ => by
  show cellsF (cellStep f c) l t = _
  have hs' : ∀ c, c ∈ l → c.f ≤ t ∧ t < c.t → putB c = b ∧ c.v = v := fun d hd => hs d (by simp [hd])
  have hstep : cellStep f c t = if c.f ≤ t ∧ t < c.t then (if b = true then some v else f t) else f t := by
   unfold cellStep
   by_cases hc : c.f ≤ t ∧ t < c.t
   ·obtain ⟨h1, h2⟩ := hs c (by simp) hc
    rw [h1, if_pos hc]
    split
    ·simp only; rw [if_pos hc, h2]
    ·rfl
   ·rw [if_neg hc]
    split
    ·simp only; rw [if_neg hc]
    ·rfl
  by_cases hl : ∃ d, d ∈ l ∧ d.f ≤ t ∧ t < d.t
  ·rw [cellsF_hit hs' hl, hstep]
   cases b <;> simp
  ·rw [cellsF_miss fun d hd hc => hl ⟨d, hd, hc⟩, hstep]
   rename_i hex
   have hc : c.f ≤ t ∧ t < c.t := by
    obtain ⟨d, hd, hc⟩ := hex
    rcases List.mem_cons.1 hd with rfl | hd
    ·exact hc
    ·exact absurd ⟨d, hd, hc⟩ hl
   rw [if_pos hc]
/-- The cells of a batch: no error, and all of them put make the least. -/
theorem which_nil_none (hw : whichL batch t = []) : ∀ x, x ∈ batch → inP x t = false := fun x hx => by
 cases hp : inP x t
 ·rfl
 ·exact absurd hw (which_has.2 ⟨x, hx, hp⟩)
theorem key_in {U : List (PieceG Key)} (hm : ∀ x, x ∈ batch → MsgIn h x) (hU : MapG U) (hk : ∀ t, atG U t = keyF S batch t) : ∀ y, y ∈ U → 0 ≤ y.f ∧ y.f < y.t ∧ y.t ≤ h := fun y hy => by
 have h1 := hU.2 y hy
 have key : ∀ t, y.f ≤ t → t < y.t → 0 ≤ t ∧ t < h := fun t k1 k2 => by
  have h2 := hU.mem_at hy k1 k2
  rw [hk] at h2
  unfold keyF at h2
  split at h2
  ·cases h2
  ·next hw =>
   obtain ⟨x, hx, hp⟩ := which_has.1 hw
   have := (hm x hx).1
   simp only [inP, decide_eq_true_eq] at hp
   omega
 have h2 := key y.f (Int.le_refl _) h1
 have h3 := key (y.t - 1) (by omega) (by omega)
 omega
theorem cells_zero {cs : List CellD} (hS : Lies h S) (h1 : 1 ≤ h) (h100 : h ≤ 100) (hb : batch.length ≤ 200) (hm : ∀ x, x ∈ batch → MsgIn h x) (hc : CellsSay S batch 1 er cs) :
  er = 0 ∧ cs.length ≤ 100 ∧ ∀ c, c ∈ cs → MsgIn h (pieceOf c) := by
 unfold CellsSay at hc
 have hmo : MsgOk batch := fun x hx => by
  obtain ⟨k1, k2⟩ := hm x hx
  exact ⟨⟨near_in k1.1 (by omega), near_in (by omega) (by omega), near_in k2.1 k2.2⟩, k1.2.1⟩
 rw [if_pos (hS.ok h1 h100).2, if_pos (msgErr_ok (by omega) hmo), if_pos (by decide)] at hc
 obtain ⟨U, k1, k2, k3, k4, _⟩ := hc
 have hin := key_in hm k1 k2
 have hlen : (U.length : Int) ≤ h := by
  have := span_len (l := U.map fun x => (x.f, x.t)) (lo := 0) (hi := h) (List.pairwise_map.2 (k1.1.imp fun k => k.1)) (fun y hy => by
   obtain ⟨x, hx, rfl⟩ := List.mem_map.1 hy
   have := hin x hx
   exact ⟨this.2.1, this.1, this.2.2⟩) (by omega)
  simpa using this
 have hval : ∀ y, y ∈ U → 0 ≤ valOf batch 1 y.v.1 ∧ valOf batch 1 y.v.1 ≤ 100000 := fun y hy => by
  have h2 := k1.mem_at hy (Int.le_refl _) (k1.2 y hy)
  rw [k2] at h2
  unfold keyF at h2
  split at h2
  ·cases h2
  ·next hw =>
   rw [← Option.some.inj h2]
   have := mix_least (l := batch) (t := y.f) (v := valOf batch 1 (whichL batch y.f)) (by unfold mixO; rw [if_neg hw])
   obtain ⟨x, hx, _, hv⟩ := this.2
   rw [← hv]
   exact (hm x hx).2
 have hfar : U.any (farP batch 1) = false := by
  rw [List.any_eq_false]
  intro y hy
  have := hval y hy
  have := near_in this.1 this.2
  simp [farP, farB, this]
 have h0 : er = 0 := by rw [k3, if_neg (by simp [hfar]), if_neg (by omega)]
 refine ⟨h0, by rw [k4 h0, List.length_map]; omega, fun c hcm => ?_⟩
 rw [k4 h0] at hcm
 obtain ⟨y, hy, rfl⟩ := List.mem_map.1 hcm
 exact ⟨hin y hy, hval y hy⟩
theorem cells_val {cs : List CellD} (hS : Lies h S) (hm : ∀ x, x ∈ batch → MsgIn h x) (hc : CellsSay S batch 1 0 cs) (t : Int) : (cellsF (atM S) cs t).getD Far = minAt batch t (val S t) := by
 obtain ⟨U, k1, k2, rfl⟩ := hc.zero
 have hF : Far = 1099511627776 := rfl
 cases hu : atG U t with
 | none =>
  have hw : whichL batch t = [] := by
   rw [k2] at hu
   unfold keyF at hu
   split at hu
   ·assumption
   ·cases hu
  rw [cellsF_miss, minAt_none (which_nil_none hw)]
  ·rfl
  ·intro c hcm hct
   obtain ⟨y, hy, rfl⟩ := List.mem_map.1 hcm
   rw [k1.mem_at hy hct.1 hct.2] at hu
   cases hu
 | some q =>
  obtain ⟨y, hy, h1, h2, hq⟩ := atG_some hu
  obtain ⟨g1, g2, g3⟩ := cover_in k1 k2 hy rfl h1 h2 (k := 1)
  have hbv := mix_least g3
  obtain ⟨x, hx, _, hv⟩ := hbv.2
  have hxin := (hm x hx).2
  rw [mix_some g3, cellsF_hit (b := putB (toCell batch 1 y)) (v := (toCell batch 1 y).v)]
  ·unfold putB
   rw [g2, g1]
   cases ha : atM S t with
   | none =>
    rw [val_none ha]
    simp only [Option.isSome_none, Bool.not_false, Bool.true_or, if_true, Option.getD_some]
    omega
   | some s =>
    rw [val_some ha]
    simp only [Option.isSome_some, Bool.not_true, Bool.false_or, Option.getD_some]
    by_cases hlt : (toCell batch 1 y).v < s
    ·rw [if_pos (by simpa using hlt)]
     simp only [Option.getD_some]
     omega
    ·rw [if_neg (by simpa using hlt)]
     simp only [Option.getD_some]
     omega
  ·intro c hcm hct
   obtain ⟨z, hz, rfl⟩ := List.mem_map.1 hcm
   have h3 := k1.mem_at hz hct.1 hct.2
   rw [hu, ← hq] at h3
   have h4 : y.v = z.v := Option.some.inj h3
   unfold putB toCell
   rw [h4]
   exact ⟨rfl, rfl⟩
  ·exact ⟨_, List.mem_map.2 ⟨y, hy, rfl⟩, h1, h2⟩
/-- A Put of a right map and piece. -/
theorem put_zero (hm : Lies h m) (h1 : 1 ≤ h) (h100 : h ≤ 100) (hp : MsgIn h p) (hs : PutSay m p er out) : er = 0 ∧ Lies h out ∧ ∀ t, atM out t = putM m p t := by
 unfold PutSay at hs
 obtain ⟨p1, p2⟩ := hp
 rw [if_pos (hm.ok h1 h100).2, if_pos ⟨near_in p1.1 (by omega), near_in (by omega) (by omega), near_in p2.1 p2.2⟩] at hs
 have hval : ∀ t v, putM m p t = some v → (0 ≤ t ∧ t < h) ∧ 0 ≤ v ∧ v ≤ 100000 := fun t v hv => by
  unfold putM at hv
  split at hv
  ·obtain rfl := Option.some.inj hv
   omega
  ·exact hm.at_ hv
 obtain ⟨U, u1, u2, u3, u4, _⟩ := hs
 have hL : Lies h U := lies_of u1 fun t v hv => hval t v (by rw [← u2]; exact hv)
 have hl := hL.len (by omega)
 have h0 : er = 0 := by rw [u3]; exact tellErr_ok (fun t v hv => by have := (hval t v hv).2; exact near_in this.1 this.2) (by omega)
 rw [u4 h0]
 exact ⟨h0, hL, u2⟩
/-- After all cells of a batch. -/
theorem batch_done {cs : List CellD} (hS : Lies h S) (hb : ∀ x, x ∈ batch → MsgIn h x) (hc : CellsSay S batch 1 0 cs) (ho : ∀ t, atM out t = cellsF (atM S) cs t) : ∀ t, val out t = minAt batch t (val S t) := fun t => by
 rw [← cells_val hS hb hc t]
 unfold val
 rw [ho]

/-! ### where a map tells less -/
/-- What is told less than it was, as pieces that rise. -/
structure FreshIs (h : Int) (now : List PieceD) (was : Int → Int) (F : List PieceD) : Prop where
 rise : F.Pairwise (fun x y => x.t ≤ y.f)
 in_ : ∀ x, x ∈ F → MsgIn h x
 tells : ∀ q, q ∈ F → ∀ t, q.f ≤ t → t < q.t → val now t = q.v ∧ q.v < was t
 all : ∀ t, val now t < was t → ∃ q, q ∈ F ∧ q.f ≤ t ∧ t < q.t
theorem FreshIs.len {now F : List PieceD} {was : Int → Int} (hF : FreshIs h now was F) (h0 : 0 ≤ h) : (F.length : Int) ≤ h := by
 have := span_len (l := F.map fun x => (x.f, x.t)) (lo := 0) (hi := h) (List.pairwise_map.2 hF.rise) (fun y hy => by
  obtain ⟨x, hx, rfl⟩ := List.mem_map.1 hy
  have := (hF.in_ x hx).1
  exact ⟨this.2.1, this.1, this.2.2⟩) h0
 simpa using this
/-- At first all is new. -/
theorem fresh_first (hm : Lies h m) : FreshIs h m (fun _ => Far) m := by
 refine ⟨hm.map.1.imp fun k => k.1, fun x hx => ?_, fun q hq t h1 h2 => ?_, fun t ht => ?_⟩
 ·have h1 := hm.in_ x hx
  have h2 := hm.map.2 x hx
  exact ⟨⟨h1.1.1, h2, h1.1.2⟩, h1.2⟩
 ·have h1 := hm.map.mem_at hq h1 h2
  have h2 := hm.in_ q hq
  have hF : Far = 1099511627776 := rfl
  rw [val_some h1]
  exact ⟨rfl, by omega⟩
 ·rcases hm.val_cases t with ⟨k1, _⟩ | ⟨_, _, _, k2⟩
  ·rw [k1] at ht; exact absurd ht (Int.lt_irrefl _)
  ·obtain ⟨q, hq, h1, h2, _⟩ := at_some k2
   exact ⟨q, hq, h1, h2⟩
/-- The intervals of was at which a piece is not less. -/
def sameOf (p : PieceD) (was : List PieceD) : List IvlD := was.flatMap fun q => if max p.f q.f < min p.t q.t ∧ q.v ≤ p.v then [⟨max p.f q.f, min p.t q.t⟩] else []
theorem sameOf_snoc {was : List PieceD} {k : Nat} (hq : was[k]? = some q) : sameOf p (was.take (k + 1)) = sameOf p (was.take k) ++ if max p.f q.f < min p.t q.t ∧ q.v ≤ p.v then [⟨max p.f q.f, min p.t q.t⟩] else [] := by
 have e : was.take (k + 1) = was.take k ++ [q] := by rw [List.take_add_one, hq]; rfl
 rw [e]
 unfold sameOf
 rw [List.flatMap_append]
 simp
theorem sameOf_len (p : PieceD) : ∀ was : List PieceD, (sameOf p was).length ≤ was.length
 | [] => Nat.le_refl _
 | q :: was => by
  have := sameOf_len p was
  have e : sameOf p (q :: was) = (if max p.f q.f < min p.t q.t ∧ q.v ≤ p.v then [(⟨max p.f q.f, min p.t q.t⟩ : IvlD)] else []) ++ sameOf p was := rfl
  rw [e, List.length_append, List.length_cons]
  split <;> simp <;> omega
theorem sameOf_has {was : List PieceD} : hasB (sameOf p was) t = true ↔ ∃ q, q ∈ was ∧ q.f ≤ t ∧ t < q.t ∧ q.v ≤ p.v ∧ p.f ≤ t ∧ t < p.t := by
 rw [has_iff]
 unfold sameOf
 constructor
 ·rintro ⟨x, hx, h1, h2⟩
  obtain ⟨q, hq, hx⟩ := List.mem_flatMap.1 hx
  split at hx
  ·next hc =>
   obtain rfl : x = _ := by simpa using hx
   simp only at h1 h2
   exact ⟨q, hq, by omega, by omega, hc.2, by omega, by omega⟩
  ·simp at hx
 ·rintro ⟨q, hq, h1, h2, h3, h4, h5⟩
  refine ⟨⟨max p.f q.f, min p.t q.t⟩, List.mem_flatMap.2 ⟨q, hq, ?_⟩, by simp only; omega, by simp only; omega⟩
  rw [if_pos ⟨by omega, h3⟩]
  simp
theorem sameOf_in {was : List PieceD} (hp : 0 ≤ p.f ∧ p.t ≤ h) : ∀ x, x ∈ sameOf p was → 0 ≤ x.f ∧ x.f < x.t ∧ x.t ≤ h := fun x hx => by
 unfold sameOf at hx
 obtain ⟨q, hq, hx⟩ := List.mem_flatMap.1 hx
 split at hx
 ·obtain rfl : x = _ := by simpa using hx
  simp only
  omega
 ·simp at hx
/-- What is left of a piece. -/
def pieceAt (v : Int) (x : IvlD) : PieceD := ⟨x.f, x.t, v⟩
def RestIs (p : PieceD) (was : List PieceD) (rest : List IvlD) : Prop := NormL rest ∧ ∀ t, hasB rest t = true ↔ (p.f ≤ t ∧ t < p.t) ∧ ¬ hasB (sameOf p was) t = true
theorem rest_in {was : List PieceD} {rest : List IvlD} (hr : RestIs p was rest) : ∀ x, x ∈ rest → p.f ≤ x.f ∧ x.f < x.t ∧ x.t ≤ p.t := fun x hx => by
 have h1 := hr.1.2 x hx
 have h2 := (hr.2 x.f).1 (has_iff.2 ⟨x, hx, Int.le_refl _, h1⟩)
 have h3 := (hr.2 (x.t - 1)).1 (has_iff.2 ⟨x, hx, by omega, by omega⟩)
 omega
/-- Norm and Minus, as less calls them, tell what is left. -/
theorem rest_of {same rest : List IvlD} {ws : List PieceD} {e1 e2 : Int} (hp : (0 ≤ p.f ∧ p.f < p.t ∧ p.t ≤ h)) (h1 : 1 ≤ h) (h100 : h ≤ 100) (hw : (ws.length : Int) ≤ h)
  (hn : NormSay (sameOf p ws) e1 same) (hm : SetsSay opNot [⟨p.f, p.t⟩] same e2 rest) : RestIs p ws rest := by
 have hin := sameOf_in (was := ws) (p := p) (h := h) ⟨hp.1, hp.2.2⟩
 have hl := sameOf_len p ws
 have e0 : e1 = 0 := by
  unfold NormSay at hn
  rw [if_neg (by omega)] at hn
  rw [if_neg (by
   simp only [Bool.not_eq_true, List.any_eq_false]
   intro x hx
   have k := hin x hx
   simp [farX, farB, near_in k.1 (by omega), near_in (n := x.t) (by omega) (by omega)])] at hn
  exact hn.1
 obtain ⟨hO, hsl⟩ := hn.of e0
 have hO1 : Of (fun t => decide (p.f ≤ t ∧ t < p.t)) 1 [⟨p.f, p.t⟩] := ⟨⟨by simp, fun x hx => by
  obtain rfl : x = _ := by simpa using hx
  exact hp.2.1⟩, fun t => by simp [hasB], fun x hx => by
  obtain rfl : x = _ := by simpa using hx
  exact ⟨near_in (n := p.f) hp.1 (by omega), near_in (n := p.t) (by omega) (by omega)⟩, Nat.le_refl _⟩
 unfold SetsSay at hm
 rw [if_pos (hO1.ok (by omega)), if_pos (hO.ok hsl)] at hm
 obtain ⟨U, u1, u2, u3, u4⟩ := hm
 have hUt : ∀ t, hasB U t = true ↔ (p.f ≤ t ∧ t < p.t) ∧ ¬ hasB (sameOf p ws) t = true := fun t => by
  rw [u2, hO1.has, hO.has]
  simp [opNot]
 have hU : RestIs p ws U := ⟨u1, hUt⟩
 have hlen := span_len (l := U.map fun x => (x.f, x.t)) (lo := p.f) (hi := p.t) (List.pairwise_map.2 (u1.1.imp fun k => Int.le_of_lt k)) (fun y hy => by
  obtain ⟨x, hx, rfl⟩ := List.mem_map.1 hy
  have := rest_in hU x hx
  exact ⟨this.2.1, this.1, this.2.2⟩) (by omega)
 rw [List.length_map] at hlen
 rw [if_neg (by omega)] at u4
 rw [u4]
 exact hU
/-- What less has told of the first pieces. -/
structure LessK (h : Int) (now was F : List PieceD) (k : Nat) : Prop where
 rise : F.Pairwise (fun x y => x.t ≤ y.f)
 in_ : ∀ x, x ∈ F → MsgIn h x
 ends : ∀ x, x ∈ F → ∃ p, p ∈ now.take k ∧ x.t ≤ p.t
 tells : ∀ q, q ∈ F → ∀ t, q.f ≤ t → t < q.t → val now t = q.v ∧ q.v < val was t
 all : ∀ p, p ∈ now.take k → ∀ t, p.f ≤ t → t < p.t → p.v < val was t → ∃ q, q ∈ F ∧ q.f ≤ t ∧ t < q.t
theorem LessK.start {now was : List PieceD} : LessK h now was [] 0 := ⟨.nil, fun x hx => by simp at hx, fun x hx => by simp at hx, fun x hx => by simp at hx, fun x hx => by simp at hx⟩
theorem LessK.next {now was F : List PieceD} {rest : List IvlD} {k : Nat} (hK : LessK h now was F k) (hnow : Lies h now) (hwas : Lies h was) (hp : now[k]? = some p) (hr : RestIs p was rest) : LessK h now was (F ++ rest.map (pieceAt p.v)) (k + 1) := by
 have hpm := List.mem_of_getElem? hp
 have hpi := hnow.in_ p hpm
 have hpl := hnow.map.2 p hpm
 have hri := rest_in hr
 have et : now.take (k + 1) = now.take k ++ [p] := by rw [List.take_add_one, hp]; rfl
 have hF : Far = 1099511627776 := rfl
 have hsame : ∀ t, p.f ≤ t → t < p.t → (hasB (sameOf p was) t = true ↔ ¬ p.v < val was t) := fun t h1 h2 => by
  rw [sameOf_has]
  constructor
  ·rintro ⟨q, hq, k1, k2, k3, _, _⟩
   rw [val_some (hwas.map.mem_at hq k1 k2)]
   omega
  ·intro k3
   rcases hwas.val_cases t with ⟨k1, _⟩ | ⟨_, _, _, k2⟩
   ·omega
   ·obtain ⟨q, hq, k4, k5, k6⟩ := at_some k2
    exact ⟨q, hq, k4, k5, by omega, h1, h2⟩
 refine ⟨List.pairwise_append.2 ⟨hK.rise, List.pairwise_map.2 (hr.1.1.imp fun k => Int.le_of_lt k), fun x hx y hy => ?_⟩, fun x hx => ?_, fun x hx => ?_, fun q hq t h1 h2 => ?_, fun q hq t h1 h2 h3 => ?_⟩
 ·obtain ⟨z, hz, rfl⟩ := List.mem_map.1 hy
  obtain ⟨o, ho, h1⟩ := hK.ends x hx
  obtain ⟨i, hi⟩ := List.getElem?_of_mem ho
  have hik : i < k := by
   have := lt_of_get hi
   rw [List.length_take] at this
   omega
  rw [List.getElem?_take_of_lt hik] at hi
  obtain ⟨i1, i2⟩ := List.getElem?_eq_some_iff.1 hi
  obtain ⟨j1, j2⟩ := List.getElem?_eq_some_iff.1 hp
  have h2 := List.pairwise_iff_getElem.1 hnow.map.1 i k i1 j1 hik
  rw [i2, j2] at h2
  have h3 := hri z hz
  show x.t ≤ z.f
  omega
 ·rcases List.mem_append.1 hx with hx | hx
  ·exact hK.in_ x hx
  ·obtain ⟨z, hz, rfl⟩ := List.mem_map.1 hx
   have := hri z hz
   exact ⟨⟨by show 0 ≤ z.f; omega, this.2.1, by show z.t ≤ h; omega⟩, hpi.2⟩
 ·rcases List.mem_append.1 hx with hx | hx
  ·obtain ⟨o, ho, h1⟩ := hK.ends x hx
   exact ⟨o, by rw [et]; exact List.mem_append_left _ ho, h1⟩
  ·obtain ⟨z, hz, rfl⟩ := List.mem_map.1 hx
   exact ⟨p, by rw [et]; simp, (hri z hz).2.2⟩
 ·rcases List.mem_append.1 hq with hq | hq
  ·exact hK.tells q hq t h1 h2
  ·obtain ⟨z, hz, rfl⟩ := List.mem_map.1 hq
   have h4 := hri z hz
   have h5 : p.f ≤ t ∧ t < p.t := by
    have e1 : (pieceAt p.v z).f = z.f := rfl
    have e2 : (pieceAt p.v z).t = z.t := rfl
    omega
   refine ⟨val_some (hnow.map.mem_at hpm h5.1 h5.2), ?_⟩
   have h6 := ((hr.2 t).1 (has_iff.2 ⟨z, hz, h1, h2⟩)).2
   exact Classical.byContradiction fun h7 => h6 ((hsame t h5.1 h5.2).2 h7)
 ·rw [et] at hq
  rcases List.mem_append.1 hq with hq | hq
  ·obtain ⟨x, hx, h4⟩ := hK.all q hq t h1 h2 h3
   exact ⟨x, List.mem_append_left _ hx, h4⟩
  ·obtain rfl : q = p := by simpa using hq
   have h4 : hasB rest t = true := (hr.2 t).2 ⟨⟨h1, h2⟩, fun h5 => (hsame t h1 h2).1 h5 h3⟩
   obtain ⟨z, hz, h5, h6⟩ := has_iff.1 h4
   exact ⟨pieceAt q.v z, List.mem_append_right _ (List.mem_map.2 ⟨z, hz, rfl⟩), h5, h6⟩
theorem LessK.fin {now was F : List PieceD} {k : Nat} (hK : LessK h now was F k) (hnow : Lies h now) (hwas : Lies h was) (hk : now.length ≤ k) : FreshIs h now (val was) F := by
 have et : now.take k = now := List.take_of_length_le hk
 have hF : Far = 1099511627776 := rfl
 refine ⟨hK.rise, hK.in_, hK.tells, fun t ht => ?_⟩
 rcases hnow.val_cases t with ⟨k1, _⟩ | ⟨_, _, _, k2⟩
 ·rcases hwas.val_cases t with ⟨k3, _⟩ | ⟨k3, _⟩ <;> omega
 ·obtain ⟨q, hq, h1, h2, h3⟩ := at_some k2
  exact hK.all q (by rw [et]; exact hq) t h1 h2 (by omega)
end
end Go.Proofs.YtjcimdpldlamfaaGreatDoor
