/- Several texts in one: Built, IvlNorm. -/
import Derived.BigRegion
import Derived.Test.YtdpibehpmghghaaBdc1a91377fb
import Derived.Test.YtdpibehpmghghaaBd457b903ce2
import Derived.Test.YtdpibehpmghghaaBd2f2e3a0852
import Derived.Test.YtdpibehpmghghaaBd8b398bcfa9
/- The walks of built, begun, told (timekeep). -/
namespace Go.Proofs.Ytdpibehpmghghaa
open Go.RowKit Go.Shelf

theorem PiecesAt.take {w : World} {A : Option Addr} {c : Nat} {l : List PieceD} (h : PiecesAt w A c l) (k : Nat) : PiecesAt w A c (l.take k) := ⟨by have := h.lc; simp; omega, h.cm, h.sl.take k⟩
/-- What is built of some pieces, one Put after the other. -/
inductive BuiltIs : List PieceD → List PieceD → Prop
  | nil : BuiltIs [] []
  | step {l m o : List PieceD} {p : PieceD} {er : Int} : BuiltIs l m → PutSay m p er o → BuiltIs (l ++ [p]) (if er = 0 then o else m)
theorem mapErr_nil : mapErr [] = 0 := mapErr_ok (by simp) MapOk.nil
theorem BuiltIs.ok {l m : List PieceD} (h : BuiltIs l m) : mapErr m = 0 := by
  induction h with
  | nil => exact mapErr_nil
  | step _ h2 ih =>
    split
    · rename_i h0
      exact (h2.good h0).2.2
    · exact ih
theorem BuiltIs.good {l m o : List PieceD} {p : PieceD} (h : BuiltIs l m) (h2 : PutSay m p 0 o) : BuiltIs (l ++ [p]) o := by have := h.step h2; rwa [if_pos rfl] at this
theorem BuiltIs.bad {l m o : List PieceD} {p : PieceD} {er : Int} (h : BuiltIs l m) (h2 : PutSay m p er o) (h0 : er ≠ 0) : BuiltIs (l ++ [p]) m := by have := h.step h2; rwa [if_neg h0] at this
def BuiltOut (l : List PieceD) (w : World) (e : Ending) (w' : World) : Prop := ∃ A c out, Hid (BuiltIs l out) ∧ e = .returned (.slice A out.length c) ∧ PiecesAt w' A c out ∧ Below w.heap.size w w'

set_option maxRecDepth 100000 in
set_option maxHeartbeats 2000000 in
theorem built_any (A : Option Addr) (c : Nat) (l : List PieceD) (w : World) (hI : PiecesAt w A c l) : Calls Try.prog 9 #[.slice A l.length c] w (BuiltOut (l.take 40) w) := by
  have m1 := hI.len
  have hlc := hI.lc
  have hcm : c ≤ 9223372036854775807 := hI.cm
  obtain ⟨n, hn⟩ : ∃ n, (l.take 40).length = n := ⟨_, rfl⟩
  have hn2 : min (40 : Int) (l.length : Int) = (n : Int) := by rw [← hn, List.length_take]; omega
  have hnl : n ≤ l.length := by rw [← hn, List.length_take]; omega
  have hnc : n ≤ c := by omega
  obtain ⟨L, hL⟩ : ∃ L, l.take 40 = L := ⟨_, rfl⟩
  have hIL := hI.take 40
  rw [hL] at hn hIL ⊢
  have HI := Lib.hid hIL
  have HN := Lib.hid hn
  clear hI hIL hL hn
  go_enter Try.func9, Try.ntmps9
  go_wp2_with fail
  go_loopw [3, 14] (fun u v wr => ∃ (k : Nat) (A' : Option Addr) (c' : Nat) (m : List PieceD), k ≤ n ∧ v = .int .i64 k ∧ u = .slice A' m.length c' ∧ Hid (BuiltIs (L.take k) m) ∧ PiecesAt wr A' c' m ∧ Below w.heap.size w wr) (fun _ v _ => n - (intOf v).toNat)
  case atStart => exact ⟨0, none, 0, [], Nat.zero_le _, rfl, rfl, Lib.hid (by simpa using BuiltIs.nil), .nil, Below.refl _ _⟩
  case round =>
    obtain ⟨k, A', c', m, hk, rfl, rfl, HB, hM, hb⟩ := hrel
    by_cases hlt : k < n
    case neg =>
      obtain rfl : k = n := by omega
      have HS : Hid (BuiltIs L m) := Lib.hid (by have := HB.out; rwa [List.take_of_length_le (by rw [HN.out]; omega)] at this)
      go_wp2_with fail
      go_ret
      exact ⟨A', c', m, HS, rfl, hM, hb⟩
    case pos =>
      obtain ⟨x, hx⟩ := get_lt (show k < L.length by rw [HN.out]; exact hlt)
      obtain ⟨b, off, rfl, hb0, x0, x1, x2⟩ := HI.out.get hx
      rw [← hb.cell (by exact hb0)] at x0 x1 x2
      have HT := Lib.hid (takeM_succ hx)
      have hba := ext_alloc hb (Obj.cells #[.int .i64 x.f, .int .i64 x.t, .int .i64 x.v] 25)
      have hMa := hM.ext (ext_alloc (Below.refl _ wr) (Obj.cells #[.int .i64 x.f, .int .i64 x.t, .int .i64 x.v] 25))
      have hP := imapPut_any A' c' m x _ hMa
      have HM := Lib.hid hMa
      clear hx hM hMa
      go_wp2_with fail
      refine hP.mono ?_
      rintro e w2 ⟨er, o, A2, c2, HR, rfl, hI2, hb2⟩
      clear hP
      by_cases h0 : er = 0
      case pos =>
        subst h0
        go_wp2_with fail
        go_roundw
        case rel => exact ⟨k + 1, A2, c2, o, by omega, by go_num, rfl, Lib.hid (by rw [HT.out]; exact HB.out.good HR.out), hI2, ext_trans hba hb2⟩
        case measure => simp [intOf]; omega
      case neg =>
        have hd : (er == 0) = false := by simpa using h0
        have H0 := Lib.hid h0
        clear h0
        go_wp2_with fail
        go_roundw
        case rel => exact ⟨k + 1, A', c', m, by omega, by go_num, rfl, Lib.hid (by rw [HT.out]; exact HB.out.bad HR.out H0.out), HM.out.ext hb2, ext_trans hba hb2⟩
        case measure => simp [intOf]; omega
theorem BuiltIs.inv {l m : List PieceD} {p : PieceD} (h : BuiltIs (l ++ [p]) m) : ∃ m0 er o, BuiltIs l m0 ∧ PutSay m0 p er o ∧ m = if er = 0 then o else m0 := by
  generalize hL : l ++ [p] = L at h
  cases h with
  | nil => simp at hL
  | @step l' m0 o p' er h1 h2 =>
    obtain ⟨rfl, h3⟩ := List.append_inj' hL rfl
    obtain rfl : p = p' := by simpa using h3
    exact ⟨m0, er, o, h1, h2, rfl⟩
theorem BuiltIs.inv0 {m : List PieceD} (h : BuiltIs [] m) : m = [] := by
  generalize hL : ([] : List PieceD) = L at h
  cases h with
  | nil => rfl
  | step _ _ => simp at hL
theorem PutSay.told {m u o : List PieceD} {p : PieceD} {er : Int} (h : PutSay m p er o) (h0 : mapErr m = 0) (hp : nearB p.f = true ∧ nearB p.t = true ∧ nearB p.v = true) (hu : mapErr u = 0) (he : ∀ t, putM m p t = atM u t) : er = 0 ∧ o = u := by
  unfold PutSay at h
  rw [if_pos h0, if_pos hp] at h
  exact h.zero hu he
theorem BuiltIs.begun {m : List PieceD} (h : BuiltIs [⟨1, 9, 5⟩, ⟨3, 4, 7⟩] m) : m = [⟨1, 3, 5⟩, ⟨3, 4, 7⟩, ⟨4, 9, 5⟩] := by
  obtain ⟨m1, e1, o1, h1, g1, rfl⟩ := BuiltIs.inv (l := [⟨1, 9, 5⟩]) (p := ⟨3, 4, 7⟩) h
  obtain ⟨m2, e2, o2, h2, g2, rfl⟩ := BuiltIs.inv (l := []) (p := ⟨1, 9, 5⟩) h1
  obtain rfl := h2.inv0
  have ok1 : mapErr [⟨1, 9, 5⟩] = 0 := mapErr_ok (by decide) ⟨⟨by decide, by decide⟩, by decide⟩
  have ok2 : mapErr [⟨1, 3, 5⟩, ⟨3, 4, 7⟩, ⟨4, 9, 5⟩] = 0 := mapErr_ok (by decide) ⟨⟨by decide, by decide⟩, by decide⟩
  obtain ⟨rfl, rfl⟩ := g2.told mapErr_nil (by decide) ok1 fun t => rfl
  rw [if_pos rfl] at g1
  obtain ⟨rfl, rfl⟩ := g1.told ok1 (by decide) ok2 fun t => by
    simp only [putM, atM]
    repeat' split
    all_goals first | rfl | omega
  rfl
/-- A list of pieces in a block of its own. -/
theorem pieces_lit {w : World} {g : Nat} {l : List PieceD} (h : Blk w g 25 (l.flatMap pieceC).toArray) (hi : ∀ x, x ∈ l → I64 x.f ∧ I64 x.t ∧ I64 x.v) (hl : l.length ≤ maxLen) : PiecesAt w (some ⟨g, 0, none⟩) l.length l := by
  have key : ∀ (l : List PieceD) (i : Nat) (x : PieceD), l[i]? = some x → ∀ j y, (pieceC x)[j]? = some y → (l.flatMap pieceC)[i * 3 + j]? = some y := by
    intro l
    induction l with
    | nil => intro i x h; simp at h
    | cons z l ih =>
      intro i x hx j y hy
      rw [List.flatMap_cons]
      have h3 : (pieceC z).length = 3 := rfl
      match i, hx with
      | 0, hx =>
        obtain rfl : z = x := by simpa using hx
        have hj : j < (pieceC z).length := (List.getElem?_eq_some_iff.1 hy).1
        rw [Nat.zero_mul, Nat.zero_add, List.getElem?_append_left hj]
        exact hy
      | i + 1, hx =>
        rw [List.getElem?_append_right (by rw [h3]; omega), h3, show (i + 1) * 3 + j - 3 = i * 3 + j by omega]
        exact ih i x (by simpa using hx) j y hy
  refine ⟨Nat.le_refl _, hl, g, 0, fun i x hx => ?_⟩
  have hc := fun j y hy => show w.cell? ⟨g, 0 + i * 3 + j, none⟩ = some y from by
    rw [Nat.zero_add, h.cell, List.getElem?_toArray]
    exact key l i x hx j y hy
  exact ⟨rfl, h.lt, ⟨hc 0 _ rfl, hc 1 _ rfl, hc 2 _ rfl⟩, hi x (List.mem_of_getElem? hx)⟩

set_option maxRecDepth 100000 in
set_option maxHeartbeats 2000000 in
theorem begunMap_any (w : World) : Calls Try.prog 5 #[] w fun e w' => e = .returned (.bool true) ∧ Below w.heap.size w w' := by
  go_enter Try.func5, Try.ntmps5
  go_wp2_with fail
  refine (built_any (some ⟨w.heap.size, 0, none⟩) 2 [⟨1, 9, 5⟩, ⟨3, 4, 7⟩] _ (pieces_lit (l := [⟨1, 9, 5⟩, ⟨3, 4, 7⟩]) (Blk.new w 25 _) (by simp [I64]) (by decide))).mono ?_
  rintro e w1 ⟨A1, c1, m, HB, rfl, hM, hb1⟩
  obtain rfl := HB.out.begun
  have hb1 : Below w.heap.size w w1 := ext_trans (by go_grown) hb1
  have HM := Lib.hid hM
  clear hM
  go_wp2_with fail
  have hb2 := ext_alloc (Below.refl _ w1) (Obj.cells #[.int .i64 1, .int .i64 3, .int .i64 5, .int .i64 3, .int .i64 4, .int .i64 7, .int .i64 4, .int .i64 9, .int .i64 5] 25)
  refine (equalPieces_any A1 (some ⟨w1.heap.size, 0, none⟩) c1 3 [⟨1, 3, 5⟩, ⟨3, 4, 7⟩, ⟨4, 9, 5⟩] [⟨1, 3, 5⟩, ⟨3, 4, 7⟩, ⟨4, 9, 5⟩] _ (HM.out.ext hb2).sl (pieces_lit (l := [⟨1, 3, 5⟩, ⟨3, 4, 7⟩, ⟨4, 9, 5⟩]) (Blk.new w1 25 _) (by simp [I64]) (by decide)).sl (by decide) (by decide)).mono ?_
  rintro e w2 ⟨rfl, hb3⟩
  go_wp2_with fail
  go_ret
  exact ⟨by simp, ext_trans (ext_trans hb1 hb2) hb3⟩
end Go.Proofs.Ytdpibehpmghghaa
/- The walk of what a list of intervals is written as, the program's: deleted, sorted, put together. -/
namespace Go.Proofs.Ytdpibehpmghghaa
open Go.RowKit Go.Shelf Go.Sort

abbrev NearI := { x : IvlD // nearB x.f = true ∧ nearB x.t = true }
instance : Inhabited NearI := ⟨⟨⟨0, 0⟩, by decide⟩⟩
def encN (x : NearI) : List Value := ivlC x.1
def cfN (x y : NearI) : Int := x.1.f - y.1.f
theorem ltN (x y : NearI) : Go.Proofs.ltOf cfN x y = decide (x.1.f < y.1.f) := by
  unfold Go.Proofs.ltOf cfN
  by_cases h : x.1.f < y.1.f
  · simp [h]; omega
  · simp [h]; omega
theorem swoN : SWO (Go.Proofs.ltOf cfN) where
  irrefl x := by rw [ltN]; simp
  trans x y z h1 h2 := by rw [ltN] at *; simp at *; omega
  ntrans x y z h1 h2 := by rw [ltN] at *; simp at *; omega
set_option maxHeartbeats 1000000 in
theorem norm2_any (x y : NearI) (W : World) : Calls Try.prog 57 #[.agg #[.int .i64 x.1.f, .int .i64 x.1.t], .agg #[.int .i64 y.1.f, .int .i64 y.1.t]] W fun e w' => e = .returned (.int .i64 (cfN x y)) ∧ ∃ q os', w' = grow (W.drewN q) os' := by
  obtain ⟨⟨a, b⟩, ha, _⟩ := x
  obtain ⟨⟨c, d⟩, hc, _⟩ := y
  have h1 := near_iff.1 ha
  have h2 := near_iff.1 hc
  simp only at h1 h2
  have hw : IntKind.i64.wrap (a - c) = a - c := IntWalk.i64_in _ (by omega)
  unfold cfN
  simp only
  clear ha hc
  go_enter Try.func57, Try.ntmps57
  go_wp2_with fail
  go_ret
  exact ⟨rfl, 0, _, by rw [alloc_eq_grow, alloc_eq_grow, grow_grow]; rfl⟩
theorem near_list : ∀ {l : List IvlD}, (∀ x, x ∈ l → nearB x.f = true ∧ nearB x.t = true) → ∃ l' : List NearI, l'.map Subtype.val = l
  | [], _ => ⟨[], rfl⟩
  | x :: l, h => by
    obtain ⟨l', e⟩ := near_list (l := l) fun y hy => h y (List.mem_cons_of_mem _ hy)
    exact ⟨⟨x, h x (by simp)⟩ :: l', by rw [List.map_cons, e]⟩
theorem flat_near (l : List NearI) : l.flatMap encN = (l.map Subtype.val).flatMap ivlC := by
  induction l with
  | nil => rfl
  | cons x l ih => rw [List.flatMap_cons, List.map_cons, List.flatMap_cons, ih]; rfl
theorem Own.near {w : World} {base : Nat} {e : TypeId} {v : Value} {l : List NearI} : Own encN 2 w base e v l ↔ Own ivlC 2 w base e v (l.map Subtype.val) := by
  unfold Own
  rw [flat_near, List.length_map]
/-- A list is sorted in its place. -/
def SortOut (l : List IvlD) (v : Value) (w : World) (base : Nat) (e : Ending) (w' : World) : Prop := e = .returned (.tuple #[]) ∧ ∃ r, (∀ x, x ∈ r ↔ x ∈ l) ∧ r.length = l.length ∧ r.Pairwise (fun x y => x.f ≤ y.f) ∧ Own ivlC 2 w' base 29 v r ∧ Below base w w'
theorem ivlSort_any (v : Value) (l : List IvlD) (w : World) (base : Nat) (hown : Own ivlC 2 w base 29 v l) (hbase : base ≤ w.heap.size) (hn : ∀ x, x ∈ l → nearB x.f = true ∧ nearB x.t = true) (hl : l.length ≤ 100000) :
    Calls Try.prog 56 #[v, .func (.func 57) #[] #[]] w (SortOut l v w base) := by
  obtain ⟨l', rfl⟩ := near_list hn
  rcases hown.2 with ⟨hv, h0⟩ | ⟨g, cap, cur, hv, hg, hh, _⟩
  · rw [hv]
    have h0' : l'.map Subtype.val = [] := List.eq_nil_of_length_eq_zero h0
    have hS := AnyF.slices_SortFunc_none (P := Try.prog) (ρ := Try.sortIvl_ren) { Try.sortIvl with } none 0 (.func (.func 57) #[] #[]) w
    refine hS.mono fun e w' ⟨he, hw⟩ => ⟨he, [], by simp [h0'], by simp [h0'], by simp, by subst hw; rw [← hv, ← h0']; exact hown, by rw [hw]; exact Below.refl _ _⟩
  · have hlt : g < w.heap.size := by
      rcases Nat.lt_or_ge g w.heap.size with hlt | hge
      · exact hlt
      · rw [Array.getElem?_eq_none hge] at hh; cases hh
    have hO : Own encN 2 w base 29 (.slice (some ⟨g, 0, none⟩) l'.length cap) l' := by
      have := Own.near.2 hown
      rw [hv] at this
      simpa using this
    have hH := hO.holdsK (sz := 2) (fun _ => rfl) (by decide)
    have eg : ∀ args w, (callFunc 57 args).run Try.prog w = .ok (.enter 57 args) w := enters_of Try.func57 (by kernel_rfl) rfl
    have hcon := AnyQ.slices_SortFunc Try.sortIvl 2 Try.isAgg29 Try.sizeOf29 encN (fun _ => rfl) (fun x v hv => by simp [encN, ivlC] at hv; rcases hv with rfl | rfl <;> rfl) cfN swoN 57 #[] g 0 cap l'.toArray w eg (fun _ _ _ _ x y => norm2_any x y _) hH hlt (by simp at hl ⊢; omega)
    rw [hv]
    have hle : (l'.map Subtype.val).length = l'.toArray.size := by simp
    rw [hle]
    refine hcon.mono fun e w' ⟨he, d', n, os, hp, hs, hw⟩ => ?_
    obtain ⟨d'⟩ := d'
    have hsz : d'.length = l'.length := by simpa using hp.1
    have hperm : d'.Perm l' := by
      have := hp.2.2
      simp only [List.size_toArray, List.extract_toArray, List.extract_eq_take_drop, List.drop_zero, Nat.sub_zero] at this
      rwa [← hsz, List.take_length, hsz, List.take_length] at this
    refine ⟨he, d'.map Subtype.val, fun x => by rw [List.mem_map, List.mem_map]; exact ⟨fun ⟨y, hy, e⟩ => ⟨y, hperm.subset hy, e⟩, fun ⟨y, hy, e⟩ => ⟨y, hperm.symm.subset hy, e⟩⟩, by simp [hsz], ?_, ?_, ?_⟩
    · rw [List.pairwise_map, List.pairwise_iff_getElem]
      intro i j hi hj hij
      have h1 := hs i j (Nat.zero_le _) hij (by simp; omega)
      rw [ltN] at h1
      simp only [List.getElem!_toArray] at h1
      rw [getElem!_pos d' j hj, getElem!_pos d' i hi] at h1
      simpa using h1
    · rw [hw]
      have h2 := hO.sortWorld (sz := 2) (l' := d') (m := n) (os := os) (fun _ => rfl) (by decide) hsz
      have h3 := Own.near.1 h2
      simpa using h3
    · rw [hw]
      exact below_sort hg hbase
end Go.Proofs.Ytdpibehpmghghaa
