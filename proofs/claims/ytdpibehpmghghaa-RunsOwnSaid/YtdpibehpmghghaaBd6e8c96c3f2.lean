/- Several texts in one: WarpAt, WarpVal. -/
import Derived.Test.YtdpibehpmghghaaBd8a148b2685
import Derived.Test.YtdpibehpmghghaaBd457b903ce2
import Derived.Test.YtdpibehpmghghaaBd8b398bcfa9
import Derived.Test.YtdpibehpmghghaaBdd408b50993
/- The walk of warp.at: what is there at a time. -/
namespace Go.Proofs.Ytdpibehpmghghaa
open Go.RowKit Go.Shelf

/-- A result that lies in a cell of its own. -/
theorem results_cellS {fn : Func} {p : Tmp} {ty : TypeId} (h : fn.results = #[.cell p ty]) (tmps : Array Value) (P : Program) (w : World) (b : Nat) (t : TypeId) (cs : Array Value) {d : _} (hp : tmps.getD p undef = .pointer (some ⟨b, 0, none⟩)) (hb : Blk w b t cs)
    (hu : P.underlying ty = some (.struct d)) (hi : (P.info? ty).map (·.size) = some cs.size) : (results fn tmps).run P w = .ok (.agg cs) w := by
  have hl := run_loadVar_row (P := P) w b t ty cs (0, 0) (.struct d) hb hu rfl hi
  have hp2 : tmps[p]?.getD undef = .pointer (some ⟨b, 0, none⟩) := by rw [← hp]; simp
  simp only [results, h]
  simp [Sem.run_bind, Result.andThen, hp2, asAddr, hl]
theorem info_moment : (Try.prog.info? 163).map (·.size) = some 3 := by kernel_rfl
def momC (A : Option Addr) (n c : Nat) (o : Option Int) : Array Value := #[.slice A n c, .int .i64 (o.getD 0), .bool o.isSome]
def momV (A : Option Addr) (n c : Nat) (o : Option Int) : Value := .agg (momC A n c o)
theorem which_i64 {l : List PieceD} {t : Int} {n : Nat} (hl : n ≤ 1000000) : ∀ x, x ∈ whichK l t n → I64 x := fun x hx => by
  obtain ⟨h1, h2, _⟩ := mem_whichK hx
  unfold I64
  omega
/-- What a call owns lies in a block of its own. -/
theorem own_fresh' {α : Type} {enc : α → List Value} {k : Nat} {w : World} {base : Nat} {t : TypeId} {A : Option Addr} {n c : Nat} {l : List α} (h : Own enc k w base t (.slice A n c) l) : ∀ b, A = some b → base ≤ b.block := by
  rintro b rfl
  rcases h.2 with ⟨h2, _⟩ | ⟨g, cap, cur, hv, hg, _⟩
  · simp at h2
  · simp only [Value.slice.injEq, Option.some.injEq] at hv
    rw [hv.1]; exact hg
theorem ints_keep {w w' : World} {A : Option Addr} {c B : Nat} {l : List Int} (h : IntsAt w A c l) (hf : ∀ b, A = some b → B ≤ b.block) (hs : w.heap.size ≤ w'.heap.size) (hk : ∀ k, B ≤ k → k < w.heap.size → w'.heap[k]? = w.heap[k]?) : IntsAt w' A c l := by
  obtain ⟨x, off, hS⟩ := h.sl
  refine ⟨h.lc, h.cm, x, off, fun i y hy => ?_⟩
  obtain ⟨h1, h2, h3, h4⟩ := hS i y hy
  exact ⟨h1, Nat.lt_of_lt_of_le h2 hs, (World.cell?_of_block (w := w) (hk x (hf _ h1) h2)).trans h3, h4⟩
theorem Own.set_far {α : Type} {enc : α → List Value} {k : Nat} {w : World} {base g : Nat} {e t : TypeId} {v : Value} {l : List α} {cs : Array Value} (h : Own enc k w base e v l) (hB : Blk w g t cs) (ht : t ≠ e) (i : Nat) (u : Value) : Own enc k (w.setCell ⟨g, i, none⟩ u) base e v l :=
  h.keep fun b cs' hb => hb.far (by
    rintro rfl
    unfold Blk at hb hB
    rw [hB] at hb
    cases hb
    exact ht rfl) u
def AtOut (state l : List PieceD) (t : Int) (w : World) (e : Ending) (w' : World) : Prop := ∃ A c base, e = .returned (momV A (whichL l t).length c (atM state t)) ∧ Own intEnc 1 w' base 3 (.slice A (whichL l t).length c) (whichL l t) ∧ w.heap.size ≤ base ∧ Below w.heap.size w w'

set_option maxRecDepth 100000 in
set_option maxHeartbeats 4000000 in
theorem warpAt_any (A B : Option Addr) (c d : Nat) (state l : List PieceD) (t : Int) (w : World) (hA : PiecesAt w A c state) (hB : PiecesAt w B d l) (hl : l.length ≤ 1000) :
    Calls Try.prog 116 #[.slice A state.length c, .slice B l.length d, .int .i64 t] w (AtOut state l t w) := by
  obtain ⟨i0, hi, hz0, hz1, hz2⟩ := info_int2
  have m1 := hA.len
  have m2 := hB.len
  have HA := Lib.hid hA; have HB := Lib.hid hB
  clear hA hB
  go_enter Try.func116, Try.ntmps116
  go_wp2_with fail
  obtain ⟨w0, hw0⟩ : ∃ w0, w0 = ((w.alloc (Obj.cells #[.slice none 0 0, .int .i64 0, .bool false] 163)).alloc (Obj.cells #[.slice none 0 0, .int .i64 0, .bool false] 163)) := ⟨_, rfl⟩
  have hb0 : Below w.heap.size w w0 := by rw [hw0]; go_grown
  have Br : Blk w0 w.heap.size 163 #[.slice none 0 0, .int .i64 0, .bool false] := by rw [hw0]; exact (Blk.new _ _ _).alloc _
  have Bm : Blk w0 (w.heap.size + 1) 163 #[.slice none 0 0, .int .i64 0, .bool false] := by rw [hw0]; exact Blk.new_ (by simp)
  have hz0w : w.heap.size + 2 = w0.heap.size := by rw [hw0]; simp
  rw [← hw0]
  clear hw0
  go_loopw [12] (fun x wr => ∃ (k : Nat) (v' : Value), k ≤ l.length ∧ x = .int .i64 k ∧ Blk wr (w.heap.size + 1) 163 #[v', .int .i64 0, .bool false] ∧ Own intEnc 1 wr w0.heap.size 3 v' (whichK l t k) ∧ Below (w.heap.size + 1) w0 wr ∧ w0.heap.size ≤ wr.heap.size) (fun x _ => l.length - (intOf x).toNat)
  case atStart => exact ⟨0, _, Nat.zero_le _, rfl, Bm, Own.nil, Below.refl _ _, Nat.le_refl _⟩
  case round =>
    clear Bm
    obtain ⟨k, v', hk, rfl, Bm, hO, hb, hzr⟩ := hrel
    have Br := Br.below hb (by omega)
    have hbw : Below w.heap.size w wr := hb0.trans (hb.mono (by omega))
    by_cases hlt : k < l.length
    case neg =>
      obtain rfl : k = l.length := by omega
      obtain ⟨Aw, cw, rfl⟩ := hO.form
      have HIW : Hid (Own intEnc 1 wr w0.heap.size 3 (.slice Aw (whichL l t).length cw) (whichL l t)) := Lib.hid hO
      have hAt := imapAt_any A c state t wr (HA.out.ext hbw)
      obtain ⟨N, hN⟩ : ∃ N, (whichK l t l.length).length = N := ⟨_, rfl⟩
      have HN : Hid ((whichL l t).length = N) := Lib.hid hN
      rw [hN] at Bm
      clear hO hN
      go_wp2_with fail
      refine hAt.mono ?_
      rintro e w1 ⟨rfl, hb1⟩
      have Bm1 := Bm.ext hb1
      have Br1 := Br.ext hb1
      obtain ⟨f1, f2, f3⟩ := Bm1.facts
      obtain ⟨g1, g2, g3⟩ := Br1.facts
      have HIW := Lib.hid (HIW.out.ext hb1)
      have hbw1 := ext_trans hbw hb1
      clear hAt Br Bm hb hbw hb1
      unfold atV
      obtain ⟨sv, hsv⟩ : ∃ x, (atM state t).getD 0 = x := ⟨_, rfl⟩
      obtain ⟨sb, hsb⟩ : ∃ x, (atM state t).isSome = x := ⟨_, rfl⟩
      rw [hsv, hsb]
      have HV := Lib.hid (And.intro hsv hsb)
      clear hsv hsb
      go_wp2_with fail
      have hne : w.heap.size ≠ w.heap.size + 1 := by omega
      have BR := (((((Br1.far (p := ⟨w.heap.size + 1, 1, none⟩) hne (.int .i64 sv)).far (p := ⟨w.heap.size + 1, 2, none⟩) hne (.bool sb)).set_ 0 (.slice Aw N cw)).set_ 1 (.int .i64 sv)).set_ 2 (.bool sb))
      refine bodyPost_ret (v := momV Aw N cw (atM state t)) ?_ rfl ?_
      · rw [show momV Aw N cw (atM state t) = .agg (((#[Value.slice none 0 0, .int .i64 0, .bool false].setIfInBounds 0 (.slice Aw N cw)).setIfInBounds 1 (.int .i64 sv)).setIfInBounds 2 (.bool sb)) from by unfold momV momC; rw [HV.out.1, HV.out.2]; rfl]
        exact results_cellS rfl _ _ _ w.heap.size 163 _ rfl BR Try.underlying163 (by simpa using info_moment)
      · refine ⟨Aw, cw, w0.heap.size, by rw [HN.out], ?_, by omega, ?_⟩
        · have b1 := Bm1.set_ 1 (.int .i64 sv)
          have b2 := b1.set_ 2 (.bool sb)
          have r2 := (Br1.far (p := ⟨w.heap.size + 1, 1, none⟩) hne (.int .i64 sv)).far (p := ⟨w.heap.size + 1, 2, none⟩) hne (.bool sb)
          have r3 := r2.set_ 0 (.slice Aw N cw)
          have r4 := r3.set_ 1 (.int .i64 sv)
          exact ((((HIW.out.set_far Bm1 (by decide) _ _).set_far b1 (by decide) _ _).set_far r2 (by decide) _ _).set_far r3 (by decide) _ _).set_far r4 (by decide) _ _
        · exact ((((hbw1.setCell (by simp) _).setCell (by simp) _).setCell (by simp) _).setCell (by simp) _).setCell (by simp) _
    case pos =>
      obtain ⟨x, hx⟩ := get_lt hlt
      obtain ⟨b, off, rfl, hb0', x0, x1, x2⟩ := (HB.out.ext hbw).get hx
      have HX := Lib.hid hx
      have hcl : (whichK l t k).length + 1 ≤ 1000000 := by have := which_len (l := l) (t := t) (n := k); omega
      clear hx
      by_cases h1 : x.f ≤ t
      case neg =>
        have hd1 : decide (x.f ≤ t) = false := by simpa using h1
        have HN : Hid (whichK l t (k + 1) = whichK l t k) := Lib.hid (by rw [whichK_succ HX.out, show inP x t = false by simp [inP]; omega]; simp)
        clear h1
        go_wp2_with fail
        go_roundw
        case rel => exact ⟨k + 1, v', by omega, by go_num, Bm.alloc _, by rw [HN.out]; exact hO.alloc _, hb.alloc (by omega) _, by simp; omega⟩
        case measure => simp [intOf]; omega
      case pos =>
      have hd1 : decide (x.f ≤ t) = true := by simpa using h1
      by_cases h2 : t < x.t
      case neg =>
        have hd2 : decide (t < x.t) = false := by simpa using h2
        have HN : Hid (whichK l t (k + 1) = whichK l t k) := Lib.hid (by rw [whichK_succ HX.out, show inP x t = false by simp [inP]; omega]; simp)
        clear h1 h2
        go_wp2_with fail
        go_roundw
        case rel => exact ⟨k + 1, v', by omega, by go_num, Bm.alloc _, by rw [HN.out]; exact hO.alloc _, hb.alloc (by omega) _, by simp; omega⟩
        case measure => simp [intOf]; omega
      case pos =>
        have hd2 : decide (t < x.t) = true := by simpa using h2
        have HN : Hid (whichK l t (k + 1) = whichK l t k ++ [(k : Int)]) := Lib.hid (by rw [whichK_succ HX.out, show inP x t = true by simp [inP]; omega]; simp)
        obtain ⟨acc, hacc⟩ : ∃ acc, acc = whichK l t k := ⟨_, rfl⟩
        have HACC := Lib.hid hacc
        rw [← hacc] at hO hcl
        have Bma := Bm.alloc (Obj.cells #[.int .i64 x.f, .int .i64 x.t, .int .i64 x.v] 114)
        obtain ⟨f1, f2, f3⟩ := Bma.facts
        clear h1 h2 hacc
        go_wp2_with (at_builtin; refine wpList_append_lie (enc := intEnc) rfl (.tmp 28) (.tmp 30) 66 rfl w0.heap.size 3 i0 _ 1 8 Try.underlying66 hi hz0 hz1 hz2 rfl (by decide) v' acc (k : Int) rfl (hO.alloc _) #[.int .i64 k] rfl (wr.heap.size + 1) (by simp) rfl rfl int_one1 hcl (by decide) (by simp; omega) ?_; intro gn cap w6 hown6 hb8 hkp hgn; have Bm6 := hkp _ _ _ Bma ((hO.alloc _).other Bma (by decide)); obtain ⟨e1, e2, e3⟩ := Bm6.facts)
        go_roundw
        case rel =>
          have hb9 : Below (w.heap.size + 1) w0 w6 := (hb.alloc (by omega) _).trans (hb8.mono (by omega))
          have hz9 := hb8.size
          exact ⟨k + 1, .slice (some ⟨gn, 0, none⟩) (acc.length + 1) cap, by omega, by go_num, Bm6.set_ 0 _, by rw [HN.out, ← HACC.out]; exact hown6.set_far Bm6 (by decide) _ _, hb9.setCell (Nat.le_refl _) _, by simp at hz9 ⊢; omega⟩
        case measure => simp [intOf]; omega
end Go.Proofs.Ytdpibehpmghghaa
/- The walk of a moment's value. -/
namespace Go.Proofs.Ytdpibehpmghghaa
open Go.RowKit Go.Shelf

theorem valF_snoc {l : List PieceD} {k i : Int} : ∀ {is : List Int} {v : Int}, valF l k v (is ++ [i]) = both3 k (valF l k v is) (vAt l i)
  | [], _ => rfl
  | _ :: is, _ => valF_snoc (is := is)
theorem vAt_of {l : List PieceD} {j : Nat} {x : PieceD} (hx : l[j]? = some x) : vAt l j = x.v := by unfold vAt; rw [Int.toNat_natCast, hx]; rfl
theorem valF_bound {l : List PieceD} {k : Int} (hm : MsgOk l) (hk : 1 ≤ k ∧ k ≤ 3) : ∀ (is : List Int) (v A : Int), (∀ i, i ∈ is → 0 ≤ i ∧ i < l.length) → (-A ≤ v ∧ v ≤ A) → 0 ≤ A → -(A + is.length * 1000000000) ≤ valF l k v is ∧ valF l k v is ≤ A + is.length * 1000000000
  | [], v, A, _, hv, _ => by simp only [valF, List.length_nil]; omega
  | i :: is, v, A, hi, hv, hA => by
    have h0 := hi i (by simp)
    obtain ⟨x, hx⟩ := get_lt (show i.toNat < l.length by omega)
    have hx2 : vAt l i = x.v := by unfold vAt; rw [hx]; rfl
    have hb := both_bound hk hv hA (hm x (List.mem_of_getElem? hx)).1.2.2
    rw [← hx2] at hb
    have ih := valF_bound hm hk is (both3 k v (vAt l i)) (A + 1000000000) (fun j hj => hi j (List.mem_cons_of_mem _ hj)) hb (by omega)
    simp only [valF, List.length_cons]
    omega
set_option maxHeartbeats 1000000 in
theorem togetherBig_any (a b k : Int) (hk : 1 ≤ k ∧ k ≤ 3) (h1 : -1000000000000 ≤ a) (h1' : a ≤ 1000000000000) (hb : nearB b = true) (w : World) : Calls Try.prog 45 #[.int .i64 a, .int .i64 b, .int .i64 k] w fun e w' => e = .returned (.int .i64 (both3 k a b)) ∧ w = w' := by
  have h2 := near_iff.1 hb
  have hs : IntKind.i64.wrap (a + b) = a + b := IntWalk.i64_in _ (by omega)
  have hk3 : k = 1 ∨ k = 2 ∨ k = 3 := by omega
  clear hb hk
  have HR1 : both3 1 a b = min a b := by unfold both3; rw [if_neg (by decide), if_pos rfl]
  have HR2 : both3 2 a b = max a b := by unfold both3; rw [if_neg (by decide), if_neg (by decide)]
  have HR3 : both3 3 a b = a + b := by unfold both3; rw [if_pos rfl]
  have K1 := Lib.hid HR1.symm; have K2 := Lib.hid HR2.symm; have K3 := Lib.hid HR3.symm
  clear HR1 HR2 HR3 h1 h1' h2
  rcases hk3 with rfl | rfl | rfl
  all_goals
    go_enter Try.func45, Try.ntmps45
    go_wp2_with fail
    go_ret
    first
    | exact ⟨ret_int K1.out, rfl⟩
    | exact ⟨ret_int K2.out, rfl⟩
    | exact ⟨ret_int K3.out, rfl⟩

set_option maxRecDepth 100000 in
set_option maxHeartbeats 4000000 in
theorem warpValue_any (A B : Option Addr) (c d n : Nat) (o : Option Int) (wh : List Int) (l : List PieceD) (how : Int) (w : World) (hA : IntsAt w A c wh) (hn : wh.length = n) (h0 : wh ≠ []) (hi : ∀ i, i ∈ wh → 0 ≤ i ∧ i < l.length) (hB : PiecesAt w B d l) (hm : MsgOk l) (hl : l.length ≤ 200) (hwl : wh.length ≤ 200) (hk : 1 ≤ how ∧ how ≤ 3) :
    Calls Try.prog 118 #[momV A n c o, .slice B l.length d, .int .i64 how] w fun e w' => e = .returned (.int .i64 (valOf l how wh)) ∧ Below w.heap.size w w' := by
  have m2 := hB.len
  obtain ⟨i, is, rfl⟩ : ∃ i is, wh = i :: is := by
    cases wh with
    | nil => exact absurd rfl h0
    | cons i is => exact ⟨i, is, rfl⟩
  obtain ⟨j, rfl⟩ : ∃ j : Nat, i = j := ⟨i.toNat, by have := hi i (by simp); omega⟩
  have hjl : j < l.length := by have := hi j (by simp); omega
  obtain ⟨x, hx⟩ := get_lt hjl
  have hnn : n = is.length + 1 := by rw [← hn]; simp
  have hnc : is.length + 1 ≤ c := by have := hA.lc; simpa using this
  subst hnn
  have hcm : c ≤ 9223372036854775807 := hA.cm
  have HB := Lib.hid hB; have HA := Lib.hid hA; have HI := Lib.hid hi; have HM := Lib.hid hm; have HK := Lib.hid hk; have HL := Lib.hid hl
  have HV : Hid (valOf l how ((j : Int) :: is) = valF l how x.v is) := Lib.hid (by show valF l how (vAt l j) is = _; rw [vAt_of hx])
  have HXN := Lib.hid (hm x (List.mem_of_getElem? hx)).1.2.2
  have HWL : Hid (is.length ≤ 200) := Lib.hid (by simp at hwl; omega)
  obtain ⟨b, off, rfl, hb0, x0⟩ := hA.get (k := 0) (x := (j : Int)) rfl
  obtain ⟨b2, off2, rfl, hb2, y0, y1, y2⟩ := hB.get hx
  rw [Nat.add_zero] at x0
  have X0 : ∀ ob : Obj, (w.alloc ob).cell? ⟨b, off, none⟩ = some (.int .i64 j) := fun ob => ((ext_alloc (Below.refl _ w) ob).cell (p := ⟨b, off, none⟩) hb0).trans x0
  have Y2 : ∀ ob : Obj, (w.alloc ob).cell? ⟨b2, off2 + j * 3 + 2, none⟩ = some (.int .i64 x.v) := fun ob => ((ext_alloc (Below.refl _ w) ob).cell (p := ⟨b2, off2 + j * 3 + 2, none⟩) hb2).trans y2
  have hn1 : 1 ≤ is.length + 1 := by omega
  rw [HV.out]
  clear hA hB hi hm hk hx hn h0 x0 y0 y1 y2 hl hwl HV
  unfold momV momC
  by_cases hc1 : c = 1
  case pos =>
    obtain rfl : is = [] := List.eq_nil_of_length_eq_zero (by omega)
    subst hc1
    go_enter Try.func118, Try.ntmps118
    go_wp2_with fail
    go_loopw [7, 22] (fun a y wr => y = .int .i64 0 ∧ a = .int .i64 x.v ∧ Below w.heap.size w wr) (fun _ _ _ => 0)
    case atStart => exact ⟨rfl, rfl, by go_grown⟩
    case round =>
      obtain ⟨rfl, rfl, hb⟩ := hrel
      go_wp2_with fail
      go_ret
      exact ⟨rfl, hb⟩
  case neg =>
    have hcc : 1 < c := by omega
    go_enter Try.func118, Try.ntmps118
    go_wp2_with fail
    go_loopw [7, 22] (fun a y wr => ∃ k : Nat, k ≤ is.length ∧ y = .int .i64 k ∧ a = .int .i64 (valF l how x.v (is.take k)) ∧ Below w.heap.size w wr) (fun _ y _ => is.length - (intOf y).toNat)
    case atStart => exact ⟨0, Nat.zero_le _, rfl, rfl, by go_grown⟩
    case round =>
      clear X0 Y2
      obtain ⟨k, hk, rfl, rfl, hb⟩ := hrel
      by_cases hlt : k < is.length
      case neg =>
        obtain rfl : k = is.length := by omega
        rw [List.take_length]
        go_wp2_with fail
        go_ret
        exact ⟨rfl, hb⟩
      case pos =>
        obtain ⟨i2, hi2⟩ := get_lt hlt
        obtain ⟨j2, rfl⟩ : ∃ j2 : Nat, i2 = j2 := ⟨i2.toNat, by have := HI.out i2 (List.mem_cons_of_mem _ (List.mem_of_getElem? hi2)); omega⟩
        have hj2 : j2 < l.length := by have := HI.out j2 (List.mem_cons_of_mem _ (List.mem_of_getElem? hi2)); omega
        obtain ⟨z, hz⟩ := get_lt hj2
        obtain ⟨b', off', e', _, u0⟩ := HA.out.get (k := k + 1) (x := (j2 : Int)) (by rw [List.getElem?_cons_succ]; exact hi2)
        obtain ⟨rfl, rfl⟩ : b = b' ∧ off = off' := by simpa using e'
        obtain ⟨b3, off3, e3, _, v0, v1, v2⟩ := HB.out.get hz
        obtain ⟨rfl, rfl⟩ : b2 = b3 ∧ off2 = off3 := by simpa using e3
        have u0 : wr.cell? ⟨b, off + 1 + k, none⟩ = some (.int .i64 j2) := by rw [show off + 1 + k = off + (k + 1) by omega]; exact (hb.cell (p := ⟨b, off + (k + 1), none⟩) hb0).trans u0
        have v2 : wr.cell? ⟨b2, off2 + j2 * 3 + 2, none⟩ = some (.int .i64 z.v) := (hb.cell (p := ⟨b2, off2 + j2 * 3 + 2, none⟩) hb2).trans v2
        have HN : Hid (is.take (k + 1) = is.take k ++ [(j2 : Int)]) := Lib.hid (by rw [List.take_add_one, hi2]; rfl)
        have HS : Hid (valF l how x.v (is.take (k + 1)) = both3 how (valF l how x.v (is.take k)) z.v) := Lib.hid (by rw [HN.out, valF_snoc, vAt_of hz])
        have hbd := valF_bound HM.out HK.out (is.take k) x.v 1000000000 (fun i hi => HI.out i (List.mem_cons_of_mem _ (List.mem_of_mem_take hi))) (by have := near_iff.1 HXN.out; omega) (by omega)
        have hlk : (is.take k).length ≤ 200 := by rw [List.length_take]; have := HWL.out; omega
        obtain ⟨a1, ha1⟩ : ∃ a1, valF l how x.v (is.take k) = a1 := ⟨_, rfl⟩
        rw [ha1] at hbd HS ⊢
        have hT := togetherBig_any a1 z.v how HK.out (by omega) (by omega) (HM.out z (List.mem_of_getElem? hz)).1.2.2
        have hk9 : (k : Int) + 1 < (c : Int) := by omega
        clear hi2 hz e' e3 v0 v1 hbd hlk ha1
        go_wp2_with fail
        refine (hT _).mono ?_
        rintro e w5 ⟨rfl, rfl⟩
        go_wp2_with fail
        go_roundw
        case rel => exact ⟨k + 1, by omega, by go_num, by rw [HS.out], hb⟩
        case measure => simp [intOf]; omega
end Go.Proofs.Ytdpibehpmghghaa
