/- One text: MapPut. -/
import Derived.Test.YtjcimdpldlamfaaGreatDoorBd0c5f6043f6
/- The walk of imap.Put. -/
namespace Go.Proofs.YtjcimdpldlamfaaGreatDoor
open Go.RowKit Go.Shelf

/-- What one map tells, else another one. -/
def elseO (x y : Option Int) : Option Int := match x with | some v => some v | none => y
def oneL (p : PieceD) : List PieceD := if p.t ≤ p.f then [] else [p]
theorem oneL_put (p : PieceD) (m : List PieceD) (t : Int) : elseO (atM (oneL p) t) (atM m t) = putM m p t := by
 unfold oneL putM
 by_cases h : p.t ≤ p.f
 ·rw [if_pos h, if_neg (by omega)]; rfl
 ·rw [if_neg h]
  by_cases h2 : p.f ≤ t ∧ t < p.t
  ·rw [if_pos h2, at_hit h2]; rfl
  ·rw [if_neg h2, at_miss h2]; rfl
/-- A list of one piece, in a block of its own. -/
theorem one_at {W : World} {b : Nat} {p : PieceD} (h : Blk W b 113 #[.int .i64 p.f, .int .i64 p.t, .int .i64 p.v]) (h1 : I64 p.f) (h2 : I64 p.t) (h3 : I64 p.v) : PiecesAt W (some ⟨b, 0, none⟩) 1 [p] := by
 refine ⟨Nat.le_refl _, by decide, b, 0, fun k x hx => ?_⟩
 obtain ⟨rfl, rfl⟩ : k = 0 ∧ x = p := by
  match k, hx with
  | 0, hx => exact ⟨rfl, by simpa using hx.symm⟩
  | k + 1, hx => simp at hx
 exact ⟨rfl, h.lt, ⟨h.cell 0, h.cell 1, h.cell 2⟩, h1, h2, h3⟩
theorem EachSay.tells {fn : Int → Option Int} {er : Int} {out : List PieceD} (h : EachSay fn er out) (hv : ∀ t v, fn t = some v → nearB v = true) : Tells fn er out := by
 obtain ⟨U, h1, h2, h3, h4⟩ := h
 by_cases hl : 200 < U.length
 ·rw [if_pos hl] at h3 h4
  exact ⟨U, h1, h2, by rw [h3, tellErr_large hv hl], fun h => by omega, fun _ => h4⟩
 ·rw [if_neg hl] at h3 h4
  exact ⟨U, h1, h2, by rw [h3, tellErr_ok hv hl], fun _ => h4, fun h => absurd h3 h⟩
theorem put_vals {m : List PieceD} {p : PieceD} {t v : Int} (h0 : mapErr m = 0) (hp : nearB p.v = true) (h : putM m p t = some v) : nearB v = true := by
 unfold putM at h
 split at h
 ·obtain rfl : p.v = v := by simpa using h
  exact hp
 ·exact (mapErr_zero h0).2.vals h
theorem enters_put1 : Enters Tryz.prog 172 := enters_of Tryz.func172 (by kernel_rfl) rfl
set_option maxHeartbeats 2000000 in
theorem put1_any (A B : Option Addr) (c d ba bb : Nat) (one m : List PieceD) (t : Int) (W : World) (hca : W.cell? ⟨ba, 0, none⟩ = some (.slice A one.length c)) (hcb : W.cell? ⟨bb, 0, none⟩ = some (.slice B m.length d)) (hA : PiecesAt W A c one) (hB : PiecesAt W B d m) :
  Calls Tryz.prog 172 #[.int .i64 t, .pointer (some ⟨ba, 0, none⟩), .pointer (some ⟨bb, 0, none⟩)] W fun e w' => e = .returned (atV (elseO (atM one t) (atM m t))) ∧ Below W.heap.size W w' := by
 have hlb : bb < W.heap.size := World.block_lt_of_cell? W _ hcb
 have hc1 := imapAt_any A c one t W hA
 have HB := Lib.hid hB
 clear hA hB
 cases hq : atM one t with
 | some y =>
  rw [hq] at hc1
  unfold atV at hc1
  simp only [Option.getD_some, Option.isSome_some] at hc1
  clear hq
  go_enter Tryz.func172, Tryz.ntmps172
  go_wp2_with fail
  refine hc1.mono ?_
  rintro e w1 ⟨rfl, hb1⟩
  clear hc1
  go_wp2_with fail
  refine bodyPost_ret (v := .tuple #[.int .i64 y, .bool true]) (by simp [results, Tryz.results172]) rfl ?_
  exact ⟨rfl, hb1⟩
 | none =>
  rw [hq] at hc1
  unfold atV at hc1
  simp only [Option.getD_none, Option.isSome_none] at hc1
  clear hq
  go_enter Tryz.func172, Tryz.ntmps172
  go_wp2_with fail
  refine hc1.mono ?_
  rintro e w1 ⟨rfl, hb1⟩
  have hcb1 := (hb1.cell (p := ⟨bb, 0, none⟩) hlb).trans hcb
  clear hc1
  go_wp2_with fail
  refine (imapAt_any B d m t w1 (HB.out.ext hb1)).mono ?_
  rintro e w2 ⟨rfl, hb2⟩
  unfold atV
  go_wp2_with fail
  refine bodyPost_ret (v := .tuple #[.int .i64 ((atM m t).getD 0), .bool (atM m t).isSome]) (by simp [results, Tryz.results172]) rfl ?_
  exact ⟨rfl, ext_trans hb1 hb2⟩

set_option maxRecDepth 100000 in
set_option maxHeartbeats 8000000 in
theorem imapPut_any (A : Option Addr) (c : Nat) (m : List PieceD) (p : PieceD) (w : World) (hI : PiecesAt w A c m) : Calls Tryz.prog 164 #[.slice A m.length c, pieceV p] w (MapOut (PutSay m p) w) := by
 have m1 := hI.len
 have HI := Lib.hid hI
 clear hI
 have hmf : ∀ (fn : Fn) (first cap : Array Value) (w : World), (Instr.makeFunc fn first cap).run Tryz.prog w = .ok (.func fn first cap) w := fun _ _ _ _ => rfl
 have hent := enters_put1
 unfold Enters at hent
 go_enter Tryz.func164, Tryz.ntmps164
 go_wp2_with fail
 obtain ⟨w0, hw0⟩ : ∃ w0, w0 = ((w.alloc (Obj.cells #[.slice A m.length c] 111)).alloc (Obj.cells #[.int .i64 p.f, .int .i64 p.t, .int .i64 p.v] 113)) := ⟨_, rfl⟩
 have hb0 : Below w.heap.size w w0 := by rw [hw0]; go_grown
 have Bm : Blk w0 w.heap.size 111 #[.slice A m.length c] := by rw [hw0]; exact (Blk.new _ _ _).alloc _
 have Bp : Blk w0 (w.heap.size + 1) 113 #[.int .i64 p.f, .int .i64 p.t, .int .i64 p.v] := by rw [hw0]; exact Blk.new_ (by simp)
 rw [← hw0]
 clear hw0
 refine (imapCheck_any A c m w0 (HI.out.ext hb0)).mono ?_
 rintro e w1 ⟨rfl, hb1⟩
 have Bm := Bm.ext hb1
 have Bp := Bp.ext hb1
 have hb1 := ext_trans hb0 hb1
 have hI := HI.out.ext hb1
 clear hb0
 by_cases h0 : mapErr m = 0
 case neg =>
  have hd : (mapErr m != 0) = true := by simpa using h0
  have HS : Hid (PutSay m p (mapErr m) []) := Lib.hid (by unfold PutSay; rw [if_neg h0]; exact ⟨rfl, rfl⟩)
  clear h0
  go_wp2_with fail
  refine bodyPost_ret (v := .tuple #[.slice none 0 0, .int .i64 (mapErr m)]) (by simp [results, Tryz.results164]) rfl ?_
  exact ⟨_, [], none, 0, HS, rfl, .nil, hb1⟩
 rw [h0]
 have HO := Lib.hid (mapErr_zero h0)
 have H0 := Lib.hid h0
 clear h0
 obtain ⟨p1, p2, p3⟩ := Bp.facts
 have hbad : ∀ (h : ¬ (nearB p.f = true ∧ nearB p.t = true ∧ nearB p.v = true)), Hid (PutSay m p 5 []) := fun h => Lib.hid (by unfold PutSay; rw [if_pos H0.out, if_neg h]; exact ⟨rfl, rfl⟩)
 cases f1 : farB p.f
 case true =>
  have HS := hbad fun h => by rw [far_on f1] at h; simp at h
  clear hbad
  go_wp2_with (first | (go_at_call 169; refine (far2_is (by assumption) _).mono ?_; rintro e w' ⟨rfl, rfl⟩))
  refine bodyPost_ret (v := .tuple #[.slice none 0 0, .int .i64 5]) (by simp [results, Tryz.results164]) rfl ?_
  exact ⟨_, [], none, 0, HS, rfl, .nil, hb1⟩
 cases f2 : farB p.t
 case true =>
  have HS := hbad fun h => by rw [far_on f2] at h; simp at h
  clear hbad
  go_wp2_with (first | (go_at_call 169; refine (far2_is (by assumption) _).mono ?_; rintro e w' ⟨rfl, rfl⟩))
  refine bodyPost_ret (v := .tuple #[.slice none 0 0, .int .i64 5]) (by simp [results, Tryz.results164]) rfl ?_
  exact ⟨_, [], none, 0, HS, rfl, .nil, hb1⟩
 cases f3 : farB p.v
 case true =>
  have HS := hbad fun h => by rw [far_on f3] at h; simp at h
  clear hbad
  go_wp2_with (first | (go_at_call 169; refine (far2_is (by assumption) _).mono ?_; rintro e w' ⟨rfl, rfl⟩))
  refine bodyPost_ret (v := .tuple #[.slice none 0 0, .int .i64 5]) (by simp [results, Tryz.results164]) rfl ?_
  exact ⟨_, [], none, 0, HS, rfl, .nil, hb1⟩
 clear hbad
 have HN : Hid (nearB p.f = true ∧ nearB p.t = true ∧ nearB p.v = true) := Lib.hid ⟨far_off f1, far_off f2, far_off f3⟩
 have key : ∀ v1 : Value, Hid (Blk (((w1.alloc (Obj.cells #[.int .i64 p.f, .int .i64 p.t, .int .i64 p.v] 113)).alloc (Obj.cells #[v1] 111))) w.heap.size 111 #[.slice A m.length c] ∧ Blk (((w1.alloc (Obj.cells #[.int .i64 p.f, .int .i64 p.t, .int .i64 p.v] 113)).alloc (Obj.cells #[v1] 111))) (w.heap.size + 1) 113 #[.int .i64 p.f, .int .i64 p.t, .int .i64 p.v] ∧ Blk (((w1.alloc (Obj.cells #[.int .i64 p.f, .int .i64 p.t, .int .i64 p.v] 113)).alloc (Obj.cells #[v1] 111))) w1.heap.size 113 #[.int .i64 p.f, .int .i64 p.t, .int .i64 p.v] ∧ Blk (((w1.alloc (Obj.cells #[.int .i64 p.f, .int .i64 p.t, .int .i64 p.v] 113)).alloc (Obj.cells #[v1] 111))) (w1.heap.size + 1) 111 #[v1] ∧ Below w.heap.size w ((w1.alloc (Obj.cells #[.int .i64 p.f, .int .i64 p.t, .int .i64 p.v] 113)).alloc (Obj.cells #[v1] 111))) := fun v1 => by
  refine Lib.hid ⟨(Bm.alloc _).alloc _, (Bp.alloc _).alloc _, (Blk.new _ _ _).alloc _, Blk.new_ (by simp), ext_alloc (ext_alloc hb1 _) _⟩
 obtain ⟨t1, t2, -, t4, -⟩ := (key (.slice (some ⟨w1.heap.size, 0, none⟩) 1 1)).out
 obtain ⟨q1, q2, q3⟩ := t2.facts
 obtain ⟨r1, r2, r3⟩ := t4.facts
 obtain ⟨s1, s2, s3⟩ := t1.facts
 clear t1 t2 t4 Bm Bp hI
 by_cases g : p.t ≤ p.f
 case pos =>
  have hd : decide (p.t ≤ p.f) = true := by simpa using g
  have HG : Hid (oneL p = []) := Lib.hid (by unfold oneL; rw [if_pos g])
  have hK := key (.slice none 0 0)
  obtain ⟨u1, -, -, u4, -⟩ := hK.out
  obtain ⟨x1, x2, x3⟩ := u1.facts
  obtain ⟨y1, y2, y3⟩ := u4.facts
  clear u1 u4
  obtain ⟨W, hW⟩ : ∃ W, W = (w1.alloc (Obj.cells #[.int .i64 p.f, .int .i64 p.t, .int .i64 p.v] 113)).alloc (Obj.cells #[.slice none 0 0] 111) := ⟨_, rfl⟩
  have hWs : w1.heap.size + 1 + 1 = W.heap.size := by rw [hW]; simp
  have HWS := Lib.hid hWs
  obtain ⟨K1, -, K3, K4, K5⟩ := hK.out
  rw [← hW] at K1 K3 K4 K5
  have HW := Lib.hid hW
  clear hK hW hWs
  have hI := HI.out.ext K5
  have hO : PiecesAt W none 0 [] := PiecesAt.nil
  have B5 := Blk.new W 111 #[.slice A m.length c, .slice none 0 0]
  have K1 := K1.alloc (Obj.cells #[.slice A m.length c, .slice none 0 0] 111)
  have K4 := K4.alloc (Obj.cells #[.slice A m.length c, .slice none 0 0] 111)
  have K5 := ext_alloc K5 (Obj.cells #[.slice A m.length c, .slice none 0 0] 111)
  have hI := hI.ext (ext_alloc (Below.refl _ W) (Obj.cells #[.slice A m.length c, .slice none 0 0] 111))
  have hO := hO.ext (ext_alloc (Below.refl _ W) (Obj.cells #[.slice A m.length c, .slice none 0 0] 111))
  have hE := edges_any W.heap.size A none c 0 m [] _ B5 hI hO (by have := HO.out.1; omega) (by simp)
  obtain ⟨c1, c2, c3⟩ := K1.facts
  obtain ⟨e1, e2, e3⟩ := K4.facts
  rw [← HWS.out] at hE
  go_wp2_with (first | (go_at_call 169; refine (far2_is (by assumption) _).mono ?_; rintro e w' ⟨rfl, rfl⟩))
  rw [← HW.out]
  refine hE.mono ?_
  rintro e w3 ⟨A3, c3, D, HD, rfl, hI3, hb3⟩
  have K1 := K1.ext hb3
  have K4 := K4.ext hb3
  have K5 := ext_trans K5 hb3
  have hI := hI.ext hb3
  have hO := hO.ext hb3
  clear hE c1 c2 e1 e2 e3
  have hDl : D.length ≤ 10000 := by
   have h1 := HD.out.2.2
   rw [List.length_append, endsP_len, endsP_len] at h1
   have h2 := HO.out.1
   simp only [List.length_nil] at h1
   omega
  have hT := each_any 172 #[.pointer (some ⟨w1.heap.size + 1, 0, none⟩), .pointer (some ⟨w.heap.size, 0, none⟩)] (putM m p) hent A3 c3 D w3 hI3 hDl HD.out.1
   (by
    have h1 := (endsP_turns (l := []) HD.out.1 HD.out.2.1 fun _ h => List.mem_append_right _ h).map2 elseO (nc := none) rfl (endsP_turns (l := m) HD.out.1 HD.out.2.1 fun _ h => List.mem_append_left _ h)
    have h2 : (fun t => elseO (atM [] t) (atM m t)) = putM m p := funext fun t => by rw [← HG.out]; exact oneL_put p m t
    rwa [h2] at h1)
   (fun t v hv => near_i64 (put_vals H0.out HN.out.2.2 hv))
   (fun W' x hb => by
    have h1 := put1_any none A 0 c (w1.heap.size + 1) w.heap.size [] m x W' ((K4.ext hb).cell 0) ((K1.ext hb).cell 0) (hO.ext hb) (hI.ext hb)
    rwa [show elseO (atM [] x) (atM m x) = putM m p x by rw [← HG.out]; exact oneL_put p m x] at h1)
  have HPS := Lib.hid fun er out (h : EachSay (putM m p) er out) => show PutSay m p er out by
   unfold PutSay
   rw [if_pos H0.out, if_pos HN.out]
   exact h.tells fun t v hv => put_vals H0.out HN.out.2.2 hv
  clear hDl hI hO hb3
  go_wp2_with fail
  refine hT.mono ?_
  rintro e w4 ⟨er, out, A4, c4, HR, rfl, hI4, hb4⟩
  clear hT
  go_wp2_with fail
  refine bodyPost_ret (v := .tuple #[.slice A4 out.length c4, .int .i64 er]) (by simp [results, Tryz.results164]) rfl ?_
  exact ⟨er, out, A4, c4, Lib.hid (HPS.out er out HR.out), rfl, hI4.since K5.size, ext_trans K5 hb4⟩
 case neg =>
  have hd : decide (p.t ≤ p.f) = false := by simp; omega
  have HG : Hid (oneL p = [p]) := Lib.hid (by unfold oneL; rw [if_neg g])
  have hK := key (.slice (some ⟨w1.heap.size, 0, none⟩) 1 1)
  skip
  obtain ⟨W, hW⟩ : ∃ W, W = (w1.alloc (Obj.cells #[.int .i64 p.f, .int .i64 p.t, .int .i64 p.v] 113)).alloc (Obj.cells #[.slice (some ⟨w1.heap.size, 0, none⟩) 1 1] 111) := ⟨_, rfl⟩
  have hWs : w1.heap.size + 1 + 1 = W.heap.size := by rw [hW]; simp
  have HWS := Lib.hid hWs
  obtain ⟨K1, -, K3, K4, K5⟩ := hK.out
  rw [← hW] at K1 K3 K4 K5
  have HW := Lib.hid hW
  clear hK hW hWs
  have hI := HI.out.ext K5
  have hO : PiecesAt W (some ⟨w1.heap.size, 0, none⟩) 1 [p] := one_at K3 (near_i64 HN.out.1) (near_i64 HN.out.2.1) (near_i64 HN.out.2.2)
  have B5 := Blk.new W 111 #[.slice A m.length c, .slice (some ⟨w1.heap.size, 0, none⟩) 1 1]
  have K1 := K1.alloc (Obj.cells #[.slice A m.length c, .slice (some ⟨w1.heap.size, 0, none⟩) 1 1] 111)
  have K4 := K4.alloc (Obj.cells #[.slice A m.length c, .slice (some ⟨w1.heap.size, 0, none⟩) 1 1] 111)
  have K5 := ext_alloc K5 (Obj.cells #[.slice A m.length c, .slice (some ⟨w1.heap.size, 0, none⟩) 1 1] 111)
  have hI := hI.ext (ext_alloc (Below.refl _ W) (Obj.cells #[.slice A m.length c, .slice (some ⟨w1.heap.size, 0, none⟩) 1 1] 111))
  have hO := hO.ext (ext_alloc (Below.refl _ W) (Obj.cells #[.slice A m.length c, .slice (some ⟨w1.heap.size, 0, none⟩) 1 1] 111))
  have hE := edges_any W.heap.size A (some ⟨w1.heap.size, 0, none⟩) c 1 m [p] _ B5 hI hO (by have := HO.out.1; omega) (by simp)
  obtain ⟨c1, c2, c3⟩ := K1.facts
  obtain ⟨e1, e2, e3⟩ := K4.facts
  rw [← HWS.out] at hE
  go_wp2_with (first | (go_at_call 169; refine (far2_is (by assumption) _).mono ?_; rintro e w' ⟨rfl, rfl⟩))
  rw [← HW.out]
  refine hE.mono ?_
  rintro e w3 ⟨A3, c3, D, HD, rfl, hI3, hb3⟩
  have K1 := K1.ext hb3
  have K4 := K4.ext hb3
  have K5 := ext_trans K5 hb3
  have hI := hI.ext hb3
  have hO := hO.ext hb3
  clear hE c1 c2 e1 e2 e3
  have hDl : D.length ≤ 10000 := by
   have h1 := HD.out.2.2
   rw [List.length_append, endsP_len, endsP_len] at h1
   have h2 := HO.out.1
   simp only [List.length_cons, List.length_nil] at h1
   omega
  have hT := each_any 172 #[.pointer (some ⟨w1.heap.size + 1, 0, none⟩), .pointer (some ⟨w.heap.size, 0, none⟩)] (putM m p) hent A3 c3 D w3 hI3 hDl HD.out.1
   (by
    have h1 := (endsP_turns (l := [p]) HD.out.1 HD.out.2.1 fun _ h => List.mem_append_right _ h).map2 elseO (nc := none) rfl (endsP_turns (l := m) HD.out.1 HD.out.2.1 fun _ h => List.mem_append_left _ h)
    have h2 : (fun t => elseO (atM [p] t) (atM m t)) = putM m p := funext fun t => by rw [← HG.out]; exact oneL_put p m t
    rwa [h2] at h1)
   (fun t v hv => near_i64 (put_vals H0.out HN.out.2.2 hv))
   (fun W' x hb => by
    have h1 := put1_any (some ⟨w1.heap.size, 0, none⟩) A 1 c (w1.heap.size + 1) w.heap.size [p] m x W' ((K4.ext hb).cell 0) ((K1.ext hb).cell 0) (hO.ext hb) (hI.ext hb)
    rwa [show elseO (atM [p] x) (atM m x) = putM m p x by rw [← HG.out]; exact oneL_put p m x] at h1)
  have HPS := Lib.hid fun er out (h : EachSay (putM m p) er out) => show PutSay m p er out by
   unfold PutSay
   rw [if_pos H0.out, if_pos HN.out]
   exact h.tells fun t v hv => put_vals H0.out HN.out.2.2 hv
  clear hDl hI hO hb3
  go_wp2_with fail
  refine hT.mono ?_
  rintro e w4 ⟨er, out, A4, c4, HR, rfl, hI4, hb4⟩
  clear hT
  go_wp2_with fail
  refine bodyPost_ret (v := .tuple #[.slice A4 out.length c4, .int .i64 er]) (by simp [results, Tryz.results164]) rfl ?_
  exact ⟨er, out, A4, c4, Lib.hid (HPS.out er out HR.out), rfl, hI4.since K5.size, ext_trans K5 hb4⟩
end Go.Proofs.YtjcimdpldlamfaaGreatDoor
