/- Several texts in one: BspRuns, LawRunsOwn. -/
import Derived.Test.YtdpibehpmghghaaBde0c8970e25
import Derived.Test.YtdpibehpmghghaaBd457b903ce2
import Derived.Test.YtdpibehpmghghaaBd844ab22d09
/- What runs tell, held against each other: the walks of timekeep.runs and of EqualFunc at maps. -/
namespace Go.Proofs.Ytdpibehpmghghaa
open Go.RowKit

theorem same_pieces (A B : Option Addr) (c d : Nat) (l : List PieceD) (w : World) (hA : PiecesAt w A c l) (hB : PiecesAt w B d l) :
    Calls Try.prog 23 #[.slice A l.length c, .slice B l.length d] w fun e w' => e = .returned (.bool true) ∧ Below w.heap.size w w' :=
  (equalPieces_any A B c d l l w hA.sl hB.sl (Nat.le_trans hA.lc hA.cm) (Nat.le_trans hB.lc hB.cm)).mono fun _ _ ⟨h1, h2⟩ => ⟨by rw [h1]; simp, h2⟩
/-- A row of lists. -/
def RSide (w : World) (b o : Nat) (x : VSide) : Prop := cellIs w b o (sV x)
theorem RSide.stable : Stable RSide := fun _ _ _ _ _ hb hlt h => cellIs.ext hb hlt h
theorem own_sides {w : World} {base : Nat} {A : Option Addr} {c : Nat} {l : List VSide} (h : Own sideC 1 w base 23 (.slice A l.length c) l) : SlAt RSide 1 w A l := by
  obtain ⟨A', c', hv, hs⟩ := Own.slAt (R := RSide) (enc := sideC) (fun _ => rfl) (fun x _ b o hc => by have h1 := hc 0 _ rfl; show cellIs w b o (sV x); simpa using h1) h
  simp only [Value.slice.injEq] at hv
  obtain ⟨rfl, _⟩ := hv
  exact hs
theorem SlAt.side {w w0 : World} {A : Option Addr} {l : List VSide} {i : Nat} {x : VSide} (h : SlAt RSide 1 w0 A l) (hx : l[i]? = some x) (hb : Below w0.heap.size w0 w) : ∃ b o, A = some ⟨b, o, none⟩ ∧ b < w.heap.size ∧ w.cell? ⟨b, o + i, none⟩ = some (.slice x.2.1 x.1.length x.2.2) := by
  obtain ⟨b, o, hS⟩ := h
  obtain ⟨h1, h2, h3⟩ := hS i x hx
  unfold RSide cellIs at h3
  rw [Nat.mul_one] at h3
  exact ⟨b, o, h1, Nat.lt_of_lt_of_le h2 hb.size, (hb.cell (p := ⟨b, o + i, none⟩) h2).trans h3⟩
def SidesAt (w : World) (l : List VSide) : Prop := ∀ x, x ∈ l → PiecesAt w x.2.1 x.2.2 x.1
theorem Sides.at_ {w : World} {base : Nat} {l : List VSide} {h : Int} (hS : Sides w base 25 l) (hl : ∀ m, m ∈ l.map Prod.fst → Lies h m) (hh : h ≤ 100) : SidesAt w l := fun x hx => ownPieces_at (hS.own x hx) (lies_msg (hl _ (List.mem_map.2 ⟨x, hx, rfl⟩))) hh
theorem SidesAt.ext {w w' : World} {l : List VSide} (h : SidesAt w l) (hb : Below w.heap.size w w') : SidesAt w' l := fun x hx => (h x hx).ext hb
set_option maxRecDepth 100000 in
set_option maxHeartbeats 4000000 in
theorem equalMaps_any (fe : Nat) (eg : ∀ args w, (callFunc fe args).run Try.prog w = .ok (.enter fe args) w) (he : ∀ (A B : Option Addr) (c d : Nat) (l : List PieceD) (w : World), PiecesAt w A c l → PiecesAt w B d l → Calls Try.prog fe #[.slice A l.length c, .slice B l.length d] w fun e w' => e = .returned (.bool true) ∧ Below w.heap.size w w')
    (A B : Option Addr) (c d n : Nat) (r s : List VSide) (w : World) (hA : SlAt RSide 1 w A r) (hB : SlAt RSide 1 w B s) (h1 : SidesAt w r) (h2 : SidesAt w s) (hm : r.map Prod.fst = s.map Prod.fst) (hn : r.length = n) (hn2 : n ≤ 12) :
    Calls Try.prog 28 #[.slice A n c, .slice B n d, .func (.func fe) #[] #[]] w fun e w' => e = .returned (.bool true) ∧ Below w.heap.size w w' := by
  have H1 := Lib.hid h1; have H2 := Lib.hid h2; have HA := Lib.hid hA; have HB := Lib.hid hB; have HM := Lib.hid hm; have HN := Lib.hid hn; have HE := Lib.hid he
  clear h1 h2 hA hB hm hn he
  go_enter Try.func28, Try.ntmps28
  go_wp2_with fail
  go_loopw [17] (fun x wr => ∃ k : Nat, k ≤ n ∧ x = .int .i64 k ∧ Below w.heap.size w wr) (fun x _ => n - (intOf x).toNat)
  case atStart => exact ⟨0, Nat.zero_le _, rfl, Below.refl _ _⟩
  case round =>
    obtain ⟨k, hk, rfl, hb⟩ := hrel
    by_cases hlt : k < n
    case neg =>
      obtain rfl : k = n := by omega
      go_wp2_with fail
      go_ret
      exact ⟨rfl, hb⟩
    case pos =>
      obtain ⟨x, hx⟩ := get_lt (show k < r.length by rw [HN.out]; exact hlt)
      obtain ⟨y, hy⟩ := get_lt (show k < s.length by
        have := congrArg List.length HM.out
        rw [List.length_map, List.length_map, HN.out] at this
        omega)
      have hxy : x.1 = y.1 := by
        have := congrArg (fun l => l[k]?) HM.out
        simp only [List.getElem?_map, hx, hy, Option.map_some] at this
        exact Option.some.inj this
      obtain ⟨b1, o1, rfl, l1, x1⟩ := HA.out.side hx hb
      obtain ⟨b2, o2, rfl, l2, x2⟩ := HB.out.side hy hb
      rw [← hxy] at x2
      have g1 := (H1.out.ext hb) x (List.mem_of_getElem? hx)
      have g2 := (H2.out.ext hb) y (List.mem_of_getElem? hy)
      rw [← hxy] at g2
      have hcl := HE.out x.2.1 y.2.1 x.2.2 y.2.2 x.1 wr g1 g2
      clear hx hy hxy g1 g2
      go_wp2_with fail
      refine hcl.mono ?_
      rintro e w1 ⟨rfl, hb1⟩
      go_wp2_with fail
      go_roundw
      case rel => exact ⟨k + 1, by omega, by go_num, ext_trans hb hb1⟩
      case measure => simp [intOf]; omega
theorem piece_lit {w : World} {k : Nat} {t : TypeId} {a b d : Int} (hB : Blk w k t #[.int .i64 a, .int .i64 b, .int .i64 d]) (ha : I64 a) (hb : I64 b) (hd : I64 d) : PiecesAt w (some ⟨k, 0, none⟩) 1 [⟨a, b, d⟩] := by
  refine ⟨Nat.le_refl _, by decide, k, 0, fun i x hx => ?_⟩
  match i, hx with
  | 0, hx =>
    obtain rfl : (⟨a, b, d⟩ : PieceD) = x := by simpa using hx
    exact ⟨rfl, hB.lt, ⟨by unfold cellIs; rw [hB.cell]; rfl, by unfold cellIs; rw [hB.cell]; rfl, by unfold cellIs; rw [hB.cell]; rfl⟩, ha, hb, hd⟩
  | i + 1, hx => simp at hx
theorem pair_runErr : runErr pairG 2 0 = 0 := by decide
set_option maxRecDepth 100000 in
set_option maxHeartbeats 4000000 in
theorem runs_any (w : World) : Calls Try.prog 26 #[] w fun e w' => e = .returned (.bool true) ∧ Below w.heap.size w w' := by
  go_enter Try.func26, Try.ntmps26
  go_wp2_with fail
  refine (pair_any _).mono ?_
  rintro e w1 ⟨A, c, A', c', rfl, hG, hb1⟩
  go_wp2_with fail
  refine (bspRun_any A A' c c' pairG 2 0 w1 hG).mono ?_
  rintro e w2 (⟨h1, _⟩ | ⟨_, Ao, co, k, sides, rfl, hO, hS, HR, hb2⟩)
  · exact absurd pair_runErr h1
  obtain ⟨rfl, hsd⟩ := pair_ran HR.out
  have hat := hS.at_ (h := 10) (fun m hm => by rw [hsd] at hm; exact pair_run.lies m hm) (by decide)
  have hsl := own_sides hO
  match sides, hsd, hat, hsl with
  | [x, y], hsd, hat, hsl =>
    obtain ⟨e1, e2⟩ : x.1 = [⟨0, 10, 0⟩] ∧ y.1 = [⟨2, 4, 7⟩] := by simpa [pairRun] using hsd
    obtain ⟨b1, o1, rfl, l1, x1⟩ := hsl.side (i := 0) rfl (Below.refl _ _)
    obtain ⟨b2, o2, hA2, _, x2⟩ := hsl.side (i := 1) rfl (Below.refl _ _)
    obtain ⟨rfl, rfl⟩ : b1 = b2 ∧ o1 = o2 := by simpa using hA2
    have x1 : w2.cell? ⟨b1, o1, none⟩ = some (.slice x.2.1 1 x.2.2) := by rw [Nat.add_zero] at x1; rw [x1, e1]; rfl
    have x2 : w2.cell? ⟨b1, o1 + 1, none⟩ = some (.slice y.2.1 1 y.2.2) := by rw [x2, e2]; rfl
    have p1 := hat x (by simp)
    have p2 := hat y (by simp)
    rw [e1] at p1
    rw [e2] at p2
    have P1 := Lib.hid p1; have P2 := Lib.hid p2
    have hb4 := hb2.mono hb1.size |> fun h => hb1.trans h
    clear hG hO hS HR hsd hat hsl hA2 e1 e2 p1 p2 hb1 hb2
    go_wp2_with fail
    have q1 := (P1.out).ext (ext_alloc (Below.refl w2.heap.size w2) (Obj.cells #[.int .i64 0, .int .i64 10, .int .i64 0] 25))
    have r1 := piece_lit (Blk.new w2 25 #[.int .i64 0, .int .i64 10, .int .i64 0]) (by simp [I64]) (by simp [I64]) (by simp [I64])
    refine (same_pieces x.2.1 (some ⟨w2.heap.size, 0, none⟩) x.2.2 1 [⟨0, 10, 0⟩] _ q1 r1).mono ?_
    rintro e w3 ⟨rfl, hb3⟩
    have hb5 : Below w2.heap.size w2 w3 := ext_trans (ext_alloc (Below.refl _ _) _) hb3
    have x2 := (hb5.cell (p := ⟨b1, o1 + 1, none⟩) l1).trans x2
    have hl3 : b1 < w3.heap.size := Nat.lt_of_lt_of_le l1 hb5.size
    clear x1 q1 r1 hb3
    go_wp2_with fail
    have q2 := (P2.out).ext (ext_alloc hb5 (Obj.cells #[.int .i64 2, .int .i64 4, .int .i64 7] 25))
    have r2 := piece_lit (Blk.new w3 25 #[.int .i64 2, .int .i64 4, .int .i64 7]) (by simp [I64]) (by simp [I64]) (by simp [I64])
    refine (same_pieces y.2.1 (some ⟨w3.heap.size, 0, none⟩) y.2.2 1 [⟨2, 4, 7⟩] _ q2 r2).mono ?_
    rintro e w4 ⟨rfl, hb6⟩
    have hb7 : Below w2.heap.size w2 w4 := ext_trans (ext_alloc hb5 _) hb6
    clear x2 q2 r2 hb6
    go_wp2_with fail
    go_ret
    exact ⟨rfl, ext_trans hb4 hb7⟩
  | [], hsd, _, _ => simp [pairRun] at hsd
  | [x], hsd, _, _ => simp [pairRun] at hsd
  | x :: y :: z :: r, hsd, _, _ => simp [pairRun] at hsd
end Go.Proofs.Ytdpibehpmghghaa
/- The law RunsOwn (printed by genrunsown.py). -/
namespace Go.Proofs.Ytdpibehpmghghaa
open Go.RowKit

theorem enters_runsOwn1 : Enters Try.prog 29 := enters_of Try.func29 (by kernel_rfl) rfl
theorem runsOwn1_any (A B : Option Addr) (c d : Nat) (l : List PieceD) (w : World) (hA : PiecesAt w A c l) (hB : PiecesAt w B d l) :
    Calls Try.prog 29 #[.slice A l.length c, .slice B l.length d] w fun e w' => e = .returned (.bool true) ∧ Below w.heap.size w w' := by
  have hs := same_pieces A B c d l w hA hB
  go_enter Try.func29, Try.ntmps29
  go_wp2_with fail
  refine hs.mono ?_
  rintro e w1 ⟨rfl, hb1⟩
  go_wp2_with fail
  go_ret
  exact ⟨rfl, hb1⟩
set_option maxRecDepth 100000 in
set_option maxHeartbeats 16000000 in
theorem runsOwn_calls (A A' : Option Addr) (c c' : Nat) (g : GraphD) {w : World} (hG : GraphAt w A c A' c' g) (p : Int) (_ : I64 p) (v : Int) (_ : I64 v) :
    Calls Try.prog 4 #[gV A c A' c' g, .int .i64 p, .int .i64 v] w fun e w' => e = .returned (.bool true) ∧ Below w.heap.size w w' := by
  have HG := Lib.hid hG
  have hent := enters_runsOwn1
  unfold Enters at hent
  clear hG
  go_enter Try.func4, Try.ntmps4
  go_wp2_with fail
  refine (runs_any _).mono ?_
  rintro e w1 ⟨rfl, hb1⟩
  have B1 := (Blk.new w 52 (gC A c A' c' g)).ext hb1
  have hbw : Below w.heap.size w w1 := ext_trans (by go_grown) hb1
  obtain ⟨c1, c2, c3⟩ := B1.facts
  clear hb1
  go_wp2_with fail
  refine (bspRun_any A A' c c' g p v _ (HG.out.ext hbw)).mono ?_
  rintro e w2 (⟨h0, rfl, hb2⟩ | ⟨h0, Aa, ca, ka, sa, rfl, hOa, hSa, HRa, hb2⟩)
  · have B2 := B1.ext hb2
    have hbw2 := ext_trans hbw hb2
    clear c1 c2 c3 hb2
    obtain ⟨c1, c2, c3⟩ := B2.facts
    have hne : (runErr g p v != 0) = true := by simp [h0]
    have HN := Lib.hid h0
    clear h0
    go_wp2_with fail
    refine (bspRun_any A A' c c' g p v _ (HG.out.ext hbw2)).mono ?_
    rintro e w3 (⟨_, rfl, hb3⟩ | ⟨h1, _⟩)
    · clear c1 c2 c3
      have hbw3 := ext_trans hbw2 hb3
      go_wp2_with fail
      go_ret
      exact ⟨by simp, hbw3⟩
    · exact absurd h1 HN.out
  have B2 := B1.ext hb2
  have hbw2 := ext_trans hbw hb2
  clear c1 c2 c3
  obtain ⟨c1, c2, c3⟩ := B2.facts
  have H0 := Lib.hid h0
  have hV := runErr_valid h0
  have HV := Lib.hid hV
  clear h0
  go_wp2_with fail
  refine (bspRun_any A A' c c' g p v _ (HG.out.ext hbw2)).mono ?_
  rintro e w3 (⟨h1, _⟩ | ⟨_, Ab, cb, kb, sb, rfl, hOb, hSb, HRb, hb3⟩)
  · exact absurd H0.out h1
  have hab := (HRa.out.eq HRb.out).2
  have hsl : sb.length = sa.length := by
    have h1 := congrArg List.length hab
    simpa using h1.symm
  have hsn : sa.length ≤ 12 := by
    have h1 := HRa.out.len
    rw [List.length_map] at h1
    rw [h1]
    exact hV.nl
  obtain ⟨n, hn⟩ : ∃ n, sa.length = n := ⟨_, rfl⟩
  rw [hn] at hsl hsn hOa ⊢
  rw [hsl] at hOb ⊢
  have HN := Lib.hid hn; have HSL := Lib.hid hsl; have HAB := Lib.hid hab
  have HAP := Lib.hid hSa.apart
  have HLT : Hid (∀ x, x ∈ sa → ∀ b, (sV x).ownBlock = some b → b < w2.heap.size) := Lib.hid fun x hx b hb => (own_block_lt (hSa.own x hx) hb).2
  have HLI : Hid (∀ m, m ∈ sa.map Prod.fst → Lies g.h m) := Lib.hid HRa.out.lies
  have hOa3 := hOa.ext hb3
  have hSA : Hid (∀ (j : Nat) y, 0 ≤ j → sa[j]? = some y → Own pieceC 3 w3 w1.heap.size 25 (sV y) y.1) := Lib.hid fun j y _ hy => (hSa.own y (List.mem_of_getElem? hy)).ext hb3
  have hbw3 := ext_trans hbw2 hb3
  have hb13 : Below w1.heap.size w1 w3 := ext_trans hb2 hb3
  have hw12 : w1.heap.size ≤ w2.heap.size := hb2.size
  have hw23 : w2.heap.size ≤ w3.heap.size := hb3.size
  have HB1 := Lib.hid B1
  clear c1 c2 c3 hV hn hsl hab hOa hSa hb2 hb3 B1 B2 hbw2
  go_wp2_with fail
  go_loopw [46] (fun x wt => ∃ i : Nat, i ≤ n ∧ x = .int .i64 i ∧ Own sideC 1 wt w1.heap.size 23 (.slice Aa n ca) sa ∧ Own sideC 1 wt w2.heap.size 23 (.slice Ab n cb) sb ∧ Hid (∀ (j : Nat) y, i ≤ j → sa[j]? = some y → Own pieceC 3 wt w1.heap.size 25 (sV y) y.1) ∧
    Sides wt w2.heap.size 25 sb ∧ Below w1.heap.size w1 wt ∧ w2.heap.size ≤ wt.heap.size) (fun x _ => n - (intOf x).toNat)
  case atStart => exact ⟨0, Nat.zero_le _, rfl, hOa3, hOb, hSA, hSb, hb13, hw23⟩
  case round =>
    clear hOa3 hOb hSA hSb hb13 hbw3
    obtain ⟨i, hi, rfl, hOa, hOb, HSA, hSb, hb, hw2⟩ := hrel
    by_cases hlt : i < n
    case neg =>
      obtain rfl : i = n := by omega
      have BG := HB1.out.ext hb
      obtain ⟨c1, c2, c3⟩ := BG.facts
      have hbw4 := ext_trans hbw hb
      have HRB := Lib.hid (own_sides (by rw [HSL.out]; exact hOb))
      have HBT := Lib.hid (hSb.at_ (h := g.h) (by rw [← HAB.out]; exact HLI.out) HV.out.h1)
      clear hOa hOb HSA hSb hb hw2 BG
      go_wp2_with fail
      refine (bspRun_any A A' c c' g p v _ (HG.out.ext hbw4)).mono ?_
      rintro e w4 (⟨h1, _⟩ | ⟨_, Ac, cc, kc, sc, rfl, hOc, hSc, HRc, hb4⟩)
      · exact absurd H0.out h1
      have hbc := (HRb.out.eq HRc.out).2
      have hcl : sc.length = i := by
        have h1 := congrArg List.length hbc
        rw [List.length_map, List.length_map, HSL.out] at h1
        exact h1.symm
      rw [hcl] at hOc ⊢
      have heq := equalMaps_any 29 hent runsOwn1_any Ab Ac cb cc i sb sc w4 (HRB.out.ext RSide.stable hb4) (own_sides (by rw [hcl]; exact hOc)) (HBT.out.ext hb4) (hSc.at_ (h := g.h) HRc.out.lies HV.out.h1) hbc HSL.out hsn
      have hbw5 := ext_trans hbw4 hb4
      clear hbc hcl hOc hSc c1 c2 c3
      go_wp2_with fail
      refine heq.mono ?_
      rintro e w6 ⟨rfl, hb6⟩
      have hbw6 := ext_trans hbw5 hb6
      clear heq
      go_wp2_with fail
      go_ret
      exact ⟨rfl, hbw6⟩
    case pos =>
      obtain ⟨y, hy⟩ := get_lt (show i < sa.length by rw [HN.out]; exact hlt)
      have hOy := HSA.out i y (Nat.le_refl _) hy
      obtain ⟨b1, o1, rfl, l1, x1⟩ := SlAt.side (w0 := wr) (own_sides (by rw [HN.out]; exact hOa)) hy (Below.refl _ _)
      have hsp := spoil_one y.2.1 y.2.2 y.1.length w1.heap.size y.1 ⟨9, 0, 0⟩ wr hOy hb.size
      rw [show pieceV ⟨9, 0, 0⟩ = .agg #[.int .i64 9, .int .i64 0, .int .i64 0] from rfl] at hsp
      have HY := Lib.hid hy
      clear hy
      go_wp2_with fail
      refine hsp.mono ?_
      rintro e5 w5 ⟨rfl, hb5, hk5⟩
      have hyb : ∀ b, (sV y).ownBlock = some b → b < w2.heap.size := HLT.out y (List.mem_of_getElem? HY.out)
      have hOa5 : Own sideC 1 w5 w1.heap.size 23 (.slice (some ⟨b1, o1, none⟩) n ca) sa := hOa.keep fun b cs hB => hk5 b _ cs hB (hOy.other hB (by decide))
      have hOb5 : Own sideC 1 w5 w2.heap.size 23 (.slice Ab n cb) sb := hOb.keep fun b cs hB => hk5 b _ cs hB (hOy.other hB (by decide))
      have HSA5 : Hid (∀ (j : Nat) z, i + 1 ≤ j → sa[j]? = some z → Own pieceC 3 w5 w1.heap.size 25 (sV z) z.1) := Lib.hid fun j z hj hz => (HSA.out j z (by omega) hz).keepB fun b cs hb hB => hk5 b _ cs hB fun e => HAP.out j i z y (by omega) hz HY.out b hb e.symm
      have hSb5 : Sides w5 w2.heap.size 25 sb := hSb.keep fun z hz hO => hO.keepB fun b cs hb hB => hk5 b _ cs hB fun e => by
        have h1 := (own_block_lt hO hb).1
        have h2 := hyb b e.symm
        omega
      have hb15 : Below w1.heap.size w1 w5 := hb.trans hb5
      have hw5 : w2.heap.size ≤ w5.heap.size := Nat.le_trans hw2 hb5.size
      have HAT5 : Hid (∀ (j : Nat) z, i + 1 ≤ j → sa[j]? = some z → PiecesAt w5 z.2.1 z.2.2 z.1) := Lib.hid fun j z hj hz => ownPieces_at (HSA5.out j z hj hz) (lies_msg (HLI.out _ (List.mem_map.2 ⟨z, List.mem_of_getElem? hz, rfl⟩))) HV.out.h1
      have HBT5 : Hid (SidesAt w5 sb) := Lib.hid (hSb5.at_ (h := g.h) (by rw [← HAB.out]; exact HLI.out) HV.out.h1)
      have HRA := Lib.hid (own_sides (by rw [HN.out]; exact hOa5))
      have HRB := Lib.hid (own_sides (by rw [HSL.out]; exact hOb5))
      clear hsp x1 hOy hb hb5 hk5 hyb hOa hOb HSA hSb hw2
      go_wp2_with fail
      go_loopw [14] (fun x wt => ∃ j : Nat, i + 1 ≤ j ∧ j ≤ n ∧ x = .int .i64 j ∧ Below w5.heap.size w5 wt) (fun x _ => n - (intOf x).toNat)
      case atStart => exact ⟨i + 1, Nat.le_refl _, hlt, by go_num, Below.refl _ _⟩
      case round =>
        obtain ⟨j, hj1, hj2, rfl, hb6⟩ := hrel
        by_cases hltj : j < n
        case neg =>
          obtain rfl : j = n := by omega
          go_wp2_with fail
          go_roundw
          case rel =>
            exact ⟨i + 1, by omega, by go_num, hOa5.ext hb6, hOb5.ext hb6, Lib.hid fun k z hk hz => (HSA5.out k z hk hz).ext hb6, hSb5.ext hb6, hb15.trans (hb6.mono hb15.size), Nat.le_trans hw5 hb6.size⟩
          case measure => simp [intOf]; omega
        case pos =>
          obtain ⟨za, hza⟩ := get_lt (show j < sa.length by rw [HN.out]; exact hltj)
          obtain ⟨zb, hzb⟩ := get_lt (show j < sb.length by rw [HSL.out]; exact hltj)
          have hab : za.1 = zb.1 := by
            have h1 := congrArg (fun l => l[j]?) HAB.out
            simp only [List.getElem?_map, hza, hzb, Option.map_some] at h1
            exact Option.some.inj h1
          obtain ⟨b2, o2, e2, l2, x2⟩ := HRA.out.side hza hb6
          obtain ⟨rfl, rfl⟩ : b1 = b2 ∧ o1 = o2 := by simpa using e2
          obtain ⟨b3, o3, rfl, l3, x3⟩ := HRB.out.side hzb hb6
          rw [← hab] at x3
          have pa := (HAT5.out j za hj1 hza).ext hb6
          have pb := (HBT5.out zb (List.mem_of_getElem? hzb)).ext hb6
          rw [← hab] at pb
          have hd0 := below_drew (Below.refl wr.heap.size wr)
          have hsm := same_pieces za.2.1 zb.2.1 za.2.2 zb.2.2 za.1 wr.drew (pa.ext hd0) (pb.ext hd0)
          clear e2 hab hza hzb pa pb
          go_wp2_with fail
          obtain ⟨S1, hSS⟩ : ∃ S1 : World → Prop, Hid (S1 = fun w' => w'.cell? ⟨b1, o1 + j, none⟩ = some (.slice za.2.1 za.1.length za.2.2) ∧ w'.cell? ⟨b3, o3 + j, none⟩ = some (.slice zb.2.1 za.1.length zb.2.2)) := ⟨_, Lib.hid rfl⟩
          have hS0 : S1 wr.drew := by rw [hSS.out]; exact ⟨x2, x3⟩
          have HKS : Hid (∀ w', Below wr.heap.size wr.drew w' → S1 w') := Lib.hid fun w' h => by rw [hSS.out]; exact keep2 (ext_trans hd0 h) ⟨x2, x3⟩
          refine anyH_begin S1 (by kernel_rfl) ?_
          refine anyH_take (i := 0) (v := ?_) rfl rfl (by kernel_rfl) (fun _ _ _ h => h) (Or.inl ⟨by rfl, ?_⟩) (by assumption) ?_
          rotate_left
          · intro w hSw; rw [hSS.out] at hSw; obtain ⟨sw0, sw1⟩ := hSw; go_simp; try with_reducible rfl
          try simp only [Act.put, List.setIfInBounds_toArray, List.set_cons_zero, List.set_cons_succ]
          refine anyH_take (i := 1) (v := ?_) rfl rfl (by kernel_rfl) (fun _ _ _ h => h) (Or.inl ⟨by rfl, ?_⟩) (by assumption) ?_
          rotate_left
          · intro w hSw; rw [hSS.out] at hSw; obtain ⟨sw0, sw1⟩ := hSw; go_simp; try with_reducible rfl
          try simp only [Act.put, List.setIfInBounds_toArray, List.set_cons_zero, List.set_cons_succ]
          refine anyH_take (i := 2) (v := ?_) rfl rfl (by kernel_rfl) (fun _ _ _ h => h) (Or.inl ⟨by rfl, ?_⟩) (by assumption) ?_
          rotate_left
          · intro w hSw; rw [hSS.out] at hSw; obtain ⟨sw0, sw1⟩ := hSw; go_simp; try with_reducible rfl
          try simp only [Act.put, List.setIfInBounds_toArray, List.set_cons_zero, List.set_cons_succ]
          refine anyH_take (i := 3) (v := ?_) rfl rfl (by kernel_rfl) (fun _ _ _ h => h) (Or.inl ⟨by rfl, ?_⟩) (by assumption) ?_
          rotate_left
          · intro w hSw; rw [hSS.out] at hSw; obtain ⟨sw0, sw1⟩ := hSw; go_simp; try with_reducible rfl
          try simp only [Act.put, List.setIfInBounds_toArray, List.set_cons_zero, List.set_cons_succ]
          refine anyH_take (i := 4) (v := ?_) rfl rfl (by kernel_rfl) (fun _ _ _ h => h) (Or.inl ⟨by rfl, ?_⟩) (by assumption) ?_
          rotate_left
          · intro w hSw; rw [hSS.out] at hSw; obtain ⟨sw0, sw1⟩ := hSw; go_simp; try with_reducible rfl
          try simp only [Act.put, List.setIfInBounds_toArray, List.set_cons_zero, List.set_cons_succ]
          refine anyH_take (i := 5) (v := ?_) rfl rfl (by kernel_rfl) (fun _ _ _ h => h) (Or.inl ⟨by rfl, ?_⟩) (by assumption) ?_
          rotate_left
          · intro w hSw; rw [hSS.out] at hSw; obtain ⟨sw0, sw1⟩ := hSw; go_simp; try with_reducible rfl
          try simp only [Act.put, List.setIfInBounds_toArray, List.set_cons_zero, List.set_cons_succ]
          refine anyH_take (i := 6) (v := ?_) rfl rfl (by kernel_rfl) (fun _ _ _ h => h) (Or.inl ⟨by rfl, ?_⟩) (by assumption) ?_
          rotate_left
          · intro w hSw; rw [hSS.out] at hSw; obtain ⟨sw0, sw1⟩ := hSw; go_simp; try with_reducible rfl
          try simp only [Act.put, List.setIfInBounds_toArray, List.set_cons_zero, List.set_cons_succ]
          refine anyH_take (i := 7) (v := ?_) rfl rfl (by kernel_rfl) (fun _ _ _ h => h) (Or.inl ⟨by rfl, ?_⟩) (by assumption) ?_
          rotate_left
          · intro w hSw; rw [hSS.out] at hSw; obtain ⟨sw0, sw1⟩ := hSw; go_simp; try with_reducible rfl
          try simp only [Act.put, List.setIfInBounds_toArray, List.set_cons_zero, List.set_cons_succ]
          refine anyH_one (i := 8) rfl (by kernel_rfl) fun K hK => ?_
          go_wp2_with fail
          refine hsm.mono ?_
          rintro e7 w7 ⟨rfl, hb7⟩
          have hS7 := HKS.out _ hb7
          refine hK.out _ _ ⟨hS7, ?_⟩
          clear hK K hS0 hsm
          try simp only [Act.put, List.setIfInBounds_toArray, List.set_cons_zero, List.set_cons_succ]
          refine anyH_take (i := 9) (v := ?_) rfl rfl (by kernel_rfl) (fun _ _ _ h => h) (Or.inl ⟨by rfl, ?_⟩) (by assumption) ?_
          rotate_left
          · intro w hSw; rw [hSS.out] at hSw; obtain ⟨sw0, sw1⟩ := hSw; go_simp; try with_reducible rfl
          try simp only [Act.put, List.setIfInBounds_toArray, List.set_cons_zero, List.set_cons_succ]
          refine wpAnyH_done (by kernel_rfl) ?_ _
          have hb67 := ext_trans hb6 (ext_trans hd0 hb7)
          clear hSS hS7 HKS x2 x3 S1
          go_wp2_with fail
          go_roundw
          case rel => exact ⟨j + 1, by omega, by omega, by go_num, hb67⟩
          case measure => simp [intOf]; omega
end Go.Proofs.Ytdpibehpmghghaa
