/- The walk of turn.Only. -/
import Derived.Test.YtcgnalpcbcpmkaaTurnMem
import Derived.Test.YtcgnalpcbcpmkaaPartSpec
import Derived.Test.YtcgnalpcbcpmkaaClone
import Derived.Test.YtcgnalpcbcpmkaaRow
import Derived.Test.YtcgnalpcbcpmkaaHeld
import Derived.Test.YtcgnalpcbcpmkaaCheck
import Derived.IntWalk
namespace Go.Proofs.Ytcgnalpcbcpmkaa
open Go.RowKit

def onlyOut (g : GraphD) (keep : List Bool) : GraphD := if onlyErr g keep.length = 0 then partD g keep else zeroG
theorem take_snoc2 {α : Type} {l : List α} {k : Nat} {x : α} (h : l[k]? = some x) : l.take (k + 1) = l.take k ++ [x] := by rw [List.take_add_one, h]; rfl
theorem irow_alloc2 {w : World} {b : Nat} {l : List Int} (h : IRow w b l) (o : Obj) : IRow (w.alloc o) b l := Blk.alloc h o
theorem partLives_mem : ∀ (keep : List Bool) (ls : List IvlD) (x : IvlD), x ∈ partLives keep ls → x ∈ ls
  | [], _, _, h => by simp [partLives] at h
  | _ :: _, [], _, h => by simp [partLives] at h
  | c :: r, m :: s, x, h => by
    simp only [partLives] at h
    split at h
    · rcases List.mem_cons.1 h with rfl | h
      · simp
      · exact List.mem_cons_of_mem _ (partLives_mem r s x h)
    · exact List.mem_cons_of_mem _ (partLives_mem r s x h)
theorem row_keep {w w' : World} {b : Nat} {l : List Int} (h : IRow w b l) (hk : ∀ cs, Blk w b 3 cs → Blk w' b 3 cs) : IRow w' b l := hk _ h

set_option maxRecDepth 100000 in
set_option maxHeartbeats 8000000 in
theorem only_any (A A' Ak : Option Addr) (c c' ck : Nat) (g : GraphD) (keep : List Bool) (w : World) (hG : GraphAt w A c A' c' g) (hK : SlAt RBool 1 w Ak keep) (hkm : keep.length ≤ maxLen) :
    Calls Try.prog 62 #[gV A c A' c' g, .slice Ak keep.length ck] w (GraphErr (onlyOut g keep) (onlyErr g keep.length) w) := by
  have m1 : g.lives.length ≤ 9223372036854775807 := Nat.le_trans hG.lc hG.cm
  have m2 : g.edges.length ≤ 9223372036854775807 := Nat.le_trans hG.lc' hG.cm'
  have m3 : keep.length ≤ 9223372036854775807 := hkm
  by_cases h0 : graphErr g = 0
  case neg =>
    have HE : Hid (onlyErr g keep.length = graphErr g) := Lib.hid (by unfold onlyErr; rw [if_neg h0])
    have HO : Hid (onlyOut g keep = zeroG) := Lib.hid (by unfold onlyOut; rw [if_neg (by rw [HE.out]; exact h0)])
    have hn : (graphErr g != 0) = true := by simp [h0]
    clear h0
    go_enter Try.func62, Try.ntmps62
    go_wp2_with fail
    refine (check_any _ _ _ _ g _ (hG.ext (by go_grown))).mono ?_
    rintro e w1 ⟨rfl, hb1⟩
    have hbw : Below w.heap.size w w1 := ext_trans (by go_grown) hb1
    obtain ⟨B2, s1, s2, s3⟩ := Blk.go (g := w.heap.size + 1) (t := 28) (cs := #[.int .i64 0, .slice none 0 0, .slice none 0 0]) (Blk.new_ (by simp)) hb1
    go_wp2_with fail
    rw [HE.out, HO.out]
    refine bodyPost_ret (v := .tuple #[gV none 0 none 0 zeroG, .int .i64 (graphErr g)]) (by simp [results, Try.results62, go_sem, s1, s2, s3, zeroG]) rfl ?_
    exact ⟨none, 0, none, 0, rfl, zero_at _, ((hbw.setCell (by simp) _).setCell (by simp) _).setCell (by simp) _⟩
  have hV := valid_of h0
  have H0 := Lib.hid h0
  have hh1 := hV.h1
  have hn12 := hV.nl
  have hne := hV.ne
  clear h0
  by_cases hlen : keep.length = g.lives.length
  case neg =>
    have HE : Hid (onlyErr g keep.length = 5) := Lib.hid (by unfold onlyErr; rw [if_pos H0.out, if_neg hlen])
    have HO : Hid (onlyOut g keep = zeroG) := Lib.hid (by unfold onlyOut; rw [if_neg (by rw [HE.out]; decide)])
    have hn : ((keep.length : Int) != (g.lives.length : Int)) = true := by simp; omega
    clear hlen
    go_enter Try.func62, Try.ntmps62
    go_wp2_with fail
    refine (check_any _ _ _ _ g _ (hG.ext (by go_grown))).mono ?_
    rw [H0.out]
    rintro e w1 ⟨rfl, hb1⟩
    have hbw : Below w.heap.size w w1 := ext_trans (by go_grown) hb1
    obtain ⟨B2, s1, s2, s3⟩ := Blk.go (g := w.heap.size + 1) (t := 28) (cs := #[.int .i64 0, .slice none 0 0, .slice none 0 0]) (Blk.new_ (by simp)) hb1
    obtain ⟨B0, c1, c2, c3⟩ := Blk.go (g := w.heap.size) (t := 28) (cs := gC A c A' c' g) ((Blk.new _ _ _).alloc _) hb1
    go_wp2_with fail
    rw [HE.out, HO.out]
    refine bodyPost_ret (v := .tuple #[gV none 0 none 0 zeroG, .int .i64 5]) (by simp [results, Try.results62, go_sem, s1, s2, s3, zeroG]) rfl ?_
    exact ⟨none, 0, none, 0, rfl, zero_at _, ((hbw.setCell (by simp) _).setCell (by simp) _).setCell (by simp) _⟩
  have hn : ((keep.length : Int) != (g.lives.length : Int)) = false := by simp [hlen]
  have HLEN := Lib.hid hlen
  have HE : Hid (onlyErr g keep.length = 0) := Lib.hid (by unfold onlyErr; rw [if_pos H0.out, if_pos hlen])
  have HO : Hid (onlyOut g keep = partD g keep) := Lib.hid (by unfold onlyOut; rw [if_pos HE.out])
  have hmk := make_ints keep.length (by rw [hlen]; omega)
  clear hlen
  obtain ⟨i0, hi, hz0, hz1, hz2⟩ := info_ivl2
  obtain ⟨j0, hje, hy0, hy1, hy2⟩ := info_edge2
  go_enter Try.func62, Try.ntmps62
  go_wp2_with fail
  refine (check_any _ _ _ _ g _ (hG.ext (by go_grown))).mono ?_
  rw [H0.out]
  rintro e w1 ⟨rfl, hb1⟩
  have hbw : Below w.heap.size w w1 := ext_trans (by go_grown) hb1
  obtain ⟨B2, s1, s2, s3⟩ := Blk.go (g := w.heap.size + 1) (t := 28) (cs := #[.int .i64 0, .slice none 0 0, .slice none 0 0]) (Blk.new_ (by simp)) hb1
  obtain ⟨B0, c1, c2, c3⟩ := Blk.go (g := w.heap.size) (t := 28) (cs := gC A c A' c' g) ((Blk.new _ _ _).alloc _) hb1
  clear hb1
  go_wp2_with fail
  have B5 := (Blk.new w1 28 #[.int .i64 g.h, .slice none 0 0, .slice none 0 0]).alloc (Obj.cells (madeCells #[Value.int IntKind.i64 0] keep.length) 3)
  have BN : IRow ((w1.alloc (Obj.cells #[.int .i64 g.h, .slice none 0 0, .slice none 0 0] 28)).alloc (Obj.cells (madeCells #[Value.int IntKind.i64 0] keep.length) 3)) (w1.heap.size + 1) (List.replicate keep.length 0) := IRow.made (by simp)
  have B2 := (B2.alloc (Obj.cells #[.int .i64 g.h, .slice none 0 0, .slice none 0 0] 28)).alloc (Obj.cells (madeCells #[Value.int IntKind.i64 0] keep.length) 3)
  have B0 := (B0.alloc (Obj.cells #[.int .i64 g.h, .slice none 0 0, .slice none 0 0] 28)).alloc (Obj.cells (madeCells #[Value.int IntKind.i64 0] keep.length) 3)
  have hbw := ext_alloc (ext_alloc hbw (Obj.cells #[.int .i64 g.h, .slice none 0 0, .slice none 0 0] 28)) (Obj.cells (madeCells #[Value.int IntKind.i64 0] keep.length) 3)
  have hz : w1.heap.size + 2 ≤ ((w1.alloc (Obj.cells #[.int .i64 g.h, .slice none 0 0, .slice none 0 0] 28)).alloc (Obj.cells (madeCells #[Value.int IntKind.i64 0] keep.length) 3)).heap.size := by simp
  have hw1 : w.heap.size + 1 < w1.heap.size := s3
  clear s1 s2 s3 c1 c2 c3
  obtain ⟨g5, hg5⟩ : ∃ g5, g5 = w1.heap.size := ⟨_, rfl⟩
  rw [← hg5] at B5 BN hz hw1 ⊢
  obtain ⟨w2, hw2⟩ : ∃ w2 : World, w2 = (w1.alloc (Obj.cells #[.int .i64 g.h, .slice none 0 0, .slice none 0 0] 28)).alloc (Obj.cells (madeCells #[Value.int IntKind.i64 0] keep.length) 3) := ⟨_, rfl⟩
  rw [← hw2] at B5 BN B2 B0 hbw hz ⊢
  clear hg5 hw2 hmk
  go_loopw [35] (fun x wr => ∃ (k : Nat) (vl : Value) (lv : List IvlD) (l : List Int), k ≤ g.lives.length ∧ x = .int .i64 k ∧ Hid (lv = partLives (keep.take k) (g.lives.take k)) ∧ Hid (l.length = keep.length ∧ ∀ i, i < k → gi l i = kept keep i) ∧ lv.length ≤ 12 ∧
    Own ivlC 2 wr (g5 + 2) 110 vl lv ∧ IRow wr (g5 + 1) l ∧ Blk wr g5 28 #[.int .i64 g.h, vl, .slice none 0 0] ∧
    Blk wr (w.heap.size + 1) 28 #[.int .i64 0, .slice none 0 0, .slice none 0 0] ∧ Blk wr w.heap.size 28 (gC A c A' c' g) ∧ Below w.heap.size w wr ∧ g5 + 2 ≤ wr.heap.size) (fun x _ => g.lives.length - (intOf x).toNat)
  case atStart => exact ⟨0, _, [], _, Nat.zero_le _, rfl, Lib.hid (by simp [partLives]), Lib.hid ⟨by simp, fun i h => by omega⟩, by simp, Own.nil, BN, B5, B2, B0, hbw, hz⟩
  case round =>
    clear B5 BN B2 B0 hbw hz
    obtain ⟨k, vl, lv, l, hk, rfl, HLV, HLN, hlv, hown, BN, B5, B2, B0, hbw, hz⟩ := hrel
    obtain ⟨f1, f2, f3⟩ := B5.facts
    obtain ⟨c1, c2, c3⟩ := B0.facts
    by_cases hlt : k < g.lives.length
    case pos =>
      obtain ⟨bl, ol, hL⟩ := hG.lives
      obtain ⟨y, hy⟩ := get_lt hlt
      obtain ⟨rfl, hbl, ⟨⟨x0, x1⟩, _⟩⟩ := hL k y hy
      have y0 := x0.now hbw
      have y1 := x1.now hbw
      obtain ⟨bk, ok, hKL⟩ := hK
      obtain ⟨p, hp⟩ := get_lt (l := keep) (k := k) (by rw [HLEN.out]; exact hlt)
      obtain ⟨rfl, hbk, p0⟩ := hKL k p hp
      unfold RBool at p0
      have p1 := p0.now hbw
      simp only [Nat.mul_one] at p1
      have hyv := hV.lives y (List.mem_of_getElem? hy)
      have hlk : lv.length = kept keep k := by rw [HLV.out, partLives_len keep g.lives k HLEN.out]
      have HLK := Lib.hid hlk
      have HPT := Lib.hid (partLives_take keep g.lives k p y hp hy)
      have hcn := BN.cell (k := k) (by rw [HLN.out.1, HLEN.out]; exact hlt)
      have hfn := Blk.frozen BN k
      have hkl : (k : Int) < (keep.length : Int) := by rw [HLEN.out]; omega
      have hbkr : bk < w.heap.size := hbk
      have HLN2 : Hid ((l.set k (lv.length : Int)).length = keep.length ∧ ∀ i, i < k + 1 → gi (l.set k (lv.length : Int)) i = kept keep i) := Lib.hid ⟨by simp [HLN.out.1], fun i hi => by
        rw [gi_set (by rw [HLN.out.1, HLEN.out]; exact hlt)]
        by_cases e : i = k
        · rw [e, upd_at, HLK.out]
        · rw [upd_ne _ _ e]; exact HLN.out.2 i (by omega)⟩
      obtain ⟨Av, dv, rfl⟩ := hown.form
      have p2 : (wr.setCell ⟨g5 + 1, k, none⟩ (.int .i64 (lv.length : Int))).cell? ⟨bk, ok + k, none⟩ = some (.bool p) := by rw [World.cell?_setCell_far _ _ _ _ (by simp; omega)]; exact p1
      have BNb : Blk wr (g5 + 1) 3 (l.map iV).toArray := BN
      have KN : ∀ (t : TypeId) b cs, t ≠ 3 → Blk wr b t cs → Blk (wr.setCell ⟨g5 + 1, k, none⟩ (.int .i64 (lv.length : Int))) b t cs := fun t b cs ht h => h.far (blk_ne h BNb ht) _
      have BN2 := BN.set k (lv.length : Int)
      have B5n := KN _ _ _ (by decide) B5
      have B2n := KN _ _ _ (by decide) B2
      have B0n := KN _ _ _ (by decide) B0
      have hownn := hown.keep (fun b cs h => KN _ b cs (by decide) h)
      have hbwn := hbw.setCell (p := ⟨g5 + 1, k, none⟩) (by simp; omega) (.int .i64 (lv.length : Int))
      obtain ⟨n1, n2, n3⟩ := B5n.facts
      have hzn : g5 + 2 ≤ (wr.setCell ⟨g5 + 1, k, none⟩ (.int .i64 (lv.length : Int))).heap.size := by simpa using hz
      have hbne : ¬ g5 + 1 = bk := by omega
      have hzn1 : g5 + 1 < wr.heap.size := by omega
      have hcn1 := IRow.cell (irow_alloc2 BN (Obj.cells #[.int .i64 y.f, .int .i64 y.t] 110)) (k := k) (by rw [HLN.out.1, HLEN.out]; exact hlt)
      have hfn1 := Blk.frozen (irow_alloc2 BN (Obj.cells #[.int .i64 y.f, .int .i64 y.t] 110)) k
      have hzk : bk < wr.heap.size := Nat.lt_of_lt_of_le hbk hbw.size
      clear hL hy x0 x1 hKL hp p0 hlk
      cases p
      case false =>
        have HN : Hid (lv = partLives (keep.take (k + 1)) (g.lives.take (k + 1))) := Lib.hid (by rw [HPT.out, ← HLV.out]; simp)
        go_wp2_with fail
        go_roundw
        case rel => exact ⟨k + 1, _, lv, _, by omega, by go_num, HN, HLN2, hlv, hownn.alloc _, irow_alloc2 BN2 _, B5n.alloc _, B2n.alloc _, B0n.alloc _, ext_alloc hbwn _, Nat.le_trans hzn (by simp)⟩
        case measure => simp [intOf]; omega
      case true =>
        have HN : Hid (lv ++ [y] = partLives (keep.take (k + 1)) (g.lives.take (k + 1))) := Lib.hid (by rw [HPT.out, ← HLV.out]; simp)
        have hl12 : lv.length ≤ k := by rw [HLK.out]; exact kept_le keep k
        have B5a := B5n.alloc (Obj.cells #[.int .i64 y.f, .int .i64 y.t] 110)
        have hzi : g5 + 2 ≤ ((wr.setCell ⟨g5 + 1, k, none⟩ (.int .i64 (lv.length : Int))).alloc (Obj.cells #[.int .i64 y.f, .int .i64 y.t] 110)).heap.size := Nat.le_trans hzn (by simp)
        go_wp2_with (at_builtin; refine wpList_append_els (enc := ivlC) rfl (.tmp 51) (.tmp 53) 25 rfl (g5 + 2) 110 i0 _ 2 16 Try.underlying25 hi hz0 hz1 hz2 rfl (by decide) _ lv [y] 1 rfl rfl (hownn.alloc _) _ rfl (wr.heap.size + 1) (by simp) rfl rfl two_one (by omega) (by decide) hzi ?_; intro v' w6 hown6 hb6 hkp; obtain ⟨Aw, dw, rfl⟩ := hown6.form; have B5b := hkp _ _ _ B5a (by decide); obtain ⟨r1, r2, r3⟩ := B5b.facts)
        have B2b := hkp _ _ _ (B2n.alloc (Obj.cells #[.int .i64 y.f, .int .i64 y.t] 110)) (by decide)
        have B0b := hkp _ _ _ (B0n.alloc (Obj.cells #[.int .i64 y.f, .int .i64 y.t] 110)) (by decide)
        have BNn := row_keep (irow_alloc2 BN2 (Obj.cells #[.int .i64 y.f, .int .i64 y.t] 110)) (fun cs h => hkp _ _ _ h (by decide))
        have hbw6 : Below w.heap.size w w6 := (ext_alloc hbwn _).trans (hb6.mono (by omega))
        have hz6 : g5 + 2 ≤ w6.heap.size := Nat.le_trans hzi hb6.size
        go_roundw
        case rel =>
          refine ⟨k + 1, _, lv ++ [y], _, by omega, by go_num, HN, HLN2, by simp; omega, hown6.keep (keep_store B5b (by decide) 1 _), row_keep BNn (fun cs h => keep_store B5b (by decide) 1 _ _ cs h), by simpa using B5b.set_ 1 (.slice Aw (lv ++ [y]).length dw), B2b.far (by simp; omega) _, B0b.far (by simp; omega) _, hbw6.setCell (by simp; omega) _, by simpa using hz6⟩
        case measure => simp [intOf]; omega
    case neg =>
      have HL : Hid (lv = (partD g keep).lives) := Lib.hid (by rw [HLV.out, List.take_of_length_le (by rw [HLEN.out]; omega), List.take_of_length_le (by omega)]; rfl)
      have HNW : Hid (l.length = g.lives.length ∧ ∀ i, i < g.lives.length → gi l i = kept keep i) := Lib.hid ⟨by rw [HLN.out.1, HLEN.out], fun i hi => HLN.out.2 i (by omega)⟩
      clear HLV HLN
      go_wp2_with fail
      go_loopw [60] (fun x wr => ∃ (j : Nat) (ve : Value) (items : List EItem), j ≤ g.edges.length ∧ x = .int .i64 j ∧ Hid (items.map Prod.fst = (g.edges.take j).filterMap (partEdge keep)) ∧ items.length ≤ j ∧
        Own ivlC 2 wr (g5 + 2) 110 vl lv ∧ Own eEnc 3 wr (g5 + 2) 99 ve items ∧ LegsAt wr items ∧ IRow wr (g5 + 1) l ∧ Blk wr g5 28 #[.int .i64 g.h, vl, ve] ∧
        Blk wr (w.heap.size + 1) 28 #[.int .i64 0, .slice none 0 0, .slice none 0 0] ∧ Blk wr w.heap.size 28 (gC A c A' c' g) ∧ Below w.heap.size w wr ∧ g5 + 2 ≤ wr.heap.size) (fun x _ => g.edges.length - (intOf x).toNat)
      case atStart => exact ⟨0, _, [], Nat.zero_le _, rfl, Lib.hid (by simp), by simp, hown, Own.nil, LegsAt.nil, BN, B5, B2, B0, hbw, hz⟩
      case round =>
        clear hown BN B5 B2 B0 hbw hz f1 f2 f3 c1 c2 c3
        obtain ⟨j, ve, items, hj, rfl, HIT, hil, hown, hownE, hlegs, BN, B5, B2, B0, hbw, hz⟩ := hrel
        obtain ⟨f1, f2, f3⟩ := B5.facts
        obtain ⟨c1, c2, c3⟩ := B0.facts
        by_cases hlt2 : j < g.edges.length
        case neg =>
          have HEE : Hid (items.map Prod.fst = (partD g keep).edges) := Lib.hid (by rw [HIT.out, List.take_of_length_le (by omega)]; rfl)
          clear HIT
          obtain rfl := HL.out
          have hle2 : (partD g keep).edges.length = items.length := by rw [← HEE.out, List.length_map]
          have HLE := Lib.hid hle2
          obtain ⟨Av, dv, rfl⟩ := hown.form
          obtain ⟨Ae, de, rfl⟩ := hownE.form
          obtain ⟨s1, s2, s3⟩ := B2.facts
          have hli : ∀ x, x ∈ (partD g keep).lives → I64 x.f ∧ I64 x.t := fun x hx => by
            have := hV.lives x (partLives_mem keep g.lives x hx)
            unfold I64
            omega
          have hei : ∀ it, it ∈ items → I64 it.1.a ∧ I64 it.1.b ∧ ∀ x, x ∈ it.1.legs → LegI x := fun it hm => by
            have h1 : it.1 ∈ (partD g keep).edges := by rw [← HEE.out]; exact List.mem_map_of_mem hm
            simp only [partD, List.mem_filterMap, partEdge] at h1
            obtain ⟨x, hx, he⟩ := h1
            split at he
            · have ho := hV.edges x hx
              have h2 := ho.a0; have h3 := ho.a1; have h4 := ho.b0; have h5 := ho.b1
              have k1 := kept_le keep x.a.toNat
              have k2 := kept_le keep x.b.toNat
              have he' : (⟨kept keep x.a.toNat, kept keep x.b.toNat, x.legs⟩ : EdgeD) = it.1 := by simpa using he
              rw [← he']
              refine ⟨⟨by simp only; omega, by simp only; omega⟩, ⟨by simp only; omega, by simp only; omega⟩, fun z hz => ?_⟩
              have h6 := ho.legs z hz
              unfold LegI I64
              omega
            · simp at he
          have HLI := Lib.hid hli
          have HEI := Lib.hid hei
          have hrv := hown.room
          have hre := hownE.room
          clear hli hei hle2
          go_wp2_with fail
          rw [HE.out, HO.out]
          refine bodyPost_ret (v := .tuple #[.agg #[.int .i64 g.h, .slice Av (partD g keep).lives.length dv, .slice Ae items.length de], .int .i64 0]) (by simp [results, Try.results62, go_sem, s1, s2, s3]) rfl ?_
          have K : ∀ (t : TypeId) b cs, t ≠ 28 → Blk wr b t cs → Blk (((wr.setCell ⟨w.heap.size + 1, 0, none⟩ (.int .i64 g.h)).setCell ⟨w.heap.size + 1, 1, none⟩ (.slice Av (partD g keep).lives.length dv)).setCell ⟨w.heap.size + 1, 2, none⟩ (.slice Ae items.length de)) b t cs := fun t b cs ht h => by
            have hne := blk_ne h B2 ht
            exact ((h.far hne _).far hne _).far hne _
          obtain ⟨Av', dv', hvv, hSv⟩ := own_lives (hown.keep (fun b cs h => K _ b cs (by decide) h)) HLI.out
          obtain ⟨Ae', de', hee, hSe⟩ := own_edges (hownE.keep (fun b cs h => K _ b cs (by decide) h)) (hlegs.keep (fun b cs h => K _ b cs (by decide) h)) HEI.out
          simp only [Value.slice.injEq, true_and] at hvv hee
          obtain ⟨rfl, rfl⟩ := hvv
          obtain ⟨rfl, rfl⟩ := hee
          rw [HEE.out] at hSe
          exact ⟨Av, dv, Ae, de, by rw [← HLE.out]; rfl, ⟨⟨by simp only [partD]; have := hV.h0; omega, by simp only [partD]; omega⟩, hrv.1, hrv.2, by rw [HLE.out]; exact hre.1, hre.2, hSv, hSe⟩, ((hbw.setCell (by simp) _).setCell (by simp) _).setCell (by simp) _⟩
        obtain ⟨be, oe, hE⟩ := hG.edges
        obtain ⟨y, hy⟩ := get_lt hlt2
        obtain ⟨rfl, hbe, ⟨⟨x0, x1, L, cl, x2, hl1, hl2, hL⟩, _⟩⟩ := hE j y hy
        have y0 := x0.now hbw
        have y1 := x1.now hbw
        have y2 := x2.now hbw
        have hyo := hV.edges y (List.mem_of_getElem? hy)
        have ha0 := hyo.a0; have ha1 := hyo.a1; have hd0 := hyo.b0; have hd1 := hyo.b1
        have hl6 := hyo.six
        obtain ⟨bk, ok, hKL⟩ := hK
        obtain ⟨pa, hpa⟩ := get_lt (l := keep) (k := y.a.toNat) (by rw [HLEN.out]; omega)
        obtain ⟨pb, hpb⟩ := get_lt (l := keep) (k := y.b.toNat) (by rw [HLEN.out]; omega)
        obtain ⟨rfl, hbk, q0⟩ := hKL _ pa hpa
        obtain ⟨_, _, q1⟩ := hKL _ pb hpb
        unfold RBool at q0 q1
        have q0 := q0.now hbw
        have q1 := q1.now hbw
        simp only [Nat.mul_one] at q0 q1
        have hak : y.a < (keep.length : Int) := by rw [HLEN.out]; exact ha1
        have hbk2 : y.b < (keep.length : Int) := by rw [HLEN.out]; exact hd1
        have hzk : bk < wr.heap.size := Nat.lt_of_lt_of_le hbk hbw.size
        have HTK := Lib.hid (take_snoc2 hy)
        have HPE : Hid (partEdge keep y = if pa = true ∧ pb = true then some ⟨kept keep y.a.toNat, kept keep y.b.toNat, y.legs⟩ else none) := Lib.hid (by
          unfold partEdge keptB
          rw [hpa, hpb]
          cases pa <;> cases pb <;> rfl)
        clear hE hy x0 x1 x2 hKL hpa hpb
        cases pa
        case false =>
          have HN : Hid (items.map Prod.fst = (g.edges.take (j + 1)).filterMap (partEdge keep)) := Lib.hid (by rw [HIT.out, HTK.out, List.filterMap_append]; simp [HPE.out])
          go_wp2_with fail
          go_roundw
          case rel => exact ⟨j + 1, ve, items, by omega, by go_num, HN, by omega, hown.alloc _, hownE.alloc _, hlegs.keep (fun _ _ h => h.alloc _), irow_alloc2 BN _, B5.alloc _, B2.alloc _, B0.alloc _, ext_alloc hbw _, Nat.le_trans hz (by simp)⟩
          case measure => simp [intOf]; omega
        cases pb
        case false =>
          have HN : Hid (items.map Prod.fst = (g.edges.take (j + 1)).filterMap (partEdge keep)) := Lib.hid (by rw [HIT.out, HTK.out, List.filterMap_append]; simp [HPE.out])
          go_wp2_with fail
          go_roundw
          case rel => exact ⟨j + 1, ve, items, by omega, by go_num, HN, by omega, hown.alloc _, hownE.alloc _, hlegs.keep (fun _ _ h => h.alloc _), irow_alloc2 BN _, B5.alloc _, B2.alloc _, B0.alloc _, ext_alloc hbw _, Nat.le_trans hz (by simp)⟩
          case measure => simp [intOf]; omega
        have HPE2 : Hid (partEdge keep y = some ⟨kept keep y.a.toNat, kept keep y.b.toNat, y.legs⟩) := Lib.hid (by rw [HPE.out]; rfl)
        obtain ⟨Ae, de, rfl⟩ := hownE.form
        obtain ⟨Av, dv, rfl⟩ := hown.form
        have HGY : Hid (some wr.heap.size ≠ (Value.slice Ae items.length de).ownBlock) := Lib.hid (hownE.block_lt (Nat.le_refl _))
        go_wp2_with fail
        have B5n : some g5 ≠ (Value.slice Ae items.length de).ownBlock := hownE.other B5 (by decide)
        have hown := hown.alloc (Obj.cells #[.int .i64 y.a, .int .i64 y.b, .slice L y.legs.length cl] 99)
        have hownE := hownE.alloc (Obj.cells #[.int .i64 y.a, .int .i64 y.b, .slice L y.legs.length cl] 99)
        have hlegs := hlegs.keep (fun _ _ h => h.alloc (Obj.cells #[.int .i64 y.a, .int .i64 y.b, .slice L y.legs.length cl] 99))
        have BN := irow_alloc2 BN (Obj.cells #[.int .i64 y.a, .int .i64 y.b, .slice L y.legs.length cl] 99)
        have B5 := B5.alloc (Obj.cells #[.int .i64 y.a, .int .i64 y.b, .slice L y.legs.length cl] 99)
        have B2 := B2.alloc (Obj.cells #[.int .i64 y.a, .int .i64 y.b, .slice L y.legs.length cl] 99)
        have B0 := B0.alloc (Obj.cells #[.int .i64 y.a, .int .i64 y.b, .slice L y.legs.length cl] 99)
        have hbw := ext_alloc hbw (Obj.cells #[.int .i64 y.a, .int .i64 y.b, .slice L y.legs.length cl] 99)
        have hz : g5 + 2 ≤ (wr.alloc (Obj.cells #[.int .i64 y.a, .int .i64 y.b, .slice L y.legs.length cl] 99)).heap.size := Nat.le_trans hz (by simp)
        have BY := Blk.new wr 99 #[.int .i64 y.a, .int .i64 y.b, .slice L y.legs.length cl]
        obtain ⟨gy, hgy⟩ : ∃ gy, gy = wr.heap.size := ⟨_, rfl⟩
        rw [← hgy] at BY HGY ⊢
        obtain ⟨wa, hwa⟩ : ∃ wa : World, wa = wr.alloc (Obj.cells #[.int .i64 y.a, .int .i64 y.b, .slice L y.legs.length cl] 99) := ⟨_, rfl⟩
        rw [← hwa] at BY hown hownE hlegs BN B5 B2 B0 hbw hz ⊢
        clear hgy hwa f1 f2 f3 c1 c2 c3 y0 y1 y2 q0 q1
        obtain ⟨ka, hka⟩ : ∃ ka : Int, ((kept keep y.a.toNat : Nat) : Int) = ka := ⟨_, rfl⟩
        obtain ⟨kb, hkb⟩ : ∃ kb : Int, ((kept keep y.b.toNat : Nat) : Int) = kb := ⟨_, rfl⟩
        have hcb := BN.cell (k := y.b.toNat) (by rw [HNW.out.1]; omega)
        have hca := BN.cell (k := y.a.toNat) (by rw [HNW.out.1]; omega)
        rw [HNW.out.2 _ (by omega), hka] at hca
        rw [HNW.out.2 _ (by omega), hkb] at hcb
        have HKA := Lib.hid hka
        have HKB := Lib.hid hkb
        clear hka hkb
        obtain ⟨S, hSS⟩ : ∃ S : World → Prop, Hid (S = fun w' => w'.cell? ⟨g5, 2, none⟩ = some (.slice Ae items.length de) ∧ w'.cell? ⟨gy, 0, none⟩ = some (.int .i64 y.a) ∧ w'.cell? ⟨gy, 1, none⟩ = some (.int .i64 y.b) ∧ w'.cell? ⟨gy, 2, none⟩ = some (.slice L y.legs.length cl) ∧ w'.cell? ⟨g5 + 1, y.a.toNat, none⟩ = some (.int .i64 ka) ∧ w'.cell? ⟨g5 + 1, y.b.toNat, none⟩ = some (.int .i64 kb)) := ⟨_, Lib.hid rfl⟩
        have hSb : ∀ wz, Below wa.heap.size wa wz → S wz := fun wz hb => by
          rw [hSS.out]
          exact ⟨cell_keep hb (by rw [B5.cell]; rfl), cell_keep hb (by rw [BY.cell]; rfl), cell_keep hb (by rw [BY.cell]; rfl), cell_keep hb (by rw [BY.cell]; rfl), cell_keep hb hca, cell_keep hb hcb⟩
        have hS0 : S wa.drew := hSb _ (below_drew (Below.refl _ _))
        have HSB := Lib.hid hSb
        clear hSb
        refine WpN.begin (S := S) 19 (by kernel_rfl) ?_
        refine WpN.takeD (i := 0) (v := ?_) rfl rfl (by kernel_rfl) (fun _ _ _ h => h) (Or.inl ⟨by rfl, ?_⟩) (by assumption) ?_
        rotate_left
        · intro w hSw; rw [hSS.out] at hSw; obtain ⟨sw0, sw1, sw2, sw3, sw4, sw5⟩ := hSw; go_simp; try with_reducible rfl
        simp only [Act.put, List.setIfInBounds_toArray, List.set_cons_zero, List.set_cons_succ]
        refine WpN.takeD (i := 1) (v := ?_) rfl rfl (by kernel_rfl) (fun _ _ _ h => h) (Or.inl ⟨by rfl, ?_⟩) (by assumption) ?_
        rotate_left
        · intro w hSw; rw [hSS.out] at hSw; obtain ⟨sw0, sw1, sw2, sw3, sw4, sw5⟩ := hSw; go_simp; try with_reducible rfl
        simp only [Act.put, List.setIfInBounds_toArray, List.set_cons_zero, List.set_cons_succ]
        refine WpN.takeD (i := 2) (v := ?_) rfl rfl (by kernel_rfl) (fun _ _ _ h => h) (Or.inl ⟨by rfl, ?_⟩) (by assumption) ?_
        rotate_left
        · intro w hSw; rw [hSS.out] at hSw; obtain ⟨sw0, sw1, sw2, sw3, sw4, sw5⟩ := hSw; go_simp; try with_reducible rfl
        simp only [Act.put, List.setIfInBounds_toArray, List.set_cons_zero, List.set_cons_succ]
        refine WpN.takeD (i := 3) (v := ?_) rfl rfl (by kernel_rfl) (fun _ _ _ h => h) (Or.inl ⟨by rfl, ?_⟩) (by assumption) ?_
        rotate_left
        · intro w hSw; rw [hSS.out] at hSw; obtain ⟨sw0, sw1, sw2, sw3, sw4, sw5⟩ := hSw; go_simp; try with_reducible rfl
        simp only [Act.put, List.setIfInBounds_toArray, List.set_cons_zero, List.set_cons_succ]
        refine WpN.takeD (i := 4) (v := ?_) rfl rfl (by kernel_rfl) (fun _ _ _ h => h) (Or.inl ⟨by rfl, ?_⟩) (by assumption) ?_
        rotate_left
        · intro w hSw; rw [hSS.out] at hSw; obtain ⟨sw0, sw1, sw2, sw3, sw4, sw5⟩ := hSw; go_simp; try with_reducible rfl
        simp only [Act.put, List.setIfInBounds_toArray, List.set_cons_zero, List.set_cons_succ]
        refine WpN.takeD (i := 5) (v := ?_) rfl rfl (by kernel_rfl) (fun _ _ _ h => h) (Or.inl ⟨by rfl, ?_⟩) (by assumption) ?_
        rotate_left
        · intro w hSw; rw [hSS.out] at hSw; obtain ⟨sw0, sw1, sw2, sw3, sw4, sw5⟩ := hSw; go_simp; try with_reducible rfl
        simp only [Act.put, List.setIfInBounds_toArray, List.set_cons_zero, List.set_cons_succ]
        refine WpN.takeD (i := 6) (v := ?_) rfl rfl (by kernel_rfl) (fun _ _ _ h => h) (Or.inl ⟨by rfl, ?_⟩) (by assumption) ?_
        rotate_left
        · intro w hSw; rw [hSS.out] at hSw; obtain ⟨sw0, sw1, sw2, sw3, sw4, sw5⟩ := hSw; go_simp; try with_reducible rfl
        simp only [Act.put, List.setIfInBounds_toArray, List.set_cons_zero, List.set_cons_succ]
        refine WpN.takeD (i := 7) (v := ?_) rfl rfl (by kernel_rfl) (fun _ _ _ h => h) (Or.inl ⟨by rfl, ?_⟩) (by assumption) ?_
        rotate_left
        · intro w hSw; rw [hSS.out] at hSw; obtain ⟨sw0, sw1, sw2, sw3, sw4, sw5⟩ := hSw; go_simp; try with_reducible rfl
        simp only [Act.put, List.setIfInBounds_toArray, List.set_cons_zero, List.set_cons_succ]
        refine WpN.takeD (i := 8) (v := ?_) rfl rfl (by kernel_rfl) (fun _ _ _ h => h) (Or.inl ⟨by rfl, ?_⟩) (by assumption) ?_
        rotate_left
        · intro w hSw; rw [hSS.out] at hSw; obtain ⟨sw0, sw1, sw2, sw3, sw4, sw5⟩ := hSw; go_simp; try with_reducible rfl
        simp only [Act.put, List.setIfInBounds_toArray, List.set_cons_zero, List.set_cons_succ]
        refine WpN.takeD (i := 9) (v := ?_) rfl rfl (by kernel_rfl) (fun _ _ _ h => h) (Or.inl ⟨by rfl, ?_⟩) (by assumption) ?_
        rotate_left
        · intro w hSw; rw [hSS.out] at hSw; obtain ⟨sw0, sw1, sw2, sw3, sw4, sw5⟩ := hSw; go_simp; try with_reducible rfl
        simp only [Act.put, List.setIfInBounds_toArray, List.set_cons_zero, List.set_cons_succ]
        refine WpN.takeD (i := 10) (v := ?_) rfl rfl (by kernel_rfl) (fun _ _ _ h => h) (Or.inl ⟨by rfl, ?_⟩) (by assumption) ?_
        rotate_left
        · intro w hSw; rw [hSS.out] at hSw; obtain ⟨sw0, sw1, sw2, sw3, sw4, sw5⟩ := hSw; go_simp; try with_reducible rfl
        simp only [Act.put, List.setIfInBounds_toArray, List.set_cons_zero, List.set_cons_succ]
        refine WpN.takeD (i := 11) (v := ?_) rfl rfl (by kernel_rfl) (fun _ _ _ h => h) (Or.inl ⟨by rfl, ?_⟩) (by assumption) ?_
        rotate_left
        · intro w hSw; rw [hSS.out] at hSw; obtain ⟨sw0, sw1, sw2, sw3, sw4, sw5⟩ := hSw; go_simp; try with_reducible rfl
        simp only [Act.put, List.setIfInBounds_toArray, List.set_cons_zero, List.set_cons_succ]
        refine WpN.takeD (i := 12) (v := ?_) rfl rfl (by kernel_rfl) (fun _ _ _ h => h) (Or.inl ⟨by rfl, ?_⟩) (by assumption) ?_
        rotate_left
        · intro w hSw; rw [hSS.out] at hSw; obtain ⟨sw0, sw1, sw2, sw3, sw4, sw5⟩ := hSw; go_simp; try with_reducible rfl
        simp only [Act.put, List.setIfInBounds_toArray, List.set_cons_zero, List.set_cons_succ]
        refine WpN.takeD (i := 13) (v := ?_) rfl rfl (by kernel_rfl) (fun _ _ _ h => h) (Or.inl ⟨by rfl, ?_⟩) (by assumption) ?_
        rotate_left
        · intro w hSw; rw [hSS.out] at hSw; obtain ⟨sw0, sw1, sw2, sw3, sw4, sw5⟩ := hSw; go_simp; try with_reducible rfl
        simp only [Act.put, List.setIfInBounds_toArray, List.set_cons_zero, List.set_cons_succ]
        refine WpN.one (i := 14) rfl (by kernel_rfl) fun K hK => ?_
        go_wp2_with (first | (refine (clone_any L cl y.legs _ (hL.ext RLeg.stable (ext_trans hbw (by go_grown))) hl6).mono ?_; rintro e w5 ⟨Lc, cc, rfl, hLO, hc1, hc2, hb5⟩; have hb6 : Below wa.heap.size wa w5 := ext_trans (by go_grown) hb5))
        have hS5 : S w5 := HSB.out _ hb6
        refine hK.out _ _ ⟨fun _ => hS5, ?_⟩
        clear hK K
        try simp only [Act.put, List.setIfInBounds_toArray, List.set_cons_zero, List.set_cons_succ]
        refine WpN.takeD (i := 15) (v := ?_) rfl rfl (by kernel_rfl) (fun _ _ _ h => h) (Or.inl ⟨by rfl, ?_⟩) (by assumption) ?_
        rotate_left
        · intro w hSw; rw [hSS.out] at hSw; obtain ⟨sw0, sw1, sw2, sw3, sw4, sw5⟩ := hSw; go_simp; try with_reducible rfl
        simp only [Act.put, List.setIfInBounds_toArray, List.set_cons_zero, List.set_cons_succ]
        refine WpN.one (i := 16) rfl (by kernel_rfl) fun K hK => ?_
        go_wp2_with fail
        have hb7 : Below wa.heap.size wa (w5.alloc (Obj.cells #[.int .i64 ka, .int .i64 kb, .slice Lc y.legs.length cc] 99)) := ext_alloc hb6 _
        have hS6 := HSB.out _ hb7
        refine hK.out _ _ ⟨fun _ => hS6, ?_⟩
        clear hK K
        try simp only [Act.put, List.setIfInBounds_toArray, List.set_cons_zero, List.set_cons_succ]
        refine WpN.one (i := 17) rfl (by kernel_rfl) fun K hK => ?_
        have hownE5 := hownE.keep (fun b cs h => (Blk.go h hb6).1)
        have hz5 : g5 + 2 ≤ w5.heap.size := Nat.le_trans hz hb6.size
        refine wp_append_lie (enc := eEnc) (.tmp 77) (.tmp 92) 26 rfl (g5 + 2) 99 j0 _ 3 40 Try.underlying26 hje hy0 hy1 hy2 rfl (by decide) _ items (⟨ka, kb, y.legs⟩, Lc, cc) rfl hownE5 _ rfl w5.heap.size rfl rfl rfl three_one (by omega) (by decide) hz5 ?_
        intro gn cap w6 hown6 hbb hkp hgn
        have B5b := hkp _ _ _ (Blk.go B5 hb6).1 B5n
        have BYb := hkp _ _ _ (Blk.go BY hb6).1 HGY.out
        have BNb := row_keep (row_keep BN (fun cs h => (Blk.go h hb6).1)) (fun cs h => hkp _ _ _ h (hownE5.other h (by decide)))
        have hcb6 := BNb.cell (k := y.b.toNat) (by rw [HNW.out.1]; omega)
        have hca6 := BNb.cell (k := y.a.toNat) (by rw [HNW.out.1]; omega)
        rw [HNW.out.2 _ (by omega), HKA.out] at hca6
        rw [HNW.out.2 _ (by omega), HKB.out] at hcb6
        have hS7 : S w6 := by rw [hSS.out]; exact ⟨by rw [B5b.cell]; rfl, by rw [BYb.cell]; rfl, by rw [BYb.cell]; rfl, by rw [BYb.cell]; rfl, hca6, hcb6⟩
        refine hK.out _ _ ⟨fun _ => hS7, ?_⟩
        clear hK K hca6 hcb6
        try simp only [Act.put, List.setIfInBounds_toArray, List.set_cons_zero, List.set_cons_succ]
        refine WpN.takeD (i := 18) (v := ?_) rfl rfl (by kernel_rfl) (fun _ _ _ h => h) (Or.inl ⟨by rfl, ?_⟩) (by assumption) ?_
        rotate_left
        · intro w hSw; rw [hSS.out] at hSw; obtain ⟨sw0, sw1, sw2, sw3, sw4, sw5⟩ := hSw; go_simp; try with_reducible rfl
        simp only [Act.put, List.setIfInBounds_toArray, List.set_cons_zero, List.set_cons_succ]
        refine WpN.one (i := 19) rfl (by kernel_rfl) fun K hK => ?_
        obtain ⟨r1, r2, r3⟩ := B5b.facts
        go_wp2_with fail
        refine hK.out _ _ ⟨fun h => by omega, ?_⟩
        clear hK K
        refine WpN.done (by kernel_rfl) ?_ _
        have HN : Hid ((items ++ [((⟨ka, kb, y.legs⟩ : EdgeD), Lc, cc)]).map Prod.fst = (g.edges.take (j + 1)).filterMap (partEdge keep)) := Lib.hid (by rw [List.map_append, HIT.out, HTK.out, List.filterMap_append]; simp [HPE2.out, ← HKA.out, ← HKB.out])
        have hO6 := (hown.keep (fun b cs h => (Blk.go h hb6).1)).keep (fun b cs h => hkp _ _ _ h (hownE5.other h (by decide)))
        have hL6 := (hlegs.keep (fun b cs h => (Blk.go h hb6).1)).keep (fun b cs h => hkp _ _ _ h (hownE5.other h (by decide)))
        have hLO6 := hLO.keep (fun b cs h => hkp _ _ _ h (hownE5.other h (by decide)))
        have B2b := hkp _ _ _ (Blk.go B2 hb6).1 (hownE5.other (Blk.go B2 hb6).1 (by decide))
        have B0b := hkp _ _ _ (Blk.go B0 hb6).1 (hownE5.other (Blk.go B0 hb6).1 (by decide))
        have hbw7 : Below w.heap.size w w6 := (ext_trans hbw hb6).trans (hbb.mono (by omega))
        have hz7 : g5 + 2 ≤ w6.heap.size := Nat.le_trans hz5 hbb.size
        go_wp2_with fail
        go_roundw
        case rel =>
          refine ⟨j + 1, _, items ++ [(⟨ka, kb, y.legs⟩, Lc, cc)], by omega, by go_num, HN, by simp; omega, hO6.keep (keep_store B5b (by decide) 2 _), by simpa using hown6.keep (keep_store B5b (by decide) 2 _),
            (hL6.snoc (it := (⟨ka, kb, y.legs⟩, Lc, cc)) ⟨hLO6, hc1, hc2⟩).keep (keep_store B5b (by decide) 2 _), row_keep BNb (fun cs h => keep_store B5b (by decide) 2 _ _ cs h), by simpa using B5b.set_ 2 (.slice (some ⟨gn, 0, none⟩) (items.length + 1) cap), B2b.far (by simp; omega) _, B0b.far (by simp; omega) _, hbw7.setCell (by simp; omega) _, by simpa using hz7⟩
        case measure => simp [intOf]; omega
end Go.Proofs.Ytcgnalpcbcpmkaa
