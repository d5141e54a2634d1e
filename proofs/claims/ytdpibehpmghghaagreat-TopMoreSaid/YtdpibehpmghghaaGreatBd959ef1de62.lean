/- One text: BspStart. -/
import Derived.Test.YtdpibehpmghghaaGreatBd719dc879f0
/- The walk of bsp.start (printed by genstart.py). -/
namespace Go.Proofs.YtdpibehpmghghaaGreat
open Go.RowKit

theorem info_vertex : (Tryz.prog.info? 112).map (fun i => (i.zero, i.size, i.bytes)) = some (some (.agg #[.slice none 0 0, .slice none 0 0]), 2, 48) := by kernel_rfl
theorem info_vertex2 : ∃ i, Tryz.prog.info? 112 = some i ∧ i.zero = some (.agg #[.slice none 0 0, .slice none 0 0]) ∧ i.size = 2 ∧ i.bytes = 48 := by
  obtain ⟨i0, hi, hzz⟩ := Option.map_eq_some_iff.1 info_vertex
  simp only [Prod.mk.injEq] at hzz
  exact ⟨i0, hi, hzz.1, hzz.2.1, hzz.2.2⟩
theorem vertex_zero : ∀ (i : Nat) u, (Value.agg #[.slice none 0 0, .slice none 0 0]).cells[i]? = some u → IsSl u := fun i u h => by
  match i, h with
  | 0, h => exact ⟨none, 0, 0, by simpa [Value.cells] using h.symm⟩
  | 1, h => exact ⟨none, 0, 0, by simpa [Value.cells] using h.symm⟩
  | i + 2, h => simp [Value.cells] at h
theorem sV_cell (x : VSide) : (sV x).oneCell' = true := rfl
theorem vEnc_sl (items : List VItem) : ∀ u ∈ items.flatMap vEnc, IsSl u := fun u hu => by
  obtain ⟨it, _, hu⟩ := List.mem_flatMap.1 hu
  simp only [vEnc, List.mem_cons, List.not_mem_nil, or_false] at hu
  rcases hu with rfl | rfl <;> exact ⟨_, _, _, rfl⟩
def StartOut (g : GraphD) (p v : Int) (A : Option Addr) (c : Nat) (A' : Option Addr) (c' : Nat) (w : World) (e : Ending) (w' : World) : Prop := ∃ (eb : Nat) (Av : Option Addr) (cv : Nat) (items : List VItem),
  e = .returned (.pointer (some ⟨eb, 0, none⟩)) ∧ Eng w' w.heap.size eb A c A' c' g p Av cv items ∧ Hid (stsOf items = startB g p v ∧ frsOf items = startB g p v) ∧ Below w.heap.size w w'
/-- The vertices of the first i. -/
def StartK (g : GraphD) (p v : Int) (i : Nat) (items : List VItem) : Prop := stsOf items = (startB g p v).take i ∧ frsOf items = (startB g p v).take i
theorem StartK.zero {g : GraphD} {p v : Int} : StartK g p v 0 [] := ⟨rfl, rfl⟩
theorem StartK.next {g : GraphD} {p v : Int} {i : Nat} {items : List VItem} {l : IvlD} {x : VSide} (h : StartK g p v i items) (hl : g.lives[i]? = some l) (hx : x.1 = startBOf p v i l) : StartK g p v (i + 1) (items ++ [(x, x)]) := by
  have e := startB_get (p := p) (v := v) hl
  have et : (startB g p v).take (i + 1) = (startB g p v).take i ++ [x.1] := by rw [List.take_add_one, e, hx]; rfl
  unfold StartK stsOf frsOf at *
  rw [et, List.map_append, List.map_append, h.1, h.2]
  exact ⟨rfl, rfl⟩
theorem AllC.far {Z : Value → Prop} {w : World} {v : Value} {k i : Nat} {u : Value} (h : AllC Z w v) (hne : some k ≠ v.ownBlock) : AllC Z (w.setCell ⟨k, i, none⟩ u) v := fun j hj cs t fr hh => by
  rw [Below.heap_setCell w ⟨k, i, none⟩ u j (fun e => hne (by rw [hj, e]))] at hh
  exact h j hj cs t fr hh
/-- One vertex more. -/
theorem Eng.more {w w' : World} {base e c c' cv cv' : Nat} {A A' Av Av' : Option Addr} {g : GraphD} {p : Int} {items : List VItem} {x : VSide} (h : Eng w base e A c A' c' g p Av cv items)
    (hb : Blk w' e 110 #[.int .i64 g.h, .slice A g.lives.length c, .slice A' g.edges.length c', .int .i64 p, .slice Av' (items.length + 1) cv']) (ho : Own vEnc 2 w' base 112 (.slice Av' (items.length + 1) cv') (items ++ [(x, x)]))
    (ha : AllC IsSl w' (.slice Av' (items.length + 1) cv')) (hx : Own pieceC 3 w' w.heap.size 53 (sV x) x.1) (hbs : base ≤ w.heap.size) (hk : ∀ b cs, Blk w b 53 cs → Blk w' b 53 cs) (hG : GraphAt w' A c A' c' g) :
    Eng w' base e A c A' c' g p Av' cv' (items ++ [(x, x)]) := by
  refine ⟨by rw [List.length_append]; exact hb, h.eb, by rw [List.length_append]; exact ho, by rw [List.length_append]; exact ha, ?_, fun it hi => ?_, hG⟩
  · rw [List.map_append]
    exact h.st.snoc (hx.since hbs) (fun z hz => (h.st.own z hz).keep hk) fun b hb => (own_block_lt hx hb).1
  · rcases List.mem_append.1 hi with hi | hi
    · exact (h.fr it hi).keep hk
    · obtain rfl : it = (x, x) := by simpa using hi
      exact hx.since hbs
set_option maxRecDepth 100000 in
set_option maxHeartbeats 8000000 in
theorem start_any (A A' : Option Addr) (c c' : Nat) (g : GraphD) (p v : Int) (w : World) (hG : GraphAt w A c A' c' g) (hV : Valid g) :
    Calls Tryz.prog 33 #[gV A c A' c' g, .int .i64 p, .int .i64 v] w (StartOut g p v A c A' c' w) := by
  obtain ⟨i0, hi, hz0, hz1, hz2⟩ := info_vertex2
  have m1 : g.lives.length ≤ 9223372036854775807 := Nat.le_trans hG.lc hG.cm
  have hnl := hV.nl
  have HG := Lib.hid hG
  obtain ⟨bl, ol, hLv⟩ := hG.lives
  have HLV := Lib.hid hLv
  clear hLv hG hV
  go_enter Tryz.func33, Tryz.ntmps33
  go_wp2_with fail
  obtain ⟨wi, hwi⟩ : ∃ wi : World, (w.alloc (Obj.cells (gC A c A' c' g) 25)).alloc (Obj.cells #[.int .i64 g.h, .slice A g.lives.length c, .slice A' g.edges.length c', .int .i64 p, .slice none 0 0] 110) = wi := ⟨_, rfl⟩
  have hbw : Below w.heap.size w wi := by rw [← hwi]; go_grown
  have hEN : Eng wi w.heap.size (w.heap.size + 1) A c A' c' g p none 0 [] := ⟨by rw [← hwi]; exact Blk.new_ (by simp), by omega, Own.nil, fun k hk => by simp [Value.ownBlock] at hk, Sides.nil, fun it h => by simp at h, HG.out.ext hbw⟩
  rw [hwi]
  obtain ⟨eb, heb⟩ : ∃ eb : Nat, w.heap.size + 1 = eb := ⟨_, rfl⟩
  have hebs : w.heap.size ≤ eb := by omega
  rw [heb] at hEN ⊢
  clear hwi heb
  go_loopw [18] (fun x wr => ∃ (i : Nat) (Av : Option Addr) (cv : Nat) (items : List VItem), x = .int .i64 i ∧ i ≤ g.lives.length ∧ items.length = i ∧ Hid (StartK g p v i items) ∧ Eng wr w.heap.size eb A c A' c' g p Av cv items ∧ Below w.heap.size w wr) (fun x _ => g.lives.length - (intOf x).toNat)
  case atStart => exact ⟨0, none, 0, [], rfl, Nat.zero_le _, rfl, Lib.hid StartK.zero, hEN, hbw⟩
  case round =>
    clear hEN hbw
    obtain ⟨i, Av, cv, items, rfl, hil, hlen, HI, hE, hb⟩ := hrel
    have hil' : items.length ≤ 12 := by omega
    have HLN := Lib.hid hlen
    clear hlen
    have hzr := hb.size
    by_cases hlt : i < g.lives.length
    case neg =>
      obtain rfl : i = g.lives.length := by omega
      have HF : Hid (stsOf items = startB g p v ∧ frsOf items = startB g p v) := Lib.hid (by
        have h1 := HI.out
        unfold StartK at h1
        rwa [List.take_of_length_le (by rw [startB_len]; omega)] at h1)
      go_wp2_with fail
      go_ret
      exact ⟨_, Av, cv, items, rfl, hE, HF, hb⟩
    case pos =>
      obtain ⟨l, hl⟩ := get_lt hlt
      obtain ⟨rfl, hbl, ⟨x0, x1⟩, hx64⟩ := HLV.out i l hl
      unfold cellIs at x0 x1
      rw [← hb.cell (by exact hbl)] at x0 x1
      have HL := Lib.hid hl; have HX64 := Lib.hid hx64
      have hbl' : bl < wr.heap.size := Nat.lt_of_lt_of_le hbl hb.size
      have hcell : wr.cell? ⟨eb, 4, none⟩ = some (.slice Av items.length cv) := hE.blk.cell 4
      have hfz : wr.frozen? ⟨eb, 4, none⟩ = false := hE.blk.frozen 4
      have hebl := hE.blk.lt
      have hO := hE.own
      have hAll := hE.all
      have HE := Lib.hid hE
      clear hl hx64
      have HCK := Lib.hid hb
      clear hE hb
      by_cases h3 : p = 3
      case pos =>
        have HM : Hid (startBOf p v i l = [⟨l.f, l.t, i⟩]) := Lib.hid (by unfold startBOf; rw [if_pos h3])
        have h3b : (p == 3) = true := by simpa using h3
        clear h3
        obtain ⟨x, hx⟩ : ∃ x : VSide, x = ([⟨l.f, l.t, i⟩], some ⟨wr.heap.size + 1, 0, none⟩, 1) := ⟨_, rfl⟩
        have hxo : Own pieceC 3 ((wr.alloc (Obj.cells #[.int .i64 l.f, .int .i64 l.t] 107)).alloc (Obj.cells #[.int .i64 l.f, .int .i64 l.t, .int .i64 i] 53)) wr.heap.size 53 (sV x) x.1 := by
          subst hx
          exact Own.lit (enc := pieceC) (w := wr.alloc (Obj.cells #[.int .i64 l.f, .int .i64 l.t] 107)) (l := [(⟨l.f, l.t, i⟩ : PieceD)]) (by simp) (by simp) rfl rfl rfl (show 1 ≤ maxLen by decide)
        have hsx : Hid (x.1 = startBOf p v i l) := Lib.hid (by rw [HM.out, hx])
        have hOw : Own vEnc 2 ((wr.alloc (Obj.cells #[.int .i64 l.f, .int .i64 l.t] 107)).alloc (Obj.cells #[.int .i64 l.f, .int .i64 l.t, .int .i64 i] 53)) w.heap.size 112 (.slice Av items.length cv) items := by first | exact (hO.alloc _).alloc _ | exact hO.alloc _
        have hbw1 : Below wr.heap.size wr ((wr.alloc (Obj.cells #[.int .i64 l.f, .int .i64 l.t] 107)).alloc (Obj.cells #[.int .i64 l.f, .int .i64 l.t, .int .i64 i] 53)) := by go_grown
        have hAw : AllC IsSl ((wr.alloc (Obj.cells #[.int .i64 l.f, .int .i64 l.t] 107)).alloc (Obj.cells #[.int .i64 l.f, .int .i64 l.t, .int .i64 i] 53)) (.slice Av items.length cv) := hAll.ext hbw1 fun k hk => (World.ownsRow.lt hO k hk).2
        have hzw := hbw1.size
        have BE := HE.out.blk.ext hbw1
        go_wp2_with (at_builtin; refine wpList_append_all (Z := IsSl) (enc := vEnc) rfl (.tmp 47) (.tmp 51) 108 rfl w.heap.size 112 i0 _ 2 48 Tryz.underlying108 hi hz0 hz1 hz2 rfl (by decide) _ items (x, x) rfl hOw #[.slice (some ⟨wr.heap.size + 1, 0, none⟩) 1 1, .slice (some ⟨wr.heap.size + 1, 0, none⟩) 1 1] (by rw [hx]; rfl) _ (by simp) rfl rfl (by simp [Value.oneCell']) (by omega) (by decide) (by omega) hAw vertex_zero (by intro u hu; simp at hu; exact ⟨_, _, _, hu⟩) (vEnc_sl items) ?_; intro v6 w6 hown6 hbb6 hoth6 hall6; obtain ⟨its, hits⟩ : ∃ its, items ++ [(x, x)] = its := ⟨_, rfl⟩; rw [hits] at hown6; have HIT := Lib.hid hits; clear hits; obtain ⟨A6, c6, rfl⟩ := hown6.form; have BE6 := hoth6 _ _ _ BE (by decide); have hcell6 := BE6.cell 4; have hfz6 := BE6.frozen 4; have hebl6 := BE6.lt)
        go_roundw
        case rel =>
          have hits := HIT.out
          subst hits
          have hne6 := hown6.other BE6 (by decide)
          have hown7 := hown6.keep (keep_store BE6 (by decide) 4 (.slice A6 (items ++ [(x, x)]).length c6))
          have hall7 : AllC IsSl (w6.setCell ⟨eb, 4, none⟩ (.slice A6 (items ++ [(x, x)]).length c6)) (.slice A6 (items ++ [(x, x)]).length c6) := hall6.far hne6
          have BE7 := BE6.set_ 4 (.slice A6 (items ++ [(x, x)]).length c6)
          have hxo6 : Own pieceC 3 (w6.setCell ⟨eb, 4, none⟩ (.slice A6 (items ++ [(x, x)]).length c6)) wr.heap.size 53 (sV x) x.1 := (hxo.keep fun b cs hB => hoth6 b _ cs hB (by decide)).keep (keep_store BE6 (by decide) 4 _)
          have hb7 : Below w.heap.size w (w6.setCell ⟨eb, 4, none⟩ (.slice A6 (items ++ [(x, x)]).length c6)) := ((HCK.out.trans (hbw1.mono hzr)).trans hbb6).setCell hebs _
          rw [List.length_append] at BE7 hown7 hall7 hxo6 hb7
          have hE7 := HE.out.more (x := x) BE7 hown7 hall7 hxo6 hzr (fun b cs hB => (hoth6 b _ cs (hB.ext hbw1) (by decide)).far (blk_ne (hoth6 b _ cs (hB.ext hbw1) (by decide)) BE6 (by decide)) _) (HG.out.ext hb7)
          rw [List.length_append]
          exact ⟨i + 1, A6, c6, items ++ [(x, x)], by go_num, by omega, by simp [HLN.out], Lib.hid (HI.out.next HL.out hsx.out), hE7, hb7⟩
        case measure => simp [intOf]; omega
      case neg =>
        have h3b : (p == 3) = false := by simpa using h3
        have H3 := Lib.hid h3
        clear h3
        by_cases h4 : (i : Int) = v
        case pos =>
          have HM : Hid (startBOf p v i l = [⟨l.f, l.t, 0⟩]) := Lib.hid (by unfold startBOf; rw [if_neg H3.out, if_pos h4])
          have h4b : ((i : Int) == v) = true := by simpa using h4
          clear h4
          obtain ⟨x, hx⟩ : ∃ x : VSide, x = ([⟨l.f, l.t, 0⟩], some ⟨wr.heap.size + 1, 0, none⟩, 1) := ⟨_, rfl⟩
          have hxo : Own pieceC 3 ((wr.alloc (Obj.cells #[.int .i64 l.f, .int .i64 l.t] 107)).alloc (Obj.cells #[.int .i64 l.f, .int .i64 l.t, .int .i64 0] 53)) wr.heap.size 53 (sV x) x.1 := by
            subst hx
            exact Own.lit (enc := pieceC) (w := wr.alloc (Obj.cells #[.int .i64 l.f, .int .i64 l.t] 107)) (l := [(⟨l.f, l.t, 0⟩ : PieceD)]) (by simp) (by simp) rfl rfl rfl (show 1 ≤ maxLen by decide)
          have hsx : Hid (x.1 = startBOf p v i l) := Lib.hid (by rw [HM.out, hx])
          have hOw : Own vEnc 2 ((wr.alloc (Obj.cells #[.int .i64 l.f, .int .i64 l.t] 107)).alloc (Obj.cells #[.int .i64 l.f, .int .i64 l.t, .int .i64 0] 53)) w.heap.size 112 (.slice Av items.length cv) items := by first | exact (hO.alloc _).alloc _ | exact hO.alloc _
          have hbw1 : Below wr.heap.size wr ((wr.alloc (Obj.cells #[.int .i64 l.f, .int .i64 l.t] 107)).alloc (Obj.cells #[.int .i64 l.f, .int .i64 l.t, .int .i64 0] 53)) := by go_grown
          have hAw : AllC IsSl ((wr.alloc (Obj.cells #[.int .i64 l.f, .int .i64 l.t] 107)).alloc (Obj.cells #[.int .i64 l.f, .int .i64 l.t, .int .i64 0] 53)) (.slice Av items.length cv) := hAll.ext hbw1 fun k hk => (World.ownsRow.lt hO k hk).2
          have hzw := hbw1.size
          have BE := HE.out.blk.ext hbw1
          go_wp2_with (at_builtin; refine wpList_append_all (Z := IsSl) (enc := vEnc) rfl (.tmp 47) (.tmp 51) 108 rfl w.heap.size 112 i0 _ 2 48 Tryz.underlying108 hi hz0 hz1 hz2 rfl (by decide) _ items (x, x) rfl hOw #[.slice (some ⟨wr.heap.size + 1, 0, none⟩) 1 1, .slice (some ⟨wr.heap.size + 1, 0, none⟩) 1 1] (by rw [hx]; rfl) _ (by simp) rfl rfl (by simp [Value.oneCell']) (by omega) (by decide) (by omega) hAw vertex_zero (by intro u hu; simp at hu; exact ⟨_, _, _, hu⟩) (vEnc_sl items) ?_; intro v6 w6 hown6 hbb6 hoth6 hall6; obtain ⟨its, hits⟩ : ∃ its, items ++ [(x, x)] = its := ⟨_, rfl⟩; rw [hits] at hown6; have HIT := Lib.hid hits; clear hits; obtain ⟨A6, c6, rfl⟩ := hown6.form; have BE6 := hoth6 _ _ _ BE (by decide); have hcell6 := BE6.cell 4; have hfz6 := BE6.frozen 4; have hebl6 := BE6.lt)
          go_roundw
          case rel =>
            have hits := HIT.out
            subst hits
            have hne6 := hown6.other BE6 (by decide)
            have hown7 := hown6.keep (keep_store BE6 (by decide) 4 (.slice A6 (items ++ [(x, x)]).length c6))
            have hall7 : AllC IsSl (w6.setCell ⟨eb, 4, none⟩ (.slice A6 (items ++ [(x, x)]).length c6)) (.slice A6 (items ++ [(x, x)]).length c6) := hall6.far hne6
            have BE7 := BE6.set_ 4 (.slice A6 (items ++ [(x, x)]).length c6)
            have hxo6 : Own pieceC 3 (w6.setCell ⟨eb, 4, none⟩ (.slice A6 (items ++ [(x, x)]).length c6)) wr.heap.size 53 (sV x) x.1 := (hxo.keep fun b cs hB => hoth6 b _ cs hB (by decide)).keep (keep_store BE6 (by decide) 4 _)
            have hb7 : Below w.heap.size w (w6.setCell ⟨eb, 4, none⟩ (.slice A6 (items ++ [(x, x)]).length c6)) := ((HCK.out.trans (hbw1.mono hzr)).trans hbb6).setCell hebs _
            rw [List.length_append] at BE7 hown7 hall7 hxo6 hb7
            have hE7 := HE.out.more (x := x) BE7 hown7 hall7 hxo6 hzr (fun b cs hB => (hoth6 b _ cs (hB.ext hbw1) (by decide)).far (blk_ne (hoth6 b _ cs (hB.ext hbw1) (by decide)) BE6 (by decide)) _) (HG.out.ext hb7)
            rw [List.length_append]
            exact ⟨i + 1, A6, c6, items ++ [(x, x)], by go_num, by omega, by simp [HLN.out], Lib.hid (HI.out.next HL.out hsx.out), hE7, hb7⟩
          case measure => simp [intOf]; omega
        case neg =>
          have HM : Hid (startBOf p v i l = []) := Lib.hid (by unfold startBOf; rw [if_neg H3.out, if_neg h4])
          have h4b : ((i : Int) == v) = false := by simpa using h4
          clear h4
          obtain ⟨x, hx⟩ : ∃ x : VSide, x = ([], none, 0) := ⟨_, rfl⟩
          have hxo : Own pieceC 3 (wr.alloc (Obj.cells #[.int .i64 l.f, .int .i64 l.t] 107)) wr.heap.size 53 (sV x) x.1 := by
            subst hx
            exact Own.nil
          have hsx : Hid (x.1 = startBOf p v i l) := Lib.hid (by rw [HM.out, hx])
          have hOw : Own vEnc 2 (wr.alloc (Obj.cells #[.int .i64 l.f, .int .i64 l.t] 107)) w.heap.size 112 (.slice Av items.length cv) items := by first | exact (hO.alloc _).alloc _ | exact hO.alloc _
          have hbw1 : Below wr.heap.size wr (wr.alloc (Obj.cells #[.int .i64 l.f, .int .i64 l.t] 107)) := by go_grown
          have hAw : AllC IsSl (wr.alloc (Obj.cells #[.int .i64 l.f, .int .i64 l.t] 107)) (.slice Av items.length cv) := hAll.ext hbw1 fun k hk => (World.ownsRow.lt hO k hk).2
          have hzw := hbw1.size
          have BE := HE.out.blk.ext hbw1
          go_wp2_with (at_builtin; refine wpList_append_all (Z := IsSl) (enc := vEnc) rfl (.tmp 47) (.tmp 51) 108 rfl w.heap.size 112 i0 _ 2 48 Tryz.underlying108 hi hz0 hz1 hz2 rfl (by decide) _ items (x, x) rfl hOw #[.slice none 0 0, .slice none 0 0] (by rw [hx]; rfl) _ (by simp) rfl rfl (by simp [Value.oneCell']) (by omega) (by decide) (by omega) hAw vertex_zero (by intro u hu; simp at hu; exact ⟨_, _, _, hu⟩) (vEnc_sl items) ?_; intro v6 w6 hown6 hbb6 hoth6 hall6; obtain ⟨its, hits⟩ : ∃ its, items ++ [(x, x)] = its := ⟨_, rfl⟩; rw [hits] at hown6; have HIT := Lib.hid hits; clear hits; obtain ⟨A6, c6, rfl⟩ := hown6.form; have BE6 := hoth6 _ _ _ BE (by decide); have hcell6 := BE6.cell 4; have hfz6 := BE6.frozen 4; have hebl6 := BE6.lt)
          go_roundw
          case rel =>
            have hits := HIT.out
            subst hits
            have hne6 := hown6.other BE6 (by decide)
            have hown7 := hown6.keep (keep_store BE6 (by decide) 4 (.slice A6 (items ++ [(x, x)]).length c6))
            have hall7 : AllC IsSl (w6.setCell ⟨eb, 4, none⟩ (.slice A6 (items ++ [(x, x)]).length c6)) (.slice A6 (items ++ [(x, x)]).length c6) := hall6.far hne6
            have BE7 := BE6.set_ 4 (.slice A6 (items ++ [(x, x)]).length c6)
            have hxo6 : Own pieceC 3 (w6.setCell ⟨eb, 4, none⟩ (.slice A6 (items ++ [(x, x)]).length c6)) wr.heap.size 53 (sV x) x.1 := (hxo.keep fun b cs hB => hoth6 b _ cs hB (by decide)).keep (keep_store BE6 (by decide) 4 _)
            have hb7 : Below w.heap.size w (w6.setCell ⟨eb, 4, none⟩ (.slice A6 (items ++ [(x, x)]).length c6)) := ((HCK.out.trans (hbw1.mono hzr)).trans hbb6).setCell hebs _
            rw [List.length_append] at BE7 hown7 hall7 hxo6 hb7
            have hE7 := HE.out.more (x := x) BE7 hown7 hall7 hxo6 hzr (fun b cs hB => (hoth6 b _ cs (hB.ext hbw1) (by decide)).far (blk_ne (hoth6 b _ cs (hB.ext hbw1) (by decide)) BE6 (by decide)) _) (HG.out.ext hb7)
            rw [List.length_append]
            exact ⟨i + 1, A6, c6, items ++ [(x, x)], by go_num, by omega, by simp [HLN.out], Lib.hid (HI.out.next HL.out hsx.out), hE7, hb7⟩
          case measure => simp [intOf]; omega
end Go.Proofs.YtdpibehpmghghaaGreat
