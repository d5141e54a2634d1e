/- Several texts in one: BspRun, BspSame, BspRuns, BspTell. -/
import Derived.Test.YtdpibehpmghghaaGreatBd3bf43a7fd8
import Derived.Test.YtdpibehpmghghaaGreatBd959ef1de62
import Derived.Test.YtdpibehpmghghaaGreatBd127ac6da48
import Derived.Test.YtdpibehpmghghaaGreatBd719dc879f0
import Derived.Test.YtdpibehpmghghaaGreatBd8ba506424c
import Derived.Test.YtdpibehpmghghaaGreatBd0099a17721
/- The walks of (*bsp.engine).run, bsp.Run and its closures (printed by genrun.py). -/
namespace Go.Proofs.YtdpibehpmghghaaGreat
open Go.RowKit

def sideC (x : VSide) : List Value := [sV x]
theorem info_maps : (Tryz.prog.info? 42).map (fun i => (i.zero, i.size, i.bytes)) = some (some (.slice none 0 0), 1, 24) := by kernel_rfl
theorem info_maps2 : ∃ i, Tryz.prog.info? 42 = some i ∧ i.zero = some (.slice none 0 0) ∧ i.size = 1 ∧ i.bytes = 24 := by
  obtain ⟨i0, hi, hzz⟩ := Option.map_eq_some_iff.1 info_maps
  simp only [Prod.mk.injEq] at hzz
  exact ⟨i0, hi, hzz.1, hzz.2.1, hzz.2.2⟩
/-- What a run tells, in memory of its own. -/
def RunOut (w0 : World) (g : GraphD) (p v : Int) (en : Ending) (w' : World) : Prop := ∃ (Ao : Option Addr) (co k : Nat) (sides : List VSide), en = .returned (.tuple #[.slice Ao sides.length co, .int .i64 k, .int .i64 0]) ∧
  Own sideC 1 w' w0.heap.size 42 (.slice Ao sides.length co) sides ∧ Sides w' w0.heap.size 53 sides ∧ Hid (RunSay g p v k (sides.map Prod.fst)) ∧ Below w0.heap.size w0 w'
section
variable {g : GraphD} {p v : Int} {k : Nat} {items items' : List VItem} {was : Nat → Int → Int}
theorem RoundK.step (hK : RoundK g.h (sendL g p (frsOf items)) items items' items.length) (hl : items.length = g.lives.length) : Step g p (stsOf items) (frsOf items) (stsOf items') (frsOf items') := by
  refine ⟨by simp [stsOf, hK.len, hl], by simp [frsOf, hK.len, hl], fun i m m' f' h1 h2 h3 => ?_⟩
  unfold stsOf at h1 h2
  unfold frsOf at h3
  rw [List.getElem?_map] at h1 h2 h3
  obtain ⟨it, hit, rfl⟩ := Option.map_eq_some_iff.1 h1
  obtain ⟨it', hit', rfl⟩ := Option.map_eq_some_iff.1 h2
  rw [hit'] at h3
  obtain rfl := Option.some.inj h3
  exact hK.done i it it' (lt_of_get hit) hit hit'
theorem some_iff : isSome items' items'.length = true ↔ ∃ f, f ∈ frsOf items' ∧ f ≠ [] := by
  unfold isSome frsOf
  rw [List.take_length, List.any_eq_true]
  constructor
  · rintro ⟨it, hi, h⟩
    exact ⟨it.2.1, List.mem_map.2 ⟨it, hi, rfl⟩, fun e => by rw [e] at h; simp at h⟩
  · rintro ⟨f, hf, hne⟩
    obtain ⟨it, hi, rfl⟩ := List.mem_map.1 hf
    exact ⟨it, hi, by simpa using List.length_pos_iff.2 hne⟩
theorem mids_lies (hM : BMid g p v k (stsOf items) (frsOf items) was) : ∀ it, it ∈ items → Lies g.h it.1.1 := fun it hi => hM.st.lies _ (List.mem_map.2 ⟨it, hi, rfl⟩)
/-- Mail goes to vertices, within the horizon. -/
theorem send_in (hM : BMid g p v k (stsOf items) (frsOf items) was) (hV : Valid g) (hl : items.length = g.lives.length) : ∀ m, m ∈ sendL g p (frsOf items) → (0 ≤ m.1 ∧ m.1 < items.length) ∧ MsgIn g.h m.2 := fun m hm => by
  obtain ⟨h1, h2, h3⟩ := hM.st.mail hV hm
  rw [hl]
  obtain ⟨⟨a, _, _, h4, h5, h6, c, h7, h8, h9⟩, h10, _⟩ := h3 m.2.f (Int.le_refl _) h2
  obtain ⟨_, h11, _⟩ := h3 (m.2.t - 1) (by omega) (by omega)
  have hB := hM.bound hV h10 a.a
  have hk := hM.few hV
  have hn := hV.nl
  rw [h9] at h4
  simp only at h4
  refine ⟨h1, ⟨h10.1, h2, by omega⟩, by omega, ?_⟩
  unfold Far at hB
  omega
end
set_option maxRecDepth 100000 in
set_option maxHeartbeats 8000000 in
theorem run_any (e c c' cv bx : Nat) (A A' Av : Option Addr) (g : GraphD) (p v : Int) (items : List VItem) (fs : Nat) (lb : Array Value) (tc : TypeId) (htc : tc ≠ 112) (w0 w : World) (hE : EngV w w0.heap.size e A c A' c' g p Av cv items) (hM : BMid g p v 0 (stsOf items) (frsOf items) (fun _ _ => Far))
    (hG0 : GraphAt w0 A c A' c' g) (hb0 : Below w0.heap.size w0 w) (hcap : Blk w bx tc #[.pointer (some ⟨e, 0, none⟩)]) (eg : ∀ args w, (callFunc fs args).run Tryz.prog w = .ok (.enter fs args) w)
    (hs : ∀ (W : World) (its : List VItem), EngV W w0.heap.size e A c A' c' g p Av cv its → Blk W bx tc #[.pointer (some ⟨e, 0, none⟩)] → Calls Tryz.prog fs lb W (SendOut (sendL g p (frsOf its)) W)) :
    Calls Tryz.prog 34 #[.pointer (some ⟨e, 0, none⟩), .func (.func fs) #[] lb] w (RunOut w0 g p v) := by
  obtain ⟨i0, hi, hz0, hz1, hz2⟩ := info_maps2
  have HV := Lib.hid hE.val; have HG0 := Lib.hid hG0; have HS := Lib.hid hs; have HE0 := Lib.hid hE; have HM0 := Lib.hid hM
  clear hG0 hs hE hM
  go_enter Tryz.func34, Tryz.ntmps34
  go_wp2_with fail
  go_loopw [7] (fun x wt => ∃ (k : Nat) (its : List VItem), x = .int .i64 k ∧ k ≤ g.lives.length ∧ Hid (∃ was, BMid g p v k (stsOf its) (frsOf its) was) ∧ EngV wt w0.heap.size e A c A' c' g p Av cv its ∧ Blk wt bx tc #[.pointer (some ⟨e, 0, none⟩)] ∧ Below w0.heap.size w0 wt) (fun x _ => g.lives.length - (intOf x).toNat)
  case atStart => exact ⟨0, items, rfl, Nat.zero_le _, Lib.hid ⟨_, HM0.out⟩, HE0.out, hcap, hb0⟩
  case round =>
    clear hcap hb0
    obtain ⟨k, its, rfl, hk, HM, hE, hcap, hb⟩ := hrel
    have hsn := HS.out wr its hE hcap
    have HE := Lib.hid hE
    have hnl := HV.out.nl
    clear hE
    go_wp2_with fail
    refine hsn.mono ?_
    rintro en w1 ⟨mv, rfl, hmo, hml, hb1⟩
    obtain ⟨Am, cm, rfl, hMs, hlc, hcm⟩ := own_mail hmo
    have hE1 := HE.out.ext hb1
    obtain ⟨was, hM⟩ := HM.out
    have hr := round_any e c c' cv cm A A' Av Am g p its (sendL g p (frsOf its)) w0 w1 hE1 rfl HG0.out (ext_trans hb hb1) (mids_lies hM) hMs hml (send_in hM HV.out HE.out.len)
    have hcap1 := hcap.ext hb1
    have HMB := Lib.hid hM
    clear hsn hmo hMs hE1 hM hb1 hcap
    go_wp2_with fail
    refine hr.mono ?_
    rintro en2 w2 ⟨its2, rfl, hE2, HK, hb2, hkp⟩
    have hcap2 := hkp _ _ _ hcap1 htc
    have HST := Lib.hid (HK.out.step HE.out.len)
    clear hr hkp hcap1 hml hlc hcm
    cases hsm : isSome its2 its2.length with
    | true =>
      have HNX := Lib.hid (HMB.out.next HV.out HST.out (some_iff.1 hsm))
      clear hsm
      go_wp2_with fail
      go_roundw
      case rel => exact ⟨k + 1, its2, by go_num, HNX.out.1, Lib.hid ⟨_, HNX.out.2⟩, hE2, hcap2, hb2⟩
      case measure => have := HNX.out.1; simp [intOf]; omega
    | false =>
      have HR : Hid (RunSay g p v k (stsOf its2)) := Lib.hid (by
        obtain ⟨h1, h2⟩ := HMB.out.done HV.out HST.out fun f hf => Classical.byContradiction fun hne => by
          rw [some_iff.2 ⟨f, hf, hne⟩] at hsm
          cases hsm
        rw [h1]
        exact h2)
      have hcell : w2.cell? ⟨e, 4, none⟩ = some (.slice Av its2.length cv) := hE2.eng.blk.cell 4
      have hel := hE2.eng.blk.lt
      have hl2 : its2.length ≤ 12 := by rw [hE2.len]; exact hnl
      have HE2 := Lib.hid hE2
      have hw2 : w0.heap.size ≤ w2.heap.size := hb2.size
      clear hsm hcap2 hE2
      go_wp2_with fail
      clear hcell hel
      go_loopw [8, 22] (fun u x wt => ∃ i : Nat, x = .int .i64 i ∧ i ≤ its2.length ∧ Own sideC 1 wt w2.heap.size 42 u ((its2.map Prod.fst).take i) ∧ Below w2.heap.size w2 wt) (fun _ x _ => its2.length - (intOf x).toNat)
      case atStart => exact ⟨0, rfl, Nat.zero_le _, Own.nil, Below.refl _ _⟩
      case round =>
        obtain ⟨i, rfl, hil, hO, hb3⟩ := hrel
        obtain ⟨o, ho⟩ : ∃ o, (its2.map Prod.fst).take i = o := ⟨_, rfl⟩
        rw [ho] at hO
        have HO := Lib.hid ho
        have hol : o.length ≤ 12 := by rw [← ho, List.length_take, List.length_map]; omega
        obtain ⟨Ao, co, rfl⟩ := hO.form
        have hz3 := hb3.size
        clear ho
        by_cases hlt : i < its2.length
        case neg =>
          have HF : Hid (o = its2.map Prod.fst) := Lib.hid (by rw [← HO.out, List.take_of_length_le (by rw [List.length_map]; omega)])
          go_wp2_with fail
          refine bodyPost_ret (v := .tuple #[.slice Ao o.length co, .int .i64 k, .int .i64 0]) (by simp [results, Tryz.results34]) rfl ?_
          refine ⟨Ao, co, k, o, rfl, hO.since hw2, ?_, ?_, hb2.trans (hb3.mono hw2)⟩
          · rw [HF.out]
            exact HE2.out.eng.st.ext hb3
          · rw [HF.out, List.map_map]
            exact HR
        case pos =>
          obtain ⟨it, hit⟩ := get_lt hlt
          obtain ⟨gv, cs, rfl, hgv, hBV, hcz, hlc, hcm, hcs, hsl⟩ := HE2.out.eng.vert (by omega)
          obtain ⟨c0, c1⟩ := hcs i it hit
          have hgvl : gv < wr.heap.size := Nat.lt_of_lt_of_le hBV.lt hz3
          have k0 : wr.cell? ⟨gv, i * 2, none⟩ = some (.slice it.1.2.1 it.1.1.length it.1.2.2) := (hb3.cell (p := ⟨gv, i * 2, none⟩) hBV.lt).trans ((hBV.cell _).trans c0)
          have k1 : wr.cell? ⟨gv, i * 2 + 1, none⟩ = some (.slice it.2.2.1 it.2.1.length it.2.2.2) := (hb3.cell (p := ⟨gv, i * 2 + 1, none⟩) hBV.lt).trans ((hBV.cell _).trans c1)
          have HNX : Hid ((its2.map Prod.fst).take (i + 1) = o ++ [it.1]) := Lib.hid (by rw [List.take_add_one, HO.out, List.getElem?_map, hit]; rfl)
          clear hcs hsl c0 c1 hBV hit hcz hlc hcm
          have hO1 := hO.alloc (Obj.cells #[.slice it.1.2.1 it.1.1.length it.1.2.2, .slice it.2.2.1 it.2.1.length it.2.2.2] 112)
          have hb31 := ext_alloc hb3 (Obj.cells #[.slice it.1.2.1 it.1.1.length it.1.2.2, .slice it.2.2.1 it.2.1.length it.2.2.2] 112)
          have hz31 := hb31.size
          go_wp2_with (at_builtin; refine wpList_append_lie (enc := sideC) rfl (.tmp 26) (.tmp 29) 27 rfl w2.heap.size 42 i0 _ 1 24 Tryz.underlying27 hi hz0 hz1 hz2 rfl (by decide) _ o it.1 rfl hO1 #[.slice it.1.2.1 it.1.1.length it.1.2.2] rfl _ (by simp) rfl rfl (by simp [Value.oneCell']) (by omega) (by decide) hz31 ?_; intro g6 cap6 w6 hown6 hbb6 hoth6 hlie6; have hb36 := hb31.trans hbb6)
          go_roundw
          case rel => exact ⟨i + 1, by go_num, by omega, by rw [HNX.out]; exact hown6, hb36⟩
          case measure => simp [intOf]; omega
theorem enters_mine : Enters Tryz.prog 37 := enters_of Tryz.func37 (by kernel_rfl) rfl
theorem enters_sender : Enters Tryz.prog 35 := enters_of Tryz.func35 (by kernel_rfl) rfl
theorem mine_any (x : Int) (w : World) : Calls Tryz.prog 37 #[.int .i64 x] w fun e w' => e = .returned (.bool true) ∧ Below w.heap.size w w' := by
  go_enter Tryz.func37, Tryz.ntmps37
  go_wp2_with fail
  go_ret
  exact ⟨rfl, by go_grown⟩
set_option maxHeartbeats 2000000 in
theorem sender_any (base e c c' cv bx : Nat) (A A' Av : Option Addr) (g : GraphD) (p : Int) (its : List VItem) (w : World) (hE : EngV w base e A c A' c' g p Av cv its) (hB : Blk w bx 68 #[.pointer (some ⟨e, 0, none⟩)]) :
    Calls Tryz.prog 35 #[.pointer (some ⟨bx, 0, none⟩)] w (SendOut (sendL g p (frsOf its)) w) := by
  have hs := send_any base e c c' cv A A' Av g p its 37 #[] (fun _ => true) w hE enters_mine fun W x _ => mine_any x W
  rw [sendM_all] at hs
  have hcell : w.cell? ⟨bx, 0, none⟩ = some (.pointer (some ⟨e, 0, none⟩)) := hB.cell 0
  go_enter Tryz.func35, Tryz.ntmps35
  go_wp2_with fail
  refine hs.mono ?_
  rintro en w1 ⟨v, rfl, h1, h2, h3⟩
  clear hs
  go_wp2_with fail
  go_ret
  exact ⟨v, rfl, h1, h2, h3⟩
section
variable {w w' : World} {base b0 e c c' cv : Nat} {A A' Av : Option Addr} {g : GraphD} {p v : Int} {items : List VItem}
theorem Eng.since (h : Eng w base e A c A' c' g p Av cv items) (hb : b0 ≤ base) : Eng w b0 e A c A' c' g p Av cv items :=
  ⟨h.blk, Nat.le_trans hb h.eb, h.own.since hb, h.all, ⟨fun x hx => (h.st.own x hx).since hb, h.st.apart⟩, fun it hi => (h.fr it hi).since hb, h.gr⟩
theorem startB_few (hV : Valid g) : ∀ m, m ∈ startB g p v → (∀ q, q ∈ m → MsgIn g.h q) ∧ m.length ≤ 100 := fun m hm => by
  obtain ⟨i, hi⟩ := List.getElem?_of_mem hm
  obtain ⟨l, hl⟩ := get_lt (show i < g.lives.length by
    have := lt_of_get hi
    rwa [startB_len] at this)
  rw [startB_get hl] at hi
  obtain rfl := Option.some.inj hi
  refine ⟨lies_msg (startB_lies hV hl), ?_⟩
  unfold startBOf
  split
  · simp
  · split <;> simp
end
def RunR (g : GraphD) (p v : Int) (w : World) (e : Ending) (w' : World) : Prop := (runErr g p v ≠ 0 ∧ e = .returned (.tuple #[.slice none 0 0, .int .i64 0, .int .i64 (runErr g p v)]) ∧ Below w.heap.size w w') ∨ (runErr g p v = 0 ∧ RunOut w g p v e w')
theorem runErr_valid {g : GraphD} {p v : Int} (h : runErr g p v = 0) : Valid g := by
  unfold runErr at h
  split at h
  · next h1 => exact valid_of h1
  · next h1 => exact absurd h h1
set_option maxHeartbeats 4000000 in
theorem bspRun_any (A A' : Option Addr) (c c' : Nat) (g : GraphD) (p v : Int) (w : World) (hG : GraphAt w A c A' c' g) :
    Calls Tryz.prog 9 #[gV A c A' c' g, .int .i64 p, .int .i64 v] w (RunR g p v w) := by
  have hent := enters_sender
  unfold Enters at hent
  have HG := Lib.hid hG
  clear hG
  by_cases h0 : runErr g p v = 0
  case neg =>
    have hne : (runErr g p v != 0) = true := by simp [h0]
    have H0 := Lib.hid h0
    clear h0
    go_enter Tryz.func9, Tryz.ntmps9
    go_wp2_with fail
    refine (bspCheck_any A A' c c' g p v _ (HG.out.ext (by go_grown))).mono ?_
    rintro e w1 ⟨rfl, hb1⟩
    have hb2 : Below w.heap.size w w1 := ext_trans (by go_grown) hb1
    go_wp2_with fail
    refine bodyPost_ret (v := .tuple #[.slice none 0 0, .int .i64 0, .int .i64 (runErr g p v)]) (by simp [results, Tryz.results9]) rfl ?_
    exact .inl ⟨H0.out, rfl, hb2⟩
  case pos =>
    have hne : (runErr g p v != 0) = false := by simp [h0]
    have H0 := Lib.hid h0
    have hV := runErr_valid h0
    have HV := Lib.hid hV
    clear h0 hV
    go_enter Tryz.func9, Tryz.ntmps9
    go_wp2_with fail
    refine (bspCheck_any A A' c c' g p v _ (HG.out.ext (by go_grown))).mono ?_
    rintro e w1 ⟨rfl, hb1⟩
    obtain ⟨B0, c1, c2, c3⟩ := (Blk.new w 25 (gC A c A' c' g)).go hb1
    have hb2 : Below w.heap.size w w1 := ext_trans (by go_grown) hb1
    clear hb1
    go_wp2_with fail
    refine (start_any A A' c c' g p v w1 (HG.out.ext hb2) HV.out).mono ?_
    rintro e w2 ⟨eb, Av, cv, items, rfl, hE, HS, hb3⟩
    have hb4 := ext_trans hb2 hb3
    have hz := hb2.size
    clear c1 c2 c3 hb3 B0
    have hE2 : EngV (w2.alloc (Obj.cells #[.pointer (some ⟨eb, 0, none⟩)] 68)) w.heap.size eb A c A' c' g p Av cv items := ⟨(hE.since hz).ext (ext_alloc (Below.refl _ _) _), by
      have h1 := congrArg List.length HS.out.1
      rwa [startB_len, stsOf, List.length_map] at h1, HV.out, fun it hi => startB_few HV.out _ (by rw [← HS.out.2]; exact List.mem_map.2 ⟨it, hi, rfl⟩)⟩
    have hBx := Blk.new w2 68 #[.pointer (some ⟨eb, 0, none⟩)]
    have hM : BMid g p v 0 (stsOf items) (frsOf items) (fun _ _ => Far) := by rw [HS.out.1, HS.out.2]; exact startB_mid HV.out p v
    have hru := run_any eb c c' cv w2.heap.size A A' Av g p v items 35 #[.pointer (some ⟨w2.heap.size, 0, none⟩)] 68 (by decide) w _ hE2 hM HG.out (ext_alloc hb4 _) hBx enters_sender (fun W its h1 h2 => sender_any _ _ _ _ _ _ _ _ _ _ _ _ W h1 h2)
    have hcell : (w2.alloc (Obj.cells #[.pointer (some ⟨eb, 0, none⟩)] 68)).cell? ⟨w2.heap.size, 0, none⟩ = some (.pointer (some ⟨eb, 0, none⟩)) := hBx.cell 0
    clear hE hE2 hM hBx
    go_wp2_with fail
    refine hru.mono ?_
    rintro e w3 ⟨Ao, co, k, sides, rfl, r1, r2, r3, r4⟩
    clear hru hcell
    go_wp2_with fail
    refine bodyPost_ret (v := .tuple #[.slice Ao sides.length co, .int .i64 k, .int .i64 0]) (by simp [results, Tryz.results9]) rfl ?_
    exact .inr ⟨H0.out, Ao, co, k, sides, rfl, r1, r2, r3, r4⟩
end Go.Proofs.YtdpibehpmghghaaGreat
/- What a run tells is one; the run of the pair; no program in sight. -/
namespace Go.Proofs.YtdpibehpmghghaaGreat

section
variable {p v : Int} {k k' : Nat} {g : GraphD} {out out' : List (List PieceD)}
theorem RunSay.le (h : RunSay g p v k out) (h' : RunSay g p v k' out') : k ≤ k' := by
  rcases h.last with h0 | ⟨t, d, ht, j, hj, hd, hne⟩
  · omega
  · obtain ⟨a1, a2⟩ := h'.at_ t ht.1 ht.2
    obtain ⟨b1, _⟩ := h.at_ t ht.1 ht.2
    exact a1.first a2 b1 (.inr ⟨j, d, hj, hd, hne⟩)
theorem RunSay.eq (h : RunSay g p v k out) (h' : RunSay g p v k' out') : k = k' ∧ out = out' := by
  have hk : k = k' := Nat.le_antisymm (h.le h') (h'.le h)
  subst hk
  refine ⟨rfl, List.ext_getElem? fun i => ?_⟩
  rcases Nat.lt_or_ge i g.lives.length with hi | hi
  · obtain ⟨m, hm⟩ := get_lt (show i < out.length by rw [h.len]; exact hi)
    obtain ⟨m', hm'⟩ := get_lt (show i < out'.length by rw [h'.len]; exact hi)
    have l1 := h.lies m (List.mem_of_getElem? hm)
    have l2 := h'.lies m' (List.mem_of_getElem? hm')
    rw [hm, hm', l1.eq l2 fun t => ?_]
    by_cases ht : 0 ≤ t ∧ t < g.h
    · have h1 := (h.at_ t ht.1 ht.2).1.eq (h'.at_ t ht.1 ht.2).1
      rw [← dAt_of hm, ← dAt_of hm', h1]
    · rcases l1.val_cases t with ⟨k1, _⟩ | ⟨_, _, k2, _⟩
      · rcases l2.val_cases t with ⟨k3, _⟩ | ⟨_, _, k4, _⟩
        · rw [k1, k3]
        · exact absurd k4 ht
      · exact absurd k2 ht
  · rw [List.getElem?_eq_none (by rw [h.len]; exact hi), List.getElem?_eq_none (by rw [h'.len]; exact hi)]
end
def pairRun : List (List PieceD) := [[⟨0, 10, 0⟩], [⟨2, 4, 7⟩]]
theorem pair_runV : Valid pairG := valid_of (by decide)
theorem pair_step1 : Step pairG 2 (startB pairG 2 0) (startB pairG 2 0) pairRun [[], [⟨2, 4, 7⟩]] := by
  have e0 : startB pairG 2 0 = [[⟨0, 10, 0⟩], []] := by rfl
  have b0 : boxL (sendL pairG 2 (startB pairG 2 0)) 0 = [] := by rfl
  have b1 : boxL (sendL pairG 2 (startB pairG 2 0)) 1 = [⟨2, 4, 7⟩] := by rfl
  refine ⟨rfl, rfl, fun i m m' f' h1 h2 h3 => ?_⟩
  rw [e0] at h1
  match i, h1, h2, h3 with
  | 0, h1, h2, h3 =>
    obtain rfl : [⟨0, 10, 0⟩] = m := by simpa using h1
    obtain rfl : [⟨0, 10, 0⟩] = m' := by simpa [pairRun] using h2
    obtain rfl : [] = f' := by simpa using h3
    refine ⟨lies_single (by decide) (by decide), fun t => ?_, ⟨.nil, fun x hx => by simp at hx, fun x hx => by simp at hx, fun t ht => absurd ht (Int.lt_irrefl _)⟩⟩
    rw [show ((0 : Nat) : Int) = 0 from rfl, b0]
    rfl
  | 1, h1, h2, h3 =>
    obtain rfl : [] = m := by simpa using h1
    obtain rfl : [⟨2, 4, 7⟩] = m' := by simpa [pairRun] using h2
    obtain rfl : [⟨2, 4, 7⟩] = f' := by simpa using h3
    have hl : Lies pairG.h [⟨2, 4, 7⟩] := lies_single (by decide) (by decide)
    refine ⟨hl, fun t => ?_, fresh_first hl⟩
    rw [show ((1 : Nat) : Int) = 1 from rfl, b1, minAt_cons, minAt_nil, val_single]
    have hF : val [] t = Far := rfl
    rw [hF]
    unfold inP Far
    by_cases h : (2 : Int) ≤ t ∧ t < 4 <;> simp [h] <;> omega
  | i + 2, h1, h2, h3 => simp at h1
theorem pair_step2 : Step pairG 2 pairRun [[], [⟨2, 4, 7⟩]] pairRun [[], []] := by
  have b0 : boxL (sendL pairG 2 [[], [⟨2, 4, 7⟩]]) 0 = [] := by rfl
  have b1 : boxL (sendL pairG 2 [[], [⟨2, 4, 7⟩]]) 1 = [] := by rfl
  have hn : ∀ m, FreshIs pairG.h m (val m) [] := fun m => ⟨.nil, fun x hx => by simp at hx, fun x hx => by simp at hx, fun t ht => absurd ht (Int.lt_irrefl _)⟩
  refine ⟨rfl, rfl, fun i m m' f' h1 h2 h3 => ?_⟩
  rw [h1] at h2
  obtain rfl := Option.some.inj h2
  match i, h1, h3 with
  | 0, h1, h3 =>
    obtain rfl : [⟨0, 10, 0⟩] = m := by simpa [pairRun] using h1
    obtain rfl : [] = f' := by simpa using h3
    refine ⟨lies_single (by decide) (by decide), fun t => ?_, hn _⟩
    rw [show ((0 : Nat) : Int) = 0 from rfl, b0]
    rfl
  | 1, h1, h3 =>
    obtain rfl : [⟨2, 4, 7⟩] = m := by simpa [pairRun] using h1
    obtain rfl : [] = f' := by simpa using h3
    refine ⟨lies_single (by decide) (by decide), fun t => ?_, hn _⟩
    rw [show ((1 : Nat) : Int) = 1 from rfl, b1]
    rfl
  | i + 2, h1, h3 => simp [pairRun] at h1
theorem pair_run : RunSay pairG 2 0 1 pairRun := by
  have h1 := ((startB_mid pair_runV 2 0).next pair_runV pair_step1 ⟨[⟨2, 4, 7⟩], by simp, by simp⟩).2
  exact (h1.done pair_runV pair_step2 (fun f hf => by simp at hf; rcases hf with rfl | rfl <;> rfl)).2
theorem pair_ran {k : Nat} {out : List (List PieceD)} (h : RunSay pairG 2 0 k out) : k = 1 ∧ out = pairRun := h.eq pair_run
end Go.Proofs.YtdpibehpmghghaaGreat
/- What runs tell, held against each other: the walks of timekeep.runs and of EqualFunc at maps. -/
namespace Go.Proofs.YtdpibehpmghghaaGreat
open Go.RowKit

theorem same_pieces (A B : Option Addr) (c d : Nat) (l : List PieceD) (w : World) (hA : PiecesAt w A c l) (hB : PiecesAt w B d l) :
    Calls Tryz.prog 22 #[.slice A l.length c, .slice B l.length d] w fun e w' => e = .returned (.bool true) ∧ Below w.heap.size w w' :=
  (equalPieces_any A B c d l l w hA.sl hB.sl (Nat.le_trans hA.lc hA.cm) (Nat.le_trans hB.lc hB.cm)).mono fun _ _ ⟨h1, h2⟩ => ⟨by rw [h1]; simp, h2⟩
/-- A row of lists. -/
def RSide (w : World) (b o : Nat) (x : VSide) : Prop := cellIs w b o (sV x)
theorem RSide.stable : Stable RSide := fun _ _ _ _ _ hb hlt h => cellIs.ext hb hlt h
theorem own_sides {w : World} {base : Nat} {A : Option Addr} {c : Nat} {l : List VSide} (h : Own sideC 1 w base 42 (.slice A l.length c) l) : SlAt RSide 1 w A l := by
  obtain ⟨A', c', hv, hs⟩ := Own.slAt (R := RSide) (enc := sideC) (fun _ => rfl) (fun x _ b o hc => by have h1 := hc 0 _ rfl; show cellIs w b o (sV x); simpa using h1) h
  simp only [Value.slice.injEq] at hv
  obtain ⟨rfl, _⟩ := hv
  exact hs
theorem SlAt.side {w w0 : World} {A : Option Addr} {l : List VSide} {i : Nat} {x : VSide} (h : SlAt RSide 1 w0 A l) (hx : l[i]? = some x) (hb : Below w0.heap.size w0 w) : ∃ b o, A = some ⟨b, o, none⟩ ∧ b < w.heap.size ∧ w.cell? ⟨b, o + i, none⟩ = some (.slice x.2.1 x.1.length x.2.2) := by
  obtain ⟨b, o, hS⟩ := h
  obtain ⟨h1, h2, h3⟩ := hS i x hx
  unfold RSide cellIs at h3
  rw [Nat.mul_one] at h3
  exact ⟨b, o, h1, Nat.lt_of_lt_of_le h2 hb.size, (hb.cell (p := ⟨b, o + i, none⟩) h2).trans h3⟩
def SidesAt (w : World) (l : List VSide) : Prop := ∀ x, x ∈ l → PiecesAt w x.2.1 x.2.2 x.1
theorem Sides.at_ {w : World} {base : Nat} {l : List VSide} {h : Int} (hS : Sides w base 53 l) (hl : ∀ m, m ∈ l.map Prod.fst → Lies h m) (hh : h ≤ 100) : SidesAt w l := fun x hx => ownPieces_at (hS.own x hx) (lies_msg (hl _ (List.mem_map.2 ⟨x, hx, rfl⟩))) hh
theorem SidesAt.ext {w w' : World} {l : List VSide} (h : SidesAt w l) (hb : Below w.heap.size w w') : SidesAt w' l := fun x hx => (h x hx).ext hb
set_option maxRecDepth 100000 in
set_option maxHeartbeats 4000000 in
theorem equalMaps_any (fe : Nat) (eg : ∀ args w, (callFunc fe args).run Tryz.prog w = .ok (.enter fe args) w) (he : ∀ (A B : Option Addr) (c d : Nat) (l : List PieceD) (w : World), PiecesAt w A c l → PiecesAt w B d l → Calls Tryz.prog fe #[.slice A l.length c, .slice B l.length d] w fun e w' => e = .returned (.bool true) ∧ Below w.heap.size w w')
    (A B : Option Addr) (c d n : Nat) (r s : List VSide) (w : World) (hA : SlAt RSide 1 w A r) (hB : SlAt RSide 1 w B s) (h1 : SidesAt w r) (h2 : SidesAt w s) (hm : r.map Prod.fst = s.map Prod.fst) (hn : r.length = n) (hn2 : n ≤ 12) :
    Calls Tryz.prog 20 #[.slice A n c, .slice B n d, .func (.func fe) #[] #[]] w fun e w' => e = .returned (.bool true) ∧ Below w.heap.size w w' := by
  have H1 := Lib.hid h1; have H2 := Lib.hid h2; have HA := Lib.hid hA; have HB := Lib.hid hB; have HM := Lib.hid hm; have HN := Lib.hid hn; have HE := Lib.hid he
  clear h1 h2 hA hB hm hn he
  go_enter Tryz.func20, Tryz.ntmps20
  go_wp2_with fail
  go_loopw [17] (fun x wr => ∃ k : Nat, k ≤ n ∧ x = .int .i64 k ∧ Below w.heap.size w wr) (fun x _ => n - (intOf x).toNat)
  case atStart => exact ⟨0, Nat.zero_le _, rfl, Below.refl _ _⟩
  case round =>
    obtain ⟨k, hk, rfl, hb⟩ := hrel
    by_cases hlt : k < n
    case neg =>
      obtain rfl : k = n := by omega
      go_wp2_with fail
      go_ret
      exact ⟨rfl, hb⟩
    case pos =>
      obtain ⟨x, hx⟩ := get_lt (show k < r.length by rw [HN.out]; exact hlt)
      obtain ⟨y, hy⟩ := get_lt (show k < s.length by
        have := congrArg List.length HM.out
        rw [List.length_map, List.length_map, HN.out] at this
        omega)
      have hxy : x.1 = y.1 := by
        have := congrArg (fun l => l[k]?) HM.out
        simp only [List.getElem?_map, hx, hy, Option.map_some] at this
        exact Option.some.inj this
      obtain ⟨b1, o1, rfl, l1, x1⟩ := HA.out.side hx hb
      obtain ⟨b2, o2, rfl, l2, x2⟩ := HB.out.side hy hb
      rw [← hxy] at x2
      have g1 := (H1.out.ext hb) x (List.mem_of_getElem? hx)
      have g2 := (H2.out.ext hb) y (List.mem_of_getElem? hy)
      rw [← hxy] at g2
      have hcl := HE.out x.2.1 y.2.1 x.2.2 y.2.2 x.1 wr g1 g2
      clear hx hy hxy g1 g2
      go_wp2_with fail
      refine hcl.mono ?_
      rintro e w1 ⟨rfl, hb1⟩
      go_wp2_with fail
      go_roundw
      case rel => exact ⟨k + 1, by omega, by go_num, ext_trans hb hb1⟩
      case measure => simp [intOf]; omega
theorem piece_lit {w : World} {k : Nat} {t : TypeId} {a b d : Int} (hB : Blk w k t #[.int .i64 a, .int .i64 b, .int .i64 d]) (ha : I64 a) (hb : I64 b) (hd : I64 d) : PiecesAt w (some ⟨k, 0, none⟩) 1 [⟨a, b, d⟩] := by
  refine ⟨Nat.le_refl _, by decide, k, 0, fun i x hx => ?_⟩
  match i, hx with
  | 0, hx =>
    obtain rfl : (⟨a, b, d⟩ : PieceD) = x := by simpa using hx
    exact ⟨rfl, hB.lt, ⟨by unfold cellIs; rw [hB.cell]; rfl, by unfold cellIs; rw [hB.cell]; rfl, by unfold cellIs; rw [hB.cell]; rfl⟩, ha, hb, hd⟩
  | i + 1, hx => simp at hx
theorem pair_runErr : runErr pairG 2 0 = 0 := by decide
set_option maxRecDepth 100000 in
set_option maxHeartbeats 4000000 in
theorem runs_any (w : World) : Calls Tryz.prog 8 #[] w fun e w' => e = .returned (.bool true) ∧ Below w.heap.size w w' := by
  go_enter Tryz.func8, Tryz.ntmps8
  go_wp2_with fail
  refine (pair_any _).mono ?_
  rintro e w1 ⟨A, c, A', c', rfl, hG, hb1⟩
  go_wp2_with fail
  refine (bspRun_any A A' c c' pairG 2 0 w1 hG).mono ?_
  rintro e w2 (⟨h1, _⟩ | ⟨_, Ao, co, k, sides, rfl, hO, hS, HR, hb2⟩)
  · exact absurd pair_runErr h1
  obtain ⟨rfl, hsd⟩ := pair_ran HR.out
  have hat := hS.at_ (h := 10) (fun m hm => by rw [hsd] at hm; exact pair_run.lies m hm) (by decide)
  have hsl := own_sides hO
  match sides, hsd, hat, hsl with
  | [x, y], hsd, hat, hsl =>
    obtain ⟨e1, e2⟩ : x.1 = [⟨0, 10, 0⟩] ∧ y.1 = [⟨2, 4, 7⟩] := by simpa [pairRun] using hsd
    obtain ⟨b1, o1, rfl, l1, x1⟩ := hsl.side (i := 0) rfl (Below.refl _ _)
    obtain ⟨b2, o2, hA2, _, x2⟩ := hsl.side (i := 1) rfl (Below.refl _ _)
    obtain ⟨rfl, rfl⟩ : b1 = b2 ∧ o1 = o2 := by simpa using hA2
    have x1 : w2.cell? ⟨b1, o1, none⟩ = some (.slice x.2.1 1 x.2.2) := by rw [Nat.add_zero] at x1; rw [x1, e1]; rfl
    have x2 : w2.cell? ⟨b1, o1 + 1, none⟩ = some (.slice y.2.1 1 y.2.2) := by rw [x2, e2]; rfl
    have p1 := hat x (by simp)
    have p2 := hat y (by simp)
    rw [e1] at p1
    rw [e2] at p2
    have P1 := Lib.hid p1; have P2 := Lib.hid p2
    have hb4 := hb2.mono hb1.size |> fun h => hb1.trans h
    clear hG hO hS HR hsd hat hsl hA2 e1 e2 p1 p2 hb1 hb2
    go_wp2_with fail
    have q1 := (P1.out).ext (ext_alloc (Below.refl w2.heap.size w2) (Obj.cells #[.int .i64 0, .int .i64 10, .int .i64 0] 53))
    have r1 := piece_lit (Blk.new w2 53 #[.int .i64 0, .int .i64 10, .int .i64 0]) (by simp [I64]) (by simp [I64]) (by simp [I64])
    refine (same_pieces x.2.1 (some ⟨w2.heap.size, 0, none⟩) x.2.2 1 [⟨0, 10, 0⟩] _ q1 r1).mono ?_
    rintro e w3 ⟨rfl, hb3⟩
    have hb5 : Below w2.heap.size w2 w3 := ext_trans (ext_alloc (Below.refl _ _) _) hb3
    have x2 := (hb5.cell (p := ⟨b1, o1 + 1, none⟩) l1).trans x2
    have hl3 : b1 < w3.heap.size := Nat.lt_of_lt_of_le l1 hb5.size
    clear x1 q1 r1 hb3
    go_wp2_with fail
    have q2 := (P2.out).ext (ext_alloc hb5 (Obj.cells #[.int .i64 2, .int .i64 4, .int .i64 7] 53))
    have r2 := piece_lit (Blk.new w3 53 #[.int .i64 2, .int .i64 4, .int .i64 7]) (by simp [I64]) (by simp [I64]) (by simp [I64])
    refine (same_pieces y.2.1 (some ⟨w3.heap.size, 0, none⟩) y.2.2 1 [⟨2, 4, 7⟩] _ q2 r2).mono ?_
    rintro e w4 ⟨rfl, hb6⟩
    have hb7 : Below w2.heap.size w2 w4 := ext_trans (ext_alloc hb5 _) hb6
    clear x2 q2 r2 hb6
    go_wp2_with fail
    go_ret
    exact ⟨rfl, ext_trans hb4 hb7⟩
  | [], hsd, _, _ => simp [pairRun] at hsd
  | [x], hsd, _, _ => simp [pairRun] at hsd
  | x :: y :: z :: r, hsd, _, _ => simp [pairRun] at hsd
end Go.Proofs.YtdpibehpmghghaaGreat
/- What a run tells at a time is what a plain way tells of that time's snapshot; no program in sight. -/
namespace Go.Proofs.YtdpibehpmghghaaGreat

section
variable {p v t : Int} {k : Nat} {g : GraphD} {out : List (List PieceD)}
theorem arcsL_few (g : GraphD) (t : Int) : ∀ l : List EdgeD, (arcsL g t l).length ≤ l.length
  | [] => Nat.le_refl _
  | x :: l => by
    have ih := arcsL_few g t l
    have e : arcsL g t (x :: l) = arcOf g t x ++ arcsL g t l := rfl
    have h1 : (arcOf g t x).length ≤ 1 := by
      unfold arcOf
      split
      · split <;> simp
      · simp
    rw [e, List.length_append, List.length_cons]
    omega
theorem aliveAt_snap (h0 : 0 ≤ v) (h1 : v < g.lives.length) : aliveAt (snapD g t) v = aliveB g v t := by
  unfold aliveAt
  show (decide (0 ≤ v) && ((snapL g t)[v.toNat]? == some true)) = _
  rw [snapL_at h0 h1]
  cases aliveB g v t <;> simp [h0]
theorem snap_shot (hV : Valid g) (t : Int) : shotErr (snapD g t) = 0 := by
  have hn := hV.nl
  have he := hV.ne
  have ha : (snapD g t).alive.length = g.lives.length := snapL_len g t
  have hc : (snapD g t).arcs.length ≤ g.edges.length := arcsL_few g t g.edges
  refine shotErr_ok (by omega) ?_ ?_
  · rw [List.all_eq_true]
    intro y hy
    obtain ⟨x, l, hx, _, _, h1, h2, rfl⟩ := arcsL_mem hy
    have hE := hV.edges x hx
    unfold arcAlive
    rw [aliveAt_snap hE.a0 hE.a1, aliveAt_snap hE.b0 hE.b1, h1, h2]
    rfl
  · rw [List.all_eq_true]
    intro y hy
    obtain ⟨x, l, hx, _, hl, _, _, rfl⟩ := arcsL_mem hy
    have := (hV.edges x hx).legs l hl
    simp [costOk]
    omega
theorem run_best (hV : Valid g) (h : RunSay g p v k out) (h0 : 0 ≤ t) (h1 : t < g.h) : Best (arcsAt g p t) (initAt g p v t) (dAt out t) := by
  obtain ⟨a, b⟩ := h.at_ t h0 h1
  exact a.best (adds hV p t).mono b
def valsAt (out : List (List PieceD)) (t : Int) : List Int := out.map fun m => val m t
theorem run_hops (hV : Valid g) (h : RunSay g 1 v k out) (h0 : 0 ≤ t) (h1 : t < g.h) : WaysL (snapD g t) wOne v (valsAt out t) := by
  refine ⟨by rw [valsAt, List.length_map, h.len]; exact (snapL_len g t).symm, ?_⟩
  have h2 := run_best hV h h0 h1
  unfold arcsAt initAt at h2
  rw [begun_ways _ (by decide)] at h2
  exact h2
theorem run_costs (hV : Valid g) (h : RunSay g 2 v k out) (h0 : 0 ≤ t) (h1 : t < g.h) : WaysL (snapD g t) wCost v (valsAt out t) := by
  refine ⟨by rw [valsAt, List.length_map, h.len]; exact (snapL_len g t).symm, ?_⟩
  have h2 := run_best hV h h0 h1
  unfold arcsAt initAt at h2
  rw [begun_ways _ (by decide)] at h2
  exact h2
theorem run_labels (hV : Valid g) (h : RunSay g 3 v k out) (h0 : 0 ≤ t) (h1 : t < g.h) : LabelsL (snapD g t) (valsAt out t) := by
  refine ⟨by rw [valsAt, List.length_map, h.len]; exact (snapL_len g t).symm, ?_⟩
  have h2 := run_best hV h h0 h1
  unfold arcsAt initAt at h2
  rw [begun_3] at h2
  exact h2
/-- What is told of a vertex, and what of it is a number. -/
theorem val_of (h : RunSay g p v k out) {i : Nat} {m : List PieceD} {x : Int} (hm : out[i]? = some m) (hx : (valsAt out t)[i]? = some x) : (atM m t).isSome = decide (x < Far) ∧ (x < Far → atM m t = some x) := by
  unfold valsAt at hx
  rw [List.getElem?_map, hm] at hx
  obtain rfl : val m t = x := by simpa using hx
  rcases (h.lies m (List.mem_of_getElem? hm)).val_cases t with ⟨k1, k2⟩ | ⟨k1, _, _, k2⟩
  · rw [k1, k2]
    exact ⟨by simp, fun h => absurd h (Int.lt_irrefl _)⟩
  · have h1 : val m t < Far := by unfold Far; omega
    exact ⟨by rw [k2]; simp [h1], fun _ => k2⟩
end
end Go.Proofs.YtdpibehpmghghaaGreat
