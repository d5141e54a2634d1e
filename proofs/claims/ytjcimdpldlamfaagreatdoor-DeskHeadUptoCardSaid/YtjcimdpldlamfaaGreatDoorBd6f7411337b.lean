/- Several texts in one: BspRun, BspSame, BspTell. -/
import Derived.Test.YtjcimdpldlamfaaGreatDoorBddbaa6670c2
import Derived.Test.YtjcimdpldlamfaaGreatDoorBd9cdc4f3309
import Derived.Test.YtjcimdpldlamfaaGreatDoorBdf6b8f66993
import Derived.Test.YtjcimdpldlamfaaGreatDoorBd063e407aa3
/- The walks of (*bsp.engine).run, bsp.Run and its closures (printed by genrun.py). -/
namespace Go.Proofs.YtjcimdpldlamfaaGreatDoor
open Go.RowKit

def sideC (x : VSide) : List Value := [sV x]
theorem info_maps : (Tryz.prog.info? 111).map (fun i => (i.zero, i.size, i.bytes)) = some (some (.slice none 0 0), 1, 24) := by kernel_rfl
theorem info_maps2 : ∃ i, Tryz.prog.info? 111 = some i ∧ i.zero = some (.slice none 0 0) ∧ i.size = 1 ∧ i.bytes = 24 := by
 obtain ⟨i0, hi, hzz⟩ := Option.map_eq_some_iff.1 info_maps
 simp only [Prod.mk.injEq] at hzz
 exact ⟨i0, hi, hzz.1, hzz.2.1, hzz.2.2⟩
/-- What a run tells, in memory of its own. -/
def RunOut (w0 : World) (g : GraphD) (p v : Int) (en : Ending) (w' : World) : Prop := ∃ (Ao : Option Addr) (co k : Nat) (sides : List VSide), en = .returned (.tuple #[.slice Ao sides.length co, .int .i64 k, .int .i64 0]) ∧
 Own sideC 1 w' w0.heap.size 111 (.slice Ao sides.length co) sides ∧ Sides w' w0.heap.size 113 sides ∧ Hid (RunSay g p v k (sides.map Prod.fst)) ∧ Below w0.heap.size w0 w'
section
variable {g : GraphD} {p v : Int} {k : Nat} {items items' : List VItem} {was : Nat → Int → Int}
theorem RoundK.step (hK : RoundK g.h (sendL g p (frsOf items)) items items' items.length) (hl : items.length = g.lives.length) : Step g p (stsOf items) (frsOf items) (stsOf items') (frsOf items') := by
 refine ⟨by simp [stsOf, hK.len, hl], by simp [frsOf, hK.len, hl], fun i m m' f' h1 h2 h3 => ?_⟩
 unfold stsOf at h1 h2
 unfold frsOf at h3
 rw [List.getElem?_map] at h1 h2 h3
 obtain ⟨it, hit, rfl⟩ := Option.map_eq_some_iff.1 h1
 obtain ⟨it', hit', rfl⟩ := Option.map_eq_some_iff.1 h2
 rw [hit'] at h3
 obtain rfl := Option.some.inj h3
 exact hK.done i it it' (lt_of_get hit) hit hit'
theorem some_iff : isSome items' items'.length = true ↔ ∃ f, f ∈ frsOf items' ∧ f ≠ [] := by
 unfold isSome frsOf
 rw [List.take_length, List.any_eq_true]
 constructor
 ·rintro ⟨it, hi, h⟩
  exact ⟨it.2.1, List.mem_map.2 ⟨it, hi, rfl⟩, fun e => by rw [e] at h; simp at h⟩
 ·rintro ⟨f, hf, hne⟩
  obtain ⟨it, hi, rfl⟩ := List.mem_map.1 hf
  exact ⟨it, hi, by simpa using List.length_pos_iff.2 hne⟩
theorem mids_lies (hM : BMid g p v k (stsOf items) (frsOf items) was) : ∀ it, it ∈ items → Lies g.h it.1.1 := fun it hi => hM.st.lies _ (List.mem_map.2 ⟨it, hi, rfl⟩)
/-- Mail goes to vertices, within the horizon. -/
theorem send_in (hM : BMid g p v k (stsOf items) (frsOf items) was) (hV : Valid g) (hl : items.length = g.lives.length) : ∀ m, m ∈ sendL g p (frsOf items) → (0 ≤ m.1 ∧ m.1 < items.length) ∧ MsgIn g.h m.2 := fun m hm => by
 obtain ⟨h1, h2, h3⟩ := hM.st.mail hV hm
 rw [hl]
 obtain ⟨⟨a, _, _, h4, h5, h6, c, h7, h8, h9⟩, h10, _⟩ := h3 m.2.f (Int.le_refl _) h2
 obtain ⟨_, h11, _⟩ := h3 (m.2.t - 1) (by omega) (by omega)
 have hB := hM.bound hV h10 a.a
 have hk := hM.few hV
 have hn := hV.nl
 rw [h9] at h4
 simp only at h4
 refine ⟨h1, ⟨h10.1, h2, by omega⟩, by omega, ?_⟩
 unfold Far at hB
 omega
end
set_option maxRecDepth 100000 in
set_option maxHeartbeats 8000000 in
theorem run_any (e c c' cv bx : Nat) (A A' Av : Option Addr) (g : GraphD) (p v : Int) (items : List VItem) (fs : Nat) (lb : Array Value) (tc : TypeId) (htc : tc ≠ 192) (w0 w : World) (hE : EngV w w0.heap.size e A c A' c' g p Av cv items) (hM : BMid g p v 0 (stsOf items) (frsOf items) (fun _ _ => Far))
  (hG0 : GraphAt w0 A c A' c' g) (hb0 : Below w0.heap.size w0 w) (hcap : Blk w bx tc #[.pointer (some ⟨e, 0, none⟩)]) (eg : ∀ args w, (callFunc fs args).run Tryz.prog w = .ok (.enter fs args) w)
  (hs : ∀ (W : World) (its : List VItem), EngV W w0.heap.size e A c A' c' g p Av cv its → Blk W bx tc #[.pointer (some ⟨e, 0, none⟩)] → Calls Tryz.prog fs lb W (SendOut (sendL g p (frsOf its)) W)) :
  Calls Tryz.prog 136 #[.pointer (some ⟨e, 0, none⟩), .func (.func fs) #[] lb] w (RunOut w0 g p v) := by
 obtain ⟨i0, hi, hz0, hz1, hz2⟩ := info_maps2
 have HV := Lib.hid hE.val; have HG0 := Lib.hid hG0; have HS := Lib.hid hs; have HE0 := Lib.hid hE; have HM0 := Lib.hid hM
 clear hG0 hs hE hM
 go_enter Tryz.func136, Tryz.ntmps136
 go_wp2_with fail
 go_loopw [7] (fun x wt => ∃ (k : Nat) (its : List VItem), x = .int .i64 k ∧ k ≤ g.lives.length ∧ Hid (∃ was, BMid g p v k (stsOf its) (frsOf its) was) ∧ EngV wt w0.heap.size e A c A' c' g p Av cv its ∧ Blk wt bx tc #[.pointer (some ⟨e, 0, none⟩)] ∧ Below w0.heap.size w0 wt) (fun x _ => g.lives.length - (intOf x).toNat)
 case atStart => exact ⟨0, items, rfl, Nat.zero_le _, Lib.hid ⟨_, HM0.out⟩, HE0.out, hcap, hb0⟩
 case round =>
  clear hcap hb0
  obtain ⟨k, its, rfl, hk, HM, hE, hcap, hb⟩ := hrel
  have hsn := HS.out wr its hE hcap
  have HE := Lib.hid hE
  have hnl := HV.out.nl
  clear hE
  go_wp2_with fail
  refine hsn.mono ?_
  rintro en w1 ⟨mv, rfl, hmo, hml, hb1⟩
  obtain ⟨Am, cm, rfl, hMs, hlc, hcm⟩ := own_mail hmo
  have hE1 := HE.out.ext hb1
  obtain ⟨was, hM⟩ := HM.out
  have hr := round_any e c c' cv cm A A' Av Am g p its (sendL g p (frsOf its)) w0 w1 hE1 rfl HG0.out (ext_trans hb hb1) (mids_lies hM) hMs hml (send_in hM HV.out HE.out.len)
  have hcap1 := hcap.ext hb1
  have HMB := Lib.hid hM
  clear hsn hmo hMs hE1 hM hb1 hcap
  go_wp2_with fail
  refine hr.mono ?_
  rintro en2 w2 ⟨its2, rfl, hE2, HK, hb2, hkp⟩
  have hcap2 := hkp _ _ _ hcap1 htc
  have HST := Lib.hid (HK.out.step HE.out.len)
  clear hr hkp hcap1 hml hlc hcm
  cases hsm : isSome its2 its2.length with
  | true =>
   have HNX := Lib.hid (HMB.out.next HV.out HST.out (some_iff.1 hsm))
   clear hsm
   go_wp2_with fail
   go_roundw
   case rel => exact ⟨k + 1, its2, by go_num, HNX.out.1, Lib.hid ⟨_, HNX.out.2⟩, hE2, hcap2, hb2⟩
   case measure => have := HNX.out.1; simp [intOf]; omega
  | false =>
   have HR : Hid (RunSay g p v k (stsOf its2)) := Lib.hid (by
    obtain ⟨h1, h2⟩ := HMB.out.done HV.out HST.out fun f hf => Classical.byContradiction fun hne => by
     rw [some_iff.2 ⟨f, hf, hne⟩] at hsm
     cases hsm
    rw [h1]
    exact h2)
   have hcell : w2.cell? ⟨e, 4, none⟩ = some (.slice Av its2.length cv) := hE2.eng.blk.cell 4
   have hel := hE2.eng.blk.lt
   have hl2 : its2.length ≤ 12 := by rw [hE2.len]; exact hnl
   have HE2 := Lib.hid hE2
   have hw2 : w0.heap.size ≤ w2.heap.size := hb2.size
   clear hsm hcap2 hE2
   go_wp2_with fail
   clear hcell hel
   go_loopw [8, 22] (fun u x wt => ∃ i : Nat, x = .int .i64 i ∧ i ≤ its2.length ∧ Own sideC 1 wt w2.heap.size 111 u ((its2.map Prod.fst).take i) ∧ Below w2.heap.size w2 wt) (fun _ x _ => its2.length - (intOf x).toNat)
   case atStart => exact ⟨0, rfl, Nat.zero_le _, Own.nil, Below.refl _ _⟩
   case round =>
    obtain ⟨i, rfl, hil, hO, hb3⟩ := hrel
    obtain ⟨o, ho⟩ : ∃ o, (its2.map Prod.fst).take i = o := ⟨_, rfl⟩
    rw [ho] at hO
    have HO := Lib.hid ho
    have hol : o.length ≤ 12 := by rw [← ho, List.length_take, List.length_map]; omega
    obtain ⟨Ao, co, rfl⟩ := hO.form
    have hz3 := hb3.size
    clear ho
    by_cases hlt : i < its2.length
    case neg =>
     have HF : Hid (o = its2.map Prod.fst) := Lib.hid (by rw [← HO.out, List.take_of_length_le (by rw [List.length_map]; omega)])
     go_wp2_with fail
     refine bodyPost_ret (v := .tuple #[.slice Ao o.length co, .int .i64 k, .int .i64 0]) (by simp [results, Tryz.results136]) rfl ?_
     refine ⟨Ao, co, k, o, rfl, hO.since hw2, ?_, ?_, hb2.trans (hb3.mono hw2)⟩
     ·rw [HF.out]
      exact HE2.out.eng.st.ext hb3
     ·rw [HF.out, List.map_map]
      exact HR
    case pos =>
     obtain ⟨it, hit⟩ := get_lt hlt
     obtain ⟨gv, cs, rfl, hgv, hBV, hcz, hlc, hcm, hcs, hsl⟩ := HE2.out.eng.vert (by omega)
     obtain ⟨c0, c1⟩ := hcs i it hit
     have hgvl : gv < wr.heap.size := Nat.lt_of_lt_of_le hBV.lt hz3
     have k0 : wr.cell? ⟨gv, i * 2, none⟩ = some (.slice it.1.2.1 it.1.1.length it.1.2.2) := (hb3.cell (p := ⟨gv, i * 2, none⟩) hBV.lt).trans ((hBV.cell _).trans c0)
     have k1 : wr.cell? ⟨gv, i * 2 + 1, none⟩ = some (.slice it.2.2.1 it.2.1.length it.2.2.2) := (hb3.cell (p := ⟨gv, i * 2 + 1, none⟩) hBV.lt).trans ((hBV.cell _).trans c1)
     have HNX : Hid ((its2.map Prod.fst).take (i + 1) = o ++ [it.1]) := Lib.hid (by rw [List.take_add_one, HO.out, List.getElem?_map, hit]; rfl)
     clear hcs hsl c0 c1 hBV hit hcz hlc hcm
     have hO1 := hO.alloc (Obj.cells #[.slice it.1.2.1 it.1.1.length it.1.2.2, .slice it.2.2.1 it.2.1.length it.2.2.2] 192)
     have hb31 := ext_alloc hb3 (Obj.cells #[.slice it.1.2.1 it.1.1.length it.1.2.2, .slice it.2.2.1 it.2.1.length it.2.2.2] 192)
     have hz31 := hb31.size
     go_wp2_with (at_builtin; refine wpList_append_lie (enc := sideC) rfl (.tmp 26) (.tmp 29) 108 rfl w2.heap.size 111 i0 _ 1 24 Tryz.underlying108 hi hz0 hz1 hz2 rfl (by decide) _ o it.1 rfl hO1 #[.slice it.1.2.1 it.1.1.length it.1.2.2] rfl _ (by simp) rfl rfl (by simp [Value.oneCell']) (by omega) (by decide) hz31 ?_; intro g6 cap6 w6 hown6 hbb6 hoth6 hlie6; have hb36 := hb31.trans hbb6)
     go_roundw
     case rel => exact ⟨i + 1, by go_num, by omega, by rw [HNX.out]; exact hown6, hb36⟩
     case measure => simp [intOf]; omega
theorem enters_mine : Enters Tryz.prog 139 := enters_of Tryz.func139 (by kernel_rfl) rfl
theorem enters_sender : Enters Tryz.prog 137 := enters_of Tryz.func137 (by kernel_rfl) rfl
theorem mine_any (x : Int) (w : World) : Calls Tryz.prog 139 #[.int .i64 x] w fun e w' => e = .returned (.bool true) ∧ Below w.heap.size w w' := by
 go_enter Tryz.func139, Tryz.ntmps139
 go_wp2_with fail
 go_ret
 exact ⟨rfl, by go_grown⟩
set_option maxHeartbeats 2000000 in
theorem sender_any (base e c c' cv bx : Nat) (A A' Av : Option Addr) (g : GraphD) (p : Int) (its : List VItem) (w : World) (hE : EngV w base e A c A' c' g p Av cv its) (hB : Blk w bx 163 #[.pointer (some ⟨e, 0, none⟩)]) :
  Calls Tryz.prog 137 #[.pointer (some ⟨bx, 0, none⟩)] w (SendOut (sendL g p (frsOf its)) w) := by
 have hs := send_any base e c c' cv A A' Av g p its 139 #[] (fun _ => true) w hE enters_mine fun W x _ => mine_any x W
 rw [sendM_all] at hs
 have hcell : w.cell? ⟨bx, 0, none⟩ = some (.pointer (some ⟨e, 0, none⟩)) := hB.cell 0
 go_enter Tryz.func137, Tryz.ntmps137
 go_wp2_with fail
 refine hs.mono ?_
 rintro en w1 ⟨v, rfl, h1, h2, h3⟩
 clear hs
 go_wp2_with fail
 go_ret
 exact ⟨v, rfl, h1, h2, h3⟩
section
variable {w w' : World} {base b0 e c c' cv : Nat} {A A' Av : Option Addr} {g : GraphD} {p v : Int} {items : List VItem}
theorem Eng.since (h : Eng w base e A c A' c' g p Av cv items) (hb : b0 ≤ base) : Eng w b0 e A c A' c' g p Av cv items :=
 ⟨h.blk, Nat.le_trans hb h.eb, h.own.since hb, h.all, ⟨fun x hx => (h.st.own x hx).since hb, h.st.apart⟩, fun it hi => (h.fr it hi).since hb, h.gr⟩
theorem startB_few (hV : Valid g) : ∀ m, m ∈ startB g p v → (∀ q, q ∈ m → MsgIn g.h q) ∧ m.length ≤ 100 := fun m hm => by
 obtain ⟨i, hi⟩ := List.getElem?_of_mem hm
 obtain ⟨l, hl⟩ := get_lt (show i < g.lives.length by
  have := lt_of_get hi
  rwa [startB_len] at this)
 rw [startB_get hl] at hi
 obtain rfl := Option.some.inj hi
 refine ⟨lies_msg (startB_lies hV hl), ?_⟩
 unfold startBOf
 split
 ·simp
 ·split <;> simp
end
def RunR (g : GraphD) (p v : Int) (w : World) (e : Ending) (w' : World) : Prop := (runErr g p v ≠ 0 ∧ e = .returned (.tuple #[.slice none 0 0, .int .i64 0, .int .i64 (runErr g p v)]) ∧ Below w.heap.size w w') ∨ (runErr g p v = 0 ∧ RunOut w g p v e w')
theorem runErr_valid {g : GraphD} {p v : Int} (h : runErr g p v = 0) : Valid g := by
 unfold runErr at h
 split at h
 ·next h1 => exact valid_of h1
 ·next h1 => exact absurd h h1
set_option maxHeartbeats 4000000 in
theorem bspRun_any (A A' : Option Addr) (c c' : Nat) (g : GraphD) (p v : Int) (w : World) (hG : GraphAt w A c A' c' g) :
  Calls Tryz.prog 106 #[gV A c A' c' g, .int .i64 p, .int .i64 v] w (RunR g p v w) := by
 have hent := enters_sender
 unfold Enters at hent
 have HG := Lib.hid hG
 clear hG
 by_cases h0 : runErr g p v = 0
 case neg =>
  have hne : (runErr g p v != 0) = true := by simp [h0]
  have H0 := Lib.hid h0
  clear h0
  go_enter Tryz.func106, Tryz.ntmps106
  go_wp2_with fail
  refine (bspCheck_any A A' c c' g p v _ (HG.out.ext (by go_grown))).mono ?_
  rintro e w1 ⟨rfl, hb1⟩
  have hb2 : Below w.heap.size w w1 := ext_trans (by go_grown) hb1
  go_wp2_with fail
  refine bodyPost_ret (v := .tuple #[.slice none 0 0, .int .i64 0, .int .i64 (runErr g p v)]) (by simp [results, Tryz.results106]) rfl ?_
  exact .inl ⟨H0.out, rfl, hb2⟩
 case pos =>
  have hne : (runErr g p v != 0) = false := by simp [h0]
  have H0 := Lib.hid h0
  have hV := runErr_valid h0
  have HV := Lib.hid hV
  clear h0 hV
  go_enter Tryz.func106, Tryz.ntmps106
  go_wp2_with fail
  refine (bspCheck_any A A' c c' g p v _ (HG.out.ext (by go_grown))).mono ?_
  rintro e w1 ⟨rfl, hb1⟩
  obtain ⟨B0, c1, c2, c3⟩ := (Blk.new w 68 (gC A c A' c' g)).go hb1
  have hb2 : Below w.heap.size w w1 := ext_trans (by go_grown) hb1
  clear hb1
  go_wp2_with fail
  refine (start_any A A' c c' g p v w1 (HG.out.ext hb2) HV.out).mono ?_
  rintro e w2 ⟨eb, Av, cv, items, rfl, hE, HS, hb3⟩
  have hb4 := ext_trans hb2 hb3
  have hz := hb2.size
  clear c1 c2 c3 hb3 B0
  have hE2 : EngV (w2.alloc (Obj.cells #[.pointer (some ⟨eb, 0, none⟩)] 163)) w.heap.size eb A c A' c' g p Av cv items := ⟨(hE.since hz).ext (ext_alloc (Below.refl _ _) _), by
   have h1 := congrArg List.length HS.out.1
   rwa [startB_len, stsOf, List.length_map] at h1, HV.out, fun it hi => startB_few HV.out _ (by rw [← HS.out.2]; exact List.mem_map.2 ⟨it, hi, rfl⟩)⟩
  have hBx := Blk.new w2 163 #[.pointer (some ⟨eb, 0, none⟩)]
  have hM : BMid g p v 0 (stsOf items) (frsOf items) (fun _ _ => Far) := by rw [HS.out.1, HS.out.2]; exact startB_mid HV.out p v
  have hru := run_any eb c c' cv w2.heap.size A A' Av g p v items 137 #[.pointer (some ⟨w2.heap.size, 0, none⟩)] 163 (by decide) w _ hE2 hM HG.out (ext_alloc hb4 _) hBx enters_sender (fun W its h1 h2 => sender_any _ _ _ _ _ _ _ _ _ _ _ _ W h1 h2)
  have hcell : (w2.alloc (Obj.cells #[.pointer (some ⟨eb, 0, none⟩)] 163)).cell? ⟨w2.heap.size, 0, none⟩ = some (.pointer (some ⟨eb, 0, none⟩)) := hBx.cell 0
  clear hE hE2 hM hBx
  go_wp2_with fail
  refine hru.mono ?_
  rintro e w3 ⟨Ao, co, k, sides, rfl, r1, r2, r3, r4⟩
  clear hru hcell
  go_wp2_with fail
  refine bodyPost_ret (v := .tuple #[.slice Ao sides.length co, .int .i64 k, .int .i64 0]) (by simp [results, Tryz.results106]) rfl ?_
  exact .inr ⟨H0.out, Ao, co, k, sides, rfl, r1, r2, r3, r4⟩
end Go.Proofs.YtjcimdpldlamfaaGreatDoor
/- What a run tells is one; the run of the pair; no program in sight. -/
namespace Go.Proofs.YtjcimdpldlamfaaGreatDoor

section
variable {p v : Int} {k k' : Nat} {g : GraphD} {out out' : List (List PieceD)}
theorem RunSay.le (h : RunSay g p v k out) (h' : RunSay g p v k' out') : k ≤ k' := by
 rcases h.last with h0 | ⟨t, d, ht, j, hj, hd, hne⟩
 ·omega
 ·obtain ⟨a1, a2⟩ := h'.at_ t ht.1 ht.2
  obtain ⟨b1, _⟩ := h.at_ t ht.1 ht.2
  exact a1.first a2 b1 (.inr ⟨j, d, hj, hd, hne⟩)
theorem RunSay.eq (h : RunSay g p v k out) (h' : RunSay g p v k' out') : k = k' ∧ out = out' := by
 have hk : k = k' := Nat.le_antisymm (h.le h') (h'.le h)
 subst hk
 refine ⟨rfl, List.ext_getElem? fun i => ?_⟩
 rcases Nat.lt_or_ge i g.lives.length with hi | hi
 ·obtain ⟨m, hm⟩ := get_lt (show i < out.length by rw [h.len]; exact hi)
  obtain ⟨m', hm'⟩ := get_lt (show i < out'.length by rw [h'.len]; exact hi)
  have l1 := h.lies m (List.mem_of_getElem? hm)
  have l2 := h'.lies m' (List.mem_of_getElem? hm')
  rw [hm, hm', l1.eq l2 fun t => ?_]
  by_cases ht : 0 ≤ t ∧ t < g.h
  ·have h1 := (h.at_ t ht.1 ht.2).1.eq (h'.at_ t ht.1 ht.2).1
   rw [← dAt_of hm, ← dAt_of hm', h1]
  ·rcases l1.val_cases t with ⟨k1, _⟩ | ⟨_, _, k2, _⟩
   ·rcases l2.val_cases t with ⟨k3, _⟩ | ⟨_, _, k4, _⟩
    ·rw [k1, k3]
    ·exact absurd k4 ht
   ·exact absurd k2 ht
 ·rw [List.getElem?_eq_none (by rw [h.len]; exact hi), List.getElem?_eq_none (by rw [h'.len]; exact hi)]
end
end Go.Proofs.YtjcimdpldlamfaaGreatDoor
/- What a run tells at a time is what a plain way tells of that time's snapshot; no program in sight. -/
namespace Go.Proofs.YtjcimdpldlamfaaGreatDoor

section
variable {p v t : Int} {k : Nat} {g : GraphD} {out : List (List PieceD)}
end
end Go.Proofs.YtjcimdpldlamfaaGreatDoor
