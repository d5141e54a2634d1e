/- One text: Sums. -/
import Derived.BigRegion
import Derived.BigQuiet
import Derived.Deep.LoopGhost
import Derived.Deep.DeepCutAuto
import Derived.Test.YtcfachfldanddaaBd186e87a516
import Derived.Test.YtcfachfldanddaaBdb6eb721802
import Derived.Test.YtcfachfldanddaaBdecb1d1e777
import Derived.Test.YtcfachfldanddaaBd0e3b3965a6
import Derived.Test.YtcfachfldanddaaBd6a04bbb789
import Derived.Test.YtcfachfldanddaaBd5adb79ece2
/- The walk of timeref.Sums: of each vertex and time the least cost and the fewest hops. -/
namespace Go.Proofs.Ytcfachfldanddaa
open Go.RowKit

theorem info_irow : (Try.prog.info? 81).map (fun i => (i.zero, i.size, i.bytes)) = some (some (.slice none 0 0), 1, 24) := by kernel_rfl
theorem info_irow2 : ∃ i, Try.prog.info? 81 = some i ∧ i.zero = some (.slice none 0 0) ∧ i.size = 1 ∧ i.bytes = 24 := by
  obtain ⟨i0, hi, hzz⟩ := Option.map_eq_some_iff.1 info_irow
  simp only [Prod.mk.injEq] at hzz
  exact ⟨i0, hi, hzz.1, hzz.2.1, hzz.2.2⟩
theorem Own.past {α : Type} {enc : α → List Value} {sz : Nat} {w w' : World} {base : Nat} {e : TypeId} {u v : Value} {l : List α} (h : Own enc sz w base e v l) (hap : Apart u v) (hk : ∀ b t cs, Blk w b t cs → some b ≠ u.ownBlock → Blk w' b t cs) : Own enc sz w' base e v l := h.keep1 fun b cs hb hB => hk b _ cs hB fun e => hap b e hb
def neverF : Nat × Nat → Int := fun _ => Never
theorem init_alive {g : GraphD} {v s : Int} (h : aliveB g v s = true) (hv : 0 ≤ v) (hs : 0 ≤ s) : upd neverF (v.toNat, s.toNat) 0 = initC g v s := by
  funext p
  unfold initC
  by_cases e : p = (v.toNat, s.toNat)
  · subst e
    rw [upd_at, if_pos ⟨h, by simp only; omega, by simp only; omega⟩]
  · rw [upd_ne _ _ e, if_neg fun h2 => e ?_]
    · rfl
    · obtain ⟨a, b⟩ := p
      simp only at h2
      have e1 : a = v.toNat := by omega
      have e2 : b = s.toNat := by omega
      rw [e1, e2]
theorem init_dead {g : GraphD} {v s : Int} (h : aliveB g v s = false) : neverF = initC g v s := by
  funext p
  unfold initC
  rw [if_neg fun h2 => by rw [h] at h2; simp at h2]
  rfl
/-- What Sums answers: both tables, in blocks of their own. -/
def SumsOut (g : GraphD) (v s : Int) (w : World) (e : Ending) (w' : World) : Prop := ∃ (C H : Nat × Nat → Int) (ic ih : List RowI) (bc bh cc ch : Nat), Hid (CostL g lCost v s C ∧ CostL g lOne v s H ∧ SInv g v s C H) ∧
  e = .returned (.tuple #[.slice (some ⟨bc, 0, none⟩) g.lives.length cc, .slice (some ⟨bh, 0, none⟩) g.lives.length ch]) ∧ OutAt w' bc g.h.toNat ic ∧ OutAt w' bh g.h.toNat ih ∧ Hid (ic.length = g.lives.length ∧ ih.length = g.lives.length) ∧
  TabR w' g.h.toNat ic C ∧ TabR w' g.h.toNat ih H ∧ g.lives.length ≤ cc ∧ cc ≤ maxLen ∧ g.lives.length ≤ ch ∧ ch ≤ maxLen ∧ Below w.heap.size w w'
/-- While the tables are made. -/
structure BMem (w0 : World) (gcs : Array Value) (m k : Nat) (a b : Value) (ic ih : List RowI) (w : World) : Prop where
  oc : Own (rowE m) 1 w (w0.heap.size + 1) 81 a ic
  oh : Own (rowE m) 1 w (w0.heap.size + 1) 81 b ih
  ap : Apart a b
  tc : TabR w m ic neverF
  th : TabR w m ih neverF
  gr : Blk w w0.heap.size 78 gcs
  bel : Below w0.heap.size w0 w
  big : w0.heap.size + 1 ≤ w.heap.size
  nc : ic.length = k
  nh : ih.length = k
  dc : (ic.map Prod.fst).Nodup
  dh : (ih.map Prod.fst).Nodup
  apart : ∀ p q, p ∈ ic → q ∈ ih → p.1 ≠ q.1
  lc : ∀ p, p ∈ ic → w0.heap.size ≤ p.1
  lh : ∀ p, p ∈ ih → w0.heap.size ≤ p.1
theorem BMem.ext {w0 w w' : World} {gcs : Array Value} {m k : Nat} {a b : Value} {ic ih : List RowI} (M : BMem w0 gcs m k a b ic ih w) (hb : Below w.heap.size w w') : BMem w0 gcs m k a b ic ih w' :=
  ⟨M.oc.ext hb, M.oh.ext hb, M.ap, M.tc.keep fun _ _ h => h.ext hb, M.th.keep fun _ _ h => h.ext hb, M.gr.ext hb, ext_trans M.bel hb, Nat.le_trans M.big hb.size, M.nc, M.nh, M.dc, M.dh, M.apart, M.lc, M.lh⟩
theorem nodup_snoc {l : List RowI} {b c : Nat} (h : (l.map Prod.fst).Nodup) (hb : ∀ p, p ∈ l → p.1 < b) : ((l ++ [(b, c)]).map Prod.fst).Nodup := by
  rw [List.map_append, List.nodup_append]
  refine ⟨h, by simp, fun x hx y hy => ?_⟩
  obtain ⟨p, hp, rfl⟩ := List.mem_map.1 hx
  have := hb p hp
  simp only [List.map_cons, List.map_nil, List.mem_singleton] at hy
  omega

set_option maxRecDepth 100000 in
set_option maxHeartbeats 16000000 in
theorem refSums_any (A A' : Option Addr) (c c' : Nat) (g : GraphD) (v s : Int) (w : World) (hG : GraphAt w A c A' c' g) (h0 : placeErr g v s = 0) :
    Calls Try.prog 98 #[gV A c A' c' g, .int .i64 v, .int .i64 s] w (SumsOut g v s w) := by
  obtain ⟨hV, ⟨hv0, hv1⟩, hs0, hs1⟩ := place_of h0
  have hh1 := hV.h1
  have hhp := hV.h0
  have hn12 := hV.nl
  have hne30 := hV.ne
  obtain ⟨i0, hi, hz0, hz1, hz2⟩ := info_parts info_int
  obtain ⟨r0, hr, hr0, hr1, hr2⟩ := info_irow2
  have hmf : ∀ (fn : Fn) (first cap : Array Value) (w : World), (Instr.makeFunc fn first cap).run Try.prog w = .ok (.func fn first cap) w := fun _ _ _ _ => rfl
  have hent := enters_put
  unfold Enters at hent
  go_enter Try.func98, Try.ntmps98
  go_wp2_with fail
  have M0 : BMem w (gC A c A' c' g) g.h.toNat 0 (.slice none 0 0) (.slice none 0 0) [] [] (w.alloc (Obj.cells (gC A c A' c' g) 78)) :=
    ⟨Own.nil, Own.nil, Apart.nil, TabR.nil, TabR.nil, Blk.new _ _ _, by go_grown, by simp, rfl, rfl, by simp, by simp, by simp, by simp, by simp⟩
  go_loopw [6, 7, 8] (fun a b x wr => ∃ (k : Nat) (ic ih : List RowI), k ≤ g.lives.length ∧ x = .int .i64 k ∧ BMem w (gC A c A' c' g) g.h.toNat k a b ic ih wr) (fun _ _ x _ => g.lives.length - (intOf x).toNat)
  case atStart => exact ⟨0, [], [], Nat.zero_le _, rfl, M0⟩
  case round =>
    clear M0
    obtain ⟨k, ic, ih, hk, rfl, M⟩ := hrel
    obtain ⟨q1, q2, q3⟩ := M.gr.facts
    by_cases hlt : k < g.lives.length
    case pos =>
      obtain ⟨wo, hwo⟩ : ∃ wo : World, wo = wr := ⟨_, rfl⟩
      rw [← hwo]
      rw [← hwo] at M q1 q2 q3
      clear hwo
      go_wp2_with fail
      go_loopw [9, 10, 11] (fun a b x wq => ∃ (j : Nat), (j : Int) ≤ g.h ∧ x = .int .i64 j ∧ Own intEncN 1 wq wo.heap.size 3 a (List.replicate j Never) ∧ Own intEncN 1 wq wo.heap.size 3 b (List.replicate j Never) ∧ Apart a b ∧ Below wo.heap.size wo wq) (fun _ _ x _ => (g.h - intOf x).toNat)
      case atStart => exact ⟨0, by omega, rfl, Own.nil, Own.nil, Apart.nil, Below.refl _ _⟩
      case round =>
        clear q1 q2 q3
        obtain ⟨j, hj, rfl, hA, hB, hap, hb⟩ := hrel
        have M2 := M.ext hb
        obtain ⟨q1, q2, q3⟩ := M2.gr.facts
        have hz := hb.size
        by_cases hlj : (j : Int) < g.h
        case pos =>
          have HR : Hid (List.replicate (j + 1) Never = List.replicate j Never ++ [Never]) := Lib.hid List.replicate_succ'
          have tok : True := trivial
          go_wp2_with (at_builtin; first
            | (have _t := tok; refine wpList_append_lie (enc := intEncN) rfl (.tmp 34) (.tmp 35) 81 rfl wo.heap.size 3 i0 _ 1 8 Try.underlying81 hi hz0 hz1 hz2 rfl (by decide) _ (List.replicate j Never) Never rfl hA _ rfl wr.heap.size rfl rfl rfl int_one1N (by simp; omega) (by decide) hz ?_; intro ga ca w6 hA6 hbA hkA hgA; have hB6 := hB.past hap hkA; have hap6 := hap.put hB hgA (n := (List.replicate j Never).length + 1) (c := ca); have hz6 := Nat.le_trans hz hbA.size; clear tok)
            | (refine wpList_append_lie (enc := intEncN) rfl (.tmp 37) (.tmp 38) 81 rfl wo.heap.size 3 i0 _ 1 8 Try.underlying81 hi hz0 hz1 hz2 rfl (by decide) _ (List.replicate j Never) Never rfl hB6 _ rfl w6.heap.size rfl rfl rfl int_one1N (by simp; omega) (by decide) hz6 ?_; intro gb cb w7 hB7 hbB hkB hgB))
          have hA7 := hA6.past hap6.symm hkB
          have hap7 := (hap6.symm.put hA6 hgB (n := (List.replicate j Never).length + 1) (c := cb)).symm
          go_roundw
          case rel => exact ⟨j + 1, by omega, by go_num, by rw [HR.out]; rw [List.length_replicate] at hA7; exact hA7, by rw [HR.out]; rw [List.length_replicate] at hB7; exact hB7, hap7, (hb.trans hbA).trans hbB⟩
          case measure => simp [intOf]; omega
        case neg =>
          have hjm : j = g.h.toNat := by omega
          subst hjm
          obtain ⟨Aa, ca, hfa⟩ := hA.form
          obtain ⟨Ab, cb, hfb⟩ := hB.form
          rw [List.length_replicate] at hfa hfb
          subst hfa hfb
          have hne : List.replicate g.h.toNat Never ≠ [] := by simp; omega
          obtain ⟨ba, rfl, hba, hRa⟩ := hA.rowAt hne
          obtain ⟨bb, rfl, hbb, hRb⟩ := hB.rowAt hne
          have hab : ba ≠ bb := fun e => hap ba (by simp [Value.ownBlock]) (by rw [e]; simp [Value.ownBlock])
          rw [← rowL_never (v := k)] at hRa hRb
          have HNC := Lib.hid M.nc; have HNH := Lib.hid M.nh
          have hck : ic.length + 1 ≤ 1000000 := by rw [M.nc]; omega
          have hch : ih.length + 1 ≤ 1000000 := by rw [M.nh]; omega
          have hoc := M2.oc; have hoh := M2.oh
          have tok : True := trivial
          have hzz := M2.big
          clear hA hB hap hne
          go_wp2_with (at_builtin; first
            | (have _t := tok; refine wpList_append_lie (enc := rowE g.h.toNat) rfl (.tmp 40) (.tmp 42) 125 rfl (w.heap.size + 1) 81 r0 _ 1 24 Try.underlying125 hr hr0 hr1 hr2 rfl (by decide) _ ic (ba, ca) rfl hoc _ rfl wr.heap.size rfl rfl rfl rowE_one hck (by decide) hzz ?_; intro gc dc w6 hC6 hbC hkC hgC; have hH6 := hoh.past M2.ap hkC; have hap6 := M2.ap.put hoh hgC (n := ic.length + 1) (c := dc); have hz6 := Nat.le_trans hzz hbC.size; clear tok)
            | (refine wpList_append_lie (enc := rowE g.h.toNat) rfl (.tmp 44) (.tmp 46) 125 rfl (w.heap.size + 1) 81 r0 _ 1 24 Try.underlying125 hr hr0 hr1 hr2 rfl (by decide) _ ih (bb, cb) rfl hH6 _ rfl w6.heap.size rfl rfl rfl rowE_one hch (by decide) hz6 ?_; intro gh dh w7 hH7 hbH hkH hgH))
          have hC7 := hC6.past hap6.symm hkH
          have hap7 := (hap6.symm.put hC6 hgH (n := ih.length + 1) (c := dh)).symm
          have hk7 : ∀ (t : TypeId) b cs, t ≠ 81 → Blk wr b t cs → Blk w7 b t cs := fun t b cs ht h => by
            have h6 := hkC _ _ _ h (hoc.other h ht)
            exact hkH _ _ _ h6 (hH6.other h6 ht)
          go_roundw
          case rel =>
            refine ⟨k + 1, ic ++ [(ba, ca)], ih ++ [(bb, cb)], by omega, by go_num, ?_⟩
            have hltc : ∀ p, p ∈ ic → p.1 < wo.heap.size := fun p hp => M.tc.lt hp
            have hlth : ∀ p, p ∈ ih → p.1 < wo.heap.size := fun p hp => M.th.lt hp
            have hwo := M.big
            refine ⟨hC7, hH7, hap7, ?_, ?_, hk7 _ _ _ (by decide) M2.gr, (M2.bel.trans (hbC.mono (by omega))).trans (hbH.mono (by omega)), Nat.le_trans hz6 hbH.size, by simp [HNC.out], by simp [HNH.out], nodup_snoc M.dc fun p hp => by have := hltc p hp; omega, nodup_snoc M.dh fun p hp => by have := hlth p hp; omega, ?_, ?_, ?_⟩
            · exact (M2.tc.keep fun b cs h => hk7 _ _ _ (by decide) h).snoc (hRa.keep fun cs h => hk7 _ _ _ (by decide) h) |> fun h => by simpa [HNC.out] using h
            · exact (M2.th.keep fun b cs h => hk7 _ _ _ (by decide) h).snoc (hRb.keep fun cs h => hk7 _ _ _ (by decide) h) |> fun h => by simpa [HNH.out] using h
            · intro p q hp hq
              rcases List.mem_append.1 hp with hp | hp
              · rcases List.mem_append.1 hq with hq | hq
                · exact M.apart p q hp hq
                · obtain rfl : q = (bb, cb) := by simpa using hq
                  have := hltc p hp
                  simp only; omega
              · obtain rfl : p = (ba, ca) := by simpa using hp
                rcases List.mem_append.1 hq with hq | hq
                · have := hlth q hq
                  simp only; omega
                · obtain rfl : q = (bb, cb) := by simpa using hq
                  exact hab
            · intro p hp
              rcases List.mem_append.1 hp with hp | hp
              · exact M.lc p hp
              · obtain rfl : p = (ba, ca) := by simpa using hp
                simp only; omega
            · intro p hp
              rcases List.mem_append.1 hp with hp | hp
              · exact M.lh p hp
              · obtain rfl : p = (bb, cb) := by simpa using hp
                simp only; omega
          case measure => simp [intOf]; omega
    case neg =>
      obtain rfl : k = g.lives.length := by omega
      have hnc := M.nc; have hnh := M.nh
      have hpos : 0 < g.lives.length := by omega
      have hcne : ic ≠ [] := fun e => by rw [e] at hnc; simp at hnc; omega
      have hhne : ih ≠ [] := fun e => by rw [e] at hnh; simp at hnh; omega
      obtain ⟨Ac, cc, hfc⟩ := M.oc.form
      obtain ⟨Ah, ch, hfh⟩ := M.oh.form
      rw [hnc] at hfc
      rw [hnh] at hfh
      subst hfc hfh
      have hroomc := M.oc.room; have hroomh := M.oh.room
      rw [hnc] at hroomc
      rw [hnh] at hroomh
      obtain ⟨bc, rfl, _, hOC⟩ := M.oc.outAt hcne
      obtain ⟨bh, rfl, _, hOH⟩ := M.oh.outAt hhne
      have FX : ∀ k, w.heap.size ≤ k → SFix w g.lives.length k ic ih := fun k hk => ⟨hnc, hnh, M.dc, M.dh, M.apart, M.lc, M.lh, hk⟩
      have HFX := Lib.hid FX
      have HNC := Lib.hid hnc; have HNH := Lib.hid hnh
      have HTC := Lib.hid M.tc; have HTH := Lib.hid M.th; have HGR := Lib.hid M.gr
      have hbel := M.bel
      have HRC := Lib.hid hroomc; have HRH := Lib.hid hroomh
      clear hcne hhne FX M hlt hk hnc hnh hroomc hroomh
      go_wp2_with fail
      refine (refAlive_any _ _ _ _ g v s _ (hG.ext hbel) hv0 hv1).mono ?_
      rintro e w2 ⟨rfl, hb2⟩
      have hOC := hOC.keep fun _ h => h.ext hb2
      have hOH := hOH.keep fun _ h => h.ext hb2
      have HTC := Lib.hid (HTC.out.keep fun _ _ h => h.ext hb2)
      have HTH := Lib.hid (HTH.out.keep fun _ _ h => h.ext hb2)
      have HGR := Lib.hid (HGR.out.ext hb2)
      have hbel := ext_trans hbel hb2
      clear q1 q2 q3 hb2
      go_upto_if 51 with fail
      go_cut [] from 51 to 64 (fun wx => OutAt wx bc g.h.toNat ic ∧ OutAt wx bh g.h.toNat ih ∧ TabR wx g.h.toNat ic (initC g v s) ∧ TabR wx g.h.toNat ih (initC g v s) ∧ Blk wx w.heap.size 78 (gC A c A' c' g) ∧ Below w.heap.size w wx)
      case first =>
        cases hal : aliveB g v s
        case false =>
          have HE := Lib.hid (init_dead hal)
          go_wp2_with fail
          go_meet
          exact ⟨hOC, hOH, by rw [← HE.out]; exact HTC.out, by rw [← HE.out]; exact HTH.out, HGR.out, hbel⟩
        case true =>
          have HE := Lib.hid (init_alive hal hv0 hs0)
          obtain ⟨p, hp⟩ := get_lt (l := ic) (k := v.toNat) (by have := HNC.out; omega)
          obtain ⟨q, hq⟩ := get_lt (l := ih) (k := v.toNat) (by have := HNH.out; omega)
          have k1 := hOC.cell hp
          have k2 := hOH.cell hq
          have k3 := HTC.out.frozen hp s.toNat
          have k4 := HTH.out.frozen hq s.toNat
          have k5 := HTC.out.cell hp (t := s.toNat) (by omega)
          have k6 := HTH.out.cell hq (t := s.toNat) (by omega)
          have hs2 : s < (g.h.toNat : Int) := by omega
          have HP := Lib.hid hp; have HQ := Lib.hid hq
          have hpq := (HFX.out _ (Nat.le_refl _)).apart p q (List.mem_of_getElem? hp) (List.mem_of_getElem? hq)
          have hpl := HTC.out.lt (List.mem_of_getElem? hp)
          have hql := HTH.out.lt (List.mem_of_getElem? hq)
          clear hp hq
          go_wp2_with fail
          go_region
          go_wp2_with fail
          go_meet
          have F := HFX.out _ (Nat.le_refl _)
          have hpm := List.mem_of_getElem? HP.out
          have hqm := List.mem_of_getElem? HQ.out
          obtain ⟨cp, hBp, _⟩ := HTC.out _ _ HP.out
          obtain ⟨cq, hBq, _⟩ := HTH.out _ _ HQ.out
          have kf : ∀ (t : TypeId) b cs, 3 ≠ t → Blk w2 b t cs → Blk (((w2.setCell ⟨p.1, s.toNat, none⟩ (.int .i64 0)).setCell ⟨q.1, s.toNat, none⟩ (.int .i64 0)).drew) b t cs := fun t b cs ht h =>
            ((h.far (blk_ne hBp h ht).symm _).far (blk_ne hBq h ht).symm _).drew
          refine ⟨hOC.keep fun _ h => kf _ _ _ (by decide) h, hOH.keep fun _ h => kf _ _ _ (by decide) h, ?_, ?_, kf _ _ _ (by decide) HGR.out, ?_⟩
          · rw [← HE.out]
            exact ((HTC.out.set HP.out (by omega) F.dc 0).far (fun r hr => F.apart r q hr hqm) _).keep fun _ _ h => h.drew
          · rw [← HE.out]
            exact ((HTH.out.far (fun r hr => (F.apart p r hpm hr).symm) _).set HQ.out (by omega) F.dh 0).keep fun _ _ h => h.drew
          · exact below_drew ((hbel.setCell (F.lc p hpm) _).setCell (F.lh q hqm) _)
      case rest =>
        clear hOC hOH HTC HTH HGR hbel
        obtain ⟨hOC, hOH, hTC, hTH, hGR, hbel⟩ := hcut
        have hgl := hGR.lt
        have HI0 := Lib.hid (SInv.init (g := g) (v := v) (s := s) ⟨hv0, hv1⟩ ⟨hs0, hs1⟩)
        go_wp2_with fail
        obtain ⟨wm, hwm⟩ : ∃ wm, wm = wc.alloc (Obj.cells #[.bool true] 4) := ⟨_, rfl⟩
        have M : SMem w (gC A c A' c' g) g.h.toNat bc bh wc.heap.size ic ih true (initC g v s) (initC g v s) wm := by
          rw [hwm]
          exact ⟨hOC.keep fun _ h => h.alloc _, hOH.keep fun _ h => h.alloc _, hTC.keep fun _ _ h => h.alloc _, hTH.keep fun _ _ h => h.alloc _, Blk.new _ _ _, hGR.alloc _, ext_alloc hbel _⟩
        have hbm0 : w.heap.size ≤ wc.heap.size := hbel.size
        obtain ⟨N0, hN0⟩ : ∃ N0, N0 = mass g.lives.length g.h.toNat (initC g v s) + mass g.lives.length g.h.toNat (initC g v s) + 1 := ⟨_, rfl⟩
        have HN0 := Lib.hid hN0
        rw [← hwm]
        clear hwm hN0 hOC hOH hTC hTH hGR hbel hgl
        go_loopg [12] N0 (fun gk y wr => ∃ (bm : Nat) (more : Bool) (C H : Nat × Nat → Int), y = .pointer (some ⟨bm, 0, none⟩) ∧ Hid (SInv g v s C H) ∧ Hid (more = false → CostL g lCost v s C ∧ CostL g lOne v s H) ∧
          Hid (mass g.lives.length g.h.toNat C + mass g.lives.length g.h.toNat H + (if more = true then 1 else 0) ≤ gk) ∧ w.heap.size ≤ bm ∧ SMem w (gC A c A' c' g) g.h.toNat bc bh bm ic ih more C H wr)
        case atStart => exact ⟨_, true, _, _, rfl, HI0, Lib.hid (fun h => by simp at h), Lib.hid (by rw [HN0.out]; simp), hbm0, M⟩
        case round =>
          clear M hbm0
          obtain ⟨bm, more, C, H, rfl, HI, HF, HM, hbm, M⟩ := hrel
          obtain ⟨e1, e2, e3⟩ := M.mo.facts
          cases more
          case false =>
            go_wp2_with fail
            go_ret2
            exact ⟨C, H, ic, ih, bc, bh, cc, ch, Lib.hid ⟨(HF.out (by simp)).1, (HF.out (by simp)).2, HI.out⟩, rfl, M.oc, M.oh, Lib.hid ⟨HNC.out, HNH.out⟩, M.tc, M.th, HRC.out.1, HRC.out.2, HRH.out.1, HRH.out.2, M.bel⟩
          case true =>
            have HF2 := Lib.hid (HFX.out bm hbm)
            have HM1 : Hid (mass g.lives.length g.h.toNat C + mass g.lives.length g.h.toNat H + 1 ≤ gk) := Lib.hid (by have := HM.out; simpa using this)
            clear HF HM
            go_wp2_with fail
            have M := M.setMore hbm false
            clear e1 e2 e3
            obtain ⟨wf, hwf⟩ : ∃ wf, wf = wr.setCell ⟨bm, 0, none⟩ (.bool false) := ⟨_, rfl⟩
            rw [← hwf] at M ⊢
            clear hwf
            go_loopw [14] (fun x wt => ∃ (t : Nat) (more : Bool) (C' H' : Nat × Nat → Int), (t : Int) ≤ g.h ∧ x = .int .i64 t ∧ Hid (SMid g v s C H more t 0 0 C' H') ∧ SMem w (gC A c A' c' g) g.h.toNat bc bh bm ic ih more C' H' wt) (fun x _ => (g.h - intOf x).toNat)
            case atStart => exact ⟨0, false, C, H, by omega, rfl, Lib.hid (SMid.start HI.out), M⟩
            case round =>
              clear M
              obtain ⟨t, more, C', H', ht, rfl, HD, M⟩ := hrel
              obtain ⟨q1, q2, q3⟩ := M.gr.facts
              by_cases hlt : (t : Int) < g.h
              case neg =>
                obtain ⟨e1, e2, e3⟩ := M.mo.facts
                have HE : Hid (SInv g v s C' H') := Lib.hid HD.out.inv
                have HFF : Hid (more = false → CostL g lCost v s C' ∧ CostL g lOne v s H') := Lib.hid fun hm => by
                  have h := HD.out
                  rw [hm] at h
                  exact h.fin hV (by omega)
                have HMM : Hid (mass g.lives.length g.h.toNat C' + mass g.lives.length g.h.toNat H' + (if more = true then 1 else 0) ≤ gk - 1) := Lib.hid (by
                  have h1 := HM1.out
                  have h2 := HD.out.tot
                  have h3 := HD.out.less
                  cases more
                  · simp only [Bool.false_eq_true, if_false]; omega
                  · have := h3 rfl
                    simp only [if_true]; omega)
                have hz1 := M.bel.size
                go_wp2_with fail
                go_roundg (gk - 1)
                case rel => exact ⟨_, more, C', H', rfl, HE, HFF, HMM, by omega, M.newMore more rfl⟩
                case measure => have := HM1.out; omega
              case pos =>
                go_wp2_with fail
                go_loopw [15] (fun x wt => ∃ (u : Nat) (more : Bool) (C' H' : Nat × Nat → Int), u ≤ g.lives.length ∧ x = .int .i64 u ∧ Hid (SMid g v s C H more t u 0 C' H') ∧ SMem w (gC A c A' c' g) g.h.toNat bc bh bm ic ih more C' H' wt) (fun x _ => g.lives.length - (intOf x).toNat)
                case atStart => exact ⟨0, more, C', H', by omega, rfl, HD, M⟩
                case round =>
                  clear M HD q1 q2 q3 more C' H'
                  obtain ⟨u, more, C', H', hu, rfl, HD, M⟩ := hrel
                  obtain ⟨q1, q2, q3⟩ := M.gr.facts
                  by_cases hlu : u < g.lives.length
                  case pos =>
                    obtain ⟨p, hp⟩ := get_lt (l := ic) (k := u) (by have := HNC.out; omega)
                    obtain ⟨q, hq⟩ := get_lt (l := ih) (k := u) (by have := HNH.out; omega)
                    have HP := Lib.hid hp; have HQ := Lib.hid hq
                    have htm : t < g.h.toNat := by omega
                    have k1 := M.oc.cell hp
                    have k2 := M.tc.cell hp htm
                    clear hp hq
                    obtain ⟨z, hz⟩ : ∃ z, C' (u, t) = z := ⟨_, rfl⟩
                    have HZ := Lib.hid hz
                    rw [hz] at k2
                    clear hz
                    by_cases hzn : z < Never
                    case neg =>
                      have hd : decide (z < 1099511627776) = false := by simp only [Never] at hzn; simp; omega
                      have HD2 := Lib.hid (HD.out.skipW fun h => hzn (by rw [← HZ.out]; exact h.1))
                      clear hzn
                      go_wp2_with fail
                      go_roundw
                      case rel => exact ⟨u + 1, more, C', H', by omega, by go_num, HD2, M⟩
                      case measure => simp [intOf]; omega
                    case pos =>
                      have hd : decide (z < 1099511627776) = true := by simp only [Never] at hzn; simp; omega
                      have HZN : Hid (C' (u, t) < Never) := Lib.hid (by rw [HZ.out]; exact hzn)
                      clear hzn
                      by_cases h1 : (t : Int) + 1 < g.h
                      case neg =>
                        have hd2 : decide ((t : Int) + 1 < g.h) = false := by simpa using h1
                        have HD2 := Lib.hid (HD.out.skipW fun h => h1 h.2.1)
                        clear h1
                        go_wp2_with fail
                        go_roundw
                        case rel => exact ⟨u + 1, more, C', H', by omega, by go_num, HD2, M⟩
                        case measure => simp [intOf]; omega
                      case pos =>
                        have hd2 : decide ((t : Int) + 1 < g.h) = true := by simpa using h1
                        have H1 := Lib.hid h1
                        clear h1
                        go_wp2_with fail
                        refine (refAlive_any _ _ _ _ g (u : Int) ((t : Int) + 1) _ (hG.ext M.bel) (by omega) (by omega)).mono ?_
                        rintro e w3 ⟨rfl, hb3⟩
                        have M := M.ext hb3
                        clear hb3 q1 q2 q3 k1 k2
                        cases hal : aliveB g u ((t : Int) + 1)
                        case false =>
                          have HD2 := Lib.hid (HD.out.skipW fun h => by rw [hal] at h; simp at h)
                          go_wp2_with fail
                          go_roundw
                          case rel => exact ⟨u + 1, more, C', H', by omega, by go_num, HD2, M⟩
                          case measure => simp [intOf]; omega
                        case true =>
                          have HD2 := Lib.hid (HD.out.wait hV HZN.out H1.out hal rfl)
                          rw [HZ.out] at HD2
                          have k1 := M.oc.cell HP.out
                          have k2 := M.tc.cell HP.out htm
                          rw [HZ.out] at k2
                          go_wp2_with fail
                          refine (putC_any cc u (t + 1) _ _ rfl (by omega) M HF2.out hlu (by have := H1.out; omega) z).mono ?_
                          rintro e w4 ⟨rfl, M, _⟩
                          clear k1 k2
                          have k1 := M.oh.cell HQ.out
                          have k2 := M.th.cell HQ.out htm
                          obtain ⟨y, hy⟩ : ∃ y, H' (u, t) = y := ⟨_, rfl⟩
                          rw [hy] at k2 HD2
                          clear hy
                          go_wp2_with fail
                          refine (putH_any ch u (t + 1) _ _ rfl (by omega) M HF2.out hlu (by have := H1.out; omega) y).mono ?_
                          rintro e w5 ⟨rfl, M, _⟩
                          clear k1 k2
                          go_wp2_with fail
                          go_roundw
                          case rel => exact ⟨u + 1, _, _, _, by omega, by go_num, HD2, M⟩
                          case measure => simp [intOf]; omega
                  case neg =>
                    replace HD : Hid (SMid g v s C H more t g.lives.length 0 C' H') := Lib.hid (by have h := HD.out; rw [show u = g.lives.length by omega] at h; exact h)
                    go_wp2_with fail
                    go_loopw [16] (fun x wt => ∃ (i : Nat) (more : Bool) (C' H' : Nat × Nat → Int), i ≤ g.edges.length ∧ x = .int .i64 i ∧ Hid (SMid g v s C H more t g.lives.length i C' H') ∧ SMem w (gC A c A' c' g) g.h.toNat bc bh bm ic ih more C' H' wt) (fun x _ => g.edges.length - (intOf x).toNat)
                    case atStart => exact ⟨0, more, C', H', by omega, rfl, HD, M⟩
                    case round =>
                      clear M HD q1 q2 q3 more C' H'
                      obtain ⟨i, more, C', H', hi, rfl, HD, M⟩ := hrel
                      obtain ⟨q1, q2, q3⟩ := M.gr.facts
                      by_cases hli : i < g.edges.length
                      case neg =>
                        have HD2 : Hid (SMid g v s C H more (t + 1) 0 0 C' H') := Lib.hid (by have h := HD.out; rw [show i = g.edges.length by omega] at h; exact h.nextT)
                        go_wp2_with fail
                        go_roundw
                        case rel => exact ⟨t + 1, more, C', H', by omega, by go_num, HD2, M⟩
                        case measure => simp [intOf]; omega
                      case pos =>
                        obtain ⟨be, oe, hE⟩ := hG.edges
                        obtain ⟨y, hy⟩ := get_lt hli
                        obtain ⟨rfl, hbe, ⟨⟨x0, x1, L, cl, x2, hl1, hl2, hL⟩, _⟩⟩ := hE i y hy
                        have y0 := x0.now M.bel
                        have y1 := x1.now M.bel
                        have y2 := x2.now M.bel
                        have hyo := hV.edges y (List.mem_of_getElem? hy)
                        have HY := Lib.hid hy
                        have a0 := hyo.a0; have a1 := hyo.a1; have b0 := hyo.b0; have b1 := hyo.b1
                        have hti : I64 (t : Int) := by unfold I64; omega
                        clear hE hy x0 x1 x2
                        have BE := Blk.new wr 118 #[.int .i64 y.a, .int .i64 y.b, .slice L y.legs.length cl]
                        have MA := M.alloc (Obj.cells #[.int .i64 y.a, .int .i64 y.b, .slice L y.legs.length cl] 118)
                        cases ha : arrive g y t with
                        | none =>
                          have HA := Lib.hid ha
                          have HD2 := Lib.hid (HD.out.skipL hV HY.out (.inl HA.out))
                          clear ha
                          go_wp2_with fail
                          refine (lands_no_any _ _ _ _ g y (i : Int) t _ (hG.ext MA.bel) hV (by omega) (by rw [Int.toNat_natCast]; exact HY.out) hti HA.out).mono ?_
                          rintro e w3 ⟨rfl, hb3⟩
                          have M := MA.ext hb3
                          clear hb3
                          go_wp2_with fail
                          go_roundw
                          case rel => exact ⟨i + 1, more, C', H', by omega, by go_num, HD2, M⟩
                          case measure => simp [intOf]; omega
                        | some pr =>
                          obtain ⟨l, te⟩ := pr
                          have HA := Lib.hid ha
                          have hlate := arrive_late hV hyo ha
                          have hlc := light_cost hV y (List.mem_of_getElem? HY.out) l (arrive_some ha).1
                          simp only [lCost] at hlc
                          clear ha
                          go_wp2_with fail
                          refine (lands_yes_any _ _ _ _ g y (i : Int) t l te _ (hG.ext MA.bel) hV (by omega) (by rw [Int.toNat_natCast]; exact HY.out) hti HA.out).mono ?_
                          rintro e w3 ⟨rfl, hb3⟩
                          have M := MA.ext hb3
                          have BE := BE.ext hb3
                          clear hb3 q1 q2 q3 y0 y1 y2 MA
                          obtain ⟨p, hp⟩ := get_lt (l := ic) (k := y.a.toNat) (by have := HNC.out; omega)
                          obtain ⟨q, hq⟩ := get_lt (l := ih) (k := y.a.toNat) (by have := HNH.out; omega)
                          have HP := Lib.hid hp; have HQ := Lib.hid hq
                          have htm : t < g.h.toNat := by omega
                          have k1 := M.oc.cell hp
                          have k2 := M.tc.cell hp htm
                          clear hp hq
                          obtain ⟨z, hz⟩ : ∃ z, C' (y.a.toNat, t) = z := ⟨_, rfl⟩
                          have HZ := Lib.hid hz
                          rw [hz] at k2
                          obtain ⟨y0, y1, y2⟩ := BE.facts
                          by_cases hzn : z < Never
                          case neg =>
                            have hd : decide (z < 1099511627776) = false := by simp only [Never] at hzn; simp; omega
                            have HD2 := Lib.hid (HD.out.skipL hV HY.out (.inr (by rw [hz]; exact hzn)))
                            clear hzn hz
                            go_wp2_with fail
                            go_roundw
                            case rel => exact ⟨i + 1, more, C', H', by omega, by go_num, HD2, M⟩
                            case measure => simp [intOf]; omega
                          case pos =>
                            have hd : decide (z < 1099511627776) = true := by simp only [Never] at hzn; simp; omega
                            have HD2 := Lib.hid (HD.out.leg hV HY.out HA.out (by rw [hz]; exact hzn) rfl)
                            rw [HZ.out] at HD2
                            have hz0' := (HD.out.inv.low (y.a.toNat, t)).1
                            have hz1' := HD.out.inv.told _ (show C' (y.a.toNat, t) < Never by rw [hz]; exact hzn)
                            rw [hz] at hz0' hz1'
                            simp only at hz1'
                            obtain ⟨_, _, _, hz2', hh0, hh1'⟩ := hz1'
                            have hw1 : IntKind.i64.wrap (z + l.cost) = z + l.cost := IntWalk.i64_in _ (by omega)
                            have htx : (t : Int) < max g.h 0 := by omega
                            clear hzn hz
                            go_wp2_with fail
                            clear y0 y1 y2 k1 k2
                            obtain ⟨S, hSS⟩ : ∃ S : World → Prop, Hid (S = fun w' => w'.cell? ⟨wr.heap.size, 0, none⟩ = some (.int .i64 y.a) ∧ w'.cell? ⟨wr.heap.size, 1, none⟩ = some (.int .i64 y.b) ∧ w'.cell? ⟨bc, y.a.toNat, none⟩ = some (.slice (some ⟨p.1, 0, none⟩) g.h.toNat p.2) ∧ w'.cell? ⟨p.1, t, none⟩ = some (.int .i64 z)) := ⟨_, Lib.hid rfl⟩
                            have M0 := M.drew
                            have BE := BE.drew
                            have hS0 : S w3.drew := by
                              rw [hSS.out]
                              refine ⟨by rw [BE.cell]; rfl, by rw [BE.cell]; rfl, M0.oc.cell HP.out, ?_⟩
                              have := M0.tc.cell HP.out htm
                              rw [HZ.out] at this
                              exact this
                            clear M
                            refine WpN.begin (S := S) 15 (by kernel_rfl) ?_
                            refine WpN.takeD (i := 0) (v := ?_) rfl rfl (by kernel_rfl) (fun _ _ _ h => h) (Or.inl ⟨by rfl, ?_⟩) (by assumption) ?_
                            rotate_left
                            · intro w hSw; rw [hSS.out] at hSw; obtain ⟨sw0, sw1, sw2, sw3⟩ := hSw; go_simp; try with_reducible rfl
                            simp only [Act.put, List.setIfInBounds_toArray, List.set_cons_zero, List.set_cons_succ]
                            refine WpN.takeD (i := 1) (v := ?_) rfl rfl (by kernel_rfl) (fun _ _ _ h => h) (Or.inl ⟨by rfl, ?_⟩) (by assumption) ?_
                            rotate_left
                            · intro w hSw; rw [hSS.out] at hSw; obtain ⟨sw0, sw1, sw2, sw3⟩ := hSw; go_simp; try with_reducible rfl
                            simp only [Act.put, List.setIfInBounds_toArray, List.set_cons_zero, List.set_cons_succ]
                            refine WpN.takeD (i := 2) (v := ?_) rfl rfl (by kernel_rfl) (fun _ _ _ h => h) (Or.inl ⟨by rfl, ?_⟩) (by assumption) ?_
                            rotate_left
                            · intro w hSw; rw [hSS.out] at hSw; obtain ⟨sw0, sw1, sw2, sw3⟩ := hSw; go_simp; try with_reducible rfl
                            simp only [Act.put, List.setIfInBounds_toArray, List.set_cons_zero, List.set_cons_succ]
                            refine WpN.takeD (i := 3) (v := ?_) rfl rfl (by kernel_rfl) (fun _ _ _ h => h) (Or.inl ⟨by rfl, ?_⟩) (by assumption) ?_
                            rotate_left
                            · intro w hSw; rw [hSS.out] at hSw; obtain ⟨sw0, sw1, sw2, sw3⟩ := hSw; go_simp; try with_reducible rfl
                            simp only [Act.put, List.setIfInBounds_toArray, List.set_cons_zero, List.set_cons_succ]
                            refine WpN.takeD (i := 4) (v := ?_) rfl rfl (by kernel_rfl) (fun _ _ _ h => h) (Or.inl ⟨by rfl, ?_⟩) (by assumption) ?_
                            rotate_left
                            · intro w hSw; rw [hSS.out] at hSw; obtain ⟨sw0, sw1, sw2, sw3⟩ := hSw; go_simp; try with_reducible rfl
                            simp only [Act.put, List.setIfInBounds_toArray, List.set_cons_zero, List.set_cons_succ]
                            refine WpN.takeD (i := 5) (v := ?_) rfl rfl (by kernel_rfl) (fun _ _ _ h => h) (Or.inl ⟨by rfl, ?_⟩) (by assumption) ?_
                            rotate_left
                            · intro w hSw; rw [hSS.out] at hSw; obtain ⟨sw0, sw1, sw2, sw3⟩ := hSw; go_simp; try with_reducible rfl
                            simp only [Act.put, List.setIfInBounds_toArray, List.set_cons_zero, List.set_cons_succ]
                            refine WpN.takeD (i := 6) (v := ?_) rfl rfl (by kernel_rfl) (fun _ _ _ h => h) (Or.inl ⟨by rfl, ?_⟩) (by assumption) ?_
                            rotate_left
                            · intro w hSw; rw [hSS.out] at hSw; obtain ⟨sw0, sw1, sw2, sw3⟩ := hSw; go_simp; try with_reducible rfl
                            simp only [Act.put, List.setIfInBounds_toArray, List.set_cons_zero, List.set_cons_succ]
                            refine WpN.takeD (i := 7) (v := ?_) rfl rfl (by kernel_rfl) (fun _ _ _ h => h) (Or.inl ⟨by rfl, ?_⟩) (by assumption) ?_
                            rotate_left
                            · intro w hSw; rw [hSS.out] at hSw; obtain ⟨sw0, sw1, sw2, sw3⟩ := hSw; go_simp; try with_reducible rfl
                            simp only [Act.put, List.setIfInBounds_toArray, List.set_cons_zero, List.set_cons_succ]
                            refine WpN.takeD (i := 8) (v := ?_) rfl rfl (by kernel_rfl) (fun _ _ _ h => h) (Or.inl ⟨by rfl, ?_⟩) (by assumption) ?_
                            rotate_left
                            · intro w hSw; rw [hSS.out] at hSw; obtain ⟨sw0, sw1, sw2, sw3⟩ := hSw; go_simp; try with_reducible rfl
                            simp only [Act.put, List.setIfInBounds_toArray, List.set_cons_zero, List.set_cons_succ]
                            refine WpN.takeD (i := 9) (v := ?_) rfl rfl (by kernel_rfl) (fun _ _ _ h => h) (Or.inl ⟨by rfl, ?_⟩) (by assumption) ?_
                            rotate_left
                            · intro w hSw; rw [hSS.out] at hSw; obtain ⟨sw0, sw1, sw2, sw3⟩ := hSw; go_simp; try with_reducible rfl
                            simp only [Act.put, List.setIfInBounds_toArray, List.set_cons_zero, List.set_cons_succ]
                            refine WpN.takeD (i := 10) (v := ?_) rfl rfl (by kernel_rfl) (fun _ _ _ h => h) (Or.inl ⟨by rfl, ?_⟩) (by assumption) ?_
                            rotate_left
                            · intro w hSw; rw [hSS.out] at hSw; obtain ⟨sw0, sw1, sw2, sw3⟩ := hSw; go_simp; try with_reducible rfl
                            simp only [Act.put, List.setIfInBounds_toArray, List.set_cons_zero, List.set_cons_succ]
                            refine WpN.takeD (i := 11) (v := ?_) rfl rfl (by kernel_rfl) (fun _ _ _ h => h) (Or.inl ⟨by rfl, ?_⟩) (by assumption) ?_
                            rotate_left
                            · intro w hSw; rw [hSS.out] at hSw; obtain ⟨sw0, sw1, sw2, sw3⟩ := hSw; go_simp; try with_reducible rfl
                            simp only [Act.put, List.setIfInBounds_toArray, List.set_cons_zero, List.set_cons_succ]
                            refine WpN.takeD (i := 12) (v := ?_) rfl rfl (by kernel_rfl) (fun _ _ _ h => h) (Or.inl ⟨by rfl, ?_⟩) (by assumption) ?_
                            rotate_left
                            · intro w hSw; rw [hSS.out] at hSw; obtain ⟨sw0, sw1, sw2, sw3⟩ := hSw; go_simp; try with_reducible rfl
                            simp only [Act.put, List.setIfInBounds_toArray, List.set_cons_zero, List.set_cons_succ]
                            refine WpN.takeD (i := 13) (v := ?_) rfl rfl (by kernel_rfl) (fun _ _ _ h => h) (Or.inl ⟨by rfl, ?_⟩) (by assumption) ?_
                            rotate_left
                            · intro w hSw; rw [hSS.out] at hSw; obtain ⟨sw0, sw1, sw2, sw3⟩ := hSw; go_simp; try with_reducible rfl
                            simp only [Act.put, List.setIfInBounds_toArray, List.set_cons_zero, List.set_cons_succ]
                            refine WpN.takeD (i := 14) (v := ?_) rfl rfl (by kernel_rfl) (fun _ _ _ h => h) (Or.inl ⟨by rfl, ?_⟩) (by assumption) ?_
                            rotate_left
                            · intro w hSw; rw [hSS.out] at hSw; obtain ⟨sw0, sw1, sw2, sw3⟩ := hSw; go_simp; try with_reducible rfl
                            simp only [Act.put, List.setIfInBounds_toArray, List.set_cons_zero, List.set_cons_succ]
                            refine WpN.one (i := 15) rfl (by kernel_rfl) fun K hK => ?_
                            go_wp2_with (first | (refine (putC_any cc y.b.toNat te.toNat _ _ (by omega) (by omega) M0 HF2.out (by omega) (by omega) (z + l.cost)).mono ?_; rintro e w4 ⟨rfl, M, hk4⟩))
                            have BE := hk4 _ _ _ (by decide) (by decide) BE
                            clear hk4
                            refine hK.out _ _ ⟨fun h => by omega, ?_⟩
                            refine WpN.done (by kernel_rfl) ?_ _
                            clear hK K hSS hS0 S M0
                            go_wp2_with fail
                            obtain ⟨zh, hzh⟩ : ∃ zh, H' (y.a.toNat, t) = zh := ⟨_, rfl⟩
                            have HZH := Lib.hid hzh
                            rw [hzh] at HD2 hh0 hh1'
                            have hw2 : IntKind.i64.wrap (zh + 1) = zh + 1 := IntWalk.i64_in _ (by omega)
                            clear hzh
                            obtain ⟨S, hSS⟩ : ∃ S : World → Prop, Hid (S = fun w' => w'.cell? ⟨wr.heap.size, 0, none⟩ = some (.int .i64 y.a) ∧ w'.cell? ⟨wr.heap.size, 1, none⟩ = some (.int .i64 y.b) ∧ w'.cell? ⟨bh, y.a.toNat, none⟩ = some (.slice (some ⟨q.1, 0, none⟩) g.h.toNat q.2) ∧ w'.cell? ⟨q.1, t, none⟩ = some (.int .i64 zh)) := ⟨_, Lib.hid rfl⟩
                            have M0 := M.drew
                            have BE := BE.drew
                            have hS0 : S w4.drew := by
                              rw [hSS.out]
                              refine ⟨by rw [BE.cell]; rfl, by rw [BE.cell]; rfl, M0.oh.cell HQ.out, ?_⟩
                              have := M0.th.cell HQ.out htm
                              rw [HZH.out] at this
                              exact this
                            clear M
                            refine WpN.begin (S := S) 14 (by kernel_rfl) ?_
                            refine WpN.takeD (i := 0) (v := ?_) rfl rfl (by kernel_rfl) (fun _ _ _ h => h) (Or.inl ⟨by rfl, ?_⟩) (by assumption) ?_
                            rotate_left
                            · intro w hSw; rw [hSS.out] at hSw; obtain ⟨sw0, sw1, sw2, sw3⟩ := hSw; go_simp; try with_reducible rfl
                            simp only [Act.put, List.setIfInBounds_toArray, List.set_cons_zero, List.set_cons_succ]
                            refine WpN.takeD (i := 1) (v := ?_) rfl rfl (by kernel_rfl) (fun _ _ _ h => h) (Or.inl ⟨by rfl, ?_⟩) (by assumption) ?_
                            rotate_left
                            · intro w hSw; rw [hSS.out] at hSw; obtain ⟨sw0, sw1, sw2, sw3⟩ := hSw; go_simp; try with_reducible rfl
                            simp only [Act.put, List.setIfInBounds_toArray, List.set_cons_zero, List.set_cons_succ]
                            refine WpN.takeD (i := 2) (v := ?_) rfl rfl (by kernel_rfl) (fun _ _ _ h => h) (Or.inl ⟨by rfl, ?_⟩) (by assumption) ?_
                            rotate_left
                            · intro w hSw; rw [hSS.out] at hSw; obtain ⟨sw0, sw1, sw2, sw3⟩ := hSw; go_simp; try with_reducible rfl
                            simp only [Act.put, List.setIfInBounds_toArray, List.set_cons_zero, List.set_cons_succ]
                            refine WpN.takeD (i := 3) (v := ?_) rfl rfl (by kernel_rfl) (fun _ _ _ h => h) (Or.inl ⟨by rfl, ?_⟩) (by assumption) ?_
                            rotate_left
                            · intro w hSw; rw [hSS.out] at hSw; obtain ⟨sw0, sw1, sw2, sw3⟩ := hSw; go_simp; try with_reducible rfl
                            simp only [Act.put, List.setIfInBounds_toArray, List.set_cons_zero, List.set_cons_succ]
                            refine WpN.takeD (i := 4) (v := ?_) rfl rfl (by kernel_rfl) (fun _ _ _ h => h) (Or.inl ⟨by rfl, ?_⟩) (by assumption) ?_
                            rotate_left
                            · intro w hSw; rw [hSS.out] at hSw; obtain ⟨sw0, sw1, sw2, sw3⟩ := hSw; go_simp; try with_reducible rfl
                            simp only [Act.put, List.setIfInBounds_toArray, List.set_cons_zero, List.set_cons_succ]
                            refine WpN.takeD (i := 5) (v := ?_) rfl rfl (by kernel_rfl) (fun _ _ _ h => h) (Or.inl ⟨by rfl, ?_⟩) (by assumption) ?_
                            rotate_left
                            · intro w hSw; rw [hSS.out] at hSw; obtain ⟨sw0, sw1, sw2, sw3⟩ := hSw; go_simp; try with_reducible rfl
                            simp only [Act.put, List.setIfInBounds_toArray, List.set_cons_zero, List.set_cons_succ]
                            refine WpN.takeD (i := 6) (v := ?_) rfl rfl (by kernel_rfl) (fun _ _ _ h => h) (Or.inl ⟨by rfl, ?_⟩) (by assumption) ?_
                            rotate_left
                            · intro w hSw; rw [hSS.out] at hSw; obtain ⟨sw0, sw1, sw2, sw3⟩ := hSw; go_simp; try with_reducible rfl
                            simp only [Act.put, List.setIfInBounds_toArray, List.set_cons_zero, List.set_cons_succ]
                            refine WpN.takeD (i := 7) (v := ?_) rfl rfl (by kernel_rfl) (fun _ _ _ h => h) (Or.inl ⟨by rfl, ?_⟩) (by assumption) ?_
                            rotate_left
                            · intro w hSw; rw [hSS.out] at hSw; obtain ⟨sw0, sw1, sw2, sw3⟩ := hSw; go_simp; try with_reducible rfl
                            simp only [Act.put, List.setIfInBounds_toArray, List.set_cons_zero, List.set_cons_succ]
                            refine WpN.takeD (i := 8) (v := ?_) rfl rfl (by kernel_rfl) (fun _ _ _ h => h) (Or.inl ⟨by rfl, ?_⟩) (by assumption) ?_
                            rotate_left
                            · intro w hSw; rw [hSS.out] at hSw; obtain ⟨sw0, sw1, sw2, sw3⟩ := hSw; go_simp; try with_reducible rfl
                            simp only [Act.put, List.setIfInBounds_toArray, List.set_cons_zero, List.set_cons_succ]
                            refine WpN.takeD (i := 9) (v := ?_) rfl rfl (by kernel_rfl) (fun _ _ _ h => h) (Or.inl ⟨by rfl, ?_⟩) (by assumption) ?_
                            rotate_left
                            · intro w hSw; rw [hSS.out] at hSw; obtain ⟨sw0, sw1, sw2, sw3⟩ := hSw; go_simp; try with_reducible rfl
                            simp only [Act.put, List.setIfInBounds_toArray, List.set_cons_zero, List.set_cons_succ]
                            refine WpN.takeD (i := 10) (v := ?_) rfl rfl (by kernel_rfl) (fun _ _ _ h => h) (Or.inl ⟨by rfl, ?_⟩) (by assumption) ?_
                            rotate_left
                            · intro w hSw; rw [hSS.out] at hSw; obtain ⟨sw0, sw1, sw2, sw3⟩ := hSw; go_simp; try with_reducible rfl
                            simp only [Act.put, List.setIfInBounds_toArray, List.set_cons_zero, List.set_cons_succ]
                            refine WpN.takeD (i := 11) (v := ?_) rfl rfl (by kernel_rfl) (fun _ _ _ h => h) (Or.inl ⟨by rfl, ?_⟩) (by assumption) ?_
                            rotate_left
                            · intro w hSw; rw [hSS.out] at hSw; obtain ⟨sw0, sw1, sw2, sw3⟩ := hSw; go_simp; try with_reducible rfl
                            simp only [Act.put, List.setIfInBounds_toArray, List.set_cons_zero, List.set_cons_succ]
                            refine WpN.takeD (i := 12) (v := ?_) rfl rfl (by kernel_rfl) (fun _ _ _ h => h) (Or.inl ⟨by rfl, ?_⟩) (by assumption) ?_
                            rotate_left
                            · intro w hSw; rw [hSS.out] at hSw; obtain ⟨sw0, sw1, sw2, sw3⟩ := hSw; go_simp; try with_reducible rfl
                            simp only [Act.put, List.setIfInBounds_toArray, List.set_cons_zero, List.set_cons_succ]
                            refine WpN.takeD (i := 13) (v := ?_) rfl rfl (by kernel_rfl) (fun _ _ _ h => h) (Or.inl ⟨by rfl, ?_⟩) (by assumption) ?_
                            rotate_left
                            · intro w hSw; rw [hSS.out] at hSw; obtain ⟨sw0, sw1, sw2, sw3⟩ := hSw; go_simp; try with_reducible rfl
                            simp only [Act.put, List.setIfInBounds_toArray, List.set_cons_zero, List.set_cons_succ]
                            refine WpN.one (i := 14) rfl (by kernel_rfl) fun K hK => ?_
                            go_wp2_with (first | (refine (putH_any ch y.b.toNat te.toNat _ _ (by omega) (by omega) M0 HF2.out (by omega) (by omega) (zh + 1)).mono ?_; rintro e w5 ⟨rfl, M, _⟩))
                            refine hK.out _ _ ⟨fun h => by omega, ?_⟩
                            refine WpN.done (by kernel_rfl) ?_ _
                            clear hK K hSS hS0 S M0
                            go_wp2_with fail
                            go_roundw
                            case rel => exact ⟨i + 1, _, _, _, by omega, by go_num, HD2, M⟩
                            case measure => simp [intOf]; omega
end Go.Proofs.Ytcfachfldanddaa
