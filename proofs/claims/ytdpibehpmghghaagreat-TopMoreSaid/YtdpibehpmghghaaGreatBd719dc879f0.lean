/- Several texts in one: BspSpec2, BspEng. -/
import Derived.Test.YtdpibehpmghghaaGreatBdf454dccc8d
import Derived.Test.YtdpibehpmghghaaGreatBd9ec47d5626
import Derived.Test.YtdpibehpmghghaaGreatBd2ead63bc01
/- A run's start, its rounds and its end; no program in sight. -/
namespace Go.Proofs.YtdpibehpmghghaaGreat

def startBOf (p v : Int) (i : Nat) (l : IvlD) : List PieceD := if p = 3 then [⟨l.f, l.t, i⟩] else if (i : Int) = v then [⟨l.f, l.t, 0⟩] else []
def startB (g : GraphD) (p v : Int) : List (List PieceD) := g.lives.mapIdx (startBOf p v)
/-- All maps behind a round. -/
structure Step (g : GraphD) (p : Int) (sts F sts' F' : List (List PieceD)) : Prop where
  len : sts'.length = g.lives.length
  lenF : F'.length = g.lives.length
  at_ : ∀ (i : Nat) m m' f', sts[i]? = some m → sts'[i]? = some m' → F'[i]? = some f' → Lies g.h m' ∧ (∀ t, val m' t = minAt (boxL (sendL g p F) i) t (val m t)) ∧ FreshIs g.h m' (val m) f'
section
variable {p v t : Int} {k i : Nat} {g : GraphD} {sts F sts' F' : List (List PieceD)} {was : Nat → Int → Int} {m m' : List PieceD} {l : IvlD}
theorem startB_len : (startB g p v).length = g.lives.length := by simp [startB]
theorem startB_get (h : g.lives[i]? = some l) : (startB g p v)[i]? = some (startBOf p v i l) := by simp [startB, List.getElem?_mapIdx, h]
theorem lies_single {h : Int} {x : PieceD} (h1 : 0 ≤ x.f ∧ x.f < x.t ∧ x.t ≤ h) (h2 : 0 ≤ x.v ∧ x.v ≤ 100000) : Lies h [x] :=
  ⟨⟨List.pairwise_singleton _ _, fun y hy => by obtain rfl := List.mem_singleton.1 hy; exact h1.2.1⟩, fun y hy => by obtain rfl := List.mem_singleton.1 hy; exact ⟨⟨h1.1, h1.2.2⟩, h2⟩⟩
theorem val_single {x : PieceD} : val [x] t = if x.f ≤ t ∧ t < x.t then x.v else Far := by
  unfold val atM
  split <;> rfl
theorem startB_lies (hV : Valid g) (h : g.lives[i]? = some l) : Lies g.h (startBOf p v i l) := by
  have h1 := hV.lives l (List.mem_of_getElem? h)
  have h2 := (List.getElem?_eq_some_iff.1 h).1
  have h3 := hV.nl
  unfold startBOf
  split
  · exact lies_single h1 ⟨by show (0 : Int) ≤ i; omega, by show (i : Int) ≤ 100000; omega⟩
  · split
    · exact lies_single h1 ⟨by show (0 : Int) ≤ 0; omega, by show (0 : Int) ≤ 100000; omega⟩
    · exact Lies.nil
theorem startB_val (h : g.lives[i]? = some l) : val (startBOf p v i l) t = if aliveB g i t = true ∧ p = 3 then (i : Int) else if aliveB g i t = true ∧ (i : Int) = v then 0 else Far := by
  have ha : aliveB g (i : Int) t = decide (l.f ≤ t ∧ t < l.t) := aliveB_of (by rw [Int.toNat_natCast]; exact h)
  rw [ha]
  unfold startBOf
  by_cases h1 : p = 3
  · rw [if_pos h1, val_single]
    by_cases h2 : l.f ≤ t ∧ t < l.t <;> simp [h1, h2]
  · rw [if_neg h1]
    by_cases h3 : (i : Int) = v
    · rw [if_pos h3, val_single]
      by_cases h2 : l.f ≤ t ∧ t < l.t <;> simp [h1, h2, h3]
    · rw [if_neg h3]
      simp [h1, h3, val, atM]
theorem startB_mid (hV : Valid g) (p v : Int) : BMid g p v 0 (startB g p v) (startB g p v) (fun _ _ => Far) := by
  have hg : ∀ (i : Nat) m, (startB g p v)[i]? = some m → ∃ l, g.lives[i]? = some l ∧ m = startBOf p v i l := fun i m hm => by
    obtain ⟨l, hl⟩ := get_lt (show i < g.lives.length by
      have := (List.getElem?_eq_some_iff.1 hm).1
      rwa [startB_len] at this)
    rw [startB_get hl] at hm
    exact ⟨l, hl, (Option.some.inj hm).symm⟩
  refine ⟨⟨startB_len, startB_len, fun m hm => ?_, fun i m hm t hne => ?_, fun i m f h1 h2 => ?_⟩, .inl fun _ _ => rfl, fun t _ _ => ?_, .inl rfl⟩
  · obtain ⟨i, hi⟩ := List.getElem?_of_mem hm
    obtain ⟨l, hl, rfl⟩ := hg i m hi
    exact startB_lies hV hl
  · obtain ⟨l, hl, rfl⟩ := hg i m hm
    have hx := startB_val (p := p) (v := v) (t := t) hl
    cases ha : aliveB g i t with
    | true => rfl
    | false =>
      rw [ha] at hx
      rcases (startB_lies (p := p) (v := v) hV hl).val_cases t with ⟨_, h2⟩ | ⟨h1, _⟩
      · exact absurd h2 hne
      · rw [hx] at h1
        simp [Far] at h1
  · rw [h1] at h2
    obtain rfl := Option.some.inj h2
    obtain ⟨l, hl, rfl⟩ := hg i m h1
    exact fresh_first (startB_lies hV hl)
  · have e : dAt (startB g p v) t = initAt g p v t := funext fun i => by
      rcases Nat.lt_or_ge i g.lives.length with h | h
      · obtain ⟨l, hl⟩ := get_lt h
        rw [dAt_of (startB_get hl), startB_val hl]
        unfold initAt begunD
        rw [gi_range (show i < (snapD g t).alive.length by rw [show (snapD g t).alive = snapL g t from rfl, snapL_len]; exact h)]
        rw [show (snapD g t).alive = snapL g t from rfl, snapL_get h]
        simp
      · rw [dAt_far (by rw [startB_len]; exact h)]
        unfold initAt begunD
        rw [gi_range_far (by rw [show (snapD g t).alive = snapL g t from rfl, snapL_len]; exact h)]
    rw [e]
    exact .zero
theorem BMid.few (hM : BMid g p v k sts F was) (hV : Valid g) : k ≤ g.lives.length := by
  rcases hM.last with rfl | ⟨t, d, ht, j, rfl, hd, hne⟩
  · exact Nat.zero_le _
  · have h1 := hM.at_ t ht.1 ht.2
    cases h1 with
    | succ h2 hb =>
      obtain rfl := hd.eq h2
      obtain ⟨u, hu⟩ : ∃ u, dAt sts t u ≠ d u := Classical.byContradiction fun hn => hne (funext fun u => Classical.byContradiction fun h3 => hn ⟨u, fun h4 => h3 h4.symm⟩)
      exact BfN.few (adds hV p t) (fun i => (init_val hV i).1) hd hb hu
theorem Step.all (hs : Step g p sts F sts' F') (hS : States g sts F was) (h : sts'[i]? = some m') : ∃ m f', sts[i]? = some m ∧ F'[i]? = some f' ∧ Lies g.h m' ∧ (∀ t, val m' t = minAt (boxL (sendL g p F) i) t (val m t)) ∧ FreshIs g.h m' (val m) f' := by
  have hi : i < g.lives.length := by
    have := (List.getElem?_eq_some_iff.1 h).1
    rwa [hs.len] at this
  obtain ⟨m, hm⟩ := get_lt (show i < sts.length by rw [hS.len]; exact hi)
  obtain ⟨f, hf⟩ := get_lt (show i < F'.length by rw [hs.lenF]; exact hi)
  exact ⟨m, f, hm, hf, hs.at_ i m m' f hm h hf⟩
theorem Step.states (hs : Step g p sts F sts' F') (hS : States g sts F was) (hV : Valid g) : States g sts' F' (fun i t => dAt sts t i) := by
  refine ⟨hs.len, hs.lenF, fun m' hm' => ?_, fun i m' hm' t hne => ?_, fun i m' f' hm' hf' => ?_⟩
  · obtain ⟨i, hi⟩ := List.getElem?_of_mem hm'
    obtain ⟨_, _, _, _, h3, _⟩ := hs.all hS hi
    exact h3
  · obtain ⟨m, f, h1, _, h3, h4, _⟩ := hs.all hS hm'
    have hx : val m' t ≤ 100000 := by
      rcases h3.val_cases t with ⟨_, k2⟩ | ⟨k1, _⟩
      · exact absurd k2 hne
      · exact k1
    rw [h4 t] at hx
    rcases minAt_from (l := boxL (sendL g p F) i) (t := t) (d := val m t) with h5 | ⟨x, hx2, hp, _⟩
    · rw [h5] at hx
      refine hS.alive i m h1 t fun hn => ?_
      rw [val_none hn] at hx
      unfold Far at hx
      omega
    · obtain ⟨_, _, h6⟩ := hS.mail hV (mem_box.1 hx2)
      simp only [inP, decide_eq_true_eq] at hp
      exact (h6 t hp.1 hp.2).2.2
  · obtain ⟨m, f2, h1, h2, _, _, h5⟩ := hs.all hS hm'
    rw [hf'] at h2
    obtain rfl := Option.some.inj h2
    have e : (fun t => dAt sts t i) = val m := funext fun t => dAt_of h1
    show FreshIs g.h m' (fun t => dAt sts t i) f'
    rw [e]
    exact h5
theorem BMid.next (hM : BMid g p v k sts F was) (hV : Valid g) (hs : Step g p sts F sts' F') (hn : ∃ f, f ∈ F' ∧ f ≠ []) : k + 1 ≤ g.lives.length ∧ BMid g p v (k + 1) sts' F' (fun i t => dAt sts t i) := by
  have hr := fun t => hM.st.round hV hM.was hs.len (fun i m m' h1 h2 => by
    obtain ⟨m2, _, h3, _, _, h4, _⟩ := hs.all hM.st h2
    rw [h1] at h3
    obtain rfl := Option.some.inj h3
    exact h4) t
  obtain ⟨f, hf, hne⟩ := hn
  obtain ⟨i, hi⟩ := List.getElem?_of_mem hf
  have hil : i < g.lives.length := by
    have := (List.getElem?_eq_some_iff.1 hi).1
    rwa [hs.lenF] at this
  obtain ⟨m', hm'⟩ := get_lt (show i < sts'.length by rw [hs.len]; exact hil)
  obtain ⟨m, f2, h1, h2, _, _, h5⟩ := hs.all hM.st hm'
  rw [hi] at h2
  obtain rfl := Option.some.inj h2
  obtain ⟨q, f3, rfl⟩ := List.exists_cons_of_ne_nil hne
  have hq2 := h5.in_ q (by simp)
  have hq := h5.tells q (by simp) q.f (Int.le_refl _) hq2.1.2.1
  have hlt : dAt sts' q.f i ≠ dAt sts q.f i := by
    rw [dAt_of hm', dAt_of h1]
    have h6 := hq.1
    have h7 := hq.2
    omega
  have hqh : 0 ≤ q.f ∧ q.f < g.h := ⟨hq2.1.1, by have := hq2.1; omega⟩
  have hat := hM.at_ q.f hqh.1 hqh.2
  exact ⟨BfN.few (adds hV p q.f) (fun i => (init_val hV i).1) hat (hr q.f) hlt, hs.states hM.st hV, .inr hr, fun t h0 h1 => .succ (hM.at_ t h0 h1) (hr t), .inr ⟨q.f, dAt sts q.f, hqh, k, rfl, hat, fun e => hlt (by rw [e])⟩⟩
theorem BMid.done (hM : BMid g p v k sts F was) (hV : Valid g) (hs : Step g p sts F sts' F') (hn : ∀ f, f ∈ F' → f = []) : sts' = sts ∧ RunSay g p v k sts := by
  have key : ∀ (i : Nat) m m', sts[i]? = some m → sts'[i]? = some m' → m' = m ∧ ∀ t, minAt (boxL (sendL g p F) i) t (val m t) = val m t := fun i m m' h1 h2 => by
    obtain ⟨m2, f, h3, h4, h5, h6, h7⟩ := hs.all hM.st h2
    rw [h1] at h3
    obtain rfl := Option.some.inj h3
    obtain rfl := hn f (List.mem_of_getElem? h4)
    have he : ∀ t, val m' t = val m t := fun t => by
      have h8 : val m' t ≤ val m t := by rw [h6 t]; exact minAt_le
      rcases Int.lt_or_le (val m' t) (val m t) with h9 | h9
      · obtain ⟨q, hq, _⟩ := h7.all t h9
        simp at hq
      · omega
    exact ⟨h5.eq (hM.st.lies m (List.mem_of_getElem? h1)) he, fun t => by rw [← h6 t]; exact he t⟩
  refine ⟨List.ext_getElem? fun i => ?_, hM.fin hV (hM.few hV) fun i m hm t => ?_⟩
  · rcases Nat.lt_or_ge i g.lives.length with h | h
    · obtain ⟨m, hm⟩ := get_lt (show i < sts.length by rw [hM.st.len]; exact h)
      obtain ⟨m', hm'⟩ := get_lt (show i < sts'.length by rw [hs.len]; exact h)
      rw [hm, hm', (key i m m' hm hm').1]
    · rw [List.getElem?_eq_none (by rw [hs.len]; exact h), List.getElem?_eq_none (by rw [hM.st.len]; exact h)]
  · obtain ⟨m', hm'⟩ := get_lt (show i < sts'.length by
      have := (List.getElem?_eq_some_iff.1 hm).1
      rw [hM.st.len] at this
      rw [hs.len]; exact this)
    exact (key i m m' hm hm').2 t
end
end Go.Proofs.YtdpibehpmghghaaGreat
/- The engine of a run as memory holds it: what the vertices were told, each in blocks of its own. -/
namespace Go.Proofs.YtdpibehpmghghaaGreat
open Go.RowKit

/-- A list of pieces, where it lies, and for how many there is room. -/
abbrev VSide := List PieceD × Option Addr × Nat
def sV (x : VSide) : Value := .slice x.2.1 x.1.length x.2.2
/-- A vertex: what it was told, and what of that is new. -/
abbrev VItem := VSide × VSide
def vEnc (it : VItem) : List Value := [sV it.1, sV it.2]
def IsSl (u : Value) : Prop := ∃ A n c, u = Value.slice A n c
theorem vEnc_len (it : VItem) : (vEnc it).length = 2 := rfl
/-- Lists of which no two share a block. -/
structure Sides (w : World) (base : Nat) (E : TypeId) (l : List VSide) : Prop where
  own : ∀ x, x ∈ l → Own pieceC 3 w base E (sV x) x.1
  apart : ∀ (i j : Nat) x y, i ≠ j → l[i]? = some x → l[j]? = some y → ∀ b, (sV x).ownBlock = some b → (sV y).ownBlock ≠ some b
section
variable {w w' : World} {base e gv : Nat} {E : TypeId} {l : List VSide} {items : List VItem}
theorem Sides.keep (h : Sides w base E l) (hk : ∀ x, x ∈ l → Own pieceC 3 w base E (sV x) x.1 → Own pieceC 3 w' base E (sV x) x.1) : Sides w' base E l := ⟨fun x hx => hk x hx (h.own x hx), h.apart⟩
theorem Sides.ext (h : Sides w base E l) (hb : Below w.heap.size w w') : Sides w' base E l := h.keep fun _ _ hO => hO.ext hb
theorem Sides.nil : Sides w base E [] := ⟨fun x hx => by simp at hx, fun i j x y _ hx => by simp at hx⟩
theorem own_block_lt {x : VSide} (h : Own pieceC 3 w base E (sV x) x.1) {b : Nat} (hb : (sV x).ownBlock = some b) : base ≤ b ∧ b < w.heap.size := World.ownsRow.lt h b hb
/-- One list in the place of another: its block is the same, or new. -/
theorem Sides.set (h : Sides w base E l) {i : Nat} {x y : VSide} (hx : l[i]? = some x) (hy : Own pieceC 3 w' base E (sV y) y.1) (hk : ∀ (j : Nat) z, j ≠ i → l[j]? = some z → Own pieceC 3 w' base E (sV z) z.1)
    (hn : ∀ b, (sV y).ownBlock = some b → (sV x).ownBlock = some b ∨ w.heap.size ≤ b) : Sides w' base E (l.set i y) := by
  have hi := lt_of_get hx
  have hget : ∀ (j : Nat) z, (l.set i y)[j]? = some z → (j = i ∧ z = y) ∨ (j ≠ i ∧ l[j]? = some z) := fun j z hz => by
    by_cases hj : i = j
    · subst hj
      rw [List.getElem?_set_self hi] at hz
      exact .inl ⟨rfl, (Option.some.inj hz).symm⟩
    · rw [List.getElem?_set_ne hj] at hz
      exact .inr ⟨fun e => hj e.symm, hz⟩
  refine ⟨fun z hz => ?_, fun j k a c hjk ha hc b hb hb2 => ?_⟩
  · obtain ⟨j, hj⟩ := List.getElem?_of_mem hz
    rcases hget j z hj with ⟨_, rfl⟩ | ⟨h1, h2⟩
    · exact hy
    · exact hk j z h1 h2
  · rcases hget j a ha with ⟨rfl, rfl⟩ | ⟨h1, h2⟩
    · rcases hget k c hc with ⟨rfl, _⟩ | ⟨h3, h4⟩
      · exact hjk rfl
      · rcases hn b hb with h5 | h5
        · exact h.apart j k x c hjk hx h4 b h5 hb2
        · have := (own_block_lt (h.own c (List.mem_of_getElem? h4)) hb2).2
          omega
    · rcases hget k c hc with ⟨rfl, rfl⟩ | ⟨h3, h4⟩
      · rcases hn b hb2 with h5 | h5
        · exact h.apart j k a x hjk h2 hx b hb h5
        · have := (own_block_lt (h.own a (List.mem_of_getElem? h2)) hb).2
          omega
      · exact h.apart j k a c hjk h2 h4 b hb hb2
/-- One list more, in a block that is new. -/
theorem Sides.snoc (h : Sides w base E l) {y : VSide} (hy : Own pieceC 3 w' base E (sV y) y.1) (hk : ∀ z, z ∈ l → Own pieceC 3 w' base E (sV z) z.1) (hn : ∀ b, (sV y).ownBlock = some b → w.heap.size ≤ b) : Sides w' base E (l ++ [y]) := by
  have hget : ∀ (j : Nat) z, (l ++ [y])[j]? = some z → (j = l.length ∧ z = y) ∨ (j < l.length ∧ l[j]? = some z) := fun j z hz => by
    rcases Nat.lt_or_ge j l.length with h1 | h1
    · rw [List.getElem?_append_left h1] at hz
      exact .inr ⟨h1, hz⟩
    · rw [List.getElem?_append_right h1] at hz
      have h2 := lt_of_get hz
      simp at h2
      obtain rfl : j = l.length := by omega
      simp at hz
      exact .inl ⟨rfl, hz.symm⟩
  refine ⟨fun z hz => ?_, fun j k a c hjk ha hc b hb hb2 => ?_⟩
  · rcases List.mem_append.1 hz with hz | hz
    · exact hk z hz
    · obtain rfl : z = y := by simpa using hz
      exact hy
  · rcases hget j a ha with ⟨rfl, rfl⟩ | ⟨h1, h2⟩
    · rcases hget k c hc with ⟨rfl, _⟩ | ⟨h3, h4⟩
      · exact hjk rfl
      · have h5 := hn b hb
        have := (own_block_lt (h.own c (List.mem_of_getElem? h4)) hb2).2
        omega
    · rcases hget k c hc with ⟨rfl, rfl⟩ | ⟨h3, h4⟩
      · have h5 := hn b hb2
        have := (own_block_lt (h.own a (List.mem_of_getElem? h2)) hb).2
        omega
      · exact h.apart j k a c hjk h2 h4 b hb hb2
end
/-- The engine of a graph and a program. -/
structure Eng (w : World) (base e : Nat) (A : Option Addr) (c : Nat) (A' : Option Addr) (c' : Nat) (g : GraphD) (p : Int) (Av : Option Addr) (cv : Nat) (items : List VItem) : Prop where
  blk : Blk w e 110 #[.int .i64 g.h, .slice A g.lives.length c, .slice A' g.edges.length c', .int .i64 p, .slice Av items.length cv]
  eb : base ≤ e
  own : Own vEnc 2 w base 112 (.slice Av items.length cv) items
  all : AllC IsSl w (.slice Av items.length cv)
  st : Sides w base 53 (items.map Prod.fst)
  fr : ∀ it, it ∈ items → Own pieceC 3 w base 53 (sV it.2) it.2.1
  gr : GraphAt w A c A' c' g
def stsOf (items : List VItem) : List (List PieceD) := items.map fun it => it.1.1
def frsOf (items : List VItem) : List (List PieceD) := items.map fun it => it.2.1
section
variable {w w' : World} {base e gv c c' cv : Nat} {A A' Av : Option Addr} {g : GraphD} {p : Int} {items : List VItem}
theorem AllC.ext {Z : Value → Prop} {v : Value} {b0 : Nat} (h : AllC Z w v) (hb : Below b0 w w') (hv : ∀ k, v.ownBlock = some k → k < b0) : AllC Z w' v := fun k hk cs t fr hh => by
  rw [hb.block k (hv k hk)] at hh
  exact h k hk cs t fr hh
theorem AllC.blk {Z : Value → Prop} {v : Value} {k : Nat} {t : TypeId} {cs : Array Value} (h : AllC Z w v) (hv : v.ownBlock = some k) (hB : Blk w k t cs) : ∀ (i : Nat) u, cs[i]? = some u → Z u := h k hv cs t (0, 0) hB
theorem Eng.ext (h : Eng w base e A c A' c' g p Av cv items) (hb : Below w.heap.size w w') : Eng w' base e A c A' c' g p Av cv items :=
  ⟨h.blk.ext hb, h.eb, h.own.ext hb, h.all.ext hb fun k hk => (World.ownsRow.lt h.own k hk).2, h.st.ext hb, fun it hi => (h.fr it hi).ext hb, h.gr.ext hb⟩
theorem Eng.stays (h : Eng w base e A c A' c' g p Av cv items) {b0 : Nat} (hb : Below b0 w w') (h0 : w.heap.size ≤ b0) : Eng w' base e A c A' c' g p Av cv items := h.ext (hb.mono h0)
/-- The block of the vertices, known whole. -/
theorem Eng.vert (h : Eng w base e A c A' c' g p Av cv items) (h0 : 0 < items.length) : ∃ gv cs, Av = some ⟨gv, 0, none⟩ ∧ base ≤ gv ∧ Blk w gv 112 cs ∧ cs.size = cv * 2 ∧ items.length ≤ cv ∧ cv ≤ maxLen ∧
    (∀ (i : Nat) it, items[i]? = some it → cs[i * 2]? = some (sV it.1) ∧ cs[i * 2 + 1]? = some (sV it.2)) ∧ (∀ (i : Nat) u, cs[i]? = some u → IsSl u) := by
  have hO := h.own
  rcases hO.2 with ⟨h1, h2⟩ | ⟨gv, cap, cur, hv, hg, hh, _⟩
  · simp only [Value.slice.injEq] at h1; omega
  · simp only [Value.slice.injEq] at hv
    obtain ⟨rfl, _, rfl⟩ := hv
    obtain ⟨_, h3, h4, h5, cs, hB, h6, h7⟩ := hO.cells vEnc_len
    refine ⟨gv, cs, rfl, h3, hB, h6, h4, h5, fun i it hi => ?_, h.all.blk rfl hB⟩
    have k0 := h7 i it hi 0 (by decide)
    have k1 := h7 i it hi 1 (by decide)
    exact ⟨by simpa [vEnc] using k0, by simpa [vEnc] using k1⟩
theorem ownPieces_at {E : TypeId} {x : VSide} {h : Int} (hO : Own pieceC 3 w base E (sV x) x.1) (hi : ∀ q, q ∈ x.1 → MsgIn h q) (hh : h ≤ 100) : PiecesAt w x.2.1 x.2.2 x.1 := by
  obtain ⟨A1, c1, hv, hs⟩ := Own.slAt (R := RPiece) (enc := pieceC) (fun _ => rfl) (fun q hq b o hc => ⟨⟨by have := hc 0 _ rfl; simpa using this, by have := hc 1 _ rfl; simpa using this, by have := hc 2 _ rfl; simpa using this⟩, by
    have := hi q hq
    unfold MsgIn at this
    unfold I64
    omega⟩) hO
  unfold sV at hv hO
  simp only [Value.slice.injEq] at hv
  obtain ⟨rfl, _, rfl⟩ := hv
  exact ⟨hO.room.1, hO.room.2, hs⟩
theorem lies_msg {h : Int} {m : List PieceD} (hm : Lies h m) : ∀ q, q ∈ m → MsgIn h q := fun q hq => by
  have h1 := hm.in_ q hq
  have h2 := hm.map.2 q hq
  exact ⟨⟨h1.1.1, h2, h1.1.2⟩, h1.2⟩
/-- Behind a take of one vertex. -/
theorem Eng.took (h : Eng w base e A c A' c' g p Av cv items) {i gv : Nat} {it it' : VItem} {cs : Array Value} (hi : items[i]? = some it) (hv : Av = some ⟨gv, 0, none⟩) (hB : Blk w gv 112 cs) (hcz : cs.size = cv * 2) (hlc : items.length ≤ cv) (hcm : cv ≤ maxLen)
    (hcs : ∀ (j : Nat) y, items[j]? = some y → cs[j * 2]? = some (sV y.1) ∧ cs[j * 2 + 1]? = some (sV y.2)) (hsl : ∀ (j : Nat) u, cs[j]? = some u → IsSl u) (hgb : base ≤ gv)
    (hB' : Blk w' gv 112 ((cs.setIfInBounds (i * 2) (sV it'.1)).setIfInBounds (i * 2 + 1) (sV it'.2))) (hO : Only gv w w')
    (hn : (it'.1 = it.1) ∨ Own pieceC 3 w' w.heap.size 53 (sV it'.1) it'.1.1) (hf : Own pieceC 3 w' w.heap.size 53 (sV it'.2) it'.2.1) (hbs : base ≤ w.heap.size) (hG : GraphAt w' A c A' c' g) :
    Eng w' base e A c A' c' g p Av cv (items.set i it') := by
  subst hv
  have hil := lt_of_get hi
  have hpt : 53 ≠ 112 := by decide
  have hek : e ≠ gv := blk_ne h.blk hB (by decide)
  have hst1 : Own pieceC 3 w base 53 (sV it.1) it.1.1 := h.st.own _ (List.mem_map.2 ⟨it, List.mem_of_getElem? hi, rfl⟩)
  have hget : ∀ (j : Nat) y, (items.set i it')[j]? = some y → (j = i ∧ y = it') ∨ (j ≠ i ∧ items[j]? = some y) := fun j y hy => by
    by_cases hj : i = j
    · subst hj
      rw [List.getElem?_set_self hil] at hy
      exact .inl ⟨rfl, (Option.some.inj hy).symm⟩
    · rw [List.getElem?_set_ne hj] at hy
      exact .inr ⟨fun e => hj e.symm, hy⟩
  refine ⟨?_, h.eb, ?_, ?_, ?_, fun y hy => ?_, hG⟩
  · rw [List.length_set]
    exact hO.blk hek h.blk
  · refine Own.of_cells vEnc_len (by decide) hB' hgb (by rw [List.length_set]; exact hlc) hcm (by simp [hcz]) fun j y hy k hk => ?_
    rcases hget j y hy with ⟨rfl, rfl⟩ | ⟨h1, h2⟩
    · have hk2 : k = 0 ∨ k = 1 := by omega
      rcases hk2 with rfl | rfl
      · simp only [Nat.add_zero]
        rw [Array.getElem?_setIfInBounds_ne (by omega), Array.getElem?_setIfInBounds_self_of_lt (by rw [hcz]; omega)]
        rfl
      · rw [Array.getElem?_setIfInBounds_self_of_lt (by simp [hcz]; omega)]
        rfl
    · have hk2 : k = 0 ∨ k = 1 := by omega
      obtain ⟨c0, c1⟩ := hcs j y h2
      rcases hk2 with rfl | rfl
      · simp only [Nat.add_zero]
        rw [Array.getElem?_setIfInBounds_ne (by omega), Array.getElem?_setIfInBounds_ne (by omega), c0]
        rfl
      · rw [Array.getElem?_setIfInBounds_ne (by omega), Array.getElem?_setIfInBounds_ne (by omega), c1]
        rfl
  · intro k hk cs2 t2 fr2 hh j u hu
    simp only [Value.ownBlock, Option.some.injEq] at hk
    subst hk
    unfold Blk at hB'
    rw [hB'] at hh
    cases hh
    by_cases h1 : i * 2 + 1 = j
    · subst h1
      by_cases h2 : i * 2 + 1 < (cs.setIfInBounds (i * 2) (sV it'.1)).size
      · rw [Array.getElem?_setIfInBounds_self_of_lt h2] at hu
        exact ⟨_, _, _, (Option.some.inj hu).symm⟩
      · rw [Array.getElem?_eq_none (by simpa using h2)] at hu; cases hu
    · rw [Array.getElem?_setIfInBounds_ne h1] at hu
      by_cases h3 : i * 2 = j
      · subst h3
        by_cases h2 : i * 2 < cs.size
        · rw [Array.getElem?_setIfInBounds_self_of_lt h2] at hu
          exact ⟨_, _, _, (Option.some.inj hu).symm⟩
        · rw [Array.getElem?_eq_none (by simpa using h2)] at hu; cases hu
      · rw [Array.getElem?_setIfInBounds_ne h3] at hu
        exact hsl j u hu
  · rw [List.map_set]
    refine h.st.set (x := it.1) (by rw [List.getElem?_map, hi]; rfl) ?_ (fun j z hj hz => ?_) fun b hb => ?_
    · rcases hn with h1 | h1
      · rw [h1]; exact hO.own hB hpt hst1
      · exact h1.since hbs
    · exact hO.own hB hpt (h.st.own z (List.mem_of_getElem? hz))
    · rcases hn with h1 | h1
      · rw [h1] at hb; exact .inl hb
      · exact .inr (own_block_lt h1 hb).1
  · obtain ⟨j, hj⟩ := List.getElem?_of_mem hy
    rcases hget j y hj with ⟨_, rfl⟩ | ⟨_, h2⟩
    · exact hf.since hbs
    · exact hO.own hB hpt (h.fr y (List.mem_of_getElem? h2))
end
end Go.Proofs.YtdpibehpmghghaaGreat
