/- Several texts in one: BspEng, BspSend, BspBox. -/
import Derived.Test.YtjcimdpldlamfaaGreatDoorBdf6b8f66993
import Derived.Test.YtjcimdpldlamfaaGreatDoorBd9cdc4f3309
import Derived.Test.YtjcimdpldlamfaaGreatDoorBd896932a34c
/- The engine of a run as memory holds it: what the vertices were told, each in blocks of its own. -/
namespace Go.Proofs.YtjcimdpldlamfaaGreatDoor
open Go.RowKit

/-- A list of pieces, where it lies, and for how many there is room. -/
abbrev VSide := List PieceD × Option Addr × Nat
def sV (x : VSide) : Value := .slice x.2.1 x.1.length x.2.2
/-- A vertex: what it was told, and what of that is new. -/
abbrev VItem := VSide × VSide
def vEnc (it : VItem) : List Value := [sV it.1, sV it.2]
def IsSl (u : Value) : Prop := ∃ A n c, u = Value.slice A n c
theorem vEnc_len (it : VItem) : (vEnc it).length = 2 := rfl
/-- Lists of which no two share a block. -/
structure Sides (w : World) (base : Nat) (E : TypeId) (l : List VSide) : Prop where
 own : ∀ x, x ∈ l → Own pieceC 3 w base E (sV x) x.1
 apart : ∀ (i j : Nat) x y, i ≠ j → l[i]? = some x → l[j]? = some y → ∀ b, (sV x).ownBlock = some b → (sV y).ownBlock ≠ some b
section
variable {w w' : World} {base e gv : Nat} {E : TypeId} {l : List VSide} {items : List VItem}
theorem Sides.keep (h : Sides w base E l) (hk : ∀ x, x ∈ l → Own pieceC 3 w base E (sV x) x.1 → Own pieceC 3 w' base E (sV x) x.1) : Sides w' base E l := ⟨fun x hx => hk x hx (h.own x hx), h.apart⟩
theorem Sides.ext (h : Sides w base E l) (hb : Below w.heap.size w w') : Sides w' base E l := h.keep fun _ _ hO => hO.ext hb
theorem Sides.nil : Sides w base E [] := ⟨fun x hx => by simp at hx, fun i j x y _ hx => by simp at hx⟩
theorem own_block_lt {x : VSide} (h : Own pieceC 3 w base E (sV x) x.1) {b : Nat} (hb : (sV x).ownBlock = some b) : base ≤ b ∧ b < w.heap.size := World.ownsRow.lt h b hb
/-- One list in the place of another: its block is the same, or new. -/
theorem Sides.set (h : Sides w base E l) {i : Nat} {x y : VSide} (hx : l[i]? = some x) (hy : Own pieceC 3 w' base E (sV y) y.1) (hk : ∀ (j : Nat) z, j ≠ i → l[j]? = some z → Own pieceC 3 w' base E (sV z) z.1)
  (hn : ∀ b, (sV y).ownBlock = some b → (sV x).ownBlock = some b ∨ w.heap.size ≤ b) : Sides w' base E (l.set i y) := by
 have hi := lt_of_get hx
 have hget : ∀ (j : Nat) z, (l.set i y)[j]? = some z → (j = i ∧ z = y) ∨ (j ≠ i ∧ l[j]? = some z) := fun j z hz => by
  by_cases hj : i = j
  ·subst hj
   rw [List.getElem?_set_self hi] at hz
   exact .inl ⟨rfl, (Option.some.inj hz).symm⟩
  ·rw [List.getElem?_set_ne hj] at hz
   exact .inr ⟨fun e => hj e.symm, hz⟩
 refine ⟨fun z hz => ?_, fun j k a c hjk ha hc b hb hb2 => ?_⟩
 ·obtain ⟨j, hj⟩ := List.getElem?_of_mem hz
  rcases hget j z hj with ⟨_, rfl⟩ | ⟨h1, h2⟩
  ·exact hy
  ·exact hk j z h1 h2
 ·rcases hget j a ha with ⟨rfl, rfl⟩ | ⟨h1, h2⟩
  ·rcases hget k c hc with ⟨rfl, _⟩ | ⟨h3, h4⟩
   ·exact hjk rfl
   ·rcases hn b hb with h5 | h5
    ·exact h.apart j k x c hjk hx h4 b h5 hb2
    ·have := (own_block_lt (h.own c (List.mem_of_getElem? h4)) hb2).2
     omega
  ·rcases hget k c hc with ⟨rfl, rfl⟩ | ⟨h3, h4⟩
   ·rcases hn b hb2 with h5 | h5
    ·exact h.apart j k a x hjk h2 hx b hb h5
    ·have := (own_block_lt (h.own a (List.mem_of_getElem? h2)) hb).2
     omega
   ·exact h.apart j k a c hjk h2 h4 b hb hb2
/-- One list more, in a block that is new. -/
theorem Sides.snoc (h : Sides w base E l) {y : VSide} (hy : Own pieceC 3 w' base E (sV y) y.1) (hk : ∀ z, z ∈ l → Own pieceC 3 w' base E (sV z) z.1) (hn : ∀ b, (sV y).ownBlock = some b → w.heap.size ≤ b) : Sides w' base E (l ++ [y]) := by
 have hget : ∀ (j : Nat) z, (l ++ [y])[j]? = some z → (j = l.length ∧ z = y) ∨ (j < l.length ∧ l[j]? = some z) := fun j z hz => by
  rcases Nat.lt_or_ge j l.length with h1 | h1
  ·rw [List.getElem?_append_left h1] at hz
   exact .inr ⟨h1, hz⟩
  ·rw [List.getElem?_append_right h1] at hz
   have h2 := lt_of_get hz
   simp at h2
   obtain rfl : j = l.length := by omega
   simp at hz
   exact .inl ⟨rfl, hz.symm⟩
 refine ⟨fun z hz => ?_, fun j k a c hjk ha hc b hb hb2 => ?_⟩
 ·rcases List.mem_append.1 hz with hz | hz
  ·exact hk z hz
  ·obtain rfl : z = y := by simpa using hz
   exact hy
 ·rcases hget j a ha with ⟨rfl, rfl⟩ | ⟨h1, h2⟩
  ·rcases hget k c hc with ⟨rfl, _⟩ | ⟨h3, h4⟩
   ·exact hjk rfl
   ·have h5 := hn b hb
    have := (own_block_lt (h.own c (List.mem_of_getElem? h4)) hb2).2
    omega
  ·rcases hget k c hc with ⟨rfl, rfl⟩ | ⟨h3, h4⟩
   ·have h5 := hn b hb2
    have := (own_block_lt (h.own a (List.mem_of_getElem? h2)) hb).2
    omega
   ·exact h.apart j k a c hjk h2 h4 b hb hb2
end
/-- The engine of a graph and a program. -/
structure Eng (w : World) (base e : Nat) (A : Option Addr) (c : Nat) (A' : Option Addr) (c' : Nat) (g : GraphD) (p : Int) (Av : Option Addr) (cv : Nat) (items : List VItem) : Prop where
 blk : Blk w e 190 #[.int .i64 g.h, .slice A g.lives.length c, .slice A' g.edges.length c', .int .i64 p, .slice Av items.length cv]
 eb : base ≤ e
 own : Own vEnc 2 w base 192 (.slice Av items.length cv) items
 all : AllC IsSl w (.slice Av items.length cv)
 st : Sides w base 113 (items.map Prod.fst)
 fr : ∀ it, it ∈ items → Own pieceC 3 w base 113 (sV it.2) it.2.1
 gr : GraphAt w A c A' c' g
def stsOf (items : List VItem) : List (List PieceD) := items.map fun it => it.1.1
def frsOf (items : List VItem) : List (List PieceD) := items.map fun it => it.2.1
section
variable {w w' : World} {base e gv c c' cv : Nat} {A A' Av : Option Addr} {g : GraphD} {p : Int} {items : List VItem}
theorem AllC.ext {Z : Value → Prop} {v : Value} {b0 : Nat} (h : AllC Z w v) (hb : Below b0 w w') (hv : ∀ k, v.ownBlock = some k → k < b0) : AllC Z w' v := fun k hk cs t fr hh => by
 rw [hb.block k (hv k hk)] at hh
 exact h k hk cs t fr hh
theorem AllC.blk {Z : Value → Prop} {v : Value} {k : Nat} {t : TypeId} {cs : Array Value} (h : AllC Z w v) (hv : v.ownBlock = some k) (hB : Blk w k t cs) : ∀ (i : Nat) u, cs[i]? = some u → Z u := h k hv cs t (0, 0) hB
theorem Eng.ext (h : Eng w base e A c A' c' g p Av cv items) (hb : Below w.heap.size w w') : Eng w' base e A c A' c' g p Av cv items :=
 ⟨h.blk.ext hb, h.eb, h.own.ext hb, h.all.ext hb fun k hk => (World.ownsRow.lt h.own k hk).2, h.st.ext hb, fun it hi => (h.fr it hi).ext hb, h.gr.ext hb⟩
/-- The block of the vertices, known whole. -/
theorem Eng.vert (h : Eng w base e A c A' c' g p Av cv items) (h0 : 0 < items.length) : ∃ gv cs, Av = some ⟨gv, 0, none⟩ ∧ base ≤ gv ∧ Blk w gv 192 cs ∧ cs.size = cv * 2 ∧ items.length ≤ cv ∧ cv ≤ maxLen ∧
  (∀ (i : Nat) it, items[i]? = some it → cs[i * 2]? = some (sV it.1) ∧ cs[i * 2 + 1]? = some (sV it.2)) ∧ (∀ (i : Nat) u, cs[i]? = some u → IsSl u) := by
 have hO := h.own
 rcases hO.2 with ⟨h1, h2⟩ | ⟨gv, cap, cur, hv, hg, hh, _⟩
 ·simp only [Value.slice.injEq] at h1; omega
 ·simp only [Value.slice.injEq] at hv
  obtain ⟨rfl, _, rfl⟩ := hv
  obtain ⟨_, h3, h4, h5, cs, hB, h6, h7⟩ := hO.cells vEnc_len
  refine ⟨gv, cs, rfl, h3, hB, h6, h4, h5, fun i it hi => ?_, h.all.blk rfl hB⟩
  have k0 := h7 i it hi 0 (by decide)
  have k1 := h7 i it hi 1 (by decide)
  exact ⟨by simpa [vEnc] using k0, by simpa [vEnc] using k1⟩
theorem ownPieces_at {E : TypeId} {x : VSide} {h : Int} (hO : Own pieceC 3 w base E (sV x) x.1) (hi : ∀ q, q ∈ x.1 → MsgIn h q) (hh : h ≤ 100) : PiecesAt w x.2.1 x.2.2 x.1 := by
 obtain ⟨A1, c1, hv, hs⟩ := Own.slAt (R := RPiece) (enc := pieceC) (fun _ => rfl) (fun q hq b o hc => ⟨⟨by have := hc 0 _ rfl; simpa using this, by have := hc 1 _ rfl; simpa using this, by have := hc 2 _ rfl; simpa using this⟩, by
  have := hi q hq
  unfold MsgIn at this
  unfold I64
  omega⟩) hO
 unfold sV at hv hO
 simp only [Value.slice.injEq] at hv
 obtain ⟨rfl, _, rfl⟩ := hv
 exact ⟨hO.room.1, hO.room.2, hs⟩
theorem lies_msg {h : Int} {m : List PieceD} (hm : Lies h m) : ∀ q, q ∈ m → MsgIn h q := fun q hq => by
 have h1 := hm.in_ q hq
 have h2 := hm.map.2 q hq
 exact ⟨⟨h1.1.1, h2, h1.1.2⟩, h1.2⟩
/-- Behind a take of one vertex. -/
theorem Eng.took (h : Eng w base e A c A' c' g p Av cv items) {i gv : Nat} {it it' : VItem} {cs : Array Value} (hi : items[i]? = some it) (hv : Av = some ⟨gv, 0, none⟩) (hB : Blk w gv 192 cs) (hcz : cs.size = cv * 2) (hlc : items.length ≤ cv) (hcm : cv ≤ maxLen)
  (hcs : ∀ (j : Nat) y, items[j]? = some y → cs[j * 2]? = some (sV y.1) ∧ cs[j * 2 + 1]? = some (sV y.2)) (hsl : ∀ (j : Nat) u, cs[j]? = some u → IsSl u) (hgb : base ≤ gv)
  (hB' : Blk w' gv 192 ((cs.setIfInBounds (i * 2) (sV it'.1)).setIfInBounds (i * 2 + 1) (sV it'.2))) (hO : Only gv w w')
  (hn : (it'.1 = it.1) ∨ Own pieceC 3 w' w.heap.size 113 (sV it'.1) it'.1.1) (hf : Own pieceC 3 w' w.heap.size 113 (sV it'.2) it'.2.1) (hbs : base ≤ w.heap.size) (hG : GraphAt w' A c A' c' g) :
  Eng w' base e A c A' c' g p Av cv (items.set i it') := by
 subst hv
 have hil := lt_of_get hi
 have hpt : 113 ≠ 192 := by decide
 have hek : e ≠ gv := blk_ne h.blk hB (by decide)
 have hst1 : Own pieceC 3 w base 113 (sV it.1) it.1.1 := h.st.own _ (List.mem_map.2 ⟨it, List.mem_of_getElem? hi, rfl⟩)
 have hget : ∀ (j : Nat) y, (items.set i it')[j]? = some y → (j = i ∧ y = it') ∨ (j ≠ i ∧ items[j]? = some y) := fun j y hy => by
  by_cases hj : i = j
  ·subst hj
   rw [List.getElem?_set_self hil] at hy
   exact .inl ⟨rfl, (Option.some.inj hy).symm⟩
  ·rw [List.getElem?_set_ne hj] at hy
   exact .inr ⟨fun e => hj e.symm, hy⟩
 refine ⟨?_, h.eb, ?_, ?_, ?_, fun y hy => ?_, hG⟩
 ·rw [List.length_set]
  exact hO.blk hek h.blk
 ·refine Own.of_cells vEnc_len (by decide) hB' hgb (by rw [List.length_set]; exact hlc) hcm (by simp [hcz]) fun j y hy k hk => ?_
  rcases hget j y hy with ⟨rfl, rfl⟩ | ⟨h1, h2⟩
  ·have hk2 : k = 0 ∨ k = 1 := by omega
   rcases hk2 with rfl | rfl
   ·simp only [Nat.add_zero]
    rw [Array.getElem?_setIfInBounds_ne (by omega), Array.getElem?_setIfInBounds_self_of_lt (by rw [hcz]; omega)]
    rfl
   ·rw [Array.getElem?_setIfInBounds_self_of_lt (by simp [hcz]; omega)]
    rfl
  ·have hk2 : k = 0 ∨ k = 1 := by omega
   obtain ⟨c0, c1⟩ := hcs j y h2
   rcases hk2 with rfl | rfl
   ·simp only [Nat.add_zero]
    rw [Array.getElem?_setIfInBounds_ne (by omega), Array.getElem?_setIfInBounds_ne (by omega), c0]
    rfl
   ·rw [Array.getElem?_setIfInBounds_ne (by omega), Array.getElem?_setIfInBounds_ne (by omega), c1]
    rfl
 ·intro k hk cs2 t2 fr2 hh j u hu
  simp only [Value.ownBlock, Option.some.injEq] at hk
  subst hk
  unfold Blk at hB'
  rw [hB'] at hh
  cases hh
  by_cases h1 : i * 2 + 1 = j
  ·subst h1
   by_cases h2 : i * 2 + 1 < (cs.setIfInBounds (i * 2) (sV it'.1)).size
   ·rw [Array.getElem?_setIfInBounds_self_of_lt h2] at hu
    exact ⟨_, _, _, (Option.some.inj hu).symm⟩
   ·rw [Array.getElem?_eq_none (by simpa using h2)] at hu; cases hu
  ·rw [Array.getElem?_setIfInBounds_ne h1] at hu
   by_cases h3 : i * 2 = j
   ·subst h3
    by_cases h2 : i * 2 < cs.size
    ·rw [Array.getElem?_setIfInBounds_self_of_lt h2] at hu
     exact ⟨_, _, _, (Option.some.inj hu).symm⟩
    ·rw [Array.getElem?_eq_none (by simpa using h2)] at hu; cases hu
   ·rw [Array.getElem?_setIfInBounds_ne h3] at hu
    exact hsl j u hu
 ·rw [List.map_set]
  refine h.st.set (x := it.1) (by rw [List.getElem?_map, hi]; rfl) ?_ (fun j z hj hz => ?_) fun b hb => ?_
  ·rcases hn with h1 | h1
   ·rw [h1]; exact hO.own hB hpt hst1
   ·exact h1.since hbs
  ·exact hO.own hB hpt (h.st.own z (List.mem_of_getElem? hz))
  ·rcases hn with h1 | h1
   ·rw [h1] at hb; exact .inl hb
   ·exact .inr (own_block_lt h1 hb).1
 ·obtain ⟨j, hj⟩ := List.getElem?_of_mem hy
  rcases hget j y hj with ⟨_, rfl⟩ | ⟨_, h2⟩
  ·exact hf.since hbs
  ·exact hO.own hB hpt (h.fr y (List.mem_of_getElem? h2))
end
end Go.Proofs.YtjcimdpldlamfaaGreatDoor
/- The walk of (*bsp.engine).send (printed by gensend.py). -/
namespace Go.Proofs.YtjcimdpldlamfaaGreatDoor
open Go.RowKit

/-- What those vertices send that are theirs whom mine tells. -/
def sendM (g : GraphD) (p : Int) (F : List (List PieceD)) (mine : Int → Bool) (l : List EdgeD) : List MailD :=
 l.flatMap fun x => (if mine x.a = true then sendA g p F x else []) ++ if p = 3 ∧ mine x.b = true then sendB g p F x else []
theorem sendM_all {g : GraphD} {p : Int} {F : List (List PieceD)} : sendM g p F (fun _ => true) g.edges = sendL g p F := by
 unfold sendM sendL sendE
 simp
theorem sendM_next {g : GraphD} {p : Int} {F : List (List PieceD)} {mine : Int → Bool} {l : List EdgeD} {k : Nat} {x : EdgeD} (h : l[k]? = some x) : sendM g p F mine (l.take (k + 1)) = sendM g p F mine (l.take k) ++ ((if mine x.a = true then sendA g p F x else []) ++ if p = 3 ∧ mine x.b = true then sendB g p F x else []) := by
 unfold sendM
 rw [List.take_add_one, h, List.flatMap_append]
 simp
section
variable {g : GraphD} {p : Int} {F : List (List PieceD)} {mine : Int → Bool} {x : EdgeD}
theorem sm00 (ha : mine x.a = false) (hb : ¬ (p = 3 ∧ mine x.b = true)) : ((if mine x.a = true then sendA g p F x else []) ++ if p = 3 ∧ mine x.b = true then sendB g p F x else []) = [] := by rw [if_neg hb, ha]; rfl
theorem sm10 (ha : mine x.a = true) (hb : ¬ (p = 3 ∧ mine x.b = true)) : ((if mine x.a = true then sendA g p F x else []) ++ if p = 3 ∧ mine x.b = true then sendB g p F x else []) = sendA g p F x := by rw [if_neg hb, if_pos ha, List.append_nil]
theorem sm01 (ha : mine x.a = false) (hb : p = 3 ∧ mine x.b = true) : ((if mine x.a = true then sendA g p F x else []) ++ if p = 3 ∧ mine x.b = true then sendB g p F x else []) = sendB g p F x := by rw [if_pos hb, ha]; rfl
theorem sm11 (ha : mine x.a = true) (hb : p = 3 ∧ mine x.b = true) : ((if mine x.a = true then sendA g p F x else []) ++ if p = 3 ∧ mine x.b = true then sendB g p F x else []) = sendA g p F x ++ sendB g p F x := by rw [if_pos hb, if_pos ha]
end
theorem mailC_cell (m : MailD) : ∀ u ∈ mailC m, u.oneCell' = true := by simp [mailC, Value.oneCell']
/-- The engine, its vertices' lists within the horizon. -/
structure EngV (w : World) (base e : Nat) (A : Option Addr) (c : Nat) (A' : Option Addr) (c' : Nat) (g : GraphD) (p : Int) (Av : Option Addr) (cv : Nat) (items : List VItem) : Prop where
 eng : Eng w base e A c A' c' g p Av cv items
 len : items.length = g.lives.length
 val : Valid g
 fr : ∀ it, it ∈ items → (∀ q, q ∈ it.2.1 → MsgIn g.h q) ∧ it.2.1.length ≤ 100
section
variable {w w' : World} {base e c c' cv : Nat} {A A' Av : Option Addr} {g : GraphD} {p : Int} {items : List VItem}
theorem EngV.ext (h : EngV w base e A c A' c' g p Av cv items) (hb : Below w.heap.size w w') : EngV w' base e A c A' c' g p Av cv items := ⟨h.eng.ext hb, h.len, h.val, h.fr⟩
theorem eng_along (h : EngV w base e A c A' c' g p Av cv items) (x : EdgeD) (hx : EdgeOk g x) (L : Option Addr) (cl : Nat) (hX : SlAt RLeg 4 w L x.legs) (fr to : Int) (hf : 0 ≤ fr ∧ fr < g.lives.length) (ht : 0 ≤ to ∧ to < g.lives.length) :
  Calls Tryz.prog 152 #[.pointer (some ⟨e, 0, none⟩), .agg #[.int .i64 x.a, .int .i64 x.b, .slice L x.legs.length cl], .int .i64 fr, .int .i64 to] w (AlongOut to (alongL p (lifeOf g to) x.legs (freshOf (frsOf items) fr)) w) := by
 have hl := h.len
 obtain ⟨gv, cs, rfl, hgb, hB, hcz, hlc, hcm, hcs, hsl⟩ := h.eng.vert (by omega)
 obtain ⟨it, hit⟩ := get_lt (show fr.toNat < items.length by omega)
 obtain ⟨life, hlf⟩ := get_lt (show to.toNat < g.lives.length by omega)
 have e1 : freshOf (frsOf items) fr = it.2.1 := fresh_of hf.1 rfl (by unfold frsOf; rw [List.getElem?_map, hit]; rfl)
 have hv := h.fr it (List.mem_of_getElem? hit)
 have hh := h.val.h1
 rw [e1, life_of hlf]
 refine along_any e gv items.length cv c c' it.2.2.2 cl cs A A' it.2.2.1 L g p x fr to it.2.1 life w h.eng.blk h.eng.gr hB hf.1 (by omega) (hcs _ it hit).2 (ownPieces_at (h.eng.fr it (List.mem_of_getElem? hit)) hv.1 hh) hX (by unfold maxLen; have := hx.six; omega) ht.1 ht.2 hlf (fun q hq => (hv.1 q hq).2) (fun l hl => ?_) ?_
 ·have := hx.legs l hl
  unfold moreL
  split
  ·omega
  ·split <;> omega
 ·exact Nat.le_trans (Nat.mul_le_mul hx.six hv.2) (by decide)
end
theorem along_few {g : GraphD} {p : Int} {items : List VItem} {x : EdgeD} (hx : EdgeOk g x) (hf : ∀ it, it ∈ items → (∀ q, q ∈ it.2.1 → MsgIn g.h q) ∧ it.2.1.length ≤ 100) (life : IvlD) (a : Int) : (alongL p life x.legs (freshOf (frsOf items) a)).length ≤ 600 := by
 have h1 := along_len p life (freshOf (frsOf items) a) x.legs
 have h2 : (freshOf (frsOf items) a).length ≤ 100 := by
  unfold freshOf frsOf
  rw [List.getElem?_map]
  cases hit : items[a.toNat]? with
  | none => simp
  | some it => exact (hf it (List.mem_of_getElem? hit)).2
 exact Nat.le_trans h1 (Nat.le_trans (Nat.mul_le_mul hx.six h2) (by decide))
def SendOut (l : List MailD) (w : World) (e : Ending) (w' : World) : Prop := ∃ v, e = .returned v ∧ Own mailC 4 w' w.heap.size 212 v l ∧ l.length ≤ 60000 ∧ Below w.heap.size w w'
set_option maxRecDepth 100000 in
set_option maxHeartbeats 8000000 in
theorem send_any (base e c c' cv : Nat) (A A' Av : Option Addr) (g : GraphD) (p : Int) (items : List VItem) (fm : Nat) (lb : Array Value) (mine : Int → Bool) (w : World) (hE : EngV w base e A c A' c' g p Av cv items)
  (eg : ∀ args w, (callFunc fm args).run Tryz.prog w = .ok (.enter fm args) w) (hm : ∀ (W : World) (x : Int), Below w.heap.size w W → Calls Tryz.prog fm (#[.int .i64 x] ++ lb) W fun e w' => e = .returned (.bool (mine x)) ∧ Below W.heap.size W w') :
  Calls Tryz.prog 138 #[.pointer (some ⟨e, 0, none⟩), .func (.func fm) #[] lb] w (SendOut (sendM g p (frsOf items) mine g.edges) w) := by
 obtain ⟨i0, hi, hz0, hz1, hz2⟩ := info_mail2
 have hV := hE.val
 have hne := hV.ne
 have m1 : g.edges.length ≤ 9223372036854775807 := Nat.le_trans hE.eng.gr.lc' hE.eng.gr.cm'
 have HEV := Lib.hid hE; have HMN := Lib.hid hm
 have HV := Lib.hid hV
 obtain ⟨be, oe, hEd⟩ := hE.eng.gr.edges
 have HED := Lib.hid hEd
 obtain ⟨e1, e2, e3⟩ := hE.eng.blk.facts
 clear hE hm hV hEd
 go_enter Tryz.func138, Tryz.ntmps138
 go_wp2_with fail
 clear e1 e2 e3
 go_loopw [5, 14] (fun u v wt => ∃ (k : Nat) (o : List MailD), k ≤ g.edges.length ∧ v = .int .i64 k ∧ Own mailC 4 wt w.heap.size 212 u o ∧ Hid (o = sendM g p (frsOf items) mine (g.edges.take k)) ∧ o.length ≤ 1200 * k ∧ Below w.heap.size w wt) (fun _ v _ => g.edges.length - (intOf v).toNat)
 case atStart => exact ⟨0, [], Nat.zero_le _, rfl, Own.nil, Lib.hid rfl, by simp, Below.refl _ _⟩
 case round =>
  obtain ⟨k, o, hk, rfl, hO, HO, hol, hb⟩ := hrel
  have hzr := hb.size
  obtain ⟨Ao, co, rfl⟩ := hO.form
  by_cases hlt : k < g.edges.length
  case neg =>
   obtain rfl : k = g.edges.length := by omega
   have HF : Hid (o = sendM g p (frsOf items) mine g.edges) := Lib.hid (by rw [HO.out, List.take_length])
   go_wp2_with fail
   go_ret
   exact ⟨_, rfl, by rw [← HF.out]; exact hO, by rw [← HF.out]; omega, hb⟩
  case pos =>
   obtain ⟨x, hx⟩ := get_lt hlt
   have HXK := Lib.hid hx
   have HXE : Hid (EdgeOk g x) := Lib.hid (HV.out.edges x (List.mem_of_getElem? hx))
   obtain ⟨rfl, hbe, ⟨z0, z1, L, cl, z2, hl1, hl2, hL⟩, hx64⟩ := HED.out k x hx
   unfold cellIs at z0 z1 z2
   rw [← hb.cell (by exact hbe)] at z0 z1 z2
   have HX64 := Lib.hid hx64
   have HL := Lib.hid hL
   have HNX := Lib.hid (sendM_next (g := g) (p := p) (F := frsOf items) (mine := mine) hx)
   have hlx : x.legs.length ≤ 9223372036854775807 := Nat.le_trans hl1 hl2
   clear hx hx64 hL
   go_wp2_with fail
   obtain ⟨wb, hwb⟩ : ∃ wb : World, wr.alloc (Obj.cells #[.int .i64 x.a, .int .i64 x.b, .slice L x.legs.length cl] 97) = wb := ⟨_, rfl⟩
   have BX : Blk wb wr.heap.size 97 #[.int .i64 x.a, .int .i64 x.b, .slice L x.legs.length cl] := by rw [← hwb]; exact Blk.new _ _ _
   have hb1 : Below w.heap.size w wb := by rw [← hwb]; exact ext_alloc hb _
   have hO1 : Own mailC 4 wb w.heap.size 212 (.slice Ao o.length co) o := by rw [← hwb]; exact hO.alloc _
   obtain ⟨gx, hgx⟩ : ∃ gx : Nat, wr.heap.size = gx := ⟨_, rfl⟩
   rw [hwb, hgx]
   rw [hgx] at BX
   have hm1 := HMN.out wb x.a hb1
   have hab : (0 ≤ x.a ∧ x.a < g.lives.length) ∧ 0 ≤ x.b ∧ x.b < g.lives.length := ⟨⟨HXE.out.a0, HXE.out.a1⟩, HXE.out.b0, HXE.out.b1⟩
   have HAB := Lib.hid hab
   clear hwb hgx z0 z1 z2 hO hb hzr hab
   cases hma : mine x.a with
   | false =>
    rw [hma] at hm1
    have HMA := Lib.hid hma
    clear hma
    refine hm1.mono ?_
    rintro e2 w2 ⟨rfl, hbb2⟩
    have hO2 := hO1.ext hbb2
    have BX2 := BX.ext hbb2
    have hb2 := ext_trans hb1 hbb2
    clear hm1 hO1 BX hb1 hbb2
    obtain ⟨q0, q1, q2⟩ := BX2.facts
    obtain ⟨p0, p1, p2⟩ := (HEV.out.eng.blk.ext hb2).facts
    by_cases h3 : p = 3
    case neg =>
     have h3b : (p == 3) = false := by simpa using h3
     have H3 := Lib.hid h3
     clear h3
     go_wp2_with fail
     go_roundw
     case rel => exact ⟨k + 1, o, by omega, by go_num, hO2, Lib.hid (by rw [HNX.out, ← HO.out, sm00 HMA.out (fun h => H3.out h.1), List.append_nil]), by omega, hb2⟩
     case measure => simp [intOf]; omega
    case pos =>
     have H3 := Lib.hid h3
     have h3b : (p == 3) = true := by simpa using h3
     clear h3
     have hm2 := HMN.out _ x.b hb2
     cases hmb : mine x.b with
     | false =>
      rw [hmb] at hm2
      have HMB := Lib.hid hmb
      clear hmb
      go_wp2_with fail
      refine hm2.mono ?_
      rintro e7 w7 ⟨rfl, hbb7⟩
      have hO7 := hO2.ext hbb7
      have hb7 := ext_trans hb2 hbb7
      clear hm2
      go_wp2_with fail
      go_roundw
      case rel => exact ⟨k + 1, o, by omega, by go_num, hO7, Lib.hid (by rw [HNX.out, ← HO.out, sm00 HMA.out (fun h => by rw [HMB.out] at h; exact absurd h.2 (by decide)), List.append_nil]), by omega, hb7⟩
      case measure => simp [intOf]; omega
     | true =>
      rw [hmb] at hm2
      have HMB := Lib.hid hmb
      clear hmb
      go_wp2_with fail
      refine hm2.mono ?_
      rintro e7 w7 ⟨rfl, hbb7⟩
      have hO7 := hO2.ext hbb7
      have BX7 := BX2.ext hbb7
      have hb7 := ext_trans hb2 hbb7
      clear hm2
      obtain ⟨y0, y1, y2⟩ := BX7.facts
      go_wp2_with fail
      refine (eng_along (HEV.out.ext hb7) x HXE.out L cl (HL.out.ext RLeg.stable hb7) x.b x.a HAB.out.2 HAB.out.1).mono ?_
      rintro en8 w8 ⟨v8, rfl, hq8, hbb8⟩
      have hO8 := hO7.ext hbb8
      have BX8 := BX7.ext hbb8
      have hb8 := ext_trans hb7 hbb8
      have hq8 : Own mailC 4 w8 _ 212 v8 (sendB g p (frsOf items) x) := hq8
      have hf8 : (sendB g p (frsOf items) x).length ≤ 600 := by unfold sendB; rw [List.length_map]; exact along_few HXE.out HEV.out.fr _ _
      clear y0 y1 y2 hbb8
      obtain ⟨y0, y1, y2⟩ := BX8.facts
      have hz8 := hb8.size
      go_wp2_with (at_builtin; refine wpList_append_list (enc := mailC) rfl (.tmp 42) (.tmp 49) 166 rfl w.heap.size 212 i0 _ 4 32 Tryz.underlying166 hi hz0 hz1 hz2 rfl (by decide) _ o rfl hO8 _ _ _ rfl hq8 (fun m _ => mailC_cell m) (by omega) (by decide) hz8 ?_; intro va8 wa8 hOa8 hba8 hot8; obtain ⟨o8, ho8⟩ : ∃ o8, o ++ sendB g p (frsOf items) x = o8 := ⟨_, rfl⟩; rw [ho8] at hOa8; have HO8 := Lib.hid ho8; have hol8 : o8.length ≤ 1200 * k + 1200 := (by rw [← ho8, List.length_append]; omega); clear ho8; have BXa8 := hot8 _ _ _ BX8 (by decide); have hbw8 := hb8.trans hba8; obtain ⟨Aa8, ca8, rfl⟩ := hOa8.form; obtain ⟨q0, q1, q2⟩ := BXa8.facts; obtain ⟨p0, p1, p2⟩ := (HEV.out.eng.blk.ext hbw8).facts)
      go_roundw
      case rel => exact ⟨k + 1, o8, by omega, by go_num, hOa8, Lib.hid (by rw [HNX.out, ← HO.out, sm01 HMA.out ⟨H3.out, HMB.out⟩, HO8.out]), by omega, hbw8⟩
      case measure => simp [intOf]; omega
   | true =>
    rw [hma] at hm1
    have HMA := Lib.hid hma
    clear hma
    refine hm1.mono ?_
    rintro e2 w2 ⟨rfl, hbb2⟩
    have hO2 := hO1.ext hbb2
    have BX2 := BX.ext hbb2
    have hb2 := ext_trans hb1 hbb2
    clear hm1 hO1 BX hb1 hbb2
    by_cases h3 : p = 3
    case neg =>
     have h3b : (p == 3) = false := by simpa using h3
     have H3 := Lib.hid h3
     clear h3
     obtain ⟨y0, y1, y2⟩ := BX2.facts
     go_wp2_with fail
     refine (eng_along (HEV.out.ext hb2) x HXE.out L cl (HL.out.ext RLeg.stable hb2) x.a x.b HAB.out.1 HAB.out.2).mono ?_
     rintro en4 w4 ⟨v4, rfl, hq4, hbb4⟩
     have hO4 := hO2.ext hbb4
     have BX4 := BX2.ext hbb4
     have hb4 := ext_trans hb2 hbb4
     have hq4 : Own mailC 4 w4 _ 212 v4 (sendA g p (frsOf items) x) := hq4
     have hf4 : (sendA g p (frsOf items) x).length ≤ 600 := by unfold sendA; rw [List.length_map]; exact along_few HXE.out HEV.out.fr _ _
     clear y0 y1 y2 hbb4
     obtain ⟨y0, y1, y2⟩ := BX4.facts
     have hz4 := hb4.size
     go_wp2_with (at_builtin; refine wpList_append_list (enc := mailC) rfl (.tmp 22) (.tmp 29) 166 rfl w.heap.size 212 i0 _ 4 32 Tryz.underlying166 hi hz0 hz1 hz2 rfl (by decide) _ o rfl hO4 _ _ _ rfl hq4 (fun m _ => mailC_cell m) (by omega) (by decide) hz4 ?_; intro va4 wa4 hOa4 hba4 hot4; obtain ⟨o4, ho4⟩ : ∃ o4, o ++ sendA g p (frsOf items) x = o4 := ⟨_, rfl⟩; rw [ho4] at hOa4; have HO4 := Lib.hid ho4; have hol4 : o4.length ≤ 1200 * k + 600 := (by rw [← ho4, List.length_append]; omega); clear ho4; have BXa4 := hot4 _ _ _ BX4 (by decide); have hbw4 := hb4.trans hba4; obtain ⟨Aa4, ca4, rfl⟩ := hOa4.form; obtain ⟨q0, q1, q2⟩ := BXa4.facts; obtain ⟨p0, p1, p2⟩ := (HEV.out.eng.blk.ext hbw4).facts)
     go_roundw
     case rel => exact ⟨k + 1, o4, by omega, by go_num, hOa4, Lib.hid (by rw [HNX.out, ← HO.out, sm10 HMA.out (fun h => H3.out h.1), HO4.out]), by omega, hbw4⟩
     case measure => simp [intOf]; omega
    case pos =>
     have H3 := Lib.hid h3
     have h3b : (p == 3) = true := by simpa using h3
     clear h3
     obtain ⟨y0, y1, y2⟩ := BX2.facts
     go_wp2_with fail
     refine (eng_along (HEV.out.ext hb2) x HXE.out L cl (HL.out.ext RLeg.stable hb2) x.a x.b HAB.out.1 HAB.out.2).mono ?_
     rintro en4 w4 ⟨v4, rfl, hq4, hbb4⟩
     have hO4 := hO2.ext hbb4
     have BX4 := BX2.ext hbb4
     have hb4 := ext_trans hb2 hbb4
     have hq4 : Own mailC 4 w4 _ 212 v4 (sendA g p (frsOf items) x) := hq4
     have hf4 : (sendA g p (frsOf items) x).length ≤ 600 := by unfold sendA; rw [List.length_map]; exact along_few HXE.out HEV.out.fr _ _
     clear y0 y1 y2 hbb4
     obtain ⟨y0, y1, y2⟩ := BX4.facts
     have hz4 := hb4.size
     go_wp2_with (at_builtin; refine wpList_append_list (enc := mailC) rfl (.tmp 22) (.tmp 29) 166 rfl w.heap.size 212 i0 _ 4 32 Tryz.underlying166 hi hz0 hz1 hz2 rfl (by decide) _ o rfl hO4 _ _ _ rfl hq4 (fun m _ => mailC_cell m) (by omega) (by decide) hz4 ?_; intro va4 wa4 hOa4 hba4 hot4; obtain ⟨o4, ho4⟩ : ∃ o4, o ++ sendA g p (frsOf items) x = o4 := ⟨_, rfl⟩; rw [ho4] at hOa4; have HO4 := Lib.hid ho4; have hol4 : o4.length ≤ 1200 * k + 600 := (by rw [← ho4, List.length_append]; omega); clear ho4; have BXa4 := hot4 _ _ _ BX4 (by decide); have hbw4 := hb4.trans hba4; obtain ⟨Aa4, ca4, rfl⟩ := hOa4.form; obtain ⟨q0, q1, q2⟩ := BXa4.facts; obtain ⟨p0, p1, p2⟩ := (HEV.out.eng.blk.ext hbw4).facts)
     have hm2 := HMN.out _ x.b hbw4
     cases hmb : mine x.b with
     | false =>
      rw [hmb] at hm2
      have HMB := Lib.hid hmb
      clear hmb
      refine hm2.mono ?_
      rintro e7 w7 ⟨rfl, hbb7⟩
      have hO7 := hOa4.ext hbb7
      have hb7 := ext_trans hbw4 hbb7
      clear hm2
      go_wp2_with fail
      go_roundw
      case rel => exact ⟨k + 1, o4, by omega, by go_num, hO7, Lib.hid (by rw [HNX.out, ← HO.out, sm10 HMA.out (fun h => by rw [HMB.out] at h; exact absurd h.2 (by decide)), HO4.out]), by omega, hb7⟩
      case measure => simp [intOf]; omega
     | true =>
      rw [hmb] at hm2
      have HMB := Lib.hid hmb
      clear hmb
      refine hm2.mono ?_
      rintro e7 w7 ⟨rfl, hbb7⟩
      have hO7 := hOa4.ext hbb7
      have BX7 := BXa4.ext hbb7
      have hb7 := ext_trans hbw4 hbb7
      clear hm2
      obtain ⟨y0, y1, y2⟩ := BX7.facts
      go_wp2_with fail
      refine (eng_along (HEV.out.ext hb7) x HXE.out L cl (HL.out.ext RLeg.stable hb7) x.b x.a HAB.out.2 HAB.out.1).mono ?_
      rintro en8 w8 ⟨v8, rfl, hq8, hbb8⟩
      have hO8 := hO7.ext hbb8
      have BX8 := BX7.ext hbb8
      have hb8 := ext_trans hb7 hbb8
      have hq8 : Own mailC 4 w8 _ 212 v8 (sendB g p (frsOf items) x) := hq8
      have hf8 : (sendB g p (frsOf items) x).length ≤ 600 := by unfold sendB; rw [List.length_map]; exact along_few HXE.out HEV.out.fr _ _
      clear y0 y1 y2 hbb8
      obtain ⟨y0, y1, y2⟩ := BX8.facts
      have hz8 := hb8.size
      go_wp2_with (at_builtin; refine wpList_append_list (enc := mailC) rfl (.tmp 42) (.tmp 49) 166 rfl w.heap.size 212 i0 _ 4 32 Tryz.underlying166 hi hz0 hz1 hz2 rfl (by decide) _ o4 rfl hO8 _ _ _ rfl hq8 (fun m _ => mailC_cell m) (by omega) (by decide) hz8 ?_; intro va8 wa8 hOa8 hba8 hot8; obtain ⟨o8, ho8⟩ : ∃ o8, o4 ++ sendB g p (frsOf items) x = o8 := ⟨_, rfl⟩; rw [ho8] at hOa8; have HO8 := Lib.hid ho8; have hol8 : o8.length ≤ 1200 * k + 1200 := (by rw [← ho8, List.length_append]; omega); clear ho8; have BXa8 := hot8 _ _ _ BX8 (by decide); have hbw8 := hb8.trans hba8; obtain ⟨Aa8, ca8, rfl⟩ := hOa8.form; obtain ⟨q0, q1, q2⟩ := BXa8.facts; obtain ⟨p0, p1, p2⟩ := (HEV.out.eng.blk.ext hbw8).facts)
      go_roundw
      case rel => exact ⟨k + 1, o8, by omega, by go_num, hOa8, Lib.hid (by rw [HNX.out, ← HO.out, sm11 HMA.out ⟨H3.out, HMB.out⟩, ← List.append_assoc, HO4.out, HO8.out]), by omega, hbw8⟩
      case measure => simp [intOf]; omega
end Go.Proofs.YtjcimdpldlamfaaGreatDoor
/- The boxes of a round: mail, vertex by vertex. -/
namespace Go.Proofs.YtjcimdpldlamfaaGreatDoor
open Go.RowKit

theorem info_box : (Tryz.prog.info? 213).map (fun i => (i.zero, i.size, i.bytes)) = some (some (.slice none 0 0), 1, 24) := by kernel_rfl
theorem make_boxes (n : Nat) (h : n ≤ 1000000) (w : World) : (Instr.makeSlice 209 (.int .i64 (n : Int)) (.int .i64 (n : Int))).run Tryz.prog w = .ok (.slice (some ⟨w.heap.size, 0, none⟩) n n) (w.alloc (.cells (madeCells #[.slice none 0 0] n) 213)) :=
 run_make_row' (P := Tryz.prog) 209 213 (.slice none 0 0) 24 Tryz.underlying209 info_box rfl .i64 .i64 n (by omega) (by omega) w
theorem info_msg : (Tryz.prog.info? 210).map (fun i => (i.zero, i.size, i.bytes)) = some (some (.agg #[.int .i64 0, .int .i64 0, .int .i64 0]), 3, 24) := by kernel_rfl
theorem info_msg2 : ∃ i, Tryz.prog.info? 210 = some i ∧ i.zero = some (.agg #[.int .i64 0, .int .i64 0, .int .i64 0]) ∧ i.size = 3 ∧ i.bytes = 24 := by
 obtain ⟨i0, hi, hzz⟩ := Option.map_eq_some_iff.1 info_msg
 simp only [Prod.mk.injEq] at hzz
 exact ⟨i0, hi, hzz.1, hzz.2.1, hzz.2.2⟩
theorem piece_ints (q : PieceD) : ∀ u ∈ (#[.int .i64 q.f, .int .i64 q.t, .int .i64 q.v] : Array Value).toList, u.oneCell' = true := by simp [Value.oneCell']
/-- What is owned stays where its own block stays. -/
theorem Own.keepB {α : Type} {enc : α → List Value} {sz : Nat} {w w' : World} {base : Nat} {e : TypeId} {v : Value} {l : List α} (h : Own enc sz w base e v l) (hk : ∀ b cs, v.ownBlock = some b → Blk w b e cs → Blk w' b e cs) : Own enc sz w' base e v l := by
 refine ⟨h.1, ?_⟩
 rcases h.2 with h2 | ⟨g, cap, cur, rfl, hg, hh, r⟩
 ·exact .inl h2
 ·exact .inr ⟨g, cap, cur, rfl, hg, hk g cur rfl hh, r⟩
def RMail (w : World) (b o : Nat) (m : MailD) : Prop := cellIs w b o (.int .i64 m.1) ∧ cellIs w b (o + 1) (.int .i64 m.2.f) ∧ cellIs w b (o + 2) (.int .i64 m.2.t) ∧ cellIs w b (o + 3) (.int .i64 m.2.v)
theorem own_mail {w : World} {base : Nat} {v : Value} {l : List MailD} (h : Own mailC 4 w base 212 v l) : ∃ A c, v = .slice A l.length c ∧ SlAt RMail 4 w A l ∧ l.length ≤ c ∧ c ≤ maxLen := by
 obtain ⟨A, c, rfl, hs⟩ := Own.slAt (R := RMail) (enc := mailC) (fun _ => rfl) (fun m _ b o hc => ⟨by have := hc 0 _ rfl; simpa using this, by have := hc 1 _ rfl; simpa using this, by have := hc 2 _ rfl; simpa using this, by have := hc 3 _ rfl; simpa using this⟩) h
 exact ⟨A, c, rfl, hs, h.room.1, h.room.2⟩
/-- The boxes of the vertices lie in block gb. -/
structure Boxes (w : World) (base gb : Nat) (bx : List VSide) : Prop where
 blk : Blk w gb 213 (bx.map sV).toArray
 sides : Sides w base 210 bx
section
variable {w w' : World} {base gb : Nat} {bx : List VSide}
theorem Boxes.ext (h : Boxes w base gb bx) (hb : Below w.heap.size w w') : Boxes w' base gb bx := ⟨h.blk.ext hb, h.sides.ext hb⟩
theorem Boxes.made {n b : Nat} (hb : b = w.heap.size) : Boxes (w.alloc (.cells (madeCells #[.slice none 0 0] n) 213)) base b (List.replicate n ([], none, 0)) := by
 subst hb
 refine ⟨?_, fun x hx => ?_, fun i j x y _ hx _ k hk => ?_⟩
 ·have h := Blk.new w 213 (madeCells #[.slice none 0 0] n)
  rw [made_is] at h
  rw [made_is, List.map_replicate]
  exact h
 ·obtain rfl := List.eq_of_mem_replicate hx
  exact Own.nil
 ·obtain rfl := List.eq_of_mem_replicate (List.mem_of_getElem? hx)
  simp [sV, Value.ownBlock] at hk
theorem Boxes.only {gv : Nat} {cs : Array Value} (h : Boxes w base gb bx) (hO : Only gv w w') (hB : Blk w gv 192 cs) : Boxes w' base gb bx :=
 ⟨hO.blk (blk_ne h.blk hB (by decide)) h.blk, h.sides.keep fun _ _ hx => hO.own hB (by decide) hx⟩
/-- A message more in one box. -/
theorem Boxes.put {W : World} {i gn cap : Nat} {x : VSide} {m : PieceD} (h : Boxes w base gb bx) (hx : bx[i]? = some x) (ho : Own pieceC 3 w' base 210 (.slice (some ⟨gn, 0, none⟩) (x.1.length + 1) cap) (x.1 ++ [m]))
  (hk : ∀ b t' cs', Blk w b t' cs' → some b ≠ (sV x).ownBlock → Blk w' b t' cs') (hn : (sV x).ownBlock = some gn ∨ w.heap.size < gn) (hW : w'.setCell ⟨gb, i, none⟩ (.slice (some ⟨gn, 0, none⟩) (x.1.length + 1) cap) = W) :
  Boxes W base gb (bx.set i (x.1 ++ [m], some ⟨gn, 0, none⟩, cap)) := by
 subst hW
 have hxo := h.sides.own x (List.mem_of_getElem? hx)
 have hne : some gb ≠ (sV x).ownBlock := hxo.other h.blk (by decide)
 have hB := hk _ _ _ h.blk hne
 have hst : ∀ b cs, Blk w' b 210 cs → Blk (w'.setCell ⟨gb, i, none⟩ (.slice (some ⟨gn, 0, none⟩) (x.1.length + 1) cap)) b 210 cs := keep_store hB (by decide) i _
 refine ⟨?_, h.sides.set hx ?_ (fun j z hj hz => ?_) fun b hb => ?_⟩
 ·have h1 := hB.set_ i (.slice (some ⟨gn, 0, none⟩) (x.1.length + 1) cap)
  rw [List.map_set]
  simpa [sV] using h1
 ·have h1 := ho.keep hst
  unfold sV
  simpa using h1
 ·refine (h.sides.own z (List.mem_of_getElem? hz)).keepB fun b cs hb hB1 => hst b cs (hk b _ cs hB1 fun e => h.sides.apart j i z x hj hz hx b hb e.symm)
 ·simp only [sV, Value.ownBlock, Option.some.injEq] at hb
  subst hb
  exact hn.imp id fun h1 => by omega
end
theorem boxL_snoc {ms : List MailD} {k : Nat} {m : MailD} (h : ms[k]? = some m) (v : Int) : boxL (ms.take (k + 1)) v = boxL (ms.take k) v ++ if m.1 = v then [m.2] else [] := by
 unfold boxL
 rw [List.take_add_one, h, List.filter_append, List.map_append]
 congr 1
 by_cases h1 : m.1 = v <;> simp [h1]
theorem boxL_len (ms : List MailD) (v : Int) : (boxL ms v).length ≤ ms.length := by
 unfold boxL
 rw [List.length_map]
 exact List.length_filter_le _ _
end Go.Proofs.YtjcimdpldlamfaaGreatDoor
