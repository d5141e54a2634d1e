/- Several texts in one: Mem, Law, Open, Five, Open2, IvlSpec, MapSpec. -/
import Derived.WalkKit
import Derived.WalkSpells
import Derived.WalkLawsBesides
import Derived.Handy
import Derived.BigQuiet
import Derived.Lib.Hide
import Derived.Deep.Slices
import Derived.Deep.Fields
import Derived.ChangeSame
import Derived.ProofKit
import Derived.Lib.SmallJoins
import Derived.Test.YtjcimdpldlamfaaGreatDoorRows
/- Plain data of the program (graphs, hops, arcs) and what it means that memory holds them; no program in sight. -/
namespace Go.Proofs.YtjcimdpldlamfaaGreatDoor
open Go.RowKit

/-! ### data -/
structure IvlD where
 f : Int
 t : Int
structure LegD where
 f : Int
 t : Int
 time : Int
 cost : Int
structure EdgeD where
 a : Int
 b : Int
 legs : List LegD
structure GraphD where
 h : Int
 lives : List IvlD
 edges : List EdgeD
structure HopD where
 edge : Int
 depart : Int
structure ArcD where
 a : Int
 b : Int
 cost : Int
structure SnapD where
 alive : List Bool
 arcs : List ArcD

instance : Inhabited IvlD := ⟨⟨0, 0⟩⟩
instance : Inhabited LegD := ⟨⟨0, 0, 0, 0⟩⟩
instance : Inhabited EdgeD := ⟨⟨0, 0, []⟩⟩
instance : Inhabited HopD := ⟨⟨0, 0⟩⟩
instance : Inhabited ArcD := ⟨⟨0, 0, 0⟩⟩
instance : DecidableEq IvlD := fun x y => decidable_of_iff (x.f = y.f ∧ x.t = y.t) (by cases x; cases y; simp)
instance : DecidableEq LegD := fun x y => decidable_of_iff (x.f = y.f ∧ x.t = y.t ∧ x.time = y.time ∧ x.cost = y.cost) (by cases x; cases y; simp)
instance : DecidableEq EdgeD := fun x y => decidable_of_iff (x.a = y.a ∧ x.b = y.b ∧ x.legs = y.legs) (by cases x; cases y; simp)
instance : DecidableEq HopD := fun x y => decidable_of_iff (x.edge = y.edge ∧ x.depart = y.depart) (by cases x; cases y; simp)
instance : DecidableEq ArcD := fun x y => decidable_of_iff (x.a = y.a ∧ x.b = y.b ∧ x.cost = y.cost) (by cases x; cases y; simp)
instance : DecidableEq GraphD := fun x y => decidable_of_iff (x.h = y.h ∧ x.lives = y.lives ∧ x.edges = y.edges) (by cases x; cases y; simp)

/-- an int64 -/
def I64 (n : Int) : Prop := -9223372036854775808 ≤ n ∧ n ≤ 9223372036854775807

theorem drop_cons {α : Type} {l : List α} {k : Nat} {x : α} (h : l[k]? = some x) : l.drop k = x :: l.drop (k + 1) := by
 obtain ⟨hk, rfl⟩ := List.getElem?_eq_some_iff.1 h
 exact List.drop_eq_getElem_cons hk
theorem get_lt {α : Type} {l : List α} {k : Nat} (h : k < l.length) : ∃ x, l[k]? = some x := ⟨_, List.getElem?_eq_getElem h⟩
theorem lt_of_get {α : Type} {l : List α} {k : Nat} {x : α} (h : l[k]? = some x) : k < l.length := (List.getElem?_eq_some_iff.1 h).1
theorem drop_end {α : Type} {l : List α} {k : Nat} (h : l.length ≤ k) : l.drop k = [] := List.drop_eq_nil_of_le h

/-! ### blocks known whole -/
def Blk (w : World) (g : Nat) (t : TypeId) (cs : Array Value) : Prop := w.heap[g]? = some (.cells cs t (0, 0))
theorem Blk.new (w : World) (t : TypeId) (cs : Array Value) : Blk (w.alloc (.cells cs t)) w.heap.size t cs := heap_alloc_new w _
theorem Blk.new_ {w : World} {n : Nat} {t : TypeId} {cs : Array Value} (h : n = w.heap.size) : Blk (w.alloc (.cells cs t)) n t cs := h ▸ Blk.new w t cs
section
variable {w w' : World} {g : Nat} {t : TypeId} {cs : Array Value}
theorem Blk.lt (h : Blk w g t cs) : g < w.heap.size := by
 rcases Nat.lt_or_ge g w.heap.size with hlt | hge
 ·exact hlt
 ·unfold Blk at h; rw [Array.getElem?_eq_none hge] at h; cases h
theorem Blk.alloc (h : Blk w g t cs) (o : Obj) : Blk (w.alloc o) g t cs := (Below.heap_alloc w o g h.lt).trans h
theorem Blk.drew (h : Blk w g t cs) : Blk w.drew g t cs := h
theorem Blk.drewN (h : Blk w g t cs) (n : Nat) : Blk (w.drewN n) g t cs := h
theorem Blk.set_ (h : Blk w g t cs) (i : Nat) (u : Value) : Blk (w.setCell ⟨g, i, none⟩ u) g t (cs.setIfInBounds i u) := by
 unfold Blk at h ⊢
 simp [World.setCell, Array.getElem?_modify, h]
theorem Blk.far (h : Blk w g t cs) {p : Addr} (hp : g ≠ p.block) (u : Value) : Blk (w.setCell p u) g t cs := (Below.heap_setCell w p u g hp).trans h
theorem Blk.cell (h : Blk w g t cs) (i : Nat) : w.cell? ⟨g, i, none⟩ = cs[i]? := cell_of_row w g i cs t (0, 0) h
theorem Blk.frozen (h : Blk w g t cs) (i : Nat) : w.frozen? ⟨g, i, none⟩ = false := by
 unfold Blk at h
 simp [World.frozen?, h]
theorem Blk.below {B : Nat} (h : Blk w g t cs) (hb : Below B w w') (hg : g < B) : Blk w' g t cs := (hb.block g hg).trans h
theorem Blk.ext (h : Blk w g t cs) (hb : Below w.heap.size w w') : Blk w' g t cs := (hb.block g h.lt).trans h
theorem Blk.grown {row : Option Nat} (h : Blk w g t cs) (hb : w.grownBy w' row) (hg : some g ≠ row) : Blk w' g t cs := (hb.block g h.lt hg).trans h
theorem Blk.go (h : Blk w g t cs) (hb : Below w.heap.size w w') : Blk w' g t cs ∧ (∀ i, w'.cell? ⟨g, i, none⟩ = cs[i]?) ∧ (∀ i, w'.frozen? ⟨g, i, none⟩ = false) ∧ g < w'.heap.size :=
 ⟨h.ext hb, (h.ext hb).cell, (h.ext hb).frozen, (h.ext hb).lt⟩
theorem Blk.facts (h : Blk w g t cs) : (∀ i, w.cell? ⟨g, i, none⟩ = cs[i]?) ∧ (∀ i, w.frozen? ⟨g, i, none⟩ = false) ∧ g < w.heap.size := ⟨h.cell, h.frozen, h.lt⟩
end
theorem below_drewN {B : Nat} {a w : World} (h : Below B a w) (n : Nat) : Below B a (w.drewN n) := ⟨h.os, h.tape, h.output, h.size, h.block⟩

/-! ### slices that hold data -/
/-- The slice at address A holds the list l: element i, of sz cells, lies as R says. -/
def SlAt {α : Type} (R : World → Nat → Nat → α → Prop) (sz : Nat) (w : World) (A : Option Addr) (l : List α) : Prop :=
 ∃ b off, ∀ i x, l[i]? = some x → A = some ⟨b, off, none⟩ ∧ b < w.heap.size ∧ R w b (off + i * sz) x
/-- What R says stays said while memory grows. -/
def Stable {α : Type} (R : World → Nat → Nat → α → Prop) : Prop := ∀ w w' b o x, Below w.heap.size w w' → b < w.heap.size → R w b o x → R w' b o x
theorem SlAt.ext {α : Type} {R : World → Nat → Nat → α → Prop} {sz : Nat} {w w' : World} {A : Option Addr} {l : List α} (h : SlAt R sz w A l) (hs : Stable R) (hb : Below w.heap.size w w') : SlAt R sz w' A l := by
 obtain ⟨b, off, h⟩ := h
 refine ⟨b, off, fun i x hx => ?_⟩
 obtain ⟨h1, h2, h3⟩ := h i x hx
 exact ⟨h1, Nat.lt_of_lt_of_le h2 hb.size, hs _ _ _ _ _ hb h2 h3⟩
theorem SlAt.nil {α : Type} {R : World → Nat → Nat → α → Prop} {sz : Nat} {w : World} {A : Option Addr} : SlAt R sz w A [] := ⟨0, 0, fun i x h => by simp at h⟩
theorem SlAt.take {α : Type} {R : World → Nat → Nat → α → Prop} {sz : Nat} {w : World} {A : Option Addr} {l : List α} (h : SlAt R sz w A l) (n : Nat) : SlAt R sz w A (l.take n) := by
 obtain ⟨b, off, h⟩ := h
 refine ⟨b, off, fun i x hx => h i x ?_⟩
 by_cases hi : i < n
 ·rwa [List.getElem?_take_of_lt hi] at hx
 ·rw [List.getElem?_take_eq_none (by omega)] at hx; cases hx

def cellIs (w : World) (b o : Nat) (v : Value) : Prop := w.cell? ⟨b, o, none⟩ = some v
theorem cellIs.ext {w w' : World} {b o : Nat} {v : Value} (hb : Below w.heap.size w w') (hlt : b < w.heap.size) (h : cellIs w b o v) : cellIs w' b o v := (hb.cell (p := ⟨b, o, none⟩) hlt).trans h

theorem cellIs.now {w w' : World} {b o : Nat} {v : Value} (h : cellIs w b o v) (hb : Below w.heap.size w w') : w'.cell? ⟨b, o, none⟩ = some v :=
 (hb.cell (p := ⟨b, o, none⟩) (World.block_lt_of_cell? w _ h)).trans h
/-- One growth behind another. -/
theorem ext_trans {w a b : World} (h : Below w.heap.size w a) (k : Below a.heap.size a b) : Below w.heap.size w b := h.trans (k.mono h.size)
theorem ext_alloc {w a : World} (h : Below w.heap.size w a) (o : Obj) : Below w.heap.size w (a.alloc o) := h.alloc h.size o

def RInt (w : World) (b o : Nat) (x : Int) : Prop := cellIs w b o (.int .i64 x) ∧ I64 x
def RBool (w : World) (b o : Nat) (x : Bool) : Prop := cellIs w b o (.bool x)
def RIvl (w : World) (b o : Nat) (x : IvlD) : Prop := (cellIs w b o (.int .i64 x.f) ∧ cellIs w b (o + 1) (.int .i64 x.t)) ∧ I64 x.f ∧ I64 x.t
def RHop (w : World) (b o : Nat) (x : HopD) : Prop := (cellIs w b o (.int .i64 x.edge) ∧ cellIs w b (o + 1) (.int .i64 x.depart)) ∧ I64 x.edge ∧ I64 x.depart
def RArc (w : World) (b o : Nat) (x : ArcD) : Prop := (cellIs w b o (.int .i64 x.a) ∧ cellIs w b (o + 1) (.int .i64 x.b) ∧ cellIs w b (o + 2) (.int .i64 x.cost)) ∧ I64 x.a ∧ I64 x.b ∧ I64 x.cost
def RLeg (w : World) (b o : Nat) (x : LegD) : Prop :=
 (cellIs w b o (.int .i64 x.f) ∧ cellIs w b (o + 1) (.int .i64 x.t) ∧ cellIs w b (o + 2) (.int .i64 x.time) ∧ cellIs w b (o + 3) (.int .i64 x.cost)) ∧ I64 x.f ∧ I64 x.t ∧ I64 x.time ∧ I64 x.cost
def REdge (w : World) (b o : Nat) (x : EdgeD) : Prop :=
 (cellIs w b o (.int .i64 x.a) ∧ cellIs w b (o + 1) (.int .i64 x.b) ∧ ∃ A c, cellIs w b (o + 2) (.slice A x.legs.length c) ∧ x.legs.length ≤ c ∧ c ≤ maxLen ∧ SlAt RLeg 4 w A x.legs) ∧ I64 x.a ∧ I64 x.b

theorem RInt.stable : Stable RInt := fun _ _ _ _ _ hb hlt h => ⟨h.1.ext hb hlt, h.2⟩
theorem RBool.stable : Stable RBool := fun _ _ _ _ _ hb hlt h => cellIs.ext hb hlt h
theorem RIvl.stable : Stable RIvl := fun _ _ _ _ _ hb hlt h => ⟨⟨h.1.1.ext hb hlt, h.1.2.ext hb hlt⟩, h.2⟩
theorem RHop.stable : Stable RHop := fun _ _ _ _ _ hb hlt h => ⟨⟨h.1.1.ext hb hlt, h.1.2.ext hb hlt⟩, h.2⟩
theorem RArc.stable : Stable RArc := fun _ _ _ _ _ hb hlt h => ⟨⟨h.1.1.ext hb hlt, h.1.2.1.ext hb hlt, h.1.2.2.ext hb hlt⟩, h.2⟩
theorem RLeg.stable : Stable RLeg := fun _ _ _ _ _ hb hlt h => ⟨⟨h.1.1.ext hb hlt, h.1.2.1.ext hb hlt, h.1.2.2.1.ext hb hlt, h.1.2.2.2.ext hb hlt⟩, h.2⟩
theorem REdge.stable : Stable REdge := fun _ _ _ _ _ hb hlt ⟨⟨h1, h2, A, c, h3, h4, h5, h6⟩, h7⟩ =>
 ⟨⟨h1.ext hb hlt, h2.ext hb hlt, A, c, h3.ext hb hlt, h4, h5, h6.ext RLeg.stable hb⟩, h7⟩

/-- A graph lies in memory: the vertices' lives at A, the edges at A'. -/
structure GraphAt (w : World) (A : Option Addr) (c : Nat) (A' : Option Addr) (c' : Nat) (g : GraphD) : Prop where
 h : I64 g.h
 lc : g.lives.length ≤ c
 cm : c ≤ maxLen
 lc' : g.edges.length ≤ c'
 cm' : c' ≤ maxLen
 lives : SlAt RIvl 2 w A g.lives
 edges : SlAt REdge 3 w A' g.edges
theorem GraphAt.ext {w w' : World} {A A' : Option Addr} {c c' : Nat} {g : GraphD} (h : GraphAt w A c A' c' g) (hb : Below w.heap.size w w') : GraphAt w' A c A' c' g :=
 ⟨h.h, h.lc, h.cm, h.lc', h.cm', h.lives.ext RIvl.stable hb, h.edges.ext REdge.stable hb⟩
structure SnapAt (w : World) (A : Option Addr) (c : Nat) (A' : Option Addr) (c' : Nat) (s : SnapD) : Prop where
 lc : s.alive.length ≤ c
 cm : c ≤ maxLen
 lc' : s.arcs.length ≤ c'
 cm' : c' ≤ maxLen
 alive : SlAt RBool 1 w A s.alive
 arcs : SlAt RArc 3 w A' s.arcs
theorem SnapAt.ext {w w' : World} {A A' : Option Addr} {c c' : Nat} {s : SnapD} (h : SnapAt w A c A' c' s) (hb : Below w.heap.size w w') : SnapAt w' A c A' c' s :=
 ⟨h.lc, h.cm, h.lc', h.cm', h.alive.ext RBool.stable hb, h.arcs.ext RArc.stable hb⟩
abbrev snapV (A : Option Addr) (c : Nat) (A' : Option Addr) (c' : Nat) (s : SnapD) : Value := .agg #[.slice A s.alive.length c, .slice A' s.arcs.length c']
/-- The graph's value. -/
abbrev gV (A : Option Addr) (c : Nat) (A' : Option Addr) (c' : Nat) (g : GraphD) : Value := .agg #[.int .i64 g.h, .slice A g.lives.length c, .slice A' g.edges.length c']
abbrev gC (A : Option Addr) (c : Nat) (A' : Option Addr) (c' : Nat) (g : GraphD) : Array Value := #[.int .i64 g.h, .slice A g.lives.length c, .slice A' g.edges.length c']
abbrev legV (x : LegD) : Value := .agg #[.int .i64 x.f, .int .i64 x.t, .int .i64 x.time, .int .i64 x.cost]
abbrev edgeV (A : Option Addr) (c : Nat) (x : EdgeD) : Value := .agg #[.int .i64 x.a, .int .i64 x.b, .slice A x.legs.length c]
abbrev iV (n : Int) : Value := .int .i64 n

theorem ret_int {k : IntKind} {a b : Int} (h : a = b) : Ending.returned (.int k a) = .returned (.int k b) := by rw [h]
theorem ret_bool {a b : Bool} (h : a = b) : Ending.returned (.bool a) = .returned (.bool b) := by rw [h]
end Go.Proofs.YtjcimdpldlamfaaGreatDoor
/- The frame that all laws of this seat share: a call that returns true and leaves old memory alone meets its row's post. -/
namespace Go.Proofs.YtjcimdpldlamfaaGreatDoor
open Go.ChangeShapes Go.WideShapes Go.ChangeAt Go.RowKit

theorem Tryz.own : ownKnob Tryz.prog.godebug = none := by kernel_rfl
theorem Tryz.laidOut : laidOutB Tryz.prog = true := by kernel_rfl

section
variable {H : Type} {enc : TypeId × Value → H}
theorem trodAll_below {W W' : World} (hb : Below W.heap.size W W') : ∀ (ts : List TypeId) (vs : List Value) (ds : List (DataW H)) (ps : List MemPlace),
  (∀ t ∈ ts, Tryz.prog.readableRec t = true ∧ t < Tryz.prog.types.size) → (∀ x ∈ ps, x.block < W.heap.size) →
  DataW.TrodAll enc Tryz.prog W 0 (fun _ => true) true ts vs ds ps → DataW.TrodAll enc Tryz.prog W' 0 (fun b => decide (b < W.heap.size)) true ts vs ds ps
 | [], vs, ds, ps, _, _, h => by
  obtain ⟨rfl, rfl, rfl⟩ := trodAll_nil h
  exact trodAll_mk0
 | t :: ts, vs, ds, ps, hr, hlt, h => by
  obtain ⟨v, vs', d, ds', p, q, rfl, rfl, rfl, h1, h2⟩ := trodAll_cons h
  exact trodAll_cons_mk (Below.trod Tryz.laidOut (hr t (by simp)).1 (hr t (by simp)).2 h1 hb (fun x hx => hlt x (by simp [hx])))
   (trodAll_below hb ts vs' ds' q (fun t ht => hr t (by simp [ht])) (fun x hx => hlt x (by simp [hx])) h2)

theorem law_post {f : Func} {s : ChangeSpec} {W W' : World} {args : Array Value} {ds gs : List (DataW H)} {before : List MemPlace}
  (hW : DataW.Whole enc Tryz.prog f.params.toList s.vars false W args.toList ds gs before) (hb : Below W.heap.size W W')
  (hv : s.vars = []) (hrt : f.resultTypes.toList = [4]) (hrn : f.resultTypes.size = 1)
  (hr : ∀ t ∈ f.params.toList, Tryz.prog.readableRec t = true ∧ t < Tryz.prog.types.size)
  (hs : s.fn H ds = { results := [.lit (.bool true)], args := ds }) :
  s.post enc Tryz.prog f false true false false W args (.bool true) W' := by
 have hW0 := hW
 obtain ⟨p, q, hA, hV, rfl, hfz, hnd⟩ := hW
 rw [hv] at hV
 obtain ⟨rfl, rfl⟩ := trodVars_none hV
 have hlt : ∀ x ∈ p ++ [], x.block < W.heap.size := fun x hx => hW0.lt x hx
 refine ⟨ds, [], p ++ [], [], p, [], hW0, ?_, ?_, ?_, hb.frame _, fun h => by cases h⟩
 ·rw [hrt, hrn, List.append_nil, hs]
  exact trodAll_mk1 (shut_bool Tryz.underlying4 true)
 ·rw [List.append_nil, hs]
  exact trodAll_below hb _ _ _ _ hr (fun x hx => hlt x (by simp [hx])) hA
 ·rw [hv, List.append_nil, hs]
  rfl
end

/-! ### the head of the translation, word by word (the kernel alone needs too much memory for it) -/
theorem wordsSigns_blank (r : List Char) : wordsSigns (Char.ofNat 32 :: r) = [] :: wordsSigns r := rfl
theorem wordsSigns_word : ∀ (p r : List Char), (∀ c ∈ p, c ≠ Char.ofNat 32) → wordsSigns (p ++ Char.ofNat 32 :: r) = p :: wordsSigns r
 | [], r, _ => wordsSigns_blank r
 | c :: p, r, h => by
  have hc : c ≠ Char.ofNat 32 := h c (by simp)
  have ih := wordsSigns_word p r (fun c hc => h c (by simp [hc]))
  have e : wordsSigns (c :: (p ++ Char.ofNat 32 :: r)) = match wordsSigns (p ++ Char.ofNat 32 :: r) with
    | w :: ws => (c :: w) :: ws
    | [] => [[c]] := by
   conv => lhs; unfold wordsSigns
   split
   ·rename_i e; simp at e
   ·rename_i e; simp at e; exact absurd e.1 hc
   ·rename_i e; simp at e; obtain ⟨rfl, rfl⟩ := e; rfl
  rw [List.cons_append, e, ih]
theorem head_is : Tryz.prog.initOrder = String.ofList (([104, 97, 114, 110, 101, 115, 115] : List Nat).map Char.ofNat ++ Char.ofNat 32 ::
  (([102, 98, 48, 99, 51, 53, 97, 57, 50, 101, 53, 51, 101, 50, 50, 56, 57, 102, 98, 56, 48, 99, 56, 97, 97, 51, 55, 52, 49, 50, 101, 102, 53, 54, 97, 102, 52, 102, 55, 48, 55, 52, 99, 54, 100, 55, 56, 55, 101, 49, 49, 98, 53, 98, 52, 101, 102, 56, 101, 56, 55, 99, 98, 49] : List Nat).map Char.ofNat ++ Char.ofNat 32 :: (([99, 117, 116] : List Nat).map Char.ofNat ++ Char.ofNat 32 ::
  ([97, 116, 32, 116, 105, 109, 101, 119, 101, 102, 116, 47, 116, 105, 109, 101, 107, 101, 101, 112, 46, 68, 101, 115, 107, 67, 111, 117, 110, 116, 115, 32, 116, 105, 109, 101, 119, 101, 102, 116, 47, 116, 105, 109, 101, 107, 101, 101, 112, 46, 68, 101, 115, 107, 72, 101, 97, 100, 32, 116, 105, 109, 101, 119, 101, 102, 116, 47, 116, 105, 109, 101, 108, 97, 119, 46, 68, 101, 115, 107, 83, 97, 121, 115] : List Nat).map Char.ofNat))) := by kernel_rfl
theorem head_words : ∃ rest, wordsSigns Tryz.prog.initOrder.toList = ([104, 97, 114, 110, 101, 115, 115] : List Nat).map Char.ofNat :: ([102, 98, 48, 99, 51, 53, 97, 57, 50, 101, 53, 51, 101, 50, 50, 56, 57, 102, 98, 56, 48, 99, 56, 97, 97, 51, 55, 52, 49, 50, 101, 102, 53, 54, 97, 102, 52, 102, 55, 48, 55, 52, 99, 54, 100, 55, 56, 55, 101, 49, 49, 98, 53, 98, 52, 101, 102, 56, 101, 56, 55, 99, 98, 49] : List Nat).map Char.ofNat :: ([99, 117, 116] : List Nat).map Char.ofNat :: rest := by
 rw [head_is, String.toList_ofList, wordsSigns_word _ _ (by decide), wordsSigns_word _ _ (by decide), wordsSigns_word _ _ (by decide)]
 exact ⟨_, rfl⟩
theorem head_behind : ∃ rest, behindMainWord (wordsSigns Tryz.prog.initOrder.toList) = "cut".toList :: rest := by
 obtain ⟨rest, h⟩ := head_words
 refine ⟨rest, ?_⟩
 rw [h]
 have hs : isSumSigns (([102, 98, 48, 99, 51, 53, 97, 57, 50, 101, 53, 51, 101, 50, 50, 56, 57, 102, 98, 56, 48, 99, 56, 97, 97, 51, 55, 52, 49, 50, 101, 102, 53, 54, 97, 102, 52, 102, 55, 48, 55, 52, 99, 54, 100, 55, 56, 55, 101, 49, 49, 98, 53, 98, 52, 101, 102, 56, 101, 56, 55, 99, 98, 49] : List Nat).map Char.ofNat) = true := by kernel_rfl
 have h1 : ([104, 97, 114, 110, 101, 115, 115] : List Nat).map Char.ofNat = "harness".toList := by decide
 have h2 : ([99, 117, 116] : List Nat).map Char.ofNat = "cut".toList := by decide
 rw [h1, h2]
 simp only [behindMainWord, hs]
 simp
theorem strip_cut (rest : List (List Char)) : stripLifts liftWords ("cut".toList :: rest) = ([], "cut".toList :: rest) := by kernel_rfl
theorem lays_not : Tryz.prog.laysLater = false := by kernel_rfl
theorem reflect_not : Tryz.prog.bearsReflect = false := by kernel_rfl
theorem door_fits : Tryz.prog.doorFits [] = true := by kernel_rfl
section
variable {P : Program} {rest : List (List Char)}
theorem may_enter_of (h : behindMainWord (wordsSigns P.initOrder.toList) = "cut".toList :: rest) (h1 : P.laysLater = false) (h2 : P.bearsReflect = false) (h3 : P.doorFits [] = true) : P.mayEnter = true := by
 unfold Program.mayEnter
 rw [h]
 simp only [strip_cut, h1, h2, h3]
 simp
theorem head_lifts_of (h : behindMainWord (wordsSigns P.initOrder.toList) = "cut".toList :: rest) : P.headLifts = [] := by
 unfold Program.headLifts
 rw [h, strip_cut]
 simp
theorem lifts_final_of (h : behindMainWord (wordsSigns P.initOrder.toList) = "cut".toList :: rest) : P.liftsFinal = false := by
 unfold Program.liftsFinal
 rw [h, head_lifts_of h]
 simp
theorem make_of (h : behindMainWord (wordsSigns P.initOrder.toList) = "cut".toList :: rest) : P.make = some .cut := by
 unfold Program.make
 rw [h]
 simp
end
theorem may_enter : Tryz.prog.mayEnter = true := head_behind.elim fun _ h => may_enter_of h lays_not reflect_not door_fits
theorem lifts_final : Tryz.prog.liftsFinal = false := head_behind.elim fun _ h => lifts_final_of h
theorem make_cut : Tryz.prog.make = some .cut := head_behind.elim fun _ h => make_of h

theorem joined_of {P : Program} {f : FuncId} {fn : Func} {s : ChangeSpec} {c : OpenClaim} (h : List.all [c.wf (OpenSpec.ofChange s), laidOutB P, mapsRowed P,
 fn.params.all (P.readableRec ·), namedTie P c.named s.vars, (c.stops == []), (P.stops == []), (c.knobs == []), (P.stopKnobs == [])] id = true)
 (h2 : (c.inPlace == P.inPlace f) = true) (h3 : (c.unfollowed == P.unfollowed f) = true) (h4 : (c.recurses == P.recurses f) = true) (h5 : (c.named == P.varsNamed f) = true)
 (h6 : List.all [(c.maps == (fn.params.toList ++ s.plain.varTypes P).any (P.mapsRec ·)), (c.ifaces == (fn.params.toList ++ s.plain.varTypes P).any (P.ifacesRec ·)), (c.mapsOut == P.mapsAmong fn.resultTypes.toList),
 (c.loops == (fn.params.toList ++ s.plain.varTypes P).any (P.loopsFrom ·)), (c.wideKeys == (fn.params.toList ++ s.plain.varTypes P ++ fn.resultTypes.toList).any (P.wideKeysFrom ·)),
 s.vars.all (P.varReadable ·), fn.resultTypes.all (fun t => P.readableRec t && decide (t < P.types.size)), (c.ifacesOut == fn.resultTypes.toList.any (P.ifacesRec ·)), (c.loopsOut == fn.resultTypes.toList.any (P.loopsFrom ·)),
 (c.plainKeys == P.plainKeys), c.shortTexts.isNone, P.stopsHeard] id = true)
 (h7 : P.mayEnter = true) (h8 : P.liftsFinal = false) (h8' : c.lifted = false) (h9 : P.make = some .cut) (h9' : c.make = .cut)
 (h10 : List.all [(c.kinds == (if c.domain.isEmpty then [] else fn.params.toList.map fun t => match P.underlying t with | some (.int k) => some k | _ => none)), (c.pinned == c.pinnedBy),
 (c.veiled == (fn.params.toList ++ s.plain.varTypes P ++ fn.resultTypes.toList).any (P.veiledRec ·)), c.veiledFits P fn.params.toList (fn.params.toList ++ s.plain.varTypes P ++ fn.resultTypes.toList)] id = true) : joinedFacts P f fn s c = true := by
 simp only [List.all_cons, List.all_nil, id, Bool.and_true, Bool.and_eq_true] at h h6 h10
 obtain ⟨a1, a2, a3, a4, a5, a6, a7, a8, a9⟩ := h
 obtain ⟨b1, b2, b3, b4, b5, b6, b7, b8, b9, b10, b11, b12⟩ := h6
 obtain ⟨c1, c2, c3, c4⟩ := h10
 unfold joinedFacts
 simp only [Bool.and_eq_true]
 exact ⟨⟨⟨⟨⟨⟨⟨⟨⟨⟨⟨⟨⟨⟨⟨⟨⟨⟨⟨⟨⟨⟨⟨⟨⟨⟨⟨⟨⟨⟨⟨a1, a2⟩, a3⟩, a4⟩, a5⟩, a6⟩, a7⟩, a8⟩, a9⟩, h2⟩, h3⟩, h4⟩, h5⟩, b1⟩, b2⟩, b3⟩, b4⟩, b5⟩, b6⟩, b7⟩, b8⟩, b9⟩, b10⟩, b11⟩, b12⟩, h7⟩, by rw [h8, h8']; rfl⟩, by rw [h9, h9']; rfl⟩, c1⟩, c2⟩, c3⟩, c4⟩
end Go.Proofs.YtjcimdpldlamfaaGreatDoor
/- From the arguments as the row reads them to plain data: graphs, lists of hops, of ints, of bools, snapshots. -/
namespace Go.Proofs.YtjcimdpldlamfaaGreatDoor
open Go.ChangeShapes Go.WideShapes Go.RowKit Go.Deep Go.Joins

section
variable {H : Type} {enc : TypeId × Value → H} {W : World} {spare : Nat → Bool} {held : Bool}

end
end Go.Proofs.YtjcimdpldlamfaaGreatDoor
/- Five arguments. -/
namespace Go.Proofs.YtjcimdpldlamfaaGreatDoor
open Go.ChangeShapes Go.WideShapes Go.RowKit Go.Deep Go.Joins

section
variable {H : Type} {enc : TypeId × Value → H} {W : World} {spare : Nat → Bool} {held : Bool} {P : Program} {base : Nat}
end
end Go.Proofs.YtjcimdpldlamfaaGreatDoor
/- More openings: strings, a hop by value, five arguments; that a list of parameters is readable. -/
namespace Go.Proofs.YtjcimdpldlamfaaGreatDoor
open Go.ChangeShapes Go.WideShapes Go.RowKit Go.Deep Go.Joins
open Go.ChangeMaps (open_string)

theorem params_read {l : List TypeId} (h : l.all (fun t => Tryz.prog.readableRec t && decide (t < Tryz.prog.types.size)) = true) : ∀ t ∈ l, Tryz.prog.readableRec t = true ∧ t < Tryz.prog.types.size := by
 intro t ht
 have := List.all_eq_true.1 h t ht
 simpa using this
section
variable {H : Type} {enc : TypeId × Value → H} {W : World} {spare : Nat → Bool} {held : Bool} {P : Program} {base : Nat}
end
end Go.Proofs.YtjcimdpldlamfaaGreatDoor
/- Sets of times, as lists of intervals; no program in sight. -/
namespace Go.Proofs.YtjcimdpldlamfaaGreatDoor

/-- The time is in one of the intervals. -/
def hasB (l : List IvlD) (t : Int) : Bool := l.any fun x => decide (x.f ≤ t ∧ t < x.t)
/-- A set as it should be written: intervals that rise, none of them empty, none meets another one. -/
def NormL (l : List IvlD) : Prop := l.Pairwise (fun x y => x.t < y.f) ∧ ∀ x, x ∈ l → x.f < x.t
section
variable {l r out : List IvlD} {x y z : IvlD} {t : Int}
theorem has_nil : hasB [] t = false := rfl
theorem has_cons : hasB (x :: l) t = true ↔ (x.f ≤ t ∧ t < x.t) ∨ hasB l t = true := by simp [hasB]
theorem has_append : hasB (l ++ r) t = (hasB l t || hasB r t) := by simp [hasB]
theorem has_iff : hasB l t = true ↔ ∃ x, x ∈ l ∧ x.f ≤ t ∧ t < x.t := by simp [hasB]
theorem NormL.nil : NormL [] := ⟨.nil, fun x h => by simp at h⟩
theorem NormL.past (h : NormL (x :: l)) (ht : hasB l t = true) : x.t < t := by
 obtain ⟨y, hy, h1, _⟩ := has_iff.1 ht
 have := (List.pairwise_cons.1 h.1).1 y hy
 omega
theorem NormL.low (h : NormL (x :: l)) (ht : hasB (x :: l) t = true) : x.f ≤ t := by
 rcases has_cons.1 ht with h1 | h1
 ·exact h1.1
 ·have := h.past h1
  have := h.2 x (by simp)
  omega
/-- The last of a set comes behind all else. -/
theorem NormL.snoc_lt (h : NormL (out ++ [z])) {y : IvlD} (hy : y ∈ out) : y.t < z.f := (List.pairwise_append.1 h.1).2.2 y hy z (by simp)
theorem NormL.snoc (h : NormL out) (hx : x.f < x.t) (hl : ∀ y, y ∈ out → y.t < x.f) : NormL (out ++ [x]) := by
 refine ⟨List.pairwise_append.2 ⟨h.1, by simp, fun y hy u hu => ?_⟩, fun y hy => ?_⟩
 ·obtain rfl : u = x := by simpa using hu
  exact hl y hy
 ·rcases List.mem_append.1 hy with hy | hy
  ·exact h.2 y hy
  ·obtain rfl : y = x := by simpa using hy
   exact hx
theorem NormL.init (h : NormL (out ++ [z])) : NormL out := ⟨(List.pairwise_append.1 h.1).1, fun y hy => h.2 y (List.mem_append_left _ hy)⟩
/-- The last one reaches further. -/
theorem NormL.grow (h : NormL (out ++ [z])) {n : Int} (hn : z.t ≤ n) : NormL (out ++ [⟨z.f, n⟩]) :=
 h.init.snoc (by have := h.2 z (by simp); simp only; omega) fun _ hy => h.snoc_lt hy
theorem has_snoc : hasB (out ++ [z]) t = true ↔ hasB out t = true ∨ (z.f ≤ t ∧ t < z.t) := by
 rw [has_append, Bool.or_eq_true, has_cons, has_nil]
 simp
theorem NormL.rise (h : NormL (out ++ [z])) : ∀ y, y ∈ out ++ [z] → y.t ≤ z.t := fun y hy => by
 rcases List.mem_append.1 hy with hy | hy
 ·have := h.snoc_lt hy; have := h.2 z (by simp); omega
 ·obtain rfl : y = z := by simpa using hy
  exact Int.le_refl _
end
/-! ### how the program writes a set: sorted intervals, one after the other -/
/-- All that comes is put together: what has been read, in what is told. -/
structure Merged (done out : List IvlD) (last : Int) : Prop where
 norm : NormL out
 has : ∀ t, hasB out t = hasB done t
 low : ∀ y, y ∈ out → y.f ≤ last
section
variable {dn out o : List IvlD} {x z : IvlD} {n : Int}
theorem Merged.start : Merged [] [] n := ⟨.nil, fun _ => rfl, fun y h => by simp at h⟩
theorem Merged.later {m : Int} (h : Merged dn out n) (hm : n ≤ m) : Merged dn out m := ⟨h.norm, h.has, fun y hy => by have := h.low y hy; omega⟩
theorem Merged.join (h : Merged dn (o ++ [z]) x.f) (_ : x.f < x.t) (hz : x.f ≤ z.t) : Merged (dn ++ [x]) (o ++ [⟨z.f, max z.t x.t⟩]) x.f := by
 have hl := h.low z (by simp)
 refine ⟨h.norm.grow (by omega), fun t => ?_, fun y hy => ?_⟩
 ·have key : (z.f ≤ t ∧ t < max z.t x.t) ↔ (z.f ≤ t ∧ t < z.t) ∨ (x.f ≤ t ∧ t < x.t) := by omega
  rw [Bool.eq_iff_iff, has_snoc, has_snoc, ← h.has t, has_snoc, or_assoc, ← key]
 ·rcases List.mem_append.1 hy with hy | hy
  ·exact h.low y (List.mem_append_left _ hy)
  ·obtain rfl : y = _ := by simpa using hy
   exact hl
theorem Merged.next (h : Merged dn out x.f) (hx : x.f < x.t) (hz : ∀ y, y ∈ out → y.t < x.f) : Merged (dn ++ [x]) (out ++ [x]) x.f := by
 refine ⟨h.norm.snoc hx hz, fun t => ?_, fun y hy => ?_⟩
 ·rw [Bool.eq_iff_iff, has_snoc, has_snoc, h.has t]
 ·rcases List.mem_append.1 hy with hy | hy
  ·exact h.low y hy
  ·obtain rfl : y = x := by simpa using hy
   exact Int.le_refl _
end
/-! ### how the document writes a set: between two bounds, where something holds -/
/-- Behind the bound a: what holds between b and a is told. -/
structure Between (is : Int → Bool) (b a : Int) (out : List IvlD) : Prop where
 norm : NormL out
 has : ∀ t, hasB out t = true ↔ b ≤ t ∧ t < a ∧ is t = true
 low : ∀ y, y ∈ out → y.t ≤ a
section
variable {is : Int → Bool} {b a c : Int} {out o : List IvlD} {z : IvlD}
end
end Go.Proofs.YtjcimdpldlamfaaGreatDoor
/- Values over times, as lists of pieces; no program in sight. -/
namespace Go.Proofs.YtjcimdpldlamfaaGreatDoor

structure PieceD where
 f : Int
 t : Int
 v : Int
deriving DecidableEq
/-- What is told at a time. -/
def atM : List PieceD → Int → Option Int
 | [], _ => none
 | x :: l, t => if x.f ≤ t ∧ t < x.t then some x.v else atM l t
def MapL (l : List PieceD) : Prop := l.Pairwise (fun x y => x.t ≤ y.f ∧ (x.t = y.f → x.v ≠ y.v)) ∧ ∀ x, x ∈ l → x.f < x.t
section
variable {l r out : List PieceD} {x y z : PieceD} {t : Int} {v : Int}
theorem at_nil : atM [] t = none := rfl
theorem at_hit (h : x.f ≤ t ∧ t < x.t) : atM (x :: l) t = some x.v := by rw [atM, if_pos h]
theorem at_miss (h : ¬ (x.f ≤ t ∧ t < x.t)) : atM (x :: l) t = atM l t := by rw [atM, if_neg h]
theorem at_some : ∀ {l : List PieceD}, atM l t = some v → ∃ x, x ∈ l ∧ x.f ≤ t ∧ t < x.t ∧ x.v = v
 | [], h => by simp [atM] at h
 | x :: l, h => by
  by_cases hx : x.f ≤ t ∧ t < x.t
  ·rw [at_hit hx] at h
   exact ⟨x, by simp, hx.1, hx.2, by simpa using h⟩
  ·rw [at_miss hx] at h
   obtain ⟨y, hy, h1⟩ := at_some h
   exact ⟨y, List.mem_cons_of_mem _ hy, h1⟩
theorem at_none : ∀ {l : List PieceD}, (∀ x, x ∈ l → ¬ (x.f ≤ t ∧ t < x.t)) → atM l t = none
 | [], _ => rfl
 | x :: l, h => by rw [at_miss (h x (by simp)), at_none fun y hy => h y (List.mem_cons_of_mem _ hy)]
theorem at_append : ∀ {l r : List PieceD}, atM (l ++ r) t = (atM l t).or (atM r t)
 | [], r => by simp [atM]
 | x :: l, r => by
  rw [List.cons_append]
  by_cases hx : x.f ≤ t ∧ t < x.t
  ·rw [at_hit hx, at_hit hx]; rfl
  ·rw [at_miss hx, at_miss hx, at_append]
theorem MapL.nil : MapL [] := ⟨.nil, fun x h => by simp at h⟩
theorem MapL.tail (h : MapL (x :: l)) : MapL l := ⟨(List.pairwise_cons.1 h.1).2, fun y hy => h.2 y (List.mem_cons_of_mem _ hy)⟩
theorem MapL.past (h : MapL (x :: l)) (ht : atM l t = some v) : x.t ≤ t ∧ (t = x.t → v ≠ x.v) := by
 obtain ⟨y, hy, h1, _, h2⟩ := at_some ht
 have h3 := (List.pairwise_cons.1 h.1).1 y hy
 refine ⟨by omega, fun e => ?_⟩
 rw [← h2]
 exact (h3.2 (by omega)).symm
theorem MapL.low (h : MapL (x :: l)) (ht : atM (x :: l) t = some v) : x.f ≤ t := by
 by_cases hx : x.f ≤ t ∧ t < x.t
 ·exact hx.1
 ·rw [at_miss hx] at ht
  have := (h.past ht).1
  have := h.2 x (by simp)
  omega
theorem MapL.head (h : MapL (x :: l)) : atM (x :: l) x.f = some x.v := at_hit ⟨Int.le_refl _, h.2 x (by simp)⟩
/-- What a map is written as, is told by what it tells. -/
theorem map_unique : ∀ {l r : List PieceD}, MapL l → MapL r → (∀ t, atM l t = atM r t) → l = r
 | [], [], _, _, _ => rfl
 | [], y :: r, _, hr, h => by
  have h1 := h y.f
  rw [hr.head, at_nil] at h1
  simp at h1
 | x :: l, [], hl, _, h => by
  have h1 := h x.f
  rw [hl.head, at_nil] at h1
  simp at h1
 | x :: l, y :: r, hl, hr, h => by
  have hx := hl.2 x (by simp)
  have hy := hr.2 y (by simp)
  have e1 : x.f = y.f := by
   have h1 := hr.low (t := x.f) (by rw [← h]; exact hl.head)
   have h2 := hl.low (t := y.f) (by rw [h]; exact hr.head)
   omega
  have ev : x.v = y.v := by
   have h1 := h x.f
   rw [hl.head, e1, hr.head] at h1
   simpa using h1
  have e2 : x.t = y.t := by
   rcases Int.lt_trichotomy x.t y.t with h1 | h1 | h1
   ·exfalso
    have h2 := h x.t
    rw [at_hit (x := y) ⟨by omega, h1⟩, at_miss (by omega)] at h2
    exact (hl.past h2).2 rfl ev.symm
   ·exact h1
   ·exfalso
    have h2 := (h y.t).symm
    rw [at_hit (x := x) ⟨by omega, h1⟩, at_miss (by omega)] at h2
    exact (hr.past h2).2 rfl ev
  have e : x = y := by
   cases x; cases y
   simp only at e1 e2 ev
   subst e1 e2 ev
   rfl
  subst e
  congr 1
  refine map_unique hl.tail hr.tail fun t => ?_
  have h1 := h t
  by_cases ht : x.f ≤ t ∧ t < x.t
  ·have k1 : atM l t = none := by
    cases hc : atM l t with
    | none => rfl
    | some v => have := (hl.past hc).1; omega
   have k2 : atM r t = none := by
    cases hc : atM r t with
    | none => rfl
    | some v => have := (hr.past hc).1; omega
   rw [k1, k2]
  ·rwa [at_miss ht, at_miss ht] at h1
theorem MapL.init (h : MapL (out ++ [z])) : MapL out := ⟨(List.pairwise_append.1 h.1).1, fun y hy => h.2 y (List.mem_append_left _ hy)⟩
theorem MapL.snoc_lt (h : MapL (out ++ [z])) {y : PieceD} (hy : y ∈ out) : y.t ≤ z.f ∧ (y.t = z.f → y.v ≠ z.v) := (List.pairwise_append.1 h.1).2.2 y hy z (by simp)
theorem MapL.snoc (h : MapL out) (hx : x.f < x.t) (hl : ∀ y, y ∈ out → y.t ≤ x.f ∧ (y.t = x.f → y.v ≠ x.v)) : MapL (out ++ [x]) := by
 refine ⟨List.pairwise_append.2 ⟨h.1, by simp, fun y hy u hu => ?_⟩, fun y hy => ?_⟩
 ·obtain rfl : u = x := by simpa using hu
  exact hl y hy
 ·rcases List.mem_append.1 hy with hy | hy
  ·exact h.2 y hy
  ·obtain rfl : y = x := by simpa using hy
   exact hx
theorem MapL.grow (h : MapL (out ++ [z])) {n : Int} (hn : z.t ≤ n) : MapL (out ++ [⟨z.f, n, z.v⟩]) :=
 h.init.snoc (by have := h.2 z (by simp); simp only; omega) fun _ hy => h.snoc_lt hy
/-- Who is told ahead of the last one ends ahead of it. -/
theorem MapL.ahead (h : MapL (out ++ [z])) {y : PieceD} (hy : y ∈ out) : y.t < z.t := by
 have := h.snoc_lt hy; have := h.2 z (by simp); omega
end
/-! ### a map, written between one bound and the next -/
structure Told (fn : Int → Option Int) (b a : Int) (out : List PieceD) : Prop where
 map : MapL out
 tells : ∀ t, atM out t = if b ≤ t ∧ t < a then fn t else none
 low : ∀ y, y ∈ out → y.t ≤ a
section
variable {fn : Int → Option Int} {b a c v : Int} {out o : List PieceD} {z : PieceD}
theorem Told.start : Told fn a a [] := ⟨.nil, fun t => by rw [at_nil, if_neg (by omega)], fun y h => by simp at h⟩
theorem Told.skip (h : Told fn b a out) (hac : a < c) (hfn : ∀ t, a ≤ t → t < c → fn t = fn a) (hn : fn a = none) : Told fn b c out := by
 refine ⟨h.map, fun t => ?_, fun y hy => by have := h.low y hy; omega⟩
 rw [h.tells t]
 by_cases h1 : b ≤ t ∧ t < a
 ·rw [if_pos h1, if_pos (by omega)]
 ·rw [if_neg h1]
  split
  ·rw [hfn t (by omega) (by omega), hn]
  ·rfl
theorem Told.grow (h : Told fn b a (o ++ [z])) (_ : b ≤ a) (hac : a < c) (hfn : ∀ t, a ≤ t → t < c → fn t = fn a) (hv : fn a = some z.v) (hz : z.t = a) : Told fn b c (o ++ [⟨z.f, c, z.v⟩]) := by
 have hzl := h.map.2 z (by simp)
 have hzf : b ≤ z.f := by
  have h1 := h.tells z.f
  have h2 : atM (o ++ [z]) z.f = some z.v := by
   rw [at_append, at_none fun y hy => by have := h.map.snoc_lt hy; omega]
   exact at_hit ⟨Int.le_refl _, hzl⟩
  rw [h2] at h1
  refine Classical.byContradiction fun hn => ?_
  rw [if_neg (by omega)] at h1
  simp at h1
 refine ⟨h.map.grow (by omega), fun t => ?_, fun y hy => ?_⟩
 ·have h1 := h.tells t
  rw [at_append] at h1 ⊢
  cases hc : atM o t with
  | some u =>
   rw [hc] at h1
   obtain ⟨q, hq, k1, k2, _⟩ := at_some hc
   have := h.low q (List.mem_append_left _ hq)
   simp only [Option.or] at h1 ⊢
   rw [h1]
   by_cases hb : b ≤ t ∧ t < a
   ·rw [if_pos hb, if_pos (by omega)]
   ·rw [if_neg hb] at h1; simp at h1
  | none =>
   rw [hc] at h1
   simp only [Option.none_or] at h1 ⊢
   by_cases ht : z.f ≤ t ∧ t < c
   ·rw [at_hit (by simpa using ht), if_pos (by omega)]
    by_cases hta : t < a
    ·rw [at_hit ⟨ht.1, by omega⟩, if_pos (by omega)] at h1
     simp only
     exact h1
    ·rw [hfn t (by omega) ht.2, hv]
   ·rw [at_miss (by simpa using ht), at_nil]
    rw [at_miss (by omega), at_nil] at h1
    by_cases hb : b ≤ t ∧ t < c
    ·rw [if_pos hb]
     rw [if_pos (by omega)] at h1
     exact h1
    ·rw [if_neg hb]
 ·rcases List.mem_append.1 hy with hy | hy
  ·have := h.low y (List.mem_append_left _ hy); omega
  ·obtain rfl : y = _ := by simpa using hy
   exact Int.le_refl _
theorem Told.next (h : Told fn b a out) (hba : b ≤ a) (hac : a < c) (hfn : ∀ t, a ≤ t → t < c → fn t = fn a) (hv : fn a = some v) (hz : ∀ y, y ∈ out → y.t = a → y.v ≠ v) : Told fn b c (out ++ [⟨a, c, v⟩]) := by
 refine ⟨h.map.snoc hac fun y hy => ⟨h.low y hy, fun e => hz y hy e⟩, fun t => ?_, fun y hy => ?_⟩
 ·have h1 := h.tells t
  rw [at_append, h1]
  by_cases hb : b ≤ t ∧ t < a
  ·rw [if_pos hb, if_pos (by omega), at_miss (by simp only; omega), at_nil]
   simp
  ·rw [if_neg hb]
   simp only [Option.none_or]
   by_cases hc : b ≤ t ∧ t < c
   ·rw [if_pos hc, at_hit (by simp only; omega), hfn t (by omega) (by omega), hv]
   ·rw [if_neg hc, at_miss (by simp only; omega), at_nil]
 ·rcases List.mem_append.1 hy with hy | hy
  ·have := h.low y hy; omega
  ·obtain rfl : y = _ := by simpa using hy
   exact Int.le_refl _
end
end Go.Proofs.YtjcimdpldlamfaaGreatDoor
