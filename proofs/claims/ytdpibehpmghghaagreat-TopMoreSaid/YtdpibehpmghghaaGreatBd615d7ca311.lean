/- Several texts in one: Mem, Law. -/
import Derived.WalkKit
import Derived.WalkSpells
import Derived.WalkLawsBesides
import Derived.Handy
import Derived.BigQuiet
import Derived.Lib.Hide
import Derived.Deep.Slices
import Derived.Deep.Fields
import Derived.ChangeSame
import Derived.ProofKit
import Derived.Test.YtdpibehpmghghaaGreatRows
/- Plain data of the program (graphs, hops, arcs) and what it means that memory holds them; no program in sight. -/
namespace Go.Proofs.YtdpibehpmghghaaGreat
open Go.RowKit

/-! ### data -/
structure IvlD where
  f : Int
  t : Int
structure LegD where
  f : Int
  t : Int
  time : Int
  cost : Int
structure EdgeD where
  a : Int
  b : Int
  legs : List LegD
structure GraphD where
  h : Int
  lives : List IvlD
  edges : List EdgeD
structure HopD where
  edge : Int
  depart : Int
structure ArcD where
  a : Int
  b : Int
  cost : Int
structure SnapD where
  alive : List Bool
  arcs : List ArcD

instance : Inhabited IvlD := ⟨⟨0, 0⟩⟩
instance : Inhabited LegD := ⟨⟨0, 0, 0, 0⟩⟩
instance : Inhabited EdgeD := ⟨⟨0, 0, []⟩⟩
instance : Inhabited HopD := ⟨⟨0, 0⟩⟩
instance : Inhabited ArcD := ⟨⟨0, 0, 0⟩⟩
instance : DecidableEq IvlD := fun x y => decidable_of_iff (x.f = y.f ∧ x.t = y.t) (by cases x; cases y; simp)
instance : DecidableEq LegD := fun x y => decidable_of_iff (x.f = y.f ∧ x.t = y.t ∧ x.time = y.time ∧ x.cost = y.cost) (by cases x; cases y; simp)
instance : DecidableEq EdgeD := fun x y => decidable_of_iff (x.a = y.a ∧ x.b = y.b ∧ x.legs = y.legs) (by cases x; cases y; simp)
instance : DecidableEq HopD := fun x y => decidable_of_iff (x.edge = y.edge ∧ x.depart = y.depart) (by cases x; cases y; simp)
instance : DecidableEq ArcD := fun x y => decidable_of_iff (x.a = y.a ∧ x.b = y.b ∧ x.cost = y.cost) (by cases x; cases y; simp)
instance : DecidableEq GraphD := fun x y => decidable_of_iff (x.h = y.h ∧ x.lives = y.lives ∧ x.edges = y.edges) (by cases x; cases y; simp)

/-- an int64 -/
def I64 (n : Int) : Prop := -9223372036854775808 ≤ n ∧ n ≤ 9223372036854775807

theorem drop_cons {α : Type} {l : List α} {k : Nat} {x : α} (h : l[k]? = some x) : l.drop k = x :: l.drop (k + 1) := by
  obtain ⟨hk, rfl⟩ := List.getElem?_eq_some_iff.1 h
  exact List.drop_eq_getElem_cons hk
theorem get_lt {α : Type} {l : List α} {k : Nat} (h : k < l.length) : ∃ x, l[k]? = some x := ⟨_, List.getElem?_eq_getElem h⟩
theorem lt_of_get {α : Type} {l : List α} {k : Nat} {x : α} (h : l[k]? = some x) : k < l.length := (List.getElem?_eq_some_iff.1 h).1
theorem drop_end {α : Type} {l : List α} {k : Nat} (h : l.length ≤ k) : l.drop k = [] := List.drop_eq_nil_of_le h

/-! ### blocks known whole -/
def Blk (w : World) (g : Nat) (t : TypeId) (cs : Array Value) : Prop := w.heap[g]? = some (.cells cs t (0, 0))
theorem Blk.new (w : World) (t : TypeId) (cs : Array Value) : Blk (w.alloc (.cells cs t)) w.heap.size t cs := heap_alloc_new w _
theorem Blk.new_ {w : World} {n : Nat} {t : TypeId} {cs : Array Value} (h : n = w.heap.size) : Blk (w.alloc (.cells cs t)) n t cs := h ▸ Blk.new w t cs
section
variable {w w' : World} {g : Nat} {t : TypeId} {cs : Array Value}
theorem Blk.lt (h : Blk w g t cs) : g < w.heap.size := by
  rcases Nat.lt_or_ge g w.heap.size with hlt | hge
  · exact hlt
  · unfold Blk at h; rw [Array.getElem?_eq_none hge] at h; cases h
theorem Blk.alloc (h : Blk w g t cs) (o : Obj) : Blk (w.alloc o) g t cs := (Below.heap_alloc w o g h.lt).trans h
theorem Blk.drew (h : Blk w g t cs) : Blk w.drew g t cs := h
theorem Blk.drewN (h : Blk w g t cs) (n : Nat) : Blk (w.drewN n) g t cs := h
theorem Blk.set_ (h : Blk w g t cs) (i : Nat) (u : Value) : Blk (w.setCell ⟨g, i, none⟩ u) g t (cs.setIfInBounds i u) := by
  unfold Blk at h ⊢
  simp [World.setCell, Array.getElem?_modify, h]
theorem Blk.far (h : Blk w g t cs) {p : Addr} (hp : g ≠ p.block) (u : Value) : Blk (w.setCell p u) g t cs := (Below.heap_setCell w p u g hp).trans h
theorem Blk.cell (h : Blk w g t cs) (i : Nat) : w.cell? ⟨g, i, none⟩ = cs[i]? := cell_of_row w g i cs t (0, 0) h
theorem Blk.frozen (h : Blk w g t cs) (i : Nat) : w.frozen? ⟨g, i, none⟩ = false := by
  unfold Blk at h
  simp [World.frozen?, h]
theorem Blk.below {B : Nat} (h : Blk w g t cs) (hb : Below B w w') (hg : g < B) : Blk w' g t cs := (hb.block g hg).trans h
theorem Blk.ext (h : Blk w g t cs) (hb : Below w.heap.size w w') : Blk w' g t cs := (hb.block g h.lt).trans h
theorem Blk.grown {row : Option Nat} (h : Blk w g t cs) (hb : w.grownBy w' row) (hg : some g ≠ row) : Blk w' g t cs := (hb.block g h.lt hg).trans h
theorem Blk.go (h : Blk w g t cs) (hb : Below w.heap.size w w') : Blk w' g t cs ∧ (∀ i, w'.cell? ⟨g, i, none⟩ = cs[i]?) ∧ (∀ i, w'.frozen? ⟨g, i, none⟩ = false) ∧ g < w'.heap.size :=
  ⟨h.ext hb, (h.ext hb).cell, (h.ext hb).frozen, (h.ext hb).lt⟩
theorem Blk.facts (h : Blk w g t cs) : (∀ i, w.cell? ⟨g, i, none⟩ = cs[i]?) ∧ (∀ i, w.frozen? ⟨g, i, none⟩ = false) ∧ g < w.heap.size := ⟨h.cell, h.frozen, h.lt⟩
end
theorem below_drewN {B : Nat} {a w : World} (h : Below B a w) (n : Nat) : Below B a (w.drewN n) := ⟨h.os, h.tape, h.output, h.size, h.block⟩

/-! ### slices that hold data -/
/-- The slice at address A holds the list l: element i, of sz cells, lies as R says. -/
def SlAt {α : Type} (R : World → Nat → Nat → α → Prop) (sz : Nat) (w : World) (A : Option Addr) (l : List α) : Prop :=
  ∃ b off, ∀ i x, l[i]? = some x → A = some ⟨b, off, none⟩ ∧ b < w.heap.size ∧ R w b (off + i * sz) x
/-- What R says stays said while memory grows. -/
def Stable {α : Type} (R : World → Nat → Nat → α → Prop) : Prop := ∀ w w' b o x, Below w.heap.size w w' → b < w.heap.size → R w b o x → R w' b o x
theorem SlAt.ext {α : Type} {R : World → Nat → Nat → α → Prop} {sz : Nat} {w w' : World} {A : Option Addr} {l : List α} (h : SlAt R sz w A l) (hs : Stable R) (hb : Below w.heap.size w w') : SlAt R sz w' A l := by
  obtain ⟨b, off, h⟩ := h
  refine ⟨b, off, fun i x hx => ?_⟩
  obtain ⟨h1, h2, h3⟩ := h i x hx
  exact ⟨h1, Nat.lt_of_lt_of_le h2 hb.size, hs _ _ _ _ _ hb h2 h3⟩
theorem SlAt.nil {α : Type} {R : World → Nat → Nat → α → Prop} {sz : Nat} {w : World} {A : Option Addr} : SlAt R sz w A [] := ⟨0, 0, fun i x h => by simp at h⟩
theorem SlAt.take {α : Type} {R : World → Nat → Nat → α → Prop} {sz : Nat} {w : World} {A : Option Addr} {l : List α} (h : SlAt R sz w A l) (n : Nat) : SlAt R sz w A (l.take n) := by
  obtain ⟨b, off, h⟩ := h
  refine ⟨b, off, fun i x hx => h i x ?_⟩
  by_cases hi : i < n
  · rwa [List.getElem?_take_of_lt hi] at hx
  · rw [List.getElem?_take_eq_none (by omega)] at hx; cases hx

def cellIs (w : World) (b o : Nat) (v : Value) : Prop := w.cell? ⟨b, o, none⟩ = some v
theorem cellIs.ext {w w' : World} {b o : Nat} {v : Value} (hb : Below w.heap.size w w') (hlt : b < w.heap.size) (h : cellIs w b o v) : cellIs w' b o v := (hb.cell (p := ⟨b, o, none⟩) hlt).trans h

theorem cellIs.now {w w' : World} {b o : Nat} {v : Value} (h : cellIs w b o v) (hb : Below w.heap.size w w') : w'.cell? ⟨b, o, none⟩ = some v :=
  (hb.cell (p := ⟨b, o, none⟩) (World.block_lt_of_cell? w _ h)).trans h
/-- One growth behind another. -/
theorem ext_trans {w a b : World} (h : Below w.heap.size w a) (k : Below a.heap.size a b) : Below w.heap.size w b := h.trans (k.mono h.size)
theorem ext_alloc {w a : World} (h : Below w.heap.size w a) (o : Obj) : Below w.heap.size w (a.alloc o) := h.alloc h.size o

def RInt (w : World) (b o : Nat) (x : Int) : Prop := cellIs w b o (.int .i64 x) ∧ I64 x
def RBool (w : World) (b o : Nat) (x : Bool) : Prop := cellIs w b o (.bool x)
def RIvl (w : World) (b o : Nat) (x : IvlD) : Prop := (cellIs w b o (.int .i64 x.f) ∧ cellIs w b (o + 1) (.int .i64 x.t)) ∧ I64 x.f ∧ I64 x.t
def RHop (w : World) (b o : Nat) (x : HopD) : Prop := (cellIs w b o (.int .i64 x.edge) ∧ cellIs w b (o + 1) (.int .i64 x.depart)) ∧ I64 x.edge ∧ I64 x.depart
def RArc (w : World) (b o : Nat) (x : ArcD) : Prop := (cellIs w b o (.int .i64 x.a) ∧ cellIs w b (o + 1) (.int .i64 x.b) ∧ cellIs w b (o + 2) (.int .i64 x.cost)) ∧ I64 x.a ∧ I64 x.b ∧ I64 x.cost
def RLeg (w : World) (b o : Nat) (x : LegD) : Prop :=
  (cellIs w b o (.int .i64 x.f) ∧ cellIs w b (o + 1) (.int .i64 x.t) ∧ cellIs w b (o + 2) (.int .i64 x.time) ∧ cellIs w b (o + 3) (.int .i64 x.cost)) ∧ I64 x.f ∧ I64 x.t ∧ I64 x.time ∧ I64 x.cost
def REdge (w : World) (b o : Nat) (x : EdgeD) : Prop :=
  (cellIs w b o (.int .i64 x.a) ∧ cellIs w b (o + 1) (.int .i64 x.b) ∧ ∃ A c, cellIs w b (o + 2) (.slice A x.legs.length c) ∧ x.legs.length ≤ c ∧ c ≤ maxLen ∧ SlAt RLeg 4 w A x.legs) ∧ I64 x.a ∧ I64 x.b

theorem RInt.stable : Stable RInt := fun _ _ _ _ _ hb hlt h => ⟨h.1.ext hb hlt, h.2⟩
theorem RBool.stable : Stable RBool := fun _ _ _ _ _ hb hlt h => cellIs.ext hb hlt h
theorem RIvl.stable : Stable RIvl := fun _ _ _ _ _ hb hlt h => ⟨⟨h.1.1.ext hb hlt, h.1.2.ext hb hlt⟩, h.2⟩
theorem RHop.stable : Stable RHop := fun _ _ _ _ _ hb hlt h => ⟨⟨h.1.1.ext hb hlt, h.1.2.ext hb hlt⟩, h.2⟩
theorem RArc.stable : Stable RArc := fun _ _ _ _ _ hb hlt h => ⟨⟨h.1.1.ext hb hlt, h.1.2.1.ext hb hlt, h.1.2.2.ext hb hlt⟩, h.2⟩
theorem RLeg.stable : Stable RLeg := fun _ _ _ _ _ hb hlt h => ⟨⟨h.1.1.ext hb hlt, h.1.2.1.ext hb hlt, h.1.2.2.1.ext hb hlt, h.1.2.2.2.ext hb hlt⟩, h.2⟩
theorem REdge.stable : Stable REdge := fun _ _ _ _ _ hb hlt ⟨⟨h1, h2, A, c, h3, h4, h5, h6⟩, h7⟩ =>
  ⟨⟨h1.ext hb hlt, h2.ext hb hlt, A, c, h3.ext hb hlt, h4, h5, h6.ext RLeg.stable hb⟩, h7⟩

/-- A graph lies in memory: the vertices' lives at A, the edges at A'. -/
structure GraphAt (w : World) (A : Option Addr) (c : Nat) (A' : Option Addr) (c' : Nat) (g : GraphD) : Prop where
  h : I64 g.h
  lc : g.lives.length ≤ c
  cm : c ≤ maxLen
  lc' : g.edges.length ≤ c'
  cm' : c' ≤ maxLen
  lives : SlAt RIvl 2 w A g.lives
  edges : SlAt REdge 3 w A' g.edges
theorem GraphAt.ext {w w' : World} {A A' : Option Addr} {c c' : Nat} {g : GraphD} (h : GraphAt w A c A' c' g) (hb : Below w.heap.size w w') : GraphAt w' A c A' c' g :=
  ⟨h.h, h.lc, h.cm, h.lc', h.cm', h.lives.ext RIvl.stable hb, h.edges.ext REdge.stable hb⟩
structure SnapAt (w : World) (A : Option Addr) (c : Nat) (A' : Option Addr) (c' : Nat) (s : SnapD) : Prop where
  lc : s.alive.length ≤ c
  cm : c ≤ maxLen
  lc' : s.arcs.length ≤ c'
  cm' : c' ≤ maxLen
  alive : SlAt RBool 1 w A s.alive
  arcs : SlAt RArc 3 w A' s.arcs
theorem SnapAt.ext {w w' : World} {A A' : Option Addr} {c c' : Nat} {s : SnapD} (h : SnapAt w A c A' c' s) (hb : Below w.heap.size w w') : SnapAt w' A c A' c' s :=
  ⟨h.lc, h.cm, h.lc', h.cm', h.alive.ext RBool.stable hb, h.arcs.ext RArc.stable hb⟩
abbrev snapV (A : Option Addr) (c : Nat) (A' : Option Addr) (c' : Nat) (s : SnapD) : Value := .agg #[.slice A s.alive.length c, .slice A' s.arcs.length c']
/-- The graph's value. -/
abbrev gV (A : Option Addr) (c : Nat) (A' : Option Addr) (c' : Nat) (g : GraphD) : Value := .agg #[.int .i64 g.h, .slice A g.lives.length c, .slice A' g.edges.length c']
abbrev gC (A : Option Addr) (c : Nat) (A' : Option Addr) (c' : Nat) (g : GraphD) : Array Value := #[.int .i64 g.h, .slice A g.lives.length c, .slice A' g.edges.length c']
abbrev legV (x : LegD) : Value := .agg #[.int .i64 x.f, .int .i64 x.t, .int .i64 x.time, .int .i64 x.cost]
abbrev edgeV (A : Option Addr) (c : Nat) (x : EdgeD) : Value := .agg #[.int .i64 x.a, .int .i64 x.b, .slice A x.legs.length c]
abbrev hopV (x : HopD) : Value := .agg #[.int .i64 x.edge, .int .i64 x.depart]
abbrev iV (n : Int) : Value := .int .i64 n

theorem ret_int {k : IntKind} {a b : Int} (h : a = b) : Ending.returned (.int k a) = .returned (.int k b) := by rw [h]
theorem ret_bool {a b : Bool} (h : a = b) : Ending.returned (.bool a) = .returned (.bool b) := by rw [h]
end Go.Proofs.YtdpibehpmghghaaGreat
/- The frame that all laws of this seat share: a call that returns true and leaves old memory alone meets its row's post. -/
namespace Go.Proofs.YtdpibehpmghghaaGreat
open Go.ChangeShapes Go.WideShapes Go.ChangeAt Go.RowKit

theorem Tryz.own : ownKnob Tryz.prog.godebug = none := by kernel_rfl
theorem Tryz.laidOut : laidOutB Tryz.prog = true := by kernel_rfl

section
variable {H : Type} {enc : TypeId × Value → H}
theorem trodAll_below {W W' : World} (hb : Below W.heap.size W W') : ∀ (ts : List TypeId) (vs : List Value) (ds : List (DataW H)) (ps : List MemPlace),
    (∀ t ∈ ts, Tryz.prog.readableRec t = true ∧ t < Tryz.prog.types.size) → (∀ x ∈ ps, x.block < W.heap.size) →
    DataW.TrodAll enc Tryz.prog W 0 (fun _ => true) true ts vs ds ps → DataW.TrodAll enc Tryz.prog W' 0 (fun b => decide (b < W.heap.size)) true ts vs ds ps
  | [], vs, ds, ps, _, _, h => by
    obtain ⟨rfl, rfl, rfl⟩ := trodAll_nil h
    exact trodAll_mk0
  | t :: ts, vs, ds, ps, hr, hlt, h => by
    obtain ⟨v, vs', d, ds', p, q, rfl, rfl, rfl, h1, h2⟩ := trodAll_cons h
    exact trodAll_cons_mk (Below.trod Tryz.laidOut (hr t (by simp)).1 (hr t (by simp)).2 h1 hb (fun x hx => hlt x (by simp [hx])))
      (trodAll_below hb ts vs' ds' q (fun t ht => hr t (by simp [ht])) (fun x hx => hlt x (by simp [hx])) h2)

theorem law_post {f : Func} {s : ChangeSpec} {W W' : World} {args : Array Value} {ds gs : List (DataW H)} {before : List MemPlace}
    (hW : DataW.Whole enc Tryz.prog f.params.toList s.vars false W args.toList ds gs before) (hb : Below W.heap.size W W')
    (hv : s.vars = []) (hrt : f.resultTypes.toList = [4]) (hrn : f.resultTypes.size = 1)
    (hr : ∀ t ∈ f.params.toList, Tryz.prog.readableRec t = true ∧ t < Tryz.prog.types.size)
    (hs : s.fn H ds = { results := [.lit (.bool true)], args := ds }) :
    s.post enc Tryz.prog f false true false false W args (.bool true) W' := by
  have hW0 := hW
  obtain ⟨p, q, hA, hV, rfl, hfz, hnd⟩ := hW
  rw [hv] at hV
  obtain ⟨rfl, rfl⟩ := trodVars_none hV
  have hlt : ∀ x ∈ p ++ [], x.block < W.heap.size := fun x hx => hW0.lt x hx
  refine ⟨ds, [], p ++ [], [], p, [], hW0, ?_, ?_, ?_, hb.frame _, fun h => by cases h⟩
  · rw [hrt, hrn, List.append_nil, hs]
    exact trodAll_mk1 (shut_bool Tryz.underlying4 true)
  · rw [List.append_nil, hs]
    exact trodAll_below hb _ _ _ _ hr (fun x hx => hlt x (by simp [hx])) hA
  · rw [hv, List.append_nil, hs]
    rfl
end

/-! ### the head of the translation, word by word (the kernel alone needs too much memory for it) -/
theorem wordsSigns_blank (r : List Char) : wordsSigns (Char.ofNat 32 :: r) = [] :: wordsSigns r := rfl
theorem wordsSigns_word : ∀ (p r : List Char), (∀ c ∈ p, c ≠ Char.ofNat 32) → wordsSigns (p ++ Char.ofNat 32 :: r) = p :: wordsSigns r
  | [], r, _ => wordsSigns_blank r
  | c :: p, r, h => by
    have hc : c ≠ Char.ofNat 32 := h c (by simp)
    have ih := wordsSigns_word p r (fun c hc => h c (by simp [hc]))
    have e : wordsSigns (c :: (p ++ Char.ofNat 32 :: r)) = match wordsSigns (p ++ Char.ofNat 32 :: r) with
        | w :: ws => (c :: w) :: ws
        | [] => [[c]] := by
      conv => lhs; unfold wordsSigns
      split
      · rename_i e; simp at e
      · rename_i e; simp at e; exact absurd e.1 hc
      · rename_i e; simp at e; obtain ⟨rfl, rfl⟩ := e; rfl
    rw [List.cons_append, e, ih]
theorem head_is : Tryz.prog.initOrder = String.ofList (([104, 97, 114, 110, 101, 115, 115] : List Nat).map Char.ofNat ++ Char.ofNat 32 ::
    (([100, 97, 54, 55, 102, 99, 49, 53, 49, 54, 52, 53, 98, 50, 97, 101, 50, 100, 54, 56, 48, 100, 97, 50, 97, 98, 52, 54, 57, 51, 99, 55, 99, 56, 48, 57, 100, 57, 51, 49, 102, 102, 49, 97, 54, 48, 50, 98, 54, 53, 55, 54, 49, 49, 49, 102, 53, 48, 54, 52, 101, 53, 51, 55] : List Nat).map Char.ofNat ++ Char.ofNat 32 :: (([99, 117, 116] : List Nat).map Char.ofNat ++ Char.ofNat 32 ::
    ([97, 116, 32, 116, 105, 109, 101, 119, 101, 102, 116, 47, 116, 105, 109, 101, 107, 101, 101, 112, 46, 66, 115, 112, 80, 111, 105, 110, 116, 115, 32, 116, 105, 109, 101, 119, 101, 102, 116, 47, 116, 105, 109, 101, 108, 97, 119, 46, 66, 115, 112, 83, 97, 121, 115, 32, 116, 105, 109, 101, 119, 101, 102, 116, 47, 116, 105, 109, 101, 107, 101, 101, 112, 46, 66, 115, 112, 87, 111, 114, 107, 101, 114, 115, 32, 116, 105, 109, 101, 119, 101, 102, 116, 47, 116, 105, 109, 101, 116, 111, 112, 46, 84, 111, 112, 77, 111, 114, 101, 32, 116, 105, 109, 101, 119, 101, 102, 116, 47, 116, 105, 109, 101, 116, 111, 112, 46, 84, 111, 112, 83, 110, 97, 112, 115] : List Nat).map Char.ofNat))) := by kernel_rfl
theorem head_words : ∃ rest, wordsSigns Tryz.prog.initOrder.toList = ([104, 97, 114, 110, 101, 115, 115] : List Nat).map Char.ofNat :: ([100, 97, 54, 55, 102, 99, 49, 53, 49, 54, 52, 53, 98, 50, 97, 101, 50, 100, 54, 56, 48, 100, 97, 50, 97, 98, 52, 54, 57, 51, 99, 55, 99, 56, 48, 57, 100, 57, 51, 49, 102, 102, 49, 97, 54, 48, 50, 98, 54, 53, 55, 54, 49, 49, 49, 102, 53, 48, 54, 52, 101, 53, 51, 55] : List Nat).map Char.ofNat :: ([99, 117, 116] : List Nat).map Char.ofNat :: rest := by
  rw [head_is, String.toList_ofList, wordsSigns_word _ _ (by decide), wordsSigns_word _ _ (by decide), wordsSigns_word _ _ (by decide)]
  exact ⟨_, rfl⟩
theorem head_behind : ∃ rest, behindMainWord (wordsSigns Tryz.prog.initOrder.toList) = "cut".toList :: rest := by
  obtain ⟨rest, h⟩ := head_words
  refine ⟨rest, ?_⟩
  rw [h]
  have hs : isSumSigns (([100, 97, 54, 55, 102, 99, 49, 53, 49, 54, 52, 53, 98, 50, 97, 101, 50, 100, 54, 56, 48, 100, 97, 50, 97, 98, 52, 54, 57, 51, 99, 55, 99, 56, 48, 57, 100, 57, 51, 49, 102, 102, 49, 97, 54, 48, 50, 98, 54, 53, 55, 54, 49, 49, 49, 102, 53, 48, 54, 52, 101, 53, 51, 55] : List Nat).map Char.ofNat) = true := by kernel_rfl
  have h1 : ([104, 97, 114, 110, 101, 115, 115] : List Nat).map Char.ofNat = "harness".toList := by decide
  have h2 : ([99, 117, 116] : List Nat).map Char.ofNat = "cut".toList := by decide
  rw [h1, h2]
  simp only [behindMainWord, hs]
  simp
theorem strip_cut (rest : List (List Char)) : stripLifts liftWords ("cut".toList :: rest) = ([], "cut".toList :: rest) := by kernel_rfl
theorem lays_not : Tryz.prog.laysLater = false := by kernel_rfl
theorem reflect_not : Tryz.prog.bearsReflect = false := by kernel_rfl
theorem door_fits : Tryz.prog.doorFits [] = true := by kernel_rfl
section
variable {P : Program} {rest : List (List Char)}
theorem may_enter_of (h : behindMainWord (wordsSigns P.initOrder.toList) = "cut".toList :: rest) (h1 : P.laysLater = false) (h2 : P.bearsReflect = false) (h3 : P.doorFits [] = true) : P.mayEnter = true := by
  unfold Program.mayEnter
  rw [h]
  simp only [strip_cut, h1, h2, h3]
  simp
theorem head_lifts_of (h : behindMainWord (wordsSigns P.initOrder.toList) = "cut".toList :: rest) : P.headLifts = [] := by
  unfold Program.headLifts
  rw [h, strip_cut]
  simp
theorem lifts_final_of (h : behindMainWord (wordsSigns P.initOrder.toList) = "cut".toList :: rest) : P.liftsFinal = false := by
  unfold Program.liftsFinal
  rw [h, head_lifts_of h]
  simp
theorem make_of (h : behindMainWord (wordsSigns P.initOrder.toList) = "cut".toList :: rest) : P.make = some .cut := by
  unfold Program.make
  rw [h]
  simp
end
theorem may_enter : Tryz.prog.mayEnter = true := head_behind.elim fun _ h => may_enter_of h lays_not reflect_not door_fits
theorem lifts_final : Tryz.prog.liftsFinal = false := head_behind.elim fun _ h => lifts_final_of h
theorem make_cut : Tryz.prog.make = some .cut := head_behind.elim fun _ h => make_of h

theorem joined_of {P : Program} {f : FuncId} {fn : Func} {s : ChangeSpec} {c : OpenClaim} (h : List.all [c.wf (OpenSpec.ofChange s), laidOutB P, mapsRowed P,
  fn.params.all (P.readableRec ·), namedTie P c.named s.vars, (c.stops == []), (P.stops == []), (c.knobs == []), (P.stopKnobs == [])] id = true)
  (h2 : (c.inPlace == P.inPlace f) = true) (h3 : (c.unfollowed == P.unfollowed f) = true) (h4 : (c.recurses == P.recurses f) = true) (h5 : (c.named == P.varsNamed f) = true)
  (h6 : List.all [(c.maps == (fn.params.toList ++ s.plain.varTypes P).any (P.mapsRec ·)), (c.ifaces == (fn.params.toList ++ s.plain.varTypes P).any (P.ifacesRec ·)), (c.mapsOut == P.mapsAmong fn.resultTypes.toList),
  (c.loops == (fn.params.toList ++ s.plain.varTypes P).any (P.loopsFrom ·)), (c.wideKeys == (fn.params.toList ++ s.plain.varTypes P ++ fn.resultTypes.toList).any (P.wideKeysFrom ·)),
  s.vars.all (P.varReadable ·), fn.resultTypes.all (fun t => P.readableRec t && decide (t < P.types.size)), (c.ifacesOut == fn.resultTypes.toList.any (P.ifacesRec ·)), (c.loopsOut == fn.resultTypes.toList.any (P.loopsFrom ·)),
  (c.plainKeys == P.plainKeys), c.shortTexts.isNone, P.stopsHeard] id = true)
  (h7 : P.mayEnter = true) (h8 : P.liftsFinal = false) (h8' : c.lifted = false) (h9 : P.make = some .cut) (h9' : c.make = .cut)
  (h10 : List.all [(c.kinds == (if c.domain.isEmpty then [] else fn.params.toList.map fun t => match P.underlying t with | some (.int k) => some k | _ => none)), (c.pinned == c.pinnedBy),
  (c.veiled == (fn.params.toList ++ s.plain.varTypes P ++ fn.resultTypes.toList).any (P.veiledRec ·)), c.veiledFits P fn.params.toList (fn.params.toList ++ s.plain.varTypes P ++ fn.resultTypes.toList)] id = true) : joinedFacts P f fn s c = true := by
  simp only [List.all_cons, List.all_nil, id, Bool.and_true, Bool.and_eq_true] at h h6 h10
  obtain ⟨a1, a2, a3, a4, a5, a6, a7, a8, a9⟩ := h
  obtain ⟨b1, b2, b3, b4, b5, b6, b7, b8, b9, b10, b11, b12⟩ := h6
  obtain ⟨c1, c2, c3, c4⟩ := h10
  unfold joinedFacts
  simp only [Bool.and_eq_true]
  exact ⟨⟨⟨⟨⟨⟨⟨⟨⟨⟨⟨⟨⟨⟨⟨⟨⟨⟨⟨⟨⟨⟨⟨⟨⟨⟨⟨⟨⟨⟨⟨a1, a2⟩, a3⟩, a4⟩, a5⟩, a6⟩, a7⟩, a8⟩, a9⟩, h2⟩, h3⟩, h4⟩, h5⟩, b1⟩, b2⟩, b3⟩, b4⟩, b5⟩, b6⟩, b7⟩, b8⟩, b9⟩, b10⟩, b11⟩, b12⟩, h7⟩, by rw [h8, h8']; rfl⟩, by rw [h9, h9']; rfl⟩, c1⟩, c2⟩, c3⟩, c4⟩
end Go.Proofs.YtdpibehpmghghaaGreat
