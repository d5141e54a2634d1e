/- Several texts in one: PairEarly, FastSpec, FastEq, ShelfD, ShelfT, Itoa. -/
import Derived.Shelf.Strings.OnBuilder
import Derived.Shelf.Strings.Prefix
import Derived.Shelf.Strings.Split
import Derived.Shelf.Strings.Count
import Derived.Shelf.Slices.Turned
import Derived.Shelf.Strings.BuilderK
import Derived.Shelf.LaysM
import Derived.Shelf.Strconv.Itoa3
import Derived.Shelf.Strings.Cut
import Derived.Lib.SmallJoins
import Derived.Lib.AppendIntMem
import Derived.Laws.Concat
import Derived.Test.YtjcimdpldlamfaaGreatDoorProg
import Derived.Test.YtjcimdpldlamfaaGreatDoorBd19914bea13
import Derived.Test.YtjcimdpldlamfaaGreatDoorBd063e407aa3
import Derived.Test.YtjcimdpldlamfaaGreatDoorBd002cafd2b4
import Derived.Test.YtjcimdpldlamfaaGreatDoorBd2f7b3eaff4
/- The earliest and the latest times of the pair; no program in sight. -/
namespace Go.Proofs.YtjcimdpldlamfaaGreatDoor

end Go.Proofs.YtjcimdpldlamfaaGreatDoor
/- From which time one comes fastest, as plain Lean; no program in sight. -/
namespace Go.Proofs.YtjcimdpldlamfaaGreatDoor

/-- Of the first k times the one from which one comes fastest: how fast, and which. -/
structure FBest (g : GraphD) (v u k b a : Int) : Prop where
 a0 : 0 ≤ a
 a1 : a < k
 b0 : 0 ≤ b
 b1 : b ≤ 100
 here : ∃ l, EarlyL g v a l ∧ gi l u.toNat = a + b
 least : ∀ t l, 0 ≤ t → t < k → EarlyL g v t l → b ≤ gi l u.toNat - t ∧ (gi l u.toNat - t = b → a ≤ t)
def FNone (g : GraphD) (v u k : Int) : Prop := ∀ t l, 0 ≤ t → t < k → EarlyL g v t l → gi l u.toNat = Never
def FTried (g : GraphD) (v u k b a : Int) : Prop := (b = Never ∧ a = 0 ∧ FNone g v u k) ∨ FBest g v u k b a
section
variable {g : GraphD} {v u k b a x : Int} {l : List Int}
theorem FTried.start : FTried g v u 0 Never 0 := .inl ⟨rfl, rfl, fun t l h0 h1 => by omega⟩
theorem FTried.skip (h : FTried g v u k b a) (hk : 0 ≤ k ∧ k ≤ 100) (hl : EarlyL g v k l) (hx : gi l u.toNat = Never) : FTried g v u (k + 1) b a := by
 rcases h with ⟨h1, h2, h3⟩ | h
 ·refine .inl ⟨h1, h2, fun t r h0 h4 h5 => ?_⟩
  by_cases e : t = k
  ·rw [e] at h5; rw [h5.eq hl]; exact hx
  ·exact h3 t r h0 (by omega) h5
 ·refine .inr ⟨h.a0, by have := h.a1; omega, h.b0, h.b1, h.here, fun t r h0 h4 h5 => ?_⟩
  by_cases e : t = k
  ·rw [e] at h5; rw [h5.eq hl, hx]; have := h.b1; simp only [Never]; omega
  ·exact h.least t r h0 (by omega) h5
theorem FTried.stay (h : FTried g v u k b a) (hk : 0 ≤ k ∧ k ≤ 100) (hl : EarlyL g v k l) (hx : gi l u.toNat = x) (hn : x < Never) (hle : ¬ x - k < b) : FTried g v u (k + 1) b a := by
 rcases h with ⟨h1, h2, h3⟩ | h
 ·omega
 ·refine .inr ⟨h.a0, by have := h.a1; omega, h.b0, h.b1, h.here, fun t r h0 h4 h5 => ?_⟩
  by_cases e : t = k
  ·rw [e] at h5; rw [h5.eq hl, hx]; have := h.a1; omega
  ·exact h.least t r h0 (by omega) h5
theorem FTried.take (hV : Valid g) (h : FTried g v u k b a) (hk : 0 ≤ k ∧ k < g.h) (hv : 0 ≤ v ∧ v < g.lives.length) (hu : 0 ≤ u ∧ u < g.lives.length) (hl : EarlyL g v k l) (hx : gi l u.toNat = x) (hn : x < Never) (hlt : x - k < b) : FTried g v u (k + 1) (x - k) k := by
 have hh := hV.h1
 have hlow := hl.low hV (by omega) (k := u.toNat) (by omega)
 have hH := hl.here hV ⟨hv.1, hv.2, hk.1, hk.2⟩ (k := u.toNat) (by omega) (by rw [hx]; exact hn)
 have hH := hH.2.2.2.1
 rw [hx] at hH hlow
 refine .inr ⟨hk.1, by omega, by omega, by omega, ⟨l, hl, by rw [hx]; omega⟩, fun t r h0 h4 h5 => ?_⟩
 by_cases e : t = k
 ·rw [e] at h5 ⊢; rw [h5.eq hl, hx]; omega
 ·rcases h with ⟨h1, h2, h3⟩ | h
  ·rw [h3 t r h0 (by omega) h5]; simp only [Never]; omega
  ·have := (h.least t r h0 (by omega) h5).1; omega
end
/-- What Fastest tells. -/
inductive FastOk (g : GraphD) (v u : Int) : Int → Int → Int → Prop
 | bad (h : ¬ graphErr g = 0) : FastOk g v u 0 0 (graphErr g)
 | out (h : graphErr g = 0) (h2 : ¬ ((0 ≤ v ∧ v < g.lives.length) ∧ 0 ≤ u ∧ u < g.lives.length)) : FastOk g v u 0 0 4
 | none (h : graphErr g = 0) (hv : 0 ≤ v ∧ v < g.lives.length) (hu : 0 ≤ u ∧ u < g.lives.length) (h2 : FNone g v u g.h) : FastOk g v u 0 0 4
 | some {b a : Int} (h : graphErr g = 0) (hv : 0 ≤ v ∧ v < g.lives.length) (hu : 0 ≤ u ∧ u < g.lives.length) (h2 : FBest g v u g.h b a) : FastOk g v u b a 0
/-! ### the pair -/
end Go.Proofs.YtjcimdpldlamfaaGreatDoor
/- What Fastest tells is one; no program in sight. -/
namespace Go.Proofs.YtjcimdpldlamfaaGreatDoor

theorem FBest.eq {g : GraphD} {v u k b a b' a' : Int} (h : FBest g v u k b a) (h' : FBest g v u k b' a') : b = b' ∧ a = a' := by
 obtain ⟨l, h1, h2⟩ := h.here
 obtain ⟨l', k1, k2⟩ := h'.here
 have p1 := h.least a' l' h'.a0 h'.a1 k1
 have p2 := h'.least a l h.a0 h.a1 h1
 rw [k2] at p1
 rw [h2] at p2
 have e : b = b' := by omega
 refine ⟨e, ?_⟩
 have q1 := p1.2 (by omega)
 have q2 := p2.2 (by omega)
 omega
theorem FBest.none {g : GraphD} {v u k b a : Int} (h : FBest g v u k b a) (hk : k ≤ 100) (h' : FNone g v u k) : False := by
 obtain ⟨l, h1, h2⟩ := h.here
 have := h' a l h.a0 h.a1 h1
 have := h.a1; have := h.b1
 simp only [Never] at *
 omega
theorem FastOk.eq {g : GraphD} {v u d a er d' a' er' : Int} (h : FastOk g v u d a er) (h' : FastOk g v u d' a' er') : d = d' ∧ a = a' ∧ er = er' := by
 cases h with
 | bad h =>
  cases h' with
  | bad _ => exact ⟨rfl, rfl, rfl⟩
  | out h1 _ => exact absurd h1 h
  | none h1 _ _ _ => exact absurd h1 h
  | some h1 _ _ _ => exact absurd h1 h
 | out h h2 =>
  cases h' with
  | bad h1 => exact absurd h h1
  | out _ _ => exact ⟨rfl, rfl, rfl⟩
  | none _ _ _ _ => exact ⟨rfl, rfl, rfl⟩
  | some _ hv hu _ => exact absurd ⟨hv, hu⟩ h2
 | none h hv hu h2 =>
  cases h' with
  | bad h1 => exact absurd h h1
  | out _ _ => exact ⟨rfl, rfl, rfl⟩
  | none _ _ _ _ => exact ⟨rfl, rfl, rfl⟩
  | some _ _ _ hb => exact (hb.none (by have := (valid_of h).h1; omega) h2).elim
 | some h hv hu hb =>
  cases h' with
  | bad h1 => exact absurd h h1
  | out _ h3 => exact absurd ⟨hv, hu⟩ h3
  | none _ _ _ h2 => exact (hb.none (by have := (valid_of h).h1; omega) h2).elim
  | some _ _ _ hb' =>
   obtain ⟨e1, e2⟩ := hb.eq hb'
   exact ⟨e1, e2, rfl⟩
end Go.Proofs.YtjcimdpldlamfaaGreatDoor
/- The library's contracts for the desk (strings.Join, genSplit, TrimSuffix, HasPrefix, Count of one byte, slices.Index of strings), laid by the shelf's tools and turned into marks. -/
namespace Go.Proofs.YtjcimdpldlamfaaGreatDoor
open Go.Proofs Go.Shelf
def Dsk.lays156_ren : Go.Shelf.Ren := ⟨fun | 156 => 44 | 165 => 94 | 166 => 15 | 169 => 17 | 240 => 28 | 241 => 129 | 276 => 43 | 277 => 149 | n => n, fun | 31 => 23 | 9 => 9 | 3 => 3 | 4 => 4 | 0 => 0 | 20 => 20 | 72 => 35 | 76 => 39 | 70 => 32 | 37 => 33 | 75 => 38 | 127 => 59 | 164 => 73 | 5 => 5 | 80 => 42 | n => n, fun | n => n⟩
theorem Dsk.lays156 : Go.Proofs.Lays.n156 Tryz.prog Dsk.lays156_ren := {
 mixed := by kernel_rfl
 f156 := Tryz.func44.trans (congrArg some (by kernel_rfl))
 f165 := Tryz.func94.trans (congrArg some (by kernel_rfl))
 f166 := Tryz.func15.trans (congrArg some (by kernel_rfl))
 f169 := Tryz.func17.trans (congrArg some (by kernel_rfl))
 f240 := Tryz.func28.trans (congrArg some (by kernel_rfl))
 f241 := Tryz.func129.trans (congrArg some (by kernel_rfl))
 f276 := Tryz.func43.trans (congrArg some (by kernel_rfl))
 f277 := Tryz.func149.trans (congrArg some (by kernel_rfl))
 t0 := Tryz.underlying0
 a0 := Tryz.isAgg0
 z0 := Tryz.sizeOf0
 v0 := Tryz.zeroValue0
 t3 := Tryz.underlying3
 a3 := Tryz.isAgg3
 z3 := Tryz.sizeOf3
 v3 := Tryz.zeroValue3
 t4 := Tryz.underlying4
 a4 := Tryz.isAgg4
 z4 := Tryz.sizeOf4
 v4 := Tryz.zeroValue4
 t9 := Tryz.underlying9
 a9 := Tryz.isAgg9
 z9 := Tryz.sizeOf9
 v9 := Tryz.zeroValue9
 t20 := Tryz.underlying20
 a20 := Tryz.isAgg20
 z20 := Tryz.sizeOf20
 v20 := Tryz.zeroValue20
 t31 := Tryz.underlying23
 a31 := Tryz.isAgg23
 z31 := Tryz.sizeOf23
 v31 := Tryz.zeroValue23
 t37 := Tryz.underlying33
 a37 := Tryz.isAgg33
 z37 := Tryz.sizeOf33
 v37 := Tryz.zeroValue33
 t70 := Tryz.underlying32
 a70 := Tryz.isAgg32
 z70 := Tryz.sizeOf32
 v70 := Tryz.zeroValue32
 t72 := Tryz.underlying35
 a72 := Tryz.isAgg35
 z72 := Tryz.sizeOf35
 v72 := Tryz.zeroValue35
 t75 := Tryz.underlying38
 a75 := Tryz.isAgg38
 z75 := Tryz.sizeOf38
 v75 := Tryz.zeroValue38
 t76 := Tryz.underlying39
 a76 := Tryz.isAgg39
 z76 := Tryz.sizeOf39
 v76 := Tryz.zeroValue39
 t127 := Tryz.underlying59
 a127 := Tryz.isAgg59
 z127 := Tryz.sizeOf59
 v127 := Tryz.zeroValue59
 t164 := Tryz.underlying73
 a164 := Tryz.isAgg73
 z164 := Tryz.sizeOf73
 v164 := Tryz.zeroValue73 }
theorem Dsk.Builder_Extra_156 : Builder.Extra Tryz.prog Dsk.lays156_ren := {
 sizeBuilder := by kernel_rfl
 liesBuilder := by kernel_rfl
 t5 := Tryz.underlying5
 a5 := Tryz.isAgg5
 z5 := Tryz.sizeOf5
 v5 := Tryz.zeroValue5
 infoByte := by kernel_rfl
 cellsByte := by kernel_rfl
 sizeByte := by kernel_rfl
 neB5 := by decide }
open Go.RowKit in
theorem Dsk.strings_Join_none (a : Option Addr) (c : Nat) (sep : ByteArray) (w : World) :
  Calls Tryz.prog 44 #[.slice a 0 c, .string sep] w fun e w' => e = .returned (.string ⟨#[]⟩) ∧ w' = w := Any.strings_Join_none Dsk.lays156 Dsk.Builder_Extra_156 a c sep w
open Go.RowKit in
theorem Dsk.strings_Join (bk o c : Nat) (xs : List ByteArray) (sep : ByteArray) (w : World) (hcells : ∀ (j : Nat) x, xs[j]? = some x → w.cell? ⟨bk, o + j, none⟩ = some (.string x)) (hbk : bk < w.heap.size) (hN : xs.length ≤ 140737488355328) (hcap : xs.length ≤ c) (hlen : (Lib.join (xs.map (·.data.toList)) sep.data.toList).length ≤ 140737488355328) :
  Calls Tryz.prog 44 #[.slice (some ⟨bk, o, none⟩) xs.length c, .string sep] w fun e w' => e = .returned (.string ⟨(Lib.join (xs.map (·.data.toList)) sep.data.toList).toArray⟩) ∧ Below w.heap.size w w' := Any.strings_Join Dsk.lays156 Dsk.Builder_Extra_156 bk o c xs sep w hcells hbk hN hcap hlen
def Dsk.lays221_ren : Go.Shelf.Ren := ⟨fun | 221 => 26 | 268 => 41 | 138 => 9 | 143 => 21 | 195 => 19 | 197 => 93 | 218 => 20 | 219 => 35 | 260 => 128 | 217 => 72 | 225 => 73 | 224 => 74 | 267 => 75 | 266 => 117 | 314 => 118 | n => n, fun | 9 => 9 | 3 => 3 | 31 => 23 | 4 => 4 | 0 => 0 | 105 => 121 | 21 => 21 | 5 => 5 | 46 => 92 | 119 => 182 | 139 => 185 | 138 => 184 | 146 => 151 | 51 => 150 | n => n, fun | 1 => 0 | 3 => 1 | 4 => 2 | n => n⟩
theorem Dsk.lays221 : Go.Proofs.Lays.n221 Tryz.prog Dsk.lays221_ren := {
 mixed := by kernel_rfl
 f138 := Tryz.func9.trans (congrArg some (by kernel_rfl))
 f143 := Tryz.func21.trans (congrArg some (by kernel_rfl))
 f195 := Tryz.func19.trans (congrArg some (by kernel_rfl))
 f197 := Tryz.func93.trans (congrArg some (by kernel_rfl))
 f217 := Tryz.func72.trans (congrArg some (by kernel_rfl))
 f218 := Tryz.func20.trans (congrArg some (by kernel_rfl))
 f219 := Tryz.func35.trans (congrArg some (by kernel_rfl))
 f221 := Tryz.func26.trans (congrArg some (by kernel_rfl))
 f224 := Tryz.func74.trans (congrArg some (by kernel_rfl))
 f225 := Tryz.func73.trans (congrArg some (by kernel_rfl))
 f260 := Tryz.func128.trans (congrArg some (by kernel_rfl))
 f266 := Tryz.func117.trans (congrArg some (by kernel_rfl))
 f267 := Tryz.func75.trans (congrArg some (by kernel_rfl))
 f268 := Tryz.func41.trans (congrArg some (by kernel_rfl))
 f314 := Tryz.func118.trans (congrArg some (by kernel_rfl))
 t0 := Tryz.underlying0
 a0 := Tryz.isAgg0
 z0 := Tryz.sizeOf0
 v0 := Tryz.zeroValue0
 t3 := Tryz.underlying3
 a3 := Tryz.isAgg3
 z3 := Tryz.sizeOf3
 v3 := Tryz.zeroValue3
 t4 := Tryz.underlying4
 a4 := Tryz.isAgg4
 z4 := Tryz.sizeOf4
 v4 := Tryz.zeroValue4
 t5 := Tryz.underlying5
 a5 := Tryz.isAgg5
 z5 := Tryz.sizeOf5
 v5 := Tryz.zeroValue5
 t9 := Tryz.underlying9
 a9 := Tryz.isAgg9
 z9 := Tryz.sizeOf9
 v9 := Tryz.zeroValue9
 t21 := Tryz.underlying21
 a21 := Tryz.isAgg21
 z21 := Tryz.sizeOf21
 v21 := Tryz.zeroValue21
 t31 := Tryz.underlying23
 a31 := Tryz.isAgg23
 z31 := Tryz.sizeOf23
 v31 := Tryz.zeroValue23
 t46 := Tryz.underlying92
 a46 := Tryz.isAgg92
 z46 := Tryz.sizeOf92
 v46 := Tryz.zeroValue92
 t51 := Tryz.underlying150
 a51 := Tryz.isAgg150
 z51 := Tryz.sizeOf150
 v51 := Tryz.zeroValue150
 t105 := Tryz.underlying121
 a105 := Tryz.isAgg121
 z105 := Tryz.sizeOf121
 v105 := Tryz.zeroValue121
 t119 := Tryz.underlying182
 a119 := Tryz.isAgg182
 z119 := Tryz.sizeOf182
 t138 := Tryz.underlying184
 a138 := Tryz.isAgg184
 z138 := Tryz.sizeOf184
 v138 := Tryz.zeroValue184
 t139 := Tryz.underlying185
 a139 := Tryz.isAgg185
 z139 := Tryz.sizeOf185
 v139 := Tryz.zeroValue185
 t146 := Tryz.underlying151
 a146 := Tryz.isAgg151
 z146 := Tryz.sizeOf151
 v146 := Tryz.zeroValue151
 g1 := by kernel_rfl
 g3 := by kernel_rfl
 g4 := by kernel_rfl }
open Go.RowKit Go.Lib in
theorem Dsk.strings_genSplit (s sep : ByteArray) (sv : Nat) (n : Int) (N : Nat) (m : Int) (w : World) (hs : s.size < 4294967281) (hm : w.cell? ⟨0, 0, none⟩ = some (.int .i64 m)) (h1 : 1 ≤ sep.size) (hsv : sv ≤ sep.size) (hn0 : n ≠ 0) (hn63 : n ≤ 9223372036854775807) (hN : (N : Int) = min (if n < 0 then (Lib.countB s sep : Int) + 1 else n) ((s.size : Int) + 1)) :
  Calls Tryz.prog 26 #[.string s, .string sep, .int .i64 sv, .int .i64 n] w fun e w' =>
   e = .returned (.slice (some ⟨w.heap.size, 0, none⟩) (Lib.splitB sep sv (N - 1) s).length N) ∧ w' = w.alloc (.cells (Lib.cellsOf (Lib.splitB sep sv (N - 1) s) N) 9) := Any.strings_genSplit Dsk.lays221 (by kernel_rfl) s sep sv n N m w hs hm h1 hsv hn0 hn63 hN
def Dsk.lays102_ren : Go.Shelf.Ren := ⟨fun | 102 => 14 | 209 => 27 | 207 => 42 | n => n, fun | 9 => 9 | 4 => 4 | 3 => 3 | n => n, fun | n => n⟩
theorem Dsk.lays102 : Go.Proofs.Lays.n102 Tryz.prog Dsk.lays102_ren := {
 mixed := by kernel_rfl
 f102 := Tryz.func14.trans (congrArg some (by kernel_rfl))
 f207 := Tryz.func42.trans (congrArg some (by kernel_rfl))
 f209 := Tryz.func27.trans (congrArg some (by kernel_rfl))
 t3 := Tryz.underlying3
 a3 := Tryz.isAgg3
 z3 := Tryz.sizeOf3
 v3 := Tryz.zeroValue3
 t4 := Tryz.underlying4
 a4 := Tryz.isAgg4
 z4 := Tryz.sizeOf4
 v4 := Tryz.zeroValue4
 t9 := Tryz.underlying9
 a9 := Tryz.isAgg9
 z9 := Tryz.sizeOf9
 v9 := Tryz.zeroValue9 }
open Go.RowKit Go.Lib in
theorem Dsk.strings_TrimSuffix (s p : ByteArray) (w : World) (hs : s.size ≤ 9223372036854775807) :
  Calls Tryz.prog 14 #[.string s, .string p] w fun e w' => e = .returned (.string ⟨(Lib.trimSuffix s.data.toList p.data.toList).toArray⟩) ∧ w' = w := Any.strings_TrimSuffix Dsk.lays102 s p w hs
def Dsk.lays99_ren : Go.Shelf.Ren := ⟨fun | 99 => 10 | 206 => 22 | n => n, fun | 9 => 9 | 4 => 4 | 3 => 3 | n => n, fun | n => n⟩
theorem Dsk.lays99 : Go.Proofs.Lays.n99 Tryz.prog Dsk.lays99_ren := {
 mixed := by kernel_rfl
 f99 := Tryz.func10.trans (congrArg some (by kernel_rfl))
 f206 := Tryz.func22.trans (congrArg some (by kernel_rfl))
 t3 := Tryz.underlying3
 a3 := Tryz.isAgg3
 z3 := Tryz.sizeOf3
 v3 := Tryz.zeroValue3
 t4 := Tryz.underlying4
 a4 := Tryz.isAgg4
 z4 := Tryz.sizeOf4
 v4 := Tryz.zeroValue4
 t9 := Tryz.underlying9
 a9 := Tryz.isAgg9
 z9 := Tryz.sizeOf9
 v9 := Tryz.zeroValue9 }
open Go.RowKit Go.Lib in
theorem Dsk.strings_HasPrefix (s p : ByteArray) (w : World) :
  Calls Tryz.prog 10 #[.string s, .string p] w fun e w' => e = .returned (.bool (Lib.hasPrefix s.data.toList p.data.toList)) ∧ w' = w := Any.strings_HasPrefix Dsk.lays99 s p w
def Dsk.lays138_ren : Go.Shelf.Ren := ⟨fun | 138 => 9 | 195 => 19 | 218 => 20 | 143 => 21 | 219 => 35 | 217 => 72 | 225 => 73 | 224 => 74 | 267 => 75 | 266 => 117 | 314 => 118 | n => n, fun | 9 => 9 | 3 => 3 | 4 => 4 | 5 => 5 | 0 => 0 | 46 => 92 | 146 => 151 | 51 => 150 | n => n, fun | 1 => 0 | n => n⟩
theorem Dsk.lays138 : Go.Proofs.Lays.n138 Tryz.prog Dsk.lays138_ren := {
 mixed := by kernel_rfl
 f138 := Tryz.func9.trans (congrArg some (by kernel_rfl))
 f143 := Tryz.func21.trans (congrArg some (by kernel_rfl))
 f195 := Tryz.func19.trans (congrArg some (by kernel_rfl))
 f217 := Tryz.func72.trans (congrArg some (by kernel_rfl))
 f218 := Tryz.func20.trans (congrArg some (by kernel_rfl))
 f219 := Tryz.func35.trans (congrArg some (by kernel_rfl))
 f224 := Tryz.func74.trans (congrArg some (by kernel_rfl))
 f225 := Tryz.func73.trans (congrArg some (by kernel_rfl))
 f266 := Tryz.func117.trans (congrArg some (by kernel_rfl))
 f267 := Tryz.func75.trans (congrArg some (by kernel_rfl))
 f314 := Tryz.func118.trans (congrArg some (by kernel_rfl))
 t0 := Tryz.underlying0
 a0 := Tryz.isAgg0
 z0 := Tryz.sizeOf0
 v0 := Tryz.zeroValue0
 t3 := Tryz.underlying3
 a3 := Tryz.isAgg3
 z3 := Tryz.sizeOf3
 v3 := Tryz.zeroValue3
 t4 := Tryz.underlying4
 a4 := Tryz.isAgg4
 z4 := Tryz.sizeOf4
 v4 := Tryz.zeroValue4
 t5 := Tryz.underlying5
 a5 := Tryz.isAgg5
 z5 := Tryz.sizeOf5
 v5 := Tryz.zeroValue5
 t9 := Tryz.underlying9
 a9 := Tryz.isAgg9
 z9 := Tryz.sizeOf9
 v9 := Tryz.zeroValue9
 t46 := Tryz.underlying92
 a46 := Tryz.isAgg92
 z46 := Tryz.sizeOf92
 v46 := Tryz.zeroValue92
 t51 := Tryz.underlying150
 a51 := Tryz.isAgg150
 z51 := Tryz.sizeOf150
 v51 := Tryz.zeroValue150
 t146 := Tryz.underlying151
 a146 := Tryz.isAgg151
 z146 := Tryz.sizeOf151
 v146 := Tryz.zeroValue151
 g1 := by kernel_rfl }
open Go.RowKit Go.Lib in
theorem Dsk.strings_Count_one (s : ByteArray) (c : UInt8) (w : World) :
  Calls Tryz.prog 9 #[.string s, .string ⟨#[c]⟩] w fun e w' => e = .returned (.int .i64 (Lib.countByte s.data.toList c)) ∧ w' = w := Any.strings_Count_one Dsk.lays138 s c w
end Go.Proofs.YtjcimdpldlamfaaGreatDoor
/- The library's contracts at this dump (strconv.Itoa, strings.Cut, Split, Index, Builder.String), laid by the shelf's tools and turned into marks. -/
namespace Go.Proofs.YtjcimdpldlamfaaGreatDoor
open Go.Proofs Go.Shelf
def Txt.laysM171_ren : Go.Shelf.Ren := ⟨fun | 171 => 36 | 243 => 76 | 246 => 119 | 283 => 144 | 284 => 145 | 285 => 146 | 286 => 147 | 129 => 155 | 317 => 154 | 318 => 156 | 319 => 157 | 320 => 158 | 337 => 161 | 338 => 162 | n => n, fun | 3 => 3 | 9 => 9 | 2 => 2 | 4 => 4 | 171 => 175 | 0 => 0 | 53 => 176 | 37 => 33 | 5 => 5 | 173 => 179 | 212 => 206 | 51 => 150 | 20 => 20 | 213 => 207 | 46 => 92 | 232 => 225 | 233 => 226 | n => n, fun | 17 => 3 | 18 => 4 | 19 => 5 | n => n⟩
theorem Txt.laysM171 : Go.Proofs.LaysM.n171 Tryz.prog Txt.laysM171_ren := {
 mixed := by kernel_rfl
 f129 := Tryz.func155.trans (congrArg some (by kernel_rfl))
 f171 := Tryz.func36.trans (congrArg some (by kernel_rfl))
 f243 := Tryz.func76.trans (congrArg some (by kernel_rfl))
 f246 := Tryz.func119.trans (congrArg some (by kernel_rfl))
 f283 := Tryz.func144.trans (congrArg some (by kernel_rfl))
 f284 := Tryz.func145.trans (congrArg some (by kernel_rfl))
 f285 := Tryz.func146.trans (congrArg some (by kernel_rfl))
 f286 := Tryz.func147.trans (congrArg some (by kernel_rfl))
 f317 := Tryz.func154.trans (congrArg some (by kernel_rfl))
 f318 := Tryz.func156.trans (congrArg some (by kernel_rfl))
 f319 := Tryz.func157.trans (congrArg some (by kernel_rfl))
 f320 := Tryz.func158.trans (congrArg some (by kernel_rfl))
 f337 := Tryz.func161.trans (congrArg some (by kernel_rfl))
 f338 := Tryz.func162.trans (congrArg some (by kernel_rfl))
 t0 := Tryz.underlying0
 a0 := Tryz.isAgg0
 z0 := Tryz.sizeOf0
 v0 := Tryz.zeroValue0
 t2 := Tryz.underlying2
 a2 := Tryz.isAgg2
 z2 := Tryz.sizeOf2
 v2 := Tryz.zeroValue2
 t3 := Tryz.underlying3
 a3 := Tryz.isAgg3
 z3 := Tryz.sizeOf3
 v3 := Tryz.zeroValue3
 t4 := Tryz.underlying4
 a4 := Tryz.isAgg4
 z4 := Tryz.sizeOf4
 v4 := Tryz.zeroValue4
 t5 := Tryz.underlying5
 a5 := Tryz.isAgg5
 z5 := Tryz.sizeOf5
 v5 := Tryz.zeroValue5
 t9 := Tryz.underlying9
 a9 := Tryz.isAgg9
 z9 := Tryz.sizeOf9
 v9 := Tryz.zeroValue9
 t20 := Tryz.underlying20
 a20 := Tryz.isAgg20
 z20 := Tryz.sizeOf20
 v20 := Tryz.zeroValue20
 t37 := Tryz.underlying33
 a37 := Tryz.isAgg33
 z37 := Tryz.sizeOf33
 v37 := Tryz.zeroValue33
 t46 := Tryz.underlying92
 a46 := Tryz.isAgg92
 z46 := Tryz.sizeOf92
 v46 := Tryz.zeroValue92
 t51 := Tryz.underlying150
 a51 := Tryz.isAgg150
 z51 := Tryz.sizeOf150
 v51 := Tryz.zeroValue150
 t53 := Tryz.underlying176
 a53 := Tryz.isAgg176
 z53 := Tryz.sizeOf176
 v53 := Tryz.zeroValue176
 t171 := Tryz.underlying175
 a171 := Tryz.isAgg175
 z171 := Tryz.sizeOf175
 v171 := Tryz.zeroValue175
 t173 := Tryz.underlying179
 a173 := Tryz.isAgg179
 z173 := Tryz.sizeOf179
 v173 := Tryz.zeroValue179
 t212 := Tryz.underlying206
 a212 := Tryz.isAgg206
 z212 := Tryz.sizeOf206
 v212 := Tryz.zeroValue206
 t213 := Tryz.underlying207
 a213 := Tryz.isAgg207
 z213 := Tryz.sizeOf207
 t232 := Tryz.underlying225
 a232 := Tryz.isAgg225
 z232 := Tryz.sizeOf225
 v232 := Tryz.zeroValue225
 t233 := Tryz.underlying226
 a233 := Tryz.isAgg226
 z233 := Tryz.sizeOf226
 v233 := Tryz.zeroValue226
 g17 := by kernel_rfl
 g18 := by kernel_rfl
 g19 := by kernel_rfl
 i0 := by kernel_rfl
 i2 := by kernel_rfl
 i3 := by kernel_rfl
 i4 := by kernel_rfl
 i5 := by kernel_rfl
 i9 := by kernel_rfl
 i20 := by kernel_rfl
 i37 := by kernel_rfl
 i46 := by kernel_rfl
 i51 := by kernel_rfl
 i53 := by kernel_rfl
 i171 := by kernel_rfl
 i173 := by kernel_rfl
 i212 := by kernel_rfl
 i232 := by kernel_rfl
 i233 := by kernel_rfl
 m17 := by kernel_rfl
 m18 := by kernel_rfl
 m19 := by kernel_rfl }
open Go.RowKit Go.Sort Go.Lib in
theorem Txt.strconv_Itoa (n : Int) (h0 : -9223372036854775808 ≤ n) (h1 : n ≤ 9223372036854775807) (w : World) (htab : Lib.TabIs Tryz.prog w "internal/strconv.uint64pow10" .u64 Lib.pow10Tab) :
  Calls Tryz.prog 36 #[.int .i64 n] w fun e w' => e = .returned (.string ⟨(Lib.itoa n).toArray⟩) ∧ ∃ k os, w' = grow (w.drewN k) os := Any.strconv_Itoa Txt.laysM171 n h0 h1 w htab
def Txt.lays145_ren : Go.Shelf.Ren := ⟨fun | 145 => 95 | 220 => 130 | 219 => 35 | 217 => 72 | 225 => 73 | 224 => 74 | 267 => 75 | 266 => 117 | 314 => 118 | n => n, fun | 9 => 9 | 4 => 4 | 59 => 124 | 3 => 3 | 5 => 5 | 46 => 92 | 146 => 151 | 51 => 150 | n => n, fun | 1 => 0 | n => n⟩
theorem Txt.lays145 : Go.Proofs.Lays.n145 Tryz.prog Txt.lays145_ren := {
 mixed := by kernel_rfl
 f145 := Tryz.func95.trans (congrArg some (by kernel_rfl))
 f217 := Tryz.func72.trans (congrArg some (by kernel_rfl))
 f219 := Tryz.func35.trans (congrArg some (by kernel_rfl))
 f220 := Tryz.func130.trans (congrArg some (by kernel_rfl))
 f224 := Tryz.func74.trans (congrArg some (by kernel_rfl))
 f225 := Tryz.func73.trans (congrArg some (by kernel_rfl))
 f266 := Tryz.func117.trans (congrArg some (by kernel_rfl))
 f267 := Tryz.func75.trans (congrArg some (by kernel_rfl))
 f314 := Tryz.func118.trans (congrArg some (by kernel_rfl))
 t3 := Tryz.underlying3
 a3 := Tryz.isAgg3
 z3 := Tryz.sizeOf3
 v3 := Tryz.zeroValue3
 t4 := Tryz.underlying4
 a4 := Tryz.isAgg4
 z4 := Tryz.sizeOf4
 v4 := Tryz.zeroValue4
 t5 := Tryz.underlying5
 a5 := Tryz.isAgg5
 z5 := Tryz.sizeOf5
 v5 := Tryz.zeroValue5
 t9 := Tryz.underlying9
 a9 := Tryz.isAgg9
 z9 := Tryz.sizeOf9
 v9 := Tryz.zeroValue9
 t46 := Tryz.underlying92
 a46 := Tryz.isAgg92
 z46 := Tryz.sizeOf92
 v46 := Tryz.zeroValue92
 t51 := Tryz.underlying150
 a51 := Tryz.isAgg150
 z51 := Tryz.sizeOf150
 v51 := Tryz.zeroValue150
 t59 := Tryz.underlying124
 a59 := Tryz.isAgg124
 z59 := Tryz.sizeOf124
 v59 := Tryz.zeroValue124
 t146 := Tryz.underlying151
 a146 := Tryz.isAgg151
 z146 := Tryz.sizeOf151
 v146 := Tryz.zeroValue151
 g1 := by kernel_rfl }
open Go.RowKit Go.Lib in
theorem Txt.strings_Cut (s sep : ByteArray) (m : Int) (w : World) (hs : s.size < 4294967281) (hm : w.cell? ⟨0, 0, none⟩ = some (.int .i64 m)) :
  Calls Tryz.prog 95 #[.string s, .string sep] w fun e w' => e = .returned (.tuple #[.string ⟨(Lib.cut s.data.toList sep.data.toList).1.toArray⟩, .string ⟨(Lib.cut s.data.toList sep.data.toList).2.1.toArray⟩, .bool (Lib.cut s.data.toList sep.data.toList).2.2]) ∧ ∃ n, w' = w.drewN n := Any.strings_Cut Txt.lays145 s sep m w hs hm
def Txt.lays146_ren : Go.Shelf.Ren := ⟨fun | 146 => 13 | 221 => 26 | 268 => 41 | 138 => 9 | 143 => 21 | 195 => 19 | 197 => 93 | 218 => 20 | 219 => 35 | 260 => 128 | 217 => 72 | 225 => 73 | 224 => 74 | 267 => 75 | 266 => 117 | 314 => 118 | n => n, fun | 9 => 9 | 31 => 23 | 3 => 3 | 4 => 4 | 0 => 0 | 105 => 121 | 21 => 21 | 5 => 5 | 46 => 92 | 119 => 182 | 139 => 185 | 138 => 184 | 146 => 151 | 51 => 150 | n => n, fun | 1 => 0 | 3 => 1 | 4 => 2 | n => n⟩
theorem Txt.lays146 : Go.Proofs.Lays.n146 Tryz.prog Txt.lays146_ren := {
 mixed := by kernel_rfl
 f138 := Tryz.func9.trans (congrArg some (by kernel_rfl))
 f143 := Tryz.func21.trans (congrArg some (by kernel_rfl))
 f146 := Tryz.func13.trans (congrArg some (by kernel_rfl))
 f195 := Tryz.func19.trans (congrArg some (by kernel_rfl))
 f197 := Tryz.func93.trans (congrArg some (by kernel_rfl))
 f217 := Tryz.func72.trans (congrArg some (by kernel_rfl))
 f218 := Tryz.func20.trans (congrArg some (by kernel_rfl))
 f219 := Tryz.func35.trans (congrArg some (by kernel_rfl))
 f221 := Tryz.func26.trans (congrArg some (by kernel_rfl))
 f224 := Tryz.func74.trans (congrArg some (by kernel_rfl))
 f225 := Tryz.func73.trans (congrArg some (by kernel_rfl))
 f260 := Tryz.func128.trans (congrArg some (by kernel_rfl))
 f266 := Tryz.func117.trans (congrArg some (by kernel_rfl))
 f267 := Tryz.func75.trans (congrArg some (by kernel_rfl))
 f268 := Tryz.func41.trans (congrArg some (by kernel_rfl))
 f314 := Tryz.func118.trans (congrArg some (by kernel_rfl))
 t0 := Tryz.underlying0
 a0 := Tryz.isAgg0
 z0 := Tryz.sizeOf0
 v0 := Tryz.zeroValue0
 t3 := Tryz.underlying3
 a3 := Tryz.isAgg3
 z3 := Tryz.sizeOf3
 v3 := Tryz.zeroValue3
 t4 := Tryz.underlying4
 a4 := Tryz.isAgg4
 z4 := Tryz.sizeOf4
 v4 := Tryz.zeroValue4
 t5 := Tryz.underlying5
 a5 := Tryz.isAgg5
 z5 := Tryz.sizeOf5
 v5 := Tryz.zeroValue5
 t9 := Tryz.underlying9
 a9 := Tryz.isAgg9
 z9 := Tryz.sizeOf9
 v9 := Tryz.zeroValue9
 t21 := Tryz.underlying21
 a21 := Tryz.isAgg21
 z21 := Tryz.sizeOf21
 v21 := Tryz.zeroValue21
 t31 := Tryz.underlying23
 a31 := Tryz.isAgg23
 z31 := Tryz.sizeOf23
 v31 := Tryz.zeroValue23
 t46 := Tryz.underlying92
 a46 := Tryz.isAgg92
 z46 := Tryz.sizeOf92
 v46 := Tryz.zeroValue92
 t51 := Tryz.underlying150
 a51 := Tryz.isAgg150
 z51 := Tryz.sizeOf150
 v51 := Tryz.zeroValue150
 t105 := Tryz.underlying121
 a105 := Tryz.isAgg121
 z105 := Tryz.sizeOf121
 v105 := Tryz.zeroValue121
 t119 := Tryz.underlying182
 a119 := Tryz.isAgg182
 z119 := Tryz.sizeOf182
 t138 := Tryz.underlying184
 a138 := Tryz.isAgg184
 z138 := Tryz.sizeOf184
 v138 := Tryz.zeroValue184
 t139 := Tryz.underlying185
 a139 := Tryz.isAgg185
 z139 := Tryz.sizeOf185
 v139 := Tryz.zeroValue185
 t146 := Tryz.underlying151
 a146 := Tryz.isAgg151
 z146 := Tryz.sizeOf151
 v146 := Tryz.zeroValue151
 g1 := by kernel_rfl
 g3 := by kernel_rfl
 g4 := by kernel_rfl }
open Go.RowKit Go.Lib in
theorem Txt.strings_Split (s sep : ByteArray) (m : Int) (w : World) (hs : s.size < 4294967281) (hm : w.cell? ⟨0, 0, none⟩ = some (.int .i64 m)) (h1 : 1 ≤ sep.size) :
  Calls Tryz.prog 13 #[.string s, .string sep] w fun e w' =>
   e = .returned (.slice (some ⟨w.heap.size, 0, none⟩) (Lib.countB s sep + 1) (Lib.countB s sep + 1)) ∧ w' = w.alloc (.cells ((Lib.splitB sep 0 (Lib.countB s sep) s).map Value.string).toArray 9) := Any.strings_Split Txt.lays146 (by kernel_rfl) s sep m w hs hm h1
def Txt.lays169_ren : Go.Shelf.Ren := ⟨fun | 169 => 17 | n => n, fun | 70 => 32 | 9 => 9 | 0 => 0 | 72 => 35 | 37 => 33 | 127 => 59 | 3 => 3 | 5 => 5 | n => n, fun | n => n⟩
theorem Txt.lays169 : Go.Proofs.Lays.n169 Tryz.prog Txt.lays169_ren := {
 mixed := by kernel_rfl
 f169 := Tryz.func17.trans (congrArg some (by kernel_rfl))
 t0 := Tryz.underlying0
 a0 := Tryz.isAgg0
 z0 := Tryz.sizeOf0
 v0 := Tryz.zeroValue0
 t3 := Tryz.underlying3
 a3 := Tryz.isAgg3
 z3 := Tryz.sizeOf3
 v3 := Tryz.zeroValue3
 t9 := Tryz.underlying9
 a9 := Tryz.isAgg9
 z9 := Tryz.sizeOf9
 v9 := Tryz.zeroValue9
 t37 := Tryz.underlying33
 a37 := Tryz.isAgg33
 z37 := Tryz.sizeOf33
 v37 := Tryz.zeroValue33
 t70 := Tryz.underlying32
 a70 := Tryz.isAgg32
 z70 := Tryz.sizeOf32
 v70 := Tryz.zeroValue32
 t72 := Tryz.underlying35
 a72 := Tryz.isAgg35
 z72 := Tryz.sizeOf35
 v72 := Tryz.zeroValue35
 t127 := Tryz.underlying59
 a127 := Tryz.isAgg59
 z127 := Tryz.sizeOf59
 v127 := Tryz.zeroValue59 }
theorem Txt.Builder_Extra_169 : Builder.Extra Tryz.prog Txt.lays169_ren := {
 sizeBuilder := by kernel_rfl
 liesBuilder := by kernel_rfl
 t5 := Tryz.underlying5
 a5 := Tryz.isAgg5
 z5 := Tryz.sizeOf5
 v5 := Tryz.zeroValue5
 infoByte := by kernel_rfl
 cellsByte := by kernel_rfl
 sizeByte := by kernel_rfl
 neB5 := by decide }
open Go.RowKit in
theorem Txt.Builder_String_any_k (B b : Nat) (l : List UInt8) (w : World) (h : Lib.IsBuilderF 35 5 B b (Lib.byteCells l) w) (hBw : B ≤ w.heap.size) :
  Calls Tryz.prog 17 #[.pointer (some ⟨b, 0, none⟩)] w fun e w' => e = .returned (.string ⟨l.toArray⟩) ∧ (Lib.IsBuilderF 35 5 B b (Lib.byteCells l) w' ∧ Below B w w' ∧ Lib.OthersKept 5 (some b) w w') := Any.Builder_String_any_k Txt.lays169 Txt.Builder_Extra_169 B b l w h hBw
end Go.Proofs.YtjcimdpldlamfaaGreatDoor
/- strconv.Itoa at this dump, its table carried along; texts as lists of bytes. -/
namespace Go.Proofs.YtjcimdpldlamfaaGreatDoor
open Go.RowKit Go.Shelf

/-- The table that Itoa reads is laid. -/
def ITab (w : World) : Prop := Lib.TabIs Tryz.prog w "internal/strconv.uint64pow10" .u64 Lib.pow10Tab
theorem tab_named : ∃ g, Tryz.prog.globalNamed "internal/strconv.uint64pow10" = some g := ⟨3, by kernel_rfl⟩
theorem ITab.ext {w w' : World} (h : ITab w) (hb : Below w.heap.size w w') : ITab w' := by
 obtain ⟨g, hg⟩ := tab_named
 exact Go.Joins.tab_stays hg h hb (Nat.le_refl _)
/-- A string by its bytes. -/
abbrev bs (l : List UInt8) : ByteArray := ⟨l.toArray⟩
theorem bs_add (a b : List UInt8) : bs a ++ bs b = bs (a ++ b) := by unfold bs; rw [ByteArray.mk_append_mk]
theorem itoa_any (n : Int) (hn : I64 n) (w : World) (ht : ITab w) : Calls Tryz.prog 36 #[.int .i64 n] w fun e w' => e = .returned (.string (bs (Lib.itoa n))) ∧ Below w.heap.size w w' :=
 (Txt.strconv_Itoa n hn.1 hn.2 w ht).mono fun e w' ⟨h1, k, os, h2⟩ => ⟨h1, by rw [h2]; exact Lib.below_grow _ w (Nat.le_refl _) k os⟩
end Go.Proofs.YtjcimdpldlamfaaGreatDoor
