/- Several texts in one: IvlHas, ShelfT, Digits, Itoa, WarpKey, EqualB. -/
import Derived.Shelf.Abstract
import Derived.Shelf.GgClosure.Gives
import Derived.Shelf.Strings.BuilderK
import Derived.Shelf.LaysM
import Derived.Shelf.Strconv.Itoa3
import Derived.Shelf.Strings.Cut
import Derived.Shelf.Strings.Split
import Derived.Lib.ItoaNum
import Derived.Lib.ItoaMem
import Derived.Lib.SmallJoins
import Derived.Lib.AppendIntMem
import Derived.Laws.Concat
import Derived.Laws.StructEq
import Derived.Test.YtdpibehpmghghaaDoorProg
import Derived.Test.YtdpibehpmghghaaDoorBd115e77040e
import Derived.Test.YtdpibehpmghghaaDoorBdf0a653a3c9
import Derived.Test.YtdpibehpmghghaaDoorBd3ad2f3bfb1
import Derived.Test.YtdpibehpmghghaaDoorBd6508cabd72
import Derived.Test.YtdpibehpmghghaaDoorBd116ff3bb84
/- The walks of what holds of one of some intervals; of the time that is in them. -/
namespace Go.Proofs.YtdpibehpmghghaaDoor
open Go.RowKit Go.Shelf

/-- What is asked of a predicate: in every world in which all that lay in w lies there still, it answers p and leaves such a world. -/
def PredB (fn : Nat) (lb : Array Value) (p : IvlD → Bool) (w : World) : Prop :=
  ∀ (W : World) (x : IvlD), Below w.heap.size w W → Calls Tryd.prog fn (#[ivlV x] ++ lb) W fun e w' => e = .returned (.bool (p x)) ∧ Below W.heap.size W w'
/-- The first one, or none. -/
def FirstIs (p : IvlD → Bool) (l : List IvlD) (r : Int) : Prop :=
  (r = -1 ∧ ∀ x, x ∈ l → p x = false) ∨ ∃ (k : Nat) (x : IvlD), r = k ∧ l[k]? = some x ∧ p x = true ∧ ∀ y, y ∈ l.take k → p y = false
theorem FirstIs.any {p : IvlD → Bool} {l : List IvlD} {r : Int} (h : FirstIs p l r) : decide (r ≥ 0) = l.any p := by
  rw [Bool.eq_iff_iff, List.any_eq_true, decide_eq_true_iff]
  rcases h with ⟨rfl, h⟩ | ⟨k, x, rfl, hx, hp, _⟩
  · exact ⟨fun h1 => by omega, fun ⟨x, hx, hp⟩ => by rw [h x hx] at hp; simp at hp⟩
  · exact ⟨fun _ => ⟨x, List.mem_of_getElem? hx, hp⟩, fun _ => by omega⟩

end Go.Proofs.YtdpibehpmghghaaDoor
/- The library's contracts at this dump (strconv.Itoa, strings.Cut, Split, Index, Builder.String), laid by the shelf's tools and turned into marks. -/
namespace Go.Proofs.YtdpibehpmghghaaDoor
open Go.Proofs Go.Shelf
def Txt.laysM171_ren : Go.Shelf.Ren := ⟨fun | 171 => 71 | 243 => 92 | 246 => 106 | 283 => 126 | 284 => 127 | 285 => 128 | 286 => 129 | 129 => 125 | 317 => 139 | 318 => 140 | 319 => 141 | 320 => 142 | 337 => 144 | 338 => 145 | n => n, fun | 3 => 3 | 9 => 9 | 2 => 2 | 4 => 4 | 171 => 193 | 0 => 0 | 53 => 192 | 37 => 79 | 5 => 5 | 173 => 195 | 212 => 206 | 51 => 190 | 20 => 20 | 213 => 207 | 46 => 166 | 232 => 214 | 233 => 215 | n => n, fun | 17 => 1 | 18 => 4 | 19 => 5 | n => n⟩
theorem Txt.laysM171 : Go.Proofs.LaysM.n171 Tryd.prog Txt.laysM171_ren := {
  mixed := by kernel_rfl
  f129 := Tryd.func125.trans (congrArg some (by kernel_rfl))
  f171 := Tryd.func71.trans (congrArg some (by kernel_rfl))
  f243 := Tryd.func92.trans (congrArg some (by kernel_rfl))
  f246 := Tryd.func106.trans (congrArg some (by kernel_rfl))
  f283 := Tryd.func126.trans (congrArg some (by kernel_rfl))
  f284 := Tryd.func127.trans (congrArg some (by kernel_rfl))
  f285 := Tryd.func128.trans (congrArg some (by kernel_rfl))
  f286 := Tryd.func129.trans (congrArg some (by kernel_rfl))
  f317 := Tryd.func139.trans (congrArg some (by kernel_rfl))
  f318 := Tryd.func140.trans (congrArg some (by kernel_rfl))
  f319 := Tryd.func141.trans (congrArg some (by kernel_rfl))
  f320 := Tryd.func142.trans (congrArg some (by kernel_rfl))
  f337 := Tryd.func144.trans (congrArg some (by kernel_rfl))
  f338 := Tryd.func145.trans (congrArg some (by kernel_rfl))
  t0 := Tryd.underlying0
  a0 := Tryd.isAgg0
  z0 := Tryd.sizeOf0
  v0 := Tryd.zeroValue0
  t2 := Tryd.underlying2
  a2 := Tryd.isAgg2
  z2 := Tryd.sizeOf2
  v2 := Tryd.zeroValue2
  t3 := Tryd.underlying3
  a3 := Tryd.isAgg3
  z3 := Tryd.sizeOf3
  v3 := Tryd.zeroValue3
  t4 := Tryd.underlying4
  a4 := Tryd.isAgg4
  z4 := Tryd.sizeOf4
  v4 := Tryd.zeroValue4
  t5 := Tryd.underlying5
  a5 := Tryd.isAgg5
  z5 := Tryd.sizeOf5
  v5 := Tryd.zeroValue5
  t9 := Tryd.underlying9
  a9 := Tryd.isAgg9
  z9 := Tryd.sizeOf9
  v9 := Tryd.zeroValue9
  t20 := Tryd.underlying20
  a20 := Tryd.isAgg20
  z20 := Tryd.sizeOf20
  v20 := Tryd.zeroValue20
  t37 := Tryd.underlying79
  a37 := Tryd.isAgg79
  z37 := Tryd.sizeOf79
  v37 := Tryd.zeroValue79
  t46 := Tryd.underlying166
  a46 := Tryd.isAgg166
  z46 := Tryd.sizeOf166
  v46 := Tryd.zeroValue166
  t51 := Tryd.underlying190
  a51 := Tryd.isAgg190
  z51 := Tryd.sizeOf190
  v51 := Tryd.zeroValue190
  t53 := Tryd.underlying192
  a53 := Tryd.isAgg192
  z53 := Tryd.sizeOf192
  v53 := Tryd.zeroValue192
  t171 := Tryd.underlying193
  a171 := Tryd.isAgg193
  z171 := Tryd.sizeOf193
  v171 := Tryd.zeroValue193
  t173 := Tryd.underlying195
  a173 := Tryd.isAgg195
  z173 := Tryd.sizeOf195
  v173 := Tryd.zeroValue195
  t212 := Tryd.underlying206
  a212 := Tryd.isAgg206
  z212 := Tryd.sizeOf206
  v212 := Tryd.zeroValue206
  t213 := Tryd.underlying207
  a213 := Tryd.isAgg207
  z213 := Tryd.sizeOf207
  t232 := Tryd.underlying214
  a232 := Tryd.isAgg214
  z232 := Tryd.sizeOf214
  v232 := Tryd.zeroValue214
  t233 := Tryd.underlying215
  a233 := Tryd.isAgg215
  z233 := Tryd.sizeOf215
  v233 := Tryd.zeroValue215
  g17 := by kernel_rfl
  g18 := by kernel_rfl
  g19 := by kernel_rfl
  i0 := by kernel_rfl
  i2 := by kernel_rfl
  i3 := by kernel_rfl
  i4 := by kernel_rfl
  i5 := by kernel_rfl
  i9 := by kernel_rfl
  i20 := by kernel_rfl
  i37 := by kernel_rfl
  i46 := by kernel_rfl
  i51 := by kernel_rfl
  i53 := by kernel_rfl
  i171 := by kernel_rfl
  i173 := by kernel_rfl
  i212 := by kernel_rfl
  i232 := by kernel_rfl
  i233 := by kernel_rfl
  m17 := by kernel_rfl
  m18 := by kernel_rfl
  m19 := by kernel_rfl }
open Go.RowKit Go.Sort Go.Lib in
theorem Txt.strconv_Itoa (n : Int) (h0 : -9223372036854775808 ≤ n) (h1 : n ≤ 9223372036854775807) (w : World) (htab : Lib.TabIs Tryd.prog w "internal/strconv.uint64pow10" .u64 Lib.pow10Tab) :
    Calls Tryd.prog 71 #[.int .i64 n] w fun e w' => e = .returned (.string ⟨(Lib.itoa n).toArray⟩) ∧ ∃ k os, w' = grow (w.drewN k) os := Any.strconv_Itoa Txt.laysM171 n h0 h1 w htab
def Txt.lays145_ren : Go.Shelf.Ren := ⟨fun | 145 => 41 | 220 => 74 | 219 => 94 | 217 => 107 | 225 => 108 | 224 => 109 | 267 => 110 | 266 => 130 | 314 => 131 | n => n, fun | 9 => 9 | 4 => 4 | 59 => 90 | 3 => 3 | 5 => 5 | 46 => 166 | 146 => 197 | 51 => 190 | n => n, fun | 1 => 0 | n => n⟩
theorem Txt.lays145 : Go.Proofs.Lays.n145 Tryd.prog Txt.lays145_ren := {
  mixed := by kernel_rfl
  f145 := Tryd.func41.trans (congrArg some (by kernel_rfl))
  f217 := Tryd.func107.trans (congrArg some (by kernel_rfl))
  f219 := Tryd.func94.trans (congrArg some (by kernel_rfl))
  f220 := Tryd.func74.trans (congrArg some (by kernel_rfl))
  f224 := Tryd.func109.trans (congrArg some (by kernel_rfl))
  f225 := Tryd.func108.trans (congrArg some (by kernel_rfl))
  f266 := Tryd.func130.trans (congrArg some (by kernel_rfl))
  f267 := Tryd.func110.trans (congrArg some (by kernel_rfl))
  f314 := Tryd.func131.trans (congrArg some (by kernel_rfl))
  t3 := Tryd.underlying3
  a3 := Tryd.isAgg3
  z3 := Tryd.sizeOf3
  v3 := Tryd.zeroValue3
  t4 := Tryd.underlying4
  a4 := Tryd.isAgg4
  z4 := Tryd.sizeOf4
  v4 := Tryd.zeroValue4
  t5 := Tryd.underlying5
  a5 := Tryd.isAgg5
  z5 := Tryd.sizeOf5
  v5 := Tryd.zeroValue5
  t9 := Tryd.underlying9
  a9 := Tryd.isAgg9
  z9 := Tryd.sizeOf9
  v9 := Tryd.zeroValue9
  t46 := Tryd.underlying166
  a46 := Tryd.isAgg166
  z46 := Tryd.sizeOf166
  v46 := Tryd.zeroValue166
  t51 := Tryd.underlying190
  a51 := Tryd.isAgg190
  z51 := Tryd.sizeOf190
  v51 := Tryd.zeroValue190
  t59 := Tryd.underlying90
  a59 := Tryd.isAgg90
  z59 := Tryd.sizeOf90
  v59 := Tryd.zeroValue90
  t146 := Tryd.underlying197
  a146 := Tryd.isAgg197
  z146 := Tryd.sizeOf197
  v146 := Tryd.zeroValue197
  g1 := by kernel_rfl }
open Go.RowKit Go.Lib in
theorem Txt.strings_Cut (s sep : ByteArray) (m : Int) (w : World) (hs : s.size < 4294967281) (hm : w.cell? ⟨0, 0, none⟩ = some (.int .i64 m)) :
    Calls Tryd.prog 41 #[.string s, .string sep] w fun e w' => e = .returned (.tuple #[.string ⟨(Lib.cut s.data.toList sep.data.toList).1.toArray⟩, .string ⟨(Lib.cut s.data.toList sep.data.toList).2.1.toArray⟩, .bool (Lib.cut s.data.toList sep.data.toList).2.2]) ∧ ∃ n, w' = w.drewN n := Any.strings_Cut Txt.lays145 s sep m w hs hm
def Txt.lays146_ren : Go.Shelf.Ren := ⟨fun | 146 => 43 | 221 => 76 | 268 => 96 | 138 => 97 | 143 => 98 | 195 => 111 | 197 => 112 | 218 => 113 | 219 => 94 | 260 => 132 | 217 => 107 | 225 => 108 | 224 => 109 | 267 => 110 | 266 => 130 | 314 => 131 | n => n, fun | 9 => 9 | 31 => 94 | 3 => 3 | 4 => 4 | 0 => 0 | 105 => 170 | 21 => 21 | 5 => 5 | 46 => 166 | 119 => 208 | 139 => 211 | 138 => 210 | 146 => 197 | 51 => 190 | n => n, fun | 1 => 0 | 3 => 2 | 4 => 3 | n => n⟩
theorem Txt.lays146 : Go.Proofs.Lays.n146 Tryd.prog Txt.lays146_ren := {
  mixed := by kernel_rfl
  f138 := Tryd.func97.trans (congrArg some (by kernel_rfl))
  f143 := Tryd.func98.trans (congrArg some (by kernel_rfl))
  f146 := Tryd.func43.trans (congrArg some (by kernel_rfl))
  f195 := Tryd.func111.trans (congrArg some (by kernel_rfl))
  f197 := Tryd.func112.trans (congrArg some (by kernel_rfl))
  f217 := Tryd.func107.trans (congrArg some (by kernel_rfl))
  f218 := Tryd.func113.trans (congrArg some (by kernel_rfl))
  f219 := Tryd.func94.trans (congrArg some (by kernel_rfl))
  f221 := Tryd.func76.trans (congrArg some (by kernel_rfl))
  f224 := Tryd.func109.trans (congrArg some (by kernel_rfl))
  f225 := Tryd.func108.trans (congrArg some (by kernel_rfl))
  f260 := Tryd.func132.trans (congrArg some (by kernel_rfl))
  f266 := Tryd.func130.trans (congrArg some (by kernel_rfl))
  f267 := Tryd.func110.trans (congrArg some (by kernel_rfl))
  f268 := Tryd.func96.trans (congrArg some (by kernel_rfl))
  f314 := Tryd.func131.trans (congrArg some (by kernel_rfl))
  t0 := Tryd.underlying0
  a0 := Tryd.isAgg0
  z0 := Tryd.sizeOf0
  v0 := Tryd.zeroValue0
  t3 := Tryd.underlying3
  a3 := Tryd.isAgg3
  z3 := Tryd.sizeOf3
  v3 := Tryd.zeroValue3
  t4 := Tryd.underlying4
  a4 := Tryd.isAgg4
  z4 := Tryd.sizeOf4
  v4 := Tryd.zeroValue4
  t5 := Tryd.underlying5
  a5 := Tryd.isAgg5
  z5 := Tryd.sizeOf5
  v5 := Tryd.zeroValue5
  t9 := Tryd.underlying9
  a9 := Tryd.isAgg9
  z9 := Tryd.sizeOf9
  v9 := Tryd.zeroValue9
  t21 := Tryd.underlying21
  a21 := Tryd.isAgg21
  z21 := Tryd.sizeOf21
  v21 := Tryd.zeroValue21
  t31 := Tryd.underlying94
  a31 := Tryd.isAgg94
  z31 := Tryd.sizeOf94
  v31 := Tryd.zeroValue94
  t46 := Tryd.underlying166
  a46 := Tryd.isAgg166
  z46 := Tryd.sizeOf166
  v46 := Tryd.zeroValue166
  t51 := Tryd.underlying190
  a51 := Tryd.isAgg190
  z51 := Tryd.sizeOf190
  v51 := Tryd.zeroValue190
  t105 := Tryd.underlying170
  a105 := Tryd.isAgg170
  z105 := Tryd.sizeOf170
  v105 := Tryd.zeroValue170
  t119 := Tryd.underlying208
  a119 := Tryd.isAgg208
  z119 := Tryd.sizeOf208
  t138 := Tryd.underlying210
  a138 := Tryd.isAgg210
  z138 := Tryd.sizeOf210
  v138 := Tryd.zeroValue210
  t139 := Tryd.underlying211
  a139 := Tryd.isAgg211
  z139 := Tryd.sizeOf211
  v139 := Tryd.zeroValue211
  t146 := Tryd.underlying197
  a146 := Tryd.isAgg197
  z146 := Tryd.sizeOf197
  v146 := Tryd.zeroValue197
  g1 := by kernel_rfl
  g3 := by kernel_rfl
  g4 := by kernel_rfl }
open Go.RowKit Go.Lib in
theorem Txt.strings_Split (s sep : ByteArray) (m : Int) (w : World) (hs : s.size < 4294967281) (hm : w.cell? ⟨0, 0, none⟩ = some (.int .i64 m)) (h1 : 1 ≤ sep.size) :
    Calls Tryd.prog 43 #[.string s, .string sep] w fun e w' =>
      e = .returned (.slice (some ⟨w.heap.size, 0, none⟩) (Lib.countB s sep + 1) (Lib.countB s sep + 1)) ∧ w' = w.alloc (.cells ((Lib.splitB sep 0 (Lib.countB s sep) s).map Value.string).toArray 9) := Any.strings_Split Txt.lays146 (by kernel_rfl) s sep m w hs hm h1
def Txt.lays169_ren : Go.Shelf.Ren := ⟨fun | 169 => 34 | n => n, fun | 70 => 78 | 9 => 9 | 0 => 0 | 72 => 81 | 37 => 79 | 127 => 133 | 3 => 3 | 5 => 5 | n => n, fun | n => n⟩
theorem Txt.lays169 : Go.Proofs.Lays.n169 Tryd.prog Txt.lays169_ren := {
  mixed := by kernel_rfl
  f169 := Tryd.func34.trans (congrArg some (by kernel_rfl))
  t0 := Tryd.underlying0
  a0 := Tryd.isAgg0
  z0 := Tryd.sizeOf0
  v0 := Tryd.zeroValue0
  t3 := Tryd.underlying3
  a3 := Tryd.isAgg3
  z3 := Tryd.sizeOf3
  v3 := Tryd.zeroValue3
  t9 := Tryd.underlying9
  a9 := Tryd.isAgg9
  z9 := Tryd.sizeOf9
  v9 := Tryd.zeroValue9
  t37 := Tryd.underlying79
  a37 := Tryd.isAgg79
  z37 := Tryd.sizeOf79
  v37 := Tryd.zeroValue79
  t70 := Tryd.underlying78
  a70 := Tryd.isAgg78
  z70 := Tryd.sizeOf78
  v70 := Tryd.zeroValue78
  t72 := Tryd.underlying81
  a72 := Tryd.isAgg81
  z72 := Tryd.sizeOf81
  v72 := Tryd.zeroValue81
  t127 := Tryd.underlying133
  a127 := Tryd.isAgg133
  z127 := Tryd.sizeOf133
  v127 := Tryd.zeroValue133 }
theorem Txt.Builder_Extra_169 : Builder.Extra Tryd.prog Txt.lays169_ren := {
  sizeBuilder := by kernel_rfl
  liesBuilder := by kernel_rfl
  t5 := Tryd.underlying5
  a5 := Tryd.isAgg5
  z5 := Tryd.sizeOf5
  v5 := Tryd.zeroValue5
  infoByte := by kernel_rfl
  cellsByte := by kernel_rfl
  sizeByte := by kernel_rfl
  neB5 := by decide }
open Go.RowKit in
theorem Txt.Builder_String_any_k (B b : Nat) (l : List UInt8) (w : World) (h : Lib.IsBuilderF 81 5 B b (Lib.byteCells l) w) (hBw : B ≤ w.heap.size) :
    Calls Tryd.prog 34 #[.pointer (some ⟨b, 0, none⟩)] w fun e w' => e = .returned (.string ⟨l.toArray⟩) ∧ (Lib.IsBuilderF 81 5 B b (Lib.byteCells l) w' ∧ Below B w w' ∧ Lib.OthersKept 5 (some b) w w') := Any.Builder_String_any_k Txt.lays169 Txt.Builder_Extra_169 B b l w h hBw
def Txt.lays143_ren : Go.Shelf.Ren := ⟨fun | 143 => 98 | 219 => 94 | 217 => 107 | 225 => 108 | 224 => 109 | 267 => 110 | 266 => 130 | 314 => 131 | n => n, fun | 9 => 9 | 3 => 3 | 4 => 4 | 5 => 5 | 46 => 166 | 146 => 197 | 51 => 190 | n => n, fun | 1 => 0 | n => n⟩
theorem Txt.lays143 : Go.Proofs.Lays.n143 Tryd.prog Txt.lays143_ren := {
  mixed := by kernel_rfl
  f143 := Tryd.func98.trans (congrArg some (by kernel_rfl))
  f217 := Tryd.func107.trans (congrArg some (by kernel_rfl))
  f219 := Tryd.func94.trans (congrArg some (by kernel_rfl))
  f224 := Tryd.func109.trans (congrArg some (by kernel_rfl))
  f225 := Tryd.func108.trans (congrArg some (by kernel_rfl))
  f266 := Tryd.func130.trans (congrArg some (by kernel_rfl))
  f267 := Tryd.func110.trans (congrArg some (by kernel_rfl))
  f314 := Tryd.func131.trans (congrArg some (by kernel_rfl))
  t3 := Tryd.underlying3
  a3 := Tryd.isAgg3
  z3 := Tryd.sizeOf3
  v3 := Tryd.zeroValue3
  t4 := Tryd.underlying4
  a4 := Tryd.isAgg4
  z4 := Tryd.sizeOf4
  v4 := Tryd.zeroValue4
  t5 := Tryd.underlying5
  a5 := Tryd.isAgg5
  z5 := Tryd.sizeOf5
  v5 := Tryd.zeroValue5
  t9 := Tryd.underlying9
  a9 := Tryd.isAgg9
  z9 := Tryd.sizeOf9
  v9 := Tryd.zeroValue9
  t46 := Tryd.underlying166
  a46 := Tryd.isAgg166
  z46 := Tryd.sizeOf166
  v46 := Tryd.zeroValue166
  t51 := Tryd.underlying190
  a51 := Tryd.isAgg190
  z51 := Tryd.sizeOf190
  v51 := Tryd.zeroValue190
  t146 := Tryd.underlying197
  a146 := Tryd.isAgg197
  z146 := Tryd.sizeOf197
  v146 := Tryd.zeroValue197
  g1 := by kernel_rfl }
open Go.RowKit Go.Lib in
theorem Txt.strings_Index_one (s : ByteArray) (c : UInt8) (w : World) :
    Calls Tryd.prog 98 #[.string s, .string ⟨#[c]⟩] w fun e w' => e = .returned (.int .i64 (Lib.indexByte s.data.toList c)) ∧ w' = w := Any.strings_Index_one Txt.lays143 s c w
end Go.Proofs.YtdpibehpmghghaaDoor
/- Decimal numerals: what they are read as, and texts of numbers with commas; no program in sight. -/
namespace Go.Proofs.YtdpibehpmghghaaDoor
open Go.Lib

/-- What digits are read as. -/
def readD (l : List UInt8) : Nat := l.foldl (fun a b => 10 * a + (b.toNat - 48)) 0
theorem readD_snoc (l : List UInt8) (b : UInt8) : readD (l ++ [b]) = 10 * readD l + (b.toNat - 48) := by simp [readD]
theorem digit_nat {u : Nat} (h : u < 10) : (UInt8.ofNat (48 + u)).toNat = 48 + u := by
  rw [UInt8.toNat_ofNat']; omega
theorem read_dec (u : Nat) : readD (decDigits u) = u := by
  induction u using Nat.strongRecOn with
  | _ u ih =>
    by_cases h : u < 10
    · rw [decDigits, dif_pos h]
      show readD ([] ++ [_]) = u
      rw [readD_snoc, digit_nat h]
      simp [readD]
    · rw [decDigits, dif_neg h, readD_snoc, ih (u / 10) (by omega), digit_nat (by omega)]
      omega
theorem dec_inj {u v : Nat} (h : decDigits u = decDigits v) : u = v := by rw [← read_dec u, h, read_dec]
theorem dec_digit (u : Nat) : ∀ b ∈ decDigits u, 48 ≤ b.toNat ∧ b.toNat ≤ 57 := by
  induction u using Nat.strongRecOn with
  | _ u ih =>
    intro b hb
    by_cases h : u < 10
    · rw [decDigits, dif_pos h] at hb
      rw [List.mem_singleton.1 hb, digit_nat h]; omega
    · rw [decDigits, dif_neg h] at hb
      rcases List.mem_append.1 hb with hb | hb
      · exact ih _ (by omega) b hb
      · rw [List.mem_singleton.1 hb, digit_nat (by omega)]; omega
theorem dec_ne (u : Nat) : decDigits u ≠ [] := fun h => by
  have := nDigits_pos u
  rw [← decDigits_length, h] at this
  simp at this
/-- No nought ahead. -/
theorem dec_head {u : Nat} (h : 1 < (decDigits u).length) : (decDigits u)[0]? ≠ some 48 := by
  induction u using Nat.strongRecOn with
  | _ u ih =>
    by_cases h1 : u < 10
    · rw [decDigits, dif_pos h1] at h; simp at h
    · rw [decDigits, dif_neg h1]
      have hp : 0 < (decDigits (u / 10)).length := List.length_pos_iff.2 (dec_ne _)
      rw [List.getElem?_append_left hp]
      by_cases h2 : u / 10 < 10
      · rw [decDigits, dif_pos h2]
        intro e
        have e2 : UInt8.ofNat (48 + u / 10) = 48 := Option.some.inj e
        have := congrArg UInt8.toNat e2
        rw [digit_nat h2] at this
        have : (48 : UInt8).toNat = 48 := rfl
        omega
      · refine ih _ (by omega) ?_
        rw [decDigits_length, nDigits_big h2]
        have := nDigits_pos (u / 10 / 10)
        omega
theorem dec_len4 {u : Nat} (h : u < 10000) : (decDigits u).length ≤ 4 := by
  rw [decDigits_length]
  refine Classical.byContradiction fun hn => ?_
  have key : ∀ (k u : Nat), u < 10 ^ k → 1 ≤ k → nDigits u ≤ k := fun k => by
    induction k with
    | zero => intro u _ h; omega
    | succ k ih =>
      intro u hu _
      by_cases h1 : u < 10
      · rw [nDigits_small h1]; omega
      · rw [nDigits_big h1]
        have hk : 1 ≤ k := by
          rcases Nat.eq_zero_or_pos k with rfl | h
          · simp at hu; omega
          · exact h
        have := ih (u / 10) (by rw [Nat.pow_succ] at hu; omega) hk
        omega
  exact hn (key 4 u (by simpa using h) (by decide))
/-- Numbers, each with a comma behind it. -/
def textK : List Int → List UInt8
  | [] => []
  | i :: l => itoa i ++ 44 :: textK l
theorem textK_append : ∀ (l m : List Int), textK (l ++ m) = textK l ++ textK m
  | [], m => rfl
  | i :: l, m => by
    show itoa i ++ 44 :: textK (l ++ m) = (itoa i ++ 44 :: textK l) ++ textK m
    rw [textK_append l m, List.append_assoc]; rfl
theorem textK_nil {l : List Int} : textK l = [] ↔ l = [] := by
  cases l with
  | nil => simp [textK]
  | cons i l => simp [textK]
theorem split_first : ∀ {a b r s : List UInt8}, (∀ x ∈ a, x ≠ 44) → (∀ x ∈ b, x ≠ 44) → a ++ 44 :: r = b ++ 44 :: s → a = b ∧ r = s
  | [], [], r, s, _, _, h => by simpa using h
  | [], y :: b, r, s, _, hb, h => by simp at h; exact absurd h.1.symm (hb y (by simp))
  | x :: a, [], r, s, ha, _, h => by simp at h; exact absurd h.1 (ha x (by simp))
  | x :: a, y :: b, r, s, ha, hb, h => by
    simp only [List.cons_append, List.cons.injEq] at h
    obtain ⟨e1, e2⟩ := split_first (fun z hz => ha z (by simp [hz])) (fun z hz => hb z (by simp [hz])) h.2
    exact ⟨by rw [h.1, e1], e2⟩
theorem itoa_no {i : Int} (h : 0 ≤ i) : ∀ x ∈ itoa i, x ≠ 44 := fun x hx e => by
  unfold itoa at hx
  rw [if_neg (by omega)] at hx
  have := dec_digit _ x hx
  subst e
  have : (44 : UInt8).toNat = 44 := rfl
  omega
theorem itoa_inj {i j : Int} (hi : 0 ≤ i) (hj : 0 ≤ j) (h : itoa i = itoa j) : i = j := by
  unfold itoa at h
  rw [if_neg (by omega), if_neg (by omega)] at h
  have := dec_inj h
  omega
theorem textK_inj : ∀ {l m : List Int}, (∀ i ∈ l, 0 ≤ i) → (∀ i ∈ m, 0 ≤ i) → textK l = textK m → l = m
  | [], [], _, _, _ => rfl
  | [], j :: m, _, _, h => by simp [textK] at h
  | i :: l, [], _, _, h => by simp [textK] at h
  | i :: l, j :: m, hl, hm, h => by
    obtain ⟨e1, e2⟩ := split_first (itoa_no (hl i (by simp))) (itoa_no (hm j (by simp))) h
    rw [itoa_inj (hl i (by simp)) (hm j (by simp)) e1, textK_inj (fun k hk => hl k (by simp [hk])) (fun k hk => hm k (by simp [hk])) e2]
end Go.Proofs.YtdpibehpmghghaaDoor
/- strconv.Itoa at this dump, its table carried along; texts as lists of bytes. -/
namespace Go.Proofs.YtdpibehpmghghaaDoor
open Go.RowKit Go.Shelf

/-- The table that Itoa reads is laid. -/
def ITab (w : World) : Prop := Lib.TabIs Tryd.prog w "internal/strconv.uint64pow10" .u64 Lib.pow10Tab
theorem tab_named : ∃ g, Tryd.prog.globalNamed "internal/strconv.uint64pow10" = some g := ⟨1, by kernel_rfl⟩
theorem ITab.ext {w w' : World} (h : ITab w) (hb : Below w.heap.size w w') : ITab w' := by
  obtain ⟨g, hg⟩ := tab_named
  exact Go.Joins.tab_stays hg h hb (Nat.le_refl _)
/-- A string by its bytes. -/
abbrev bs (l : List UInt8) : ByteArray := ⟨l.toArray⟩
theorem bs_add (a b : List UInt8) : bs a ++ bs b = bs (a ++ b) := by unfold bs; rw [ByteArray.mk_append_mk]
theorem itoa_any (n : Int) (hn : I64 n) (w : World) (ht : ITab w) : Calls Tryd.prog 71 #[.int .i64 n] w fun e w' => e = .returned (.string (bs (Lib.itoa n))) ∧ Below w.heap.size w w' :=
  (Txt.strconv_Itoa n hn.1 hn.2 w ht).mono fun e w' ⟨h1, k, os, h2⟩ => ⟨h1, by rw [h2]; exact Lib.below_grow _ w (Nat.le_refl _) k os⟩
end Go.Proofs.YtdpibehpmghghaaDoor
/- What has been told of messages and states up to a bound; no program in sight. -/
namespace Go.Proofs.YtdpibehpmghghaaDoor

theorem MapG.mem_at {α : Type} : ∀ {l : List (PieceG α)}, MapG l → ∀ {x : PieceG α}, x ∈ l → ∀ {t : Int}, x.f ≤ t → t < x.t → atG l t = some x.v
  | [], _, _, hx, _, _, _ => by simp at hx
  | y :: l, h, x, hx, t, h1, h2 => by
    rcases List.mem_cons.1 hx with rfl | hx
    · exact atG_hit ⟨h1, h2⟩
    · have h3 := (List.pairwise_cons.1 h.1).1 x hx
      rw [atG_miss (by omega)]
      exact h.tail.mem_at hx h1 h2
def KeyK (fn : Int → Option Key) (D : List Int) (i : Nat) (out : List (PieceG Key)) : Prop := (∀ b a, D[0]? = some b → D[i]? = some a → ToldG fn b a out) ∧ out.length ≤ i ∧ (∀ x, x ∈ out → I64 x.f ∧ I64 x.t)
section
variable {fn : Int → Option Key} {D : List Int} {i : Nat} {out o : List (PieceG Key)} {a c p : Int} {v : Key} {z : PieceG Key}
theorem head_of (ha : D[i]? = some a) : ∃ b, D[0]? = some b := get_lt (by have := lt_of_get ha; omega)
theorem head_low (hD : D.Pairwise (· < ·)) {b : Int} (hb : D[0]? = some b) (ha : D[i]? = some a) : b ≤ a := rises_first hD hb (List.mem_of_getElem? ha)
theorem KeyK.start : KeyK fn D 0 [] :=
  ⟨fun b a hb ha => by
    obtain rfl : b = a := by rw [hb] at ha; simpa using ha
    exact ToldG.start, Nat.le_refl _, fun x h => by simp at h⟩
theorem KeyK.skip (h : KeyK fn D i out) (hD : D.Pairwise (· < ·)) (hT : TurnsAt D none fn) (ha : D[i]? = some a) (hc : D[i + 1]? = some c) (hn : fn a = none) : KeyK fn D (i + 1) out :=
  ⟨fun b c' hb hc' => by
    obtain rfl : c = c' := by rw [hc] at hc'; simpa using hc'
    exact (h.1 b a hb ha).skip (rises_lt hD ha hc) (hT.const i a c ha hc) hn, by have := h.2.1; omega, h.2.2⟩
theorem KeyK.grow (h : KeyK fn D i (o ++ [z])) (hD : D.Pairwise (· < ·)) (hT : TurnsAt D none fn) (ha : D[i]? = some a) (hc : D[i + 1]? = some c) (hn : fn a = some z.v) (hz : z.t = a) (hi : I64 c) : KeyK fn D (i + 1) (o ++ [⟨z.f, c, z.v⟩]) :=
  ⟨fun b c' hb hc' => by
    obtain rfl : c = c' := by rw [hc] at hc'; simpa using hc'
    exact (h.1 b a hb ha).grow (head_low hD hb ha) (rises_lt hD ha hc) (hT.const i a c ha hc) hn hz, by have := h.2.1; simp at this ⊢; omega, fun x hx => by
    rcases List.mem_append.1 hx with hx | hx
    · exact h.2.2 x (List.mem_append_left _ hx)
    · obtain rfl : x = _ := by simpa using hx
      exact ⟨(h.2.2 z (by simp)).1, hi⟩⟩
theorem KeyK.next (h : KeyK fn D i out) (hD : D.Pairwise (· < ·)) (hT : TurnsAt D none fn) (ha : D[i]? = some a) (hc : D[i + 1]? = some c) (hn : fn a = some v) (hz : ∀ y, y ∈ out → y.t = a → y.v ≠ v) (hia : I64 a) (hic : I64 c) : KeyK fn D (i + 1) (out ++ [⟨a, c, v⟩]) :=
  ⟨fun b c' hb hc' => by
    obtain rfl : c = c' := by rw [hc] at hc'; simpa using hc'
    exact (h.1 b a hb ha).next (head_low hD hb ha) (rises_lt hD ha hc) (hT.const i a c ha hc) hn hz, by have := h.2.1; simp; omega, fun x hx => by
    rcases List.mem_append.1 hx with hx | hx
    · exact h.2.2 x hx
    · obtain rfl : x = _ := by simpa using hx
      exact ⟨hia, hic⟩⟩
/-- Behind a stretch with something the last piece ends; behind one with nothing none ends. -/
theorem KeyK.prev (h : KeyK fn D (i + 1) out) (hD : D.Pairwise (· < ·)) (hT : TurnsAt D none fn) (hp : D[i]? = some p) (ha : D[i + 1]? = some a) : (fn p = none → ∀ y, y ∈ out → y.t ≠ a) ∧ ∀ v, fn p = some v → ∃ o z, out = o ++ [z] ∧ z.t = a ∧ z.v = v := by
  obtain ⟨b, hb⟩ := head_of hp
  have h1 := h.1 b a hb ha
  have hbp := head_low hD hb hp
  have hpa := rises_lt hD hp ha
  have e : atG out (a - 1) = fn p := by
    rw [h1.tells, if_pos (by omega)]
    exact hT.const i p a hp ha (a - 1) (by omega) (by omega)
  refine ⟨fun hn y hy hya => ?_, fun v hv => ?_⟩
  · have := h1.map.2 y hy
    rw [h1.map.mem_at hy (by omega) (by omega), hn] at e
    simp at e
  · rw [hv] at e
    obtain ⟨y, hy, k1, k2, k3⟩ := atG_some e
    have hlow := h1.low y hy
    rcases List.eq_nil_or_concat out with rfl | ⟨o, z, rfl⟩
    · simp at hy
    · rw [List.concat_eq_append] at *
      refine ⟨o, z, rfl, ?_⟩
      have hzl := h1.low z (by simp)
      rcases List.mem_append.1 hy with hy | hy
      · have := h1.map.ahead hy
        omega
      · obtain rfl : y = z := by simpa using hy
        exact ⟨by omega, k3⟩
theorem KeyK.fin (h : KeyK fn D i out) (hD : D.Pairwise (· < ·)) (hT : TurnsAt D none fn) (hi : D.length ≤ i + 1) (h0 : i < D.length ∨ (D = [] ∧ out = [])) : MapG out ∧ ∀ t, atG out t = fn t := by
  rcases h0 with h0 | ⟨rfl, rfl⟩
  · obtain ⟨a, ha⟩ := get_lt h0
    obtain ⟨b, hb⟩ := head_of ha
    have h1 := h.1 b a hb ha
    refine ⟨h1.map, fun t => ?_⟩
    rw [h1.tells t]
    split
    · rfl
    · rename_i hn
      refine (Classical.byContradiction fun k => ?_ : none = fn t)
      obtain ⟨p, q, hp, hq, k1, k2⟩ := hT.inside t (fun e => k e.symm)
      have := rises_first hD hb hp
      have := rises_last hD ha (by omega) hq
      exact hn ⟨by omega, by omega⟩
  · exact ⟨.nil, fun t => (hT.empty t).symm⟩
end
/-- What was there at the stretch ahead. -/
def LastIs (state l : List PieceD) (D : List Int) (i : Nat) (lw : List Int) (o : Option Int) : Prop := (i = 0 → lw = []) ∧ ∀ j p, i = j + 1 → D[j]? = some p → lw = whichL l p ∧ o = atM state p
section
variable {state l : List PieceD} {D : List Int} {i : Nat} {out : List (PieceG Key)} {a c : Int} {lw : List Int} {o : Option Int}
theorem LastIs.start : LastIs state l D 0 [] none := ⟨fun _ => rfl, fun j p h => by omega⟩
theorem LastIs.next (ha : D[i]? = some a) : LastIs state l D (i + 1) (whichL l a) (atM state a) := ⟨fun h => by omega, fun j p hj hp => by
  obtain rfl : i = j := by omega
  rw [ha] at hp
  obtain rfl : a = p := by simpa using hp
  exact ⟨rfl, rfl⟩⟩
theorem step_skip (h : KeyK (keyF state l) D i out) (hD : D.Pairwise (· < ·)) (hT : TurnsAt D none (keyF state l)) (ha : D[i]? = some a) (hc : D[i + 1]? = some c) (hw : whichL l a = []) : KeyK (keyF state l) D (i + 1) out :=
  h.skip hD hT ha hc (by unfold keyF; rw [if_pos hw])
theorem step_grow (h : KeyK (keyF state l) D i out) (hD : D.Pairwise (· < ·)) (hT : TurnsAt D none (keyF state l)) (ha : D[i]? = some a) (hc : D[i + 1]? = some c) (hi : I64 c) (hL : LastIs state l D i lw o) (h0 : lw ≠ []) (h1 : lw = whichL l a) (h2 : o = atM state a) :
    ∃ q z, out = q ++ [z] ∧ z.t = a ∧ z.v = (whichL l a, atM state a) ∧ KeyK (keyF state l) D (i + 1) (q ++ [⟨z.f, c, z.v⟩]) := by
  match i, h, ha, hc, hL with
  | 0, _, _, _, hL => exact absurd (hL.1 rfl) h0
  | j + 1, h, ha, hc, hL =>
    obtain ⟨p, hp⟩ := get_lt (show j < D.length by have := lt_of_get ha; omega)
    obtain ⟨k1, k2⟩ := hL.2 j p rfl hp
    have hk : keyF state l p = some (lw, o) := by unfold keyF; rw [← k1, ← k2, if_neg h0]
    obtain ⟨q, z, rfl, hz, hv⟩ := (h.prev hD hT hp ha).2 _ hk
    have hv2 : z.v = (whichL l a, atM state a) := by rw [hv, h1, h2]
    exact ⟨q, z, rfl, hz, hv2, h.grow hD hT ha hc (by unfold keyF; rw [if_neg (by rw [← h1]; exact h0), hv2]) hz hi⟩
theorem step_next (h : KeyK (keyF state l) D i out) (hD : D.Pairwise (· < ·)) (hT : TurnsAt D none (keyF state l)) (ha : D[i]? = some a) (hc : D[i + 1]? = some c) (hia : I64 a) (hic : I64 c) (hL : LastIs state l D i lw o) (hw : whichL l a ≠ []) (hne : lw = [] ∨ ¬ (lw = whichL l a ∧ o = atM state a)) :
    KeyK (keyF state l) D (i + 1) (out ++ [⟨a, c, (whichL l a, atM state a)⟩]) := by
  refine h.next hD hT ha hc (by unfold keyF; rw [if_neg hw]) (fun y hy hya hyv => ?_) hia hic
  match i, h, ha, hL with
  | 0, h, _, _ => have := h.2.1; simp at this; rw [this] at hy; simp at hy
  | j + 1, h, ha, hL =>
    obtain ⟨p, hp⟩ := get_lt (show j < D.length by have := lt_of_get ha; omega)
    obtain ⟨k1, k2⟩ := hL.2 j p rfl hp
    have hpr := h.prev hD hT hp ha
    by_cases h0 : lw = []
    · exact hpr.1 (by unfold keyF; rw [← k1, if_pos h0]) y hy hya
    · have hk : keyF state l p = some (lw, o) := by unfold keyF; rw [← k1, ← k2, if_neg h0]
      obtain ⟨q, z, rfl, hz, hv⟩ := hpr.2 _ hk
      obtain ⟨b, hb⟩ := head_of ha
      rcases List.mem_append.1 hy with hy | hy
      · have := (h.1 b a hb ha).map.ahead hy
        omega
      · obtain rfl : y = z := by simpa using hy
        rw [hv] at hyv
        rcases hne with hne | hne
        · exact h0 hne
        · exact hne (by simpa using hyv)
end
end Go.Proofs.YtdpibehpmghghaaDoor
/- The walks of the library's slices.Equal, at hops, ints, bools and lives. -/
namespace Go.Proofs.YtdpibehpmghghaaDoor
open Go.RowKit

theorem take_eq_of {α : Type} {a b : List α} (hl : a.length = b.length) {k : Nat} (hk : a.length ≤ k) (h : a.take k = b.take k) : a = b := by
  rwa [List.take_of_length_le hk, List.take_of_length_le (by omega)] at h
theorem take_step {α : Type} {a b : List α} {k : Nat} {x y : α} (hx : a[k]? = some x) (hy : b[k]? = some y) (h : a.take k = b.take k) (hxy : x = y) : a.take (k + 1) = b.take (k + 1) := by
  rw [List.take_add_one, List.take_add_one, hx, hy, h, hxy]
theorem ne_of_get {α : Type} {a b : List α} {k : Nat} {x y : α} (hx : a[k]? = some x) (hy : b[k]? = some y) (hxy : ¬ x = y) : ¬ a = b := by
  rintro rfl
  rw [hx] at hy
  exact hxy (by simpa using hy)

set_option maxHeartbeats 1000000 in
theorem equalInts_any (A B : Option Addr) (c d : Nat) (a b : List Int) (w : World) (hA : SlAt RInt 1 w A a) (hB : SlAt RInt 1 w B b) (ha : a.length ≤ maxLen) (hb : b.length ≤ maxLen) :
    Calls Tryd.prog 22 #[.slice A a.length c, .slice B b.length d] w fun e w' => e = .returned (.bool (decide (a = b))) ∧ Below w.heap.size w w' := by
  unfold maxLen at ha hb
  by_cases hl : a.length = b.length
  case neg =>
    have hne : ((a.length : Int) != (b.length : Int)) = true := by simp; omega
    go_enter Tryd.func22, Tryd.ntmps22
    go_wp2_with fail
    go_ret
    exact ⟨ret_bool (by symm; simp; intro h; exact hl (by rw [h])), Below.refl _ _⟩
  have hne : ((a.length : Int) != (b.length : Int)) = false := by simp; omega
  obtain ⟨ba, oa, hA⟩ := hA
  obtain ⟨bb, ob, hB⟩ := hB
  have HL := Lib.hid hl
  have hl1 : a.length ≤ b.length := by omega
  have hl2 : b.length ≤ a.length := by omega
  clear hl
  go_enter Tryd.func22, Tryd.ntmps22
  go_wp2_with fail
  go_loopw [13] (fun v wr => ∃ k : Nat, k ≤ a.length ∧ v = .int .i64 k ∧ Hid (a.take k = b.take k) ∧ Below w.heap.size w wr) (fun v _ => a.length - (intOf v).toNat)
  case atStart => exact ⟨0, Nat.zero_le _, rfl, Lib.hid (by simp), Below.refl _ _⟩
  case round =>
    obtain ⟨k, hk, rfl, HI, hw⟩ := hrel
    by_cases hlt : k < a.length
    · obtain ⟨x, hx⟩ := get_lt hlt
      obtain ⟨y, hy⟩ := get_lt (show k < b.length by omega)
      obtain ⟨rfl, hba, x0, _⟩ := hA k x hx
      obtain ⟨rfl, hbb, y0, _⟩ := hB k y hy
      have x1 := x0.now hw
      have y1 := y0.now hw
      simp only [Nat.mul_one] at x1 y1
      have HX := Lib.hid hx
      have HY := Lib.hid hy
      have hlt2 : k < b.length := by omega
      clear hA hB hx hy x0 y0
      by_cases hxy : x = y
      · have HXY := Lib.hid hxy
        have hn : (x != y) = false := by simp [hxy]
        clear hxy
        go_wp2_with fail
        go_quiet (fail)
        go_wp2
        go_roundw
        case rel => exact ⟨k + 1, by omega, by go_num, Lib.hid (take_step HX.out HY.out HI.out HXY.out), below_drewN hw _⟩
        case measure => simp [intOf]; omega
      · have HXY := Lib.hid hxy
        have hn : (x != y) = true := by simp [hxy]
        clear hxy
        go_wp2_with fail
        go_quiet (fail)
        go_wp2
        go_ret
        exact ⟨ret_bool (by symm; simp; exact ne_of_get HX.out HY.out HXY.out), below_drewN hw _⟩
    · go_wp2_with fail
      go_ret
      exact ⟨ret_bool (by symm; simp; exact take_eq_of HL.out (by omega) HI.out), hw⟩

theorem fields_piece : Tryd.prog.underlying 70 = some (.struct (Tryd.prog.fieldsOf 70)) := by kernel_rfl
theorem guard_piece : Tryd.prog.eqGuardType Tryd.prog.depth 70 = false := by kernel_rfl
theorem held_piece : Tryd.prog.stoodInHeld 70 = false := by kernel_rfl
theorem same_piece (x y : PieceD) (w : World) : (Op.equalIn 10000 70 (pieceV x) (pieceV y)).run Tryd.prog w = .ok (decide (x = y)) w := by
  have e : decide (x = y) = decide (x.f = y.f ∧ x.t = y.t ∧ x.v = y.v) := by rw [decide_eq_decide]; cases x; cases y; simp
  rw [e, run_equalIn_agg w 9999 70 _ _ fields_piece held_piece]
  have hf : (Tryd.prog.fieldsOf 70).toList = (match Tryd.prog.underlying 70 with | some (.struct fs) => fs.toList | _ => []) := by kernel_rfl
  rw [hf, Tryd.underlying70]
  simp [Op.eqFields, go_sem]
  by_cases hf : x.f = y.f <;> by_cases ht : x.t = y.t <;> by_cases hv : x.v = y.v <;> simp [*]
set_option maxHeartbeats 1000000 in
theorem equalPieces_any (A B : Option Addr) (c d : Nat) (a b : List PieceD) (w : World) (hA : SlAt RPiece 3 w A a) (hB : SlAt RPiece 3 w B b) (ha : a.length ≤ maxLen) (hb : b.length ≤ maxLen) :
    Calls Tryd.prog 30 #[.slice A a.length c, .slice B b.length d] w fun e w' => e = .returned (.bool (decide (a = b))) ∧ Below w.heap.size w w' := by
  unfold maxLen at ha hb
  by_cases hl : a.length = b.length
  case neg =>
    have hne : ((a.length : Int) != (b.length : Int)) = true := by simp; omega
    go_enter Tryd.func30, Tryd.ntmps30
    go_wp2_with fail
    go_ret
    exact ⟨ret_bool (by symm; simp; intro h; exact hl (by rw [h])), Below.refl _ _⟩
  have hne : ((a.length : Int) != (b.length : Int)) = false := by simp; omega
  obtain ⟨ba, oa, hA⟩ := hA
  obtain ⟨bb, ob, hB⟩ := hB
  have HL := Lib.hid hl
  have hl1 : a.length ≤ b.length := by omega
  have hl2 : b.length ≤ a.length := by omega
  clear hl
  go_enter Tryd.func30, Tryd.ntmps30
  go_wp2_with fail
  go_loopw [13] (fun v wr => ∃ k : Nat, k ≤ a.length ∧ v = .int .i64 k ∧ Hid (a.take k = b.take k) ∧ Below w.heap.size w wr) (fun v _ => a.length - (intOf v).toNat)
  case atStart => exact ⟨0, Nat.zero_le _, rfl, Lib.hid (by simp), Below.refl _ _⟩
  case round =>
    obtain ⟨k, hk, rfl, HI, hw⟩ := hrel
    by_cases hlt : k < a.length
    · obtain ⟨x, hx⟩ := get_lt hlt
      obtain ⟨y, hy⟩ := get_lt (show k < b.length by omega)
      obtain ⟨rfl, hba, ⟨x0, x1, x2⟩, _⟩ := hA k x hx
      obtain ⟨rfl, hbb, ⟨y0, y1, y2⟩, _⟩ := hB k y hy
      have x0' := x0.now hw
      have y0' := y0.now hw
      have x1' := x1.now hw
      have y1' := y1.now hw
      have x2' := x2.now hw
      have y2' := y2.now hw
      have HX := Lib.hid hx
      have HY := Lib.hid hy
      have hlt2 : k < b.length := by omega
      clear hA hB hx hy x0 y0 x1 y1 x2 y2
      by_cases hxy : x = y
      · have HXY := Lib.hid hxy
        have hn : decide (x = y) = true := by simp [hxy]
        have hs := same_piece x y
        rw [hn] at hs
        have hgd := guard_piece
        clear hxy
        go_wp2_with fail
        go_quiet (fail)
        go_wp2
        go_roundw
        case rel => exact ⟨k + 1, by omega, by go_num, Lib.hid (take_step HX.out HY.out HI.out HXY.out), below_drewN hw _⟩
        case measure => simp [intOf]; omega
      · have HXY := Lib.hid hxy
        have hn : decide (x = y) = false := by simp [hxy]
        have hs := same_piece x y
        rw [hn] at hs
        have hgd := guard_piece
        clear hxy
        go_wp2_with fail
        go_quiet (fail)
        go_wp2
        go_ret
        exact ⟨ret_bool (by symm; simp; exact ne_of_get HX.out HY.out HXY.out), below_drewN hw _⟩
    · go_wp2_with fail
      go_ret
      exact ⟨ret_bool (by symm; simp; exact take_eq_of HL.out (by omega) HI.out), hw⟩

theorem fields_ivl : Tryd.prog.underlying 49 = some (.struct (Tryd.prog.fieldsOf 49)) := by kernel_rfl
theorem guard_ivl : Tryd.prog.eqGuardType Tryd.prog.depth 49 = false := by kernel_rfl
theorem held_ivl : Tryd.prog.stoodInHeld 49 = false := by kernel_rfl
theorem same_ivl (x y : IvlD) (w : World) : (Op.equalIn 10000 49 (ivlV x) (ivlV y)).run Tryd.prog w = .ok (decide (x = y)) w := by
  have e : decide (x = y) = decide (x.f = y.f ∧ x.t = y.t) := by rw [decide_eq_decide]; cases x; cases y; simp
  rw [e, run_equalIn_agg w 9999 49 _ _ fields_ivl held_ivl]
  have hf : (Tryd.prog.fieldsOf 49).toList = (match Tryd.prog.underlying 49 with | some (.struct fs) => fs.toList | _ => []) := by kernel_rfl
  rw [hf, Tryd.underlying49]
  simp [Op.eqFields, go_sem]
  by_cases hf : x.f = y.f <;> by_cases ht : x.t = y.t <;> simp [*]
set_option maxHeartbeats 1000000 in
theorem equalIvls_any (A B : Option Addr) (c d : Nat) (a b : List IvlD) (w : World) (hA : SlAt RIvl 2 w A a) (hB : SlAt RIvl 2 w B b) (ha : a.length ≤ maxLen) (hb : b.length ≤ maxLen) :
    Calls Tryd.prog 46 #[.slice A a.length c, .slice B b.length d] w fun e w' => e = .returned (.bool (decide (a = b))) ∧ Below w.heap.size w w' := by
  unfold maxLen at ha hb
  by_cases hl : a.length = b.length
  case neg =>
    have hne : ((a.length : Int) != (b.length : Int)) = true := by simp; omega
    go_enter Tryd.func46, Tryd.ntmps46
    go_wp2_with fail
    go_ret
    exact ⟨ret_bool (by symm; simp; intro h; exact hl (by rw [h])), Below.refl _ _⟩
  have hne : ((a.length : Int) != (b.length : Int)) = false := by simp; omega
  obtain ⟨ba, oa, hA⟩ := hA
  obtain ⟨bb, ob, hB⟩ := hB
  have HL := Lib.hid hl
  have hl1 : a.length ≤ b.length := by omega
  have hl2 : b.length ≤ a.length := by omega
  clear hl
  go_enter Tryd.func46, Tryd.ntmps46
  go_wp2_with fail
  go_loopw [13] (fun v wr => ∃ k : Nat, k ≤ a.length ∧ v = .int .i64 k ∧ Hid (a.take k = b.take k) ∧ Below w.heap.size w wr) (fun v _ => a.length - (intOf v).toNat)
  case atStart => exact ⟨0, Nat.zero_le _, rfl, Lib.hid (by simp), Below.refl _ _⟩
  case round =>
    obtain ⟨k, hk, rfl, HI, hw⟩ := hrel
    by_cases hlt : k < a.length
    · obtain ⟨x, hx⟩ := get_lt hlt
      obtain ⟨y, hy⟩ := get_lt (show k < b.length by omega)
      obtain ⟨rfl, hba, ⟨x0, x1⟩, _⟩ := hA k x hx
      obtain ⟨rfl, hbb, ⟨y0, y1⟩, _⟩ := hB k y hy
      have x0' := x0.now hw
      have y0' := y0.now hw
      have x1' := x1.now hw
      have y1' := y1.now hw
      have HX := Lib.hid hx
      have HY := Lib.hid hy
      have hlt2 : k < b.length := by omega
      clear hA hB hx hy x0 y0 x1 y1
      by_cases hxy : x = y
      · have HXY := Lib.hid hxy
        have hn : decide (x = y) = true := by simp [hxy]
        have hs := same_ivl x y
        rw [hn] at hs
        have hgd := guard_ivl
        clear hxy
        go_wp2_with fail
        go_quiet (fail)
        go_wp2
        go_roundw
        case rel => exact ⟨k + 1, by omega, by go_num, Lib.hid (take_step HX.out HY.out HI.out HXY.out), below_drewN hw _⟩
        case measure => simp [intOf]; omega
      · have HXY := Lib.hid hxy
        have hn : decide (x = y) = false := by simp [hxy]
        have hs := same_ivl x y
        rw [hn] at hs
        have hgd := guard_ivl
        clear hxy
        go_wp2_with fail
        go_quiet (fail)
        go_wp2
        go_ret
        exact ⟨ret_bool (by symm; simp; exact ne_of_get HX.out HY.out HXY.out), below_drewN hw _⟩
    · go_wp2_with fail
      go_ret
      exact ⟨ret_bool (by symm; simp; exact take_eq_of HL.out (by omega) HI.out), hw⟩
end Go.Proofs.YtdpibehpmghghaaDoor
