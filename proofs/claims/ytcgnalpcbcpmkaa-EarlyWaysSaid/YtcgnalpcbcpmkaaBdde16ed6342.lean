/- Several texts in one: PackSpec, Nums, GoMain, LawGoes. -/
import Derived.Laws.BytesArg
import Derived.Test.YtcgnalpcbcpmkaaBd298c705468
import Derived.Test.YtcgnalpcbcpmkaaBd16973207eb
import Derived.Test.YtcgnalpcbcpmkaaBd62db7b8b90
import Derived.Test.YtcgnalpcbcpmkaaBded4119261a
import Derived.Test.YtcgnalpcbcpmkaaBd8fdecc6850
/- A graph's numbers and bytes, as plain Lean functions; no program in sight. -/
namespace Go.Proofs.Ytcgnalpcbcpmkaa
open Go.RowKit

def lifeNums (l : IvlD) : List Int := [l.f, l.t]
def legNums (l : LegD) : List Int := [l.f, l.t, l.time, l.cost]
def edgeNums (x : EdgeD) : List Int := [x.a, x.b, (x.legs.length : Int)] ++ x.legs.flatMap legNums
/-- P23: the numbers of a graph. -/
def numsL (g : GraphD) : List Int := [g.h, (g.lives.length : Int), (g.edges.length : Int)] ++ (g.lives.flatMap lifeNums ++ g.edges.flatMap edgeNums)
def bytesL (l : List Int) : List Int := l.flatMap fun n => [n / 256, n % 256]
def sumBytes (n : Nat) : List Int := [((n % 256 : Nat) : Int), ((n / 256 % 256 : Nat) : Int), ((n / 65536 % 256 : Nat) : Int), ((n / 16777216 % 256 : Nat) : Int)]
/-- P23: the bytes of a graph. -/
def coded (g : GraphD) : ByteArray := strOfNums (bytesL (numsL g) ++ sumBytes (crc (strOfNums (bytesL (numsL g)))))

def Num (n : Int) : Prop := 0 ≤ n ∧ n ≤ 1000
theorem len_flatMap_le {α β : Type} {f : α → List β} {m : Nat} : ∀ (l : List α), (∀ x, x ∈ l → (f x).length ≤ m) → (l.flatMap f).length ≤ l.length * m
  | [], _ => by simp
  | x :: l, h => by
    have h1 := h x (by simp)
    have h2 := len_flatMap_le l fun y hy => h y (by simp [hy])
    rw [List.flatMap_cons, List.length_append, List.length_cons, Nat.succ_mul]
    omega
theorem nums_edge {g : GraphD} (hV : Valid g) {x : EdgeD} (hx : x ∈ g.edges) : (∀ n, n ∈ edgeNums x → Num n) ∧ (edgeNums x).length ≤ 27 := by
  have h := hV.edges x hx
  have h1 := h.a0; have h2 := h.a1; have h3 := h.b0; have h4 := h.b1; have h5 := h.six
  have h6 := hV.nl; have h7 := hV.h1
  constructor
  · intro n hn
    unfold edgeNums at hn
    rw [List.mem_append] at hn
    rcases hn with hn | hn
    · simp at hn
      unfold Num
      omega
    · obtain ⟨l, hl, hn⟩ := List.mem_flatMap.1 hn
      have := h.legs l hl
      simp [legNums] at hn
      unfold Num
      omega
  · have := len_flatMap_le (f := legNums) (m := 4) x.legs (fun _ _ => by simp [legNums])
    unfold edgeNums
    simp only [List.length_append, List.length_cons, List.length_nil]
    omega
theorem nums_num {g : GraphD} (hV : Valid g) : (∀ n, n ∈ numsL g → Num n) ∧ (numsL g).length ≤ 900 := by
  have h6 := hV.nl; have h7 := hV.h1; have h8 := hV.ne; have h9 := hV.h0
  constructor
  · intro n hn
    unfold numsL at hn
    rw [List.mem_append, List.mem_append] at hn
    rcases hn with hn | hn | hn
    · simp at hn
      unfold Num
      omega
    · obtain ⟨l, hl, hn⟩ := List.mem_flatMap.1 hn
      have := hV.lives l hl
      simp [lifeNums] at hn
      unfold Num
      omega
    · obtain ⟨x, hx, hn⟩ := List.mem_flatMap.1 hn
      exact (nums_edge hV hx).1 n hn
  · have h1 := len_flatMap_le (f := lifeNums) (m := 2) g.lives (fun _ _ => by simp [lifeNums])
    have h2 := len_flatMap_le (f := edgeNums) (m := 27) g.edges (fun x hx => (nums_edge hV hx).2)
    unfold numsL
    simp only [List.length_append, List.length_cons, List.length_nil]
    omega
end Go.Proofs.Ytcgnalpcbcpmkaa
/- The walk of the document's numbers: it tells numsL. -/
namespace Go.Proofs.Ytcgnalpcbcpmkaa
open Go.RowKit

theorem info_parts' {i : Option TypeInfo} {v : Value} {a b : Nat} (h : i.map (fun i => (i.zero, i.size, i.bytes)) = some (some v, a, b)) : ∃ i0, i = some i0 ∧ i0.zero = some v ∧ i0.size = a ∧ i0.bytes = b := by
  cases i with
  | none => simp at h
  | some i0 => simp at h; exact ⟨i0, rfl, h⟩
def intEnc (n : Int) : List Value := [.int .i64 n]
theorem int_one1 {a : Int} : ∀ u ∈ (#[.int .i64 a] : Array Value).toList, u.oneCell' = true := by simp [Value.oneCell']
theorem int_one2 {a b : Int} : ∀ u ∈ (#[.int .i64 a, .int .i64 b] : Array Value).toList, u.oneCell' = true := by simp [Value.oneCell']
theorem int_one3 {a b c : Int} : ∀ u ∈ (#[.int .i64 a, .int .i64 b, .int .i64 c] : Array Value).toList, u.oneCell' = true := by simp [Value.oneCell']
theorem int_one4 {a b c d : Int} : ∀ u ∈ (#[.int .i64 a, .int .i64 b, .int .i64 c, .int .i64 d] : Array Value).toList, u.oneCell' = true := by simp [Value.oneCell']

theorem own_ints {w : World} {base : Nat} {v : Value} {l : List Int} (h : Own intEnc 1 w base 3 v l) (hi : ∀ x, x ∈ l → I64 x) : ∃ A c, v = .slice A l.length c ∧ SlAt RInt 1 w A l :=
  h.slAt (fun _ => rfl) fun x hx b o hc => ⟨by simpa using hc 0 _ rfl, hi x hx⟩
theorem num_i64 {n : Int} (h : Num n) : I64 n := by unfold Num at h; unfold I64; omega
set_option maxRecDepth 100000 in
set_option maxHeartbeats 4000000 in
theorem numbers_any (A A' : Option Addr) (c c' : Nat) (g : GraphD) (w : World) (hG : GraphAt w A c A' c' g) (hV : Valid g) :
    Calls Try.prog 90 #[gV A c A' c' g] w fun e w' => ∃ B d, e = .returned (.slice B (numsL g).length d) ∧ SlAt RInt 1 w' B (numsL g) ∧ Below w.heap.size w w' := by
  have hnl := hV.nl
  have hne := hV.ne
  have HN := Lib.hid (nums_num hV)
  obtain ⟨i0, hi, hz0, hz1, hz2⟩ := info_parts' info_int
  go_enter Try.func90, Try.ntmps90
  go_wp2_with fail
  go_loopw [3, 4] (fun o kk wr => ∃ (k : Nat) (acc : List Int), k ≤ g.lives.length ∧ kk = .int .i64 k ∧ Hid (acc ++ ((g.lives.drop k).flatMap lifeNums ++ g.edges.flatMap edgeNums) = numsL g) ∧ Own intEnc 1 wr (w.heap.size + 1) 3 o acc ∧ Below (w.heap.size + 1) (w.alloc (.cells (gC A c A' c' g) 28)) wr)
      (fun _ kk _ => g.lives.length - (intOf kk).toNat)
  case atStart =>
    refine ⟨0, [g.h, (g.lives.length : Int), (g.edges.length : Int)], Nat.zero_le _, rfl, Lib.hid rfl, ?_, by go_grown⟩
    exact Own.lit (by simp) (by omega) rfl rfl rfl (by simp [maxLen])
  case round =>
    obtain ⟨k, acc, hk, rfl, HI, hown, hb⟩ := hrel
    have hbw : Below w.heap.size w wr := (Below.refl _ _).alloc (Nat.le_refl _) _ |>.trans (hb.mono (by omega))
    have B0 := (Blk.new w 28 (gC A c A' c' g)).below hb (by omega)
    obtain ⟨b1, b2, b3⟩ := B0.facts
    have hzw : w.heap.size + 1 ≤ wr.heap.size := by have := hb.size; simpa using this
    have hacc : acc.length ≤ 900 := by
      have h1 := HN.out.2
      rw [← HI.out, List.length_append] at h1
      omega
    by_cases hlt : k < g.lives.length
    case pos =>
      obtain ⟨x, hx⟩ := get_lt hlt
      obtain ⟨be, oe, hE⟩ := hG.lives
      obtain ⟨rfl, hbe, ⟨⟨x0, x1⟩, _⟩⟩ := hE k x hx
      have x0' := x0.now hbw
      have x1' := x1.now hbw
      have HI2 : Hid (acc ++ (lifeNums x ++ ((g.lives.drop (k + 1)).flatMap lifeNums ++ g.edges.flatMap edgeNums)) = numsL g) := Lib.hid (by rw [← HI.out, drop_cons hx, List.flatMap_cons, List.append_assoc])
      clear hE hx x0 x1 HI
      have hltI : (k : Int) < (g.lives.length : Int) := by omega
      have hbe2 : be < wr.heap.size := Nat.lt_of_lt_of_le hbe hbw.size
      have S0 : wr.cell? ⟨w.heap.size, 0, none⟩ = some (.int .i64 g.h) ∧ wr.cell? ⟨w.heap.size, 1, none⟩ = some (.slice (some ⟨be, oe, none⟩) g.lives.length c) ∧ wr.cell? ⟨w.heap.size, 2, none⟩ = some (.slice A' g.edges.length c') ∧ wr.cell? ⟨be, oe + k * 2, none⟩ = some (.int .i64 x.f) ∧ wr.cell? ⟨be, oe + k * 2 + 1, none⟩ = some (.int .i64 x.t) := ⟨b1 0, b1 1, b1 2, x0', x1'⟩
      clear x0' x1' b1 b2 b3
      have hbeB : be < w.heap.size + 1 := by omega
      have hwB : w.heap.size < w.heap.size + 1 := by omega
      go_wp2_with fail
      go_region_held_law (fun w' => w'.cell? ⟨w.heap.size, 0, none⟩ = some (.int .i64 g.h) ∧ w'.cell? ⟨w.heap.size, 1, none⟩ = some (.slice (some ⟨be, oe, none⟩) g.lives.length c) ∧ w'.cell? ⟨w.heap.size, 2, none⟩ = some (.slice A' g.edges.length c') ∧ w'.cell? ⟨be, oe + k * 2, none⟩ = some (.int .i64 x.f) ∧ w'.cell? ⟨be, oe + k * 2 + 1, none⟩ = some (.int .i64 x.t))
        (first | exact S0 | (exact keepB5 (B := w.heap.size + 1) (below_drew ((Below.refl _ wr).alloc hzw _)) hwB hwB hwB hbeB hbeB S0) | (exact keepB5 (B := w.heap.size + 1) ((below_drew ((Below.refl _ wr).alloc hzw _)).trans hb8) hwB hwB hwB hbeB hbeB S0))
        (first | (refine step_append_els (enc := intEnc) rfl (.tmp 24) (.tmp 37) 53 rfl (w.heap.size + 1) 3 i0 _ 1 8 Try.underlying53 hi hz0 hz1 hz2 rfl (by decide) _ acc [x.f, x.t] 2 rfl (by decide) rfl (hown.alloc _).drew #[.int .i64 x.f, .int .i64 x.t] rfl _ (Blk.new wr 3 _).drew rfl rfl int_one2 (by omega) (by decide) (by simp; omega) ?_; intro v' w6 hown6 hb8 _) | (trace_state; fail))
      go_wp2_with fail
      go_roundw
      case rel =>
        refine ⟨k + 1, acc ++ [x.f, x.t], by omega, by go_num, Lib.hid ?_, hown6, (hb.trans (below_drew ((Below.refl _ wr).alloc hzw _))).trans hb8⟩
        rw [← HI2.out, List.append_assoc]
        rfl
      case measure => simp [intOf]; omega
    have HI2 : Hid (acc ++ g.edges.flatMap edgeNums = numsL g) := Lib.hid (by rw [← HI.out, drop_end (by omega)]; rfl)
    clear HI
    go_wp2_with fail
    go_loopw [3, 5] (fun o jj wr2 => ∃ (j : Nat) (acc : List Int), j ≤ g.edges.length ∧ jj = .int .i64 j ∧ Hid (acc ++ (g.edges.drop j).flatMap edgeNums = numsL g) ∧ Own intEnc 1 wr2 (w.heap.size + 1) 3 o acc ∧ Below (w.heap.size + 1) (w.alloc (.cells (gC A c A' c' g) 28)) wr2)
      (fun _ jj _ => g.edges.length - (intOf jj).toNat)
    case atStart => exact ⟨0, acc, Nat.zero_le _, rfl, HI2, hown, hb⟩
    case round =>
      clear hown hb hacc HI2 hbw B0 b1 b2 b3 hzw
      obtain ⟨j, acc, hj, rfl, HI, hown, hb⟩ := hrel
      have hbw : Below w.heap.size w wr := (Below.refl _ _).alloc (Nat.le_refl _) _ |>.trans (hb.mono (by omega))
      have B0 := (Blk.new w 28 (gC A c A' c' g)).below hb (by omega)
      obtain ⟨b1, b2, b3⟩ := B0.facts
      have hzw : w.heap.size + 1 ≤ wr.heap.size := by have := hb.size; simpa using this
      have hacc : acc.length ≤ 900 := by
        have h1 := HN.out.2
        rw [← HI.out, List.length_append] at h1
        omega
      by_cases hltj : j < g.edges.length
      case neg =>
        have HE : Hid (acc = numsL g) := Lib.hid (by have := HI.out; rw [drop_end (by omega)] at this; simpa using this)
        go_wp2_with fail
        go_ret
        obtain ⟨Ao, co, rfl, hS⟩ := own_ints hown (by rw [HE.out]; exact fun x hx => num_i64 (HN.out.1 x hx))
        rw [HE.out] at hS ⊢
        exact ⟨Ao, co, rfl, hS, hbw⟩
      obtain ⟨x, hx⟩ := get_lt hltj
      obtain ⟨be, oe, hE⟩ := hG.edges
      obtain ⟨rfl, hbe, ⟨⟨x0, x1, L, cl, x2, hl1, hl2, hL⟩, _⟩⟩ := hE j x hx
      have k0 := x0.now hbw
      have k1 := x1.now hbw
      have k2 := x2.now hbw
      have hll : x.legs.length ≤ maxLen := Nat.le_trans hl1 hl2
      have hxe : EdgeOk g x := hV.edges x (List.mem_of_getElem? hx)
      have h6 := hxe.six
      have HI2 : Hid (acc ++ [x.a, x.b, (x.legs.length : Int)] ++ (x.legs.flatMap legNums ++ (g.edges.drop (j + 1)).flatMap edgeNums) = numsL g) := Lib.hid (by
        rw [← HI.out, drop_cons hx, List.flatMap_cons]
        simp [edgeNums])
      clear hE hx HI x0 x1 x2
      obtain ⟨wo, rfl⟩ : ∃ wo : World, wo = wr := ⟨_, rfl⟩
      go_wp2_with (at_builtin; refine wpList_append_els (enc := intEnc) rfl (.tmp 51) (.tmp 59) 53 rfl (w.heap.size + 1) 3 i0 _ 1 8 Try.underlying53 hi hz0 hz1 hz2 rfl (by decide) _ acc [x.a, x.b, (x.legs.length : Int)] 3 rfl rfl (hown.alloc (Obj.cells #[.int .i64 x.a, .int .i64 x.b, .slice L x.legs.length cl] 99)) _ rfl _ (by simp) rfl rfl int_one3 (by omega) (by decide) (by simp; omega) ?_; intro v' w6 hown6 hb8 hkp)
      have BE := hkp _ _ _ (Blk.new wo 99 #[.int .i64 x.a, .int .i64 x.b, .slice L x.legs.length cl]) (by decide)
      have hb9 := (hb.trans ((Below.refl _ wo).alloc hzw _)).trans hb8
      clear hown hb hb8 hkp k0 k1 k2 b1 b2 b3 B0 hacc
      have hwz : w.heap.size + 1 ≤ wo.heap.size := hzw
      go_wp2_with fail
      go_loopw [3, 7] (fun o ii wr => ∃ (i : Nat) (acc : List Int), i ≤ x.legs.length ∧ ii = .int .i64 i ∧ Hid (acc ++ ((x.legs.drop i).flatMap legNums ++ (g.edges.drop (j + 1)).flatMap edgeNums) = numsL g) ∧ Own intEnc 1 wr (w.heap.size + 1) 3 o acc ∧ Below (w.heap.size + 1) (w.alloc (.cells (gC A c (some ⟨be, oe, none⟩) c' g) 28)) wr ∧ Blk wr wo.heap.size 99 #[.int .i64 x.a, .int .i64 x.b, .slice L x.legs.length cl])
        (fun _ ii _ => x.legs.length - (intOf ii).toNat)
      case atStart => exact ⟨0, _, Nat.zero_le _, rfl, HI2, hown6, hb9, BE⟩
      case round =>
        clear HI2 hown6 hb9 BE hbw hzw
        obtain ⟨i, acc, hi', rfl, HI, hown, hb, BE⟩ := hrel
        have hbw : Below w.heap.size w wr := (Below.refl _ _).alloc (Nat.le_refl _) _ |>.trans (hb.mono (by omega))
        obtain ⟨b1, b2, b3⟩ := BE.facts
        have hzw : w.heap.size + 1 ≤ wr.heap.size := by have := hb.size; simpa using this
        have hacc : acc.length ≤ 900 := by
          have h1 := HN.out.2
          rw [← HI.out, List.length_append] at h1
          omega
        by_cases hlti : i < x.legs.length
        case neg =>
          have HE : Hid (acc ++ (g.edges.drop (j + 1)).flatMap edgeNums = numsL g) := Lib.hid (by have := HI.out; rw [drop_end (by omega)] at this; simpa using this)
          go_wp2_with fail
          go_roundw
          case rel => exact ⟨j + 1, acc, by omega, by go_num, HE, hown, hb⟩
          case measure => simp [intOf]; omega
        obtain ⟨lg, hlg⟩ := get_lt hlti
        obtain ⟨bl, ol, hLL⟩ := hL
        obtain ⟨rfl, hbl, ⟨⟨l0, l1, l2, l3⟩, _⟩⟩ := hLL i lg hlg
        have S0 : wr.cell? ⟨wo.heap.size, 2, none⟩ = some (.slice (some ⟨bl, ol, none⟩) x.legs.length cl) ∧ wr.cell? ⟨bl, ol + i * 4, none⟩ = some (.int .i64 lg.f) ∧ wr.cell? ⟨bl, ol + i * 4 + 1, none⟩ = some (.int .i64 lg.t) ∧ wr.cell? ⟨bl, ol + i * 4 + 2, none⟩ = some (.int .i64 lg.time) ∧ wr.cell? ⟨bl, ol + i * 4 + 3, none⟩ = some (.int .i64 lg.cost) := ⟨b1 2, l0.now hbw, l1.now hbw, l2.now hbw, l3.now hbw⟩
        have HI2 : Hid (acc ++ [lg.f, lg.t, lg.time, lg.cost] ++ ((x.legs.drop (i + 1)).flatMap legNums ++ (g.edges.drop (j + 1)).flatMap edgeNums) = numsL g) := Lib.hid (by
          rw [← HI.out, drop_cons hlg, List.flatMap_cons]
          simp [legNums])
        clear hLL hlg HI l0 l1 l2 l3 b1 b2
        have hblB : bl < w.heap.size + 1 := by omega
        have hltI : (i : Int) < (x.legs.length : Int) := by omega
        go_wp2_with fail
        go_region_held_law (fun w' => w'.cell? ⟨wo.heap.size, 2, none⟩ = some (.slice (some ⟨bl, ol, none⟩) x.legs.length cl) ∧ w'.cell? ⟨bl, ol + i * 4, none⟩ = some (.int .i64 lg.f) ∧ w'.cell? ⟨bl, ol + i * 4 + 1, none⟩ = some (.int .i64 lg.t) ∧ w'.cell? ⟨bl, ol + i * 4 + 2, none⟩ = some (.int .i64 lg.time) ∧ w'.cell? ⟨bl, ol + i * 4 + 3, none⟩ = some (.int .i64 lg.cost))
          (first | exact S0 | (exact keep5 (below_drew ((Below.refl _ wr).alloc (Nat.le_refl _) _)) S0) | (exact ⟨(hkp _ _ _ (BE.alloc _).drew (by decide)).cell 2, keepB4 (B := w.heap.size + 1) ((below_drew ((Below.refl _ wr).alloc hzw _)).trans hb8) hblB hblB hblB hblB S0.2⟩))
          (first | (refine step_append_els (enc := intEnc) rfl (.tmp 68) (.tmp 93) 53 rfl (w.heap.size + 1) 3 i0 _ 1 8 Try.underlying53 hi hz0 hz1 hz2 rfl (by decide) _ acc [lg.f, lg.t, lg.time, lg.cost] 4 rfl (by decide) rfl (hown.alloc _).drew #[.int .i64 lg.f, .int .i64 lg.t, .int .i64 lg.time, .int .i64 lg.cost] rfl _ (Blk.new wr 3 _).drew rfl rfl int_one4 (by omega) (by decide) (by simp; omega) ?_; intro v' w6 hown6 hb8 hkp))
        go_wp2_with fail
        go_roundw
        case rel => exact ⟨i + 1, acc ++ [lg.f, lg.t, lg.time, lg.cost], by omega, by go_num, HI2, hown6, (hb.trans (below_drew ((Below.refl _ wr).alloc hzw _))).trans hb8, hkp _ _ _ (BE.alloc _).drew (by decide)⟩
        case measure => simp [intOf]; omega
end Go.Proofs.Ytcgnalpcbcpmkaa
/- The walk of journey.Go behind its checks. -/
namespace Go.Proofs.Ytcgnalpcbcpmkaa
open Go.RowKit

set_option maxRecDepth 100000 in
set_option maxHeartbeats 8000000 in
theorem go_main (A A' Ah : Option Addr) (c c' ch : Nat) (g : GraphD) (v t : Int) (l : List HopD) (w : World) (hG : GraphAt w A c A' c' g) (hH : SlAt RHop 2 w Ah l) (hhl : l.length ≤ maxLen)
    (h0 : placeErr g v t = 0) (h500 : ¬ 500 < l.length) (hal : aliveB g v t = true) :
    Calls Try.prog 36 #[gV A c A' c' g, .int .i64 v, .int .i64 t, .slice Ah l.length ch] w fun e w' => e = .returned (goV (goR g v t l)) ∧ Below w.heap.size w w' := by
  unfold maxLen at hhl
  obtain ⟨hV, hv, ht⟩ := place_of h0
  obtain ⟨hv0, hv1⟩ := hv
  obtain ⟨ht0, ht1⟩ := ht
  have hh := hV.h1
  have hne := hV.ne
  have HN := Lib.hid (fun h4 => goR_none h0 h500 hal h4)
  have HS := Lib.hid (fun a b c h4 => goR_some (a := a) (b := b) (c := c) h0 h500 hal h4)
  obtain ⟨bh, oh, hHp⟩ := hH
  go_enter Try.func36, Try.ntmps36
  go_wp2_with fail
  refine (checkPlace_any _ _ _ _ g v t _ (hG.ext (by go_grown))).mono ?_
  rintro e w1 ⟨rfl, hb1⟩
  obtain ⟨B0, c1, c2, c3⟩ := (Blk.new w 28 (gC A c A' c' g)).go hb1
  have hb2 : Below w.heap.size w w1 := ext_trans (by go_grown) hb1
  go_wp2_with fail
  refine (alive_any _ _ _ _ g v t _ (hG.ext hb2) hv0 hv1).mono ?_
  rintro e w2 ⟨rfl, hb3⟩
  have hb4 := ext_trans hb2 hb3
  have B0' := B0.ext hb3
  go_wp2_with fail
  clear hb3 B0 c1 c2 c3 hb1 hal h0
  go_loopw [13, 14, 15, 40] (fun a b d k wr => ∃ (n : Nat) (x y z : Int), n ≤ l.length ∧ k = .int .i64 n ∧ a = .int .i64 x ∧ b = .int .i64 y ∧ d = .int .i64 z ∧ 0 ≤ z ∧ z ≤ 1000 * n ∧ Hid (goL g x y z (l.drop n) = goL g v t 0 l) ∧ Below w.heap.size w wr ∧ Blk wr w.heap.size 28 (gC A c A' c' g))
    (fun _ _ _ k _ => l.length - (intOf k).toNat)
  case atStart => exact ⟨0, v, t, 0, Nat.zero_le _, rfl, rfl, rfl, rfl, by omega, by omega, Lib.hid rfl, hb4, B0'⟩
  case round =>
    clear hb4 B0' hb2 
    obtain ⟨n, x, y, z, hn, rfl, rfl, rfl, rfl, hz0, hz1, HI, hb, B0⟩ := hrel
    obtain ⟨b1, b2, b3⟩ := B0.facts
    by_cases hlt : n < l.length
    · obtain ⟨h, hh'⟩ := get_lt hlt
      obtain ⟨rfl, hbh, ⟨⟨x0, x1⟩, hw0, hw1⟩⟩ := hHp n h hh'
      have y0 := x0.now hb
      have y1 := x1.now hb
      have hd := drop_cons hh'
      have HI2 : Hid (goL g x y z (h :: l.drop (n + 1)) = goL g v t 0 l) := by rw [← hd]; exact HI
      clear hHp hd hh' HI x0 x1
      by_cases he : 0 ≤ h.edge ∧ h.edge ≤ (g.edges.length : Int) - 1
      case neg =>
        have HF := Lib.hid (HN.out (HI2.out.symm.trans (goL_none (hopTo_far (inB_false' he)))))
        go_wp2_with fail
        all_goals refine bodyPost_ret (results_tmp4 rfl _ _ _) rfl ?_
        all_goals exact ⟨by rw [HF.out]; rfl, ext_alloc hb _⟩
      have hin := inB_true' he
      obtain ⟨he0, he1⟩ := he
      obtain ⟨q, hq⟩ := get_lt (show h.edge.toNat < g.edges.length by omega)
      have HF := Lib.hid (fun hx => HN.out (HI2.out.symm.trans (goL_none hx)))
      have HF2 := Lib.hid (fun a b d hx => HI2.out.symm.trans (goL_some (a := a) (b := b) (d := d) hx))
      have hnot := fun h2 => hopTo_not (v := x) (t := y) hin hq h2
      have hnone := fun h3 => hopTo_none (v := x) (t := y) hin hq h3
      have hsome := fun to lg h2 h3 => hopTo_some (v := x) (t := y) (to := to) (l := lg) hin hq h2 h3
      have HNOT := Lib.hid hnot
      have HNONE := Lib.hid hnone
      have HSOME := Lib.hid hsome
      have hqe : EdgeOk g q := hV.edges q (List.mem_of_getElem? hq)
      obtain ⟨be, oe, hE⟩ := hG.edges
      obtain ⟨rfl, hbe, ⟨⟨z0, z1, L, cl, z2, hl1, hl2, hL⟩, _⟩⟩ := hE _ q hq
      have k0 := z0.now hb
      have k1 := z1.now hb
      have k2 := z2.now hb
      have hbe' := Nat.lt_of_lt_of_le hbe hb.size
      clear hnot hnone hsome hE hq hin z0 z1 z2
      by_cases hqa : q.a = x ∧ y ≤ h.depart
      case neg =>
        have H9 := Lib.hid (HF.out (HNOT.out hqa))
        go_wp2_with fail
        all_goals refine bodyPost_ret (results_tmp4 rfl _ _ _) rfl ?_
        all_goals exact ⟨by rw [H9.out]; rfl, ext_alloc hb _⟩
      obtain ⟨rfl, hqd⟩ := hqa
      go_wp2_with fail
      have hlq : q.legs.length ≤ maxLen := Nat.le_trans hl1 hl2
      have e0 := b1 0
      have e1 := b1 1
      have e2 := b1 2
      simp at e0 e1 e2
      have S0 : (wr.alloc (Obj.cells #[Value.int IntKind.i64 h.edge, Value.int IntKind.i64 h.depart] 46)).cell? ⟨w.heap.size, 0, none⟩ = some (.int .i64 g.h) ∧ (wr.alloc (Obj.cells #[Value.int IntKind.i64 h.edge, Value.int IntKind.i64 h.depart] 46)).cell? ⟨w.heap.size, 1, none⟩ = some (.slice A g.lives.length c) ∧ (wr.alloc (Obj.cells #[Value.int IntKind.i64 h.edge, Value.int IntKind.i64 h.depart] 46)).cell? ⟨w.heap.size, 2, none⟩ = some (.slice (some { block := be, off := oe }) g.edges.length c') ∧ (wr.alloc (Obj.cells #[Value.int IntKind.i64 h.edge, Value.int IntKind.i64 h.depart] 46)).cell? ⟨be, oe + h.edge.toNat * 3, none⟩ = some (.int .i64 q.a) ∧ (wr.alloc (Obj.cells #[Value.int IntKind.i64 h.edge, Value.int IntKind.i64 h.depart] 46)).cell? ⟨be, oe + h.edge.toNat * 3 + 1, none⟩ = some (.int .i64 q.b) ∧ (wr.alloc (Obj.cells #[Value.int IntKind.i64 h.edge, Value.int IntKind.i64 h.depart] 46)).cell? ⟨be, oe + h.edge.toNat * 3 + 2, none⟩ = some (.slice L q.legs.length cl) ∧ (wr.alloc (Obj.cells #[Value.int IntKind.i64 h.edge, Value.int IntKind.i64 h.depart] 46)).cell? ⟨wr.heap.size, 0, none⟩ = some (.int .i64 h.edge) ∧ (wr.alloc (Obj.cells #[Value.int IntKind.i64 h.edge, Value.int IntKind.i64 h.depart] 46)).cell? ⟨wr.heap.size, 1, none⟩ = some (.int .i64 h.depart) := by
        refine ⟨?_, ?_, ?_, ?_, ?_, ?_, ?_, ?_⟩ <;> simp [go_sem, e0, e1, e2, k0, k1, k2, b3, hbe']
      have hbq : Below w.heap.size w (wr.alloc (Obj.cells #[Value.int IntKind.i64 h.edge, Value.int IntKind.i64 h.depart] 46)) := ext_alloc hb _
      have Bq := B0.alloc (Obj.cells #[Value.int IntKind.i64 h.edge, Value.int IntKind.i64 h.depart] 46)
      have hGq := hG.ext hbq
      have hLq := hL.ext RLeg.stable hbq
      generalize hn17 : wr.heap.size = n17 at S0 ⊢
      generalize hwq : wr.alloc (Obj.cells #[Value.int IntKind.i64 h.edge, Value.int IntKind.i64 h.depart] 46) = wq at S0 hbq Bq hGq hLq ⊢
      clear hn17 hwq e0 e1 e2 k0 k1 k2 b1 b2 b3 y0 y1 hb B0 hbe'
      have hzq := hbq.size
      cases har : arrive g q h.depart with
      | none =>
        have HAR := Lib.hid har
        have H9 := Lib.hid (HF.out (HNONE.out har))
        clear har
        go_region_held3 (fun w' => w'.cell? ⟨w.heap.size, 0, none⟩ = some (.int .i64 g.h) ∧ w'.cell? ⟨w.heap.size, 1, none⟩ = some (.slice A g.lives.length c) ∧ w'.cell? ⟨w.heap.size, 2, none⟩ = some (.slice (some { block := be, off := oe }) g.edges.length c') ∧ w'.cell? ⟨be, oe + h.edge.toNat * 3, none⟩ = some (.int .i64 q.a) ∧ w'.cell? ⟨be, oe + h.edge.toNat * 3 + 1, none⟩ = some (.int .i64 q.b) ∧ w'.cell? ⟨be, oe + h.edge.toNat * 3 + 2, none⟩ = some (.slice L q.legs.length cl) ∧ w'.cell? ⟨n17, 0, none⟩ = some (.int .i64 h.edge) ∧ w'.cell? ⟨n17, 1, none⟩ = some (.int .i64 h.depart))
          (first | exact S0 | (refine keep8 ?_ S0; go_grown))
          (first | (go_at_call 94; refine (arrive_no_any _ _ L _ _ cl g q h.depart _ (hGq.ext (by go_grown)) hV hqe (hLq.ext RLeg.stable (by go_grown)) hlq hw1 HAR.out).mono ?_; rintro e w5 ⟨rfl, hb5⟩; have hb6 : Below wq.heap.size wq w5 := ext_trans (by go_grown) hb5; have hz6 := hb6.size; obtain ⟨hc5, hf5⟩ := bcell hb5))
        all_goals
          have hb7 : Below w.heap.size w w5 := ext_trans hbq hb6
          have hz7 := hb7.size
          go_wp2_with fail
          refine bodyPost_ret (results_tmp4 rfl _ _ _) rfl ?_
          exact ⟨by rw [H9.out]; rfl, by go_grown⟩
      | some p =>
        obtain ⟨lg, to⟩ := p
        have HAR := Lib.hid har
        have H9 := Lib.hid (HF2.out _ _ _ (HSOME.out to lg ⟨trivial, hqd⟩ har))
        have ha := arrive_some har
        have hlg := hqe.legs lg ha.1
        have c0 : 0 ≤ lg.cost := by omega
        have c1 : lg.cost ≤ 1000 := by omega
        have hbe2 := World.block_lt_of_cell? _ _ S0.2.2.2.1
        have hn2 := World.block_lt_of_cell? _ _ S0.2.2.2.2.2.2.1
        have hg2 := World.block_lt_of_cell? _ _ S0.1
        simp only at hbe2 hn2 hg2
        have hbe3 : be ≠ wq.heap.size := by omega
        have hn3 : n17 ≠ wq.heap.size := by omega
        have hg3 : w.heap.size ≠ wq.heap.size := by omega
        clear har ha hlg
        go_region_held3 (fun w' => w'.cell? ⟨w.heap.size, 0, none⟩ = some (.int .i64 g.h) ∧ w'.cell? ⟨w.heap.size, 1, none⟩ = some (.slice A g.lives.length c) ∧ w'.cell? ⟨w.heap.size, 2, none⟩ = some (.slice (some { block := be, off := oe }) g.edges.length c') ∧ w'.cell? ⟨be, oe + h.edge.toNat * 3, none⟩ = some (.int .i64 q.a) ∧ w'.cell? ⟨be, oe + h.edge.toNat * 3 + 1, none⟩ = some (.int .i64 q.b) ∧ w'.cell? ⟨be, oe + h.edge.toNat * 3 + 2, none⟩ = some (.slice L q.legs.length cl) ∧ w'.cell? ⟨n17, 0, none⟩ = some (.int .i64 h.edge) ∧ w'.cell? ⟨n17, 1, none⟩ = some (.int .i64 h.depart))
          (first | exact S0 | (refine keep8 ?_ S0; go_grown))
          (first | (go_at_call 94; refine (arrive_yes_any _ _ L _ _ cl g q h.depart lg to _ (hGq.ext (by go_grown)) hV hqe (hLq.ext RLeg.stable (by go_grown)) hlq hw1 HAR.out).mono ?_; rintro e w5 ⟨rfl, hb5⟩; have hb6 : Below wq.heap.size wq w5 := ext_trans (by go_grown) hb5; have hz6 := hb6.size; obtain ⟨hc5, hf5⟩ := bcell hb5; obtain ⟨r0, r1, r2, r3, r4, r5, r6, r7⟩ := keep8 hb6 S0))
        all_goals
          have hb7 : Below w.heap.size w w5 := ext_trans hbq hb6
          have hz7 := hb7.size
          have Bq5 := Bq.ext hb6
          have q0 : be < w5.heap.size := by omega
          have q1 : n17 < w5.heap.size := by omega
          have q2 : w.heap.size < w5.heap.size := by omega
          go_wp2_with fail
          go_quiet (fail)
          go_wp2
          go_roundw
          case rel =>
            refine ⟨n + 1, q.b, to, z + lg.cost, by omega, by go_num, rfl, rfl, rfl, by omega, by omega, Lib.hid H9.out.symm, below_drewN (by go_grown) _, ?_⟩
            first
              | exact (Bq5.alloc _).drewN _
              | exact ((((Bq5.far hg3 _).far hg3 _).far hg3 _).far hg3 _).drewN _
          case measure => simp [intOf]; omega
    · have hfin := Lib.hid (HS.out x y z (HI.out.symm.trans (by rw [drop_end (by omega)]; rfl)))
      go_wp2_with fail
      refine bodyPost_ret (results_tmp4 rfl _ _ _) rfl ?_
      exact ⟨by rw [hfin.out]; rfl, hb⟩
end Go.Proofs.Ytcgnalpcbcpmkaa
/- The walk of the law JourneyGoes: both Go's tell the same. -/
namespace Go.Proofs.Ytcgnalpcbcpmkaa
open Go.RowKit

theorem go_any (A A' Ah : Option Addr) (c c' ch : Nat) (g : GraphD) (v t : Int) (l : List HopD) (w : World) (hG : GraphAt w A c A' c' g) (hH : SlAt RHop 2 w Ah l) (hhl : l.length ≤ maxLen) :
    Calls Try.prog 36 #[gV A c A' c' g, .int .i64 v, .int .i64 t, .slice Ah l.length ch] w fun e w' => e = .returned (goV (goR g v t l)) ∧ Below w.heap.size w w' :=
  go_early A A' Ah c c' ch g v t l w hG hH hhl fun h0 h500 hal => go_main A A' Ah c c' ch g v t l w hG hH hhl h0 h500 hal
/-- Go's contract, its four results written out. -/
theorem go_tuple (A A' Ah : Option Addr) (c c' ch : Nat) (g : GraphD) (v t : Int) (l : List HopD) (w : World) (hG : GraphAt w A c A' c' g) (hH : SlAt RHop 2 w Ah l) (hhl : l.length ≤ maxLen) {a b d e : Int} (h : goR g v t l = (a, b, d, e)) :
    Calls Try.prog 36 #[gV A c A' c' g, .int .i64 v, .int .i64 t, .slice Ah l.length ch] w fun x w' => x = .returned (.tuple #[.int .i64 a, .int .i64 b, .int .i64 d, .int .i64 e]) ∧ Below w.heap.size w w' :=
  (go_any A A' Ah c c' ch g v t l w hG hH hhl).mono fun x w' ⟨he, hb⟩ => ⟨by rw [he, h]; rfl, hb⟩
theorem refGo_tuple (A A' Ah : Option Addr) (c c' ch : Nat) (g : GraphD) (v t : Int) (l : List HopD) (w : World) (hG : GraphAt w A c A' c' g) (hH : SlAt RHop 2 w Ah l) (hhl : l.length ≤ maxLen) {a b d e : Int} (h : goR g v t l = (a, b, d, e)) :
    Calls Try.prog 37 #[gV A c A' c' g, .int .i64 v, .int .i64 t, .slice Ah l.length ch] w fun x w' => x = .returned (.tuple #[.int .i64 a, .int .i64 b, .int .i64 d, .int .i64 e]) ∧ Below w.heap.size w w' :=
  (refGo_any A A' Ah c c' ch g v t l w hG hH hhl).mono fun x w' ⟨he, hb⟩ => ⟨by rw [he, h]; rfl, hb⟩

set_option maxHeartbeats 1000000 in
theorem journeyGoes_calls (A A' : Option Addr) (c c' : Nat) (g : GraphD) {w0 : World} (hG : GraphAt w0 A c A' c' g) (v : Int) (_hv : I64 v) (t : Int) (_ht : I64 t) (Ah : Option Addr) (ch : Nat) (l : List HopD) (hl : l.length ≤ ch) (hm : ch ≤ maxLen) (hH : SlAt RHop 2 w0 Ah l) :
    Calls Try.prog 5 #[gV A c A' c' g, .int .i64 v, .int .i64 t, .slice Ah l.length ch] w0 fun e w' => e = .returned (.bool true) ∧ Below w0.heap.size w0 w' := by
  have hhl := Nat.le_trans hl hm
  obtain ⟨a, b, d, e, hr⟩ : ∃ a b d e, goR g v t l = (a, b, d, e) := ⟨_, _, _, _, rfl⟩
  have HR := Lib.hid hr
  clear hr
  go_enter Try.func5, Try.ntmps5
  go_wp2_with fail
  refine (go_tuple _ _ _ _ _ _ g v t l _ (hG.ext (by go_grown)) (hH.ext RHop.stable (by go_grown)) hhl HR.out).mono ?_
  rintro x w1 ⟨rfl, hb1⟩
  obtain ⟨B0, c1, c2, c3⟩ := (Blk.new w0 28 (gC A c A' c' g)).go hb1
  have hb2 : Below w0.heap.size w0 w1 := ext_trans (by go_grown) hb1
  go_wp2_with fail
  refine (refGo_tuple _ _ _ _ _ _ g v t l _ (hG.ext hb2) (hH.ext RHop.stable hb2) hhl HR.out).mono ?_
  rintro x w2 ⟨rfl, hb3⟩
  go_wp2_with fail
  go_ret
  exact ⟨by simp, ext_trans hb2 hb3⟩
end Go.Proofs.Ytcgnalpcbcpmkaa
