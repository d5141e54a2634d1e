/- Several texts in one: Text, Line, BuildS, Check. -/
import Derived.Lib.ItoaLen
import Derived.Shelf.Strings.BuilderK
import Derived.Lib.FrozenHead2
import Derived.Lib.OthersKept
import Derived.Test.YtdpibehpmghghaaDoorProg
import Derived.Test.YtdpibehpmghghaaDoorBdf0a653a3c9
import Derived.Test.YtdpibehpmghghaaDoorBd3df84f4302
import Derived.Test.YtdpibehpmghghaaDoorBd716114d8ce
import Derived.Test.YtdpibehpmghghaaDoorBd3ad2f3bfb1
/- A graph as a text; no program in sight. -/
namespace Go.Proofs.YtdpibehpmghghaaDoor
open Go.Lib

/-- Numbers, each with a blank ahead. -/
def numsT (l : List Int) : List UInt8 := l.flatMap fun n => 32 :: itoa n
theorem numsT_nil : numsT [] = [] := rfl
theorem numsT_snoc (l : List Int) (n : Int) : numsT (l ++ [n]) = numsT l ++ (32 :: itoa n) := by simp [numsT]
theorem numsT_take {l : List Int} {k : Nat} {n : Int} (h : l[k]? = some n) : numsT (l.take (k + 1)) = numsT (l.take k) ++ (32 :: itoa n) := by
  rw [List.take_add_one, h]
  exact numsT_snoc _ _
theorem numsT_len : ∀ {l : List Int}, (∀ n ∈ l, I64 n) → (numsT l).length ≤ l.length * 22
  | [], _ => by simp [numsT]
  | n :: l, h => by
    have h1 := itoa_length_le n (h n (by simp)).1 (h n (by simp)).2
    have h2 := numsT_len (l := l) fun m hm => h m (by simp [hm])
    have e : numsT (n :: l) = (32 :: itoa n) ++ numsT l := rfl
    rw [e, List.length_append, List.length_cons, List.length_cons]
    omega
/-- A line of a word and numbers. -/
def lineT (word : List UInt8) (l : List Int) : List UInt8 := word ++ numsT l ++ [10]
theorem lineT_len {word : List UInt8} {l : List Int} (h : ∀ n ∈ l, I64 n) : (lineT word l).length ≤ word.length + l.length * 22 + 1 := by
  have := numsT_len h
  unfold lineT
  rw [List.length_append, List.length_append]
  simp only [List.length_cons, List.length_nil]
  omega
def wTime : List UInt8 := [116, 105, 109, 101]
def wVertex : List UInt8 := [118, 101, 114, 116, 101, 120]
def wEdge : List UInt8 := [101, 100, 103, 101]
def wLeg : List UInt8 := [108, 101, 103]
def vertexT (x : IvlD) : List UInt8 := lineT wVertex [x.f, x.t]
def legT (x : LegD) : List UInt8 := lineT wLeg [x.f, x.t, x.time, x.cost]
def edgeT (x : EdgeD) : List UInt8 := lineT wEdge [x.a, x.b] ++ x.legs.flatMap legT
/-- A graph's text. -/
def graphT (g : GraphD) : List UInt8 := lineT wTime [g.h] ++ g.lives.flatMap vertexT ++ g.edges.flatMap edgeT
theorem flat_take {α : Type} {f : α → List UInt8} {l : List α} {k : Nat} {x : α} (h : l[k]? = some x) : (l.take (k + 1)).flatMap f = (l.take k).flatMap f ++ f x := by
  rw [List.take_add_one, h]
  simp
theorem flat_len {α : Type} {f : α → List UInt8} {m : Nat} : ∀ {l : List α}, (∀ x ∈ l, (f x).length ≤ m) → (l.flatMap f).length ≤ l.length * m
  | [], _ => by simp
  | x :: l, h => by
    have h1 := h x (by simp)
    have h2 := flat_len (l := l) fun y hy => h y (by simp [hy])
    rw [List.flatMap_cons, List.length_append, List.length_cons, Nat.succ_mul]
    omega
end Go.Proofs.YtdpibehpmghghaaDoor
/- The walks of graph.line and of the document's row. -/
namespace Go.Proofs.YtdpibehpmghghaaDoor
open Go.RowKit Go.Shelf

set_option maxRecDepth 100000 in
set_option maxHeartbeats 2000000 in
theorem gLine_any (word : List UInt8) (A : Option Addr) (c : Nat) (l : List Int) (w : World) (hA : IntsAt w A c l) (hw : word.length ≤ 100) (hl : l.length ≤ 10) (ht : ITab w) :
    Calls Tryd.prog 33 #[.string (bs word), .slice A l.length c] w fun e w' => e = .returned (.string (bs (lineT word l))) ∧ Below w.heap.size w w' := by
  have hi := hA.i64
  have HI := Lib.hid hi
  have HA := Lib.hid hA; have HT := Lib.hid ht
  have m1 := hA.len
  clear hA ht hi
  go_enter Tryd.func33, Tryd.ntmps33
  go_wp2_with fail
  go_loopw [0, 9] (fun s v wr => ∃ k : Nat, k ≤ l.length ∧ v = .int .i64 k ∧ s = .string (bs (word ++ numsT (l.take k))) ∧ Below w.heap.size w wr) (fun _ v _ => l.length - (intOf v).toNat)
  case atStart => exact ⟨0, Nat.zero_le _, rfl, by simp [numsT], Below.refl _ _⟩
  case round =>
    obtain ⟨k, hk, rfl, rfl, hb⟩ := hrel
    have hnl := numsT_len (l := l.take k) fun n hn => HI.out n (List.mem_of_mem_take hn)
    have htl : (l.take k).length ≤ 10 := by rw [List.length_take]; omega
    obtain ⟨tx, htx⟩ : ∃ tx, word ++ numsT (l.take k) = tx := ⟨_, rfl⟩
    have HTX := Lib.hid htx
    have hxl : tx.length ≤ 400 := by rw [← htx, List.length_append]; omega
    rw [htx]
    by_cases hlt : k < l.length
    case neg =>
      obtain rfl : k = l.length := by omega
      clear htx hnl htl
      go_wp2_with fail
      go_ret
      refine ⟨?_, hb⟩
      have e : lineT word l = tx ++ [10] := by unfold lineT; rw [← HTX.out, List.take_length]
      rw [e]
      rfl
    case pos =>
      obtain ⟨n, hn⟩ := get_lt hlt
      obtain ⟨b, off, rfl, hb0, x0⟩ := HA.out.get hn
      rw [← hb.cell (by exact hb0)] at x0
      have hni := HI.out n (List.mem_of_getElem? hn)
      have hit := fun W (h : ITab W) => itoa_any n hni W h
      have hil := Lib.itoa_length_le n hni.1 hni.2
      obtain ⟨tn, htn⟩ : ∃ tn, Lib.itoa n = tn := ⟨_, rfl⟩
      rw [htn] at hil
      simp only [htn] at hit
      have HIT := Lib.hid hit
      have HN : Hid (word ++ numsT (l.take (k + 1)) = tx ++ (32 :: tn)) := Lib.hid (by rw [numsT_take hn, ← List.append_assoc, htx, htn])
      have HTW := Lib.hid (HT.out.ext hb)
      clear htx hnl htl hn htn hit
      go_wp2_with fail
      refine (HIT.out _ HTW.out).mono ?_
      rintro e w3 ⟨rfl, hb3⟩
      go_wp2_with fail
      go_roundw
      case rel => exact ⟨k + 1, by omega, by go_num, by rw [HN.out]; rfl, ext_trans hb hb3⟩
      case measure => simp [intOf]; omega
set_option maxRecDepth 100000 in
set_option maxHeartbeats 2000000 in
theorem rRow_any (word : List UInt8) (A : Option Addr) (c : Nat) (l : List Int) (w : World) (hA : IntsAt w A c l) (hw : word.length ≤ 100) (hl : l.length ≤ 10) (ht : ITab w) :
    Calls Tryd.prog 31 #[.string (bs word), .slice A l.length c] w fun e w' => e = .returned (.string (bs (lineT word l))) ∧ Below w.heap.size w w' := by
  have hi := hA.i64
  have HI := Lib.hid hi
  have HA := Lib.hid hA; have HT := Lib.hid ht
  have m1 := hA.len
  clear hA ht hi
  go_enter Tryd.func31, Tryd.ntmps31
  go_wp2_with fail
  go_loopw [0, 5] (fun s v wr => ∃ k : Nat, k ≤ l.length ∧ v = .int .i64 k ∧ s = .string (bs (word ++ numsT (l.take k))) ∧ Below w.heap.size w wr) (fun _ v _ => l.length - (intOf v).toNat)
  case atStart => exact ⟨0, Nat.zero_le _, rfl, by simp [numsT], Below.refl _ _⟩
  case round =>
    obtain ⟨k, hk, rfl, rfl, hb⟩ := hrel
    have hnl := numsT_len (l := l.take k) fun n hn => HI.out n (List.mem_of_mem_take hn)
    have htl : (l.take k).length ≤ 10 := by rw [List.length_take]; omega
    obtain ⟨tx, htx⟩ : ∃ tx, word ++ numsT (l.take k) = tx := ⟨_, rfl⟩
    have HTX := Lib.hid htx
    have hxl : tx.length ≤ 400 := by rw [← htx, List.length_append]; omega
    rw [htx]
    by_cases hlt : k < l.length
    case neg =>
      obtain rfl : k = l.length := by omega
      clear htx hnl htl
      go_wp2_with fail
      go_ret
      refine ⟨?_, hb⟩
      have e : lineT word l = tx ++ [10] := by unfold lineT; rw [← HTX.out, List.take_length]
      rw [e]
      rfl
    case pos =>
      obtain ⟨n, hn⟩ := get_lt hlt
      obtain ⟨b, off, rfl, hb0, x0⟩ := HA.out.get hn
      rw [← hb.cell (by exact hb0)] at x0
      have hni := HI.out n (List.mem_of_getElem? hn)
      have hit := fun W (h : ITab W) => itoa_any n hni W h
      have hil := Lib.itoa_length_le n hni.1 hni.2
      obtain ⟨tn, htn⟩ : ∃ tn, Lib.itoa n = tn := ⟨_, rfl⟩
      rw [htn] at hil
      simp only [htn] at hit
      have HIT := Lib.hid hit
      have HN : Hid (word ++ numsT (l.take (k + 1)) = tx ++ (32 :: tn)) := Lib.hid (by rw [numsT_take hn, ← List.append_assoc, htx, htn])
      have HTW := Lib.hid (HT.out.ext hb)
      clear htx hnl htl hn htn hit
      go_wp2_with fail
      refine (HIT.out _ HTW.out).mono ?_
      rintro e w3 ⟨rfl, hb3⟩
      go_wp2_with fail
      go_roundw
      case rel => exact ⟨k + 1, by omega, by go_num, by rw [HN.out]; rfl, ext_trans hb hb3⟩
      case measure => simp [intOf]; omega
end Go.Proofs.YtdpibehpmghghaaDoor
/- The walks of strings.Builder's copyCheck and WriteString at this dump (turned from the shelf's proofs; the dump's copyCheck ends in a refusal where the shelf's panics). -/
namespace Go.Proofs.YtdpibehpmghghaaDoor
open Go.Proofs Go.Shelf Go.RowKit Go.Sort

theorem bld_size : (Tryd.prog.info? 81).map (·.size) = some 2 := Txt.Builder_Extra_169.sizeBuilder
theorem bld_lies : liesAt Tryd.prog Tryd.prog.depth 81 (2 / Tryd.prog.cellsOf 81) 0 81 1 = true := by kernel_rfl
theorem bld_byte : (Tryd.prog.info? 5).map (fun i => (i.zero, i.size, i.bytes)) = some (some (.int .u8 0), 1, 1) := Txt.Builder_Extra_169.infoByte
set_option maxHeartbeats 1000000 in
set_option maxRecDepth 100000 in
theorem copyCheck_fresh (b : Nat) (w : World) (h0 : w.cell? ⟨b, 0, none⟩ = some (.pointer none)) (hsh : w.shape? b = some (81, 2)) (hfz : w.frozen? ⟨b, 0, none⟩ = false) :
    Calls Tryd.prog 72 #[.pointer (some ⟨b, 0, none⟩)] w fun e w' => e = .returned (.tuple #[]) ∧ w' = w.setCell ⟨b, 0, none⟩ (.pointer (some ⟨b, 0, none⟩)) := by
  obtain ⟨j, hj, hjs⟩ := Option.map_eq_some_iff.1 bld_size
  go_enter Tryd.func72, Tryd.ntmps72
  go_wp2
  rw [Lib.run_to_unsafe w ⟨b, 0, none⟩ Tryd.underlying78 Tryd.underlying155 hj (by rw [hjs]; decide) hsh (Nat.zero_lt_succ 1)]
  simp only [Result.andThen]
  rw [Oper.upon_value]
  go_wp2
  rw [run_callFunc_extern Tryd.func93 (by kernel_rfl) (by kernel_rfl) (by kernel_rfl) (e := Extern.AbiNoEscape.same) (by kernel_rfl)]
  rw [Lib.run_noEscape]
  simp only [Result.andThen]
  rw [Oper.upon_value]
  go_wp2
  rw [Lib.run_from_unsafe w ⟨b, 0, none⟩ Tryd.underlying155 Tryd.underlying78 hj hsh bld_lies]
  simp only [Result.andThen]
  rw [Oper.upon_value]
  go_wp2
  go_end0
  exact ⟨rfl, rfl⟩
set_option maxHeartbeats 1000000 in
set_option maxRecDepth 100000 in
theorem copyCheck_used (b : Nat) (w : World) (h0 : w.cell? ⟨b, 0, none⟩ = some (.pointer (some ⟨b, 0, none⟩))) :
    Calls Tryd.prog 72 #[.pointer (some ⟨b, 0, none⟩)] w fun e w' => e = .returned (.tuple #[]) ∧ w' = w := by
  obtain ⟨j, hj, hjs⟩ := Option.map_eq_some_iff.1 bld_size
  have hne := fun W => Lib.run_neq_ptr_same (P := Tryd.prog) W (tp := 78) ⟨b, 0, none⟩ Tryd.underlying78 hj
  go_enter Tryd.func72, Tryd.ntmps72
  go_wp2
  go_end0
  exact ⟨rfl, rfl⟩
/-- A builder that a call has made, in a block b, that holds bytes. -/
abbrev BAt (B b : Nat) (l : List UInt8) (w : World) : Prop := Lib.IsBuilderF 81 5 B b (Lib.byteCells l) w
theorem BAtF.lt {B b : Nat} {p : Value} {l : List Value} {w : World} (h : Lib.BuilderAtF 81 5 B b p l w) : b < w.heap.size := by
  obtain ⟨_, v, hb, _⟩ := h
  rcases Nat.lt_or_ge b w.heap.size with h' | h'
  · exact h'
  · simp [Array.getElem?_eq_none h'] at hb
theorem BAt.lt {B b : Nat} {l : List UInt8} {w : World} (h : BAt B b l w) : b < w.heap.size := h.elim BAtF.lt BAtF.lt
theorem BAtF.ext {B b : Nat} {p : Value} {l : List Value} {w w' : World} (h : Lib.BuilderAtF 81 5 B b p l w) (hb : Below w.heap.size w w') : Lib.BuilderAtF 81 5 B b p l w' := by
  have hl := BAtF.lt h
  obtain ⟨hB, v, hk, ⟨h1, h2⟩, hne⟩ := h
  refine ⟨hB, v, (hb.block b hl).trans hk, ⟨h1, ?_⟩, hne⟩
  rcases h2 with h2 | ⟨g, cap, cur, fz, hv, hg, hh, r⟩
  · exact .inl h2
  · exact .inr ⟨g, cap, cur, fz, hv, hg, (hb.block g (Array.getElem?_eq_some_iff.1 hh).1).trans hh, r⟩
theorem BAt.ext {B b : Nat} {l : List UInt8} {w w' : World} (h : BAt B b l w) (hb : Below w.heap.size w w') : BAt B b l w' := h.elim (fun h => .inl (BAtF.ext h hb)) (fun h => .inr (BAtF.ext h hb))
theorem copyCheck_any (B b : Nat) (l : List UInt8) (w : World) (h : BAt B b l w) :
    Calls Tryd.prog 72 #[.pointer (some ⟨b, 0, none⟩)] w fun e w' => e = .returned (.tuple #[]) ∧ (Lib.BuilderAtF 81 5 B b (.pointer (some ⟨b, 0, none⟩)) (Lib.byteCells l) w' ∧ Below B w w' ∧ Lib.OthersKept 5 (some b) w w') := by
  rcases h with h | h
  · refine (copyCheck_fresh b w h.cell0 h.shape h.frozen0).mono ?_
    rintro e w' ⟨rfl, rfl⟩
    exact ⟨rfl, h.used _, (Below.refl B w).setCell (p := ⟨b, 0, none⟩) h.1 _, (Lib.OthersKept.refl _ _ w).setCell ⟨b, 0, none⟩ rfl _⟩
  · refine (copyCheck_used b w h.cell0).mono ?_
    rintro e w' ⟨rfl, rfl⟩
    exact ⟨rfl, h, Below.refl B _, Lib.OthersKept.refl _ _ _⟩
set_option maxHeartbeats 2000000 in
set_option maxRecDepth 100000 in
theorem writeString_any (B b : Nat) (l s : List UInt8) (w : World) (h : BAt B b l w) (hlen : l.length + s.length ≤ 140737488355328) (hBw : B ≤ w.heap.size) :
    Calls Tryd.prog 32 #[.pointer (some ⟨b, 0, none⟩), .string ⟨s.toArray⟩] w fun e w' => e = .returned (.tuple #[.int .i64 s.length, .nilIface]) ∧ (BAt B b (l ++ s) w' ∧ Below B w w' ∧ Lib.OthersKept 5 (some b) w w') := by
  obtain ⟨i0, hi, hzz⟩ := Option.map_eq_some_iff.1 bld_byte
  simp only [Prod.mk.injEq] at hzz
  obtain ⟨hz0, hz1, hz2⟩ := hzz
  have hss : (⟨s.toArray⟩ : ByteArray).size = s.length := by simp [ByteArray.size]
  have hbl : (Lib.byteCells l).length = l.length := Lib.byteCells_length _
  go_enter Tryd.func32, Tryd.ntmps32
  go_wp2_with (go_at_call 72; refine (copyCheck_any B b l _ h).mono ?_)
  rintro e w1 ⟨rfl, h1, hb1, hk1⟩
  obtain ⟨hB, v, hbk, hown, hne⟩ := h1
  have c0 : w1.cell? ⟨b, 0, none⟩ = some (.pointer (some ⟨b, 0, none⟩)) := by rw [Lib.cell_of_heap hbk]; rfl
  have c1 : w1.cell? ⟨b, 1, none⟩ = some v := by rw [Lib.cell_of_heap hbk]; rfl
  go_wp2_with (at_builtin; refine Lib.wpList_append_own_stringF _ rfl _ _ 79 9 rfl B 5 i0 Tryd.underlying79 Tryd.underlying9 hi hz0 hz1 hz2 _ _ _ rfl hown ⟨s.toArray⟩ rfl ?c3 ?c4 ?c5 ?_)
  case c3 => rw [hss, hbl]; unfold maxLen; omega
  case c4 => rw [hss, hbl]; omega
  case c5 => have := hb1.size; omega
  intro v' w2 hown' hgrow _
  have hlt : b < w1.heap.size := by
    rcases Nat.lt_or_ge b w1.heap.size with h' | h'
    · exact h'
    · simp [Array.getElem?_eq_none h'] at hbk
  have hb2 : w2.heap[b]? = some (.cells #[.pointer (some ⟨b, 0, none⟩), v] 81 (0, 0)) := by
    rw [hgrow.block b hlt (fun e => hne e.symm)]
    exact hbk
  have d0 : w2.cell? ⟨b, 0, none⟩ = some (.pointer (some ⟨b, 0, none⟩)) := by rw [Lib.cell_of_heap hb2]; rfl
  have d1 : w2.cell? ⟨b, 1, none⟩ = some v := by rw [Lib.cell_of_heap hb2]; rfl
  have f1 : w2.frozen? ⟨b, 1, none⟩ = false := Lib.frozen_of_heap hb2 1
  obtain ⟨ao, n', cap, rfl⟩ : ∃ ao n' cap, v' = .slice ao n' cap := by
    rcases hown'.2 with ⟨hv, _⟩ | ⟨g, cap, cur, fz, hv, _⟩
    · exact ⟨_, _, _, hv⟩
    · exact ⟨_, _, _, hv⟩
  go_wp2
  go_ret2
  have e9 : Lib.byteCells (l ++ s) = Lib.byteCells l ++ Lib.strCells ⟨s.toArray⟩ := by simp [Lib.byteCells, Lib.strCells]
  refine ⟨by first | rfl | simp [hss], .inr ?_, ?_, (hk1.grown hgrow (Lib.ownsRowF_kind hown)).setCell ⟨b, 1, none⟩ rfl _⟩
  · rw [e9]
    exact Lib.BuilderAtF.put (T := 81) (e := 5) hB hb2 (bs' := Lib.byteCells l ++ Lib.strCells ⟨s.toArray⟩) (by rw [List.length_append, Lib.strCells_length, hbl, hss]; exact hown') (by decide)
  · exact (hb1.grown hgrow (by have := hb1.size; omega) (fun k hk => (hown.lt k hk).1)).setCell (p := ⟨b, 1, none⟩) hB _
end Go.Proofs.YtdpibehpmghghaaDoor
/- The walks of the graph's check, the program's and the document's. -/
namespace Go.Proofs.YtdpibehpmghghaaDoor
open Go.RowKit

set_option maxHeartbeats 400000 in
theorem leg_any (l : LegD) (h : Int) (w : World) : Calls Tryd.prog 73 #[legV l, .int .i64 h] w fun e w' => e = .returned (.bool (legOk l h)) ∧ Below w.heap.size w w' := by
  go_enter Tryd.func73, Tryd.ntmps73
  go_wp2
  all_goals go_ret
  all_goals (refine ⟨ret_bool ?_, ?_⟩ <;> first | (rw [Bool.eq_iff_iff]; simp [legOk]; omega) | go_grown)

theorem edgeErr_far {h n : Int} {x : EdgeD} (hh : inB x.a 0 (n - 1) = false ∨ inB x.b 0 (n - 1) = false) : edgeErr h n x = 4 := by unfold edgeErr; rw [if_pos hh]
theorem edgeErr_large {h n : Int} {x : EdgeD} (h1 : inB x.a 0 (n - 1) = true) (h2 : inB x.b 0 (n - 1) = true) (h3 : 6 < x.legs.length) : edgeErr h n x = 2 := by
  unfold edgeErr; rw [if_neg (by simp [h1, h2]), if_pos h3]
theorem edgeErr_legs {h n : Int} {x : EdgeD} (h1 : inB x.a 0 (n - 1) = true) (h2 : inB x.b 0 (n - 1) = true) (h3 : ¬ 6 < x.legs.length) : edgeErr h n x = legsErr h none x.legs := by
  unfold edgeErr; rw [if_neg (by simp [h1, h2]), if_neg h3]
theorem inB_true {n lo hi : Int} (h1 : lo ≤ n) (h2 : n ≤ hi) : inB n lo hi = true := by simp [inB, h1, h2]
theorem inB_false {n lo hi : Int} (h : n < lo ∨ hi < n) : inB n lo hi = false := by simp [inB]; omega
theorem within_yes (n lo hi : Int) (w : World) (h : lo ≤ n ∧ n ≤ hi) : Calls Tryd.prog 35 #[.int .i64 n, .int .i64 lo, .int .i64 hi] w fun e w' => e = .returned (.bool true) ∧ w = w' := by
  obtain ⟨h1, h2⟩ := h
  go_enter Tryd.func35, Tryd.ntmps35
  go_wp2
  go_ret
  exact ⟨ret_bool (by simp), rfl⟩
theorem within_no (n lo hi : Int) (w : World) (h : n < lo ∨ hi < n) : Calls Tryd.prog 35 #[.int .i64 n, .int .i64 lo, .int .i64 hi] w fun e w' => e = .returned (.bool false) ∧ w = w' := by
  go_enter Tryd.func35, Tryd.ntmps35
  go_wp2
  all_goals go_ret
  all_goals exact ⟨ret_bool (by simp; try omega), rfl⟩

set_option maxHeartbeats 1000000 in
theorem edge_any (A A' L : Option Addr) (c c' cl : Nat) (g : GraphD) (x : EdgeD) (w : World) (hg : g.lives.length ≤ maxLen) (hL : SlAt RLeg 4 w L x.legs) (hl : x.legs.length ≤ maxLen) :
    Calls Tryd.prog 40 #[gV A c A' c' g, edgeV L cl x] w fun e w' => e = .returned (.int .i64 (edgeErr g.h g.lives.length x)) ∧ Below w.heap.size w w' := by
  unfold maxLen at hg hl
  by_cases h1 : 0 ≤ x.a ∧ x.a ≤ (g.lives.length : Int) - 1
  case neg =>
    go_enter Tryd.func40, Tryd.ntmps40
    go_wp2_with (go_at_call 35; refine (within_no _ _ _ _ (by omega)).mono ?_; rintro e w' ⟨rfl, rfl⟩)
    go_ret
    exact ⟨ret_int (edgeErr_far (.inl (inB_false (by omega)))).symm, by go_grown⟩
  by_cases h2 : 0 ≤ x.b ∧ x.b ≤ (g.lives.length : Int) - 1
  case neg =>
    go_enter Tryd.func40, Tryd.ntmps40
    go_wp2_with (go_at_call 35; first | (refine (within_yes _ _ _ _ (by omega)).mono ?_; rintro e w' ⟨rfl, rfl⟩) | (refine (within_no _ _ _ _ (by omega)).mono ?_; rintro e w' ⟨rfl, rfl⟩))
    go_ret
    exact ⟨ret_int (edgeErr_far (.inr (inB_false (by omega)))).symm, by go_grown⟩
  have i1 := inB_true h1.1 h1.2
  have i2 := inB_true h2.1 h2.2
  have I1 := Lib.hid i1
  have I2 := Lib.hid i2
  clear i1 i2
  by_cases h3 : 6 < x.legs.length
  · go_enter Tryd.func40, Tryd.ntmps40
    go_wp2_with (go_at_call 35; refine (within_yes _ _ _ _ (by omega)).mono ?_; rintro e w' ⟨rfl, rfl⟩)
    go_ret
    exact ⟨ret_int (edgeErr_large I1.out I2.out h3).symm, by go_grown⟩
  have e0 := edgeErr_legs (h := g.h) I1.out I2.out h3
  rw [e0]
  clear e0 I1 I2
  obtain ⟨b, off, hL⟩ := hL
  go_enter Tryd.func40, Tryd.ntmps40
  go_wp2_with (go_at_call 35; refine (within_yes _ _ _ _ (by omega)).mono ?_; rintro e w' ⟨rfl, rfl⟩)
  go_loopw [32] (fun v wr => ∃ k : Nat, k ≤ x.legs.length ∧ v = .int .i64 k ∧ legsErr g.h (legAhead x.legs k) (x.legs.drop k) = legsErr g.h none x.legs ∧ Below w.heap.size w wr ∧ Blk wr w.heap.size 25 (gC A c A' c' g) ∧ Blk wr (w.heap.size + 1) 74 #[.int .i64 x.a, .int .i64 x.b, .slice L x.legs.length cl])
    (fun v _ => x.legs.length - (intOf v).toNat)
  case atStart => exact ⟨0, Nat.zero_le _, rfl, rfl, by go_grown, (Blk.new _ _ _).alloc _, Blk.new_ (by simp)⟩
  case round =>
    obtain ⟨k, hk, rfl, hinv, hb, hB1, hB2⟩ := hrel
    obtain ⟨b1, b2, b3⟩ := hB1.facts
    obtain ⟨d1, d2, d3⟩ := hB2.facts
    by_cases hlt : k < x.legs.length
    · obtain ⟨y, hy⟩ := get_lt hlt
      obtain ⟨rfl, hb0, ⟨⟨x0, x1, x2, x3⟩, _⟩⟩ := hL k y hy
      have hd := drop_cons hy
      rw [hd] at hinv
      have HI := Lib.hid hinv
      have HY := Lib.hid hy
      clear hinv hy hd
      unfold cellIs at x0 x1 x2 x3
      rw [← hb.cell (by exact hb0)] at x0 x1 x2 x3
      by_cases hok : legOk y g.h = true
      case neg =>
        have hok' : legOk y g.h = false := by simpa using hok
        clear hL hok
        go_wp2_with (first
            | (go_at_call 73; refine (leg_any y _ _).mono ?_; rintro e w1 ⟨rfl, hb1⟩))
        go_ret
        exact ⟨ret_int (by rw [← HI.out, legsErr_bad hok']), ext_trans (ext_alloc hb _) hb1⟩
      case pos =>
        by_cases hk0 : k ≤ 0
        · clear hL
          have hg0 : decide (0 < k) = false := by simp; omega
          go_wp2_with (first
            | (go_at_call 73; refine (leg_any y _ _).mono ?_; rintro e w1 ⟨rfl, hb1⟩; obtain ⟨q1, q2, q3⟩ := ((hB2.alloc _).ext hb1).facts; obtain ⟨r1, r2, r3⟩ := ((Blk.new wr 76 _).ext hb1).facts))
          go_quiet (fail)
          go_wp2
          go_roundw
          case rel =>
            obtain rfl : k = 0 := by omega
            refine ⟨1, by omega, by go_num, ?_, below_drewN (ext_trans (ext_alloc hb _) hb1) _, ((hB1.alloc _).ext hb1).drewN _, ((hB2.alloc _).ext hb1).drewN _⟩
            rw [← HI.out, legAhead_of HY.out]
            exact (legsErr_first hok).symm
          case measure => simp [intOf]; omega
        · obtain ⟨j, rfl⟩ : ∃ j, k = j + 1 := ⟨k - 1, by omega⟩
          obtain ⟨z, hz⟩ := get_lt (show j < x.legs.length by omega)
          obtain ⟨_, hb0, ⟨⟨z0, z1, z2, z3⟩, _⟩⟩ := hL j z hz
          have HZ := Lib.hid hz
          clear hL hz
          have hg1 : (0 : Int) < (j : Int) + 1 := by omega
          by_cases hlf : y.f < z.t
          · go_wp2_with (first
              | (go_at_call 73; refine (leg_any y _ _).mono ?_; rintro e w1 ⟨rfl, hb1⟩; obtain ⟨q1, q2, q3⟩ := ((hB2.alloc _).ext hb1).facts; obtain ⟨r1, r2, r3⟩ := ((Blk.new wr 76 _).ext hb1).facts;
                 have z1' := z1.now (ext_trans (ext_alloc hb _) hb1)))
            go_quiet (fail)
            go_wp2
            go_ret
            exact ⟨ret_int (by rw [← HI.out, legAhead_of HZ.out, legsErr_form hok hlf]), below_drewN (ext_trans (ext_alloc hb _) hb1) _⟩
          · go_wp2_with (first
              | (go_at_call 73; refine (leg_any y _ _).mono ?_; rintro e w1 ⟨rfl, hb1⟩; obtain ⟨q1, q2, q3⟩ := ((hB2.alloc _).ext hb1).facts; obtain ⟨r1, r2, r3⟩ := ((Blk.new wr 76 _).ext hb1).facts;
                 have z1' := z1.now (ext_trans (ext_alloc hb _) hb1)))
            go_quiet (fail)
            go_wp2
            go_roundw
            case rel =>
              refine ⟨j + 1 + 1, by omega, by go_num, ?_, below_drewN (ext_trans (ext_alloc hb _) hb1) _, ((hB1.alloc _).ext hb1).drewN _, ((hB2.alloc _).ext hb1).drewN _⟩
              rw [← HI.out, legAhead_of HY.out, legAhead_of HZ.out, legsErr_next hok (by omega)]
            case measure => simp [intOf]; omega
    · go_wp2
      go_ret
      exact ⟨ret_int (by rw [← hinv, drop_end (by omega)]; cases k <;> rfl), hb⟩

set_option maxHeartbeats 1000000 in
theorem check_any (A A' : Option Addr) (c c' : Nat) (g : GraphD) (w : World) (hG : GraphAt w A c A' c' g) :
    Calls Tryd.prog 14 #[gV A c A' c' g] w fun e w' => e = .returned (.int .i64 (graphErr g)) ∧ Below w.heap.size w w' := by
  have m1 : g.lives.length ≤ 9223372036854775807 := Nat.le_trans hG.lc hG.cm
  have m2 : g.edges.length ≤ 9223372036854775807 := Nat.le_trans hG.lc' hG.cm'
  by_cases h1 : 1 ≤ g.h ∧ g.h ≤ 100
  case neg =>
    go_enter Tryd.func14, Tryd.ntmps14
    go_wp2_with (go_at_call 35; refine (within_no _ _ _ _ (by omega)).mono ?_; rintro e w' ⟨rfl, rfl⟩)
    go_ret
    exact ⟨ret_int (graphErr_h (inB_false (by omega))).symm, by go_grown⟩
  have I1 := Lib.hid (inB_true h1.1 h1.2)
  by_cases h2 : 12 < g.lives.length
  · go_enter Tryd.func14, Tryd.ntmps14
    go_wp2_with (go_at_call 35; refine (within_yes _ _ _ _ (by omega)).mono ?_; rintro e w' ⟨rfl, rfl⟩)
    go_ret
    exact ⟨ret_int (graphErr_large I1.out (by omega)).symm, by go_grown⟩
  by_cases h3 : 30 < g.edges.length
  · go_enter Tryd.func14, Tryd.ntmps14
    go_wp2_with (go_at_call 35; refine (within_yes _ _ _ _ (by omega)).mono ?_; rintro e w' ⟨rfl, rfl⟩)
    go_ret
    exact ⟨ret_int (graphErr_large I1.out (by omega)).symm, by go_grown⟩
  obtain ⟨b, off, hL⟩ := hG.lives
  go_enter Tryd.func14, Tryd.ntmps14
  go_wp2_with (go_at_call 35; refine (within_yes _ _ _ _ (by omega)).mono ?_; rintro e w' ⟨rfl, rfl⟩)
  go_loopw [25] (fun v wr => ∃ k : Nat, k ≤ g.lives.length ∧ v = .int .i64 k ∧ Hid ((g.lives.drop k).all (lifeOk g.h) = g.lives.all (lifeOk g.h)) ∧ Below w.heap.size w wr ∧ Blk wr w.heap.size 25 (gC A c A' c' g))
    (fun v _ => g.lives.length - (intOf v).toNat)
  case atStart => exact ⟨0, Nat.zero_le _, rfl, Lib.hid rfl, by go_grown, Blk.new _ _ _⟩
  case round =>
    obtain ⟨k, hk, rfl, HI, hb, hB1⟩ := hrel
    obtain ⟨b1, b2, b3⟩ := hB1.facts
    by_cases hlt : k < g.lives.length
    · obtain ⟨y, hy⟩ := get_lt hlt
      obtain ⟨rfl, hb0, ⟨⟨x0, x1⟩, _⟩⟩ := hL k y hy
      have y0 := x0.now hb
      have y1 := x1.now hb
      have hd := drop_cons hy
      have HI2 : Hid ((y :: g.lives.drop (k + 1)).all (lifeOk g.h) = g.lives.all (lifeOk g.h)) := by rw [← hd]; exact HI
      clear hL hd hy HI x0 x1
      by_cases hok : 0 ≤ y.f ∧ y.f < y.t ∧ y.t ≤ g.h
      · obtain ⟨k1, k2, k3⟩ := hok
        go_wp2
        go_roundw
        case rel => exact ⟨k + 1, by omega, by go_num, Lib.hid ((all_next (lifeOk_true ⟨k1, k2, k3⟩)).symm.trans HI2.out), ext_alloc hb _, hB1.alloc _⟩
        case measure => simp [intOf]; omega
      · go_wp2
        all_goals go_ret
        all_goals exact ⟨ret_int (graphErr_life I1.out (by omega) (HI2.out.symm.trans (all_bad (lifeOk_false (by omega))))).symm, ext_alloc hb _⟩
    · have hall : g.lives.all (lifeOk g.h) = true := by rw [← HI.out, drop_end (by omega)]; rfl
      have e0 := graphErr_edges I1.out (by omega) hall
      have E0 := Lib.hid e0
      clear e0 hall HI hL
      obtain ⟨b', off', hE⟩ := hG.edges
      obtain ⟨wo, rfl⟩ : ∃ wo : World, wo = wr := ⟨_, rfl⟩
      go_wp2
      go_loopw [50] (fun v wr => ∃ k : Nat, k ≤ g.edges.length ∧ v = .int .i64 k ∧ Hid (edgesErr g.h g.lives.length (g.edges.drop k) = edgesErr g.h g.lives.length g.edges) ∧ Below w.heap.size w wr ∧ Blk wr w.heap.size 25 (gC A c A' c' g))
        (fun v _ => g.edges.length - (intOf v).toNat)
      case atStart => exact ⟨0, Nat.zero_le _, rfl, Lib.hid rfl, hb, hB1⟩
      case round =>
        clear b1 b2 b3
        obtain ⟨k', hk', rfl, HI', hb', hB1'⟩ := hrel
        obtain ⟨b1, b2, b3⟩ := hB1'.facts
        by_cases hlt' : k' < g.edges.length
        · obtain ⟨y, hy⟩ := get_lt hlt'
          obtain ⟨rfl, hb0, ⟨⟨x0, x1, L, cl, x2, hl1, hl2, hL⟩, _⟩⟩ := hE k' y hy
          have y0 := x0.now hb'
          have y1 := x1.now hb'
          have y2 := x2.now hb'
          have hd := drop_cons hy
          have HI2 : Hid (edgesErr g.h g.lives.length (y :: g.edges.drop (k' + 1)) = edgesErr g.h g.lives.length g.edges) := by rw [← hd]; exact HI'
          clear hE hd hy HI' x0 x1 x2
          have hll : y.legs.length ≤ maxLen := Nat.le_trans hl1 hl2
          by_cases hok : edgeErr g.h g.lives.length y = 0
          · have HO := Lib.hid hok
            go_wp2_with (go_at_call 40; refine (edge_any _ _ L c c' cl g y _ (Nat.le_trans hG.lc hG.cm) (hL.ext RLeg.stable (ext_alloc hb' _)) hll).mono ?_; rintro e w1 ⟨rfl, hb1⟩)
            go_roundw
            case rel => exact ⟨k' + 1, by omega, by go_num, Lib.hid ((edgesErr_next HO.out).symm.trans HI2.out), ext_trans (ext_alloc hb' _) hb1, (hB1'.alloc _).ext hb1⟩
            case measure => simp [intOf]; omega
          · have HO := Lib.hid hok
            go_wp2_with (go_at_call 40; refine (edge_any _ _ L c c' cl g y _ (Nat.le_trans hG.lc hG.cm) (hL.ext RLeg.stable (ext_alloc hb' _)) hll).mono ?_; rintro e w1 ⟨rfl, hb1⟩)
            go_ret
            exact ⟨ret_int (by rw [E0.out, ← HI2.out, edgesErr_bad HO.out]), ext_trans (ext_alloc hb' _) hb1⟩
        · go_wp2
          go_ret
          exact ⟨ret_int (by rw [E0.out, ← HI'.out, drop_end (by omega)]; rfl), hb'⟩
end Go.Proofs.YtdpibehpmghghaaDoor
