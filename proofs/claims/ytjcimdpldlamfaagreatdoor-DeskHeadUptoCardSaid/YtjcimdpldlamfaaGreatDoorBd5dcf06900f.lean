/- Several texts in one: DeskSplit, DeskAfter, Pieces, DeskTold, Ints, Early0, Fastest. -/
import Derived.BigRegion
import Derived.Deep.DeepCutAuto
import Derived.Test.YtjcimdpldlamfaaGreatDoorBdc202a36710
import Derived.Test.YtjcimdpldlamfaaGreatDoorBd811509897b
import Derived.Test.YtjcimdpldlamfaaGreatDoorBd069242f7b3
import Derived.Test.YtjcimdpldlamfaaGreatDoorBd96fdae9b88
import Derived.Test.YtjcimdpldlamfaaGreatDoorBd2f7b3eaff4
import Derived.Test.YtjcimdpldlamfaaGreatDoorBdeeb9e5e53a
import Derived.Test.YtjcimdpldlamfaaGreatDoorBd063e407aa3
import Derived.Test.YtjcimdpldlamfaaGreatDoorBd1a520ba1d5
import Derived.Test.YtjcimdpldlamfaaGreatDoorBdda53a8748f
/- SplitAfter by a byte, TrimSuffix of it: the lines of a text. -/
namespace Go.Proofs.YtjcimdpldlamfaaGreatDoor
open Go.Lib

/-- Pieces, each but the last with the byte behind it. -/
def afterP (c : UInt8) : List (List UInt8) → List (List UInt8)
 | [] => []
 | [p] => [p]
 | p :: q :: r => (p ++ [c]) :: afterP c (q :: r)
theorem afterP_len (c : UInt8) : ∀ l : List (List UInt8), (afterP c l).length = l.length
 | [] => rfl
 | [_] => rfl
 | p :: q :: r => by rw [afterP, List.length_cons, afterP_len c (q :: r)]; rfl
theorem index_take_one {c : UInt8} : ∀ {s : List UInt8} {i : Nat}, index s [c] = i → s.take (i + 1) = s.take i ++ [c]
 | [], i, h => by rw [index_nil_one] at h; omega
 | b :: l, i, h => by
  rw [index_cons_one] at h
  by_cases hb : b = c
  ·rw [if_pos hb] at h
   obtain rfl : i = 0 := by omega
   subst hb
   rfl
  ·rw [if_neg hb] at h
   by_cases hl : index l [c] = -1
   ·rw [if_pos hl] at h; omega
   ·rw [if_neg hl] at h
    have := index_ge l [c]
    obtain ⟨j, rfl⟩ : ∃ j, i = j + 1 := ⟨i - 1, by omega⟩
    have ih := index_take_one (c := c) (s := l) (i := j) (by omega)
    rw [List.take_succ_cons, ih]
    rfl
theorem splitK_after (c : UInt8) : ∀ (n : Nat) (s : List UInt8), s.length ≤ n → splitK [c] 1 (count s [c]) s = afterP c (piecesB c s)
 | n, s, hn => by
  by_cases hi : index s [c] = -1
  ·rw [count_miss hi, pieces_index_none hi]
   rfl
  ·have hg := index_ge s [c]
   obtain ⟨i, hi'⟩ : ∃ i : Nat, index s [c] = i := ⟨(index s [c]).toNat, by omega⟩
   have hr := index_room s [c] (by omega)
   rw [hi'] at hr
   simp only [List.length_cons, List.length_nil] at hr
   have hlen : (s.drop (i + 1)).length < s.length := by rw [List.length_drop]; omega
   obtain ⟨p, ps, hp⟩ := pieces_form c (s.drop (i + 1))
   rw [count_hit (by simp) hi', Nat.add_comm, splitK, if_neg (by simp [hi]), hi', pieces_index_some hi', hp, afterP, ← hp]
   cases n with
   | zero => omega
   | succ n =>
    have ih := splitK_after c n (s.drop (i + 1)) (by omega)
    simp only [List.length_cons, List.length_nil, Int.toNat_natCast, Nat.zero_add]
    rw [ih, index_take_one hi']
theorem afterP_last {c : UInt8} : ∀ {l : List (List UInt8)}, l ≠ [] → (afterP c l).getLast? = l.getLast?
 | [], h => absurd rfl h
 | [_], _ => rfl
 | p :: q :: r, _ => by
  have h := afterP_last (c := c) (l := q :: r) (by simp)
  have hne : afterP c (q :: r) ≠ [] := fun e => by have := afterP_len c (q :: r); rw [e] at this; simp at this
  obtain ⟨a, m, hm⟩ := List.exists_cons_of_ne_nil hne
  rw [afterP, hm, List.getLast?_cons_cons, ← hm, h, List.getLast?_cons_cons]
theorem trim_add {c : UInt8} (p : List UInt8) : Lib.trimSuffix (p ++ [c]) [c] = p := by
 unfold Lib.trimSuffix Lib.hasSuffix
 rw [if_pos (by simp)]
 simp
theorem trim_not {c : UInt8} {p : List UInt8} (h : c ∉ p) : Lib.trimSuffix p [c] = p := by
 unfold Lib.trimSuffix Lib.hasSuffix
 rw [if_neg]
 intro hs
 rw [List.isSuffixOf_iff_suffix] at hs
 obtain ⟨t, ht⟩ := hs
 exact h (by rw [← ht]; simp)
theorem afterP_trim {c : UInt8} : ∀ {l : List (List UInt8)}, (∀ p, p ∈ l → c ∉ p) → (afterP c l).map (fun x => Lib.trimSuffix x [c]) = l
 | [], _ => rfl
 | [p], h => by simp only [afterP, List.map_cons, List.map_nil]; rw [trim_not (h p (by simp))]
 | p :: q :: r, h => by
  rw [afterP, List.map_cons, trim_add, afterP_trim fun x hx => h x (by simp [hx])]
/-- The lines as the program has them. -/
def linesA (s : List UInt8) : List (List UInt8) := if (afterP 10 (piecesB 10 s)).getLast? = some [] then (afterP 10 (piecesB 10 s)).dropLast else afterP 10 (piecesB 10 s)
theorem linesA_trim (s : List UInt8) : (linesA s).map (fun x => Lib.trimSuffix x [10]) = linesB s := by
 have h := afterP_trim (c := 10) (l := piecesB 10 s) (pieces_not 10 s)
 unfold linesA linesB
 rw [afterP_last (pieces_ne 10 s)]
 split
 ·rw [List.map_dropLast, h]
 ·exact h
theorem linesA_len (s : List UInt8) : (linesA s).length = (linesB s).length := by
 rw [← linesA_trim s, List.length_map]
theorem linesA_get {s : List UInt8} {k : Nat} {x : List UInt8} (h : (linesA s)[k]? = some x) : (linesB s)[k]? = some (Lib.trimSuffix x [10]) := by
 rw [← linesA_trim s, List.getElem?_map, h]
 rfl
theorem pieces_size (c : UInt8) : ∀ (l p : List UInt8), p ∈ piecesB c l → p.length ≤ l.length
 | [], p, h => by simp [piecesB] at h; subst h; simp
 | b :: l, p, h => by
  obtain ⟨q, ps, hq⟩ := pieces_form c l
  have ih := pieces_size c l
  rw [hq] at ih
  by_cases hb : b = c
  ·subst hb
   rw [pieces_cons_hit, hq] at h
   rcases List.mem_cons.1 h with rfl | h
   ·simp
   ·have := ih p h; simp only [List.length_cons]; omega
  ·rw [pieces_cons_miss hb hq] at h
   rcases List.mem_cons.1 h with rfl | h
   ·have := ih q (by simp); simp only [List.length_cons]; omega
   ·have := ih p (by simp [h]); simp only [List.length_cons]; omega
theorem afterP_size (c : UInt8) : ∀ {l : List (List UInt8)} {m : Nat}, (∀ p, p ∈ l → p.length ≤ m) → ∀ x, x ∈ afterP c l → x.length ≤ m + 1
 | [], _, _, x, hx => by simp [afterP] at hx
 | [p], m, h, x, hx => by
  simp only [afterP, List.mem_singleton] at hx
  subst hx
  have := h x (by simp)
  omega
 | p :: q :: r, m, h, x, hx => by
  rw [afterP] at hx
  rcases List.mem_cons.1 hx with rfl | hx
  ·have := h p (by simp); simp only [List.length_append, List.length_cons, List.length_nil]; omega
  ·exact afterP_size c (fun y hy => h y (by simp [hy])) x hx
theorem linesA_size {s x : List UInt8} (hx : x ∈ linesA s) : x.length ≤ s.length + 1 := by
 refine afterP_size 10 (pieces_size 10 s) x ?_
 unfold linesA at hx
 split at hx
 ·exact List.mem_of_mem_take (by rwa [List.dropLast_eq_take] at hx)
 ·exact hx
theorem trim_size (x : List UInt8) (c : UInt8) : (Lib.trimSuffix x [c]).length ≤ x.length := by
 unfold Lib.trimSuffix
 split
 ·rw [List.length_take]; omega
 ·exact Nat.le_refl _
theorem words_get {l : List (List UInt8)} {j : Nat} {p : List UInt8} (h : l[j]? = some p) : (l.take (j + 1)).filter (fun p => decide (p ≠ [])) = (l.take j).filter (fun p => decide (p ≠ [])) ++ (if p = [] then [] else [p]) := by
 rw [List.take_add_one, h, List.filter_append]
 congr 1
 by_cases hp : p = [] <;> simp [hp]
theorem joinB_cons_len (c : UInt8) (p : List UInt8) (l : List (List UInt8)) : (joinB c l).length ≤ (joinB c (p :: l)).length := by
 cases l with
 | nil => simp [joinB]
 | cons q r => rw [joinB, List.length_append, List.length_cons]; omega
theorem joinB_filter (c : UInt8) : ∀ l : List (List UInt8), (joinB c (l.filter fun p => decide (p ≠ []))).length ≤ (joinB c l).length
 | [] => by simp
 | p :: l => by
  have ih := joinB_filter c l
  by_cases hp : p = []
  ·subst hp
   have e : (([] : List UInt8) :: l).filter (fun p => decide (p ≠ [])) = l.filter fun p => decide (p ≠ []) := by simp
   rw [e]
   exact Nat.le_trans ih (joinB_cons_len c [] l)
  ·have e : (p :: l).filter (fun p => decide (p ≠ [])) = p :: l.filter fun p => decide (p ≠ []) := by simp [hp]
   rw [e]
   cases hl : l.filter fun p => decide (p ≠ []) with
   | nil =>
    cases l with
    | nil => simp
    | cons q r => simp only [joinB, List.length_append]; omega
   | cons q r =>
    rw [hl] at ih
    cases l with
    | nil => simp at hl
    | cons q' r' => simp only [joinB, List.length_append, List.length_cons] at ih ⊢; omega
theorem words_join (p : List UInt8) : (joinB 32 (wordsB p)).length ≤ p.length := by
 have h := joinB_filter 32 (piecesB 32 p)
 rw [join_pieces] at h
 exact h
end Go.Proofs.YtjcimdpldlamfaaGreatDoor
/- The walk of strings.SplitAfter by a byte; TrimSuffix of a byte. -/
namespace Go.Proofs.YtjcimdpldlamfaaGreatDoor
open Go.RowKit

theorem after_pieces (c : UInt8) (l : List UInt8) : (Lib.splitB (bs [c]) 1 (Lib.countB (bs l) (bs [c])) (bs l)).map Value.string = (afterP c (piecesB c l)).map fun x => Value.string (bs x) := by
 have h := Lib.splitB_data (bs [c]) 1 (Lib.countB (bs l) (bs [c])) (bs l)
 have e : Lib.countB (bs l) (bs [c]) = Lib.count l [c] := by unfold Lib.countB; rw [bs_list, bs_list]
 rw [bs_list, bs_list, e, splitK_after c _ l (Nat.le_refl _)] at h
 rw [e, ← h, List.map_map]
 refine List.map_congr_left fun s _ => ?_
 simp only [Function.comp]
set_option maxRecDepth 100000 in
theorem splitAfter_any (c : UInt8) (l : List UInt8) (w : World) (hl : l.length ≤ 4000000) (hm : MaxL w) :
  Calls Tryz.prog 12 #[.string (bs l), .string ⟨#[c]⟩] w fun e w' => e = .returned (.slice (some ⟨w.heap.size, 0, none⟩) (piecesB c l).length (piecesB c l).length) ∧ StrsAt w' (some ⟨w.heap.size, 0, none⟩) (piecesB c l).length (afterP c (piecesB c l)) ∧ Below w.heap.size w w' := by
 obtain ⟨m, hm⟩ := hm
 have hcnt := split_count c l
 have hle : (piecesB c l).length ≤ l.length + 1 := pieces_count c l
 have hN : (((piecesB c l).length : Nat) : Int) = min (if (-1 : Int) < 0 then (Lib.countB (bs l) (bs [c]) : Int) + 1 else -1) (((bs l).size : Int) + 1) := by
  rw [if_pos (by decide), bs_size]
  omega
 have hg := Dsk.strings_genSplit (bs l) (bs [c]) 1 (-1) (piecesB c l).length m w (by rw [bs_size]; omega) hm (by simp [ByteArray.size]) (by simp [ByteArray.size]) (by decide) (by decide) hN
 have hk : (piecesB c l).length - 1 = Lib.countB (bs l) (bs [c]) := by omega
 rw [hk] at hg
 have hlen : (Lib.splitB (bs [c]) 1 (Lib.countB (bs l) (bs [c])) (bs l)).length = (piecesB c l).length := by rw [Lib.splitB_all (bs [c]) (by simp [ByteArray.size]) 1 _ (bs l) rfl]; omega
 rw [hlen] at hg
 have hcells : Lib.cellsOf (Lib.splitB (bs [c]) 1 (Lib.countB (bs l) (bs [c])) (bs l)) (piecesB c l).length = ((afterP c (piecesB c l)).map fun x => Value.string (bs x)).toArray := by
  unfold Lib.cellsOf
  rw [hlen, Nat.sub_self, List.replicate_zero, List.append_nil, after_pieces]
 rw [hcells] at hg
 have hal := afterP_len c (piecesB c l)
 obtain ⟨n, hn⟩ : ∃ n, (piecesB c l).length = n := ⟨_, rfl⟩
 rw [hn] at hg hal ⊢
 have HG := Lib.hid hg
 have HAL := Lib.hid hal
 clear hg hN hk hlen hcells hcnt hm hal
 go_enter Tryz.func12, Tryz.ntmps12
 go_wp2_with fail
 refine HG.out.mono ?_
 rintro e w1 ⟨rfl, rfl⟩
 go_wp2_with fail
 go_ret
 have h9 := strs_of_blk (l := afterP c (piecesB c l)) (Blk.new w 9 _) rfl (by have := HAL.out; unfold maxLen; omega)
 rw [HAL.out] at h9
 exact ⟨rfl, h9, ext_alloc (Below.refl _ w) _⟩
theorem trim_any (c : UInt8) (l : List UInt8) (w : World) (hl : l.length ≤ 9223372036854775807) :
  Calls Tryz.prog 14 #[.string (bs l), .string ⟨#[c]⟩] w fun e w' => e = .returned (.string (bs (Lib.trimSuffix l [c]))) ∧ w' = w := by
 have h := Dsk.strings_TrimSuffix (bs l) (bs [c]) w (by rw [bs_size]; exact hl)
 rw [bs_list, bs_list] at h
 exact h
end Go.Proofs.YtjcimdpldlamfaaGreatDoor
/- The walk of the document's Pieces. -/
namespace Go.Proofs.YtjcimdpldlamfaaGreatDoor
open Go.RowKit

theorem info_str1 : (Tryz.prog.info? 9).map (fun i => (i.zero, i.size, i.bytes)) = some (some (.string ByteArray.empty), 1, 16) := by kernel_rfl
theorem info_str2 : ∃ i, Tryz.prog.info? 9 = some i ∧ i.zero = some (.string ByteArray.empty) ∧ i.size = 1 ∧ i.bytes = 16 := by
 obtain ⟨i0, hi, hzz⟩ := Option.map_eq_some_iff.1 info_str1
 simp only [Prod.mk.injEq] at hzz
 exact ⟨i0, hi, hzz.1, hzz.2.1, hzz.2.2⟩
theorem str_one {s : ByteArray} : ∀ u ∈ (#[.string s] : Array Value).toList, u.oneCell' = true := by simp [Value.oneCell']
theorem bs_ext {l : List UInt8} {k : Nat} {b : UInt8} (h : l[k]? = some b) : (bs l).extract k (k + 1) = bs [b] := by
 apply ByteArray.ext
 apply Array.ext'
 have hk := lt_of_get h
 obtain ⟨_, rfl⟩ := List.getElem?_eq_some_iff.1 h
 simp only [bs, ByteArray.data_extract, List.extract_toArray, List.extract_eq_take_drop]
 rw [show k + 1 - k = 1 by omega, List.drop_eq_getElem_cons hk]
 rfl
theorem cat_run (a b : List UInt8) (h : a.length + b.length ≤ 9223372036854775807) (W : World) : (Op.stringOp .add (bs a) (bs b)).run Tryz.prog W = .ok (.string (bs (a ++ b))) W := by
 unfold Op.stringOp
 simp only
 rw [if_neg (by
  rw [bs_size, bs_size]
  have : IntKind.i64.max = 9223372036854775807 := rfl
  omega), bs_add]
 rfl
/-- A list of strings that a call tells, in memory of its own. -/
def StrsOut (l : List (List UInt8)) (w : World) (e : Ending) (w' : World) : Prop := ∃ g c, e = .returned (.slice (some ⟨g, 0, none⟩) l.length c) ∧ Own strEnc 1 w' w.heap.size 9 (.slice (some ⟨g, 0, none⟩) l.length c) l ∧ Below w.heap.size w w'
end Go.Proofs.YtjcimdpldlamfaaGreatDoor
/- The walks of desk.told and desk.pieces. -/
namespace Go.Proofs.YtjcimdpldlamfaaGreatDoor
open Go.RowKit

theorem map_take1 {α β : Type} {f : α → β} {l : List α} {k : Nat} {x : α} (hx : l[k]? = some x) : (l.take k).map f ++ [f x] = (l.take (k + 1)).map f := by
 rw [List.take_add_one, hx]
 simp
set_option maxRecDepth 100000 in
set_option maxHeartbeats 4000000 in
theorem told_any (A : Option Addr) (c0 c : Nat) (l : List Int) (er : Int) (w : World) (hA : IntsAt w A c0 l) (hl : l.length ≤ 100000) (he : I64 er) (ht : ITab w) :
  Calls Tryz.prog 48 #[.slice A l.length c, .int .i64 er] w fun e w' => e = .returned (.string (bs (toldT l er))) ∧ Below w.heap.size w w' := by
 have HA := Lib.hid hA; have HT := Lib.hid ht
 have m1 := hA.len
 have HI := Lib.hid hA.i64
 clear hA
 obtain ⟨i0, hi, hz0, hz1, hz2⟩ := info_str2
 by_cases h0 : er = 0
 case neg =>
  have hne : (er != 0) = true := by simp [h0]
  have HR : Hid (toldT l er = errT er) := Lib.hid (by unfold toldT; rw [if_neg h0])
  have hf := failed_any er he w ht
  clear h0 ht
  go_enter Tryz.func48, Tryz.ntmps48
  go_wp2_with fail
  refine hf.mono ?_
  rintro e w1 ⟨rfl, hb1⟩
  clear hf
  go_wp2_with fail
  go_ret
  exact ⟨by rw [HR.out]; rfl, hb1⟩
 subst h0
 clear he ht
 go_enter Tryz.func48, Tryz.ntmps48
 go_wp2_with fail
 go_loopw [5, 15] (fun u v wr => ∃ k : Nat, k ≤ l.length ∧ v = .int .i64 k ∧ Own strEnc 1 wr w.heap.size 9 u ((l.take k).map numT) ∧ Below w.heap.size w wr) (fun _ v _ => l.length - (intOf v).toNat)
 case atStart => exact ⟨0, Nat.zero_le _, rfl, Own.nil, Below.refl _ _⟩
 case round =>
  obtain ⟨k, hk, rfl, hO, hb⟩ := hrel
  have hzr := hb.size
  have hcl : ((l.take k).map numT).length + 1 ≤ 1000000 := by rw [List.length_map, List.length_take]; omega
  by_cases hlt : k < l.length
  case neg =>
   obtain rfl : k = l.length := by omega
   rw [List.take_length] at hO hcl
   obtain ⟨out, ho⟩ : ∃ out, l.map numT = out := ⟨_, rfl⟩
   have hol : out.length = l.length := by rw [← ho, List.length_map]
   rw [ho] at hO hcl
   obtain ⟨Ao, co, rfl, hS⟩ := own_strs hO
   have HO := Lib.hid ho
   cases l with
   | nil =>
    obtain rfl : out = [] := by rw [← ho]; rfl
    clear hO ho hol
    go_wp2_with fail
    go_ret
    exact ⟨rfl, hb⟩
   | cons x r =>
    have hne : (((out.length : Nat) : Int) == 0) = false := by rw [hol]; simp; omega
    have hj := join_any Ao co out 32 wr hS (by
     have h1 := joinB_len (c := 32) (m := 21) (l := out) fun y hy => by
      rw [← ho] at hy
      obtain ⟨n, hn, rfl⟩ := List.mem_map.1 hy
      exact numT_len (HI.out n hn)
     rw [hol] at h1
     omega)
    have HR : Hid (toldT (x :: r) 0 = joinB 32 out) := Lib.hid (by rw [← ho]; unfold toldT; rw [if_pos rfl, if_neg (by simp)])
    clear hO ho hol hS
    go_wp2_with fail
    refine hj.mono ?_
    rintro e w2 ⟨rfl, hb2⟩
    clear hj
    go_wp2_with fail
    go_ret
    exact ⟨by rw [HR.out]; rfl, ext_trans hb hb2⟩
  case pos =>
   obtain ⟨n, hn⟩ := get_lt hlt
   obtain ⟨b, off, rfl, hb0, x0⟩ := HA.out.get hn
   rw [← hb.cell (by exact hb0)] at x0
   have hni := HI.out n (List.mem_of_getElem? hn)
   have hit := itoa_any n hni wr (HT.out.ext hb)
   obtain ⟨out, ho⟩ : ∃ out, (l.take k).map numT = out := ⟨_, rfl⟩
   have HN : Hid (out ++ [numT n] = (l.take (k + 1)).map numT) := Lib.hid (by rw [← ho]; exact map_take1 hn)
   rw [ho] at hO hcl
   by_cases hf : n = 1099511627776
   case pos =>
    subst hf
    have HT1 : Hid (numT 1099511627776 = [45]) := Lib.hid rfl
    obtain ⟨tn, htn⟩ : ∃ tn, Lib.itoa 1099511627776 = tn := ⟨_, rfl⟩
    rw [htn] at hit
    clear hn ho htn
    go_wp2_with fail
    refine hit.mono ?_
    rintro e w3 ⟨rfl, hb3⟩
    have hO3 := hO.ext hb3
    have hb6 := ext_trans hb hb3
    have hw3 : w.heap.size ≤ w3.heap.size := hb6.size
    clear hit hO hb3
    go_wp2_with (at_builtin; refine wpList_append_lie (enc := strEnc) rfl (.tmp 23) (.tmp 25) 23 rfl w.heap.size 9 i0 _ 1 16 Tryz.underlying23 hi hz0 hz1 hz2 rfl (by decide) _ out [45] rfl hO3 _ rfl w3.heap.size rfl rfl rfl str_one hcl (by decide) hw3 ?_; intro gn cap w6 hown6 hbb hkp hgn)
    go_roundw
    case rel => exact ⟨k + 1, by omega, by go_num, by rw [← HN.out, HT1.out]; exact hown6, hb6.trans hbb⟩
    case measure => simp [intOf]; omega
   case neg =>
    have hq : (n == 1099511627776) = false := by simpa using hf
    have HT1 : Hid (numT n = Lib.itoa n) := Lib.hid (by unfold numT; rw [if_neg hf])
    obtain ⟨tn, htn⟩ : ∃ tn, Lib.itoa n = tn := ⟨_, rfl⟩
    rw [htn] at hit HT1
    clear hn ho htn hf
    go_wp2_with fail
    refine hit.mono ?_
    rintro e w3 ⟨rfl, hb3⟩
    have hO3 := hO.ext hb3
    have hb6 := ext_trans hb hb3
    have hw3 : w.heap.size ≤ w3.heap.size := hb6.size
    clear hit hO hb3
    go_wp2_with (at_builtin; refine wpList_append_lie (enc := strEnc) rfl (.tmp 23) (.tmp 25) 23 rfl w.heap.size 9 i0 _ 1 16 Tryz.underlying23 hi hz0 hz1 hz2 rfl (by decide) _ out tn rfl hO3 _ rfl w3.heap.size rfl rfl rfl str_one hcl (by decide) hw3 ?_; intro gn cap w6 hown6 hbb hkp hgn)
    go_roundw
    case rel => exact ⟨k + 1, by omega, by go_num, by rw [← HN.out, HT1.out]; exact hown6, hb6.trans hbb⟩
    case measure => simp [intOf]; omega
end Go.Proofs.YtjcimdpldlamfaaGreatDoor
/- Lists of numbers that are told, with an error; two lists that are the same. -/
namespace Go.Proofs.YtjcimdpldlamfaaGreatDoor
open Go.RowKit

section
variable {P Q : List Int → Prop} {er : Int} {w w' : World} {e : Ending}
end
theorem SlAt.cells {w : World} {A : Option Addr} {l : List Int} (h : SlAt RInt 1 w A l) (h0 : 0 < l.length) : ∃ b off, A = some ⟨b, off, none⟩ ∧ b < w.heap.size ∧ ∀ i, i < l.length → w.cell? ⟨b, off + i, none⟩ = some (.int .i64 (gi l i)) := by
 obtain ⟨b, off, h⟩ := h
 obtain ⟨rfl, hb, _⟩ := h 0 _ (gi_get h0)
 refine ⟨b, off, rfl, hb, fun i hi => ?_⟩
 obtain ⟨_, _, h2, _⟩ := h i _ (gi_get hi)
 simpa [cellIs] using h2
end Go.Proofs.YtjcimdpldlamfaaGreatDoor
/- The walk of timekeep.early0: the times of the pair are as they should be. -/
namespace Go.Proofs.YtjcimdpldlamfaaGreatDoor
open Go.RowKit

section
variable {g : GraphD} {v t : Int} {l : List Int}
theorem arr_good (h : placeErr g v t = 0) : ArrOut g v t l → EarlyL g v t l := fun hl => by unfold ArrOut at hl; rwa [if_pos h] at hl
theorem place_ok (hV : Valid g) (h0 : 0 ≤ v) (h1 : v < g.lives.length) (h2 : 0 ≤ t) (h3 : t < g.h) : placeErr g v t = 0 := by
 unfold placeErr
 rw [if_pos (valid_ok hV), if_pos (inB_iff.2 (by omega)), if_pos (inB_iff.2 (by omega))]
end
end Go.Proofs.YtjcimdpldlamfaaGreatDoor
/- The walk of cheap.Fastest. -/
namespace Go.Proofs.YtjcimdpldlamfaaGreatDoor
open Go.RowKit

def FastOut (g : GraphD) (v u : Int) (w : World) (e : Ending) (w' : World) : Prop := ∃ d a er, Hid (FastOk g v u d a er) ∧ e = .returned (.tuple #[.int .i64 d, .int .i64 a, .int .i64 er]) ∧ Below w.heap.size w w'

set_option maxRecDepth 100000 in
set_option maxHeartbeats 4000000 in
theorem fastest_any (A A' : Option Addr) (c c' : Nat) (g : GraphD) (v u : Int) (w : World) (hG : GraphAt w A c A' c' g) :
  Calls Tryz.prog 114 #[gV A c A' c' g, .int .i64 v, .int .i64 u] w (FastOut g v u w) := by
 have m1 : g.lives.length ≤ 9223372036854775807 := Nat.le_trans hG.lc hG.cm
 by_cases h0 : graphErr g = 0
 case neg =>
  have H0 := Lib.hid h0
  have hn : (graphErr g != 0) = true := by simp [h0]
  clear h0
  go_enter Tryz.func114, Tryz.ntmps114
  go_wp2_with fail
  refine (check_any _ _ _ _ g _ (hG.ext (by go_grown))).mono ?_
  rintro e w1 ⟨rfl, hb1⟩
  go_wp2_with fail
  refine bodyPost_ret (results3 rfl _ _ _) rfl ?_
  exact ⟨0, 0, graphErr g, Lib.hid (.bad H0.out), rfl, ext_trans (by go_grown) hb1⟩
 have H0 := Lib.hid h0
 clear h0
 by_cases hr : (0 ≤ v ∧ v < g.lives.length) ∧ 0 ≤ u ∧ u < g.lives.length
 case neg =>
  have HO := Lib.hid (FastOk.out H0.out hr)
  have hr' := hr
  by_cases a1 : v < 0
  ·have hd1 : decide (v < 0) = true := by simpa using a1
   clear a1 hr hr'
   go_enter Tryz.func114, Tryz.ntmps114
   go_wp2_with fail
   refine (check_any _ _ _ _ g _ (hG.ext (by go_grown))).mono ?_
   rw [H0.out]
   rintro e w1 ⟨rfl, hb1⟩
   obtain ⟨B0, c1, c2, c3⟩ := (Blk.new w 68 (gC A c A' c' g)).go hb1
   go_wp2_with fail
   refine bodyPost_ret (results3 rfl _ _ _) rfl ?_
   exact ⟨0, 0, 4, HO, rfl, ext_trans (by go_grown) hb1⟩
  have hd1 : decide (v < 0) = false := by simpa using a1
  by_cases a2 : v ≥ (g.lives.length : Int)
  ·have hd2 : decide (v ≥ (g.lives.length : Int)) = true := by simpa using a2
   clear a1 a2 hr hr'
   go_enter Tryz.func114, Tryz.ntmps114
   go_wp2_with fail
   refine (check_any _ _ _ _ g _ (hG.ext (by go_grown))).mono ?_
   rw [H0.out]
   rintro e w1 ⟨rfl, hb1⟩
   obtain ⟨B0, c1, c2, c3⟩ := (Blk.new w 68 (gC A c A' c' g)).go hb1
   go_wp2_with fail
   refine bodyPost_ret (results3 rfl _ _ _) rfl ?_
   exact ⟨0, 0, 4, HO, rfl, ext_trans (by go_grown) hb1⟩
  have hd2 : decide (v ≥ (g.lives.length : Int)) = false := by simpa using a2
  by_cases a3 : u < 0
  ·have hd3 : decide (u < 0) = true := by simpa using a3
   clear a1 a2 a3 hr hr'
   go_enter Tryz.func114, Tryz.ntmps114
   go_wp2_with fail
   refine (check_any _ _ _ _ g _ (hG.ext (by go_grown))).mono ?_
   rw [H0.out]
   rintro e w1 ⟨rfl, hb1⟩
   obtain ⟨B0, c1, c2, c3⟩ := (Blk.new w 68 (gC A c A' c' g)).go hb1
   go_wp2_with fail
   refine bodyPost_ret (results3 rfl _ _ _) rfl ?_
   exact ⟨0, 0, 4, HO, rfl, ext_trans (by go_grown) hb1⟩
  have hd3 : decide (u < 0) = false := by simpa using a3
  have hd4 : decide (u ≥ (g.lives.length : Int)) = true := by simp only [decide_eq_true_eq]; omega
  clear a1 a2 a3 hr hr'
  go_enter Tryz.func114, Tryz.ntmps114
  go_wp2_with fail
  refine (check_any _ _ _ _ g _ (hG.ext (by go_grown))).mono ?_
  rw [H0.out]
  rintro e w1 ⟨rfl, hb1⟩
  obtain ⟨B0, c1, c2, c3⟩ := (Blk.new w 68 (gC A c A' c' g)).go hb1
  go_wp2_with fail
  refine bodyPost_ret (results3 rfl _ _ _) rfl ?_
  exact ⟨0, 0, 4, HO, rfl, ext_trans (by go_grown) hb1⟩
 obtain ⟨⟨hv0, hv1⟩, hu0, hu1⟩ := hr
 have hV := valid_of H0.out
 have hh0 := hV.h0
 have hh1 := hV.h1
 have hd1 : decide (v < 0) = false := by simpa using hv0
 have hd2 : decide (v ≥ (g.lives.length : Int)) = false := by simpa using hv1
 have hd3 : decide (u < 0) = false := by simpa using hu0
 have hd4 : decide (u ≥ (g.lives.length : Int)) = false := by simpa using hu1
 go_enter Tryz.func114, Tryz.ntmps114
 go_wp2_with fail
 refine (check_any _ _ _ _ g _ (hG.ext (by go_grown))).mono ?_
 rw [H0.out]
 rintro e w1 ⟨rfl, hb1⟩
 obtain ⟨B0, c1, c2, c3⟩ := (Blk.new w 68 (gC A c A' c' g)).go hb1
 have hbw : Below w.heap.size w w1 := ext_trans (by go_grown) hb1
 clear hb1
 go_wp2_with fail
 go_loopw [11, 12, 42] (fun xb xa x wr => ∃ (k : Nat) (b a : Int), k ≤ 100 ∧ (k : Int) ≤ g.h ∧ xb = .int .i64 b ∧ xa = .int .i64 a ∧ x = .int .i64 k ∧ Hid (FTried g v u k b a) ∧ Blk wr w.heap.size 68 (gC A c A' c' g) ∧ Below w.heap.size w wr)
  (fun _ _ x _ => (100 - intOf x).toNat)
 case atStart => exact ⟨0, 1099511627776, 0, by omega, by omega, rfl, rfl, rfl, Lib.hid FTried.start, B0, hbw⟩
 case round =>
  clear B0 hbw c1 c2 c3
  obtain ⟨k, b, a, hk, hkh, rfl, rfl, rfl, HF, B0, hbw⟩ := hrel
  obtain ⟨c1, c2, c3⟩ := B0.facts
  by_cases hlt : (k : Int) < g.h
  case neg =>
   have hkk : (k : Int) = g.h := by omega
   rcases HF.out with ⟨hb, ha, hno⟩ | hb
   ·rw [hkk] at hno
    have HN := Lib.hid (FastOk.none H0.out ⟨hv0, hv1⟩ ⟨hu0, hu1⟩ hno)
    subst ha
    have hbe : (b == 1099511627776) = true := by rw [hb]; rfl
    clear hb hno hkk
    go_wp2_with fail
    refine bodyPost_ret (results3 rfl _ _ _) rfl ?_
    exact ⟨0, 0, 4, HN, rfl, hbw⟩
   ·rw [hkk] at hb
    have HN := Lib.hid (FastOk.some H0.out ⟨hv0, hv1⟩ ⟨hu0, hu1⟩ hb)
    have hbe : (b == 1099511627776) = false := by have := hb.b1; simp; omega
    clear hb hkk
    go_wp2_with fail
    refine bodyPost_ret (results3 rfl _ _ _) rfl ?_
    exact ⟨b, a, 0, HN, rfl, hbw⟩
  have HP : Hid (placeErr g v k = 0) := Lib.hid (place_ok hV hv0 hv1 (by omega) hlt)
  have hbr : 0 ≤ b ∧ b ≤ 1099511627776 := by
   rcases HF.out with ⟨hb, _, _⟩ | hb
   ·simp only [Never] at hb; omega
   ·have := hb.b0; have := hb.b1; omega
  obtain ⟨hbr0, hbr1⟩ := hbr
  go_wp2_with fail
  refine (arrivals_any _ _ _ _ g v k _ (hG.ext hbw)).mono ?_
  rw [HP.out]
  rintro e w2 ⟨l, A1, d1, hl, rfl, hA1, hm1, hb2⟩
  have HE := Lib.hid (arr_good HP.out hl)
  have hn := HE.out.1
  rw [hn]
  have HN := Lib.hid hn
  have B0 := B0.ext hb2
  have hbw := ext_trans hbw hb2
  clear hl hn hb2 c1 c2 c3
  obtain ⟨b1, o1, rfl, hz1, hc1⟩ := hA1.cells (by rw [HN.out]; omega)
  have ku := hc1 u.toNat (by rw [HN.out]; omega)
  clear hc1
  obtain ⟨x, hx⟩ : ∃ x, gi l u.toNat = x := ⟨_, rfl⟩
  have hx0 : (k : Int) ≤ x := by rw [← hx]; exact HE.out.low hV (by omega) (by omega)
  have hx1 : x ≤ 1099511627776 := by rw [← hx]; exact HE.out.big (by omega) _
  rw [hx] at ku
  have HX := Lib.hid hx
  clear hx
  have hwrap : IntKind.i64.wrap (x - k) = x - k := IntWalk.i64_in _ (by omega)
  by_cases hxn : x < 1099511627776
  case neg =>
   have hxd : decide (x < 1099511627776) = false := by simpa using hxn
   have HS := Lib.hid (HF.out.skip ⟨by omega, by omega⟩ HE.out (by rw [HX.out]; simp only [Never]; omega))
   clear hxn
   go_wp2_with fail
   go_roundw
   case rel => exact ⟨k + 1, b, a, by omega, by omega, rfl, rfl, by go_num, HS, B0, hbw⟩
   case measure => simp [intOf]; omega
  have hxd : decide (x < 1099511627776) = true := by simpa using hxn
  by_cases hlb : x - k < b
  case pos =>
   have hlbd : decide (x - k < b) = true := by simpa using hlb
   have HS := Lib.hid (HF.out.take hV ⟨by omega, hlt⟩ ⟨hv0, hv1⟩ ⟨hu0, hu1⟩ HE.out HX.out hxn hlb)
   go_wp2_with fail
   go_roundw
   case rel => exact ⟨k + 1, x - k, k, by omega, by omega, rfl, rfl, by go_num, HS, B0, hbw⟩
   case measure => simp [intOf]; omega
  case neg =>
   have hlbd : decide (x - k < b) = false := by simpa using hlb
   have HS := Lib.hid (HF.out.stay ⟨by omega, by omega⟩ HE.out HX.out hxn hlb)
   go_wp2_with fail
   go_roundw
   case rel => exact ⟨k + 1, b, a, by omega, by omega, rfl, rfl, by go_num, HS, B0, hbw⟩
   case measure => simp [intOf]; omega
end Go.Proofs.YtjcimdpldlamfaaGreatDoor
