/- Several texts in one: Pieces2, RefWords, LawDeskHead. -/
import Derived.Test.YtjcimdpldlamfaaGreatDoorBd1aa46607c4
import Derived.Test.YtjcimdpldlamfaaGreatDoorBd5dcf06900f
import Derived.Test.YtjcimdpldlamfaaGreatDoorBdc202a36710
import Derived.Test.YtjcimdpldlamfaaGreatDoorBd61e944750f
/- The walk of the document's Pieces, for longer texts (printed by genpieces2.py). -/
namespace Go.Proofs.YtjcimdpldlamfaaGreatDoor
open Go.RowKit

/-- An append of one element, and where the new slice lies. -/
theorem wpList_append_lieb {P : Program} {ops : Array Oper} {rest : List Oper} {o : Oper} {a : Act} {Q : Exit → Act → World → Prop} {w0 : World} {α : Type} {enc : α → List Value} (hgd : o.guard = none) (s x : Operand) (t : TypeId)
  (ho : o.op = .call { callee := .builtin .append, args := #[s, x], argTypes := #[t, t] })
  (base : Nat) (e : TypeId) (i : TypeInfo) (z : Value) (size bytes : Nat) (ht : P.underlying t = some (.slice e)) (hi : P.info? e = some i) (hz : i.zero = some z)
  (hsize : i.size = size) (hby : i.bytes = bytes) (hzs : z.cells.size = size) (hsz : 0 < size)
  (v : Value) (l : List α) (y : α) (hs : a.eval s = v) (hown : Own enc size w0 base e v l) (cs : Array Value) (hcy : cs.toList = enc y) (k : Nat) (hk : k = w0.heap.size) (hx : a.eval x = .slice (some ⟨k, 0, none⟩) 1 1) (hcs : cs.size = size)
  (h1 : ∀ u ∈ cs.toList, u.oneCell' = true) (h63 : l.length + 1 ≤ 3000000) (hby2 : bytes ≤ 1000) (hbase : base ≤ w0.heap.size)
  (h : ∀ g cap w', Own enc size w' base e (.slice (some ⟨g, 0, none⟩) (l.length + 1) cap) (l ++ [y]) → Below base w0 w' → (∀ b t' cs', Blk w0 b t' cs' → some b ≠ v.ownBlock → Blk w' b t' cs') → (v.ownBlock = some g ∨ w0.heap.size < g) →
   wpList P ops Q rest (a.put o.dst (.slice (some ⟨g, 0, none⟩) (l.length + 1) cap)) w') : wpList P ops Q (o :: rest) a (w0.alloc (.cells cs e)) := by
 subst hk
 have hb2 : (l.length + 1) * bytes ≤ 140737488355328 := Nat.le_trans (Nat.mul_le_mul h63 hby2) (by decide)
 refine wpList_append_lies (w0.alloc (.cells cs e)) hgd s x t ho base e i z size bytes ht hi hz hsize hby hzs hsz v l.length (l.flatMap enc) hs (World.ownsRow.alloc hown _) ⟨w0.heap.size, 0, none⟩ 1 1 cs.toList hx (by simp [hcs])
  ?_ h1 (by omega) (by unfold maxLen; omega) hb2 (by simp; omega) (w0.heap.size + 1) (by simp) ?_
 ·intro j u hu
  rw [Go.WideShapes.add_plain, cell_of_row _ _ _ cs e (0, 0) (heap_alloc_new w0 _)]
  simpa using hu
 ·intro g cap w' h2 h3 h4 _
  refine h g cap w' ?_ ?_ (fun b t' cs' hB hn => (hB.alloc _).grown h3 hn) (h4.imp id fun e => by omega)
  ·show w'.ownsRow base e size _ (l ++ [y]).length ((l ++ [y]).flatMap enc)
   rw [List.flatMap_append, List.length_append]
   simpa [hcy] using h2
  ·have hb : Below base w0 (w0.alloc (.cells cs e)) := (Below.refl _ _).alloc hbase _
   exact hb.grown h3 (by simp; omega) fun k hk => (World.ownsRow.lt hown k hk).1
set_option maxRecDepth 100000 in
set_option maxHeartbeats 16000000 in
theorem refPieces_big (l : List UInt8) (c : UInt8) (w : World) (hl : l.length ≤ 2000000) : Calls Tryz.prog 18 #[.string (bs l), .int .u8 c.toNat] w (StrsOut (piecesB c l) w) := by
 have hsz := bs_size l
 obtain ⟨s, hs⟩ : ∃ s, bs l = s := ⟨_, rfl⟩
 have HB : Hid (∀ k b, l[k]? = some b → byteAt s k = b.toNat ∧ s.extract k (k + 1) = bs [b]) := Lib.hid fun k b h => by rw [← hs]; exact ⟨bs_at h, bs_ext h⟩
 rw [hs] at hsz ⊢
 have HSZ := Lib.hid hsz
 have hl' : s.size ≤ 2000000 := by omega
 clear hs hsz hl
 obtain ⟨i0, hi, hz0, hz1, hz2⟩ := info_str2
 go_enter Tryz.func18, Tryz.ntmps18
 go_wp2_with fail
 go_loopw [5, 6] (fun u v wr => ∃ (k : Nat) (init : List (List UInt8)) (last : List UInt8) (g cc : Nat), k ≤ s.size ∧ v = .int .i64 k ∧ u = .slice (some ⟨g, 0, none⟩) (init.length + 1) cc ∧ Hid (piecesB c (l.take k) = init ++ [last] ∧ init.length ≤ k ∧ last.length ≤ k) ∧ Own strEnc 1 wr w.heap.size 9 (.slice (some ⟨g, 0, none⟩) (init.length + 1) cc) (init ++ [last]) ∧ Below w.heap.size w wr) (fun _ v _ => s.size - (intOf v).toNat)
 case atStart =>
  refine ⟨0, [], [], w.heap.size, 1, Nat.zero_le _, rfl, rfl, Lib.hid ⟨rfl, by simp, by simp⟩, ?_, by go_grown⟩
  exact Own.lit (enc := strEnc) (l := [[]]) rfl (Nat.le_refl _) rfl rfl rfl (by decide)
 case round =>
  obtain ⟨k, init, last, g, cc, hk, rfl, rfl, HK, hO, hb⟩ := hrel
  have hzr := hb.size
  have hil := HK.out.2.1
  have hll := HK.out.2.2
  by_cases hlt : k < s.size
  case neg =>
   obtain rfl : k = s.size := by omega
   have HE : Hid (piecesB c l = init ++ [last]) := Lib.hid (by
    have := HK.out.1
    rwa [HSZ.out, List.take_length] at this)
   clear HK
   go_wp2_with fail
   go_ret
   refine ⟨g, cc, ?_, ?_, hb⟩
   ·rw [HE.out, List.length_append]; rfl
   ·rw [HE.out, List.length_append]; exact hO
  case pos =>
   obtain ⟨b, hbk⟩ := get_lt (show k < l.length by rw [← HSZ.out]; exact hlt)
   obtain ⟨hb', hext⟩ := HB.out k b hbk
   have g1 : ((s[k]'hlt).toNat) = byteAt s k := (byteAt_of hlt).symm
   have hb8 := byteAt_lt s k
   have hcl : init.length + 1 + 1 ≤ 3000000 := by omega
   by_cases hc : b = c
   ·have hq : ((byteAt s k : Int) == (c.toNat : Int)) = true := by rw [hb', hc]; simp
    have HN : Hid (piecesB c (l.take (k + 1)) = (init ++ [last]) ++ [[]]) := Lib.hid (by rw [pieces_take hbk HK.out.1, if_pos hc])
    have hcl2 : (init ++ [last]).length + 1 ≤ 3000000 := by simp; omega
    clear hc hbk hb' hext HK
    go_wp2_with (at_builtin; refine wpList_append_lieb (enc := strEnc) rfl (.tmp 19) (.tmp 20) 23 rfl w.heap.size 9 i0 _ 1 16 Tryz.underlying23 hi hz0 hz1 hz2 rfl (by decide) _ (init ++ [last]) [] rfl hO _ rfl wr.heap.size rfl rfl rfl str_one hcl2 (by decide) hzr ?_; intro gn cap w6 hown6 hbb hkp hgn; rw [List.length_append] at hown6 ⊢)
    go_roundw
    case rel => exact ⟨k + 1, init ++ [last], [], gn, cap, by omega, by go_num, by simp, Lib.hid ⟨HN.out, by simp; omega, by simp⟩, by simpa using hown6, hb.trans hbb⟩
    case measure => simp [intOf]; omega
   ·have hq : ((byteAt s k : Int) == (c.toNat : Int)) = false := by
     rw [hb']
     simp
     intro e
     exact hc (UInt8.toNat_inj.1 (by omega))
    have HN : Hid (piecesB c (l.take (k + 1)) = init ++ [last ++ [b]]) := Lib.hid (by rw [pieces_take hbk HK.out.1, if_neg hc])
    obtain ⟨hnm, hgo, hmc, hcm, cs, hBk, hcs, hrow⟩ := hO.cells strEnc_len
    have hza : (init ++ [last])[init.length]? = some last := by simp
    have z0 : cs[init.length]? = some (.string (bs last)) := by have := hrow _ last hza 0 (by decide); simpa [strEnc] using this
    have hjw : IntKind.i64.wrap (init.length : Int) = init.length := IntWalk.i64_in _ (by omega)
    have hkw : IntKind.i64.wrap ((k : Int) + 1) = (k : Int) + 1 := IntWalk.i64_in _ (by omega)
    have hjl : init.length < init.length + 1 := by omega
    have hjz : (init.length : Int) < (init.length : Int) + 1 := by omega
    have hk1 : k + 1 ≤ s.size := by omega
    have hk2 : (k : Int) + 1 ≤ (s.size : Int) := by omega
    have hk3 : (k : Int) ≤ (k : Int) + 1 := by omega
    have hk4 : (0 : Int) ≤ (k : Int) + 1 := by omega
    have hk5 : ((k : Int) + 1).toNat = k + 1 := by omega
    obtain ⟨c1, c2, c3⟩ := hBk.facts
    have HR := Lib.hid hrow
    have HMC := Lib.hid hmc
    have HCS := Lib.hid hcs
    have Z0 := Lib.hid z0
    clear hc hbk hb' HK hrow hmc hnm hza hcs
    have hcat := cat_run last [b] (by simp; omega)
    go_wp2_with fail
    obtain ⟨S, hSS⟩ : ∃ S : World → Prop, Hid (S = fun w' => w'.cell? ⟨g, init.length, none⟩ = some (.string (bs last))) := ⟨_, Lib.hid rfl⟩
    have hS0 : S wr.drew := by rw [hSS.out]; exact (hBk.cell _).trans z0
    refine WpN.begin (S := S) 13 (by kernel_rfl) ?_
    refine tN 0 ?_ ?_ <| tN 1 ?_ ?_ <| tN 2 ?_ ?_ <| tN 3 ?_ ?_ <| tN 4 ?_ ?_ <| tN 5 ?_ ?_ <| tN 6 ?_ ?_ <| tN 7 ?_ ?_ <| tN 8 ?_ ?_ <| tN 9 ?_ ?_ <| tN 10 ?_ ?_ <| tN 11 ?_ ?_ <| tN 12 ?_ ?_ ?_
    iterate 13
     rotate_left
     ·intro w hSw; rw [hSS.out] at hSw; have sw0 := hSw; clear hSw; (try simp only [pS]); go_simp; try with_reducible rfl
    try simp only [pS]
    refine WpN.one (i := 13) rfl (by kernel_rfl) fun K hK => ?_
    go_wp2_with fail
    refine hK.out _ _ ⟨fun h => by omega, ?_⟩
    clear hK K
    refine WpN.done (by kernel_rfl) ?_ _
    go_wp2_with fail
    go_roundw
    case rel =>
     refine ⟨k + 1, init, last ++ [b], g, cc, by omega, by go_num, rfl, Lib.hid ⟨HN.out, by omega, by simp; omega⟩, ?_, by exact (below_drew hb).setCell hgo _⟩
     have h2 := Own.of_cells (enc := strEnc) (m := init ++ [last ++ [b]]) strEnc_len (by decide) ((hBk.drew).set_ init.length (.string (bs (last ++ [b])))) hgo (by have := HMC.out; simpa using this) hcm (by simpa using HCS.out) (by
      have e : (init ++ [last]).set init.length (last ++ [b]) = init ++ [last ++ [b]] := by simp
      rw [← e]
      refine HR.out.set (by simp) (fun t ht => by rw [Array.getElem?_setIfInBounds_ne (by omega)]) (fun t ht => ?_)
      have k1 : init.length < cs.size := (Array.getElem?_eq_some_iff.1 Z0.out).1
      obtain rfl : t = 0 := by omega
      simp only [Nat.mul_one, Nat.add_zero]
      rw [Array.getElem?_setIfInBounds_self_of_lt k1]; rfl)
     rw [show (init ++ [last ++ [b]]).length = init.length + 1 by simp] at h2
     exact h2
    case measure => simp [intOf]; omega
end Go.Proofs.YtjcimdpldlamfaaGreatDoor
/- The walks of the document's Lines, Words, Joined, wrong, said. -/
namespace Go.Proofs.YtjcimdpldlamfaaGreatDoor
open Go.RowKit

/-- A list of strings, told. -/
def StrsRes (l : List (List UInt8)) (w : World) (e : Ending) (w' : World) : Prop := ∃ A c, e = .returned (.slice A l.length c) ∧ StrsAt w' A c l ∧ Below w.heap.size w w'
set_option maxRecDepth 100000 in
set_option maxHeartbeats 4000000 in
theorem refLines_any (s : List UInt8) (w : World) (hs : s.length ≤ 2000000) : Calls Tryz.prog 7 #[.string (bs s)] w (StrsRes (linesB s) w) := by
 have hp : Calls Tryz.prog 18 #[.string (bs s), .int .u8 10] w (StrsOut (piecesB 10 s) w) := refPieces_big s 10 w hs
 have hp1 : 0 < (piecesB 10 s).length := List.length_pos_iff.2 (pieces_ne 10 s)
 have hpc := pieces_count 10 s
 have HL : Hid (linesB s = if (piecesB 10 s).getLast? = some [] then (piecesB 10 s).dropLast else piecesB 10 s) := Lib.hid rfl
 obtain ⟨ps, hps⟩ : ∃ ps, piecesB 10 s = ps := ⟨_, rfl⟩
 rw [hps] at hp hp1 HL hpc
 have HP := Lib.hid hp
 clear hp hps
 go_enter Tryz.func7, Tryz.ntmps7
 go_wp2_with fail
 refine HP.out.mono ?_
 rintro e w1 ⟨g, c, rfl, hO, hb1⟩
 obtain ⟨A', c', hv, hA⟩ := own_strs hO
 simp only [Value.slice.injEq] at hv
 obtain ⟨rfl, _, rfl⟩ := hv
 obtain ⟨xl, hxl⟩ := get_lt (show ps.length - 1 < ps.length by omega)
 have hlast : ps.getLast? = some xl := by rw [List.getLast?_eq_getElem?]; exact hxl
 obtain ⟨ba, oa, he, hba, x0⟩ := hA.get hxl
 simp only [Option.some.injEq, Addr.mk.injEq, and_true] at he
 obtain ⟨rfl, rfl⟩ := he
 rw [Nat.zero_add] at x0
 have HA := Lib.hid hA
 obtain ⟨n, hn⟩ : ∃ n, ps.length = n := ⟨_, rfl⟩
 have HN := Lib.hid hn
 rw [hn] at hp1 x0 hpc ⊢
 have hn1 : IntKind.i64.wrap ((n : Int) - 1) = ((n - 1 : Nat) : Int) := by rw [IntWalk.i64_in _ (by omega)]; omega
 have hcn : n ≤ c := by have := hA.lc; omega
 have hcm := hA.cm
 clear hA hO hxl hn
 by_cases hx : xl = []
 ·have HQ : Hid (linesB s = ps.take (n - 1)) := Lib.hid (by rw [HL.out, if_pos (by rw [hlast, hx]), List.dropLast_eq_take, HN.out])
  have HQL : Hid ((ps.take (n - 1)).length = n - 1) := Lib.hid (by rw [List.length_take, HN.out]; omega)
  subst hx
  clear hlast
  obtain ⟨m, hm⟩ : ∃ m, n - 1 = m := ⟨_, rfl⟩
  have hmn : m < n := by omega
  rw [hm] at hn1 x0 HQ HQL
  clear hm
  go_wp2_with fail
  go_ret
  refine ⟨_, _, ?_, by rw [HQ.out]; exact ⟨by rw [HQL.out]; omega, HA.out.cm, HA.out.sl.take m⟩, hb1⟩
  rw [HQ.out, HQL.out]
  rfl
 ·have HQ : Hid (linesB s = ps) := Lib.hid (by rw [HL.out, if_neg (by rw [hlast]; simpa using hx)])
  have hne : (xl == ([] : List UInt8)) = false := beq_eq_false_iff_ne.2 hx
  clear hlast hx
  obtain ⟨m, hm⟩ : ∃ m, n - 1 = m := ⟨_, rfl⟩
  have hmn : m < n := by omega
  rw [hm] at hn1 x0
  clear hm
  go_wp2_with fail
  go_ret
  refine ⟨_, _, ?_, by rw [HQ.out]; exact HA.out, hb1⟩
  rw [HQ.out, HN.out]
  rfl
set_option maxRecDepth 100000 in
set_option maxHeartbeats 4000000 in
theorem refWords_any (s : List UInt8) (w : World) (hs : s.length ≤ 900000) : Calls Tryz.prog 8 #[.string (bs s)] w fun e w' => ∃ v, e = .returned v ∧ Own strEnc 1 w' w.heap.size 9 v (wordsB s) ∧ Below w.heap.size w w' := by
 have hp : Calls Tryz.prog 18 #[.string (bs s), .int .u8 32] w (StrsOut (piecesB 32 s) w) := refPieces_big s 32 w (by omega)
 have hpc := pieces_count 32 s
 have HWD : Hid (wordsB s = (piecesB 32 s).filter fun p => decide (p ≠ [])) := Lib.hid rfl
 obtain ⟨ps, hps⟩ : ∃ ps, piecesB 32 s = ps := ⟨_, rfl⟩
 rw [hps] at hp HWD hpc
 have HP := Lib.hid hp
 have hpl : ps.length ≤ 900001 := by omega
 clear hp hps hpc
 obtain ⟨i0, hi, hz0, hz1, hz2⟩ := info_str2
 go_enter Tryz.func8, Tryz.ntmps8
 go_wp2_with fail
 refine HP.out.mono ?_
 rintro e w1 ⟨g, c, rfl, hO, hb1⟩
 obtain ⟨A', c', hv, hA⟩ := own_strs hO
 simp only [Value.slice.injEq] at hv
 obtain ⟨rfl, _, rfl⟩ := hv
 have HST := Lib.hid hA
 have m1 := hA.len
 clear hA hO
 go_wp2_with fail
 go_loopw [3, 5] (fun u v wr => ∃ (j : Nat), v = .int .i64 j ∧ j ≤ ps.length ∧ Own strEnc 1 wr w1.heap.size 9 u ((ps.take j).filter fun p => decide (p ≠ [])) ∧ Below w1.heap.size w1 wr) (fun _ v _ => ps.length - (intOf v).toNat)
 case atStart => exact ⟨0, rfl, Nat.zero_le _, Own.nil, Below.refl _ _⟩
 case round =>
  obtain ⟨j, rfl, hj, hO, hb5⟩ := hrel
  obtain ⟨out2, ho⟩ : ∃ o, ((ps.take j).filter fun p => decide (p ≠ [])) = o := ⟨_, rfl⟩
  have hol : out2.length ≤ j := by rw [← ho]; exact Nat.le_trans (List.length_filter_le _ _) (by rw [List.length_take]; omega)
  rw [ho] at hO
  by_cases hjl : j < ps.length
  case pos =>
   obtain ⟨q, hq⟩ := get_lt hjl
   obtain ⟨bq, oq, heq, hbq, xq⟩ := HST.out.get hq
   simp only [Option.some.injEq, Addr.mk.injEq, and_true] at heq
   obtain ⟨rfl, rfl⟩ := heq
   rw [Nat.zero_add] at xq
   have xq : wr.cell? ⟨g, j, none⟩ = some (.string (bs q)) := (hb5.cell (p := ⟨g, j, none⟩) hbq).trans xq
   have hz5 := hb5.size
   have HWG : Hid ((ps.take (j + 1)).filter (fun p => decide (p ≠ [])) = out2 ++ (if q = [] then [] else [q])) := Lib.hid (by
    rw [List.take_add_one, hq, List.filter_append, ho]
    congr 1
    by_cases hp : q = [] <;> simp [hp])
   clear hq ho
   by_cases hqe : q = []
   ·subst hqe
    rw [if_pos rfl, List.append_nil] at HWG
    go_wp2_with fail
    go_roundw
    case rel => exact ⟨j + 1, by go_num, by omega, by rw [HWG.out]; exact hO, hb5⟩
    case measure => simp [intOf]; omega
   ·rw [if_neg hqe] at HWG
    have hqn : (q != ([] : List UInt8)) = true := by simpa using hqe
    have hqm : q.isEmpty = false := by simpa using hqe
    clear hqe
    go_wp2_with (at_builtin; refine wpList_append_lie (enc := strEnc) rfl (.tmp 19) (.tmp 24) 23 rfl w1.heap.size 9 i0 _ 1 16 Tryz.underlying23 hi hz0 hz1 hz2 rfl (by decide) _ out2 q rfl hO _ rfl wr.heap.size rfl rfl rfl str_one (by omega) (by decide) hz5 ?_; intro gn cap w6 hown6 hbb hkp hgn)
    go_roundw
    case rel => exact ⟨j + 1, by go_num, by omega, by rw [HWG.out]; exact hown6, hb5.trans hbb⟩
    case measure => simp [intOf]; omega
  case neg =>
   obtain rfl : j = ps.length := by omega
   rw [List.take_length] at ho
   have HW2 : Hid (wordsB s = out2) := Lib.hid (by rw [HWD.out, ho])
   have HZ := Lib.hid hb1.size
   obtain ⟨Ao, co, rfl⟩ := hO.form
   clear ho
   go_wp2_with fail
   go_ret
   exact ⟨_, rfl, by rw [HW2.out]; exact hO.since HZ.out, ext_trans hb1 hb5⟩
end Go.Proofs.YtjcimdpldlamfaaGreatDoor
/- The law DeskHead: what follows is not seen in what was answered. -/
namespace Go.Proofs.YtjcimdpldlamfaaGreatDoor
open Go.RowKit

theorem prefix_any (s p : List UInt8) (h : p <+: s) (w : World) : Calls Tryz.prog 10 #[.string (bs s), .string (bs p)] w fun e w' => e = .returned (.bool true) ∧ w' = w := by
 have h9 := Dsk.strings_HasPrefix (bs s) (bs p) w
 rw [bs_list, bs_list] at h9
 have e : Lib.hasPrefix s p = true := by unfold Lib.hasPrefix; rw [List.isPrefixOf_iff_prefix]; exact h
 rw [e] at h9
 exact h9
set_option maxRecDepth 100000 in
set_option maxHeartbeats 4000000 in
theorem deskHead_calls (a b : List UInt8) (w : World) (hs : a.length + b.length ≤ 1900000) (ht : ITab w) (hm : MaxL w) :
  Calls Tryz.prog 4 #[.string (bs a), .string (bs b)] w fun e w' => e = .returned (.bool true) ∧ Below w.heap.size w w' := by
 have h0 : Calls Tryz.prog 6 #[.string (bs hScript)] w fun e w' => e = .returned (.string ⟨#[111, 107, 10, 111, 107, 10, 111, 107, 10, 111, 107, 10, 111, 107, 10, 49, 32, 51, 10, 48, 32, 45, 10]⟩) ∧ Below w.heap.size w w' := by
  have h := desk_any hScript w (by decide) ht hm
  rw [guard_head] at h
  exact h.mono fun e w' ⟨h1, _, h2⟩ => ⟨h1, h2⟩
 have H0 := Lib.hid h0
 have HRA : Hid (∀ W, Below w.heap.size w W → Calls Tryz.prog 6 #[.string (bs a)] W fun e w' => e = .returned (.string (bs (deskT a))) ∧ Below W.heap.size W w') := Lib.hid fun W h => (desk_any a W (by omega) (ht.ext h) (hm.ext h)).mono fun e w' ⟨h1, _, h2⟩ => ⟨h1, h2⟩
 have hcl : (a ++ 10 :: b).length ≤ 2000000 := by simp only [List.length_append, List.length_cons]; omega
 have HRB : Hid (∀ W, Below w.heap.size w W → Calls Tryz.prog 6 #[.string (bs (a ++ 10 :: b))] W fun e w' => e = .returned (.string (bs (deskT (a ++ 10 :: b)))) ∧ Below W.heap.size W w') := Lib.hid fun W h => (desk_any _ W hcl (ht.ext h) (hm.ext h)).mono fun e w' ⟨h1, _, h2⟩ => ⟨h1, h2⟩
 have HHD := Lib.hid (desk_head a b)
 have HL : Hid (∀ W, Calls Tryz.prog 7 #[.string (bs (a ++ 10 :: b))] W (StrsRes (linesB (a ++ 10 :: b)) W)) := Lib.hid fun W => refLines_any _ W hcl
 have hc1 : bs a ++ bs [10] ++ bs b = bs (a ++ 10 :: b) := by rw [bs_add, bs_add]; simp
 have h1l : (bs a ++ bs [10]).size ≤ 2000000 := by rw [bs_add, bs_size]; simp; omega
 obtain ⟨s, hse⟩ : ∃ s, a ++ 10 :: b = s := ⟨_, rfl⟩
 obtain ⟨ra, hra⟩ : ∃ r, deskT a = r := ⟨_, rfl⟩
 rw [hse] at HRB HHD HL hc1 hcl
 obtain ⟨rs, hrs⟩ : ∃ r, deskT s = r := ⟨_, rfl⟩
 rw [hra] at HRA HHD
 rw [hrs] at HRB HHD
 clear h0 ht hm hse hra hrs
 show Calls Tryz.prog 4 #[.string (bs a), .string (bs b)] w _
 go_enter Tryz.func4, Tryz.ntmps4
 go_wp2_with fail
 refine H0.out.mono ?_
 rintro e w1 ⟨rfl, hb1⟩
 by_cases hbig : 65536 < s.length
 ·have hd : decide ((s.length : Int) > 65536) = true := by simp; omega
  clear hbig
  go_wp2_with fail
  go_ret
  exact ⟨rfl, hb1⟩
 have hd : decide ((s.length : Int) > 65536) = false := by simp; omega
 have hs6 : s.length ≤ 65536 := by omega
 clear hbig
 obtain ⟨ls, hls⟩ : ∃ ls, linesB s = ls := ⟨_, rfl⟩
 rw [hls] at HL HHD
 clear hls
 go_wp2_with fail
 refine (HL.out _).mono ?_
 rintro e w3 ⟨A3, c3, rfl, hA3, hb3⟩
 have hb13 := ext_trans hb1 hb3
 have m3 := hA3.len
 clear hA3
 by_cases h200 : 200 < ls.length
 ·have hd2 : decide ((ls.length : Int) > 200) = true := by simp; omega
  clear h200
  go_wp2_with fail
  go_ret
  exact ⟨rfl, hb13⟩
 have hd2 : decide ((ls.length : Int) > 200) = false := by simp; omega
 have HPF := Lib.hid (prefix_any rs ra (HHD.out hs6 (by omega)))
 clear h200
 go_wp2_with fail
 refine (HRB.out _ hb13).mono ?_
 rintro e w4 ⟨rfl, hb4⟩
 have hb14 := ext_trans hb13 hb4
 go_wp2_with fail
 refine (HRA.out _ hb14).mono ?_
 rintro e w5 ⟨rfl, hb5⟩
 have hb15 := ext_trans hb14 hb5
 go_wp2_with fail
 refine (HPF.out _).mono ?_
 rintro e w6 ⟨rfl, rfl⟩
 go_wp2_with fail
 go_ret
 exact ⟨rfl, hb15⟩
end Go.Proofs.YtjcimdpldlamfaaGreatDoor
