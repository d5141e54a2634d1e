/- Several texts in one: Sized, Edges. -/
import Derived.SizedLaws
import Derived.ChangeMaps5
import Derived.Test.YtdpibehpmghghaaGreatBd6068468490
import Derived.Test.YtdpibehpmghghaaGreatBd2ead63bc01
/- The reach: how long what is read can be. -/
namespace Go.Proofs.YtdpibehpmghghaaGreat
open Go.ChangeShapes Go.WideShapes Go.RowKit Go.Deep Go.Joins
open Go.ChangeMaps (open_string)

section
variable {H : Type} {enc : TypeId × Value → H} {W : World} {spare : Nat → Bool} {held : Bool}
theorem sl_weight {t e : TypeId} (ht : Tryz.prog.underlying t = some (.slice e)) {fuel : Nat} {A : Option Addr} {n c : Nat} {x : DataW H × List MemPlace} (h : DataW.trod enc Tryz.prog W 0 spare held fuel t [.slice A n c] = some x) {R : Nat} (hR : ∀ k, k ∈ x.1.weights Tryz.prog t → k ≤ R) : n * Tryz.prog.bytesOf e ≤ R := by
  rcases open_slice ht h with ⟨h0, _⟩ | ⟨a, len, cap, m, n', D, Pl, hcs, _, hlc, hcm, hm, hx, hi⟩
  · obtain ⟨_, rfl, _⟩ : A = none ∧ n = 0 ∧ c = 0 := by simpa using h0
    simp
  · obtain ⟨_, rfl, _⟩ : A = some a ∧ n = len ∧ c = cap := by simpa using hcs
    rw [hx] at hR
    have := hR (((List.range n).map D).length + ((List.range (m - n)).map fun j => D (n + j)).length |>.mul (Tryz.prog.bytesOf e)) (by simp only [DataW.weights, ht]; exact List.mem_cons_self ..)
    refine Nat.le_trans ?_ this
    exact Nat.mul_le_mul_right _ (by simp)
set_option maxRecDepth 100000 in
theorem graph_sized {v : Value} {d : DataW H} {p : List MemPlace} {r : Reach} {b0 : Nat} (hv : Value.okWide Tryz.prog W r b0 25 v) (h : DataW.Trod enc Tryz.prog W 0 spare held 25 v d p) :
    ∃ A c A' c' g, v = gV A c A' c' g ∧ GraphAt W A c A' c' g ∧ ∀ R, (∀ k, k ∈ d.weights Tryz.prog 25 → k ≤ R) → g.lives.length * 16 ≤ R ∧ g.edges.length * 40 ≤ R := by
  obtain ⟨v0, v1, v2, y0, y1, y2, n, rfl, rfl, _, h0, h1, h2⟩ := open_agg3 Tryz.underlying25 (by kernel_rfl) (by kernel_rfl) hv h
  obtain ⟨x, hx, _, wx⟩ := DataW.trod_int Tryz.underlying3 h0
  obtain ⟨A, c, l, hA, h3, h4, h5⟩ := sl_open (R := RIvl) Tryz.underlying22 (by kernel_rfl) (by omega) el_ivl h1
  obtain ⟨A', c', l', hA', h3', h4', h5'⟩ := sl_open (R := REdge) Tryz.underlying23 (by kernel_rfl) (by omega) el_edge h2
  simp at hx hA hA'
  subst hx hA hA'
  refine ⟨A, c, A', c', ⟨x, l, l'⟩, rfl, ⟨i64_of_wf wx, h3, h4, h3', h4', h5, h5'⟩, fun R hR => ⟨?_, ?_⟩⟩
  · have := sl_weight Tryz.underlying22 h1 (R := R) (fun k hk => hR k ?_)
    · rwa [show Tryz.prog.bytesOf 107 = 16 by kernel_rfl] at this
    · simp only [DataW.weights, Tryz.underlying25, DataW.weightsEach, List.map_cons, List.mem_append]
      exact .inr (.inl hk)
  · have := sl_weight Tryz.underlying23 h2 (R := R) (fun k hk => hR k ?_)
    · rwa [show Tryz.prog.bytesOf 60 = 40 by kernel_rfl] at this
    · simp only [DataW.weights, Tryz.underlying25, DataW.weightsEach, List.map_cons, List.mem_append]
      exact .inr (.inr (.inl hk))
set_option maxRecDepth 100000 in
theorem string_sized {v : Value} {d : DataW H} {p : List MemPlace} {r : Reach} {b0 : Nat} (hv : Value.okWide Tryz.prog W r b0 9 v) (h : DataW.Trod enc Tryz.prog W 0 spare held 9 v d p) : ∃ s : ByteArray, v = .string s ∧ d = .lit (.string s.data.toList) := by
  obtain ⟨s, rfl, hd, _, _⟩ := open_string Tryz.underlying9 hv h
  exact ⟨s, rfl, hd⟩
theorem str_bound {s : ByteArray} (h : s.data.toList.length ≤ reachBytes) : s.size ≤ 140737488351232 := by
  have : s.size = s.data.toList.length := by simp
  rw [this]
  exact Nat.le_trans h (by decide)
theorem weights_reach {ts : List TypeId} {ds : List (DataW H)} (h : (DataW.weightsEach Tryz.prog ts ds).all (· ≤ reachBytes) = true) {j : Nat} {t : TypeId} {d : DataW H} (ht : ts[j]? = some t) (hd : ds[j]? = some d) : ∀ k, k ∈ d.weights Tryz.prog t → k ≤ reachBytes := fun k hk => by
  have := List.all_eq_true.1 h _ (DataW.weights_mem_each ht hd k hk)
  simpa using this
end
end Go.Proofs.YtdpibehpmghghaaGreat
/- Lists of edges: Clone of them, and a graph with an edge more. -/
namespace Go.Proofs.YtdpibehpmghghaaGreat
open Go.RowKit Go.WideShapes Go.Deep Go.Joins Go.ChangeShapes

theorem info_edge4 : (Tryz.prog.info? 60).map (fun i => (i.zero, i.size, i.bytes)) = some (some (.agg #[.int .i64 0, .int .i64 0, .slice none 0 0]), 3, 40) := by kernel_rfl
theorem info_edge4_ : ∃ i, Tryz.prog.info? 60 = some i ∧ i.zero = some (.agg #[.int .i64 0, .int .i64 0, .slice none 0 0]) ∧ i.size = 3 ∧ i.bytes = 40 := by
  obtain ⟨i0, hi, hzz⟩ := Option.map_eq_some_iff.1 info_edge4
  simp only [Prod.mk.injEq] at hzz
  exact ⟨i0, hi, hzz.1, hzz.2.1, hzz.2.2⟩
theorem flat_backE {l : List EItem} {j : Nat} {u : Value} (h : (l.flatMap eEnc)[j]? = some u) : ∃ (k : Nat) (x : EItem) (i : Nat), l[k]? = some x ∧ j = k * 3 + i ∧ (eEnc x)[i]? = some u := by
  induction l generalizing j with
  | nil => simp at h
  | cons y l ih =>
    rw [List.flatMap_cons] at h
    by_cases hj : j < 3
    · rw [List.getElem?_append_left (by show j < 3; exact hj)] at h
      exact ⟨0, y, j, rfl, by omega, h⟩
    · rw [List.getElem?_append_right (by show 3 ≤ j; omega)] at h
      obtain ⟨k, x, i, h1, h2, h3⟩ := ih (j := j - 3) h
      exact ⟨k + 1, x, i, by simpa using h1, by omega, h3⟩
theorem flat_lenE (l : List EItem) : (l.flatMap eEnc).length = l.length * 3 := by
  induction l with
  | nil => rfl
  | cons x l ih => rw [List.flatMap_cons, List.length_append, ih, List.length_cons]; show 3 + _ = _; omega
theorem edges_one (l : List EItem) : ∀ u ∈ l.flatMap eEnc, u.oneCell' = true := fun u hu => by
  obtain ⟨x, _, hx⟩ := List.mem_flatMap.1 hu
  simp only [eEnc, List.mem_cons, List.not_mem_nil, or_false] at hx
  rcases hx with rfl | rfl | rfl <;> rfl
/-- The legs of edges lie where they say. -/
def LegsSl (w : World) (items : List EItem) : Prop := ∀ it, it ∈ items → (SlAt RLeg 4 w it.2.1 it.1.legs ∧ it.1.legs.length ≤ it.2.2 ∧ it.2.2 ≤ maxLen) ∧ I64 it.1.a ∧ I64 it.1.b
section
variable {w w' : World} {A : Option Addr} {l : List EdgeD} {items : List EItem} {base : Nat} {v : Value}
theorem LegsSl.ext (h : LegsSl w items) (hb : Below w.heap.size w w') : LegsSl w' items := fun it hi => ⟨⟨(h it hi).1.1.ext RLeg.stable hb, (h it hi).1.2⟩, (h it hi).2⟩
theorem edges_items (h : SlAt REdge 3 w A l) : ∃ items : List EItem, items.map Prod.fst = l ∧ LegsSl w items ∧ ∀ ad, A = some ad → ∀ (j : Nat) u, (items.flatMap eEnc)[j]? = some u → ∀ w', Below w.heap.size w w' → w'.cell? (ad.add j) = some u := by
  obtain ⟨b, off, hS⟩ := h
  obtain ⟨f, hf⟩ := choose_lt (n := l.length) (p := fun i (it : EItem) => l[i]? = some it.1 ∧ A = some ⟨b, off, none⟩ ∧ b < w.heap.size ∧ (cellIs w b (off + i * 3) (.int .i64 it.1.a) ∧ cellIs w b (off + i * 3 + 1) (.int .i64 it.1.b) ∧ cellIs w b (off + i * 3 + 2) (.slice it.2.1 it.1.legs.length it.2.2)) ∧
      (SlAt RLeg 4 w it.2.1 it.1.legs ∧ it.1.legs.length ≤ it.2.2 ∧ it.2.2 ≤ maxLen) ∧ I64 it.1.a ∧ I64 it.1.b) fun i hi => by
    obtain ⟨x, hx⟩ := get_lt hi
    obtain ⟨hA, hb, ⟨h1, h2, L, c, h3, h4, h5, h6⟩, h7⟩ := hS i x hx
    exact ⟨(x, L, c), hx, hA, hb, ⟨h1, h2, h3⟩, ⟨h6, h4, h5⟩, h7⟩
  have hget : ∀ (i : Nat) it, ((List.range l.length).map f)[i]? = some it → i < l.length ∧ it = f i := fun i it hi => by
    rw [List.getElem?_map] at hi
    obtain ⟨k, hk, rfl⟩ := Option.map_eq_some_iff.1 hi
    rcases Nat.lt_or_ge i l.length with hlt | hge
    · rw [List.getElem?_range hlt] at hk
      obtain rfl : i = k := by simpa using hk
      exact ⟨hlt, rfl⟩
    · rw [List.getElem?_eq_none (by simpa using hge)] at hk; cases hk
  refine ⟨(List.range l.length).map f, List.ext_getElem? fun i => ?_, fun it hi => ?_, fun ad hA j u hu w' hb => ?_⟩
  · rcases Nat.lt_or_ge i l.length with hlt | hge
    · rw [List.getElem?_map, List.getElem?_map, List.getElem?_range hlt, (hf i hlt).1]
      rfl
    · rw [List.getElem?_eq_none (by simpa using hge), List.getElem?_eq_none hge]
  · obtain ⟨i, hi2⟩ := List.getElem?_of_mem hi
    obtain ⟨hlt, rfl⟩ := hget i it hi2
    exact (hf i hlt).2.2.2.2
  · obtain ⟨k, x, i, hk, rfl, hi⟩ := flat_backE hu
    obtain ⟨hlt, rfl⟩ := hget k x hk
    obtain ⟨_, hA2, hbl, ⟨x0, x1, x2⟩, _⟩ := hf k hlt
    obtain rfl : ad = ⟨b, off, none⟩ := by rw [hA] at hA2; simpa using hA2
    rw [Go.WideShapes.add_plain]
    have x0 := x0.now hb; have x1 := x1.now hb; have x2 := x2.now hb
    match i, hi with
    | 0, hi => simp [eEnc] at hi; subst hi; simpa [Nat.add_assoc] using x0
    | 1, hi => simp [eEnc] at hi; subst hi; simpa [Nat.add_assoc] using x1
    | 2, hi => simp [eEnc] at hi; subst hi; simpa [Nat.add_assoc] using x2
    | i + 3, hi => simp [eEnc] at hi
theorem own_edges2 (h : Own eEnc 3 w base 60 v items) (hl : LegsSl w items) : ∃ A c, v = .slice A items.length c ∧ SlAt REdge 3 w A (items.map Prod.fst) := by
  obtain ⟨A, c, hv, hs⟩ := Own.slAt (R := fun w b o (it : EItem) => REdge w b o it.1) (enc := eEnc) (fun _ => rfl) (fun it hm b o hc => by
    have h2 := hl it hm
    exact ⟨⟨by have := hc 0 _ rfl; simpa using this, by have := hc 1 _ rfl; simpa using this, it.2.1, it.2.2, by have := hc 2 _ rfl; simpa using this, h2.1.2.1, h2.1.2.2, h2.1.1⟩, h2.2⟩) h
  exact ⟨A, c, hv, slAt_map (f := Prod.fst) hs⟩
end
/-- A list of edges is told, in a block of its own; their legs are those that were. -/
def ECloneOut (items : List EItem) (w : World) (e : Ending) (w' : World) : Prop := ∃ v, e = .returned v ∧ Own eEnc 3 w' w.heap.size 60 v items ∧ Below w.heap.size w w'
set_option maxRecDepth 100000 in
set_option maxHeartbeats 2000000 in
theorem edgeClone_any (A : Option Addr) (c : Nat) (l : List EdgeD) (items : List EItem) (w : World) (hi0 : items.map Prod.fst = l) (hA0 : A = none → l = []) (hcl : ∀ ad, A = some ad → ∀ (j : Nat) u, (items.flatMap eEnc)[j]? = some u → ∀ w', Below w.heap.size w w' → w'.cell? (ad.add j) = some u) (hl : l.length ≤ maxLen) (hl2 : l.length * 40 ≤ 140737488351232) :
    Calls Tryz.prog 27 #[.slice A l.length c] w (ECloneOut items w) := by
  obtain ⟨i0, hi, hz0, hz1, hz2⟩ := info_edge4_
  cases A with
  | none =>
    have h0 := hA0 rfl
    subst h0
    have hnil : ∀ W : World, (binOp .eql 23 (.slice none 0 c) (.slice none 0 0)).run Tryz.prog W = .ok (.bool true) W := fun W => Lib.run_eql_slice_nil_nil W 0 c Tryz.underlying23
    have hi1 : items = [] := by simpa using hi0
    subst hi1
    go_enter Tryz.func27, Tryz.ntmps27
    go_wp2_with fail
    go_ret
    exact ⟨_, rfl, Own.nil, by go_grown⟩
  | some ad =>
    have hsome : ∀ W : World, (binOp .eql 23 (.slice (some ad) l.length c) (.slice none 0 0)).run Tryz.prog W = .ok (.bool false) W := fun W => Lib.run_eql_slice_some_nil W ad l.length c Tryz.underlying23
    have hcells := hcl ad rfl
    have hln : items.length = l.length := by rw [← hi0, List.length_map]
    have HLN := Lib.hid hln
    have HCL := Lib.hid hcells
    clear hcl hA0 hi0 hln hcells
    go_enter Tryz.func27, Tryz.ntmps27
    go_wp2_with (at_builtin; refine wpList_append_own_at _ rfl (.tmp 5) (.tmp 6) 23 rfl w.heap.size 60 i0 _ 3 40 Tryz.underlying23 hi hz0 hz1 hz2 rfl (by decide) _ 0 [] rfl (Own.lit (enc := eEnc) (l := []) rfl (Nat.le_refl _) rfl rfl rfl (by decide)) ad l.length c (items.flatMap eEnc) rfl (by rw [flat_lenE, HLN.out]) (fun j u hu => HCL.out j u hu _ (by go_grown)) (edges_one items) (by omega) (by omega) (by simp) ?_; intro v6 w6 hown h3 hn hat)
    have hown' : Own eEnc 3 w6 w.heap.size 60 v6 items := by
      unfold Own
      rw [HLN.out]
      simpa using hown
    have hbb : Below w.heap.size w w6 := by
      refine ((Below.refl w.heap.size w).alloc (Nat.le_refl _) (Obj.cells #[] 60)).grown h3 (by simp) ?_
      intro k hk
      have e : some w.heap.size = some k := hk
      cases e
      exact Nat.le_refl _
    go_ret
    exact ⟨v6, rfl, hown', hbb⟩
/-- An append of one element that lies in a block; the list may be long. -/
theorem wp_append_big {P : Program} {o : Oper} {a : Act} {K : Act → World → Prop} {Q : Exit → Act → World → Prop} {w : World} {α : Type} {enc : α → List Value} (s x : Operand) (t : TypeId)
    (ho : o.op = .call { callee := .builtin .append, args := #[s, x], argTypes := #[t, t] })
    (base : Nat) (e : TypeId) (i : TypeInfo) (z : Value) (size bytes : Nat) (ht : P.underlying t = some (.slice e)) (hi : P.info? e = some i) (hz : i.zero = some z)
    (hsize : i.size = size) (hby : i.bytes = bytes) (hzs : z.cells.size = size) (hsz : 0 < size)
    (v : Value) (l : List α) (y : α) (hs : a.eval s = v) (hown : Own enc size w base e v l) (cs : Array Value) (hcy : cs.toList = enc y) (k : Nat) (hk : Blk w k e cs) (hx : a.eval x = .slice (some ⟨k, 0, none⟩) 1 1) (hcs : cs.size = size)
    (h1 : ∀ u ∈ cs.toList, u.oneCell' = true) (h63 : l.length + 1 ≤ maxLen) (hb2 : (l.length + 1) * bytes ≤ 140737488355328) (hbase : base ≤ w.heap.size)
    (h : ∀ v' w', Own enc size w' base e v' (l ++ [y]) → Below base w w' → (∀ b t' cs', Blk w b t' cs' → t' ≠ e → Blk w' b t' cs') → K (a.put o.dst v') w') : Oper.wp P o a w K Q := by
  refine wp_append_lies w s x t ho base e i z size bytes ht hi hz hsize hby hzs hsz v l.length (l.flatMap enc) hs hown ⟨k, 0, none⟩ 1 1 cs.toList hx (by simp [hcs])
    (World.news_of_block hk) h1 (by omega) h63 hb2 hbase _ rfl ?_
  intro g cap w' h2 h3 h4 _
  refine h _ w' ?_ ((Below.refl base w).grown h3 hbase fun k hk => (World.ownsRow.lt hown k hk).1) fun b t' cs' hB ht' => hB.grown h3 (hown.other hB ht')
  show w'.ownsRow base e size _ (l ++ [y]).length ((l ++ [y]).flatMap enc)
  rw [List.flatMap_append, List.length_append]
  simpa [hcy] using h2
section
variable {H : Type} {enc : TypeId × Value → H} {W : World} {spare : Nat → Bool} {held : Bool}
set_option maxRecDepth 100000 in
theorem edge_open {v : Value} {d : DataW H} {p : List MemPlace} {r : Reach} {b0 : Nat} (hv : Value.okWide Tryz.prog W r b0 60 v) (h : DataW.Trod enc Tryz.prog W 0 spare held 60 v d p) :
    ∃ L c x, v = edgeV L c x ∧ x.legs.length ≤ c ∧ c ≤ maxLen ∧ SlAt RLeg 4 W L x.legs ∧ I64 x.a ∧ I64 x.b := by
  obtain ⟨v0, v1, v2, y0, y1, y2, n, rfl, _, _, h0, h1, h2⟩ := open_agg3 Tryz.underlying60 (by kernel_rfl) (by kernel_rfl) hv h
  obtain ⟨a, ha, _, wa⟩ := DataW.trod_int Tryz.underlying3 h0
  obtain ⟨b, hb, _, wb⟩ := DataW.trod_int Tryz.underlying3 h1
  obtain ⟨L, c, l, hA, h3, h4, h5⟩ := sl_open (R := RLeg) Tryz.underlying58 (by kernel_rfl) (by omega) el_leg h2
  simp at ha hb hA
  subst ha hb hA
  exact ⟨L, c, ⟨a, b, l⟩, rfl, h3, h4, h5, i64_of_wf wa, i64_of_wf wb⟩
end
end Go.Proofs.YtdpibehpmghghaaGreat
