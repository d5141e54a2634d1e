/- Several texts in one: BackG, Equal, Same. -/
import Derived.Laws.StructEq
import Derived.Shelf.Abstract
import Derived.Test.YtdpibehpmghghaaDoorProg
import Derived.Test.YtdpibehpmghghaaDoorBdc73a7154b2
import Derived.Test.YtdpibehpmghghaaDoorBd3ad2f3bfb1
import Derived.Test.YtdpibehpmghghaaDoorBd6508cabd72
/- What is printed is read as it was, and what is read is printed as it stood; no program in sight. -/
namespace Go.Proofs.YtdpibehpmghghaaDoor
open Go.Lib

/-! ### numerals -/
theorem itoa_nat {n : Int} (h : 0 ≤ n) : itoa n = decDigits n.toNat := by
  unfold itoa
  rw [if_neg (by omega)]
theorem numB_itoa {n : Int} (h : 0 ≤ n ∧ n < 10000) : numB (itoa n) = n := by
  rw [itoa_nat h.1, numB_of, read_dec]
  · omega
  · refine ⟨?_, dec_len4 (by omega), fun ⟨h1, h2⟩ => dec_head h2 h1⟩
    have := dec_ne n.toNat
    rw [Nat.one_le_iff_ne_zero]
    exact fun e => this (List.eq_nil_of_length_eq_zero e)
  · rw [List.all_eq_true]
    intro b hb
    simpa [digitB] using dec_digit _ b hb
theorem dec_read : ∀ (n : Nat) (s : List UInt8), s.length = n → 1 ≤ n → s.all digitB = true → (1 < s.length → s[0]? ≠ some 48) → decDigits (readD s) = s
  | 0, _, _, h, _, _ => by omega
  | n + 1, s, hn, _, hd, h0 => by
    have hs : s ≠ [] := fun e => by rw [e] at hn; simp at hn
    obtain ⟨t, b, rfl⟩ : ∃ t b, s = t ++ [b] := ⟨_, _, (List.dropLast_concat_getLast hs).symm⟩
    have htn : t.length = n := by simpa using hn
    simp only [List.all_append, List.all_cons, List.all_nil, Bool.and_true, Bool.and_eq_true] at hd
    have hb : 48 ≤ b.toNat ∧ b.toNat ≤ 57 := by simpa [digitB] using hd.2
    have hbe : UInt8.ofNat (48 + (b.toNat - 48)) = b := by
      apply UInt8.toNat_inj.1
      rw [digit_nat (by omega)]
      omega
    rw [readD_snoc]
    by_cases ht : t = []
    · subst ht
      have e : readD [] = 0 := rfl
      rw [e, decDigits, dif_pos (by omega)]
      simp only [Nat.mul_zero, Nat.zero_add, List.nil_append]
      rw [hbe]
    · have hp : 0 < t.length := List.length_pos_iff.2 ht
      have h48 : t[0]? ≠ some 48 := by
        have := h0 (by simp; omega)
        rwa [List.getElem?_append_left hp] at this
      have ih := dec_read n t htn (by omega) hd.1 (fun _ => h48)
      have hr : readD t ≠ 0 := fun e => by
        rw [e, decDigits, dif_pos (by decide)] at ih
        rw [← ih] at h48
        exact h48 rfl
      rw [decDigits, dif_neg (by omega)]
      have e1 : (10 * readD t + (b.toNat - 48)) / 10 = readD t := by omega
      have e2 : (10 * readD t + (b.toNat - 48)) % 10 = b.toNat - 48 := by omega
      rw [e1, e2, ih, hbe]
theorem itoa_numB {s : List UInt8} (h : 0 ≤ numB s) : itoa (numB s) = s := by
  unfold numB at h ⊢
  split at h
  · next hc =>
    rw [if_pos hc, itoa_nat (by omega), Int.toNat_natCast]
    exact dec_read _ s rfl hc.1.1 hc.2 fun hl e => hc.1.2.2 ⟨e, hl⟩
  · omega
theorem itoa_len4 {n : Int} (h : 0 ≤ n ∧ n < 10000) : (itoa n).length ≤ 4 := by rw [itoa_nat h.1]; exact dec_len4 (by omega)
theorem itoa_digits {n : Int} (h : 0 ≤ n) : ∀ b ∈ itoa n, 48 ≤ b.toNat ∧ b.toNat ≤ 57 := by rw [itoa_nat h]; exact dec_digit _
theorem itoa_not {n : Int} (h : 0 ≤ n) {c : UInt8} (hc : c.toNat < 48) : c ∉ itoa n := fun hm => by have := itoa_digits h c hm; omega

/-! ### printed lines -/
def Small (l : List Int) : Prop := ∀ n ∈ l, 0 ≤ n ∧ n < 10000
theorem numsT_len4 : ∀ {l : List Int}, Small l → (numsT l).length ≤ l.length * 5
  | [], _ => by simp [numsT]
  | n :: l, h => by
    have h1 := itoa_len4 (h n (by simp))
    have h2 := numsT_len4 (l := l) fun m hm => h m (by simp [hm])
    have e : numsT (n :: l) = (32 :: itoa n) ++ numsT l := rfl
    rw [e, List.length_append, List.length_cons, List.length_cons]
    omega
theorem lineT_len4 {v : List UInt8} {l : List Int} (h : Small l) : (lineT v l).length ≤ v.length + l.length * 5 + 1 := by
  have := numsT_len4 h
  unfold lineT
  rw [List.length_append, List.length_append]
  simp only [List.length_cons, List.length_nil]
  omega
theorem pieces_line : ∀ (l : List Int) (v : List UInt8), (32 : UInt8) ∉ v → Small l → piecesB 32 (v ++ numsT l) = v :: l.map itoa
  | [], v, hv, _ => by
    rw [numsT_nil, List.append_nil]
    exact pieces_alone _ _ hv
  | n :: l, v, hv, hl => by
    have e : numsT (n :: l) = 32 :: (itoa n ++ numsT l) := rfl
    rw [e, pieces_app _ _ _ hv, pieces_line l (itoa n) (itoa_not (hl n (by simp)).1 (by decide)) fun m hm => hl m (by simp [hm])]
    rfl
theorem nums_not10 : ∀ {l : List Int}, Small l → (10 : UInt8) ∉ numsT l
  | [], _ => by simp [numsT]
  | n :: l, h => by
    have e : numsT (n :: l) = 32 :: (itoa n ++ numsT l) := rfl
    rw [e]
    simp only [List.mem_cons, List.mem_append, not_or]
    exact ⟨by decide, itoa_not (h n (by simp)).1 (by decide), nums_not10 fun m hm => h m (by simp [hm])⟩
theorem numsB_itoa {l : List Int} (h : Small l) : numsB (l.map itoa) = some l := by
  rw [numsB_some]
  · rw [List.map_map]
    congr 1
    refine (List.map_congr_left fun n hn => ?_).trans (List.map_id _)
    exact numB_itoa (h n hn)
  · rw [List.all_eq_true]
    intro s hs
    obtain ⟨n, hn, rfl⟩ := List.mem_map.1 hs
    rw [numB_itoa (h n hn)]
    simpa using (h n hn).1
/-- A printed line is read. -/
theorem read_line {i : Nat} {g g' : GraphD} {v r : List UInt8} {l : List Int} (hv : (32 : UInt8) ∉ v ∧ (10 : UInt8) ∉ v) (hl : Small l) (hf : decide (i = 0) = decide (v = wTime)) (hs : stepN g v l = some g') :
    readOut i g (piecesB 10 (lineT v l ++ r)) = readOut (i + 1) g' (piecesB 10 r) := by
  have e : lineT v l ++ r = (v ++ numsT l) ++ 10 :: r := by unfold lineT; simp
  rw [e, pieces_app]
  · obtain ⟨q, ps, hq⟩ := pieces_form 10 r
    rw [hq]
    refine readOut_next ?_
    rw [pieces_line l v hv.1 hl]
    simp only [stepG]
    rw [numsB_itoa hl]
    simp only
    rw [if_pos hf, hs]
  · simp only [List.mem_append, not_or]
    exact ⟨hv.2, nums_not10 hl⟩
theorem words_plain : ((32 : UInt8) ∉ wTime ∧ (10 : UInt8) ∉ wTime) ∧ ((32 : UInt8) ∉ wVertex ∧ (10 : UInt8) ∉ wVertex) ∧ ((32 : UInt8) ∉ wEdge ∧ (10 : UInt8) ∉ wEdge) ∧ ((32 : UInt8) ∉ wLeg ∧ (10 : UInt8) ∉ wLeg) := by decide
theorem read_lives (r : List UInt8) : ∀ (ls : List IvlD) (i : Nat) (g : GraphD), 0 < i → g.edges = [] → (∀ x ∈ ls, Small [x.f, x.t]) →
    readOut i g (piecesB 10 (ls.flatMap vertexT ++ r)) = readOut (i + ls.length) { g with lives := g.lives ++ ls } (piecesB 10 r)
  | [], i, g, _, _, _ => by simp
  | x :: ls, i, g, hi, he, hs => by
    have e : (x :: ls).flatMap vertexT ++ r = lineT wVertex [x.f, x.t] ++ (ls.flatMap vertexT ++ r) := by
      rw [List.flatMap_cons, List.append_assoc]; rfl
    rw [e, read_line words_plain.2.1 (hs x (by simp)) (by simp [wVertex, wTime]; omega) (g' := { g with lives := g.lives ++ [⟨x.f, x.t⟩] }) (by simp [stepN, he])]
    rw [read_lives r ls (i + 1) { g with lives := g.lives ++ [⟨x.f, x.t⟩] } (by omega) he fun y hy => hs y (by simp [hy])]
    simp only [List.append_assoc, List.singleton_append, List.length_cons]
    congr 1
    omega
theorem read_legs (r : List UInt8) : ∀ (ls : List LegD) (i : Nat) (g : GraphD) (es : List EdgeD) (x : EdgeD), 0 < i → g.edges = es ++ [x] → (∀ y ∈ ls, Small [y.f, y.t, y.time, y.cost]) →
    readOut i g (piecesB 10 (ls.flatMap legT ++ r)) = readOut (i + ls.length) { g with edges := es ++ [⟨x.a, x.b, x.legs ++ ls⟩] } (piecesB 10 r)
  | [], i, g, es, x, _, he, _ => by
    simp only [List.flatMap_nil, List.nil_append, List.length_nil, Nat.add_zero, List.append_nil]
    rw [← he]
  | y :: ls, i, g, es, x, hi, he, hs => by
    have e : (y :: ls).flatMap legT ++ r = lineT wLeg [y.f, y.t, y.time, y.cost] ++ (ls.flatMap legT ++ r) := by
      rw [List.flatMap_cons, List.append_assoc]; rfl
    rw [e, read_line words_plain.2.2.2 (hs y (by simp)) (by simp [wLeg, wTime]; omega) (stepN_leg he)]
    rw [read_legs r ls (i + 1) _ es ⟨x.a, x.b, x.legs ++ [⟨y.f, y.t, y.time, y.cost⟩]⟩ (by omega) rfl fun z hz => hs z (by simp [hz])]
    simp only [List.append_assoc, List.singleton_append, List.length_cons]
    congr 1
    omega
theorem read_edges (r : List UInt8) : ∀ (xs : List EdgeD) (i : Nat) (g : GraphD), 0 < i → (∀ x ∈ xs, Small [x.a, x.b] ∧ ∀ y ∈ x.legs, Small [y.f, y.t, y.time, y.cost]) →
    ∃ j, 0 < j ∧ readOut i g (piecesB 10 (xs.flatMap edgeT ++ r)) = readOut j { g with edges := g.edges ++ xs } (piecesB 10 r)
  | [], i, g, hi, _ => ⟨i, hi, by simp⟩
  | x :: xs, i, g, hi, hs => by
    have e : (x :: xs).flatMap edgeT ++ r = lineT wEdge [x.a, x.b] ++ (x.legs.flatMap legT ++ (xs.flatMap edgeT ++ r)) := by
      rw [List.flatMap_cons]; unfold edgeT; simp only [List.append_assoc]
    have h1 : stepN g wEdge [x.a, x.b] = some { g with edges := g.edges ++ [⟨x.a, x.b, []⟩] } := by
      have hne : ¬ wEdge = wVertex := by decide
      simp [stepN, hne]
    obtain ⟨j, hj, h2⟩ := read_edges r xs (i + 1 + x.legs.length) { g with edges := g.edges ++ [x] } (by omega) fun z hz => hs z (by simp [hz])
    refine ⟨j, hj, ?_⟩
    rw [e, read_line words_plain.2.2.1 (hs x (by simp)).1 (by simp [wEdge, wTime]; omega) h1]
    rw [read_legs _ x.legs (i + 1) _ g.edges ⟨x.a, x.b, []⟩ (by omega) rfl (hs x (by simp)).2]
    simp only [List.nil_append]
    rw [h2]
    simp only [List.append_assoc, List.singleton_append]
theorem valid_smalls {g : GraphD} (hV : Valid g) : Small [g.h] ∧ (∀ x ∈ g.lives, Small [x.f, x.t]) ∧ ∀ x ∈ g.edges, Small [x.a, x.b] ∧ x.legs.length ≤ 6 ∧ ∀ y ∈ x.legs, Small [y.f, y.t, y.time, y.cost] := by
  have h0 := hV.h0; have h1 := hV.h1; have hn := hV.nl
  refine ⟨fun n hn => ?_, fun x hx n hn => ?_, fun x hx => ?_⟩
  · simp at hn; omega
  · have := hV.lives x hx
    simp at hn; omega
  · have h := hV.edges x hx
    have a0 := h.a0; have a1 := h.a1; have b0 := h.b0; have b1 := h.b1
    refine ⟨fun n hn => ?_, h.six, fun y hy n hn => ?_⟩
    · simp at hn; omega
    · have := h.legs y hy
      simp at hn; omega
theorem graphT_len {g : GraphD} (hV : Valid g) : (graphT g).length ≤ 8192 := by
  obtain ⟨h1, h2, h3⟩ := valid_smalls hV
  have l1 := lineT_len4 (v := wTime) h1
  have l2 := flat_len (f := vertexT) (l := g.lives) (m := 17) fun x hx => lineT_len4 (v := wVertex) (h2 x hx)
  have l3 := flat_len (f := edgeT) (l := g.edges) (m := 159) fun x hx => by
    have k1 := lineT_len4 (v := wEdge) (h3 x hx).1
    have k2 := flat_len (f := legT) (l := x.legs) (m := 24) fun y hy => lineT_len4 (v := wLeg) ((h3 x hx).2.2 y hy)
    have k3 := (h3 x hx).2.1
    have e : wEdge.length = 4 := rfl
    unfold edgeT
    rw [List.length_append]
    simp only [List.length_cons, List.length_nil] at k1
    omega
  have h4 := hV.nl; have h5 := hV.ne
  have e : wTime.length = 4 := rfl
  unfold graphT
  rw [List.length_append, List.length_append]
  simp only [List.length_cons, List.length_nil] at l1
  omega
/-- What is printed is read as it was. -/
theorem parse_print {g : GraphD} (hV : Valid g) (h0 : graphErr g = 0) : parseD (graphT g) = (g, 0, 0) := by
  obtain ⟨h1, h2, h3⟩ := valid_smalls hV
  unfold parseD
  rw [if_neg (by have := graphT_len hV; omega)]
  have e : graphT g = lineT wTime [g.h] ++ (g.lives.flatMap vertexT ++ (g.edges.flatMap edgeT ++ [])) := by unfold graphT; simp
  rw [e, read_line words_plain.1 h1 (by decide) (g' := { noG with h := g.h }) rfl, read_lives _ _ _ _ (by omega) rfl h2]
  obtain ⟨j, hj, hr⟩ := read_edges [] g.edges (0 + 1 + g.lives.length) ⟨g.h, [] ++ g.lives, []⟩ (by omega) fun x hx => ⟨(h3 x hx).1, (h3 x hx).2.2⟩
  rw [hr]
  show readOut j ⟨g.h, [] ++ g.lives, [] ++ g.edges⟩ [[]] = _
  rw [readOut_end hj]
  simp only [List.nil_append]
  unfold finG
  rw [if_pos h0]

/-! ### what is read -/
theorem join_nums : ∀ (w : List (List UInt8)) (v : List UInt8), w.all (fun s => decide (0 ≤ numB s)) = true → joinB 32 (v :: w) = v ++ numsT (w.map numB)
  | [], v, _ => by simp [joinB, numsT]
  | s :: w, v, h => by
    simp only [List.all_cons, Bool.and_eq_true, decide_eq_true_eq] at h
    rw [join_cons (by simp), join_nums w s h.2]
    have e : numsT ((s :: w).map numB) = 32 :: (itoa (numB s) ++ numsT (w.map numB)) := rfl
    rw [e, itoa_numB h.1]
theorem step_line {g g' : GraphD} {first : Bool} {p : List UInt8} (h : stepG g first (piecesB 32 p) = some g') : ∃ v n, p ++ [10] = lineT v n ∧ first = decide (v = wTime) ∧ stepN g v n = some g' := by
  obtain ⟨v, w, hv⟩ := pieces_form 32 p
  rw [hv] at h
  simp only [stepG] at h
  cases hn : w.all (fun s => decide (0 ≤ numB s)) with
  | false => rw [numsB_none hn] at h; cases h
  | true =>
    rw [numsB_some hn] at h
    simp only at h
    by_cases hf : first = decide (v = wTime)
    · rw [if_pos hf] at h
      refine ⟨v, w.map numB, ?_, hf, h⟩
      have := join_pieces 32 p
      rw [hv, join_nums w v hn] at this
      rw [← this]; rfl
    · rw [if_neg hf] at h; cases h
theorem step_text {g g' : GraphD} {first : Bool} {p : List UInt8} (h : stepG g first (piecesB 32 p) = some g') : (first = true → g = noG → graphT g' = p ++ [10]) ∧ (first = false → graphT g' = graphT g ++ (p ++ [10])) := by
  obtain ⟨v, n, hp, hf, hs⟩ := step_line h
  rw [hp]
  unfold stepN at hs
  split at hs
  · next a =>
    split at hs
    · next hv =>
      subst hv
      cases hs
      refine ⟨fun _ hg => ?_, fun h1 => ?_⟩
      · subst hg; simp [graphT]
      · subst h1; exact absurd hf (by decide)
    · cases hs
  · next a b =>
    split at hs
    · next hv =>
      subst hv
      split at hs
      · next he =>
        cases hs
        refine ⟨fun h1 => ?_, fun _ => ?_⟩
        · subst h1; exact absurd hf (by decide)
        · unfold graphT
          rw [he]
          simp [vertexT]
      · cases hs
    · split at hs
      · next hv =>
        subst hv
        cases hs
        refine ⟨fun h1 => ?_, fun _ => ?_⟩
        · subst h1; exact absurd hf (by decide)
        · unfold graphT
          simp [edgeT]
      · cases hs
  · next a b c d =>
    split at hs
    · next hv =>
      subst hv
      split at hs
      · cases hs
      · next x hx =>
        cases hs
        refine ⟨fun h1 => ?_, fun _ => ?_⟩
        · subst h1; exact absurd hf (by decide)
        · obtain ⟨l, hl⟩ : ∃ l, g.edges = l ++ [x] := by
            have hne : g.edges ≠ [] := fun e => by rw [e] at hx; cases hx
            refine ⟨g.edges.dropLast, ?_⟩
            have := List.dropLast_concat_getLast hne
            rw [List.getLast?_eq_some_getLast hne] at hx
            rw [← this, Option.some.inj hx, List.dropLast_concat]
          unfold graphT
          simp only [hl, List.dropLast_concat]
          simp [edgeT, legT]
    · cases hs
  · cases hs
theorem fin_zero {g g' : GraphD} {n : Int} (h : finG g = (g', n, 0)) : g' = g ∧ n = 0 ∧ graphErr g = 0 := by
  unfold finG at h
  split at h
  · next h0 => simp only [Prod.mk.injEq] at h; exact ⟨h.1.symm, h.2.1.symm, h0⟩
  · next h0 => simp only [Prod.mk.injEq] at h; exact absurd h.2.2 h0
theorem read_text : ∀ (l : List (List UInt8)) (i : Nat) (g g' : GraphD) (n : Int), l ≠ [] → readOut i g l = (g', n, 0) → n = 0 ∧ graphErr g' = 0 ∧ (0 < i → graphT g' = graphT g ++ joinB 10 l) ∧ (i = 0 → g = noG → graphT g' = joinB 10 l)
  | [], _, _, _, _, h, _ => absurd rfl h
  | [p], i, g, g', n, _, h => by
    by_cases hc : 0 < i ∧ p = []
    · rw [readOut, if_pos hc] at h
      obtain ⟨rfl, rfl, h0⟩ := fin_zero h
      refine ⟨rfl, h0, fun _ => ?_, fun h1 => by omega⟩
      rw [hc.2]
      simp [joinB]
    · rw [readOut_cut hc] at h
      simp at h
  | p :: q :: l, i, g, g', n, _, h => by
    cases hs : stepG g (decide (i = 0)) (piecesB 32 p) with
    | none => rw [readOut_bad hs] at h; simp at h
    | some g1 =>
      rw [readOut_next hs] at h
      obtain ⟨h1, h2, h3, _⟩ := read_text (q :: l) (i + 1) g1 g' n (by simp) h
      obtain ⟨t1, t2⟩ := step_text hs
      refine ⟨h1, h2, fun hi => ?_, fun hi hg => ?_⟩
      · rw [h3 (by omega), t2 (by simp; omega)]
        simp [joinB]
      · rw [h3 (by omega), t1 (by simp [hi]) hg]
        simp [joinB]
/-- What is read is printed as it stood. -/
theorem print_parse {s : List UInt8} {g : GraphD} {n : Int} (h : parseD s = (g, n, 0)) : n = 0 ∧ graphErr g = 0 ∧ graphT g = s := by
  unfold parseD at h
  split at h
  · simp at h
  · obtain ⟨h1, h2, _, h3⟩ := read_text _ 0 noG g n (pieces_ne 10 s) h
    exact ⟨h1, h2, by rw [h3 rfl rfl, join_pieces]⟩
/-- Behind an error nothing is told of a graph. -/
theorem parse_err {s : List UInt8} {g : GraphD} {n er : Int} (h : parseD s = (g, n, er)) (he : er ≠ 0) : g = noG ∧ 0 ≤ n := by
  have hf : ∀ {g g' : GraphD} {n er : Int}, finG g = (g', n, er) → er ≠ 0 → g' = noG ∧ 0 ≤ n := by
    intro g g' n er h he
    unfold finG at h
    split at h
    · simp only [Prod.mk.injEq] at h; exact absurd h.2.2.symm he
    · simp only [Prod.mk.injEq] at h; exact ⟨h.1.symm, by omega⟩
  have key : ∀ (l : List (List UInt8)) (i : Nat) (g g' : GraphD) (n er : Int), readOut i g l = (g', n, er) → er ≠ 0 → g' = noG ∧ 0 ≤ n := by
    intro l
    induction l with
    | nil => intro i g g' n er h he; exact hf h he
    | cons p l ih =>
      intro i g g' n er h he
      cases l with
      | nil =>
        rw [readOut] at h
        split at h
        · exact hf h he
        · simp only [Prod.mk.injEq] at h; exact ⟨h.1.symm, by omega⟩
      | cons q l =>
        cases hs : stepG g (decide (i = 0)) (piecesB 32 p) with
        | none => rw [readOut_bad hs] at h; simp only [Prod.mk.injEq] at h; exact ⟨h.1.symm, by omega⟩
        | some g1 => rw [readOut_next hs] at h; exact ih _ _ _ _ _ h he
  unfold parseD at h
  split at h
  · simp only [Prod.mk.injEq] at h; exact ⟨h.1.symm, by omega⟩
  · exact key _ _ _ _ _ _ h he
theorem parse_nil : parseD [] = (noG, 1, 3) := rfl
end Go.Proofs.YtdpibehpmghghaaDoor
/- The walks of the library's slices.Equal, at hops, ints, bools and lives. -/
namespace Go.Proofs.YtdpibehpmghghaaDoor
open Go.RowKit

theorem take_eq_ofA {α : Type} {a b : List α} (hl : a.length = b.length) {k : Nat} (hk : a.length ≤ k) (h : a.take k = b.take k) : a = b := by
  rwa [List.take_of_length_le hk, List.take_of_length_le (by omega)] at h
theorem take_stepA {α : Type} {a b : List α} {k : Nat} {x y : α} (hx : a[k]? = some x) (hy : b[k]? = some y) (h : a.take k = b.take k) (hxy : x = y) : a.take (k + 1) = b.take (k + 1) := by
  rw [List.take_add_one, List.take_add_one, hx, hy, h, hxy]
theorem ne_of_getA {α : Type} {a b : List α} {k : Nat} {x y : α} (hx : a[k]? = some x) (hy : b[k]? = some y) (hxy : ¬ x = y) : ¬ a = b := by
  rintro rfl
  rw [hx] at hy
  exact hxy (by simpa using hy)

set_option maxHeartbeats 1000000 in
theorem equalInts_anyA (A B : Option Addr) (c d : Nat) (a b : List Int) (w : World) (hA : SlAt RInt 1 w A a) (hB : SlAt RInt 1 w B b) (ha : a.length ≤ maxLen) (_ : b.length ≤ maxLen) :
    Calls Tryd.prog 22 #[.slice A a.length c, .slice B b.length d] w fun e w' => e = .returned (.bool (decide (a = b))) ∧ Below w.heap.size w w' := by
  unfold maxLen at ha
  by_cases hl : a.length = b.length
  case neg =>
    have hne : ((a.length : Int) != (b.length : Int)) = true := by simp; omega
    go_enter Tryd.func22, Tryd.ntmps22
    go_wp2_with fail
    go_ret
    exact ⟨ret_bool (by symm; simp; intro h; exact hl (by rw [h])), Below.refl _ _⟩
  have hne : ((a.length : Int) != (b.length : Int)) = false := by simp; omega
  obtain ⟨ba, oa, hA⟩ := hA
  obtain ⟨bb, ob, hB⟩ := hB
  have HL := Lib.hid hl
  have hl1 : a.length ≤ b.length := by omega
  have hl2 : b.length ≤ a.length := by omega
  clear hl
  go_enter Tryd.func22, Tryd.ntmps22
  go_wp2_with fail
  go_loopw [13] (fun v wr => ∃ k : Nat, k ≤ a.length ∧ v = .int .i64 k ∧ Hid (a.take k = b.take k) ∧ Below w.heap.size w wr) (fun v _ => a.length - (intOf v).toNat)
  case atStart => exact ⟨0, Nat.zero_le _, rfl, Lib.hid (by simp), Below.refl _ _⟩
  case round =>
    obtain ⟨k, hk, rfl, HI, hw⟩ := hrel
    by_cases hlt : k < a.length
    · obtain ⟨x, hx⟩ := get_lt hlt
      obtain ⟨y, hy⟩ := get_lt (show k < b.length by omega)
      obtain ⟨rfl, hba, x0, _⟩ := hA k x hx
      obtain ⟨rfl, hbb, y0, _⟩ := hB k y hy
      have x1 := x0.now hw
      have y1 := y0.now hw
      simp only [Nat.mul_one] at x1 y1
      have HX := Lib.hid hx
      have HY := Lib.hid hy
      have hlt2 : k < b.length := by omega
      clear hA hB hx hy x0 y0
      by_cases hxy : x = y
      · have HXY := Lib.hid hxy
        have hn : (x != y) = false := by simp [hxy]
        clear hxy
        go_wp2_with fail
        go_quiet (fail)
        go_wp2
        go_roundw
        case rel => exact ⟨k + 1, by omega, by go_num, Lib.hid (take_stepA HX.out HY.out HI.out HXY.out), below_drewN hw _⟩
        case measure => simp [intOf]; omega
      · have HXY := Lib.hid hxy
        have hn : (x != y) = true := by simp [hxy]
        clear hxy
        go_wp2_with fail
        go_quiet (fail)
        go_wp2
        go_ret
        exact ⟨ret_bool (by symm; simp; exact ne_of_getA HX.out HY.out HXY.out), below_drewN hw _⟩
    · go_wp2_with fail
      go_ret
      exact ⟨ret_bool (by symm; simp; exact take_eq_ofA HL.out (by omega) HI.out), hw⟩

abbrev ivlVA (x : IvlD) : Value := .agg #[.int .i64 x.f, .int .i64 x.t]
theorem fields_hop : Tryd.prog.underlying 110 = some (.struct (Tryd.prog.fieldsOf 110)) := by kernel_rfl
theorem guard_hop : Tryd.prog.eqGuardType Tryd.prog.depth 110 = false := by kernel_rfl
theorem held_hop : Tryd.prog.stoodInHeld 110 = false := by kernel_rfl
theorem same_hop (x y : HopD) (w : World) : (Op.equalIn 10000 110 (hopV x) (hopV y)).run Tryd.prog w = .ok (decide (x = y)) w := by
  have e : decide (x = y) = decide (x.edge = y.edge ∧ x.depart = y.depart) := by rw [decide_eq_decide]; cases x; cases y; simp
  rw [e, run_equalIn_agg w 9999 110 _ _ fields_hop held_hop]
  have hf : (Tryd.prog.fieldsOf 110).toList = (match Tryd.prog.underlying 110 with | some (.struct fs) => fs.toList | _ => []) := by kernel_rfl
  rw [hf, Tryd.underlying110]
  simp [Op.eqFields, go_sem]
  by_cases hedge : x.edge = y.edge <;> by_cases hdepart : x.depart = y.depart <;> simp [*]
set_option maxHeartbeats 1000000 in
theorem equalHops_any (A B : Option Addr) (c d : Nat) (a b : List HopD) (w : World) (hA : SlAt RHop 2 w A a) (hB : SlAt RHop 2 w B b) (ha : a.length ≤ maxLen) (_ : b.length ≤ maxLen) :
    Calls Tryd.prog 53 #[.slice A a.length c, .slice B b.length d] w fun e w' => e = .returned (.bool (decide (a = b))) ∧ Below w.heap.size w w' := by
  unfold maxLen at ha
  by_cases hl : a.length = b.length
  case neg =>
    have hne : ((a.length : Int) != (b.length : Int)) = true := by simp; omega
    go_enter Tryd.func53, Tryd.ntmps53
    go_wp2_with fail
    go_ret
    exact ⟨ret_bool (by symm; simp; intro h; exact hl (by rw [h])), Below.refl _ _⟩
  have hne : ((a.length : Int) != (b.length : Int)) = false := by simp; omega
  obtain ⟨ba, oa, hA⟩ := hA
  obtain ⟨bb, ob, hB⟩ := hB
  have HL := Lib.hid hl
  have hl1 : a.length ≤ b.length := by omega
  have hl2 : b.length ≤ a.length := by omega
  clear hl
  go_enter Tryd.func53, Tryd.ntmps53
  go_wp2_with fail
  go_loopw [13] (fun v wr => ∃ k : Nat, k ≤ a.length ∧ v = .int .i64 k ∧ Hid (a.take k = b.take k) ∧ Below w.heap.size w wr) (fun v _ => a.length - (intOf v).toNat)
  case atStart => exact ⟨0, Nat.zero_le _, rfl, Lib.hid (by simp), Below.refl _ _⟩
  case round =>
    obtain ⟨k, hk, rfl, HI, hw⟩ := hrel
    by_cases hlt : k < a.length
    · obtain ⟨x, hx⟩ := get_lt hlt
      obtain ⟨y, hy⟩ := get_lt (show k < b.length by omega)
      obtain ⟨rfl, hba, ⟨x0, x1⟩, _⟩ := hA k x hx
      obtain ⟨rfl, hbb, ⟨y0, y1⟩, _⟩ := hB k y hy
      have x0' := x0.now hw
      have y0' := y0.now hw
      have x1' := x1.now hw
      have y1' := y1.now hw
      have HX := Lib.hid hx
      have HY := Lib.hid hy
      have hlt2 : k < b.length := by omega
      clear hA hB hx hy x0 y0 x1 y1
      by_cases hxy : x = y
      · have HXY := Lib.hid hxy
        have hn : decide (x = y) = true := by simp [hxy]
        have hs := same_hop x y
        rw [hn] at hs
        have hgd := guard_hop
        clear hxy
        go_wp2_with fail
        go_quiet (fail)
        go_wp2
        go_roundw
        case rel => exact ⟨k + 1, by omega, by go_num, Lib.hid (take_stepA HX.out HY.out HI.out HXY.out), below_drewN hw _⟩
        case measure => simp [intOf]; omega
      · have HXY := Lib.hid hxy
        have hn : decide (x = y) = false := by simp [hxy]
        have hs := same_hop x y
        rw [hn] at hs
        have hgd := guard_hop
        clear hxy
        go_wp2_with fail
        go_quiet (fail)
        go_wp2
        go_ret
        exact ⟨ret_bool (by symm; simp; exact ne_of_getA HX.out HY.out HXY.out), below_drewN hw _⟩
    · go_wp2_with fail
      go_ret
      exact ⟨ret_bool (by symm; simp; exact take_eq_ofA HL.out (by omega) HI.out), hw⟩

theorem fields_ivlA : Tryd.prog.underlying 49 = some (.struct (Tryd.prog.fieldsOf 49)) := by kernel_rfl
theorem guard_ivlA : Tryd.prog.eqGuardType Tryd.prog.depth 49 = false := by kernel_rfl
theorem held_ivlA : Tryd.prog.stoodInHeld 49 = false := by kernel_rfl
theorem same_ivlA (x y : IvlD) (w : World) : (Op.equalIn 10000 49 (ivlVA x) (ivlVA y)).run Tryd.prog w = .ok (decide (x = y)) w := by
  have e : decide (x = y) = decide (x.f = y.f ∧ x.t = y.t) := by rw [decide_eq_decide]; cases x; cases y; simp
  rw [e, run_equalIn_agg w 9999 49 _ _ fields_ivlA held_ivlA]
  have hf : (Tryd.prog.fieldsOf 49).toList = (match Tryd.prog.underlying 49 with | some (.struct fs) => fs.toList | _ => []) := by kernel_rfl
  rw [hf, Tryd.underlying49]
  simp [Op.eqFields, go_sem]
  by_cases hf : x.f = y.f <;> by_cases ht : x.t = y.t <;> simp [*]
set_option maxHeartbeats 1000000 in
theorem equalIvls_anyA (A B : Option Addr) (c d : Nat) (a b : List IvlD) (w : World) (hA : SlAt RIvl 2 w A a) (hB : SlAt RIvl 2 w B b) (ha : a.length ≤ maxLen) (_ : b.length ≤ maxLen) :
    Calls Tryd.prog 46 #[.slice A a.length c, .slice B b.length d] w fun e w' => e = .returned (.bool (decide (a = b))) ∧ Below w.heap.size w w' := by
  unfold maxLen at ha
  by_cases hl : a.length = b.length
  case neg =>
    have hne : ((a.length : Int) != (b.length : Int)) = true := by simp; omega
    go_enter Tryd.func46, Tryd.ntmps46
    go_wp2_with fail
    go_ret
    exact ⟨ret_bool (by symm; simp; intro h; exact hl (by rw [h])), Below.refl _ _⟩
  have hne : ((a.length : Int) != (b.length : Int)) = false := by simp; omega
  obtain ⟨ba, oa, hA⟩ := hA
  obtain ⟨bb, ob, hB⟩ := hB
  have HL := Lib.hid hl
  have hl1 : a.length ≤ b.length := by omega
  have hl2 : b.length ≤ a.length := by omega
  clear hl
  go_enter Tryd.func46, Tryd.ntmps46
  go_wp2_with fail
  go_loopw [13] (fun v wr => ∃ k : Nat, k ≤ a.length ∧ v = .int .i64 k ∧ Hid (a.take k = b.take k) ∧ Below w.heap.size w wr) (fun v _ => a.length - (intOf v).toNat)
  case atStart => exact ⟨0, Nat.zero_le _, rfl, Lib.hid (by simp), Below.refl _ _⟩
  case round =>
    obtain ⟨k, hk, rfl, HI, hw⟩ := hrel
    by_cases hlt : k < a.length
    · obtain ⟨x, hx⟩ := get_lt hlt
      obtain ⟨y, hy⟩ := get_lt (show k < b.length by omega)
      obtain ⟨rfl, hba, ⟨x0, x1⟩, _⟩ := hA k x hx
      obtain ⟨rfl, hbb, ⟨y0, y1⟩, _⟩ := hB k y hy
      have x0' := x0.now hw
      have y0' := y0.now hw
      have x1' := x1.now hw
      have y1' := y1.now hw
      have HX := Lib.hid hx
      have HY := Lib.hid hy
      have hlt2 : k < b.length := by omega
      clear hA hB hx hy x0 y0 x1 y1
      by_cases hxy : x = y
      · have HXY := Lib.hid hxy
        have hn : decide (x = y) = true := by simp [hxy]
        have hs := same_ivlA x y
        rw [hn] at hs
        have hgd := guard_ivlA
        clear hxy
        go_wp2_with fail
        go_quiet (fail)
        go_wp2
        go_roundw
        case rel => exact ⟨k + 1, by omega, by go_num, Lib.hid (take_stepA HX.out HY.out HI.out HXY.out), below_drewN hw _⟩
        case measure => simp [intOf]; omega
      · have HXY := Lib.hid hxy
        have hn : decide (x = y) = false := by simp [hxy]
        have hs := same_ivlA x y
        rw [hn] at hs
        have hgd := guard_ivlA
        clear hxy
        go_wp2_with fail
        go_quiet (fail)
        go_wp2
        go_ret
        exact ⟨ret_bool (by symm; simp; exact ne_of_getA HX.out HY.out HXY.out), below_drewN hw _⟩
    · go_wp2_with fail
      go_ret
      exact ⟨ret_bool (by symm; simp; exact take_eq_ofA HL.out (by omega) HI.out), hw⟩

theorem fields_leg : Tryd.prog.underlying 76 = some (.struct (Tryd.prog.fieldsOf 76)) := by kernel_rfl
theorem guard_leg : Tryd.prog.eqGuardType Tryd.prog.depth 76 = false := by kernel_rfl
theorem held_leg : Tryd.prog.stoodInHeld 76 = false := by kernel_rfl
theorem same_leg (x y : LegD) (w : World) : (Op.equalIn 10000 76 (legV x) (legV y)).run Tryd.prog w = .ok (decide (x = y)) w := by
  have e : decide (x = y) = decide (x.f = y.f ∧ x.t = y.t ∧ x.time = y.time ∧ x.cost = y.cost) := by rw [decide_eq_decide]; cases x; cases y; simp
  rw [e, run_equalIn_agg w 9999 76 _ _ fields_leg held_leg]
  have hf : (Tryd.prog.fieldsOf 76).toList = (match Tryd.prog.underlying 76 with | some (.struct fs) => fs.toList | _ => []) := by kernel_rfl
  rw [hf, Tryd.underlying76]
  simp [Op.eqFields, go_sem]
  by_cases hf : x.f = y.f <;> by_cases ht : x.t = y.t <;> by_cases htime : x.time = y.time <;> by_cases hcost : x.cost = y.cost <;> simp [*]
set_option maxHeartbeats 1000000 in
theorem equalLegs_any (A B : Option Addr) (c d : Nat) (a b : List LegD) (w : World) (hA : SlAt RLeg 4 w A a) (hB : SlAt RLeg 4 w B b) (ha : a.length ≤ maxLen) (_ : b.length ≤ maxLen) :
    Calls Tryd.prog 49 #[.slice A a.length c, .slice B b.length d] w fun e w' => e = .returned (.bool (decide (a = b))) ∧ Below w.heap.size w w' := by
  unfold maxLen at ha
  by_cases hl : a.length = b.length
  case neg =>
    have hne : ((a.length : Int) != (b.length : Int)) = true := by simp; omega
    go_enter Tryd.func49, Tryd.ntmps49
    go_wp2_with fail
    go_ret
    exact ⟨ret_bool (by symm; simp; intro h; exact hl (by rw [h])), Below.refl _ _⟩
  have hne : ((a.length : Int) != (b.length : Int)) = false := by simp; omega
  obtain ⟨ba, oa, hA⟩ := hA
  obtain ⟨bb, ob, hB⟩ := hB
  have HL := Lib.hid hl
  have hl1 : a.length ≤ b.length := by omega
  have hl2 : b.length ≤ a.length := by omega
  clear hl
  go_enter Tryd.func49, Tryd.ntmps49
  go_wp2_with fail
  go_loopw [13] (fun v wr => ∃ k : Nat, k ≤ a.length ∧ v = .int .i64 k ∧ Hid (a.take k = b.take k) ∧ Below w.heap.size w wr) (fun v _ => a.length - (intOf v).toNat)
  case atStart => exact ⟨0, Nat.zero_le _, rfl, Lib.hid (by simp), Below.refl _ _⟩
  case round =>
    obtain ⟨k, hk, rfl, HI, hw⟩ := hrel
    by_cases hlt : k < a.length
    · obtain ⟨x, hx⟩ := get_lt hlt
      obtain ⟨y, hy⟩ := get_lt (show k < b.length by omega)
      obtain ⟨rfl, hba, ⟨x0, x1, x2, x3⟩, _⟩ := hA k x hx
      obtain ⟨rfl, hbb, ⟨y0, y1, y2, y3⟩, _⟩ := hB k y hy
      have x0' := x0.now hw
      have y0' := y0.now hw
      have x1' := x1.now hw
      have y1' := y1.now hw
      have x2' := x2.now hw
      have y2' := y2.now hw
      have x3' := x3.now hw
      have y3' := y3.now hw
      have HX := Lib.hid hx
      have HY := Lib.hid hy
      have hlt2 : k < b.length := by omega
      clear hA hB hx hy x0 y0 x1 y1 x2 y2 x3 y3
      by_cases hxy : x = y
      · have HXY := Lib.hid hxy
        have hn : decide (x = y) = true := by simp [hxy]
        have hs := same_leg x y
        rw [hn] at hs
        have hgd := guard_leg
        clear hxy
        go_wp2_with fail
        go_quiet (fail)
        go_wp2
        go_roundw
        case rel => exact ⟨k + 1, by omega, by go_num, Lib.hid (take_stepA HX.out HY.out HI.out HXY.out), below_drewN hw _⟩
        case measure => simp [intOf]; omega
      · have HXY := Lib.hid hxy
        have hn : decide (x = y) = false := by simp [hxy]
        have hs := same_leg x y
        rw [hn] at hs
        have hgd := guard_leg
        clear hxy
        go_wp2_with fail
        go_quiet (fail)
        go_wp2
        go_ret
        exact ⟨ret_bool (by symm; simp; exact ne_of_getA HX.out HY.out HXY.out), below_drewN hw _⟩
    · go_wp2_with fail
      go_ret
      exact ⟨ret_bool (by symm; simp; exact take_eq_ofA HL.out (by omega) HI.out), hw⟩
set_option maxHeartbeats 1000000 in
theorem equalBools_any (A B : Option Addr) (c d : Nat) (a b : List Bool) (w : World) (hA : SlAt RBool 1 w A a) (hB : SlAt RBool 1 w B b) (ha : a.length ≤ maxLen) (_ : b.length ≤ maxLen) :
    Calls Tryd.prog 15 #[.slice A a.length c, .slice B b.length d] w fun e w' => e = .returned (.bool (decide (a = b))) ∧ Below w.heap.size w w' := by
  unfold maxLen at ha
  by_cases hl : a.length = b.length
  case neg =>
    have hne : ((a.length : Int) != (b.length : Int)) = true := by simp; omega
    go_enter Tryd.func15, Tryd.ntmps15
    go_wp2_with fail
    go_ret
    exact ⟨ret_bool (by symm; simp; intro h; exact hl (by rw [h])), Below.refl _ _⟩
  have hne : ((a.length : Int) != (b.length : Int)) = false := by simp; omega
  obtain ⟨ba, oa, hA⟩ := hA
  obtain ⟨bb, ob, hB⟩ := hB
  have HL := Lib.hid hl
  have hl1 : a.length ≤ b.length := by omega
  have hl2 : b.length ≤ a.length := by omega
  clear hl
  go_enter Tryd.func15, Tryd.ntmps15
  go_wp2_with fail
  go_loopw [13] (fun v wr => ∃ k : Nat, k ≤ a.length ∧ v = .int .i64 k ∧ Hid (a.take k = b.take k) ∧ Below w.heap.size w wr) (fun v _ => a.length - (intOf v).toNat)
  case atStart => exact ⟨0, Nat.zero_le _, rfl, Lib.hid (by simp), Below.refl _ _⟩
  case round =>
    obtain ⟨k, hk, rfl, HI, hw⟩ := hrel
    by_cases hlt : k < a.length
    · obtain ⟨x, hx⟩ := get_lt hlt
      obtain ⟨y, hy⟩ := get_lt (show k < b.length by omega)
      obtain ⟨rfl, hba, x0⟩ := hA k x hx
      obtain ⟨rfl, hbb, y0⟩ := hB k y hy
      have x1 := x0.now hw
      have y1 := y0.now hw
      simp only [Nat.mul_one] at x1 y1
      have HX := Lib.hid hx
      have HY := Lib.hid hy
      have hlt2 : k < b.length := by omega
      clear hA hB hx hy x0 y0
      by_cases hxy : x = y
      · have HXY := Lib.hid hxy
        have hn : (x == y) = true := by simp [hxy]
        clear hxy
        go_wp2_with fail
        go_quiet (fail)
        go_wp2
        go_roundw
        case rel => exact ⟨k + 1, by omega, by go_num, Lib.hid (take_stepA HX.out HY.out HI.out HXY.out), below_drewN hw _⟩
        case measure => simp [intOf]; omega
      · have HXY := Lib.hid hxy
        have hn : (x == y) = false := by simp [hxy]
        clear hxy
        go_wp2_with fail
        go_quiet (fail)
        go_wp2
        go_ret
        exact ⟨ret_bool (by symm; simp; exact ne_of_getA HX.out HY.out HXY.out), below_drewN hw _⟩
    · go_wp2_with fail
      go_ret
      exact ⟨ret_bool (by symm; simp; exact take_eq_ofA HL.out (by omega) HI.out), hw⟩
end Go.Proofs.YtdpibehpmghghaaDoor
/- The walks of the document's SameGraph: edges, lists of edges, graphs. -/
namespace Go.Proofs.YtdpibehpmghghaaDoor
open Go.RowKit

theorem enters_edge : Enters Tryd.prog 48 := enters_of Tryd.func48 (by kernel_rfl) rfl
theorem edge_eq {x y : EdgeD} : x = y ↔ x.a = y.a ∧ x.b = y.b ∧ x.legs = y.legs := by
  cases x; cases y; simp
set_option maxHeartbeats 1000000 in
theorem sameEdge_any (L M : Option Addr) (c d : Nat) (x y : EdgeD) (w : World) (hL : SlAt RLeg 4 w L x.legs) (hM : SlAt RLeg 4 w M y.legs) (hx : x.legs.length ≤ maxLen) (hy : y.legs.length ≤ maxLen) :
    Calls Tryd.prog 48 #[edgeV L c x, edgeV M d y] w fun e w' => e = .returned (.bool (decide (x = y))) ∧ Below w.heap.size w w' := by
  by_cases h1 : x.a = y.a
  case neg =>
    have HE : Hid (decide (x = y) = false) := Lib.hid (by rw [decide_eq_false_iff_not, edge_eq]; exact fun h => h1 h.1)
    have hn : (x.a == y.a) = false := by simp [h1]
    clear h1
    go_enter Tryd.func48, Tryd.ntmps48
    go_wp2_with fail
    go_ret
    exact ⟨ret_bool HE.out.symm, by go_grown⟩
  have hn1 : (x.a == y.a) = true := by simp [h1]
  by_cases h2 : x.b = y.b
  case neg =>
    have HE : Hid (decide (x = y) = false) := Lib.hid (by rw [decide_eq_false_iff_not, edge_eq]; exact fun h => h2 h.2.1)
    have hn : (x.b == y.b) = false := by simp [h2]
    clear h1 h2
    go_enter Tryd.func48, Tryd.ntmps48
    go_wp2_with fail
    go_ret
    exact ⟨ret_bool HE.out.symm, by go_grown⟩
  have hn2 : (x.b == y.b) = true := by simp [h2]
  have HE : Hid (decide (x = y) = decide (x.legs = y.legs)) := Lib.hid (by rw [decide_eq_decide, edge_eq]; exact ⟨fun h => h.2.2, fun h => ⟨h1, h2, h⟩⟩)
  clear h1 h2
  go_enter Tryd.func48, Tryd.ntmps48
  go_wp2_with fail
  refine (equalLegs_any L M c d x.legs y.legs _ (hL.ext RLeg.stable (by go_grown)) (hM.ext RLeg.stable (by go_grown)) hx hy).mono ?_
  rw [← HE.out]
  rintro e w1 ⟨rfl, hb1⟩
  have hbw : Below w.heap.size w w1 := ext_trans (by go_grown) hb1
  go_wp2_with fail
  go_ret
  exact ⟨rfl, hbw⟩

set_option maxRecDepth 100000 in
set_option maxHeartbeats 4000000 in
theorem equalEdges_any (A B : Option Addr) (c d : Nat) (l r : List EdgeD) (w : World) (hA : SlAt REdge 3 w A l) (hB : SlAt REdge 3 w B r) (hl : l.length ≤ maxLen) (hr : r.length ≤ maxLen) :
    Calls Tryd.prog 47 #[.slice A l.length c, .slice B r.length d, .func (.func 48) #[] #[]] w fun e w' => e = .returned (.bool (decide (l = r))) ∧ Below w.heap.size w w' := by
  unfold maxLen at hl hr
  have hent := enters_edge
  unfold Enters at hent
  by_cases hlr : l.length = r.length
  case neg =>
    have hn : ((l.length : Int) != (r.length : Int)) = true := by simp; omega
    have HE : Hid (decide (l = r) = false) := Lib.hid (by rw [decide_eq_false_iff_not]; exact fun h => hlr (by rw [h]))
    clear hlr
    go_enter Tryd.func47, Tryd.ntmps47
    go_wp2_with fail
    go_ret
    exact ⟨ret_bool HE.out.symm, by go_grown⟩
  have hn : ((l.length : Int) != (r.length : Int)) = false := by simp [hlr]
  have HLR := Lib.hid hlr
  clear hlr
  go_enter Tryd.func47, Tryd.ntmps47
  go_wp2_with fail
  go_loopw [17] (fun x wr => ∃ k : Nat, k ≤ l.length ∧ x = .int .i64 k ∧ Hid (l.take k = r.take k) ∧ Below w.heap.size w wr) (fun x _ => l.length - (intOf x).toNat)
  case atStart => exact ⟨0, Nat.zero_le _, rfl, Lib.hid rfl, Below.refl _ _⟩
  case round =>
    obtain ⟨k, hk, rfl, HT, hb⟩ := hrel
    by_cases hlt : k < l.length
    case neg =>
      have HE : Hid (decide (l = r) = true) := Lib.hid (by
        rw [decide_eq_true_eq]
        have h := HT.out
        rwa [List.take_of_length_le (by omega), List.take_of_length_le (by rw [← HLR.out]; omega)] at h)
      go_wp2_with fail
      go_ret
      exact ⟨ret_bool HE.out.symm, hb⟩
    have hlt2 : k < r.length := by rw [← HLR.out]; exact hlt
    obtain ⟨b1, o1, h1⟩ := hA
    obtain ⟨b2, o2, h2⟩ := hB
    obtain ⟨x, hx⟩ := get_lt hlt
    obtain ⟨y, hy⟩ := get_lt hlt2
    obtain ⟨rfl, hz1, ⟨⟨x0, x1, L, cl, x2, hl1, hl2, hL⟩, _⟩⟩ := h1 k x hx
    obtain ⟨rfl, hz2, ⟨⟨y0, y1, M, cm, y2, hm1, hm2, hM⟩, _⟩⟩ := h2 k y hy
    have x0 := x0.now hb
    have x1 := x1.now hb
    have x2 := x2.now hb
    have y0 := y0.now hb
    have y1 := y1.now hb
    have y2 := y2.now hb
    have hzz : b2 < wr.heap.size := Nat.lt_of_lt_of_le hz2 hb.size
    have HXY : Hid (l.take (k + 1) = l.take k ++ [x] ∧ r.take (k + 1) = r.take k ++ [y]) := Lib.hid ⟨by rw [List.take_add_one, hx]; rfl, by rw [List.take_add_one, hy]; rfl⟩
    have HX := Lib.hid hx
    have HY := Lib.hid hy
    clear h1 h2 hx hy
    have hLm : x.legs.length ≤ maxLen := Nat.le_trans hl1 hl2
    have hMm : y.legs.length ≤ maxLen := Nat.le_trans hm1 hm2
    have HLM := Lib.hid (And.intro hLm hMm)
    clear hLm hMm hl1 hl2 hm1 hm2
    by_cases hxy : x = y
    case neg =>
      have HE : Hid (decide (l = r) = false) := Lib.hid (by
        rw [decide_eq_false_iff_not]
        intro e
        have h := HX.out
        rw [e, HY.out] at h
        exact hxy (by simpa using h.symm))
      have HD : Hid (decide (x = y) = false) := Lib.hid (by simp [hxy])
      clear hxy
      go_wp2_with fail
      refine (sameEdge_any L M cl cm x y _ (hL.ext RLeg.stable (ext_trans hb (by go_grown))) (hM.ext RLeg.stable (ext_trans hb (by go_grown))) HLM.out.1 HLM.out.2).mono ?_
      rw [HD.out]
      rintro e w1 ⟨rfl, hb1⟩
      go_wp2_with fail
      go_ret
      exact ⟨ret_bool HE.out.symm, ext_trans (ext_trans hb (by go_grown)) hb1⟩
    case pos =>
      have HD : Hid (decide (x = y) = true) := Lib.hid (by simp [hxy])
      have HN : Hid (l.take (k + 1) = r.take (k + 1)) := Lib.hid (by rw [HXY.out.1, HXY.out.2, HT.out, hxy])
      clear hxy
      go_wp2_with fail
      refine (sameEdge_any L M cl cm x y _ (hL.ext RLeg.stable (ext_trans hb (by go_grown))) (hM.ext RLeg.stable (ext_trans hb (by go_grown))) HLM.out.1 HLM.out.2).mono ?_
      rw [HD.out]
      rintro e w1 ⟨rfl, hb1⟩
      have hbn : Below w.heap.size w w1 := ext_trans (ext_trans hb (by go_grown)) hb1
      go_wp2_with fail
      go_roundw
      case rel => exact ⟨k + 1, by omega, by go_num, HN, hbn⟩
      case measure => simp [intOf]; omega
theorem graph_eq {x y : GraphD} : x = y ↔ x.h = y.h ∧ x.lives = y.lives ∧ x.edges = y.edges := by
  cases x; cases y; simp

set_option maxHeartbeats 2000000 in
/-- Two graphs that are the same. -/
theorem sameGraph_any (A A' B B' : Option Addr) (c c' d d' : Nat) (g : GraphD) (w : World) (hA : GraphAt w A c A' c' g) (hB : GraphAt w B d B' d' g) :
    Calls Tryd.prog 19 #[gV A c A' c' g, gV B d B' d' g] w fun e w' => e = .returned (.bool true) ∧ Below w.heap.size w w' := by
  have m1 : g.lives.length ≤ maxLen := Nat.le_trans hA.lc hA.cm
  have m2 : g.edges.length ≤ maxLen := Nat.le_trans hA.lc' hA.cm'
  go_enter Tryd.func19, Tryd.ntmps19
  go_wp2_with fail
  refine (equalIvls_anyA A B c d g.lives g.lives _ (hA.lives.ext RIvl.stable (by go_grown)) (hB.lives.ext RIvl.stable (by go_grown)) m1 m1).mono ?_
  rw [decide_eq_true (rfl : g.lives = g.lives)]
  rintro e w1 ⟨rfl, hb1⟩
  obtain ⟨B0, c1, c2, c3⟩ := Blk.go (g := w.heap.size) (t := 25) (cs := gC A c A' c' g) ((Blk.new _ _ _).alloc _) hb1
  obtain ⟨B1, e1, e2, e3⟩ := Blk.go (g := w.heap.size + 1) (t := 25) (cs := gC B d B' d' g) (Blk.new_ (by simp)) hb1
  have hbw : Below w.heap.size w w1 := ext_trans (by go_grown) hb1
  clear hb1
  go_wp2_with fail
  refine (equalEdges_any A' B' c' d' g.edges g.edges _ (hA.edges.ext REdge.stable hbw) (hB.edges.ext REdge.stable hbw) m2 m2).mono ?_
  rw [decide_eq_true (rfl : g.edges = g.edges)]
  rintro e w2 ⟨rfl, hb2⟩
  have hbw := ext_trans hbw hb2
  go_wp2_with fail
  go_ret
  exact ⟨rfl, hbw⟩
end Go.Proofs.YtdpibehpmghghaaDoor
