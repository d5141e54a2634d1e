/- Several texts in one: BackG, Row, Arrive, Place, RefGo, Go, Out. -/
import Derived.Deep.OwnRows
import Derived.Laws.OwnMore
import Derived.Test.YtdpibehpmghghaaDoorProg
import Derived.Test.YtdpibehpmghghaaDoorBdc73a7154b2
import Derived.Test.YtdpibehpmghghaaDoorBd6508cabd72
import Derived.Test.YtdpibehpmghghaaDoorBd76cb561368
import Derived.Test.YtdpibehpmghghaaDoorBd73ff3eced1
import Derived.Test.YtdpibehpmghghaaDoorBd0afb560576
import Derived.Test.YtdpibehpmghghaaDoorBdc5e2eb838a
/- What is printed is read as it was, and what is read is printed as it stood; no program in sight. -/
namespace Go.Proofs.YtdpibehpmghghaaDoor
open Go.Lib

/-! ### numerals -/
theorem itoa_nat {n : Int} (h : 0 ≤ n) : itoa n = decDigits n.toNat := by
  unfold itoa
  rw [if_neg (by omega)]
theorem numB_itoa {n : Int} (h : 0 ≤ n ∧ n < 10000) : numB (itoa n) = n := by
  rw [itoa_nat h.1, numB_of, read_dec]
  · omega
  · refine ⟨?_, dec_len4 (by omega), fun ⟨h1, h2⟩ => dec_head h2 h1⟩
    have := dec_ne n.toNat
    rw [Nat.one_le_iff_ne_zero]
    exact fun e => this (List.eq_nil_of_length_eq_zero e)
  · rw [List.all_eq_true]
    intro b hb
    simpa [digitB] using dec_digit _ b hb
theorem dec_read : ∀ (n : Nat) (s : List UInt8), s.length = n → 1 ≤ n → s.all digitB = true → (1 < s.length → s[0]? ≠ some 48) → decDigits (readD s) = s
  | 0, _, _, h, _, _ => by omega
  | n + 1, s, hn, _, hd, h0 => by
    have hs : s ≠ [] := fun e => by rw [e] at hn; simp at hn
    obtain ⟨t, b, rfl⟩ : ∃ t b, s = t ++ [b] := ⟨_, _, (List.dropLast_concat_getLast hs).symm⟩
    have htn : t.length = n := by simpa using hn
    simp only [List.all_append, List.all_cons, List.all_nil, Bool.and_true, Bool.and_eq_true] at hd
    have hb : 48 ≤ b.toNat ∧ b.toNat ≤ 57 := by simpa [digitB] using hd.2
    have hbe : UInt8.ofNat (48 + (b.toNat - 48)) = b := by
      apply UInt8.toNat_inj.1
      rw [digit_nat (by omega)]
      omega
    rw [readD_snoc]
    by_cases ht : t = []
    · subst ht
      have e : readD [] = 0 := rfl
      rw [e, decDigits, dif_pos (by omega)]
      simp only [Nat.mul_zero, Nat.zero_add, List.nil_append]
      rw [hbe]
    · have hp : 0 < t.length := List.length_pos_iff.2 ht
      have h48 : t[0]? ≠ some 48 := by
        have := h0 (by simp; omega)
        rwa [List.getElem?_append_left hp] at this
      have ih := dec_read n t htn (by omega) hd.1 (fun _ => h48)
      have hr : readD t ≠ 0 := fun e => by
        rw [e, decDigits, dif_pos (by decide)] at ih
        rw [← ih] at h48
        exact h48 rfl
      rw [decDigits, dif_neg (by omega)]
      have e1 : (10 * readD t + (b.toNat - 48)) / 10 = readD t := by omega
      have e2 : (10 * readD t + (b.toNat - 48)) % 10 = b.toNat - 48 := by omega
      rw [e1, e2, ih, hbe]
theorem itoa_numB {s : List UInt8} (h : 0 ≤ numB s) : itoa (numB s) = s := by
  unfold numB at h ⊢
  split at h
  · next hc =>
    rw [if_pos hc, itoa_nat (by omega), Int.toNat_natCast]
    exact dec_read _ s rfl hc.1.1 hc.2 fun hl e => hc.1.2.2 ⟨e, hl⟩
  · omega
theorem itoa_len4 {n : Int} (h : 0 ≤ n ∧ n < 10000) : (itoa n).length ≤ 4 := by rw [itoa_nat h.1]; exact dec_len4 (by omega)
theorem itoa_digits {n : Int} (h : 0 ≤ n) : ∀ b ∈ itoa n, 48 ≤ b.toNat ∧ b.toNat ≤ 57 := by rw [itoa_nat h]; exact dec_digit _
theorem itoa_not {n : Int} (h : 0 ≤ n) {c : UInt8} (hc : c.toNat < 48) : c ∉ itoa n := fun hm => by have := itoa_digits h c hm; omega

/-! ### printed lines -/
def Small (l : List Int) : Prop := ∀ n ∈ l, 0 ≤ n ∧ n < 10000
theorem numsT_len4 : ∀ {l : List Int}, Small l → (numsT l).length ≤ l.length * 5
  | [], _ => by simp [numsT]
  | n :: l, h => by
    have h1 := itoa_len4 (h n (by simp))
    have h2 := numsT_len4 (l := l) fun m hm => h m (by simp [hm])
    have e : numsT (n :: l) = (32 :: itoa n) ++ numsT l := rfl
    rw [e, List.length_append, List.length_cons, List.length_cons]
    omega
theorem lineT_len4 {v : List UInt8} {l : List Int} (h : Small l) : (lineT v l).length ≤ v.length + l.length * 5 + 1 := by
  have := numsT_len4 h
  unfold lineT
  rw [List.length_append, List.length_append]
  simp only [List.length_cons, List.length_nil]
  omega
theorem pieces_line : ∀ (l : List Int) (v : List UInt8), (32 : UInt8) ∉ v → Small l → piecesB 32 (v ++ numsT l) = v :: l.map itoa
  | [], v, hv, _ => by
    rw [numsT_nil, List.append_nil]
    exact pieces_alone _ _ hv
  | n :: l, v, hv, hl => by
    have e : numsT (n :: l) = 32 :: (itoa n ++ numsT l) := rfl
    rw [e, pieces_app _ _ _ hv, pieces_line l (itoa n) (itoa_not (hl n (by simp)).1 (by decide)) fun m hm => hl m (by simp [hm])]
    rfl
theorem nums_not10 : ∀ {l : List Int}, Small l → (10 : UInt8) ∉ numsT l
  | [], _ => by simp [numsT]
  | n :: l, h => by
    have e : numsT (n :: l) = 32 :: (itoa n ++ numsT l) := rfl
    rw [e]
    simp only [List.mem_cons, List.mem_append, not_or]
    exact ⟨by decide, itoa_not (h n (by simp)).1 (by decide), nums_not10 fun m hm => h m (by simp [hm])⟩
theorem numsB_itoa {l : List Int} (h : Small l) : numsB (l.map itoa) = some l := by
  rw [numsB_some]
  · rw [List.map_map]
    congr 1
    refine (List.map_congr_left fun n hn => ?_).trans (List.map_id _)
    exact numB_itoa (h n hn)
  · rw [List.all_eq_true]
    intro s hs
    obtain ⟨n, hn, rfl⟩ := List.mem_map.1 hs
    rw [numB_itoa (h n hn)]
    simpa using (h n hn).1
/-- A printed line is read. -/
theorem read_line {i : Nat} {g g' : GraphD} {v r : List UInt8} {l : List Int} (hv : (32 : UInt8) ∉ v ∧ (10 : UInt8) ∉ v) (hl : Small l) (hf : decide (i = 0) = decide (v = wTime)) (hs : stepN g v l = some g') :
    readOut i g (piecesB 10 (lineT v l ++ r)) = readOut (i + 1) g' (piecesB 10 r) := by
  have e : lineT v l ++ r = (v ++ numsT l) ++ 10 :: r := by unfold lineT; simp
  rw [e, pieces_app]
  · obtain ⟨q, ps, hq⟩ := pieces_form 10 r
    rw [hq]
    refine readOut_next ?_
    rw [pieces_line l v hv.1 hl]
    simp only [stepG]
    rw [numsB_itoa hl]
    simp only
    rw [if_pos hf, hs]
  · simp only [List.mem_append, not_or]
    exact ⟨hv.2, nums_not10 hl⟩
theorem words_plain : ((32 : UInt8) ∉ wTime ∧ (10 : UInt8) ∉ wTime) ∧ ((32 : UInt8) ∉ wVertex ∧ (10 : UInt8) ∉ wVertex) ∧ ((32 : UInt8) ∉ wEdge ∧ (10 : UInt8) ∉ wEdge) ∧ ((32 : UInt8) ∉ wLeg ∧ (10 : UInt8) ∉ wLeg) := by decide
theorem read_lives (r : List UInt8) : ∀ (ls : List IvlD) (i : Nat) (g : GraphD), 0 < i → g.edges = [] → (∀ x ∈ ls, Small [x.f, x.t]) →
    readOut i g (piecesB 10 (ls.flatMap vertexT ++ r)) = readOut (i + ls.length) { g with lives := g.lives ++ ls } (piecesB 10 r)
  | [], i, g, _, _, _ => by simp
  | x :: ls, i, g, hi, he, hs => by
    have e : (x :: ls).flatMap vertexT ++ r = lineT wVertex [x.f, x.t] ++ (ls.flatMap vertexT ++ r) := by
      rw [List.flatMap_cons, List.append_assoc]; rfl
    rw [e, read_line words_plain.2.1 (hs x (by simp)) (by simp [wVertex, wTime]; omega) (g' := { g with lives := g.lives ++ [⟨x.f, x.t⟩] }) (by simp [stepN, he])]
    rw [read_lives r ls (i + 1) { g with lives := g.lives ++ [⟨x.f, x.t⟩] } (by omega) he fun y hy => hs y (by simp [hy])]
    simp only [List.append_assoc, List.singleton_append, List.length_cons]
    congr 1
    omega
theorem read_legs (r : List UInt8) : ∀ (ls : List LegD) (i : Nat) (g : GraphD) (es : List EdgeD) (x : EdgeD), 0 < i → g.edges = es ++ [x] → (∀ y ∈ ls, Small [y.f, y.t, y.time, y.cost]) →
    readOut i g (piecesB 10 (ls.flatMap legT ++ r)) = readOut (i + ls.length) { g with edges := es ++ [⟨x.a, x.b, x.legs ++ ls⟩] } (piecesB 10 r)
  | [], i, g, es, x, _, he, _ => by
    simp only [List.flatMap_nil, List.nil_append, List.length_nil, Nat.add_zero, List.append_nil]
    rw [← he]
  | y :: ls, i, g, es, x, hi, he, hs => by
    have e : (y :: ls).flatMap legT ++ r = lineT wLeg [y.f, y.t, y.time, y.cost] ++ (ls.flatMap legT ++ r) := by
      rw [List.flatMap_cons, List.append_assoc]; rfl
    rw [e, read_line words_plain.2.2.2 (hs y (by simp)) (by simp [wLeg, wTime]; omega) (stepN_leg he)]
    rw [read_legs r ls (i + 1) _ es ⟨x.a, x.b, x.legs ++ [⟨y.f, y.t, y.time, y.cost⟩]⟩ (by omega) rfl fun z hz => hs z (by simp [hz])]
    simp only [List.append_assoc, List.singleton_append, List.length_cons]
    congr 1
    omega
theorem read_edges (r : List UInt8) : ∀ (xs : List EdgeD) (i : Nat) (g : GraphD), 0 < i → (∀ x ∈ xs, Small [x.a, x.b] ∧ ∀ y ∈ x.legs, Small [y.f, y.t, y.time, y.cost]) →
    ∃ j, 0 < j ∧ readOut i g (piecesB 10 (xs.flatMap edgeT ++ r)) = readOut j { g with edges := g.edges ++ xs } (piecesB 10 r)
  | [], i, g, hi, _ => ⟨i, hi, by simp⟩
  | x :: xs, i, g, hi, hs => by
    have e : (x :: xs).flatMap edgeT ++ r = lineT wEdge [x.a, x.b] ++ (x.legs.flatMap legT ++ (xs.flatMap edgeT ++ r)) := by
      rw [List.flatMap_cons]; unfold edgeT; simp only [List.append_assoc]
    have h1 : stepN g wEdge [x.a, x.b] = some { g with edges := g.edges ++ [⟨x.a, x.b, []⟩] } := by
      have hne : ¬ wEdge = wVertex := by decide
      simp [stepN, hne]
    obtain ⟨j, hj, h2⟩ := read_edges r xs (i + 1 + x.legs.length) { g with edges := g.edges ++ [x] } (by omega) fun z hz => hs z (by simp [hz])
    refine ⟨j, hj, ?_⟩
    rw [e, read_line words_plain.2.2.1 (hs x (by simp)).1 (by simp [wEdge, wTime]; omega) h1]
    rw [read_legs _ x.legs (i + 1) _ g.edges ⟨x.a, x.b, []⟩ (by omega) rfl (hs x (by simp)).2]
    simp only [List.nil_append]
    rw [h2]
    simp only [List.append_assoc, List.singleton_append]
theorem valid_smalls {g : GraphD} (hV : Valid g) : Small [g.h] ∧ (∀ x ∈ g.lives, Small [x.f, x.t]) ∧ ∀ x ∈ g.edges, Small [x.a, x.b] ∧ x.legs.length ≤ 6 ∧ ∀ y ∈ x.legs, Small [y.f, y.t, y.time, y.cost] := by
  have h0 := hV.h0; have h1 := hV.h1; have hn := hV.nl
  refine ⟨fun n hn => ?_, fun x hx n hn => ?_, fun x hx => ?_⟩
  · simp at hn; omega
  · have := hV.lives x hx
    simp at hn; omega
  · have h := hV.edges x hx
    have a0 := h.a0; have a1 := h.a1; have b0 := h.b0; have b1 := h.b1
    refine ⟨fun n hn => ?_, h.six, fun y hy n hn => ?_⟩
    · simp at hn; omega
    · have := h.legs y hy
      simp at hn; omega
theorem graphT_len {g : GraphD} (hV : Valid g) : (graphT g).length ≤ 8192 := by
  obtain ⟨h1, h2, h3⟩ := valid_smalls hV
  have l1 := lineT_len4 (v := wTime) h1
  have l2 := flat_len (f := vertexT) (l := g.lives) (m := 17) fun x hx => lineT_len4 (v := wVertex) (h2 x hx)
  have l3 := flat_len (f := edgeT) (l := g.edges) (m := 159) fun x hx => by
    have k1 := lineT_len4 (v := wEdge) (h3 x hx).1
    have k2 := flat_len (f := legT) (l := x.legs) (m := 24) fun y hy => lineT_len4 (v := wLeg) ((h3 x hx).2.2 y hy)
    have k3 := (h3 x hx).2.1
    have e : wEdge.length = 4 := rfl
    unfold edgeT
    rw [List.length_append]
    simp only [List.length_cons, List.length_nil] at k1
    omega
  have h4 := hV.nl; have h5 := hV.ne
  have e : wTime.length = 4 := rfl
  unfold graphT
  rw [List.length_append, List.length_append]
  simp only [List.length_cons, List.length_nil] at l1
  omega
/-- What is printed is read as it was. -/
theorem parse_print {g : GraphD} (hV : Valid g) (h0 : graphErr g = 0) : parseD (graphT g) = (g, 0, 0) := by
  obtain ⟨h1, h2, h3⟩ := valid_smalls hV
  unfold parseD
  rw [if_neg (by have := graphT_len hV; omega)]
  have e : graphT g = lineT wTime [g.h] ++ (g.lives.flatMap vertexT ++ (g.edges.flatMap edgeT ++ [])) := by unfold graphT; simp
  rw [e, read_line words_plain.1 h1 (by decide) (g' := { noG with h := g.h }) rfl, read_lives _ _ _ _ (by omega) rfl h2]
  obtain ⟨j, hj, hr⟩ := read_edges [] g.edges (0 + 1 + g.lives.length) ⟨g.h, [] ++ g.lives, []⟩ (by omega) fun x hx => ⟨(h3 x hx).1, (h3 x hx).2.2⟩
  rw [hr]
  show readOut j ⟨g.h, [] ++ g.lives, [] ++ g.edges⟩ [[]] = _
  rw [readOut_end hj]
  simp only [List.nil_append]
  unfold finG
  rw [if_pos h0]

/-! ### what is read -/
theorem join_nums : ∀ (w : List (List UInt8)) (v : List UInt8), w.all (fun s => decide (0 ≤ numB s)) = true → joinB 32 (v :: w) = v ++ numsT (w.map numB)
  | [], v, _ => by simp [joinB, numsT]
  | s :: w, v, h => by
    simp only [List.all_cons, Bool.and_eq_true, decide_eq_true_eq] at h
    rw [join_cons (by simp), join_nums w s h.2]
    have e : numsT ((s :: w).map numB) = 32 :: (itoa (numB s) ++ numsT (w.map numB)) := rfl
    rw [e, itoa_numB h.1]
theorem step_line {g g' : GraphD} {first : Bool} {p : List UInt8} (h : stepG g first (piecesB 32 p) = some g') : ∃ v n, p ++ [10] = lineT v n ∧ first = decide (v = wTime) ∧ stepN g v n = some g' := by
  obtain ⟨v, w, hv⟩ := pieces_form 32 p
  rw [hv] at h
  simp only [stepG] at h
  cases hn : w.all (fun s => decide (0 ≤ numB s)) with
  | false => rw [numsB_none hn] at h; cases h
  | true =>
    rw [numsB_some hn] at h
    simp only at h
    by_cases hf : first = decide (v = wTime)
    · rw [if_pos hf] at h
      refine ⟨v, w.map numB, ?_, hf, h⟩
      have := join_pieces 32 p
      rw [hv, join_nums w v hn] at this
      rw [← this]; rfl
    · rw [if_neg hf] at h; cases h
theorem step_text {g g' : GraphD} {first : Bool} {p : List UInt8} (h : stepG g first (piecesB 32 p) = some g') : (first = true → g = noG → graphT g' = p ++ [10]) ∧ (first = false → graphT g' = graphT g ++ (p ++ [10])) := by
  obtain ⟨v, n, hp, hf, hs⟩ := step_line h
  rw [hp]
  unfold stepN at hs
  split at hs
  · next a =>
    split at hs
    · next hv =>
      subst hv
      cases hs
      refine ⟨fun _ hg => ?_, fun h1 => ?_⟩
      · subst hg; simp [graphT]
      · subst h1; exact absurd hf (by decide)
    · cases hs
  · next a b =>
    split at hs
    · next hv =>
      subst hv
      split at hs
      · next he =>
        cases hs
        refine ⟨fun h1 => ?_, fun _ => ?_⟩
        · subst h1; exact absurd hf (by decide)
        · unfold graphT
          rw [he]
          simp [vertexT]
      · cases hs
    · split at hs
      · next hv =>
        subst hv
        cases hs
        refine ⟨fun h1 => ?_, fun _ => ?_⟩
        · subst h1; exact absurd hf (by decide)
        · unfold graphT
          simp [edgeT]
      · cases hs
  · next a b c d =>
    split at hs
    · next hv =>
      subst hv
      split at hs
      · cases hs
      · next x hx =>
        cases hs
        refine ⟨fun h1 => ?_, fun _ => ?_⟩
        · subst h1; exact absurd hf (by decide)
        · obtain ⟨l, hl⟩ : ∃ l, g.edges = l ++ [x] := by
            have hne : g.edges ≠ [] := fun e => by rw [e] at hx; cases hx
            refine ⟨g.edges.dropLast, ?_⟩
            have := List.dropLast_concat_getLast hne
            rw [List.getLast?_eq_some_getLast hne] at hx
            rw [← this, Option.some.inj hx, List.dropLast_concat]
          unfold graphT
          simp only [hl, List.dropLast_concat]
          simp [edgeT, legT]
    · cases hs
  · cases hs
theorem fin_zero {g g' : GraphD} {n : Int} (h : finG g = (g', n, 0)) : g' = g ∧ n = 0 ∧ graphErr g = 0 := by
  unfold finG at h
  split at h
  · next h0 => simp only [Prod.mk.injEq] at h; exact ⟨h.1.symm, h.2.1.symm, h0⟩
  · next h0 => simp only [Prod.mk.injEq] at h; exact absurd h.2.2 h0
theorem read_text : ∀ (l : List (List UInt8)) (i : Nat) (g g' : GraphD) (n : Int), l ≠ [] → readOut i g l = (g', n, 0) → n = 0 ∧ graphErr g' = 0 ∧ (0 < i → graphT g' = graphT g ++ joinB 10 l) ∧ (i = 0 → g = noG → graphT g' = joinB 10 l)
  | [], _, _, _, _, h, _ => absurd rfl h
  | [p], i, g, g', n, _, h => by
    by_cases hc : 0 < i ∧ p = []
    · rw [readOut, if_pos hc] at h
      obtain ⟨rfl, rfl, h0⟩ := fin_zero h
      refine ⟨rfl, h0, fun _ => ?_, fun h1 => by omega⟩
      rw [hc.2]
      simp [joinB]
    · rw [readOut_cut hc] at h
      simp at h
  | p :: q :: l, i, g, g', n, _, h => by
    cases hs : stepG g (decide (i = 0)) (piecesB 32 p) with
    | none => rw [readOut_bad hs] at h; simp at h
    | some g1 =>
      rw [readOut_next hs] at h
      obtain ⟨h1, h2, h3, _⟩ := read_text (q :: l) (i + 1) g1 g' n (by simp) h
      obtain ⟨t1, t2⟩ := step_text hs
      refine ⟨h1, h2, fun hi => ?_, fun hi hg => ?_⟩
      · rw [h3 (by omega), t2 (by simp; omega)]
        simp [joinB]
      · rw [h3 (by omega), t1 (by simp [hi]) hg]
        simp [joinB]
/-- What is read is printed as it stood. -/
theorem print_parse {s : List UInt8} {g : GraphD} {n : Int} (h : parseD s = (g, n, 0)) : n = 0 ∧ graphErr g = 0 ∧ graphT g = s := by
  unfold parseD at h
  split at h
  · simp at h
  · obtain ⟨h1, h2, _, h3⟩ := read_text _ 0 noG g n (pieces_ne 10 s) h
    exact ⟨h1, h2, by rw [h3 rfl rfl, join_pieces]⟩
/-- Behind an error nothing is told of a graph. -/
theorem parse_err {s : List UInt8} {g : GraphD} {n er : Int} (h : parseD s = (g, n, er)) (he : er ≠ 0) : g = noG ∧ 0 ≤ n := by
  have hf : ∀ {g g' : GraphD} {n er : Int}, finG g = (g', n, er) → er ≠ 0 → g' = noG ∧ 0 ≤ n := by
    intro g g' n er h he
    unfold finG at h
    split at h
    · simp only [Prod.mk.injEq] at h; exact absurd h.2.2.symm he
    · simp only [Prod.mk.injEq] at h; exact ⟨h.1.symm, by omega⟩
  have key : ∀ (l : List (List UInt8)) (i : Nat) (g g' : GraphD) (n er : Int), readOut i g l = (g', n, er) → er ≠ 0 → g' = noG ∧ 0 ≤ n := by
    intro l
    induction l with
    | nil => intro i g g' n er h he; exact hf h he
    | cons p l ih =>
      intro i g g' n er h he
      cases l with
      | nil =>
        rw [readOut] at h
        split at h
        · exact hf h he
        · simp only [Prod.mk.injEq] at h; exact ⟨h.1.symm, by omega⟩
      | cons q l =>
        cases hs : stepG g (decide (i = 0)) (piecesB 32 p) with
        | none => rw [readOut_bad hs] at h; simp only [Prod.mk.injEq] at h; exact ⟨h.1.symm, by omega⟩
        | some g1 => rw [readOut_next hs] at h; exact ih _ _ _ _ _ h he
  unfold parseD at h
  split at h
  · simp only [Prod.mk.injEq] at h; exact ⟨h.1.symm, by omega⟩
  · exact key _ _ _ _ _ _ h he
theorem parse_nil : parseD [] = (noG, 1, 3) := rfl
end Go.Proofs.YtdpibehpmghghaaDoor
/- Blocks that hold a list of numbers, or of bools: how they are made, read, written. -/
namespace Go.Proofs.YtdpibehpmghghaaDoor
open Go.RowKit

def IRow (w : World) (b : Nat) (l : List Int) : Prop := Blk w b 3 (l.map iV).toArray
def BRow (w : World) (b : Nat) (l : List Bool) : Prop := Blk w b 4 (l.map Value.bool).toArray
theorem made_is (z : Value) (n : Nat) : madeCells #[z] n = (List.replicate n z).toArray := by
  apply Array.toList_inj.1
  rw [toList_madeCells_one]
theorem IRow.made {w : World} {b n : Nat} (hb : b = w.heap.size) : IRow (w.alloc (.cells (madeCells #[.int .i64 0] n) 3)) b (List.replicate n 0) := by
  unfold IRow
  rw [made_is]
  simpa using Blk.new_ hb
theorem BRow.made {w : World} {b n : Nat} (hb : b = w.heap.size) : BRow (w.alloc (.cells (madeCells #[.bool false] n) 4)) b (List.replicate n false) := by
  unfold BRow
  rw [made_is]
  simpa using Blk.new_ hb
section
variable {w w' : World} {b : Nat} {l : List Int} {r : List Bool}
theorem IRow.cell (h : IRow w b l) {k : Nat} (hk : k < l.length) : w.cell? ⟨b, k, none⟩ = some (.int .i64 (gi l k)) := by
  rw [Blk.cell h]
  simp [gi_get hk]
theorem BRow.cell (h : BRow w b r) {k : Nat} {x : Bool} (hk : r[k]? = some x) : w.cell? ⟨b, k, none⟩ = some (.bool x) := by
  rw [Blk.cell h]
  simp [hk]
theorem IRow.set (h : IRow w b l) (k : Nat) (x : Int) : IRow (w.setCell ⟨b, k, none⟩ (.int .i64 x)) b (l.set k x) := by
  have := Blk.set_ h k (.int .i64 x)
  unfold IRow
  simpa [List.map_set] using this
theorem BRow.set (h : BRow w b r) (k : Nat) (x : Bool) : BRow (w.setCell ⟨b, k, none⟩ (.bool x)) b (r.set k x) := by
  have := Blk.set_ h k (.bool x)
  unfold BRow
  simpa [List.map_set] using this
theorem IRow.slAt (h : IRow w b l) (hi : ∀ k, k < l.length → I64 (gi l k)) : SlAt RInt 1 w (some ⟨b, 0, none⟩) l := by
  refine ⟨b, 0, fun i x hx => ⟨rfl, Blk.lt h, ?_, ?_⟩⟩
  · have hl := lt_of_get hx
    have := IRow.cell h hl
    unfold cellIs
    rw [gi_of hx] at this
    simpa using this
  · have hl := lt_of_get hx
    have := hi i hl
    rwa [gi_of hx] at this
end
theorem info_int : (Tryd.prog.info? 3).map (fun i => (i.zero, i.size, i.bytes)) = some (some (.int .i64 0), 1, 8) := by kernel_rfl
theorem info_bool : (Tryd.prog.info? 4).map (fun i => (i.zero, i.size, i.bytes)) = some (some (.bool false), 1, 1) := by kernel_rfl
theorem make_ints (n : Nat) (h : n ≤ 1000000) (w : World) : (Instr.makeSlice 52 (.int .i64 (n : Int)) (.int .i64 (n : Int))).run Tryd.prog w = .ok (.slice (some ⟨w.heap.size, 0, none⟩) n n) (w.alloc (.cells (madeCells #[.int .i64 0] n) 3)) :=
  run_make_row' (P := Tryd.prog) 52 3 (.int .i64 0) 8 Tryd.underlying52 info_int rfl .i64 .i64 n (by omega) (by omega) w
theorem make_bools (n : Nat) (h : n ≤ 1000000) (w : World) : (Instr.makeSlice 31 (.int .i64 (n : Int)) (.int .i64 (n : Int))).run Tryd.prog w = .ok (.slice (some ⟨w.heap.size, 0, none⟩) n n) (w.alloc (.cells (madeCells #[.bool false] n) 4)) :=
  run_make_row' (P := Tryd.prog) 31 4 (.bool false) 1 Tryd.underlying31 info_bool rfl .i64 .i64 n (by omega) (by omega) w
end Go.Proofs.YtdpibehpmghghaaDoor
/- The walks: when one comes along an edge, what is wrong with a place; the program's and the document's. -/
namespace Go.Proofs.YtdpibehpmghghaaDoor
open Go.RowKit

theorem leaves_none {L : Option Addr} {cl : Nat} {x : EdgeD} {t : Int} (w : World) (hL : SlAt RLeg 4 w L x.legs) (hl : x.legs.length ≤ maxLen) (h : leaves t x.legs = none) :
    Calls Tryd.prog 37 #[edgeV L cl x, .int .i64 t] w fun e w' => e = .returned (.tuple #[legV ⟨0, 0, 0, 0⟩, .bool false]) ∧ Below w.heap.size w w' :=
  (leaves_any L cl x t w hL hl).mono fun e w' ⟨he, hb⟩ => ⟨by rw [he, h]; rfl, hb⟩
theorem leaves_some {L : Option Addr} {cl : Nat} {x : EdgeD} {t : Int} {l : LegD} (w : World) (hL : SlAt RLeg 4 w L x.legs) (hl : x.legs.length ≤ maxLen) (h : leaves t x.legs = some l) :
    Calls Tryd.prog 37 #[edgeV L cl x, .int .i64 t] w fun e w' => e = .returned (.tuple #[legV l, .bool true]) ∧ Below w.heap.size w w' :=
  (leaves_any L cl x t w hL hl).mono fun e w' ⟨he, hb⟩ => ⟨by rw [he, h]; rfl, hb⟩
theorem refLeg_none {L : Option Addr} {cl : Nat} {x : EdgeD} {t : Int} (w : World) (hL : SlAt RLeg 4 w L x.legs) (hl : x.legs.length ≤ maxLen) (h : leaves t x.legs = none) :
    Calls Tryd.prog 39 #[edgeV L cl x, .int .i64 t] w fun e w' => e = .returned (.tuple #[legV ⟨0, 0, 0, 0⟩, .bool false]) ∧ Below w.heap.size w w' :=
  (refLeg_any L cl x t w hL hl).mono fun e w' ⟨he, hb⟩ => ⟨by rw [he, h]; rfl, hb⟩
theorem refLeg_some {L : Option Addr} {cl : Nat} {x : EdgeD} {t : Int} {l : LegD} (w : World) (hL : SlAt RLeg 4 w L x.legs) (hl : x.legs.length ≤ maxLen) (h : leaves t x.legs = some l) :
    Calls Tryd.prog 39 #[edgeV L cl x, .int .i64 t] w fun e w' => e = .returned (.tuple #[legV l, .bool true]) ∧ Below w.heap.size w w' :=
  (refLeg_any L cl x t w hL hl).mono fun e w' ⟨he, hb⟩ => ⟨by rw [he, h]; rfl, hb⟩

/-- The three results of Arrive. -/
def arriveR (o : Option (LegD × Int)) : Value := match o with
  | some (l, to) => .tuple #[legV l, .int .i64 to, .bool true]
  | none => .tuple #[legV ⟨0, 0, 0, 0⟩, .int .i64 0, .bool false]

set_option maxHeartbeats 1000000 in
theorem arrive_any (A A' L : Option Addr) (c c' cl : Nat) (g : GraphD) (x : EdgeD) (t : Int) (w : World) (hG : GraphAt w A c A' c' g) (hV : Valid g) (hx : EdgeOk g x)
    (hL : SlAt RLeg 4 w L x.legs) (hl : x.legs.length ≤ maxLen) (ht : I64 t) :
    Calls Tryd.prog 82 #[gV A c A' c' g, edgeV L cl x, .int .i64 t] w fun e w' => e = .returned (arriveR (arrive g x t)) ∧ Below w.heap.size w w' := by
  obtain ⟨ht0, ht1⟩ := ht
  cases h : leaves t x.legs with
  | none =>
    have H := Lib.hid h
    have HR := Lib.hid (arrive_no (g := g) h)
    clear h
    go_enter Tryd.func82, Tryd.ntmps82
    go_wp2_with (go_at_call 37; refine (leaves_none _ (hL.ext RLeg.stable (by go_grown)) hl H.out).mono ?_; rintro e w1 ⟨rfl, hb1⟩; obtain ⟨b1, b2, b3⟩ := (Blk.ext (g := w.heap.size + 1 + 1) (t := 76) (cs := #[.int .i64 0, .int .i64 0, .int .i64 0, .int .i64 0]) (Blk.new_ (by simp)) hb1).facts)
    have hb2 : Below w.heap.size w w1 := ext_trans (by go_grown) hb1
    refine bodyPost_ret (v := .tuple #[legV ⟨0, 0, 0, 0⟩, .int .i64 0, .bool false]) (by simp [results, Tryd.results82, go_sem, b1, b3, legV]) rfl ⟨by rw [HR.out]; rfl, ?_⟩
    go_grown
  | some l =>
    have hm := leaves_mem h
    have hl' := hx.legs l hm.1
    have ha0 := hx.a0; have ha1 := hx.a1; have hb0 := hx.b0; have hb1' := hx.b1
    have hh := hV.h1
    have H := Lib.hid h
    have HR := Lib.hid (arrive_of (g := g) h)
    clear h
    by_cases hA : aliveB g x.a t = true
    case neg =>
      have hA' : aliveB g x.a t = false := by simpa using hA
      clear hA
      have HA := Lib.hid hA'
      go_enter Tryd.func82, Tryd.ntmps82
      go_wp2_with fail
      refine (leaves_some _ (hL.ext RLeg.stable (by go_grown)) hl H.out).mono ?_
      rintro e w1 ⟨rfl, hb1⟩
      obtain ⟨B2, b1, b2, b3⟩ := Blk.go (g := w.heap.size + 1 + 1) (t := 76) (cs := #[.int .i64 0, .int .i64 0, .int .i64 0, .int .i64 0]) (Blk.new_ (by simp)) hb1
      obtain ⟨B0, c1, c2, c3⟩ := Blk.go (g := w.heap.size) (t := 25) (cs := gC A c A' c' g) (((Blk.new _ _ _).alloc _).alloc _) hb1
      obtain ⟨B1, d1, d2, d3⟩ := Blk.go (g := w.heap.size + 1) (t := 74) (cs := #[.int .i64 x.a, .int .i64 x.b, .slice L x.legs.length cl]) ((Blk.new_ (by simp)).alloc _) hb1
      have hb2 : Below w.heap.size w w1 := ext_trans (by go_grown) hb1
      clear hb1
      go_wp2_with fail
      refine (alive_any _ _ _ _ g x.a t _ (hG.ext (ext_alloc hb2 _)) ha0 ha1).mono ?_
      rintro e w2 ⟨rfl, hb3⟩
      obtain ⟨B2', b1', b2', b3'⟩ := (B2.alloc _).go hb3
      obtain ⟨B0', c1', c2', c3'⟩ := (B0.alloc _).go hb3
      obtain ⟨B1', d1', d2', d3'⟩ := (B1.alloc _).go hb3
      obtain ⟨B3', e1', e2', e3'⟩ := (Blk.new w1 76 #[.int .i64 l.f, .int .i64 l.t, .int .i64 l.time, .int .i64 l.cost]).go hb3
      have hb4 : Below w.heap.size w w2 := ext_trans (ext_alloc hb2 _) hb3
      clear hb3 b1 b2 b3 c1 c2 c3 d1 d2 d3 B0 B1 B2
      go_wp2_with fail
      refine bodyPost_ret (v := .tuple #[legV ⟨0, 0, 0, 0⟩, .int .i64 0, .bool false]) (by simp [results, Tryd.results82, go_sem, b1']) rfl ⟨by rw [HR.out, if_neg (by simp [HA.out])]; rfl, ?_⟩
      go_grown
    have HA := Lib.hid hA
    by_cases hH : t + l.time < g.h
    case neg =>
      have HH := Lib.hid hH
      go_enter Tryd.func82, Tryd.ntmps82
      go_wp2_with fail
      refine (leaves_some _ (hL.ext RLeg.stable (by go_grown)) hl H.out).mono ?_
      rintro e w1 ⟨rfl, hb1⟩
      obtain ⟨B2, b1, b2, b3⟩ := Blk.go (g := w.heap.size + 1 + 1) (t := 76) (cs := #[.int .i64 0, .int .i64 0, .int .i64 0, .int .i64 0]) (Blk.new_ (by simp)) hb1
      obtain ⟨B0, c1, c2, c3⟩ := Blk.go (g := w.heap.size) (t := 25) (cs := gC A c A' c' g) (((Blk.new _ _ _).alloc _).alloc _) hb1
      obtain ⟨B1, d1, d2, d3⟩ := Blk.go (g := w.heap.size + 1) (t := 74) (cs := #[.int .i64 x.a, .int .i64 x.b, .slice L x.legs.length cl]) ((Blk.new_ (by simp)).alloc _) hb1
      have hb2 : Below w.heap.size w w1 := ext_trans (by go_grown) hb1
      clear hb1
      go_wp2_with fail
      refine (alive_any _ _ _ _ g x.a t _ (hG.ext (ext_alloc hb2 _)) ha0 ha1).mono ?_
      rintro e w2 ⟨rfl, hb3⟩
      obtain ⟨B2', b1', b2', b3'⟩ := (B2.alloc _).go hb3
      obtain ⟨B0', c1', c2', c3'⟩ := (B0.alloc _).go hb3
      obtain ⟨B1', d1', d2', d3'⟩ := (B1.alloc _).go hb3
      obtain ⟨B3', e1', e2', e3'⟩ := (Blk.new w1 76 #[.int .i64 l.f, .int .i64 l.t, .int .i64 l.time, .int .i64 l.cost]).go hb3
      have hb4 : Below w.heap.size w w2 := ext_trans (ext_alloc hb2 _) hb3
      clear hb3 b1 b2 b3 c1 c2 c3 d1 d2 d3 B0 B1 B2
      go_wp2_with fail
      refine bodyPost_ret (v := .tuple #[legV ⟨0, 0, 0, 0⟩, .int .i64 0, .bool false]) (by simp [results, Tryd.results82, go_sem, b1']) rfl ⟨by rw [HR.out, if_neg (by exact fun hh => by have := HH.out; omega)]; rfl, ?_⟩
      go_grown
    have HH := Lib.hid hH
    cases hB : aliveB g x.b (t + l.time)
    case false =>
      have HB := Lib.hid hB
      go_enter Tryd.func82, Tryd.ntmps82
      go_wp2_with fail
      refine (leaves_some _ (hL.ext RLeg.stable (by go_grown)) hl H.out).mono ?_
      rintro e w1 ⟨rfl, hb1⟩
      obtain ⟨B2, b1, b2, b3⟩ := Blk.go (g := w.heap.size + 1 + 1) (t := 76) (cs := #[.int .i64 0, .int .i64 0, .int .i64 0, .int .i64 0]) (Blk.new_ (by simp)) hb1
      obtain ⟨B0, c1, c2, c3⟩ := Blk.go (g := w.heap.size) (t := 25) (cs := gC A c A' c' g) (((Blk.new _ _ _).alloc _).alloc _) hb1
      obtain ⟨B1, d1, d2, d3⟩ := Blk.go (g := w.heap.size + 1) (t := 74) (cs := #[.int .i64 x.a, .int .i64 x.b, .slice L x.legs.length cl]) ((Blk.new_ (by simp)).alloc _) hb1
      have hb2 : Below w.heap.size w w1 := ext_trans (by go_grown) hb1
      clear hb1
      go_wp2_with fail
      refine (alive_any _ _ _ _ g x.a t _ (hG.ext (ext_alloc hb2 _)) ha0 ha1).mono ?_
      rintro e w2 ⟨rfl, hb3⟩
      obtain ⟨B2', b1', b2', b3'⟩ := (B2.alloc _).go hb3
      obtain ⟨B0', c1', c2', c3'⟩ := (B0.alloc _).go hb3
      obtain ⟨B1', d1', d2', d3'⟩ := (B1.alloc _).go hb3
      obtain ⟨B3', e1', e2', e3'⟩ := (Blk.new w1 76 #[.int .i64 l.f, .int .i64 l.t, .int .i64 l.time, .int .i64 l.cost]).go hb3
      have hb4 : Below w.heap.size w w2 := ext_trans (ext_alloc hb2 _) hb3
      clear hb3 b1 b2 b3 c1 c2 c3 d1 d2 d3 B0 B1 B2
      go_wp2_with fail
      refine (alive_any _ _ _ _ g x.b (t + l.time) _ (hG.ext hb4) hb0 hb1').mono ?_
      rintro e w3 ⟨rfl, hb5⟩
      obtain ⟨B2q, b1q, b2q, b3q⟩ := B2'.go hb5
      obtain ⟨B3q, e1q, e2q, e3q⟩ := B3'.go hb5
      have hb6 : Below w.heap.size w w3 := ext_trans hb4 hb5
      clear hb5 B2' b1' b2' b3' B0' c1' c2' c3' B1' d1' d2' d3' B3' e1' e2' e3'
      go_wp2_with fail
      refine bodyPost_ret (v := .tuple #[legV ⟨0, 0, 0, 0⟩, .int .i64 0, .bool false]) (by simp [results, Tryd.results82, go_sem, b1q]) rfl ⟨by rw [HR.out, if_neg (by exact fun hh => by rw [HB.out] at hh; exact absurd hh.2.2 (by simp))]; rfl, ?_⟩
      go_grown
    case true =>
      have HB := Lib.hid hB
      go_enter Tryd.func82, Tryd.ntmps82
      go_wp2_with fail
      refine (leaves_some _ (hL.ext RLeg.stable (by go_grown)) hl H.out).mono ?_
      rintro e w1 ⟨rfl, hb1⟩
      obtain ⟨B2, b1, b2, b3⟩ := Blk.go (g := w.heap.size + 1 + 1) (t := 76) (cs := #[.int .i64 0, .int .i64 0, .int .i64 0, .int .i64 0]) (Blk.new_ (by simp)) hb1
      obtain ⟨B0, c1, c2, c3⟩ := Blk.go (g := w.heap.size) (t := 25) (cs := gC A c A' c' g) (((Blk.new _ _ _).alloc _).alloc _) hb1
      obtain ⟨B1, d1, d2, d3⟩ := Blk.go (g := w.heap.size + 1) (t := 74) (cs := #[.int .i64 x.a, .int .i64 x.b, .slice L x.legs.length cl]) ((Blk.new_ (by simp)).alloc _) hb1
      have hb2 : Below w.heap.size w w1 := ext_trans (by go_grown) hb1
      clear hb1
      go_wp2_with fail
      refine (alive_any _ _ _ _ g x.a t _ (hG.ext (ext_alloc hb2 _)) ha0 ha1).mono ?_
      rintro e w2 ⟨rfl, hb3⟩
      obtain ⟨B2', b1', b2', b3'⟩ := (B2.alloc _).go hb3
      obtain ⟨B0', c1', c2', c3'⟩ := (B0.alloc _).go hb3
      obtain ⟨B1', d1', d2', d3'⟩ := (B1.alloc _).go hb3
      obtain ⟨B3', e1', e2', e3'⟩ := (Blk.new w1 76 #[.int .i64 l.f, .int .i64 l.t, .int .i64 l.time, .int .i64 l.cost]).go hb3
      have hb4 : Below w.heap.size w w2 := ext_trans (ext_alloc hb2 _) hb3
      clear hb3 b1 b2 b3 c1 c2 c3 d1 d2 d3 B0 B1 B2
      go_wp2_with fail
      refine (alive_any _ _ _ _ g x.b (t + l.time) _ (hG.ext hb4) hb0 hb1').mono ?_
      rintro e w3 ⟨rfl, hb5⟩
      obtain ⟨B2q, b1q, b2q, b3q⟩ := B2'.go hb5
      obtain ⟨B3q, e1q, e2q, e3q⟩ := B3'.go hb5
      have hb6 : Below w.heap.size w w3 := ext_trans hb4 hb5
      clear hb5 B2' b1' b2' b3' B0' c1' c2' c3' B1' d1' d2' d3' B3' e1' e2' e3'
      go_wp2_with fail
      refine bodyPost_ret (v := .tuple #[legV l, .int .i64 (t + l.time), .bool true]) (by simp [results, Tryd.results82, go_sem, b1q]) rfl ⟨by rw [HR.out, if_pos ⟨HA.out, HH.out, HB.out⟩]; rfl, ?_⟩
      go_grown
end Go.Proofs.YtdpibehpmghghaaDoor
/- The walks: what is wrong with a place (program and document), when one lands (document). -/
namespace Go.Proofs.YtdpibehpmghghaaDoor
open Go.RowKit

theorem first_of {b : Bool} {x : Int} (h : b = false → x = 1) (h' : b = true → x = 0) {d : Bool} (e : b = d) : x = if d then 0 else 1 := by
  cases d
  · exact h e
  · exact h' e
theorem neq_of {a : Int} (h : a = 0) : (a != 0) = false := by simp [h]
theorem neq_of' {a : Int} (h : ¬ a = 0) : (a != 0) = true := by simp [h]

set_option maxHeartbeats 1000000 in
theorem checkPlace_any (A A' : Option Addr) (c c' : Nat) (g : GraphD) (v t : Int) (w : World) (hG : GraphAt w A c A' c' g) :
    Calls Tryd.prog 81 #[gV A c A' c' g, .int .i64 v, .int .i64 t] w fun e w' => e = .returned (.int .i64 (placeErr g v t)) ∧ Below w.heap.size w w' := by
  have m1 : g.lives.length ≤ 9223372036854775807 := Nat.le_trans hG.lc hG.cm
  by_cases h0 : graphErr g = 0
  case neg =>
    have H0 := Lib.hid (placeErr_g (v := v) (t := t) h0)
    have hn := neq_of' h0
    clear h0
    go_enter Tryd.func81, Tryd.ntmps81
    go_wp2_with fail
    refine (check_any _ _ _ _ g _ (hG.ext (by go_grown))).mono ?_
    rintro e w1 ⟨rfl, hb1⟩
    have hb2 : Below w.heap.size w w1 := ext_trans (by go_grown) hb1
    go_wp2_with fail
    go_ret
    exact ⟨ret_int H0.out.symm, hb2⟩
  have H0 := Lib.hid h0
  cases hv : inB v 0 ((g.lives.length : Int) - 1)
  case false =>
    have H1 := Lib.hid (placeErr_v (t := t) h0 hv)
    simp only [inB, decide_eq_false_iff_not] at hv
    go_enter Tryd.func81, Tryd.ntmps81
    go_wp2_with fail
    refine (check_any _ _ _ _ g _ (hG.ext (by go_grown))).mono ?_
    rintro e w1 ⟨rfl, hb1⟩
    obtain ⟨B0, c1, c2, c3⟩ := (Blk.new w 25 (gC A c A' c' g)).go hb1
    have hb2 : Below w.heap.size w w1 := ext_trans (by go_grown) hb1
    go_wp2_with fail
    all_goals go_ret
    all_goals exact ⟨ret_int H1.out.symm, hb2⟩
  case true =>
    cases ht : inB t 0 (g.h - 1)
    case false =>
      have H1 := Lib.hid (placeErr_t h0 hv ht)
      simp only [inB, decide_eq_false_iff_not, decide_eq_true_eq] at hv ht
      obtain ⟨hv1, hv2⟩ := hv
      go_enter Tryd.func81, Tryd.ntmps81
      go_wp2_with fail
      refine (check_any _ _ _ _ g _ (hG.ext (by go_grown))).mono ?_
      rintro e w1 ⟨rfl, hb1⟩
      obtain ⟨B0, c1, c2, c3⟩ := (Blk.new w 25 (gC A c A' c' g)).go hb1
      have hb2 : Below w.heap.size w w1 := ext_trans (by go_grown) hb1
      go_wp2_with fail
      all_goals go_ret
      all_goals exact ⟨ret_int H1.out.symm, hb2⟩
    case true =>
      have H1 := Lib.hid (placeErr_0 h0 hv ht)
      simp only [inB, decide_eq_true_eq] at hv ht
      obtain ⟨hv1, hv2⟩ := hv
      obtain ⟨ht1, ht2⟩ := ht
      go_enter Tryd.func81, Tryd.ntmps81
      go_wp2_with fail
      refine (check_any _ _ _ _ g _ (hG.ext (by go_grown))).mono ?_
      rintro e w1 ⟨rfl, hb1⟩
      obtain ⟨B0, c1, c2, c3⟩ := (Blk.new w 25 (gC A c A' c' g)).go hb1
      have hb2 : Below w.heap.size w w1 := ext_trans (by go_grown) hb1
      go_wp2_with fail
      go_ret
      exact ⟨ret_int H1.out.symm, hb2⟩

/-- The three results of Lands. -/
def landsR (o : Option (LegD × Int)) : Value := match o with
  | some (l, to) => .tuple #[.int .i64 to, .int .i64 l.cost, .bool true]
  | none => .tuple #[.int .i64 0, .int .i64 0, .bool false]

end Go.Proofs.YtdpibehpmghghaaDoor
/- The walk of the document's Go: it tells what goR tells. -/
namespace Go.Proofs.YtdpibehpmghghaaDoor
open Go.RowKit

/-- What the loop knows: where one is (ok), or that the list is no journey. -/
def GoInv (g : GraphD) (v t : Int) (l : List HopD) (n : Nat) (x y z : Int) (ok : Bool) : Prop :=
  (ok = true → aliveB g v t = true ∧ 0 ≤ z ∧ z ≤ 1000 * n ∧ goL g x y z (l.drop n) = goL g v t 0 l) ∧ (ok = false → goR g v t l = (0, 0, 0, 5))

end Go.Proofs.YtdpibehpmghghaaDoor
/- The walk of journey.Go: it tells what goR tells. -/
namespace Go.Proofs.YtdpibehpmghghaaDoor
open Go.RowKit

theorem arrive_no_any (A A' L : Option Addr) (c c' cl : Nat) (g : GraphD) (x : EdgeD) (t : Int) (w : World) (hG : GraphAt w A c A' c' g) (hV : Valid g) (hx : EdgeOk g x)
    (hL : SlAt RLeg 4 w L x.legs) (hl : x.legs.length ≤ maxLen) (ht : I64 t) (h : arrive g x t = none) :
    Calls Tryd.prog 82 #[gV A c A' c' g, edgeV L cl x, .int .i64 t] w fun e w' => e = .returned (.tuple #[legV ⟨0, 0, 0, 0⟩, .int .i64 0, .bool false]) ∧ Below w.heap.size w w' :=
  (arrive_any A A' L c c' cl g x t w hG hV hx hL hl ht).mono fun e w' ⟨he, hb⟩ => ⟨by rw [he, h]; rfl, hb⟩
theorem arrive_yes_any (A A' L : Option Addr) (c c' cl : Nat) (g : GraphD) (x : EdgeD) (t : Int) (lg : LegD) (to : Int) (w : World) (hG : GraphAt w A c A' c' g) (hV : Valid g) (hx : EdgeOk g x)
    (hL : SlAt RLeg 4 w L x.legs) (hl : x.legs.length ≤ maxLen) (ht : I64 t) (h : arrive g x t = some (lg, to)) :
    Calls Tryd.prog 82 #[gV A c A' c' g, edgeV L cl x, .int .i64 t] w fun e w' => e = .returned (.tuple #[legV lg, .int .i64 to, .bool true]) ∧ Below w.heap.size w w' :=
  (arrive_any A A' L c c' cl g x t w hG hV hx hL hl ht).mono fun e w' ⟨he, hb⟩ => ⟨by rw [he, h]; rfl, hb⟩

end Go.Proofs.YtdpibehpmghghaaDoor
/- The walks of journey.Out and of the document's Outs: they tell the same list. -/
namespace Go.Proofs.YtdpibehpmghghaaDoor
open Go.RowKit

theorem info_hop : (Tryd.prog.info? 110).map (fun i => (i.zero, i.size, i.bytes)) = some (some (.agg #[.int .i64 0, .int .i64 0]), 2, 16) := by kernel_rfl
theorem hop_one {a b : Int} : ∀ u ∈ (#[.int .i64 a, .int .i64 b] : Array Value).toList, u.oneCell' = true := by simp [Value.oneCell']
theorem hopEnc_len (x : HopD) : (hopEnc x).length = 2 := rfl
/-- A list of hops and an error are told. -/
def HopsOut (l : List HopD) (er : Int) (w : World) (e : Ending) (w' : World) : Prop := ∃ A c, e = .returned (.tuple #[.slice A l.length c, .int .i64 er]) ∧ SlAt RHop 2 w' A l ∧ l.length ≤ maxLen ∧ Below w.heap.size w w'
def HopsOut1 (l : List HopD) (w : World) (e : Ending) (w' : World) : Prop := ∃ A c, e = .returned (.slice A l.length c) ∧ SlAt RHop 2 w' A l ∧ l.length ≤ maxLen ∧ Below w.heap.size w w'
theorem own_hops {w : World} {base : Nat} {v : Value} {l : List HopD} (h : Own hopEnc 2 w base 110 v l) (hi : ∀ x, x ∈ l → I64 x.edge ∧ I64 x.depart) : ∃ A c, v = .slice A l.length c ∧ SlAt RHop 2 w A l :=
  h.slAt hopEnc_len fun x hx b o hc => ⟨⟨by simpa using hc 0 _ rfl, by simpa using hc 1 _ rfl⟩, hi x hx⟩
theorem outs_small {g : GraphD} {v t : Int} (hV : Valid g) (h0 : 0 ≤ t) (h1 : t < g.h) : (outs g v t).length ≤ 3000 ∧ ∀ x, x ∈ outs g v t → I64 x.edge ∧ I64 x.depart := by
  have hh := hV.h1; have hne := hV.ne
  unfold outs
  split
  · have hl := outsL_len (g := g) (v := v) (g.h - t).toNat t
    have hm : (g.h - t).toNat * g.edges.length ≤ 100 * 30 := Nat.mul_le_mul (by omega) hne
    refine ⟨by omega, fun x hx => ?_⟩
    obtain ⟨h2, h3, h4⟩ := (outsL_mem _ _).1 hx
    obtain ⟨_, k, y, hk, he, _⟩ := (outsAt_mem _ _).1 h4
    have := lt_of_get hk
    exact ⟨⟨by omega, by omega⟩, by unfold I64; omega⟩
  · exact ⟨by simp, by simp⟩

end Go.Proofs.YtdpibehpmghghaaDoor
