/- The frame that all laws of this seat share: a call that returns true and leaves old memory alone meets its row's post. -/
import Derived.Test.YtcgnalpcbcpmkaaRows
import Derived.Test.YtcgnalpcbcpmkaaMem
import Derived.ProofKit
namespace Go.Proofs.Ytcgnalpcbcpmkaa
open Go.ChangeShapes Go.WideShapes Go.ChangeAt Go.RowKit

theorem Try.own : ownKnob Try.prog.godebug = none := by kernel_rfl
theorem Try.laidOut : laidOutB Try.prog = true := by kernel_rfl

section
variable {H : Type} {enc : TypeId × Value → H}
theorem trodAll_below {W W' : World} (hb : Below W.heap.size W W') : ∀ (ts : List TypeId) (vs : List Value) (ds : List (DataW H)) (ps : List MemPlace),
    (∀ t ∈ ts, Try.prog.readableRec t = true ∧ t < Try.prog.types.size) → (∀ x ∈ ps, x.block < W.heap.size) →
    DataW.TrodAll enc Try.prog W 0 (fun _ => true) true ts vs ds ps → DataW.TrodAll enc Try.prog W' 0 (fun b => decide (b < W.heap.size)) true ts vs ds ps
  | [], vs, ds, ps, _, _, h => by
    obtain ⟨rfl, rfl, rfl⟩ := trodAll_nil h
    exact trodAll_mk0
  | t :: ts, vs, ds, ps, hr, hlt, h => by
    obtain ⟨v, vs', d, ds', p, q, rfl, rfl, rfl, h1, h2⟩ := trodAll_cons h
    exact trodAll_cons_mk (Below.trod Try.laidOut (hr t (by simp)).1 (hr t (by simp)).2 h1 hb (fun x hx => hlt x (by simp [hx])))
      (trodAll_below hb ts vs' ds' q (fun t ht => hr t (by simp [ht])) (fun x hx => hlt x (by simp [hx])) h2)

theorem law_post {f : Func} {s : ChangeSpec} {W W' : World} {args : Array Value} {ds gs : List (DataW H)} {before : List MemPlace}
    (hW : DataW.Whole enc Try.prog f.params.toList s.vars false W args.toList ds gs before) (hb : Below W.heap.size W W')
    (hv : s.vars = []) (hrt : f.resultTypes.toList = [4]) (hrn : f.resultTypes.size = 1)
    (hr : ∀ t ∈ f.params.toList, Try.prog.readableRec t = true ∧ t < Try.prog.types.size)
    (hs : s.fn H ds = { results := [.lit (.bool true)], args := ds }) :
    s.post enc Try.prog f false true false false W args (.bool true) W' := by
  have hW0 := hW
  obtain ⟨p, q, hA, hV, rfl, hfz, hnd⟩ := hW
  rw [hv] at hV
  obtain ⟨rfl, rfl⟩ := trodVars_none hV
  have hlt : ∀ x ∈ p ++ [], x.block < W.heap.size := fun x hx => hW0.lt x hx
  refine ⟨ds, [], p ++ [], [], p, [], hW0, ?_, ?_, ?_, hb.frame _, fun h => by cases h⟩
  · rw [hrt, hrn, List.append_nil, hs]
    exact trodAll_mk1 (shut_bool Try.underlying4 true)
  · rw [List.append_nil, hs]
    exact trodAll_below hb _ _ _ _ hr (fun x hx => hlt x (by simp [hx])) hA
  · rw [hv, List.append_nil, hs]
    rfl
end

/-! ### the head of the translation, word by word (the kernel alone needs too much memory for it) -/
theorem wordsSigns_blank (r : List Char) : wordsSigns (Char.ofNat 32 :: r) = [] :: wordsSigns r := rfl
theorem wordsSigns_word : ∀ (p r : List Char), (∀ c ∈ p, c ≠ Char.ofNat 32) → wordsSigns (p ++ Char.ofNat 32 :: r) = p :: wordsSigns r
  | [], r, _ => wordsSigns_blank r
  | c :: p, r, h => by
    have hc : c ≠ Char.ofNat 32 := h c (by simp)
    have ih := wordsSigns_word p r (fun c hc => h c (by simp [hc]))
    have e : wordsSigns (c :: (p ++ Char.ofNat 32 :: r)) = match wordsSigns (p ++ Char.ofNat 32 :: r) with
        | w :: ws => (c :: w) :: ws
        | [] => [[c]] := by
      conv => lhs; unfold wordsSigns
      split
      · rename_i e; simp at e
      · rename_i e; simp at e; exact absurd e.1 hc
      · rename_i e; simp at e; obtain ⟨rfl, rfl⟩ := e; rfl
    rw [List.cons_append, e, ih]
theorem head_is : Try.prog.initOrder = String.ofList (([104, 97, 114, 110, 101, 115, 115] : List Nat).map Char.ofNat ++ Char.ofNat 32 ::
    (([56, 100, 99, 56, 48, 102, 98, 57, 101, 53, 56, 100, 101, 53, 101, 98, 52, 101, 55, 98, 52, 48, 48, 57, 57, 51, 53, 101, 99, 51, 100, 100, 55, 48, 98, 98, 52, 49, 57, 100, 55, 52, 99, 99, 51, 55, 48, 55, 98, 51, 98, 53, 100, 97, 55, 97, 52, 54, 101, 50, 97, 97, 56, 55] : List Nat).map Char.ofNat ++ Char.ofNat 32 :: (([99, 117, 116] : List Nat).map Char.ofNat ++ Char.ofNat 32 ::
    ([97, 116, 32, 116, 105, 109, 101, 119, 101, 102, 116, 47, 116, 105, 109, 101, 108, 97, 119, 46, 78, 97, 109, 101, 115, 32, 116, 105, 109, 101, 119, 101, 102, 116, 47, 116, 105, 109, 101, 108, 97, 119, 46, 80, 97, 99, 107, 83, 97, 121, 115, 32, 116, 105, 109, 101, 119, 101, 102, 116, 47, 116, 105, 109, 101, 108, 97, 119, 46, 74, 111, 117, 114, 110, 101, 121, 71, 111, 101, 115, 32, 116, 105, 109, 101, 119, 101, 102, 116, 47, 116, 105, 109, 101, 108, 97, 119, 46, 74, 111, 117, 114, 110, 101, 121, 79, 117, 116, 115, 32, 116, 105, 109, 101, 119, 101, 102, 116, 47, 116, 105, 109, 101, 108, 97, 119, 46, 80, 108, 97, 105, 110, 83, 97, 121, 115, 32, 116, 105, 109, 101, 119, 101, 102, 116, 47, 116, 105, 109, 101, 107, 101, 101, 112, 46, 74, 111, 117, 114, 110, 101, 121, 80, 97, 114, 116, 115, 32, 116, 105, 109, 101, 119, 101, 102, 116, 47, 116, 105, 109, 101, 107, 101, 101, 112, 46, 80, 108, 97, 105, 110, 87, 97, 121, 115, 32, 116, 105, 109, 101, 119, 101, 102, 116, 47, 116, 105, 109, 101, 107, 101, 101, 112, 46, 74, 111, 117, 114, 110, 101, 121, 76, 101, 97, 118, 101, 115, 32, 116, 105, 109, 101, 119, 101, 102, 116, 47, 116, 105, 109, 101, 108, 97, 119, 46, 84, 117, 114, 110, 83, 97, 121, 115, 32, 116, 105, 109, 101, 119, 101, 102, 116, 47, 116, 105, 109, 101, 108, 97, 119, 46, 80, 97, 99, 107, 82, 101, 97, 100, 115, 32, 116, 105, 109, 101, 119, 101, 102, 116, 47, 116, 105, 109, 101, 107, 101, 101, 112, 46, 80, 97, 99, 107, 79, 110, 101, 32, 116, 105, 109, 101, 119, 101, 102, 116, 47, 116, 105, 109, 101, 108, 97, 119, 46, 67, 104, 101, 97, 112, 87, 97, 121, 115, 32, 116, 105, 109, 101, 119, 101, 102, 116, 47, 116, 105, 109, 101, 107, 101, 101, 112, 46, 67, 104, 101, 97, 112, 70, 97, 115, 116, 32, 116, 105, 109, 101, 119, 101, 102, 116, 47, 116, 105, 109, 101, 116, 111, 112, 46, 84, 111, 112, 66, 111, 116, 104, 32, 116, 105, 109, 101, 119, 101, 102, 116, 47, 116, 105, 109, 101, 108, 97, 119, 46, 69, 97, 114, 108, 121, 87, 97, 121, 115, 32, 116, 105, 109, 101, 119, 101, 102, 116, 47, 116, 105, 109, 101, 107, 101, 101, 112, 46, 80, 114, 111, 102, 105, 108, 101, 82, 101, 97, 99, 104, 32, 116, 105, 109, 101, 119, 101, 102, 116, 47, 116, 105, 109, 101, 107, 101, 101, 112, 46, 80, 97, 99, 107, 66, 97, 99, 107, 32, 116, 105, 109, 101, 119, 101, 102, 116, 47, 116, 105, 109, 101, 108, 97, 119, 46, 69, 97, 114, 108, 121, 83, 97, 121, 115, 32, 116, 105, 109, 101, 119, 101, 102, 116, 47, 116, 105, 109, 101, 107, 101, 101, 112, 46, 69, 97, 114, 108, 121, 76, 97, 116, 101, 114, 32, 116, 105, 109, 101, 119, 101, 102, 116, 47, 116, 105, 109, 101, 116, 111, 112, 46, 84, 111, 112, 87, 97, 121, 115, 32, 116, 105, 109, 101, 119, 101, 102, 116, 47, 116, 105, 109, 101, 107, 101, 101, 112, 46, 69, 97, 114, 108, 121, 66, 97, 99, 107, 32, 116, 105, 109, 101, 119, 101, 102, 116, 47, 116, 105, 109, 101, 107, 101, 101, 112, 46, 69, 97, 114, 108, 121, 86, 105, 97, 32, 116, 105, 109, 101, 119, 101, 102, 116, 47, 116, 105, 109, 101, 107, 101, 101, 112, 46, 84, 117, 114, 110, 66, 97, 99, 107, 32, 116, 105, 109, 101, 119, 101, 102, 116, 47, 116, 105, 109, 101, 107, 101, 101, 112, 46, 84, 117, 114, 110, 80, 97, 114, 116, 115, 32, 116, 105, 109, 101, 119, 101, 102, 116, 47, 116, 105, 109, 101, 108, 97, 119, 46, 67, 104, 101, 97, 112, 83, 97, 121, 115, 32, 116, 105, 109, 101, 119, 101, 102, 116, 47, 116, 105, 109, 101, 107, 101, 101, 112, 46, 84, 117, 114, 110, 84, 119, 105, 99, 101, 32, 116, 105, 109, 101, 119, 101, 102, 116, 47, 116, 105, 109, 101, 116, 111, 112, 46, 84, 111, 112, 66, 101, 115, 116, 32, 116, 105, 109, 101, 119, 101, 102, 116, 47, 116, 105, 109, 101, 107, 101, 101, 112, 46, 67, 104, 101, 97, 112, 66, 111, 117, 110, 100, 115] : List Nat).map Char.ofNat))) := by kernel_rfl
theorem head_words : ∃ rest, wordsSigns Try.prog.initOrder.toList = ([104, 97, 114, 110, 101, 115, 115] : List Nat).map Char.ofNat :: ([56, 100, 99, 56, 48, 102, 98, 57, 101, 53, 56, 100, 101, 53, 101, 98, 52, 101, 55, 98, 52, 48, 48, 57, 57, 51, 53, 101, 99, 51, 100, 100, 55, 48, 98, 98, 52, 49, 57, 100, 55, 52, 99, 99, 51, 55, 48, 55, 98, 51, 98, 53, 100, 97, 55, 97, 52, 54, 101, 50, 97, 97, 56, 55] : List Nat).map Char.ofNat :: ([99, 117, 116] : List Nat).map Char.ofNat :: rest := by
  rw [head_is, String.toList_ofList, wordsSigns_word _ _ (by decide), wordsSigns_word _ _ (by decide), wordsSigns_word _ _ (by decide)]
  exact ⟨_, rfl⟩
theorem head_behind : ∃ rest, behindMainWord (wordsSigns Try.prog.initOrder.toList) = "cut".toList :: rest := by
  obtain ⟨rest, h⟩ := head_words
  refine ⟨rest, ?_⟩
  rw [h]
  have hs : isSumSigns (([56, 100, 99, 56, 48, 102, 98, 57, 101, 53, 56, 100, 101, 53, 101, 98, 52, 101, 55, 98, 52, 48, 48, 57, 57, 51, 53, 101, 99, 51, 100, 100, 55, 48, 98, 98, 52, 49, 57, 100, 55, 52, 99, 99, 51, 55, 48, 55, 98, 51, 98, 53, 100, 97, 55, 97, 52, 54, 101, 50, 97, 97, 56, 55] : List Nat).map Char.ofNat) = true := by kernel_rfl
  have h1 : ([104, 97, 114, 110, 101, 115, 115] : List Nat).map Char.ofNat = "harness".toList := by decide
  have h2 : ([99, 117, 116] : List Nat).map Char.ofNat = "cut".toList := by decide
  rw [h1, h2]
  simp only [behindMainWord, hs]
  simp
theorem strip_cut (rest : List (List Char)) : stripLifts liftWords ("cut".toList :: rest) = ([], "cut".toList :: rest) := by kernel_rfl
theorem lays_not : Try.prog.laysLater = false := by kernel_rfl
theorem reflect_not : Try.prog.bearsReflect = false := by kernel_rfl
theorem door_fits : Try.prog.doorFits [] = true := by kernel_rfl
section
variable {P : Program} {rest : List (List Char)}
theorem may_enter_of (h : behindMainWord (wordsSigns P.initOrder.toList) = "cut".toList :: rest) (h1 : P.laysLater = false) (h2 : P.bearsReflect = false) (h3 : P.doorFits [] = true) : P.mayEnter = true := by
  unfold Program.mayEnter
  rw [h]
  simp only [strip_cut, h1, h2, h3]
  simp
theorem head_lifts_of (h : behindMainWord (wordsSigns P.initOrder.toList) = "cut".toList :: rest) : P.headLifts = [] := by
  unfold Program.headLifts
  rw [h, strip_cut]
  simp
theorem lifts_final_of (h : behindMainWord (wordsSigns P.initOrder.toList) = "cut".toList :: rest) : P.liftsFinal = false := by
  unfold Program.liftsFinal
  rw [h, head_lifts_of h]
  simp
theorem make_of (h : behindMainWord (wordsSigns P.initOrder.toList) = "cut".toList :: rest) : P.make = some .cut := by
  unfold Program.make
  rw [h]
  simp
end
theorem may_enter : Try.prog.mayEnter = true := head_behind.elim fun _ h => may_enter_of h lays_not reflect_not door_fits
theorem lifts_final : Try.prog.liftsFinal = false := head_behind.elim fun _ h => lifts_final_of h
theorem make_cut : Try.prog.make = some .cut := head_behind.elim fun _ h => make_of h

theorem joined_of {P : Program} {f : FuncId} {fn : Func} {s : ChangeSpec} {c : OpenClaim} (h : List.all [c.wf (OpenSpec.ofChange s), laidOutB P, mapsRowed P,
  fn.params.all (P.readableRec ·), namedTie P c.named s.vars, (c.stops == []), (P.stops == []), (c.knobs == []), (P.stopKnobs == [])] id = true)
  (h2 : (c.inPlace == P.inPlace f) = true) (h3 : (c.unfollowed == P.unfollowed f) = true) (h4 : (c.recurses == P.recurses f) = true) (h5 : (c.named == P.varsNamed f) = true)
  (h6 : List.all [(c.maps == (fn.params.toList ++ s.plain.varTypes P).any (P.mapsRec ·)), (c.ifaces == (fn.params.toList ++ s.plain.varTypes P).any (P.ifacesRec ·)), (c.mapsOut == P.mapsAmong fn.resultTypes.toList),
  (c.loops == (fn.params.toList ++ s.plain.varTypes P).any (P.loopsFrom ·)), (c.wideKeys == (fn.params.toList ++ s.plain.varTypes P ++ fn.resultTypes.toList).any (P.wideKeysFrom ·)),
  s.vars.all (P.varReadable ·), fn.resultTypes.all (fun t => P.readableRec t && decide (t < P.types.size)), (c.ifacesOut == fn.resultTypes.toList.any (P.ifacesRec ·)), (c.loopsOut == fn.resultTypes.toList.any (P.loopsFrom ·)),
  (c.plainKeys == P.plainKeys), c.shortTexts.isNone, P.stopsHeard] id = true)
  (h7 : P.mayEnter = true) (h8 : P.liftsFinal = false) (h8' : c.lifted = false) (h9 : P.make = some .cut) (h9' : c.make = .cut)
  (h10 : List.all [(c.kinds == (if c.domain.isEmpty then [] else fn.params.toList.map fun t => match P.underlying t with | some (.int k) => some k | _ => none)), (c.pinned == c.pinnedBy),
  (c.veiled == (fn.params.toList ++ s.plain.varTypes P ++ fn.resultTypes.toList).any (P.veiledRec ·)), c.veiledFits P fn.params.toList (fn.params.toList ++ s.plain.varTypes P ++ fn.resultTypes.toList)] id = true) : joinedFacts P f fn s c = true := by
  simp only [List.all_cons, List.all_nil, id, Bool.and_true, Bool.and_eq_true] at h h6 h10
  obtain ⟨a1, a2, a3, a4, a5, a6, a7, a8, a9⟩ := h
  obtain ⟨b1, b2, b3, b4, b5, b6, b7, b8, b9, b10, b11, b12⟩ := h6
  obtain ⟨c1, c2, c3, c4⟩ := h10
  unfold joinedFacts
  simp only [Bool.and_eq_true]
  exact ⟨⟨⟨⟨⟨⟨⟨⟨⟨⟨⟨⟨⟨⟨⟨⟨⟨⟨⟨⟨⟨⟨⟨⟨⟨⟨⟨⟨⟨⟨⟨a1, a2⟩, a3⟩, a4⟩, a5⟩, a6⟩, a7⟩, a8⟩, a9⟩, h2⟩, h3⟩, h4⟩, h5⟩, b1⟩, b2⟩, b3⟩, b4⟩, b5⟩, b6⟩, b7⟩, b8⟩, b9⟩, b10⟩, b11⟩, b12⟩, h7⟩, by rw [h8, h8']; rfl⟩, by rw [h9, h9']; rfl⟩, c1⟩, c2⟩, c3⟩, c4⟩
end Go.Proofs.Ytcgnalpcbcpmkaa
