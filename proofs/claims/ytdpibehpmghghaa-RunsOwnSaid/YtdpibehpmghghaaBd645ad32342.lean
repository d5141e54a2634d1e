/- Several texts in one: RoundsSpec, BfSpec, SnapSpec. -/
import Derived.Test.YtdpibehpmghghaaBdfe6ba06caf
import Derived.Test.YtdpibehpmghghaaBdc7e691d77d
/- FORD, BELLMAN, as plain Lean: what a round of a snapshot does to what is told; no program in sight. -/
namespace Go.Proofs.Ytdpibehpmghghaa

/-- In the midst of a round: T are the arcs that have been looked at. -/
structure RMid (A : Arc Nat → Prop) (init now d : Nat → Int) (T : Arc Nat → Prop) : Prop where
  le : ∀ i, d i ≤ now i
  above : Above A init d
  told : ∀ x, T x → d x.b ≤ x.f (now x.a)
theorem RMid.start {A : Arc Nat → Prop} {init now : Nat → Int} (h : Above A init now) : RMid A init now now (fun _ => False) := ⟨fun _ => Int.le_refl _, h, fun _ h => h.elim⟩
theorem RMid.step {A T : Arc Nat → Prop} {init now d : Nat → Int} (h : RMid A init now d T) (hn : Above A init now) {x : Arc Nat} (hx : A x) (hm : Mono x.f) : RMid A init now (upd d x.b (min (d x.b) (x.f (now x.a)))) (fun y => T y ∨ y = x) := by
  have hle : ∀ i, upd d x.b (min (d x.b) (x.f (now x.a))) i ≤ d i := fun i => by
    by_cases hi : i = x.b
    · subst hi; rw [upd_at]; omega
    · rw [upd_ne _ _ hi]; exact Int.le_refl _
  refine ⟨fun i => Int.le_trans (hle i) (h.le i), h.above.upd hn hx hm (Int.le_refl _), fun y hy => ?_⟩
  rcases hy with hy | rfl
  · exact Int.le_trans (hle _) (h.told y hy)
  · rw [upd_at]; omega
theorem RMid.mono {A T T' : Arc Nat → Prop} {init now d : Nat → Int} (h : RMid A init now d T) (ht : ∀ x, T' x → T x) : RMid A init now d T' := ⟨h.le, h.above, fun x hx => h.told x (ht x hx)⟩
/-- The arcs of the first j, perhaps either way round. -/
def ArcsT (s : SnapD) (wt : ArcD → Int) (back : Bool) (j : Nat) (x : Arc Nat) : Prop := ∃ a, a ∈ s.arcs.take j ∧ (x = arcF wt a ∨ back = true ∧ x = arcB wt a)
theorem arcsT_zero {s : SnapD} {wt : ArcD → Int} {back : Bool} (x : Arc Nat) (h : ArcsT s wt back 0 x) : False := by
  obtain ⟨a, ha, _⟩ := h
  simp at ha
theorem arcsT_succ {s : SnapD} {wt : ArcD → Int} {j : Nat} {y : ArcD} (hy : s.arcs[j]? = some y) (x : Arc Nat) (h : ArcsT s wt false (j + 1) x) : ArcsT s wt false j x ∨ x = arcF wt y := by
  obtain ⟨a, ha, he⟩ := h
  rw [List.take_add_one, hy] at ha
  rcases List.mem_append.1 ha with ha | ha
  · exact .inl ⟨a, ha, he⟩
  · obtain rfl : a = y := by simpa using ha
    rcases he with he | ⟨hf, _⟩
    · exact .inr he
    · simp at hf
theorem arcsT_back {s : SnapD} {wt : ArcD → Int} {j : Nat} {y : ArcD} (hy : s.arcs[j]? = some y) (x : Arc Nat) (h : ArcsT s wt true (j + 1) x) : (ArcsT s wt true j x ∨ x = arcF wt y) ∨ x = arcB wt y := by
  obtain ⟨a, ha, he⟩ := h
  rw [List.take_add_one, hy] at ha
  rcases List.mem_append.1 ha with ha | ha
  · exact .inl (.inl ⟨a, ha, he⟩)
  · obtain rfl : a = y := by simpa using ha
    rcases he with he | ⟨_, he⟩
    · exact .inl (.inr he)
    · exact .inr he
theorem arcsT_all {s : SnapD} {wt : ArcD → Int} {back : Bool} {j : Nat} (hj : s.arcs.length ≤ j) (x : Arc Nat) (h : ArcsP s wt back x) : ArcsT s wt back j x := by
  obtain ⟨a, ha, he⟩ := h
  exact ⟨a, by rw [List.take_of_length_le hj]; exact ha, he⟩
/-- The values of all of a program's rounds: not below nought, not above what was first. -/
theorem rounds_end {s : SnapD} {wt : ArcD → Int} {back : Bool} {init now d : Nat → Int} {j : Nat} (hle : ∀ i, now i ≤ init i) (hn : Above (ArcsP s wt back) init now) (h : RMid (ArcsP s wt back) init now d (ArcsT s wt back j)) (hj : s.arcs.length ≤ j) (he : d = now) : Best (ArcsP s wt back) init now :=
  ⟨⟨hle, fun x hx => by have := h.told x (arcsT_all hj x hx); rwa [he] at this⟩, hn⟩
def wtP (p : Int) (a : ArcD) : Int := if p = 1 then 1 else if p = 2 then a.cost else 0
theorem wtP_bound {s : SnapD} (hs : SnapOk s) (p : Int) : ∀ a, a ∈ s.arcs → 0 ≤ wtP p a ∧ wtP p a ≤ 1000 := fun a ha => by
  have := (hs.arcs a ha).c0
  have := (hs.arcs a ha).c1
  unfold wtP
  split
  · omega
  · split <;> omega
def begunD (s : SnapD) (p v : Int) : List Int := (List.range s.alive.length).map fun (k : Nat) => if s.alive[k]? = some true ∧ p = 3 then (k : Int) else if s.alive[k]? = some true ∧ (k : Int) = v then 0 else Far
theorem begun_label (s : SnapD) (v : Int) : begunD s 3 v = begunD s 3 0 := by
  unfold begunD
  refine List.map_congr_left fun k _ => ?_
  by_cases h : s.alive[k]? = some true <;> simp [h]
theorem begun_3 (s : SnapD) (v : Int) : begunD s 3 v = labelD s := by
  unfold begunD labelD
  refine List.map_congr_left fun k _ => ?_
  by_cases h : s.alive[k]? = some true <;> simp [h]
theorem begun_ways (s : SnapD) {p : Int} (hp : p ≠ 3) (v : Int) : begunD s p v = startD s v := by
  unfold begunD startD
  refine List.map_congr_left fun k _ => ?_
  rw [if_neg (fun h => hp h.2)]
theorem begun_big (s : SnapD) (hn : s.alive.length ≤ 12) (p v : Int) (i : Nat) : gi (begunD s p v) i ≤ Far := by
  by_cases hp : p = 3
  · rw [hp, begun_3]; exact label_big s hn i
  · rw [begun_ways s hp]; exact start_big s v i
theorem begun_pos (s : SnapD) (p v : Int) (i : Nat) : 0 ≤ gi (begunD s p v) i := by
  by_cases hp : p = 3
  · rw [hp, begun_3]; exact label_pos s i
  · rw [begun_ways s hp]; exact start_pos s v i
theorem begun_len (s : SnapD) (p v : Int) : (begunD s p v).length = s.alive.length := by simp [begunD]
theorem arcsP_up {s : SnapD} {wt : ArcD → Int} {back : Bool} (hwt : ∀ a, a ∈ s.arcs → 0 ≤ wt a) : ∀ x, ArcsP s wt back x → 0 ≤ x.f 0 := by
  rintro x ⟨a, ha, rfl | ⟨_, rfl⟩⟩ <;> (have := hwt a ha; simp only [arcF, arcB]; omega)
end Go.Proofs.Ytdpibehpmghghaa
/- Rounds of FORD and BELLMAN, all at once: how many there can be, what they end in; no program in sight. -/
namespace Go.Proofs.Ytdpibehpmghghaa

/-- One round. -/
structure Bf (A : Arc Nat → Prop) (d e : Nat → Int) : Prop where
  le : ∀ v, e v ≤ d v
  arc : ∀ x, A x → e x.b ≤ x.f (d x.a)
  from_ : ∀ v, e v = d v ∨ ∃ x, A x ∧ x.b = v ∧ e v = x.f (d x.a)
theorem Bf.eq {A : Arc Nat → Prop} {d e e' : Nat → Int} (h : Bf A d e) (k : Bf A d e') : e = e' := by
  have key : ∀ {e e' : Nat → Int}, Bf A d e → Bf A d e' → ∀ v, e v ≤ e' v := fun {e e'} h k v => by
    rcases k.from_ v with h1 | ⟨x, hx, rfl, h1⟩
    · rw [h1]; exact h.le v
    · rw [h1]; exact h.arc x hx
  exact funext fun v => Int.le_antisymm (key h k v) (key k h v)
/-- So many rounds. -/
inductive BfN (A : Arc Nat → Prop) (init : Nat → Int) : Nat → (Nat → Int) → Prop
  | zero : BfN A init 0 init
  | succ {k : Nat} {d e : Nat → Int} : BfN A init k d → Bf A d e → BfN A init (k + 1) e
section
variable {A : Arc Nat → Prop} {init d e d' : Nat → Int} {k m n : Nat}
theorem BfN.eq (h : BfN A init k d) : ∀ {d' : Nat → Int}, BfN A init k d' → d = d' := by
  induction h with
  | zero => intro d' h'; cases h'; rfl
  | succ h hb ih =>
    intro d' h'
    cases h' with
    | succ h' hb' =>
      obtain rfl := ih h'
      exact hb.eq hb'
theorem BfN.le (h : BfN A init k d) : ∀ v, d v ≤ init v := by
  induction h with
  | zero => intro v; exact Int.le_refl _
  | succ h hb ih => intro v; exact Int.le_trans (hb.le v) (ih v)
theorem Above.bf (hm : ∀ x, A x → Mono x.f) (h : Above A init d) (hb : Bf A d e) : Above A init e := fun s hs v => by
  rcases hb.from_ v with h1 | ⟨x, hx, rfl, h1⟩
  · rw [h1]; exact h s hs v
  · rw [h1]; exact Int.le_trans (hs.2 x hx) (hm x hx _ _ (h s hs x.a))
theorem BfN.above (hm : ∀ x, A x → Mono x.f) (h : BfN A init k d) : Above A init d := by
  induction h with
  | zero => exact above_init
  | succ h hb ih => exact ih.bf hm hb
/-- Where nothing is less any more, it is the greatest solution. -/
theorem BfN.best (hm : ∀ x, A x → Mono x.f) (h : BfN A init k d) (hs : Bf A d d) : Best A init d := ⟨⟨h.le, hs.arc⟩, h.above hm⟩
theorem BfN.stay (h : BfN A init k d) (hs : Bf A d d) : ∀ {m : Nat}, k ≤ m → BfN A init m d
  | 0, hk => by obtain rfl : k = 0 := by omega
                exact h
  | m + 1, hk => by
    rcases Nat.lt_or_ge m k with h1 | h1
    · obtain rfl : k = m + 1 := by omega
      exact h
    · exact .succ (BfN.stay h hs h1) hs
/-- A first place where nothing is less comes no later than any. -/
theorem BfN.first (h : BfN A init k d) (hs : Bf A d d) (h' : BfN A init m d') (hd : m = 0 ∨ ∃ p c, m = p + 1 ∧ BfN A init p c ∧ c ≠ d') : m ≤ k := by
  refine Classical.byContradiction fun hn => ?_
  rcases hd with rfl | ⟨p, c, rfl, hc, hne⟩
  · omega
  · have h1 := BfN.stay h hs (show k ≤ p by omega)
    have h2 := BfN.stay h hs (show k ≤ p + 1 by omega)
    exact hne (by rw [hc.eq h1, h'.eq h2])
/-- Arcs that add. -/
def Adds (A : Arc Nat → Prop) (n : Nat) : Prop := ∀ x, A x → x.a < n ∧ x.b < n ∧ ∃ c : Int, 0 ≤ c ∧ c ≤ 1000 ∧ x.f = fun t => t + c
theorem Adds.mono (h : Adds A n) : ∀ x, A x → Mono x.f := fun x hx => by
  obtain ⟨_, _, c, _, _, e⟩ := h x hx
  rw [e]; exact mono_add c
theorem Adds.best (h : Adds A n) (h0 : ∀ v, 0 ≤ init v) : ∃ b, Best A init b := Best.ex h.mono ⟨fun _ => 0, h0, fun x hx => by
  obtain ⟨_, _, c, h1, _, e⟩ := h x hx
  rw [e]; simp only; omega⟩
/-- As long as something is less, one more has its best each round. -/
theorem bf_tight (hA : Adds A n) {b : Nat → Int} (hb : Best A init b) (hle : ∀ v, d v ≤ init v) (hab : Above A init d) (hne : ∃ v, v < n ∧ d v ≠ b v) : ∃ x, A x ∧ d x.a = b x.a ∧ d x.b ≠ b x.b ∧ b x.b = x.f (b x.a) := by
  refine Classical.byContradiction fun hn => ?_
  have hn' : ∀ x, A x → d x.a = b x.a → d x.b ≠ b x.b → b x.b ≠ x.f (b x.a) := fun x h1 h2 h3 h4 => hn ⟨x, h1, h2, h3, h4⟩
  have hdb : ∀ v, b v ≤ d v := hab b hb.1
  let e : Nat → Int := fun v => if v < n ∧ d v ≠ b v then b v + 1 else b v
  have he : Sol A init e := by
    refine ⟨fun v => ?_, fun x hx => ?_⟩
    · show (if v < n ∧ d v ≠ b v then b v + 1 else b v) ≤ init v
      split
      · next h => have := hdb v; have := hle v; omega
      · exact hb.1.1 v
    · obtain ⟨h1, h2, c, _, _, ef⟩ := hA x hx
      have h3 := hb.1.2 x hx
      have h4 := hn' x hx
      show (if x.b < n ∧ d x.b ≠ b x.b then b x.b + 1 else b x.b) ≤ x.f (if x.a < n ∧ d x.a ≠ b x.a then b x.a + 1 else b x.a)
      rw [ef] at h3 h4 ⊢
      simp only at h3 h4 ⊢
      by_cases ha : d x.a = b x.a
      · rw [if_neg (show ¬ (x.a < n ∧ d x.a ≠ b x.a) from fun h => h.2 ha)]
        split
        · next h => have := h4 ha h.2; omega
        · exact h3
      · rw [if_pos (show x.a < n ∧ d x.a ≠ b x.a from ⟨h1, ha⟩)]
        split <;> omega
  obtain ⟨v, hv, hvn⟩ := hne
  have := hb.2 e he v
  have h5 : e v = b v + 1 := if_pos ⟨hv, hvn⟩
  omega
theorem BfN.count (hA : Adds A n) {b : Nat → Int} (hb : Best A init b) (h : BfN A init k d) : (∀ v, v < n → d v = b v) ∨ k ≤ (List.range n).countP fun v => decide (d v = b v) := by
  induction h with
  | zero => exact .inr (Nat.zero_le _)
  | @succ k d e h hs ih =>
    by_cases hall : ∀ v, v < n → e v = b v
    · exact .inl hall
    · refine .inr ?_
      have hae := (h.above hA.mono).bf hA.mono hs b hb.1
      have hle := h.le
      have hnd : ∃ v, v < n ∧ d v ≠ b v := by
        refine Classical.byContradiction fun hn => hall fun v hv => ?_
        have h1 : d v = b v := Classical.byContradiction fun h2 => hn ⟨v, hv, h2⟩
        have h2 := hs.le v
        have h3 := hae v
        omega
      have ih' : k ≤ (List.range n).countP fun v => decide (d v = b v) := by
        rcases ih with h1 | h1
        · obtain ⟨v, hv, hvn⟩ := hnd
          exact absurd (h1 v hv) hvn
        · exact h1
      obtain ⟨x, hx, hxa, hxb, hxt⟩ := bf_tight hA hb hle (h.above hA.mono) hnd
      have hmore := count_more (p := fun v => decide (d v = b v)) (q := fun v => decide (e v = b v)) (fun u hu => by
        simp only [decide_eq_true_eq] at hu ⊢
        have h2 := hs.le u
        have h3 := hae u
        omega) (List.range n) ⟨x.b, List.mem_range.2 (hA x hx).2.1, by
          simp only [decide_eq_true_eq]
          have h2 := hs.arc x hx
          have h3 := hae x.b
          rw [hxa, ← hxt] at h2
          omega, by simpa using hxb⟩
      omega
/-- If something gets less in a round, there were fewer rounds than vertices. -/
theorem BfN.few (hA : Adds A n) (h0 : ∀ v, 0 ≤ init v) (h : BfN A init k d) (hs : Bf A d e) {v : Nat} (hv : e v ≠ d v) : k + 1 ≤ n := by
  obtain ⟨b, hb⟩ := hA.best h0
  have hae := (h.above hA.mono).bf hA.mono hs b hb.1
  have hvn : v < n := by
    rcases hs.from_ v with h1 | ⟨x, hx, rfl, _⟩
    · exact absurd h1 hv
    · exact (hA x hx).2.1
  have hvb : d v ≠ b v := fun h1 => by
    have h2 := hs.le v
    have h3 := hae v
    omega
  rcases h.count hA hb with h1 | h1
  · exact absurd (h1 v hvn) hvb
  · have h2 := count_more (p := fun v => decide (d v = b v)) (q := fun _ => true) (fun _ _ => rfl) (List.range n) ⟨v, List.mem_range.2 hvn, rfl, by simpa using hvb⟩
    have h3 : (List.range n).countP (fun _ => true) ≤ n := by
      have := List.countP_le_length (p := fun _ : Nat => true) (l := List.range n)
      simp at this ⊢
    omega
/-- How much there can be. -/
theorem BfN.bound (hA : Adds A n) (h0 : ∀ v, 0 ≤ init v ∧ (init v = Far ∨ init v ≤ 12)) (h : BfN A init k d) : ∀ v, 0 ≤ d v ∧ (d v = Far ∨ d v ≤ 12 + 1000 * k) := by
  induction h with
  | zero => intro v; have := h0 v; omega
  | @succ k d e h hs ih =>
    intro v
    rcases hs.from_ v with h1 | ⟨x, hx, rfl, h1⟩
    · rw [h1]; have := ih v; omega
    · obtain ⟨_, _, c, hc0, hc1, ef⟩ := hA x hx
      have h2 := ih x.a
      have h3 := ih x.b
      have h4 := hs.le x.b
      rw [ef] at h1
      simp only at h1
      unfold Far at *
      omega
end
end Go.Proofs.Ytdpibehpmghghaa
/- The snapshot of a time, as plain lists. -/
namespace Go.Proofs.Ytdpibehpmghghaa
open Go.RowKit

def snapL (g : GraphD) (t : Int) : List Bool := (List.range g.lives.length).map fun (k : Nat) => aliveB g (k : Int) t
/-- The arc that an edge is at a time; or none. -/
def arcOf (g : GraphD) (t : Int) (x : EdgeD) : List ArcD := match leaves t x.legs with
  | some l => if aliveB g x.a t = true ∧ aliveB g x.b t = true then [⟨x.a, x.b, l.cost⟩] else []
  | none => []
def arcsL (g : GraphD) (t : Int) (l : List EdgeD) : List ArcD := l.flatMap (arcOf g t)
def snapD (g : GraphD) (t : Int) : SnapD := ⟨snapL g t, arcsL g t g.edges⟩
def atErr (g : GraphD) (t : Int) : Int := if graphErr g = 0 then (if 0 ≤ t ∧ t ≤ g.h - 1 then 0 else 1) else graphErr g
def atD (g : GraphD) (t : Int) : SnapD := if atErr g t = 0 then snapD g t else ⟨[], []⟩
theorem snapL_len (g : GraphD) (t : Int) : (snapL g t).length = g.lives.length := by simp [snapL]
theorem snapL_get {g : GraphD} {t : Int} {k : Nat} (h : k < g.lives.length) : (snapL g t)[k]? = some (aliveB g k t) := by simp [snapL, h]
theorem snapL_at {g : GraphD} {t v : Int} (h0 : 0 ≤ v) (h : v < g.lives.length) : (snapL g t)[v.toNat]? = some (aliveB g v t) := by
  rw [snapL_get (by omega), Int.toNat_of_nonneg h0]
theorem snapL_take {g : GraphD} {t : Int} {k : Nat} (h : k < g.lives.length) : (snapL g t).take (k + 1) = (snapL g t).take k ++ [aliveB g k t] := by
  rw [List.take_add_one, snapL_get h]; rfl
theorem snapL_end {g : GraphD} {t : Int} {k : Nat} (h : g.lives.length ≤ k) : (snapL g t).take k = snapL g t := List.take_of_length_le (by rw [snapL_len]; exact h)
theorem arcOf_no {g : GraphD} {t : Int} {x : EdgeD} (h : leaves t x.legs = none) : arcOf g t x = [] := by simp [arcOf, h]
theorem arcOf_a {g : GraphD} {t : Int} {x : EdgeD} (h : aliveB g x.a t = false) : arcOf g t x = [] := by
  unfold arcOf; split <;> simp [h]
theorem arcOf_b {g : GraphD} {t : Int} {x : EdgeD} (h : aliveB g x.b t = false) : arcOf g t x = [] := by
  unfold arcOf; split <;> simp [h]
theorem arcOf_yes {g : GraphD} {t : Int} {x : EdgeD} {l : LegD} (h : leaves t x.legs = some l) (ha : aliveB g x.a t = true) (hb : aliveB g x.b t = true) : arcOf g t x = [⟨x.a, x.b, l.cost⟩] := by simp [arcOf, h, ha, hb]
theorem arcsL_snoc (g : GraphD) (t : Int) {l : List EdgeD} {j : Nat} {x : EdgeD} (h : l[j]? = some x) : arcsL g t (l.take (j + 1)) = arcsL g t (l.take j) ++ arcOf g t x := by
  rw [List.take_add_one, h]; simp [arcsL]
theorem arcsL_mem {g : GraphD} {t : Int} {l : List EdgeD} {y : ArcD} (h : y ∈ arcsL g t l) : ∃ x lg, x ∈ l ∧ leaves t x.legs = some lg ∧ lg ∈ x.legs ∧ aliveB g x.a t = true ∧ aliveB g x.b t = true ∧ y = ⟨x.a, x.b, lg.cost⟩ := by
  simp only [arcsL, List.mem_flatMap] at h
  obtain ⟨x, hx, hy⟩ := h
  unfold arcOf at hy
  split at hy
  · rename_i lg hl
    split at hy
    · rename_i hab
      exact ⟨x, lg, hx, hl, (leaves_mem hl).1, hab.1, hab.2, by simpa using hy⟩
    · simp at hy
  · simp at hy
theorem atD_0 {g : GraphD} {t : Int} (h : atErr g t = 0) : atD g t = snapD g t := by unfold atD; rw [if_pos h]
theorem atD_no {g : GraphD} {t : Int} (h : ¬ atErr g t = 0) : atD g t = ⟨[], []⟩ := by unfold atD; rw [if_neg h]
end Go.Proofs.Ytdpibehpmghghaa
