/- Several texts in one: BspSpec, BspMem, BspMore. -/
import Derived.Test.YtjcimdpldlamfaaGreatDoorBd1aa46607c4
import Derived.Test.YtjcimdpldlamfaaGreatDoorBd2f7b3eaff4
import Derived.Test.YtjcimdpldlamfaaGreatDoorBd1f92171eeb
import Derived.Test.YtjcimdpldlamfaaGreatDoorBd3677bc1331
import Derived.Test.YtjcimdpldlamfaaGreatDoorBdda32f21b61
/- All times at once (bsp): mail, rounds, and what a run tells; no program in sight. -/
namespace Go.Proofs.YtjcimdpldlamfaaGreatDoor

/-! ### mail -/
def moreL (p : Int) (l : LegD) : Int := if p = 1 then 1 else if p = 2 then l.cost else 0
def msgOf (p : Int) (life : IvlD) (l : LegD) (q : PieceD) : PieceD := ⟨max (max q.f l.f) life.f, min (min q.t l.t) life.t, q.v + moreL p l⟩
def tellOf (p : Int) (life : IvlD) (l : LegD) (q : PieceD) : List PieceD := if (msgOf p life l q).f < (msgOf p life l q).t then [msgOf p life l q] else []
def alongL (p : Int) (life : IvlD) (legs : List LegD) (fresh : List PieceD) : List PieceD := legs.flatMap fun l => fresh.flatMap (tellOf p life l)
/-- Mail to a vertex. -/
abbrev MailD := Int × PieceD
def lifeOf (g : GraphD) (v : Int) : IvlD := (g.lives[v.toNat]?).getD ⟨0, 0⟩
def freshOf (F : List (List PieceD)) (v : Int) : List PieceD := (F[v.toNat]?).getD []
def sendA (g : GraphD) (p : Int) (F : List (List PieceD)) (x : EdgeD) : List MailD := (alongL p (lifeOf g x.b) x.legs (freshOf F x.a)).map (Prod.mk x.b)
def sendB (g : GraphD) (p : Int) (F : List (List PieceD)) (x : EdgeD) : List MailD := (alongL p (lifeOf g x.a) x.legs (freshOf F x.b)).map (Prod.mk x.a)
def sendE (g : GraphD) (p : Int) (F : List (List PieceD)) (x : EdgeD) : List MailD := sendA g p F x ++ if p = 3 then sendB g p F x else []
def sendL (g : GraphD) (p : Int) (F : List (List PieceD)) : List MailD := g.edges.flatMap (sendE g p F)
def boxL (ms : List MailD) (v : Int) : List PieceD := (ms.filter fun m => decide (m.1 = v)).map Prod.snd
section
variable {p v t : Int} {g : GraphD} {F : List (List PieceD)} {x : EdgeD} {q m : PieceD} {l : LegD} {life : IvlD} {legs : List LegD} {fresh : List PieceD}
theorem mem_along : m ∈ alongL p life legs fresh ↔ ∃ l q, l ∈ legs ∧ q ∈ fresh ∧ m = msgOf p life l q ∧ m.f < m.t := by
 unfold alongL
 constructor
 ·intro h
  obtain ⟨l, hl, h⟩ := List.mem_flatMap.1 h
  obtain ⟨q, hq, h⟩ := List.mem_flatMap.1 h
  unfold tellOf at h
  split at h
  ·next hc =>
   obtain rfl : m = _ := by simpa using h
   exact ⟨l, q, hl, hq, rfl, hc⟩
  ·simp at h
 ·rintro ⟨l, q, hl, hq, rfl, hc⟩
  refine List.mem_flatMap.2 ⟨l, hl, List.mem_flatMap.2 ⟨q, hq, ?_⟩⟩
  unfold tellOf
  rw [if_pos hc]
  simp
theorem along_len (p : Int) (life : IvlD) (fresh : List PieceD) : ∀ legs : List LegD, (alongL p life legs fresh).length ≤ legs.length * fresh.length
 | [] => by simp [alongL]
 | l :: legs => by
  have ih := along_len p life fresh legs
  have e : alongL p life (l :: legs) fresh = fresh.flatMap (tellOf p life l) ++ alongL p life legs fresh := rfl
  have h1 : ∀ fr : List PieceD, (fr.flatMap (tellOf p life l)).length ≤ fr.length := fun fr => by
   induction fr with
   | nil => simp
   | cons q fr ih2 =>
    rw [List.flatMap_cons, List.length_append, List.length_cons]
    have : (tellOf p life l q).length ≤ 1 := by unfold tellOf; split <;> simp
    omega
  have := h1 fresh
  rw [e, List.length_append, List.length_cons, Nat.succ_mul]
  omega
theorem mem_box {ms : List MailD} : m ∈ boxL ms v ↔ (v, m) ∈ ms := by
 unfold boxL
 simp only [List.mem_map, List.mem_filter, decide_eq_true_eq]
 constructor
 ·rintro ⟨⟨a, b⟩, ⟨h1, h2⟩, h3⟩
  simp only at h2 h3
  subst h2 h3
  exact h1
 ·intro h
  exact ⟨(v, m), ⟨h, rfl⟩, rfl⟩
theorem mem_send {ml : MailD} : ml ∈ sendL g p F ↔ ∃ x, x ∈ g.edges ∧ ((ml.1 = x.b ∧ ml.2 ∈ alongL p (lifeOf g x.b) x.legs (freshOf F x.a)) ∨ (p = 3 ∧ ml.1 = x.a ∧ ml.2 ∈ alongL p (lifeOf g x.a) x.legs (freshOf F x.b))) := by
 unfold sendL
 rw [List.mem_flatMap]
 refine exists_congr fun x => and_congr_right fun _ => ?_
 unfold sendE sendA sendB
 rw [List.mem_append, List.mem_map]
 constructor
 ·rintro (⟨m, hm, rfl⟩ | h)
  ·exact .inl ⟨rfl, hm⟩
  ·split at h
   ·next h3 =>
    obtain ⟨m, hm, rfl⟩ := List.mem_map.1 h
    exact .inr ⟨h3, rfl, hm⟩
   ·simp at h
 ·rintro (⟨h1, h2⟩ | ⟨h3, h1, h2⟩)
  ·exact .inl ⟨ml.2, h2, by rw [← h1]⟩
  ·refine .inr ?_
   rw [if_pos h3, List.mem_map]
   exact ⟨ml.2, h2, by rw [← h1]⟩
end

/-! ### rounds -/
def dAt (sts : List (List PieceD)) (t : Int) : Nat → Int := gi (sts.map fun m => val m t)
def arcsAt (g : GraphD) (p t : Int) : Arc Nat → Prop := ArcsP (snapD g t) (wtP p) (decide (p = 3))
def initAt (g : GraphD) (p v t : Int) : Nat → Int := gi (begunD (snapD g t) p v)
/-- All maps, and what of them is new. -/
structure States (g : GraphD) (sts F : List (List PieceD)) (was : Nat → Int → Int) : Prop where
 len : sts.length = g.lives.length
 lenF : F.length = g.lives.length
 lies : ∀ m, m ∈ sts → Lies g.h m
 alive : ∀ (v : Nat) m, sts[v]? = some m → ∀ t, atM m t ≠ none → aliveB g v t = true
 fresh : ∀ (v : Nat) m f, sts[v]? = some m → F[v]? = some f → FreshIs g.h m (was v) f
section
variable {p v t : Int} {k : Nat} {g : GraphD} {sts F sts' : List (List PieceD)} {was : Nat → Int → Int}
theorem dAt_of {m : List PieceD} {i : Nat} (h : sts[i]? = some m) : dAt sts t i = val m t := gi_of (by simp [h])
theorem dAt_far {i : Nat} (h : sts.length ≤ i) : dAt sts t i = 0 := gi_far (by simpa using h)
theorem fresh_of {f : List PieceD} {a : Int} {i : Nat} (h0 : 0 ≤ a) (ha : a.toNat = i) (h : F[i]? = some f) : freshOf F a = f := by unfold freshOf; rw [ha, h]; rfl
theorem life_of {x : IvlD} {a : Int} (h : g.lives[a.toNat]? = some x) : lifeOf g a = x := by unfold lifeOf; rw [h]; rfl
theorem life_alive {a : Int} (hV : Valid g) (h0 : 0 ≤ a) (h1 : a < g.lives.length) : ∃ x, g.lives[a.toNat]? = some x ∧ lifeOf g a = x ∧ (0 ≤ x.f ∧ x.f < x.t ∧ x.t ≤ g.h) ∧ ∀ t, aliveB g a t = decide (x.f ≤ t ∧ t < x.t) := by
 obtain ⟨x, hx⟩ := get_lt (show a.toNat < g.lives.length by omega)
 exact ⟨x, hx, life_of hx, hV.lives x (List.mem_of_getElem? hx), fun t => aliveB_of hx⟩
theorem wt_more (p a b : Int) (l : LegD) : wtP p ⟨a, b, l.cost⟩ = moreL p l := by unfold wtP moreL; rfl
/-- Each message comes along an arc, from what is new. -/
theorem States.mail (hS : States g sts F was) (hV : Valid g) {ml : MailD} (hm : ml ∈ sendL g p F) : (0 ≤ ml.1 ∧ ml.1 < g.lives.length) ∧ ml.2.f < ml.2.t ∧ ∀ t, ml.2.f ≤ t → t < ml.2.t →
  (∃ a, arcsAt g p t a ∧ a.b = ml.1.toNat ∧ ml.2.v = a.f (dAt sts t a.a) ∧ dAt sts t a.a ≤ 100000 ∧ 0 ≤ dAt sts t a.a ∧ ∃ c : Int, 0 ≤ c ∧ c ≤ 1000 ∧ a.f = fun t => t + c) ∧ (0 ≤ t ∧ t < g.h) ∧ aliveB g ml.1 t = true := by
 obtain ⟨to, m⟩ := ml
 obtain ⟨x, hx, hm⟩ := mem_send.1 hm
 have hE := hV.edges x hx
 have key : ∀ (a b : Int), 0 ≤ a ∧ a < g.lives.length → 0 ≤ b ∧ b < g.lives.length → m ∈ alongL p (lifeOf g b) x.legs (freshOf F a) → m.f < m.t ∧ ∀ t, m.f ≤ t → t < m.t →
   ∃ l, leaves t x.legs = some l ∧ l ∈ x.legs ∧ aliveB g a t = true ∧ aliveB g b t = true ∧ m.v = dAt sts t a.toNat + moreL p l ∧ dAt sts t a.toNat ≤ 100000 ∧ 0 ≤ dAt sts t a.toNat ∧ (0 ≤ t ∧ t < g.h) := fun a b ha hb hma => by
  obtain ⟨l, q, hl, hq, rfl, hlt⟩ := mem_along.1 hma
  refine ⟨hlt, fun t h1 h2 => ?_⟩
  obtain ⟨xb, _, hlb, hxb, hab⟩ := life_alive hV hb.1 hb.2
  obtain ⟨sa, hsa⟩ := get_lt (show a.toNat < sts.length by rw [hS.len]; omega)
  obtain ⟨fa, hfa⟩ := get_lt (show a.toNat < F.length by rw [hS.lenF]; omega)
  rw [fresh_of ha.1 rfl hfa] at hq
  have hfr := hS.fresh a.toNat sa fa hsa hfa
  rw [hlb] at h1 h2
  simp only [msgOf] at h1 h2
  have hqt := hfr.tells q hq t (by omega) (by omega)
  have hqi := hfr.in_ q hq
  have hlg := hE.legs l hl
  refine ⟨l, leaves_of x.legs none hE.err l hl (by omega) (by omega), hl, ?_, ?_, ?_, ?_, ?_, by omega, by omega⟩
  ·have := hS.alive a.toNat sa hsa t (fun hn => by
    have h3 := val_none hn
    rw [hqt.1] at h3
    have := hqi.2
    unfold Far at h3
    omega)
   rwa [Int.toNat_of_nonneg ha.1] at this
  ·rw [hab]; simp; omega
  ·rw [dAt_of hsa, hqt.1]; rfl
  ·rw [dAt_of hsa, hqt.1]; exact hqi.2.2
  ·rw [dAt_of hsa, hqt.1]; exact hqi.2.1
 have hmore : ∀ l, l ∈ x.legs → 0 ≤ moreL p l ∧ moreL p l ≤ 1000 := fun l hl => by
  have := hE.legs l hl
  unfold moreL
  split
  ·omega
  ·split <;> omega
 have harc : ∀ t l, leaves t x.legs = some l → aliveB g x.a t = true → aliveB g x.b t = true → (⟨x.a, x.b, l.cost⟩ : ArcD) ∈ (snapD g t).arcs := fun t l h1 h2 h3 => by
  show _ ∈ arcsL g t g.edges
  unfold arcsL
  exact List.mem_flatMap.2 ⟨x, hx, by rw [arcOf_yes h1 h2 h3]; simp⟩
 rcases hm with ⟨rfl, hm⟩ | ⟨hp3, rfl, hm⟩
 ·obtain ⟨h1, h2⟩ := key x.a x.b ⟨hE.a0, hE.a1⟩ ⟨hE.b0, hE.b1⟩ hm
  refine ⟨⟨hE.b0, hE.b1⟩, h1, fun t k1 k2 => ?_⟩
  obtain ⟨l, n1, n2, n3, n4, n5, n6, n7, n8⟩ := h2 t k1 k2
  refine ⟨⟨arcF (wtP p) ⟨x.a, x.b, l.cost⟩, ⟨_, harc t l n1 n3 n4, .inl rfl⟩, rfl, ?_, n6, n7, moreL p l, (hmore l n2).1, (hmore l n2).2, ?_⟩, n8, n4⟩
  ·show m.v = dAt sts t x.a.toNat + wtP p _
   rw [wt_more]; exact n5
  ·show (fun t => t + wtP p _) = _
   rw [wt_more]
 ·obtain ⟨h1, h2⟩ := key x.b x.a ⟨hE.b0, hE.b1⟩ ⟨hE.a0, hE.a1⟩ hm
  refine ⟨⟨hE.a0, hE.a1⟩, h1, fun t k1 k2 => ?_⟩
  obtain ⟨l, n1, n2, n3, n4, n5, n6, n7, n8⟩ := h2 t k1 k2
  refine ⟨⟨arcB (wtP p) ⟨x.a, x.b, l.cost⟩, ⟨_, harc t l n1 n4 n3, .inr ⟨by simp [hp3], rfl⟩⟩, rfl, ?_, n6, n7, moreL p l, (hmore l n2).1, (hmore l n2).2, ?_⟩, n8, n4⟩
  ·show m.v = dAt sts t x.b.toNat + wtP p _
   rw [wt_more]; exact n5
  ·show (fun t => t + wtP p _) = _
   rw [wt_more]
/-- And along each arc what is new is told. -/
theorem States.told (hS : States g sts F was) (hV : Valid g) {a : Arc Nat} (ha : arcsAt g p t a) (hf : dAt sts t a.a < was a.a t) : ∃ m, ((a.b : Int), m) ∈ sendL g p F ∧ inP m t = true ∧ m.v = a.f (dAt sts t a.a) := by
 obtain ⟨y, hy, hab⟩ := ha
 obtain ⟨x, l, hx, hl, hlm, haa, hbb, rfl⟩ := arcsL_mem hy
 have hE := hV.edges x hx
 have hlt := (leaves_mem hl).2
 have key : ∀ (a b : Int), 0 ≤ a ∧ a < g.lives.length → 0 ≤ b ∧ b < g.lives.length → aliveB g b t = true → dAt sts t a.toNat < was a.toNat t →
   ∃ m, m ∈ alongL p (lifeOf g b) x.legs (freshOf F a) ∧ inP m t = true ∧ m.v = dAt sts t a.toNat + moreL p l := fun a b ha hb hbt hfr => by
  obtain ⟨xb, _, hlb, hxb, hab⟩ := life_alive hV hb.1 hb.2
  obtain ⟨sa, hsa⟩ := get_lt (show a.toNat < sts.length by rw [hS.len]; omega)
  obtain ⟨fa, hfa⟩ := get_lt (show a.toNat < F.length by rw [hS.lenF]; omega)
  rw [dAt_of hsa] at hfr ⊢
  obtain ⟨q, hq, q1, q2⟩ := (hS.fresh a.toNat sa fa hsa hfa).all t hfr
  have hqt := (hS.fresh a.toNat sa fa hsa hfa).tells q hq t q1 q2
  rw [hab] at hbt
  have hbt : xb.f ≤ t ∧ t < xb.t := by simpa using hbt
  refine ⟨msgOf p (lifeOf g b) l q, mem_along.2 ⟨l, q, hlm, by rw [fresh_of ha.1 rfl hfa]; exact hq, rfl, ?_⟩, ?_, ?_⟩
  ·rw [hlb]; simp only [msgOf]; omega
  ·rw [hlb]
   have h1 : (msgOf p xb l q).f ≤ t := by simp only [msgOf]; omega
   have h2 : t < (msgOf p xb l q).t := by simp only [msgOf]; omega
   simp [inP, h1, h2]
  ·rw [hqt.1]; rfl
 rcases hab with rfl | ⟨hp3, rfl⟩
 ·obtain ⟨m, h1, h2, h3⟩ := key x.a x.b ⟨hE.a0, hE.a1⟩ ⟨hE.b0, hE.b1⟩ hbb hf
  refine ⟨m, mem_send.2 ⟨x, hx, .inl ⟨?_, h1⟩⟩, h2, ?_⟩
  ·show ((x.b.toNat : Nat) : Int) = x.b
   exact Int.toNat_of_nonneg hE.b0
  ·show m.v = dAt sts t x.a.toNat + wtP p _
   rw [wt_more]; exact h3
 ·obtain ⟨m, h1, h2, h3⟩ := key x.b x.a ⟨hE.b0, hE.b1⟩ ⟨hE.a0, hE.a1⟩ haa hf
  refine ⟨m, mem_send.2 ⟨x, hx, .inr ⟨by simpa using hp3, ?_, h1⟩⟩, h2, ?_⟩
  ·show ((x.a.toNat : Nat) : Int) = x.a
   exact Int.toNat_of_nonneg hE.a0
  ·show m.v = dAt sts t x.b.toNat + wtP p _
   rw [wt_more]; exact h3
/-- What was, before the last round. -/
def Was (g : GraphD) (p : Int) (sts : List (List PieceD)) (was : Nat → Int → Int) : Prop := (∀ v t, was v t = Far) ∨ ∀ t, Bf (arcsAt g p t) (fun v => was v t) (dAt sts t)
theorem arcs_in (hV : Valid g) {a : Arc Nat} (ha : arcsAt g p t a) : a.a < g.lives.length ∧ a.b < g.lives.length ∧ ∃ c : Int, 0 ≤ c ∧ c ≤ 1000 ∧ a.f = fun t => t + c := by
 obtain ⟨y, hy, hab⟩ := ha
 obtain ⟨x, l, hx, hl, hlm, _, _, rfl⟩ := arcsL_mem hy
 have hE := hV.edges x hx
 have h1 := hE.a0; have h2 := hE.a1; have h3 := hE.b0; have h4 := hE.b1
 have hmore : 0 ≤ moreL p l ∧ moreL p l ≤ 1000 := by
  have := hE.legs l hlm
  unfold moreL
  split
  ·omega
  ·split <;> omega
 rcases hab with rfl | ⟨_, rfl⟩
 ·refine ⟨by show x.a.toNat < _; omega, by show x.b.toNat < _; omega, moreL p l, hmore.1, hmore.2, ?_⟩
  show (fun t => t + wtP p _) = _
  rw [wt_more]
 ·refine ⟨by show x.b.toNat < _; omega, by show x.a.toNat < _; omega, moreL p l, hmore.1, hmore.2, ?_⟩
  show (fun t => t + wtP p _) = _
  rw [wt_more]
theorem adds (hV : Valid g) (p t : Int) : Adds (arcsAt g p t) g.lives.length := fun _ ha => arcs_in hV ha
theorem States.dAt_cases (hS : States g sts F was) (v : Nat) : dAt sts t v = Far ∨ (0 ≤ dAt sts t v ∧ dAt sts t v ≤ 100000) := by
 rcases Nat.lt_or_ge v sts.length with h | h
 ·obtain ⟨m, hm⟩ := get_lt h
  rw [dAt_of hm]
  rcases (hS.lies m (List.mem_of_getElem? hm)).val_cases t with ⟨k, _⟩ | ⟨k1, k2, _⟩
  ·exact .inl k
  ·exact .inr ⟨k2, k1⟩
 ·rw [dAt_far h]; exact .inr ⟨by omega, by omega⟩
/-- A round of all vertices is a round at each time. -/
theorem States.round (hS : States g sts F was) (hV : Valid g) (hw : Was g p sts was) (hl : sts'.length = g.lives.length)
  (hn : ∀ (v : Nat) m m', sts[v]? = some m → sts'[v]? = some m' → ∀ t, val m' t = minAt (boxL (sendL g p F) v) t (val m t)) (t : Int) : Bf (arcsAt g p t) (dAt sts t) (dAt sts' t) := by
 have hat : ∀ v : Nat, v < g.lives.length → dAt sts' t v = minAt (boxL (sendL g p F) v) t (dAt sts t v) := fun v hv => by
  obtain ⟨m, hm⟩ := get_lt (show v < sts.length by rw [hS.len]; exact hv)
  obtain ⟨m', hm'⟩ := get_lt (show v < sts'.length by rw [hl]; exact hv)
  rw [dAt_of hm, dAt_of hm', hn v m m' hm hm']
 have hfar : ∀ v : Nat, g.lives.length ≤ v → dAt sts' t v = dAt sts t v := fun v hv => by
  rw [dAt_far (by rw [hl]; exact hv), dAt_far (by rw [hS.len]; exact hv)]
 have hF : Far = 1099511627776 := rfl
 refine ⟨fun v => ?_, fun x hx => ?_, fun v => ?_⟩
 ·rcases Nat.lt_or_ge v g.lives.length with hv | hv
  ·rw [hat v hv]; exact minAt_le
  ·rw [hfar v hv]; exact Int.le_refl _
 ·obtain ⟨h1, h2, c, hc0, _, ef⟩ := arcs_in hV hx
  have hle : dAt sts' t x.b ≤ dAt sts t x.b := by rw [hat x.b h2]; exact minAt_le
  by_cases hf : dAt sts t x.a < was x.a t
  ·obtain ⟨m, hm, hp, hv⟩ := hS.told hV hx hf
   rw [hat x.b h2, ← hv]
   exact minAt_mem (mem_box.2 hm) hp
  ·rcases hw with hw | hw
   ·rw [hw] at hf
    have h3 : dAt sts t x.a = Far := by
     rcases hS.dAt_cases (t := t) x.a with h | h
     ·exact h
     ·omega
    rw [ef, h3]
    simp only
    rcases hS.dAt_cases (t := t) x.b with h | h <;> omega
   ·have h3 := (hw t).arc x hx
    have h4 := (hw t).le x.a
    have h5 : dAt sts t x.a = was x.a t := by omega
    rw [← h5] at h3
    exact Int.le_trans hle h3
 ·rcases Nat.lt_or_ge v g.lives.length with hv | hv
  ·rw [hat v hv]
   rcases minAt_from (l := boxL (sendL g p F) v) (t := t) (d := dAt sts t v) with h | ⟨m, hm, hp, h⟩
   ·exact .inl h
   ·right
    obtain ⟨_, _, h3⟩ := hS.mail hV (mem_box.1 hm)
    simp only [inP, decide_eq_true_eq] at hp
    obtain ⟨⟨a, h4, h5, h6, _⟩, _⟩ := h3 t hp.1 hp.2
    exact ⟨a, h4, by simpa using h5, by rw [h, h6]⟩
  ·exact .inl (hfar v hv)
/-- What a run has in the midst: after k rounds. -/
structure BMid (g : GraphD) (p v : Int) (k : Nat) (sts F : List (List PieceD)) (was : Nat → Int → Int) : Prop where
 st : States g sts F was
 was : Was g p sts was
 at_ : ∀ t, 0 ≤ t → t < g.h → BfN (arcsAt g p t) (initAt g p v t) k (dAt sts t)
 last : k = 0 ∨ ∃ t d, (0 ≤ t ∧ t < g.h) ∧ ∃ j, k = j + 1 ∧ BfN (arcsAt g p t) (initAt g p v t) j d ∧ d ≠ dAt sts t
/-- What a run tells. -/
structure RunSay (g : GraphD) (p v : Int) (k : Nat) (out : List (List PieceD)) : Prop where
 len : out.length = g.lives.length
 lies : ∀ m, m ∈ out → Lies g.h m
 at_ : ∀ t, 0 ≤ t → t < g.h → BfN (arcsAt g p t) (initAt g p v t) k (dAt out t) ∧ Bf (arcsAt g p t) (dAt out t) (dAt out t)
 last : k = 0 ∨ ∃ t d, (0 ≤ t ∧ t < g.h) ∧ ∃ j, k = j + 1 ∧ BfN (arcsAt g p t) (initAt g p v t) j d ∧ d ≠ dAt out t
 few : k ≤ g.lives.length
theorem init_val (hV : Valid g) {t' : Int} (v : Nat) : 0 ≤ initAt g p t' t v ∧ (initAt g p t' t v = Far ∨ initAt g p t' t v ≤ 12) := by
 unfold initAt
 have hn := hV.nl
 have hl : (snapD g t).alive.length = g.lives.length := snapL_len g t
 rcases Nat.lt_or_ge v g.lives.length with h | h
 ·unfold begunD
  rw [gi_range (by rw [hl]; exact h)]
  unfold Far
  split
  ·omega
  ·split <;> omega
 ·unfold begunD
  rw [gi_range_far (by rw [hl]; exact h)]
  omega
theorem BMid.bound (hM : BMid g p v k sts F was) (hV : Valid g) (ht : 0 ≤ t ∧ t < g.h) (i : Nat) : 0 ≤ dAt sts t i ∧ (dAt sts t i = Far ∨ dAt sts t i ≤ 12 + 1000 * k) := (hM.at_ t ht.1 ht.2).bound (adds hV p t) (fun j => init_val hV j) i
/-- A last round, at which nothing is less. -/
theorem BMid.fin (hM : BMid g p v k sts F was) (hV : Valid g) (hk : k ≤ g.lives.length)
  (hn : ∀ (v : Nat) m, sts[v]? = some m → ∀ t, minAt (boxL (sendL g p F) v) t (val m t) = val m t) : RunSay g p v k sts := by
 refine ⟨hM.st.len, hM.st.lies, fun t h0 h1 => ⟨hM.at_ t h0 h1, ?_⟩, hM.last, hk⟩
 refine hM.st.round hV hM.was hM.st.len (fun v m m' hm hm' t => ?_) t
 rw [hm] at hm'
 obtain rfl : m = m' := by simpa using hm'
 exact (hn v m hm t).symm
end
end Go.Proofs.YtjcimdpldlamfaaGreatDoor
/- Memory that grows while one block of slices is written: lists of numbers stay. -/
namespace Go.Proofs.YtjcimdpldlamfaaGreatDoor
open Go.RowKit

/-- Growth, and stores of slices into block g. -/
inductive Only (g : Nat) : World → World → Prop
 | refl (w : World) : Only g w w
 | ext {w a b : World} : Only g w a → Below a.heap.size a b → Only g w b
 | put {w a : World} (o : Nat) (A : Option Addr) (n c : Nat) : Only g w a → Only g w (a.setCell ⟨g, o, none⟩ (.slice A n c))
/-- A block of slices. -/
def Slices (w : World) (g : Nat) : Prop := ∃ t cs, Blk w g t cs ∧ ∀ (i : Nat) u, cs[i]? = some u → ∃ A n c, u = Value.slice A n c
section
variable {g : Nat} {w w' a b : World}
theorem Only.trans (h : Only g w a) (k : Only g a b) : Only g w b := by
 induction k with
 | refl => exact h
 | ext _ hb ih => exact .ext ih hb
 | put o A n c _ ih => exact .put o A n c ih
theorem Only.of_below (h : Below w.heap.size w a) : Only g w a := .ext (.refl w) h
theorem Only.size (h : Only g w a) : w.heap.size ≤ a.heap.size := by
 induction h with
 | refl => exact Nat.le_refl _
 | ext _ hb ih => exact Nat.le_trans ih hb.size
 | put o A n c _ ih => simpa using ih
theorem Only.blk {k : Nat} {t : TypeId} {cs : Array Value} (h : Only g w a) (hk : k ≠ g) (hB : Blk w k t cs) : Blk a k t cs := by
 induction h with
 | refl => exact hB
 | ext _ hb ih => exact ih.ext hb
 | put o A n c _ ih => exact ih.far hk _
theorem Only.under {k : Nat} {w0 : World} (h : Only g w a) (hb : Below k w0 w) (hk : k ≤ g) (hg : g < w.heap.size) : Below k w0 a := by
 induction h with
 | refl => exact hb
 | ext h' hb' ih => exact ih.trans (hb'.mono (by have := h'.size; omega))
 | put o A n c _ ih => exact ih.setCell hk _
theorem Slices.ext (h : Slices w g) (hb : Below w.heap.size w a) : Slices a g := by
 obtain ⟨t, cs, hB, hs⟩ := h
 exact ⟨t, cs, hB.ext hb, hs⟩
theorem Slices.put (h : Slices w g) (o : Nat) (A : Option Addr) (n c : Nat) : Slices (w.setCell ⟨g, o, none⟩ (.slice A n c)) g := by
 obtain ⟨t, cs, hB, hs⟩ := h
 refine ⟨t, _, hB.set_ o _, fun i u hu => ?_⟩
 by_cases e : o = i
 ·subst e
  by_cases hlt : o < cs.size
  ·rw [Array.getElem?_setIfInBounds_self_of_lt hlt] at hu
   exact ⟨A, n, c, (Option.some.inj hu).symm⟩
  ·rw [Array.getElem?_eq_none (by simpa using hlt)] at hu; cases hu
 ·rw [Array.getElem?_setIfInBounds_ne e] at hu
  exact hs i u hu
theorem Only.slices (h : Only g w a) (hS : Slices w g) : Slices a g := by
 induction h with
 | refl => exact hS
 | ext _ hb ih => exact ih.ext hb
 | put o A n c _ ih => exact ih.put o A n c
/-- Where a number lies, there is no block of slices. -/
theorem Slices.ne {k o : Nat} {kd : IntKind} {x : Int} (h : Slices w g) (hc : cellIs w k o (.int kd x)) : k ≠ g := fun e => by
 subst e
 obtain ⟨t, cs, hB, hs⟩ := h
 unfold cellIs at hc
 rw [hB.cell] at hc
 obtain ⟨A, n, c, e⟩ := hs o _ hc
 cases e
theorem cellIs.put {k o o' : Nat} {v u : Value} (h : cellIs w k o v) (hk : k ≠ g) : cellIs (w.setCell ⟨g, o', none⟩ u) k o v := by
 unfold cellIs at h ⊢
 have e := Below.heap_setCell w ⟨g, o', none⟩ u k hk
 rw [← h]
 unfold World.cell?
 simp only [e]
theorem SlAt.put {α : Type} {R : World → Nat → Nat → α → Prop} {sz o n' c' : Nat} {A A' : Option Addr} {l : List α} (hS : Slices w g) (h : SlAt R sz w A l)
  (hR : ∀ b o' x, R w b o' x → R (w.setCell ⟨g, o, none⟩ (.slice A' n' c')) b o' x) : SlAt R sz (w.setCell ⟨g, o, none⟩ (.slice A' n' c')) A l := by
 obtain ⟨b, off, h⟩ := h
 refine ⟨b, off, fun i x hx => ?_⟩
 obtain ⟨h1, h2, h3⟩ := h i x hx
 exact ⟨h1, by simpa using h2, hR _ _ _ h3⟩
theorem PiecesAt.put {A A' : Option Addr} {c n' c' o : Nat} {l : List PieceD} (hS : Slices w g) (h : PiecesAt w A c l) : PiecesAt (w.setCell ⟨g, o, none⟩ (.slice A' n' c')) A c l :=
 ⟨h.lc, h.cm, h.sl.put hS fun b o' x hx => by
  obtain ⟨⟨h1, h2, h3⟩, h4⟩ := hx
  have hne := hS.ne h1
  exact ⟨⟨h1.put hne, h2.put hne, h3.put hne⟩, h4⟩⟩
theorem CellsAt.put {A A' : Option Addr} {c n' c' o : Nat} {l : List CellD} (hS : Slices w g) (h : CellsAt w A c l) : CellsAt (w.setCell ⟨g, o, none⟩ (.slice A' n' c')) A c l :=
 ⟨h.lc, h.cm, h.sl.put hS fun b o' x hx => by
  obtain ⟨⟨h1, h2, h3, h4, h5⟩, h6⟩ := hx
  have hne := hS.ne h1
  exact ⟨⟨h1.put hne, h2.put hne, h3.put hne, h4.put hne, h5.put hne⟩, h6⟩⟩
theorem Only.pieces {A : Option Addr} {c : Nat} {l : List PieceD} (h : Only g w a) (hS : Slices w g) (hP : PiecesAt w A c l) : PiecesAt a A c l := by
 induction h with
 | refl => exact hP
 | ext _ hb ih => exact ih.ext hb
 | put o A n c h' ih => exact ih.put (h'.slices hS)
theorem Only.own {α : Type} {enc : α → List Value} {sz base : Nat} {e : TypeId} {v : Value} {l : List α} {t : TypeId} {cs : Array Value} (h : Only g w a) (hB : Blk w g t cs) (ht : e ≠ t) (hO : Own enc sz w base e v l) : Own enc sz a base e v l :=
 hO.keep fun _ _ hb => h.blk (blk_ne hb hB ht) hb
theorem Only.new {base : Nat} {A : Option Addr} {c : Nat} {l : List PieceD} {t : TypeId} {cs : Array Value} (h : Only g w a) (hS : Slices w g) (hB : Blk w g t cs) (ht : 113 ≠ t) (hP : PiecesNew base w A c l) : PiecesNew base a A c l :=
 ⟨h.pieces hS hP.toPiecesAt, h.own hB ht hP.own⟩
/-- Behind the first k of a list that lies in memory. -/
theorem PiecesAt.drop {k c : Nat} {b off : Nat} {l : List PieceD} (h : PiecesAt w (some ⟨b, off, none⟩) c l) (hk : k ≤ l.length) : PiecesAt w (some ⟨b, off + k * 3, none⟩) (c - k) (l.drop k) := by
 have h1 := h.lc
 have h2 := h.cm
 refine ⟨by rw [List.length_drop]; omega, by omega, b, off + k * 3, fun i x hx => ?_⟩
 rw [List.getElem?_drop] at hx
 obtain ⟨b', off', hS⟩ := h.sl
 obtain ⟨e, k1, k2⟩ := hS (k + i) x hx
 obtain ⟨rfl, rfl⟩ : b = b' ∧ off = off' := by simpa using e
 refine ⟨rfl, k1, ?_⟩
 have e2 : off + (k + i) * 3 = off + k * 3 + i * 3 := by omega
 rw [e2] at k2
 exact k2
theorem PiecesAt.taken {c : Nat} {A : Option Addr} {l : List PieceD} (h : PiecesAt w A c l) (n : Nat) : PiecesAt w A c (l.take n) :=
 ⟨Nat.le_trans (by rw [List.length_take]; omega) h.lc, h.cm, h.sl.take n⟩
end
end Go.Proofs.YtjcimdpldlamfaaGreatDoor
/- The walk of (*bsp.engine).more. -/
namespace Go.Proofs.YtjcimdpldlamfaaGreatDoor
open Go.RowKit

abbrev legVal (l : LegD) : Value := .agg #[.int .i64 l.f, .int .i64 l.t, .int .i64 l.time, .int .i64 l.cost]
set_option maxHeartbeats 1000000 in
theorem more_any (e : Nat) (cs : Array Value) (p : Int) (l : LegD) (w : World) (hE : Blk w e 190 cs) (hp : cs[3]? = some (.int .i64 p)) :
  Calls Tryz.prog 160 #[.pointer (some ⟨e, 0, none⟩), legVal l] w fun en w' => en = .returned (.int .i64 (moreL p l)) ∧ Below w.heap.size w w' := by
 have hlt := hE.lt
 have hcell : w.cell? ⟨e, 3, none⟩ = some (.int .i64 p) := (hE.cell 3).trans hp
 by_cases h1 : p = 1
 ·have H1 : Hid (moreL p l = 1) := Lib.hid (by unfold moreL; rw [if_pos h1])
  subst h1
  go_enter Tryz.func160, Tryz.ntmps160
  go_wp2_with fail
  go_ret
  exact ⟨ret_int H1.out.symm, by go_grown⟩
 ·by_cases h2 : p = 2
  ·have H1 : Hid (moreL p l = l.cost) := Lib.hid (by unfold moreL; rw [if_neg h1, if_pos h2])
   subst h2
   go_enter Tryz.func160, Tryz.ntmps160
   go_wp2_with fail
   go_ret
   exact ⟨ret_int H1.out.symm, by go_grown⟩
  ·have H1 : Hid (moreL p l = 0) := Lib.hid (by unfold moreL; rw [if_neg h1, if_neg h2])
   go_enter Tryz.func160, Tryz.ntmps160
   go_wp2_with fail
   go_ret
   exact ⟨ret_int H1.out.symm, by go_grown⟩
end Go.Proofs.YtjcimdpldlamfaaGreatDoor
