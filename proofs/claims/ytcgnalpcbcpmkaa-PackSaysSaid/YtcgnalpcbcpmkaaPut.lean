/- The walk of the pack's writer: put adds numbers' bytes. -/
import Derived.Test.YtcgnalpcbcpmkaaCoded
import Derived.OneCell
namespace Go.Proofs.Ytcgnalpcbcpmkaa
open Go.RowKit

theorem Own.far {α : Type} {enc : α → List Value} {sz : Nat} {w : World} {base : Nat} {e t : TypeId} {v u : Value} {l : List α} {p : Addr} {cs : Array Value} (h : Own enc sz w base e v l) (hb : Blk w p.block t cs) (ht : t ≠ e) : Own enc sz (w.setCell p u) base e v l :=
  ownsRow_setCell_other h (fun hh => h.other hb ht hh.symm) u
/-- Blocks but one, and but bytes', stay. -/
def Keeps (wb : Nat) (w w' : World) : Prop := ∀ b t cs, b ≠ wb → t ≠ 5 → Blk w b t cs → Blk w' b t cs
theorem Keeps.refl (wb : Nat) (w : World) : Keeps wb w w := fun _ _ _ _ _ h => h
theorem Keeps.trans {wb : Nat} {a b c : World} (h : Keeps wb a b) (k : Keeps wb b c) : Keeps wb a c := fun x t cs h1 h2 h3 => k x t cs h1 h2 (h x t cs h1 h2 h3)
/-- What the writer holds behind a put. -/
def Put (wb base : Nat) (acc ns : List Int) (w : World) (e : Ending) (w' : World) : Prop :=
  ∃ v', e = .returned (.tuple #[]) ∧ Blk w' wb 118 #[v'] ∧ Own byteEnc 1 w' base 5 v' (acc ++ bytesL ns) ∧ Below base w w' ∧ Keeps wb w w'

set_option maxRecDepth 100000 in
set_option maxHeartbeats 4000000 in
theorem put_any (wb base nb m : Nat) (v : Value) (acc ns : List Int) (w : World) (hW : Blk w wb 118 #[v]) (hO : Own byteEnc 1 w base 5 v acc) (hB : base ≤ wb) (hN : Blk w nb 3 (ns.map (Value.int .i64)).toArray) (hnw : nb ≠ wb) (hm : ns.length = m)
    (hnum : ∀ n, n ∈ ns → Num n) (hlen : acc.length + 2 * m ≤ 10000) :
    Calls Try.prog 91 #[.pointer (some ⟨wb, 0, none⟩), .slice (some ⟨nb, 0, none⟩) m m] w (Put wb base acc ns w) := by
  subst hm
  have hbw := hW.lt
  obtain ⟨i0, hi, hz0, hz1, hz2⟩ := info_parts' info_byte
  go_enter Try.func91, Try.ntmps91
  go_wp2_with fail
  go_loopw [8] (fun kk wr => ∃ (k : Nat) (v' : Value), k ≤ ns.length ∧ kk = .int .i64 k ∧ Blk wr wb 118 #[v'] ∧ Own byteEnc 1 wr base 5 v' (acc ++ bytesL (ns.take k)) ∧ Below base w wr ∧ Keeps wb w wr)
    (fun kk _ => ns.length - (intOf kk).toNat)
  case atStart => exact ⟨0, v, Nat.zero_le _, rfl, hW, by simpa [bytesL] using hO, Below.refl _ _, Keeps.refl _ _⟩
  case round =>
    obtain ⟨k, v', hk, rfl, hW', hown, hb, hkeep⟩ := hrel
    by_cases hlt : k < ns.length
    case neg =>
      go_wp2_with fail
      refine bodyPost_ret (v := .tuple #[]) (by simp [results, Try.results91]) rfl ?_
      exact ⟨v', rfl, hW', by rw [List.take_of_length_le (by omega)] at hown; exact hown, hb, hkeep⟩
    obtain ⟨x, hx⟩ := get_lt hlt
    have hN' := hkeep _ _ _ hnw (by decide) hN
    have hxc : wr.cell? ⟨nb, k, none⟩ = some (.int .i64 x) := by rw [hN'.cell]; simp [hx]
    obtain ⟨b1, b2, b3⟩ := hW'.facts
    have hw0 : wr.cell? ⟨wb, 0, none⟩ = some v' := b1 0
    have hbase : base ≤ wr.heap.size := by omega
    have hxn := hnum x (List.mem_of_getElem? hx)
    obtain ⟨q0, q1⟩ := hxn
    have hbl : (acc ++ bytesL (ns.take k)).length + 2 ≤ 1000000 := by
      have := len_flatMap_le (f := fun n : Int => [n / 256, n % 256]) (m := 2) (ns.take k) (fun _ _ => by simp)
      rw [List.length_take] at this
      rw [List.length_append, bytesL]
      omega
    have HI2 : Hid ((acc ++ bytesL (ns.take k)) ++ [x / 256, x % 256] = acc ++ bytesL (ns.take (k + 1))) := Lib.hid (by
      rw [List.take_add_one, hx, List.append_assoc]
      simp [bytesL])
    clear b1 b2 hx hN'
    go_wp2_with (at_builtin; refine wpList_append_els (enc := byteEnc) rfl (.tmp 16) (.tmp 22) 105 rfl base 5 i0 _ 1 1 Try.underlying105 hi hz0 hz1 hz2 rfl (by decide) _ (acc ++ bytesL (ns.take k)) [x / 256, x % 256] 2 rfl rfl hown _ rfl _ rfl rfl rfl byte_one2 hbl (by decide) hbase ?_; intro v2 w6 hown6 hb8 hkp; obtain ⟨A6, d6, rfl⟩ := hown6.form; have hW6 := hkp _ _ _ hW' (by decide); obtain ⟨c1, c2, c3⟩ := hW6.facts; have c1' : w6.cell? ⟨wb, 0, none⟩ = some v' := c1 0)
    go_roundw
    case rel =>
      refine ⟨k + 1, _, by omega, by go_num, hW6.set_ 0 _, by rw [← HI2.out]; exact Own.far (h := (by simpa using hown6)) (p := ⟨wb, 0, none⟩) (t := 118) (cs := #[v']) hW6 (by decide), (hb.trans hb8).trans ?_, fun b t cs h1 h2 h3 => (hkp b t cs (hkeep b t cs h1 h2 h3) h2).far h1 _⟩
      exact (Below.refl _ _).setCell hB _
    case measure => simp [intOf]; omega
end Go.Proofs.Ytcgnalpcbcpmkaa
