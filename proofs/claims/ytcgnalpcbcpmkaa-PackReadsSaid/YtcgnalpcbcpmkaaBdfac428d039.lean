/- One text: Next. -/
import Derived.BigQuiet
import Derived.IntWalk
import Derived.Test.YtcgnalpcbcpmkaaBdcb364ed89b
import Derived.Test.YtcgnalpcbcpmkaaBd62db7b8b90
import Derived.Test.YtcgnalpcbcpmkaaBd97b53d9a67
/- The walk of the document's reader's closure. -/
namespace Go.Proofs.Ytcgnalpcbcpmkaa
open Go.RowKit

/-- A reader in three blocks: the string, where it is, the error. -/
structure NxMem (s : ByteArray) (bS bA bE : Nat) (r : RSt) (w : World) : Prop where
  str : Blk w bS 9 #[.string s]
  at_ : Blk w bA 3 #[.int .i64 (r.1 : Int)]
  err : Blk w bE 22 #[.int .i64 r.2]
structure NxOut (s : ByteArray) (bS bA bE : Nat) (q : RSt) (w w' : World) : Prop where
  mem : NxMem s bS bA bE q w'
  keep : ∀ g t cs, g ≠ bA → g ≠ bE → Blk w g t cs → Blk w' g t cs
  below : ∀ k (w0 : World), Below k w0 w → k ≤ bA → k ≤ bE → k ≤ w.heap.size → Below k w0 w'
  size : w.heap.size ≤ w'.heap.size
theorem NxMem.alloc {s : ByteArray} {bS bA bE : Nat} {r : RSt} {w : World} (h : NxMem s bS bA bE r w) (o : Obj) : NxMem s bS bA bE r (w.alloc o) := ⟨h.str.alloc o, h.at_.alloc o, h.err.alloc o⟩
theorem NxMem.drew {s : ByteArray} {bS bA bE : Nat} {r : RSt} {w : World} (h : NxMem s bS bA bE r w) : NxMem s bS bA bE r w.drew := ⟨h.str.drew, h.at_.drew, h.err.drew⟩
theorem NxMem.drewN {s : ByteArray} {bS bA bE : Nat} {r : RSt} {w : World} (h : NxMem s bS bA bE r w) (n : Nat) : NxMem s bS bA bE r (w.drewN n) := ⟨h.str.drewN n, h.at_.drewN n, h.err.drewN n⟩
theorem NxMem.far {s : ByteArray} {bS bA bE : Nat} {r : RSt} {w : World} (h : NxMem s bS bA bE r w) {p : Addr} (h1 : bS ≠ p.block) (h2 : bA ≠ p.block) (h3 : bE ≠ p.block) (u : Value) : NxMem s bS bA bE r (w.setCell p u) := ⟨h.str.far h1 u, h.at_.far h2 u, h.err.far h3 u⟩
theorem NxMem.keep {s : ByteArray} {bS bA bE : Nat} {r : RSt} {w w' : World} (h : NxMem s bS bA bE r w) (hk : ∀ b t cs, b = bS ∨ b = bA ∨ b = bE → Blk w b t cs → Blk w' b t cs) : NxMem s bS bA bE r w' := ⟨hk _ _ _ (.inl rfl) h.str, hk _ _ _ (.inr (.inl rfl)) h.at_, hk _ _ _ (.inr (.inr rfl)) h.err⟩

set_option maxRecDepth 100000 in
set_option maxHeartbeats 4000000 in
theorem next_any (s : ByteArray) (bS bA bE m : Nat) (r : RSt) (w : World) (hM : NxMem s bS bA bE r w) (hs : s.size ≤ 140737488351232) (hr : r.1 ≤ s.size) (h1 : bS ≠ bA) (h2 : bS ≠ bE) (h3 : bA ≠ bE) :
    Calls Try.prog 113 #[.int .i64 (m : Int), .pointer (some ⟨bE, 0, none⟩), .pointer (some ⟨bA, 0, none⟩), .pointer (some ⟨bS, 0, none⟩)] w fun e w' => e = .returned (.int .i64 ((rnum s m r).1 : Int)) ∧ NxOut s bS bA bE (rnum s m r).2 w w' := by
  obtain ⟨at_, er⟩ := r
  obtain ⟨BS, BA, BE⟩ := hM
  simp only at BA BE hr
  obtain ⟨p1, p2, p3⟩ := BS.facts
  obtain ⟨a1, a2, a3⟩ := BA.facts
  obtain ⟨b1, b2, b3⟩ := BE.facts
  by_cases he : er = 0
  case neg =>
    have hn : (er != 0) = true := by simp [he]
    have hn2 : (er == 0) = false := by simp [he]
    have HR : Hid (rnum s m (at_, er) = (0, (at_, er))) := Lib.hid (rnum_bad he)
    clear he
    go_enter Try.func113, Try.ntmps113
    go_wp2_with fail
    go_ret
    rw [HR.out]
    exact ⟨rfl, ⟨BS, BA, BE⟩, fun g t cs _ _ h => h, fun k w0 h _ _ _ => h, Nat.le_refl _⟩
  subst he
  by_cases hlt : s.size < at_ + 2
  case pos =>
    have hd : decide ((at_ : Int) + 2 > (s.size : Int)) = true := by simp; omega
    have HR : Hid (rnum s m (at_, 0) = (0, (at_, 5))) := Lib.hid (by unfold rnum; rw [if_neg (by simp), if_pos hlt])
    clear hlt
    go_enter Try.func113, Try.ntmps113
    go_wp2_with fail
    go_ret
    rw [HR.out]
    exact ⟨rfl, ⟨BS.far h2 _, BA.far h3 _, by simpa using BE.set_ 0 (.int .i64 5)⟩, fun g t cs _ hg h => h.far hg _, fun k w0 h _ h1 _ => h.setCell h1 _, by simp⟩
  have hd : decide ((at_ : Int) + 2 > (s.size : Int)) = false := by simp; omega
  have q0 := byteAt_lt s at_
  have q1 := byteAt_lt s (at_ + 1)
  have i1 : at_ < s.size := by omega
  have i2 : at_ + 1 < s.size := by omega
  have HN : Hid (((num2 s at_ : Nat) : Int) = (byteAt s at_ : Int) * 256 + (byteAt s (at_ + 1) : Int)) := Lib.hid (by unfold num2; omega)
  have g1 : ((s[at_]'i1).toNat) = byteAt s at_ := (byteAt_of i1).symm
  have g2 : ((s[at_ + 1]'i2).toNat) = byteAt s (at_ + 1) := (byteAt_of i2).symm
  by_cases hbig : m < num2 s at_
  case pos =>
    have HR : Hid (rnum s m (at_, 0) = (0, (at_ + 2, 2))) := Lib.hid (by
      unfold rnum
      rw [if_neg (by simp), if_neg (by simp only; omega), if_pos hbig])
    have hgt : decide ((byteAt s at_ : Int) * 256 + (byteAt s (at_ + 1) : Int) > (m : Int)) = true := by have := HN.out; simp; omega
    clear hlt hbig
    go_enter Try.func113, Try.ntmps113
    go_wp2_with fail
    go_quiet (fail)
    go_wp2_with fail
    go_ret
    rw [HR.out]
    refine ⟨rfl, ⟨((BS.drewN _).far h1 _).far h2 _, ?_, ?_⟩, fun g t cs hg hg2 h => ((Blk.drewN h _).far hg _).far hg2 _, fun k w0 h h1 h2 _ => ((below_drewN h _).setCell h1 _).setCell h2 _, by simp [World.drewN]⟩
    · have := ((BA.drewN nq).set_ 0 (.int .i64 ((at_ : Int) + 2))).far (p := ⟨bE, 0, none⟩) h3 (.int .i64 2)
      simpa using this
    · have := ((BE.drewN nq).far (p := ⟨bA, 0, none⟩) h3.symm (.int .i64 ((at_ : Int) + 2))).set_ 0 (.int .i64 2)
      simpa using this
  have HR : Hid (rnum s m (at_, 0) = (num2 s at_, (at_ + 2, 0))) := Lib.hid (by
    unfold rnum
    rw [if_neg (by simp), if_neg (by simp only; omega), if_neg hbig])
  have hgt : decide ((byteAt s at_ : Int) * 256 + (byteAt s (at_ + 1) : Int) > (m : Int)) = false := by have := HN.out; simp; omega
  clear hlt hbig
  go_enter Try.func113, Try.ntmps113
  go_wp2_with fail
  go_quiet (fail)
  go_wp2_with fail
  go_ret
  rw [HR.out]
  refine ⟨by simp only; rw [HN.out]; rfl, ⟨(BS.drewN _).far h1 _, by simpa using (BA.drewN nq).set_ 0 (.int .i64 ((at_ : Int) + 2)), (BE.drewN _).far h3.symm _⟩, fun g t cs hg _ h => (Blk.drewN h _).far hg _, fun k w0 h h1 _ _ => (below_drewN h _).setCell h1 _, by simp [World.drewN]⟩
end Go.Proofs.Ytcgnalpcbcpmkaa
