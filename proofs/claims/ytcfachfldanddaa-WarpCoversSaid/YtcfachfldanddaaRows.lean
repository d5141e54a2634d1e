/-
  No cell of these rows narrows 'for every input' (looked for: loops, veiled, ifaces, maps, wideKeys, modest, calm, conditions, laid).
  DERIVED. THE GIVEN ROWS OF THIS SEAT. 12 by the template 'for every input the law returns true; each argument reads behind the call as it read before'; 0 by the template 'total and deterministic' (their statements: YtcfachfldanddaaTotals.lean).
  GIVEN WITH THE SEED: the statements are not yours to turn. If you find one false, say at which input.
  Laid BY PROGRAM, IN A SANDBOX (cutbox-rows.mjs): the forced cells as the released guide's own fill.sh prints them over the translation a6cd4bdcf41a3663… (all of the seat's roots in one cut). By AI agents, Wed Nov 11 2026. No macro, syntax, notation, axiom, sorry.
-/
import Derived.Test.YtcfachfldanddaaChecked
import GoSem.Claim
import GoSem.ClaimJoined
import GoSem.ClaimMapViews
import Derived.JoinedTies
import Derived.KernelRfl
namespace Go.Proofs.Ytcfachfldanddaa
/- THE CELL 'sum', in the pinned program and in every row, IS THE sha256 OF THE DUMP (.gsa) THAT YtcfachfldanddaaProg.lean LOADS. Nothing in Lean hashes anything: it is a label: what it is worth is what the hold of that sum in a sandbox is worth. -/
noncomputable def Try.pinned : Pinned := { name := "ytcfachfldanddaa", sum := "a6cd4bdcf41a3663ea3f1681e06b35e223571388132cdc0dc7e009e1e26efb9a", checked := Try.checked }
namespace Rows
def none {H : Type} : Left H := { results := [], args := [] }

/-- 'timekeep.IvlHas': WHATEVER THE INPUT: true; the input reads as it did. -/
def ivlHasSpec : ChangeSpec := { name := "ivlHas", fn := fun _ => fun
  | [d1, d2, d3] => { results := [.lit (.bool true)], args := [d1, d2, d3] }
  | _ => none }
def ivlHasRow : OpenClaim := { program := "ytcfachfldanddaa", sum := "a6cd4bdcf41a3663ea3f1681e06b35e223571388132cdc0dc7e009e1e26efb9a", func := "timeweft/timekeep.IvlHas", spec := "ivlHas", unfollowed := true, recurses := true, apart := false }
def IvlHasSaid : Prop := ivlHasRow.holds Try.pinned (OpenSpec.ofChange ivlHasSpec)

/-- ITS FALSE NEIGHBOUR: 'it returns false'. Refute it at one input. -/
def ivlHasWrong : ChangeSpec := { name := "ivlHas", fn := fun _ => fun
  | [d1, d2, d3] => { results := [.lit (.bool false)], args := [d1, d2, d3] }
  | _ => none }
def IvlHasWrongFalsely : Prop := ivlHasRow.holds Try.pinned (OpenSpec.ofChange ivlHasWrong)

/-- 'timekeep.IvlLaws': WHATEVER THE INPUT: true; the input reads as it did. -/
def ivlLawsSpec : ChangeSpec := { name := "ivlLaws", fn := fun _ => fun
  | [d1, d2, d3] => { results := [.lit (.bool true)], args := [d1, d2, d3] }
  | _ => none }
def ivlLawsRow : OpenClaim := { program := "ytcfachfldanddaa", sum := "a6cd4bdcf41a3663ea3f1681e06b35e223571388132cdc0dc7e009e1e26efb9a", func := "timeweft/timekeep.IvlLaws", spec := "ivlLaws", unfollowed := true, recurses := true, apart := false }
def IvlLawsSaid : Prop := ivlLawsRow.holds Try.pinned (OpenSpec.ofChange ivlLawsSpec)

/-- ITS FALSE NEIGHBOUR: 'it returns false'. Refute it at one input. -/
def ivlLawsWrong : ChangeSpec := { name := "ivlLaws", fn := fun _ => fun
  | [d1, d2, d3] => { results := [.lit (.bool false)], args := [d1, d2, d3] }
  | _ => none }
def IvlLawsWrongFalsely : Prop := ivlLawsRow.holds Try.pinned (OpenSpec.ofChange ivlLawsWrong)

/-- 'timelaw.IvlSays': WHATEVER THE INPUT: true; the input reads as it did. -/
def ivlSaysSpec : ChangeSpec := { name := "ivlSays", fn := fun _ => fun
  | [d1, d2] => { results := [.lit (.bool true)], args := [d1, d2] }
  | _ => none }
def ivlSaysRow : OpenClaim := { program := "ytcfachfldanddaa", sum := "a6cd4bdcf41a3663ea3f1681e06b35e223571388132cdc0dc7e009e1e26efb9a", func := "timeweft/timelaw.IvlSays", spec := "ivlSays", unfollowed := true, recurses := true, apart := false }
def IvlSaysSaid : Prop := ivlSaysRow.holds Try.pinned (OpenSpec.ofChange ivlSaysSpec)

/-- ITS FALSE NEIGHBOUR: 'it returns false'. Refute it at one input. -/
def ivlSaysWrong : ChangeSpec := { name := "ivlSays", fn := fun _ => fun
  | [d1, d2] => { results := [.lit (.bool false)], args := [d1, d2] }
  | _ => none }
def IvlSaysWrongFalsely : Prop := ivlSaysRow.holds Try.pinned (OpenSpec.ofChange ivlSaysWrong)

/-- 'timelaw.IvlSets': WHATEVER THE INPUT: true; the input reads as it did. -/
def ivlSetsSpec : ChangeSpec := { name := "ivlSets", fn := fun _ => fun
  | [d1, d2] => { results := [.lit (.bool true)], args := [d1, d2] }
  | _ => none }
def ivlSetsRow : OpenClaim := { program := "ytcfachfldanddaa", sum := "a6cd4bdcf41a3663ea3f1681e06b35e223571388132cdc0dc7e009e1e26efb9a", func := "timeweft/timelaw.IvlSets", spec := "ivlSets", unfollowed := true, recurses := true, apart := false }
def IvlSetsSaid : Prop := ivlSetsRow.holds Try.pinned (OpenSpec.ofChange ivlSetsSpec)

/-- ITS FALSE NEIGHBOUR: 'it returns false'. Refute it at one input. -/
def ivlSetsWrong : ChangeSpec := { name := "ivlSets", fn := fun _ => fun
  | [d1, d2] => { results := [.lit (.bool false)], args := [d1, d2] }
  | _ => none }
def IvlSetsWrongFalsely : Prop := ivlSetsRow.holds Try.pinned (OpenSpec.ofChange ivlSetsWrong)

/-- 'timekeep.ImapPuts': WHATEVER THE INPUT: true; the input reads as it did. -/
def imapPutsSpec : ChangeSpec := { name := "imapPuts", fn := fun _ => fun
  | [d1, d2, d3] => { results := [.lit (.bool true)], args := [d1, d2, d3] }
  | _ => none }
def imapPutsRow : OpenClaim := { program := "ytcfachfldanddaa", sum := "a6cd4bdcf41a3663ea3f1681e06b35e223571388132cdc0dc7e009e1e26efb9a", func := "timeweft/timekeep.ImapPuts", spec := "imapPuts", unfollowed := true, recurses := true, apart := false }
def ImapPutsSaid : Prop := imapPutsRow.holds Try.pinned (OpenSpec.ofChange imapPutsSpec)

/-- ITS FALSE NEIGHBOUR: 'it returns false'. Refute it at one input. -/
def imapPutsWrong : ChangeSpec := { name := "imapPuts", fn := fun _ => fun
  | [d1, d2, d3] => { results := [.lit (.bool false)], args := [d1, d2, d3] }
  | _ => none }
def ImapPutsWrongFalsely : Prop := imapPutsRow.holds Try.pinned (OpenSpec.ofChange imapPutsWrong)

/-- 'timelaw.ImapMerges': WHATEVER THE INPUT: true; the input reads as it did. -/
def imapMergesSpec : ChangeSpec := { name := "imapMerges", fn := fun _ => fun
  | [d1, d2, d3] => { results := [.lit (.bool true)], args := [d1, d2, d3] }
  | _ => none }
def imapMergesRow : OpenClaim := { program := "ytcfachfldanddaa", sum := "a6cd4bdcf41a3663ea3f1681e06b35e223571388132cdc0dc7e009e1e26efb9a", func := "timeweft/timelaw.ImapMerges", spec := "imapMerges", unfollowed := true, recurses := true, apart := false }
def ImapMergesSaid : Prop := imapMergesRow.holds Try.pinned (OpenSpec.ofChange imapMergesSpec)

/-- ITS FALSE NEIGHBOUR: 'it returns false'. Refute it at one input. -/
def imapMergesWrong : ChangeSpec := { name := "imapMerges", fn := fun _ => fun
  | [d1, d2, d3] => { results := [.lit (.bool false)], args := [d1, d2, d3] }
  | _ => none }
def ImapMergesWrongFalsely : Prop := imapMergesRow.holds Try.pinned (OpenSpec.ofChange imapMergesWrong)

/-- 'timekeep.ImapOrders': WHATEVER THE INPUT: true; the input reads as it did. -/
def imapOrdersSpec : ChangeSpec := { name := "imapOrders", fn := fun _ => fun
  | [d1, d2, d3, d4, d5] => { results := [.lit (.bool true)], args := [d1, d2, d3, d4, d5] }
  | _ => none }
def imapOrdersRow : OpenClaim := { program := "ytcfachfldanddaa", sum := "a6cd4bdcf41a3663ea3f1681e06b35e223571388132cdc0dc7e009e1e26efb9a", func := "timeweft/timekeep.ImapOrders", spec := "imapOrders", unfollowed := true, recurses := true, apart := false }
def ImapOrdersSaid : Prop := imapOrdersRow.holds Try.pinned (OpenSpec.ofChange imapOrdersSpec)

/-- ITS FALSE NEIGHBOUR: 'it returns false'. Refute it at one input. -/
def imapOrdersWrong : ChangeSpec := { name := "imapOrders", fn := fun _ => fun
  | [d1, d2, d3, d4, d5] => { results := [.lit (.bool false)], args := [d1, d2, d3, d4, d5] }
  | _ => none }
def ImapOrdersWrongFalsely : Prop := imapOrdersRow.holds Try.pinned (OpenSpec.ofChange imapOrdersWrong)

/-- 'timelaw.ImapSays': WHATEVER THE INPUT: true; the input reads as it did. -/
def imapSaysSpec : ChangeSpec := { name := "imapSays", fn := fun _ => fun
  | [d1, d2, d3, d4] => { results := [.lit (.bool true)], args := [d1, d2, d3, d4] }
  | _ => none }
def imapSaysRow : OpenClaim := { program := "ytcfachfldanddaa", sum := "a6cd4bdcf41a3663ea3f1681e06b35e223571388132cdc0dc7e009e1e26efb9a", func := "timeweft/timelaw.ImapSays", spec := "imapSays", unfollowed := true, recurses := true, apart := false }
def ImapSaysSaid : Prop := imapSaysRow.holds Try.pinned (OpenSpec.ofChange imapSaysSpec)

/-- ITS FALSE NEIGHBOUR: 'it returns false'. Refute it at one input. -/
def imapSaysWrong : ChangeSpec := { name := "imapSays", fn := fun _ => fun
  | [d1, d2, d3, d4] => { results := [.lit (.bool false)], args := [d1, d2, d3, d4] }
  | _ => none }
def ImapSaysWrongFalsely : Prop := imapSaysRow.holds Try.pinned (OpenSpec.ofChange imapSaysWrong)

/-- 'timekeep.ImapParts': WHATEVER THE INPUT: true; the input reads as it did. -/
def imapPartsSpec : ChangeSpec := { name := "imapParts", fn := fun _ => fun
  | [d1, d2, d3] => { results := [.lit (.bool true)], args := [d1, d2, d3] }
  | _ => none }
def imapPartsRow : OpenClaim := { program := "ytcfachfldanddaa", sum := "a6cd4bdcf41a3663ea3f1681e06b35e223571388132cdc0dc7e009e1e26efb9a", func := "timeweft/timekeep.ImapParts", spec := "imapParts", unfollowed := true, recurses := true, apart := false }
def ImapPartsSaid : Prop := imapPartsRow.holds Try.pinned (OpenSpec.ofChange imapPartsSpec)

/-- ITS FALSE NEIGHBOUR: 'it returns false'. Refute it at one input. -/
def imapPartsWrong : ChangeSpec := { name := "imapParts", fn := fun _ => fun
  | [d1, d2, d3] => { results := [.lit (.bool false)], args := [d1, d2, d3] }
  | _ => none }
def ImapPartsWrongFalsely : Prop := imapPartsRow.holds Try.pinned (OpenSpec.ofChange imapPartsWrong)

/-- 'timekeep.WarpCovers': WHATEVER THE INPUT: true; the input reads as it did. -/
def warpCoversSpec : ChangeSpec := { name := "warpCovers", fn := fun _ => fun
  | [d1, d2, d3, d4] => { results := [.lit (.bool true)], args := [d1, d2, d3, d4] }
  | _ => none }
def warpCoversRow : OpenClaim := { program := "ytcfachfldanddaa", sum := "a6cd4bdcf41a3663ea3f1681e06b35e223571388132cdc0dc7e009e1e26efb9a", func := "timeweft/timekeep.WarpCovers", spec := "warpCovers", unfollowed := true, recurses := true, apart := false }
def WarpCoversSaid : Prop := warpCoversRow.holds Try.pinned (OpenSpec.ofChange warpCoversSpec)

/-- ITS FALSE NEIGHBOUR: 'it returns false'. Refute it at one input. -/
def warpCoversWrong : ChangeSpec := { name := "warpCovers", fn := fun _ => fun
  | [d1, d2, d3, d4] => { results := [.lit (.bool false)], args := [d1, d2, d3, d4] }
  | _ => none }
def WarpCoversWrongFalsely : Prop := warpCoversRow.holds Try.pinned (OpenSpec.ofChange warpCoversWrong)

/-- 'timekeep.ProfileRises': WHATEVER THE INPUT: true; the input reads as it did. -/
def profileRisesSpec : ChangeSpec := { name := "profileRises", fn := fun _ => fun
  | [d1, d2, d3, d4] => { results := [.lit (.bool true)], args := [d1, d2, d3, d4] }
  | _ => none }
def profileRisesRow : OpenClaim := { program := "ytcfachfldanddaa", sum := "a6cd4bdcf41a3663ea3f1681e06b35e223571388132cdc0dc7e009e1e26efb9a", func := "timeweft/timekeep.ProfileRises", spec := "profileRises", unfollowed := true, recurses := true, apart := false }
def ProfileRisesSaid : Prop := profileRisesRow.holds Try.pinned (OpenSpec.ofChange profileRisesSpec)

/-- ITS FALSE NEIGHBOUR: 'it returns false'. Refute it at one input. -/
def profileRisesWrong : ChangeSpec := { name := "profileRises", fn := fun _ => fun
  | [d1, d2, d3, d4] => { results := [.lit (.bool false)], args := [d1, d2, d3, d4] }
  | _ => none }
def ProfileRisesWrongFalsely : Prop := profileRisesRow.holds Try.pinned (OpenSpec.ofChange profileRisesWrong)

/-- 'timelaw.ProfileSays': WHATEVER THE INPUT: true; the input reads as it did. -/
def profileSaysSpec : ChangeSpec := { name := "profileSays", fn := fun _ => fun
  | [d1, d2, d3, d4, d5] => { results := [.lit (.bool true)], args := [d1, d2, d3, d4, d5] }
  | _ => none }
def profileSaysRow : OpenClaim := { program := "ytcfachfldanddaa", sum := "a6cd4bdcf41a3663ea3f1681e06b35e223571388132cdc0dc7e009e1e26efb9a", func := "timeweft/timelaw.ProfileSays", spec := "profileSays", unfollowed := true, recurses := true, apart := false }
def ProfileSaysSaid : Prop := profileSaysRow.holds Try.pinned (OpenSpec.ofChange profileSaysSpec)

/-- ITS FALSE NEIGHBOUR: 'it returns false'. Refute it at one input. -/
def profileSaysWrong : ChangeSpec := { name := "profileSays", fn := fun _ => fun
  | [d1, d2, d3, d4, d5] => { results := [.lit (.bool false)], args := [d1, d2, d3, d4, d5] }
  | _ => none }
def ProfileSaysWrongFalsely : Prop := profileSaysRow.holds Try.pinned (OpenSpec.ofChange profileSaysWrong)

/- THE SECOND FORM. 'bulk': how many values and letters a reading holds, each counted each time it is reached (what is shared counts as often as it is met; a slice's spare places count too). A statement '..UptoSaid' is the law's where the arguments, and the package variables that the reading takes, are together of bulk at most 1048576: NARROWER than '..Said'. Prove '..Said' where nothing that the law and all that it calls make is longer than what came in: it says more and counts as full. Else prove '..UptoSaid'. A law counts once. -/
mutual
def uptoBulk {H : Type} : DataW H → Nat
  | .lit (.string bytes) => bytes.length + 1
  | .lit _ => 1
  | .nil => 1
  | .ptr d => uptoBulk d + 1
  | .slice elems spare => uptoBulkAll elems + uptoBulkAll spare + 1
  | .agg parts => uptoBulkAll parts + 1
  | .iface _ d => uptoBulk d + 1
  | .map entries => uptoBulkEntries entries + 1
  | .held _ => 1
def uptoBulkAll {H : Type} : List (DataW H) → Nat
  | [] => 0
  | d :: r => uptoBulk d + uptoBulkAll r
def uptoBulkEntries {H : Type} : List (Lit × DataW H) → Nat
  | [] => 0
  | x :: r => uptoBulkEntry x + uptoBulkEntries r
def uptoBulkEntry {H : Type} : Lit × DataW H → Nat
  | (.string bytes, d) => bytes.length + uptoBulk d + 1
  | (_, d) => uptoBulk d + 1
 end
def uptoSmall : (H : Type) → List (DataW H) → Bool := fun _ ds => decide (uptoBulkAll ds ≤ 1048576)
def OpenSpec.upto (s : _root_.Go.ChangeSpec) : _root_.Go.OpenSpec := { _root_.Go.OpenSpec.ofChange s with cond := some uptoSmall }

/-- 'timekeep.IvlHas', WHERE WHAT IT READS IS OF BULK AT MOST 1048576: true; the input reads as it did. -/
def ivlHasUptoRow : OpenClaim := { program := "ytcfachfldanddaa", sum := "a6cd4bdcf41a3663ea3f1681e06b35e223571388132cdc0dc7e009e1e26efb9a", func := "timeweft/timekeep.IvlHas", spec := "ivlHas", unfollowed := true, recurses := true, apart := false, narrowed := true }
def IvlHasUptoSaid : Prop := ivlHasUptoRow.holds Try.pinned (OpenSpec.upto ivlHasSpec)

/-- 'timekeep.IvlLaws', WHERE WHAT IT READS IS OF BULK AT MOST 1048576: true; the input reads as it did. -/
def ivlLawsUptoRow : OpenClaim := { program := "ytcfachfldanddaa", sum := "a6cd4bdcf41a3663ea3f1681e06b35e223571388132cdc0dc7e009e1e26efb9a", func := "timeweft/timekeep.IvlLaws", spec := "ivlLaws", unfollowed := true, recurses := true, apart := false, narrowed := true }
def IvlLawsUptoSaid : Prop := ivlLawsUptoRow.holds Try.pinned (OpenSpec.upto ivlLawsSpec)

/-- 'timelaw.IvlSays', WHERE WHAT IT READS IS OF BULK AT MOST 1048576: true; the input reads as it did. -/
def ivlSaysUptoRow : OpenClaim := { program := "ytcfachfldanddaa", sum := "a6cd4bdcf41a3663ea3f1681e06b35e223571388132cdc0dc7e009e1e26efb9a", func := "timeweft/timelaw.IvlSays", spec := "ivlSays", unfollowed := true, recurses := true, apart := false, narrowed := true }
def IvlSaysUptoSaid : Prop := ivlSaysUptoRow.holds Try.pinned (OpenSpec.upto ivlSaysSpec)

/-- 'timelaw.IvlSets', WHERE WHAT IT READS IS OF BULK AT MOST 1048576: true; the input reads as it did. -/
def ivlSetsUptoRow : OpenClaim := { program := "ytcfachfldanddaa", sum := "a6cd4bdcf41a3663ea3f1681e06b35e223571388132cdc0dc7e009e1e26efb9a", func := "timeweft/timelaw.IvlSets", spec := "ivlSets", unfollowed := true, recurses := true, apart := false, narrowed := true }
def IvlSetsUptoSaid : Prop := ivlSetsUptoRow.holds Try.pinned (OpenSpec.upto ivlSetsSpec)

/-- 'timekeep.ImapPuts', WHERE WHAT IT READS IS OF BULK AT MOST 1048576: true; the input reads as it did. -/
def imapPutsUptoRow : OpenClaim := { program := "ytcfachfldanddaa", sum := "a6cd4bdcf41a3663ea3f1681e06b35e223571388132cdc0dc7e009e1e26efb9a", func := "timeweft/timekeep.ImapPuts", spec := "imapPuts", unfollowed := true, recurses := true, apart := false, narrowed := true }
def ImapPutsUptoSaid : Prop := imapPutsUptoRow.holds Try.pinned (OpenSpec.upto imapPutsSpec)

/-- 'timelaw.ImapMerges', WHERE WHAT IT READS IS OF BULK AT MOST 1048576: true; the input reads as it did. -/
def imapMergesUptoRow : OpenClaim := { program := "ytcfachfldanddaa", sum := "a6cd4bdcf41a3663ea3f1681e06b35e223571388132cdc0dc7e009e1e26efb9a", func := "timeweft/timelaw.ImapMerges", spec := "imapMerges", unfollowed := true, recurses := true, apart := false, narrowed := true }
def ImapMergesUptoSaid : Prop := imapMergesUptoRow.holds Try.pinned (OpenSpec.upto imapMergesSpec)

/-- 'timekeep.ImapOrders', WHERE WHAT IT READS IS OF BULK AT MOST 1048576: true; the input reads as it did. -/
def imapOrdersUptoRow : OpenClaim := { program := "ytcfachfldanddaa", sum := "a6cd4bdcf41a3663ea3f1681e06b35e223571388132cdc0dc7e009e1e26efb9a", func := "timeweft/timekeep.ImapOrders", spec := "imapOrders", unfollowed := true, recurses := true, apart := false, narrowed := true }
def ImapOrdersUptoSaid : Prop := imapOrdersUptoRow.holds Try.pinned (OpenSpec.upto imapOrdersSpec)

/-- 'timelaw.ImapSays', WHERE WHAT IT READS IS OF BULK AT MOST 1048576: true; the input reads as it did. -/
def imapSaysUptoRow : OpenClaim := { program := "ytcfachfldanddaa", sum := "a6cd4bdcf41a3663ea3f1681e06b35e223571388132cdc0dc7e009e1e26efb9a", func := "timeweft/timelaw.ImapSays", spec := "imapSays", unfollowed := true, recurses := true, apart := false, narrowed := true }
def ImapSaysUptoSaid : Prop := imapSaysUptoRow.holds Try.pinned (OpenSpec.upto imapSaysSpec)

/-- 'timekeep.ImapParts', WHERE WHAT IT READS IS OF BULK AT MOST 1048576: true; the input reads as it did. -/
def imapPartsUptoRow : OpenClaim := { program := "ytcfachfldanddaa", sum := "a6cd4bdcf41a3663ea3f1681e06b35e223571388132cdc0dc7e009e1e26efb9a", func := "timeweft/timekeep.ImapParts", spec := "imapParts", unfollowed := true, recurses := true, apart := false, narrowed := true }
def ImapPartsUptoSaid : Prop := imapPartsUptoRow.holds Try.pinned (OpenSpec.upto imapPartsSpec)

/-- 'timekeep.WarpCovers', WHERE WHAT IT READS IS OF BULK AT MOST 1048576: true; the input reads as it did. -/
def warpCoversUptoRow : OpenClaim := { program := "ytcfachfldanddaa", sum := "a6cd4bdcf41a3663ea3f1681e06b35e223571388132cdc0dc7e009e1e26efb9a", func := "timeweft/timekeep.WarpCovers", spec := "warpCovers", unfollowed := true, recurses := true, apart := false, narrowed := true }
def WarpCoversUptoSaid : Prop := warpCoversUptoRow.holds Try.pinned (OpenSpec.upto warpCoversSpec)

/-- 'timekeep.ProfileRises', WHERE WHAT IT READS IS OF BULK AT MOST 1048576: true; the input reads as it did. -/
def profileRisesUptoRow : OpenClaim := { program := "ytcfachfldanddaa", sum := "a6cd4bdcf41a3663ea3f1681e06b35e223571388132cdc0dc7e009e1e26efb9a", func := "timeweft/timekeep.ProfileRises", spec := "profileRises", unfollowed := true, recurses := true, apart := false, narrowed := true }
def ProfileRisesUptoSaid : Prop := profileRisesUptoRow.holds Try.pinned (OpenSpec.upto profileRisesSpec)

/-- 'timelaw.ProfileSays', WHERE WHAT IT READS IS OF BULK AT MOST 1048576: true; the input reads as it did. -/
def profileSaysUptoRow : OpenClaim := { program := "ytcfachfldanddaa", sum := "a6cd4bdcf41a3663ea3f1681e06b35e223571388132cdc0dc7e009e1e26efb9a", func := "timeweft/timelaw.ProfileSays", spec := "profileSays", unfollowed := true, recurses := true, apart := false, narrowed := true }
def ProfileSaysUptoSaid : Prop := profileSaysUptoRow.holds Try.pinned (OpenSpec.upto profileSaysSpec)

end Rows
end Go.Proofs.Ytcfachfldanddaa
