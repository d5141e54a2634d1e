/-
  No cell of these rows narrows 'for every input' (looked for: loops, veiled, ifaces, maps, wideKeys, modest, calm, conditions, laid).
  DERIVED. THE GIVEN ROWS OF THIS SEAT. 28 by the template 'for every input the law returns true; each argument reads behind the call as it read before'; 0 by the template 'total and deterministic' (their statements: YtcgnalpcbcpmkaaTotals.lean).
  GIVEN WITH THE SEED: the statements are not yours to turn. If you find one false, say at which input.
  Laid BY PROGRAM, IN A SANDBOX (cutbox-rows.mjs): the forced cells as the released guide's own fill.sh prints them over the translation 0aa65a54dde19de1… (all of the seat's roots in one cut). By AI agents, Wed Nov 11 2026. No macro, syntax, notation, axiom, sorry.
-/
import Derived.Test.YtcgnalpcbcpmkaaChecked
import GoSem.Claim
import GoSem.ClaimJoined
import GoSem.ClaimMapViews
import Derived.JoinedTies
import Derived.KernelRfl
namespace Go.Proofs.Ytcgnalpcbcpmkaa
/- THE CELL 'sum', in the pinned program and in every row, IS THE sha256 OF THE DUMP (.gsa) THAT YtcgnalpcbcpmkaaProg.lean LOADS. Nothing in Lean hashes anything: it is a label: what it is worth is what the hold of that sum in a sandbox is worth. -/
noncomputable def Try.pinned : Pinned := { name := "ytcgnalpcbcpmkaa", sum := "0aa65a54dde19de18a5e0fafc517f01f4ea853bc16126469c6f2b8f781e0455c", checked := Try.checked }
namespace Rows
def none {H : Type} : Left H := { results := [], args := [] }

/-- 'timelaw.Names': WHATEVER THE INPUT: true; the input reads as it did. -/
def namesSpec : ChangeSpec := { name := "names", fn := fun _ => fun
  | [] => { results := [.lit (.bool true)], args := [] }
  | _ => none }
def namesRow : OpenClaim := { program := "ytcgnalpcbcpmkaa", sum := "0aa65a54dde19de18a5e0fafc517f01f4ea853bc16126469c6f2b8f781e0455c", func := "timeweft/timelaw.Names", spec := "names", plainKeys := false, apart := false }
def NamesSaid : Prop := namesRow.holds Try.pinned (OpenSpec.ofChange namesSpec)

/-- ITS FALSE NEIGHBOUR: 'it returns false'. Refute it at one input. -/
def namesWrong : ChangeSpec := { name := "names", fn := fun _ => fun
  | [] => { results := [.lit (.bool false)], args := [] }
  | _ => none }
def NamesWrongFalsely : Prop := namesRow.holds Try.pinned (OpenSpec.ofChange namesWrong)

/-- 'timelaw.PackSays': WHATEVER THE INPUT: true; the input reads as it did. -/
def packSaysSpec : ChangeSpec := { name := "packSays", fn := fun _ => fun
  | [d1, d2] => { results := [.lit (.bool true)], args := [d1, d2] }
  | _ => none }
def packSaysRow : OpenClaim := { program := "ytcgnalpcbcpmkaa", sum := "0aa65a54dde19de18a5e0fafc517f01f4ea853bc16126469c6f2b8f781e0455c", func := "timeweft/timelaw.PackSays", spec := "packSays", plainKeys := false, apart := false }
def PackSaysSaid : Prop := packSaysRow.holds Try.pinned (OpenSpec.ofChange packSaysSpec)

/-- ITS FALSE NEIGHBOUR: 'it returns false'. Refute it at one input. -/
def packSaysWrong : ChangeSpec := { name := "packSays", fn := fun _ => fun
  | [d1, d2] => { results := [.lit (.bool false)], args := [d1, d2] }
  | _ => none }
def PackSaysWrongFalsely : Prop := packSaysRow.holds Try.pinned (OpenSpec.ofChange packSaysWrong)

/-- 'timelaw.JourneyGoes': WHATEVER THE INPUT: true; the input reads as it did. -/
def journeyGoesSpec : ChangeSpec := { name := "journeyGoes", fn := fun _ => fun
  | [d1, d2, d3, d4] => { results := [.lit (.bool true)], args := [d1, d2, d3, d4] }
  | _ => none }
def journeyGoesRow : OpenClaim := { program := "ytcgnalpcbcpmkaa", sum := "0aa65a54dde19de18a5e0fafc517f01f4ea853bc16126469c6f2b8f781e0455c", func := "timeweft/timelaw.JourneyGoes", spec := "journeyGoes", plainKeys := false, apart := false }
def JourneyGoesSaid : Prop := journeyGoesRow.holds Try.pinned (OpenSpec.ofChange journeyGoesSpec)

/-- ITS FALSE NEIGHBOUR: 'it returns false'. Refute it at one input. -/
def journeyGoesWrong : ChangeSpec := { name := "journeyGoes", fn := fun _ => fun
  | [d1, d2, d3, d4] => { results := [.lit (.bool false)], args := [d1, d2, d3, d4] }
  | _ => none }
def JourneyGoesWrongFalsely : Prop := journeyGoesRow.holds Try.pinned (OpenSpec.ofChange journeyGoesWrong)

/-- 'timelaw.JourneyOuts': WHATEVER THE INPUT: true; the input reads as it did. -/
def journeyOutsSpec : ChangeSpec := { name := "journeyOuts", fn := fun _ => fun
  | [d1, d2, d3] => { results := [.lit (.bool true)], args := [d1, d2, d3] }
  | _ => none }
def journeyOutsRow : OpenClaim := { program := "ytcgnalpcbcpmkaa", sum := "0aa65a54dde19de18a5e0fafc517f01f4ea853bc16126469c6f2b8f781e0455c", func := "timeweft/timelaw.JourneyOuts", spec := "journeyOuts", plainKeys := false, apart := false }
def JourneyOutsSaid : Prop := journeyOutsRow.holds Try.pinned (OpenSpec.ofChange journeyOutsSpec)

/-- ITS FALSE NEIGHBOUR: 'it returns false'. Refute it at one input. -/
def journeyOutsWrong : ChangeSpec := { name := "journeyOuts", fn := fun _ => fun
  | [d1, d2, d3] => { results := [.lit (.bool false)], args := [d1, d2, d3] }
  | _ => none }
def JourneyOutsWrongFalsely : Prop := journeyOutsRow.holds Try.pinned (OpenSpec.ofChange journeyOutsWrong)

/-- 'timelaw.PlainSays': WHATEVER THE INPUT: true; the input reads as it did. -/
def plainSaysSpec : ChangeSpec := { name := "plainSays", fn := fun _ => fun
  | [d1, d2] => { results := [.lit (.bool true)], args := [d1, d2] }
  | _ => none }
def plainSaysRow : OpenClaim := { program := "ytcgnalpcbcpmkaa", sum := "0aa65a54dde19de18a5e0fafc517f01f4ea853bc16126469c6f2b8f781e0455c", func := "timeweft/timelaw.PlainSays", spec := "plainSays", unfollowed := true, recurses := true, plainKeys := false, apart := false }
def PlainSaysSaid : Prop := plainSaysRow.holds Try.pinned (OpenSpec.ofChange plainSaysSpec)

/-- ITS FALSE NEIGHBOUR: 'it returns false'. Refute it at one input. -/
def plainSaysWrong : ChangeSpec := { name := "plainSays", fn := fun _ => fun
  | [d1, d2] => { results := [.lit (.bool false)], args := [d1, d2] }
  | _ => none }
def PlainSaysWrongFalsely : Prop := plainSaysRow.holds Try.pinned (OpenSpec.ofChange plainSaysWrong)

/-- 'timekeep.JourneyParts': WHATEVER THE INPUT: true; the input reads as it did. -/
def journeyPartsSpec : ChangeSpec := { name := "journeyParts", fn := fun _ => fun
  | [d1, d2, d3, d4, d5] => { results := [.lit (.bool true)], args := [d1, d2, d3, d4, d5] }
  | _ => none }
def journeyPartsRow : OpenClaim := { program := "ytcgnalpcbcpmkaa", sum := "0aa65a54dde19de18a5e0fafc517f01f4ea853bc16126469c6f2b8f781e0455c", func := "timeweft/timekeep.JourneyParts", spec := "journeyParts", plainKeys := false, apart := false }
def JourneyPartsSaid : Prop := journeyPartsRow.holds Try.pinned (OpenSpec.ofChange journeyPartsSpec)

/-- ITS FALSE NEIGHBOUR: 'it returns false'. Refute it at one input. -/
def journeyPartsWrong : ChangeSpec := { name := "journeyParts", fn := fun _ => fun
  | [d1, d2, d3, d4, d5] => { results := [.lit (.bool false)], args := [d1, d2, d3, d4, d5] }
  | _ => none }
def JourneyPartsWrongFalsely : Prop := journeyPartsRow.holds Try.pinned (OpenSpec.ofChange journeyPartsWrong)

/-- 'timekeep.PlainWays': WHATEVER THE INPUT: true; the input reads as it did. -/
def plainWaysSpec : ChangeSpec := { name := "plainWays", fn := fun _ => fun
  | [d1, d2] => { results := [.lit (.bool true)], args := [d1, d2] }
  | _ => none }
def plainWaysRow : OpenClaim := { program := "ytcgnalpcbcpmkaa", sum := "0aa65a54dde19de18a5e0fafc517f01f4ea853bc16126469c6f2b8f781e0455c", func := "timeweft/timekeep.PlainWays", spec := "plainWays", unfollowed := true, recurses := true, plainKeys := false, apart := false }
def PlainWaysSaid : Prop := plainWaysRow.holds Try.pinned (OpenSpec.ofChange plainWaysSpec)

/-- ITS FALSE NEIGHBOUR: 'it returns false'. Refute it at one input. -/
def plainWaysWrong : ChangeSpec := { name := "plainWays", fn := fun _ => fun
  | [d1, d2] => { results := [.lit (.bool false)], args := [d1, d2] }
  | _ => none }
def PlainWaysWrongFalsely : Prop := plainWaysRow.holds Try.pinned (OpenSpec.ofChange plainWaysWrong)

/-- 'timekeep.JourneyLeaves': WHATEVER THE INPUT: true; the input reads as it did. -/
def journeyLeavesSpec : ChangeSpec := { name := "journeyLeaves", fn := fun _ => fun
  | [d1, d2, d3, d4] => { results := [.lit (.bool true)], args := [d1, d2, d3, d4] }
  | _ => none }
def journeyLeavesRow : OpenClaim := { program := "ytcgnalpcbcpmkaa", sum := "0aa65a54dde19de18a5e0fafc517f01f4ea853bc16126469c6f2b8f781e0455c", func := "timeweft/timekeep.JourneyLeaves", spec := "journeyLeaves", plainKeys := false, apart := false }
def JourneyLeavesSaid : Prop := journeyLeavesRow.holds Try.pinned (OpenSpec.ofChange journeyLeavesSpec)

/-- ITS FALSE NEIGHBOUR: 'it returns false'. Refute it at one input. -/
def journeyLeavesWrong : ChangeSpec := { name := "journeyLeaves", fn := fun _ => fun
  | [d1, d2, d3, d4] => { results := [.lit (.bool false)], args := [d1, d2, d3, d4] }
  | _ => none }
def JourneyLeavesWrongFalsely : Prop := journeyLeavesRow.holds Try.pinned (OpenSpec.ofChange journeyLeavesWrong)

/-- 'timelaw.TurnSays': WHATEVER THE INPUT: true; the input reads as it did. -/
def turnSaysSpec : ChangeSpec := { name := "turnSays", fn := fun _ => fun
  | [d1, d2] => { results := [.lit (.bool true)], args := [d1, d2] }
  | _ => none }
def turnSaysRow : OpenClaim := { program := "ytcgnalpcbcpmkaa", sum := "0aa65a54dde19de18a5e0fafc517f01f4ea853bc16126469c6f2b8f781e0455c", func := "timeweft/timelaw.TurnSays", spec := "turnSays", unfollowed := true, recurses := true, plainKeys := false, apart := false }
def TurnSaysSaid : Prop := turnSaysRow.holds Try.pinned (OpenSpec.ofChange turnSaysSpec)

/-- ITS FALSE NEIGHBOUR: 'it returns false'. Refute it at one input. -/
def turnSaysWrong : ChangeSpec := { name := "turnSays", fn := fun _ => fun
  | [d1, d2] => { results := [.lit (.bool false)], args := [d1, d2] }
  | _ => none }
def TurnSaysWrongFalsely : Prop := turnSaysRow.holds Try.pinned (OpenSpec.ofChange turnSaysWrong)

/-- 'timelaw.PackReads': WHATEVER THE INPUT: true; the input reads as it did. -/
def packReadsSpec : ChangeSpec := { name := "packReads", fn := fun _ => fun
  | [d] => { results := [.lit (.bool true)], args := [d] }
  | _ => none }
def packReadsRow : OpenClaim := { program := "ytcgnalpcbcpmkaa", sum := "0aa65a54dde19de18a5e0fafc517f01f4ea853bc16126469c6f2b8f781e0455c", func := "timeweft/timelaw.PackReads", spec := "packReads", unfollowed := true, recurses := true, plainKeys := false, apart := false }
def PackReadsSaid : Prop := packReadsRow.holds Try.pinned (OpenSpec.ofChange packReadsSpec)

/-- ITS FALSE NEIGHBOUR: 'it returns false'. Refute it at one input. -/
def packReadsWrong : ChangeSpec := { name := "packReads", fn := fun _ => fun
  | [d] => { results := [.lit (.bool false)], args := [d] }
  | _ => none }
def PackReadsWrongFalsely : Prop := packReadsRow.holds Try.pinned (OpenSpec.ofChange packReadsWrong)

/-- 'timekeep.PackOne': WHATEVER THE INPUT: true; the input reads as it did. -/
def packOneSpec : ChangeSpec := { name := "packOne", fn := fun _ => fun
  | [d] => { results := [.lit (.bool true)], args := [d] }
  | _ => none }
def packOneRow : OpenClaim := { program := "ytcgnalpcbcpmkaa", sum := "0aa65a54dde19de18a5e0fafc517f01f4ea853bc16126469c6f2b8f781e0455c", func := "timeweft/timekeep.PackOne", spec := "packOne", plainKeys := false, apart := false }
def PackOneSaid : Prop := packOneRow.holds Try.pinned (OpenSpec.ofChange packOneSpec)

/-- ITS FALSE NEIGHBOUR: 'it returns false'. Refute it at one input. -/
def packOneWrong : ChangeSpec := { name := "packOne", fn := fun _ => fun
  | [d] => { results := [.lit (.bool false)], args := [d] }
  | _ => none }
def PackOneWrongFalsely : Prop := packOneRow.holds Try.pinned (OpenSpec.ofChange packOneWrong)

/-- 'timelaw.CheapWays': WHATEVER THE INPUT: true; the input reads as it did. -/
def cheapWaysSpec : ChangeSpec := { name := "cheapWays", fn := fun _ => fun
  | [d1, d2, d3, d4] => { results := [.lit (.bool true)], args := [d1, d2, d3, d4] }
  | _ => none }
def cheapWaysRow : OpenClaim := { program := "ytcgnalpcbcpmkaa", sum := "0aa65a54dde19de18a5e0fafc517f01f4ea853bc16126469c6f2b8f781e0455c", func := "timeweft/timelaw.CheapWays", spec := "cheapWays", unfollowed := true, recurses := true, plainKeys := false, apart := false }
def CheapWaysSaid : Prop := cheapWaysRow.holds Try.pinned (OpenSpec.ofChange cheapWaysSpec)

/-- ITS FALSE NEIGHBOUR: 'it returns false'. Refute it at one input. -/
def cheapWaysWrong : ChangeSpec := { name := "cheapWays", fn := fun _ => fun
  | [d1, d2, d3, d4] => { results := [.lit (.bool false)], args := [d1, d2, d3, d4] }
  | _ => none }
def CheapWaysWrongFalsely : Prop := cheapWaysRow.holds Try.pinned (OpenSpec.ofChange cheapWaysWrong)

/-- 'timekeep.CheapFast': WHATEVER THE INPUT: true; the input reads as it did. -/
def cheapFastSpec : ChangeSpec := { name := "cheapFast", fn := fun _ => fun
  | [d1, d2, d3, d4] => { results := [.lit (.bool true)], args := [d1, d2, d3, d4] }
  | _ => none }
def cheapFastRow : OpenClaim := { program := "ytcgnalpcbcpmkaa", sum := "0aa65a54dde19de18a5e0fafc517f01f4ea853bc16126469c6f2b8f781e0455c", func := "timeweft/timekeep.CheapFast", spec := "cheapFast", plainKeys := false, apart := false }
def CheapFastSaid : Prop := cheapFastRow.holds Try.pinned (OpenSpec.ofChange cheapFastSpec)

/-- ITS FALSE NEIGHBOUR: 'it returns false'. Refute it at one input. -/
def cheapFastWrong : ChangeSpec := { name := "cheapFast", fn := fun _ => fun
  | [d1, d2, d3, d4] => { results := [.lit (.bool false)], args := [d1, d2, d3, d4] }
  | _ => none }
def CheapFastWrongFalsely : Prop := cheapFastRow.holds Try.pinned (OpenSpec.ofChange cheapFastWrong)

/-- 'timetop.TopBoth': WHATEVER THE INPUT: true; the input reads as it did. -/
def topBothSpec : ChangeSpec := { name := "topBoth", fn := fun _ => fun
  | [d1, d2, d3, d4, d5] => { results := [.lit (.bool true)], args := [d1, d2, d3, d4, d5] }
  | _ => none }
def topBothRow : OpenClaim := { program := "ytcgnalpcbcpmkaa", sum := "0aa65a54dde19de18a5e0fafc517f01f4ea853bc16126469c6f2b8f781e0455c", func := "timeweft/timetop.TopBoth", spec := "topBoth", unfollowed := true, recurses := true, plainKeys := false, apart := false }
def TopBothSaid : Prop := topBothRow.holds Try.pinned (OpenSpec.ofChange topBothSpec)

/-- ITS FALSE NEIGHBOUR: 'it returns false'. Refute it at one input. -/
def topBothWrong : ChangeSpec := { name := "topBoth", fn := fun _ => fun
  | [d1, d2, d3, d4, d5] => { results := [.lit (.bool false)], args := [d1, d2, d3, d4, d5] }
  | _ => none }
def TopBothWrongFalsely : Prop := topBothRow.holds Try.pinned (OpenSpec.ofChange topBothWrong)

/-- 'timelaw.EarlyWays': WHATEVER THE INPUT: true; the input reads as it did. -/
def earlyWaysSpec : ChangeSpec := { name := "earlyWays", fn := fun _ => fun
  | [d1, d2, d3, d4] => { results := [.lit (.bool true)], args := [d1, d2, d3, d4] }
  | _ => none }
def earlyWaysRow : OpenClaim := { program := "ytcgnalpcbcpmkaa", sum := "0aa65a54dde19de18a5e0fafc517f01f4ea853bc16126469c6f2b8f781e0455c", func := "timeweft/timelaw.EarlyWays", spec := "earlyWays", unfollowed := true, recurses := true, plainKeys := false, apart := false }
def EarlyWaysSaid : Prop := earlyWaysRow.holds Try.pinned (OpenSpec.ofChange earlyWaysSpec)

/-- ITS FALSE NEIGHBOUR: 'it returns false'. Refute it at one input. -/
def earlyWaysWrong : ChangeSpec := { name := "earlyWays", fn := fun _ => fun
  | [d1, d2, d3, d4] => { results := [.lit (.bool false)], args := [d1, d2, d3, d4] }
  | _ => none }
def EarlyWaysWrongFalsely : Prop := earlyWaysRow.holds Try.pinned (OpenSpec.ofChange earlyWaysWrong)

/-- 'timekeep.ProfileReach': WHATEVER THE INPUT: true; the input reads as it did. -/
def profileReachSpec : ChangeSpec := { name := "profileReach", fn := fun _ => fun
  | [d1, d2, d3, d4] => { results := [.lit (.bool true)], args := [d1, d2, d3, d4] }
  | _ => none }
def profileReachRow : OpenClaim := { program := "ytcgnalpcbcpmkaa", sum := "0aa65a54dde19de18a5e0fafc517f01f4ea853bc16126469c6f2b8f781e0455c", func := "timeweft/timekeep.ProfileReach", spec := "profileReach", plainKeys := false, apart := false }
def ProfileReachSaid : Prop := profileReachRow.holds Try.pinned (OpenSpec.ofChange profileReachSpec)

/-- ITS FALSE NEIGHBOUR: 'it returns false'. Refute it at one input. -/
def profileReachWrong : ChangeSpec := { name := "profileReach", fn := fun _ => fun
  | [d1, d2, d3, d4] => { results := [.lit (.bool false)], args := [d1, d2, d3, d4] }
  | _ => none }
def ProfileReachWrongFalsely : Prop := profileReachRow.holds Try.pinned (OpenSpec.ofChange profileReachWrong)

/-- 'timekeep.PackBack': WHATEVER THE INPUT: true; the input reads as it did. -/
def packBackSpec : ChangeSpec := { name := "packBack", fn := fun _ => fun
  | [d1, d2, d3] => { results := [.lit (.bool true)], args := [d1, d2, d3] }
  | _ => none }
def packBackRow : OpenClaim := { program := "ytcgnalpcbcpmkaa", sum := "0aa65a54dde19de18a5e0fafc517f01f4ea853bc16126469c6f2b8f781e0455c", func := "timeweft/timekeep.PackBack", spec := "packBack", unfollowed := true, recurses := true, plainKeys := false, apart := false }
def PackBackSaid : Prop := packBackRow.holds Try.pinned (OpenSpec.ofChange packBackSpec)

/-- ITS FALSE NEIGHBOUR: 'it returns false'. Refute it at one input. -/
def packBackWrong : ChangeSpec := { name := "packBack", fn := fun _ => fun
  | [d1, d2, d3] => { results := [.lit (.bool false)], args := [d1, d2, d3] }
  | _ => none }
def PackBackWrongFalsely : Prop := packBackRow.holds Try.pinned (OpenSpec.ofChange packBackWrong)

/-- 'timelaw.EarlySays': WHATEVER THE INPUT: true; the input reads as it did. -/
def earlySaysSpec : ChangeSpec := { name := "earlySays", fn := fun _ => fun
  | [d1, d2, d3] => { results := [.lit (.bool true)], args := [d1, d2, d3] }
  | _ => none }
def earlySaysRow : OpenClaim := { program := "ytcgnalpcbcpmkaa", sum := "0aa65a54dde19de18a5e0fafc517f01f4ea853bc16126469c6f2b8f781e0455c", func := "timeweft/timelaw.EarlySays", spec := "earlySays", unfollowed := true, recurses := true, plainKeys := false, apart := false }
def EarlySaysSaid : Prop := earlySaysRow.holds Try.pinned (OpenSpec.ofChange earlySaysSpec)

/-- ITS FALSE NEIGHBOUR: 'it returns false'. Refute it at one input. -/
def earlySaysWrong : ChangeSpec := { name := "earlySays", fn := fun _ => fun
  | [d1, d2, d3] => { results := [.lit (.bool false)], args := [d1, d2, d3] }
  | _ => none }
def EarlySaysWrongFalsely : Prop := earlySaysRow.holds Try.pinned (OpenSpec.ofChange earlySaysWrong)

/-- 'timekeep.EarlyLater': WHATEVER THE INPUT: true; the input reads as it did. -/
def earlyLaterSpec : ChangeSpec := { name := "earlyLater", fn := fun _ => fun
  | [d1, d2, d3, d4] => { results := [.lit (.bool true)], args := [d1, d2, d3, d4] }
  | _ => none }
def earlyLaterRow : OpenClaim := { program := "ytcgnalpcbcpmkaa", sum := "0aa65a54dde19de18a5e0fafc517f01f4ea853bc16126469c6f2b8f781e0455c", func := "timeweft/timekeep.EarlyLater", spec := "earlyLater", plainKeys := false, apart := false }
def EarlyLaterSaid : Prop := earlyLaterRow.holds Try.pinned (OpenSpec.ofChange earlyLaterSpec)

/-- ITS FALSE NEIGHBOUR: 'it returns false'. Refute it at one input. -/
def earlyLaterWrong : ChangeSpec := { name := "earlyLater", fn := fun _ => fun
  | [d1, d2, d3, d4] => { results := [.lit (.bool false)], args := [d1, d2, d3, d4] }
  | _ => none }
def EarlyLaterWrongFalsely : Prop := earlyLaterRow.holds Try.pinned (OpenSpec.ofChange earlyLaterWrong)

/-- 'timetop.TopWays': WHATEVER THE INPUT: true; the input reads as it did. -/
def topWaysSpec : ChangeSpec := { name := "topWays", fn := fun _ => fun
  | [d1, d2, d3, d4] => { results := [.lit (.bool true)], args := [d1, d2, d3, d4] }
  | _ => none }
def topWaysRow : OpenClaim := { program := "ytcgnalpcbcpmkaa", sum := "0aa65a54dde19de18a5e0fafc517f01f4ea853bc16126469c6f2b8f781e0455c", func := "timeweft/timetop.TopWays", spec := "topWays", unfollowed := true, recurses := true, plainKeys := false, apart := false }
def TopWaysSaid : Prop := topWaysRow.holds Try.pinned (OpenSpec.ofChange topWaysSpec)

/-- ITS FALSE NEIGHBOUR: 'it returns false'. Refute it at one input. -/
def topWaysWrong : ChangeSpec := { name := "topWays", fn := fun _ => fun
  | [d1, d2, d3, d4] => { results := [.lit (.bool false)], args := [d1, d2, d3, d4] }
  | _ => none }
def TopWaysWrongFalsely : Prop := topWaysRow.holds Try.pinned (OpenSpec.ofChange topWaysWrong)

/-- 'timekeep.EarlyBack': WHATEVER THE INPUT: true; the input reads as it did. -/
def earlyBackSpec : ChangeSpec := { name := "earlyBack", fn := fun _ => fun
  | [d1, d2, d3, d4, d5] => { results := [.lit (.bool true)], args := [d1, d2, d3, d4, d5] }
  | _ => none }
def earlyBackRow : OpenClaim := { program := "ytcgnalpcbcpmkaa", sum := "0aa65a54dde19de18a5e0fafc517f01f4ea853bc16126469c6f2b8f781e0455c", func := "timeweft/timekeep.EarlyBack", spec := "earlyBack", plainKeys := false, apart := false }
def EarlyBackSaid : Prop := earlyBackRow.holds Try.pinned (OpenSpec.ofChange earlyBackSpec)

/-- ITS FALSE NEIGHBOUR: 'it returns false'. Refute it at one input. -/
def earlyBackWrong : ChangeSpec := { name := "earlyBack", fn := fun _ => fun
  | [d1, d2, d3, d4, d5] => { results := [.lit (.bool false)], args := [d1, d2, d3, d4, d5] }
  | _ => none }
def EarlyBackWrongFalsely : Prop := earlyBackRow.holds Try.pinned (OpenSpec.ofChange earlyBackWrong)

/-- 'timekeep.EarlyVia': WHATEVER THE INPUT: true; the input reads as it did. -/
def earlyViaSpec : ChangeSpec := { name := "earlyVia", fn := fun _ => fun
  | [d1, d2, d3, d4] => { results := [.lit (.bool true)], args := [d1, d2, d3, d4] }
  | _ => none }
def earlyViaRow : OpenClaim := { program := "ytcgnalpcbcpmkaa", sum := "0aa65a54dde19de18a5e0fafc517f01f4ea853bc16126469c6f2b8f781e0455c", func := "timeweft/timekeep.EarlyVia", spec := "earlyVia", plainKeys := false, apart := false }
def EarlyViaSaid : Prop := earlyViaRow.holds Try.pinned (OpenSpec.ofChange earlyViaSpec)

/-- ITS FALSE NEIGHBOUR: 'it returns false'. Refute it at one input. -/
def earlyViaWrong : ChangeSpec := { name := "earlyVia", fn := fun _ => fun
  | [d1, d2, d3, d4] => { results := [.lit (.bool false)], args := [d1, d2, d3, d4] }
  | _ => none }
def EarlyViaWrongFalsely : Prop := earlyViaRow.holds Try.pinned (OpenSpec.ofChange earlyViaWrong)

/-- 'timekeep.TurnBack': WHATEVER THE INPUT: true; the input reads as it did. -/
def turnBackSpec : ChangeSpec := { name := "turnBack", fn := fun _ => fun
  | [d1, d2, d3] => { results := [.lit (.bool true)], args := [d1, d2, d3] }
  | _ => none }
def turnBackRow : OpenClaim := { program := "ytcgnalpcbcpmkaa", sum := "0aa65a54dde19de18a5e0fafc517f01f4ea853bc16126469c6f2b8f781e0455c", func := "timeweft/timekeep.TurnBack", spec := "turnBack", unfollowed := true, recurses := true, plainKeys := false, apart := false }
def TurnBackSaid : Prop := turnBackRow.holds Try.pinned (OpenSpec.ofChange turnBackSpec)

/-- ITS FALSE NEIGHBOUR: 'it returns false'. Refute it at one input. -/
def turnBackWrong : ChangeSpec := { name := "turnBack", fn := fun _ => fun
  | [d1, d2, d3] => { results := [.lit (.bool false)], args := [d1, d2, d3] }
  | _ => none }
def TurnBackWrongFalsely : Prop := turnBackRow.holds Try.pinned (OpenSpec.ofChange turnBackWrong)

/-- 'timekeep.TurnParts': WHATEVER THE INPUT: true; the input reads as it did. -/
def turnPartsSpec : ChangeSpec := { name := "turnParts", fn := fun _ => fun
  | [d1, d2, d3, d4] => { results := [.lit (.bool true)], args := [d1, d2, d3, d4] }
  | _ => none }
def turnPartsRow : OpenClaim := { program := "ytcgnalpcbcpmkaa", sum := "0aa65a54dde19de18a5e0fafc517f01f4ea853bc16126469c6f2b8f781e0455c", func := "timeweft/timekeep.TurnParts", spec := "turnParts", unfollowed := true, recurses := true, plainKeys := false, apart := false }
def TurnPartsSaid : Prop := turnPartsRow.holds Try.pinned (OpenSpec.ofChange turnPartsSpec)

/-- ITS FALSE NEIGHBOUR: 'it returns false'. Refute it at one input. -/
def turnPartsWrong : ChangeSpec := { name := "turnParts", fn := fun _ => fun
  | [d1, d2, d3, d4] => { results := [.lit (.bool false)], args := [d1, d2, d3, d4] }
  | _ => none }
def TurnPartsWrongFalsely : Prop := turnPartsRow.holds Try.pinned (OpenSpec.ofChange turnPartsWrong)

/-- 'timelaw.CheapSays': WHATEVER THE INPUT: true; the input reads as it did. -/
def cheapSaysSpec : ChangeSpec := { name := "cheapSays", fn := fun _ => fun
  | [d1, d2, d3, d4] => { results := [.lit (.bool true)], args := [d1, d2, d3, d4] }
  | _ => none }
def cheapSaysRow : OpenClaim := { program := "ytcgnalpcbcpmkaa", sum := "0aa65a54dde19de18a5e0fafc517f01f4ea853bc16126469c6f2b8f781e0455c", func := "timeweft/timelaw.CheapSays", spec := "cheapSays", unfollowed := true, recurses := true, plainKeys := false, apart := false }
def CheapSaysSaid : Prop := cheapSaysRow.holds Try.pinned (OpenSpec.ofChange cheapSaysSpec)

/-- ITS FALSE NEIGHBOUR: 'it returns false'. Refute it at one input. -/
def cheapSaysWrong : ChangeSpec := { name := "cheapSays", fn := fun _ => fun
  | [d1, d2, d3, d4] => { results := [.lit (.bool false)], args := [d1, d2, d3, d4] }
  | _ => none }
def CheapSaysWrongFalsely : Prop := cheapSaysRow.holds Try.pinned (OpenSpec.ofChange cheapSaysWrong)

/-- 'timekeep.TurnTwice': WHATEVER THE INPUT: true; the input reads as it did. -/
def turnTwiceSpec : ChangeSpec := { name := "turnTwice", fn := fun _ => fun
  | [d1, d2, d3] => { results := [.lit (.bool true)], args := [d1, d2, d3] }
  | _ => none }
def turnTwiceRow : OpenClaim := { program := "ytcgnalpcbcpmkaa", sum := "0aa65a54dde19de18a5e0fafc517f01f4ea853bc16126469c6f2b8f781e0455c", func := "timeweft/timekeep.TurnTwice", spec := "turnTwice", unfollowed := true, recurses := true, plainKeys := false, apart := false }
def TurnTwiceSaid : Prop := turnTwiceRow.holds Try.pinned (OpenSpec.ofChange turnTwiceSpec)

/-- ITS FALSE NEIGHBOUR: 'it returns false'. Refute it at one input. -/
def turnTwiceWrong : ChangeSpec := { name := "turnTwice", fn := fun _ => fun
  | [d1, d2, d3] => { results := [.lit (.bool false)], args := [d1, d2, d3] }
  | _ => none }
def TurnTwiceWrongFalsely : Prop := turnTwiceRow.holds Try.pinned (OpenSpec.ofChange turnTwiceWrong)

/-- 'timetop.TopBest': WHATEVER THE INPUT: true; the input reads as it did. -/
def topBestSpec : ChangeSpec := { name := "topBest", fn := fun _ => fun
  | [d1, d2, d3, d4] => { results := [.lit (.bool true)], args := [d1, d2, d3, d4] }
  | _ => none }
def topBestRow : OpenClaim := { program := "ytcgnalpcbcpmkaa", sum := "0aa65a54dde19de18a5e0fafc517f01f4ea853bc16126469c6f2b8f781e0455c", func := "timeweft/timetop.TopBest", spec := "topBest", unfollowed := true, recurses := true, plainKeys := false, apart := false }
def TopBestSaid : Prop := topBestRow.holds Try.pinned (OpenSpec.ofChange topBestSpec)

/-- ITS FALSE NEIGHBOUR: 'it returns false'. Refute it at one input. -/
def topBestWrong : ChangeSpec := { name := "topBest", fn := fun _ => fun
  | [d1, d2, d3, d4] => { results := [.lit (.bool false)], args := [d1, d2, d3, d4] }
  | _ => none }
def TopBestWrongFalsely : Prop := topBestRow.holds Try.pinned (OpenSpec.ofChange topBestWrong)

/-- 'timekeep.CheapBounds': WHATEVER THE INPUT: true; the input reads as it did. -/
def cheapBoundsSpec : ChangeSpec := { name := "cheapBounds", fn := fun _ => fun
  | [d1, d2, d3] => { results := [.lit (.bool true)], args := [d1, d2, d3] }
  | _ => none }
def cheapBoundsRow : OpenClaim := { program := "ytcgnalpcbcpmkaa", sum := "0aa65a54dde19de18a5e0fafc517f01f4ea853bc16126469c6f2b8f781e0455c", func := "timeweft/timekeep.CheapBounds", spec := "cheapBounds", unfollowed := true, recurses := true, plainKeys := false, apart := false }
def CheapBoundsSaid : Prop := cheapBoundsRow.holds Try.pinned (OpenSpec.ofChange cheapBoundsSpec)

/-- ITS FALSE NEIGHBOUR: 'it returns false'. Refute it at one input. -/
def cheapBoundsWrong : ChangeSpec := { name := "cheapBounds", fn := fun _ => fun
  | [d1, d2, d3] => { results := [.lit (.bool false)], args := [d1, d2, d3] }
  | _ => none }
def CheapBoundsWrongFalsely : Prop := cheapBoundsRow.holds Try.pinned (OpenSpec.ofChange cheapBoundsWrong)

/- THE SECOND FORM. 'bulk': how many values and letters a reading holds, each counted each time it is reached (what is shared counts as often as it is met; a slice's spare places count too). A statement '..UptoSaid' is the law's where the arguments, and the package variables that the reading takes, are together of bulk at most 1048576: NARROWER than '..Said'. Prove '..Said' where nothing that the law and all that it calls make is longer than what came in: it says more and counts as full. Else prove '..UptoSaid'. A law counts once. -/
mutual
def uptoBulk {H : Type} : DataW H → Nat
  | .lit (.string bytes) => bytes.length + 1
  | .lit _ => 1
  | .nil => 1
  | .ptr d => uptoBulk d + 1
  | .slice elems spare => uptoBulkAll elems + uptoBulkAll spare + 1
  | .agg parts => uptoBulkAll parts + 1
  | .iface _ d => uptoBulk d + 1
  | .map entries => uptoBulkEntries entries + 1
  | .held _ => 1
def uptoBulkAll {H : Type} : List (DataW H) → Nat
  | [] => 0
  | d :: r => uptoBulk d + uptoBulkAll r
def uptoBulkEntries {H : Type} : List (Lit × DataW H) → Nat
  | [] => 0
  | x :: r => uptoBulkEntry x + uptoBulkEntries r
def uptoBulkEntry {H : Type} : Lit × DataW H → Nat
  | (.string bytes, d) => bytes.length + uptoBulk d + 1
  | (_, d) => uptoBulk d + 1
 end
def uptoSmall : (H : Type) → List (DataW H) → Bool := fun _ ds => decide (uptoBulkAll ds ≤ 1048576)
def OpenSpec.upto (s : _root_.Go.ChangeSpec) : _root_.Go.OpenSpec := { _root_.Go.OpenSpec.ofChange s with cond := some uptoSmall }

/-- 'timelaw.Names', WHERE WHAT IT READS IS OF BULK AT MOST 1048576: true; the input reads as it did. -/
def namesUptoRow : OpenClaim := { program := "ytcgnalpcbcpmkaa", sum := "0aa65a54dde19de18a5e0fafc517f01f4ea853bc16126469c6f2b8f781e0455c", func := "timeweft/timelaw.Names", spec := "names", plainKeys := false, apart := false, narrowed := true }
def NamesUptoSaid : Prop := namesUptoRow.holds Try.pinned (OpenSpec.upto namesSpec)

/-- 'timelaw.PackSays', WHERE WHAT IT READS IS OF BULK AT MOST 1048576: true; the input reads as it did. -/
def packSaysUptoRow : OpenClaim := { program := "ytcgnalpcbcpmkaa", sum := "0aa65a54dde19de18a5e0fafc517f01f4ea853bc16126469c6f2b8f781e0455c", func := "timeweft/timelaw.PackSays", spec := "packSays", plainKeys := false, apart := false, narrowed := true }
def PackSaysUptoSaid : Prop := packSaysUptoRow.holds Try.pinned (OpenSpec.upto packSaysSpec)

/-- 'timelaw.JourneyGoes', WHERE WHAT IT READS IS OF BULK AT MOST 1048576: true; the input reads as it did. -/
def journeyGoesUptoRow : OpenClaim := { program := "ytcgnalpcbcpmkaa", sum := "0aa65a54dde19de18a5e0fafc517f01f4ea853bc16126469c6f2b8f781e0455c", func := "timeweft/timelaw.JourneyGoes", spec := "journeyGoes", plainKeys := false, apart := false, narrowed := true }
def JourneyGoesUptoSaid : Prop := journeyGoesUptoRow.holds Try.pinned (OpenSpec.upto journeyGoesSpec)

/-- 'timelaw.JourneyOuts', WHERE WHAT IT READS IS OF BULK AT MOST 1048576: true; the input reads as it did. -/
def journeyOutsUptoRow : OpenClaim := { program := "ytcgnalpcbcpmkaa", sum := "0aa65a54dde19de18a5e0fafc517f01f4ea853bc16126469c6f2b8f781e0455c", func := "timeweft/timelaw.JourneyOuts", spec := "journeyOuts", plainKeys := false, apart := false, narrowed := true }
def JourneyOutsUptoSaid : Prop := journeyOutsUptoRow.holds Try.pinned (OpenSpec.upto journeyOutsSpec)

/-- 'timelaw.PlainSays', WHERE WHAT IT READS IS OF BULK AT MOST 1048576: true; the input reads as it did. -/
def plainSaysUptoRow : OpenClaim := { program := "ytcgnalpcbcpmkaa", sum := "0aa65a54dde19de18a5e0fafc517f01f4ea853bc16126469c6f2b8f781e0455c", func := "timeweft/timelaw.PlainSays", spec := "plainSays", unfollowed := true, recurses := true, plainKeys := false, apart := false, narrowed := true }
def PlainSaysUptoSaid : Prop := plainSaysUptoRow.holds Try.pinned (OpenSpec.upto plainSaysSpec)

/-- 'timekeep.JourneyParts', WHERE WHAT IT READS IS OF BULK AT MOST 1048576: true; the input reads as it did. -/
def journeyPartsUptoRow : OpenClaim := { program := "ytcgnalpcbcpmkaa", sum := "0aa65a54dde19de18a5e0fafc517f01f4ea853bc16126469c6f2b8f781e0455c", func := "timeweft/timekeep.JourneyParts", spec := "journeyParts", plainKeys := false, apart := false, narrowed := true }
def JourneyPartsUptoSaid : Prop := journeyPartsUptoRow.holds Try.pinned (OpenSpec.upto journeyPartsSpec)

/-- 'timekeep.PlainWays', WHERE WHAT IT READS IS OF BULK AT MOST 1048576: true; the input reads as it did. -/
def plainWaysUptoRow : OpenClaim := { program := "ytcgnalpcbcpmkaa", sum := "0aa65a54dde19de18a5e0fafc517f01f4ea853bc16126469c6f2b8f781e0455c", func := "timeweft/timekeep.PlainWays", spec := "plainWays", unfollowed := true, recurses := true, plainKeys := false, apart := false, narrowed := true }
def PlainWaysUptoSaid : Prop := plainWaysUptoRow.holds Try.pinned (OpenSpec.upto plainWaysSpec)

/-- 'timekeep.JourneyLeaves', WHERE WHAT IT READS IS OF BULK AT MOST 1048576: true; the input reads as it did. -/
def journeyLeavesUptoRow : OpenClaim := { program := "ytcgnalpcbcpmkaa", sum := "0aa65a54dde19de18a5e0fafc517f01f4ea853bc16126469c6f2b8f781e0455c", func := "timeweft/timekeep.JourneyLeaves", spec := "journeyLeaves", plainKeys := false, apart := false, narrowed := true }
def JourneyLeavesUptoSaid : Prop := journeyLeavesUptoRow.holds Try.pinned (OpenSpec.upto journeyLeavesSpec)

/-- 'timelaw.TurnSays', WHERE WHAT IT READS IS OF BULK AT MOST 1048576: true; the input reads as it did. -/
def turnSaysUptoRow : OpenClaim := { program := "ytcgnalpcbcpmkaa", sum := "0aa65a54dde19de18a5e0fafc517f01f4ea853bc16126469c6f2b8f781e0455c", func := "timeweft/timelaw.TurnSays", spec := "turnSays", unfollowed := true, recurses := true, plainKeys := false, apart := false, narrowed := true }
def TurnSaysUptoSaid : Prop := turnSaysUptoRow.holds Try.pinned (OpenSpec.upto turnSaysSpec)

/-- 'timelaw.PackReads', WHERE WHAT IT READS IS OF BULK AT MOST 1048576: true; the input reads as it did. -/
def packReadsUptoRow : OpenClaim := { program := "ytcgnalpcbcpmkaa", sum := "0aa65a54dde19de18a5e0fafc517f01f4ea853bc16126469c6f2b8f781e0455c", func := "timeweft/timelaw.PackReads", spec := "packReads", unfollowed := true, recurses := true, plainKeys := false, apart := false, narrowed := true }
def PackReadsUptoSaid : Prop := packReadsUptoRow.holds Try.pinned (OpenSpec.upto packReadsSpec)

/-- 'timekeep.PackOne', WHERE WHAT IT READS IS OF BULK AT MOST 1048576: true; the input reads as it did. -/
def packOneUptoRow : OpenClaim := { program := "ytcgnalpcbcpmkaa", sum := "0aa65a54dde19de18a5e0fafc517f01f4ea853bc16126469c6f2b8f781e0455c", func := "timeweft/timekeep.PackOne", spec := "packOne", plainKeys := false, apart := false, narrowed := true }
def PackOneUptoSaid : Prop := packOneUptoRow.holds Try.pinned (OpenSpec.upto packOneSpec)

/-- 'timelaw.CheapWays', WHERE WHAT IT READS IS OF BULK AT MOST 1048576: true; the input reads as it did. -/
def cheapWaysUptoRow : OpenClaim := { program := "ytcgnalpcbcpmkaa", sum := "0aa65a54dde19de18a5e0fafc517f01f4ea853bc16126469c6f2b8f781e0455c", func := "timeweft/timelaw.CheapWays", spec := "cheapWays", unfollowed := true, recurses := true, plainKeys := false, apart := false, narrowed := true }
def CheapWaysUptoSaid : Prop := cheapWaysUptoRow.holds Try.pinned (OpenSpec.upto cheapWaysSpec)

/-- 'timekeep.CheapFast', WHERE WHAT IT READS IS OF BULK AT MOST 1048576: true; the input reads as it did. -/
def cheapFastUptoRow : OpenClaim := { program := "ytcgnalpcbcpmkaa", sum := "0aa65a54dde19de18a5e0fafc517f01f4ea853bc16126469c6f2b8f781e0455c", func := "timeweft/timekeep.CheapFast", spec := "cheapFast", plainKeys := false, apart := false, narrowed := true }
def CheapFastUptoSaid : Prop := cheapFastUptoRow.holds Try.pinned (OpenSpec.upto cheapFastSpec)

/-- 'timetop.TopBoth', WHERE WHAT IT READS IS OF BULK AT MOST 1048576: true; the input reads as it did. -/
def topBothUptoRow : OpenClaim := { program := "ytcgnalpcbcpmkaa", sum := "0aa65a54dde19de18a5e0fafc517f01f4ea853bc16126469c6f2b8f781e0455c", func := "timeweft/timetop.TopBoth", spec := "topBoth", unfollowed := true, recurses := true, plainKeys := false, apart := false, narrowed := true }
def TopBothUptoSaid : Prop := topBothUptoRow.holds Try.pinned (OpenSpec.upto topBothSpec)

/-- 'timelaw.EarlyWays', WHERE WHAT IT READS IS OF BULK AT MOST 1048576: true; the input reads as it did. -/
def earlyWaysUptoRow : OpenClaim := { program := "ytcgnalpcbcpmkaa", sum := "0aa65a54dde19de18a5e0fafc517f01f4ea853bc16126469c6f2b8f781e0455c", func := "timeweft/timelaw.EarlyWays", spec := "earlyWays", unfollowed := true, recurses := true, plainKeys := false, apart := false, narrowed := true }
def EarlyWaysUptoSaid : Prop := earlyWaysUptoRow.holds Try.pinned (OpenSpec.upto earlyWaysSpec)

/-- 'timekeep.ProfileReach', WHERE WHAT IT READS IS OF BULK AT MOST 1048576: true; the input reads as it did. -/
def profileReachUptoRow : OpenClaim := { program := "ytcgnalpcbcpmkaa", sum := "0aa65a54dde19de18a5e0fafc517f01f4ea853bc16126469c6f2b8f781e0455c", func := "timeweft/timekeep.ProfileReach", spec := "profileReach", plainKeys := false, apart := false, narrowed := true }
def ProfileReachUptoSaid : Prop := profileReachUptoRow.holds Try.pinned (OpenSpec.upto profileReachSpec)

/-- 'timekeep.PackBack', WHERE WHAT IT READS IS OF BULK AT MOST 1048576: true; the input reads as it did. -/
def packBackUptoRow : OpenClaim := { program := "ytcgnalpcbcpmkaa", sum := "0aa65a54dde19de18a5e0fafc517f01f4ea853bc16126469c6f2b8f781e0455c", func := "timeweft/timekeep.PackBack", spec := "packBack", unfollowed := true, recurses := true, plainKeys := false, apart := false, narrowed := true }
def PackBackUptoSaid : Prop := packBackUptoRow.holds Try.pinned (OpenSpec.upto packBackSpec)

/-- 'timelaw.EarlySays', WHERE WHAT IT READS IS OF BULK AT MOST 1048576: true; the input reads as it did. -/
def earlySaysUptoRow : OpenClaim := { program := "ytcgnalpcbcpmkaa", sum := "0aa65a54dde19de18a5e0fafc517f01f4ea853bc16126469c6f2b8f781e0455c", func := "timeweft/timelaw.EarlySays", spec := "earlySays", unfollowed := true, recurses := true, plainKeys := false, apart := false, narrowed := true }
def EarlySaysUptoSaid : Prop := earlySaysUptoRow.holds Try.pinned (OpenSpec.upto earlySaysSpec)

/-- 'timekeep.EarlyLater', WHERE WHAT IT READS IS OF BULK AT MOST 1048576: true; the input reads as it did. -/
def earlyLaterUptoRow : OpenClaim := { program := "ytcgnalpcbcpmkaa", sum := "0aa65a54dde19de18a5e0fafc517f01f4ea853bc16126469c6f2b8f781e0455c", func := "timeweft/timekeep.EarlyLater", spec := "earlyLater", plainKeys := false, apart := false, narrowed := true }
def EarlyLaterUptoSaid : Prop := earlyLaterUptoRow.holds Try.pinned (OpenSpec.upto earlyLaterSpec)

/-- 'timetop.TopWays', WHERE WHAT IT READS IS OF BULK AT MOST 1048576: true; the input reads as it did. -/
def topWaysUptoRow : OpenClaim := { program := "ytcgnalpcbcpmkaa", sum := "0aa65a54dde19de18a5e0fafc517f01f4ea853bc16126469c6f2b8f781e0455c", func := "timeweft/timetop.TopWays", spec := "topWays", unfollowed := true, recurses := true, plainKeys := false, apart := false, narrowed := true }
def TopWaysUptoSaid : Prop := topWaysUptoRow.holds Try.pinned (OpenSpec.upto topWaysSpec)

/-- 'timekeep.EarlyBack', WHERE WHAT IT READS IS OF BULK AT MOST 1048576: true; the input reads as it did. -/
def earlyBackUptoRow : OpenClaim := { program := "ytcgnalpcbcpmkaa", sum := "0aa65a54dde19de18a5e0fafc517f01f4ea853bc16126469c6f2b8f781e0455c", func := "timeweft/timekeep.EarlyBack", spec := "earlyBack", plainKeys := false, apart := false, narrowed := true }
def EarlyBackUptoSaid : Prop := earlyBackUptoRow.holds Try.pinned (OpenSpec.upto earlyBackSpec)

/-- 'timekeep.EarlyVia', WHERE WHAT IT READS IS OF BULK AT MOST 1048576: true; the input reads as it did. -/
def earlyViaUptoRow : OpenClaim := { program := "ytcgnalpcbcpmkaa", sum := "0aa65a54dde19de18a5e0fafc517f01f4ea853bc16126469c6f2b8f781e0455c", func := "timeweft/timekeep.EarlyVia", spec := "earlyVia", plainKeys := false, apart := false, narrowed := true }
def EarlyViaUptoSaid : Prop := earlyViaUptoRow.holds Try.pinned (OpenSpec.upto earlyViaSpec)

/-- 'timekeep.TurnBack', WHERE WHAT IT READS IS OF BULK AT MOST 1048576: true; the input reads as it did. -/
def turnBackUptoRow : OpenClaim := { program := "ytcgnalpcbcpmkaa", sum := "0aa65a54dde19de18a5e0fafc517f01f4ea853bc16126469c6f2b8f781e0455c", func := "timeweft/timekeep.TurnBack", spec := "turnBack", unfollowed := true, recurses := true, plainKeys := false, apart := false, narrowed := true }
def TurnBackUptoSaid : Prop := turnBackUptoRow.holds Try.pinned (OpenSpec.upto turnBackSpec)

/-- 'timekeep.TurnParts', WHERE WHAT IT READS IS OF BULK AT MOST 1048576: true; the input reads as it did. -/
def turnPartsUptoRow : OpenClaim := { program := "ytcgnalpcbcpmkaa", sum := "0aa65a54dde19de18a5e0fafc517f01f4ea853bc16126469c6f2b8f781e0455c", func := "timeweft/timekeep.TurnParts", spec := "turnParts", unfollowed := true, recurses := true, plainKeys := false, apart := false, narrowed := true }
def TurnPartsUptoSaid : Prop := turnPartsUptoRow.holds Try.pinned (OpenSpec.upto turnPartsSpec)

/-- 'timelaw.CheapSays', WHERE WHAT IT READS IS OF BULK AT MOST 1048576: true; the input reads as it did. -/
def cheapSaysUptoRow : OpenClaim := { program := "ytcgnalpcbcpmkaa", sum := "0aa65a54dde19de18a5e0fafc517f01f4ea853bc16126469c6f2b8f781e0455c", func := "timeweft/timelaw.CheapSays", spec := "cheapSays", unfollowed := true, recurses := true, plainKeys := false, apart := false, narrowed := true }
def CheapSaysUptoSaid : Prop := cheapSaysUptoRow.holds Try.pinned (OpenSpec.upto cheapSaysSpec)

/-- 'timekeep.TurnTwice', WHERE WHAT IT READS IS OF BULK AT MOST 1048576: true; the input reads as it did. -/
def turnTwiceUptoRow : OpenClaim := { program := "ytcgnalpcbcpmkaa", sum := "0aa65a54dde19de18a5e0fafc517f01f4ea853bc16126469c6f2b8f781e0455c", func := "timeweft/timekeep.TurnTwice", spec := "turnTwice", unfollowed := true, recurses := true, plainKeys := false, apart := false, narrowed := true }
def TurnTwiceUptoSaid : Prop := turnTwiceUptoRow.holds Try.pinned (OpenSpec.upto turnTwiceSpec)

/-- 'timetop.TopBest', WHERE WHAT IT READS IS OF BULK AT MOST 1048576: true; the input reads as it did. -/
def topBestUptoRow : OpenClaim := { program := "ytcgnalpcbcpmkaa", sum := "0aa65a54dde19de18a5e0fafc517f01f4ea853bc16126469c6f2b8f781e0455c", func := "timeweft/timetop.TopBest", spec := "topBest", unfollowed := true, recurses := true, plainKeys := false, apart := false, narrowed := true }
def TopBestUptoSaid : Prop := topBestUptoRow.holds Try.pinned (OpenSpec.upto topBestSpec)

/-- 'timekeep.CheapBounds', WHERE WHAT IT READS IS OF BULK AT MOST 1048576: true; the input reads as it did. -/
def cheapBoundsUptoRow : OpenClaim := { program := "ytcgnalpcbcpmkaa", sum := "0aa65a54dde19de18a5e0fafc517f01f4ea853bc16126469c6f2b8f781e0455c", func := "timeweft/timekeep.CheapBounds", spec := "cheapBounds", unfollowed := true, recurses := true, plainKeys := false, apart := false, narrowed := true }
def CheapBoundsUptoSaid : Prop := cheapBoundsUptoRow.holds Try.pinned (OpenSpec.upto cheapBoundsSpec)

end Rows
end Go.Proofs.Ytcgnalpcbcpmkaa
