/-
  No cell of these rows narrows 'for every input' (looked for: loops, veiled, ifaces, maps, wideKeys, modest, calm, conditions, laid).
  DERIVED. THE GIVEN ROWS OF THIS SEAT. 5 by the template 'for every input the law returns true; each argument reads behind the call as it read before'; 0 by the template 'total and deterministic' (their statements: YtdpibehpmghghaaGreatTotals.lean).
  GIVEN WITH THE SEED: the statements are not yours to turn. If you find one false, say at which input.
  Laid BY PROGRAM, IN A SANDBOX (cutbox-rows.mjs): the forced cells as the released guide's own fill.sh prints them over the translation b9c0e6caf41bd388… (all of the seat's roots in one cut). By AI agents, Wed Nov 11 2026. No macro, syntax, notation, axiom, sorry.
-/
import Derived.Test.YtdpibehpmghghaaGreatChecked
import GoSem.Claim
import GoSem.ClaimJoined
import GoSem.ClaimMapViews
import Derived.JoinedTies
import Derived.KernelRfl
namespace Go.Proofs.YtdpibehpmghghaaGreat
/- THE CELL 'sum', in the pinned program and in every row, IS THE sha256 OF THE DUMP (.gsa) THAT YtdpibehpmghghaaGreatProg.lean LOADS. Nothing in Lean hashes anything: it is a label: what it is worth is what the hold of that sum in a sandbox is worth. -/
noncomputable def Tryz.pinned : Pinned := { name := "ytdpibehpmghghaagreat", sum := "b9c0e6caf41bd388cfb908fe9f64e56f9ed1b6983774d56067f489f48e2ab746", checked := Tryz.checked }
namespace Rows
def none {H : Type} : Left H := { results := [], args := [] }

/-- 'timekeep.BspPoints': WHATEVER THE INPUT: true; the input reads as it did. -/
def bspPointsSpec : ChangeSpec := { name := "bspPoints", fn := fun _ => fun
  | [d1, d2, d3, d4] => { results := [.lit (.bool true)], args := [d1, d2, d3, d4] }
  | _ => none }
def bspPointsRow : OpenClaim := { program := "ytdpibehpmghghaagreat", sum := "b9c0e6caf41bd388cfb908fe9f64e56f9ed1b6983774d56067f489f48e2ab746", func := "timeweft/timekeep.BspPoints", spec := "bspPoints", unfollowed := true, recurses := true, plainKeys := false, leaving := true, apart := false }
def BspPointsSaid : Prop := bspPointsRow.holds Tryz.pinned (OpenSpec.ofChange bspPointsSpec)

/-- ITS FALSE NEIGHBOUR: 'it returns false'. Refute it at one input. -/
def bspPointsWrong : ChangeSpec := { name := "bspPoints", fn := fun _ => fun
  | [d1, d2, d3, d4] => { results := [.lit (.bool false)], args := [d1, d2, d3, d4] }
  | _ => none }
def BspPointsWrongFalsely : Prop := bspPointsRow.holds Tryz.pinned (OpenSpec.ofChange bspPointsWrong)

/-- 'timelaw.BspSays': WHATEVER THE INPUT: true; the input reads as it did. -/
def bspSaysSpec : ChangeSpec := { name := "bspSays", fn := fun _ => fun
  | [d1, d2, d3, d4] => { results := [.lit (.bool true)], args := [d1, d2, d3, d4] }
  | _ => none }
def bspSaysRow : OpenClaim := { program := "ytdpibehpmghghaagreat", sum := "b9c0e6caf41bd388cfb908fe9f64e56f9ed1b6983774d56067f489f48e2ab746", func := "timeweft/timelaw.BspSays", spec := "bspSays", inPlace := ["(*sync.WaitGroup).Add", "internal/race.ReleaseMerge", "internal/race.Disable", "internal/race.Enable", "internal/synctest.IsInBubble", "internal/synctest.Associate[sync.WaitGroup]", "sync.fatal", "sync/atomic.OrUint64", "sync/atomic.AddUint64", "internal/race.Read", "sync/atomic.LoadUint64", "sync/atomic.StoreUint64", "internal/synctest.Disassociate[sync.WaitGroup]", "sync.runtime_Semrelease", "(*sync.WaitGroup).Done", "(*sync.WaitGroup).Wait", "internal/race.Acquire", "internal/synctest.IsAssociated[sync.WaitGroup]", "sync/atomic.CompareAndSwapUint64", "internal/race.Write", "sync.runtime_SemacquireWaitGroup"], unfollowed := true, recurses := true, plainKeys := false, leaving := true, apart := false }
def BspSaysSaid : Prop := bspSaysRow.holds Tryz.pinned (OpenSpec.ofChange bspSaysSpec)

/-- ITS FALSE NEIGHBOUR: 'it returns false'. Refute it at one input. -/
def bspSaysWrong : ChangeSpec := { name := "bspSays", fn := fun _ => fun
  | [d1, d2, d3, d4] => { results := [.lit (.bool false)], args := [d1, d2, d3, d4] }
  | _ => none }
def BspSaysWrongFalsely : Prop := bspSaysRow.holds Tryz.pinned (OpenSpec.ofChange bspSaysWrong)

/-- 'timekeep.BspWorkers': WHATEVER THE INPUT: true; the input reads as it did. -/
def bspWorkersSpec : ChangeSpec := { name := "bspWorkers", fn := fun _ => fun
  | [d1, d2, d3, d4, d5] => { results := [.lit (.bool true)], args := [d1, d2, d3, d4, d5] }
  | _ => none }
def bspWorkersRow : OpenClaim := { program := "ytdpibehpmghghaagreat", sum := "b9c0e6caf41bd388cfb908fe9f64e56f9ed1b6983774d56067f489f48e2ab746", func := "timeweft/timekeep.BspWorkers", spec := "bspWorkers", inPlace := ["(*sync.WaitGroup).Add", "internal/race.ReleaseMerge", "internal/race.Disable", "internal/race.Enable", "internal/synctest.IsInBubble", "internal/synctest.Associate[sync.WaitGroup]", "sync.fatal", "sync/atomic.OrUint64", "sync/atomic.AddUint64", "internal/race.Read", "sync/atomic.LoadUint64", "sync/atomic.StoreUint64", "internal/synctest.Disassociate[sync.WaitGroup]", "sync.runtime_Semrelease", "(*sync.WaitGroup).Done", "(*sync.WaitGroup).Wait", "internal/race.Acquire", "internal/synctest.IsAssociated[sync.WaitGroup]", "sync/atomic.CompareAndSwapUint64", "internal/race.Write", "sync.runtime_SemacquireWaitGroup"], unfollowed := true, recurses := true, plainKeys := false, leaving := true, apart := false }
def BspWorkersSaid : Prop := bspWorkersRow.holds Tryz.pinned (OpenSpec.ofChange bspWorkersSpec)

/-- ITS FALSE NEIGHBOUR: 'it returns false'. Refute it at one input. -/
def bspWorkersWrong : ChangeSpec := { name := "bspWorkers", fn := fun _ => fun
  | [d1, d2, d3, d4, d5] => { results := [.lit (.bool false)], args := [d1, d2, d3, d4, d5] }
  | _ => none }
def BspWorkersWrongFalsely : Prop := bspWorkersRow.holds Tryz.pinned (OpenSpec.ofChange bspWorkersWrong)

/-- 'timetop.TopMore': WHATEVER THE INPUT: true; the input reads as it did. -/
def topMoreSpec : ChangeSpec := { name := "topMore", fn := fun _ => fun
  | [d1, d2, d3, d4] => { results := [.lit (.bool true)], args := [d1, d2, d3, d4] }
  | _ => none }
def topMoreRow : OpenClaim := { program := "ytdpibehpmghghaagreat", sum := "b9c0e6caf41bd388cfb908fe9f64e56f9ed1b6983774d56067f489f48e2ab746", func := "timeweft/timetop.TopMore", spec := "topMore", unfollowed := true, recurses := true, plainKeys := false, leaving := true, apart := false }
def TopMoreSaid : Prop := topMoreRow.holds Tryz.pinned (OpenSpec.ofChange topMoreSpec)

/-- ITS FALSE NEIGHBOUR: 'it returns false'. Refute it at one input. -/
def topMoreWrong : ChangeSpec := { name := "topMore", fn := fun _ => fun
  | [d1, d2, d3, d4] => { results := [.lit (.bool false)], args := [d1, d2, d3, d4] }
  | _ => none }
def TopMoreWrongFalsely : Prop := topMoreRow.holds Tryz.pinned (OpenSpec.ofChange topMoreWrong)

/-- 'timetop.TopSnaps': WHATEVER THE INPUT: true; the input reads as it did. -/
def topSnapsSpec : ChangeSpec := { name := "topSnaps", fn := fun _ => fun
  | [d1, d2, d3] => { results := [.lit (.bool true)], args := [d1, d2, d3] }
  | _ => none }
def topSnapsRow : OpenClaim := { program := "ytdpibehpmghghaagreat", sum := "b9c0e6caf41bd388cfb908fe9f64e56f9ed1b6983774d56067f489f48e2ab746", func := "timeweft/timetop.TopSnaps", spec := "topSnaps", unfollowed := true, recurses := true, plainKeys := false, leaving := true, apart := false }
def TopSnapsSaid : Prop := topSnapsRow.holds Tryz.pinned (OpenSpec.ofChange topSnapsSpec)

/-- ITS FALSE NEIGHBOUR: 'it returns false'. Refute it at one input. -/
def topSnapsWrong : ChangeSpec := { name := "topSnaps", fn := fun _ => fun
  | [d1, d2, d3] => { results := [.lit (.bool false)], args := [d1, d2, d3] }
  | _ => none }
def TopSnapsWrongFalsely : Prop := topSnapsRow.holds Tryz.pinned (OpenSpec.ofChange topSnapsWrong)

/- THE SECOND FORM. 'bulk': how many values and letters a reading holds, each counted each time it is reached (what is shared counts as often as it is met; a slice's spare places count too). A statement '..UptoSaid' is the law's where the arguments, and the package variables that the reading takes, are together of bulk at most 1048576: NARROWER than '..Said'. Prove '..Said' where nothing that the law and all that it calls make is longer than what came in: it says more and counts as full. Else prove '..UptoSaid'. A law counts once. -/
mutual
def uptoBulk {H : Type} : DataW H → Nat
  | .lit (.string bytes) => bytes.length + 1
  | .lit _ => 1
  | .nil => 1
  | .ptr d => uptoBulk d + 1
  | .slice elems spare => uptoBulkAll elems + uptoBulkAll spare + 1
  | .agg parts => uptoBulkAll parts + 1
  | .iface _ d => uptoBulk d + 1
  | .map entries => uptoBulkEntries entries + 1
  | .held _ => 1
def uptoBulkAll {H : Type} : List (DataW H) → Nat
  | [] => 0
  | d :: r => uptoBulk d + uptoBulkAll r
def uptoBulkEntries {H : Type} : List (Lit × DataW H) → Nat
  | [] => 0
  | x :: r => uptoBulkEntry x + uptoBulkEntries r
def uptoBulkEntry {H : Type} : Lit × DataW H → Nat
  | (.string bytes, d) => bytes.length + uptoBulk d + 1
  | (_, d) => uptoBulk d + 1
 end
def uptoSmall : (H : Type) → List (DataW H) → Bool := fun _ ds => decide (uptoBulkAll ds ≤ 1048576)
def OpenSpec.upto (s : _root_.Go.ChangeSpec) : _root_.Go.OpenSpec := { _root_.Go.OpenSpec.ofChange s with cond := some uptoSmall }

/-- 'timekeep.BspPoints', WHERE WHAT IT READS IS OF BULK AT MOST 1048576: true; the input reads as it did. -/
def bspPointsUptoRow : OpenClaim := { program := "ytdpibehpmghghaagreat", sum := "b9c0e6caf41bd388cfb908fe9f64e56f9ed1b6983774d56067f489f48e2ab746", func := "timeweft/timekeep.BspPoints", spec := "bspPoints", unfollowed := true, recurses := true, plainKeys := false, leaving := true, apart := false, narrowed := true }
def BspPointsUptoSaid : Prop := bspPointsUptoRow.holds Tryz.pinned (OpenSpec.upto bspPointsSpec)

/-- 'timelaw.BspSays', WHERE WHAT IT READS IS OF BULK AT MOST 1048576: true; the input reads as it did. -/
def bspSaysUptoRow : OpenClaim := { program := "ytdpibehpmghghaagreat", sum := "b9c0e6caf41bd388cfb908fe9f64e56f9ed1b6983774d56067f489f48e2ab746", func := "timeweft/timelaw.BspSays", spec := "bspSays", inPlace := ["(*sync.WaitGroup).Add", "internal/race.ReleaseMerge", "internal/race.Disable", "internal/race.Enable", "internal/synctest.IsInBubble", "internal/synctest.Associate[sync.WaitGroup]", "sync.fatal", "sync/atomic.OrUint64", "sync/atomic.AddUint64", "internal/race.Read", "sync/atomic.LoadUint64", "sync/atomic.StoreUint64", "internal/synctest.Disassociate[sync.WaitGroup]", "sync.runtime_Semrelease", "(*sync.WaitGroup).Done", "(*sync.WaitGroup).Wait", "internal/race.Acquire", "internal/synctest.IsAssociated[sync.WaitGroup]", "sync/atomic.CompareAndSwapUint64", "internal/race.Write", "sync.runtime_SemacquireWaitGroup"], unfollowed := true, recurses := true, plainKeys := false, leaving := true, apart := false, narrowed := true }
def BspSaysUptoSaid : Prop := bspSaysUptoRow.holds Tryz.pinned (OpenSpec.upto bspSaysSpec)

/-- 'timekeep.BspWorkers', WHERE WHAT IT READS IS OF BULK AT MOST 1048576: true; the input reads as it did. -/
def bspWorkersUptoRow : OpenClaim := { program := "ytdpibehpmghghaagreat", sum := "b9c0e6caf41bd388cfb908fe9f64e56f9ed1b6983774d56067f489f48e2ab746", func := "timeweft/timekeep.BspWorkers", spec := "bspWorkers", inPlace := ["(*sync.WaitGroup).Add", "internal/race.ReleaseMerge", "internal/race.Disable", "internal/race.Enable", "internal/synctest.IsInBubble", "internal/synctest.Associate[sync.WaitGroup]", "sync.fatal", "sync/atomic.OrUint64", "sync/atomic.AddUint64", "internal/race.Read", "sync/atomic.LoadUint64", "sync/atomic.StoreUint64", "internal/synctest.Disassociate[sync.WaitGroup]", "sync.runtime_Semrelease", "(*sync.WaitGroup).Done", "(*sync.WaitGroup).Wait", "internal/race.Acquire", "internal/synctest.IsAssociated[sync.WaitGroup]", "sync/atomic.CompareAndSwapUint64", "internal/race.Write", "sync.runtime_SemacquireWaitGroup"], unfollowed := true, recurses := true, plainKeys := false, leaving := true, apart := false, narrowed := true }
def BspWorkersUptoSaid : Prop := bspWorkersUptoRow.holds Tryz.pinned (OpenSpec.upto bspWorkersSpec)

/-- 'timetop.TopMore', WHERE WHAT IT READS IS OF BULK AT MOST 1048576: true; the input reads as it did. -/
def topMoreUptoRow : OpenClaim := { program := "ytdpibehpmghghaagreat", sum := "b9c0e6caf41bd388cfb908fe9f64e56f9ed1b6983774d56067f489f48e2ab746", func := "timeweft/timetop.TopMore", spec := "topMore", unfollowed := true, recurses := true, plainKeys := false, leaving := true, apart := false, narrowed := true }
def TopMoreUptoSaid : Prop := topMoreUptoRow.holds Tryz.pinned (OpenSpec.upto topMoreSpec)

/-- 'timetop.TopSnaps', WHERE WHAT IT READS IS OF BULK AT MOST 1048576: true; the input reads as it did. -/
def topSnapsUptoRow : OpenClaim := { program := "ytdpibehpmghghaagreat", sum := "b9c0e6caf41bd388cfb908fe9f64e56f9ed1b6983774d56067f489f48e2ab746", func := "timeweft/timetop.TopSnaps", spec := "topSnaps", unfollowed := true, recurses := true, plainKeys := false, leaving := true, apart := false, narrowed := true }
def TopSnapsUptoSaid : Prop := topSnapsUptoRow.holds Tryz.pinned (OpenSpec.upto topSnapsSpec)

end Rows
end Go.Proofs.YtdpibehpmghghaaGreat
