/-
  No cell of these rows narrows 'for every input' (looked for: loops, veiled, ifaces, maps, wideKeys, modest, calm, conditions, laid).
  DERIVED. THE GIVEN ROWS OF THIS SEAT. 6 by the template 'for every input the law returns true; each argument reads behind the call as it read before'; 0 by the template 'total and deterministic' (their statements: YtejedbknpjffkaaTotals.lean).
  GIVEN WITH THE SEED: the statements are not yours to turn. If you find one false, say at which input.
  Laid BY PROGRAM, IN A SANDBOX (cutbox-rows.mjs): the forced cells as the released guide's own fill.sh prints them over the translation 029244aaf2a7b0e6… (all of the seat's roots in one cut). By AI agents, Wed Nov 11 2026. No macro, syntax, notation, axiom, sorry.
-/
import Derived.Test.YtejedbknpjffkaaChecked
import GoSem.Claim
import GoSem.ClaimJoined
import GoSem.ClaimMapViews
import Derived.JoinedTies
import Derived.KernelRfl
namespace Go.Proofs.Ytejedbknpjffkaa
/- THE CELL 'sum', in the pinned program and in every row, IS THE sha256 OF THE DUMP (.gsa) THAT YtejedbknpjffkaaProg.lean LOADS. Nothing in Lean hashes anything: it is a label: what it is worth is what the hold of that sum in a sandbox is worth. -/
noncomputable def Try.pinned : Pinned := { name := "ytejedbknpjffkaa", sum := "029244aaf2a7b0e689c60505e6c57c771c49cb7a0ce490fd0d040c0fd79649ff", checked := Try.checked }
namespace Rows
def none {H : Type} : Left H := { results := [], args := [] }

/-- 'doorkeeperlaw08.MachineSums': WHATEVER THE INPUT: true; the input reads as it did. -/
def machineSumsSpec : ChangeSpec := { name := "machineSums", fn := fun _ => fun
  | [d1, d2] => { results := [.lit (.bool true)], args := [d1, d2] }
  | _ => none }
def machineSumsRow : OpenClaim := { program := "ytejedbknpjffkaa", sum := "029244aaf2a7b0e689c60505e6c57c771c49cb7a0ce490fd0d040c0fd79649ff", func := "doorkeeper/doorkeeperlaw08.MachineSums", spec := "machineSums", inPlace := ["sync/atomic.AddInt64"], unfollowed := true, recurses := true, leaving := true, apart := false }
def MachineSumsSaid : Prop := machineSumsRow.holds Try.pinned (OpenSpec.ofChange machineSumsSpec)

/-- ITS FALSE NEIGHBOUR: 'it returns false'. Refute it at one input. -/
def machineSumsWrong : ChangeSpec := { name := "machineSums", fn := fun _ => fun
  | [d1, d2] => { results := [.lit (.bool false)], args := [d1, d2] }
  | _ => none }
def MachineSumsWrongFalsely : Prop := machineSumsRow.holds Try.pinned (OpenSpec.ofChange machineSumsWrong)

/-- 'doorkeeperlaw05.PermitTells': WHATEVER THE INPUT: true; the input reads as it did. -/
def permitTellsSpec : ChangeSpec := { name := "permitTells", fn := fun _ => fun
  | [d1, d2] => { results := [.lit (.bool true)], args := [d1, d2] }
  | _ => none }
def permitTellsRow : OpenClaim := { program := "ytejedbknpjffkaa", sum := "029244aaf2a7b0e689c60505e6c57c771c49cb7a0ce490fd0d040c0fd79649ff", func := "doorkeeper/doorkeeperlaw05.PermitTells", spec := "permitTells", inPlace := ["(*sync.WaitGroup).Add", "internal/race.ReleaseMerge", "internal/race.Disable", "internal/race.Enable", "internal/synctest.IsInBubble", "internal/synctest.Associate[sync.WaitGroup]", "sync.fatal", "sync/atomic.OrUint64", "sync/atomic.AddUint64", "internal/race.Read", "sync/atomic.LoadUint64", "sync/atomic.StoreUint64", "internal/synctest.Disassociate[sync.WaitGroup]", "sync.runtime_Semrelease", "(*sync.WaitGroup).Done", "(*sync.WaitGroup).Wait", "internal/race.Acquire", "internal/synctest.IsAssociated[sync.WaitGroup]", "sync/atomic.CompareAndSwapUint64", "internal/race.Write", "sync.runtime_SemacquireWaitGroup"], unfollowed := true, recurses := true, leaving := true, apart := false }
def PermitTellsSaid : Prop := permitTellsRow.holds Try.pinned (OpenSpec.ofChange permitTellsSpec)

/-- ITS FALSE NEIGHBOUR: 'it returns false'. Refute it at one input. -/
def permitTellsWrong : ChangeSpec := { name := "permitTells", fn := fun _ => fun
  | [d1, d2] => { results := [.lit (.bool false)], args := [d1, d2] }
  | _ => none }
def PermitTellsWrongFalsely : Prop := permitTellsRow.holds Try.pinned (OpenSpec.ofChange permitTellsWrong)

/-- 'doorkeeperlaw05.PermitRelays': WHATEVER THE INPUT: true; the input reads as it did. -/
def permitRelaysSpec : ChangeSpec := { name := "permitRelays", fn := fun _ => fun
  | [d1, d2] => { results := [.lit (.bool true)], args := [d1, d2] }
  | _ => none }
def permitRelaysRow : OpenClaim := { program := "ytejedbknpjffkaa", sum := "029244aaf2a7b0e689c60505e6c57c771c49cb7a0ce490fd0d040c0fd79649ff", func := "doorkeeper/doorkeeperlaw05.PermitRelays", spec := "permitRelays", inPlace := ["(*sync.WaitGroup).Add", "internal/race.ReleaseMerge", "internal/race.Disable", "internal/race.Enable", "internal/synctest.IsInBubble", "internal/synctest.Associate[sync.WaitGroup]", "sync.fatal", "sync/atomic.OrUint64", "sync/atomic.AddUint64", "internal/race.Read", "sync/atomic.LoadUint64", "sync/atomic.StoreUint64", "internal/synctest.Disassociate[sync.WaitGroup]", "sync.runtime_Semrelease", "(*sync.WaitGroup).Done", "(*sync.WaitGroup).Wait", "internal/race.Acquire", "internal/synctest.IsAssociated[sync.WaitGroup]", "sync/atomic.CompareAndSwapUint64", "internal/race.Write", "sync.runtime_SemacquireWaitGroup"], unfollowed := true, recurses := true, leaving := true, apart := false }
def PermitRelaysSaid : Prop := permitRelaysRow.holds Try.pinned (OpenSpec.ofChange permitRelaysSpec)

/-- ITS FALSE NEIGHBOUR: 'it returns false'. Refute it at one input. -/
def permitRelaysWrong : ChangeSpec := { name := "permitRelays", fn := fun _ => fun
  | [d1, d2] => { results := [.lit (.bool false)], args := [d1, d2] }
  | _ => none }
def PermitRelaysWrongFalsely : Prop := permitRelaysRow.holds Try.pinned (OpenSpec.ofChange permitRelaysWrong)

/-- 'doorkeeperlaw05.PermitKept': WHATEVER THE INPUT: true; the input reads as it did. -/
def permitKeptSpec : ChangeSpec := { name := "permitKept", fn := fun _ => fun
  | [d1, d2, d3] => { results := [.lit (.bool true)], args := [d1, d2, d3] }
  | _ => none }
def permitKeptRow : OpenClaim := { program := "ytejedbknpjffkaa", sum := "029244aaf2a7b0e689c60505e6c57c771c49cb7a0ce490fd0d040c0fd79649ff", func := "doorkeeper/doorkeeperlaw05.PermitKept", spec := "permitKept", inPlace := ["(*sync.WaitGroup).Add", "internal/race.ReleaseMerge", "internal/race.Disable", "internal/race.Enable", "internal/synctest.IsInBubble", "internal/synctest.Associate[sync.WaitGroup]", "sync.fatal", "sync/atomic.OrUint64", "sync/atomic.AddUint64", "internal/race.Read", "sync/atomic.LoadUint64", "sync/atomic.StoreUint64", "internal/synctest.Disassociate[sync.WaitGroup]", "sync.runtime_Semrelease", "(*sync.WaitGroup).Done", "(*sync.WaitGroup).Wait", "internal/race.Acquire", "internal/synctest.IsAssociated[sync.WaitGroup]", "sync/atomic.CompareAndSwapUint64", "internal/race.Write", "sync.runtime_SemacquireWaitGroup"], unfollowed := true, recurses := true, leaving := true, apart := false }
def PermitKeptSaid : Prop := permitKeptRow.holds Try.pinned (OpenSpec.ofChange permitKeptSpec)

/-- ITS FALSE NEIGHBOUR: 'it returns false'. Refute it at one input. -/
def permitKeptWrong : ChangeSpec := { name := "permitKept", fn := fun _ => fun
  | [d1, d2, d3] => { results := [.lit (.bool false)], args := [d1, d2, d3] }
  | _ => none }
def PermitKeptWrongFalsely : Prop := permitKeptRow.holds Try.pinned (OpenSpec.ofChange permitKeptWrong)

/-- 'doorkeeperlaw05.PermitKnown': WHATEVER THE INPUT: true; the input reads as it did. -/
def permitKnownSpec : ChangeSpec := { name := "permitKnown", fn := fun _ => fun
  | [] => { results := [.lit (.bool true)], args := [] }
  | _ => none }
def permitKnownRow : OpenClaim := { program := "ytejedbknpjffkaa", sum := "029244aaf2a7b0e689c60505e6c57c771c49cb7a0ce490fd0d040c0fd79649ff", func := "doorkeeper/doorkeeperlaw05.PermitKnown", spec := "permitKnown", inPlace := ["(*sync.WaitGroup).Add", "internal/race.ReleaseMerge", "internal/race.Disable", "internal/race.Enable", "internal/synctest.IsInBubble", "internal/synctest.Associate[sync.WaitGroup]", "sync.fatal", "sync/atomic.OrUint64", "sync/atomic.AddUint64", "internal/race.Read", "sync/atomic.LoadUint64", "sync/atomic.StoreUint64", "internal/synctest.Disassociate[sync.WaitGroup]", "sync.runtime_Semrelease", "(*sync.WaitGroup).Done", "(*sync.WaitGroup).Wait", "internal/race.Acquire", "internal/synctest.IsAssociated[sync.WaitGroup]", "sync/atomic.CompareAndSwapUint64", "internal/race.Write", "sync.runtime_SemacquireWaitGroup"], unfollowed := true, recurses := true, leaving := true, apart := false }
def PermitKnownSaid : Prop := permitKnownRow.holds Try.pinned (OpenSpec.ofChange permitKnownSpec)

/-- ITS FALSE NEIGHBOUR: 'it returns false'. Refute it at one input. -/
def permitKnownWrong : ChangeSpec := { name := "permitKnown", fn := fun _ => fun
  | [] => { results := [.lit (.bool false)], args := [] }
  | _ => none }
def PermitKnownWrongFalsely : Prop := permitKnownRow.holds Try.pinned (OpenSpec.ofChange permitKnownWrong)

/-- 'doorkeeperlaw06.TaskPlays': WHATEVER THE INPUT: true; the input reads as it did. -/
def taskPlaysSpec : ChangeSpec := { name := "taskPlays", fn := fun _ => fun
  | [d1, d2] => { results := [.lit (.bool true)], args := [d1, d2] }
  | _ => none }
def taskPlaysRow : OpenClaim := { program := "ytejedbknpjffkaa", sum := "029244aaf2a7b0e689c60505e6c57c771c49cb7a0ce490fd0d040c0fd79649ff", func := "doorkeeper/doorkeeperlaw06.TaskPlays", spec := "taskPlays", inPlace := ["sync/atomic.AddInt64", "sync/atomic.LoadInt64"], unfollowed := true, recurses := true, leaving := true, apart := false }
def TaskPlaysSaid : Prop := taskPlaysRow.holds Try.pinned (OpenSpec.ofChange taskPlaysSpec)

/-- ITS FALSE NEIGHBOUR: 'it returns false'. Refute it at one input. -/
def taskPlaysWrong : ChangeSpec := { name := "taskPlays", fn := fun _ => fun
  | [d1, d2] => { results := [.lit (.bool false)], args := [d1, d2] }
  | _ => none }
def TaskPlaysWrongFalsely : Prop := taskPlaysRow.holds Try.pinned (OpenSpec.ofChange taskPlaysWrong)

/- THE SECOND FORM. 'bulk': how many values and letters a reading holds, each counted each time it is reached (what is shared counts as often as it is met; a slice's spare places count too). A statement '..UptoSaid' is the law's where the arguments, and the package variables that the reading takes, are together of bulk at most 1048576: NARROWER than '..Said'. Prove '..Said' where nothing that the law and all that it calls make is longer than what came in: it says more and counts as full. Else prove '..UptoSaid'. A law counts once. -/
mutual
def uptoBulk {H : Type} : DataW H → Nat
  | .lit (.string bytes) => bytes.length + 1
  | .lit _ => 1
  | .nil => 1
  | .ptr d => uptoBulk d + 1
  | .slice elems spare => uptoBulkAll elems + uptoBulkAll spare + 1
  | .agg parts => uptoBulkAll parts + 1
  | .iface _ d => uptoBulk d + 1
  | .map entries => uptoBulkEntries entries + 1
  | .held _ => 1
def uptoBulkAll {H : Type} : List (DataW H) → Nat
  | [] => 0
  | d :: r => uptoBulk d + uptoBulkAll r
def uptoBulkEntries {H : Type} : List (Lit × DataW H) → Nat
  | [] => 0
  | x :: r => uptoBulkEntry x + uptoBulkEntries r
def uptoBulkEntry {H : Type} : Lit × DataW H → Nat
  | (.string bytes, d) => bytes.length + uptoBulk d + 1
  | (_, d) => uptoBulk d + 1
 end
def uptoSmall : (H : Type) → List (DataW H) → Bool := fun _ ds => decide (uptoBulkAll ds ≤ 1048576)
def OpenSpec.upto (s : _root_.Go.ChangeSpec) : _root_.Go.OpenSpec := { _root_.Go.OpenSpec.ofChange s with cond := some uptoSmall }

/-- 'doorkeeperlaw08.MachineSums', WHERE WHAT IT READS IS OF BULK AT MOST 1048576: true; the input reads as it did. -/
def machineSumsUptoRow : OpenClaim := { program := "ytejedbknpjffkaa", sum := "029244aaf2a7b0e689c60505e6c57c771c49cb7a0ce490fd0d040c0fd79649ff", func := "doorkeeper/doorkeeperlaw08.MachineSums", spec := "machineSums", inPlace := ["sync/atomic.AddInt64"], unfollowed := true, recurses := true, leaving := true, apart := false, narrowed := true }
def MachineSumsUptoSaid : Prop := machineSumsUptoRow.holds Try.pinned (OpenSpec.upto machineSumsSpec)

/-- 'doorkeeperlaw05.PermitTells', WHERE WHAT IT READS IS OF BULK AT MOST 1048576: true; the input reads as it did. -/
def permitTellsUptoRow : OpenClaim := { program := "ytejedbknpjffkaa", sum := "029244aaf2a7b0e689c60505e6c57c771c49cb7a0ce490fd0d040c0fd79649ff", func := "doorkeeper/doorkeeperlaw05.PermitTells", spec := "permitTells", inPlace := ["(*sync.WaitGroup).Add", "internal/race.ReleaseMerge", "internal/race.Disable", "internal/race.Enable", "internal/synctest.IsInBubble", "internal/synctest.Associate[sync.WaitGroup]", "sync.fatal", "sync/atomic.OrUint64", "sync/atomic.AddUint64", "internal/race.Read", "sync/atomic.LoadUint64", "sync/atomic.StoreUint64", "internal/synctest.Disassociate[sync.WaitGroup]", "sync.runtime_Semrelease", "(*sync.WaitGroup).Done", "(*sync.WaitGroup).Wait", "internal/race.Acquire", "internal/synctest.IsAssociated[sync.WaitGroup]", "sync/atomic.CompareAndSwapUint64", "internal/race.Write", "sync.runtime_SemacquireWaitGroup"], unfollowed := true, recurses := true, leaving := true, apart := false, narrowed := true }
def PermitTellsUptoSaid : Prop := permitTellsUptoRow.holds Try.pinned (OpenSpec.upto permitTellsSpec)

/-- 'doorkeeperlaw05.PermitRelays', WHERE WHAT IT READS IS OF BULK AT MOST 1048576: true; the input reads as it did. -/
def permitRelaysUptoRow : OpenClaim := { program := "ytejedbknpjffkaa", sum := "029244aaf2a7b0e689c60505e6c57c771c49cb7a0ce490fd0d040c0fd79649ff", func := "doorkeeper/doorkeeperlaw05.PermitRelays", spec := "permitRelays", inPlace := ["(*sync.WaitGroup).Add", "internal/race.ReleaseMerge", "internal/race.Disable", "internal/race.Enable", "internal/synctest.IsInBubble", "internal/synctest.Associate[sync.WaitGroup]", "sync.fatal", "sync/atomic.OrUint64", "sync/atomic.AddUint64", "internal/race.Read", "sync/atomic.LoadUint64", "sync/atomic.StoreUint64", "internal/synctest.Disassociate[sync.WaitGroup]", "sync.runtime_Semrelease", "(*sync.WaitGroup).Done", "(*sync.WaitGroup).Wait", "internal/race.Acquire", "internal/synctest.IsAssociated[sync.WaitGroup]", "sync/atomic.CompareAndSwapUint64", "internal/race.Write", "sync.runtime_SemacquireWaitGroup"], unfollowed := true, recurses := true, leaving := true, apart := false, narrowed := true }
def PermitRelaysUptoSaid : Prop := permitRelaysUptoRow.holds Try.pinned (OpenSpec.upto permitRelaysSpec)

/-- 'doorkeeperlaw05.PermitKept', WHERE WHAT IT READS IS OF BULK AT MOST 1048576: true; the input reads as it did. -/
def permitKeptUptoRow : OpenClaim := { program := "ytejedbknpjffkaa", sum := "029244aaf2a7b0e689c60505e6c57c771c49cb7a0ce490fd0d040c0fd79649ff", func := "doorkeeper/doorkeeperlaw05.PermitKept", spec := "permitKept", inPlace := ["(*sync.WaitGroup).Add", "internal/race.ReleaseMerge", "internal/race.Disable", "internal/race.Enable", "internal/synctest.IsInBubble", "internal/synctest.Associate[sync.WaitGroup]", "sync.fatal", "sync/atomic.OrUint64", "sync/atomic.AddUint64", "internal/race.Read", "sync/atomic.LoadUint64", "sync/atomic.StoreUint64", "internal/synctest.Disassociate[sync.WaitGroup]", "sync.runtime_Semrelease", "(*sync.WaitGroup).Done", "(*sync.WaitGroup).Wait", "internal/race.Acquire", "internal/synctest.IsAssociated[sync.WaitGroup]", "sync/atomic.CompareAndSwapUint64", "internal/race.Write", "sync.runtime_SemacquireWaitGroup"], unfollowed := true, recurses := true, leaving := true, apart := false, narrowed := true }
def PermitKeptUptoSaid : Prop := permitKeptUptoRow.holds Try.pinned (OpenSpec.upto permitKeptSpec)

/-- 'doorkeeperlaw05.PermitKnown', WHERE WHAT IT READS IS OF BULK AT MOST 1048576: true; the input reads as it did. -/
def permitKnownUptoRow : OpenClaim := { program := "ytejedbknpjffkaa", sum := "029244aaf2a7b0e689c60505e6c57c771c49cb7a0ce490fd0d040c0fd79649ff", func := "doorkeeper/doorkeeperlaw05.PermitKnown", spec := "permitKnown", inPlace := ["(*sync.WaitGroup).Add", "internal/race.ReleaseMerge", "internal/race.Disable", "internal/race.Enable", "internal/synctest.IsInBubble", "internal/synctest.Associate[sync.WaitGroup]", "sync.fatal", "sync/atomic.OrUint64", "sync/atomic.AddUint64", "internal/race.Read", "sync/atomic.LoadUint64", "sync/atomic.StoreUint64", "internal/synctest.Disassociate[sync.WaitGroup]", "sync.runtime_Semrelease", "(*sync.WaitGroup).Done", "(*sync.WaitGroup).Wait", "internal/race.Acquire", "internal/synctest.IsAssociated[sync.WaitGroup]", "sync/atomic.CompareAndSwapUint64", "internal/race.Write", "sync.runtime_SemacquireWaitGroup"], unfollowed := true, recurses := true, leaving := true, apart := false, narrowed := true }
def PermitKnownUptoSaid : Prop := permitKnownUptoRow.holds Try.pinned (OpenSpec.upto permitKnownSpec)

/-- 'doorkeeperlaw06.TaskPlays', WHERE WHAT IT READS IS OF BULK AT MOST 1048576: true; the input reads as it did. -/
def taskPlaysUptoRow : OpenClaim := { program := "ytejedbknpjffkaa", sum := "029244aaf2a7b0e689c60505e6c57c771c49cb7a0ce490fd0d040c0fd79649ff", func := "doorkeeper/doorkeeperlaw06.TaskPlays", spec := "taskPlays", inPlace := ["sync/atomic.AddInt64", "sync/atomic.LoadInt64"], unfollowed := true, recurses := true, leaving := true, apart := false, narrowed := true }
def TaskPlaysUptoSaid : Prop := taskPlaysUptoRow.holds Try.pinned (OpenSpec.upto taskPlaysSpec)

end Rows
end Go.Proofs.Ytejedbknpjffkaa
