/-
  No cell of these rows narrows 'for every input' (looked for: loops, veiled, ifaces, maps, wideKeys, modest, calm, conditions, laid).
  DERIVED. THE GIVEN ROWS OF THIS SEAT. 7 by the template 'for every input the law returns true; each argument reads behind the call as it read before'; 0 by the template 'total and deterministic' (their statements: YtdcpenhjenhjcaaTotals.lean).
  GIVEN WITH THE SEED: the statements are not yours to turn. If you find one false, say at which input.
  Laid BY PROGRAM, IN A SANDBOX (cutbox-rows.mjs): the forced cells as the released guide's own fill.sh prints them over the translation ae085e305e21e790… (all of the seat's roots in one cut). By AI agents, Wed Nov 11 2026. No macro, syntax, notation, axiom, sorry.
-/
import Derived.Test.YtdcpenhjenhjcaaChecked
import GoSem.Claim
import GoSem.ClaimJoined
import GoSem.ClaimMapViews
import Derived.JoinedTies
import Derived.KernelRfl
namespace Go.Proofs.Ytdcpenhjenhjcaa
/- THE CELL 'sum', in the pinned program and in every row, IS THE sha256 OF THE DUMP (.gsa) THAT YtdcpenhjenhjcaaProg.lean LOADS. Nothing in Lean hashes anything: it is a label: what it is worth is what the hold of that sum in a sandbox is worth. -/
noncomputable def Try.pinned : Pinned := { name := "ytdcpenhjenhjcaa", sum := "ae085e305e21e790e00efba78554a769c8f27b428529fc9514c52783ce9d2184", checked := Try.checked }
namespace Rows
def none {H : Type} : Left H := { results := [], args := [] }

/-- 'laws.FnExactPickRequest': WHATEVER THE INPUT: true; the input reads as it did. -/
def fnExactPickRequestSpec : ChangeSpec := { name := "fnExactPickRequest", fn := fun _ => fun
  | [d1, d2] => { results := [.lit (.bool true)], args := [d1, d2] }
  | _ => none }
def fnExactPickRequestRow : OpenClaim := { program := "ytdcpenhjenhjcaa", sum := "ae085e305e21e790e00efba78554a769c8f27b428529fc9514c52783ce9d2184", func := "loop.example/g00586/laws.FnExactPickRequest", spec := "fnExactPickRequest", apart := false }
def FnExactPickRequestSaid : Prop := fnExactPickRequestRow.holds Try.pinned (OpenSpec.ofChange fnExactPickRequestSpec)

/-- ITS FALSE NEIGHBOUR: 'it returns false'. Refute it at one input. -/
def fnExactPickRequestWrong : ChangeSpec := { name := "fnExactPickRequest", fn := fun _ => fun
  | [d1, d2] => { results := [.lit (.bool false)], args := [d1, d2] }
  | _ => none }
def FnExactPickRequestWrongFalsely : Prop := fnExactPickRequestRow.holds Try.pinned (OpenSpec.ofChange fnExactPickRequestWrong)

/-- 'laws.FnExactSameForOthers': WHATEVER THE INPUT: true; the input reads as it did. -/
def fnExactSameForOthersSpec : ChangeSpec := { name := "fnExactSameForOthers", fn := fun _ => fun
  | [d1, d2, d3, d4] => { results := [.lit (.bool true)], args := [d1, d2, d3, d4] }
  | _ => none }
def fnExactSameForOthersRow : OpenClaim := { program := "ytdcpenhjenhjcaa", sum := "ae085e305e21e790e00efba78554a769c8f27b428529fc9514c52783ce9d2184", func := "loop.example/g00586/laws.FnExactSameForOthers", spec := "fnExactSameForOthers", inPlace := ["internal/bytealg.abigen_runtime_cmpstring"], unfollowed := true, recurses := true, apart := false }
def FnExactSameForOthersSaid : Prop := fnExactSameForOthersRow.holds Try.pinned (OpenSpec.ofChange fnExactSameForOthersSpec)

/-- ITS FALSE NEIGHBOUR: 'it returns false'. Refute it at one input. -/
def fnExactSameForOthersWrong : ChangeSpec := { name := "fnExactSameForOthers", fn := fun _ => fun
  | [d1, d2, d3, d4] => { results := [.lit (.bool false)], args := [d1, d2, d3, d4] }
  | _ => none }
def FnExactSameForOthersWrongFalsely : Prop := fnExactSameForOthersRow.holds Try.pinned (OpenSpec.ofChange fnExactSameForOthersWrong)

/-- 'laws.FnExactLearnedBy': WHATEVER THE INPUT: true; the input reads as it did. -/
def fnExactLearnedBySpec : ChangeSpec := { name := "fnExactLearnedBy", fn := fun _ => fun
  | [d1, d2, d3] => { results := [.lit (.bool true)], args := [d1, d2, d3] }
  | _ => none }
def fnExactLearnedByRow : OpenClaim := { program := "ytdcpenhjenhjcaa", sum := "ae085e305e21e790e00efba78554a769c8f27b428529fc9514c52783ce9d2184", func := "loop.example/g00586/laws.FnExactLearnedBy", spec := "fnExactLearnedBy", inPlace := ["internal/bytealg.abigen_runtime_cmpstring"], unfollowed := true, recurses := true, apart := false }
def FnExactLearnedBySaid : Prop := fnExactLearnedByRow.holds Try.pinned (OpenSpec.ofChange fnExactLearnedBySpec)

/-- ITS FALSE NEIGHBOUR: 'it returns false'. Refute it at one input. -/
def fnExactLearnedByWrong : ChangeSpec := { name := "fnExactLearnedBy", fn := fun _ => fun
  | [d1, d2, d3] => { results := [.lit (.bool false)], args := [d1, d2, d3] }
  | _ => none }
def FnExactLearnedByWrongFalsely : Prop := fnExactLearnedByRow.holds Try.pinned (OpenSpec.ofChange fnExactLearnedByWrong)

/-- 'laws.FnExactEqualTabs': WHATEVER THE INPUT: true; the input reads as it did. -/
def fnExactEqualTabsSpec : ChangeSpec := { name := "fnExactEqualTabs", fn := fun _ => fun
  | [d1, d2] => { results := [.lit (.bool true)], args := [d1, d2] }
  | _ => none }
def fnExactEqualTabsRow : OpenClaim := { program := "ytdcpenhjenhjcaa", sum := "ae085e305e21e790e00efba78554a769c8f27b428529fc9514c52783ce9d2184", func := "loop.example/g00586/laws.FnExactEqualTabs", spec := "fnExactEqualTabs", unfollowed := true, recurses := true, apart := false }
def FnExactEqualTabsSaid : Prop := fnExactEqualTabsRow.holds Try.pinned (OpenSpec.ofChange fnExactEqualTabsSpec)

/-- ITS FALSE NEIGHBOUR: 'it returns false'. Refute it at one input. -/
def fnExactEqualTabsWrong : ChangeSpec := { name := "fnExactEqualTabs", fn := fun _ => fun
  | [d1, d2] => { results := [.lit (.bool false)], args := [d1, d2] }
  | _ => none }
def FnExactEqualTabsWrongFalsely : Prop := fnExactEqualTabsRow.holds Try.pinned (OpenSpec.ofChange fnExactEqualTabsWrong)

/-- 'laws.FnExactLearnedMore': WHATEVER THE INPUT: true; the input reads as it did. -/
def fnExactLearnedMoreSpec : ChangeSpec := { name := "fnExactLearnedMore", fn := fun _ => fun
  | [d1, d2, d3, d4] => { results := [.lit (.bool true)], args := [d1, d2, d3, d4] }
  | _ => none }
def fnExactLearnedMoreRow : OpenClaim := { program := "ytdcpenhjenhjcaa", sum := "ae085e305e21e790e00efba78554a769c8f27b428529fc9514c52783ce9d2184", func := "loop.example/g00586/laws.FnExactLearnedMore", spec := "fnExactLearnedMore", inPlace := ["internal/bytealg.abigen_runtime_cmpstring"], unfollowed := true, recurses := true, apart := false }
def FnExactLearnedMoreSaid : Prop := fnExactLearnedMoreRow.holds Try.pinned (OpenSpec.ofChange fnExactLearnedMoreSpec)

/-- ITS FALSE NEIGHBOUR: 'it returns false'. Refute it at one input. -/
def fnExactLearnedMoreWrong : ChangeSpec := { name := "fnExactLearnedMore", fn := fun _ => fun
  | [d1, d2, d3, d4] => { results := [.lit (.bool false)], args := [d1, d2, d3, d4] }
  | _ => none }
def FnExactLearnedMoreWrongFalsely : Prop := fnExactLearnedMoreRow.holds Try.pinned (OpenSpec.ofChange fnExactLearnedMoreWrong)

/-- 'laws.FnExactRanOnce': WHATEVER THE INPUT: true; the input reads as it did. -/
def fnExactRanOnceSpec : ChangeSpec := { name := "fnExactRanOnce", fn := fun _ => fun
  | [d] => { results := [.lit (.bool true)], args := [d] }
  | _ => none }
def fnExactRanOnceRow : OpenClaim := { program := "ytdcpenhjenhjcaa", sum := "ae085e305e21e790e00efba78554a769c8f27b428529fc9514c52783ce9d2184", func := "loop.example/g00586/laws.FnExactRanOnce", spec := "fnExactRanOnce", inPlace := ["internal/bytealg.abigen_runtime_cmpstring"], unfollowed := true, recurses := true, apart := false }
def FnExactRanOnceSaid : Prop := fnExactRanOnceRow.holds Try.pinned (OpenSpec.ofChange fnExactRanOnceSpec)

/-- ITS FALSE NEIGHBOUR: 'it returns false'. Refute it at one input. -/
def fnExactRanOnceWrong : ChangeSpec := { name := "fnExactRanOnce", fn := fun _ => fun
  | [d] => { results := [.lit (.bool false)], args := [d] }
  | _ => none }
def FnExactRanOnceWrongFalsely : Prop := fnExactRanOnceRow.holds Try.pinned (OpenSpec.ofChange fnExactRanOnceWrong)

/-- 'laws.FnExactSortRequests': WHATEVER THE INPUT: true; the input reads as it did. -/
def fnExactSortRequestsSpec : ChangeSpec := { name := "fnExactSortRequests", fn := fun _ => fun
  | [d1, d2] => { results := [.lit (.bool true)], args := [d1, d2] }
  | _ => none }
def fnExactSortRequestsRow : OpenClaim := { program := "ytdcpenhjenhjcaa", sum := "ae085e305e21e790e00efba78554a769c8f27b428529fc9514c52783ce9d2184", func := "loop.example/g00586/laws.FnExactSortRequests", spec := "fnExactSortRequests", unfollowed := true, recurses := true, apart := false }
def FnExactSortRequestsSaid : Prop := fnExactSortRequestsRow.holds Try.pinned (OpenSpec.ofChange fnExactSortRequestsSpec)

/-- ITS FALSE NEIGHBOUR: 'it returns false'. Refute it at one input. -/
def fnExactSortRequestsWrong : ChangeSpec := { name := "fnExactSortRequests", fn := fun _ => fun
  | [d1, d2] => { results := [.lit (.bool false)], args := [d1, d2] }
  | _ => none }
def FnExactSortRequestsWrongFalsely : Prop := fnExactSortRequestsRow.holds Try.pinned (OpenSpec.ofChange fnExactSortRequestsWrong)

/- THE SECOND FORM. 'bulk': how many values and letters a reading holds, each counted each time it is reached (what is shared counts as often as it is met; a slice's spare places count too). A statement '..UptoSaid' is the law's where the arguments, and the package variables that the reading takes, are together of bulk at most 1048576: NARROWER than '..Said'. Prove '..Said' where nothing that the law and all that it calls make is longer than what came in: it says more and counts as full. Else prove '..UptoSaid'. A law counts once. -/
mutual
def uptoBulk {H : Type} : DataW H → Nat
  | .lit (.string bytes) => bytes.length + 1
  | .lit _ => 1
  | .nil => 1
  | .ptr d => uptoBulk d + 1
  | .slice elems spare => uptoBulkAll elems + uptoBulkAll spare + 1
  | .agg parts => uptoBulkAll parts + 1
  | .iface _ d => uptoBulk d + 1
  | .map entries => uptoBulkEntries entries + 1
  | .held _ => 1
def uptoBulkAll {H : Type} : List (DataW H) → Nat
  | [] => 0
  | d :: r => uptoBulk d + uptoBulkAll r
def uptoBulkEntries {H : Type} : List (Lit × DataW H) → Nat
  | [] => 0
  | x :: r => uptoBulkEntry x + uptoBulkEntries r
def uptoBulkEntry {H : Type} : Lit × DataW H → Nat
  | (.string bytes, d) => bytes.length + uptoBulk d + 1
  | (_, d) => uptoBulk d + 1
 end
def uptoSmall : (H : Type) → List (DataW H) → Bool := fun _ ds => decide (uptoBulkAll ds ≤ 1048576)
def OpenSpec.upto (s : _root_.Go.ChangeSpec) : _root_.Go.OpenSpec := { _root_.Go.OpenSpec.ofChange s with cond := some uptoSmall }

/-- 'laws.FnExactPickRequest', WHERE WHAT IT READS IS OF BULK AT MOST 1048576: true; the input reads as it did. -/
def fnExactPickRequestUptoRow : OpenClaim := { program := "ytdcpenhjenhjcaa", sum := "ae085e305e21e790e00efba78554a769c8f27b428529fc9514c52783ce9d2184", func := "loop.example/g00586/laws.FnExactPickRequest", spec := "fnExactPickRequest", apart := false, narrowed := true }
def FnExactPickRequestUptoSaid : Prop := fnExactPickRequestUptoRow.holds Try.pinned (OpenSpec.upto fnExactPickRequestSpec)

/-- 'laws.FnExactSameForOthers', WHERE WHAT IT READS IS OF BULK AT MOST 1048576: true; the input reads as it did. -/
def fnExactSameForOthersUptoRow : OpenClaim := { program := "ytdcpenhjenhjcaa", sum := "ae085e305e21e790e00efba78554a769c8f27b428529fc9514c52783ce9d2184", func := "loop.example/g00586/laws.FnExactSameForOthers", spec := "fnExactSameForOthers", inPlace := ["internal/bytealg.abigen_runtime_cmpstring"], unfollowed := true, recurses := true, apart := false, narrowed := true }
def FnExactSameForOthersUptoSaid : Prop := fnExactSameForOthersUptoRow.holds Try.pinned (OpenSpec.upto fnExactSameForOthersSpec)

/-- 'laws.FnExactLearnedBy', WHERE WHAT IT READS IS OF BULK AT MOST 1048576: true; the input reads as it did. -/
def fnExactLearnedByUptoRow : OpenClaim := { program := "ytdcpenhjenhjcaa", sum := "ae085e305e21e790e00efba78554a769c8f27b428529fc9514c52783ce9d2184", func := "loop.example/g00586/laws.FnExactLearnedBy", spec := "fnExactLearnedBy", inPlace := ["internal/bytealg.abigen_runtime_cmpstring"], unfollowed := true, recurses := true, apart := false, narrowed := true }
def FnExactLearnedByUptoSaid : Prop := fnExactLearnedByUptoRow.holds Try.pinned (OpenSpec.upto fnExactLearnedBySpec)

/-- 'laws.FnExactEqualTabs', WHERE WHAT IT READS IS OF BULK AT MOST 1048576: true; the input reads as it did. -/
def fnExactEqualTabsUptoRow : OpenClaim := { program := "ytdcpenhjenhjcaa", sum := "ae085e305e21e790e00efba78554a769c8f27b428529fc9514c52783ce9d2184", func := "loop.example/g00586/laws.FnExactEqualTabs", spec := "fnExactEqualTabs", unfollowed := true, recurses := true, apart := false, narrowed := true }
def FnExactEqualTabsUptoSaid : Prop := fnExactEqualTabsUptoRow.holds Try.pinned (OpenSpec.upto fnExactEqualTabsSpec)

/-- 'laws.FnExactLearnedMore', WHERE WHAT IT READS IS OF BULK AT MOST 1048576: true; the input reads as it did. -/
def fnExactLearnedMoreUptoRow : OpenClaim := { program := "ytdcpenhjenhjcaa", sum := "ae085e305e21e790e00efba78554a769c8f27b428529fc9514c52783ce9d2184", func := "loop.example/g00586/laws.FnExactLearnedMore", spec := "fnExactLearnedMore", inPlace := ["internal/bytealg.abigen_runtime_cmpstring"], unfollowed := true, recurses := true, apart := false, narrowed := true }
def FnExactLearnedMoreUptoSaid : Prop := fnExactLearnedMoreUptoRow.holds Try.pinned (OpenSpec.upto fnExactLearnedMoreSpec)

/-- 'laws.FnExactRanOnce', WHERE WHAT IT READS IS OF BULK AT MOST 1048576: true; the input reads as it did. -/
def fnExactRanOnceUptoRow : OpenClaim := { program := "ytdcpenhjenhjcaa", sum := "ae085e305e21e790e00efba78554a769c8f27b428529fc9514c52783ce9d2184", func := "loop.example/g00586/laws.FnExactRanOnce", spec := "fnExactRanOnce", inPlace := ["internal/bytealg.abigen_runtime_cmpstring"], unfollowed := true, recurses := true, apart := false, narrowed := true }
def FnExactRanOnceUptoSaid : Prop := fnExactRanOnceUptoRow.holds Try.pinned (OpenSpec.upto fnExactRanOnceSpec)

/-- 'laws.FnExactSortRequests', WHERE WHAT IT READS IS OF BULK AT MOST 1048576: true; the input reads as it did. -/
def fnExactSortRequestsUptoRow : OpenClaim := { program := "ytdcpenhjenhjcaa", sum := "ae085e305e21e790e00efba78554a769c8f27b428529fc9514c52783ce9d2184", func := "loop.example/g00586/laws.FnExactSortRequests", spec := "fnExactSortRequests", unfollowed := true, recurses := true, apart := false, narrowed := true }
def FnExactSortRequestsUptoSaid : Prop := fnExactSortRequestsUptoRow.holds Try.pinned (OpenSpec.upto fnExactSortRequestsSpec)

end Rows
end Go.Proofs.Ytdcpenhjenhjcaa
