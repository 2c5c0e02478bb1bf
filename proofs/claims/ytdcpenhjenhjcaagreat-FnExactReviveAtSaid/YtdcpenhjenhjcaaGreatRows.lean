/-
  No cell of these rows narrows 'for every input' (looked for: loops, veiled, ifaces, maps, wideKeys, modest, calm, conditions, laid).
  DERIVED. THE GIVEN ROWS OF THIS SEAT. 5 by the template 'for every input the law returns true; each argument reads behind the call as it read before'; 0 by the template 'total and deterministic' (their statements: YtdcpenhjenhjcaaGreatTotals.lean).
  GIVEN WITH THE SEED: the statements are not yours to turn. If you find one false, say at which input.
  Laid BY PROGRAM, IN A SANDBOX (cutbox-rows.mjs): the forced cells as the released guide's own fill.sh prints them over the translation 981335146201cc0e… (all of the seat's roots in one cut). By AI agents, Wed Nov 11 2026. No macro, syntax, notation, axiom, sorry.
-/
import Derived.Test.YtdcpenhjenhjcaaGreatChecked
import GoSem.Claim
import GoSem.ClaimJoined
import GoSem.ClaimMapViews
import Derived.JoinedTies
import Derived.KernelRfl
namespace Go.Proofs.YtdcpenhjenhjcaaGreat
/- THE CELL 'sum', in the pinned program and in every row, IS THE sha256 OF THE DUMP (.gsa) THAT YtdcpenhjenhjcaaGreatProg.lean LOADS. Nothing in Lean hashes anything: it is a label: what it is worth is what the hold of that sum in a sandbox is worth. -/
noncomputable def Tryz.pinned : Pinned := { name := "ytdcpenhjenhjcaagreat", sum := "981335146201cc0e3e0e5678063e09d8befc25f39e959ebe14de6ae53b6d5f89", checked := Tryz.checked }
namespace Rows
def none {H : Type} : Left H := { results := [], args := [] }

/-- 'laws.FnExactIsFinished': WHATEVER THE INPUT: true; the input reads as it did. -/
def fnExactIsFinishedSpec : ChangeSpec := { name := "fnExactIsFinished", fn := fun _ => fun
  | [d] => { results := [.lit (.bool true)], args := [d] }
  | _ => none }
def fnExactIsFinishedRow : OpenClaim := { program := "ytdcpenhjenhjcaagreat", sum := "981335146201cc0e3e0e5678063e09d8befc25f39e959ebe14de6ae53b6d5f89", func := "loop.example/g00586/laws.FnExactIsFinished", spec := "fnExactIsFinished", apart := false }
def FnExactIsFinishedSaid : Prop := fnExactIsFinishedRow.holds Tryz.pinned (OpenSpec.ofChange fnExactIsFinishedSpec)

/-- ITS FALSE NEIGHBOUR: 'it returns false'. Refute it at one input. -/
def fnExactIsFinishedWrong : ChangeSpec := { name := "fnExactIsFinished", fn := fun _ => fun
  | [d] => { results := [.lit (.bool false)], args := [d] }
  | _ => none }
def FnExactIsFinishedWrongFalsely : Prop := fnExactIsFinishedRow.holds Tryz.pinned (OpenSpec.ofChange fnExactIsFinishedWrong)

/-- 'laws.FnExactSavedRequests': WHATEVER THE INPUT: true; the input reads as it did. -/
def fnExactSavedRequestsSpec : ChangeSpec := { name := "fnExactSavedRequests", fn := fun _ => fun
  | [d] => { results := [.lit (.bool true)], args := [d] }
  | _ => none }
def fnExactSavedRequestsRow : OpenClaim := { program := "ytdcpenhjenhjcaagreat", sum := "981335146201cc0e3e0e5678063e09d8befc25f39e959ebe14de6ae53b6d5f89", func := "loop.example/g00586/laws.FnExactSavedRequests", spec := "fnExactSavedRequests", apart := false }
def FnExactSavedRequestsSaid : Prop := fnExactSavedRequestsRow.holds Tryz.pinned (OpenSpec.ofChange fnExactSavedRequestsSpec)

/-- ITS FALSE NEIGHBOUR: 'it returns false'. Refute it at one input. -/
def fnExactSavedRequestsWrong : ChangeSpec := { name := "fnExactSavedRequests", fn := fun _ => fun
  | [d] => { results := [.lit (.bool false)], args := [d] }
  | _ => none }
def FnExactSavedRequestsWrongFalsely : Prop := fnExactSavedRequestsRow.holds Tryz.pinned (OpenSpec.ofChange fnExactSavedRequestsWrong)

/-- 'laws.FnExactPresentPage': WHATEVER THE INPUT: true; the input reads as it did. -/
def fnExactPresentPageSpec : ChangeSpec := { name := "fnExactPresentPage", fn := fun _ => fun
  | [d] => { results := [.lit (.bool true)], args := [d] }
  | _ => none }
def fnExactPresentPageRow : OpenClaim := { program := "ytdcpenhjenhjcaagreat", sum := "981335146201cc0e3e0e5678063e09d8befc25f39e959ebe14de6ae53b6d5f89", func := "loop.example/g00586/laws.FnExactPresentPage", spec := "fnExactPresentPage", apart := false }
def FnExactPresentPageSaid : Prop := fnExactPresentPageRow.holds Tryz.pinned (OpenSpec.ofChange fnExactPresentPageSpec)

/-- ITS FALSE NEIGHBOUR: 'it returns false'. Refute it at one input. -/
def fnExactPresentPageWrong : ChangeSpec := { name := "fnExactPresentPage", fn := fun _ => fun
  | [d] => { results := [.lit (.bool false)], args := [d] }
  | _ => none }
def FnExactPresentPageWrongFalsely : Prop := fnExactPresentPageRow.holds Tryz.pinned (OpenSpec.ofChange fnExactPresentPageWrong)

/-- 'laws.FnExactLoaderWaste': WHATEVER THE INPUT: true; the input reads as it did. -/
def fnExactLoaderWasteSpec : ChangeSpec := { name := "fnExactLoaderWaste", fn := fun _ => fun
  | [d] => { results := [.lit (.bool true)], args := [d] }
  | _ => none }
def fnExactLoaderWasteRow : OpenClaim := { program := "ytdcpenhjenhjcaagreat", sum := "981335146201cc0e3e0e5678063e09d8befc25f39e959ebe14de6ae53b6d5f89", func := "loop.example/g00586/laws.FnExactLoaderWaste", spec := "fnExactLoaderWaste", apart := false }
def FnExactLoaderWasteSaid : Prop := fnExactLoaderWasteRow.holds Tryz.pinned (OpenSpec.ofChange fnExactLoaderWasteSpec)

/-- ITS FALSE NEIGHBOUR: 'it returns false'. Refute it at one input. -/
def fnExactLoaderWasteWrong : ChangeSpec := { name := "fnExactLoaderWaste", fn := fun _ => fun
  | [d] => { results := [.lit (.bool false)], args := [d] }
  | _ => none }
def FnExactLoaderWasteWrongFalsely : Prop := fnExactLoaderWasteRow.holds Tryz.pinned (OpenSpec.ofChange fnExactLoaderWasteWrong)

/-- 'laws.FnExactReviveAt': WHATEVER THE INPUT: true; the input reads as it did. -/
def fnExactReviveAtSpec : ChangeSpec := { name := "fnExactReviveAt", fn := fun _ => fun
  | [d] => { results := [.lit (.bool true)], args := [d] }
  | _ => none }
def fnExactReviveAtRow : OpenClaim := { program := "ytdcpenhjenhjcaagreat", sum := "981335146201cc0e3e0e5678063e09d8befc25f39e959ebe14de6ae53b6d5f89", func := "loop.example/g00586/laws.FnExactReviveAt", spec := "fnExactReviveAt", apart := false }
def FnExactReviveAtSaid : Prop := fnExactReviveAtRow.holds Tryz.pinned (OpenSpec.ofChange fnExactReviveAtSpec)

/-- ITS FALSE NEIGHBOUR: 'it returns false'. Refute it at one input. -/
def fnExactReviveAtWrong : ChangeSpec := { name := "fnExactReviveAt", fn := fun _ => fun
  | [d] => { results := [.lit (.bool false)], args := [d] }
  | _ => none }
def FnExactReviveAtWrongFalsely : Prop := fnExactReviveAtRow.holds Tryz.pinned (OpenSpec.ofChange fnExactReviveAtWrong)

/- THE SECOND FORM. 'bulk': how many values and letters a reading holds, each counted each time it is reached (what is shared counts as often as it is met; a slice's spare places count too). A statement '..UptoSaid' is the law's where the arguments, and the package variables that the reading takes, are together of bulk at most 1048576: NARROWER than '..Said'. Prove '..Said' where nothing that the law and all that it calls make is longer than what came in: it says more and counts as full. Else prove '..UptoSaid'. A law counts once. -/
mutual
def uptoBulk {H : Type} : DataW H → Nat
  | .lit (.string bytes) => bytes.length + 1
  | .lit _ => 1
  | .nil => 1
  | .ptr d => uptoBulk d + 1
  | .slice elems spare => uptoBulkAll elems + uptoBulkAll spare + 1
  | .agg parts => uptoBulkAll parts + 1
  | .iface _ d => uptoBulk d + 1
  | .map entries => uptoBulkEntries entries + 1
  | .held _ => 1
def uptoBulkAll {H : Type} : List (DataW H) → Nat
  | [] => 0
  | d :: r => uptoBulk d + uptoBulkAll r
def uptoBulkEntries {H : Type} : List (Lit × DataW H) → Nat
  | [] => 0
  | x :: r => uptoBulkEntry x + uptoBulkEntries r
def uptoBulkEntry {H : Type} : Lit × DataW H → Nat
  | (.string bytes, d) => bytes.length + uptoBulk d + 1
  | (_, d) => uptoBulk d + 1
 end
def uptoSmall : (H : Type) → List (DataW H) → Bool := fun _ ds => decide (uptoBulkAll ds ≤ 1048576)
def OpenSpec.upto (s : _root_.Go.ChangeSpec) : _root_.Go.OpenSpec := { _root_.Go.OpenSpec.ofChange s with cond := some uptoSmall }

/-- 'laws.FnExactIsFinished', WHERE WHAT IT READS IS OF BULK AT MOST 1048576: true; the input reads as it did. -/
def fnExactIsFinishedUptoRow : OpenClaim := { program := "ytdcpenhjenhjcaagreat", sum := "981335146201cc0e3e0e5678063e09d8befc25f39e959ebe14de6ae53b6d5f89", func := "loop.example/g00586/laws.FnExactIsFinished", spec := "fnExactIsFinished", apart := false, narrowed := true }
def FnExactIsFinishedUptoSaid : Prop := fnExactIsFinishedUptoRow.holds Tryz.pinned (OpenSpec.upto fnExactIsFinishedSpec)

/-- 'laws.FnExactSavedRequests', WHERE WHAT IT READS IS OF BULK AT MOST 1048576: true; the input reads as it did. -/
def fnExactSavedRequestsUptoRow : OpenClaim := { program := "ytdcpenhjenhjcaagreat", sum := "981335146201cc0e3e0e5678063e09d8befc25f39e959ebe14de6ae53b6d5f89", func := "loop.example/g00586/laws.FnExactSavedRequests", spec := "fnExactSavedRequests", apart := false, narrowed := true }
def FnExactSavedRequestsUptoSaid : Prop := fnExactSavedRequestsUptoRow.holds Tryz.pinned (OpenSpec.upto fnExactSavedRequestsSpec)

/-- 'laws.FnExactPresentPage', WHERE WHAT IT READS IS OF BULK AT MOST 1048576: true; the input reads as it did. -/
def fnExactPresentPageUptoRow : OpenClaim := { program := "ytdcpenhjenhjcaagreat", sum := "981335146201cc0e3e0e5678063e09d8befc25f39e959ebe14de6ae53b6d5f89", func := "loop.example/g00586/laws.FnExactPresentPage", spec := "fnExactPresentPage", apart := false, narrowed := true }
def FnExactPresentPageUptoSaid : Prop := fnExactPresentPageUptoRow.holds Tryz.pinned (OpenSpec.upto fnExactPresentPageSpec)

/-- 'laws.FnExactLoaderWaste', WHERE WHAT IT READS IS OF BULK AT MOST 1048576: true; the input reads as it did. -/
def fnExactLoaderWasteUptoRow : OpenClaim := { program := "ytdcpenhjenhjcaagreat", sum := "981335146201cc0e3e0e5678063e09d8befc25f39e959ebe14de6ae53b6d5f89", func := "loop.example/g00586/laws.FnExactLoaderWaste", spec := "fnExactLoaderWaste", apart := false, narrowed := true }
def FnExactLoaderWasteUptoSaid : Prop := fnExactLoaderWasteUptoRow.holds Tryz.pinned (OpenSpec.upto fnExactLoaderWasteSpec)

/-- 'laws.FnExactReviveAt', WHERE WHAT IT READS IS OF BULK AT MOST 1048576: true; the input reads as it did. -/
def fnExactReviveAtUptoRow : OpenClaim := { program := "ytdcpenhjenhjcaagreat", sum := "981335146201cc0e3e0e5678063e09d8befc25f39e959ebe14de6ae53b6d5f89", func := "loop.example/g00586/laws.FnExactReviveAt", spec := "fnExactReviveAt", apart := false, narrowed := true }
def FnExactReviveAtUptoSaid : Prop := fnExactReviveAtUptoRow.holds Tryz.pinned (OpenSpec.upto fnExactReviveAtSpec)

end Rows
end Go.Proofs.YtdcpenhjenhjcaaGreat
