/-
  No cell of these rows narrows 'for every input' (looked for: loops, veiled, ifaces, maps, wideKeys, modest, calm, conditions, laid).
  DERIVED. THE GIVEN ROWS OF THIS SEAT. 6 by the template 'for every input the law returns true; each argument reads behind the call as it read before'; 0 by the template 'total and deterministic' (their statements: YtkadnfkdgljfoaaTotals.lean).
  GIVEN WITH THE SEED: the statements are not yours to turn. If you find one false, say at which input.
  Laid BY PROGRAM, IN A SANDBOX (cutbox-rows.mjs): the forced cells as the released guide's own fill.sh prints them over the translation 9f44feb0f071cb89… (all of the seat's roots in one cut). By AI agents, Wed Nov 11 2026. No macro, syntax, notation, axiom, sorry.
-/
import Derived.Test.YtkadnfkdgljfoaaChecked
import GoSem.Claim
import GoSem.ClaimJoined
import GoSem.ClaimMapViews
import Derived.JoinedTies
import Derived.KernelRfl
namespace Go.Proofs.Ytkadnfkdgljfoaa
/- THE CELL 'sum', in the pinned program and in every row, IS THE sha256 OF THE DUMP (.gsa) THAT YtkadnfkdgljfoaaProg.lean LOADS. Nothing in Lean hashes anything: it is a label: what it is worth is what the hold of that sum in a sandbox is worth. -/
noncomputable def Try.pinned : Pinned := { name := "ytkadnfkdgljfoaa", sum := "9f44feb0f071cb89a2bf2847704ae53c5177b1cd69f2ab9cec95c31b3f086411", checked := Try.checked }
namespace Rows
def none {H : Type} : Left H := { results := [], args := [] }

/-- 'laws.FnExactCloseConn': WHATEVER THE INPUT: true; the input reads as it did. -/
def fnExactCloseConnSpec : ChangeSpec := { name := "fnExactCloseConn", fn := fun _ => fun
  | [d1, d2] => { results := [.lit (.bool true)], args := [d1, d2] }
  | _ => none }
def fnExactCloseConnRow : OpenClaim := { program := "ytkadnfkdgljfoaa", sum := "9f44feb0f071cb89a2bf2847704ae53c5177b1cd69f2ab9cec95c31b3f086411", func := "loop.example/g00586/laws.FnExactCloseConn", spec := "fnExactCloseConn", apart := false }
def FnExactCloseConnSaid : Prop := fnExactCloseConnRow.holds Try.pinned (OpenSpec.ofChange fnExactCloseConnSpec)

/-- ITS FALSE NEIGHBOUR: 'it returns false'. Refute it at one input. -/
def fnExactCloseConnWrong : ChangeSpec := { name := "fnExactCloseConn", fn := fun _ => fun
  | [d1, d2] => { results := [.lit (.bool false)], args := [d1, d2] }
  | _ => none }
def FnExactCloseConnWrongFalsely : Prop := fnExactCloseConnRow.holds Try.pinned (OpenSpec.ofChange fnExactCloseConnWrong)

/-- 'laws.FnGuesses': WHATEVER THE INPUT: true; the input reads as it did. -/
def fnGuessesSpec : ChangeSpec := { name := "fnGuesses", fn := fun _ => fun
  | [d] => { results := [.lit (.bool true)], args := [d] }
  | _ => none }
def fnGuessesRow : OpenClaim := { program := "ytkadnfkdgljfoaa", sum := "9f44feb0f071cb89a2bf2847704ae53c5177b1cd69f2ab9cec95c31b3f086411", func := "loop.example/g00586/laws.FnGuesses", spec := "fnGuesses", unfollowed := true, recurses := true, apart := false }
def FnGuessesSaid : Prop := fnGuessesRow.holds Try.pinned (OpenSpec.ofChange fnGuessesSpec)

/-- ITS FALSE NEIGHBOUR: 'it returns false'. Refute it at one input. -/
def fnGuessesWrong : ChangeSpec := { name := "fnGuesses", fn := fun _ => fun
  | [d] => { results := [.lit (.bool false)], args := [d] }
  | _ => none }
def FnGuessesWrongFalsely : Prop := fnGuessesRow.holds Try.pinned (OpenSpec.ofChange fnGuessesWrong)

/-- 'laws.FnConnections': WHATEVER THE INPUT: true; the input reads as it did. -/
def fnConnectionsSpec : ChangeSpec := { name := "fnConnections", fn := fun _ => fun
  | [d] => { results := [.lit (.bool true)], args := [d] }
  | _ => none }
def fnConnectionsRow : OpenClaim := { program := "ytkadnfkdgljfoaa", sum := "9f44feb0f071cb89a2bf2847704ae53c5177b1cd69f2ab9cec95c31b3f086411", func := "loop.example/g00586/laws.FnConnections", spec := "fnConnections", unfollowed := true, recurses := true, apart := false }
def FnConnectionsSaid : Prop := fnConnectionsRow.holds Try.pinned (OpenSpec.ofChange fnConnectionsSpec)

/-- ITS FALSE NEIGHBOUR: 'it returns false'. Refute it at one input. -/
def fnConnectionsWrong : ChangeSpec := { name := "fnConnections", fn := fun _ => fun
  | [d] => { results := [.lit (.bool false)], args := [d] }
  | _ => none }
def FnConnectionsWrongFalsely : Prop := fnConnectionsRow.holds Try.pinned (OpenSpec.ofChange fnConnectionsWrong)

/-- 'laws.FnExactCutText': WHATEVER THE INPUT: true; the input reads as it did. -/
def fnExactCutTextSpec : ChangeSpec := { name := "fnExactCutText", fn := fun _ => fun
  | [d1, d2] => { results := [.lit (.bool true)], args := [d1, d2] }
  | _ => none }
def fnExactCutTextRow : OpenClaim := { program := "ytkadnfkdgljfoaa", sum := "9f44feb0f071cb89a2bf2847704ae53c5177b1cd69f2ab9cec95c31b3f086411", func := "loop.example/g00586/laws.FnExactCutText", spec := "fnExactCutText", recurses := true, apart := false }
def FnExactCutTextSaid : Prop := fnExactCutTextRow.holds Try.pinned (OpenSpec.ofChange fnExactCutTextSpec)

/-- ITS FALSE NEIGHBOUR: 'it returns false'. Refute it at one input. -/
def fnExactCutTextWrong : ChangeSpec := { name := "fnExactCutText", fn := fun _ => fun
  | [d1, d2] => { results := [.lit (.bool false)], args := [d1, d2] }
  | _ => none }
def FnExactCutTextWrongFalsely : Prop := fnExactCutTextRow.holds Try.pinned (OpenSpec.ofChange fnExactCutTextWrong)

/-- 'laws.FnExactNewTab': WHATEVER THE INPUT: true; the input reads as it did. -/
def fnExactNewTabSpec : ChangeSpec := { name := "fnExactNewTab", fn := fun _ => fun
  | [] => { results := [.lit (.bool true)], args := [] }
  | _ => none }
def fnExactNewTabRow : OpenClaim := { program := "ytkadnfkdgljfoaa", sum := "9f44feb0f071cb89a2bf2847704ae53c5177b1cd69f2ab9cec95c31b3f086411", func := "loop.example/g00586/laws.FnExactNewTab", spec := "fnExactNewTab", apart := false }
def FnExactNewTabSaid : Prop := fnExactNewTabRow.holds Try.pinned (OpenSpec.ofChange fnExactNewTabSpec)

/-- ITS FALSE NEIGHBOUR: 'it returns false'. Refute it at one input. -/
def fnExactNewTabWrong : ChangeSpec := { name := "fnExactNewTab", fn := fun _ => fun
  | [] => { results := [.lit (.bool false)], args := [] }
  | _ => none }
def FnExactNewTabWrongFalsely : Prop := fnExactNewTabRow.holds Try.pinned (OpenSpec.ofChange fnExactNewTabWrong)

/-- 'laws.FnExactSameForOthers': WHATEVER THE INPUT: true; the input reads as it did. -/
def fnExactSameForOthersSpec : ChangeSpec := { name := "fnExactSameForOthers", fn := fun _ => fun
  | [d1, d2, d3, d4] => { results := [.lit (.bool true)], args := [d1, d2, d3, d4] }
  | _ => none }
def fnExactSameForOthersRow : OpenClaim := { program := "ytkadnfkdgljfoaa", sum := "9f44feb0f071cb89a2bf2847704ae53c5177b1cd69f2ab9cec95c31b3f086411", func := "loop.example/g00586/laws.FnExactSameForOthers", spec := "fnExactSameForOthers", inPlace := ["internal/bytealg.abigen_runtime_cmpstring"], unfollowed := true, recurses := true, apart := false }
def FnExactSameForOthersSaid : Prop := fnExactSameForOthersRow.holds Try.pinned (OpenSpec.ofChange fnExactSameForOthersSpec)

/-- ITS FALSE NEIGHBOUR: 'it returns false'. Refute it at one input. -/
def fnExactSameForOthersWrong : ChangeSpec := { name := "fnExactSameForOthers", fn := fun _ => fun
  | [d1, d2, d3, d4] => { results := [.lit (.bool false)], args := [d1, d2, d3, d4] }
  | _ => none }
def FnExactSameForOthersWrongFalsely : Prop := fnExactSameForOthersRow.holds Try.pinned (OpenSpec.ofChange fnExactSameForOthersWrong)

/- THE SECOND FORM. 'bulk': how many values and letters a reading holds, each counted each time it is reached (what is shared counts as often as it is met; a slice's spare places count too). A statement '..UptoSaid' is the law's where the arguments, and the package variables that the reading takes, are together of bulk at most 1048576: NARROWER than '..Said'. Prove '..Said' where nothing that the law and all that it calls make is longer than what came in: it says more and counts as full. Else prove '..UptoSaid'. A law counts once. -/
mutual
def uptoBulk {H : Type} : DataW H → Nat
  | .lit (.string bytes) => bytes.length + 1
  | .lit _ => 1
  | .nil => 1
  | .ptr d => uptoBulk d + 1
  | .slice elems spare => uptoBulkAll elems + uptoBulkAll spare + 1
  | .agg parts => uptoBulkAll parts + 1
  | .iface _ d => uptoBulk d + 1
  | .map entries => uptoBulkEntries entries + 1
  | .held _ => 1
def uptoBulkAll {H : Type} : List (DataW H) → Nat
  | [] => 0
  | d :: r => uptoBulk d + uptoBulkAll r
def uptoBulkEntries {H : Type} : List (Lit × DataW H) → Nat
  | [] => 0
  | x :: r => uptoBulkEntry x + uptoBulkEntries r
def uptoBulkEntry {H : Type} : Lit × DataW H → Nat
  | (.string bytes, d) => bytes.length + uptoBulk d + 1
  | (_, d) => uptoBulk d + 1
 end
def uptoSmall : (H : Type) → List (DataW H) → Bool := fun _ ds => decide (uptoBulkAll ds ≤ 1048576)
def OpenSpec.upto (s : _root_.Go.ChangeSpec) : _root_.Go.OpenSpec := { _root_.Go.OpenSpec.ofChange s with cond := some uptoSmall }

/-- 'laws.FnExactCloseConn', WHERE WHAT IT READS IS OF BULK AT MOST 1048576: true; the input reads as it did. -/
def fnExactCloseConnUptoRow : OpenClaim := { program := "ytkadnfkdgljfoaa", sum := "9f44feb0f071cb89a2bf2847704ae53c5177b1cd69f2ab9cec95c31b3f086411", func := "loop.example/g00586/laws.FnExactCloseConn", spec := "fnExactCloseConn", apart := false, narrowed := true }
def FnExactCloseConnUptoSaid : Prop := fnExactCloseConnUptoRow.holds Try.pinned (OpenSpec.upto fnExactCloseConnSpec)

/-- 'laws.FnGuesses', WHERE WHAT IT READS IS OF BULK AT MOST 1048576: true; the input reads as it did. -/
def fnGuessesUptoRow : OpenClaim := { program := "ytkadnfkdgljfoaa", sum := "9f44feb0f071cb89a2bf2847704ae53c5177b1cd69f2ab9cec95c31b3f086411", func := "loop.example/g00586/laws.FnGuesses", spec := "fnGuesses", unfollowed := true, recurses := true, apart := false, narrowed := true }
def FnGuessesUptoSaid : Prop := fnGuessesUptoRow.holds Try.pinned (OpenSpec.upto fnGuessesSpec)

/-- 'laws.FnConnections', WHERE WHAT IT READS IS OF BULK AT MOST 1048576: true; the input reads as it did. -/
def fnConnectionsUptoRow : OpenClaim := { program := "ytkadnfkdgljfoaa", sum := "9f44feb0f071cb89a2bf2847704ae53c5177b1cd69f2ab9cec95c31b3f086411", func := "loop.example/g00586/laws.FnConnections", spec := "fnConnections", unfollowed := true, recurses := true, apart := false, narrowed := true }
def FnConnectionsUptoSaid : Prop := fnConnectionsUptoRow.holds Try.pinned (OpenSpec.upto fnConnectionsSpec)

/-- 'laws.FnExactCutText', WHERE WHAT IT READS IS OF BULK AT MOST 1048576: true; the input reads as it did. -/
def fnExactCutTextUptoRow : OpenClaim := { program := "ytkadnfkdgljfoaa", sum := "9f44feb0f071cb89a2bf2847704ae53c5177b1cd69f2ab9cec95c31b3f086411", func := "loop.example/g00586/laws.FnExactCutText", spec := "fnExactCutText", recurses := true, apart := false, narrowed := true }
def FnExactCutTextUptoSaid : Prop := fnExactCutTextUptoRow.holds Try.pinned (OpenSpec.upto fnExactCutTextSpec)

/-- 'laws.FnExactNewTab', WHERE WHAT IT READS IS OF BULK AT MOST 1048576: true; the input reads as it did. -/
def fnExactNewTabUptoRow : OpenClaim := { program := "ytkadnfkdgljfoaa", sum := "9f44feb0f071cb89a2bf2847704ae53c5177b1cd69f2ab9cec95c31b3f086411", func := "loop.example/g00586/laws.FnExactNewTab", spec := "fnExactNewTab", apart := false, narrowed := true }
def FnExactNewTabUptoSaid : Prop := fnExactNewTabUptoRow.holds Try.pinned (OpenSpec.upto fnExactNewTabSpec)

/-- 'laws.FnExactSameForOthers', WHERE WHAT IT READS IS OF BULK AT MOST 1048576: true; the input reads as it did. -/
def fnExactSameForOthersUptoRow : OpenClaim := { program := "ytkadnfkdgljfoaa", sum := "9f44feb0f071cb89a2bf2847704ae53c5177b1cd69f2ab9cec95c31b3f086411", func := "loop.example/g00586/laws.FnExactSameForOthers", spec := "fnExactSameForOthers", inPlace := ["internal/bytealg.abigen_runtime_cmpstring"], unfollowed := true, recurses := true, apart := false, narrowed := true }
def FnExactSameForOthersUptoSaid : Prop := fnExactSameForOthersUptoRow.holds Try.pinned (OpenSpec.upto fnExactSameForOthersSpec)

end Rows
end Go.Proofs.Ytkadnfkdgljfoaa
