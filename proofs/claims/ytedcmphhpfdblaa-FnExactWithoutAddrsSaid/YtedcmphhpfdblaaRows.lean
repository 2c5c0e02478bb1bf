/-
  No cell of these rows narrows 'for every input' (looked for: loops, veiled, ifaces, maps, wideKeys, modest, calm, conditions, laid).
  DERIVED. THE GIVEN ROWS OF THIS SEAT. 12 by the template 'for every input the law returns true; each argument reads behind the call as it read before'; 0 by the template 'total and deterministic' (their statements: YtedcmphhpfdblaaTotals.lean).
  GIVEN WITH THE SEED: the statements are not yours to turn. If you find one false, say at which input.
  Laid BY PROGRAM, IN A SANDBOX (cutbox-rows.mjs): the forced cells as the released guide's own fill.sh prints them over the translation 3466e68f0226dcb9… (all of the seat's roots in one cut). By AI agents, Wed Nov 11 2026. No macro, syntax, notation, axiom, sorry.
-/
import Derived.Test.YtedcmphhpfdblaaChecked
import GoSem.Claim
import GoSem.ClaimJoined
import GoSem.ClaimMapViews
import Derived.JoinedTies
import Derived.KernelRfl
namespace Go.Proofs.Ytedcmphhpfdblaa
/- THE CELL 'sum', in the pinned program and in every row, IS THE sha256 OF THE DUMP (.gsa) THAT YtedcmphhpfdblaaProg.lean LOADS. Nothing in Lean hashes anything: it is a label: what it is worth is what the hold of that sum in a sandbox is worth. -/
noncomputable def Try.pinned : Pinned := { name := "ytedcmphhpfdblaa", sum := "3466e68f0226dcb9d4682d189a58be8805eda6b3fe4c21265614e48bb835a7cc", checked := Try.checked }
namespace Rows
def none {H : Type} : Left H := { results := [], args := [] }

/-- 'laws.FnExactWasteBudget': WHATEVER THE INPUT: true; the input reads as it did. -/
def fnExactWasteBudgetSpec : ChangeSpec := { name := "fnExactWasteBudget", fn := fun _ => fun
  | [] => { results := [.lit (.bool true)], args := [] }
  | _ => none }
def fnExactWasteBudgetRow : OpenClaim := { program := "ytedcmphhpfdblaa", sum := "3466e68f0226dcb9d4682d189a58be8805eda6b3fe4c21265614e48bb835a7cc", func := "loop.example/g00586/laws.FnExactWasteBudget", spec := "fnExactWasteBudget", apart := false }
def FnExactWasteBudgetSaid : Prop := fnExactWasteBudgetRow.holds Try.pinned (OpenSpec.ofChange fnExactWasteBudgetSpec)

/-- ITS FALSE NEIGHBOUR: 'it returns false'. Refute it at one input. -/
def fnExactWasteBudgetWrong : ChangeSpec := { name := "fnExactWasteBudget", fn := fun _ => fun
  | [] => { results := [.lit (.bool false)], args := [] }
  | _ => none }
def FnExactWasteBudgetWrongFalsely : Prop := fnExactWasteBudgetRow.holds Try.pinned (OpenSpec.ofChange fnExactWasteBudgetWrong)

/-- 'laws.FnExactActionName': WHATEVER THE INPUT: true; the input reads as it did. -/
def fnExactActionNameSpec : ChangeSpec := { name := "fnExactActionName", fn := fun _ => fun
  | [d] => { results := [.lit (.bool true)], args := [d] }
  | _ => none }
def fnExactActionNameRow : OpenClaim := { program := "ytedcmphhpfdblaa", sum := "3466e68f0226dcb9d4682d189a58be8805eda6b3fe4c21265614e48bb835a7cc", func := "loop.example/g00586/laws.FnExactActionName", spec := "fnExactActionName", apart := false }
def FnExactActionNameSaid : Prop := fnExactActionNameRow.holds Try.pinned (OpenSpec.ofChange fnExactActionNameSpec)

/-- ITS FALSE NEIGHBOUR: 'it returns false'. Refute it at one input. -/
def fnExactActionNameWrong : ChangeSpec := { name := "fnExactActionName", fn := fun _ => fun
  | [d] => { results := [.lit (.bool false)], args := [d] }
  | _ => none }
def FnExactActionNameWrongFalsely : Prop := fnExactActionNameRow.holds Try.pinned (OpenSpec.ofChange fnExactActionNameWrong)

/-- 'laws.FnExactIsOwnGuess': WHATEVER THE INPUT: true; the input reads as it did. -/
def fnExactIsOwnGuessSpec : ChangeSpec := { name := "fnExactIsOwnGuess", fn := fun _ => fun
  | [d] => { results := [.lit (.bool true)], args := [d] }
  | _ => none }
def fnExactIsOwnGuessRow : OpenClaim := { program := "ytedcmphhpfdblaa", sum := "3466e68f0226dcb9d4682d189a58be8805eda6b3fe4c21265614e48bb835a7cc", func := "loop.example/g00586/laws.FnExactIsOwnGuess", spec := "fnExactIsOwnGuess", apart := false }
def FnExactIsOwnGuessSaid : Prop := fnExactIsOwnGuessRow.holds Try.pinned (OpenSpec.ofChange fnExactIsOwnGuessSpec)

/-- ITS FALSE NEIGHBOUR: 'it returns false'. Refute it at one input. -/
def fnExactIsOwnGuessWrong : ChangeSpec := { name := "fnExactIsOwnGuess", fn := fun _ => fun
  | [d] => { results := [.lit (.bool false)], args := [d] }
  | _ => none }
def FnExactIsOwnGuessWrongFalsely : Prop := fnExactIsOwnGuessRow.holds Try.pinned (OpenSpec.ofChange fnExactIsOwnGuessWrong)

/-- 'laws.FnExactCountGuessConns': WHATEVER THE INPUT: true; the input reads as it did. -/
def fnExactCountGuessConnsSpec : ChangeSpec := { name := "fnExactCountGuessConns", fn := fun _ => fun
  | [d] => { results := [.lit (.bool true)], args := [d] }
  | _ => none }
def fnExactCountGuessConnsRow : OpenClaim := { program := "ytedcmphhpfdblaa", sum := "3466e68f0226dcb9d4682d189a58be8805eda6b3fe4c21265614e48bb835a7cc", func := "loop.example/g00586/laws.FnExactCountGuessConns", spec := "fnExactCountGuessConns", apart := false }
def FnExactCountGuessConnsSaid : Prop := fnExactCountGuessConnsRow.holds Try.pinned (OpenSpec.ofChange fnExactCountGuessConnsSpec)

/-- ITS FALSE NEIGHBOUR: 'it returns false'. Refute it at one input. -/
def fnExactCountGuessConnsWrong : ChangeSpec := { name := "fnExactCountGuessConns", fn := fun _ => fun
  | [d] => { results := [.lit (.bool false)], args := [d] }
  | _ => none }
def FnExactCountGuessConnsWrongFalsely : Prop := fnExactCountGuessConnsRow.holds Try.pinned (OpenSpec.ofChange fnExactCountGuessConnsWrong)

/-- 'laws.FnExactFindConn': WHATEVER THE INPUT: true; the input reads as it did. -/
def fnExactFindConnSpec : ChangeSpec := { name := "fnExactFindConn", fn := fun _ => fun
  | [d1, d2] => { results := [.lit (.bool true)], args := [d1, d2] }
  | _ => none }
def fnExactFindConnRow : OpenClaim := { program := "ytedcmphhpfdblaa", sum := "3466e68f0226dcb9d4682d189a58be8805eda6b3fe4c21265614e48bb835a7cc", func := "loop.example/g00586/laws.FnExactFindConn", spec := "fnExactFindConn", unfollowed := true, recurses := true, apart := false }
def FnExactFindConnSaid : Prop := fnExactFindConnRow.holds Try.pinned (OpenSpec.ofChange fnExactFindConnSpec)

/-- ITS FALSE NEIGHBOUR: 'it returns false'. Refute it at one input. -/
def fnExactFindConnWrong : ChangeSpec := { name := "fnExactFindConn", fn := fun _ => fun
  | [d1, d2] => { results := [.lit (.bool false)], args := [d1, d2] }
  | _ => none }
def FnExactFindConnWrongFalsely : Prop := fnExactFindConnRow.holds Try.pinned (OpenSpec.ofChange fnExactFindConnWrong)

/-- 'laws.FnExactFirstDone': WHATEVER THE INPUT: true; the input reads as it did. -/
def fnExactFirstDoneSpec : ChangeSpec := { name := "fnExactFirstDone", fn := fun _ => fun
  | [d] => { results := [.lit (.bool true)], args := [d] }
  | _ => none }
def fnExactFirstDoneRow : OpenClaim := { program := "ytedcmphhpfdblaa", sum := "3466e68f0226dcb9d4682d189a58be8805eda6b3fe4c21265614e48bb835a7cc", func := "loop.example/g00586/laws.FnExactFirstDone", spec := "fnExactFirstDone", unfollowed := true, recurses := true, apart := false }
def FnExactFirstDoneSaid : Prop := fnExactFirstDoneRow.holds Try.pinned (OpenSpec.ofChange fnExactFirstDoneSpec)

/-- ITS FALSE NEIGHBOUR: 'it returns false'. Refute it at one input. -/
def fnExactFirstDoneWrong : ChangeSpec := { name := "fnExactFirstDone", fn := fun _ => fun
  | [d] => { results := [.lit (.bool false)], args := [d] }
  | _ => none }
def FnExactFirstDoneWrongFalsely : Prop := fnExactFirstDoneRow.holds Try.pinned (OpenSpec.ofChange fnExactFirstDoneWrong)

/-- 'laws.FnExactWithoutAddrs': WHATEVER THE INPUT: true; the input reads as it did. -/
def fnExactWithoutAddrsSpec : ChangeSpec := { name := "fnExactWithoutAddrs", fn := fun _ => fun
  | [d1, d2] => { results := [.lit (.bool true)], args := [d1, d2] }
  | _ => none }
def fnExactWithoutAddrsRow : OpenClaim := { program := "ytedcmphhpfdblaa", sum := "3466e68f0226dcb9d4682d189a58be8805eda6b3fe4c21265614e48bb835a7cc", func := "loop.example/g00586/laws.FnExactWithoutAddrs", spec := "fnExactWithoutAddrs", apart := false }
def FnExactWithoutAddrsSaid : Prop := fnExactWithoutAddrsRow.holds Try.pinned (OpenSpec.ofChange fnExactWithoutAddrsSpec)

/-- ITS FALSE NEIGHBOUR: 'it returns false'. Refute it at one input. -/
def fnExactWithoutAddrsWrong : ChangeSpec := { name := "fnExactWithoutAddrs", fn := fun _ => fun
  | [d1, d2] => { results := [.lit (.bool false)], args := [d1, d2] }
  | _ => none }
def FnExactWithoutAddrsWrongFalsely : Prop := fnExactWithoutAddrsRow.holds Try.pinned (OpenSpec.ofChange fnExactWithoutAddrsWrong)

/-- 'laws.FnExactMoveConns': WHATEVER THE INPUT: true; the input reads as it did. -/
def fnExactMoveConnsSpec : ChangeSpec := { name := "fnExactMoveConns", fn := fun _ => fun
  | [d1, d2] => { results := [.lit (.bool true)], args := [d1, d2] }
  | _ => none }
def fnExactMoveConnsRow : OpenClaim := { program := "ytedcmphhpfdblaa", sum := "3466e68f0226dcb9d4682d189a58be8805eda6b3fe4c21265614e48bb835a7cc", func := "loop.example/g00586/laws.FnExactMoveConns", spec := "fnExactMoveConns", apart := false }
def FnExactMoveConnsSaid : Prop := fnExactMoveConnsRow.holds Try.pinned (OpenSpec.ofChange fnExactMoveConnsSpec)

/-- ITS FALSE NEIGHBOUR: 'it returns false'. Refute it at one input. -/
def fnExactMoveConnsWrong : ChangeSpec := { name := "fnExactMoveConns", fn := fun _ => fun
  | [d1, d2] => { results := [.lit (.bool false)], args := [d1, d2] }
  | _ => none }
def FnExactMoveConnsWrongFalsely : Prop := fnExactMoveConnsRow.holds Try.pinned (OpenSpec.ofChange fnExactMoveConnsWrong)

/-- 'laws.FnExactCloseConn': WHATEVER THE INPUT: true; the input reads as it did. -/
def fnExactCloseConnSpec : ChangeSpec := { name := "fnExactCloseConn", fn := fun _ => fun
  | [d1, d2] => { results := [.lit (.bool true)], args := [d1, d2] }
  | _ => none }
def fnExactCloseConnRow : OpenClaim := { program := "ytedcmphhpfdblaa", sum := "3466e68f0226dcb9d4682d189a58be8805eda6b3fe4c21265614e48bb835a7cc", func := "loop.example/g00586/laws.FnExactCloseConn", spec := "fnExactCloseConn", apart := false }
def FnExactCloseConnSaid : Prop := fnExactCloseConnRow.holds Try.pinned (OpenSpec.ofChange fnExactCloseConnSpec)

/-- ITS FALSE NEIGHBOUR: 'it returns false'. Refute it at one input. -/
def fnExactCloseConnWrong : ChangeSpec := { name := "fnExactCloseConn", fn := fun _ => fun
  | [d1, d2] => { results := [.lit (.bool false)], args := [d1, d2] }
  | _ => none }
def FnExactCloseConnWrongFalsely : Prop := fnExactCloseConnRow.holds Try.pinned (OpenSpec.ofChange fnExactCloseConnWrong)

/-- 'laws.FnExactOpenConn': WHATEVER THE INPUT: true; the input reads as it did. -/
def fnExactOpenConnSpec : ChangeSpec := { name := "fnExactOpenConn", fn := fun _ => fun
  | [d1, d2, d3, d4] => { results := [.lit (.bool true)], args := [d1, d2, d3, d4] }
  | _ => none }
def fnExactOpenConnRow : OpenClaim := { program := "ytedcmphhpfdblaa", sum := "3466e68f0226dcb9d4682d189a58be8805eda6b3fe4c21265614e48bb835a7cc", func := "loop.example/g00586/laws.FnExactOpenConn", spec := "fnExactOpenConn", unfollowed := true, recurses := true, apart := false }
def FnExactOpenConnSaid : Prop := fnExactOpenConnRow.holds Try.pinned (OpenSpec.ofChange fnExactOpenConnSpec)

/-- ITS FALSE NEIGHBOUR: 'it returns false'. Refute it at one input. -/
def fnExactOpenConnWrong : ChangeSpec := { name := "fnExactOpenConn", fn := fun _ => fun
  | [d1, d2, d3, d4] => { results := [.lit (.bool false)], args := [d1, d2, d3, d4] }
  | _ => none }
def FnExactOpenConnWrongFalsely : Prop := fnExactOpenConnRow.holds Try.pinned (OpenSpec.ofChange fnExactOpenConnWrong)

/-- 'laws.FnGuesses': WHATEVER THE INPUT: true; the input reads as it did. -/
def fnGuessesSpec : ChangeSpec := { name := "fnGuesses", fn := fun _ => fun
  | [d] => { results := [.lit (.bool true)], args := [d] }
  | _ => none }
def fnGuessesRow : OpenClaim := { program := "ytedcmphhpfdblaa", sum := "3466e68f0226dcb9d4682d189a58be8805eda6b3fe4c21265614e48bb835a7cc", func := "loop.example/g00586/laws.FnGuesses", spec := "fnGuesses", unfollowed := true, recurses := true, apart := false }
def FnGuessesSaid : Prop := fnGuessesRow.holds Try.pinned (OpenSpec.ofChange fnGuessesSpec)

/-- ITS FALSE NEIGHBOUR: 'it returns false'. Refute it at one input. -/
def fnGuessesWrong : ChangeSpec := { name := "fnGuesses", fn := fun _ => fun
  | [d] => { results := [.lit (.bool false)], args := [d] }
  | _ => none }
def FnGuessesWrongFalsely : Prop := fnGuessesRow.holds Try.pinned (OpenSpec.ofChange fnGuessesWrong)

/-- 'laws.FnConnections': WHATEVER THE INPUT: true; the input reads as it did. -/
def fnConnectionsSpec : ChangeSpec := { name := "fnConnections", fn := fun _ => fun
  | [d] => { results := [.lit (.bool true)], args := [d] }
  | _ => none }
def fnConnectionsRow : OpenClaim := { program := "ytedcmphhpfdblaa", sum := "3466e68f0226dcb9d4682d189a58be8805eda6b3fe4c21265614e48bb835a7cc", func := "loop.example/g00586/laws.FnConnections", spec := "fnConnections", unfollowed := true, recurses := true, apart := false }
def FnConnectionsSaid : Prop := fnConnectionsRow.holds Try.pinned (OpenSpec.ofChange fnConnectionsSpec)

/-- ITS FALSE NEIGHBOUR: 'it returns false'. Refute it at one input. -/
def fnConnectionsWrong : ChangeSpec := { name := "fnConnections", fn := fun _ => fun
  | [d] => { results := [.lit (.bool false)], args := [d] }
  | _ => none }
def FnConnectionsWrongFalsely : Prop := fnConnectionsRow.holds Try.pinned (OpenSpec.ofChange fnConnectionsWrong)

/- THE SECOND FORM. 'bulk': how many values and letters a reading holds, each counted each time it is reached (what is shared counts as often as it is met; a slice's spare places count too). A statement '..UptoSaid' is the law's where the arguments, and the package variables that the reading takes, are together of bulk at most 1048576: NARROWER than '..Said'. Prove '..Said' where nothing that the law and all that it calls make is longer than what came in: it says more and counts as full. Else prove '..UptoSaid'. A law counts once. -/
mutual
def uptoBulk {H : Type} : DataW H → Nat
  | .lit (.string bytes) => bytes.length + 1
  | .lit _ => 1
  | .nil => 1
  | .ptr d => uptoBulk d + 1
  | .slice elems spare => uptoBulkAll elems + uptoBulkAll spare + 1
  | .agg parts => uptoBulkAll parts + 1
  | .iface _ d => uptoBulk d + 1
  | .map entries => uptoBulkEntries entries + 1
  | .held _ => 1
def uptoBulkAll {H : Type} : List (DataW H) → Nat
  | [] => 0
  | d :: r => uptoBulk d + uptoBulkAll r
def uptoBulkEntries {H : Type} : List (Lit × DataW H) → Nat
  | [] => 0
  | x :: r => uptoBulkEntry x + uptoBulkEntries r
def uptoBulkEntry {H : Type} : Lit × DataW H → Nat
  | (.string bytes, d) => bytes.length + uptoBulk d + 1
  | (_, d) => uptoBulk d + 1
 end
def uptoSmall : (H : Type) → List (DataW H) → Bool := fun _ ds => decide (uptoBulkAll ds ≤ 1048576)
def OpenSpec.upto (s : _root_.Go.ChangeSpec) : _root_.Go.OpenSpec := { _root_.Go.OpenSpec.ofChange s with cond := some uptoSmall }

/-- 'laws.FnExactWasteBudget', WHERE WHAT IT READS IS OF BULK AT MOST 1048576: true; the input reads as it did. -/
def fnExactWasteBudgetUptoRow : OpenClaim := { program := "ytedcmphhpfdblaa", sum := "3466e68f0226dcb9d4682d189a58be8805eda6b3fe4c21265614e48bb835a7cc", func := "loop.example/g00586/laws.FnExactWasteBudget", spec := "fnExactWasteBudget", apart := false, narrowed := true }
def FnExactWasteBudgetUptoSaid : Prop := fnExactWasteBudgetUptoRow.holds Try.pinned (OpenSpec.upto fnExactWasteBudgetSpec)

/-- 'laws.FnExactActionName', WHERE WHAT IT READS IS OF BULK AT MOST 1048576: true; the input reads as it did. -/
def fnExactActionNameUptoRow : OpenClaim := { program := "ytedcmphhpfdblaa", sum := "3466e68f0226dcb9d4682d189a58be8805eda6b3fe4c21265614e48bb835a7cc", func := "loop.example/g00586/laws.FnExactActionName", spec := "fnExactActionName", apart := false, narrowed := true }
def FnExactActionNameUptoSaid : Prop := fnExactActionNameUptoRow.holds Try.pinned (OpenSpec.upto fnExactActionNameSpec)

/-- 'laws.FnExactIsOwnGuess', WHERE WHAT IT READS IS OF BULK AT MOST 1048576: true; the input reads as it did. -/
def fnExactIsOwnGuessUptoRow : OpenClaim := { program := "ytedcmphhpfdblaa", sum := "3466e68f0226dcb9d4682d189a58be8805eda6b3fe4c21265614e48bb835a7cc", func := "loop.example/g00586/laws.FnExactIsOwnGuess", spec := "fnExactIsOwnGuess", apart := false, narrowed := true }
def FnExactIsOwnGuessUptoSaid : Prop := fnExactIsOwnGuessUptoRow.holds Try.pinned (OpenSpec.upto fnExactIsOwnGuessSpec)

/-- 'laws.FnExactCountGuessConns', WHERE WHAT IT READS IS OF BULK AT MOST 1048576: true; the input reads as it did. -/
def fnExactCountGuessConnsUptoRow : OpenClaim := { program := "ytedcmphhpfdblaa", sum := "3466e68f0226dcb9d4682d189a58be8805eda6b3fe4c21265614e48bb835a7cc", func := "loop.example/g00586/laws.FnExactCountGuessConns", spec := "fnExactCountGuessConns", apart := false, narrowed := true }
def FnExactCountGuessConnsUptoSaid : Prop := fnExactCountGuessConnsUptoRow.holds Try.pinned (OpenSpec.upto fnExactCountGuessConnsSpec)

/-- 'laws.FnExactFindConn', WHERE WHAT IT READS IS OF BULK AT MOST 1048576: true; the input reads as it did. -/
def fnExactFindConnUptoRow : OpenClaim := { program := "ytedcmphhpfdblaa", sum := "3466e68f0226dcb9d4682d189a58be8805eda6b3fe4c21265614e48bb835a7cc", func := "loop.example/g00586/laws.FnExactFindConn", spec := "fnExactFindConn", unfollowed := true, recurses := true, apart := false, narrowed := true }
def FnExactFindConnUptoSaid : Prop := fnExactFindConnUptoRow.holds Try.pinned (OpenSpec.upto fnExactFindConnSpec)

/-- 'laws.FnExactFirstDone', WHERE WHAT IT READS IS OF BULK AT MOST 1048576: true; the input reads as it did. -/
def fnExactFirstDoneUptoRow : OpenClaim := { program := "ytedcmphhpfdblaa", sum := "3466e68f0226dcb9d4682d189a58be8805eda6b3fe4c21265614e48bb835a7cc", func := "loop.example/g00586/laws.FnExactFirstDone", spec := "fnExactFirstDone", unfollowed := true, recurses := true, apart := false, narrowed := true }
def FnExactFirstDoneUptoSaid : Prop := fnExactFirstDoneUptoRow.holds Try.pinned (OpenSpec.upto fnExactFirstDoneSpec)

/-- 'laws.FnExactWithoutAddrs', WHERE WHAT IT READS IS OF BULK AT MOST 1048576: true; the input reads as it did. -/
def fnExactWithoutAddrsUptoRow : OpenClaim := { program := "ytedcmphhpfdblaa", sum := "3466e68f0226dcb9d4682d189a58be8805eda6b3fe4c21265614e48bb835a7cc", func := "loop.example/g00586/laws.FnExactWithoutAddrs", spec := "fnExactWithoutAddrs", apart := false, narrowed := true }
def FnExactWithoutAddrsUptoSaid : Prop := fnExactWithoutAddrsUptoRow.holds Try.pinned (OpenSpec.upto fnExactWithoutAddrsSpec)

/-- 'laws.FnExactMoveConns', WHERE WHAT IT READS IS OF BULK AT MOST 1048576: true; the input reads as it did. -/
def fnExactMoveConnsUptoRow : OpenClaim := { program := "ytedcmphhpfdblaa", sum := "3466e68f0226dcb9d4682d189a58be8805eda6b3fe4c21265614e48bb835a7cc", func := "loop.example/g00586/laws.FnExactMoveConns", spec := "fnExactMoveConns", apart := false, narrowed := true }
def FnExactMoveConnsUptoSaid : Prop := fnExactMoveConnsUptoRow.holds Try.pinned (OpenSpec.upto fnExactMoveConnsSpec)

/-- 'laws.FnExactCloseConn', WHERE WHAT IT READS IS OF BULK AT MOST 1048576: true; the input reads as it did. -/
def fnExactCloseConnUptoRow : OpenClaim := { program := "ytedcmphhpfdblaa", sum := "3466e68f0226dcb9d4682d189a58be8805eda6b3fe4c21265614e48bb835a7cc", func := "loop.example/g00586/laws.FnExactCloseConn", spec := "fnExactCloseConn", apart := false, narrowed := true }
def FnExactCloseConnUptoSaid : Prop := fnExactCloseConnUptoRow.holds Try.pinned (OpenSpec.upto fnExactCloseConnSpec)

/-- 'laws.FnExactOpenConn', WHERE WHAT IT READS IS OF BULK AT MOST 1048576: true; the input reads as it did. -/
def fnExactOpenConnUptoRow : OpenClaim := { program := "ytedcmphhpfdblaa", sum := "3466e68f0226dcb9d4682d189a58be8805eda6b3fe4c21265614e48bb835a7cc", func := "loop.example/g00586/laws.FnExactOpenConn", spec := "fnExactOpenConn", unfollowed := true, recurses := true, apart := false, narrowed := true }
def FnExactOpenConnUptoSaid : Prop := fnExactOpenConnUptoRow.holds Try.pinned (OpenSpec.upto fnExactOpenConnSpec)

/-- 'laws.FnGuesses', WHERE WHAT IT READS IS OF BULK AT MOST 1048576: true; the input reads as it did. -/
def fnGuessesUptoRow : OpenClaim := { program := "ytedcmphhpfdblaa", sum := "3466e68f0226dcb9d4682d189a58be8805eda6b3fe4c21265614e48bb835a7cc", func := "loop.example/g00586/laws.FnGuesses", spec := "fnGuesses", unfollowed := true, recurses := true, apart := false, narrowed := true }
def FnGuessesUptoSaid : Prop := fnGuessesUptoRow.holds Try.pinned (OpenSpec.upto fnGuessesSpec)

/-- 'laws.FnConnections', WHERE WHAT IT READS IS OF BULK AT MOST 1048576: true; the input reads as it did. -/
def fnConnectionsUptoRow : OpenClaim := { program := "ytedcmphhpfdblaa", sum := "3466e68f0226dcb9d4682d189a58be8805eda6b3fe4c21265614e48bb835a7cc", func := "loop.example/g00586/laws.FnConnections", spec := "fnConnections", unfollowed := true, recurses := true, apart := false, narrowed := true }
def FnConnectionsUptoSaid : Prop := fnConnectionsUptoRow.holds Try.pinned (OpenSpec.upto fnConnectionsSpec)

end Rows
end Go.Proofs.Ytedcmphhpfdblaa
