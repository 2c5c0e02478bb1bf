/-
  No cell of these rows narrows 'for every input' (looked for: loops, veiled, ifaces, maps, wideKeys, modest, calm, conditions, laid).
  DERIVED. THE GIVEN ROWS OF THIS SEAT. 12 by the template 'for every input the law returns true; each argument reads behind the call as it read before'; 0 by the template 'total and deterministic' (their statements: YtmpkhgpieioofaaTotals.lean).
  GIVEN WITH THE SEED: the statements are not yours to turn. If you find one false, say at which input.
  Laid BY PROGRAM, IN A SANDBOX (cutbox-rows.mjs): the forced cells as the released guide's own fill.sh prints them over the translation 3f17210635ea5bcf… (all of the seat's roots in one cut). By AI agents, Wed Nov 11 2026. No macro, syntax, notation, axiom, sorry.
-/
import Derived.Test.YtmpkhgpieioofaaChecked
import GoSem.Claim
import GoSem.ClaimJoined
import GoSem.ClaimMapViews
import Derived.JoinedTies
import Derived.KernelRfl
namespace Go.Proofs.Ytmpkhgpieioofaa
/- THE CELL 'sum', in the pinned program and in every row, IS THE sha256 OF THE DUMP (.gsa) THAT YtmpkhgpieioofaaProg.lean LOADS. Nothing in Lean hashes anything: it is a label: what it is worth is what the hold of that sum in a sandbox is worth. -/
noncomputable def Try.pinned : Pinned := { name := "ytmpkhgpieioofaa", sum := "3f17210635ea5bcf7a76d5098deae72064b62e0d636c0ec1b9e30093463eb027", checked := Try.checked }
namespace Rows
def none {H : Type} : Left H := { results := [], args := [] }

/-- 'laws.FnExactGuessesSent': WHATEVER THE INPUT: true; the input reads as it did. -/
def fnExactGuessesSentSpec : ChangeSpec := { name := "fnExactGuessesSent", fn := fun _ => fun
  | [d1, d2] => { results := [.lit (.bool true)], args := [d1, d2] }
  | _ => none }
def fnExactGuessesSentRow : OpenClaim := { program := "ytmpkhgpieioofaa", sum := "3f17210635ea5bcf7a76d5098deae72064b62e0d636c0ec1b9e30093463eb027", func := "loop.example/g00586/laws.FnExactGuessesSent", spec := "fnExactGuessesSent", apart := false }
def FnExactGuessesSentSaid : Prop := fnExactGuessesSentRow.holds Try.pinned (OpenSpec.ofChange fnExactGuessesSentSpec)

/-- ITS FALSE NEIGHBOUR: 'it returns false'. Refute it at one input. -/
def fnExactGuessesSentWrong : ChangeSpec := { name := "fnExactGuessesSent", fn := fun _ => fun
  | [d1, d2] => { results := [.lit (.bool false)], args := [d1, d2] }
  | _ => none }
def FnExactGuessesSentWrongFalsely : Prop := fnExactGuessesSentRow.holds Try.pinned (OpenSpec.ofChange fnExactGuessesSentWrong)

/-- 'laws.FnExactCutText': WHATEVER THE INPUT: true; the input reads as it did. -/
def fnExactCutTextSpec : ChangeSpec := { name := "fnExactCutText", fn := fun _ => fun
  | [d1, d2] => { results := [.lit (.bool true)], args := [d1, d2] }
  | _ => none }
def fnExactCutTextRow : OpenClaim := { program := "ytmpkhgpieioofaa", sum := "3f17210635ea5bcf7a76d5098deae72064b62e0d636c0ec1b9e30093463eb027", func := "loop.example/g00586/laws.FnExactCutText", spec := "fnExactCutText", recurses := true, apart := false }
def FnExactCutTextSaid : Prop := fnExactCutTextRow.holds Try.pinned (OpenSpec.ofChange fnExactCutTextSpec)

/-- ITS FALSE NEIGHBOUR: 'it returns false'. Refute it at one input. -/
def fnExactCutTextWrong : ChangeSpec := { name := "fnExactCutText", fn := fun _ => fun
  | [d1, d2] => { results := [.lit (.bool false)], args := [d1, d2] }
  | _ => none }
def FnExactCutTextWrongFalsely : Prop := fnExactCutTextRow.holds Try.pinned (OpenSpec.ofChange fnExactCutTextWrong)

/-- 'laws.FnExactHostsOf': WHATEVER THE INPUT: true; the input reads as it did. -/
def fnExactHostsOfSpec : ChangeSpec := { name := "fnExactHostsOf", fn := fun _ => fun
  | [d] => { results := [.lit (.bool true)], args := [d] }
  | _ => none }
def fnExactHostsOfRow : OpenClaim := { program := "ytmpkhgpieioofaa", sum := "3f17210635ea5bcf7a76d5098deae72064b62e0d636c0ec1b9e30093463eb027", func := "loop.example/g00586/laws.FnExactHostsOf", spec := "fnExactHostsOf", apart := false }
def FnExactHostsOfSaid : Prop := fnExactHostsOfRow.holds Try.pinned (OpenSpec.ofChange fnExactHostsOfSpec)

/-- ITS FALSE NEIGHBOUR: 'it returns false'. Refute it at one input. -/
def fnExactHostsOfWrong : ChangeSpec := { name := "fnExactHostsOf", fn := fun _ => fun
  | [d] => { results := [.lit (.bool false)], args := [d] }
  | _ => none }
def FnExactHostsOfWrongFalsely : Prop := fnExactHostsOfRow.holds Try.pinned (OpenSpec.ofChange fnExactHostsOfWrong)

/-- 'laws.FnExactTopsOf': WHATEVER THE INPUT: true; the input reads as it did. -/
def fnExactTopsOfSpec : ChangeSpec := { name := "fnExactTopsOf", fn := fun _ => fun
  | [d1, d2] => { results := [.lit (.bool true)], args := [d1, d2] }
  | _ => none }
def fnExactTopsOfRow : OpenClaim := { program := "ytmpkhgpieioofaa", sum := "3f17210635ea5bcf7a76d5098deae72064b62e0d636c0ec1b9e30093463eb027", func := "loop.example/g00586/laws.FnExactTopsOf", spec := "fnExactTopsOf", apart := false }
def FnExactTopsOfSaid : Prop := fnExactTopsOfRow.holds Try.pinned (OpenSpec.ofChange fnExactTopsOfSpec)

/-- ITS FALSE NEIGHBOUR: 'it returns false'. Refute it at one input. -/
def fnExactTopsOfWrong : ChangeSpec := { name := "fnExactTopsOf", fn := fun _ => fun
  | [d1, d2] => { results := [.lit (.bool false)], args := [d1, d2] }
  | _ => none }
def FnExactTopsOfWrongFalsely : Prop := fnExactTopsOfRow.holds Try.pinned (OpenSpec.ofChange fnExactTopsOfWrong)

/-- 'laws.FnExactCanKeep': WHATEVER THE INPUT: true; the input reads as it did. -/
def fnExactCanKeepSpec : ChangeSpec := { name := "fnExactCanKeep", fn := fun _ => fun
  | [d] => { results := [.lit (.bool true)], args := [d] }
  | _ => none }
def fnExactCanKeepRow : OpenClaim := { program := "ytmpkhgpieioofaa", sum := "3f17210635ea5bcf7a76d5098deae72064b62e0d636c0ec1b9e30093463eb027", func := "loop.example/g00586/laws.FnExactCanKeep", spec := "fnExactCanKeep", apart := false }
def FnExactCanKeepSaid : Prop := fnExactCanKeepRow.holds Try.pinned (OpenSpec.ofChange fnExactCanKeepSpec)

/-- ITS FALSE NEIGHBOUR: 'it returns false'. Refute it at one input. -/
def fnExactCanKeepWrong : ChangeSpec := { name := "fnExactCanKeep", fn := fun _ => fun
  | [d] => { results := [.lit (.bool false)], args := [d] }
  | _ => none }
def FnExactCanKeepWrongFalsely : Prop := fnExactCanKeepRow.holds Try.pinned (OpenSpec.ofChange fnExactCanKeepWrong)

/-- 'laws.FnExactBlockedOn': WHATEVER THE INPUT: true; the input reads as it did. -/
def fnExactBlockedOnSpec : ChangeSpec := { name := "fnExactBlockedOn", fn := fun _ => fun
  | [d] => { results := [.lit (.bool true)], args := [d] }
  | _ => none }
def fnExactBlockedOnRow : OpenClaim := { program := "ytmpkhgpieioofaa", sum := "3f17210635ea5bcf7a76d5098deae72064b62e0d636c0ec1b9e30093463eb027", func := "loop.example/g00586/laws.FnExactBlockedOn", spec := "fnExactBlockedOn", apart := false }
def FnExactBlockedOnSaid : Prop := fnExactBlockedOnRow.holds Try.pinned (OpenSpec.ofChange fnExactBlockedOnSpec)

/-- ITS FALSE NEIGHBOUR: 'it returns false'. Refute it at one input. -/
def fnExactBlockedOnWrong : ChangeSpec := { name := "fnExactBlockedOn", fn := fun _ => fun
  | [d] => { results := [.lit (.bool false)], args := [d] }
  | _ => none }
def FnExactBlockedOnWrongFalsely : Prop := fnExactBlockedOnRow.holds Try.pinned (OpenSpec.ofChange fnExactBlockedOnWrong)

/-- 'laws.FnExactRefusedUses': WHATEVER THE INPUT: true; the input reads as it did. -/
def fnExactRefusedUsesSpec : ChangeSpec := { name := "fnExactRefusedUses", fn := fun _ => fun
  | [d] => { results := [.lit (.bool true)], args := [d] }
  | _ => none }
def fnExactRefusedUsesRow : OpenClaim := { program := "ytmpkhgpieioofaa", sum := "3f17210635ea5bcf7a76d5098deae72064b62e0d636c0ec1b9e30093463eb027", func := "loop.example/g00586/laws.FnExactRefusedUses", spec := "fnExactRefusedUses", apart := false }
def FnExactRefusedUsesSaid : Prop := fnExactRefusedUsesRow.holds Try.pinned (OpenSpec.ofChange fnExactRefusedUsesSpec)

/-- ITS FALSE NEIGHBOUR: 'it returns false'. Refute it at one input. -/
def fnExactRefusedUsesWrong : ChangeSpec := { name := "fnExactRefusedUses", fn := fun _ => fun
  | [d] => { results := [.lit (.bool false)], args := [d] }
  | _ => none }
def FnExactRefusedUsesWrongFalsely : Prop := fnExactRefusedUsesRow.holds Try.pinned (OpenSpec.ofChange fnExactRefusedUsesWrong)

/-- 'laws.FnExactNewTab': WHATEVER THE INPUT: true; the input reads as it did. -/
def fnExactNewTabSpec : ChangeSpec := { name := "fnExactNewTab", fn := fun _ => fun
  | [] => { results := [.lit (.bool true)], args := [] }
  | _ => none }
def fnExactNewTabRow : OpenClaim := { program := "ytmpkhgpieioofaa", sum := "3f17210635ea5bcf7a76d5098deae72064b62e0d636c0ec1b9e30093463eb027", func := "loop.example/g00586/laws.FnExactNewTab", spec := "fnExactNewTab", apart := false }
def FnExactNewTabSaid : Prop := fnExactNewTabRow.holds Try.pinned (OpenSpec.ofChange fnExactNewTabSpec)

/-- ITS FALSE NEIGHBOUR: 'it returns false'. Refute it at one input. -/
def fnExactNewTabWrong : ChangeSpec := { name := "fnExactNewTab", fn := fun _ => fun
  | [] => { results := [.lit (.bool false)], args := [] }
  | _ => none }
def FnExactNewTabWrongFalsely : Prop := fnExactNewTabRow.holds Try.pinned (OpenSpec.ofChange fnExactNewTabWrong)

/-- 'laws.FnExactClassOf': WHATEVER THE INPUT: true; the input reads as it did. -/
def fnExactClassOfSpec : ChangeSpec := { name := "fnExactClassOf", fn := fun _ => fun
  | [d1, d2] => { results := [.lit (.bool true)], args := [d1, d2] }
  | _ => none }
def fnExactClassOfRow : OpenClaim := { program := "ytmpkhgpieioofaa", sum := "3f17210635ea5bcf7a76d5098deae72064b62e0d636c0ec1b9e30093463eb027", func := "loop.example/g00586/laws.FnExactClassOf", spec := "fnExactClassOf", apart := false }
def FnExactClassOfSaid : Prop := fnExactClassOfRow.holds Try.pinned (OpenSpec.ofChange fnExactClassOfSpec)

/-- ITS FALSE NEIGHBOUR: 'it returns false'. Refute it at one input. -/
def fnExactClassOfWrong : ChangeSpec := { name := "fnExactClassOf", fn := fun _ => fun
  | [d1, d2] => { results := [.lit (.bool false)], args := [d1, d2] }
  | _ => none }
def FnExactClassOfWrongFalsely : Prop := fnExactClassOfRow.holds Try.pinned (OpenSpec.ofChange fnExactClassOfWrong)

/-- 'laws.FnExactPresentAddr': WHATEVER THE INPUT: true; the input reads as it did. -/
def fnExactPresentAddrSpec : ChangeSpec := { name := "fnExactPresentAddr", fn := fun _ => fun
  | [d] => { results := [.lit (.bool true)], args := [d] }
  | _ => none }
def fnExactPresentAddrRow : OpenClaim := { program := "ytmpkhgpieioofaa", sum := "3f17210635ea5bcf7a76d5098deae72064b62e0d636c0ec1b9e30093463eb027", func := "loop.example/g00586/laws.FnExactPresentAddr", spec := "fnExactPresentAddr", apart := false }
def FnExactPresentAddrSaid : Prop := fnExactPresentAddrRow.holds Try.pinned (OpenSpec.ofChange fnExactPresentAddrSpec)

/-- ITS FALSE NEIGHBOUR: 'it returns false'. Refute it at one input. -/
def fnExactPresentAddrWrong : ChangeSpec := { name := "fnExactPresentAddr", fn := fun _ => fun
  | [d] => { results := [.lit (.bool false)], args := [d] }
  | _ => none }
def FnExactPresentAddrWrongFalsely : Prop := fnExactPresentAddrRow.holds Try.pinned (OpenSpec.ofChange fnExactPresentAddrWrong)

/-- 'laws.FnExactKeptCount': WHATEVER THE INPUT: true; the input reads as it did. -/
def fnExactKeptCountSpec : ChangeSpec := { name := "fnExactKeptCount", fn := fun _ => fun
  | [d] => { results := [.lit (.bool true)], args := [d] }
  | _ => none }
def fnExactKeptCountRow : OpenClaim := { program := "ytmpkhgpieioofaa", sum := "3f17210635ea5bcf7a76d5098deae72064b62e0d636c0ec1b9e30093463eb027", func := "loop.example/g00586/laws.FnExactKeptCount", spec := "fnExactKeptCount", apart := false }
def FnExactKeptCountSaid : Prop := fnExactKeptCountRow.holds Try.pinned (OpenSpec.ofChange fnExactKeptCountSpec)

/-- ITS FALSE NEIGHBOUR: 'it returns false'. Refute it at one input. -/
def fnExactKeptCountWrong : ChangeSpec := { name := "fnExactKeptCount", fn := fun _ => fun
  | [d] => { results := [.lit (.bool false)], args := [d] }
  | _ => none }
def FnExactKeptCountWrongFalsely : Prop := fnExactKeptCountRow.holds Try.pinned (OpenSpec.ofChange fnExactKeptCountWrong)

/-- 'laws.FnExactIsTab': WHATEVER THE INPUT: true; the input reads as it did. -/
def fnExactIsTabSpec : ChangeSpec := { name := "fnExactIsTab", fn := fun _ => fun
  | [d] => { results := [.lit (.bool true)], args := [d] }
  | _ => none }
def fnExactIsTabRow : OpenClaim := { program := "ytmpkhgpieioofaa", sum := "3f17210635ea5bcf7a76d5098deae72064b62e0d636c0ec1b9e30093463eb027", func := "loop.example/g00586/laws.FnExactIsTab", spec := "fnExactIsTab", apart := false }
def FnExactIsTabSaid : Prop := fnExactIsTabRow.holds Try.pinned (OpenSpec.ofChange fnExactIsTabSpec)

/-- ITS FALSE NEIGHBOUR: 'it returns false'. Refute it at one input. -/
def fnExactIsTabWrong : ChangeSpec := { name := "fnExactIsTab", fn := fun _ => fun
  | [d] => { results := [.lit (.bool false)], args := [d] }
  | _ => none }
def FnExactIsTabWrongFalsely : Prop := fnExactIsTabRow.holds Try.pinned (OpenSpec.ofChange fnExactIsTabWrong)

/- THE SECOND FORM. 'bulk': how many values and letters a reading holds, each counted each time it is reached (what is shared counts as often as it is met; a slice's spare places count too). A statement '..UptoSaid' is the law's where the arguments, and the package variables that the reading takes, are together of bulk at most 1048576: NARROWER than '..Said'. Prove '..Said' where nothing that the law and all that it calls make is longer than what came in: it says more and counts as full. Else prove '..UptoSaid'. A law counts once. -/
mutual
def uptoBulk {H : Type} : DataW H → Nat
  | .lit (.string bytes) => bytes.length + 1
  | .lit _ => 1
  | .nil => 1
  | .ptr d => uptoBulk d + 1
  | .slice elems spare => uptoBulkAll elems + uptoBulkAll spare + 1
  | .agg parts => uptoBulkAll parts + 1
  | .iface _ d => uptoBulk d + 1
  | .map entries => uptoBulkEntries entries + 1
  | .held _ => 1
def uptoBulkAll {H : Type} : List (DataW H) → Nat
  | [] => 0
  | d :: r => uptoBulk d + uptoBulkAll r
def uptoBulkEntries {H : Type} : List (Lit × DataW H) → Nat
  | [] => 0
  | x :: r => uptoBulkEntry x + uptoBulkEntries r
def uptoBulkEntry {H : Type} : Lit × DataW H → Nat
  | (.string bytes, d) => bytes.length + uptoBulk d + 1
  | (_, d) => uptoBulk d + 1
 end
def uptoSmall : (H : Type) → List (DataW H) → Bool := fun _ ds => decide (uptoBulkAll ds ≤ 1048576)
def OpenSpec.upto (s : _root_.Go.ChangeSpec) : _root_.Go.OpenSpec := { _root_.Go.OpenSpec.ofChange s with cond := some uptoSmall }

/-- 'laws.FnExactGuessesSent', WHERE WHAT IT READS IS OF BULK AT MOST 1048576: true; the input reads as it did. -/
def fnExactGuessesSentUptoRow : OpenClaim := { program := "ytmpkhgpieioofaa", sum := "3f17210635ea5bcf7a76d5098deae72064b62e0d636c0ec1b9e30093463eb027", func := "loop.example/g00586/laws.FnExactGuessesSent", spec := "fnExactGuessesSent", apart := false, narrowed := true }
def FnExactGuessesSentUptoSaid : Prop := fnExactGuessesSentUptoRow.holds Try.pinned (OpenSpec.upto fnExactGuessesSentSpec)

/-- 'laws.FnExactCutText', WHERE WHAT IT READS IS OF BULK AT MOST 1048576: true; the input reads as it did. -/
def fnExactCutTextUptoRow : OpenClaim := { program := "ytmpkhgpieioofaa", sum := "3f17210635ea5bcf7a76d5098deae72064b62e0d636c0ec1b9e30093463eb027", func := "loop.example/g00586/laws.FnExactCutText", spec := "fnExactCutText", recurses := true, apart := false, narrowed := true }
def FnExactCutTextUptoSaid : Prop := fnExactCutTextUptoRow.holds Try.pinned (OpenSpec.upto fnExactCutTextSpec)

/-- 'laws.FnExactHostsOf', WHERE WHAT IT READS IS OF BULK AT MOST 1048576: true; the input reads as it did. -/
def fnExactHostsOfUptoRow : OpenClaim := { program := "ytmpkhgpieioofaa", sum := "3f17210635ea5bcf7a76d5098deae72064b62e0d636c0ec1b9e30093463eb027", func := "loop.example/g00586/laws.FnExactHostsOf", spec := "fnExactHostsOf", apart := false, narrowed := true }
def FnExactHostsOfUptoSaid : Prop := fnExactHostsOfUptoRow.holds Try.pinned (OpenSpec.upto fnExactHostsOfSpec)

/-- 'laws.FnExactTopsOf', WHERE WHAT IT READS IS OF BULK AT MOST 1048576: true; the input reads as it did. -/
def fnExactTopsOfUptoRow : OpenClaim := { program := "ytmpkhgpieioofaa", sum := "3f17210635ea5bcf7a76d5098deae72064b62e0d636c0ec1b9e30093463eb027", func := "loop.example/g00586/laws.FnExactTopsOf", spec := "fnExactTopsOf", apart := false, narrowed := true }
def FnExactTopsOfUptoSaid : Prop := fnExactTopsOfUptoRow.holds Try.pinned (OpenSpec.upto fnExactTopsOfSpec)

/-- 'laws.FnExactCanKeep', WHERE WHAT IT READS IS OF BULK AT MOST 1048576: true; the input reads as it did. -/
def fnExactCanKeepUptoRow : OpenClaim := { program := "ytmpkhgpieioofaa", sum := "3f17210635ea5bcf7a76d5098deae72064b62e0d636c0ec1b9e30093463eb027", func := "loop.example/g00586/laws.FnExactCanKeep", spec := "fnExactCanKeep", apart := false, narrowed := true }
def FnExactCanKeepUptoSaid : Prop := fnExactCanKeepUptoRow.holds Try.pinned (OpenSpec.upto fnExactCanKeepSpec)

/-- 'laws.FnExactBlockedOn', WHERE WHAT IT READS IS OF BULK AT MOST 1048576: true; the input reads as it did. -/
def fnExactBlockedOnUptoRow : OpenClaim := { program := "ytmpkhgpieioofaa", sum := "3f17210635ea5bcf7a76d5098deae72064b62e0d636c0ec1b9e30093463eb027", func := "loop.example/g00586/laws.FnExactBlockedOn", spec := "fnExactBlockedOn", apart := false, narrowed := true }
def FnExactBlockedOnUptoSaid : Prop := fnExactBlockedOnUptoRow.holds Try.pinned (OpenSpec.upto fnExactBlockedOnSpec)

/-- 'laws.FnExactRefusedUses', WHERE WHAT IT READS IS OF BULK AT MOST 1048576: true; the input reads as it did. -/
def fnExactRefusedUsesUptoRow : OpenClaim := { program := "ytmpkhgpieioofaa", sum := "3f17210635ea5bcf7a76d5098deae72064b62e0d636c0ec1b9e30093463eb027", func := "loop.example/g00586/laws.FnExactRefusedUses", spec := "fnExactRefusedUses", apart := false, narrowed := true }
def FnExactRefusedUsesUptoSaid : Prop := fnExactRefusedUsesUptoRow.holds Try.pinned (OpenSpec.upto fnExactRefusedUsesSpec)

/-- 'laws.FnExactNewTab', WHERE WHAT IT READS IS OF BULK AT MOST 1048576: true; the input reads as it did. -/
def fnExactNewTabUptoRow : OpenClaim := { program := "ytmpkhgpieioofaa", sum := "3f17210635ea5bcf7a76d5098deae72064b62e0d636c0ec1b9e30093463eb027", func := "loop.example/g00586/laws.FnExactNewTab", spec := "fnExactNewTab", apart := false, narrowed := true }
def FnExactNewTabUptoSaid : Prop := fnExactNewTabUptoRow.holds Try.pinned (OpenSpec.upto fnExactNewTabSpec)

/-- 'laws.FnExactClassOf', WHERE WHAT IT READS IS OF BULK AT MOST 1048576: true; the input reads as it did. -/
def fnExactClassOfUptoRow : OpenClaim := { program := "ytmpkhgpieioofaa", sum := "3f17210635ea5bcf7a76d5098deae72064b62e0d636c0ec1b9e30093463eb027", func := "loop.example/g00586/laws.FnExactClassOf", spec := "fnExactClassOf", apart := false, narrowed := true }
def FnExactClassOfUptoSaid : Prop := fnExactClassOfUptoRow.holds Try.pinned (OpenSpec.upto fnExactClassOfSpec)

/-- 'laws.FnExactPresentAddr', WHERE WHAT IT READS IS OF BULK AT MOST 1048576: true; the input reads as it did. -/
def fnExactPresentAddrUptoRow : OpenClaim := { program := "ytmpkhgpieioofaa", sum := "3f17210635ea5bcf7a76d5098deae72064b62e0d636c0ec1b9e30093463eb027", func := "loop.example/g00586/laws.FnExactPresentAddr", spec := "fnExactPresentAddr", apart := false, narrowed := true }
def FnExactPresentAddrUptoSaid : Prop := fnExactPresentAddrUptoRow.holds Try.pinned (OpenSpec.upto fnExactPresentAddrSpec)

/-- 'laws.FnExactKeptCount', WHERE WHAT IT READS IS OF BULK AT MOST 1048576: true; the input reads as it did. -/
def fnExactKeptCountUptoRow : OpenClaim := { program := "ytmpkhgpieioofaa", sum := "3f17210635ea5bcf7a76d5098deae72064b62e0d636c0ec1b9e30093463eb027", func := "loop.example/g00586/laws.FnExactKeptCount", spec := "fnExactKeptCount", apart := false, narrowed := true }
def FnExactKeptCountUptoSaid : Prop := fnExactKeptCountUptoRow.holds Try.pinned (OpenSpec.upto fnExactKeptCountSpec)

/-- 'laws.FnExactIsTab', WHERE WHAT IT READS IS OF BULK AT MOST 1048576: true; the input reads as it did. -/
def fnExactIsTabUptoRow : OpenClaim := { program := "ytmpkhgpieioofaa", sum := "3f17210635ea5bcf7a76d5098deae72064b62e0d636c0ec1b9e30093463eb027", func := "loop.example/g00586/laws.FnExactIsTab", spec := "fnExactIsTab", apart := false, narrowed := true }
def FnExactIsTabUptoSaid : Prop := fnExactIsTabUptoRow.holds Try.pinned (OpenSpec.upto fnExactIsTabSpec)

end Rows
end Go.Proofs.Ytmpkhgpieioofaa
