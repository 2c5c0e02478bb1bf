/-
  The program's SameForOthers returns what the reference's returns, for all arguments: the law returns true. No condition.
-/
import Derived.Test.YtkadnfkdgljfoaaVPt
import Derived.Test.YtkadnfkdgljfoaaVPb
import Derived.Test.YtkadnfkdgljfoaaVSb
import Derived.Test.YtkadnfkdgljfoaaRows
import Derived.WalkKit
import Derived.ProofKit
import Derived.OpenShut
import Derived.Test.YtkadnfkdgljfoaaVEf
namespace Go.Proofs.Ytkadnfkdgljfoaa.fnExactSameForOthers
open Go.Proofs.Ytkadnfkdgljfoaa
open Go.D
set_option maxRecDepth 100000
set_option linter.unusedVariables false
set_option linter.unusedSimpArgs false
def tyOf : TypeId → Option Ty
  | 3 => some .int
  | 4 => some .bool
  | 5 => some .u8
  | 9 => some .str
  | 34 => some .addr
  | 36 => some .response
  | 54 => some .conn
  | 69 => some .tab
  | 77 => some .cache
  | 80 => some .net
  | 86 => some .cache
  | 89 => some .net
  | 94 => some .addr
  | 95 => some .response
  | 97 => some .conn
  | 111 => some .guess
  | 156 => some .policy
  | 158 => some .tokenizer
  | 162 => some .builder
  | 166 => some .page
  | 168 => some .visit
  | 177 => some .server
  | 181 => some .sent
  | 184 => some .sent
  | 188 => some .server
  | 215 => some .token
  | 218 => some .node
  | 220 => some .slot
  | 222 => some .module
  | 226 => some .entry
  | 231 => some .entry
  | 254 => some .attr
  | 257 => some .file
  | 259 => some .file
  | _ => none
def E0 : D.Env := D.Env.empty tyOf
theorem E0ok : EOk Try.prog E0 := EOk.empty _ _

-- laws.szAddr
set_option maxHeartbeats 2000000 in
theorem k103_0 : fszAddr.ok Try.prog 103 := Fct.of (S := fszAddr) (L := fun _ _ => none) (kp := [1,2,4,11,18,1000011,1000018]) E0ok Try.func103 (by kernel_rfl) (by kernel_rfl) (by
  rintro ⟨(x : SAddr), (n : Int), _⟩ hp
  refine holds_of (X := .br (decide (IntKind.i64.wrap (n - (↑x.host.size : Int)) < (0 : Int)))
 (.leaf (mkR fszAddr.rs ((-1 : Int), ())) [] [])
 (.br (decide (IntKind.i64.wrap (IntKind.i64.wrap (n - (↑x.host.size : Int)) - (↑x.path.size : Int)) < (0 : Int)))
  (.leaf (mkR fszAddr.rs ((-1 : Int), ())) [] [])
  (.leaf (mkR fszAddr.rs (IntKind.i64.wrap (IntKind.i64.wrap (n - (↑x.host.size : Int)) - (↑x.path.size : Int)), ())) [] []))) (by kernel_rfl) ?_
  refine br_i (fun h1 => Fct.leafY ?_) (fun h1 => br_i (fun h2 => Fct.leafY ?_) (fun h2 => Fct.leafY ?_))
  all_goals try simp only [decide_eq_true_eq, decide_eq_false_iff_not, Bool.not_eq_true', Bool.not_eq_false', bne_iff_ne, bne_eq_false_iff_eq, beq_iff_eq, beq_eq_false_iff_ne, baEq, Int.not_lt, Int.not_le, ne_eq, Decidable.not_not] at *
  all_goals try simp only [fszAddr, etaToken, etaNode, etaBuilder, etaPolicy, etaPage, etaVisit, etaTab, etaServer, etaCache, etaNet, etaLoader, etaSheet, etaResult, etaSlot, etaModule, etaAddr, etaRequest, etaResponse, etaConn, etaGuess, etaEntry, etaSent, etaFile, baSz, List.size_toArray, List.length_cons, List.length_nil, Nat.reduceAdd, Int.toNat_zero, List.drop_zero, decide_eq_true_eq, decide_eq_false_iff_not, Bool.not_eq_true', Bool.not_eq_false', bne_iff_ne, bne_eq_false_iff_eq, beq_iff_eq, beq_eq_false_iff_ne, Bool.not_eq_true, Bool.not_eq_false, ne_eq, Decidable.not_not, baEq, decide_not, Prod.mk.injEq, and_true, true_and, Room, List.nil_append, Nat.zero_add, Int.not_lt, Int.not_le, Sh.good, Sh.fc, enc, List.forall_mem_cons, List.not_mem_nil, false_implies, implies_true, goodC, maxLen] at *
  all_goals grind [wrapId', lessen, szAddr])
def E1 : D.Env := E0.add 103 fszAddr
theorem E1ok : EOk Try.prog E1 := E0ok.add k103_0
-- laws.toAddr
theorem k105_1 : ftoAddr.ok Try.prog 105 := Fct.of (S := ftoAddr) (L := fun _ _ => none) (kp := [1,2,3]) E1ok Try.func105 (by kernel_rfl) (by kernel_rfl) (by
  rintro ⟨(x : SAddr), _⟩ hp
  refine holds_of (X := .leaf (mkR ftoAddr.rs (x, ())) [] []) (by kernel_rfl) ?_
  refine Fct.leafY ?_
  all_goals try simp only [decide_eq_true_eq, decide_eq_false_iff_not, Bool.not_eq_true', Bool.not_eq_false', bne_iff_ne, bne_eq_false_iff_eq, beq_iff_eq, beq_eq_false_iff_ne, baEq, Int.not_lt, Int.not_le, ne_eq, Decidable.not_not] at *
  all_goals try simp only [ftoAddr, etaToken, etaNode, etaBuilder, etaPolicy, etaPage, etaVisit, etaTab, etaServer, etaCache, etaNet, etaLoader, etaSheet, etaResult, etaSlot, etaModule, etaAddr, etaRequest, etaResponse, etaConn, etaGuess, etaEntry, etaSent, etaFile, baSz, List.size_toArray, List.length_cons, List.length_nil, Nat.reduceAdd, Int.toNat_zero, List.drop_zero, decide_eq_true_eq, decide_eq_false_iff_not, Bool.not_eq_true', Bool.not_eq_false', bne_iff_ne, bne_eq_false_iff_eq, beq_iff_eq, beq_eq_false_iff_ne, Bool.not_eq_true, Bool.not_eq_false, ne_eq, Decidable.not_not, baEq, decide_not, Prod.mk.injEq, and_true, true_and, Room, List.nil_append, Nat.zero_add, Int.not_lt, Int.not_le] at *
  all_goals first | trivial | rfl | grind [szAddr])
def E2 : D.Env := E1.add 105 ftoAddr
theorem E2ok : EOk Try.prog E2 := E1ok.add k105_1
-- laws.eqAddr
set_option maxHeartbeats 2000000 in
theorem k107_2 : feqAddr.ok Try.prog 107 := Fct.of (S := feqAddr) (L := fun _ _ => none) (kp := [2,3,4,9,14,1000009,1000014]) E2ok Try.func107 (by kernel_rfl) (by kernel_rfl) (by
  rintro ⟨(x : SAddr), (y : SAddr), _⟩ hp
  refine holds_of (X := .br (!x.host.toList == y.host.toList)
 (.leaf (mkR feqAddr.rs (false, ())) [] [])
 (.br (!x.path.toList == y.path.toList)
  (.leaf (mkR feqAddr.rs (false, ())) [] [])
  (.leaf (mkR feqAddr.rs (true, ())) [] []))) (by kernel_rfl) ?_
  refine br_i (fun h1 => Fct.leafY ?_) (fun h1 => br_i (fun h2 => Fct.leafY ?_) (fun h2 => Fct.leafY ?_))
  all_goals try simp only [decide_eq_true_eq, decide_eq_false_iff_not, Bool.not_eq_true', Bool.not_eq_false', bne_iff_ne, bne_eq_false_iff_eq, beq_iff_eq, beq_eq_false_iff_ne, baEq, Int.not_lt, Int.not_le, ne_eq, Decidable.not_not] at *
  all_goals try simp only [feqAddr, etaToken, etaNode, etaBuilder, etaPolicy, etaPage, etaVisit, etaTab, etaServer, etaCache, etaNet, etaLoader, etaSheet, etaResult, etaSlot, etaModule, etaAddr, etaRequest, etaResponse, etaConn, etaGuess, etaEntry, etaSent, etaFile, baSz, List.size_toArray, List.length_cons, List.length_nil, Nat.reduceAdd, Int.toNat_zero, List.drop_zero, decide_eq_true_eq, decide_eq_false_iff_not, Bool.not_eq_true', Bool.not_eq_false', bne_iff_ne, bne_eq_false_iff_eq, beq_iff_eq, beq_eq_false_iff_ne, Bool.not_eq_true, Bool.not_eq_false, ne_eq, Decidable.not_not, baEq, decide_not, Prod.mk.injEq, and_true, true_and, Room, List.nil_append, Nat.zero_add, Int.not_lt, Int.not_le] at *
  all_goals first | trivial | (cases x; cases y; simp_all; done) | (simp only [szAddr] at *; omega) | grind [szAddr])
def E3 : D.Env := E2.add 107 feqAddr
theorem E3ok : EOk Try.prog E3 := E2ok.add k107_2
-- laws.szResponse
set_option maxHeartbeats 2000000 in
theorem k104_3 : fszResponse.ok Try.prog 104 := Fct.of (S := fszResponse) (L := fun _ _ => none) (kp := [1,2,4,11,18,1000011,1000018]) E3ok Try.func104 (by kernel_rfl) (by kernel_rfl) (by
  rintro ⟨(x : SResponse), (n : Int), _⟩ hp
  refine holds_of (X := .br (decide (IntKind.i64.wrap (n - (↑x.body.size : Int)) < (0 : Int)))
 (.leaf (mkR fszResponse.rs ((-1 : Int), ())) [] [])
 (.br (decide (IntKind.i64.wrap (IntKind.i64.wrap (n - (↑x.body.size : Int)) - (↑x.policy.size : Int)) < (0 : Int)))
  (.leaf (mkR fszResponse.rs ((-1 : Int), ())) [] [])
  (.leaf (mkR fszResponse.rs (IntKind.i64.wrap (IntKind.i64.wrap (n - (↑x.body.size : Int)) - (↑x.policy.size : Int)), ())) [] []))) (by kernel_rfl) ?_
  refine br_i (fun h1 => Fct.leafY ?_) (fun h1 => br_i (fun h2 => Fct.leafY ?_) (fun h2 => Fct.leafY ?_))
  all_goals try simp only [decide_eq_true_eq, decide_eq_false_iff_not, Bool.not_eq_true', Bool.not_eq_false', bne_iff_ne, bne_eq_false_iff_eq, beq_iff_eq, beq_eq_false_iff_ne, baEq, Int.not_lt, Int.not_le, ne_eq, Decidable.not_not] at *
  all_goals try simp only [fszResponse, etaToken, etaNode, etaBuilder, etaPolicy, etaPage, etaVisit, etaTab, etaServer, etaCache, etaNet, etaLoader, etaSheet, etaResult, etaSlot, etaModule, etaAddr, etaRequest, etaResponse, etaConn, etaGuess, etaEntry, etaSent, etaFile, baSz, List.size_toArray, List.length_cons, List.length_nil, Nat.reduceAdd, Int.toNat_zero, List.drop_zero, decide_eq_true_eq, decide_eq_false_iff_not, Bool.not_eq_true', Bool.not_eq_false', bne_iff_ne, bne_eq_false_iff_eq, beq_iff_eq, beq_eq_false_iff_ne, Bool.not_eq_true, Bool.not_eq_false, ne_eq, Decidable.not_not, baEq, decide_not, Prod.mk.injEq, and_true, true_and, Room, List.nil_append, Nat.zero_add, Int.not_lt, Int.not_le, Sh.good, Sh.fc, enc, List.forall_mem_cons, List.not_mem_nil, false_implies, implies_true, goodC, maxLen] at *
  all_goals grind [wrapId', lessen, szResponse])
def E4 : D.Env := E3.add 104 fszResponse
theorem E4ok : EOk Try.prog E4 := E3ok.add k104_3
-- laws.toResponse
theorem k106_4 : ftoResponse.ok Try.prog 106 := Fct.of (S := ftoResponse) (L := fun _ _ => none) (kp := [1,2,3]) E4ok Try.func106 (by kernel_rfl) (by kernel_rfl) (by
  rintro ⟨(x : SResponse), _⟩ hp
  refine holds_of (X := .leaf (mkR ftoResponse.rs (x, ())) [] []) (by kernel_rfl) ?_
  refine Fct.leafY ?_
  all_goals try simp only [decide_eq_true_eq, decide_eq_false_iff_not, Bool.not_eq_true', Bool.not_eq_false', bne_iff_ne, bne_eq_false_iff_eq, beq_iff_eq, beq_eq_false_iff_ne, baEq, Int.not_lt, Int.not_le, ne_eq, Decidable.not_not] at *
  all_goals try simp only [ftoResponse, etaToken, etaNode, etaBuilder, etaPolicy, etaPage, etaVisit, etaTab, etaServer, etaCache, etaNet, etaLoader, etaSheet, etaResult, etaSlot, etaModule, etaAddr, etaRequest, etaResponse, etaConn, etaGuess, etaEntry, etaSent, etaFile, baSz, List.size_toArray, List.length_cons, List.length_nil, Nat.reduceAdd, Int.toNat_zero, List.drop_zero, decide_eq_true_eq, decide_eq_false_iff_not, Bool.not_eq_true', Bool.not_eq_false', bne_iff_ne, bne_eq_false_iff_eq, beq_iff_eq, beq_eq_false_iff_ne, Bool.not_eq_true, Bool.not_eq_false, ne_eq, Decidable.not_not, baEq, decide_not, Prod.mk.injEq, and_true, true_and, Room, List.nil_append, Nat.zero_add, Int.not_lt, Int.not_le] at *
  all_goals first | trivial | rfl | grind [szResponse])
def E5 : D.Env := E4.add 106 ftoResponse
theorem E5ok : EOk Try.prog E5 := E4ok.add k106_4
-- laws.eqResponse
set_option maxHeartbeats 2000000 in
theorem k108_5 : feqResponse.ok Try.prog 108 := Fct.of (S := feqResponse) (L := fun _ _ => none) (kp := [2,3,4,9,14,19,24,29,34,1000009,1000014,1000019,1000024,1000029,1000034]) E5ok Try.func108 (by kernel_rfl) (by kernel_rfl) (by
  rintro ⟨(x : SResponse), (y : SResponse), _⟩ hp
  refine holds_of (X := .br (x.status != y.status)
 (.leaf (mkR feqResponse.rs (false, ())) [] [])
 (.br (x.kind != y.kind)
  (.leaf (mkR feqResponse.rs (false, ())) [] [])
  (.br (!x.body.toList == y.body.toList)
   (.leaf (mkR feqResponse.rs (false, ())) [] [])
   (.br (x.age != y.age)
    (.leaf (mkR feqResponse.rs (false, ())) [] [])
    (.br (!x.shares == y.shares)
     (.leaf (mkR feqResponse.rs (false, ())) [] [])
     (.br (!x.policy.toList == y.policy.toList)
      (.leaf (mkR feqResponse.rs (false, ())) [] [])
      (.leaf (mkR feqResponse.rs (true, ())) [] []))))))) (by kernel_rfl) ?_
  refine br_i (fun h1 => Fct.leafY ?_) (fun h1 => br_i (fun h2 => Fct.leafY ?_) (fun h2 => br_i (fun h3 => Fct.leafY ?_) (fun h3 => br_i (fun h4 => Fct.leafY ?_) (fun h4 => br_i (fun h5 => Fct.leafY ?_) (fun h5 => br_i (fun h6 => Fct.leafY ?_) (fun h6 => Fct.leafY ?_))))))
  all_goals try simp only [decide_eq_true_eq, decide_eq_false_iff_not, Bool.not_eq_true', Bool.not_eq_false', bne_iff_ne, bne_eq_false_iff_eq, beq_iff_eq, beq_eq_false_iff_ne, baEq, Int.not_lt, Int.not_le, ne_eq, Decidable.not_not] at *
  all_goals try simp only [feqResponse, etaToken, etaNode, etaBuilder, etaPolicy, etaPage, etaVisit, etaTab, etaServer, etaCache, etaNet, etaLoader, etaSheet, etaResult, etaSlot, etaModule, etaAddr, etaRequest, etaResponse, etaConn, etaGuess, etaEntry, etaSent, etaFile, baSz, List.size_toArray, List.length_cons, List.length_nil, Nat.reduceAdd, Int.toNat_zero, List.drop_zero, decide_eq_true_eq, decide_eq_false_iff_not, Bool.not_eq_true', Bool.not_eq_false', bne_iff_ne, bne_eq_false_iff_eq, beq_iff_eq, beq_eq_false_iff_ne, Bool.not_eq_true, Bool.not_eq_false, ne_eq, Decidable.not_not, baEq, decide_not, Prod.mk.injEq, and_true, true_and, Room, List.nil_append, Nat.zero_add, Int.not_lt, Int.not_le] at *
  all_goals first | trivial | (cases x; cases y; simp_all; done) | (simp only [szResponse] at *; omega) | grind [szResponse])
def E6 : D.Env := E5.add 108 feqResponse
theorem E6ok : EOk Try.prog E6 := E5ok.add k108_5
-- laws.szFile
set_option maxHeartbeats 2000000 in
theorem k195_6 : fszFile.ok Try.prog 195 := Fct.of (S := fszFile) (L := fun _ _ => none) (kp := [1,2,4,11,17,1000011,1000017]) E6ok Try.func195 (by kernel_rfl) (by kernel_rfl) (by
  rintro ⟨(x : SFile), (n : Int), _⟩ hp
  refine holds_of (X := .br (decide (IntKind.i64.wrap (n - (↑x.path.size : Int)) < (0 : Int)))
 (.leaf (mkR fszFile.rs ((-1 : Int), ())) [] [])
 (.ob (fszResponse.pre (x.response, IntKind.i64.wrap (n - (↑x.path.size : Int)), ())) <|
  .lt (Int × PUnit) (fszResponse.fn (x.response, IntKind.i64.wrap (n - (↑x.path.size : Int)), ())) fun z2 =>
  .br (decide (z2.fst < (0 : Int)))
   (.leaf (mkR fszFile.rs ((-1 : Int), ())) [] [])
   (.leaf (mkR fszFile.rs (z2.fst, ())) [] []))) (by kernel_rfl) ?_
  refine br_i (fun h1 => Fct.leafY ?_) (fun h1 => ob_i ?_ fun o2 => lt_i (br_i (fun h3 => Fct.leafY ?_) (fun h3 => Fct.leafY ?_)))
  all_goals try simp only [decide_eq_true_eq, decide_eq_false_iff_not, Bool.not_eq_true', Bool.not_eq_false', bne_iff_ne, bne_eq_false_iff_eq, beq_iff_eq, beq_eq_false_iff_ne, baEq, Int.not_lt, Int.not_le, ne_eq, Decidable.not_not] at *
  all_goals try simp only [fszFile, fszResponse, etaToken, etaNode, etaBuilder, etaPolicy, etaPage, etaVisit, etaTab, etaServer, etaCache, etaNet, etaLoader, etaSheet, etaResult, etaSlot, etaModule, etaAddr, etaRequest, etaResponse, etaConn, etaGuess, etaEntry, etaSent, etaFile, baSz, List.size_toArray, List.length_cons, List.length_nil, Nat.reduceAdd, Int.toNat_zero, List.drop_zero, decide_eq_true_eq, decide_eq_false_iff_not, Bool.not_eq_true', Bool.not_eq_false', bne_iff_ne, bne_eq_false_iff_eq, beq_iff_eq, beq_eq_false_iff_ne, Bool.not_eq_true, Bool.not_eq_false, ne_eq, Decidable.not_not, baEq, decide_not, Prod.mk.injEq, and_true, true_and, Room, List.nil_append, Nat.zero_add, Int.not_lt, Int.not_le, Sh.good, Sh.fc, enc, List.forall_mem_cons, List.not_mem_nil, false_implies, implies_true, goodC, maxLen] at *
  all_goals grind [wrapId', lessen, szFile, szResponse])
def E7 : D.Env := E6.add 195 fszFile
theorem E7ok : EOk Try.prog E7 := E6ok.add k195_6
-- laws.toFile
theorem k196_7 : ftoFile.ok Try.prog 196 := Fct.of (S := ftoFile) (L := fun _ _ => none) (kp := [1,2,3]) E7ok Try.func196 (by kernel_rfl) (by kernel_rfl) (by
  rintro ⟨(x : SFile), _⟩ hp
  refine holds_of (X := .ob (ftoResponse.pre (x.response, ())) <|
 .lt (SResponse × PUnit) (ftoResponse.fn (x.response, ())) fun z2 =>
 .leaf (mkR ftoFile.rs (⟨x.path, z2.fst⟩, ())) [] []) (by kernel_rfl) ?_
  refine ob_i ?_ fun o1 => lt_i (Fct.leafY ?_)
  all_goals try simp only [decide_eq_true_eq, decide_eq_false_iff_not, Bool.not_eq_true', Bool.not_eq_false', bne_iff_ne, bne_eq_false_iff_eq, beq_iff_eq, beq_eq_false_iff_ne, baEq, Int.not_lt, Int.not_le, ne_eq, Decidable.not_not] at *
  all_goals try simp only [ftoFile, ftoResponse, etaToken, etaNode, etaBuilder, etaPolicy, etaPage, etaVisit, etaTab, etaServer, etaCache, etaNet, etaLoader, etaSheet, etaResult, etaSlot, etaModule, etaAddr, etaRequest, etaResponse, etaConn, etaGuess, etaEntry, etaSent, etaFile, baSz, List.size_toArray, List.length_cons, List.length_nil, Nat.reduceAdd, Int.toNat_zero, List.drop_zero, decide_eq_true_eq, decide_eq_false_iff_not, Bool.not_eq_true', Bool.not_eq_false', bne_iff_ne, bne_eq_false_iff_eq, beq_iff_eq, beq_eq_false_iff_ne, Bool.not_eq_true, Bool.not_eq_false, ne_eq, Decidable.not_not, baEq, decide_not, Prod.mk.injEq, and_true, true_and, Room, List.nil_append, Nat.zero_add, Int.not_lt, Int.not_le] at *
  all_goals first | trivial | rfl | grind [szFile, szResponse])
def E8 : D.Env := E7.add 196 ftoFile
theorem E8ok : EOk Try.prog E8 := E7ok.add k196_7
-- laws.eqFile
set_option maxHeartbeats 2000000 in
theorem k199_8 : feqFile.ok Try.prog 199 := Fct.of (S := feqFile) (L := fun _ _ => none) (kp := [2,3,4,9,15,1000009,1000015]) E8ok Try.func199 (by kernel_rfl) (by kernel_rfl) (by
  rintro ⟨(x : SFile), (y : SFile), _⟩ hp
  refine holds_of (X := .br (!x.path.toList == y.path.toList)
 (.leaf (mkR feqFile.rs (false, ())) [] [])
 (.ob (feqResponse.pre (x.response, y.response, ())) <|
  .lt (Bool × PUnit) (feqResponse.fn (x.response, y.response, ())) fun z2 =>
  .br (!z2.fst)
   (.leaf (mkR feqFile.rs (false, ())) [] [])
   (.leaf (mkR feqFile.rs (true, ())) [] []))) (by kernel_rfl) ?_
  refine br_i (fun h1 => Fct.leafY ?_) (fun h1 => ob_i trivial fun _ => lt_i (br_i (fun h2 => Fct.leafY ?_) (fun h2 => Fct.leafY ?_)))
  all_goals try simp only [decide_eq_true_eq, decide_eq_false_iff_not, Bool.not_eq_true', Bool.not_eq_false', bne_iff_ne, bne_eq_false_iff_eq, beq_iff_eq, beq_eq_false_iff_ne, baEq, Int.not_lt, Int.not_le, ne_eq, Decidable.not_not] at *
  all_goals try simp only [feqFile, feqResponse, etaToken, etaNode, etaBuilder, etaPolicy, etaPage, etaVisit, etaTab, etaServer, etaCache, etaNet, etaLoader, etaSheet, etaResult, etaSlot, etaModule, etaAddr, etaRequest, etaResponse, etaConn, etaGuess, etaEntry, etaSent, etaFile, baSz, List.size_toArray, List.length_cons, List.length_nil, Nat.reduceAdd, Int.toNat_zero, List.drop_zero, decide_eq_true_eq, decide_eq_false_iff_not, Bool.not_eq_true', Bool.not_eq_false', bne_iff_ne, bne_eq_false_iff_eq, beq_iff_eq, beq_eq_false_iff_ne, Bool.not_eq_true, Bool.not_eq_false, ne_eq, Decidable.not_not, baEq, decide_not, Prod.mk.injEq, and_true, true_and, Room, List.nil_append, Nat.zero_add, Int.not_lt, Int.not_le] at *
  all_goals first | trivial | (cases x; cases y; simp_all; done) | (simp only [szFile, szResponse] at *; omega) | grind [szFile, szResponse])
def E9 : D.Env := E8.add 199 feqFile
theorem E9ok : EOk Try.prog E9 := E8ok.add k199_8
-- laws.szFileS
set_option maxHeartbeats 2000000 in
theorem k163_9 : fszFileS.ok Try.prog 163 := Fct.of (S := fszFileS) (L := fun ⟨l, n, _⟩ => fun | 5 => some (LszS .file szFile l n) | _ => none) (kp := [0,1,4,5,11,15,25,1000011,1000015,1000025]) E9ok Try.func163 (by kernel_rfl) (by kernel_rfl) (by
  rintro ⟨(l : List SFile), (n : Int), _⟩ hp
  refine holds_of (X := .br (decide (IntKind.i64.wrap (n - (↑l.length : Int)) < (0 : Int)))
 (.leaf (mkR fszFileS.rs ((-1 : Int), ())) [] [])
 (lpx (LszS .file szFile l n) (IntKind.i64.wrap (n - (↑l.length : Int)), ((0 : Int), ())) fun (y2 : Int × Int × PUnit) bk2 =>
  .br (decide (y2.snd.fst < (↑l.length : Int)))
   (.ob ((0 : Int) ≤ y2.snd.fst ∧ y2.snd.fst < (↑l.length : Int)) <|
    .ob (fszFile.pre (l.getD y2.snd.fst.toNat default, y2.fst, ())) <|
    .lt (Int × PUnit) (fszFile.fn (l.getD y2.snd.fst.toNat default, y2.fst, ())) fun z2 =>
    .br (decide (z2.fst < (0 : Int)))
     (.leaf (mkR fszFileS.rs ((-1 : Int), ())) [] [])
     (.ob (l = l) <|
      .ob (bk2 (z2.fst, (IntKind.i64.wrap (y2.snd.fst + (1 : Int)), ()))) <|
      .ok))
   (.leaf (mkR fszFileS.rs (y2.fst, ())) [] []))) (by kernel_rfl) ?_
  refine br_i (fun h1 => Fct.leafY ?_) (fun h1 => lpx_i ?_ fun (y2 : Int × Int × PUnit) i2 => br_i (fun h3 => ob_i ?_ fun o4 => ob_i ?_ fun o5 => lt_i (br_i (fun h6 => Fct.leafY ?_) (fun h6 => ob_i rfl fun _ => ob_i ?_ fun o7 => trivial))) (fun h3 => Fct.leafY ?_))
  all_goals try simp only [decide_eq_true_eq, decide_eq_false_iff_not, Bool.not_eq_true', Bool.not_eq_false', bne_iff_ne, bne_eq_false_iff_eq, beq_iff_eq, beq_eq_false_iff_ne, baEq, Int.not_lt, Int.not_le, ne_eq, Decidable.not_not] at *
  all_goals try simp only [LszS, fszFile, fszFileS, etaToken, etaNode, etaBuilder, etaPolicy, etaPage, etaVisit, etaTab, etaServer, etaCache, etaNet, etaLoader, etaSheet, etaResult, etaSlot, etaModule, etaAddr, etaRequest, etaResponse, etaConn, etaGuess, etaEntry, etaSent, etaFile, baSz, List.size_toArray, List.length_cons, List.length_nil, Nat.reduceAdd, Int.toNat_zero, List.drop_zero, decide_eq_true_eq, decide_eq_false_iff_not, Bool.not_eq_true', Bool.not_eq_false', bne_iff_ne, bne_eq_false_iff_eq, beq_iff_eq, beq_eq_false_iff_ne, Bool.not_eq_true, Bool.not_eq_false, ne_eq, Decidable.not_not, baEq, decide_not, Prod.mk.injEq, and_true, true_and, Room, List.nil_append, Nat.zero_add, Int.not_lt, Int.not_le] at *
  · have := good_len hp.1; simp only [maxLen] at this; rw [wrapId (by omega)] at h1
    rw [lessenNeg (by simp only [szL]; omega)]
  · have := good_len hp.1; simp only [maxLen] at this
    rw [wrapId (by omega)] at h1 ⊢
    exact ⟨by omega, by omega, h1, by simp⟩
  · omega
  · exact ⟨good_getD hp.1 (by omega), by omega, by omega⟩
  · have hs := sum_take_le szFile l (y2.2.1.toNat + 1)
    rw [sum_take szFile (by omega)] at hs
    rw [lessen_lt (by omega)] at h6
    rw [lessenNeg (by simp only [szL]; omega)]
  · have hw : IntKind.i64.wrap (y2.2.1 + 1) = y2.2.1 + 1 := wrapId (by have := good_len hp.1; simp only [maxLen] at this; omega)
    have h7 : ¬ lessen y2.1 (szFile (l.getD y2.2.1.toNat default)) < 0 := by omega
    rw [lessen_lt (by omega)] at h7
    rw [hw, toNat1 (by omega), sum_take szFile (by omega), lessen_ge (by omega)]
    exact ⟨⟨by omega, by omega, by omega, by omega⟩, by omega⟩
  · have e : l.take y2.2.1.toNat = l := List.take_of_length_le (by omega)
    rw [e] at i2
    have hz : ((szL szFile l : Nat) : Int) = l.length + (l.map szFile).sum := by simp only [szL]; omega
    rw [lessen_ge (by omega)]
    show y2.1 = n - ((szL szFile l : Nat) : Int)
    omega)
def E10 : D.Env := E9.add 163 fszFileS
theorem E10ok : EOk Try.prog E10 := E9ok.add k163_9
-- laws.toFileS
theorem k167_10 : ftoFileS.ok Try.prog 167 := Fct.of (S := ftoFileS) (L := fun ⟨l, _⟩ => fun | 3 => some (LtoS .file l) | _ => none) (kp := [0,2,3,4,11,1000011]) E10ok Try.func167 (by kernel_rfl) (by kernel_rfl) (by
  rintro ⟨(l : List SFile), _⟩ hp
  refine holds_of (X := .ob ((↑l.length : Int) = (↑l.length : Int) ∧
  (0 : Int) ≤ (↑l.length : Int) ∧
    (80 : Int) * (↑l.length : Int) ≤ (140737488355328 : Int) ∧ (↑l.length : Int) ≤ (140737488355328 : Int)) <|
 lpx (LtoS .file l) ((0 : Int), (List.replicate (↑l.length : Int).toNat default, ())) fun (y2 : Int × List SFile × PUnit) bk2 =>
 .br (decide (y2.fst < (↑l.length : Int)))
  (.ob ((0 : Int) ≤ y2.fst ∧ y2.fst < (↑l.length : Int)) <|
   .ob (ftoFile.pre (l.getD y2.fst.toNat default, ())) <|
   .lt (SFile × PUnit) (ftoFile.fn (l.getD y2.fst.toNat default, ())) fun z2 =>
   .ob ((0 : Int) ≤ y2.fst ∧ y2.fst < (↑y2.snd.fst.length : Int)) <|
    .ob (y2.fst.toNat < y2.snd.fst.length) <|
    .lt (List SFile) (y2.snd.fst.modify y2.fst.toNat fun z => z2.fst) fun z3 =>
    .ob (l = l) <|
     .ob (bk2 (IntKind.i64.wrap (y2.fst + (1 : Int)), (z3, ()))) <|
     .ok)
  (.leaf (mkR ftoFileS.rs (y2.snd.fst, ())) [] [])) (by kernel_rfl) ?_
  refine ob_i ?_ fun o1 => lpx_i ?_ fun (y2 : Int × List SFile × PUnit) i2 => br_i (fun h3 => ob_i ?_ fun o4 => ob_i ?_ fun o5 => lt_i (ob_i ?_ fun o6 => ob_i ?_ fun o7 => lt_i (ob_i rfl fun _ => ob_i ?_ fun o8 => trivial))) (fun h3 => Fct.leafY ?_)
  all_goals try simp only [decide_eq_true_eq, decide_eq_false_iff_not, Bool.not_eq_true', Bool.not_eq_false', bne_iff_ne, bne_eq_false_iff_eq, beq_iff_eq, beq_eq_false_iff_ne, baEq, Int.not_lt, Int.not_le, ne_eq, Decidable.not_not] at *
  all_goals try simp only [LtoS, ftoFile, ftoFileS, etaToken, etaNode, etaBuilder, etaPolicy, etaPage, etaVisit, etaTab, etaServer, etaCache, etaNet, etaLoader, etaSheet, etaResult, etaSlot, etaModule, etaAddr, etaRequest, etaResponse, etaConn, etaGuess, etaEntry, etaSent, etaFile, baSz, List.size_toArray, List.length_cons, List.length_nil, Nat.reduceAdd, Int.toNat_zero, List.drop_zero, decide_eq_true_eq, decide_eq_false_iff_not, Bool.not_eq_true', Bool.not_eq_false', bne_iff_ne, bne_eq_false_iff_eq, beq_iff_eq, beq_eq_false_iff_ne, Bool.not_eq_true, Bool.not_eq_false, ne_eq, Decidable.not_not, baEq, decide_not, Prod.mk.injEq, and_true, true_and, Room, List.nil_append, Nat.zero_add, Int.not_lt, Int.not_le] at *
  · have := szL_len szFile l; omega
  · exact ⟨by omega, by omega, by simp⟩
  · omega
  · have hs := sum_take_le szFile l (y2.1.toNat + 1)
    rw [sum_take szFile (by omega)] at hs
    simp only [szL] at hp; omega
  · rw [i2.2.2]; simp; omega
  · rw [i2.2.2]; simp; omega
  · have hw : IntKind.i64.wrap (y2.1 + 1) = y2.1 + 1 := wrapId (by have := szL_len szFile l; omega)
    rw [hw, toNat1 (by omega), i2.2.2]
    refine ⟨⟨by omega, by omega, ?_⟩, by omega⟩
    rw [show l.length - y2.1.toNat = (l.length - (y2.1.toNat + 1)) + 1 from by omega, List.replicate_succ, mod_at (by simp; omega), take_succ (by omega)]
    simp
  · have e : l.take y2.1.toNat = l := List.take_of_length_le (by omega)
    rw [i2.2.2, e]; simp; omega)
def E11 : D.Env := E10.add 167 ftoFileS
theorem E11ok : EOk Try.prog E11 := E10ok.add k167_10
-- laws.eqFileS
set_option maxHeartbeats 2000000 in
theorem k173_11 : feqFileS.ok Try.prog 173 := Fct.of (S := feqFileS) (L := fun ⟨l, m, _⟩ => fun | 4 => some (LeqS .file l m) | _ => none) (kp := [0,1,4,5,10,14,26,1000010,1000014,1000026]) E11ok Try.func173 (by kernel_rfl) (by kernel_rfl) (by
  rintro ⟨(l : List SFile), (m : List SFile), _⟩ hp
  refine holds_of (X := .br ((↑l.length : Int) != (↑m.length : Int))
 (.leaf (mkR feqFileS.rs (false, ())) [] [])
 (lpx (LeqS .file l m) ((0 : Int), ()) fun (y2 : Int × PUnit) bk2 =>
  .br (decide (y2.fst < (↑l.length : Int)))
   (.ob ((0 : Int) ≤ y2.fst ∧ y2.fst < (↑l.length : Int)) <|
    .ob ((0 : Int) ≤ y2.fst ∧ y2.fst < (↑m.length : Int)) <|
    .ob (feqFile.pre (l.getD y2.fst.toNat default, m.getD y2.fst.toNat default, ())) <|
    .lt (Bool × PUnit) (feqFile.fn (l.getD y2.fst.toNat default, m.getD y2.fst.toNat default, ())) fun z2 =>
    .br (!z2.fst)
     (.leaf (mkR feqFileS.rs (false, ())) [] [])
     (.ob (l = l) <|
      .ob (m = m) <|
      .ob (bk2 (IntKind.i64.wrap (y2.fst + (1 : Int)), ())) <|
      .ok))
   (.leaf (mkR feqFileS.rs (true, ())) [] []))) (by kernel_rfl) ?_
  refine br_i (fun h1 => Fct.leafY ?_) (fun h1 => lpx_i ?_ fun (y2 : Int × PUnit) i2 => br_i (fun h3 => ob_i ?_ fun o4 => ob_i ?_ fun o5 => ob_i trivial fun _ => lt_i (br_i (fun h6 => Fct.leafY ?_) (fun h6 => ob_i rfl fun _ => ob_i rfl fun _ => ob_i ?_ fun o7 => trivial))) (fun h3 => Fct.leafY ?_))
  all_goals try simp only [decide_eq_true_eq, decide_eq_false_iff_not, Bool.not_eq_true', Bool.not_eq_false', bne_iff_ne, bne_eq_false_iff_eq, beq_iff_eq, beq_eq_false_iff_ne, baEq, Int.not_lt, Int.not_le, ne_eq, Decidable.not_not] at *
  all_goals try simp only [LeqS, feqFile, feqFileS, etaToken, etaNode, etaBuilder, etaPolicy, etaPage, etaVisit, etaTab, etaServer, etaCache, etaNet, etaLoader, etaSheet, etaResult, etaSlot, etaModule, etaAddr, etaRequest, etaResponse, etaConn, etaGuess, etaEntry, etaSent, etaFile, baSz, List.size_toArray, List.length_cons, List.length_nil, Nat.reduceAdd, Int.toNat_zero, List.drop_zero, decide_eq_true_eq, decide_eq_false_iff_not, Bool.not_eq_true', Bool.not_eq_false', bne_iff_ne, bne_eq_false_iff_eq, beq_iff_eq, beq_eq_false_iff_ne, Bool.not_eq_true, Bool.not_eq_false, ne_eq, Decidable.not_not, baEq, decide_not, Prod.mk.injEq, and_true, true_and, Room, List.nil_append, Nat.zero_add, Int.not_lt, Int.not_le] at *
  · rw [decide_eq_false]; rintro rfl; omega
  · exact ⟨by omega, by omega, by simp⟩
  · omega
  · omega
  · rw [decide_eq_false]; rintro rfl; exact absurd rfl h6
  · have hw : IntKind.i64.wrap (y2.1 + 1) = y2.1 + 1 := wrapId (by omega)
    rw [hw, toNat1 (by omega)]
    refine ⟨⟨by omega, by omega, ?_⟩, by omega⟩
    rw [take_succ (by omega), take_succ (by omega), i2.2.2, h6]
  · have e : l.take y2.1.toNat = l := List.take_of_length_le (by omega)
    have e2 : m.take y2.1.toNat = m := List.take_of_length_le (by omega)
    rw [decide_eq_true]; rw [← e, ← e2, i2.2.2])
def E12 : D.Env := E11.add 173 feqFileS
theorem E12ok : EOk Try.prog E12 := E11ok.add k173_11
-- laws.szServer
set_option maxHeartbeats 2000000 in
theorem k130_12 : fszServer.ok Try.prog 130 := Fct.of (S := fszServer) (L := fun _ _ => none) (kp := [1,2,4,11,17,1000011,1000017]) E12ok Try.func130 (by kernel_rfl) (by kernel_rfl) (by
  rintro ⟨(x : SServer), (n : Int), _⟩ hp
  refine holds_of (X := .br (decide (IntKind.i64.wrap (n - (↑x.host.size : Int)) < (0 : Int)))
 (.leaf (mkR fszServer.rs ((-1 : Int), ())) [] [])
 (.ob (fszFileS.pre (x.files, IntKind.i64.wrap (n - (↑x.host.size : Int)), ())) <|
  .lt (Int × PUnit) (fszFileS.fn (x.files, IntKind.i64.wrap (n - (↑x.host.size : Int)), ())) fun z2 =>
  .br (decide (z2.fst < (0 : Int)))
   (.leaf (mkR fszServer.rs ((-1 : Int), ())) [] [])
   (.leaf (mkR fszServer.rs (z2.fst, ())) [] []))) (by kernel_rfl) ?_
  refine br_i (fun h1 => Fct.leafY ?_) (fun h1 => ob_i ?_ fun o2 => lt_i (br_i (fun h3 => Fct.leafY ?_) (fun h3 => Fct.leafY ?_)))
  all_goals try simp only [decide_eq_true_eq, decide_eq_false_iff_not, Bool.not_eq_true', Bool.not_eq_false', bne_iff_ne, bne_eq_false_iff_eq, beq_iff_eq, beq_eq_false_iff_ne, baEq, Int.not_lt, Int.not_le, ne_eq, Decidable.not_not] at *
  all_goals try simp only [fszFileS, fszServer, etaToken, etaNode, etaBuilder, etaPolicy, etaPage, etaVisit, etaTab, etaServer, etaCache, etaNet, etaLoader, etaSheet, etaResult, etaSlot, etaModule, etaAddr, etaRequest, etaResponse, etaConn, etaGuess, etaEntry, etaSent, etaFile, baSz, List.size_toArray, List.length_cons, List.length_nil, Nat.reduceAdd, Int.toNat_zero, List.drop_zero, decide_eq_true_eq, decide_eq_false_iff_not, Bool.not_eq_true', Bool.not_eq_false', bne_iff_ne, bne_eq_false_iff_eq, beq_iff_eq, beq_eq_false_iff_ne, Bool.not_eq_true, Bool.not_eq_false, ne_eq, Decidable.not_not, baEq, decide_not, Prod.mk.injEq, and_true, true_and, Room, List.nil_append, Nat.zero_add, Int.not_lt, Int.not_le, Sh.good, Sh.fc, enc, List.forall_mem_cons, List.not_mem_nil, false_implies, implies_true, goodC, maxLen] at *
  all_goals grind [wrapId', lessen, szL, szServer])
def E13 : D.Env := E12.add 130 fszServer
theorem E13ok : EOk Try.prog E13 := E12ok.add k130_12
-- laws.toServer
theorem k135_13 : ftoServer.ok Try.prog 135 := Fct.of (S := ftoServer) (L := fun _ _ => none) (kp := [1,2,3]) E13ok Try.func135 (by kernel_rfl) (by kernel_rfl) (by
  rintro ⟨(x : SServer), _⟩ hp
  refine holds_of (X := .ob (ftoFileS.pre (x.files, ())) <|
 .lt (List SFile × PUnit) (ftoFileS.fn (x.files, ())) fun z2 =>
 .leaf (mkR ftoServer.rs (⟨x.host, z2.fst⟩, ())) [] []) (by kernel_rfl) ?_
  refine ob_i ?_ fun o1 => lt_i (Fct.leafY ?_)
  all_goals try simp only [decide_eq_true_eq, decide_eq_false_iff_not, Bool.not_eq_true', Bool.not_eq_false', bne_iff_ne, bne_eq_false_iff_eq, beq_iff_eq, beq_eq_false_iff_ne, baEq, Int.not_lt, Int.not_le, ne_eq, Decidable.not_not] at *
  all_goals try simp only [ftoFileS, ftoServer, etaToken, etaNode, etaBuilder, etaPolicy, etaPage, etaVisit, etaTab, etaServer, etaCache, etaNet, etaLoader, etaSheet, etaResult, etaSlot, etaModule, etaAddr, etaRequest, etaResponse, etaConn, etaGuess, etaEntry, etaSent, etaFile, baSz, List.size_toArray, List.length_cons, List.length_nil, Nat.reduceAdd, Int.toNat_zero, List.drop_zero, decide_eq_true_eq, decide_eq_false_iff_not, Bool.not_eq_true', Bool.not_eq_false', bne_iff_ne, bne_eq_false_iff_eq, beq_iff_eq, beq_eq_false_iff_ne, Bool.not_eq_true, Bool.not_eq_false, ne_eq, Decidable.not_not, baEq, decide_not, Prod.mk.injEq, and_true, true_and, Room, List.nil_append, Nat.zero_add, Int.not_lt, Int.not_le] at *
  all_goals first | trivial | rfl | grind [szL, szServer])
def E14 : D.Env := E13.add 135 ftoServer
theorem E14ok : EOk Try.prog E14 := E13ok.add k135_13
-- laws.eqServer
set_option maxHeartbeats 2000000 in
theorem k140_14 : feqServer.ok Try.prog 140 := Fct.of (S := feqServer) (L := fun _ _ => none) (kp := [2,3,4,9,15,1000009,1000015]) E14ok Try.func140 (by kernel_rfl) (by kernel_rfl) (by
  rintro ⟨(x : SServer), (y : SServer), _⟩ hp
  refine holds_of (X := .br (!x.host.toList == y.host.toList)
 (.leaf (mkR feqServer.rs (false, ())) [] [])
 (.ob (feqFileS.pre (x.files, y.files, ())) <|
  .lt (Bool × PUnit) (feqFileS.fn (x.files, y.files, ())) fun z2 =>
  .br (!z2.fst)
   (.leaf (mkR feqServer.rs (false, ())) [] [])
   (.leaf (mkR feqServer.rs (true, ())) [] []))) (by kernel_rfl) ?_
  refine br_i (fun h1 => Fct.leafY ?_) (fun h1 => ob_i ?_ fun o2 => lt_i (br_i (fun h3 => Fct.leafY ?_) (fun h3 => Fct.leafY ?_)))
  all_goals try simp only [decide_eq_true_eq, decide_eq_false_iff_not, Bool.not_eq_true', Bool.not_eq_false', bne_iff_ne, bne_eq_false_iff_eq, beq_iff_eq, beq_eq_false_iff_ne, baEq, Int.not_lt, Int.not_le, ne_eq, Decidable.not_not] at *
  all_goals try simp only [feqFileS, feqServer, etaToken, etaNode, etaBuilder, etaPolicy, etaPage, etaVisit, etaTab, etaServer, etaCache, etaNet, etaLoader, etaSheet, etaResult, etaSlot, etaModule, etaAddr, etaRequest, etaResponse, etaConn, etaGuess, etaEntry, etaSent, etaFile, baSz, List.size_toArray, List.length_cons, List.length_nil, Nat.reduceAdd, Int.toNat_zero, List.drop_zero, decide_eq_true_eq, decide_eq_false_iff_not, Bool.not_eq_true', Bool.not_eq_false', bne_iff_ne, bne_eq_false_iff_eq, beq_iff_eq, beq_eq_false_iff_ne, Bool.not_eq_true, Bool.not_eq_false, ne_eq, Decidable.not_not, baEq, decide_not, Prod.mk.injEq, and_true, true_and, Room, List.nil_append, Nat.zero_add, Int.not_lt, Int.not_le] at *
  all_goals first | trivial | (cases x; cases y; simp_all; done) | (simp only [szL, szServer] at *; omega) | grind [szL, szServer])
def E15 : D.Env := E14.add 140 feqServer
theorem E15ok : EOk Try.prog E15 := E14ok.add k140_14
-- laws.szServerS
set_option maxHeartbeats 2000000 in
theorem k88_15 : fszServerS.ok Try.prog 88 := Fct.of (S := fszServerS) (L := fun ⟨l, n, _⟩ => fun | 5 => some (LszS .server szServer l n) | _ => none) (kp := [0,1,4,5,11,15,25,1000011,1000015,1000025]) E15ok Try.func88 (by kernel_rfl) (by kernel_rfl) (by
  rintro ⟨(l : List SServer), (n : Int), _⟩ hp
  refine holds_of (X := .br (decide (IntKind.i64.wrap (n - (↑l.length : Int)) < (0 : Int)))
 (.leaf (mkR fszServerS.rs ((-1 : Int), ())) [] [])
 (lpx (LszS .server szServer l n) (IntKind.i64.wrap (n - (↑l.length : Int)), ((0 : Int), ())) fun (y2 : Int × Int × PUnit) bk2 =>
  .br (decide (y2.snd.fst < (↑l.length : Int)))
   (.ob ((0 : Int) ≤ y2.snd.fst ∧ y2.snd.fst < (↑l.length : Int)) <|
    .ob (fszServer.pre (l.getD y2.snd.fst.toNat default, y2.fst, ())) <|
    .lt (Int × PUnit) (fszServer.fn (l.getD y2.snd.fst.toNat default, y2.fst, ())) fun z2 =>
    .br (decide (z2.fst < (0 : Int)))
     (.leaf (mkR fszServerS.rs ((-1 : Int), ())) [] [])
     (.ob (l = l) <|
      .ob (bk2 (z2.fst, (IntKind.i64.wrap (y2.snd.fst + (1 : Int)), ()))) <|
      .ok))
   (.leaf (mkR fszServerS.rs (y2.fst, ())) [] []))) (by kernel_rfl) ?_
  refine br_i (fun h1 => Fct.leafY ?_) (fun h1 => lpx_i ?_ fun (y2 : Int × Int × PUnit) i2 => br_i (fun h3 => ob_i ?_ fun o4 => ob_i ?_ fun o5 => lt_i (br_i (fun h6 => Fct.leafY ?_) (fun h6 => ob_i rfl fun _ => ob_i ?_ fun o7 => trivial))) (fun h3 => Fct.leafY ?_))
  all_goals try simp only [decide_eq_true_eq, decide_eq_false_iff_not, Bool.not_eq_true', Bool.not_eq_false', bne_iff_ne, bne_eq_false_iff_eq, beq_iff_eq, beq_eq_false_iff_ne, baEq, Int.not_lt, Int.not_le, ne_eq, Decidable.not_not] at *
  all_goals try simp only [LszS, fszServer, fszServerS, etaToken, etaNode, etaBuilder, etaPolicy, etaPage, etaVisit, etaTab, etaServer, etaCache, etaNet, etaLoader, etaSheet, etaResult, etaSlot, etaModule, etaAddr, etaRequest, etaResponse, etaConn, etaGuess, etaEntry, etaSent, etaFile, baSz, List.size_toArray, List.length_cons, List.length_nil, Nat.reduceAdd, Int.toNat_zero, List.drop_zero, decide_eq_true_eq, decide_eq_false_iff_not, Bool.not_eq_true', Bool.not_eq_false', bne_iff_ne, bne_eq_false_iff_eq, beq_iff_eq, beq_eq_false_iff_ne, Bool.not_eq_true, Bool.not_eq_false, ne_eq, Decidable.not_not, baEq, decide_not, Prod.mk.injEq, and_true, true_and, Room, List.nil_append, Nat.zero_add, Int.not_lt, Int.not_le] at *
  · have := good_len hp.1; simp only [maxLen] at this; rw [wrapId (by omega)] at h1
    rw [lessenNeg (by simp only [szL]; omega)]
  · have := good_len hp.1; simp only [maxLen] at this
    rw [wrapId (by omega)] at h1 ⊢
    exact ⟨by omega, by omega, h1, by simp⟩
  · omega
  · exact ⟨good_getD hp.1 (by omega), by omega, by omega⟩
  · have hs := sum_take_le szServer l (y2.2.1.toNat + 1)
    rw [sum_take szServer (by omega)] at hs
    rw [lessen_lt (by omega)] at h6
    rw [lessenNeg (by simp only [szL]; omega)]
  · have hw : IntKind.i64.wrap (y2.2.1 + 1) = y2.2.1 + 1 := wrapId (by have := good_len hp.1; simp only [maxLen] at this; omega)
    have h7 : ¬ lessen y2.1 (szServer (l.getD y2.2.1.toNat default)) < 0 := by omega
    rw [lessen_lt (by omega)] at h7
    rw [hw, toNat1 (by omega), sum_take szServer (by omega), lessen_ge (by omega)]
    exact ⟨⟨by omega, by omega, by omega, by omega⟩, by omega⟩
  · have e : l.take y2.2.1.toNat = l := List.take_of_length_le (by omega)
    rw [e] at i2
    have hz : ((szL szServer l : Nat) : Int) = l.length + (l.map szServer).sum := by simp only [szL]; omega
    rw [lessen_ge (by omega)]
    show y2.1 = n - ((szL szServer l : Nat) : Int)
    omega)
def E16 : D.Env := E15.add 88 fszServerS
theorem E16ok : EOk Try.prog E16 := E15ok.add k88_15
-- laws.toServerS
theorem k94_16 : ftoServerS.ok Try.prog 94 := Fct.of (S := ftoServerS) (L := fun ⟨l, _⟩ => fun | 3 => some (LtoS .server l) | _ => none) (kp := [0,2,3,4,11,1000011]) E16ok Try.func94 (by kernel_rfl) (by kernel_rfl) (by
  rintro ⟨(l : List SServer), _⟩ hp
  refine holds_of (X := .ob ((↑l.length : Int) = (↑l.length : Int) ∧
  (0 : Int) ≤ (↑l.length : Int) ∧
    (40 : Int) * (↑l.length : Int) ≤ (140737488355328 : Int) ∧ (↑l.length : Int) ≤ (140737488355328 : Int)) <|
 lpx (LtoS .server l) ((0 : Int), (List.replicate (↑l.length : Int).toNat default, ())) fun (y2 : Int × List SServer × PUnit) bk2 =>
 .br (decide (y2.fst < (↑l.length : Int)))
  (.ob ((0 : Int) ≤ y2.fst ∧ y2.fst < (↑l.length : Int)) <|
   .ob (ftoServer.pre (l.getD y2.fst.toNat default, ())) <|
   .lt (SServer × PUnit) (ftoServer.fn (l.getD y2.fst.toNat default, ())) fun z2 =>
   .ob ((0 : Int) ≤ y2.fst ∧ y2.fst < (↑y2.snd.fst.length : Int)) <|
    .ob (y2.fst.toNat < y2.snd.fst.length) <|
    .lt (List SServer) (y2.snd.fst.modify y2.fst.toNat fun z => z2.fst) fun z3 =>
    .ob (l = l) <|
     .ob (bk2 (IntKind.i64.wrap (y2.fst + (1 : Int)), (z3, ()))) <|
     .ok)
  (.leaf (mkR ftoServerS.rs (y2.snd.fst, ())) [] [])) (by kernel_rfl) ?_
  refine ob_i ?_ fun o1 => lpx_i ?_ fun (y2 : Int × List SServer × PUnit) i2 => br_i (fun h3 => ob_i ?_ fun o4 => ob_i ?_ fun o5 => lt_i (ob_i ?_ fun o6 => ob_i ?_ fun o7 => lt_i (ob_i rfl fun _ => ob_i ?_ fun o8 => trivial))) (fun h3 => Fct.leafY ?_)
  all_goals try simp only [decide_eq_true_eq, decide_eq_false_iff_not, Bool.not_eq_true', Bool.not_eq_false', bne_iff_ne, bne_eq_false_iff_eq, beq_iff_eq, beq_eq_false_iff_ne, baEq, Int.not_lt, Int.not_le, ne_eq, Decidable.not_not] at *
  all_goals try simp only [LtoS, ftoServer, ftoServerS, etaToken, etaNode, etaBuilder, etaPolicy, etaPage, etaVisit, etaTab, etaServer, etaCache, etaNet, etaLoader, etaSheet, etaResult, etaSlot, etaModule, etaAddr, etaRequest, etaResponse, etaConn, etaGuess, etaEntry, etaSent, etaFile, baSz, List.size_toArray, List.length_cons, List.length_nil, Nat.reduceAdd, Int.toNat_zero, List.drop_zero, decide_eq_true_eq, decide_eq_false_iff_not, Bool.not_eq_true', Bool.not_eq_false', bne_iff_ne, bne_eq_false_iff_eq, beq_iff_eq, beq_eq_false_iff_ne, Bool.not_eq_true, Bool.not_eq_false, ne_eq, Decidable.not_not, baEq, decide_not, Prod.mk.injEq, and_true, true_and, Room, List.nil_append, Nat.zero_add, Int.not_lt, Int.not_le] at *
  · have := szL_len szServer l; omega
  · exact ⟨by omega, by omega, by simp⟩
  · omega
  · have hs := sum_take_le szServer l (y2.1.toNat + 1)
    rw [sum_take szServer (by omega)] at hs
    simp only [szL] at hp; omega
  · rw [i2.2.2]; simp; omega
  · rw [i2.2.2]; simp; omega
  · have hw : IntKind.i64.wrap (y2.1 + 1) = y2.1 + 1 := wrapId (by have := szL_len szServer l; omega)
    rw [hw, toNat1 (by omega), i2.2.2]
    refine ⟨⟨by omega, by omega, ?_⟩, by omega⟩
    rw [show l.length - y2.1.toNat = (l.length - (y2.1.toNat + 1)) + 1 from by omega, List.replicate_succ, mod_at (by simp; omega), take_succ (by omega)]
    simp
  · have e : l.take y2.1.toNat = l := List.take_of_length_le (by omega)
    rw [i2.2.2, e]; simp; omega)
def E17 : D.Env := E16.add 94 ftoServerS
theorem E17ok : EOk Try.prog E17 := E16ok.add k94_16
-- laws.eqServerS
set_option maxHeartbeats 2000000 in
theorem k100_17 : feqServerS.ok Try.prog 100 := Fct.of (S := feqServerS) (L := fun ⟨l, m, _⟩ => fun | 4 => some (LeqS .server l m) | _ => none) (kp := [0,1,4,5,10,14,26,1000010,1000014,1000026]) E17ok Try.func100 (by kernel_rfl) (by kernel_rfl) (by
  rintro ⟨(l : List SServer), (m : List SServer), _⟩ hp
  refine holds_of (X := .br ((↑l.length : Int) != (↑m.length : Int))
 (.leaf (mkR feqServerS.rs (false, ())) [] [])
 (lpx (LeqS .server l m) ((0 : Int), ()) fun (y2 : Int × PUnit) bk2 =>
  .br (decide (y2.fst < (↑l.length : Int)))
   (.ob ((0 : Int) ≤ y2.fst ∧ y2.fst < (↑l.length : Int)) <|
    .ob ((0 : Int) ≤ y2.fst ∧ y2.fst < (↑m.length : Int)) <|
    .ob (feqServer.pre (l.getD y2.fst.toNat default, m.getD y2.fst.toNat default, ())) <|
    .lt (Bool × PUnit) (feqServer.fn (l.getD y2.fst.toNat default, m.getD y2.fst.toNat default, ())) fun z2 =>
    .br (!z2.fst)
     (.leaf (mkR feqServerS.rs (false, ())) [] [])
     (.ob (l = l) <|
      .ob (m = m) <|
      .ob (bk2 (IntKind.i64.wrap (y2.fst + (1 : Int)), ())) <|
      .ok))
   (.leaf (mkR feqServerS.rs (true, ())) [] []))) (by kernel_rfl) ?_
  refine br_i (fun h1 => Fct.leafY ?_) (fun h1 => lpx_i ?_ fun (y2 : Int × PUnit) i2 => br_i (fun h3 => ob_i ?_ fun o4 => ob_i ?_ fun o5 => ob_i ?_ fun o6 => lt_i (br_i (fun h7 => Fct.leafY ?_) (fun h7 => ob_i rfl fun _ => ob_i rfl fun _ => ob_i ?_ fun o8 => trivial))) (fun h3 => Fct.leafY ?_))
  all_goals try simp only [decide_eq_true_eq, decide_eq_false_iff_not, Bool.not_eq_true', Bool.not_eq_false', bne_iff_ne, bne_eq_false_iff_eq, beq_iff_eq, beq_eq_false_iff_ne, baEq, Int.not_lt, Int.not_le, ne_eq, Decidable.not_not] at *
  all_goals try simp only [LeqS, feqServer, feqServerS, etaToken, etaNode, etaBuilder, etaPolicy, etaPage, etaVisit, etaTab, etaServer, etaCache, etaNet, etaLoader, etaSheet, etaResult, etaSlot, etaModule, etaAddr, etaRequest, etaResponse, etaConn, etaGuess, etaEntry, etaSent, etaFile, baSz, List.size_toArray, List.length_cons, List.length_nil, Nat.reduceAdd, Int.toNat_zero, List.drop_zero, decide_eq_true_eq, decide_eq_false_iff_not, Bool.not_eq_true', Bool.not_eq_false', bne_iff_ne, bne_eq_false_iff_eq, beq_iff_eq, beq_eq_false_iff_ne, Bool.not_eq_true, Bool.not_eq_false, ne_eq, Decidable.not_not, baEq, decide_not, Prod.mk.injEq, and_true, true_and, Room, List.nil_append, Nat.zero_add, Int.not_lt, Int.not_le] at *
  all_goals have hl := szL_len szServer l
  · rw [decide_eq_false]; rintro rfl; omega
  · exact ⟨by omega, by omega, by simp⟩
  · omega
  · omega
  · have hs := szL_get szServer (l := l) (i := y2.1.toNat) (by omega); omega
  · rw [decide_eq_false]; rintro rfl; first | exact absurd rfl h6 | exact absurd rfl h7
  · have hw : IntKind.i64.wrap (y2.1 + 1) = y2.1 + 1 := wrapId (by omega)
    rw [hw, toNat1 (by omega)]
    refine ⟨⟨by omega, by omega, ?_⟩, by omega⟩
    rw [take_succ (by omega), take_succ (by omega), i2.2.2]; first | rw [h6] | rw [h7]
  · have e : l.take y2.1.toNat = l := List.take_of_length_le (by omega)
    have e2 : m.take y2.1.toNat = m := List.take_of_length_le (by omega)
    rw [decide_eq_true]; rw [← e, ← e2, i2.2.2])
def E18 : D.Env := E17.add 100 feqServerS
theorem E18ok : EOk Try.prog E18 := E17ok.add k100_17
-- laws.szEntry
set_option maxHeartbeats 2000000 in
theorem k164_18 : fszEntry.ok Try.prog 164 := Fct.of (S := fszEntry) (L := fun _ _ => none) (kp := [1,2,4,11,17,23,1000011,1000017,1000023]) E18ok Try.func164 (by kernel_rfl) (by kernel_rfl) (by
  rintro ⟨(x : SEntry), (n : Int), _⟩ hp
  refine holds_of (X := .br (decide (IntKind.i64.wrap (n - (↑x.top.size : Int)) < (0 : Int)))
 (.leaf (mkR fszEntry.rs ((-1 : Int), ())) [] [])
 (.ob (fszAddr.pre (x.to, IntKind.i64.wrap (n - (↑x.top.size : Int)), ())) <|
  .lt (Int × PUnit) (fszAddr.fn (x.to, IntKind.i64.wrap (n - (↑x.top.size : Int)), ())) fun z2 =>
  .br (decide (z2.fst < (0 : Int)))
   (.leaf (mkR fszEntry.rs ((-1 : Int), ())) [] [])
   (.ob (fszResponse.pre (x.response, z2.fst, ())) <|
    .lt (Int × PUnit) (fszResponse.fn (x.response, z2.fst, ())) fun z3 =>
    .br (decide (z3.fst < (0 : Int)))
     (.leaf (mkR fszEntry.rs ((-1 : Int), ())) [] [])
     (.leaf (mkR fszEntry.rs (z3.fst, ())) [] [])))) (by kernel_rfl) ?_
  refine br_i (fun h1 => Fct.leafY ?_) (fun h1 => ob_i ?_ fun o2 => lt_i (br_i (fun h3 => Fct.leafY ?_) (fun h3 => ob_i ?_ fun o4 => lt_i (br_i (fun h5 => Fct.leafY ?_) (fun h5 => Fct.leafY ?_)))))
  all_goals try simp only [decide_eq_true_eq, decide_eq_false_iff_not, Bool.not_eq_true', Bool.not_eq_false', bne_iff_ne, bne_eq_false_iff_eq, beq_iff_eq, beq_eq_false_iff_ne, baEq, Int.not_lt, Int.not_le, ne_eq, Decidable.not_not] at *
  all_goals try simp only [fszAddr, fszEntry, fszResponse, etaToken, etaNode, etaBuilder, etaPolicy, etaPage, etaVisit, etaTab, etaServer, etaCache, etaNet, etaLoader, etaSheet, etaResult, etaSlot, etaModule, etaAddr, etaRequest, etaResponse, etaConn, etaGuess, etaEntry, etaSent, etaFile, baSz, List.size_toArray, List.length_cons, List.length_nil, Nat.reduceAdd, Int.toNat_zero, List.drop_zero, decide_eq_true_eq, decide_eq_false_iff_not, Bool.not_eq_true', Bool.not_eq_false', bne_iff_ne, bne_eq_false_iff_eq, beq_iff_eq, beq_eq_false_iff_ne, Bool.not_eq_true, Bool.not_eq_false, ne_eq, Decidable.not_not, baEq, decide_not, Prod.mk.injEq, and_true, true_and, Room, List.nil_append, Nat.zero_add, Int.not_lt, Int.not_le, Sh.good, Sh.fc, enc, List.forall_mem_cons, List.not_mem_nil, false_implies, implies_true, goodC, maxLen] at *
  all_goals grind [wrapId', lessen, szAddr, szEntry, szResponse])
def E19 : D.Env := E18.add 164 fszEntry
theorem E19ok : EOk Try.prog E19 := E18ok.add k164_18
-- laws.toEntry
theorem k168_19 : ftoEntry.ok Try.prog 168 := Fct.of (S := ftoEntry) (L := fun _ _ => none) (kp := [1,2,3]) E19ok Try.func168 (by kernel_rfl) (by kernel_rfl) (by
  rintro ⟨(x : SEntry), _⟩ hp
  refine holds_of (X := .ob (ftoAddr.pre (x.to, ())) <|
 .lt (SAddr × PUnit) (ftoAddr.fn (x.to, ())) fun z2 =>
 .ob (ftoResponse.pre (x.response, ())) <|
  .lt (SResponse × PUnit) (ftoResponse.fn (x.response, ())) fun z3 =>
  .leaf (mkR ftoEntry.rs (⟨x.top, z2.fst, z3.fst, x.until_⟩, ())) [] []) (by kernel_rfl) ?_
  refine ob_i ?_ fun o1 => lt_i (ob_i ?_ fun o2 => lt_i (Fct.leafY ?_))
  all_goals try simp only [decide_eq_true_eq, decide_eq_false_iff_not, Bool.not_eq_true', Bool.not_eq_false', bne_iff_ne, bne_eq_false_iff_eq, beq_iff_eq, beq_eq_false_iff_ne, baEq, Int.not_lt, Int.not_le, ne_eq, Decidable.not_not] at *
  all_goals try simp only [ftoAddr, ftoEntry, ftoResponse, etaToken, etaNode, etaBuilder, etaPolicy, etaPage, etaVisit, etaTab, etaServer, etaCache, etaNet, etaLoader, etaSheet, etaResult, etaSlot, etaModule, etaAddr, etaRequest, etaResponse, etaConn, etaGuess, etaEntry, etaSent, etaFile, baSz, List.size_toArray, List.length_cons, List.length_nil, Nat.reduceAdd, Int.toNat_zero, List.drop_zero, decide_eq_true_eq, decide_eq_false_iff_not, Bool.not_eq_true', Bool.not_eq_false', bne_iff_ne, bne_eq_false_iff_eq, beq_iff_eq, beq_eq_false_iff_ne, Bool.not_eq_true, Bool.not_eq_false, ne_eq, Decidable.not_not, baEq, decide_not, Prod.mk.injEq, and_true, true_and, Room, List.nil_append, Nat.zero_add, Int.not_lt, Int.not_le] at *
  all_goals first | trivial | rfl | grind [szAddr, szEntry, szResponse])
def E20 : D.Env := E19.add 168 ftoEntry
theorem E20ok : EOk Try.prog E20 := E19ok.add k168_19
-- laws.eqEntry
set_option maxHeartbeats 2000000 in
theorem k174_20 : feqEntry.ok Try.prog 174 := Fct.of (S := feqEntry) (L := fun _ _ => none) (kp := [2,3,4,9,15,21,26,1000009,1000015,1000021,1000026]) E20ok Try.func174 (by kernel_rfl) (by kernel_rfl) (by
  rintro ⟨(x : SEntry), (y : SEntry), _⟩ hp
  refine holds_of (X := .br (!x.top.toList == y.top.toList)
 (.leaf (mkR feqEntry.rs (false, ())) [] [])
 (.ob (feqAddr.pre (x.to, y.to, ())) <|
  .lt (Bool × PUnit) (feqAddr.fn (x.to, y.to, ())) fun z2 =>
  .br (!z2.fst)
   (.leaf (mkR feqEntry.rs (false, ())) [] [])
   (.ob (feqResponse.pre (x.response, y.response, ())) <|
    .lt (Bool × PUnit) (feqResponse.fn (x.response, y.response, ())) fun z3 =>
    .br (!z3.fst)
     (.leaf (mkR feqEntry.rs (false, ())) [] [])
     (.br (x.until_ != y.until_)
      (.leaf (mkR feqEntry.rs (false, ())) [] [])
      (.leaf (mkR feqEntry.rs (true, ())) [] []))))) (by kernel_rfl) ?_
  refine br_i (fun h1 => Fct.leafY ?_) (fun h1 => ob_i trivial fun _ => lt_i (br_i (fun h2 => Fct.leafY ?_) (fun h2 => ob_i trivial fun _ => lt_i (br_i (fun h3 => Fct.leafY ?_) (fun h3 => br_i (fun h4 => Fct.leafY ?_) (fun h4 => Fct.leafY ?_))))))
  all_goals try simp only [decide_eq_true_eq, decide_eq_false_iff_not, Bool.not_eq_true', Bool.not_eq_false', bne_iff_ne, bne_eq_false_iff_eq, beq_iff_eq, beq_eq_false_iff_ne, baEq, Int.not_lt, Int.not_le, ne_eq, Decidable.not_not] at *
  all_goals try simp only [feqAddr, feqEntry, feqResponse, etaToken, etaNode, etaBuilder, etaPolicy, etaPage, etaVisit, etaTab, etaServer, etaCache, etaNet, etaLoader, etaSheet, etaResult, etaSlot, etaModule, etaAddr, etaRequest, etaResponse, etaConn, etaGuess, etaEntry, etaSent, etaFile, baSz, List.size_toArray, List.length_cons, List.length_nil, Nat.reduceAdd, Int.toNat_zero, List.drop_zero, decide_eq_true_eq, decide_eq_false_iff_not, Bool.not_eq_true', Bool.not_eq_false', bne_iff_ne, bne_eq_false_iff_eq, beq_iff_eq, beq_eq_false_iff_ne, Bool.not_eq_true, Bool.not_eq_false, ne_eq, Decidable.not_not, baEq, decide_not, Prod.mk.injEq, and_true, true_and, Room, List.nil_append, Nat.zero_add, Int.not_lt, Int.not_le] at *
  all_goals first | trivial | (cases x; cases y; simp_all; done) | (simp only [szAddr, szEntry, szResponse] at *; omega) | grind [szAddr, szEntry, szResponse])
def E21 : D.Env := E20.add 174 feqEntry
theorem E21ok : EOk Try.prog E21 := E20ok.add k174_20
-- laws.szEntryS
set_option maxHeartbeats 2000000 in
theorem k131_21 : fszEntryS.ok Try.prog 131 := Fct.of (S := fszEntryS) (L := fun ⟨l, n, _⟩ => fun | 5 => some (LszS .entry szEntry l n) | _ => none) (kp := [0,1,4,5,11,15,25,1000011,1000015,1000025]) E21ok Try.func131 (by kernel_rfl) (by kernel_rfl) (by
  rintro ⟨(l : List SEntry), (n : Int), _⟩ hp
  refine holds_of (X := .br (decide (IntKind.i64.wrap (n - (↑l.length : Int)) < (0 : Int)))
 (.leaf (mkR fszEntryS.rs ((-1 : Int), ())) [] [])
 (lpx (LszS .entry szEntry l n) (IntKind.i64.wrap (n - (↑l.length : Int)), ((0 : Int), ())) fun (y2 : Int × Int × PUnit) bk2 =>
  .br (decide (y2.snd.fst < (↑l.length : Int)))
   (.ob ((0 : Int) ≤ y2.snd.fst ∧ y2.snd.fst < (↑l.length : Int)) <|
    .ob (fszEntry.pre (l.getD y2.snd.fst.toNat default, y2.fst, ())) <|
    .lt (Int × PUnit) (fszEntry.fn (l.getD y2.snd.fst.toNat default, y2.fst, ())) fun z2 =>
    .br (decide (z2.fst < (0 : Int)))
     (.leaf (mkR fszEntryS.rs ((-1 : Int), ())) [] [])
     (.ob (l = l) <|
      .ob (bk2 (z2.fst, (IntKind.i64.wrap (y2.snd.fst + (1 : Int)), ()))) <|
      .ok))
   (.leaf (mkR fszEntryS.rs (y2.fst, ())) [] []))) (by kernel_rfl) ?_
  refine br_i (fun h1 => Fct.leafY ?_) (fun h1 => lpx_i ?_ fun (y2 : Int × Int × PUnit) i2 => br_i (fun h3 => ob_i ?_ fun o4 => ob_i ?_ fun o5 => lt_i (br_i (fun h6 => Fct.leafY ?_) (fun h6 => ob_i rfl fun _ => ob_i ?_ fun o7 => trivial))) (fun h3 => Fct.leafY ?_))
  all_goals try simp only [decide_eq_true_eq, decide_eq_false_iff_not, Bool.not_eq_true', Bool.not_eq_false', bne_iff_ne, bne_eq_false_iff_eq, beq_iff_eq, beq_eq_false_iff_ne, baEq, Int.not_lt, Int.not_le, ne_eq, Decidable.not_not] at *
  all_goals try simp only [LszS, fszEntry, fszEntryS, etaToken, etaNode, etaBuilder, etaPolicy, etaPage, etaVisit, etaTab, etaServer, etaCache, etaNet, etaLoader, etaSheet, etaResult, etaSlot, etaModule, etaAddr, etaRequest, etaResponse, etaConn, etaGuess, etaEntry, etaSent, etaFile, baSz, List.size_toArray, List.length_cons, List.length_nil, Nat.reduceAdd, Int.toNat_zero, List.drop_zero, decide_eq_true_eq, decide_eq_false_iff_not, Bool.not_eq_true', Bool.not_eq_false', bne_iff_ne, bne_eq_false_iff_eq, beq_iff_eq, beq_eq_false_iff_ne, Bool.not_eq_true, Bool.not_eq_false, ne_eq, Decidable.not_not, baEq, decide_not, Prod.mk.injEq, and_true, true_and, Room, List.nil_append, Nat.zero_add, Int.not_lt, Int.not_le] at *
  · have := good_len hp.1; simp only [maxLen] at this; rw [wrapId (by omega)] at h1
    rw [lessenNeg (by simp only [szL]; omega)]
  · have := good_len hp.1; simp only [maxLen] at this
    rw [wrapId (by omega)] at h1 ⊢
    exact ⟨by omega, by omega, h1, by simp⟩
  · omega
  · exact ⟨good_getD hp.1 (by omega), by omega, by omega⟩
  · have hs := sum_take_le szEntry l (y2.2.1.toNat + 1)
    rw [sum_take szEntry (by omega)] at hs
    rw [lessen_lt (by omega)] at h6
    rw [lessenNeg (by simp only [szL]; omega)]
  · have hw : IntKind.i64.wrap (y2.2.1 + 1) = y2.2.1 + 1 := wrapId (by have := good_len hp.1; simp only [maxLen] at this; omega)
    have h7 : ¬ lessen y2.1 (szEntry (l.getD y2.2.1.toNat default)) < 0 := by omega
    rw [lessen_lt (by omega)] at h7
    rw [hw, toNat1 (by omega), sum_take szEntry (by omega), lessen_ge (by omega)]
    exact ⟨⟨by omega, by omega, by omega, by omega⟩, by omega⟩
  · have e : l.take y2.2.1.toNat = l := List.take_of_length_le (by omega)
    rw [e] at i2
    have hz : ((szL szEntry l : Nat) : Int) = l.length + (l.map szEntry).sum := by simp only [szL]; omega
    rw [lessen_ge (by omega)]
    show y2.1 = n - ((szL szEntry l : Nat) : Int)
    omega)
def E22 : D.Env := E21.add 131 fszEntryS
theorem E22ok : EOk Try.prog E22 := E21ok.add k131_21
-- laws.toEntryS
theorem k136_22 : ftoEntryS.ok Try.prog 136 := Fct.of (S := ftoEntryS) (L := fun ⟨l, _⟩ => fun | 3 => some (LtoS .entry l) | _ => none) (kp := [0,2,3,4,11,1000011]) E22ok Try.func136 (by kernel_rfl) (by kernel_rfl) (by
  rintro ⟨(l : List SEntry), _⟩ hp
  refine holds_of (X := .ob ((↑l.length : Int) = (↑l.length : Int) ∧
  (0 : Int) ≤ (↑l.length : Int) ∧
    (120 : Int) * (↑l.length : Int) ≤ (140737488355328 : Int) ∧ (↑l.length : Int) ≤ (140737488355328 : Int)) <|
 lpx (LtoS .entry l) ((0 : Int), (List.replicate (↑l.length : Int).toNat default, ())) fun (y2 : Int × List SEntry × PUnit) bk2 =>
 .br (decide (y2.fst < (↑l.length : Int)))
  (.ob ((0 : Int) ≤ y2.fst ∧ y2.fst < (↑l.length : Int)) <|
   .ob (ftoEntry.pre (l.getD y2.fst.toNat default, ())) <|
   .lt (SEntry × PUnit) (ftoEntry.fn (l.getD y2.fst.toNat default, ())) fun z2 =>
   .ob ((0 : Int) ≤ y2.fst ∧ y2.fst < (↑y2.snd.fst.length : Int)) <|
    .ob (y2.fst.toNat < y2.snd.fst.length) <|
    .lt (List SEntry) (y2.snd.fst.modify y2.fst.toNat fun z => z2.fst) fun z3 =>
    .ob (l = l) <|
     .ob (bk2 (IntKind.i64.wrap (y2.fst + (1 : Int)), (z3, ()))) <|
     .ok)
  (.leaf (mkR ftoEntryS.rs (y2.snd.fst, ())) [] [])) (by kernel_rfl) ?_
  refine ob_i ?_ fun o1 => lpx_i ?_ fun (y2 : Int × List SEntry × PUnit) i2 => br_i (fun h3 => ob_i ?_ fun o4 => ob_i ?_ fun o5 => lt_i (ob_i ?_ fun o6 => ob_i ?_ fun o7 => lt_i (ob_i rfl fun _ => ob_i ?_ fun o8 => trivial))) (fun h3 => Fct.leafY ?_)
  all_goals try simp only [decide_eq_true_eq, decide_eq_false_iff_not, Bool.not_eq_true', Bool.not_eq_false', bne_iff_ne, bne_eq_false_iff_eq, beq_iff_eq, beq_eq_false_iff_ne, baEq, Int.not_lt, Int.not_le, ne_eq, Decidable.not_not] at *
  all_goals try simp only [LtoS, ftoEntry, ftoEntryS, etaToken, etaNode, etaBuilder, etaPolicy, etaPage, etaVisit, etaTab, etaServer, etaCache, etaNet, etaLoader, etaSheet, etaResult, etaSlot, etaModule, etaAddr, etaRequest, etaResponse, etaConn, etaGuess, etaEntry, etaSent, etaFile, baSz, List.size_toArray, List.length_cons, List.length_nil, Nat.reduceAdd, Int.toNat_zero, List.drop_zero, decide_eq_true_eq, decide_eq_false_iff_not, Bool.not_eq_true', Bool.not_eq_false', bne_iff_ne, bne_eq_false_iff_eq, beq_iff_eq, beq_eq_false_iff_ne, Bool.not_eq_true, Bool.not_eq_false, ne_eq, Decidable.not_not, baEq, decide_not, Prod.mk.injEq, and_true, true_and, Room, List.nil_append, Nat.zero_add, Int.not_lt, Int.not_le] at *
  · have := szL_len szEntry l; omega
  · exact ⟨by omega, by omega, by simp⟩
  · omega
  · have hs := sum_take_le szEntry l (y2.1.toNat + 1)
    rw [sum_take szEntry (by omega)] at hs
    simp only [szL] at hp; omega
  · rw [i2.2.2]; simp; omega
  · rw [i2.2.2]; simp; omega
  · have hw : IntKind.i64.wrap (y2.1 + 1) = y2.1 + 1 := wrapId (by have := szL_len szEntry l; omega)
    rw [hw, toNat1 (by omega), i2.2.2]
    refine ⟨⟨by omega, by omega, ?_⟩, by omega⟩
    rw [show l.length - y2.1.toNat = (l.length - (y2.1.toNat + 1)) + 1 from by omega, List.replicate_succ, mod_at (by simp; omega), take_succ (by omega)]
    simp
  · have e : l.take y2.1.toNat = l := List.take_of_length_le (by omega)
    rw [i2.2.2, e]; simp; omega)
def E23 : D.Env := E22.add 136 ftoEntryS
theorem E23ok : EOk Try.prog E23 := E22ok.add k136_22
-- laws.eqEntryS
set_option maxHeartbeats 2000000 in
theorem k141_23 : feqEntryS.ok Try.prog 141 := Fct.of (S := feqEntryS) (L := fun ⟨l, m, _⟩ => fun | 4 => some (LeqS .entry l m) | _ => none) (kp := [0,1,4,5,10,14,26,1000010,1000014,1000026]) E23ok Try.func141 (by kernel_rfl) (by kernel_rfl) (by
  rintro ⟨(l : List SEntry), (m : List SEntry), _⟩ hp
  refine holds_of (X := .br ((↑l.length : Int) != (↑m.length : Int))
 (.leaf (mkR feqEntryS.rs (false, ())) [] [])
 (lpx (LeqS .entry l m) ((0 : Int), ()) fun (y2 : Int × PUnit) bk2 =>
  .br (decide (y2.fst < (↑l.length : Int)))
   (.ob ((0 : Int) ≤ y2.fst ∧ y2.fst < (↑l.length : Int)) <|
    .ob ((0 : Int) ≤ y2.fst ∧ y2.fst < (↑m.length : Int)) <|
    .ob (feqEntry.pre (l.getD y2.fst.toNat default, m.getD y2.fst.toNat default, ())) <|
    .lt (Bool × PUnit) (feqEntry.fn (l.getD y2.fst.toNat default, m.getD y2.fst.toNat default, ())) fun z2 =>
    .br (!z2.fst)
     (.leaf (mkR feqEntryS.rs (false, ())) [] [])
     (.ob (l = l) <|
      .ob (m = m) <|
      .ob (bk2 (IntKind.i64.wrap (y2.fst + (1 : Int)), ())) <|
      .ok))
   (.leaf (mkR feqEntryS.rs (true, ())) [] []))) (by kernel_rfl) ?_
  refine br_i (fun h1 => Fct.leafY ?_) (fun h1 => lpx_i ?_ fun (y2 : Int × PUnit) i2 => br_i (fun h3 => ob_i ?_ fun o4 => ob_i ?_ fun o5 => ob_i trivial fun _ => lt_i (br_i (fun h6 => Fct.leafY ?_) (fun h6 => ob_i rfl fun _ => ob_i rfl fun _ => ob_i ?_ fun o7 => trivial))) (fun h3 => Fct.leafY ?_))
  all_goals try simp only [decide_eq_true_eq, decide_eq_false_iff_not, Bool.not_eq_true', Bool.not_eq_false', bne_iff_ne, bne_eq_false_iff_eq, beq_iff_eq, beq_eq_false_iff_ne, baEq, Int.not_lt, Int.not_le, ne_eq, Decidable.not_not] at *
  all_goals try simp only [LeqS, feqEntry, feqEntryS, etaToken, etaNode, etaBuilder, etaPolicy, etaPage, etaVisit, etaTab, etaServer, etaCache, etaNet, etaLoader, etaSheet, etaResult, etaSlot, etaModule, etaAddr, etaRequest, etaResponse, etaConn, etaGuess, etaEntry, etaSent, etaFile, baSz, List.size_toArray, List.length_cons, List.length_nil, Nat.reduceAdd, Int.toNat_zero, List.drop_zero, decide_eq_true_eq, decide_eq_false_iff_not, Bool.not_eq_true', Bool.not_eq_false', bne_iff_ne, bne_eq_false_iff_eq, beq_iff_eq, beq_eq_false_iff_ne, Bool.not_eq_true, Bool.not_eq_false, ne_eq, Decidable.not_not, baEq, decide_not, Prod.mk.injEq, and_true, true_and, Room, List.nil_append, Nat.zero_add, Int.not_lt, Int.not_le] at *
  · rw [decide_eq_false]; rintro rfl; omega
  · exact ⟨by omega, by omega, by simp⟩
  · omega
  · omega
  · rw [decide_eq_false]; rintro rfl; exact absurd rfl h6
  · have hw : IntKind.i64.wrap (y2.1 + 1) = y2.1 + 1 := wrapId (by omega)
    rw [hw, toNat1 (by omega)]
    refine ⟨⟨by omega, by omega, ?_⟩, by omega⟩
    rw [take_succ (by omega), take_succ (by omega), i2.2.2, h6]
  · have e : l.take y2.1.toNat = l := List.take_of_length_le (by omega)
    have e2 : m.take y2.1.toNat = m := List.take_of_length_le (by omega)
    rw [decide_eq_true]; rw [← e, ← e2, i2.2.2])
def E24 : D.Env := E23.add 141 feqEntryS
theorem E24ok : EOk Try.prog E24 := E23ok.add k141_23
-- laws.szCache
set_option maxHeartbeats 2000000 in
theorem k89_24 : fszCache.ok Try.prog 89 := Fct.of (S := fszCache) (L := fun _ _ => none) (kp := [1,2,4,10,1000010]) E24ok Try.func89 (by kernel_rfl) (by kernel_rfl) (by
  rintro ⟨(x : SCache), (n : Int), _⟩ hp
  refine holds_of (X := .ob (fszEntryS.pre (x.entries, n, ())) <|
 .lt (Int × PUnit) (fszEntryS.fn (x.entries, n, ())) fun z2 =>
 .br (decide (z2.fst < (0 : Int)))
  (.leaf (mkR fszCache.rs ((-1 : Int), ())) [] [])
  (.leaf (mkR fszCache.rs (z2.fst, ())) [] [])) (by kernel_rfl) ?_
  refine ob_i ?_ fun o1 => lt_i (br_i (fun h2 => Fct.leafY ?_) (fun h2 => Fct.leafY ?_))
  all_goals try simp only [decide_eq_true_eq, decide_eq_false_iff_not, Bool.not_eq_true', Bool.not_eq_false', bne_iff_ne, bne_eq_false_iff_eq, beq_iff_eq, beq_eq_false_iff_ne, baEq, Int.not_lt, Int.not_le, ne_eq, Decidable.not_not] at *
  all_goals try simp only [fszCache, fszEntryS, etaToken, etaNode, etaBuilder, etaPolicy, etaPage, etaVisit, etaTab, etaServer, etaCache, etaNet, etaLoader, etaSheet, etaResult, etaSlot, etaModule, etaAddr, etaRequest, etaResponse, etaConn, etaGuess, etaEntry, etaSent, etaFile, baSz, List.size_toArray, List.length_cons, List.length_nil, Nat.reduceAdd, Int.toNat_zero, List.drop_zero, decide_eq_true_eq, decide_eq_false_iff_not, Bool.not_eq_true', Bool.not_eq_false', bne_iff_ne, bne_eq_false_iff_eq, beq_iff_eq, beq_eq_false_iff_ne, Bool.not_eq_true, Bool.not_eq_false, ne_eq, Decidable.not_not, baEq, decide_not, Prod.mk.injEq, and_true, true_and, Room, List.nil_append, Nat.zero_add, Int.not_lt, Int.not_le, Sh.good, Sh.fc, enc, List.forall_mem_cons, List.not_mem_nil, false_implies, implies_true, goodC, maxLen] at *
  all_goals grind [wrapId', lessen, szCache, szL])
def E25 : D.Env := E24.add 89 fszCache
theorem E25ok : EOk Try.prog E25 := E24ok.add k89_24
-- laws.toCache
theorem k95_25 : ftoCache.ok Try.prog 95 := Fct.of (S := ftoCache) (L := fun _ _ => none) (kp := [1,2,3]) E25ok Try.func95 (by kernel_rfl) (by kernel_rfl) (by
  rintro ⟨(x : SCache), _⟩ hp
  refine holds_of (X := .ob (ftoEntryS.pre (x.entries, ())) <|
 .lt (List SEntry × PUnit) (ftoEntryS.fn (x.entries, ())) fun z2 =>
 .leaf (mkR ftoCache.rs (⟨z2.fst⟩, ())) [] []) (by kernel_rfl) ?_
  refine ob_i ?_ fun o1 => lt_i (Fct.leafY ?_)
  all_goals try simp only [decide_eq_true_eq, decide_eq_false_iff_not, Bool.not_eq_true', Bool.not_eq_false', bne_iff_ne, bne_eq_false_iff_eq, beq_iff_eq, beq_eq_false_iff_ne, baEq, Int.not_lt, Int.not_le, ne_eq, Decidable.not_not] at *
  all_goals try simp only [ftoCache, ftoEntryS, etaToken, etaNode, etaBuilder, etaPolicy, etaPage, etaVisit, etaTab, etaServer, etaCache, etaNet, etaLoader, etaSheet, etaResult, etaSlot, etaModule, etaAddr, etaRequest, etaResponse, etaConn, etaGuess, etaEntry, etaSent, etaFile, baSz, List.size_toArray, List.length_cons, List.length_nil, Nat.reduceAdd, Int.toNat_zero, List.drop_zero, decide_eq_true_eq, decide_eq_false_iff_not, Bool.not_eq_true', Bool.not_eq_false', bne_iff_ne, bne_eq_false_iff_eq, beq_iff_eq, beq_eq_false_iff_ne, Bool.not_eq_true, Bool.not_eq_false, ne_eq, Decidable.not_not, baEq, decide_not, Prod.mk.injEq, and_true, true_and, Room, List.nil_append, Nat.zero_add, Int.not_lt, Int.not_le] at *
  all_goals first | trivial | rfl | grind [szCache, szL])
def E26 : D.Env := E25.add 95 ftoCache
theorem E26ok : EOk Try.prog E26 := E25ok.add k95_25
-- laws.eqCache
set_option maxHeartbeats 2000000 in
theorem k101_26 : feqCache.ok Try.prog 101 := Fct.of (S := feqCache) (L := fun _ _ => none) (kp := [2,3,4,10,1000010]) E26ok Try.func101 (by kernel_rfl) (by kernel_rfl) (by
  rintro ⟨(x : SCache), (y : SCache), _⟩ hp
  refine holds_of (X := .ob (feqEntryS.pre (x.entries, y.entries, ())) <|
 .lt (Bool × PUnit) (feqEntryS.fn (x.entries, y.entries, ())) fun z2 =>
 .br (!z2.fst)
  (.leaf (mkR feqCache.rs (false, ())) [] [])
  (.leaf (mkR feqCache.rs (true, ())) [] [])) (by kernel_rfl) ?_
  refine ob_i ?_ fun o1 => lt_i (br_i (fun h2 => Fct.leafY ?_) (fun h2 => Fct.leafY ?_))
  all_goals try simp only [decide_eq_true_eq, decide_eq_false_iff_not, Bool.not_eq_true', Bool.not_eq_false', bne_iff_ne, bne_eq_false_iff_eq, beq_iff_eq, beq_eq_false_iff_ne, baEq, Int.not_lt, Int.not_le, ne_eq, Decidable.not_not] at *
  all_goals try simp only [feqCache, feqEntryS, etaToken, etaNode, etaBuilder, etaPolicy, etaPage, etaVisit, etaTab, etaServer, etaCache, etaNet, etaLoader, etaSheet, etaResult, etaSlot, etaModule, etaAddr, etaRequest, etaResponse, etaConn, etaGuess, etaEntry, etaSent, etaFile, baSz, List.size_toArray, List.length_cons, List.length_nil, Nat.reduceAdd, Int.toNat_zero, List.drop_zero, decide_eq_true_eq, decide_eq_false_iff_not, Bool.not_eq_true', Bool.not_eq_false', bne_iff_ne, bne_eq_false_iff_eq, beq_iff_eq, beq_eq_false_iff_ne, Bool.not_eq_true, Bool.not_eq_false, ne_eq, Decidable.not_not, baEq, decide_not, Prod.mk.injEq, and_true, true_and, Room, List.nil_append, Nat.zero_add, Int.not_lt, Int.not_le] at *
  all_goals first | trivial | (cases x; cases y; simp_all; done) | (simp only [szCache, szL] at *; omega) | grind [szCache, szL])
def E27 : D.Env := E26.add 101 feqCache
theorem E27ok : EOk Try.prog E27 := E26ok.add k101_26
-- laws.szSent
set_option maxHeartbeats 2000000 in
theorem k132_27 : fszSent.ok Try.prog 132 := Fct.of (S := fszSent) (L := fun _ _ => none) (kp := [1,2,4,11,17,1000011,1000017]) E27ok Try.func132 (by kernel_rfl) (by kernel_rfl) (by
  rintro ⟨(x : SSent), (n : Int), _⟩ hp
  refine holds_of (X := .br (decide (IntKind.i64.wrap (n - (↑x.top.size : Int)) < (0 : Int)))
 (.leaf (mkR fszSent.rs ((-1 : Int), ())) [] [])
 (.ob (fszAddr.pre (x.to, IntKind.i64.wrap (n - (↑x.top.size : Int)), ())) <|
  .lt (Int × PUnit) (fszAddr.fn (x.to, IntKind.i64.wrap (n - (↑x.top.size : Int)), ())) fun z2 =>
  .br (decide (z2.fst < (0 : Int)))
   (.leaf (mkR fszSent.rs ((-1 : Int), ())) [] [])
   (.leaf (mkR fszSent.rs (z2.fst, ())) [] []))) (by kernel_rfl) ?_
  refine br_i (fun h1 => Fct.leafY ?_) (fun h1 => ob_i ?_ fun o2 => lt_i (br_i (fun h3 => Fct.leafY ?_) (fun h3 => Fct.leafY ?_)))
  all_goals try simp only [decide_eq_true_eq, decide_eq_false_iff_not, Bool.not_eq_true', Bool.not_eq_false', bne_iff_ne, bne_eq_false_iff_eq, beq_iff_eq, beq_eq_false_iff_ne, baEq, Int.not_lt, Int.not_le, ne_eq, Decidable.not_not] at *
  all_goals try simp only [fszAddr, fszSent, etaToken, etaNode, etaBuilder, etaPolicy, etaPage, etaVisit, etaTab, etaServer, etaCache, etaNet, etaLoader, etaSheet, etaResult, etaSlot, etaModule, etaAddr, etaRequest, etaResponse, etaConn, etaGuess, etaEntry, etaSent, etaFile, baSz, List.size_toArray, List.length_cons, List.length_nil, Nat.reduceAdd, Int.toNat_zero, List.drop_zero, decide_eq_true_eq, decide_eq_false_iff_not, Bool.not_eq_true', Bool.not_eq_false', bne_iff_ne, bne_eq_false_iff_eq, beq_iff_eq, beq_eq_false_iff_ne, Bool.not_eq_true, Bool.not_eq_false, ne_eq, Decidable.not_not, baEq, decide_not, Prod.mk.injEq, and_true, true_and, Room, List.nil_append, Nat.zero_add, Int.not_lt, Int.not_le, Sh.good, Sh.fc, enc, List.forall_mem_cons, List.not_mem_nil, false_implies, implies_true, goodC, maxLen] at *
  all_goals grind [wrapId', lessen, szAddr, szSent])
def E28 : D.Env := E27.add 132 fszSent
theorem E28ok : EOk Try.prog E28 := E27ok.add k132_27
-- laws.toSent
theorem k137_28 : ftoSent.ok Try.prog 137 := Fct.of (S := ftoSent) (L := fun _ _ => none) (kp := [1,2,3]) E28ok Try.func137 (by kernel_rfl) (by kernel_rfl) (by
  rintro ⟨(x : SSent), _⟩ hp
  refine holds_of (X := .ob (ftoAddr.pre (x.to, ())) <|
 .lt (SAddr × PUnit) (ftoAddr.fn (x.to, ())) fun z2 =>
 .leaf (mkR ftoSent.rs (⟨x.top, z2.fst, x.guess⟩, ())) [] []) (by kernel_rfl) ?_
  refine ob_i ?_ fun o1 => lt_i (Fct.leafY ?_)
  all_goals try simp only [decide_eq_true_eq, decide_eq_false_iff_not, Bool.not_eq_true', Bool.not_eq_false', bne_iff_ne, bne_eq_false_iff_eq, beq_iff_eq, beq_eq_false_iff_ne, baEq, Int.not_lt, Int.not_le, ne_eq, Decidable.not_not] at *
  all_goals try simp only [ftoAddr, ftoSent, etaToken, etaNode, etaBuilder, etaPolicy, etaPage, etaVisit, etaTab, etaServer, etaCache, etaNet, etaLoader, etaSheet, etaResult, etaSlot, etaModule, etaAddr, etaRequest, etaResponse, etaConn, etaGuess, etaEntry, etaSent, etaFile, baSz, List.size_toArray, List.length_cons, List.length_nil, Nat.reduceAdd, Int.toNat_zero, List.drop_zero, decide_eq_true_eq, decide_eq_false_iff_not, Bool.not_eq_true', Bool.not_eq_false', bne_iff_ne, bne_eq_false_iff_eq, beq_iff_eq, beq_eq_false_iff_ne, Bool.not_eq_true, Bool.not_eq_false, ne_eq, Decidable.not_not, baEq, decide_not, Prod.mk.injEq, and_true, true_and, Room, List.nil_append, Nat.zero_add, Int.not_lt, Int.not_le] at *
  all_goals first | trivial | rfl | grind [szAddr, szSent])
def E29 : D.Env := E28.add 137 ftoSent
theorem E29ok : EOk Try.prog E29 := E28ok.add k137_28
-- laws.eqSent
set_option maxHeartbeats 2000000 in
theorem k142_29 : feqSent.ok Try.prog 142 := Fct.of (S := feqSent) (L := fun _ _ => none) (kp := [2,3,4,9,15,20,1000009,1000015,1000020]) E29ok Try.func142 (by kernel_rfl) (by kernel_rfl) (by
  rintro ⟨(x : SSent), (y : SSent), _⟩ hp
  refine holds_of (X := .br (!x.top.toList == y.top.toList)
 (.leaf (mkR feqSent.rs (false, ())) [] [])
 (.ob (feqAddr.pre (x.to, y.to, ())) <|
  .lt (Bool × PUnit) (feqAddr.fn (x.to, y.to, ())) fun z2 =>
  .br (!z2.fst)
   (.leaf (mkR feqSent.rs (false, ())) [] [])
   (.br (!x.guess == y.guess)
    (.leaf (mkR feqSent.rs (false, ())) [] [])
    (.leaf (mkR feqSent.rs (true, ())) [] [])))) (by kernel_rfl) ?_
  refine br_i (fun h1 => Fct.leafY ?_) (fun h1 => ob_i trivial fun _ => lt_i (br_i (fun h2 => Fct.leafY ?_) (fun h2 => br_i (fun h3 => Fct.leafY ?_) (fun h3 => Fct.leafY ?_))))
  all_goals try simp only [decide_eq_true_eq, decide_eq_false_iff_not, Bool.not_eq_true', Bool.not_eq_false', bne_iff_ne, bne_eq_false_iff_eq, beq_iff_eq, beq_eq_false_iff_ne, baEq, Int.not_lt, Int.not_le, ne_eq, Decidable.not_not] at *
  all_goals try simp only [feqAddr, feqSent, etaToken, etaNode, etaBuilder, etaPolicy, etaPage, etaVisit, etaTab, etaServer, etaCache, etaNet, etaLoader, etaSheet, etaResult, etaSlot, etaModule, etaAddr, etaRequest, etaResponse, etaConn, etaGuess, etaEntry, etaSent, etaFile, baSz, List.size_toArray, List.length_cons, List.length_nil, Nat.reduceAdd, Int.toNat_zero, List.drop_zero, decide_eq_true_eq, decide_eq_false_iff_not, Bool.not_eq_true', Bool.not_eq_false', bne_iff_ne, bne_eq_false_iff_eq, beq_iff_eq, beq_eq_false_iff_ne, Bool.not_eq_true, Bool.not_eq_false, ne_eq, Decidable.not_not, baEq, decide_not, Prod.mk.injEq, and_true, true_and, Room, List.nil_append, Nat.zero_add, Int.not_lt, Int.not_le] at *
  all_goals first | trivial | (cases x; cases y; simp_all; done) | (simp only [szAddr, szSent] at *; omega) | grind [szAddr, szSent])
def E30 : D.Env := E29.add 142 feqSent
theorem E30ok : EOk Try.prog E30 := E29ok.add k142_29
-- laws.szSentS
set_option maxHeartbeats 2000000 in
theorem k90_30 : fszSentS.ok Try.prog 90 := Fct.of (S := fszSentS) (L := fun ⟨l, n, _⟩ => fun | 5 => some (LszS .sent szSent l n) | _ => none) (kp := [0,1,4,5,11,15,25,1000011,1000015,1000025]) E30ok Try.func90 (by kernel_rfl) (by kernel_rfl) (by
  rintro ⟨(l : List SSent), (n : Int), _⟩ hp
  refine holds_of (X := .br (decide (IntKind.i64.wrap (n - (↑l.length : Int)) < (0 : Int)))
 (.leaf (mkR fszSentS.rs ((-1 : Int), ())) [] [])
 (lpx (LszS .sent szSent l n) (IntKind.i64.wrap (n - (↑l.length : Int)), ((0 : Int), ())) fun (y2 : Int × Int × PUnit) bk2 =>
  .br (decide (y2.snd.fst < (↑l.length : Int)))
   (.ob ((0 : Int) ≤ y2.snd.fst ∧ y2.snd.fst < (↑l.length : Int)) <|
    .ob (fszSent.pre (l.getD y2.snd.fst.toNat default, y2.fst, ())) <|
    .lt (Int × PUnit) (fszSent.fn (l.getD y2.snd.fst.toNat default, y2.fst, ())) fun z2 =>
    .br (decide (z2.fst < (0 : Int)))
     (.leaf (mkR fszSentS.rs ((-1 : Int), ())) [] [])
     (.ob (l = l) <|
      .ob (bk2 (z2.fst, (IntKind.i64.wrap (y2.snd.fst + (1 : Int)), ()))) <|
      .ok))
   (.leaf (mkR fszSentS.rs (y2.fst, ())) [] []))) (by kernel_rfl) ?_
  refine br_i (fun h1 => Fct.leafY ?_) (fun h1 => lpx_i ?_ fun (y2 : Int × Int × PUnit) i2 => br_i (fun h3 => ob_i ?_ fun o4 => ob_i ?_ fun o5 => lt_i (br_i (fun h6 => Fct.leafY ?_) (fun h6 => ob_i rfl fun _ => ob_i ?_ fun o7 => trivial))) (fun h3 => Fct.leafY ?_))
  all_goals try simp only [decide_eq_true_eq, decide_eq_false_iff_not, Bool.not_eq_true', Bool.not_eq_false', bne_iff_ne, bne_eq_false_iff_eq, beq_iff_eq, beq_eq_false_iff_ne, baEq, Int.not_lt, Int.not_le, ne_eq, Decidable.not_not] at *
  all_goals try simp only [LszS, fszSent, fszSentS, etaToken, etaNode, etaBuilder, etaPolicy, etaPage, etaVisit, etaTab, etaServer, etaCache, etaNet, etaLoader, etaSheet, etaResult, etaSlot, etaModule, etaAddr, etaRequest, etaResponse, etaConn, etaGuess, etaEntry, etaSent, etaFile, baSz, List.size_toArray, List.length_cons, List.length_nil, Nat.reduceAdd, Int.toNat_zero, List.drop_zero, decide_eq_true_eq, decide_eq_false_iff_not, Bool.not_eq_true', Bool.not_eq_false', bne_iff_ne, bne_eq_false_iff_eq, beq_iff_eq, beq_eq_false_iff_ne, Bool.not_eq_true, Bool.not_eq_false, ne_eq, Decidable.not_not, baEq, decide_not, Prod.mk.injEq, and_true, true_and, Room, List.nil_append, Nat.zero_add, Int.not_lt, Int.not_le] at *
  · have := good_len hp.1; simp only [maxLen] at this; rw [wrapId (by omega)] at h1
    rw [lessenNeg (by simp only [szL]; omega)]
  · have := good_len hp.1; simp only [maxLen] at this
    rw [wrapId (by omega)] at h1 ⊢
    exact ⟨by omega, by omega, h1, by simp⟩
  · omega
  · exact ⟨good_getD hp.1 (by omega), by omega, by omega⟩
  · have hs := sum_take_le szSent l (y2.2.1.toNat + 1)
    rw [sum_take szSent (by omega)] at hs
    rw [lessen_lt (by omega)] at h6
    rw [lessenNeg (by simp only [szL]; omega)]
  · have hw : IntKind.i64.wrap (y2.2.1 + 1) = y2.2.1 + 1 := wrapId (by have := good_len hp.1; simp only [maxLen] at this; omega)
    have h7 : ¬ lessen y2.1 (szSent (l.getD y2.2.1.toNat default)) < 0 := by omega
    rw [lessen_lt (by omega)] at h7
    rw [hw, toNat1 (by omega), sum_take szSent (by omega), lessen_ge (by omega)]
    exact ⟨⟨by omega, by omega, by omega, by omega⟩, by omega⟩
  · have e : l.take y2.2.1.toNat = l := List.take_of_length_le (by omega)
    rw [e] at i2
    have hz : ((szL szSent l : Nat) : Int) = l.length + (l.map szSent).sum := by simp only [szL]; omega
    rw [lessen_ge (by omega)]
    show y2.1 = n - ((szL szSent l : Nat) : Int)
    omega)
def E31 : D.Env := E30.add 90 fszSentS
theorem E31ok : EOk Try.prog E31 := E30ok.add k90_30
-- laws.toSentS
theorem k96_31 : ftoSentS.ok Try.prog 96 := Fct.of (S := ftoSentS) (L := fun ⟨l, _⟩ => fun | 3 => some (LtoS .sent l) | _ => none) (kp := [0,2,3,4,11,1000011]) E31ok Try.func96 (by kernel_rfl) (by kernel_rfl) (by
  rintro ⟨(l : List SSent), _⟩ hp
  refine holds_of (X := .ob ((↑l.length : Int) = (↑l.length : Int) ∧
  (0 : Int) ≤ (↑l.length : Int) ∧
    (56 : Int) * (↑l.length : Int) ≤ (140737488355328 : Int) ∧ (↑l.length : Int) ≤ (140737488355328 : Int)) <|
 lpx (LtoS .sent l) ((0 : Int), (List.replicate (↑l.length : Int).toNat default, ())) fun (y2 : Int × List SSent × PUnit) bk2 =>
 .br (decide (y2.fst < (↑l.length : Int)))
  (.ob ((0 : Int) ≤ y2.fst ∧ y2.fst < (↑l.length : Int)) <|
   .ob (ftoSent.pre (l.getD y2.fst.toNat default, ())) <|
   .lt (SSent × PUnit) (ftoSent.fn (l.getD y2.fst.toNat default, ())) fun z2 =>
   .ob ((0 : Int) ≤ y2.fst ∧ y2.fst < (↑y2.snd.fst.length : Int)) <|
    .ob (y2.fst.toNat < y2.snd.fst.length) <|
    .lt (List SSent) (y2.snd.fst.modify y2.fst.toNat fun z => z2.fst) fun z3 =>
    .ob (l = l) <|
     .ob (bk2 (IntKind.i64.wrap (y2.fst + (1 : Int)), (z3, ()))) <|
     .ok)
  (.leaf (mkR ftoSentS.rs (y2.snd.fst, ())) [] [])) (by kernel_rfl) ?_
  refine ob_i ?_ fun o1 => lpx_i ?_ fun (y2 : Int × List SSent × PUnit) i2 => br_i (fun h3 => ob_i ?_ fun o4 => ob_i ?_ fun o5 => lt_i (ob_i ?_ fun o6 => ob_i ?_ fun o7 => lt_i (ob_i rfl fun _ => ob_i ?_ fun o8 => trivial))) (fun h3 => Fct.leafY ?_)
  all_goals try simp only [decide_eq_true_eq, decide_eq_false_iff_not, Bool.not_eq_true', Bool.not_eq_false', bne_iff_ne, bne_eq_false_iff_eq, beq_iff_eq, beq_eq_false_iff_ne, baEq, Int.not_lt, Int.not_le, ne_eq, Decidable.not_not] at *
  all_goals try simp only [LtoS, ftoSent, ftoSentS, etaToken, etaNode, etaBuilder, etaPolicy, etaPage, etaVisit, etaTab, etaServer, etaCache, etaNet, etaLoader, etaSheet, etaResult, etaSlot, etaModule, etaAddr, etaRequest, etaResponse, etaConn, etaGuess, etaEntry, etaSent, etaFile, baSz, List.size_toArray, List.length_cons, List.length_nil, Nat.reduceAdd, Int.toNat_zero, List.drop_zero, decide_eq_true_eq, decide_eq_false_iff_not, Bool.not_eq_true', Bool.not_eq_false', bne_iff_ne, bne_eq_false_iff_eq, beq_iff_eq, beq_eq_false_iff_ne, Bool.not_eq_true, Bool.not_eq_false, ne_eq, Decidable.not_not, baEq, decide_not, Prod.mk.injEq, and_true, true_and, Room, List.nil_append, Nat.zero_add, Int.not_lt, Int.not_le] at *
  · have := szL_len szSent l; omega
  · exact ⟨by omega, by omega, by simp⟩
  · omega
  · have hs := sum_take_le szSent l (y2.1.toNat + 1)
    rw [sum_take szSent (by omega)] at hs
    simp only [szL] at hp; omega
  · rw [i2.2.2]; simp; omega
  · rw [i2.2.2]; simp; omega
  · have hw : IntKind.i64.wrap (y2.1 + 1) = y2.1 + 1 := wrapId (by have := szL_len szSent l; omega)
    rw [hw, toNat1 (by omega), i2.2.2]
    refine ⟨⟨by omega, by omega, ?_⟩, by omega⟩
    rw [show l.length - y2.1.toNat = (l.length - (y2.1.toNat + 1)) + 1 from by omega, List.replicate_succ, mod_at (by simp; omega), take_succ (by omega)]
    simp
  · have e : l.take y2.1.toNat = l := List.take_of_length_le (by omega)
    rw [i2.2.2, e]; simp; omega)
def E32 : D.Env := E31.add 96 ftoSentS
theorem E32ok : EOk Try.prog E32 := E31ok.add k96_31
-- laws.eqSentS
set_option maxHeartbeats 2000000 in
theorem k102_32 : feqSentS.ok Try.prog 102 := Fct.of (S := feqSentS) (L := fun ⟨l, m, _⟩ => fun | 4 => some (LeqS .sent l m) | _ => none) (kp := [0,1,4,5,10,14,26,1000010,1000014,1000026]) E32ok Try.func102 (by kernel_rfl) (by kernel_rfl) (by
  rintro ⟨(l : List SSent), (m : List SSent), _⟩ hp
  refine holds_of (X := .br ((↑l.length : Int) != (↑m.length : Int))
 (.leaf (mkR feqSentS.rs (false, ())) [] [])
 (lpx (LeqS .sent l m) ((0 : Int), ()) fun (y2 : Int × PUnit) bk2 =>
  .br (decide (y2.fst < (↑l.length : Int)))
   (.ob ((0 : Int) ≤ y2.fst ∧ y2.fst < (↑l.length : Int)) <|
    .ob ((0 : Int) ≤ y2.fst ∧ y2.fst < (↑m.length : Int)) <|
    .ob (feqSent.pre (l.getD y2.fst.toNat default, m.getD y2.fst.toNat default, ())) <|
    .lt (Bool × PUnit) (feqSent.fn (l.getD y2.fst.toNat default, m.getD y2.fst.toNat default, ())) fun z2 =>
    .br (!z2.fst)
     (.leaf (mkR feqSentS.rs (false, ())) [] [])
     (.ob (l = l) <|
      .ob (m = m) <|
      .ob (bk2 (IntKind.i64.wrap (y2.fst + (1 : Int)), ())) <|
      .ok))
   (.leaf (mkR feqSentS.rs (true, ())) [] []))) (by kernel_rfl) ?_
  refine br_i (fun h1 => Fct.leafY ?_) (fun h1 => lpx_i ?_ fun (y2 : Int × PUnit) i2 => br_i (fun h3 => ob_i ?_ fun o4 => ob_i ?_ fun o5 => ob_i trivial fun _ => lt_i (br_i (fun h6 => Fct.leafY ?_) (fun h6 => ob_i rfl fun _ => ob_i rfl fun _ => ob_i ?_ fun o7 => trivial))) (fun h3 => Fct.leafY ?_))
  all_goals try simp only [decide_eq_true_eq, decide_eq_false_iff_not, Bool.not_eq_true', Bool.not_eq_false', bne_iff_ne, bne_eq_false_iff_eq, beq_iff_eq, beq_eq_false_iff_ne, baEq, Int.not_lt, Int.not_le, ne_eq, Decidable.not_not] at *
  all_goals try simp only [LeqS, feqSent, feqSentS, etaToken, etaNode, etaBuilder, etaPolicy, etaPage, etaVisit, etaTab, etaServer, etaCache, etaNet, etaLoader, etaSheet, etaResult, etaSlot, etaModule, etaAddr, etaRequest, etaResponse, etaConn, etaGuess, etaEntry, etaSent, etaFile, baSz, List.size_toArray, List.length_cons, List.length_nil, Nat.reduceAdd, Int.toNat_zero, List.drop_zero, decide_eq_true_eq, decide_eq_false_iff_not, Bool.not_eq_true', Bool.not_eq_false', bne_iff_ne, bne_eq_false_iff_eq, beq_iff_eq, beq_eq_false_iff_ne, Bool.not_eq_true, Bool.not_eq_false, ne_eq, Decidable.not_not, baEq, decide_not, Prod.mk.injEq, and_true, true_and, Room, List.nil_append, Nat.zero_add, Int.not_lt, Int.not_le] at *
  · rw [decide_eq_false]; rintro rfl; omega
  · exact ⟨by omega, by omega, by simp⟩
  · omega
  · omega
  · rw [decide_eq_false]; rintro rfl; exact absurd rfl h6
  · have hw : IntKind.i64.wrap (y2.1 + 1) = y2.1 + 1 := wrapId (by omega)
    rw [hw, toNat1 (by omega)]
    refine ⟨⟨by omega, by omega, ?_⟩, by omega⟩
    rw [take_succ (by omega), take_succ (by omega), i2.2.2, h6]
  · have e : l.take y2.1.toNat = l := List.take_of_length_le (by omega)
    have e2 : m.take y2.1.toNat = m := List.take_of_length_le (by omega)
    rw [decide_eq_true]; rw [← e, ← e2, i2.2.2])
def E33 : D.Env := E32.add 102 feqSentS
theorem E33ok : EOk Try.prog E33 := E32ok.add k102_32
-- laws.szNet
set_option maxHeartbeats 2000000 in
theorem k50_33 : fszNet.ok Try.prog 50 := Fct.of (S := fszNet) (L := fun _ _ => none) (kp := [1,2,4,10,16,22,1000010,1000016,1000022]) E33ok Try.func50 (by kernel_rfl) (by kernel_rfl) (by
  rintro ⟨(x : SNet), (n : Int), _⟩ hp
  refine holds_of (X := .ob (fszServerS.pre (x.servers, n, ())) <|
 .lt (Int × PUnit) (fszServerS.fn (x.servers, n, ())) fun z2 =>
 .br (decide (z2.fst < (0 : Int)))
  (.leaf (mkR fszNet.rs ((-1 : Int), ())) [] [])
  (.ob (fszCache.pre (x.cache, z2.fst, ())) <|
   .lt (Int × PUnit) (fszCache.fn (x.cache, z2.fst, ())) fun z3 =>
   .br (decide (z3.fst < (0 : Int)))
    (.leaf (mkR fszNet.rs ((-1 : Int), ())) [] [])
    (.ob (fszSentS.pre (x.log, z3.fst, ())) <|
     .lt (Int × PUnit) (fszSentS.fn (x.log, z3.fst, ())) fun z4 =>
     .br (decide (z4.fst < (0 : Int)))
      (.leaf (mkR fszNet.rs ((-1 : Int), ())) [] [])
      (.leaf (mkR fszNet.rs (z4.fst, ())) [] [])))) (by kernel_rfl) ?_
  refine ob_i ?_ fun o1 => lt_i (br_i (fun h2 => Fct.leafY ?_) (fun h2 => ob_i ?_ fun o3 => lt_i (br_i (fun h4 => Fct.leafY ?_) (fun h4 => ob_i ?_ fun o5 => lt_i (br_i (fun h6 => Fct.leafY ?_) (fun h6 => Fct.leafY ?_))))))
  all_goals try simp only [decide_eq_true_eq, decide_eq_false_iff_not, Bool.not_eq_true', Bool.not_eq_false', bne_iff_ne, bne_eq_false_iff_eq, beq_iff_eq, beq_eq_false_iff_ne, baEq, Int.not_lt, Int.not_le, ne_eq, Decidable.not_not] at *
  all_goals try simp only [fszCache, fszNet, fszSentS, fszServerS, etaToken, etaNode, etaBuilder, etaPolicy, etaPage, etaVisit, etaTab, etaServer, etaCache, etaNet, etaLoader, etaSheet, etaResult, etaSlot, etaModule, etaAddr, etaRequest, etaResponse, etaConn, etaGuess, etaEntry, etaSent, etaFile, baSz, List.size_toArray, List.length_cons, List.length_nil, Nat.reduceAdd, Int.toNat_zero, List.drop_zero, decide_eq_true_eq, decide_eq_false_iff_not, Bool.not_eq_true', Bool.not_eq_false', bne_iff_ne, bne_eq_false_iff_eq, beq_iff_eq, beq_eq_false_iff_ne, Bool.not_eq_true, Bool.not_eq_false, ne_eq, Decidable.not_not, baEq, decide_not, Prod.mk.injEq, and_true, true_and, Room, List.nil_append, Nat.zero_add, Int.not_lt, Int.not_le, Sh.good, Sh.fc, enc, List.forall_mem_cons, List.not_mem_nil, false_implies, implies_true, goodC, maxLen] at *
  all_goals grind [wrapId', lessen, szCache, szL, szNet])
def E34 : D.Env := E33.add 50 fszNet
theorem E34ok : EOk Try.prog E34 := E33ok.add k50_33
-- laws.toNet
theorem k52_34 : ftoNet.ok Try.prog 52 := Fct.of (S := ftoNet) (L := fun _ _ => none) (kp := [1,2,3]) E34ok Try.func52 (by kernel_rfl) (by kernel_rfl) (by
  rintro ⟨(x : SNet), _⟩ hp
  refine holds_of (X := .ob (ftoServerS.pre (x.servers, ())) <|
 .lt (List SServer × PUnit) (ftoServerS.fn (x.servers, ())) fun z2 =>
 .ob (ftoCache.pre (x.cache, ())) <|
  .lt (SCache × PUnit) (ftoCache.fn (x.cache, ())) fun z3 =>
  .ob (ftoSentS.pre (x.log, ())) <|
   .lt (List SSent × PUnit) (ftoSentS.fn (x.log, ())) fun z4 =>
   .leaf (mkR ftoNet.rs (⟨z2.fst, z3.fst, z4.fst, x.now⟩, ())) [] []) (by kernel_rfl) ?_
  refine ob_i ?_ fun o1 => lt_i (ob_i ?_ fun o2 => lt_i (ob_i ?_ fun o3 => lt_i (Fct.leafY ?_)))
  all_goals try simp only [decide_eq_true_eq, decide_eq_false_iff_not, Bool.not_eq_true', Bool.not_eq_false', bne_iff_ne, bne_eq_false_iff_eq, beq_iff_eq, beq_eq_false_iff_ne, baEq, Int.not_lt, Int.not_le, ne_eq, Decidable.not_not] at *
  all_goals try simp only [ftoCache, ftoNet, ftoSentS, ftoServerS, etaToken, etaNode, etaBuilder, etaPolicy, etaPage, etaVisit, etaTab, etaServer, etaCache, etaNet, etaLoader, etaSheet, etaResult, etaSlot, etaModule, etaAddr, etaRequest, etaResponse, etaConn, etaGuess, etaEntry, etaSent, etaFile, baSz, List.size_toArray, List.length_cons, List.length_nil, Nat.reduceAdd, Int.toNat_zero, List.drop_zero, decide_eq_true_eq, decide_eq_false_iff_not, Bool.not_eq_true', Bool.not_eq_false', bne_iff_ne, bne_eq_false_iff_eq, beq_iff_eq, beq_eq_false_iff_ne, Bool.not_eq_true, Bool.not_eq_false, ne_eq, Decidable.not_not, baEq, decide_not, Prod.mk.injEq, and_true, true_and, Room, List.nil_append, Nat.zero_add, Int.not_lt, Int.not_le] at *
  all_goals first | trivial | rfl | grind [szCache, szL, szNet])
def E35 : D.Env := E34.add 52 ftoNet
theorem E35ok : EOk Try.prog E35 := E34ok.add k52_34
-- laws.eqNet
set_option maxHeartbeats 2000000 in
theorem k54_35 : feqNet.ok Try.prog 54 := Fct.of (S := feqNet) (L := fun _ _ => none) (kp := [2,3,4,10,16,22,27,1000010,1000016,1000022,1000027]) E35ok Try.func54 (by kernel_rfl) (by kernel_rfl) (by
  rintro ⟨(x : SNet), (y : SNet), _⟩ hp
  refine holds_of (X := .ob (feqServerS.pre (x.servers, y.servers, ())) <|
 .lt (Bool × PUnit) (feqServerS.fn (x.servers, y.servers, ())) fun z2 =>
 .br (!z2.fst)
  (.leaf (mkR feqNet.rs (false, ())) [] [])
  (.ob (feqCache.pre (x.cache, y.cache, ())) <|
   .lt (Bool × PUnit) (feqCache.fn (x.cache, y.cache, ())) fun z3 =>
   .br (!z3.fst)
    (.leaf (mkR feqNet.rs (false, ())) [] [])
    (.ob (feqSentS.pre (x.log, y.log, ())) <|
     .lt (Bool × PUnit) (feqSentS.fn (x.log, y.log, ())) fun z4 =>
     .br (!z4.fst)
      (.leaf (mkR feqNet.rs (false, ())) [] [])
      (.br (x.now != y.now)
       (.leaf (mkR feqNet.rs (false, ())) [] [])
       (.leaf (mkR feqNet.rs (true, ())) [] []))))) (by kernel_rfl) ?_
  refine ob_i ?_ fun o1 => lt_i (br_i (fun h2 => Fct.leafY ?_) (fun h2 => ob_i ?_ fun o3 => lt_i (br_i (fun h4 => Fct.leafY ?_) (fun h4 => ob_i ?_ fun o5 => lt_i (br_i (fun h6 => Fct.leafY ?_) (fun h6 => br_i (fun h7 => Fct.leafY ?_) (fun h7 => Fct.leafY ?_)))))))
  all_goals try simp only [decide_eq_true_eq, decide_eq_false_iff_not, Bool.not_eq_true', Bool.not_eq_false', bne_iff_ne, bne_eq_false_iff_eq, beq_iff_eq, beq_eq_false_iff_ne, baEq, Int.not_lt, Int.not_le, ne_eq, Decidable.not_not] at *
  all_goals try simp only [feqCache, feqNet, feqSentS, feqServerS, etaToken, etaNode, etaBuilder, etaPolicy, etaPage, etaVisit, etaTab, etaServer, etaCache, etaNet, etaLoader, etaSheet, etaResult, etaSlot, etaModule, etaAddr, etaRequest, etaResponse, etaConn, etaGuess, etaEntry, etaSent, etaFile, baSz, List.size_toArray, List.length_cons, List.length_nil, Nat.reduceAdd, Int.toNat_zero, List.drop_zero, decide_eq_true_eq, decide_eq_false_iff_not, Bool.not_eq_true', Bool.not_eq_false', bne_iff_ne, bne_eq_false_iff_eq, beq_iff_eq, beq_eq_false_iff_ne, Bool.not_eq_true, Bool.not_eq_false, ne_eq, Decidable.not_not, baEq, decide_not, Prod.mk.injEq, and_true, true_and, Room, List.nil_append, Nat.zero_add, Int.not_lt, Int.not_le] at *
  all_goals first | trivial | (cases x; cases y; simp_all; done) | (simp only [szCache, szL, szNet] at *; omega) | grind [szCache, szL, szNet])
def E36 : D.Env := E35.add 54 feqNet
theorem E36ok : EOk Try.prog E36 := E35ok.add k54_35
def fHasAddr : Fct := ⟨[.v (.sl .addr), .v (.el .addr)], [.el .bool], fun (x_ : (List SAddr) × SAddr × Unit) => x_.1.length ≤ 1000000000000000000, fun (x_ : (List SAddr) × SAddr × Unit) => (x_.1.any fun c => decide (c = x_.2.1), ())⟩
abbrev W_spec_HasAddr_fHasAddr_2 (l : (List SAddr)) (a : SAddr) : LInv := ⟨[⟨.s, 5, true, .el .int⟩, ⟨.b, 3, true, .el .addr⟩], fun (z_ : Int × SAddr × Unit) (x_ : Int × SAddr × Unit) => (0 ≤ x_.1 ∧ x_.1 ≤ l.length ∧ l.any (fun c => decide (c = a)) = (l.drop x_.1.toNat).any (fun c => decide (c = a))) ∧ x_.2.1 = z_.2.1, fun (x_ : Int × SAddr × Unit) => l.length - x_.1.toNat⟩
-- spec.HasAddr
theorem k165_36 : fHasAddr.ok Try.prog 165 := Fct.of (S := fHasAddr) (L := fun ⟨l, a, _⟩ => fun | 2 => some (W_spec_HasAddr_fHasAddr_2 l a) | _ => none) (kp := [0,3,4,5,9,17,1000009,1000017]) E36ok Try.func165 (by kernel_rfl) (by kernel_rfl) (by
  rintro ⟨(l : List SAddr), (a : SAddr), _⟩ hp
  refine holds_of (X := lpx (W_spec_HasAddr_fHasAddr_2 l a) ((0 : Int), (a, ())) fun (y1 : Int × SAddr × PUnit) bk1 =>
 .br (decide (y1.fst < (↑l.length : Int)))
  (.ob ((0 : Int) ≤ y1.fst ∧ y1.fst < (↑l.length : Int)) <|
   .br ((l.getD y1.fst.toNat default).host == y1.snd.fst.host && ((l.getD y1.fst.toNat default).path == y1.snd.fst.path && true))
   (.leaf (mkR fHasAddr.rs (true, ())) [] [])
   (.ob (l = l) <|
    .ob (bk1 (IntKind.i64.wrap (y1.fst + (1 : Int)), (y1.snd.fst, ()))) <|
    .ok))
  (.leaf (mkR fHasAddr.rs (false, ())) [] [])) (by kernel_rfl) ?_
  refine lpx_i ?_ fun (y1 : Int × SAddr × PUnit) i1 => br_i (fun h2 => ob_i ?_ fun o3 => br_i (fun h4 => Fct.leafY ?_) (fun h4 => ob_i rfl fun _ => ob_i ?_ fun o5 => trivial)) (fun h2 => Fct.leafY ?_)
  all_goals try simp only [beqAddr] at *
  all_goals try simp only [decide_eq_true_eq, decide_eq_false_iff_not, Bool.not_eq_true', Bool.not_eq_false', bne_iff_ne, bne_eq_false_iff_eq, beq_iff_eq, beq_eq_false_iff_ne, baEq, Int.not_lt, Int.not_le, ne_eq, Decidable.not_not] at *
  all_goals try simp only [W_spec_HasAddr_fHasAddr_2, fHasAddr, etaToken, etaNode, etaBuilder, etaPolicy, etaPage, etaVisit, etaTab, etaServer, etaCache, etaNet, etaLoader, etaSheet, etaResult, etaSlot, etaModule, etaAddr, etaRequest, etaResponse, etaConn, etaGuess, etaEntry, etaSent, etaFile, baSz, List.size_toArray, List.length_cons, List.length_nil, Nat.reduceAdd, Int.toNat_zero, List.drop_zero, decide_eq_true_eq, decide_eq_false_iff_not, Bool.not_eq_true', Bool.not_eq_false', bne_iff_ne, bne_eq_false_iff_eq, beq_iff_eq, beq_eq_false_iff_ne, Bool.not_eq_true, Bool.not_eq_false, ne_eq, Decidable.not_not, baEq, decide_not, Prod.mk.injEq, and_true, true_and, Room, List.nil_append, Nat.zero_add, Int.not_lt, Int.not_le] at *
  all_goals try simp (disch := omega) only [wrapId', toNat1] at *
  all_goals try simp (disch := omega) only [if_pos, if_neg]
  all_goals first | trivial | omega | grind [wrapId', toNat1, drop_cons, drop_end, good_len, maxLen])
def E37 : D.Env := E36.add 165 fHasAddr
theorem E37ok : EOk Try.prog E37 := E36ok.add k165_36
def fIndex_str : Fct := ⟨[.v (.sl .str), .v (.el .str)], [.el .int], fun (x_ : (List ByteArray) × ByteArray × Unit) => x_.1.length ≤ 1000000000000000000, fun (x_ : (List ByteArray) × ByteArray × Unit) => (fidx (fun c => decide (c = x_.2.1)) x_.1 0, ())⟩
abbrev W_slices_Index_string_string_fIndex_str_2 (l : (List ByteArray)) (a : ByteArray) : LInv := ⟨[⟨.s, 8, true, .el .int⟩], fun _ (x_ : Int × Unit) => 0 ≤ x_.1 ∧ x_.1 ≤ l.length ∧ fidx (fun c => decide (c = a)) l 0 = fidx (fun c => decide (c = a)) (l.drop x_.1.toNat) x_.1, fun (x_ : Int × Unit) => l.length - x_.1.toNat⟩
-- slices.Index[[]string,string]
theorem k169_37 : fIndex_str.ok Try.prog 169 := Fct.of (S := fIndex_str) (L := fun ⟨l, a, _⟩ => fun | 2 => some (W_slices_Index_string_string_fIndex_str_2 l a) | _ => none) (kp := [0,1,4,5,7,8,9,16,1000009,1000016]) E37ok Try.func169 (by kernel_rfl) (by kernel_rfl) (by
  rintro ⟨(l : List ByteArray), (a : ByteArray), _⟩ hp
  refine holds_of (X := lpx (W_slices_Index_string_string_fIndex_str_2 l a) ((0 : Int), ()) fun (y1 : Int × PUnit) bk1 =>
 .br (decide (y1.fst < (↑l.length : Int)))
  (.ob ((0 : Int) ≤ y1.fst ∧ y1.fst < (↑l.length : Int)) <|
   .br (a.toList == (l.getD y1.fst.toNat default).toList)
   (.leaf (mkR fIndex_str.rs (y1.fst, ())) [] [])
   (.ob (l = l) <|
    .ob (Value.string a = Value.string a) <|
    .ob (Value.int IntKind.i64 (↑l.length : Int) = Value.int IntKind.i64 (↑l.length : Int)) <|
    .ob (bk1 (IntKind.i64.wrap (y1.fst + (1 : Int)), ())) <|
    .ok))
  (.leaf (mkR fIndex_str.rs ((-1 : Int), ())) [] [])) (by kernel_rfl) ?_
  refine lpx_i ?_ fun (y1 : Int × PUnit) i1 => br_i (fun h2 => ob_i ?_ fun o3 => br_i (fun h4 => Fct.leafY ?_) (fun h4 => ob_i rfl fun _ => ob_i rfl fun _ => ob_i rfl fun _ => ob_i ?_ fun o5 => trivial)) (fun h2 => Fct.leafY ?_)
  all_goals try simp only [baBeq, baEq] at *
  all_goals try simp only [decide_eq_true_eq, decide_eq_false_iff_not, Bool.not_eq_true', Bool.not_eq_false', bne_iff_ne, bne_eq_false_iff_eq, beq_iff_eq, beq_eq_false_iff_ne, baEq, Int.not_lt, Int.not_le, ne_eq, Decidable.not_not] at *
  all_goals try simp only [W_slices_Index_string_string_fIndex_str_2, fIndex_str, etaToken, etaNode, etaBuilder, etaPolicy, etaPage, etaVisit, etaTab, etaServer, etaCache, etaNet, etaLoader, etaSheet, etaResult, etaSlot, etaModule, etaAddr, etaRequest, etaResponse, etaConn, etaGuess, etaEntry, etaSent, etaFile, baSz, List.size_toArray, List.length_cons, List.length_nil, Nat.reduceAdd, Int.toNat_zero, List.drop_zero, decide_eq_true_eq, decide_eq_false_iff_not, Bool.not_eq_true', Bool.not_eq_false', bne_iff_ne, bne_eq_false_iff_eq, beq_iff_eq, beq_eq_false_iff_ne, Bool.not_eq_true, Bool.not_eq_false, ne_eq, Decidable.not_not, baEq, decide_not, Prod.mk.injEq, and_true, true_and, Room, List.nil_append, Nat.zero_add, Int.not_lt, Int.not_le, fidx] at *
  all_goals try simp (disch := omega) only [wrapId', toNat1] at *
  all_goals try simp (disch := omega) only [if_pos, if_neg]
  all_goals first | trivial | omega | grind [wrapId', toNat1, drop_cons, drop_end, good_len, maxLen, fidx])
def E38 : D.Env := E37.add 169 fIndex_str
theorem E38ok : EOk Try.prog E38 := E37ok.add k169_37
def fContains_str : Fct := ⟨[.v (.sl .str), .v (.el .str)], [.el .bool], fun (x_ : (List ByteArray) × ByteArray × Unit) => x_.1.length ≤ 1000000000000000000, fun (x_ : (List ByteArray) × ByteArray × Unit) => (x_.1.any fun c => decide (c = x_.2.1), ())⟩
-- slices.Contains[[]string,string]
theorem k138_38 : fContains_str.ok Try.prog 138 := Fct.of (S := fContains_str) (L := fun _ _ => none) (kp := [0,1,4]) E38ok Try.func138 (by kernel_rfl) (by kernel_rfl) (by
  rintro ⟨(l : List ByteArray), (a : ByteArray), _⟩ hp
  refine holds_of (X := .ob (fIndex_str.pre (l, a, ())) <|
 .lt (Int × PUnit) (fIndex_str.fn (l, a, ())) fun z2 =>
 .leaf (mkR fContains_str.rs (decide (z2.fst ≥ (0 : Int)), ())) [] []) (by kernel_rfl) ?_
  refine ob_i ?_ fun o1 => lt_i (Fct.leafY ?_)
  all_goals try simp only [decide_eq_true_eq, decide_eq_false_iff_not, Bool.not_eq_true', Bool.not_eq_false', bne_iff_ne, bne_eq_false_iff_eq, beq_iff_eq, beq_eq_false_iff_ne, baEq, Int.not_lt, Int.not_le, ne_eq, Decidable.not_not] at *
  all_goals try simp only [fContains_str, fIndex_str, etaToken, etaNode, etaBuilder, etaPolicy, etaPage, etaVisit, etaTab, etaServer, etaCache, etaNet, etaLoader, etaSheet, etaResult, etaSlot, etaModule, etaAddr, etaRequest, etaResponse, etaConn, etaGuess, etaEntry, etaSent, etaFile, baSz, List.size_toArray, List.length_cons, List.length_nil, Nat.reduceAdd, Int.toNat_zero, List.drop_zero, decide_eq_true_eq, decide_eq_false_iff_not, Bool.not_eq_true', Bool.not_eq_false', bne_iff_ne, bne_eq_false_iff_eq, beq_iff_eq, beq_eq_false_iff_ne, Bool.not_eq_true, Bool.not_eq_false, ne_eq, Decidable.not_not, baEq, decide_not, Prod.mk.injEq, and_true, true_and, Room, List.nil_append, Nat.zero_add, Int.not_lt, Int.not_le] at *
  all_goals first | trivial | omega | (rw [Bool.eq_iff_iff]; exact decide_eq_true_iff.trans (fidx_ge _ _ _ (by omega))))
def E39 : D.Env := E38.add 138 fContains_str
theorem E39ok : EOk Try.prog E39 := E38ok.add k138_38
def fHas9 : Fct := ⟨[.v (.sl .str), .v (.el .str)], [.el .bool], fun (x_ : (List ByteArray) × ByteArray × Unit) => x_.1.length ≤ 1000000000000000000, fun (x_ : (List ByteArray) × ByteArray × Unit) => (x_.1.any fun c => decide (c = x_.2.1), ())⟩
abbrev W_spec_l9Has_fHas9_2 (l : (List ByteArray)) (s : ByteArray) : LInv := ⟨[⟨.s, 5, true, .el .int⟩], fun _ (x_ : Int × Unit) => 0 ≤ x_.1 ∧ x_.1 ≤ l.length ∧ l.any (fun c => decide (c = s)) = (l.drop x_.1.toNat).any (fun c => decide (c = s)), fun (x_ : Int × Unit) => l.length - x_.1.toNat⟩
-- spec.l9Has
theorem k133_39 : fHas9.ok Try.prog 133 := Fct.of (S := fHas9) (L := fun ⟨l, s, _⟩ => fun | 2 => some (W_spec_l9Has_fHas9_2 l s) | _ => none) (kp := [0,1,4,5,9,17,1000009,1000017]) E39ok Try.func133 (by kernel_rfl) (by kernel_rfl) (by
  rintro ⟨(l : List ByteArray), (s : ByteArray), _⟩ hp
  refine holds_of (X := lpx (W_spec_l9Has_fHas9_2 l s) ((0 : Int), ()) fun (y1 : Int × PUnit) bk1 =>
 .br (decide (y1.fst < (↑l.length : Int)))
  (.ob ((0 : Int) ≤ y1.fst ∧ y1.fst < (↑l.length : Int)) <|
   .br ((l.getD y1.fst.toNat default).toList == s.toList)
   (.leaf (mkR fHas9.rs (true, ())) [] [])
   (.ob (l = l) <|
    .ob (Value.string s = Value.string s) <|
    .ob (bk1 (IntKind.i64.wrap (y1.fst + (1 : Int)), ())) <|
    .ok))
  (.leaf (mkR fHas9.rs (false, ())) [] [])) (by kernel_rfl) ?_
  refine lpx_i ?_ fun (y1 : Int × PUnit) i1 => br_i (fun h2 => ob_i ?_ fun o3 => br_i (fun h4 => Fct.leafY ?_) (fun h4 => ob_i rfl fun _ => ob_i rfl fun _ => ob_i ?_ fun o5 => trivial)) (fun h2 => Fct.leafY ?_)
  all_goals try simp only [decide_eq_true_eq, decide_eq_false_iff_not, Bool.not_eq_true', Bool.not_eq_false', bne_iff_ne, bne_eq_false_iff_eq, beq_iff_eq, beq_eq_false_iff_ne, baEq, Int.not_lt, Int.not_le, ne_eq, Decidable.not_not] at *
  all_goals try simp only [W_spec_l9Has_fHas9_2, fHas9, etaToken, etaNode, etaBuilder, etaPolicy, etaPage, etaVisit, etaTab, etaServer, etaCache, etaNet, etaLoader, etaSheet, etaResult, etaSlot, etaModule, etaAddr, etaRequest, etaResponse, etaConn, etaGuess, etaEntry, etaSent, etaFile, baSz, List.size_toArray, List.length_cons, List.length_nil, Nat.reduceAdd, Int.toNat_zero, List.drop_zero, decide_eq_true_eq, decide_eq_false_iff_not, Bool.not_eq_true', Bool.not_eq_false', bne_iff_ne, bne_eq_false_iff_eq, beq_iff_eq, beq_eq_false_iff_ne, Bool.not_eq_true, Bool.not_eq_false, ne_eq, Decidable.not_not, baEq, decide_not, Prod.mk.injEq, and_true, true_and, Room, List.nil_append, Nat.zero_add, Int.not_lt, Int.not_le] at *
  all_goals try simp (disch := omega) only [wrapId', toNat1] at *
  all_goals try simp (disch := omega) only [if_pos, if_neg]
  all_goals first | trivial | omega | grind [wrapId', toNat1, drop_cons, drop_end, good_len, maxLen])
def E40 : D.Env := E39.add 133 fHas9
theorem E40ok : EOk Try.prog E40 := E39ok.add k133_39
def fHostsOf : Fct := ⟨[.v (.el .net)], [.sl .str], fun (x_ : SNet × Unit) => x_.1.log.length ≤ 1048576, fun (x_ : SNet × Unit) => (uniqBy (fun s => s.to.host) [] x_.1.log, ())⟩
abbrev W_spec_HostsOf_fHostsOf_3 (n : SNet) : LInv := ⟨[⟨.s, 3, true, .sl .str⟩, ⟨.s, 4, true, .el .int⟩, ⟨.b, 1, false, .el .net⟩], fun (z_ : (List ByteArray) × Int × SNet × Unit) (x_ : (List ByteArray) × Int × SNet × Unit) => (0 ≤ x_.2.1 ∧ x_.2.1 ≤ n.log.length ∧ x_.1.length ≤ x_.2.1 ∧ uniqBy (fun s => s.to.host) x_.1 (n.log.drop x_.2.1.toNat) = uniqBy (fun s => s.to.host) [] n.log) ∧ x_.2.2.1 = z_.2.2.1, fun (x_ : (List ByteArray) × Int × SNet × Unit) => n.log.length - x_.2.1.toNat⟩
-- spec.HostsOf
theorem k91_40 : fHostsOf.ok Try.prog 91 := Fct.of (S := fHostsOf) (L := fun ⟨n, _⟩ => fun | 3 => some (W_spec_HostsOf_fHostsOf_3 n) | _ => none) (kp := [1,2,3,4,10,22,1000010,1000022]) E40ok Try.func91 (by kernel_rfl) (by kernel_rfl) (by
  rintro ⟨(n : SNet), _⟩ hp
  refine holds_of (X := lpx (W_spec_HostsOf_fHostsOf_3 n) ([], ((0 : Int), (n, ()))) fun (y1 : List ByteArray × Int × SNet × PUnit) bk1 =>
 .br (decide (y1.snd.fst < (↑y1.snd.snd.fst.log.length : Int)))
  (.ob ((0 : Int) ≤ y1.snd.fst ∧ y1.snd.fst < (↑y1.snd.snd.fst.log.length : Int)) <|
   .ob (fHas9.pre (y1.fst, (y1.snd.snd.fst.log.getD y1.snd.fst.toNat default).to.host, ())) <|
   .lt (Bool × PUnit) (fHas9.fn (y1.fst, (y1.snd.snd.fst.log.getD y1.snd.fst.toNat default).to.host, ())) fun z2 =>
   .br (!z2.fst)
    (.ob ((0 : Int) ≤ y1.snd.fst ∧ y1.snd.fst < (↑y1.snd.snd.fst.log.length : Int)) <|
     .ob (True) <|
     .ob (Room (y1.fst.length + [(y1.snd.snd.fst.log.getD y1.snd.fst.toNat default).to.host].length) (16 : Nat)) <|
     .ob (bk1 (y1.fst ++ [(y1.snd.snd.fst.log.getD y1.snd.fst.toNat default).to.host], (IntKind.i64.wrap (y1.snd.fst + (1 : Int)), (y1.snd.snd.fst, ())))) <|
     .ok)
    (.ob (bk1 (y1.fst, (IntKind.i64.wrap (y1.snd.fst + (1 : Int)), (y1.snd.snd.fst, ())))) <|
     .ok))
  (.leaf (mkR fHostsOf.rs (y1.fst, ())) [] [])) (by kernel_rfl) ?_
  refine lpx_i ?_ fun (y1 : List ByteArray × Int × SNet × PUnit) i1 => br_i (fun h2 => ob_i ?_ fun o3 => ob_i ?_ fun o4 => lt_i (br_i (fun h5 => ob_i ?_ fun o6 => ob_i trivial fun _ => ob_i ?_ fun o7 => ob_i ?_ fun o8 => trivial) (fun h5 => ob_i ?_ fun o9 => trivial))) (fun h2 => Fct.leafY ?_)
  all_goals try simp only [decide_eq_true_eq, decide_eq_false_iff_not, Bool.not_eq_true', Bool.not_eq_false', bne_iff_ne, bne_eq_false_iff_eq, beq_iff_eq, beq_eq_false_iff_ne, baEq, Int.not_lt, Int.not_le, ne_eq, Decidable.not_not] at *
  all_goals try simp only [W_spec_HostsOf_fHostsOf_3, fHas9, fHostsOf, etaToken, etaNode, etaBuilder, etaPolicy, etaPage, etaVisit, etaTab, etaServer, etaCache, etaNet, etaLoader, etaSheet, etaResult, etaSlot, etaModule, etaAddr, etaRequest, etaResponse, etaConn, etaGuess, etaEntry, etaSent, etaFile, baSz, List.size_toArray, List.length_cons, List.length_nil, Nat.reduceAdd, Int.toNat_zero, List.drop_zero, decide_eq_true_eq, decide_eq_false_iff_not, Bool.not_eq_true', Bool.not_eq_false', bne_iff_ne, bne_eq_false_iff_eq, beq_iff_eq, beq_eq_false_iff_ne, Bool.not_eq_true, Bool.not_eq_false, ne_eq, Decidable.not_not, baEq, decide_not, Prod.mk.injEq, and_true, true_and, Room, List.nil_append, Nat.zero_add, Int.not_lt, Int.not_le, uniqBy, fHas9, fContains_str] at *
  all_goals try simp (disch := omega) only [wrapId', toNat1] at *
  all_goals try simp (disch := omega) only [if_pos, if_neg]
  all_goals first | trivial | omega | grind [wrapId', toNat1, drop_cons, drop_end, good_len, maxLen, uniqBy, fHas9, fContains_str])
def E41 : D.Env := E40.add 91 fHostsOf
theorem E41ok : EOk Try.prog E41 := E40ok.add k91_40
abbrev W_impl_HostsOf_fHostsOf_3 (n : SNet) : LInv := ⟨[⟨.s, 3, true, .sl .str⟩, ⟨.s, 10, true, .el .int⟩], fun _ (x_ : (List ByteArray) × Int × Unit) => 0 ≤ x_.2.1 ∧ x_.2.1 ≤ n.log.length ∧ x_.1.length ≤ x_.2.1 ∧ uniqBy (fun s => s.to.host) x_.1 (n.log.drop x_.2.1.toNat) = uniqBy (fun s => s.to.host) [] n.log, fun (x_ : (List ByteArray) × Int × Unit) => n.log.length - x_.2.1.toNat⟩
-- impl.HostsOf
theorem k97_41 : fHostsOf.ok Try.prog 97 := Fct.of (S := fHostsOf) (L := fun ⟨n, _⟩ => fun | 3 => some (W_impl_HostsOf_fHostsOf_3 n) | _ => none) (kp := [1,2,3,5,8,9,10,11,19,1000011,1000019]) E41ok Try.func97 (by kernel_rfl) (by kernel_rfl) (by
  rintro ⟨(n : SNet), _⟩ hp
  refine holds_of (X := lpx (W_impl_HostsOf_fHostsOf_3 n) ([], ((0 : Int), ())) fun (y1 : List ByteArray × Int × PUnit) bk1 =>
 .br (decide (y1.snd.fst < (↑n.log.length : Int)))
  (.ob ((0 : Int) ≤ y1.snd.fst ∧ y1.snd.fst < (↑n.log.length : Int)) <|
   .ob (fContains_str.pre (y1.fst, (n.log.getD y1.snd.fst.toNat default).to.host, ())) <|
   .lt (Bool × PUnit) (fContains_str.fn (y1.fst, (n.log.getD y1.snd.fst.toNat default).to.host, ())) fun z2 =>
   .br (!z2.fst)
    (.ob (True) <|
     .ob (Room (y1.fst.length + [(n.log.getD y1.snd.fst.toNat default).to.host].length) (16 : Nat)) <|
     .ob (n.log = n.log) <|
     .ob (Value.int IntKind.i64 (↑n.log.length : Int) = Value.int IntKind.i64 (↑n.log.length : Int)) <|
     .ob (bk1 (y1.fst ++ [(n.log.getD y1.snd.fst.toNat default).to.host], (IntKind.i64.wrap (y1.snd.fst + (1 : Int)), ()))) <|
     .ok)
    (.ob (n.log = n.log) <|
     .ob (Value.int IntKind.i64 (↑n.log.length : Int) = Value.int IntKind.i64 (↑n.log.length : Int)) <|
     .ob (bk1 (y1.fst, (IntKind.i64.wrap (y1.snd.fst + (1 : Int)), ()))) <|
     .ok))
  (.leaf (mkR fHostsOf.rs (y1.fst, ())) [] [])) (by kernel_rfl) ?_
  refine lpx_i ?_ fun (y1 : List ByteArray × Int × PUnit) i1 => br_i (fun h2 => ob_i ?_ fun o3 => ob_i ?_ fun o4 => lt_i (br_i (fun h5 => ob_i trivial fun _ => ob_i ?_ fun o6 => ob_i rfl fun _ => ob_i rfl fun _ => ob_i ?_ fun o7 => trivial) (fun h5 => ob_i rfl fun _ => ob_i rfl fun _ => ob_i ?_ fun o8 => trivial))) (fun h2 => Fct.leafY ?_)
  all_goals try simp only [decide_eq_true_eq, decide_eq_false_iff_not, Bool.not_eq_true', Bool.not_eq_false', bne_iff_ne, bne_eq_false_iff_eq, beq_iff_eq, beq_eq_false_iff_ne, baEq, Int.not_lt, Int.not_le, ne_eq, Decidable.not_not] at *
  all_goals try simp only [W_impl_HostsOf_fHostsOf_3, fContains_str, fHostsOf, etaToken, etaNode, etaBuilder, etaPolicy, etaPage, etaVisit, etaTab, etaServer, etaCache, etaNet, etaLoader, etaSheet, etaResult, etaSlot, etaModule, etaAddr, etaRequest, etaResponse, etaConn, etaGuess, etaEntry, etaSent, etaFile, baSz, List.size_toArray, List.length_cons, List.length_nil, Nat.reduceAdd, Int.toNat_zero, List.drop_zero, decide_eq_true_eq, decide_eq_false_iff_not, Bool.not_eq_true', Bool.not_eq_false', bne_iff_ne, bne_eq_false_iff_eq, beq_iff_eq, beq_eq_false_iff_ne, Bool.not_eq_true, Bool.not_eq_false, ne_eq, Decidable.not_not, baEq, decide_not, Prod.mk.injEq, and_true, true_and, Room, List.nil_append, Nat.zero_add, Int.not_lt, Int.not_le, uniqBy, fHas9, fContains_str] at *
  all_goals try simp (disch := omega) only [wrapId', toNat1] at *
  all_goals try simp (disch := omega) only [if_pos, if_neg]
  all_goals first | trivial | omega | grind [wrapId', toNat1, drop_cons, drop_end, good_len, maxLen, uniqBy, fHas9, fContains_str])
def E42 : D.Env := E41.add 97 fHostsOf
theorem E42ok : EOk Try.prog E42 := E41ok.add k97_41
def fEqual_addr : Fct := ⟨[.v (.sl .addr), .v (.sl .addr)], [.el .bool], fun (x_ : (List SAddr) × (List SAddr) × Unit) => x_.1.length ≤ 1000000000000000000, fun (x_ : (List SAddr) × (List SAddr) × Unit) => (decide (x_.1 = x_.2.1), ())⟩
abbrev W_slices_Equal_impl_Addr_impl_Addr_fEqual_addr_4 (l : (List SAddr)) (m : (List SAddr)) : LInv := ⟨[⟨.s, 13, true, .el .int⟩], fun _ (x_ : Int × Unit) => 0 ≤ x_.1 ∧ x_.1 ≤ l.length ∧ l.length = m.length ∧ decide (l.drop x_.1.toNat = m.drop x_.1.toNat) = decide (l = m), fun (x_ : Int × Unit) => l.length - x_.1.toNat⟩
-- slices.Equal[[]impl.Addr,impl.Addr]
theorem k98_42 : fEqual_addr.ok Try.prog 98 := Fct.of (S := fEqual_addr) (L := fun ⟨l, m, _⟩ => fun | 4 => some (W_slices_Equal_impl_Addr_impl_Addr_fEqual_addr_4 l m) | _ => none) (kp := [0,1,4,5,10,12,13,14,24,1000010,1000014,1000024]) E42ok Try.func98 (by kernel_rfl) (by kernel_rfl) (by
  rintro ⟨(l : List SAddr), (m : List SAddr), _⟩ hp
  refine holds_of (X := .br ((↑l.length : Int) != (↑m.length : Int))
 (.leaf (mkR fEqual_addr.rs (false, ())) [] [])
 (lpx (W_slices_Equal_impl_Addr_impl_Addr_fEqual_addr_4 l m) ((0 : Int), ()) fun (y2 : Int × PUnit) bk2 =>
  .br (decide (y2.fst < (↑l.length : Int)))
   (.ob ((0 : Int) ≤ y2.fst ∧ y2.fst < (↑l.length : Int)) <|
    .ob ((0 : Int) ≤ y2.fst ∧ y2.fst < (↑m.length : Int)) <|
    .br (!((l.getD y2.fst.toNat default).host == (m.getD y2.fst.toNat default).host &&
    ((l.getD y2.fst.toNat default).path == (m.getD y2.fst.toNat default).path && true)))
    (.leaf (mkR fEqual_addr.rs (false, ())) [] [])
    (.ob (l = l) <|
     .ob (m = m) <|
     .ob (Value.int IntKind.i64 (↑l.length : Int) = Value.int IntKind.i64 (↑l.length : Int)) <|
     .ob (bk2 (IntKind.i64.wrap (y2.fst + (1 : Int)), ())) <|
     .ok))
   (.leaf (mkR fEqual_addr.rs (true, ())) [] []))) (by kernel_rfl) ?_
  refine br_i (fun h1 => Fct.leafY ?_) (fun h1 => lpx_i ?_ fun (y2 : Int × PUnit) i2 => br_i (fun h3 => ob_i ?_ fun o4 => ob_i ?_ fun o5 => br_i (fun h6 => Fct.leafY ?_) (fun h6 => ob_i rfl fun _ => ob_i rfl fun _ => ob_i rfl fun _ => ob_i ?_ fun o7 => trivial)) (fun h3 => Fct.leafY ?_))
  all_goals try simp only [beqAddr] at *
  all_goals try simp only [decide_eq_true_eq, decide_eq_false_iff_not, Bool.not_eq_true', Bool.not_eq_false', bne_iff_ne, bne_eq_false_iff_eq, beq_iff_eq, beq_eq_false_iff_ne, baEq, Int.not_lt, Int.not_le, ne_eq, Decidable.not_not] at *
  all_goals try simp only [W_slices_Equal_impl_Addr_impl_Addr_fEqual_addr_4, fEqual_addr, etaToken, etaNode, etaBuilder, etaPolicy, etaPage, etaVisit, etaTab, etaServer, etaCache, etaNet, etaLoader, etaSheet, etaResult, etaSlot, etaModule, etaAddr, etaRequest, etaResponse, etaConn, etaGuess, etaEntry, etaSent, etaFile, baSz, List.size_toArray, List.length_cons, List.length_nil, Nat.reduceAdd, Int.toNat_zero, List.drop_zero, decide_eq_true_eq, decide_eq_false_iff_not, Bool.not_eq_true', Bool.not_eq_false', bne_iff_ne, bne_eq_false_iff_eq, beq_iff_eq, beq_eq_false_iff_ne, Bool.not_eq_true, Bool.not_eq_false, ne_eq, Decidable.not_not, baEq, decide_not, Prod.mk.injEq, and_true, true_and, Room, List.nil_append, Nat.zero_add, Int.not_lt, Int.not_le] at *
  all_goals try simp (disch := omega) only [wrapId', toNat1] at *
  all_goals try simp (disch := omega) only [if_pos, if_neg]
  all_goals first | trivial | omega | grind [wrapId', toNat1, drop_cons, drop_end, good_len, maxLen])
def E43 : D.Env := E42.add 98 fEqual_addr
theorem E43ok : EOk Try.prog E43 := E42ok.add k98_42
abbrev W_spec_l15Addrs_fEqual_addr_4 (l : (List SAddr)) (m : (List SAddr)) : LInv := ⟨[⟨.s, 5, true, .el .int⟩], fun _ (x_ : Int × Unit) => 0 ≤ x_.1 ∧ x_.1 ≤ l.length ∧ l.length = m.length ∧ decide (l.drop x_.1.toNat = m.drop x_.1.toNat) = decide (l = m), fun (x_ : Int × Unit) => l.length - x_.1.toNat⟩
-- spec.l15Addrs
theorem k92_43 : fEqual_addr.ok Try.prog 92 := Fct.of (S := fEqual_addr) (L := fun ⟨l, m, _⟩ => fun | 4 => some (W_spec_l15Addrs_fEqual_addr_4 l m) | _ => none) (kp := [0,1,4,5,10,14,25,1000010,1000014,1000025]) E43ok Try.func92 (by kernel_rfl) (by kernel_rfl) (by
  rintro ⟨(l : List SAddr), (m : List SAddr), _⟩ hp
  refine holds_of (X := .br ((↑l.length : Int) != (↑m.length : Int))
 (.leaf (mkR fEqual_addr.rs (false, ())) [] [])
 (lpx (W_spec_l15Addrs_fEqual_addr_4 l m) ((0 : Int), ()) fun (y2 : Int × PUnit) bk2 =>
  .br (decide (y2.fst < (↑l.length : Int)))
   (.ob ((0 : Int) ≤ y2.fst ∧ y2.fst < (↑l.length : Int)) <|
    .ob ((0 : Int) ≤ y2.fst ∧ y2.fst < (↑m.length : Int)) <|
    .br (!((l.getD y2.fst.toNat default).host == (m.getD y2.fst.toNat default).host &&
    ((l.getD y2.fst.toNat default).path == (m.getD y2.fst.toNat default).path && true)))
    (.leaf (mkR fEqual_addr.rs (false, ())) [] [])
    (.ob (l = l) <|
     .ob (m = m) <|
     .ob (bk2 (IntKind.i64.wrap (y2.fst + (1 : Int)), ())) <|
     .ok))
   (.leaf (mkR fEqual_addr.rs (true, ())) [] []))) (by kernel_rfl) ?_
  refine br_i (fun h1 => Fct.leafY ?_) (fun h1 => lpx_i ?_ fun (y2 : Int × PUnit) i2 => br_i (fun h3 => ob_i ?_ fun o4 => ob_i ?_ fun o5 => br_i (fun h6 => Fct.leafY ?_) (fun h6 => ob_i rfl fun _ => ob_i rfl fun _ => ob_i ?_ fun o7 => trivial)) (fun h3 => Fct.leafY ?_))
  all_goals try simp only [beqAddr] at *
  all_goals try simp only [decide_eq_true_eq, decide_eq_false_iff_not, Bool.not_eq_true', Bool.not_eq_false', bne_iff_ne, bne_eq_false_iff_eq, beq_iff_eq, beq_eq_false_iff_ne, baEq, Int.not_lt, Int.not_le, ne_eq, Decidable.not_not] at *
  all_goals try simp only [W_spec_l15Addrs_fEqual_addr_4, fEqual_addr, etaToken, etaNode, etaBuilder, etaPolicy, etaPage, etaVisit, etaTab, etaServer, etaCache, etaNet, etaLoader, etaSheet, etaResult, etaSlot, etaModule, etaAddr, etaRequest, etaResponse, etaConn, etaGuess, etaEntry, etaSent, etaFile, baSz, List.size_toArray, List.length_cons, List.length_nil, Nat.reduceAdd, Int.toNat_zero, List.drop_zero, decide_eq_true_eq, decide_eq_false_iff_not, Bool.not_eq_true', Bool.not_eq_false', bne_iff_ne, bne_eq_false_iff_eq, beq_iff_eq, beq_eq_false_iff_ne, Bool.not_eq_true, Bool.not_eq_false, ne_eq, Decidable.not_not, baEq, decide_not, Prod.mk.injEq, and_true, true_and, Room, List.nil_append, Nat.zero_add, Int.not_lt, Int.not_le] at *
  all_goals try simp (disch := omega) only [wrapId', toNat1] at *
  all_goals try simp (disch := omega) only [if_pos, if_neg]
  all_goals first | trivial | omega | grind [wrapId', toNat1, drop_cons, drop_end, good_len, maxLen])
def E44 : D.Env := E43.add 92 fEqual_addr
theorem E44ok : EOk Try.prog E44 := E43ok.add k92_43
def fCompareAddrs : Fct := ⟨[.v (.el .addr), .v (.el .addr)], [.el .int], fun (x_ : SAddr × SAddr × Unit) => True, fun (x_ : SAddr × SAddr × Unit) => (cmpA x_.1 x_.2.1, ())⟩
-- spec.CompareAddrs
theorem k166_44 : fCompareAddrs.ok Try.prog 166 := Fct.of (S := fCompareAddrs) (L := fun _ _ => none) (kp := [2,3,4,5,9,1000005,1000009]) E44ok Try.func166 (by kernel_rfl) (by kernel_rfl) (by
  rintro ⟨(a : SAddr), (b : SAddr), _⟩ hp
  refine holds_of (X := .br (a.host == b.host && (a.path == b.path && true))
 (.leaf (mkR fCompareAddrs.rs ((0 : Int), ())) [] [])
 (.br (Op.bytesLess a.host.toList b.host.toList)
  (.leaf (mkR fCompareAddrs.rs ((-1 : Int), ())) [] [])
  (.br (a.host.toList == b.host.toList)
   (.br (Op.bytesLess a.path.toList b.path.toList)
    (.leaf (mkR fCompareAddrs.rs ((-1 : Int), ())) [] [])
    (.leaf (mkR fCompareAddrs.rs ((1 : Int), ())) [] []))
   (.leaf (mkR fCompareAddrs.rs ((1 : Int), ())) [] [])))) (by kernel_rfl) ?_
  refine br_i (fun h1 => Fct.leafY ?_) (fun h1 => br_i (fun h2 => Fct.leafY ?_) (fun h2 => br_i (fun h3 => br_i (fun h4 => Fct.leafY ?_) (fun h4 => Fct.leafY ?_)) (fun h3 => Fct.leafY ?_)))
  all_goals try simp only [beqAddr, less_cmpB, decide_eq_true_eq, decide_eq_false_iff_not] at *
  all_goals have h1 := cmpB_range a.host b.host
  all_goals have h2 := cmpB_range a.path b.path
  all_goals have h3 := cmpA_range a b
  all_goals have h4 := cmpA_eq (a := a) (b := b)
  all_goals have h5 := cmpB_eq (a := a.host) (b := b.host)
  all_goals have h6 := cmpB_eq (a := a.path) (b := b.path)
  all_goals try simp only [decide_eq_true_eq, decide_eq_false_iff_not, Bool.not_eq_true', Bool.not_eq_false', bne_iff_ne, bne_eq_false_iff_eq, beq_iff_eq, beq_eq_false_iff_ne, baEq, Int.not_lt, Int.not_le, ne_eq, Decidable.not_not] at *
  all_goals try simp only [fCompareAddrs, etaToken, etaNode, etaBuilder, etaPolicy, etaPage, etaVisit, etaTab, etaServer, etaCache, etaNet, etaLoader, etaSheet, etaResult, etaSlot, etaModule, etaAddr, etaRequest, etaResponse, etaConn, etaGuess, etaEntry, etaSent, etaFile, baSz, List.size_toArray, List.length_cons, List.length_nil, Nat.reduceAdd, Int.toNat_zero, List.drop_zero, decide_eq_true_eq, decide_eq_false_iff_not, Bool.not_eq_true', Bool.not_eq_false', bne_iff_ne, bne_eq_false_iff_eq, beq_iff_eq, beq_eq_false_iff_ne, Bool.not_eq_true, Bool.not_eq_false, ne_eq, Decidable.not_not, baEq, decide_not, Prod.mk.injEq, and_true, true_and, Room, List.nil_append, Nat.zero_add, Int.not_lt, Int.not_le, cmpA] at *
  all_goals try simp (disch := omega) only [wrapId', toNat1] at *
  all_goals try simp (disch := omega) only [if_pos, if_neg]
  all_goals first | trivial | omega | grind [wrapId', toNat1, drop_cons, drop_end, good_len, maxLen, cmpA])
def E45 : D.Env := E44.add 166 fCompareAddrs
theorem E45ok : EOk Try.prog E45 := E44ok.add k166_44
def laysCmp_r : Go.Shelf.Ren := ⟨fun | 0 => 0 | 1 => 1 | 2 => 2 | 106 => 198 | 109 => 169 | 110 => 138 | 125 => 117 | 128 => 158 | 129 => 159 | 189 => 83 | 213 => 216 | 215 => 187 | 216 => 155 | 257 => 116 | 265 => 223 | 294 => 149 | 295 => 150 | 296 => 151 | 297 => 152 | 298 => 153 | 299 => 154 | 300 => 156 | 301 => 157 | 328 => 182 | 329 => 183 | 330 => 184 | 331 => 185 | 332 => 186 | 343 => 203 | 347 => 226 | 348 => 227 | 349 => 228 | 350 => 229 | 351 => 230 | 352 => 231 | 353 => 232 | 354 => 233 | 355 => 234 | 356 => 235 | 357 => 236 | 358 => 237 | 359 => 238 | 360 => 239 | 361 => 240 | 366 => 241 | _ => 0, fun | 0 => 0 | 1 => 1 | 2 => 2 | 3 => 3 | 4 => 4 | 5 => 5 | 6 => 6 | 7 => 7 | 8 => 8 | 9 => 9 | 10 => 10 | 11 => 11 | 12 => 12 | 13 => 13 | 14 => 14 | 15 => 15 | 16 => 16 | 17 => 17 | 18 => 18 | 19 => 19 | 20 => 20 | 21 => 21 | 27 => 262 | 28 => 58 | 30 => 64 | 31 => 59 | 32 => 233 | 33 => 182 | 34 => 63 | 35 => 122 | 37 => 30 | 43 => 121 | 46 => 153 | 47 => 152 | 51 => 209 | 52 => 208 | 53 => 211 | 54 => 210 | 80 => 284 | 81 => 290 | 83 => 103 | 101 => 62 | 104 => 265 | 111 => 246 | 112 => 204 | 127 => 294 | 131 => 206 | 134 => 151 | 164 => 299 | 181 => 199 | 182 => 200 | 183 => 201 | 184 => 202 | 185 => 203 | 186 => 205 | 187 => 207 | 218 => 240 | 219 => 241 | 220 => 242 | 221 => 243 | 222 => 244 | 223 => 245 | 228 => 266 | 229 => 267 | 230 => 268 | 238 => 285 | 239 => 286 | 240 => 287 | 241 => 288 | 242 => 289 | 243 => 291 | 244 => 292 | 245 => 293 | 246 => 295 | 247 => 296 | 248 => 297 | 249 => 298 | _ => 0, fun | 1 => 0 | _ => 0⟩
theorem laysCmp : Go.Proofs.Lays.n106 Try.prog laysCmp_r where
  mixed := by kernel_rfl
  f106 := by kernel_rfl
  f213 := by kernel_rfl
  f265 := by kernel_rfl
  t3 := by kernel_rfl
  a3 := fun _ => by kernel_rfl
  z3 := fun _ => by kernel_rfl
  v3 := fun _ => by kernel_rfl
  t9 := by kernel_rfl
  a9 := fun _ => by kernel_rfl
  z9 := fun _ => by kernel_rfl
  v9 := fun _ => by kernel_rfl
-- strings.Compare
theorem k198_45 : fCmpStr.ok Try.prog 198 :=
  strs_ok rfl (Any.strings_Compare laysCmp)
def E46 : D.Env := E45.add 198 fCmpStr
theorem E46ok : EOk Try.prog E46 := E45ok.add k198_45
-- impl.CompareAddrs
theorem k171_46 : fCompareAddrs.ok Try.prog 171 := Fct.of (S := fCompareAddrs) (L := fun _ _ => none) (kp := [2,3,4,5,12,1000012]) E46ok Try.func171 (by kernel_rfl) (by kernel_rfl) (by
  rintro ⟨(a : SAddr), (b : SAddr), _⟩ hp
  refine holds_of (X := .ob (fCmpStr.pre (a.host, b.host, ())) <|
 .lt (Int × PUnit) (fCmpStr.fn (a.host, b.host, ())) fun z2 =>
 .br (z2.fst != (0 : Int))
  (.leaf (mkR fCompareAddrs.rs (z2.fst, ())) [] [])
  (.ob (fCmpStr.pre (a.path, b.path, ())) <|
   .lt (Int × PUnit) (fCmpStr.fn (a.path, b.path, ())) fun z3 =>
   .leaf (mkR fCompareAddrs.rs (z3.fst, ())) [] [])) (by kernel_rfl) ?_
  refine ob_i trivial fun _ => lt_i (br_i (fun h1 => Fct.leafY ?_) (fun h1 => ob_i trivial fun _ => lt_i (Fct.leafY ?_)))
  all_goals try simp only [decide_eq_true_eq, decide_eq_false_iff_not, Bool.not_eq_true', Bool.not_eq_false', bne_iff_ne, bne_eq_false_iff_eq, beq_iff_eq, beq_eq_false_iff_ne, baEq, Int.not_lt, Int.not_le, ne_eq, Decidable.not_not] at *
  all_goals try simp only [fCmpStr, fCompareAddrs, etaToken, etaNode, etaBuilder, etaPolicy, etaPage, etaVisit, etaTab, etaServer, etaCache, etaNet, etaLoader, etaSheet, etaResult, etaSlot, etaModule, etaAddr, etaRequest, etaResponse, etaConn, etaGuess, etaEntry, etaSent, etaFile, baSz, List.size_toArray, List.length_cons, List.length_nil, Nat.reduceAdd, Int.toNat_zero, List.drop_zero, decide_eq_true_eq, decide_eq_false_iff_not, Bool.not_eq_true', Bool.not_eq_false', bne_iff_ne, bne_eq_false_iff_eq, beq_iff_eq, beq_eq_false_iff_ne, Bool.not_eq_true, Bool.not_eq_false, ne_eq, Decidable.not_not, baEq, decide_not, Prod.mk.injEq, and_true, true_and, Room, List.nil_append, Nat.zero_add, Int.not_lt, Int.not_le, cmpA, fCmpStr] at *
  all_goals try simp (disch := omega) only [wrapId', toNat1] at *
  all_goals try simp (disch := omega) only [if_pos, if_neg]
  all_goals first | trivial | omega | grind [wrapId', toNat1, drop_cons, drop_end, good_len, maxLen, cmpA, fCmpStr])
def E47 : D.Env := E46.add 171 fCompareAddrs
theorem E47ok : EOk Try.prog E47 := E46ok.add k171_46
def fSortA : GS := ⟨[.k (.sl .addr), .l (.c 171 [])], [], fun (x_ : (List SAddr) × (Unit) × Unit) => x_.1.length < 4611686018427387904, fun (x_ : (List SAddr) × (Unit) × Unit) => ((()), (sortA x_.1, ()))⟩
def laysSortA_r : Go.Shelf.Ren := ⟨fun | 0 => 0 | 1 => 1 | 2 => 2 | 6 => 170 | 14 => 197 | 15 => 117 | 18 => 187 | 20 => 208 | 21 => 209 | 22 => 210 | 23 => 211 | 24 => 212 | 25 => 213 | 26 => 214 | 27 => 215 | 28 => 158 | 29 => 159 | 46 => 220 | 47 => 183 | 48 => 184 | 49 => 221 | 50 => 222 | 57 => 225 | 60 => 226 | 61 => 227 | 62 => 228 | 63 => 229 | 64 => 230 | 65 => 231 | 66 => 232 | 67 => 233 | 68 => 234 | 69 => 235 | 70 => 236 | 71 => 237 | 72 => 238 | 73 => 239 | 74 => 240 | 75 => 241 | _ => 0, fun | 0 => 0 | 1 => 1 | 2 => 2 | 3 => 3 | 4 => 4 | 5 => 5 | 6 => 6 | 7 => 7 | 8 => 8 | 9 => 9 | 10 => 10 | 11 => 11 | 12 => 12 | 13 => 13 | 14 => 14 | 15 => 15 | 16 => 16 | 17 => 17 | 18 => 18 | 19 => 19 | 20 => 20 | 21 => 21 | 22 => 130 | 23 => 234 | 24 => 34 | 25 => 228 | 27 => 58 | 29 => 121 | 30 => 122 | 37 => 261 | 38 => 152 | 39 => 153 | 42 => 246 | 44 => 273 | 45 => 200 | 46 => 201 | 47 => 274 | 48 => 275 | 49 => 276 | 50 => 206 | 51 => 277 | 52 => 208 | 53 => 209 | 54 => 210 | 55 => 211 | 66 => 240 | 67 => 241 | 68 => 242 | 69 => 280 | 70 => 244 | 71 => 281 | 76 => 266 | 77 => 267 | 78 => 283 | 81 => 284 | 82 => 285 | 83 => 286 | 84 => 287 | 85 => 288 | 86 => 289 | 87 => 290 | 88 => 291 | 89 => 292 | 90 => 293 | 91 => 294 | 92 => 295 | 93 => 296 | 94 => 297 | 95 => 298 | 96 => 299 | _ => 0, fun _ => 0⟩
theorem laysSortA : Go.Proofs.SlLaysF0.n6 Try.prog laysSortA_r where
  mixed := by kernel_rfl
  f6 := ⟨"slices.SortFunc[[]loop.example/g00586/impl.Addr,loop.example/g00586/impl.Addr]", by decide, by kernel_rfl⟩
  f14 := ⟨"slices.pdqsortCmpFunc[loop.example/g00586/impl.Addr]", by decide, by kernel_rfl⟩
  f15 := by kernel_rfl
  f20 := ⟨"slices.insertionSortCmpFunc[loop.example/g00586/impl.Addr]", by decide, by kernel_rfl⟩
  f21 := ⟨"slices.heapSortCmpFunc[loop.example/g00586/impl.Addr]", by decide, by kernel_rfl⟩
  f22 := ⟨"slices.breakPatternsCmpFunc[loop.example/g00586/impl.Addr]", by decide, by kernel_rfl⟩
  f23 := ⟨"slices.choosePivotCmpFunc[loop.example/g00586/impl.Addr]", by decide, by kernel_rfl⟩
  f24 := ⟨"slices.reverseRangeCmpFunc[loop.example/g00586/impl.Addr]", by decide, by kernel_rfl⟩
  f25 := ⟨"slices.partialInsertionSortCmpFunc[loop.example/g00586/impl.Addr]", by decide, by kernel_rfl⟩
  f26 := ⟨"slices.partitionEqualCmpFunc[loop.example/g00586/impl.Addr]", by decide, by kernel_rfl⟩
  f27 := ⟨"slices.partitionCmpFunc[loop.example/g00586/impl.Addr]", by decide, by kernel_rfl⟩
  f28 := by kernel_rfl
  f29 := by kernel_rfl
  f46 := ⟨"slices.siftDownCmpFunc[loop.example/g00586/impl.Addr]", by decide, by kernel_rfl⟩
  f47 := by kernel_rfl
  f48 := by kernel_rfl
  f49 := ⟨"slices.medianAdjacentCmpFunc[loop.example/g00586/impl.Addr]", by decide, by kernel_rfl⟩
  f50 := ⟨"slices.medianCmpFunc[loop.example/g00586/impl.Addr]", by decide, by kernel_rfl⟩
  f57 := ⟨"slices.order2CmpFunc[loop.example/g00586/impl.Addr]", by decide, by kernel_rfl⟩
  t0 := by kernel_rfl
  a0 := fun _ => by kernel_rfl
  z0 := fun _ => by kernel_rfl
  v0 := fun _ => by kernel_rfl
  t3 := by kernel_rfl
  a3 := fun _ => by kernel_rfl
  z3 := fun _ => by kernel_rfl
  v3 := fun _ => by kernel_rfl
  t4 := by kernel_rfl
  a4 := fun _ => by kernel_rfl
  z4 := fun _ => by kernel_rfl
  v4 := fun _ => by kernel_rfl
  t5 := by kernel_rfl
  a5 := fun _ => by kernel_rfl
  z5 := fun _ => by kernel_rfl
  v5 := fun _ => by kernel_rfl
  t9 := by kernel_rfl
  a9 := fun _ => by kernel_rfl
  z9 := fun _ => by kernel_rfl
  v9 := fun _ => by kernel_rfl
  t22 := by kernel_rfl
  a22 := fun _ => by kernel_rfl
  z22 := fun _ => by kernel_rfl
  v22 := fun _ => by kernel_rfl
  t25 := by kernel_rfl
  a25 := fun _ => by kernel_rfl
  z25 := fun _ => by kernel_rfl
  v25 := fun _ => by kernel_rfl
  t39 := by kernel_rfl
  a39 := fun _ => by kernel_rfl
  z39 := fun _ => by kernel_rfl
  v39 := fun _ => by kernel_rfl
  t45 := by kernel_rfl
  a45 := fun _ => by kernel_rfl
  z45 := fun _ => by kernel_rfl
  v45 := fun _ => by kernel_rfl
  t46 := by kernel_rfl
  a46 := fun _ => by kernel_rfl
  z46 := fun _ => by kernel_rfl
  v46 := fun _ => by kernel_rfl
  t50 := by kernel_rfl
  a50 := fun _ => by kernel_rfl
  z50 := fun _ => by kernel_rfl
  v50 := fun _ => by kernel_rfl
  t53 := by kernel_rfl
  a53 := fun _ => by kernel_rfl
  z53 := fun _ => by kernel_rfl
  v53 := fun _ => by kernel_rfl
  t55 := by kernel_rfl
  a55 := fun _ => by kernel_rfl
  z55 := fun _ => by kernel_rfl
  v55 := fun _ => by kernel_rfl
  t66 := by kernel_rfl
  a66 := fun _ => by kernel_rfl
  z66 := fun _ => by kernel_rfl
  v66 := fun _ => by kernel_rfl
  t70 := by kernel_rfl
  a70 := fun _ => by kernel_rfl
  z70 := fun _ => by kernel_rfl
  v70 := fun _ => by kernel_rfl
  t76 := by kernel_rfl
  a76 := fun _ => by kernel_rfl
  z76 := fun _ => by kernel_rfl
  v76 := fun _ => by kernel_rfl
  t77 := by kernel_rfl
  a77 := fun _ => by kernel_rfl
  z77 := fun _ => by kernel_rfl
  v77 := fun _ => by kernel_rfl
-- slices.SortFunc[[]impl.Addr,impl.Addr]
theorem k170_47 : fSortA.ok Try.prog 170 :=
  sort_ok_ (cf := cmpA) laysSortA rfl (fun _ => by kernel_rfl) (fun _ => by kernel_rfl) swoA totA (enters_of Try.func171 (by kernel_rfl) rfl) k171_46
def E48 : D.Env := E47.addG 170 fSortA
theorem E48ok : EOk Try.prog E48 := E47ok.addG k170_47
def fCompactA : GS := ⟨[.g (.sl .addr)], [.sl .addr], fun (x_ : (List SAddr) × Unit) => x_.1.length ≤ 1000000000000, fun (x_ : (List SAddr) × Unit) => ((dedupA x_.1, ()), (()))⟩
abbrev W_slices_Compact_impl_Addr_impl_Addr_fCompactA_4 (s : (List SAddr)) : LInv := ⟨[⟨.s, 3, true, .el .int⟩, ⟨.t, 0, true, .sl .addr⟩], fun _ (x_ : Int × (List SAddr) × Unit) => 1 ≤ x_.1 ∧ x_.1 ≤ s.length ∧ x_.2.1 = s ∧ dedupA (s.take x_.1.toNat) = s.take x_.1.toNat, fun (x_ : Int × (List SAddr) × Unit) => s.length - x_.1.toNat⟩
abbrev W_slices_Compact_impl_Addr_impl_Addr_fCompactA_9 (s : (List SAddr)) : LInv := ⟨[⟨.s, 3, true, .el .int⟩, ⟨.s, 5, true, .el .int⟩, ⟨.t, 0, true, .sl .addr⟩], fun (z_ : Int × Int × (List SAddr) × Unit) (x_ : Int × Int × (List SAddr) × Unit) => CompInv s x_.2.2.1 z_.1 x_.1 x_.2.1, fun (x_ : Int × Int × (List SAddr) × Unit) => s.length - x_.2.1.toNat⟩
-- slices.Compact[[]impl.Addr,impl.Addr]
set_option maxHeartbeats 2000000 in
theorem k172_48 : fCompactA.ok Try.prog 172 := GS.of (S := fCompactA) (L := fun ⟨s, _⟩ => fun | 4 => some (W_slices_Compact_impl_Addr_impl_Addr_fCompactA_4 s) | 9 => some (W_slices_Compact_impl_Addr_impl_Addr_fCompactA_9 s) | _ => none) (kp := [0,2,3,4,5,8,13,25,32,44,1000008,1000013,1000025,1000032,1000044]) E48ok Try.func172 (by kernel_rfl) (by kernel_rfl) (by
  rintro ⟨(s : List SAddr), _⟩ hp
  refine holds_of (X := .br (decide ((↑s.length : Int) < (2 : Int)))
 (GS.out fCompactA ((s, ()), (())))
 (lpx (W_slices_Compact_impl_Addr_impl_Addr_fCompactA_4 s) ((1 : Int), (s, ())) fun (y2 : Int × List SAddr × PUnit) bk2 =>
  .br (decide (y2.fst < (↑y2.snd.fst.length : Int)))
   (.ob ((0 : Int) ≤ y2.fst ∧ y2.fst < (↑y2.snd.fst.length : Int)) <|
    .ob (y2.fst.toNat < y2.snd.fst.length) <|
    .ob ((0 : Int) ≤ IntKind.i64.wrap (y2.fst - (1 : Int)) ∧ IntKind.i64.wrap (y2.fst - (1 : Int)) < (↑y2.snd.fst.length : Int)) <|
    .ob ((IntKind.i64.wrap (y2.fst - (1 : Int))).toNat < y2.snd.fst.length) <|
    .br ((y2.snd.fst.getD y2.fst.toNat default).host ==
    (y2.snd.fst.getD (IntKind.i64.wrap (y2.fst - (1 : Int))).toNat default).host &&
  ((y2.snd.fst.getD y2.fst.toNat default).path ==
      (y2.snd.fst.getD (IntKind.i64.wrap (y2.fst - (1 : Int))).toNat default).path &&
    true))
    (.ob ((0 : Int) ≤ y2.fst ∧ y2.fst ≤ (↑y2.snd.fst.length : Int)) <|
     lpx (W_slices_Compact_impl_Addr_impl_Addr_fCompactA_9 s) (y2.fst, ((1 : Int), (y2.snd.fst, ()))) fun (y10 : Int × Int × List SAddr × PUnit) bk10 =>
     .br (decide (y10.snd.fst < (↑(y2.snd.fst.length - y2.fst.toNat) : Int)))
      (.ob ((0 : Int) ≤ y10.snd.fst ∧ y10.snd.fst < (↑(y2.snd.fst.length - y2.fst.toNat) : Int)) <|
       .ob (y2.fst.toNat + y10.snd.fst.toNat < y10.snd.snd.fst.length) <|
       .ob ((0 : Int) ≤ IntKind.i64.wrap (y10.snd.fst - (1 : Int)) ∧
  IntKind.i64.wrap (y10.snd.fst - (1 : Int)) < (↑(y2.snd.fst.length - y2.fst.toNat) : Int)) <|
       .ob (y2.fst.toNat + (IntKind.i64.wrap (y10.snd.fst - (1 : Int))).toNat < y10.snd.snd.fst.length) <|
       .br (!((y10.snd.snd.fst.getD (y2.fst.toNat + y10.snd.fst.toNat) default).host ==
      (y10.snd.snd.fst.getD (y2.fst.toNat + (IntKind.i64.wrap (y10.snd.fst - (1 : Int))).toNat) default).host &&
    ((y10.snd.snd.fst.getD (y2.fst.toNat + y10.snd.fst.toNat) default).path ==
        (y10.snd.snd.fst.getD (y2.fst.toNat + (IntKind.i64.wrap (y10.snd.fst - (1 : Int))).toNat) default).path &&
      true)))
       (.ob ((0 : Int) ≤ y10.snd.fst ∧ y10.snd.fst < (↑(y2.snd.fst.length - y2.fst.toNat) : Int)) <|
        .ob (y2.fst.toNat + y10.snd.fst.toNat < y10.snd.snd.fst.length) <|
        .ob ((0 : Int) ≤ y10.fst ∧ y10.fst < (↑y10.snd.snd.fst.length : Int)) <|
        .ob (y10.fst.toNat < y10.snd.snd.fst.length) <|
        .lt (List SAddr) (y10.snd.snd.fst.modify y10.fst.toNat fun z => y10.snd.snd.fst.getD (y2.fst.toNat + y10.snd.fst.toNat) default) fun z2 =>
        .ob (y2.fst.toNat = y2.fst.toNat) <|
         .ob (y2.snd.fst.length - y2.fst.toNat = y2.snd.fst.length - y2.fst.toNat) <|
         .ob (bk10 (IntKind.i64.wrap (y10.fst + (1 : Int)), (IntKind.i64.wrap (y10.snd.fst + (1 : Int)), (z2, ())))) <|
         .ok)
       (.ob (y2.fst.toNat = y2.fst.toNat) <|
        .ob (y2.snd.fst.length - y2.fst.toNat = y2.snd.fst.length - y2.fst.toNat) <|
        .ob (bk10 (y10.fst, (IntKind.i64.wrap (y10.snd.fst + (1 : Int)), (y10.snd.snd.fst, ())))) <|
        .ok))
      (.ob ((0 : Int) ≤ y10.fst ∧ y10.fst ≤ (↑y10.snd.snd.fst.length : Int)) <|
       .ob (y10.fst.toNat + (y10.snd.snd.fst.length - y10.fst.toNat) ≤ y10.snd.snd.fst.length) <|
       .ob ((0 : Int) ≤ y10.fst ∧
  y10.fst ≤
    (↑(put3 y10.snd.snd.fst y10.fst.toNat (List.replicate (y10.snd.snd.fst.length - y10.fst.toNat) default)).length :
      Int)) <|
       .ob ((0 : Nat) + (y10.fst.toNat - (0 : Nat)) ≤
  (put3 y10.snd.snd.fst y10.fst.toNat (List.replicate (y10.snd.snd.fst.length - y10.fst.toNat) default)).length) <|
       GS.out fCompactA ((cut (put3 y10.snd.snd.fst y10.fst.toNat (List.replicate (y10.snd.snd.fst.length - y10.fst.toNat) default)) (0 : Nat)
  (y10.fst.toNat - (0 : Nat)), ()), (()))))
    (.ob (bk2 (IntKind.i64.wrap (y2.fst + (1 : Int)), (y2.snd.fst, ()))) <|
     .ok))
   (GS.out fCompactA ((y2.snd.fst, ()), (()))))) (by kernel_rfl) ?_
  refine br_i (fun h1 => GS.leafY ?_) (fun h1 => lpx_i ?_ fun (y2 : Int × List SAddr × PUnit) i2 => br_i (fun h3 => ob_i ?_ fun o4 => ob_i ?_ fun o5 => ob_i ?_ fun o6 => ob_i ?_ fun o7 => br_i (fun h8 => ob_i ?_ fun o9 => lpx_i ?_ fun (y10 : Int × Int × List SAddr × PUnit) i10 => br_i (fun h11 => ob_i ?_ fun o12 => ob_i ?_ fun o13 => ob_i ?_ fun o14 => ob_i ?_ fun o15 => br_i (fun h16 => ob_i ?_ fun o17 => ob_i ?_ fun o18 => ob_i ?_ fun o19 => ob_i ?_ fun o20 => lt_i (ob_i rfl fun _ => ob_i rfl fun _ => ob_i ?_ fun o21 => trivial)) (fun h16 => ob_i rfl fun _ => ob_i rfl fun _ => ob_i ?_ fun o22 => trivial)) (fun h11 => ob_i ?_ fun o23 => ob_i ?_ fun o24 => ob_i ?_ fun o25 => ob_i ?_ fun o26 => GS.leafY ?_)) (fun h8 => ob_i ?_ fun o27 => trivial)) (fun h3 => GS.leafY ?_))
  all_goals try simp only [beqAddr] at *
  all_goals try have cI := i10
  all_goals try (obtain ⟨c1, c2, c3, c4, c5, c6, c7, c8⟩ := cI; clear c7 c8)
  all_goals try (obtain ⟨d1, d2, d3, d4⟩ := i2; simp only [d3] at *)
  all_goals try simp only [decide_eq_true_eq, decide_eq_false_iff_not, Bool.not_eq_true', Bool.not_eq_false', bne_iff_ne, bne_eq_false_iff_eq, beq_iff_eq, beq_eq_false_iff_ne, baEq, Int.not_lt, Int.not_le, ne_eq, Decidable.not_not] at *
  all_goals try simp only [W_slices_Compact_impl_Addr_impl_Addr_fCompactA_4, W_slices_Compact_impl_Addr_impl_Addr_fCompactA_9, fCompactA, etaToken, etaNode, etaBuilder, etaPolicy, etaPage, etaVisit, etaTab, etaServer, etaCache, etaNet, etaLoader, etaSheet, etaResult, etaSlot, etaModule, etaAddr, etaRequest, etaResponse, etaConn, etaGuess, etaEntry, etaSent, etaFile, baSz, List.size_toArray, List.length_cons, List.length_nil, Nat.reduceAdd, Int.toNat_zero, List.drop_zero, decide_eq_true_eq, decide_eq_false_iff_not, Bool.not_eq_true', Bool.not_eq_false', bne_iff_ne, bne_eq_false_iff_eq, beq_iff_eq, beq_eq_false_iff_ne, Bool.not_eq_true, Bool.not_eq_false, ne_eq, Decidable.not_not, baEq, decide_not, Prod.mk.injEq, and_true, true_and, Room, List.nil_append, Nat.zero_add, Int.not_lt, Int.not_le] at *
  all_goals try simp (disch := omega) only [wrapId'] at *
  all_goals try simp only [put3_len (e := y10.1.toNat) (xs := y10.2.2.1) (ys := List.replicate (y10.2.2.1.length - y10.1.toNat) default) (by simp; omega)] at *
  all_goals first | trivial | omega | skip
  · exact (dedupA_one _ (by omega)).symm
  · exact ⟨by omega, by omega, dedupA_one _ (by simp; omega)⟩
  · exact comp_entry d1 (by omega) d4 h8
  · exact ⟨comp_put i10 (by omega) h16, by omega⟩
  · exact ⟨comp_skip i10 (by omega) h16, by omega⟩
  · exact comp_end i10 (by omega) _
  · exact ⟨⟨by omega, by omega, comp_next d1 (by omega) d4 h8⟩, by omega⟩
  · rw [List.take_of_length_le (by omega)] at d4
    exact d4.symm)
def E49 : D.Env := E48.addG 172 fCompactA
theorem E49ok : EOk Try.prog E49 := E48ok.addG k172_48
def fSortAddrs : Fct := ⟨[.v (.sl .addr)], [.sl .addr], fun (x_ : (List SAddr) × Unit) => x_.1.length ≤ 1000000000000, fun (x_ : (List SAddr) × Unit) => (sortAddrs x_.1, ())⟩
-- impl.SortAddrs
theorem k139_49 : fSortAddrs.ok Try.prog 139 := Fct.of (S := fSortAddrs) (L := fun _ _ => none) (kp := [0,2,3]) E49ok Try.func139 (by kernel_rfl) (by kernel_rfl) (by
  rintro ⟨(l : List SAddr), _⟩ hp
  refine holds_of (X := .ob (True) <|
 .ob (Room ((0 : Nat) + List.length l) (32 : Nat)) <|
 .ob (fSortA.pre ([] ++ l, (), ())) <|
 .lt (PUnit × List SAddr × PUnit) (fSortA.fn ([] ++ l, (), ())) fun z2 =>
 .ob (fCompactA.pre (z2.snd.fst, ())) <|
  .lt ((List SAddr × PUnit) × PUnit) (fCompactA.fn (z2.snd.fst, ())) fun z3 =>
  .leaf (mkR fSortAddrs.rs (z3.fst.fst, ())) [] []) (by kernel_rfl) ?_
  refine ob_i trivial fun _ => ob_i ?_ fun o1 => ob_i ?_ fun o2 => lt_i (ob_i ?_ fun o3 => lt_i (Fct.leafY ?_))
  all_goals have hl1 : (sortA l).length = l.length := (List.mergeSort_perm _ _).length_eq
  all_goals try simp only [decide_eq_true_eq, decide_eq_false_iff_not, Bool.not_eq_true', Bool.not_eq_false', bne_iff_ne, bne_eq_false_iff_eq, beq_iff_eq, beq_eq_false_iff_ne, baEq, Int.not_lt, Int.not_le, ne_eq, Decidable.not_not] at *
  all_goals try simp only [fCompactA, fSortA, fSortAddrs, etaToken, etaNode, etaBuilder, etaPolicy, etaPage, etaVisit, etaTab, etaServer, etaCache, etaNet, etaLoader, etaSheet, etaResult, etaSlot, etaModule, etaAddr, etaRequest, etaResponse, etaConn, etaGuess, etaEntry, etaSent, etaFile, baSz, List.size_toArray, List.length_cons, List.length_nil, Nat.reduceAdd, Int.toNat_zero, List.drop_zero, decide_eq_true_eq, decide_eq_false_iff_not, Bool.not_eq_true', Bool.not_eq_false', bne_iff_ne, bne_eq_false_iff_eq, beq_iff_eq, beq_eq_false_iff_ne, Bool.not_eq_true, Bool.not_eq_false, ne_eq, Decidable.not_not, baEq, decide_not, Prod.mk.injEq, and_true, true_and, Room, List.nil_append, Nat.zero_add, Int.not_lt, Int.not_le, sortAddrs] at *
  all_goals try simp (disch := omega) only [wrapId', toNat1] at *
  all_goals try simp (disch := omega) only [if_pos, if_neg]
  all_goals first | trivial | omega | grind [wrapId', toNat1, drop_cons, drop_end, good_len, maxLen, sortAddrs])
def E50 : D.Env := E49.add 139 fSortAddrs
theorem E50ok : EOk Try.prog E50 := E49ok.add k139_49
abbrev W_spec_SortAddrs_fSortAddrs_3 (l : (List SAddr)) : LInv := ⟨[⟨.s, 3, true, .sl .addr⟩, ⟨.s, 4, true, .el .int⟩], fun _ (x_ : (List SAddr) × Int × Unit) => 0 ≤ x_.2.1 ∧ x_.2.1 ≤ l.length ∧ x_.1.length ≤ x_.2.1 ∧ Strict x_.1 ∧ (∀ m, m ∈ x_.1 ↔ m ∈ l.take x_.2.1.toNat), fun (x_ : (List SAddr) × Int × Unit) => l.length - x_.2.1.toNat⟩
abbrev W_spec_SortAddrs_fSortAddrs_7 (l : (List SAddr)) : LInv := ⟨[⟨.s, 5, true, .el .int⟩, ⟨.s, 4, true, .el .int⟩, ⟨.s, 3, true, .sl .addr⟩], fun (z_ : Int × Int × (List SAddr) × Unit) (x_ : Int × Int × (List SAddr) × Unit) => 0 ≤ x_.1 ∧ x_.1 ≤ x_.2.2.1.length ∧ x_.2.1 = z_.2.1 ∧ x_.2.2.1 = z_.2.2.1 ∧ ∀ y ∈ x_.2.2.1.drop x_.1.toNat, cmpA (l.getD x_.2.1.toNat default) y < 0, fun (x_ : Int × Int × (List SAddr) × Unit) => x_.1.toNat⟩
-- spec.SortAddrs
set_option maxHeartbeats 2000000 in
theorem k134_50 : fSortAddrs.ok Try.prog 134 := Fct.of (S := fSortAddrs) (L := fun ⟨l, _⟩ => fun | 3 => some (W_spec_SortAddrs_fSortAddrs_3 l) | 7 => some (W_spec_SortAddrs_fSortAddrs_7 l) | _ => none) (kp := [0,2,3,4,5,6,11,19,36,1000011,1000019,1000036]) E50ok Try.func134 (by kernel_rfl) (by kernel_rfl) (by
  rintro ⟨(l : List SAddr), _⟩ hp
  refine holds_of (X := lpx (W_spec_SortAddrs_fSortAddrs_3 l) ([], ((0 : Int), ())) fun (y1 : List SAddr × Int × PUnit) bk1 =>
 .br (decide (y1.snd.fst < (↑l.length : Int)))
  (.ob ((0 : Int) ≤ y1.snd.fst ∧ y1.snd.fst < (↑l.length : Int)) <|
   .ob (fHasAddr.pre (y1.fst, l.getD y1.snd.fst.toNat default, ())) <|
   .lt (Bool × PUnit) (fHasAddr.fn (y1.fst, l.getD y1.snd.fst.toNat default, ())) fun z2 =>
   .br (z2.fst)
    (.ob (l = l) <|
     .ob (bk1 (y1.fst, (IntKind.i64.wrap (y1.snd.fst + (1 : Int)), ()))) <|
     .ok)
    (lpx (W_spec_SortAddrs_fSortAddrs_7 l) ((↑y1.fst.length : Int), (y1.snd.fst, (y1.fst, ()))) fun (y7 : Int × Int × List SAddr × PUnit) bk7 =>
     .br (decide (y7.fst > (0 : Int)))
      (.ob ((0 : Int) ≤ y7.snd.fst ∧ y7.snd.fst < (↑l.length : Int)) <|
       .ob ((0 : Int) ≤ IntKind.i64.wrap (y7.fst - (1 : Int)) ∧
  IntKind.i64.wrap (y7.fst - (1 : Int)) < (↑y7.snd.snd.fst.length : Int)) <|
       .ob ((IntKind.i64.wrap (y7.fst - (1 : Int))).toNat < y7.snd.snd.fst.length) <|
       .ob (fCompareAddrs.pre
  (l.getD y7.snd.fst.toNat default, y7.snd.snd.fst.getD (IntKind.i64.wrap (y7.fst - (1 : Int))).toNat default, ())) <|
       .lt (Int × PUnit) (fCompareAddrs.fn
  (l.getD y7.snd.fst.toNat default, y7.snd.snd.fst.getD (IntKind.i64.wrap (y7.fst - (1 : Int))).toNat default, ())) fun z3 =>
       .br (decide (z3.fst < (0 : Int)))
        (.ob (l = l) <|
         .ob (bk7 (IntKind.i64.wrap (y7.fst - (1 : Int)), (y7.snd.fst, (y7.snd.snd.fst, ())))) <|
         .ok)
        (.ob ((0 : Int) ≤ y7.fst ∧ y7.fst ≤ (↑y7.snd.snd.fst.length : Int)) <|
         .ob ((0 : Nat) + (y7.fst.toNat - (0 : Nat)) ≤ y7.snd.snd.fst.length) <|
         .ob (Room ((0 : Nat) + (cut y7.snd.snd.fst (0 : Nat) (y7.fst.toNat - (0 : Nat))).length) (32 : Nat)) <|
         .ob ((0 : Int) ≤ y7.snd.fst ∧ y7.snd.fst < (↑l.length : Int)) <|
         .ob (True) <|
         .ob (Room (([] ++ cut y7.snd.snd.fst (0 : Nat) (y7.fst.toNat - (0 : Nat))).length + [l.getD y7.snd.fst.toNat default].length)
  (32 : Nat)) <|
         .ob ((0 : Int) ≤ y7.fst ∧ y7.fst ≤ (↑y7.snd.snd.fst.length : Int)) <|
         .ob (y7.fst.toNat + (y7.snd.snd.fst.length - y7.fst.toNat) ≤ y7.snd.snd.fst.length) <|
         .ob (Room
  (([] ++ cut y7.snd.snd.fst (0 : Nat) (y7.fst.toNat - (0 : Nat)) ++ [l.getD y7.snd.fst.toNat default]).length +
    (cut y7.snd.snd.fst y7.fst.toNat (y7.snd.snd.fst.length - y7.fst.toNat)).length)
  (32 : Nat)) <|
         .ob (l = l) <|
         .ob (bk1 ([] ++ cut y7.snd.snd.fst (0 : Nat) (y7.fst.toNat - (0 : Nat)) ++ [l.getD y7.snd.fst.toNat default] ++
  cut y7.snd.snd.fst y7.fst.toNat (y7.snd.snd.fst.length - y7.fst.toNat), (IntKind.i64.wrap (y7.snd.fst + (1 : Int)), ()))) <|
         .ok))
      (.ob ((0 : Int) ≤ y7.fst ∧ y7.fst ≤ (↑y7.snd.snd.fst.length : Int)) <|
       .ob ((0 : Nat) + (y7.fst.toNat - (0 : Nat)) ≤ y7.snd.snd.fst.length) <|
       .ob (Room ((0 : Nat) + (cut y7.snd.snd.fst (0 : Nat) (y7.fst.toNat - (0 : Nat))).length) (32 : Nat)) <|
       .ob ((0 : Int) ≤ y7.snd.fst ∧ y7.snd.fst < (↑l.length : Int)) <|
       .ob (True) <|
       .ob (Room (([] ++ cut y7.snd.snd.fst (0 : Nat) (y7.fst.toNat - (0 : Nat))).length + [l.getD y7.snd.fst.toNat default].length)
  (32 : Nat)) <|
       .ob ((0 : Int) ≤ y7.fst ∧ y7.fst ≤ (↑y7.snd.snd.fst.length : Int)) <|
       .ob (y7.fst.toNat + (y7.snd.snd.fst.length - y7.fst.toNat) ≤ y7.snd.snd.fst.length) <|
       .ob (Room
  (([] ++ cut y7.snd.snd.fst (0 : Nat) (y7.fst.toNat - (0 : Nat)) ++ [l.getD y7.snd.fst.toNat default]).length +
    (cut y7.snd.snd.fst y7.fst.toNat (y7.snd.snd.fst.length - y7.fst.toNat)).length)
  (32 : Nat)) <|
       .ob (l = l) <|
       .ob (bk1 ([] ++ cut y7.snd.snd.fst (0 : Nat) (y7.fst.toNat - (0 : Nat)) ++ [l.getD y7.snd.fst.toNat default] ++
  cut y7.snd.snd.fst y7.fst.toNat (y7.snd.snd.fst.length - y7.fst.toNat), (IntKind.i64.wrap (y7.snd.fst + (1 : Int)), ()))) <|
       .ok)))
  (.leaf (mkR fSortAddrs.rs (y1.fst, ())) [] [])) (by kernel_rfl) ?_
  refine lpx_i ?_ fun (y1 : List SAddr × Int × PUnit) i1 => br_i (fun h2 => ob_i ?_ fun o3 => ob_i ?_ fun o4 => lt_i (br_i (fun h5 => ob_i rfl fun _ => ob_i ?_ fun o6 => trivial) (fun h5 => lpx_i ?_ fun (y7 : Int × Int × List SAddr × PUnit) i7 => br_i (fun h8 => ob_i ?_ fun o9 => ob_i ?_ fun o10 => ob_i ?_ fun o11 => ob_i trivial fun _ => lt_i (br_i (fun h12 => ob_i rfl fun _ => ob_i ?_ fun o13 => trivial) (fun h12 => ob_i ?_ fun o14 => ob_i ?_ fun o15 => ob_i ?_ fun o16 => ob_i ?_ fun o17 => ob_i trivial fun _ => ob_i ?_ fun o18 => ob_i ?_ fun o19 => ob_i ?_ fun o20 => ob_i ?_ fun o21 => ob_i rfl fun _ => ob_i ?_ fun o22 => trivial))) (fun h8 => ob_i ?_ fun o23 => ob_i ?_ fun o24 => ob_i ?_ fun o25 => ob_i ?_ fun o26 => ob_i trivial fun _ => ob_i ?_ fun o27 => ob_i ?_ fun o28 => ob_i ?_ fun o29 => ob_i ?_ fun o30 => ob_i rfl fun _ => ob_i ?_ fun o31 => trivial)))) (fun h2 => Fct.leafY ?_)
  all_goals try simp only [decide_eq_true_eq, decide_eq_false_iff_not, Bool.not_eq_true', Bool.not_eq_false', bne_iff_ne, bne_eq_false_iff_eq, beq_iff_eq, beq_eq_false_iff_ne, baEq, Int.not_lt, Int.not_le, ne_eq, Decidable.not_not] at *
  all_goals try simp only [W_spec_SortAddrs_fSortAddrs_3, W_spec_SortAddrs_fSortAddrs_7, fCompareAddrs, fHasAddr, fSortAddrs, etaToken, etaNode, etaBuilder, etaPolicy, etaPage, etaVisit, etaTab, etaServer, etaCache, etaNet, etaLoader, etaSheet, etaResult, etaSlot, etaModule, etaAddr, etaRequest, etaResponse, etaConn, etaGuess, etaEntry, etaSent, etaFile, baSz, List.size_toArray, List.length_cons, List.length_nil, Nat.reduceAdd, Int.toNat_zero, List.drop_zero, decide_eq_true_eq, decide_eq_false_iff_not, Bool.not_eq_true', Bool.not_eq_false', bne_iff_ne, bne_eq_false_iff_eq, beq_iff_eq, beq_eq_false_iff_ne, Bool.not_eq_true, Bool.not_eq_false, ne_eq, Decidable.not_not, baEq, decide_not, Prod.mk.injEq, and_true, true_and, Room, List.nil_append, Nat.zero_add, Int.not_lt, Int.not_le] at *
  all_goals try (obtain ⟨c1, c2, c3, c4, c5⟩ := i1)
  all_goals try (obtain ⟨d1, d2, d3, d4, d5⟩ := i7; simp only [d3, d4] at *)
  all_goals try simp (disch := omega) only [wrapId', toNat1] at *
  all_goals try rw [show (y7.1 - 1).toNat = y7.1.toNat - 1 by omega] at *
  all_goals try have k1 : (cut y1.1 0 (y7.1.toNat - 0)).length = y7.1.toNat := len_cut (by omega)
  all_goals try have k2 : (cut y1.1 y7.1.toNat (y1.1.length - y7.1.toNat)).length = y1.1.length - y7.1.toNat := len_cut (by omega)
  all_goals try simp only [List.length_append, List.length_cons, List.length_nil] at *
  all_goals first | trivial | omega | skip
  · exact ⟨by omega, by omega, by simp, List.Pairwise.nil, by simp⟩
  · exact ⟨⟨by omega, by omega, by omega, c4, any_mem (by omega) c5 h5⟩, by omega⟩
  · exact ⟨by omega, by omega, by simp⟩
  · exact ⟨⟨by omega, by omega, trivial, trivial, drop_step (by omega) (by omega) h12 d5⟩, by omega⟩
  · obtain ⟨p1, p2, p3⟩ := insA_inv (l := l) (out := y1.1) (i := y1.2.1.toNat) (a := y7.1.toNat) (by omega) (by omega) c4 c5 h5 (.inr (by omega)) d5
    exact ⟨⟨by omega, by omega, by omega, p2, p3⟩, by omega⟩
  · obtain ⟨p1, p2, p3⟩ := insA_inv (l := l) (out := y1.1) (i := y1.2.1.toNat) (a := y7.1.toNat) (by omega) (by omega) c4 c5 h5 (.inl (by omega)) d5
    exact ⟨⟨by omega, by omega, by omega, p2, p3⟩, by omega⟩
  · exact sortAddrs_unique c4 (fun x => by rw [c5, List.take_of_length_le (by omega)]))
def E51 : D.Env := E50.add 134 fSortAddrs
theorem E51ok : EOk Try.prog E51 := E50ok.add k134_50
def tosAt (h : ByteArray) : List SSent → List SAddr
  | [] => []
  | s :: l => if s.to.host = h then s.to :: tosAt h l else tosAt h l
theorem tosAt_at {l : List SSent} {i : Nat} (h : ByteArray) (hi : i < l.length) : tosAt h (l.drop i) = if (l.getD i default).to.host = h then (l.getD i default).to :: tosAt h (l.drop (i + 1)) else tosAt h (l.drop (i + 1)) := by rw [drop_cons hi]; rfl
theorem tosAt_end {l : List SSent} {i : Nat} (h : ByteArray) (hi : l.length ≤ i) : tosAt h (l.drop i) = [] := by rw [List.drop_of_length_le hi]; rfl
theorem tosAt_len (h : ByteArray) (l : List SSent) : (tosAt h l).length ≤ l.length := by
  induction l with
  | nil => simp [tosAt]
  | cons s l ih => simp only [tosAt]; split <;> simp only [List.length_cons] <;> omega
def learnedBy (b a : SNet) (h : ByteArray) : List SAddr := sortAddrs (tosAt h (a.log.drop b.log.length))
theorem learnedBy_len (b a : SNet) (h : ByteArray) : (learnedBy b a h).length ≤ a.log.length := by
  have h1 := sortAddrs_len (tosAt h (a.log.drop b.log.length))
  have h2 := tosAt_len h (a.log.drop b.log.length)
  simp only [List.length_drop] at h2
  unfold learnedBy; omega
def fLearnedBy : Fct := ⟨[.v (.el .net), .v (.el .net), .v (.el .str)], [.sl .addr], fun (x_ : SNet × SNet × ByteArray × Unit) => x_.2.1.log.length ≤ 1048576 ∧ x_.1.log.length ≤ 1048576, fun (x_ : SNet × SNet × ByteArray × Unit) => (learnedBy x_.1 x_.2.1 x_.2.2.1, ())⟩
abbrev W_spec_LearnedBy_fLearnedBy_3 (b : SNet) (a : SNet) (h : ByteArray) : LInv := ⟨[⟨.s, 7, true, .sl .addr⟩, ⟨.s, 8, true, .el .int⟩, ⟨.b, 4, false, .el .net⟩], fun (z_ : (List SAddr) × Int × SNet × Unit) (x_ : (List SAddr) × Int × SNet × Unit) => (b.log.length ≤ x_.2.1 ∧ (x_.2.1 ≤ a.log.length ∨ x_.2.1 = b.log.length) ∧ x_.1.length ≤ x_.2.1 ∧ sortAddrs (x_.1 ++ tosAt h (a.log.drop x_.2.1.toNat)) = learnedBy b a h) ∧ x_.2.2.1 = z_.2.2.1, fun (x_ : (List SAddr) × Int × SNet × Unit) => a.log.length - x_.2.1.toNat⟩
-- spec.LearnedBy
theorem k93_51 : fLearnedBy.ok Try.prog 93 := Fct.of (S := fLearnedBy) (L := fun ⟨b, a, h, _⟩ => fun | 3 => some (W_spec_LearnedBy_fLearnedBy_3 b a h) | _ => none) (kp := [2,3,4,6,7,8,17,28,1000017,1000028]) E51ok Try.func93 (by kernel_rfl) (by kernel_rfl) (by
  rintro ⟨(b : SNet), (a : SNet), (h : ByteArray), _⟩ hp
  refine holds_of (X := lpx (W_spec_LearnedBy_fLearnedBy_3 b a h) ([], ((↑b.log.length : Int), (a, ()))) fun (y1 : List SAddr × Int × SNet × PUnit) bk1 =>
 .br (decide (y1.snd.fst < (↑y1.snd.snd.fst.log.length : Int)))
  (.ob ((0 : Int) ≤ y1.snd.fst ∧ y1.snd.fst < (↑y1.snd.snd.fst.log.length : Int)) <|
   .br ((y1.snd.snd.fst.log.getD y1.snd.fst.toNat default).to.host.toList == h.toList)
   (.ob ((0 : Int) ≤ y1.snd.fst ∧ y1.snd.fst < (↑y1.snd.snd.fst.log.length : Int)) <|
    .ob (True) <|
    .ob (Room (y1.fst.length + [(y1.snd.snd.fst.log.getD y1.snd.fst.toNat default).to].length) (32 : Nat)) <|
    .ob (Value.string h = Value.string h) <|
    .ob (bk1 (y1.fst ++ [(y1.snd.snd.fst.log.getD y1.snd.fst.toNat default).to], (IntKind.i64.wrap (y1.snd.fst + (1 : Int)), (y1.snd.snd.fst, ())))) <|
    .ok)
   (.ob (Value.string h = Value.string h) <|
    .ob (bk1 (y1.fst, (IntKind.i64.wrap (y1.snd.fst + (1 : Int)), (y1.snd.snd.fst, ())))) <|
    .ok))
  (.ob (fSortAddrs.pre (y1.fst, ())) <|
   .lt (List SAddr × PUnit) (fSortAddrs.fn (y1.fst, ())) fun z2 =>
   .leaf (mkR fLearnedBy.rs (z2.fst, ())) [] [])) (by kernel_rfl) ?_
  refine lpx_i ?_ fun (y1 : List SAddr × Int × SNet × PUnit) i1 => br_i (fun h2 => ob_i ?_ fun o3 => br_i (fun h4 => ob_i ?_ fun o5 => ob_i trivial fun _ => ob_i ?_ fun o6 => ob_i rfl fun _ => ob_i ?_ fun o7 => trivial) (fun h4 => ob_i rfl fun _ => ob_i ?_ fun o8 => trivial)) (fun h2 => ob_i ?_ fun o9 => lt_i (Fct.leafY ?_))
  all_goals try simp only [decide_eq_true_eq, decide_eq_false_iff_not, Bool.not_eq_true', Bool.not_eq_false', bne_iff_ne, bne_eq_false_iff_eq, beq_iff_eq, beq_eq_false_iff_ne, baEq, Int.not_lt, Int.not_le, ne_eq, Decidable.not_not] at *
  all_goals try simp only [W_spec_LearnedBy_fLearnedBy_3, fLearnedBy, fSortAddrs, etaToken, etaNode, etaBuilder, etaPolicy, etaPage, etaVisit, etaTab, etaServer, etaCache, etaNet, etaLoader, etaSheet, etaResult, etaSlot, etaModule, etaAddr, etaRequest, etaResponse, etaConn, etaGuess, etaEntry, etaSent, etaFile, baSz, List.size_toArray, List.length_cons, List.length_nil, Nat.reduceAdd, Int.toNat_zero, List.drop_zero, decide_eq_true_eq, decide_eq_false_iff_not, Bool.not_eq_true', Bool.not_eq_false', bne_iff_ne, bne_eq_false_iff_eq, beq_iff_eq, beq_eq_false_iff_ne, Bool.not_eq_true, Bool.not_eq_false, ne_eq, Decidable.not_not, baEq, decide_not, Prod.mk.injEq, and_true, true_and, Room, List.nil_append, Nat.zero_add, Int.not_lt, Int.not_le, learnedBy, fSortAddrs, Int.toNat_natCast, tosAt_at, tosAt_end] at *
  all_goals try simp (disch := omega) only [wrapId', toNat1] at *
  all_goals try simp (disch := omega) only [if_pos, if_neg]
  all_goals first | trivial | omega | grind [wrapId', toNat1, good_len, maxLen, learnedBy, fSortAddrs, Int.toNat_natCast, tosAt_at, tosAt_end])
def E52 : D.Env := E51.add 93 fLearnedBy
theorem E52ok : EOk Try.prog E52 := E51ok.add k93_51
abbrev W_impl_LearnedBy_fLearnedBy_3 (b : SNet) (a : SNet) (h : ByteArray) : LInv := ⟨[⟨.s, 7, true, .sl .addr⟩, ⟨.s, 14, true, .el .int⟩, ⟨.b, 3, false, .el .net⟩], fun (z_ : (List SAddr) × Int × SNet × Unit) (x_ : (List SAddr) × Int × SNet × Unit) => (0 ≤ x_.2.1 ∧ x_.2.1 ≤ a.log.length ∧ x_.1.length ≤ x_.2.1 ∧ (x_.2.1 ≤ b.log.length ∧ x_.1 = [] ∨ b.log.length ≤ x_.2.1 ∧ sortAddrs (x_.1 ++ tosAt h (a.log.drop x_.2.1.toNat)) = learnedBy b a h)) ∧ x_.2.2.1 = z_.2.2.1, fun (x_ : (List SAddr) × Int × SNet × Unit) => a.log.length - x_.2.1.toNat⟩
-- impl.LearnedBy
theorem k99_52 : fLearnedBy.ok Try.prog 99 := Fct.of (S := fLearnedBy) (L := fun ⟨b, a, h, _⟩ => fun | 3 => some (W_impl_LearnedBy_fLearnedBy_3 b a h) | _ => none) (kp := [2,3,4,6,7,8,9,12,13,14,15,30,1000015,1000030]) E52ok Try.func99 (by kernel_rfl) (by kernel_rfl) (by
  rintro ⟨(b : SNet), (a : SNet), (h : ByteArray), _⟩ hp
  refine holds_of (X := lpx (W_impl_LearnedBy_fLearnedBy_3 b a h) ([], ((0 : Int), (b, ()))) fun (y1 : List SAddr × Int × SNet × PUnit) bk1 =>
 .br (decide (y1.snd.fst < (↑a.log.length : Int)))
  (.ob ((0 : Int) ≤ y1.snd.fst ∧ y1.snd.fst < (↑a.log.length : Int)) <|
   .br (decide (y1.snd.fst ≥ (↑y1.snd.snd.fst.log.length : Int)))
   (.br ((a.log.getD y1.snd.fst.toNat default).to.host.toList == h.toList)
    (.ob (True) <|
     .ob (Room (y1.fst.length + [(a.log.getD y1.snd.fst.toNat default).to].length) (32 : Nat)) <|
     .ob (Value.string h = Value.string h) <|
     .ob (a.log = a.log) <|
     .ob (Value.int IntKind.i64 (↑a.log.length : Int) = Value.int IntKind.i64 (↑a.log.length : Int)) <|
     .ob (bk1 (y1.fst ++ [(a.log.getD y1.snd.fst.toNat default).to], (IntKind.i64.wrap (y1.snd.fst + (1 : Int)), (y1.snd.snd.fst, ())))) <|
     .ok)
    (.ob (Value.string h = Value.string h) <|
     .ob (a.log = a.log) <|
     .ob (Value.int IntKind.i64 (↑a.log.length : Int) = Value.int IntKind.i64 (↑a.log.length : Int)) <|
     .ob (bk1 (y1.fst, (IntKind.i64.wrap (y1.snd.fst + (1 : Int)), (y1.snd.snd.fst, ())))) <|
     .ok))
   (.ob (Value.string h = Value.string h) <|
    .ob (a.log = a.log) <|
    .ob (Value.int IntKind.i64 (↑a.log.length : Int) = Value.int IntKind.i64 (↑a.log.length : Int)) <|
    .ob (bk1 (y1.fst, (IntKind.i64.wrap (y1.snd.fst + (1 : Int)), (y1.snd.snd.fst, ())))) <|
    .ok))
  (.ob (fSortAddrs.pre (y1.fst, ())) <|
   .lt (List SAddr × PUnit) (fSortAddrs.fn (y1.fst, ())) fun z2 =>
   .leaf (mkR fLearnedBy.rs (z2.fst, ())) [] [])) (by kernel_rfl) ?_
  refine lpx_i ?_ fun (y1 : List SAddr × Int × SNet × PUnit) i1 => br_i (fun h2 => ob_i ?_ fun o3 => br_i (fun h4 => br_i (fun h5 => ob_i trivial fun _ => ob_i ?_ fun o6 => ob_i rfl fun _ => ob_i rfl fun _ => ob_i rfl fun _ => ob_i ?_ fun o7 => trivial) (fun h5 => ob_i rfl fun _ => ob_i rfl fun _ => ob_i rfl fun _ => ob_i ?_ fun o8 => trivial)) (fun h4 => ob_i rfl fun _ => ob_i rfl fun _ => ob_i rfl fun _ => ob_i ?_ fun o9 => trivial)) (fun h2 => ob_i ?_ fun o10 => lt_i (Fct.leafY ?_))
  all_goals try simp only [decide_eq_true_eq, decide_eq_false_iff_not, Bool.not_eq_true', Bool.not_eq_false', bne_iff_ne, bne_eq_false_iff_eq, beq_iff_eq, beq_eq_false_iff_ne, baEq, Int.not_lt, Int.not_le, ne_eq, Decidable.not_not] at *
  all_goals try simp only [W_impl_LearnedBy_fLearnedBy_3, fLearnedBy, fSortAddrs, etaToken, etaNode, etaBuilder, etaPolicy, etaPage, etaVisit, etaTab, etaServer, etaCache, etaNet, etaLoader, etaSheet, etaResult, etaSlot, etaModule, etaAddr, etaRequest, etaResponse, etaConn, etaGuess, etaEntry, etaSent, etaFile, baSz, List.size_toArray, List.length_cons, List.length_nil, Nat.reduceAdd, Int.toNat_zero, List.drop_zero, decide_eq_true_eq, decide_eq_false_iff_not, Bool.not_eq_true', Bool.not_eq_false', bne_iff_ne, bne_eq_false_iff_eq, beq_iff_eq, beq_eq_false_iff_ne, Bool.not_eq_true, Bool.not_eq_false, ne_eq, Decidable.not_not, baEq, decide_not, Prod.mk.injEq, and_true, true_and, Room, List.nil_append, Nat.zero_add, Int.not_lt, Int.not_le, learnedBy, fSortAddrs, tosAt_at, tosAt_end] at *
  all_goals try simp (disch := omega) only [wrapId', toNat1] at *
  all_goals try simp (disch := omega) only [if_pos, if_neg]
  all_goals first | trivial | omega | grind [wrapId', toNat1, good_len, maxLen, learnedBy, fSortAddrs, tosAt_at, tosAt_end])
def E53 : D.Env := E52.add 99 fLearnedBy
theorem E53ok : EOk Try.prog E53 := E52ok.add k99_52
theorem netSz (n : SNet) : n.log.length ≤ szNet n := by
  have h1 := szL_len szSent n.log
  simp only [szNet]; omega
theorem uniqBy_mem {α β : Type} [DecidableEq β] (f : α → β) : ∀ (l : List α) (out : List β) (z : β), z ∈ uniqBy f out l ↔ z ∈ out ∨ ∃ x ∈ l, f x = z := by
  intro l
  induction l with
  | nil => intro out z; simp [uniqBy]
  | cons x l ih =>
    intro out z
    simp only [uniqBy, ih, List.mem_cons, exists_eq_or_imp]
    split
    · rename_i h
      obtain ⟨c, hc, he⟩ := List.any_eq_true.1 h
      simp only [decide_eq_true_eq] at he
      constructor
      · rintro (h | h)
        · exact .inl h
        · exact .inr (.inr h)
      · rintro (h | h | h)
        · exact .inl h
        · exact .inl (by rw [← h, ← he]; exact hc)
        · exact .inr h
    · simp only [List.mem_append, List.mem_singleton]
      constructor
      · rintro ((h | h) | h)
        · exact .inl h
        · exact .inr (.inl h.symm)
        · exact .inr (.inr h)
      · rintro (h | h | h)
        · exact .inl (.inl h)
        · exact .inl (.inr h.symm)
        · exact .inr h
def hosts (n : SNet) : List ByteArray := uniqBy (fun s => s.to.host) [] n.log
theorem hosts_len (n : SNet) : (hosts n).length ≤ n.log.length := by
  have h := uniqBy_len (fun (s : SSent) => s.to.host) n.log []
  simp only [List.length_nil] at h
  unfold hosts; omega
def sameOk (b x y : SNet) (h g : ByteArray) : Bool := decide (g = h) || decide (learnedBy b x g = learnedBy b y g)
def sameOthers (b x y : SNet) (h : ByteArray) : Bool := (hosts x ++ hosts y).all (sameOk b x y h)
theorem tosAt_none {h : ByteArray} : ∀ {l : List SSent}, (∀ s ∈ l, s.to.host ≠ h) → tosAt h l = [] := by
  intro l
  induction l with
  | nil => intro _; rfl
  | cons s l ih =>
    intro hh
    rw [tosAt, if_neg (hh s List.mem_cons_self)]
    exact ih fun t ht => hh t (List.mem_cons_of_mem _ ht)
theorem learned_none {b n : SNet} {g : ByteArray} (h : g ∉ hosts n) : learnedBy b n g = [] := by
  have h1 : tosAt g (n.log.drop b.log.length) = [] := tosAt_none fun s hs he => h (by
    rw [hosts, uniqBy_mem]
    exact .inr ⟨s, List.mem_of_mem_drop hs, he⟩)
  rw [learnedBy, h1]; simp [sortAddrs, sortA, dedupA]
theorem sameOk_out {b x y : SNet} {h g : ByteArray} (hg : sameOk b x y h g = false) : sameOthers b x y h = false := by
  rw [sameOthers, List.all_eq_false]
  refine ⟨g, ?_, by simp [hg]⟩
  rw [List.mem_append]
  by_cases h1 : g ∈ hosts x
  · exact .inl h1
  · by_cases h2 : g ∈ hosts y
    · exact .inr h2
    · exfalso
      simp [sameOk, learned_none h1, learned_none h2] at hg
theorem sameOk_all {b x y : SNet} {h : ByteArray} (hh : ∀ n ∈ [b, x, y], (hosts n).all (sameOk b x y h) = true) : sameOthers b x y h = true := by
  rw [sameOthers, List.all_append, hh x (by simp), hh y (by simp)]; rfl
theorem hosts_def (n : SNet) : uniqBy (fun s : SSent => s.to.host) [] n.log = hosts n := rfl
theorem get3 {b x y : SNet} {i : Nat} (hi : i < 3) (p1 : b.log.length ≤ 1048576) (p2 : x.log.length ≤ 1048576) (p3 : y.log.length ≤ 1048576) : ([b, x, y].getD i default).log.length ≤ 1048576 := by
  match i, hi with
  | 0, _ => exact p1
  | 1, _ => exact p2
  | 2, _ => exact p3
theorem all_take {l : List ByteArray} {k : Nat} {f : ByteArray → Bool} (h : k < l.length) (h1 : (l.take k).all f = true) (h2 : f (l.getD k default) = true) : (l.take (k + 1)).all f = true := by
  rw [take_succ h, List.all_append, h1]; simpa using h2
theorem all_nets {b x y : SNet} {k : Nat} {f : ByteArray → Bool} (h : k < 3) (h1 : ∀ n ∈ [b, x, y].take k, (hosts n).all f = true) (h2 : (hosts ([b, x, y].getD k default)).all f = true) : ∀ n ∈ [b, x, y].take (k + 1), (hosts n).all f = true := by
  intro n hn
  rw [take_succ (by simpa using h), List.mem_append] at hn
  rcases hn with hn | hn
  · exact h1 n hn
  · rw [List.mem_singleton.1 hn]; exact h2
def fSameForOthers : Fct := ⟨[.v (.el .net), .v (.el .net), .v (.el .net), .v (.el .str)], [.el .bool], fun (x_ : SNet × SNet × SNet × ByteArray × Unit) => x_.2.1.log.length ≤ 1048576 ∧ x_.2.2.1.log.length ≤ 1048576 ∧ x_.1.log.length ≤ 1048576, fun (x_ : SNet × SNet × SNet × ByteArray × Unit) => (sameOthers x_.1 x_.2.1 x_.2.2.1 x_.2.2.2.1, ())⟩
abbrev W_spec_SameForOthers_fSameForOthers_3 (b : SNet) (x : SNet) (y : SNet) (h : ByteArray) : LInv := ⟨[⟨.s, 10, true, .el .int⟩, ⟨.s, 9, true, .sl .str⟩, ⟨.b, 4, false, .el .net⟩, ⟨.b, 5, false, .el .net⟩, ⟨.b, 6, false, .el .net⟩], fun (z_ : Int × (List ByteArray) × SNet × SNet × SNet × Unit) (x_ : Int × (List ByteArray) × SNet × SNet × SNet × Unit) => (((0 ≤ x_.1 ∧ x_.2.1 = hosts x ++ hosts y ∧ x_.1 ≤ x_.2.1.length ∧ (x_.2.1.drop x_.1.toNat).all (sameOk b x y h) = sameOthers b x y h) ∧ x_.2.2.1 = z_.2.2.1) ∧ x_.2.2.2.1 = z_.2.2.2.1) ∧ x_.2.2.2.2.1 = z_.2.2.2.2.1, fun (x_ : Int × (List ByteArray) × SNet × SNet × SNet × Unit) => (hosts x ++ hosts y).length - x_.1.toNat⟩
-- spec.SameForOthers
theorem k51_53 : fSameForOthers.ok Try.prog 51 := Fct.of (S := fSameForOthers) (L := fun ⟨b, x, y, h, _⟩ => fun | 3 => some (W_spec_SameForOthers_fSameForOthers_3 b x y h) | _ => none) (kp := [3,4,5,6,8,9,10,19,45,1000019,1000045]) E53ok Try.func51 (by kernel_rfl) (by kernel_rfl) (by
  rintro ⟨(b : SNet), (x : SNet), (y : SNet), (h : ByteArray), _⟩ hp
  refine holds_of (X := .ob (fHostsOf.pre (x, ())) <|
 .lt (List ByteArray × PUnit) (fHostsOf.fn (x, ())) fun z2 =>
 .ob (fHostsOf.pre (y, ())) <|
  .lt (List ByteArray × PUnit) (fHostsOf.fn (y, ())) fun z3 =>
  .ob (True) <|
   .ob (Room (z2.fst.length + z3.fst.length) (16 : Nat)) <|
   lpx (W_spec_SameForOthers_fSameForOthers_3 b x y h) ((0 : Int), (z2.fst ++ z3.fst, (b, (x, (y, ()))))) fun (y4 : Int × List ByteArray × SNet × SNet × SNet × PUnit) bk4 =>
   .br (decide (y4.fst < (↑y4.snd.fst.length : Int)))
    (.ob ((0 : Int) ≤ y4.fst ∧ y4.fst < (↑y4.snd.fst.length : Int)) <|
     .ob (y4.fst.toNat < y4.snd.fst.length) <|
     .br (!(y4.snd.fst.getD y4.fst.toNat default).toList == h.toList)
     (.ob ((0 : Int) ≤ y4.fst ∧ y4.fst < (↑y4.snd.fst.length : Int)) <|
      .ob (y4.fst.toNat < y4.snd.fst.length) <|
      .ob (fLearnedBy.pre (y4.snd.snd.fst, y4.snd.snd.snd.fst, y4.snd.fst.getD y4.fst.toNat default, ())) <|
      .lt (List SAddr × PUnit) (fLearnedBy.fn (y4.snd.snd.fst, y4.snd.snd.snd.fst, y4.snd.fst.getD y4.fst.toNat default, ())) fun z4 =>
      .ob ((0 : Int) ≤ y4.fst ∧ y4.fst < (↑y4.snd.fst.length : Int)) <|
       .ob (y4.fst.toNat < y4.snd.fst.length) <|
       .ob (fLearnedBy.pre (y4.snd.snd.fst, y4.snd.snd.snd.snd.fst, y4.snd.fst.getD y4.fst.toNat default, ())) <|
       .lt (List SAddr × PUnit) (fLearnedBy.fn (y4.snd.snd.fst, y4.snd.snd.snd.snd.fst, y4.snd.fst.getD y4.fst.toNat default, ())) fun z5 =>
       .ob (fEqual_addr.pre (z4.fst, z5.fst, ())) <|
        .lt (Bool × PUnit) (fEqual_addr.fn (z4.fst, z5.fst, ())) fun z6 =>
        .br (!z6.fst)
         (.leaf (mkR fSameForOthers.rs (false, ())) [] [])
         (.ob (Value.string h = Value.string h) <|
          .ob (bk4 (IntKind.i64.wrap (y4.fst + (1 : Int)), (y4.snd.fst, (y4.snd.snd.fst, (y4.snd.snd.snd.fst, (y4.snd.snd.snd.snd.fst, ())))))) <|
          .ok))
     (.ob (Value.string h = Value.string h) <|
      .ob (bk4 (IntKind.i64.wrap (y4.fst + (1 : Int)), (y4.snd.fst, (y4.snd.snd.fst, (y4.snd.snd.snd.fst, (y4.snd.snd.snd.snd.fst, ())))))) <|
      .ok))
    (.leaf (mkR fSameForOthers.rs (true, ())) [] [])) (by kernel_rfl) ?_
  refine ob_i ?_ fun o1 => lt_i (ob_i ?_ fun o2 => lt_i (ob_i trivial fun _ => ob_i ?_ fun o3 => lpx_i ?_ fun (y4 : Int × List ByteArray × SNet × SNet × SNet × PUnit) i4 => br_i (fun h5 => ob_i ?_ fun o6 => ob_i ?_ fun o7 => br_i (fun h8 => ob_i ?_ fun o9 => ob_i ?_ fun o10 => ob_i ?_ fun o11 => lt_i (ob_i ?_ fun o12 => ob_i ?_ fun o13 => ob_i ?_ fun o14 => lt_i (ob_i ?_ fun o15 => lt_i (br_i (fun h16 => Fct.leafY ?_) (fun h16 => ob_i rfl fun _ => ob_i ?_ fun o17 => trivial))))) (fun h8 => ob_i rfl fun _ => ob_i ?_ fun o18 => trivial)) (fun h5 => Fct.leafY ?_)))
  all_goals have hn2 := hosts_len x
  all_goals have hn3 := hosts_len y
  all_goals have hq := learnedBy_len b x
  all_goals have hq2 := learnedBy_len b y
  all_goals try simp only [decide_eq_true_eq, decide_eq_false_iff_not, Bool.not_eq_true', Bool.not_eq_false', bne_iff_ne, bne_eq_false_iff_eq, beq_iff_eq, beq_eq_false_iff_ne, baEq, Int.not_lt, Int.not_le, ne_eq, Decidable.not_not] at *
  all_goals try simp only [W_spec_SameForOthers_fSameForOthers_3, fEqual_addr, fHostsOf, fLearnedBy, fSameForOthers, etaToken, etaNode, etaBuilder, etaPolicy, etaPage, etaVisit, etaTab, etaServer, etaCache, etaNet, etaLoader, etaSheet, etaResult, etaSlot, etaModule, etaAddr, etaRequest, etaResponse, etaConn, etaGuess, etaEntry, etaSent, etaFile, baSz, List.size_toArray, List.length_cons, List.length_nil, Nat.reduceAdd, Int.toNat_zero, List.drop_zero, decide_eq_true_eq, decide_eq_false_iff_not, Bool.not_eq_true', Bool.not_eq_false', bne_iff_ne, bne_eq_false_iff_eq, beq_iff_eq, beq_eq_false_iff_ne, Bool.not_eq_true, Bool.not_eq_false, ne_eq, Decidable.not_not, baEq, decide_not, Prod.mk.injEq, and_true, true_and, Room, List.nil_append, Nat.zero_add, Int.not_lt, Int.not_le, sameOthers, sameOk, fHostsOf, fLearnedBy, fEqual_addr, hosts] at *
  all_goals try simp (disch := omega) only [wrapId', toNat1] at *
  all_goals try simp (disch := omega) only [if_pos, if_neg]
  all_goals first | trivial | omega | grind [wrapId', toNat1, drop_cons, drop_end, good_len, maxLen, sameOthers, sameOk, fHostsOf, fLearnedBy, fEqual_addr, hosts])
def E54 : D.Env := E53.add 51 fSameForOthers
theorem E54ok : EOk Try.prog E54 := E53ok.add k51_53
abbrev W_impl_SameForOthers_fSameForOthers_2 (b : SNet) (x : SNet) (y : SNet) (h : ByteArray) : LInv := ⟨[⟨.s, 18, true, .el .int⟩, ⟨.s, 16, false, .sl .net⟩, ⟨.b, 4, false, .el .net⟩, ⟨.b, 5, false, .el .net⟩, ⟨.b, 6, false, .el .net⟩], fun (z_ : Int × (List SNet) × SNet × SNet × SNet × Unit) (x_ : Int × (List SNet) × SNet × SNet × SNet × Unit) => (((0 ≤ x_.1 ∧ x_.1 ≤ 3 ∧ x_.2.1 = [b, x, y] ∧ ∀ n ∈ x_.2.1.take x_.1.toNat, (hosts n).all (sameOk b x y h) = true) ∧ x_.2.2.1 = z_.2.2.1) ∧ x_.2.2.2.1 = z_.2.2.2.1) ∧ x_.2.2.2.2.1 = z_.2.2.2.2.1, fun (x_ : Int × (List SNet) × SNet × SNet × SNet × Unit) => 3 - x_.1.toNat⟩
abbrev W_impl_SameForOthers_fSameForOthers_5 (b : SNet) (x : SNet) (y : SNet) (h : ByteArray) : LInv := ⟨[⟨.s, 25, true, .el .int⟩, ⟨.s, 23, true, .sl .str⟩, ⟨.s, 18, true, .el .int⟩, ⟨.s, 16, false, .sl .net⟩, ⟨.b, 4, false, .el .net⟩, ⟨.b, 5, false, .el .net⟩, ⟨.b, 6, false, .el .net⟩], fun (z_ : Int × (List ByteArray) × Int × (List SNet) × SNet × SNet × SNet × Unit) (x_ : Int × (List ByteArray) × Int × (List SNet) × SNet × SNet × SNet × Unit) => (((x_.2.2.1 = z_.2.2.1 ∧ x_.2.1 = z_.2.1 ∧ x_.2.2.2.1 = z_.2.2.2.1 ∧ 0 ≤ x_.1 ∧ x_.1 ≤ x_.2.1.length ∧ (x_.2.1.take x_.1.toNat).all (sameOk b x y h) = true) ∧ x_.2.2.2.2.1 = z_.2.2.2.2.1) ∧ x_.2.2.2.2.2.1 = z_.2.2.2.2.2.1) ∧ x_.2.2.2.2.2.2.1 = z_.2.2.2.2.2.2.1, fun (x_ : Int × (List ByteArray) × Int × (List SNet) × SNet × SNet × SNet × Unit) => x_.2.1.length - x_.1.toNat⟩
-- impl.SameForOthers
set_option maxHeartbeats 2000000 in
theorem k53_54 : fSameForOthers.ok Try.prog 53 := Fct.of (S := fSameForOthers) (L := fun ⟨b, x, y, h, _⟩ => fun | 2 => some (W_impl_SameForOthers_fSameForOthers_2 b x y h) | 5 => some (W_impl_SameForOthers_fSameForOthers_5 b x y h) | _ => none) (kp := [3,4,5,6,8,10,12,16,17,18,19,23,24,25,26,43,1000019,1000026,1000043]) E54ok Try.func53 (by kernel_rfl) (by kernel_rfl) (by
  rintro ⟨(b : SNet), (x : SNet), (y : SNet), (h : ByteArray), _⟩ hp
  refine holds_of (X := lpx (W_impl_SameForOthers_fSameForOthers_2 b x y h) ((0 : Int), ([b, x, y], (b, (x, (y, ()))))) fun (y1 : Int × List SNet × SNet × SNet × SNet × PUnit) bk1 =>
 .br (decide (y1.fst < (↑[b, x, y].length : Int)))
  (.ob ((0 : Int) ≤ y1.fst ∧ y1.fst < (↑y1.snd.fst.length : Int)) <|
   .ob (fHostsOf.pre (y1.snd.fst.getD y1.fst.toNat default, ())) <|
   .lt (List ByteArray × PUnit) (fHostsOf.fn (y1.snd.fst.getD y1.fst.toNat default, ())) fun z2 =>
   lpx (W_impl_SameForOthers_fSameForOthers_5 b x y h) ((0 : Int), (z2.fst, (y1.fst, (y1.snd.fst, (y1.snd.snd.fst, (y1.snd.snd.snd.fst, (y1.snd.snd.snd.snd.fst, ()))))))) fun (y5 : Int × List ByteArray × Int × List SNet × SNet × SNet × SNet × PUnit) bk5 =>
    .br (decide (y5.fst < (↑z2.fst.length : Int)))
     (.ob ((0 : Int) ≤ y5.fst ∧ y5.fst < (↑y5.snd.fst.length : Int)) <|
      .ob (y5.fst.toNat < y5.snd.fst.length) <|
      .br (!(y5.snd.fst.getD y5.fst.toNat default).toList == h.toList)
      (.ob (fLearnedBy.pre (y5.snd.snd.snd.snd.fst, y5.snd.snd.snd.snd.snd.fst, y5.snd.fst.getD y5.fst.toNat default, ())) <|
       .lt (List SAddr × PUnit) (fLearnedBy.fn (y5.snd.snd.snd.snd.fst, y5.snd.snd.snd.snd.snd.fst, y5.snd.fst.getD y5.fst.toNat default, ())) fun z3 =>
       .ob (fLearnedBy.pre (y5.snd.snd.snd.snd.fst, y5.snd.snd.snd.snd.snd.snd.fst, y5.snd.fst.getD y5.fst.toNat default, ())) <|
        .lt (List SAddr × PUnit) (fLearnedBy.fn (y5.snd.snd.snd.snd.fst, y5.snd.snd.snd.snd.snd.snd.fst, y5.snd.fst.getD y5.fst.toNat default, ())) fun z4 =>
        .ob (fEqual_addr.pre (z3.fst, z4.fst, ())) <|
         .lt (Bool × PUnit) (fEqual_addr.fn (z3.fst, z4.fst, ())) fun z5 =>
         .br (!z5.fst)
          (.leaf (mkR fSameForOthers.rs (false, ())) [] [])
          (.ob (Value.string h = Value.string h) <|
           .ob (Value.int IntKind.i64 (↑[b, x, y].length : Int) = Value.int IntKind.i64 (↑[b, x, y].length : Int)) <|
           .ob (Value.int IntKind.i64 (↑z2.fst.length : Int) = Value.int IntKind.i64 (↑z2.fst.length : Int)) <|
           .ob (bk5 (IntKind.i64.wrap (y5.fst + (1 : Int)), (y5.snd.fst, (y5.snd.snd.fst, (y5.snd.snd.snd.fst, (y5.snd.snd.snd.snd.fst, (y5.snd.snd.snd.snd.snd.fst, (y5.snd.snd.snd.snd.snd.snd.fst, ())))))))) <|
           .ok))
      (.ob (Value.string h = Value.string h) <|
       .ob (Value.int IntKind.i64 (↑[b, x, y].length : Int) = Value.int IntKind.i64 (↑[b, x, y].length : Int)) <|
       .ob (Value.int IntKind.i64 (↑z2.fst.length : Int) = Value.int IntKind.i64 (↑z2.fst.length : Int)) <|
       .ob (bk5 (IntKind.i64.wrap (y5.fst + (1 : Int)), (y5.snd.fst, (y5.snd.snd.fst, (y5.snd.snd.snd.fst, (y5.snd.snd.snd.snd.fst, (y5.snd.snd.snd.snd.snd.fst, (y5.snd.snd.snd.snd.snd.snd.fst, ())))))))) <|
       .ok))
     (.ob (Value.string h = Value.string h) <|
      .ob (Value.int IntKind.i64 (↑[b, x, y].length : Int) = Value.int IntKind.i64 (↑[b, x, y].length : Int)) <|
      .ob (bk1 (IntKind.i64.wrap (y5.snd.snd.fst + (1 : Int)), (y5.snd.snd.snd.fst, (y5.snd.snd.snd.snd.fst, (y5.snd.snd.snd.snd.snd.fst, (y5.snd.snd.snd.snd.snd.snd.fst, ())))))) <|
      .ok))
  (.leaf (mkR fSameForOthers.rs (true, ())) [] [])) (by kernel_rfl) ?_
  refine lpx_i ?_ fun (y1 : Int × List SNet × SNet × SNet × SNet × PUnit) i1 => br_i (fun h2 => ob_i ?_ fun o3 => ob_i ?_ fun o4 => lt_i (lpx_i ?_ fun (y5 : Int × List ByteArray × Int × List SNet × SNet × SNet × SNet × PUnit) i5 => br_i (fun h6 => ob_i ?_ fun o7 => ob_i ?_ fun o8 => br_i (fun h9 => ob_i ?_ fun o10 => lt_i (ob_i ?_ fun o11 => lt_i (ob_i ?_ fun o12 => lt_i (br_i (fun h13 => Fct.leafY ?_) (fun h13 => ob_i rfl fun _ => ob_i rfl fun _ => ob_i rfl fun _ => ob_i ?_ fun o14 => trivial))))) (fun h9 => ob_i rfl fun _ => ob_i rfl fun _ => ob_i rfl fun _ => ob_i ?_ fun o15 => trivial)) (fun h6 => ob_i rfl fun _ => ob_i rfl fun _ => ob_i ?_ fun o16 => trivial))) (fun h2 => Fct.leafY ?_)
  all_goals try (obtain ⟨⟨⟨⟨a1, a2, a3, a4⟩, a5⟩, a6⟩, a7⟩ := i1; simp only [a3, a5, a6, a7] at *)
  all_goals have hn1 := hosts_len b
  all_goals have hn2 := hosts_len x
  all_goals have hn3 := hosts_len y
  all_goals have hq := learnedBy_len b x
  all_goals have hq2 := learnedBy_len b y
  all_goals try simp only [decide_eq_true_eq, decide_eq_false_iff_not, Bool.not_eq_true', Bool.not_eq_false', bne_iff_ne, bne_eq_false_iff_eq, beq_iff_eq, beq_eq_false_iff_ne, baEq, Int.not_lt, Int.not_le, ne_eq, Decidable.not_not] at *
  all_goals try simp only [W_impl_SameForOthers_fSameForOthers_2, W_impl_SameForOthers_fSameForOthers_5, fEqual_addr, fHostsOf, fLearnedBy, fSameForOthers, etaToken, etaNode, etaBuilder, etaPolicy, etaPage, etaVisit, etaTab, etaServer, etaCache, etaNet, etaLoader, etaSheet, etaResult, etaSlot, etaModule, etaAddr, etaRequest, etaResponse, etaConn, etaGuess, etaEntry, etaSent, etaFile, baSz, List.size_toArray, List.length_cons, List.length_nil, Nat.reduceAdd, Int.toNat_zero, List.drop_zero, decide_eq_true_eq, decide_eq_false_iff_not, Bool.not_eq_true', Bool.not_eq_false', bne_iff_ne, bne_eq_false_iff_eq, beq_iff_eq, beq_eq_false_iff_ne, Bool.not_eq_true, Bool.not_eq_false, ne_eq, Decidable.not_not, baEq, decide_not, Prod.mk.injEq, and_true, true_and, Room, List.nil_append, Nat.zero_add, Int.not_lt, Int.not_le, fHostsOf, fLearnedBy, fEqual_addr] at *
  all_goals try simp (disch := omega) only [wrapId', toNat1] at *
  all_goals try simp (disch := omega) only [if_pos, if_neg]
  all_goals try simp only [hosts_def] at *
  all_goals try (obtain ⟨⟨⟨⟨e1, e2, e3, e4, e5, e6⟩, e7⟩, e8⟩, e9⟩ := i5; simp only [e1, e2, e3, e7, e8, e9] at *)
  all_goals try simp (disch := omega) only [wrapId', toNat1] at *
  all_goals first | trivial | omega | exact get3 (by omega) hp.2.2 hp.1 hp.2.1 | skip
  all_goals try (have g1 := get3 (b := b) (x := x) (y := y) (i := y1.1.toNat) (by omega) hp.2.2 hp.1 hp.2.1; have g2 := hosts_len ([b, x, y].getD y1.1.toNat default))
  all_goals try simp (disch := omega) only [wrapId', toNat1] at *
  · exact ⟨by omega, by omega, by simp⟩
  · exact ⟨by omega, by omega, by simp⟩
  · exact Nat.le_trans (hq _) (by omega)
  · exact (sameOk_out (g := (hosts ([b, x, y].getD y1.1.toNat default)).getD y5.1.toNat default) (by rw [sameOk, decide_eq_false h9, decide_eq_false h13]; rfl)).symm
  · exact ⟨⟨⟨⟨⟨trivial, trivial, trivial, by omega, by omega, all_take (by omega) e6 (by rw [sameOk, decide_eq_true h13, Bool.or_true])⟩, trivial⟩, trivial⟩, trivial⟩, by omega⟩
  · exact ⟨⟨⟨⟨⟨trivial, trivial, trivial, by omega, by omega, all_take (by omega) e6 (by rw [sameOk, decide_eq_true h9, Bool.true_or])⟩, trivial⟩, trivial⟩, trivial⟩, by omega⟩
  · exact ⟨⟨⟨⟨⟨by omega, by omega, trivial, all_nets (by omega) a4 (by rw [List.take_of_length_le (by omega)] at e6; exact e6)⟩, trivial⟩, trivial⟩, trivial⟩, by omega⟩
  · rw [List.take_of_length_le (by simp; omega)] at a4
    exact (sameOk_all a4).symm)
def E55 : D.Env := E54.add 53 fSameForOthers
theorem E55ok : EOk Try.prog E55 := E54ok.add k53_54
def lNet3StrB : Fct := lawFS [.el .net, .el .net, .el .net, .el .str]
-- laws.FnExactSameForOthers
set_option maxHeartbeats 2000000 in
theorem k8_55 : lNet3StrB.ok Try.prog 8 := Fct.of (S := lNet3StrB) (L := fun _ _ => none) (kp := [3,4,5,6,8,9,10,11,12,13,14,17,22,27,32,54,59,64,69,1000017,1000022,1000027,1000032,1000054,1000059,1000064,1000069]) E55ok Try.func8 (by kernel_rfl) (by kernel_rfl) (by
  rintro ⟨(b : SNet), (x : SNet), (y : SNet), (h : ByteArray), _⟩ hp
  refine holds_of (X := .br (decide ((↑(ByteArray.size h) : Int) > (1048576 : Int)))
 (.leaf (mkR lNet3StrB.rs (true, ())) [] [])
 (.ob (fszNet.pre (b, (1048576 : Int), ())) <|
  .lt (Int × PUnit) (fszNet.fn (b, (1048576 : Int), ())) fun z2 =>
  .br (decide (z2.fst < (0 : Int)))
   (.leaf (mkR lNet3StrB.rs (true, ())) [] [])
   (.ob (fszNet.pre (x, z2.fst, ())) <|
    .lt (Int × PUnit) (fszNet.fn (x, z2.fst, ())) fun z3 =>
    .br (decide (z3.fst < (0 : Int)))
     (.leaf (mkR lNet3StrB.rs (true, ())) [] [])
     (.ob (fszNet.pre (y, z3.fst, ())) <|
      .lt (Int × PUnit) (fszNet.fn (y, z3.fst, ())) fun z4 =>
      .br (decide (z4.fst < (0 : Int)))
       (.leaf (mkR lNet3StrB.rs (true, ())) [] [])
       (.ob (ftoNet.pre (b, ())) <|
        .lt (SNet × PUnit) (ftoNet.fn (b, ())) fun z5 =>
        .ob (ftoNet.pre (x, ())) <|
         .lt (SNet × PUnit) (ftoNet.fn (x, ())) fun z6 =>
         .ob (ftoNet.pre (y, ())) <|
          .lt (SNet × PUnit) (ftoNet.fn (y, ())) fun z7 =>
          .ob (fSameForOthers.pre (z5.fst, z6.fst, z7.fst, h, ())) <|
           .lt (Bool × PUnit) (fSameForOthers.fn (z5.fst, z6.fst, z7.fst, h, ())) fun z8 =>
           .ob (ftoNet.pre (b, ())) <|
            .lt (SNet × PUnit) (ftoNet.fn (b, ())) fun z9 =>
            .ob (ftoNet.pre (x, ())) <|
             .lt (SNet × PUnit) (ftoNet.fn (x, ())) fun z10 =>
             .ob (ftoNet.pre (y, ())) <|
              .lt (SNet × PUnit) (ftoNet.fn (y, ())) fun z11 =>
              .ob (fSameForOthers.pre (z9.fst, z10.fst, z11.fst, h, ())) <|
               .lt (Bool × PUnit) (fSameForOthers.fn (z9.fst, z10.fst, z11.fst, h, ())) fun z12 =>
               .br (!z12.fst == z8.fst)
                (.leaf (mkR lNet3StrB.rs (false, ())) [] [])
                (.ob (ftoNet.pre (b, ())) <|
                 .lt (SNet × PUnit) (ftoNet.fn (b, ())) fun z13 =>
                 .ob (feqNet.pre (z9.fst, z13.fst, ())) <|
                  .lt (Bool × PUnit) (feqNet.fn (z9.fst, z13.fst, ())) fun z14 =>
                  .br (!z14.fst)
                   (.leaf (mkR lNet3StrB.rs (false, ())) [] [])
                   (.ob (ftoNet.pre (x, ())) <|
                    .lt (SNet × PUnit) (ftoNet.fn (x, ())) fun z15 =>
                    .ob (feqNet.pre (z10.fst, z15.fst, ())) <|
                     .lt (Bool × PUnit) (feqNet.fn (z10.fst, z15.fst, ())) fun z16 =>
                     .br (!z16.fst)
                      (.leaf (mkR lNet3StrB.rs (false, ())) [] [])
                      (.ob (ftoNet.pre (y, ())) <|
                       .lt (SNet × PUnit) (ftoNet.fn (y, ())) fun z17 =>
                       .ob (feqNet.pre (z11.fst, z17.fst, ())) <|
                        .lt (Bool × PUnit) (feqNet.fn (z11.fst, z17.fst, ())) fun z18 =>
                        .br (!z18.fst)
                         (.leaf (mkR lNet3StrB.rs (false, ())) [] [])
                         (.leaf (mkR lNet3StrB.rs (true, ())) [] []))))))))) (by kernel_rfl) ?_
  refine br_i (fun h1 => Fct.leafY ?_) (fun h1 => ob_i ?_ fun o2 => lt_e fun z2 ez2 => (br_i (fun h3 => Fct.leafY ?_) (fun h3 => ob_i ?_ fun o4 => lt_e fun z3 ez3 => (br_i (fun h5 => Fct.leafY ?_) (fun h5 => ob_i ?_ fun o6 => lt_e fun z4 ez4 => (br_i (fun h7 => Fct.leafY ?_) (fun h7 => ob_i ?_ fun o8 => lt_e fun z5 ez5 => (ob_i ?_ fun o9 => lt_e fun z6 ez6 => (ob_i ?_ fun o10 => lt_e fun z7 ez7 => (ob_i ?_ fun o11 => lt_e fun z8 ez8 => (ob_i ?_ fun o12 => lt_e fun z9 ez9 => (ob_i ?_ fun o13 => lt_e fun z10 ez10 => (ob_i ?_ fun o14 => lt_e fun z11 ez11 => (ob_i ?_ fun o15 => lt_e fun z12 ez12 => (br_i (fun h16 => Fct.leafY ?_) (fun h16 => ob_i ?_ fun o17 => lt_e fun z13 ez13 => (ob_i ?_ fun o18 => lt_e fun z14 ez14 => (br_i (fun h19 => Fct.leafY ?_) (fun h19 => ob_i ?_ fun o20 => lt_e fun z15 ez15 => (ob_i ?_ fun o21 => lt_e fun z16 ez16 => (br_i (fun h22 => Fct.leafY ?_) (fun h22 => ob_i ?_ fun o23 => lt_e fun z17 ez17 => (ob_i ?_ fun o24 => lt_e fun z18 ez18 => (br_i (fun h25 => Fct.leafY ?_) (fun h25 => Fct.leafY ?_)))))))))))))))))))))))))
  all_goals have hn1 := netSz b
  all_goals have hn2 := netSz x
  all_goals have hn3 := netSz y
  all_goals have hg0 : Sh.good (.el .net) b := hp.1
  all_goals have hg1 : Sh.good (.el .net) x := hp.2.1
  all_goals have hg2 : Sh.good (.el .net) y := hp.2.2.1
  all_goals have hg3 : Sh.good (.el .str) h := hp.2.2.2.1
  all_goals clear hp
  all_goals subst_vars
  all_goals try simp only [decide_eq_true_eq, decide_eq_false_iff_not, Bool.not_eq_true', Bool.not_eq_false', bne_iff_ne, bne_eq_false_iff_eq, beq_iff_eq, beq_eq_false_iff_ne, baEq, Int.not_lt, Int.not_le, ne_eq, Decidable.not_not] at *
  all_goals try simp only [fSameForOthers, feqNet, fszNet, ftoNet, lNet3StrB, etaToken, etaNode, etaBuilder, etaPolicy, etaPage, etaVisit, etaTab, etaServer, etaCache, etaNet, etaLoader, etaSheet, etaResult, etaSlot, etaModule, etaAddr, etaRequest, etaResponse, etaConn, etaGuess, etaEntry, etaSent, etaFile, baSz, List.size_toArray, List.length_cons, List.length_nil, Nat.reduceAdd, Int.toNat_zero, List.drop_zero, decide_eq_true_eq, decide_eq_false_iff_not, Bool.not_eq_true', Bool.not_eq_false', bne_iff_ne, bne_eq_false_iff_eq, beq_iff_eq, beq_eq_false_iff_ne, Bool.not_eq_true, Bool.not_eq_false, ne_eq, Decidable.not_not, baEq, decide_not, Prod.mk.injEq, and_true, true_and, Room, List.nil_append, Nat.zero_add, Int.not_lt, Int.not_le, decide_true] at *
  all_goals first | trivial | omega | grind [lessen])
def E56 : D.Env := E55.add 8 lNet3StrB
theorem E56ok : EOk Try.prog E56 := E55ok.add k8_55

section
open Go.ChangeShapes Go.WideShapes Go.ChangeAt Go.RowKit
theorem own : ownKnob Try.prog.godebug = none := by kernel_rfl
theorem types : ∀ e t, tyOf e = some t → e ∈ ([3, 4, 5, 9, 34, 36, 54, 69, 77, 80, 86, 89, 94, 95, 97, 111, 156, 158, 162, 166, 168, 177, 181, 184, 188, 215, 218, 220, 222, 226, 231, 254, 257, 259] : List TypeId) := by
  intro e t h
  unfold tyOf at h
  split at h <;> first | (simp; done) | cases h
theorem lifted (os : Os) (started : os.Started) (H : Type) (enc : TypeId × Value → H) :
    ReturnsInHanded {} Try.checked os 8 .any (Rows.fnExactSameForOthersSpec.pre6 enc Try.prog Try.f8 Rows.fnExactSameForOthersRow.domain false) (Rows.fnExactSameForOthersSpec.post enc Try.prog Try.f8 false true false false) := by
  refine handed_sh (C := Try.checked) own started (by kernel_rfl) Try.func8
    (ChangeSpec.witness6 (enc := enc) (C := Try.checked) false ⟨#[], #[.agg #[.slice none 0 0, .slice none 0 0, .slice none 0 0, .int .i64 0], .agg #[.slice none 0 0, .slice none 0 0, .slice none 0 0, .int .i64 0], .agg #[.slice none 0 0, .slice none 0 0, .slice none 0 0, .int .i64 0], .string ⟨#[]⟩], []⟩ 8 (by kernel_rfl) (by kernel_rfl) (by kernel_rfl) (by kernel_rfl)) ?_
  intro W base args ds gs before hval0 hW hsh
  have hval : ∀ (j : Nat) t v, Try.f8.params[j]? = some t → args[j]? = some v → Value.okWide Try.prog W .any base t v := hval0
  refine law_calls (show rowOk Try.prog Try.f8 tyOf [3, 4, 5, 9, 34, 36, 54, 69, 77, 80, 86, 89, 94, 95, 97, 111, 156, 158, 162, 166, 168, 177, 181, 184, 188, 215, 218, 220, 222, 226, 231, 254, 257, 259] [.el .net, .el .net, .el .net, .el .str] = true by kernel_rfl) types rfl Try.underlying4 rfl hW (fun xs h => ?_) hval hsh k8_55
  · rw [Try.params8] at h
    match xs, (show xs.length = 4 from h) with
    | [x0, x1, x2, x3], _ => rfl
set_option maxHeartbeats 0 in
theorem closed : joinedFacts Try.prog 8 Try.f8 Rows.fnExactSameForOthersSpec Rows.fnExactSameForOthersRow = true := by
  unfold joinedFacts
  refine (and_i (and_i (and_i (and_i (and_i (and_i (and_i (and_i (and_i (and_i (and_i (and_i (and_i (and_i (and_i (and_i (and_i (and_i (and_i (and_i (and_i (and_i (and_i (and_i (and_i (and_i (and_i (and_i (and_i (and_i (and_i ?_ ?_) ?_) ?_) ?_) ?_) ?_) ?_) ?_) ?_) ?_) ?_) ?_) ?_) ?_) ?_) ?_) ?_) ?_) ?_) ?_) ?_) ?_) ?_) ?_) ?_) ?_) ?_) ?_) ?_) ?_) ?_)
  all_goals decide +kernel
theorem over : Rows.fnExactSameForOthersRow.holds Try.pinned (OpenSpec.ofChange Rows.fnExactSameForOthersSpec) :=
  OpenClaim.holds_of_wide 8 Try.f8 rfl rfl rfl rfl rfl rfl rfl ⟨rfl, rfl, rfl, rfl, rfl⟩ rfl rfl rfl rfl rfl (by kernel_rfl) Try.func8 closed
    (of_decide_eq_true (by kernel_rfl)) (by unfold Func.isWrapper; first | (rw [if_pos (by decide +kernel)]; kernel_rfl) | (rw [if_neg (by decide +kernel)]; exact ⟨rfl, rfl⟩))
    (fun os started H enc _ => lifted os started H enc)
theorem proved : Rows.FnExactSameForOthersSaid := over
end
end Go.Proofs.Ytkadnfkdgljfoaa.fnExactSameForOthers
