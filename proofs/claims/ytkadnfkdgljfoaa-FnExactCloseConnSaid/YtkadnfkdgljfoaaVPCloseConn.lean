/-
  The program's CloseConn returns what the reference's returns, for all arguments: the law returns true. No condition.
-/
import Derived.Test.YtkadnfkdgljfoaaVPt
import Derived.Test.YtkadnfkdgljfoaaVPc
import Derived.Test.YtkadnfkdgljfoaaRows
import Derived.WalkKit
import Derived.ProofKit
import Derived.OpenShut
import Derived.Test.YtkadnfkdgljfoaaVEf
namespace Go.Proofs.Ytkadnfkdgljfoaa.fnExactCloseConn
open Go.Proofs.Ytkadnfkdgljfoaa
open Go.D
set_option maxRecDepth 100000
set_option linter.unusedVariables false
set_option linter.unusedSimpArgs false
def tyOf : TypeId → Option Ty
  | 3 => some .int
  | 4 => some .bool
  | 5 => some .u8
  | 9 => some .str
  | 34 => some .addr
  | 36 => some .response
  | 54 => some .conn
  | 69 => some .tab
  | 77 => some .cache
  | 80 => some .net
  | 86 => some .cache
  | 89 => some .net
  | 94 => some .addr
  | 95 => some .response
  | 97 => some .conn
  | 111 => some .guess
  | 156 => some .policy
  | 158 => some .tokenizer
  | 162 => some .builder
  | 166 => some .page
  | 168 => some .visit
  | 177 => some .server
  | 181 => some .sent
  | 184 => some .sent
  | 188 => some .server
  | 215 => some .token
  | 218 => some .node
  | 220 => some .slot
  | 222 => some .module
  | 226 => some .entry
  | 231 => some .entry
  | 254 => some .attr
  | 257 => some .file
  | 259 => some .file
  | _ => none
def E0 : D.Env := D.Env.empty tyOf
theorem E0ok : EOk Try.prog E0 := EOk.empty _ _

-- laws.markText
set_option maxHeartbeats 2000000 in
theorem k61_0 : fmarkText.ok Try.prog 61 := Fct.of (S := fmarkText) (L := fun ⟨k, _⟩ => fun | 4 => some (LmTx k) | _ => none) (kp := [0,2,3,5,7,1000005,1000007]) E0ok Try.func61 (by kernel_rfl) (by kernel_rfl) (by
  rintro ⟨(k : Int), _⟩ hp
  refine holds_of (X := .br (decide (k ≤ (0 : Int)))
 (.leaf (mkR fmarkText.rs ({ data := #[(109 : UInt8), (48 : UInt8)] : ByteArray }, ())) [] [])
 (lpx (LmTx k) (k, ({ data := #[] : ByteArray }, ())) fun (y2 : Int × ByteArray × PUnit) bk2 =>
  .br (decide (y2.fst > (0 : Int)))
   (.ob ((10 : Int) ≠ (0 : Int)) <|
    .ob (True) <|
    .ob (sameSize
  (List.foldl (fun r n => r.push (UInt8.ofNat n.toNat)) ByteArray.empty
    [IntKind.u8.wrap (IntKind.i64.wrap ((48 : Int) + y2.fst.tmod (10 : Int)))])
  y2.snd.fst) <|
    .ob ((10 : Int) ≠ (0 : Int)) <|
    .ob (Value.string { data := #[] : ByteArray } = Value.string { data := #[] : ByteArray }) <|
    .ob (bk2 (IntKind.i64.wrap (y2.fst.tdiv (10 : Int)), (List.foldl (fun r n => r.push (UInt8.ofNat n.toNat)) ByteArray.empty
    [IntKind.u8.wrap (IntKind.i64.wrap ((48 : Int) + y2.fst.tmod (10 : Int)))] ++
  y2.snd.fst, ()))) <|
    .ok)
   (.ob (sameSize { data := #[(109 : UInt8)] : ByteArray } y2.snd.fst) <|
    .leaf (mkR fmarkText.rs ({ data := #[(109 : UInt8)] : ByteArray } ++ y2.snd.fst, ())) [] []))) (by kernel_rfl) ?_
  refine br_i (fun h1 => Fct.leafY ?_) (fun h1 => lpx_i ?_ fun (y2 : Int × ByteArray × PUnit) i2 => br_i (fun h3 => ob_i ?_ fun o4 => ob_i trivial fun _ => ob_i ?_ fun o5 => ob_i ?_ fun o6 => ob_i rfl fun _ => ob_i ?_ fun o7 => trivial) (fun h3 => ob_i ?_ fun o8 => Fct.leafY ?_))
  all_goals try rw [digByte (by first | exact i2.1 | (have := i2.1; omega))]
  all_goals try simp only [decide_eq_true_eq, decide_eq_false_iff_not, Bool.not_eq_true', Bool.not_eq_false', bne_iff_ne, bne_eq_false_iff_eq, beq_iff_eq, beq_eq_false_iff_ne, baEq, Int.not_lt, Int.not_le, ne_eq, Decidable.not_not] at *
  all_goals try simp only [LmTx, fmarkText, etaToken, etaNode, etaBuilder, etaPolicy, etaPage, etaVisit, etaTab, etaServer, etaCache, etaNet, etaLoader, etaSheet, etaResult, etaSlot, etaModule, etaAddr, etaRequest, etaResponse, etaConn, etaGuess, etaEntry, etaSent, etaFile, baSz, List.size_toArray, List.length_cons, List.length_nil, Nat.reduceAdd, Int.toNat_zero, List.drop_zero, decide_eq_true_eq, decide_eq_false_iff_not, Bool.not_eq_true', Bool.not_eq_false', bne_iff_ne, bne_eq_false_iff_eq, beq_iff_eq, beq_eq_false_iff_ne, Bool.not_eq_true, Bool.not_eq_false, ne_eq, Decidable.not_not, baEq, decide_not, Prod.mk.injEq, and_true, true_and, Room, List.nil_append, Nat.zero_add, Int.not_lt, Int.not_le] at *
  · simp [mtext, h1]
  · exact ⟨by omega, by omega, 64, rfl, Nat.lt_of_lt_of_le (show k.toNat < 10 ^ 19 by omega) (Nat.pow_le_pow_right (by decide) (by decide)), rfl⟩
  · decide
  · obtain ⟨i3, i4, f, i5, i6, i7⟩ := i2
    show (1 : Nat) + _ ≤ _
    omega
  · decide
  · obtain ⟨i3, i4, f, i5, i6, i7⟩ := i2
    have hd : IntKind.i64.wrap (y2.1.tdiv 10) = y2.1 / 10 := (tdiv10 i3).resolve_right (by omega)
    rw [hd]
    cases f with
    | zero => simp at i6; omega
    | succ f =>
      rw [digs_step (k := y2.1.toNat) (by omega)] at i7
      have i8 : y2.1.toNat < 10 * 10 ^ f := by rw [Nat.pow_succ] at i6; omega
      generalize 10 ^ f = p at i8
      refine ⟨⟨by omega, by omega, f, by rw [sz1]; omega, by omega, ?_⟩, by omega⟩
      rw [show (y2.1 / 10).toNat = y2.1.toNat / 10 by omega]
      exact i7
  · obtain ⟨i3, i4, f, i5, i6, i7⟩ := i2
    show (1 : Nat) + _ ≤ _
    omega
  · obtain ⟨i3, i4, f, i5, i6, i7⟩ := i2
    have h0 : y2.1.toNat = 0 := by omega
    rw [h0, digs_end] at i7
    rw [mtext, if_neg (by omega), i7])
def E1 : D.Env := E0.add 61 fmarkText
theorem E1ok : EOk Try.prog E1 := E0ok.add k61_0
-- laws.szAddr
set_option maxHeartbeats 2000000 in
theorem k103_1 : fszAddr.ok Try.prog 103 := Fct.of (S := fszAddr) (L := fun _ _ => none) (kp := [1,2,4,11,18,1000011,1000018]) E1ok Try.func103 (by kernel_rfl) (by kernel_rfl) (by
  rintro ⟨(x : SAddr), (n : Int), _⟩ hp
  refine holds_of (X := .br (decide (IntKind.i64.wrap (n - (↑x.host.size : Int)) < (0 : Int)))
 (.leaf (mkR fszAddr.rs ((-1 : Int), ())) [] [])
 (.br (decide (IntKind.i64.wrap (IntKind.i64.wrap (n - (↑x.host.size : Int)) - (↑x.path.size : Int)) < (0 : Int)))
  (.leaf (mkR fszAddr.rs ((-1 : Int), ())) [] [])
  (.leaf (mkR fszAddr.rs (IntKind.i64.wrap (IntKind.i64.wrap (n - (↑x.host.size : Int)) - (↑x.path.size : Int)), ())) [] []))) (by kernel_rfl) ?_
  refine br_i (fun h1 => Fct.leafY ?_) (fun h1 => br_i (fun h2 => Fct.leafY ?_) (fun h2 => Fct.leafY ?_))
  all_goals try simp only [decide_eq_true_eq, decide_eq_false_iff_not, Bool.not_eq_true', Bool.not_eq_false', bne_iff_ne, bne_eq_false_iff_eq, beq_iff_eq, beq_eq_false_iff_ne, baEq, Int.not_lt, Int.not_le, ne_eq, Decidable.not_not] at *
  all_goals try simp only [fszAddr, etaToken, etaNode, etaBuilder, etaPolicy, etaPage, etaVisit, etaTab, etaServer, etaCache, etaNet, etaLoader, etaSheet, etaResult, etaSlot, etaModule, etaAddr, etaRequest, etaResponse, etaConn, etaGuess, etaEntry, etaSent, etaFile, baSz, List.size_toArray, List.length_cons, List.length_nil, Nat.reduceAdd, Int.toNat_zero, List.drop_zero, decide_eq_true_eq, decide_eq_false_iff_not, Bool.not_eq_true', Bool.not_eq_false', bne_iff_ne, bne_eq_false_iff_eq, beq_iff_eq, beq_eq_false_iff_ne, Bool.not_eq_true, Bool.not_eq_false, ne_eq, Decidable.not_not, baEq, decide_not, Prod.mk.injEq, and_true, true_and, Room, List.nil_append, Nat.zero_add, Int.not_lt, Int.not_le, Sh.good, Sh.fc, enc, List.forall_mem_cons, List.not_mem_nil, false_implies, implies_true, goodC, maxLen] at *
  all_goals grind [wrapId', lessen, szAddr])
def E2 : D.Env := E1.add 103 fszAddr
theorem E2ok : EOk Try.prog E2 := E1ok.add k103_1
-- laws.toAddr
theorem k105_2 : ftoAddr.ok Try.prog 105 := Fct.of (S := ftoAddr) (L := fun _ _ => none) (kp := [1,2,3]) E2ok Try.func105 (by kernel_rfl) (by kernel_rfl) (by
  rintro ⟨(x : SAddr), _⟩ hp
  refine holds_of (X := .leaf (mkR ftoAddr.rs (x, ())) [] []) (by kernel_rfl) ?_
  refine Fct.leafY ?_
  all_goals try simp only [decide_eq_true_eq, decide_eq_false_iff_not, Bool.not_eq_true', Bool.not_eq_false', bne_iff_ne, bne_eq_false_iff_eq, beq_iff_eq, beq_eq_false_iff_ne, baEq, Int.not_lt, Int.not_le, ne_eq, Decidable.not_not] at *
  all_goals try simp only [ftoAddr, etaToken, etaNode, etaBuilder, etaPolicy, etaPage, etaVisit, etaTab, etaServer, etaCache, etaNet, etaLoader, etaSheet, etaResult, etaSlot, etaModule, etaAddr, etaRequest, etaResponse, etaConn, etaGuess, etaEntry, etaSent, etaFile, baSz, List.size_toArray, List.length_cons, List.length_nil, Nat.reduceAdd, Int.toNat_zero, List.drop_zero, decide_eq_true_eq, decide_eq_false_iff_not, Bool.not_eq_true', Bool.not_eq_false', bne_iff_ne, bne_eq_false_iff_eq, beq_iff_eq, beq_eq_false_iff_ne, Bool.not_eq_true, Bool.not_eq_false, ne_eq, Decidable.not_not, baEq, decide_not, Prod.mk.injEq, and_true, true_and, Room, List.nil_append, Nat.zero_add, Int.not_lt, Int.not_le] at *
  all_goals first | trivial | rfl | grind [szAddr])
def E3 : D.Env := E2.add 105 ftoAddr
theorem E3ok : EOk Try.prog E3 := E2ok.add k105_2
-- laws.eqAddr
set_option maxHeartbeats 2000000 in
theorem k107_3 : feqAddr.ok Try.prog 107 := Fct.of (S := feqAddr) (L := fun _ _ => none) (kp := [2,3,4,9,14,1000009,1000014]) E3ok Try.func107 (by kernel_rfl) (by kernel_rfl) (by
  rintro ⟨(x : SAddr), (y : SAddr), _⟩ hp
  refine holds_of (X := .br (!x.host.toList == y.host.toList)
 (.leaf (mkR feqAddr.rs (false, ())) [] [])
 (.br (!x.path.toList == y.path.toList)
  (.leaf (mkR feqAddr.rs (false, ())) [] [])
  (.leaf (mkR feqAddr.rs (true, ())) [] []))) (by kernel_rfl) ?_
  refine br_i (fun h1 => Fct.leafY ?_) (fun h1 => br_i (fun h2 => Fct.leafY ?_) (fun h2 => Fct.leafY ?_))
  all_goals try simp only [decide_eq_true_eq, decide_eq_false_iff_not, Bool.not_eq_true', Bool.not_eq_false', bne_iff_ne, bne_eq_false_iff_eq, beq_iff_eq, beq_eq_false_iff_ne, baEq, Int.not_lt, Int.not_le, ne_eq, Decidable.not_not] at *
  all_goals try simp only [feqAddr, etaToken, etaNode, etaBuilder, etaPolicy, etaPage, etaVisit, etaTab, etaServer, etaCache, etaNet, etaLoader, etaSheet, etaResult, etaSlot, etaModule, etaAddr, etaRequest, etaResponse, etaConn, etaGuess, etaEntry, etaSent, etaFile, baSz, List.size_toArray, List.length_cons, List.length_nil, Nat.reduceAdd, Int.toNat_zero, List.drop_zero, decide_eq_true_eq, decide_eq_false_iff_not, Bool.not_eq_true', Bool.not_eq_false', bne_iff_ne, bne_eq_false_iff_eq, beq_iff_eq, beq_eq_false_iff_ne, Bool.not_eq_true, Bool.not_eq_false, ne_eq, Decidable.not_not, baEq, decide_not, Prod.mk.injEq, and_true, true_and, Room, List.nil_append, Nat.zero_add, Int.not_lt, Int.not_le] at *
  all_goals first | trivial | (cases x; cases y; simp_all; done) | (simp only [szAddr] at *; omega) | grind [szAddr])
def E4 : D.Env := E3.add 107 feqAddr
theorem E4ok : EOk Try.prog E4 := E3ok.add k107_3
-- laws.szResponse
set_option maxHeartbeats 2000000 in
theorem k104_4 : fszResponse.ok Try.prog 104 := Fct.of (S := fszResponse) (L := fun _ _ => none) (kp := [1,2,4,11,18,1000011,1000018]) E4ok Try.func104 (by kernel_rfl) (by kernel_rfl) (by
  rintro ⟨(x : SResponse), (n : Int), _⟩ hp
  refine holds_of (X := .br (decide (IntKind.i64.wrap (n - (↑x.body.size : Int)) < (0 : Int)))
 (.leaf (mkR fszResponse.rs ((-1 : Int), ())) [] [])
 (.br (decide (IntKind.i64.wrap (IntKind.i64.wrap (n - (↑x.body.size : Int)) - (↑x.policy.size : Int)) < (0 : Int)))
  (.leaf (mkR fszResponse.rs ((-1 : Int), ())) [] [])
  (.leaf (mkR fszResponse.rs (IntKind.i64.wrap (IntKind.i64.wrap (n - (↑x.body.size : Int)) - (↑x.policy.size : Int)), ())) [] []))) (by kernel_rfl) ?_
  refine br_i (fun h1 => Fct.leafY ?_) (fun h1 => br_i (fun h2 => Fct.leafY ?_) (fun h2 => Fct.leafY ?_))
  all_goals try simp only [decide_eq_true_eq, decide_eq_false_iff_not, Bool.not_eq_true', Bool.not_eq_false', bne_iff_ne, bne_eq_false_iff_eq, beq_iff_eq, beq_eq_false_iff_ne, baEq, Int.not_lt, Int.not_le, ne_eq, Decidable.not_not] at *
  all_goals try simp only [fszResponse, etaToken, etaNode, etaBuilder, etaPolicy, etaPage, etaVisit, etaTab, etaServer, etaCache, etaNet, etaLoader, etaSheet, etaResult, etaSlot, etaModule, etaAddr, etaRequest, etaResponse, etaConn, etaGuess, etaEntry, etaSent, etaFile, baSz, List.size_toArray, List.length_cons, List.length_nil, Nat.reduceAdd, Int.toNat_zero, List.drop_zero, decide_eq_true_eq, decide_eq_false_iff_not, Bool.not_eq_true', Bool.not_eq_false', bne_iff_ne, bne_eq_false_iff_eq, beq_iff_eq, beq_eq_false_iff_ne, Bool.not_eq_true, Bool.not_eq_false, ne_eq, Decidable.not_not, baEq, decide_not, Prod.mk.injEq, and_true, true_and, Room, List.nil_append, Nat.zero_add, Int.not_lt, Int.not_le, Sh.good, Sh.fc, enc, List.forall_mem_cons, List.not_mem_nil, false_implies, implies_true, goodC, maxLen] at *
  all_goals grind [wrapId', lessen, szResponse])
def E5 : D.Env := E4.add 104 fszResponse
theorem E5ok : EOk Try.prog E5 := E4ok.add k104_4
-- laws.toResponse
theorem k106_5 : ftoResponse.ok Try.prog 106 := Fct.of (S := ftoResponse) (L := fun _ _ => none) (kp := [1,2,3]) E5ok Try.func106 (by kernel_rfl) (by kernel_rfl) (by
  rintro ⟨(x : SResponse), _⟩ hp
  refine holds_of (X := .leaf (mkR ftoResponse.rs (x, ())) [] []) (by kernel_rfl) ?_
  refine Fct.leafY ?_
  all_goals try simp only [decide_eq_true_eq, decide_eq_false_iff_not, Bool.not_eq_true', Bool.not_eq_false', bne_iff_ne, bne_eq_false_iff_eq, beq_iff_eq, beq_eq_false_iff_ne, baEq, Int.not_lt, Int.not_le, ne_eq, Decidable.not_not] at *
  all_goals try simp only [ftoResponse, etaToken, etaNode, etaBuilder, etaPolicy, etaPage, etaVisit, etaTab, etaServer, etaCache, etaNet, etaLoader, etaSheet, etaResult, etaSlot, etaModule, etaAddr, etaRequest, etaResponse, etaConn, etaGuess, etaEntry, etaSent, etaFile, baSz, List.size_toArray, List.length_cons, List.length_nil, Nat.reduceAdd, Int.toNat_zero, List.drop_zero, decide_eq_true_eq, decide_eq_false_iff_not, Bool.not_eq_true', Bool.not_eq_false', bne_iff_ne, bne_eq_false_iff_eq, beq_iff_eq, beq_eq_false_iff_ne, Bool.not_eq_true, Bool.not_eq_false, ne_eq, Decidable.not_not, baEq, decide_not, Prod.mk.injEq, and_true, true_and, Room, List.nil_append, Nat.zero_add, Int.not_lt, Int.not_le] at *
  all_goals first | trivial | rfl | grind [szResponse])
def E6 : D.Env := E5.add 106 ftoResponse
theorem E6ok : EOk Try.prog E6 := E5ok.add k106_5
-- laws.eqResponse
set_option maxHeartbeats 2000000 in
theorem k108_6 : feqResponse.ok Try.prog 108 := Fct.of (S := feqResponse) (L := fun _ _ => none) (kp := [2,3,4,9,14,19,24,29,34,1000009,1000014,1000019,1000024,1000029,1000034]) E6ok Try.func108 (by kernel_rfl) (by kernel_rfl) (by
  rintro ⟨(x : SResponse), (y : SResponse), _⟩ hp
  refine holds_of (X := .br (x.status != y.status)
 (.leaf (mkR feqResponse.rs (false, ())) [] [])
 (.br (x.kind != y.kind)
  (.leaf (mkR feqResponse.rs (false, ())) [] [])
  (.br (!x.body.toList == y.body.toList)
   (.leaf (mkR feqResponse.rs (false, ())) [] [])
   (.br (x.age != y.age)
    (.leaf (mkR feqResponse.rs (false, ())) [] [])
    (.br (!x.shares == y.shares)
     (.leaf (mkR feqResponse.rs (false, ())) [] [])
     (.br (!x.policy.toList == y.policy.toList)
      (.leaf (mkR feqResponse.rs (false, ())) [] [])
      (.leaf (mkR feqResponse.rs (true, ())) [] []))))))) (by kernel_rfl) ?_
  refine br_i (fun h1 => Fct.leafY ?_) (fun h1 => br_i (fun h2 => Fct.leafY ?_) (fun h2 => br_i (fun h3 => Fct.leafY ?_) (fun h3 => br_i (fun h4 => Fct.leafY ?_) (fun h4 => br_i (fun h5 => Fct.leafY ?_) (fun h5 => br_i (fun h6 => Fct.leafY ?_) (fun h6 => Fct.leafY ?_))))))
  all_goals try simp only [decide_eq_true_eq, decide_eq_false_iff_not, Bool.not_eq_true', Bool.not_eq_false', bne_iff_ne, bne_eq_false_iff_eq, beq_iff_eq, beq_eq_false_iff_ne, baEq, Int.not_lt, Int.not_le, ne_eq, Decidable.not_not] at *
  all_goals try simp only [feqResponse, etaToken, etaNode, etaBuilder, etaPolicy, etaPage, etaVisit, etaTab, etaServer, etaCache, etaNet, etaLoader, etaSheet, etaResult, etaSlot, etaModule, etaAddr, etaRequest, etaResponse, etaConn, etaGuess, etaEntry, etaSent, etaFile, baSz, List.size_toArray, List.length_cons, List.length_nil, Nat.reduceAdd, Int.toNat_zero, List.drop_zero, decide_eq_true_eq, decide_eq_false_iff_not, Bool.not_eq_true', Bool.not_eq_false', bne_iff_ne, bne_eq_false_iff_eq, beq_iff_eq, beq_eq_false_iff_ne, Bool.not_eq_true, Bool.not_eq_false, ne_eq, Decidable.not_not, baEq, decide_not, Prod.mk.injEq, and_true, true_and, Room, List.nil_append, Nat.zero_add, Int.not_lt, Int.not_le] at *
  all_goals first | trivial | (cases x; cases y; simp_all; done) | (simp only [szResponse] at *; omega) | grind [szResponse])
def E7 : D.Env := E6.add 108 feqResponse
theorem E7ok : EOk Try.prog E7 := E6ok.add k108_6
-- laws.szConn
set_option maxHeartbeats 2000000 in
theorem k55_7 : fszConn.ok Try.prog 55 := Fct.of (S := fszConn) (L := fun _ _ => none) (kp := [1,2,4,10,16,1000010,1000016]) E7ok Try.func55 (by kernel_rfl) (by kernel_rfl) (by
  rintro ⟨(x : SConn), (n : Int), _⟩ hp
  refine holds_of (X := .ob (fszAddr.pre (x.to, n, ())) <|
 .lt (Int × PUnit) (fszAddr.fn (x.to, n, ())) fun z2 =>
 .br (decide (z2.fst < (0 : Int)))
  (.leaf (mkR fszConn.rs ((-1 : Int), ())) [] [])
  (.ob (fszResponse.pre (x.response, z2.fst, ())) <|
   .lt (Int × PUnit) (fszResponse.fn (x.response, z2.fst, ())) fun z3 =>
   .br (decide (z3.fst < (0 : Int)))
    (.leaf (mkR fszConn.rs ((-1 : Int), ())) [] [])
    (.leaf (mkR fszConn.rs (z3.fst, ())) [] []))) (by kernel_rfl) ?_
  refine ob_i ?_ fun o1 => lt_i (br_i (fun h2 => Fct.leafY ?_) (fun h2 => ob_i ?_ fun o3 => lt_i (br_i (fun h4 => Fct.leafY ?_) (fun h4 => Fct.leafY ?_))))
  all_goals try simp only [decide_eq_true_eq, decide_eq_false_iff_not, Bool.not_eq_true', Bool.not_eq_false', bne_iff_ne, bne_eq_false_iff_eq, beq_iff_eq, beq_eq_false_iff_ne, baEq, Int.not_lt, Int.not_le, ne_eq, Decidable.not_not] at *
  all_goals try simp only [fszAddr, fszConn, fszResponse, etaToken, etaNode, etaBuilder, etaPolicy, etaPage, etaVisit, etaTab, etaServer, etaCache, etaNet, etaLoader, etaSheet, etaResult, etaSlot, etaModule, etaAddr, etaRequest, etaResponse, etaConn, etaGuess, etaEntry, etaSent, etaFile, baSz, List.size_toArray, List.length_cons, List.length_nil, Nat.reduceAdd, Int.toNat_zero, List.drop_zero, decide_eq_true_eq, decide_eq_false_iff_not, Bool.not_eq_true', Bool.not_eq_false', bne_iff_ne, bne_eq_false_iff_eq, beq_iff_eq, beq_eq_false_iff_ne, Bool.not_eq_true, Bool.not_eq_false, ne_eq, Decidable.not_not, baEq, decide_not, Prod.mk.injEq, and_true, true_and, Room, List.nil_append, Nat.zero_add, Int.not_lt, Int.not_le, Sh.good, Sh.fc, enc, List.forall_mem_cons, List.not_mem_nil, false_implies, implies_true, goodC, maxLen] at *
  all_goals grind [wrapId', lessen, szAddr, szConn, szResponse])
def E8 : D.Env := E7.add 55 fszConn
theorem E8ok : EOk Try.prog E8 := E7ok.add k55_7
-- laws.toConn
theorem k57_8 : ftoConn.ok Try.prog 57 := Fct.of (S := ftoConn) (L := fun _ _ => none) (kp := [1,2,3]) E8ok Try.func57 (by kernel_rfl) (by kernel_rfl) (by
  rintro ⟨(x : SConn), _⟩ hp
  refine holds_of (X := .ob (ftoAddr.pre (x.to, ())) <|
 .lt (SAddr × PUnit) (ftoAddr.fn (x.to, ())) fun z2 =>
 .ob (ftoResponse.pre (x.response, ())) <|
  .lt (SResponse × PUnit) (ftoResponse.fn (x.response, ())) fun z3 =>
  .leaf (mkR ftoConn.rs (⟨z2.fst, x.left, x.guess, z3.fst⟩, ())) [] []) (by kernel_rfl) ?_
  refine ob_i ?_ fun o1 => lt_i (ob_i ?_ fun o2 => lt_i (Fct.leafY ?_))
  all_goals try simp only [decide_eq_true_eq, decide_eq_false_iff_not, Bool.not_eq_true', Bool.not_eq_false', bne_iff_ne, bne_eq_false_iff_eq, beq_iff_eq, beq_eq_false_iff_ne, baEq, Int.not_lt, Int.not_le, ne_eq, Decidable.not_not] at *
  all_goals try simp only [ftoAddr, ftoConn, ftoResponse, etaToken, etaNode, etaBuilder, etaPolicy, etaPage, etaVisit, etaTab, etaServer, etaCache, etaNet, etaLoader, etaSheet, etaResult, etaSlot, etaModule, etaAddr, etaRequest, etaResponse, etaConn, etaGuess, etaEntry, etaSent, etaFile, baSz, List.size_toArray, List.length_cons, List.length_nil, Nat.reduceAdd, Int.toNat_zero, List.drop_zero, decide_eq_true_eq, decide_eq_false_iff_not, Bool.not_eq_true', Bool.not_eq_false', bne_iff_ne, bne_eq_false_iff_eq, beq_iff_eq, beq_eq_false_iff_ne, Bool.not_eq_true, Bool.not_eq_false, ne_eq, Decidable.not_not, baEq, decide_not, Prod.mk.injEq, and_true, true_and, Room, List.nil_append, Nat.zero_add, Int.not_lt, Int.not_le] at *
  all_goals first | trivial | rfl | grind [szAddr, szConn, szResponse])
def E9 : D.Env := E8.add 57 ftoConn
theorem E9ok : EOk Try.prog E9 := E8ok.add k57_8
-- laws.eqConn
set_option maxHeartbeats 2000000 in
theorem k60_9 : feqConn.ok Try.prog 60 := Fct.of (S := feqConn) (L := fun _ _ => none) (kp := [2,3,4,10,15,20,26,1000010,1000015,1000020,1000026]) E9ok Try.func60 (by kernel_rfl) (by kernel_rfl) (by
  rintro ⟨(x : SConn), (y : SConn), _⟩ hp
  refine holds_of (X := .ob (feqAddr.pre (x.to, y.to, ())) <|
 .lt (Bool × PUnit) (feqAddr.fn (x.to, y.to, ())) fun z2 =>
 .br (!z2.fst)
  (.leaf (mkR feqConn.rs (false, ())) [] [])
  (.br (x.left != y.left)
   (.leaf (mkR feqConn.rs (false, ())) [] [])
   (.br (!x.guess == y.guess)
    (.leaf (mkR feqConn.rs (false, ())) [] [])
    (.ob (feqResponse.pre (x.response, y.response, ())) <|
     .lt (Bool × PUnit) (feqResponse.fn (x.response, y.response, ())) fun z3 =>
     .br (!z3.fst)
      (.leaf (mkR feqConn.rs (false, ())) [] [])
      (.leaf (mkR feqConn.rs (true, ())) [] []))))) (by kernel_rfl) ?_
  refine ob_i trivial fun _ => lt_i (br_i (fun h1 => Fct.leafY ?_) (fun h1 => br_i (fun h2 => Fct.leafY ?_) (fun h2 => br_i (fun h3 => Fct.leafY ?_) (fun h3 => ob_i trivial fun _ => lt_i (br_i (fun h4 => Fct.leafY ?_) (fun h4 => Fct.leafY ?_))))))
  all_goals try simp only [decide_eq_true_eq, decide_eq_false_iff_not, Bool.not_eq_true', Bool.not_eq_false', bne_iff_ne, bne_eq_false_iff_eq, beq_iff_eq, beq_eq_false_iff_ne, baEq, Int.not_lt, Int.not_le, ne_eq, Decidable.not_not] at *
  all_goals try simp only [feqAddr, feqConn, feqResponse, etaToken, etaNode, etaBuilder, etaPolicy, etaPage, etaVisit, etaTab, etaServer, etaCache, etaNet, etaLoader, etaSheet, etaResult, etaSlot, etaModule, etaAddr, etaRequest, etaResponse, etaConn, etaGuess, etaEntry, etaSent, etaFile, baSz, List.size_toArray, List.length_cons, List.length_nil, Nat.reduceAdd, Int.toNat_zero, List.drop_zero, decide_eq_true_eq, decide_eq_false_iff_not, Bool.not_eq_true', Bool.not_eq_false', bne_iff_ne, bne_eq_false_iff_eq, beq_iff_eq, beq_eq_false_iff_ne, Bool.not_eq_true, Bool.not_eq_false, ne_eq, Decidable.not_not, baEq, decide_not, Prod.mk.injEq, and_true, true_and, Room, List.nil_append, Nat.zero_add, Int.not_lt, Int.not_le] at *
  all_goals first | trivial | (cases x; cases y; simp_all; done) | (simp only [szAddr, szConn, szResponse] at *; omega) | grind [szAddr, szConn, szResponse])
def E10 : D.Env := E9.add 60 feqConn
theorem E10ok : EOk Try.prog E10 := E9ok.add k60_9
-- laws.szConnS
set_option maxHeartbeats 2000000 in
theorem k9_10 : fszConnS.ok Try.prog 9 := Fct.of (S := fszConnS) (L := fun ⟨l, n, _⟩ => fun | 5 => some (LszS .conn szConn l n) | _ => none) (kp := [0,1,4,5,11,15,25,1000011,1000015,1000025]) E10ok Try.func9 (by kernel_rfl) (by kernel_rfl) (by
  rintro ⟨(l : List SConn), (n : Int), _⟩ hp
  refine holds_of (X := .br (decide (IntKind.i64.wrap (n - (↑l.length : Int)) < (0 : Int)))
 (.leaf (mkR fszConnS.rs ((-1 : Int), ())) [] [])
 (lpx (LszS .conn szConn l n) (IntKind.i64.wrap (n - (↑l.length : Int)), ((0 : Int), ())) fun (y2 : Int × Int × PUnit) bk2 =>
  .br (decide (y2.snd.fst < (↑l.length : Int)))
   (.ob ((0 : Int) ≤ y2.snd.fst ∧ y2.snd.fst < (↑l.length : Int)) <|
    .ob (fszConn.pre (l.getD y2.snd.fst.toNat default, y2.fst, ())) <|
    .lt (Int × PUnit) (fszConn.fn (l.getD y2.snd.fst.toNat default, y2.fst, ())) fun z2 =>
    .br (decide (z2.fst < (0 : Int)))
     (.leaf (mkR fszConnS.rs ((-1 : Int), ())) [] [])
     (.ob (l = l) <|
      .ob (bk2 (z2.fst, (IntKind.i64.wrap (y2.snd.fst + (1 : Int)), ()))) <|
      .ok))
   (.leaf (mkR fszConnS.rs (y2.fst, ())) [] []))) (by kernel_rfl) ?_
  refine br_i (fun h1 => Fct.leafY ?_) (fun h1 => lpx_i ?_ fun (y2 : Int × Int × PUnit) i2 => br_i (fun h3 => ob_i ?_ fun o4 => ob_i ?_ fun o5 => lt_i (br_i (fun h6 => Fct.leafY ?_) (fun h6 => ob_i rfl fun _ => ob_i ?_ fun o7 => trivial))) (fun h3 => Fct.leafY ?_))
  all_goals try simp only [decide_eq_true_eq, decide_eq_false_iff_not, Bool.not_eq_true', Bool.not_eq_false', bne_iff_ne, bne_eq_false_iff_eq, beq_iff_eq, beq_eq_false_iff_ne, baEq, Int.not_lt, Int.not_le, ne_eq, Decidable.not_not] at *
  all_goals try simp only [LszS, fszConn, fszConnS, etaToken, etaNode, etaBuilder, etaPolicy, etaPage, etaVisit, etaTab, etaServer, etaCache, etaNet, etaLoader, etaSheet, etaResult, etaSlot, etaModule, etaAddr, etaRequest, etaResponse, etaConn, etaGuess, etaEntry, etaSent, etaFile, baSz, List.size_toArray, List.length_cons, List.length_nil, Nat.reduceAdd, Int.toNat_zero, List.drop_zero, decide_eq_true_eq, decide_eq_false_iff_not, Bool.not_eq_true', Bool.not_eq_false', bne_iff_ne, bne_eq_false_iff_eq, beq_iff_eq, beq_eq_false_iff_ne, Bool.not_eq_true, Bool.not_eq_false, ne_eq, Decidable.not_not, baEq, decide_not, Prod.mk.injEq, and_true, true_and, Room, List.nil_append, Nat.zero_add, Int.not_lt, Int.not_le] at *
  · have := good_len hp.1; simp only [maxLen] at this; rw [wrapId (by omega)] at h1
    rw [lessenNeg (by simp only [szL]; omega)]
  · have := good_len hp.1; simp only [maxLen] at this
    rw [wrapId (by omega)] at h1 ⊢
    exact ⟨by omega, by omega, h1, by simp⟩
  · omega
  · exact ⟨good_getD hp.1 (by omega), by omega, by omega⟩
  · have hs := sum_take_le szConn l (y2.2.1.toNat + 1)
    rw [sum_take szConn (by omega)] at hs
    rw [lessen_lt (by omega)] at h6
    rw [lessenNeg (by simp only [szL]; omega)]
  · have hw : IntKind.i64.wrap (y2.2.1 + 1) = y2.2.1 + 1 := wrapId (by have := good_len hp.1; simp only [maxLen] at this; omega)
    have h7 : ¬ lessen y2.1 (szConn (l.getD y2.2.1.toNat default)) < 0 := by omega
    rw [lessen_lt (by omega)] at h7
    rw [hw, toNat1 (by omega), sum_take szConn (by omega), lessen_ge (by omega)]
    exact ⟨⟨by omega, by omega, by omega, by omega⟩, by omega⟩
  · have e : l.take y2.2.1.toNat = l := List.take_of_length_le (by omega)
    rw [e] at i2
    have hz : ((szL szConn l : Nat) : Int) = l.length + (l.map szConn).sum := by simp only [szL]; omega
    rw [lessen_ge (by omega)]
    show y2.1 = n - ((szL szConn l : Nat) : Int)
    omega)
def E11 : D.Env := E10.add 9 fszConnS
theorem E11ok : EOk Try.prog E11 := E10ok.add k9_10
-- laws.toConnS
theorem k11_11 : ftoConnS.ok Try.prog 11 := Fct.of (S := ftoConnS) (L := fun ⟨l, _⟩ => fun | 3 => some (LtoS .conn l) | _ => none) (kp := [0,2,3,4,11,1000011]) E11ok Try.func11 (by kernel_rfl) (by kernel_rfl) (by
  rintro ⟨(l : List SConn), _⟩ hp
  refine holds_of (X := .ob ((↑l.length : Int) = (↑l.length : Int) ∧
  (0 : Int) ≤ (↑l.length : Int) ∧
    (112 : Int) * (↑l.length : Int) ≤ (140737488355328 : Int) ∧ (↑l.length : Int) ≤ (140737488355328 : Int)) <|
 lpx (LtoS .conn l) ((0 : Int), (List.replicate (↑l.length : Int).toNat default, ())) fun (y2 : Int × List SConn × PUnit) bk2 =>
 .br (decide (y2.fst < (↑l.length : Int)))
  (.ob ((0 : Int) ≤ y2.fst ∧ y2.fst < (↑l.length : Int)) <|
   .ob (ftoConn.pre (l.getD y2.fst.toNat default, ())) <|
   .lt (SConn × PUnit) (ftoConn.fn (l.getD y2.fst.toNat default, ())) fun z2 =>
   .ob ((0 : Int) ≤ y2.fst ∧ y2.fst < (↑y2.snd.fst.length : Int)) <|
    .ob (y2.fst.toNat < y2.snd.fst.length) <|
    .lt (List SConn) (y2.snd.fst.modify y2.fst.toNat fun z => z2.fst) fun z3 =>
    .ob (l = l) <|
     .ob (bk2 (IntKind.i64.wrap (y2.fst + (1 : Int)), (z3, ()))) <|
     .ok)
  (.leaf (mkR ftoConnS.rs (y2.snd.fst, ())) [] [])) (by kernel_rfl) ?_
  refine ob_i ?_ fun o1 => lpx_i ?_ fun (y2 : Int × List SConn × PUnit) i2 => br_i (fun h3 => ob_i ?_ fun o4 => ob_i ?_ fun o5 => lt_i (ob_i ?_ fun o6 => ob_i ?_ fun o7 => lt_i (ob_i rfl fun _ => ob_i ?_ fun o8 => trivial))) (fun h3 => Fct.leafY ?_)
  all_goals try simp only [decide_eq_true_eq, decide_eq_false_iff_not, Bool.not_eq_true', Bool.not_eq_false', bne_iff_ne, bne_eq_false_iff_eq, beq_iff_eq, beq_eq_false_iff_ne, baEq, Int.not_lt, Int.not_le, ne_eq, Decidable.not_not] at *
  all_goals try simp only [LtoS, ftoConn, ftoConnS, etaToken, etaNode, etaBuilder, etaPolicy, etaPage, etaVisit, etaTab, etaServer, etaCache, etaNet, etaLoader, etaSheet, etaResult, etaSlot, etaModule, etaAddr, etaRequest, etaResponse, etaConn, etaGuess, etaEntry, etaSent, etaFile, baSz, List.size_toArray, List.length_cons, List.length_nil, Nat.reduceAdd, Int.toNat_zero, List.drop_zero, decide_eq_true_eq, decide_eq_false_iff_not, Bool.not_eq_true', Bool.not_eq_false', bne_iff_ne, bne_eq_false_iff_eq, beq_iff_eq, beq_eq_false_iff_ne, Bool.not_eq_true, Bool.not_eq_false, ne_eq, Decidable.not_not, baEq, decide_not, Prod.mk.injEq, and_true, true_and, Room, List.nil_append, Nat.zero_add, Int.not_lt, Int.not_le] at *
  · have := szL_len szConn l; omega
  · exact ⟨by omega, by omega, by simp⟩
  · omega
  · have hs := sum_take_le szConn l (y2.1.toNat + 1)
    rw [sum_take szConn (by omega)] at hs
    simp only [szL] at hp; omega
  · rw [i2.2.2]; simp; omega
  · rw [i2.2.2]; simp; omega
  · have hw : IntKind.i64.wrap (y2.1 + 1) = y2.1 + 1 := wrapId (by have := szL_len szConn l; omega)
    rw [hw, toNat1 (by omega), i2.2.2]
    refine ⟨⟨by omega, by omega, ?_⟩, by omega⟩
    rw [show l.length - y2.1.toNat = (l.length - (y2.1.toNat + 1)) + 1 from by omega, List.replicate_succ, mod_at (by simp; omega), take_succ (by omega)]
    simp
  · have e : l.take y2.1.toNat = l := List.take_of_length_le (by omega)
    rw [i2.2.2, e]; simp; omega)
def E12 : D.Env := E11.add 11 ftoConnS
theorem E12ok : EOk Try.prog E12 := E11ok.add k11_11
-- laws.eqConnS
set_option maxHeartbeats 2000000 in
theorem k13_12 : feqConnS.ok Try.prog 13 := Fct.of (S := feqConnS) (L := fun ⟨l, m, _⟩ => fun | 4 => some (LeqS .conn l m) | _ => none) (kp := [0,1,4,5,10,14,26,1000010,1000014,1000026]) E12ok Try.func13 (by kernel_rfl) (by kernel_rfl) (by
  rintro ⟨(l : List SConn), (m : List SConn), _⟩ hp
  refine holds_of (X := .br ((↑l.length : Int) != (↑m.length : Int))
 (.leaf (mkR feqConnS.rs (false, ())) [] [])
 (lpx (LeqS .conn l m) ((0 : Int), ()) fun (y2 : Int × PUnit) bk2 =>
  .br (decide (y2.fst < (↑l.length : Int)))
   (.ob ((0 : Int) ≤ y2.fst ∧ y2.fst < (↑l.length : Int)) <|
    .ob ((0 : Int) ≤ y2.fst ∧ y2.fst < (↑m.length : Int)) <|
    .ob (feqConn.pre (l.getD y2.fst.toNat default, m.getD y2.fst.toNat default, ())) <|
    .lt (Bool × PUnit) (feqConn.fn (l.getD y2.fst.toNat default, m.getD y2.fst.toNat default, ())) fun z2 =>
    .br (!z2.fst)
     (.leaf (mkR feqConnS.rs (false, ())) [] [])
     (.ob (l = l) <|
      .ob (m = m) <|
      .ob (bk2 (IntKind.i64.wrap (y2.fst + (1 : Int)), ())) <|
      .ok))
   (.leaf (mkR feqConnS.rs (true, ())) [] []))) (by kernel_rfl) ?_
  refine br_i (fun h1 => Fct.leafY ?_) (fun h1 => lpx_i ?_ fun (y2 : Int × PUnit) i2 => br_i (fun h3 => ob_i ?_ fun o4 => ob_i ?_ fun o5 => ob_i trivial fun _ => lt_i (br_i (fun h6 => Fct.leafY ?_) (fun h6 => ob_i rfl fun _ => ob_i rfl fun _ => ob_i ?_ fun o7 => trivial))) (fun h3 => Fct.leafY ?_))
  all_goals try simp only [decide_eq_true_eq, decide_eq_false_iff_not, Bool.not_eq_true', Bool.not_eq_false', bne_iff_ne, bne_eq_false_iff_eq, beq_iff_eq, beq_eq_false_iff_ne, baEq, Int.not_lt, Int.not_le, ne_eq, Decidable.not_not] at *
  all_goals try simp only [LeqS, feqConn, feqConnS, etaToken, etaNode, etaBuilder, etaPolicy, etaPage, etaVisit, etaTab, etaServer, etaCache, etaNet, etaLoader, etaSheet, etaResult, etaSlot, etaModule, etaAddr, etaRequest, etaResponse, etaConn, etaGuess, etaEntry, etaSent, etaFile, baSz, List.size_toArray, List.length_cons, List.length_nil, Nat.reduceAdd, Int.toNat_zero, List.drop_zero, decide_eq_true_eq, decide_eq_false_iff_not, Bool.not_eq_true', Bool.not_eq_false', bne_iff_ne, bne_eq_false_iff_eq, beq_iff_eq, beq_eq_false_iff_ne, Bool.not_eq_true, Bool.not_eq_false, ne_eq, Decidable.not_not, baEq, decide_not, Prod.mk.injEq, and_true, true_and, Room, List.nil_append, Nat.zero_add, Int.not_lt, Int.not_le] at *
  · rw [decide_eq_false]; rintro rfl; omega
  · exact ⟨by omega, by omega, by simp⟩
  · omega
  · omega
  · rw [decide_eq_false]; rintro rfl; exact absurd rfl h6
  · have hw : IntKind.i64.wrap (y2.1 + 1) = y2.1 + 1 := wrapId (by omega)
    rw [hw, toNat1 (by omega)]
    refine ⟨⟨by omega, by omega, ?_⟩, by omega⟩
    rw [take_succ (by omega), take_succ (by omega), i2.2.2, h6]
  · have e : l.take y2.1.toNat = l := List.take_of_length_le (by omega)
    have e2 : m.take y2.1.toNat = m := List.take_of_length_le (by omega)
    rw [decide_eq_true]; rw [← e, ← e2, i2.2.2])
def E13 : D.Env := E12.add 13 feqConnS
theorem E13ok : EOk Try.prog E13 := E12ok.add k13_12
-- laws.markConnS
set_option maxHeartbeats 2000000 in
theorem k14_13 : fmarkConnS.ok Try.prog 14 := MS.of (S := fmarkConnS) (L := fun l k => fun | 2 => some (LmkS .conn mkConn l k) | _ => none) (kp := [0,1,4,5,9,1000009]) (kl := [0]) E13ok Try.func14 (by kernel_rfl) (by kernel_rfl) (by
  rintro (l : List SConn) (k : Int) hp
  refine holds_of (X := lpx (LmkS .conn mkConn l k) (k, ((0 : Int), (l, ()))) fun (y1 : Int × Int × List SConn × PUnit) bk1 =>
 .br (decide (y1.snd.fst < (↑y1.snd.snd.fst.length : Int)))
  (.ob (fmarkText.pre (y1.fst, ())) <|
   .lt (ByteArray × PUnit) (fmarkText.fn (y1.fst, ())) fun z2 =>
   .ob ((0 : Int) ≤ y1.snd.fst ∧ y1.snd.fst < (↑y1.snd.snd.fst.length : Int)) <|
    .ob (y1.snd.fst.toNat < y1.snd.snd.fst.length) <|
    .lt (List SConn) (y1.snd.snd.fst.modify y1.snd.fst.toNat fun z =>
  { to := { host := z2.fst, path := z.to.path : SAddr }, left := z.left, guess := z.guess, response := z.response :
    SConn }) fun z3 =>
    .ob (fmarkText.pre (IntKind.i64.wrap (y1.fst + (1 : Int)), ())) <|
     .lt (ByteArray × PUnit) (fmarkText.fn (IntKind.i64.wrap (y1.fst + (1 : Int)), ())) fun z4 =>
     .ob ((0 : Int) ≤ y1.snd.fst ∧ y1.snd.fst < (↑z3.length : Int)) <|
      .ob (y1.snd.fst.toNat < z3.length) <|
      .lt (List SConn) (z3.modify y1.snd.fst.toNat fun z =>
  { to := { host := z.to.host, path := z4.fst : SAddr }, left := z.left, guess := z.guess, response := z.response :
    SConn }) fun z5 =>
      .ob ((0 : Int) ≤ y1.snd.fst ∧ y1.snd.fst < (↑z5.length : Int)) <|
       .ob (y1.snd.fst.toNat < z5.length) <|
       .lt (List SConn) (z5.modify y1.snd.fst.toNat fun z =>
  { to := z.to, left := IntKind.i64.wrap (IntKind.i64.wrap (y1.fst + (1 : Int)) + (1 : Int)), guess := z.guess,
    response := z.response : SConn }) fun z6 =>
       .ob ((3 : Int) ≠ (0 : Int)) <|
        .ob ((0 : Int) ≤ y1.snd.fst ∧ y1.snd.fst < (↑z6.length : Int)) <|
        .ob (y1.snd.fst.toNat < z6.length) <|
        .lt (List SConn) (z6.modify y1.snd.fst.toNat fun z =>
  { to := z.to, left := z.left,
    guess :=
      (IntKind.i64.wrap (IntKind.i64.wrap (IntKind.i64.wrap (y1.fst + (1 : Int)) + (1 : Int)) + (1 : Int))).tmod
          (3 : Int) ==
        (0 : Int),
    response := z.response : SConn }) fun z7 =>
        .ob ((0 : Int) ≤ y1.snd.fst ∧ y1.snd.fst < (↑z7.length : Int)) <|
         .ob (y1.snd.fst.toNat < z7.length) <|
         .lt (List SConn) (z7.modify y1.snd.fst.toNat fun z =>
  { to := z.to, left := z.left, guess := z.guess,
    response :=
      {
        status :=
          IntKind.i64.wrap
            (IntKind.i64.wrap (IntKind.i64.wrap (IntKind.i64.wrap (y1.fst + (1 : Int)) + (1 : Int)) + (1 : Int)) +
              (1 : Int)),
        kind := z.response.kind, body := z.response.body, age := z.response.age, shares := z.response.shares,
        policy := z.response.policy : SResponse } :
    SConn }) fun z8 =>
         .ob ((0 : Int) ≤ y1.snd.fst ∧ y1.snd.fst < (↑z8.length : Int)) <|
          .ob (y1.snd.fst.toNat < z8.length) <|
          .lt (List SConn) (z8.modify y1.snd.fst.toNat fun z =>
  { to := z.to, left := z.left, guess := z.guess,
    response :=
      { status := z.response.status,
        kind :=
          IntKind.i64.wrap
            (IntKind.i64.wrap
                (IntKind.i64.wrap (IntKind.i64.wrap (IntKind.i64.wrap (y1.fst + (1 : Int)) + (1 : Int)) + (1 : Int)) +
                  (1 : Int)) +
              (1 : Int)),
        body := z.response.body, age := z.response.age, shares := z.response.shares, policy := z.response.policy :
        SResponse } :
    SConn }) fun z9 =>
          .ob (fmarkText.pre
  (IntKind.i64.wrap
      (IntKind.i64.wrap
          (IntKind.i64.wrap
              (IntKind.i64.wrap (IntKind.i64.wrap (IntKind.i64.wrap (y1.fst + (1 : Int)) + (1 : Int)) + (1 : Int)) +
                (1 : Int)) +
            (1 : Int)) +
        (1 : Int)),
    ())) <|
           .lt (ByteArray × PUnit) (fmarkText.fn
  (IntKind.i64.wrap
      (IntKind.i64.wrap
          (IntKind.i64.wrap
              (IntKind.i64.wrap (IntKind.i64.wrap (IntKind.i64.wrap (y1.fst + (1 : Int)) + (1 : Int)) + (1 : Int)) +
                (1 : Int)) +
            (1 : Int)) +
        (1 : Int)),
    ())) fun z10 =>
           .ob ((0 : Int) ≤ y1.snd.fst ∧ y1.snd.fst < (↑z9.length : Int)) <|
            .ob (y1.snd.fst.toNat < z9.length) <|
            .lt (List SConn) (z9.modify y1.snd.fst.toNat fun z =>
  { to := z.to, left := z.left, guess := z.guess,
    response :=
      { status := z.response.status, kind := z.response.kind, body := z10.fst, age := z.response.age,
        shares := z.response.shares, policy := z.response.policy : SResponse } :
    SConn }) fun z11 =>
            .ob ((0 : Int) ≤ y1.snd.fst ∧ y1.snd.fst < (↑z11.length : Int)) <|
             .ob (y1.snd.fst.toNat < z11.length) <|
             .lt (List SConn) (z11.modify y1.snd.fst.toNat fun z =>
  { to := z.to, left := z.left, guess := z.guess,
    response :=
      { status := z.response.status, kind := z.response.kind, body := z.response.body,
        age :=
          IntKind.i64.wrap
            (IntKind.i64.wrap
                (IntKind.i64.wrap
                    (IntKind.i64.wrap
                        (IntKind.i64.wrap
                            (IntKind.i64.wrap (IntKind.i64.wrap (y1.fst + (1 : Int)) + (1 : Int)) + (1 : Int)) +
                          (1 : Int)) +
                      (1 : Int)) +
                  (1 : Int)) +
              (1 : Int)),
        shares := z.response.shares, policy := z.response.policy : SResponse } :
    SConn }) fun z12 =>
             .ob ((3 : Int) ≠ (0 : Int)) <|
              .ob ((0 : Int) ≤ y1.snd.fst ∧ y1.snd.fst < (↑z12.length : Int)) <|
              .ob (y1.snd.fst.toNat < z12.length) <|
              .lt (List SConn) (z12.modify y1.snd.fst.toNat fun z =>
  { to := z.to, left := z.left, guess := z.guess,
    response :=
      { status := z.response.status, kind := z.response.kind, body := z.response.body, age := z.response.age,
        shares :=
          (IntKind.i64.wrap
                  (IntKind.i64.wrap
                      (IntKind.i64.wrap
                          (IntKind.i64.wrap
                              (IntKind.i64.wrap
                                  (IntKind.i64.wrap
                                      (IntKind.i64.wrap (IntKind.i64.wrap (y1.fst + (1 : Int)) + (1 : Int)) +
                                        (1 : Int)) +
                                    (1 : Int)) +
                                (1 : Int)) +
                            (1 : Int)) +
                        (1 : Int)) +
                    (1 : Int))).tmod
              (3 : Int) ==
            (0 : Int),
        policy := z.response.policy : SResponse } :
    SConn }) fun z13 =>
              .ob (fmarkText.pre
  (IntKind.i64.wrap
      (IntKind.i64.wrap
          (IntKind.i64.wrap
              (IntKind.i64.wrap
                  (IntKind.i64.wrap
                      (IntKind.i64.wrap
                          (IntKind.i64.wrap
                              (IntKind.i64.wrap (IntKind.i64.wrap (y1.fst + (1 : Int)) + (1 : Int)) + (1 : Int)) +
                            (1 : Int)) +
                        (1 : Int)) +
                    (1 : Int)) +
                (1 : Int)) +
            (1 : Int)) +
        (1 : Int)),
    ())) <|
               .lt (ByteArray × PUnit) (fmarkText.fn
  (IntKind.i64.wrap
      (IntKind.i64.wrap
          (IntKind.i64.wrap
              (IntKind.i64.wrap
                  (IntKind.i64.wrap
                      (IntKind.i64.wrap
                          (IntKind.i64.wrap
                              (IntKind.i64.wrap (IntKind.i64.wrap (y1.fst + (1 : Int)) + (1 : Int)) + (1 : Int)) +
                            (1 : Int)) +
                        (1 : Int)) +
                    (1 : Int)) +
                (1 : Int)) +
            (1 : Int)) +
        (1 : Int)),
    ())) fun z14 =>
               .ob ((0 : Int) ≤ y1.snd.fst ∧ y1.snd.fst < (↑z13.length : Int)) <|
                .ob (y1.snd.fst.toNat < z13.length) <|
                .lt (List SConn) (z13.modify y1.snd.fst.toNat fun z =>
  { to := z.to, left := z.left, guess := z.guess,
    response :=
      { status := z.response.status, kind := z.response.kind, body := z.response.body, age := z.response.age,
        shares := z.response.shares, policy := z14.fst : SResponse } :
    SConn }) fun z15 =>
                .ob (Value.int IntKind.i64 (0 : Int) = Value.int IntKind.i64 (0 : Int)) <|
                 .ob (bk1 (IntKind.i64.wrap
  (IntKind.i64.wrap
      (IntKind.i64.wrap
          (IntKind.i64.wrap
              (IntKind.i64.wrap
                  (IntKind.i64.wrap
                      (IntKind.i64.wrap
                          (IntKind.i64.wrap
                              (IntKind.i64.wrap (IntKind.i64.wrap (y1.fst + (1 : Int)) + (1 : Int)) + (1 : Int)) +
                            (1 : Int)) +
                        (1 : Int)) +
                    (1 : Int)) +
                (1 : Int)) +
            (1 : Int)) +
        (1 : Int)) +
    (1 : Int)), (IntKind.i64.wrap (y1.snd.fst + (1 : Int)), (z15, ())))) <|
                 .ok)
  (.leaf (.one false [vi (y1.fst)]) [] [((0 : Nat), ⟨Ty.conn, y1.snd.snd.fst⟩)])) (by kernel_rfl) ?_
  refine lpx_i ?_ fun (y1 : Int × Int × List SConn × PUnit) i1 => br_i (fun h2 => ob_i ?_ fun o3 => lt_i (ob_i ?_ fun o4 => ob_i ?_ fun o5 => lt_i (ob_i ?_ fun o6 => lt_i (ob_i ?_ fun o7 => ob_i ?_ fun o8 => lt_i (ob_i ?_ fun o9 => ob_i ?_ fun o10 => lt_i (ob_i ?_ fun o11 => ob_i ?_ fun o12 => ob_i ?_ fun o13 => lt_i (ob_i ?_ fun o14 => ob_i ?_ fun o15 => lt_i (ob_i ?_ fun o16 => ob_i ?_ fun o17 => lt_i (ob_i ?_ fun o18 => lt_i (ob_i ?_ fun o19 => ob_i ?_ fun o20 => lt_i (ob_i ?_ fun o21 => ob_i ?_ fun o22 => lt_i (ob_i ?_ fun o23 => ob_i ?_ fun o24 => ob_i ?_ fun o25 => lt_i (ob_i ?_ fun o26 => lt_i (ob_i ?_ fun o27 => ob_i ?_ fun o28 => lt_i (ob_i rfl fun _ => ob_i ?_ fun o29 => trivial))))))))))))))) (fun h2 => MS.leaf ?_)
  · exact ⟨by simp, by simp, by simp [markL], by simp [markL]⟩
  all_goals have hp1 : 0 ≤ k := hp.1
  all_goals have hp2 : (markL mkConn l k).2 ≤ 4000000000000000000 := hp.2
  all_goals have i3 : 0 ≤ y1.2.1 ∧ y1.2.1 ≤ l.length ∧ y1.1 = (markL mkConn (l.take y1.2.1.toNat) k).2 ∧ y1.2.2.1 = (markL mkConn (l.take y1.2.1.toNat) k).1 ++ l.drop y1.2.1.toNat := i1
  all_goals have hcnt := markL_cnt (f := mkConn) (fun x k => by simp only [mkConn]; omega) l k
  all_goals have hx : y1.2.2.1.length = l.length := by rw [i3.2.2.2, List.length_append, markL_len, List.length_take, List.length_drop]; omega
  all_goals simp only [decide_eq_true_eq, decide_eq_false_iff_not, hx] at h2
  all_goals clear i1
  all_goals try have hlt : y1.2.1.toNat < l.length := by omega
  all_goals try have ht := markL_take (f := mkConn) hlt k
  all_goals try have hle := (markL_take_le mkConn_mono l (y1.2.1.toNat + 1) k).2
  all_goals try have hl0 := (markL_take_le mkConn_mono l y1.2.1.toNat k).1
  all_goals try rw [ht] at hle
  all_goals try rw [← i3.2.2.1] at hle hl0 ht
  all_goals try simp only [mkConn] at hle
  all_goals first | decide | (simp only [List.length_modify, hx]; omega) | (refine ⟨?_, ?_⟩ <;> (try simp (discharger := omega) only [wrapId']) <;> omega) | skip
  · try clear o3 o4 o5
    simp (discharger := omega) only [wrapId', fmarkText]
    have hA : (markL mkConn (l.take y1.2.1.toNat) k).1.length = y1.2.1.toNat := by rw [markL_len, List.length_take]; omega
    refine ⟨⟨by omega, by omega, ?_, ?_⟩, ?_⟩
    · rw [toNat1 (by omega), ht]
      first | done | (simp only [mkConn]; done) | (simp only [mkConn]; omega)
    · rw [toNat1 (by omega), ht, i3.2.2.2, drop_cons hlt]
      simp only [mod_at hA, mkConn, Int.add_assoc, Int.reduceAdd, List.append_assoc, List.cons_append, List.nil_append]
    · omega
  · refine MS.leafL (t := .conn) (fn := fun l k => markL mkConn l k) ?_
    have e1 : l.take y1.2.1.toNat = l := List.take_of_length_le (by omega)
    have e2 : l.drop y1.2.1.toNat = [] := List.drop_of_length_le (by omega)
    rw [i3.2.2.2, i3.2.2.1, e1, e2, List.append_nil])
def E14 : D.Env := E13.addM 14 fmarkConnS
theorem E14ok : EOk Try.prog E14 := E13ok.addM k14_13
-- laws.heldConnS
set_option maxHeartbeats 2000000 in
theorem k15_14 : fheldConnS.ok Try.prog 15 := Fct.of (S := fheldConnS) (L := fun ⟨l, k, _⟩ => fun | 2 => some (LheS .conn mkConn l k) | _ => none) (kp := [0,1,4,5,9,20,31,40,51,61,71,82,92,104,115,1000009,1000020,1000031,1000040,1000051,1000061,1000071,1000082,1000092,1000104,1000115]) E14ok Try.func15 (by kernel_rfl) (by kernel_rfl) (by
  rintro ⟨(l : List SConn), (k : Int), _⟩ hp
  refine holds_of (X := lpx (LheS .conn mkConn l k) (k, ((0 : Int), ())) fun (y1 : Int × Int × PUnit) bk1 =>
 .br (decide (y1.snd.fst < (↑l.length : Int)))
  (.ob ((0 : Int) ≤ y1.snd.fst ∧ y1.snd.fst < (↑l.length : Int)) <|
   .ob (fmarkText.pre (y1.fst, ())) <|
   .lt (ByteArray × PUnit) (fmarkText.fn (y1.fst, ())) fun z2 =>
   .br (!(l.getD y1.snd.fst.toNat default).to.host.toList == z2.fst.toList)
    (.leaf (mkR fheldConnS.rs ((-1 : Int), ())) [] [])
    (.ob ((0 : Int) ≤ y1.snd.fst ∧ y1.snd.fst < (↑l.length : Int)) <|
     .ob (fmarkText.pre (IntKind.i64.wrap (y1.fst + (1 : Int)), ())) <|
     .lt (ByteArray × PUnit) (fmarkText.fn (IntKind.i64.wrap (y1.fst + (1 : Int)), ())) fun z3 =>
     .br (!(l.getD y1.snd.fst.toNat default).to.path.toList == z3.fst.toList)
      (.leaf (mkR fheldConnS.rs ((-1 : Int), ())) [] [])
      (.ob ((0 : Int) ≤ y1.snd.fst ∧ y1.snd.fst < (↑l.length : Int)) <|
       .br ((l.getD y1.snd.fst.toNat default).left != IntKind.i64.wrap (IntKind.i64.wrap (y1.fst + (1 : Int)) + (1 : Int)))
       (.leaf (mkR fheldConnS.rs ((-1 : Int), ())) [] [])
       (.ob ((0 : Int) ≤ y1.snd.fst ∧ y1.snd.fst < (↑l.length : Int)) <|
        .ob ((3 : Int) ≠ (0 : Int)) <|
        .br (!(l.getD y1.snd.fst.toNat default).guess ==
    ((IntKind.i64.wrap (IntKind.i64.wrap (IntKind.i64.wrap (y1.fst + (1 : Int)) + (1 : Int)) + (1 : Int))).tmod
        (3 : Int) ==
      (0 : Int)))
        (.leaf (mkR fheldConnS.rs ((-1 : Int), ())) [] [])
        (.ob ((0 : Int) ≤ y1.snd.fst ∧ y1.snd.fst < (↑l.length : Int)) <|
         .br ((l.getD y1.snd.fst.toNat default).response.status !=
  IntKind.i64.wrap
    (IntKind.i64.wrap (IntKind.i64.wrap (IntKind.i64.wrap (y1.fst + (1 : Int)) + (1 : Int)) + (1 : Int)) + (1 : Int)))
         (.leaf (mkR fheldConnS.rs ((-1 : Int), ())) [] [])
         (.ob ((0 : Int) ≤ y1.snd.fst ∧ y1.snd.fst < (↑l.length : Int)) <|
          .br ((l.getD y1.snd.fst.toNat default).response.kind !=
  IntKind.i64.wrap
    (IntKind.i64.wrap
        (IntKind.i64.wrap (IntKind.i64.wrap (IntKind.i64.wrap (y1.fst + (1 : Int)) + (1 : Int)) + (1 : Int)) +
          (1 : Int)) +
      (1 : Int)))
          (.leaf (mkR fheldConnS.rs ((-1 : Int), ())) [] [])
          (.ob ((0 : Int) ≤ y1.snd.fst ∧ y1.snd.fst < (↑l.length : Int)) <|
           .ob (fmarkText.pre
  (IntKind.i64.wrap
      (IntKind.i64.wrap
          (IntKind.i64.wrap
              (IntKind.i64.wrap (IntKind.i64.wrap (IntKind.i64.wrap (y1.fst + (1 : Int)) + (1 : Int)) + (1 : Int)) +
                (1 : Int)) +
            (1 : Int)) +
        (1 : Int)),
    ())) <|
           .lt (ByteArray × PUnit) (fmarkText.fn
  (IntKind.i64.wrap
      (IntKind.i64.wrap
          (IntKind.i64.wrap
              (IntKind.i64.wrap (IntKind.i64.wrap (IntKind.i64.wrap (y1.fst + (1 : Int)) + (1 : Int)) + (1 : Int)) +
                (1 : Int)) +
            (1 : Int)) +
        (1 : Int)),
    ())) fun z4 =>
           .br (!(l.getD y1.snd.fst.toNat default).response.body.toList == z4.fst.toList)
            (.leaf (mkR fheldConnS.rs ((-1 : Int), ())) [] [])
            (.ob ((0 : Int) ≤ y1.snd.fst ∧ y1.snd.fst < (↑l.length : Int)) <|
             .br ((l.getD y1.snd.fst.toNat default).response.age !=
  IntKind.i64.wrap
    (IntKind.i64.wrap
        (IntKind.i64.wrap
            (IntKind.i64.wrap
                (IntKind.i64.wrap (IntKind.i64.wrap (IntKind.i64.wrap (y1.fst + (1 : Int)) + (1 : Int)) + (1 : Int)) +
                  (1 : Int)) +
              (1 : Int)) +
          (1 : Int)) +
      (1 : Int)))
             (.leaf (mkR fheldConnS.rs ((-1 : Int), ())) [] [])
             (.ob ((0 : Int) ≤ y1.snd.fst ∧ y1.snd.fst < (↑l.length : Int)) <|
              .ob ((3 : Int) ≠ (0 : Int)) <|
              .br (!(l.getD y1.snd.fst.toNat default).response.shares ==
    ((IntKind.i64.wrap
            (IntKind.i64.wrap
                (IntKind.i64.wrap
                    (IntKind.i64.wrap
                        (IntKind.i64.wrap
                            (IntKind.i64.wrap
                                (IntKind.i64.wrap (IntKind.i64.wrap (y1.fst + (1 : Int)) + (1 : Int)) + (1 : Int)) +
                              (1 : Int)) +
                          (1 : Int)) +
                      (1 : Int)) +
                  (1 : Int)) +
              (1 : Int))).tmod
        (3 : Int) ==
      (0 : Int)))
              (.leaf (mkR fheldConnS.rs ((-1 : Int), ())) [] [])
              (.ob ((0 : Int) ≤ y1.snd.fst ∧ y1.snd.fst < (↑l.length : Int)) <|
               .ob (fmarkText.pre
  (IntKind.i64.wrap
      (IntKind.i64.wrap
          (IntKind.i64.wrap
              (IntKind.i64.wrap
                  (IntKind.i64.wrap
                      (IntKind.i64.wrap
                          (IntKind.i64.wrap
                              (IntKind.i64.wrap (IntKind.i64.wrap (y1.fst + (1 : Int)) + (1 : Int)) + (1 : Int)) +
                            (1 : Int)) +
                        (1 : Int)) +
                    (1 : Int)) +
                (1 : Int)) +
            (1 : Int)) +
        (1 : Int)),
    ())) <|
               .lt (ByteArray × PUnit) (fmarkText.fn
  (IntKind.i64.wrap
      (IntKind.i64.wrap
          (IntKind.i64.wrap
              (IntKind.i64.wrap
                  (IntKind.i64.wrap
                      (IntKind.i64.wrap
                          (IntKind.i64.wrap
                              (IntKind.i64.wrap (IntKind.i64.wrap (y1.fst + (1 : Int)) + (1 : Int)) + (1 : Int)) +
                            (1 : Int)) +
                        (1 : Int)) +
                    (1 : Int)) +
                (1 : Int)) +
            (1 : Int)) +
        (1 : Int)),
    ())) fun z5 =>
               .br (!(l.getD y1.snd.fst.toNat default).response.policy.toList == z5.fst.toList)
                (.leaf (mkR fheldConnS.rs ((-1 : Int), ())) [] [])
                (.ob (l = l) <|
                 .ob (bk1 (IntKind.i64.wrap
  (IntKind.i64.wrap
      (IntKind.i64.wrap
          (IntKind.i64.wrap
              (IntKind.i64.wrap
                  (IntKind.i64.wrap
                      (IntKind.i64.wrap
                          (IntKind.i64.wrap
                              (IntKind.i64.wrap (IntKind.i64.wrap (y1.fst + (1 : Int)) + (1 : Int)) + (1 : Int)) +
                            (1 : Int)) +
                        (1 : Int)) +
                    (1 : Int)) +
                (1 : Int)) +
            (1 : Int)) +
        (1 : Int)) +
    (1 : Int)), (IntKind.i64.wrap (y1.snd.fst + (1 : Int)), ()))) <|
                 .ok)))))))))))
  (.leaf (mkR fheldConnS.rs (y1.fst, ())) [] [])) (by kernel_rfl) ?_
  refine lpx_i ?_ fun (y1 : Int × Int × PUnit) i1 => br_i (fun h2 => ob_i ?_ fun o3 => ob_i ?_ fun o4 => lt_i (br_i (fun h5 => Fct.leafY ?_) (fun h5 => ob_i ?_ fun o6 => ob_i ?_ fun o7 => lt_i (br_i (fun h8 => Fct.leafY ?_) (fun h8 => ob_i ?_ fun o9 => br_i (fun h10 => Fct.leafY ?_) (fun h10 => ob_i ?_ fun o11 => ob_i ?_ fun o12 => br_i (fun h13 => Fct.leafY ?_) (fun h13 => ob_i ?_ fun o14 => br_i (fun h15 => Fct.leafY ?_) (fun h15 => ob_i ?_ fun o16 => br_i (fun h17 => Fct.leafY ?_) (fun h17 => ob_i ?_ fun o18 => ob_i ?_ fun o19 => lt_i (br_i (fun h20 => Fct.leafY ?_) (fun h20 => ob_i ?_ fun o21 => br_i (fun h22 => Fct.leafY ?_) (fun h22 => ob_i ?_ fun o23 => ob_i ?_ fun o24 => br_i (fun h25 => Fct.leafY ?_) (fun h25 => ob_i ?_ fun o26 => ob_i ?_ fun o27 => lt_i (br_i (fun h28 => Fct.leafY ?_) (fun h28 => ob_i rfl fun _ => ob_i ?_ fun o29 => trivial))))))))))))))) (fun h2 => Fct.leafY ?_)
  · exact ⟨by simp, by simp, by simp [markL]⟩
  all_goals have hp1 : 0 ≤ k := hp.1
  all_goals have hp2 : (markL mkConn l k).2 ≤ 4000000000000000000 := hp.2.1
  all_goals have hp3 : (markL mkConn l k).1 = l := hp.2.2
  all_goals have i3 : 0 ≤ y1.2.1 ∧ y1.2.1 ≤ l.length ∧ y1.1 = (markL mkConn (l.take y1.2.1.toNat) k).2 := i1
  all_goals have hcnt := markL_cnt (f := mkConn) (fun x k => by simp only [mkConn]; omega) l k
  all_goals simp only [decide_eq_true_eq, decide_eq_false_iff_not] at h2
  all_goals clear i1 hp
  all_goals try have hlt : y1.2.1.toNat < l.length := by omega
  all_goals try have ht := markL_take (f := mkConn) hlt k
  all_goals try have hle := (markL_take_le mkConn_mono l (y1.2.1.toNat + 1) k).2
  all_goals try have hl0 := (markL_take_le mkConn_mono l y1.2.1.toNat k).1
  all_goals try have heq := markL_held hp3 hlt
  all_goals try rw [ht] at hle
  all_goals try rw [← i3.2.2] at hle hl0 ht heq
  all_goals try simp only [mkConn] at hle heq
  all_goals first | decide | omega | (refine ⟨?_, ?_⟩ <;> (try simp (discharger := omega) only [wrapId']) <;> omega) | skip
  all_goals try (exfalso; clear ht; generalize l.getD y1.2.1.toNat default = c at *; subst heq; simp (discharger := omega) [wrapId', fmarkText, Int.add_assoc] at *; done)
  · simp (discharger := omega) only [wrapId']
    refine ⟨⟨by omega, by omega, ?_⟩, ?_⟩
    · rw [toNat1 (by omega), ht]
      first | done | (simp only [mkConn]; done) | (simp only [mkConn]; omega)
    · omega
  · have e1 : l.take y1.2.1.toNat = l := List.take_of_length_le (by omega)
    rw [e1] at i3
    show (y1.1, ()) = ((markL mkConn l k).2, ())
    rw [i3.2.2])
def E15 : D.Env := E14.add 15 fheldConnS
theorem E15ok : EOk Try.prog E15 := E14ok.add k15_14
def inRange (n lo hi : Int) : Bool := decide (lo ≤ n) && decide (n ≤ hi)
def fInRange : Fct := ⟨[aI, aI, aI], [rB], fun _ => True, fun (x : Int × Int × Int × Unit) => (inRange x.1 x.2.1 x.2.2.1, ())⟩
-- spec.l1In
theorem k56_15 : fInRange.ok Try.prog 56 := Fct.of (S := fInRange) (L := fun _ _ => none) (kp := [0,1,2,6]) E15ok Try.func56 (by kernel_rfl) (by kernel_rfl) (by
  rintro ⟨(n : Int), (lo : Int), (hi : Int), _⟩ hp
  refine holds_of (X := .br (decide (n ≥ lo))
 (.leaf (mkR fInRange.rs (decide (n ≤ hi), ())) [] [])
 (.leaf (mkR fInRange.rs (false, ())) [] [])) (by kernel_rfl) ?_
  refine br_i (fun h1 => Fct.leafY ?_) (fun h1 => Fct.leafY ?_)
  all_goals try simp only [decide_eq_true_eq, decide_eq_false_iff_not, Bool.not_eq_true', Bool.not_eq_false', bne_iff_ne, bne_eq_false_iff_eq, beq_iff_eq, beq_eq_false_iff_ne, baEq, Int.not_lt, Int.not_le, ne_eq, Decidable.not_not] at *
  all_goals try simp only [fInRange, etaToken, etaNode, etaBuilder, etaPolicy, etaPage, etaVisit, etaTab, etaServer, etaCache, etaNet, etaLoader, etaSheet, etaResult, etaSlot, etaModule, etaAddr, etaRequest, etaResponse, etaConn, etaGuess, etaEntry, etaSent, etaFile, baSz, List.size_toArray, List.length_cons, List.length_nil, Nat.reduceAdd, Int.toNat_zero, List.drop_zero, decide_eq_true_eq, decide_eq_false_iff_not, Bool.not_eq_true', Bool.not_eq_false', bne_iff_ne, bne_eq_false_iff_eq, beq_iff_eq, beq_eq_false_iff_ne, Bool.not_eq_true, Bool.not_eq_false, ne_eq, Decidable.not_not, baEq, decide_not, Prod.mk.injEq, and_true, true_and, Room, List.nil_append, Nat.zero_add, Int.not_lt, Int.not_le, inRange] at *
  all_goals first | trivial | (simp_all; done) | (simp_all; omega) | grind)
def E16 : D.Env := E15.add 56 fInRange
theorem E16ok : EOk Try.prog E16 := E15ok.add k56_15
def fCopyConns : Fct := ⟨[aL .conn], [rL .conn], fun (x : List SConn × Unit) => x.1.length ≤ 1048576, fun (x : List SConn × Unit) => (x.1, ())⟩
-- impl.copyConns
theorem k58_16 : fCopyConns.ok Try.prog 58 := Fct.of (S := fCopyConns) (L := fun _ _ => none) (kp := [0,2]) E16ok Try.func58 (by kernel_rfl) (by kernel_rfl) (by
  rintro ⟨(l : List SConn), _⟩ hp
  refine holds_of (X := .ob (True) <|
 .ob (Room ((0 : Nat) + List.length l) (112 : Nat)) <|
 .leaf (mkR fCopyConns.rs ([] ++ l, ())) [] []) (by kernel_rfl) ?_
  refine ob_i trivial fun _ => ob_i ?_ fun o1 => Fct.leafY ?_
  all_goals try simp only [decide_eq_true_eq, decide_eq_false_iff_not, Bool.not_eq_true', Bool.not_eq_false', bne_iff_ne, bne_eq_false_iff_eq, beq_iff_eq, beq_eq_false_iff_ne, baEq, Int.not_lt, Int.not_le, ne_eq, Decidable.not_not] at *
  all_goals try simp only [fCopyConns, etaToken, etaNode, etaBuilder, etaPolicy, etaPage, etaVisit, etaTab, etaServer, etaCache, etaNet, etaLoader, etaSheet, etaResult, etaSlot, etaModule, etaAddr, etaRequest, etaResponse, etaConn, etaGuess, etaEntry, etaSent, etaFile, baSz, List.size_toArray, List.length_cons, List.length_nil, Nat.reduceAdd, Int.toNat_zero, List.drop_zero, decide_eq_true_eq, decide_eq_false_iff_not, Bool.not_eq_true', Bool.not_eq_false', bne_iff_ne, bne_eq_false_iff_eq, beq_iff_eq, beq_eq_false_iff_ne, Bool.not_eq_true, Bool.not_eq_false, ne_eq, Decidable.not_not, baEq, decide_not, Prod.mk.injEq, and_true, true_and, Room, List.nil_append, Nat.zero_add, Int.not_lt, Int.not_le] at *
  all_goals first | trivial | omega | (simp_all; done) | (simp_all; omega) | grind)
def E17 : D.Env := E16.add 58 fCopyConns
theorem E17ok : EOk Try.prog E17 := E16ok.add k58_16
def lMove : Fct := lawFS [.sl .conn, .el .int]
def fDelConn : GS := ⟨[.g (.sl .conn), .l (.v (.el .int)), .l (.v (.el .int))], [.sl .conn], fun (x_ : (List SConn) × Int × Int × Unit) => 0 ≤ x_.2.1 ∧ x_.2.1 < x_.2.2.1 ∧ x_.2.2.1 ≤ x_.1.length ∧ x_.1.length ≤ 1048576, fun (x_ : (List SConn) × Int × Int × Unit) => ((x_.1.take x_.2.1.toNat ++ x_.1.drop x_.2.2.1.toNat, ()), (()))⟩
theorem del_conn {l : List SConn} {i j : Int} (h0 : 0 ≤ i) (hi : i ≤ j) (hj : j ≤ l.length) (ys : List SConn) {k k' m n j' : Nat} (hjj : j' = j.toNat) (hm : m = l.length - j.toNat) (hk : k = i.toNat + m) (hk' : k' = k) (hn : n = i.toNat) : l.take i.toNat ++ l.drop j.toNat = cut (put3 (put3 l n (cut l j' m)) k ys) 0 k' := by
  subst hjj; subst hk'; subst hk; subst hn
  rw [put3_cut _ _ _ (by rw [put3_length, cut_length]; omega), del_cut (by omega) (by omega) hm]
theorem del_conn2 {l : List SConn} {i : Int} (h0 : 0 ≤ i) (hj : i < l.length) {k m n j' : Nat} (hjj : j' = i.toNat + 1) (hm : m = l.length - j') (hk : k = i.toNat + m) (hn : n = i.toNat) : cut (put3 l n (cut l j' m)) 0 k = l.take i.toNat ++ l.drop (i.toNat + 1) := by
  subst hk; subst hn
  rw [show cut (put3 l i.toNat (cut l j' m)) 0 (i.toNat + m) = (put3 l i.toNat (cut l j' m)).take (i.toNat + m) from rfl, del_cut (by omega) (by omega) hm, hjj]
-- slices.Delete[[]impl.Conn,impl.Conn]
theorem k59_17 : fDelConn.ok Try.prog 59 := GS.of (S := fDelConn) (L := fun _ _ => none) (kp := [0,1,2,6,7,16,1000016]) E17ok Try.func59 (by kernel_rfl) (by kernel_rfl) (by
  rintro ⟨(l : List SConn), (i : Int), (j : Int), _⟩ hp
  refine holds_of (X := .ob ((0 : Int) ≤ i ∧ i ≤ j ∧ j ≤ (↑(List.length l) : Int) ∧ (↑(List.length l) : Int) ≤ (↑(List.length l) : Int)) <|
 .br (i == j)
 (GS.out fDelConn ((l, ()), (())))
 (.ob ((0 : Int) ≤ i ∧ i ≤ (↑(List.length l) : Int)) <|
  .ob ((0 : Int) ≤ j ∧ j ≤ (↑(List.length l) : Int)) <|
  .ob ((0 : Nat) = (0 : Nat) ∧
  (0 : Nat) < List.length l ∧
    Int.toNat j + (List.length l - Int.toNat j) ≤ List.length l ∧
      Int.toNat i - (0 : Nat) + (List.length l - Int.toNat j) ≤ List.length l) <|
  .ob ((0 : Int) ≤ (↑(Int.toNat i - (0 : Nat) + (List.length l - Int.toNat j)) : Int) ∧
  (↑(Int.toNat i - (0 : Nat) + (List.length l - Int.toNat j)) : Int) ≤ (↑(List.length l) : Int) ∧
    (↑(List.length l) : Int) ≤
      (↑((put3 l (Int.toNat i - (0 : Nat)) (cut l (Int.toNat j) (List.length l - Int.toNat j))).length - (0 : Nat)) :
        Int)) <|
  .ob ((0 : Nat) + (↑(Int.toNat i - (0 : Nat) + (List.length l - Int.toNat j)) : Int).toNat +
    ((↑(List.length l) : Int).toNat - (↑(Int.toNat i - (0 : Nat) + (List.length l - Int.toNat j)) : Int).toNat) ≤
  (put3 l (Int.toNat i - (0 : Nat)) (cut l (Int.toNat j) (List.length l - Int.toNat j))).length) <|
  .ob ((0 : Nat) + (Int.toNat i - (0 : Nat) + (List.length l - Int.toNat j)) ≤
  (put3 (put3 l (Int.toNat i - (0 : Nat)) (cut l (Int.toNat j) (List.length l - Int.toNat j)))
      ((0 : Nat) + (↑(Int.toNat i - (0 : Nat) + (List.length l - Int.toNat j)) : Int).toNat)
      (List.replicate
        ((↑(List.length l) : Int).toNat - (↑(Int.toNat i - (0 : Nat) + (List.length l - Int.toNat j)) : Int).toNat)
        default)).length) <|
  GS.out fDelConn ((cut
  (put3 (put3 l (Int.toNat i - (0 : Nat)) (cut l (Int.toNat j) (List.length l - Int.toNat j)))
    ((0 : Nat) + (↑(Int.toNat i - (0 : Nat) + (List.length l - Int.toNat j)) : Int).toNat)
    (List.replicate
      ((↑(List.length l) : Int).toNat - (↑(Int.toNat i - (0 : Nat) + (List.length l - Int.toNat j)) : Int).toNat)
      default))
  (0 : Nat) (Int.toNat i - (0 : Nat) + (List.length l - Int.toNat j)), ()), (())))) (by kernel_rfl) ?_
  refine ob_i ?_ fun o1 => br_i (fun h2 => GS.leafY ?_) (fun h2 => ob_i ?_ fun o3 => ob_i ?_ fun o4 => ob_i ?_ fun o5 => ob_i ?_ fun o6 => ob_i ?_ fun o7 => ob_i ?_ fun o8 => GS.leafY ?_)
  all_goals try simp only [decide_eq_true_eq, decide_eq_false_iff_not, Bool.not_eq_true', Bool.not_eq_false', bne_iff_ne, bne_eq_false_iff_eq, beq_iff_eq, beq_eq_false_iff_ne, baEq, Int.not_lt, Int.not_le, ne_eq, Decidable.not_not] at *
  all_goals try simp only [fDelConn, etaToken, etaNode, etaBuilder, etaPolicy, etaPage, etaVisit, etaTab, etaServer, etaCache, etaNet, etaLoader, etaSheet, etaResult, etaSlot, etaModule, etaAddr, etaRequest, etaResponse, etaConn, etaGuess, etaEntry, etaSent, etaFile, baSz, List.size_toArray, List.length_cons, List.length_nil, Nat.reduceAdd, Int.toNat_zero, List.drop_zero, decide_eq_true_eq, decide_eq_false_iff_not, Bool.not_eq_true', Bool.not_eq_false', bne_iff_ne, bne_eq_false_iff_eq, beq_iff_eq, beq_eq_false_iff_ne, Bool.not_eq_true, Bool.not_eq_false, ne_eq, Decidable.not_not, baEq, decide_not, Prod.mk.injEq, and_true, true_and, Room, List.nil_append, Nat.zero_add, Int.not_lt, Int.not_le] at *
  all_goals first | omega | (simp only [put3_length, cut_length, List.length_replicate] at *; omega) | exact (del_conn (by omega) (by omega) (by omega) _ rfl rfl (by omega) (by omega) (by omega)).symm)
def E18 : D.Env := E17.addG 59 fDelConn
theorem E18ok : EOk Try.prog E18 := E17ok.addG k59_17
def closeConn (l : List SConn) (i : Int) : List SConn := if 0 ≤ i ∧ i < l.length then l.take i.toNat ++ l.drop (i.toNat + 1) else l
theorem closeConn_len (l : List SConn) (i : Int) : (closeConn l i).length ≤ l.length := by unfold closeConn; split <;> simp <;> omega
def fCloseConn : Fct := ⟨[.v (.sl .conn), .v (.el .int)], [.sl .conn], fun (x_ : (List SConn) × Int × Unit) => x_.1.length ≤ 1048576, fun (x_ : (List SConn) × Int × Unit) => (closeConn x_.1 x_.2.1, ())⟩
-- spec.CloseConn
theorem k10_18 : fCloseConn.ok Try.prog 10 := Fct.of (S := fCloseConn) (L := fun _ _ => none) (kp := [0,1,4,5,14,1000014]) E18ok Try.func10 (by kernel_rfl) (by kernel_rfl) (by
  rintro ⟨(l : List SConn), (i : Int), _⟩ hp
  refine holds_of (X := .ob (True) <|
 .ob (Room ((0 : Nat) + List.length l) (112 : Nat)) <|
 .ob (fInRange.pre (i, (0 : Int), IntKind.i64.wrap ((↑(List.length l) : Int) - (1 : Int)), ())) <|
 .lt (Bool × PUnit) (fInRange.fn (i, (0 : Int), IntKind.i64.wrap ((↑(List.length l) : Int) - (1 : Int)), ())) fun z2 =>
 .br (!z2.fst)
  (.leaf (mkR fCloseConn.rs ([] ++ l, ())) [] [])
  (.ob ((0 : Int) ≤ i ∧ i ≤ (↑([] ++ l).length : Int)) <|
   .ob ((0 : Int) ≤ IntKind.i64.wrap (i + (1 : Int)) ∧ IntKind.i64.wrap (i + (1 : Int)) ≤ (↑([] ++ l).length : Int)) <|
   .ob ((0 : Nat) = (0 : Nat) ∧
  (0 : Nat) < ([] ++ l).length ∧
    (IntKind.i64.wrap (i + (1 : Int))).toNat + (([] ++ l).length - (IntKind.i64.wrap (i + (1 : Int))).toNat) ≤
        ([] ++ l).length ∧
      Int.toNat i - (0 : Nat) + (([] ++ l).length - (IntKind.i64.wrap (i + (1 : Int))).toNat) ≤ ([] ++ l).length) <|
   .ob ((0 : Nat) + (Int.toNat i - (0 : Nat) + (([] ++ l).length - (IntKind.i64.wrap (i + (1 : Int))).toNat)) ≤
  (put3 ([] ++ l) (Int.toNat i - (0 : Nat))
      (cut ([] ++ l) (IntKind.i64.wrap (i + (1 : Int))).toNat
        (([] ++ l).length - (IntKind.i64.wrap (i + (1 : Int))).toNat))).length) <|
   .leaf (mkR fCloseConn.rs (cut
  (put3 ([] ++ l) (Int.toNat i - (0 : Nat))
    (cut ([] ++ l) (IntKind.i64.wrap (i + (1 : Int))).toNat
      (([] ++ l).length - (IntKind.i64.wrap (i + (1 : Int))).toNat)))
  (0 : Nat) (Int.toNat i - (0 : Nat) + (([] ++ l).length - (IntKind.i64.wrap (i + (1 : Int))).toNat)), ())) [] [])) (by kernel_rfl) ?_
  refine ob_i trivial fun _ => ob_i ?_ fun o1 => ob_i trivial fun _ => lt_i (br_i (fun h2 => Fct.leafY ?_) (fun h2 => ob_i ?_ fun o3 => ob_i ?_ fun o4 => ob_i ?_ fun o5 => ob_i ?_ fun o6 => Fct.leafY ?_))
  all_goals try simp only [decide_eq_true_eq, decide_eq_false_iff_not, Bool.not_eq_true', Bool.not_eq_false', bne_iff_ne, bne_eq_false_iff_eq, beq_iff_eq, beq_eq_false_iff_ne, baEq, Int.not_lt, Int.not_le, ne_eq, Decidable.not_not] at *
  all_goals try simp only [fCloseConn, fInRange, etaToken, etaNode, etaBuilder, etaPolicy, etaPage, etaVisit, etaTab, etaServer, etaCache, etaNet, etaLoader, etaSheet, etaResult, etaSlot, etaModule, etaAddr, etaRequest, etaResponse, etaConn, etaGuess, etaEntry, etaSent, etaFile, baSz, List.size_toArray, List.length_cons, List.length_nil, Nat.reduceAdd, Int.toNat_zero, List.drop_zero, decide_eq_true_eq, decide_eq_false_iff_not, Bool.not_eq_true', Bool.not_eq_false', bne_iff_ne, bne_eq_false_iff_eq, beq_iff_eq, beq_eq_false_iff_ne, Bool.not_eq_true, Bool.not_eq_false, ne_eq, Decidable.not_not, baEq, decide_not, Prod.mk.injEq, and_true, true_and, Room, List.nil_append, Nat.zero_add, Int.not_lt, Int.not_le, closeConn, fInRange, inRange] at *
  all_goals try simp (disch := omega) only [wrapId', toNat1] at *
  all_goals try simp (disch := omega) only [if_pos, if_neg]
  all_goals try simp only [put3_length, cut_length, List.length_replicate, Bool.and_eq_true, Bool.and_eq_false_iff, decide_eq_true_eq, decide_eq_false_iff_not] at *
  all_goals first | omega | (rw [if_neg (by omega)]; done) | exact del_conn2 (by omega) (by omega) (by omega) (by omega) (by omega) (by omega))
def E19 : D.Env := E18.add 10 fCloseConn
theorem E19ok : EOk Try.prog E19 := E18ok.add k10_18
-- impl.CloseConn
theorem k12_19 : fCloseConn.ok Try.prog 12 := Fct.of (S := fCloseConn) (L := fun _ _ => none) (kp := [0,1,4,5,15,1000015]) E19ok Try.func12 (by kernel_rfl) (by kernel_rfl) (by
  rintro ⟨(l : List SConn), (i : Int), _⟩ hp
  refine holds_of (X := .ob (fCopyConns.pre (l, ())) <|
 .lt (List SConn × PUnit) (fCopyConns.fn (l, ())) fun z2 =>
 .br (decide (i < (0 : Int)))
  (.leaf (mkR fCloseConn.rs (z2.fst, ())) [] [])
  (.br (decide (i ≥ (↑(List.length l) : Int)))
   (.leaf (mkR fCloseConn.rs (z2.fst, ())) [] [])
   (.ob (fDelConn.pre (z2.fst, i, IntKind.i64.wrap (i + (1 : Int)), ())) <|
    .lt ((List SConn × PUnit) × PUnit) (fDelConn.fn (z2.fst, i, IntKind.i64.wrap (i + (1 : Int)), ())) fun z3 =>
    .leaf (mkR fCloseConn.rs (z3.fst.fst, ())) [] []))) (by kernel_rfl) ?_
  refine ob_i ?_ fun o1 => lt_i (br_i (fun h2 => Fct.leafY ?_) (fun h2 => br_i (fun h3 => Fct.leafY ?_) (fun h3 => ob_i ?_ fun o4 => lt_i (Fct.leafY ?_))))
  all_goals try simp only [decide_eq_true_eq, decide_eq_false_iff_not, Bool.not_eq_true', Bool.not_eq_false', bne_iff_ne, bne_eq_false_iff_eq, beq_iff_eq, beq_eq_false_iff_ne, baEq, Int.not_lt, Int.not_le, ne_eq, Decidable.not_not] at *
  all_goals try simp only [fCloseConn, fCopyConns, fDelConn, etaToken, etaNode, etaBuilder, etaPolicy, etaPage, etaVisit, etaTab, etaServer, etaCache, etaNet, etaLoader, etaSheet, etaResult, etaSlot, etaModule, etaAddr, etaRequest, etaResponse, etaConn, etaGuess, etaEntry, etaSent, etaFile, baSz, List.size_toArray, List.length_cons, List.length_nil, Nat.reduceAdd, Int.toNat_zero, List.drop_zero, decide_eq_true_eq, decide_eq_false_iff_not, Bool.not_eq_true', Bool.not_eq_false', bne_iff_ne, bne_eq_false_iff_eq, beq_iff_eq, beq_eq_false_iff_ne, Bool.not_eq_true, Bool.not_eq_false, ne_eq, Decidable.not_not, baEq, decide_not, Prod.mk.injEq, and_true, true_and, Room, List.nil_append, Nat.zero_add, Int.not_lt, Int.not_le, closeConn, fDelConn, fInRange, inRange] at *
  all_goals try simp (disch := omega) only [wrapId', toNat1] at *
  all_goals try simp (disch := omega) only [if_pos, if_neg]
  all_goals first | trivial | omega | grind [wrapId', toNat1, drop_cons, drop_end, good_len, maxLen, closeConn, fDelConn, fInRange, inRange])
def E20 : D.Env := E19.add 12 fCloseConn
theorem E20ok : EOk Try.prog E20 := E19ok.add k12_19
-- laws.FnExactCloseConn
set_option maxHeartbeats 2000000 in
theorem k3_20 : lMove.ok Try.prog 3 := Fct.of (S := lMove) (L := fun _ _ => none) (kp := [0,1,4,5,6,7,8,9,10,11,12,17,30,35,46,54,57,65,70,73,1000017,1000030,1000035,1000046,1000054,1000057,1000065,1000070,1000073]) E20ok Try.func3 (by kernel_rfl) (by kernel_rfl) (by
  rintro ⟨(l : List SConn), (i : Int), _⟩ hp
  refine holds_of (X := .ob (fszConnS.pre (l, (1048576 : Int), ())) <|
 .lt (Int × PUnit) (fszConnS.fn (l, (1048576 : Int), ())) fun z2 =>
 .br (decide (z2.fst < (0 : Int)))
  (.leaf (mkR lMove.rs (true, ())) [] [])
  (.ob (ftoConnS.pre (l, ())) <|
   .lt (List SConn × PUnit) (ftoConnS.fn (l, ())) fun z3 =>
   .ob (fCloseConn.pre (z3.fst, i, ())) <|
    .lt (List SConn × PUnit) (fCloseConn.fn (z3.fst, i, ())) fun z4 =>
    .ob (ftoConnS.pre (l, ())) <|
     .lt (List SConn × PUnit) (ftoConnS.fn (l, ())) fun z5 =>
     .ob (fCloseConn.pre (z5.fst, i, ())) <|
      .lt (List SConn × PUnit) (fCloseConn.fn (z5.fst, i, ())) fun z6 =>
      .ob (feqConnS.pre (z6.fst, z4.fst, ())) <|
       .lt (Bool × PUnit) (feqConnS.fn (z6.fst, z4.fst, ())) fun z7 =>
       .br (!z7.fst)
        (.leaf (mkR lMove.rs (false, ())) [] [])
        (.ob (ftoConnS.pre (l, ())) <|
         .lt (List SConn × PUnit) (ftoConnS.fn (l, ())) fun z8 =>
         .ob (feqConnS.pre (z5.fst, z8.fst, ())) <|
          .lt (Bool × PUnit) (feqConnS.fn (z5.fst, z8.fst, ())) fun z9 =>
          .br (!z9.fst)
           (.leaf (mkR lMove.rs (false, ())) [] [])
           (.ob (fmarkConnS.pre z5.fst (1 : Int)) <|
            .lt (List SConn × Int) (fmarkConnS.fn z5.fst (1 : Int)) fun z10 =>
            .br (decide (z10.snd < (0 : Int)))
             (.leaf (mkR lMove.rs (false, ())) [] [])
             (.ob (feqConnS.pre (z6.fst, z4.fst, ())) <|
              .lt (Bool × PUnit) (feqConnS.fn (z6.fst, z4.fst, ())) fun z11 =>
              .br (!z11.fst)
               (.leaf (mkR lMove.rs (false, ())) [] [])
               (.ob (fmarkConnS.pre z6.fst (1 : Int)) <|
                .lt (List SConn × Int) (fmarkConnS.fn z6.fst (1 : Int)) fun z12 =>
                .ob (fheldConnS.pre (z12.fst, (1 : Int), ())) <|
                 .lt (Int × PUnit) (fheldConnS.fn (z12.fst, (1 : Int), ())) fun z13 =>
                 .br (decide (z13.fst < (0 : Int)))
                  (.leaf (mkR lMove.rs (false, ())) [] [])
                  (.br (z13.fst != z12.snd)
                   (.leaf (mkR lMove.rs (false, ())) [] [])
                   (.ob (ftoConnS.pre (l, ())) <|
                    .lt (List SConn × PUnit) (ftoConnS.fn (l, ())) fun z14 =>
                    .ob (fCloseConn.pre (z14.fst, i, ())) <|
                     .lt (List SConn × PUnit) (fCloseConn.fn (z14.fst, i, ())) fun z15 =>
                     .ob (feqConnS.pre (z15.fst, z4.fst, ())) <|
                      .lt (Bool × PUnit) (feqConnS.fn (z15.fst, z4.fst, ())) fun z16 =>
                      .br (!z16.fst)
                       (.leaf (mkR lMove.rs (false, ())) [] [])
                       (.ob (fheldConnS.pre (z12.fst, (1 : Int), ())) <|
                        .lt (Int × PUnit) (fheldConnS.fn (z12.fst, (1 : Int), ())) fun z17 =>
                        .br (decide (z17.fst < (0 : Int)))
                         (.leaf (mkR lMove.rs (false, ())) [] [])
                         (.br (z17.fst != z12.snd)
                          (.leaf (mkR lMove.rs (false, ())) [] [])
                          (.leaf (mkR lMove.rs (true, ())) [] []))))))))))) (by kernel_rfl) ?_
  refine ob_i ?_ fun o1 => lt_e fun z2 ez2 => (br_i (fun h2 => Fct.leafY ?_) (fun h2 => ob_i ?_ fun o3 => lt_e fun z3 ez3 => (ob_i ?_ fun o4 => lt_e fun z4 ez4 => (ob_i ?_ fun o5 => lt_e fun z5 ez5 => (ob_i ?_ fun o6 => lt_e fun z6 ez6 => (ob_i ?_ fun o7 => lt_e fun z7 ez7 => (br_i (fun h8 => Fct.leafY ?_) (fun h8 => ob_i ?_ fun o9 => lt_e fun z8 ez8 => (ob_i ?_ fun o10 => lt_e fun z9 ez9 => (br_i (fun h11 => Fct.leafY ?_) (fun h11 => ob_i ?_ fun o12 => lt_e fun z10 ez10 => (br_i (fun h13 => Fct.leafY ?_) (fun h13 => ob_i ?_ fun o14 => lt_e fun z11 ez11 => (br_i (fun h15 => Fct.leafY ?_) (fun h15 => ob_i ?_ fun o16 => lt_e fun z12 ez12 => (ob_i ?_ fun o17 => lt_e fun z13 ez13 => (br_i (fun h18 => Fct.leafY ?_) (fun h18 => br_i (fun h19 => Fct.leafY ?_) (fun h19 => ob_i ?_ fun o20 => lt_e fun z14 ez14 => (ob_i ?_ fun o21 => lt_e fun z15 ez15 => (ob_i ?_ fun o22 => lt_e fun z16 ez16 => (br_i (fun h23 => Fct.leafY ?_) (fun h23 => ob_i ?_ fun o24 => lt_e fun z17 ez17 => (br_i (fun h25 => Fct.leafY ?_) (fun h25 => br_i (fun h26 => Fct.leafY ?_) (fun h26 => Fct.leafY ?_))))))))))))))))))))))))))
  all_goals have hg0 : Sh.good (.sl .conn) l := hp.1
  all_goals have hg1 : Sh.good (.el .int) i := hp.2.1
  all_goals clear hp
  all_goals subst_vars
  all_goals try simp only [decide_eq_true_eq, decide_eq_false_iff_not, Bool.not_eq_true', Bool.not_eq_false', bne_iff_ne, bne_eq_false_iff_eq, beq_iff_eq, beq_eq_false_iff_ne, baEq, Int.not_lt, Int.not_le, ne_eq, Decidable.not_not] at *
  all_goals try simp only [fCloseConn, feqConnS, fheldConnS, fmarkConnS, fszConnS, ftoConnS, lMove, etaToken, etaNode, etaBuilder, etaPolicy, etaPage, etaVisit, etaTab, etaServer, etaCache, etaNet, etaLoader, etaSheet, etaResult, etaSlot, etaModule, etaAddr, etaRequest, etaResponse, etaConn, etaGuess, etaEntry, etaSent, etaFile, baSz, List.size_toArray, List.length_cons, List.length_nil, Nat.reduceAdd, Int.toNat_zero, List.drop_zero, decide_eq_true_eq, decide_eq_false_iff_not, Bool.not_eq_true', Bool.not_eq_false', bne_iff_ne, bne_eq_false_iff_eq, beq_iff_eq, beq_eq_false_iff_ne, Bool.not_eq_true, Bool.not_eq_false, ne_eq, Decidable.not_not, baEq, decide_not, Prod.mk.injEq, and_true, true_and, Room, List.nil_append, Nat.zero_add, Int.not_lt, Int.not_le, decide_true] at *
  all_goals have hz0 := szL_len szConn l
  all_goals try simp only [mkConnS_idem, mkConnS_ub] at *
  all_goals first | trivial | omega | grind [lessen, closeConn_len])
def E21 : D.Env := E20.add 3 lMove
theorem E21ok : EOk Try.prog E21 := E20ok.add k3_20

section
open Go.ChangeShapes Go.WideShapes Go.ChangeAt Go.RowKit
theorem own : ownKnob Try.prog.godebug = none := by kernel_rfl
theorem types : ∀ e t, tyOf e = some t → e ∈ ([3, 4, 5, 9, 34, 36, 54, 69, 77, 80, 86, 89, 94, 95, 97, 111, 156, 158, 162, 166, 168, 177, 181, 184, 188, 215, 218, 220, 222, 226, 231, 254, 257, 259] : List TypeId) := by
  intro e t h
  unfold tyOf at h
  split at h <;> first | (simp; done) | cases h
theorem lifted (os : Os) (started : os.Started) (H : Type) (enc : TypeId × Value → H) :
    ReturnsInHanded {} Try.checked os 3 .any (Rows.fnExactCloseConnSpec.pre6 enc Try.prog Try.f3 Rows.fnExactCloseConnRow.domain false) (Rows.fnExactCloseConnSpec.post enc Try.prog Try.f3 false true false false) := by
  refine handed_sh (C := Try.checked) own started (by kernel_rfl) Try.func3
    (ChangeSpec.witness6 (enc := enc) (C := Try.checked) false ⟨#[], #[.slice none 0 0, .int .i64 0], []⟩ 8 (by kernel_rfl) (by kernel_rfl) (by kernel_rfl) (by kernel_rfl)) ?_
  intro W base args ds gs before hval0 hW hsh
  have hval : ∀ (j : Nat) t v, Try.f3.params[j]? = some t → args[j]? = some v → Value.okWide Try.prog W .any base t v := hval0
  refine law_calls (show rowOk Try.prog Try.f3 tyOf [3, 4, 5, 9, 34, 36, 54, 69, 77, 80, 86, 89, 94, 95, 97, 111, 156, 158, 162, 166, 168, 177, 181, 184, 188, 215, 218, 220, 222, 226, 231, 254, 257, 259] [.sl .conn, .el .int] = true by kernel_rfl) types rfl Try.underlying4 rfl hW (fun xs h => ?_) hval hsh k3_20
  · rw [Try.params3] at h
    match xs, (show xs.length = 2 from h) with
    | [x0, x1], _ => rfl
set_option maxHeartbeats 0 in
theorem closed : joinedFacts Try.prog 3 Try.f3 Rows.fnExactCloseConnSpec Rows.fnExactCloseConnRow = true := by
  unfold joinedFacts
  refine (and_i (and_i (and_i (and_i (and_i (and_i (and_i (and_i (and_i (and_i (and_i (and_i (and_i (and_i (and_i (and_i (and_i (and_i (and_i (and_i (and_i (and_i (and_i (and_i (and_i (and_i (and_i (and_i (and_i (and_i (and_i ?_ ?_) ?_) ?_) ?_) ?_) ?_) ?_) ?_) ?_) ?_) ?_) ?_) ?_) ?_) ?_) ?_) ?_) ?_) ?_) ?_) ?_) ?_) ?_) ?_) ?_) ?_) ?_) ?_) ?_) ?_) ?_)
  all_goals decide +kernel
theorem over : Rows.fnExactCloseConnRow.holds Try.pinned (OpenSpec.ofChange Rows.fnExactCloseConnSpec) :=
  OpenClaim.holds_of_wide 3 Try.f3 rfl rfl rfl rfl rfl rfl rfl ⟨rfl, rfl, rfl, rfl, rfl⟩ rfl rfl rfl rfl rfl (by kernel_rfl) Try.func3 closed
    (of_decide_eq_true (by kernel_rfl)) (by unfold Func.isWrapper; first | (rw [if_pos (by decide +kernel)]; kernel_rfl) | (rw [if_neg (by decide +kernel)]; exact ⟨rfl, rfl⟩))
    (fun os started H enc _ => lifted os started H enc)
theorem proved : Rows.FnExactCloseConnSaid := over
end
end Go.Proofs.Ytkadnfkdgljfoaa.fnExactCloseConn
