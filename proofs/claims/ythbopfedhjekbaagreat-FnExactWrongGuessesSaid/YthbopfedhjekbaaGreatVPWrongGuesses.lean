/-
  The program's WrongGuesses returns what the reference's returns, for all arguments: the law returns true. No condition.
-/
import Derived.Test.YthbopfedhjekbaaGreatVPWrongGuesses1
import Derived.Test.YthbopfedhjekbaaGreatRows
import Derived.WalkKit
import Derived.ProofKit
import Derived.OpenShut
namespace Go.Proofs.YthbopfedhjekbaaGreat.fnExactWrongGuesses
open Go.Proofs.YthbopfedhjekbaaGreat
open Go.D
set_option maxRecDepth 100000
set_option linter.unusedVariables false
set_option linter.unusedSimpArgs false

-- laws.szGuessS
set_option maxHeartbeats 2000000 in
theorem k77_90 : fszGuessS.ok Tryz.prog 77 := Fct.of (S := fszGuessS) (L := fun ⟨l, n, _⟩ => fun | 5 => some (LszS .guess szGuess l n) | _ => none) (kp := [0,1,4,5,11,15,25,1000011,1000015,1000025]) E90ok Tryz.func77 (by kernel_rfl) (by kernel_rfl) (by
  rintro ⟨(l : List SGuess), (n : Int), _⟩ hp
  refine holds_of (X := .br (decide (IntKind.i64.wrap (n - (↑l.length : Int)) < (0 : Int)))
 (.leaf (mkR fszGuessS.rs ((-1 : Int), ())) [] [])
 (lpx (LszS .guess szGuess l n) (IntKind.i64.wrap (n - (↑l.length : Int)), ((0 : Int), ())) fun (y2 : Int × Int × PUnit) bk2 =>
  .br (decide (y2.snd.fst < (↑l.length : Int)))
   (.ob ((0 : Int) ≤ y2.snd.fst ∧ y2.snd.fst < (↑l.length : Int)) <|
    .ob (fszGuess.pre (l.getD y2.snd.fst.toNat default, y2.fst, ())) <|
    .lt (Int × PUnit) (fszGuess.fn (l.getD y2.snd.fst.toNat default, y2.fst, ())) fun z2 =>
    .br (decide (z2.fst < (0 : Int)))
     (.leaf (mkR fszGuessS.rs ((-1 : Int), ())) [] [])
     (.ob (l = l) <|
      .ob (bk2 (z2.fst, (IntKind.i64.wrap (y2.snd.fst + (1 : Int)), ()))) <|
      .ok))
   (.leaf (mkR fszGuessS.rs (y2.fst, ())) [] []))) (by kernel_rfl) ?_
  refine br_i (fun h1 => Fct.leafY ?_) (fun h1 => lpx_i ?_ fun (y2 : Int × Int × PUnit) i2 => br_i (fun h3 => ob_i ?_ fun o4 => ob_i ?_ fun o5 => lt_i (br_i (fun h6 => Fct.leafY ?_) (fun h6 => ob_i rfl fun _ => ob_i ?_ fun o7 => trivial))) (fun h3 => Fct.leafY ?_))
  all_goals try simp only [decide_eq_true_eq, decide_eq_false_iff_not, Bool.not_eq_true', Bool.not_eq_false', bne_iff_ne, bne_eq_false_iff_eq, beq_iff_eq, beq_eq_false_iff_ne, baEq, Int.not_lt, Int.not_le, ne_eq, Decidable.not_not] at *
  all_goals try simp only [LszS, fszGuess, fszGuessS, etaToken, etaNode, etaBuilder, etaPolicy, etaPage, etaVisit, etaTab, etaServer, etaCache, etaNet, etaLoader, etaSheet, etaResult, etaSlot, etaModule, etaAddr, etaRequest, etaResponse, etaConn, etaGuess, etaEntry, etaSent, etaFile, baSz, List.size_toArray, List.length_cons, List.length_nil, Nat.reduceAdd, Int.toNat_zero, List.drop_zero, decide_eq_true_eq, decide_eq_false_iff_not, Bool.not_eq_true', Bool.not_eq_false', bne_iff_ne, bne_eq_false_iff_eq, beq_iff_eq, beq_eq_false_iff_ne, Bool.not_eq_true, Bool.not_eq_false, ne_eq, Decidable.not_not, baEq, decide_not, Prod.mk.injEq, and_true, true_and, Room, List.nil_append, Nat.zero_add, Int.not_lt, Int.not_le] at *
  · have := good_len hp.1; simp only [maxLen] at this; rw [wrapId (by omega)] at h1
    rw [lessenNeg (by simp only [szL]; omega)]
  · have := good_len hp.1; simp only [maxLen] at this
    rw [wrapId (by omega)] at h1 ⊢
    exact ⟨by omega, by omega, h1, by simp⟩
  · omega
  · exact ⟨good_getD hp.1 (by omega), by omega, by omega⟩
  · have hs := sum_take_le szGuess l (y2.2.1.toNat + 1)
    rw [sum_take szGuess (by omega)] at hs
    rw [lessen_lt (by omega)] at h6
    rw [lessenNeg (by simp only [szL]; omega)]
  · have hw : IntKind.i64.wrap (y2.2.1 + 1) = y2.2.1 + 1 := wrapId (by have := good_len hp.1; simp only [maxLen] at this; omega)
    have h7 : ¬ lessen y2.1 (szGuess (l.getD y2.2.1.toNat default)) < 0 := by omega
    rw [lessen_lt (by omega)] at h7
    rw [hw, toNat1 (by omega), sum_take szGuess (by omega), lessen_ge (by omega)]
    exact ⟨⟨by omega, by omega, by omega, by omega⟩, by omega⟩
  · have e : l.take y2.2.1.toNat = l := List.take_of_length_le (by omega)
    rw [e] at i2
    have hz : ((szL szGuess l : Nat) : Int) = l.length + (l.map szGuess).sum := by simp only [szL]; omega
    rw [lessen_ge (by omega)]
    show y2.1 = n - ((szL szGuess l : Nat) : Int)
    omega)
def E91 : D.Env := E90.add 77 fszGuessS
theorem E91ok : EOk Tryz.prog E91 := E90ok.add k77_90
-- laws.toGuessS
theorem k82_91 : ftoGuessS.ok Tryz.prog 82 := Fct.of (S := ftoGuessS) (L := fun ⟨l, _⟩ => fun | 3 => some (LtoS .guess l) | _ => none) (kp := [0,2,3,4,11,1000011]) E91ok Tryz.func82 (by kernel_rfl) (by kernel_rfl) (by
  rintro ⟨(l : List SGuess), _⟩ hp
  refine holds_of (X := .ob ((↑l.length : Int) = (↑l.length : Int) ∧
  (0 : Int) ≤ (↑l.length : Int) ∧
    (104 : Int) * (↑l.length : Int) ≤ (140737488355328 : Int) ∧ (↑l.length : Int) ≤ (140737488355328 : Int)) <|
 lpx (LtoS .guess l) ((0 : Int), (List.replicate (↑l.length : Int).toNat default, ())) fun (y2 : Int × List SGuess × PUnit) bk2 =>
 .br (decide (y2.fst < (↑l.length : Int)))
  (.ob ((0 : Int) ≤ y2.fst ∧ y2.fst < (↑l.length : Int)) <|
   .ob (ftoGuess.pre (l.getD y2.fst.toNat default, ())) <|
   .lt (SGuess × PUnit) (ftoGuess.fn (l.getD y2.fst.toNat default, ())) fun z2 =>
   .ob ((0 : Int) ≤ y2.fst ∧ y2.fst < (↑y2.snd.fst.length : Int)) <|
    .ob (y2.fst.toNat < y2.snd.fst.length) <|
    .lt (List SGuess) (y2.snd.fst.modify y2.fst.toNat fun z => z2.fst) fun z3 =>
    .ob (l = l) <|
     .ob (bk2 (IntKind.i64.wrap (y2.fst + (1 : Int)), (z3, ()))) <|
     .ok)
  (.leaf (mkR ftoGuessS.rs (y2.snd.fst, ())) [] [])) (by kernel_rfl) ?_
  refine ob_i ?_ fun o1 => lpx_i ?_ fun (y2 : Int × List SGuess × PUnit) i2 => br_i (fun h3 => ob_i ?_ fun o4 => ob_i ?_ fun o5 => lt_i (ob_i ?_ fun o6 => ob_i ?_ fun o7 => lt_i (ob_i rfl fun _ => ob_i ?_ fun o8 => trivial))) (fun h3 => Fct.leafY ?_)
  all_goals try simp only [decide_eq_true_eq, decide_eq_false_iff_not, Bool.not_eq_true', Bool.not_eq_false', bne_iff_ne, bne_eq_false_iff_eq, beq_iff_eq, beq_eq_false_iff_ne, baEq, Int.not_lt, Int.not_le, ne_eq, Decidable.not_not] at *
  all_goals try simp only [LtoS, ftoGuess, ftoGuessS, etaToken, etaNode, etaBuilder, etaPolicy, etaPage, etaVisit, etaTab, etaServer, etaCache, etaNet, etaLoader, etaSheet, etaResult, etaSlot, etaModule, etaAddr, etaRequest, etaResponse, etaConn, etaGuess, etaEntry, etaSent, etaFile, baSz, List.size_toArray, List.length_cons, List.length_nil, Nat.reduceAdd, Int.toNat_zero, List.drop_zero, decide_eq_true_eq, decide_eq_false_iff_not, Bool.not_eq_true', Bool.not_eq_false', bne_iff_ne, bne_eq_false_iff_eq, beq_iff_eq, beq_eq_false_iff_ne, Bool.not_eq_true, Bool.not_eq_false, ne_eq, Decidable.not_not, baEq, decide_not, Prod.mk.injEq, and_true, true_and, Room, List.nil_append, Nat.zero_add, Int.not_lt, Int.not_le] at *
  · have := szL_len szGuess l; omega
  · exact ⟨by omega, by omega, by simp⟩
  · omega
  · have hs := sum_take_le szGuess l (y2.1.toNat + 1)
    rw [sum_take szGuess (by omega)] at hs
    simp only [szL] at hp; omega
  · rw [i2.2.2]; simp; omega
  · rw [i2.2.2]; simp; omega
  · have hw : IntKind.i64.wrap (y2.1 + 1) = y2.1 + 1 := wrapId (by have := szL_len szGuess l; omega)
    rw [hw, toNat1 (by omega), i2.2.2]
    refine ⟨⟨by omega, by omega, ?_⟩, by omega⟩
    rw [show l.length - y2.1.toNat = (l.length - (y2.1.toNat + 1)) + 1 from by omega, List.replicate_succ, mod_at (by simp; omega), take_succ (by omega)]
    simp
  · have e : l.take y2.1.toNat = l := List.take_of_length_le (by omega)
    rw [i2.2.2, e]; simp; omega)
def E92 : D.Env := E91.add 82 ftoGuessS
theorem E92ok : EOk Tryz.prog E92 := E91ok.add k82_91
-- laws.eqGuessS
set_option maxHeartbeats 2000000 in
theorem k87_92 : feqGuessS.ok Tryz.prog 87 := Fct.of (S := feqGuessS) (L := fun ⟨l, m, _⟩ => fun | 4 => some (LeqS .guess l m) | _ => none) (kp := [0,1,4,5,10,14,26,1000010,1000014,1000026]) E92ok Tryz.func87 (by kernel_rfl) (by kernel_rfl) (by
  rintro ⟨(l : List SGuess), (m : List SGuess), _⟩ hp
  refine holds_of (X := .br ((↑l.length : Int) != (↑m.length : Int))
 (.leaf (mkR feqGuessS.rs (false, ())) [] [])
 (lpx (LeqS .guess l m) ((0 : Int), ()) fun (y2 : Int × PUnit) bk2 =>
  .br (decide (y2.fst < (↑l.length : Int)))
   (.ob ((0 : Int) ≤ y2.fst ∧ y2.fst < (↑l.length : Int)) <|
    .ob ((0 : Int) ≤ y2.fst ∧ y2.fst < (↑m.length : Int)) <|
    .ob (feqGuess.pre (l.getD y2.fst.toNat default, m.getD y2.fst.toNat default, ())) <|
    .lt (Bool × PUnit) (feqGuess.fn (l.getD y2.fst.toNat default, m.getD y2.fst.toNat default, ())) fun z2 =>
    .br (!z2.fst)
     (.leaf (mkR feqGuessS.rs (false, ())) [] [])
     (.ob (l = l) <|
      .ob (m = m) <|
      .ob (bk2 (IntKind.i64.wrap (y2.fst + (1 : Int)), ())) <|
      .ok))
   (.leaf (mkR feqGuessS.rs (true, ())) [] []))) (by kernel_rfl) ?_
  refine br_i (fun h1 => Fct.leafY ?_) (fun h1 => lpx_i ?_ fun (y2 : Int × PUnit) i2 => br_i (fun h3 => ob_i ?_ fun o4 => ob_i ?_ fun o5 => ob_i trivial fun _ => lt_i (br_i (fun h6 => Fct.leafY ?_) (fun h6 => ob_i rfl fun _ => ob_i rfl fun _ => ob_i ?_ fun o7 => trivial))) (fun h3 => Fct.leafY ?_))
  all_goals try simp only [decide_eq_true_eq, decide_eq_false_iff_not, Bool.not_eq_true', Bool.not_eq_false', bne_iff_ne, bne_eq_false_iff_eq, beq_iff_eq, beq_eq_false_iff_ne, baEq, Int.not_lt, Int.not_le, ne_eq, Decidable.not_not] at *
  all_goals try simp only [LeqS, feqGuess, feqGuessS, etaToken, etaNode, etaBuilder, etaPolicy, etaPage, etaVisit, etaTab, etaServer, etaCache, etaNet, etaLoader, etaSheet, etaResult, etaSlot, etaModule, etaAddr, etaRequest, etaResponse, etaConn, etaGuess, etaEntry, etaSent, etaFile, baSz, List.size_toArray, List.length_cons, List.length_nil, Nat.reduceAdd, Int.toNat_zero, List.drop_zero, decide_eq_true_eq, decide_eq_false_iff_not, Bool.not_eq_true', Bool.not_eq_false', bne_iff_ne, bne_eq_false_iff_eq, beq_iff_eq, beq_eq_false_iff_ne, Bool.not_eq_true, Bool.not_eq_false, ne_eq, Decidable.not_not, baEq, decide_not, Prod.mk.injEq, and_true, true_and, Room, List.nil_append, Nat.zero_add, Int.not_lt, Int.not_le] at *
  · rw [decide_eq_false]; rintro rfl; omega
  · exact ⟨by omega, by omega, by simp⟩
  · omega
  · omega
  · rw [decide_eq_false]; rintro rfl; exact absurd rfl h6
  · have hw : IntKind.i64.wrap (y2.1 + 1) = y2.1 + 1 := wrapId (by omega)
    rw [hw, toNat1 (by omega)]
    refine ⟨⟨by omega, by omega, ?_⟩, by omega⟩
    rw [take_succ (by omega), take_succ (by omega), i2.2.2, h6]
  · have e : l.take y2.1.toNat = l := List.take_of_length_le (by omega)
    have e2 : m.take y2.1.toNat = m := List.take_of_length_le (by omega)
    rw [decide_eq_true]; rw [← e, ← e2, i2.2.2])
def E93 : D.Env := E92.add 87 feqGuessS
theorem E93ok : EOk Tryz.prog E93 := E92ok.add k87_92
-- laws.szConn
set_option maxHeartbeats 2000000 in
theorem k192_93 : fszConn.ok Tryz.prog 192 := Fct.of (S := fszConn) (L := fun _ _ => none) (kp := [1,2,4,10,16,1000010,1000016]) E93ok Tryz.func192 (by kernel_rfl) (by kernel_rfl) (by
  rintro ⟨(x : SConn), (n : Int), _⟩ hp
  refine holds_of (X := .ob (fszAddr.pre (x.to, n, ())) <|
 .lt (Int × PUnit) (fszAddr.fn (x.to, n, ())) fun z2 =>
 .br (decide (z2.fst < (0 : Int)))
  (.leaf (mkR fszConn.rs ((-1 : Int), ())) [] [])
  (.ob (fszResponse.pre (x.response, z2.fst, ())) <|
   .lt (Int × PUnit) (fszResponse.fn (x.response, z2.fst, ())) fun z3 =>
   .br (decide (z3.fst < (0 : Int)))
    (.leaf (mkR fszConn.rs ((-1 : Int), ())) [] [])
    (.leaf (mkR fszConn.rs (z3.fst, ())) [] []))) (by kernel_rfl) ?_
  refine ob_i ?_ fun o1 => lt_i (br_i (fun h2 => Fct.leafY ?_) (fun h2 => ob_i ?_ fun o3 => lt_i (br_i (fun h4 => Fct.leafY ?_) (fun h4 => Fct.leafY ?_))))
  all_goals try simp only [decide_eq_true_eq, decide_eq_false_iff_not, Bool.not_eq_true', Bool.not_eq_false', bne_iff_ne, bne_eq_false_iff_eq, beq_iff_eq, beq_eq_false_iff_ne, baEq, Int.not_lt, Int.not_le, ne_eq, Decidable.not_not] at *
  all_goals try simp only [fszAddr, fszConn, fszResponse, etaToken, etaNode, etaBuilder, etaPolicy, etaPage, etaVisit, etaTab, etaServer, etaCache, etaNet, etaLoader, etaSheet, etaResult, etaSlot, etaModule, etaAddr, etaRequest, etaResponse, etaConn, etaGuess, etaEntry, etaSent, etaFile, baSz, List.size_toArray, List.length_cons, List.length_nil, Nat.reduceAdd, Int.toNat_zero, List.drop_zero, decide_eq_true_eq, decide_eq_false_iff_not, Bool.not_eq_true', Bool.not_eq_false', bne_iff_ne, bne_eq_false_iff_eq, beq_iff_eq, beq_eq_false_iff_ne, Bool.not_eq_true, Bool.not_eq_false, ne_eq, Decidable.not_not, baEq, decide_not, Prod.mk.injEq, and_true, true_and, Room, List.nil_append, Nat.zero_add, Int.not_lt, Int.not_le, Sh.good, Sh.fc, enc, List.forall_mem_cons, List.not_mem_nil, false_implies, implies_true, goodC, maxLen] at *
  all_goals grind [wrapId', lessen, szAddr, szConn, szResponse])
def E94 : D.Env := E93.add 192 fszConn
theorem E94ok : EOk Tryz.prog E94 := E93ok.add k192_93
-- laws.toConn
theorem k198_94 : ftoConn.ok Tryz.prog 198 := Fct.of (S := ftoConn) (L := fun _ _ => none) (kp := [1,2,3]) E94ok Tryz.func198 (by kernel_rfl) (by kernel_rfl) (by
  rintro ⟨(x : SConn), _⟩ hp
  refine holds_of (X := .ob (ftoAddr.pre (x.to, ())) <|
 .lt (SAddr × PUnit) (ftoAddr.fn (x.to, ())) fun z2 =>
 .ob (ftoResponse.pre (x.response, ())) <|
  .lt (SResponse × PUnit) (ftoResponse.fn (x.response, ())) fun z3 =>
  .leaf (mkR ftoConn.rs (⟨z2.fst, x.left, x.guess, z3.fst⟩, ())) [] []) (by kernel_rfl) ?_
  refine ob_i ?_ fun o1 => lt_i (ob_i ?_ fun o2 => lt_i (Fct.leafY ?_))
  all_goals try simp only [decide_eq_true_eq, decide_eq_false_iff_not, Bool.not_eq_true', Bool.not_eq_false', bne_iff_ne, bne_eq_false_iff_eq, beq_iff_eq, beq_eq_false_iff_ne, baEq, Int.not_lt, Int.not_le, ne_eq, Decidable.not_not] at *
  all_goals try simp only [ftoAddr, ftoConn, ftoResponse, etaToken, etaNode, etaBuilder, etaPolicy, etaPage, etaVisit, etaTab, etaServer, etaCache, etaNet, etaLoader, etaSheet, etaResult, etaSlot, etaModule, etaAddr, etaRequest, etaResponse, etaConn, etaGuess, etaEntry, etaSent, etaFile, baSz, List.size_toArray, List.length_cons, List.length_nil, Nat.reduceAdd, Int.toNat_zero, List.drop_zero, decide_eq_true_eq, decide_eq_false_iff_not, Bool.not_eq_true', Bool.not_eq_false', bne_iff_ne, bne_eq_false_iff_eq, beq_iff_eq, beq_eq_false_iff_ne, Bool.not_eq_true, Bool.not_eq_false, ne_eq, Decidable.not_not, baEq, decide_not, Prod.mk.injEq, and_true, true_and, Room, List.nil_append, Nat.zero_add, Int.not_lt, Int.not_le] at *
  all_goals first | trivial | rfl | grind [szAddr, szConn, szResponse])
def E95 : D.Env := E94.add 198 ftoConn
theorem E95ok : EOk Tryz.prog E95 := E94ok.add k198_94
-- laws.eqConn
set_option maxHeartbeats 2000000 in
theorem k204_95 : feqConn.ok Tryz.prog 204 := Fct.of (S := feqConn) (L := fun _ _ => none) (kp := [2,3,4,10,15,20,26,1000010,1000015,1000020,1000026]) E95ok Tryz.func204 (by kernel_rfl) (by kernel_rfl) (by
  rintro ⟨(x : SConn), (y : SConn), _⟩ hp
  refine holds_of (X := .ob (feqAddr.pre (x.to, y.to, ())) <|
 .lt (Bool × PUnit) (feqAddr.fn (x.to, y.to, ())) fun z2 =>
 .br (!z2.fst)
  (.leaf (mkR feqConn.rs (false, ())) [] [])
  (.br (x.left != y.left)
   (.leaf (mkR feqConn.rs (false, ())) [] [])
   (.br (!x.guess == y.guess)
    (.leaf (mkR feqConn.rs (false, ())) [] [])
    (.ob (feqResponse.pre (x.response, y.response, ())) <|
     .lt (Bool × PUnit) (feqResponse.fn (x.response, y.response, ())) fun z3 =>
     .br (!z3.fst)
      (.leaf (mkR feqConn.rs (false, ())) [] [])
      (.leaf (mkR feqConn.rs (true, ())) [] []))))) (by kernel_rfl) ?_
  refine ob_i trivial fun _ => lt_i (br_i (fun h1 => Fct.leafY ?_) (fun h1 => br_i (fun h2 => Fct.leafY ?_) (fun h2 => br_i (fun h3 => Fct.leafY ?_) (fun h3 => ob_i trivial fun _ => lt_i (br_i (fun h4 => Fct.leafY ?_) (fun h4 => Fct.leafY ?_))))))
  all_goals try simp only [decide_eq_true_eq, decide_eq_false_iff_not, Bool.not_eq_true', Bool.not_eq_false', bne_iff_ne, bne_eq_false_iff_eq, beq_iff_eq, beq_eq_false_iff_ne, baEq, Int.not_lt, Int.not_le, ne_eq, Decidable.not_not] at *
  all_goals try simp only [feqAddr, feqConn, feqResponse, etaToken, etaNode, etaBuilder, etaPolicy, etaPage, etaVisit, etaTab, etaServer, etaCache, etaNet, etaLoader, etaSheet, etaResult, etaSlot, etaModule, etaAddr, etaRequest, etaResponse, etaConn, etaGuess, etaEntry, etaSent, etaFile, baSz, List.size_toArray, List.length_cons, List.length_nil, Nat.reduceAdd, Int.toNat_zero, List.drop_zero, decide_eq_true_eq, decide_eq_false_iff_not, Bool.not_eq_true', Bool.not_eq_false', bne_iff_ne, bne_eq_false_iff_eq, beq_iff_eq, beq_eq_false_iff_ne, Bool.not_eq_true, Bool.not_eq_false, ne_eq, Decidable.not_not, baEq, decide_not, Prod.mk.injEq, and_true, true_and, Room, List.nil_append, Nat.zero_add, Int.not_lt, Int.not_le] at *
  all_goals first | trivial | (cases x; cases y; simp_all; done) | (simp only [szAddr, szConn, szResponse] at *; omega) | grind [szAddr, szConn, szResponse])
def E96 : D.Env := E95.add 204 feqConn
theorem E96ok : EOk Tryz.prog E96 := E95ok.add k204_95
-- laws.szConnS
set_option maxHeartbeats 2000000 in
theorem k76_96 : fszConnS.ok Tryz.prog 76 := Fct.of (S := fszConnS) (L := fun ⟨l, n, _⟩ => fun | 5 => some (LszS .conn szConn l n) | _ => none) (kp := [0,1,4,5,11,15,25,1000011,1000015,1000025]) E96ok Tryz.func76 (by kernel_rfl) (by kernel_rfl) (by
  rintro ⟨(l : List SConn), (n : Int), _⟩ hp
  refine holds_of (X := .br (decide (IntKind.i64.wrap (n - (↑l.length : Int)) < (0 : Int)))
 (.leaf (mkR fszConnS.rs ((-1 : Int), ())) [] [])
 (lpx (LszS .conn szConn l n) (IntKind.i64.wrap (n - (↑l.length : Int)), ((0 : Int), ())) fun (y2 : Int × Int × PUnit) bk2 =>
  .br (decide (y2.snd.fst < (↑l.length : Int)))
   (.ob ((0 : Int) ≤ y2.snd.fst ∧ y2.snd.fst < (↑l.length : Int)) <|
    .ob (fszConn.pre (l.getD y2.snd.fst.toNat default, y2.fst, ())) <|
    .lt (Int × PUnit) (fszConn.fn (l.getD y2.snd.fst.toNat default, y2.fst, ())) fun z2 =>
    .br (decide (z2.fst < (0 : Int)))
     (.leaf (mkR fszConnS.rs ((-1 : Int), ())) [] [])
     (.ob (l = l) <|
      .ob (bk2 (z2.fst, (IntKind.i64.wrap (y2.snd.fst + (1 : Int)), ()))) <|
      .ok))
   (.leaf (mkR fszConnS.rs (y2.fst, ())) [] []))) (by kernel_rfl) ?_
  refine br_i (fun h1 => Fct.leafY ?_) (fun h1 => lpx_i ?_ fun (y2 : Int × Int × PUnit) i2 => br_i (fun h3 => ob_i ?_ fun o4 => ob_i ?_ fun o5 => lt_i (br_i (fun h6 => Fct.leafY ?_) (fun h6 => ob_i rfl fun _ => ob_i ?_ fun o7 => trivial))) (fun h3 => Fct.leafY ?_))
  all_goals try simp only [decide_eq_true_eq, decide_eq_false_iff_not, Bool.not_eq_true', Bool.not_eq_false', bne_iff_ne, bne_eq_false_iff_eq, beq_iff_eq, beq_eq_false_iff_ne, baEq, Int.not_lt, Int.not_le, ne_eq, Decidable.not_not] at *
  all_goals try simp only [LszS, fszConn, fszConnS, etaToken, etaNode, etaBuilder, etaPolicy, etaPage, etaVisit, etaTab, etaServer, etaCache, etaNet, etaLoader, etaSheet, etaResult, etaSlot, etaModule, etaAddr, etaRequest, etaResponse, etaConn, etaGuess, etaEntry, etaSent, etaFile, baSz, List.size_toArray, List.length_cons, List.length_nil, Nat.reduceAdd, Int.toNat_zero, List.drop_zero, decide_eq_true_eq, decide_eq_false_iff_not, Bool.not_eq_true', Bool.not_eq_false', bne_iff_ne, bne_eq_false_iff_eq, beq_iff_eq, beq_eq_false_iff_ne, Bool.not_eq_true, Bool.not_eq_false, ne_eq, Decidable.not_not, baEq, decide_not, Prod.mk.injEq, and_true, true_and, Room, List.nil_append, Nat.zero_add, Int.not_lt, Int.not_le] at *
  · have := good_len hp.1; simp only [maxLen] at this; rw [wrapId (by omega)] at h1
    rw [lessenNeg (by simp only [szL]; omega)]
  · have := good_len hp.1; simp only [maxLen] at this
    rw [wrapId (by omega)] at h1 ⊢
    exact ⟨by omega, by omega, h1, by simp⟩
  · omega
  · exact ⟨good_getD hp.1 (by omega), by omega, by omega⟩
  · have hs := sum_take_le szConn l (y2.2.1.toNat + 1)
    rw [sum_take szConn (by omega)] at hs
    rw [lessen_lt (by omega)] at h6
    rw [lessenNeg (by simp only [szL]; omega)]
  · have hw : IntKind.i64.wrap (y2.2.1 + 1) = y2.2.1 + 1 := wrapId (by have := good_len hp.1; simp only [maxLen] at this; omega)
    have h7 : ¬ lessen y2.1 (szConn (l.getD y2.2.1.toNat default)) < 0 := by omega
    rw [lessen_lt (by omega)] at h7
    rw [hw, toNat1 (by omega), sum_take szConn (by omega), lessen_ge (by omega)]
    exact ⟨⟨by omega, by omega, by omega, by omega⟩, by omega⟩
  · have e : l.take y2.2.1.toNat = l := List.take_of_length_le (by omega)
    rw [e] at i2
    have hz : ((szL szConn l : Nat) : Int) = l.length + (l.map szConn).sum := by simp only [szL]; omega
    rw [lessen_ge (by omega)]
    show y2.1 = n - ((szL szConn l : Nat) : Int)
    omega)
def E97 : D.Env := E96.add 76 fszConnS
theorem E97ok : EOk Tryz.prog E97 := E96ok.add k76_96
-- laws.toConnS
theorem k81_97 : ftoConnS.ok Tryz.prog 81 := Fct.of (S := ftoConnS) (L := fun ⟨l, _⟩ => fun | 3 => some (LtoS .conn l) | _ => none) (kp := [0,2,3,4,11,1000011]) E97ok Tryz.func81 (by kernel_rfl) (by kernel_rfl) (by
  rintro ⟨(l : List SConn), _⟩ hp
  refine holds_of (X := .ob ((↑l.length : Int) = (↑l.length : Int) ∧
  (0 : Int) ≤ (↑l.length : Int) ∧
    (112 : Int) * (↑l.length : Int) ≤ (140737488355328 : Int) ∧ (↑l.length : Int) ≤ (140737488355328 : Int)) <|
 lpx (LtoS .conn l) ((0 : Int), (List.replicate (↑l.length : Int).toNat default, ())) fun (y2 : Int × List SConn × PUnit) bk2 =>
 .br (decide (y2.fst < (↑l.length : Int)))
  (.ob ((0 : Int) ≤ y2.fst ∧ y2.fst < (↑l.length : Int)) <|
   .ob (ftoConn.pre (l.getD y2.fst.toNat default, ())) <|
   .lt (SConn × PUnit) (ftoConn.fn (l.getD y2.fst.toNat default, ())) fun z2 =>
   .ob ((0 : Int) ≤ y2.fst ∧ y2.fst < (↑y2.snd.fst.length : Int)) <|
    .ob (y2.fst.toNat < y2.snd.fst.length) <|
    .lt (List SConn) (y2.snd.fst.modify y2.fst.toNat fun z => z2.fst) fun z3 =>
    .ob (l = l) <|
     .ob (bk2 (IntKind.i64.wrap (y2.fst + (1 : Int)), (z3, ()))) <|
     .ok)
  (.leaf (mkR ftoConnS.rs (y2.snd.fst, ())) [] [])) (by kernel_rfl) ?_
  refine ob_i ?_ fun o1 => lpx_i ?_ fun (y2 : Int × List SConn × PUnit) i2 => br_i (fun h3 => ob_i ?_ fun o4 => ob_i ?_ fun o5 => lt_i (ob_i ?_ fun o6 => ob_i ?_ fun o7 => lt_i (ob_i rfl fun _ => ob_i ?_ fun o8 => trivial))) (fun h3 => Fct.leafY ?_)
  all_goals try simp only [decide_eq_true_eq, decide_eq_false_iff_not, Bool.not_eq_true', Bool.not_eq_false', bne_iff_ne, bne_eq_false_iff_eq, beq_iff_eq, beq_eq_false_iff_ne, baEq, Int.not_lt, Int.not_le, ne_eq, Decidable.not_not] at *
  all_goals try simp only [LtoS, ftoConn, ftoConnS, etaToken, etaNode, etaBuilder, etaPolicy, etaPage, etaVisit, etaTab, etaServer, etaCache, etaNet, etaLoader, etaSheet, etaResult, etaSlot, etaModule, etaAddr, etaRequest, etaResponse, etaConn, etaGuess, etaEntry, etaSent, etaFile, baSz, List.size_toArray, List.length_cons, List.length_nil, Nat.reduceAdd, Int.toNat_zero, List.drop_zero, decide_eq_true_eq, decide_eq_false_iff_not, Bool.not_eq_true', Bool.not_eq_false', bne_iff_ne, bne_eq_false_iff_eq, beq_iff_eq, beq_eq_false_iff_ne, Bool.not_eq_true, Bool.not_eq_false, ne_eq, Decidable.not_not, baEq, decide_not, Prod.mk.injEq, and_true, true_and, Room, List.nil_append, Nat.zero_add, Int.not_lt, Int.not_le] at *
  · have := szL_len szConn l; omega
  · exact ⟨by omega, by omega, by simp⟩
  · omega
  · have hs := sum_take_le szConn l (y2.1.toNat + 1)
    rw [sum_take szConn (by omega)] at hs
    simp only [szL] at hp; omega
  · rw [i2.2.2]; simp; omega
  · rw [i2.2.2]; simp; omega
  · have hw : IntKind.i64.wrap (y2.1 + 1) = y2.1 + 1 := wrapId (by have := szL_len szConn l; omega)
    rw [hw, toNat1 (by omega), i2.2.2]
    refine ⟨⟨by omega, by omega, ?_⟩, by omega⟩
    rw [show l.length - y2.1.toNat = (l.length - (y2.1.toNat + 1)) + 1 from by omega, List.replicate_succ, mod_at (by simp; omega), take_succ (by omega)]
    simp
  · have e : l.take y2.1.toNat = l := List.take_of_length_le (by omega)
    rw [i2.2.2, e]; simp; omega)
def E98 : D.Env := E97.add 81 ftoConnS
theorem E98ok : EOk Tryz.prog E98 := E97ok.add k81_97
-- laws.eqConnS
set_option maxHeartbeats 2000000 in
theorem k86_98 : feqConnS.ok Tryz.prog 86 := Fct.of (S := feqConnS) (L := fun ⟨l, m, _⟩ => fun | 4 => some (LeqS .conn l m) | _ => none) (kp := [0,1,4,5,10,14,26,1000010,1000014,1000026]) E98ok Tryz.func86 (by kernel_rfl) (by kernel_rfl) (by
  rintro ⟨(l : List SConn), (m : List SConn), _⟩ hp
  refine holds_of (X := .br ((↑l.length : Int) != (↑m.length : Int))
 (.leaf (mkR feqConnS.rs (false, ())) [] [])
 (lpx (LeqS .conn l m) ((0 : Int), ()) fun (y2 : Int × PUnit) bk2 =>
  .br (decide (y2.fst < (↑l.length : Int)))
   (.ob ((0 : Int) ≤ y2.fst ∧ y2.fst < (↑l.length : Int)) <|
    .ob ((0 : Int) ≤ y2.fst ∧ y2.fst < (↑m.length : Int)) <|
    .ob (feqConn.pre (l.getD y2.fst.toNat default, m.getD y2.fst.toNat default, ())) <|
    .lt (Bool × PUnit) (feqConn.fn (l.getD y2.fst.toNat default, m.getD y2.fst.toNat default, ())) fun z2 =>
    .br (!z2.fst)
     (.leaf (mkR feqConnS.rs (false, ())) [] [])
     (.ob (l = l) <|
      .ob (m = m) <|
      .ob (bk2 (IntKind.i64.wrap (y2.fst + (1 : Int)), ())) <|
      .ok))
   (.leaf (mkR feqConnS.rs (true, ())) [] []))) (by kernel_rfl) ?_
  refine br_i (fun h1 => Fct.leafY ?_) (fun h1 => lpx_i ?_ fun (y2 : Int × PUnit) i2 => br_i (fun h3 => ob_i ?_ fun o4 => ob_i ?_ fun o5 => ob_i trivial fun _ => lt_i (br_i (fun h6 => Fct.leafY ?_) (fun h6 => ob_i rfl fun _ => ob_i rfl fun _ => ob_i ?_ fun o7 => trivial))) (fun h3 => Fct.leafY ?_))
  all_goals try simp only [decide_eq_true_eq, decide_eq_false_iff_not, Bool.not_eq_true', Bool.not_eq_false', bne_iff_ne, bne_eq_false_iff_eq, beq_iff_eq, beq_eq_false_iff_ne, baEq, Int.not_lt, Int.not_le, ne_eq, Decidable.not_not] at *
  all_goals try simp only [LeqS, feqConn, feqConnS, etaToken, etaNode, etaBuilder, etaPolicy, etaPage, etaVisit, etaTab, etaServer, etaCache, etaNet, etaLoader, etaSheet, etaResult, etaSlot, etaModule, etaAddr, etaRequest, etaResponse, etaConn, etaGuess, etaEntry, etaSent, etaFile, baSz, List.size_toArray, List.length_cons, List.length_nil, Nat.reduceAdd, Int.toNat_zero, List.drop_zero, decide_eq_true_eq, decide_eq_false_iff_not, Bool.not_eq_true', Bool.not_eq_false', bne_iff_ne, bne_eq_false_iff_eq, beq_iff_eq, beq_eq_false_iff_ne, Bool.not_eq_true, Bool.not_eq_false, ne_eq, Decidable.not_not, baEq, decide_not, Prod.mk.injEq, and_true, true_and, Room, List.nil_append, Nat.zero_add, Int.not_lt, Int.not_le] at *
  · rw [decide_eq_false]; rintro rfl; omega
  · exact ⟨by omega, by omega, by simp⟩
  · omega
  · omega
  · rw [decide_eq_false]; rintro rfl; exact absurd rfl h6
  · have hw : IntKind.i64.wrap (y2.1 + 1) = y2.1 + 1 := wrapId (by omega)
    rw [hw, toNat1 (by omega)]
    refine ⟨⟨by omega, by omega, ?_⟩, by omega⟩
    rw [take_succ (by omega), take_succ (by omega), i2.2.2, h6]
  · have e : l.take y2.1.toNat = l := List.take_of_length_le (by omega)
    have e2 : m.take y2.1.toNat = m := List.take_of_length_le (by omega)
    rw [decide_eq_true]; rw [← e, ← e2, i2.2.2])
def E99 : D.Env := E98.add 86 feqConnS
theorem E99ok : EOk Tryz.prog E99 := E98ok.add k86_98
-- laws.szLoader
set_option maxHeartbeats 2000000 in
theorem k21_99 : fszLoader.ok Tryz.prog 21 := Fct.of (S := fszLoader) (L := fun _ _ => none) (kp := [1,2,4,10,16,22,28,34,1000010,1000016,1000022,1000028,1000034]) E99ok Tryz.func21 (by kernel_rfl) (by kernel_rfl) (by
  rintro ⟨(x : SLoader), (n : Int), _⟩ hp
  refine holds_of (X := .ob (fszNet.pre (x.net, n, ())) <|
 .lt (Int × PUnit) (fszNet.fn (x.net, n, ())) fun z2 =>
 .br (decide (z2.fst < (0 : Int)))
  (.leaf (mkR fszLoader.rs ((-1 : Int), ())) [] [])
  (.ob (fszPage.pre (x.page, z2.fst, ())) <|
   .lt (Int × PUnit) (fszPage.fn (x.page, z2.fst, ())) fun z3 =>
   .br (decide (z3.fst < (0 : Int)))
    (.leaf (mkR fszLoader.rs ((-1 : Int), ())) [] [])
    (.ob (fszStringS.pre (x.parts, z3.fst, ())) <|
     .lt (Int × PUnit) (fszStringS.fn (x.parts, z3.fst, ())) fun z4 =>
     .br (decide (z4.fst < (0 : Int)))
      (.leaf (mkR fszLoader.rs ((-1 : Int), ())) [] [])
      (.ob (fszConnS.pre (x.conns, z4.fst, ())) <|
       .lt (Int × PUnit) (fszConnS.fn (x.conns, z4.fst, ())) fun z5 =>
       .br (decide (z5.fst < (0 : Int)))
        (.leaf (mkR fszLoader.rs ((-1 : Int), ())) [] [])
        (.ob (fszGuessS.pre (x.guesses, z5.fst, ())) <|
         .lt (Int × PUnit) (fszGuessS.fn (x.guesses, z5.fst, ())) fun z6 =>
         .br (decide (z6.fst < (0 : Int)))
          (.leaf (mkR fszLoader.rs ((-1 : Int), ())) [] [])
          (.leaf (mkR fszLoader.rs (z6.fst, ())) [] [])))))) (by kernel_rfl) ?_
  refine ob_i ?_ fun o1 => lt_i (br_i (fun h2 => Fct.leafY ?_) (fun h2 => ob_i ?_ fun o3 => lt_i (br_i (fun h4 => Fct.leafY ?_) (fun h4 => ob_i ?_ fun o5 => lt_i (br_i (fun h6 => Fct.leafY ?_) (fun h6 => ob_i ?_ fun o7 => lt_i (br_i (fun h8 => Fct.leafY ?_) (fun h8 => ob_i ?_ fun o9 => lt_i (br_i (fun h10 => Fct.leafY ?_) (fun h10 => Fct.leafY ?_))))))))))
  all_goals try simp only [decide_eq_true_eq, decide_eq_false_iff_not, Bool.not_eq_true', Bool.not_eq_false', bne_iff_ne, bne_eq_false_iff_eq, beq_iff_eq, beq_eq_false_iff_ne, baEq, Int.not_lt, Int.not_le, ne_eq, Decidable.not_not] at *
  all_goals try simp only [fszConnS, fszGuessS, fszLoader, fszNet, fszPage, fszStringS, etaToken, etaNode, etaBuilder, etaPolicy, etaPage, etaVisit, etaTab, etaServer, etaCache, etaNet, etaLoader, etaSheet, etaResult, etaSlot, etaModule, etaAddr, etaRequest, etaResponse, etaConn, etaGuess, etaEntry, etaSent, etaFile, baSz, List.size_toArray, List.length_cons, List.length_nil, Nat.reduceAdd, Int.toNat_zero, List.drop_zero, decide_eq_true_eq, decide_eq_false_iff_not, Bool.not_eq_true', Bool.not_eq_false', bne_iff_ne, bne_eq_false_iff_eq, beq_iff_eq, beq_eq_false_iff_ne, Bool.not_eq_true, Bool.not_eq_false, ne_eq, Decidable.not_not, baEq, decide_not, Prod.mk.injEq, and_true, true_and, Room, List.nil_append, Nat.zero_add, Int.not_lt, Int.not_le, Sh.good, Sh.fc, enc, List.forall_mem_cons, List.not_mem_nil, false_implies, implies_true, goodC, maxLen] at *
  all_goals grind [wrapId', lessen, szL, szLoader, szNet, szPage])
def E100 : D.Env := E99.add 21 fszLoader
theorem E100ok : EOk Tryz.prog E100 := E99ok.add k21_99
-- laws.toLoader
theorem k23_100 : ftoLoader.ok Tryz.prog 23 := Fct.of (S := ftoLoader) (L := fun _ _ => none) (kp := [1,2,3]) E100ok Tryz.func23 (by kernel_rfl) (by kernel_rfl) (by
  rintro ⟨(x : SLoader), _⟩ hp
  refine holds_of (X := .ob (ftoNet.pre (x.net, ())) <|
 .lt (SNet × PUnit) (ftoNet.fn (x.net, ())) fun z2 =>
 .ob (ftoPage.pre (x.page, ())) <|
  .lt (SPage × PUnit) (ftoPage.fn (x.page, ())) fun z3 =>
  .ob (ftoStringS.pre (x.parts, ())) <|
   .lt (List ByteArray × PUnit) (ftoStringS.fn (x.parts, ())) fun z4 =>
   .ob (ftoConnS.pre (x.conns, ())) <|
    .lt (List SConn × PUnit) (ftoConnS.fn (x.conns, ())) fun z5 =>
    .ob (ftoGuessS.pre (x.guesses, ())) <|
     .lt (List SGuess × PUnit) (ftoGuessS.fn (x.guesses, ())) fun z6 =>
     .leaf (mkR ftoLoader.rs (⟨z2.fst, z3.fst, z4.fst, z5.fst, z6.fst⟩, ())) [] []) (by kernel_rfl) ?_
  refine ob_i ?_ fun o1 => lt_i (ob_i ?_ fun o2 => lt_i (ob_i ?_ fun o3 => lt_i (ob_i ?_ fun o4 => lt_i (ob_i ?_ fun o5 => lt_i (Fct.leafY ?_)))))
  all_goals try simp only [decide_eq_true_eq, decide_eq_false_iff_not, Bool.not_eq_true', Bool.not_eq_false', bne_iff_ne, bne_eq_false_iff_eq, beq_iff_eq, beq_eq_false_iff_ne, baEq, Int.not_lt, Int.not_le, ne_eq, Decidable.not_not] at *
  all_goals try simp only [ftoConnS, ftoGuessS, ftoLoader, ftoNet, ftoPage, ftoStringS, etaToken, etaNode, etaBuilder, etaPolicy, etaPage, etaVisit, etaTab, etaServer, etaCache, etaNet, etaLoader, etaSheet, etaResult, etaSlot, etaModule, etaAddr, etaRequest, etaResponse, etaConn, etaGuess, etaEntry, etaSent, etaFile, baSz, List.size_toArray, List.length_cons, List.length_nil, Nat.reduceAdd, Int.toNat_zero, List.drop_zero, decide_eq_true_eq, decide_eq_false_iff_not, Bool.not_eq_true', Bool.not_eq_false', bne_iff_ne, bne_eq_false_iff_eq, beq_iff_eq, beq_eq_false_iff_ne, Bool.not_eq_true, Bool.not_eq_false, ne_eq, Decidable.not_not, baEq, decide_not, Prod.mk.injEq, and_true, true_and, Room, List.nil_append, Nat.zero_add, Int.not_lt, Int.not_le] at *
  all_goals first | trivial | rfl | grind [szL, szLoader, szNet, szPage])
def E101 : D.Env := E100.add 23 ftoLoader
theorem E101ok : EOk Tryz.prog E101 := E100ok.add k23_100
-- laws.eqLoader
set_option maxHeartbeats 2000000 in
theorem k25_101 : feqLoader.ok Tryz.prog 25 := Fct.of (S := feqLoader) (L := fun _ _ => none) (kp := [2,3,4,10,16,22,28,34,1000010,1000016,1000022,1000028,1000034]) E101ok Tryz.func25 (by kernel_rfl) (by kernel_rfl) (by
  rintro ⟨(x : SLoader), (y : SLoader), _⟩ hp
  refine holds_of (X := .ob (feqNet.pre (x.net, y.net, ())) <|
 .lt (Bool × PUnit) (feqNet.fn (x.net, y.net, ())) fun z2 =>
 .br (!z2.fst)
  (.leaf (mkR feqLoader.rs (false, ())) [] [])
  (.ob (feqPage.pre (x.page, y.page, ())) <|
   .lt (Bool × PUnit) (feqPage.fn (x.page, y.page, ())) fun z3 =>
   .br (!z3.fst)
    (.leaf (mkR feqLoader.rs (false, ())) [] [])
    (.ob (feqStringS.pre (x.parts, y.parts, ())) <|
     .lt (Bool × PUnit) (feqStringS.fn (x.parts, y.parts, ())) fun z4 =>
     .br (!z4.fst)
      (.leaf (mkR feqLoader.rs (false, ())) [] [])
      (.ob (feqConnS.pre (x.conns, y.conns, ())) <|
       .lt (Bool × PUnit) (feqConnS.fn (x.conns, y.conns, ())) fun z5 =>
       .br (!z5.fst)
        (.leaf (mkR feqLoader.rs (false, ())) [] [])
        (.ob (feqGuessS.pre (x.guesses, y.guesses, ())) <|
         .lt (Bool × PUnit) (feqGuessS.fn (x.guesses, y.guesses, ())) fun z6 =>
         .br (!z6.fst)
          (.leaf (mkR feqLoader.rs (false, ())) [] [])
          (.leaf (mkR feqLoader.rs (true, ())) [] [])))))) (by kernel_rfl) ?_
  refine ob_i ?_ fun o1 => lt_i (br_i (fun h2 => Fct.leafY ?_) (fun h2 => ob_i ?_ fun o3 => lt_i (br_i (fun h4 => Fct.leafY ?_) (fun h4 => ob_i ?_ fun o5 => lt_i (br_i (fun h6 => Fct.leafY ?_) (fun h6 => ob_i ?_ fun o7 => lt_i (br_i (fun h8 => Fct.leafY ?_) (fun h8 => ob_i ?_ fun o9 => lt_i (br_i (fun h10 => Fct.leafY ?_) (fun h10 => Fct.leafY ?_))))))))))
  all_goals try simp only [decide_eq_true_eq, decide_eq_false_iff_not, Bool.not_eq_true', Bool.not_eq_false', bne_iff_ne, bne_eq_false_iff_eq, beq_iff_eq, beq_eq_false_iff_ne, baEq, Int.not_lt, Int.not_le, ne_eq, Decidable.not_not] at *
  all_goals try simp only [feqConnS, feqGuessS, feqLoader, feqNet, feqPage, feqStringS, etaToken, etaNode, etaBuilder, etaPolicy, etaPage, etaVisit, etaTab, etaServer, etaCache, etaNet, etaLoader, etaSheet, etaResult, etaSlot, etaModule, etaAddr, etaRequest, etaResponse, etaConn, etaGuess, etaEntry, etaSent, etaFile, baSz, List.size_toArray, List.length_cons, List.length_nil, Nat.reduceAdd, Int.toNat_zero, List.drop_zero, decide_eq_true_eq, decide_eq_false_iff_not, Bool.not_eq_true', Bool.not_eq_false', bne_iff_ne, bne_eq_false_iff_eq, beq_iff_eq, beq_eq_false_iff_ne, Bool.not_eq_true, Bool.not_eq_false, ne_eq, Decidable.not_not, baEq, decide_not, Prod.mk.injEq, and_true, true_and, Room, List.nil_append, Nat.zero_add, Int.not_lt, Int.not_le] at *
  all_goals first | trivial | (cases x; cases y; simp_all; done) | (simp only [szL, szLoader, szNet, szPage] at *; omega) | grind [szL, szLoader, szNet, szPage])
def E102 : D.Env := E101.add 25 feqLoader
theorem E102ok : EOk Tryz.prog E102 := E101ok.add k25_101
def sumIf {α : Type} (p : α → Bool) (f : α → Int) : List α → Int
  | [] => 0
  | x :: l => (if p x then f x else 0) + sumIf p f l
def wasteOf (l : List SGuess) : Int := sumIf (fun g => !g.used) (fun g => g.response.body.size + 20) l
def connWaste (l : List SConn) : Int := sumIf (fun c => c.guess) (fun c => c.response.body.size + 20) l
def loaderWaste (l : SLoader) : Int := wasteOf l.guesses + connWaste l.conns
def lLoader : Fct := lawFS [.el .loader]
theorem guessSz (l : List SGuess) : wasteOf l ≤ 21 * szL szGuess l := by
  induction l with
  | nil => simp only [wasteOf, sumIf]; omega
  | cons g l ih => simp only [wasteOf, sumIf, szL, List.length_cons, List.map_cons, List.sum_cons, szGuess, szResponse] at *; split <;> omega
theorem connSz (l : List SConn) : connWaste l ≤ 21 * szL szConn l := by
  induction l with
  | nil => simp only [connWaste, sumIf]; omega
  | cons g l ih => simp only [connWaste, sumIf, szL, List.length_cons, List.map_cons, List.sum_cons, szConn, szResponse] at *; split <;> omega
theorem loaderSz (l : SLoader) : loaderWaste l ≤ 21 * szLoader l ∧ l.guesses.length ≤ szLoader l ∧ l.conns.length ≤ szLoader l ∧ l.parts.length ≤ szLoader l := by
  have h1 := guessSz l.guesses
  have h2 := connSz l.conns
  have h3 := szL_len szGuess l.guesses
  have h4 := szL_len szConn l.conns
  have h5 := szL_len szString l.parts
  simp only [loaderWaste, szLoader]; omega
def fModAt : Fct := ⟨[.v (.el .page), .v (.el .addr)], [.el .int], fun (x_ : SPage × SAddr × Unit) => x_.1.mods.length ≤ 1000000000000, fun (x_ : SPage × SAddr × Unit) => (fidx (fun m => decide (m.to = x_.2.1)) x_.1.mods 0, ())⟩
abbrev W_spec_l18Find_fModAt_2 (p : SPage) (a : SAddr) : LInv := ⟨[⟨.s, 5, true, .el .int⟩, ⟨.b, 2, false, .el .page⟩, ⟨.b, 3, true, .el .addr⟩], fun (z_ : Int × SPage × SAddr × Unit) (x_ : Int × SPage × SAddr × Unit) => ((0 ≤ x_.1 ∧ x_.1 ≤ p.mods.length ∧ fidx (fun m => decide (m.to = a)) (p.mods.drop x_.1.toNat) x_.1 = fidx (fun m => decide (m.to = a)) p.mods 0) ∧ x_.2.1 = z_.2.1) ∧ x_.2.2.1 = z_.2.2.1, fun (x_ : Int × SPage × SAddr × Unit) => p.mods.length - x_.1.toNat⟩
-- spec.l18Find
theorem k308_102 : fModAt.ok Tryz.prog 308 := Fct.of (S := fModAt) (L := fun ⟨p, a, _⟩ => fun | 2 => some (W_spec_l18Find_fModAt_2 p a) | _ => none) (kp := [2,3,4,5,10,20,1000010,1000020]) E102ok Tryz.func308 (by kernel_rfl) (by kernel_rfl) (by
  rintro ⟨(p : SPage), (a : SAddr), _⟩ hp
  refine holds_of (X := lpx (W_spec_l18Find_fModAt_2 p a) ((0 : Int), (p, (a, ()))) fun (y1 : Int × SPage × SAddr × PUnit) bk1 =>
 .br (decide (y1.fst < (↑y1.snd.fst.mods.length : Int)))
  (.ob ((0 : Int) ≤ y1.fst ∧ y1.fst < (↑y1.snd.fst.mods.length : Int)) <|
   .br ((y1.snd.fst.mods.getD y1.fst.toNat default).to.host == y1.snd.snd.fst.host &&
  ((y1.snd.fst.mods.getD y1.fst.toNat default).to.path == y1.snd.snd.fst.path && true))
   (.leaf (mkR fModAt.rs (y1.fst, ())) [] [])
   (.ob (bk1 (IntKind.i64.wrap (y1.fst + (1 : Int)), (y1.snd.fst, (y1.snd.snd.fst, ())))) <|
    .ok))
  (.leaf (mkR fModAt.rs ((-1 : Int), ())) [] [])) (by kernel_rfl) ?_
  refine lpx_i ?_ fun (y1 : Int × SPage × SAddr × PUnit) i1 => br_i (fun h2 => ob_i ?_ fun o3 => br_i (fun h4 => Fct.leafY ?_) (fun h4 => ob_i ?_ fun o5 => trivial)) (fun h2 => Fct.leafY ?_)
  all_goals try simp only [beqAddr] at *
  all_goals try simp only [decide_eq_true_eq, decide_eq_false_iff_not, Bool.not_eq_true', Bool.not_eq_false', bne_iff_ne, bne_eq_false_iff_eq, beq_iff_eq, beq_eq_false_iff_ne, baEq, Int.not_lt, Int.not_le, ne_eq, Decidable.not_not] at *
  all_goals try simp only [W_spec_l18Find_fModAt_2, fModAt, etaToken, etaNode, etaBuilder, etaPolicy, etaPage, etaVisit, etaTab, etaServer, etaCache, etaNet, etaLoader, etaSheet, etaResult, etaSlot, etaModule, etaAddr, etaRequest, etaResponse, etaConn, etaGuess, etaEntry, etaSent, etaFile, baSz, List.size_toArray, List.length_cons, List.length_nil, Nat.reduceAdd, Int.toNat_zero, List.drop_zero, decide_eq_true_eq, decide_eq_false_iff_not, Bool.not_eq_true', Bool.not_eq_false', bne_iff_ne, bne_eq_false_iff_eq, beq_iff_eq, beq_eq_false_iff_ne, Bool.not_eq_true, Bool.not_eq_false, ne_eq, Decidable.not_not, baEq, decide_not, Prod.mk.injEq, and_true, true_and, Room, List.nil_append, Nat.zero_add, Int.not_lt, Int.not_le, fidx] at *
  all_goals try simp (disch := omega) only [wrapId', toNat1] at *
  all_goals try simp (disch := omega) only [if_pos, if_neg]
  all_goals first | trivial | omega | grind [wrapId', toNat1, drop_cons, drop_end, good_len, maxLen, fidx])
def E103 : D.Env := E102.add 308 fModAt
theorem E103ok : EOk Tryz.prog E103 := E102ok.add k308_102
def fModAt1 : Fct := ⟨[.v (.el .module), .p (.el .addr)], [.el .bool], fun (x_ : SModule × SAddr × Unit) => True, fun (x_ : SModule × SAddr × Unit) => (decide (x_.1.to = x_.2.1), ())⟩
-- impl.modAt$1
theorem k379_103 : fModAt1.ok Tryz.prog 379 := Fct.of (S := fModAt1) (L := fun _ _ => none) (kp := [1,2,3]) E103ok Tryz.func379 (by kernel_rfl) (by kernel_rfl) (by
  rintro ⟨(m : SModule), (a : SAddr), _⟩ hp
  refine holds_of (X := .leaf (mkR fModAt1.rs (m.to.host == a.host && (m.to.path == a.path && true), ())) [] []) (by kernel_rfl) ?_
  refine Fct.leafY ?_
  all_goals try simp only [beqAddr] at *
  all_goals try simp only [decide_eq_true_eq, decide_eq_false_iff_not, Bool.not_eq_true', Bool.not_eq_false', bne_iff_ne, bne_eq_false_iff_eq, beq_iff_eq, beq_eq_false_iff_ne, baEq, Int.not_lt, Int.not_le, ne_eq, Decidable.not_not] at *
  all_goals try simp only [fModAt1, etaToken, etaNode, etaBuilder, etaPolicy, etaPage, etaVisit, etaTab, etaServer, etaCache, etaNet, etaLoader, etaSheet, etaResult, etaSlot, etaModule, etaAddr, etaRequest, etaResponse, etaConn, etaGuess, etaEntry, etaSent, etaFile, baSz, List.size_toArray, List.length_cons, List.length_nil, Nat.reduceAdd, Int.toNat_zero, List.drop_zero, decide_eq_true_eq, decide_eq_false_iff_not, Bool.not_eq_true', Bool.not_eq_false', bne_iff_ne, bne_eq_false_iff_eq, beq_iff_eq, beq_eq_false_iff_ne, Bool.not_eq_true, Bool.not_eq_false, ne_eq, Decidable.not_not, baEq, decide_not, Prod.mk.injEq, and_true, true_and, Room, List.nil_append, Nat.zero_add, Int.not_lt, Int.not_le] at *
  all_goals try simp (disch := omega) only [wrapId', toNat1] at *
  all_goals try simp (disch := omega) only [if_pos, if_neg]
  all_goals first | trivial | omega | grind [wrapId', toNat1, drop_cons, drop_end, good_len, maxLen])
def E104 : D.Env := E103.add 379 fModAt1
theorem E104ok : EOk Tryz.prog E104 := E103ok.add k379_103
def fIndexFunc_module_impl_modAt_1 : Fct := ⟨[aL .module, .c 379 [.el .addr]], [rI], fun x => x.1.length ≤ 1000000000000000000 ∧ ∀ c, fModAt1.pre (c, x.2.1), fun x => (fidx (fun c => (fModAt1.fn (c, x.2.1)).1) x.1 0, ())⟩
abbrev W_slices_IndexFunc_impl_Module_impl_Module_fIndexFunc_module_impl_modAt_1_2 (l : (List SModule)) (u : (SAddr × Unit)) : LInv := ⟨[⟨.s, 8, true, .el .int⟩], fun _ (x_ : Int × Unit) => 0 ≤ x_.1 ∧ x_.1 ≤ l.length ∧ fidx (fun c => (fModAt1.fn (c, u)).1) l 0 = fidx (fun c => (fModAt1.fn (c, u)).1) (l.drop x_.1.toNat) x_.1, fun (x_ : Int × Unit) => l.length - x_.1.toNat⟩
-- slices.IndexFunc[[]impl.Module,impl.Module]
theorem k378_104 : fIndexFunc_module_impl_modAt_1.ok Tryz.prog 378 := Fct.of (S := fIndexFunc_module_impl_modAt_1) (L := fun ⟨l, u, _⟩ => fun | 2 => some (W_slices_IndexFunc_impl_Module_impl_Module_fIndexFunc_module_impl_modAt_1_2 l u) | _ => none) (kp := [0,1,4,5,7,8,9,16,1000009,1000016]) E104ok Tryz.func378 (by kernel_rfl) (by kernel_rfl) (by
  rintro ⟨(l : List SModule), (u : SAddr × PUnit), _⟩ hp
  refine holds_of (X := lpx (W_slices_IndexFunc_impl_Module_impl_Module_fIndexFunc_module_impl_modAt_1_2 l u) ((0 : Int), ()) fun (y1 : Int × PUnit) bk1 =>
 .br (decide (y1.fst < (↑l.length : Int)))
  (.ob ((0 : Int) ≤ y1.fst ∧ y1.fst < (↑l.length : Int)) <|
   .ob (fModAt1.pre (l.getD y1.fst.toNat default, u.fst, ())) <|
   .lt (Bool × PUnit) (fModAt1.fn (l.getD y1.fst.toNat default, u.fst, ())) fun z2 =>
   .br (z2.fst)
    (.leaf (mkR fIndexFunc_module_impl_modAt_1.rs (y1.fst, ())) [] [])
    (.ob (l = l) <|
     .ob (enc Ty.addr u.fst = enc Ty.addr u.fst) <|
     .ob (Value.int IntKind.i64 (↑l.length : Int) = Value.int IntKind.i64 (↑l.length : Int)) <|
     .ob (bk1 (IntKind.i64.wrap (y1.fst + (1 : Int)), ())) <|
     .ok))
  (.leaf (mkR fIndexFunc_module_impl_modAt_1.rs ((-1 : Int), ())) [] [])) (by kernel_rfl) ?_
  refine lpx_i ?_ fun (y1 : Int × PUnit) i1 => br_i (fun h2 => ob_i ?_ fun o3 => ob_i trivial fun _ => lt_i (br_i (fun h4 => Fct.leafY ?_) (fun h4 => ob_i rfl fun _ => ob_i rfl fun _ => ob_i rfl fun _ => ob_i ?_ fun o5 => trivial))) (fun h2 => Fct.leafY ?_)
  all_goals try simp only [decide_eq_true_eq, decide_eq_false_iff_not, Bool.not_eq_true', Bool.not_eq_false', bne_iff_ne, bne_eq_false_iff_eq, beq_iff_eq, beq_eq_false_iff_ne, baEq, Int.not_lt, Int.not_le, ne_eq, Decidable.not_not] at *
  all_goals try simp only [W_slices_IndexFunc_impl_Module_impl_Module_fIndexFunc_module_impl_modAt_1_2, fIndexFunc_module_impl_modAt_1, fModAt1, etaToken, etaNode, etaBuilder, etaPolicy, etaPage, etaVisit, etaTab, etaServer, etaCache, etaNet, etaLoader, etaSheet, etaResult, etaSlot, etaModule, etaAddr, etaRequest, etaResponse, etaConn, etaGuess, etaEntry, etaSent, etaFile, baSz, List.size_toArray, List.length_cons, List.length_nil, Nat.reduceAdd, Int.toNat_zero, List.drop_zero, decide_eq_true_eq, decide_eq_false_iff_not, Bool.not_eq_true', Bool.not_eq_false', bne_iff_ne, bne_eq_false_iff_eq, beq_iff_eq, beq_eq_false_iff_ne, Bool.not_eq_true, Bool.not_eq_false, ne_eq, Decidable.not_not, baEq, decide_not, Prod.mk.injEq, and_true, true_and, Room, List.nil_append, Nat.zero_add, Int.not_lt, Int.not_le] at *
  all_goals try have hp2 := hp.2
  all_goals try have hp1 := hp.1
  all_goals first | trivial | omega | grind [wrapId', toNat1, drop_cons, drop_end, good_len, maxLen, fidx])
def E105 : D.Env := E104.add 378 fIndexFunc_module_impl_modAt_1
theorem E105ok : EOk Tryz.prog E105 := E104ok.add k378_104
-- impl.modAt
theorem k313_105 : fModAt.ok Tryz.prog 313 := Fct.of (S := fModAt) (L := fun _ _ => none) (kp := [2,3,4]) E105ok Tryz.func313 (by kernel_rfl) (by kernel_rfl) (by
  rintro ⟨(p : SPage), (a : SAddr), _⟩ hp
  refine holds_of (X := .ob (fIndexFunc_module_impl_modAt_1.pre (p.mods, (a, ()), ())) <|
 .lt (Int × PUnit) (fIndexFunc_module_impl_modAt_1.fn (p.mods, (a, ()), ())) fun z2 =>
 .leaf (mkR fModAt.rs (z2.fst, ())) [] []) (by kernel_rfl) ?_
  refine ob_i ?_ fun o1 => lt_i (Fct.leafY ?_)
  all_goals try simp only [decide_eq_true_eq, decide_eq_false_iff_not, Bool.not_eq_true', Bool.not_eq_false', bne_iff_ne, bne_eq_false_iff_eq, beq_iff_eq, beq_eq_false_iff_ne, baEq, Int.not_lt, Int.not_le, ne_eq, Decidable.not_not] at *
  all_goals try simp only [fIndexFunc_module_impl_modAt_1, fModAt, etaToken, etaNode, etaBuilder, etaPolicy, etaPage, etaVisit, etaTab, etaServer, etaCache, etaNet, etaLoader, etaSheet, etaResult, etaSlot, etaModule, etaAddr, etaRequest, etaResponse, etaConn, etaGuess, etaEntry, etaSent, etaFile, baSz, List.size_toArray, List.length_cons, List.length_nil, Nat.reduceAdd, Int.toNat_zero, List.drop_zero, decide_eq_true_eq, decide_eq_false_iff_not, Bool.not_eq_true', Bool.not_eq_false', bne_iff_ne, bne_eq_false_iff_eq, beq_iff_eq, beq_eq_false_iff_ne, Bool.not_eq_true, Bool.not_eq_false, ne_eq, Decidable.not_not, baEq, decide_not, Prod.mk.injEq, and_true, true_and, Room, List.nil_append, Nat.zero_add, Int.not_lt, Int.not_le, fModAt1] at *
  all_goals try simp (disch := omega) only [wrapId', toNat1] at *
  all_goals try simp (disch := omega) only [if_pos, if_neg]
  all_goals first | trivial | omega | grind [wrapId', toNat1, drop_cons, drop_end, good_len, maxLen, fModAt1])
def E106 : D.Env := E105.add 313 fModAt
theorem E106ok : EOk Tryz.prog E106 := E105ok.add k313_105
def isAsked (p : SPage) (a : SAddr) : Bool := p.slots.any (fun s => decide (s.to = a)) || p.mods.any (fun m => decide (m.to = a))
def fIsAsked : Fct := ⟨[.v (.el .page), .v (.el .addr)], [.el .bool], fun (x_ : SPage × SAddr × Unit) => x_.1.mods.length ≤ 1000000000000 ∧ x_.1.slots.length ≤ 1000000000000, fun (x_ : SPage × SAddr × Unit) => (isAsked x_.1 x_.2.1, ())⟩
abbrev W_spec_IsAsked_fIsAsked_2 (p : SPage) (a : SAddr) : LInv := ⟨[⟨.s, 5, true, .el .int⟩, ⟨.b, 2, false, .el .page⟩, ⟨.b, 3, true, .el .addr⟩], fun (z_ : Int × SPage × SAddr × Unit) (x_ : Int × SPage × SAddr × Unit) => ((0 ≤ x_.1 ∧ x_.1 ≤ p.slots.length ∧ (p.slots.drop x_.1.toNat).any (fun s => decide (s.to = a)) = p.slots.any (fun s => decide (s.to = a))) ∧ x_.2.1 = z_.2.1) ∧ x_.2.2.1 = z_.2.2.1, fun (x_ : Int × SPage × SAddr × Unit) => p.slots.length - x_.1.toNat⟩
-- spec.IsAsked
theorem k194_106 : fIsAsked.ok Tryz.prog 194 := Fct.of (S := fIsAsked) (L := fun ⟨p, a, _⟩ => fun | 2 => some (W_spec_IsAsked_fIsAsked_2 p a) | _ => none) (kp := [2,3,4,5,10,20,1000010,1000020]) E106ok Tryz.func194 (by kernel_rfl) (by kernel_rfl) (by
  rintro ⟨(p : SPage), (a : SAddr), _⟩ hp
  refine holds_of (X := lpx (W_spec_IsAsked_fIsAsked_2 p a) ((0 : Int), (p, (a, ()))) fun (y1 : Int × SPage × SAddr × PUnit) bk1 =>
 .br (decide (y1.fst < (↑y1.snd.fst.slots.length : Int)))
  (.ob ((0 : Int) ≤ y1.fst ∧ y1.fst < (↑y1.snd.fst.slots.length : Int)) <|
   .br ((y1.snd.fst.slots.getD y1.fst.toNat default).to.host == y1.snd.snd.fst.host &&
  ((y1.snd.fst.slots.getD y1.fst.toNat default).to.path == y1.snd.snd.fst.path && true))
   (.leaf (mkR fIsAsked.rs (true, ())) [] [])
   (.ob (bk1 (IntKind.i64.wrap (y1.fst + (1 : Int)), (y1.snd.fst, (y1.snd.snd.fst, ())))) <|
    .ok))
  (.ob (fModAt.pre (y1.snd.fst, y1.snd.snd.fst, ())) <|
   .lt (Int × PUnit) (fModAt.fn (y1.snd.fst, y1.snd.snd.fst, ())) fun z2 =>
   .leaf (mkR fIsAsked.rs (decide (z2.fst ≥ (0 : Int)), ())) [] [])) (by kernel_rfl) ?_
  refine lpx_i ?_ fun (y1 : Int × SPage × SAddr × PUnit) i1 => br_i (fun h2 => ob_i ?_ fun o3 => br_i (fun h4 => Fct.leafY ?_) (fun h4 => ob_i ?_ fun o5 => trivial)) (fun h2 => ob_i ?_ fun o6 => lt_i (Fct.leafY ?_))
  all_goals try simp only [beqAddr] at *
  all_goals have hmm := fidx_ge (fun m : SModule => decide (m.to = a)) p.mods 0 (by omega)
  all_goals try simp only [decide_eq_true_eq, decide_eq_false_iff_not, Bool.not_eq_true', Bool.not_eq_false', bne_iff_ne, bne_eq_false_iff_eq, beq_iff_eq, beq_eq_false_iff_ne, baEq, Int.not_lt, Int.not_le, ne_eq, Decidable.not_not] at *
  all_goals try simp only [W_spec_IsAsked_fIsAsked_2, fIsAsked, fModAt, etaToken, etaNode, etaBuilder, etaPolicy, etaPage, etaVisit, etaTab, etaServer, etaCache, etaNet, etaLoader, etaSheet, etaResult, etaSlot, etaModule, etaAddr, etaRequest, etaResponse, etaConn, etaGuess, etaEntry, etaSent, etaFile, baSz, List.size_toArray, List.length_cons, List.length_nil, Nat.reduceAdd, Int.toNat_zero, List.drop_zero, decide_eq_true_eq, decide_eq_false_iff_not, Bool.not_eq_true', Bool.not_eq_false', bne_iff_ne, bne_eq_false_iff_eq, beq_iff_eq, beq_eq_false_iff_ne, Bool.not_eq_true, Bool.not_eq_false, ne_eq, Decidable.not_not, baEq, decide_not, Prod.mk.injEq, and_true, true_and, Room, List.nil_append, Nat.zero_add, Int.not_lt, Int.not_le, isAsked, fModAt] at *
  all_goals try simp (disch := omega) only [wrapId', toNat1] at *
  all_goals try simp (disch := omega) only [if_pos, if_neg]
  all_goals first | trivial | omega | grind [wrapId', toNat1, drop_cons, drop_end, good_len, maxLen, isAsked, fModAt])
def E107 : D.Env := E106.add 194 fIsAsked
theorem E107ok : EOk Tryz.prog E107 := E106ok.add k194_106
def fIsAsked1 : Fct := ⟨[.v (.el .slot), .p (.el .addr)], [.el .bool], fun (x_ : SSlot × SAddr × Unit) => True, fun (x_ : SSlot × SAddr × Unit) => (decide (x_.1.to = x_.2.1), ())⟩
-- impl.IsAsked$1
theorem k315_107 : fIsAsked1.ok Tryz.prog 315 := Fct.of (S := fIsAsked1) (L := fun _ _ => none) (kp := [1,2,3]) E107ok Tryz.func315 (by kernel_rfl) (by kernel_rfl) (by
  rintro ⟨(s : SSlot), (a : SAddr), _⟩ hp
  refine holds_of (X := .leaf (mkR fIsAsked1.rs (s.to.host == a.host && (s.to.path == a.path && true), ())) [] []) (by kernel_rfl) ?_
  refine Fct.leafY ?_
  all_goals try simp only [beqAddr] at *
  all_goals try simp only [decide_eq_true_eq, decide_eq_false_iff_not, Bool.not_eq_true', Bool.not_eq_false', bne_iff_ne, bne_eq_false_iff_eq, beq_iff_eq, beq_eq_false_iff_ne, baEq, Int.not_lt, Int.not_le, ne_eq, Decidable.not_not] at *
  all_goals try simp only [fIsAsked1, etaToken, etaNode, etaBuilder, etaPolicy, etaPage, etaVisit, etaTab, etaServer, etaCache, etaNet, etaLoader, etaSheet, etaResult, etaSlot, etaModule, etaAddr, etaRequest, etaResponse, etaConn, etaGuess, etaEntry, etaSent, etaFile, baSz, List.size_toArray, List.length_cons, List.length_nil, Nat.reduceAdd, Int.toNat_zero, List.drop_zero, decide_eq_true_eq, decide_eq_false_iff_not, Bool.not_eq_true', Bool.not_eq_false', bne_iff_ne, bne_eq_false_iff_eq, beq_iff_eq, beq_eq_false_iff_ne, Bool.not_eq_true, Bool.not_eq_false, ne_eq, Decidable.not_not, baEq, decide_not, Prod.mk.injEq, and_true, true_and, Room, List.nil_append, Nat.zero_add, Int.not_lt, Int.not_le] at *
  all_goals try simp (disch := omega) only [wrapId', toNat1] at *
  all_goals try simp (disch := omega) only [if_pos, if_neg]
  all_goals first | trivial | omega | grind [wrapId', toNat1, drop_cons, drop_end, good_len, maxLen])
def E108 : D.Env := E107.add 315 fIsAsked1
theorem E108ok : EOk Tryz.prog E108 := E107ok.add k315_107
def fIndexFunc_slot_impl_IsAsked_1 : Fct := ⟨[aL .slot, .c 315 [.el .addr]], [rI], fun x => x.1.length ≤ 1000000000000000000 ∧ ∀ c, fIsAsked1.pre (c, x.2.1), fun x => (fidx (fun c => (fIsAsked1.fn (c, x.2.1)).1) x.1 0, ())⟩
abbrev W_slices_IndexFunc_impl_Slot_impl_Slot_fIndexFunc_slot_impl_IsAsked_1_2 (l : (List SSlot)) (u : (SAddr × Unit)) : LInv := ⟨[⟨.s, 8, true, .el .int⟩], fun _ (x_ : Int × Unit) => 0 ≤ x_.1 ∧ x_.1 ≤ l.length ∧ fidx (fun c => (fIsAsked1.fn (c, u)).1) l 0 = fidx (fun c => (fIsAsked1.fn (c, u)).1) (l.drop x_.1.toNat) x_.1, fun (x_ : Int × Unit) => l.length - x_.1.toNat⟩
-- slices.IndexFunc[[]impl.Slot,impl.Slot]
theorem k380_108 : fIndexFunc_slot_impl_IsAsked_1.ok Tryz.prog 380 := Fct.of (S := fIndexFunc_slot_impl_IsAsked_1) (L := fun ⟨l, u, _⟩ => fun | 2 => some (W_slices_IndexFunc_impl_Slot_impl_Slot_fIndexFunc_slot_impl_IsAsked_1_2 l u) | _ => none) (kp := [0,1,4,5,7,8,9,16,1000009,1000016]) E108ok Tryz.func380 (by kernel_rfl) (by kernel_rfl) (by
  rintro ⟨(l : List SSlot), (u : SAddr × PUnit), _⟩ hp
  refine holds_of (X := lpx (W_slices_IndexFunc_impl_Slot_impl_Slot_fIndexFunc_slot_impl_IsAsked_1_2 l u) ((0 : Int), ()) fun (y1 : Int × PUnit) bk1 =>
 .br (decide (y1.fst < (↑l.length : Int)))
  (.ob ((0 : Int) ≤ y1.fst ∧ y1.fst < (↑l.length : Int)) <|
   .ob (fIsAsked1.pre (l.getD y1.fst.toNat default, u.fst, ())) <|
   .lt (Bool × PUnit) (fIsAsked1.fn (l.getD y1.fst.toNat default, u.fst, ())) fun z2 =>
   .br (z2.fst)
    (.leaf (mkR fIndexFunc_slot_impl_IsAsked_1.rs (y1.fst, ())) [] [])
    (.ob (l = l) <|
     .ob (enc Ty.addr u.fst = enc Ty.addr u.fst) <|
     .ob (Value.int IntKind.i64 (↑l.length : Int) = Value.int IntKind.i64 (↑l.length : Int)) <|
     .ob (bk1 (IntKind.i64.wrap (y1.fst + (1 : Int)), ())) <|
     .ok))
  (.leaf (mkR fIndexFunc_slot_impl_IsAsked_1.rs ((-1 : Int), ())) [] [])) (by kernel_rfl) ?_
  refine lpx_i ?_ fun (y1 : Int × PUnit) i1 => br_i (fun h2 => ob_i ?_ fun o3 => ob_i trivial fun _ => lt_i (br_i (fun h4 => Fct.leafY ?_) (fun h4 => ob_i rfl fun _ => ob_i rfl fun _ => ob_i rfl fun _ => ob_i ?_ fun o5 => trivial))) (fun h2 => Fct.leafY ?_)
  all_goals try simp only [decide_eq_true_eq, decide_eq_false_iff_not, Bool.not_eq_true', Bool.not_eq_false', bne_iff_ne, bne_eq_false_iff_eq, beq_iff_eq, beq_eq_false_iff_ne, baEq, Int.not_lt, Int.not_le, ne_eq, Decidable.not_not] at *
  all_goals try simp only [W_slices_IndexFunc_impl_Slot_impl_Slot_fIndexFunc_slot_impl_IsAsked_1_2, fIndexFunc_slot_impl_IsAsked_1, fIsAsked1, etaToken, etaNode, etaBuilder, etaPolicy, etaPage, etaVisit, etaTab, etaServer, etaCache, etaNet, etaLoader, etaSheet, etaResult, etaSlot, etaModule, etaAddr, etaRequest, etaResponse, etaConn, etaGuess, etaEntry, etaSent, etaFile, baSz, List.size_toArray, List.length_cons, List.length_nil, Nat.reduceAdd, Int.toNat_zero, List.drop_zero, decide_eq_true_eq, decide_eq_false_iff_not, Bool.not_eq_true', Bool.not_eq_false', bne_iff_ne, bne_eq_false_iff_eq, beq_iff_eq, beq_eq_false_iff_ne, Bool.not_eq_true, Bool.not_eq_false, ne_eq, Decidable.not_not, baEq, decide_not, Prod.mk.injEq, and_true, true_and, Room, List.nil_append, Nat.zero_add, Int.not_lt, Int.not_le] at *
  all_goals try have hp2 := hp.2
  all_goals try have hp1 := hp.1
  all_goals first | trivial | omega | grind [wrapId', toNat1, drop_cons, drop_end, good_len, maxLen, fidx])
def E109 : D.Env := E108.add 380 fIndexFunc_slot_impl_IsAsked_1
theorem E109ok : EOk Tryz.prog E109 := E108ok.add k380_108
def fContainsFunc_slot_impl_IsAsked_1 : Fct := ⟨[aL .slot, .c 315 [.el .addr]], [rB], fun x => x.1.length ≤ 1000000000000000000 ∧ ∀ c, fIsAsked1.pre (c, x.2.1), fun x => (x.1.any (fun c => (fIsAsked1.fn (c, x.2.1)).1), ())⟩
-- slices.ContainsFunc[[]impl.Slot,impl.Slot]
theorem k314_109 : fContainsFunc_slot_impl_IsAsked_1.ok Tryz.prog 314 := Fct.of (S := fContainsFunc_slot_impl_IsAsked_1) (L := fun _ _ => none) (kp := [0,1,4]) E109ok Tryz.func314 (by kernel_rfl) (by kernel_rfl) (by
  rintro ⟨(l : List SSlot), (u : SAddr × PUnit), _⟩ hp
  refine holds_of (X := .ob (fIndexFunc_slot_impl_IsAsked_1.pre (l, (u.fst, ()), ())) <|
 .lt (Int × PUnit) (fIndexFunc_slot_impl_IsAsked_1.fn (l, (u.fst, ()), ())) fun z2 =>
 .leaf (mkR fContainsFunc_slot_impl_IsAsked_1.rs (decide (z2.fst ≥ (0 : Int)), ())) [] []) (by kernel_rfl) ?_
  refine ob_i ?_ fun o1 => lt_i (Fct.leafY ?_)
  all_goals try simp only [decide_eq_true_eq, decide_eq_false_iff_not, Bool.not_eq_true', Bool.not_eq_false', bne_iff_ne, bne_eq_false_iff_eq, beq_iff_eq, beq_eq_false_iff_ne, baEq, Int.not_lt, Int.not_le, ne_eq, Decidable.not_not] at *
  all_goals try simp only [fContainsFunc_slot_impl_IsAsked_1, fIndexFunc_slot_impl_IsAsked_1, etaToken, etaNode, etaBuilder, etaPolicy, etaPage, etaVisit, etaTab, etaServer, etaCache, etaNet, etaLoader, etaSheet, etaResult, etaSlot, etaModule, etaAddr, etaRequest, etaResponse, etaConn, etaGuess, etaEntry, etaSent, etaFile, baSz, List.size_toArray, List.length_cons, List.length_nil, Nat.reduceAdd, Int.toNat_zero, List.drop_zero, decide_eq_true_eq, decide_eq_false_iff_not, Bool.not_eq_true', Bool.not_eq_false', bne_iff_ne, bne_eq_false_iff_eq, beq_iff_eq, beq_eq_false_iff_ne, Bool.not_eq_true, Bool.not_eq_false, ne_eq, Decidable.not_not, baEq, decide_not, Prod.mk.injEq, and_true, true_and, Room, List.nil_append, Nat.zero_add, Int.not_lt, Int.not_le] at *
  all_goals first | trivial | omega | (rw [Bool.eq_iff_iff]; exact decide_eq_true_iff.trans (fidx_ge _ _ _ (by omega))))
def E110 : D.Env := E109.add 314 fContainsFunc_slot_impl_IsAsked_1
theorem E110ok : EOk Tryz.prog E110 := E109ok.add k314_109
-- impl.IsAsked
theorem k200_110 : fIsAsked.ok Tryz.prog 200 := Fct.of (S := fIsAsked) (L := fun _ _ => none) (kp := [2,3,4]) E110ok Tryz.func200 (by kernel_rfl) (by kernel_rfl) (by
  rintro ⟨(p : SPage), (a : SAddr), _⟩ hp
  refine holds_of (X := .ob (fModAt.pre (p, a, ())) <|
 .lt (Int × PUnit) (fModAt.fn (p, a, ())) fun z2 =>
 .br (decide (z2.fst ≥ (0 : Int)))
  (.leaf (mkR fIsAsked.rs (true, ())) [] [])
  (.ob (fContainsFunc_slot_impl_IsAsked_1.pre (p.slots, (a, ()), ())) <|
   .lt (Bool × PUnit) (fContainsFunc_slot_impl_IsAsked_1.fn (p.slots, (a, ()), ())) fun z3 =>
   .leaf (mkR fIsAsked.rs (z3.fst, ())) [] [])) (by kernel_rfl) ?_
  refine ob_i ?_ fun o1 => lt_i (br_i (fun h2 => Fct.leafY ?_) (fun h2 => ob_i ?_ fun o3 => lt_i (Fct.leafY ?_)))
  all_goals have hmm := fidx_ge (fun m : SModule => decide (m.to = a)) p.mods 0 (by omega)
  all_goals try simp only [decide_eq_true_eq, decide_eq_false_iff_not, Bool.not_eq_true', Bool.not_eq_false', bne_iff_ne, bne_eq_false_iff_eq, beq_iff_eq, beq_eq_false_iff_ne, baEq, Int.not_lt, Int.not_le, ne_eq, Decidable.not_not] at *
  all_goals try simp only [fContainsFunc_slot_impl_IsAsked_1, fIsAsked, fModAt, etaToken, etaNode, etaBuilder, etaPolicy, etaPage, etaVisit, etaTab, etaServer, etaCache, etaNet, etaLoader, etaSheet, etaResult, etaSlot, etaModule, etaAddr, etaRequest, etaResponse, etaConn, etaGuess, etaEntry, etaSent, etaFile, baSz, List.size_toArray, List.length_cons, List.length_nil, Nat.reduceAdd, Int.toNat_zero, List.drop_zero, decide_eq_true_eq, decide_eq_false_iff_not, Bool.not_eq_true', Bool.not_eq_false', bne_iff_ne, bne_eq_false_iff_eq, beq_iff_eq, beq_eq_false_iff_ne, Bool.not_eq_true, Bool.not_eq_false, ne_eq, Decidable.not_not, baEq, decide_not, Prod.mk.injEq, and_true, true_and, Room, List.nil_append, Nat.zero_add, Int.not_lt, Int.not_le, isAsked, fModAt, fIsAsked1] at *
  all_goals try simp (disch := omega) only [wrapId', toNat1] at *
  all_goals try simp (disch := omega) only [if_pos, if_neg]
  all_goals first | trivial | omega | grind [wrapId', toNat1, drop_cons, drop_end, good_len, maxLen, isAsked, fModAt, fIsAsked1])
def E111 : D.Env := E110.add 200 fIsAsked
theorem E111ok : EOk Tryz.prog E111 := E110ok.add k200_110
def fIsWrong : Fct := ⟨[.v (.el .page), .v (.el .addr)], [.el .bool], fun (x_ : SPage × SAddr × Unit) => x_.1.mods.length ≤ 1000000000000 ∧ x_.1.slots.length ≤ 1000000000000, fun (x_ : SPage × SAddr × Unit) => (x_.1.loaded && !isAsked x_.1 x_.2.1, ())⟩
-- spec.IsWrongGuess
theorem k78_111 : fIsWrong.ok Tryz.prog 78 := Fct.of (S := fIsWrong) (L := fun _ _ => none) (kp := [2,3,4]) E111ok Tryz.func78 (by kernel_rfl) (by kernel_rfl) (by
  rintro ⟨(p : SPage), (a : SAddr), _⟩ hp
  refine holds_of (X := .br (p.loaded)
 (.ob (fIsAsked.pre (p, a, ())) <|
  .lt (Bool × PUnit) (fIsAsked.fn (p, a, ())) fun z2 =>
  .leaf (mkR fIsWrong.rs (!z2.fst, ())) [] [])
 (.leaf (mkR fIsWrong.rs (false, ())) [] [])) (by kernel_rfl) ?_
  refine br_i (fun h1 => ob_i ?_ fun o2 => lt_i (Fct.leafY ?_)) (fun h1 => Fct.leafY ?_)
  all_goals try simp only [decide_eq_true_eq, decide_eq_false_iff_not, Bool.not_eq_true', Bool.not_eq_false', bne_iff_ne, bne_eq_false_iff_eq, beq_iff_eq, beq_eq_false_iff_ne, baEq, Int.not_lt, Int.not_le, ne_eq, Decidable.not_not] at *
  all_goals try simp only [fIsAsked, fIsWrong, etaToken, etaNode, etaBuilder, etaPolicy, etaPage, etaVisit, etaTab, etaServer, etaCache, etaNet, etaLoader, etaSheet, etaResult, etaSlot, etaModule, etaAddr, etaRequest, etaResponse, etaConn, etaGuess, etaEntry, etaSent, etaFile, baSz, List.size_toArray, List.length_cons, List.length_nil, Nat.reduceAdd, Int.toNat_zero, List.drop_zero, decide_eq_true_eq, decide_eq_false_iff_not, Bool.not_eq_true', Bool.not_eq_false', bne_iff_ne, bne_eq_false_iff_eq, beq_iff_eq, beq_eq_false_iff_ne, Bool.not_eq_true, Bool.not_eq_false, ne_eq, Decidable.not_not, baEq, decide_not, Prod.mk.injEq, and_true, true_and, Room, List.nil_append, Nat.zero_add, Int.not_lt, Int.not_le, fIsAsked] at *
  all_goals try simp (disch := omega) only [wrapId', toNat1] at *
  all_goals try simp (disch := omega) only [if_pos, if_neg]
  all_goals first | trivial | omega | grind [wrapId', toNat1, drop_cons, drop_end, good_len, maxLen, fIsAsked])
def E112 : D.Env := E111.add 78 fIsWrong
theorem E112ok : EOk Tryz.prog E112 := E111ok.add k78_111
-- impl.IsWrongGuess
theorem k83_112 : fIsWrong.ok Tryz.prog 83 := Fct.of (S := fIsWrong) (L := fun _ _ => none) (kp := [2,3,4]) E112ok Tryz.func83 (by kernel_rfl) (by kernel_rfl) (by
  rintro ⟨(p : SPage), (a : SAddr), _⟩ hp
  refine holds_of (X := .br (p.loaded)
 (.ob (fIsAsked.pre (p, a, ())) <|
  .lt (Bool × PUnit) (fIsAsked.fn (p, a, ())) fun z2 =>
  .leaf (mkR fIsWrong.rs (!z2.fst, ())) [] [])
 (.leaf (mkR fIsWrong.rs (false, ())) [] [])) (by kernel_rfl) ?_
  refine br_i (fun h1 => ob_i ?_ fun o2 => lt_i (Fct.leafY ?_)) (fun h1 => Fct.leafY ?_)
  all_goals try simp only [decide_eq_true_eq, decide_eq_false_iff_not, Bool.not_eq_true', Bool.not_eq_false', bne_iff_ne, bne_eq_false_iff_eq, beq_iff_eq, beq_eq_false_iff_ne, baEq, Int.not_lt, Int.not_le, ne_eq, Decidable.not_not] at *
  all_goals try simp only [fIsAsked, fIsWrong, etaToken, etaNode, etaBuilder, etaPolicy, etaPage, etaVisit, etaTab, etaServer, etaCache, etaNet, etaLoader, etaSheet, etaResult, etaSlot, etaModule, etaAddr, etaRequest, etaResponse, etaConn, etaGuess, etaEntry, etaSent, etaFile, baSz, List.size_toArray, List.length_cons, List.length_nil, Nat.reduceAdd, Int.toNat_zero, List.drop_zero, decide_eq_true_eq, decide_eq_false_iff_not, Bool.not_eq_true', Bool.not_eq_false', bne_iff_ne, bne_eq_false_iff_eq, beq_iff_eq, beq_eq_false_iff_ne, Bool.not_eq_true, Bool.not_eq_false, ne_eq, Decidable.not_not, baEq, decide_not, Prod.mk.injEq, and_true, true_and, Room, List.nil_append, Nat.zero_add, Int.not_lt, Int.not_le, fIsAsked] at *
  all_goals try simp (disch := omega) only [wrapId', toNat1] at *
  all_goals try simp (disch := omega) only [if_pos, if_neg]
  all_goals first | trivial | omega | grind [wrapId', toNat1, drop_cons, drop_end, good_len, maxLen, fIsAsked])
def E113 : D.Env := E112.add 83 fIsWrong
theorem E113ok : EOk Tryz.prog E113 := E112ok.add k83_112
def wrongGuesses (l : SLoader) : Int := countIf (fun g => !g.used && (l.page.loaded && !isAsked l.page g.to)) l.guesses
def fWrongGuesses : Fct := ⟨[.v (.el .loader)], [.el .int], fun (x_ : SLoader × Unit) => x_.1.guesses.length ≤ 1000000000000 ∧ x_.1.page.mods.length ≤ 1000000000000 ∧ x_.1.page.slots.length ≤ 1000000000000, fun (x_ : SLoader × Unit) => (wrongGuesses x_.1, ())⟩
abbrev W_spec_WrongGuesses_fWrongGuesses_3 (l : SLoader) : LInv := ⟨[⟨.s, 3, true, .el .int⟩, ⟨.s, 4, true, .el .int⟩, ⟨.b, 1, false, .el .loader⟩], fun (z_ : Int × Int × SLoader × Unit) (x_ : Int × Int × SLoader × Unit) => (0 ≤ x_.2.1 ∧ x_.2.1 ≤ l.guesses.length ∧ 0 ≤ x_.1 ∧ x_.1 ≤ x_.2.1 ∧ x_.1 + countIf (fun g => !g.used && (l.page.loaded && !isAsked l.page g.to)) (l.guesses.drop x_.2.1.toNat) = wrongGuesses l) ∧ x_.2.2.1 = z_.2.2.1, fun (x_ : Int × Int × SLoader × Unit) => l.guesses.length - x_.2.1.toNat⟩
-- spec.WrongGuesses
theorem k22_113 : fWrongGuesses.ok Tryz.prog 22 := Fct.of (S := fWrongGuesses) (L := fun ⟨l, _⟩ => fun | 3 => some (W_spec_WrongGuesses_fWrongGuesses_3 l) | _ => none) (kp := [1,2,3,4,9,29,1000009,1000029]) E113ok Tryz.func22 (by kernel_rfl) (by kernel_rfl) (by
  rintro ⟨(l : SLoader), _⟩ hp
  refine holds_of (X := lpx (W_spec_WrongGuesses_fWrongGuesses_3 l) ((0 : Int), ((0 : Int), (l, ()))) fun (y1 : Int × Int × SLoader × PUnit) bk1 =>
 .br (decide (y1.snd.fst < (↑y1.snd.snd.fst.guesses.length : Int)))
  (.ob ((0 : Int) ≤ y1.snd.fst ∧ y1.snd.fst < (↑y1.snd.snd.fst.guesses.length : Int)) <|
   .br (!(y1.snd.snd.fst.guesses.getD y1.snd.fst.toNat default).used)
   (.ob ((0 : Int) ≤ y1.snd.fst ∧ y1.snd.fst < (↑y1.snd.snd.fst.guesses.length : Int)) <|
    .ob (fIsWrong.pre (y1.snd.snd.fst.page, (y1.snd.snd.fst.guesses.getD y1.snd.fst.toNat default).to, ())) <|
    .lt (Bool × PUnit) (fIsWrong.fn (y1.snd.snd.fst.page, (y1.snd.snd.fst.guesses.getD y1.snd.fst.toNat default).to, ())) fun z2 =>
    .br (z2.fst)
     (.ob (Value.int IntKind.i64 (0 : Int) = Value.int IntKind.i64 (0 : Int)) <|
      .ob (bk1 (IntKind.i64.wrap (y1.fst + (1 : Int)), (IntKind.i64.wrap (y1.snd.fst + (1 : Int)), (y1.snd.snd.fst, ())))) <|
      .ok)
     (.ob (Value.int IntKind.i64 (0 : Int) = Value.int IntKind.i64 (0 : Int)) <|
      .ob (bk1 (y1.fst, (IntKind.i64.wrap (y1.snd.fst + (1 : Int)), (y1.snd.snd.fst, ())))) <|
      .ok))
   (.ob (Value.int IntKind.i64 (0 : Int) = Value.int IntKind.i64 (0 : Int)) <|
    .ob (bk1 (y1.fst, (IntKind.i64.wrap (y1.snd.fst + (1 : Int)), (y1.snd.snd.fst, ())))) <|
    .ok))
  (.leaf (mkR fWrongGuesses.rs (y1.fst, ())) [] [])) (by kernel_rfl) ?_
  refine lpx_i ?_ fun (y1 : Int × Int × SLoader × PUnit) i1 => br_i (fun h2 => ob_i ?_ fun o3 => br_i (fun h4 => ob_i ?_ fun o5 => ob_i ?_ fun o6 => lt_i (br_i (fun h7 => ob_i rfl fun _ => ob_i ?_ fun o8 => trivial) (fun h7 => ob_i rfl fun _ => ob_i ?_ fun o9 => trivial))) (fun h4 => ob_i rfl fun _ => ob_i ?_ fun o10 => trivial)) (fun h2 => Fct.leafY ?_)
  all_goals try simp only [decide_eq_true_eq, decide_eq_false_iff_not, Bool.not_eq_true', Bool.not_eq_false', bne_iff_ne, bne_eq_false_iff_eq, beq_iff_eq, beq_eq_false_iff_ne, baEq, Int.not_lt, Int.not_le, ne_eq, Decidable.not_not] at *
  all_goals try simp only [W_spec_WrongGuesses_fWrongGuesses_3, fIsWrong, fWrongGuesses, etaToken, etaNode, etaBuilder, etaPolicy, etaPage, etaVisit, etaTab, etaServer, etaCache, etaNet, etaLoader, etaSheet, etaResult, etaSlot, etaModule, etaAddr, etaRequest, etaResponse, etaConn, etaGuess, etaEntry, etaSent, etaFile, baSz, List.size_toArray, List.length_cons, List.length_nil, Nat.reduceAdd, Int.toNat_zero, List.drop_zero, decide_eq_true_eq, decide_eq_false_iff_not, Bool.not_eq_true', Bool.not_eq_false', bne_iff_ne, bne_eq_false_iff_eq, beq_iff_eq, beq_eq_false_iff_ne, Bool.not_eq_true, Bool.not_eq_false, ne_eq, Decidable.not_not, baEq, decide_not, Prod.mk.injEq, and_true, true_and, Room, List.nil_append, Nat.zero_add, Int.not_lt, Int.not_le, wrongGuesses, fIsWrong, countIf, countIf_le] at *
  all_goals try simp (disch := omega) only [wrapId', toNat1] at *
  all_goals try simp (disch := omega) only [if_pos, if_neg]
  all_goals first | trivial | omega | grind [wrapId', toNat1, drop_cons, drop_end, good_len, maxLen, wrongGuesses, fIsWrong, countIf, countIf_le])
def E114 : D.Env := E113.add 22 fWrongGuesses
theorem E114ok : EOk Tryz.prog E114 := E113ok.add k22_113
abbrev W_impl_WrongGuesses_fWrongGuesses_3 (l : SLoader) : LInv := ⟨[⟨.s, 3, true, .el .int⟩, ⟨.s, 9, true, .el .int⟩, ⟨.b, 1, false, .el .loader⟩], fun (z_ : Int × Int × SLoader × Unit) (x_ : Int × Int × SLoader × Unit) => (0 ≤ x_.2.1 ∧ x_.2.1 ≤ l.guesses.length ∧ 0 ≤ x_.1 ∧ x_.1 ≤ x_.2.1 ∧ x_.1 + countIf (fun g => !g.used && (l.page.loaded && !isAsked l.page g.to)) (l.guesses.drop x_.2.1.toNat) = wrongGuesses l) ∧ x_.2.2.1 = z_.2.2.1, fun (x_ : Int × Int × SLoader × Unit) => l.guesses.length - x_.2.1.toNat⟩
-- impl.WrongGuesses
theorem k24_114 : fWrongGuesses.ok Tryz.prog 24 := Fct.of (S := fWrongGuesses) (L := fun ⟨l, _⟩ => fun | 3 => some (W_impl_WrongGuesses_fWrongGuesses_3 l) | _ => none) (kp := [1,2,3,5,7,8,9,10,22,1000010,1000022]) E114ok Tryz.func24 (by kernel_rfl) (by kernel_rfl) (by
  rintro ⟨(l : SLoader), _⟩ hp
  refine holds_of (X := lpx (W_impl_WrongGuesses_fWrongGuesses_3 l) ((0 : Int), ((0 : Int), (l, ()))) fun (y1 : Int × Int × SLoader × PUnit) bk1 =>
 .br (decide (y1.snd.fst < (↑l.guesses.length : Int)))
  (.ob ((0 : Int) ≤ y1.snd.fst ∧ y1.snd.fst < (↑l.guesses.length : Int)) <|
   .br (!(l.guesses.getD y1.snd.fst.toNat default).used)
   (.ob (fIsWrong.pre (y1.snd.snd.fst.page, (l.guesses.getD y1.snd.fst.toNat default).to, ())) <|
    .lt (Bool × PUnit) (fIsWrong.fn (y1.snd.snd.fst.page, (l.guesses.getD y1.snd.fst.toNat default).to, ())) fun z2 =>
    .br (z2.fst)
     (.ob (Value.int IntKind.i64 (0 : Int) = Value.int IntKind.i64 (0 : Int)) <|
      .ob (l.guesses = l.guesses) <|
      .ob (Value.int IntKind.i64 (↑l.guesses.length : Int) = Value.int IntKind.i64 (↑l.guesses.length : Int)) <|
      .ob (bk1 (IntKind.i64.wrap (y1.fst + (1 : Int)), (IntKind.i64.wrap (y1.snd.fst + (1 : Int)), (y1.snd.snd.fst, ())))) <|
      .ok)
     (.ob (Value.int IntKind.i64 (0 : Int) = Value.int IntKind.i64 (0 : Int)) <|
      .ob (l.guesses = l.guesses) <|
      .ob (Value.int IntKind.i64 (↑l.guesses.length : Int) = Value.int IntKind.i64 (↑l.guesses.length : Int)) <|
      .ob (bk1 (y1.fst, (IntKind.i64.wrap (y1.snd.fst + (1 : Int)), (y1.snd.snd.fst, ())))) <|
      .ok))
   (.ob (Value.int IntKind.i64 (0 : Int) = Value.int IntKind.i64 (0 : Int)) <|
    .ob (l.guesses = l.guesses) <|
    .ob (Value.int IntKind.i64 (↑l.guesses.length : Int) = Value.int IntKind.i64 (↑l.guesses.length : Int)) <|
    .ob (bk1 (y1.fst, (IntKind.i64.wrap (y1.snd.fst + (1 : Int)), (y1.snd.snd.fst, ())))) <|
    .ok))
  (.leaf (mkR fWrongGuesses.rs (y1.fst, ())) [] [])) (by kernel_rfl) ?_
  refine lpx_i ?_ fun (y1 : Int × Int × SLoader × PUnit) i1 => br_i (fun h2 => ob_i ?_ fun o3 => br_i (fun h4 => ob_i ?_ fun o5 => lt_i (br_i (fun h6 => ob_i rfl fun _ => ob_i rfl fun _ => ob_i rfl fun _ => ob_i ?_ fun o7 => trivial) (fun h6 => ob_i rfl fun _ => ob_i rfl fun _ => ob_i rfl fun _ => ob_i ?_ fun o8 => trivial))) (fun h4 => ob_i rfl fun _ => ob_i rfl fun _ => ob_i rfl fun _ => ob_i ?_ fun o9 => trivial)) (fun h2 => Fct.leafY ?_)
  all_goals try simp only [decide_eq_true_eq, decide_eq_false_iff_not, Bool.not_eq_true', Bool.not_eq_false', bne_iff_ne, bne_eq_false_iff_eq, beq_iff_eq, beq_eq_false_iff_ne, baEq, Int.not_lt, Int.not_le, ne_eq, Decidable.not_not] at *
  all_goals try simp only [W_impl_WrongGuesses_fWrongGuesses_3, fIsWrong, fWrongGuesses, etaToken, etaNode, etaBuilder, etaPolicy, etaPage, etaVisit, etaTab, etaServer, etaCache, etaNet, etaLoader, etaSheet, etaResult, etaSlot, etaModule, etaAddr, etaRequest, etaResponse, etaConn, etaGuess, etaEntry, etaSent, etaFile, baSz, List.size_toArray, List.length_cons, List.length_nil, Nat.reduceAdd, Int.toNat_zero, List.drop_zero, decide_eq_true_eq, decide_eq_false_iff_not, Bool.not_eq_true', Bool.not_eq_false', bne_iff_ne, bne_eq_false_iff_eq, beq_iff_eq, beq_eq_false_iff_ne, Bool.not_eq_true, Bool.not_eq_false, ne_eq, Decidable.not_not, baEq, decide_not, Prod.mk.injEq, and_true, true_and, Room, List.nil_append, Nat.zero_add, Int.not_lt, Int.not_le, wrongGuesses, fIsWrong, countIf, countIf_le] at *
  all_goals try simp (disch := omega) only [wrapId', toNat1] at *
  all_goals try simp (disch := omega) only [if_pos, if_neg]
  all_goals first | trivial | omega | grind [wrapId', toNat1, drop_cons, drop_end, good_len, maxLen, wrongGuesses, fIsWrong, countIf, countIf_le])
def E115 : D.Env := E114.add 24 fWrongGuesses
theorem E115ok : EOk Tryz.prog E115 := E114ok.add k24_114
theorem pageSz (p : SPage) : p.slots.length ≤ szPage p ∧ p.mods.length ≤ szPage p ∧ p.entries.length ≤ szPage p ∧ p.ran.length ≤ szPage p ∧ p.log.length ≤ szPage p ∧ p.queue.length ≤ szPage p := by
  have h1 := szL_len szSlot p.slots
  have h2 := szL_len szModule p.mods
  have h3 := szL_len szAddr p.entries
  have h4 := szL_len szAddr p.ran
  have h5 := szL_len szString p.log
  have h6 := szL_len szToken p.queue
  simp only [szPage]; omega
theorem loaderSz2 (l : SLoader) : szPage l.page ≤ szLoader l ∧ szNet l.net ≤ szLoader l := by simp only [szLoader]; omega
-- laws.FnExactWrongGuesses
set_option maxHeartbeats 2000000 in
theorem k4_115 : lLoader.ok Tryz.prog 4 := Fct.of (S := lLoader) (L := fun _ _ => none) (kp := [1,2,3,4,5,6,11,21,26,1000011,1000021,1000026]) E115ok Tryz.func4 (by kernel_rfl) (by kernel_rfl) (by
  rintro ⟨(l : SLoader), _⟩ hp
  refine holds_of (X := .ob (fszLoader.pre (l, (1048576 : Int), ())) <|
 .lt (Int × PUnit) (fszLoader.fn (l, (1048576 : Int), ())) fun z2 =>
 .br (decide (z2.fst < (0 : Int)))
  (.leaf (mkR lLoader.rs (true, ())) [] [])
  (.ob (ftoLoader.pre (l, ())) <|
   .lt (SLoader × PUnit) (ftoLoader.fn (l, ())) fun z3 =>
   .ob (fWrongGuesses.pre (z3.fst, ())) <|
    .lt (Int × PUnit) (fWrongGuesses.fn (z3.fst, ())) fun z4 =>
    .ob (ftoLoader.pre (l, ())) <|
     .lt (SLoader × PUnit) (ftoLoader.fn (l, ())) fun z5 =>
     .ob (fWrongGuesses.pre (z5.fst, ())) <|
      .lt (Int × PUnit) (fWrongGuesses.fn (z5.fst, ())) fun z6 =>
      .br (z6.fst != z4.fst)
       (.leaf (mkR lLoader.rs (false, ())) [] [])
       (.ob (ftoLoader.pre (l, ())) <|
        .lt (SLoader × PUnit) (ftoLoader.fn (l, ())) fun z7 =>
        .ob (feqLoader.pre (z5.fst, z7.fst, ())) <|
         .lt (Bool × PUnit) (feqLoader.fn (z5.fst, z7.fst, ())) fun z8 =>
         .br (!z8.fst)
          (.leaf (mkR lLoader.rs (false, ())) [] [])
          (.leaf (mkR lLoader.rs (true, ())) [] [])))) (by kernel_rfl) ?_
  refine ob_i ?_ fun o1 => lt_i (br_i (fun h2 => Fct.leafY ?_) (fun h2 => ob_i ?_ fun o3 => lt_i (ob_i ?_ fun o4 => lt_i (ob_i ?_ fun o5 => lt_i (ob_i ?_ fun o6 => lt_i (br_i (fun h7 => Fct.leafY ?_) (fun h7 => ob_i ?_ fun o8 => lt_i (ob_i ?_ fun o9 => lt_i (br_i (fun h10 => Fct.leafY ?_) (fun h10 => Fct.leafY ?_))))))))))
  all_goals have hls := loaderSz l
  all_goals have hls2 := loaderSz2 l
  all_goals have hls3 := pageSz l.page
  all_goals have hg0 : Sh.good (.el .loader) l := hp.1
  all_goals clear hp
  all_goals subst_vars
  all_goals try simp only [decide_eq_true_eq, decide_eq_false_iff_not, Bool.not_eq_true', Bool.not_eq_false', bne_iff_ne, bne_eq_false_iff_eq, beq_iff_eq, beq_eq_false_iff_ne, baEq, Int.not_lt, Int.not_le, ne_eq, Decidable.not_not] at *
  all_goals try simp only [fWrongGuesses, feqLoader, fszLoader, ftoLoader, lLoader, etaToken, etaNode, etaBuilder, etaPolicy, etaPage, etaVisit, etaTab, etaServer, etaCache, etaNet, etaLoader, etaSheet, etaResult, etaSlot, etaModule, etaAddr, etaRequest, etaResponse, etaConn, etaGuess, etaEntry, etaSent, etaFile, baSz, List.size_toArray, List.length_cons, List.length_nil, Nat.reduceAdd, Int.toNat_zero, List.drop_zero, decide_eq_true_eq, decide_eq_false_iff_not, Bool.not_eq_true', Bool.not_eq_false', bne_iff_ne, bne_eq_false_iff_eq, beq_iff_eq, beq_eq_false_iff_ne, Bool.not_eq_true, Bool.not_eq_false, ne_eq, Decidable.not_not, baEq, decide_not, Prod.mk.injEq, and_true, true_and, Room, List.nil_append, Nat.zero_add, Int.not_lt, Int.not_le, decide_true] at *
  all_goals first | trivial | omega | grind [lessen])
def E116 : D.Env := E115.add 4 lLoader
theorem E116ok : EOk Tryz.prog E116 := E115ok.add k4_115

section
open Go.ChangeShapes Go.WideShapes Go.ChangeAt Go.RowKit
theorem own : ownKnob Tryz.prog.godebug = none := by kernel_rfl
theorem types : ∀ e t, tyOf e = some t → e ∈ ([3, 4, 5, 9, 25, 28, 30, 35, 40, 47, 58, 61, 62, 63, 64, 68, 73, 77, 83, 86, 90, 97, 102, 130, 148, 156, 158, 183, 215, 218, 221, 251, 253, 256, 270, 274, 279, 282, 304, 307, 345, 349, 354, 368, 375, 377, 413, 421, 463, 477, 484, 511] : List TypeId) := by
  intro e t h
  unfold tyOf at h
  split at h <;> first | (simp; done) | cases h
theorem lifted (os : Os) (started : os.Started) (H : Type) (enc : TypeId × Value → H) :
    ReturnsInHanded {} Tryz.checked os 4 .any (Rows.fnExactWrongGuessesSpec.pre6 enc Tryz.prog Tryz.f4 Rows.fnExactWrongGuessesRow.domain false) (Rows.fnExactWrongGuessesSpec.post enc Tryz.prog Tryz.f4 false true false false) := by
  refine returnsInHanded_of_change (C := Tryz.checked) own started (by kernel_rfl) Tryz.func4
    (ChangeSpec.witness6 (enc := enc) (C := Tryz.checked) false ⟨#[], #[.agg #[.slice none 0 0, .slice none 0 0, .slice none 0 0, .int .i64 0, .string ⟨#[]⟩, .string ⟨#[]⟩, .bool false, .slice none 0 0, .slice none 0 0, .slice none 0 0, .string ⟨#[]⟩, .string ⟨#[]⟩, .slice none 0 0, .bool false, .slice none 0 0, .slice none 0 0, .slice none 0 0, .slice none 0 0, .slice none 0 0, .int .i64 0, .int .i64 0, .int .i64 0, .int .i64 0, .slice none 0 0, .slice none 0 0, .bool false, .slice none 0 0, .slice none 0 0, .slice none 0 0]], []⟩ 8 (by kernel_rfl) (by kernel_rfl) (by kernel_rfl) (by kernel_rfl)) ?_
  intro W base args ds gs before hval0 hW hcnd _
  have hval : ∀ (j : Nat) t v, Tryz.f4.params[j]? = some t → args[j]? = some v → Value.okWide Tryz.prog W .any base t v := hval0
  refine law_calls (show rowOk Tryz.prog Tryz.f4 tyOf [3, 4, 5, 9, 25, 28, 30, 35, 40, 47, 58, 61, 62, 63, 64, 68, 73, 77, 83, 86, 90, 97, 102, 130, 148, 156, 158, 183, 215, 218, 221, 251, 253, 256, 270, 274, 279, 282, 304, 307, 345, 349, 354, 368, 375, 377, 413, 421, 463, 477, 484, 511] [.el .loader] = true by kernel_rfl) types rfl Tryz.underlying4 rfl hW (fun xs h => ?_) hval k4_115
  · rw [Tryz.params4] at h
    obtain ⟨x, rfl⟩ := List.length_eq_one_iff.1 (show xs.length = 1 from h)
    rfl
set_option maxHeartbeats 0 in
theorem closed : joinedFacts Tryz.prog 4 Tryz.f4 Rows.fnExactWrongGuessesSpec Rows.fnExactWrongGuessesRow = true := by
  unfold joinedFacts
  refine (and_i (and_i (and_i (and_i (and_i (and_i (and_i (and_i (and_i (and_i (and_i (and_i (and_i (and_i (and_i (and_i (and_i (and_i (and_i (and_i (and_i (and_i (and_i (and_i (and_i (and_i (and_i (and_i (and_i (and_i (and_i ?_ ?_) ?_) ?_) ?_) ?_) ?_) ?_) ?_) ?_) ?_) ?_) ?_) ?_) ?_) ?_) ?_) ?_) ?_) ?_) ?_) ?_) ?_) ?_) ?_) ?_) ?_) ?_) ?_) ?_) ?_) ?_)
  all_goals decide +kernel
theorem over : Rows.fnExactWrongGuessesRow.holds Tryz.pinned (OpenSpec.ofChange Rows.fnExactWrongGuessesSpec) :=
  OpenClaim.holds_of_wide 4 Tryz.f4 rfl rfl rfl rfl rfl rfl rfl ⟨rfl, rfl, rfl, rfl, rfl⟩ rfl rfl rfl rfl rfl (by kernel_rfl) Tryz.func4 closed
    (of_decide_eq_true (by kernel_rfl)) (by unfold Func.isWrapper; first | (rw [if_pos (by decide +kernel)]; kernel_rfl) | (rw [if_neg (by decide +kernel)]; exact ⟨rfl, rfl⟩))
    (fun os started H enc _ => lifted os started H enc)
theorem proved : Rows.FnExactWrongGuessesSaid := over
end
end Go.Proofs.YthbopfedhjekbaaGreat.fnExactWrongGuesses
