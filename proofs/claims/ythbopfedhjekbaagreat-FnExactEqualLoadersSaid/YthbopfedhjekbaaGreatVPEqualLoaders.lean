/-
  The program's EqualLoaders returns what the reference's returns, for all arguments: the law returns true. No condition.
-/
import Derived.Test.YthbopfedhjekbaaGreatVPEqualLoaders1
import Derived.Test.YthbopfedhjekbaaGreatRows
import Derived.WalkKit
import Derived.ProofKit
import Derived.OpenShut
namespace Go.Proofs.YthbopfedhjekbaaGreat.fnExactEqualLoaders
open Go.Proofs.YthbopfedhjekbaaGreat
open Go.D
set_option maxRecDepth 100000
set_option linter.unusedVariables false
set_option linter.unusedSimpArgs false

-- laws.szGuessS
set_option maxHeartbeats 2000000 in
theorem k77_90 : fszGuessS.ok Tryz.prog 77 := Fct.of (S := fszGuessS) (L := fun ⟨l, n, _⟩ => fun | 5 => some (LszS .guess szGuess l n) | _ => none) (kp := [0,1,4,5,11,15,25,1000011,1000015,1000025]) E90ok Tryz.func77 (by kernel_rfl) (by kernel_rfl) (by
  rintro ⟨(l : List SGuess), (n : Int), _⟩ hp
  refine holds_of (X := .br (decide (IntKind.i64.wrap (n - (↑l.length : Int)) < (0 : Int)))
 (.leaf (mkR fszGuessS.rs ((-1 : Int), ())) [] [])
 (lpx (LszS .guess szGuess l n) (IntKind.i64.wrap (n - (↑l.length : Int)), ((0 : Int), ())) fun (y2 : Int × Int × PUnit) bk2 =>
  .br (decide (y2.snd.fst < (↑l.length : Int)))
   (.ob ((0 : Int) ≤ y2.snd.fst ∧ y2.snd.fst < (↑l.length : Int)) <|
    .ob (fszGuess.pre (l.getD y2.snd.fst.toNat default, y2.fst, ())) <|
    .lt (Int × PUnit) (fszGuess.fn (l.getD y2.snd.fst.toNat default, y2.fst, ())) fun z2 =>
    .br (decide (z2.fst < (0 : Int)))
     (.leaf (mkR fszGuessS.rs ((-1 : Int), ())) [] [])
     (.ob (l = l) <|
      .ob (bk2 (z2.fst, (IntKind.i64.wrap (y2.snd.fst + (1 : Int)), ()))) <|
      .ok))
   (.leaf (mkR fszGuessS.rs (y2.fst, ())) [] []))) (by kernel_rfl) ?_
  refine br_i (fun h1 => Fct.leafY ?_) (fun h1 => lpx_i ?_ fun (y2 : Int × Int × PUnit) i2 => br_i (fun h3 => ob_i ?_ fun o4 => ob_i ?_ fun o5 => lt_i (br_i (fun h6 => Fct.leafY ?_) (fun h6 => ob_i rfl fun _ => ob_i ?_ fun o7 => trivial))) (fun h3 => Fct.leafY ?_))
  all_goals try simp only [decide_eq_true_eq, decide_eq_false_iff_not, Bool.not_eq_true', Bool.not_eq_false', bne_iff_ne, bne_eq_false_iff_eq, beq_iff_eq, beq_eq_false_iff_ne, baEq, Int.not_lt, Int.not_le, ne_eq, Decidable.not_not] at *
  all_goals try simp only [LszS, fszGuess, fszGuessS, etaToken, etaNode, etaBuilder, etaPolicy, etaPage, etaVisit, etaTab, etaServer, etaCache, etaNet, etaLoader, etaSheet, etaResult, etaSlot, etaModule, etaAddr, etaRequest, etaResponse, etaConn, etaGuess, etaEntry, etaSent, etaFile, baSz, List.size_toArray, List.length_cons, List.length_nil, Nat.reduceAdd, Int.toNat_zero, List.drop_zero, decide_eq_true_eq, decide_eq_false_iff_not, Bool.not_eq_true', Bool.not_eq_false', bne_iff_ne, bne_eq_false_iff_eq, beq_iff_eq, beq_eq_false_iff_ne, Bool.not_eq_true, Bool.not_eq_false, ne_eq, Decidable.not_not, baEq, decide_not, Prod.mk.injEq, and_true, true_and, Room, List.nil_append, Nat.zero_add, Int.not_lt, Int.not_le] at *
  · have := good_len hp.1; simp only [maxLen] at this; rw [wrapId (by omega)] at h1
    rw [lessenNeg (by simp only [szL]; omega)]
  · have := good_len hp.1; simp only [maxLen] at this
    rw [wrapId (by omega)] at h1 ⊢
    exact ⟨by omega, by omega, h1, by simp⟩
  · omega
  · exact ⟨good_getD hp.1 (by omega), by omega, by omega⟩
  · have hs := sum_take_le szGuess l (y2.2.1.toNat + 1)
    rw [sum_take szGuess (by omega)] at hs
    rw [lessen_lt (by omega)] at h6
    rw [lessenNeg (by simp only [szL]; omega)]
  · have hw : IntKind.i64.wrap (y2.2.1 + 1) = y2.2.1 + 1 := wrapId (by have := good_len hp.1; simp only [maxLen] at this; omega)
    have h7 : ¬ lessen y2.1 (szGuess (l.getD y2.2.1.toNat default)) < 0 := by omega
    rw [lessen_lt (by omega)] at h7
    rw [hw, toNat1 (by omega), sum_take szGuess (by omega), lessen_ge (by omega)]
    exact ⟨⟨by omega, by omega, by omega, by omega⟩, by omega⟩
  · have e : l.take y2.2.1.toNat = l := List.take_of_length_le (by omega)
    rw [e] at i2
    have hz : ((szL szGuess l : Nat) : Int) = l.length + (l.map szGuess).sum := by simp only [szL]; omega
    rw [lessen_ge (by omega)]
    show y2.1 = n - ((szL szGuess l : Nat) : Int)
    omega)
def E91 : D.Env := E90.add 77 fszGuessS
theorem E91ok : EOk Tryz.prog E91 := E90ok.add k77_90
-- laws.toGuessS
theorem k82_91 : ftoGuessS.ok Tryz.prog 82 := Fct.of (S := ftoGuessS) (L := fun ⟨l, _⟩ => fun | 3 => some (LtoS .guess l) | _ => none) (kp := [0,2,3,4,11,1000011]) E91ok Tryz.func82 (by kernel_rfl) (by kernel_rfl) (by
  rintro ⟨(l : List SGuess), _⟩ hp
  refine holds_of (X := .ob ((↑l.length : Int) = (↑l.length : Int) ∧
  (0 : Int) ≤ (↑l.length : Int) ∧
    (104 : Int) * (↑l.length : Int) ≤ (140737488355328 : Int) ∧ (↑l.length : Int) ≤ (140737488355328 : Int)) <|
 lpx (LtoS .guess l) ((0 : Int), (List.replicate (↑l.length : Int).toNat default, ())) fun (y2 : Int × List SGuess × PUnit) bk2 =>
 .br (decide (y2.fst < (↑l.length : Int)))
  (.ob ((0 : Int) ≤ y2.fst ∧ y2.fst < (↑l.length : Int)) <|
   .ob (ftoGuess.pre (l.getD y2.fst.toNat default, ())) <|
   .lt (SGuess × PUnit) (ftoGuess.fn (l.getD y2.fst.toNat default, ())) fun z2 =>
   .ob ((0 : Int) ≤ y2.fst ∧ y2.fst < (↑y2.snd.fst.length : Int)) <|
    .ob (y2.fst.toNat < y2.snd.fst.length) <|
    .lt (List SGuess) (y2.snd.fst.modify y2.fst.toNat fun z => z2.fst) fun z3 =>
    .ob (l = l) <|
     .ob (bk2 (IntKind.i64.wrap (y2.fst + (1 : Int)), (z3, ()))) <|
     .ok)
  (.leaf (mkR ftoGuessS.rs (y2.snd.fst, ())) [] [])) (by kernel_rfl) ?_
  refine ob_i ?_ fun o1 => lpx_i ?_ fun (y2 : Int × List SGuess × PUnit) i2 => br_i (fun h3 => ob_i ?_ fun o4 => ob_i ?_ fun o5 => lt_i (ob_i ?_ fun o6 => ob_i ?_ fun o7 => lt_i (ob_i rfl fun _ => ob_i ?_ fun o8 => trivial))) (fun h3 => Fct.leafY ?_)
  all_goals try simp only [decide_eq_true_eq, decide_eq_false_iff_not, Bool.not_eq_true', Bool.not_eq_false', bne_iff_ne, bne_eq_false_iff_eq, beq_iff_eq, beq_eq_false_iff_ne, baEq, Int.not_lt, Int.not_le, ne_eq, Decidable.not_not] at *
  all_goals try simp only [LtoS, ftoGuess, ftoGuessS, etaToken, etaNode, etaBuilder, etaPolicy, etaPage, etaVisit, etaTab, etaServer, etaCache, etaNet, etaLoader, etaSheet, etaResult, etaSlot, etaModule, etaAddr, etaRequest, etaResponse, etaConn, etaGuess, etaEntry, etaSent, etaFile, baSz, List.size_toArray, List.length_cons, List.length_nil, Nat.reduceAdd, Int.toNat_zero, List.drop_zero, decide_eq_true_eq, decide_eq_false_iff_not, Bool.not_eq_true', Bool.not_eq_false', bne_iff_ne, bne_eq_false_iff_eq, beq_iff_eq, beq_eq_false_iff_ne, Bool.not_eq_true, Bool.not_eq_false, ne_eq, Decidable.not_not, baEq, decide_not, Prod.mk.injEq, and_true, true_and, Room, List.nil_append, Nat.zero_add, Int.not_lt, Int.not_le] at *
  · have := szL_len szGuess l; omega
  · exact ⟨by omega, by omega, by simp⟩
  · omega
  · have hs := sum_take_le szGuess l (y2.1.toNat + 1)
    rw [sum_take szGuess (by omega)] at hs
    simp only [szL] at hp; omega
  · rw [i2.2.2]; simp; omega
  · rw [i2.2.2]; simp; omega
  · have hw : IntKind.i64.wrap (y2.1 + 1) = y2.1 + 1 := wrapId (by have := szL_len szGuess l; omega)
    rw [hw, toNat1 (by omega), i2.2.2]
    refine ⟨⟨by omega, by omega, ?_⟩, by omega⟩
    rw [show l.length - y2.1.toNat = (l.length - (y2.1.toNat + 1)) + 1 from by omega, List.replicate_succ, mod_at (by simp; omega), take_succ (by omega)]
    simp
  · have e : l.take y2.1.toNat = l := List.take_of_length_le (by omega)
    rw [i2.2.2, e]; simp; omega)
def E92 : D.Env := E91.add 82 ftoGuessS
theorem E92ok : EOk Tryz.prog E92 := E91ok.add k82_91
-- laws.eqGuessS
set_option maxHeartbeats 2000000 in
theorem k87_92 : feqGuessS.ok Tryz.prog 87 := Fct.of (S := feqGuessS) (L := fun ⟨l, m, _⟩ => fun | 4 => some (LeqS .guess l m) | _ => none) (kp := [0,1,4,5,10,14,26,1000010,1000014,1000026]) E92ok Tryz.func87 (by kernel_rfl) (by kernel_rfl) (by
  rintro ⟨(l : List SGuess), (m : List SGuess), _⟩ hp
  refine holds_of (X := .br ((↑l.length : Int) != (↑m.length : Int))
 (.leaf (mkR feqGuessS.rs (false, ())) [] [])
 (lpx (LeqS .guess l m) ((0 : Int), ()) fun (y2 : Int × PUnit) bk2 =>
  .br (decide (y2.fst < (↑l.length : Int)))
   (.ob ((0 : Int) ≤ y2.fst ∧ y2.fst < (↑l.length : Int)) <|
    .ob ((0 : Int) ≤ y2.fst ∧ y2.fst < (↑m.length : Int)) <|
    .ob (feqGuess.pre (l.getD y2.fst.toNat default, m.getD y2.fst.toNat default, ())) <|
    .lt (Bool × PUnit) (feqGuess.fn (l.getD y2.fst.toNat default, m.getD y2.fst.toNat default, ())) fun z2 =>
    .br (!z2.fst)
     (.leaf (mkR feqGuessS.rs (false, ())) [] [])
     (.ob (l = l) <|
      .ob (m = m) <|
      .ob (bk2 (IntKind.i64.wrap (y2.fst + (1 : Int)), ())) <|
      .ok))
   (.leaf (mkR feqGuessS.rs (true, ())) [] []))) (by kernel_rfl) ?_
  refine br_i (fun h1 => Fct.leafY ?_) (fun h1 => lpx_i ?_ fun (y2 : Int × PUnit) i2 => br_i (fun h3 => ob_i ?_ fun o4 => ob_i ?_ fun o5 => ob_i trivial fun _ => lt_i (br_i (fun h6 => Fct.leafY ?_) (fun h6 => ob_i rfl fun _ => ob_i rfl fun _ => ob_i ?_ fun o7 => trivial))) (fun h3 => Fct.leafY ?_))
  all_goals try simp only [decide_eq_true_eq, decide_eq_false_iff_not, Bool.not_eq_true', Bool.not_eq_false', bne_iff_ne, bne_eq_false_iff_eq, beq_iff_eq, beq_eq_false_iff_ne, baEq, Int.not_lt, Int.not_le, ne_eq, Decidable.not_not] at *
  all_goals try simp only [LeqS, feqGuess, feqGuessS, etaToken, etaNode, etaBuilder, etaPolicy, etaPage, etaVisit, etaTab, etaServer, etaCache, etaNet, etaLoader, etaSheet, etaResult, etaSlot, etaModule, etaAddr, etaRequest, etaResponse, etaConn, etaGuess, etaEntry, etaSent, etaFile, baSz, List.size_toArray, List.length_cons, List.length_nil, Nat.reduceAdd, Int.toNat_zero, List.drop_zero, decide_eq_true_eq, decide_eq_false_iff_not, Bool.not_eq_true', Bool.not_eq_false', bne_iff_ne, bne_eq_false_iff_eq, beq_iff_eq, beq_eq_false_iff_ne, Bool.not_eq_true, Bool.not_eq_false, ne_eq, Decidable.not_not, baEq, decide_not, Prod.mk.injEq, and_true, true_and, Room, List.nil_append, Nat.zero_add, Int.not_lt, Int.not_le] at *
  · rw [decide_eq_false]; rintro rfl; omega
  · exact ⟨by omega, by omega, by simp⟩
  · omega
  · omega
  · rw [decide_eq_false]; rintro rfl; exact absurd rfl h6
  · have hw : IntKind.i64.wrap (y2.1 + 1) = y2.1 + 1 := wrapId (by omega)
    rw [hw, toNat1 (by omega)]
    refine ⟨⟨by omega, by omega, ?_⟩, by omega⟩
    rw [take_succ (by omega), take_succ (by omega), i2.2.2, h6]
  · have e : l.take y2.1.toNat = l := List.take_of_length_le (by omega)
    have e2 : m.take y2.1.toNat = m := List.take_of_length_le (by omega)
    rw [decide_eq_true]; rw [← e, ← e2, i2.2.2])
def E93 : D.Env := E92.add 87 feqGuessS
theorem E93ok : EOk Tryz.prog E93 := E92ok.add k87_92
-- laws.szConn
set_option maxHeartbeats 2000000 in
theorem k192_93 : fszConn.ok Tryz.prog 192 := Fct.of (S := fszConn) (L := fun _ _ => none) (kp := [1,2,4,10,16,1000010,1000016]) E93ok Tryz.func192 (by kernel_rfl) (by kernel_rfl) (by
  rintro ⟨(x : SConn), (n : Int), _⟩ hp
  refine holds_of (X := .ob (fszAddr.pre (x.to, n, ())) <|
 .lt (Int × PUnit) (fszAddr.fn (x.to, n, ())) fun z2 =>
 .br (decide (z2.fst < (0 : Int)))
  (.leaf (mkR fszConn.rs ((-1 : Int), ())) [] [])
  (.ob (fszResponse.pre (x.response, z2.fst, ())) <|
   .lt (Int × PUnit) (fszResponse.fn (x.response, z2.fst, ())) fun z3 =>
   .br (decide (z3.fst < (0 : Int)))
    (.leaf (mkR fszConn.rs ((-1 : Int), ())) [] [])
    (.leaf (mkR fszConn.rs (z3.fst, ())) [] []))) (by kernel_rfl) ?_
  refine ob_i ?_ fun o1 => lt_i (br_i (fun h2 => Fct.leafY ?_) (fun h2 => ob_i ?_ fun o3 => lt_i (br_i (fun h4 => Fct.leafY ?_) (fun h4 => Fct.leafY ?_))))
  all_goals try simp only [decide_eq_true_eq, decide_eq_false_iff_not, Bool.not_eq_true', Bool.not_eq_false', bne_iff_ne, bne_eq_false_iff_eq, beq_iff_eq, beq_eq_false_iff_ne, baEq, Int.not_lt, Int.not_le, ne_eq, Decidable.not_not] at *
  all_goals try simp only [fszAddr, fszConn, fszResponse, etaToken, etaNode, etaBuilder, etaPolicy, etaPage, etaVisit, etaTab, etaServer, etaCache, etaNet, etaLoader, etaSheet, etaResult, etaSlot, etaModule, etaAddr, etaRequest, etaResponse, etaConn, etaGuess, etaEntry, etaSent, etaFile, baSz, List.size_toArray, List.length_cons, List.length_nil, Nat.reduceAdd, Int.toNat_zero, List.drop_zero, decide_eq_true_eq, decide_eq_false_iff_not, Bool.not_eq_true', Bool.not_eq_false', bne_iff_ne, bne_eq_false_iff_eq, beq_iff_eq, beq_eq_false_iff_ne, Bool.not_eq_true, Bool.not_eq_false, ne_eq, Decidable.not_not, baEq, decide_not, Prod.mk.injEq, and_true, true_and, Room, List.nil_append, Nat.zero_add, Int.not_lt, Int.not_le, Sh.good, Sh.fc, enc, List.forall_mem_cons, List.not_mem_nil, false_implies, implies_true, goodC, maxLen] at *
  all_goals grind [wrapId', lessen, szAddr, szConn, szResponse])
def E94 : D.Env := E93.add 192 fszConn
theorem E94ok : EOk Tryz.prog E94 := E93ok.add k192_93
-- laws.toConn
theorem k198_94 : ftoConn.ok Tryz.prog 198 := Fct.of (S := ftoConn) (L := fun _ _ => none) (kp := [1,2,3]) E94ok Tryz.func198 (by kernel_rfl) (by kernel_rfl) (by
  rintro ⟨(x : SConn), _⟩ hp
  refine holds_of (X := .ob (ftoAddr.pre (x.to, ())) <|
 .lt (SAddr × PUnit) (ftoAddr.fn (x.to, ())) fun z2 =>
 .ob (ftoResponse.pre (x.response, ())) <|
  .lt (SResponse × PUnit) (ftoResponse.fn (x.response, ())) fun z3 =>
  .leaf (mkR ftoConn.rs (⟨z2.fst, x.left, x.guess, z3.fst⟩, ())) [] []) (by kernel_rfl) ?_
  refine ob_i ?_ fun o1 => lt_i (ob_i ?_ fun o2 => lt_i (Fct.leafY ?_))
  all_goals try simp only [decide_eq_true_eq, decide_eq_false_iff_not, Bool.not_eq_true', Bool.not_eq_false', bne_iff_ne, bne_eq_false_iff_eq, beq_iff_eq, beq_eq_false_iff_ne, baEq, Int.not_lt, Int.not_le, ne_eq, Decidable.not_not] at *
  all_goals try simp only [ftoAddr, ftoConn, ftoResponse, etaToken, etaNode, etaBuilder, etaPolicy, etaPage, etaVisit, etaTab, etaServer, etaCache, etaNet, etaLoader, etaSheet, etaResult, etaSlot, etaModule, etaAddr, etaRequest, etaResponse, etaConn, etaGuess, etaEntry, etaSent, etaFile, baSz, List.size_toArray, List.length_cons, List.length_nil, Nat.reduceAdd, Int.toNat_zero, List.drop_zero, decide_eq_true_eq, decide_eq_false_iff_not, Bool.not_eq_true', Bool.not_eq_false', bne_iff_ne, bne_eq_false_iff_eq, beq_iff_eq, beq_eq_false_iff_ne, Bool.not_eq_true, Bool.not_eq_false, ne_eq, Decidable.not_not, baEq, decide_not, Prod.mk.injEq, and_true, true_and, Room, List.nil_append, Nat.zero_add, Int.not_lt, Int.not_le] at *
  all_goals first | trivial | rfl | grind [szAddr, szConn, szResponse])
def E95 : D.Env := E94.add 198 ftoConn
theorem E95ok : EOk Tryz.prog E95 := E94ok.add k198_94
-- laws.eqConn
set_option maxHeartbeats 2000000 in
theorem k204_95 : feqConn.ok Tryz.prog 204 := Fct.of (S := feqConn) (L := fun _ _ => none) (kp := [2,3,4,10,15,20,26,1000010,1000015,1000020,1000026]) E95ok Tryz.func204 (by kernel_rfl) (by kernel_rfl) (by
  rintro ⟨(x : SConn), (y : SConn), _⟩ hp
  refine holds_of (X := .ob (feqAddr.pre (x.to, y.to, ())) <|
 .lt (Bool × PUnit) (feqAddr.fn (x.to, y.to, ())) fun z2 =>
 .br (!z2.fst)
  (.leaf (mkR feqConn.rs (false, ())) [] [])
  (.br (x.left != y.left)
   (.leaf (mkR feqConn.rs (false, ())) [] [])
   (.br (!x.guess == y.guess)
    (.leaf (mkR feqConn.rs (false, ())) [] [])
    (.ob (feqResponse.pre (x.response, y.response, ())) <|
     .lt (Bool × PUnit) (feqResponse.fn (x.response, y.response, ())) fun z3 =>
     .br (!z3.fst)
      (.leaf (mkR feqConn.rs (false, ())) [] [])
      (.leaf (mkR feqConn.rs (true, ())) [] []))))) (by kernel_rfl) ?_
  refine ob_i trivial fun _ => lt_i (br_i (fun h1 => Fct.leafY ?_) (fun h1 => br_i (fun h2 => Fct.leafY ?_) (fun h2 => br_i (fun h3 => Fct.leafY ?_) (fun h3 => ob_i trivial fun _ => lt_i (br_i (fun h4 => Fct.leafY ?_) (fun h4 => Fct.leafY ?_))))))
  all_goals try simp only [decide_eq_true_eq, decide_eq_false_iff_not, Bool.not_eq_true', Bool.not_eq_false', bne_iff_ne, bne_eq_false_iff_eq, beq_iff_eq, beq_eq_false_iff_ne, baEq, Int.not_lt, Int.not_le, ne_eq, Decidable.not_not] at *
  all_goals try simp only [feqAddr, feqConn, feqResponse, etaToken, etaNode, etaBuilder, etaPolicy, etaPage, etaVisit, etaTab, etaServer, etaCache, etaNet, etaLoader, etaSheet, etaResult, etaSlot, etaModule, etaAddr, etaRequest, etaResponse, etaConn, etaGuess, etaEntry, etaSent, etaFile, baSz, List.size_toArray, List.length_cons, List.length_nil, Nat.reduceAdd, Int.toNat_zero, List.drop_zero, decide_eq_true_eq, decide_eq_false_iff_not, Bool.not_eq_true', Bool.not_eq_false', bne_iff_ne, bne_eq_false_iff_eq, beq_iff_eq, beq_eq_false_iff_ne, Bool.not_eq_true, Bool.not_eq_false, ne_eq, Decidable.not_not, baEq, decide_not, Prod.mk.injEq, and_true, true_and, Room, List.nil_append, Nat.zero_add, Int.not_lt, Int.not_le] at *
  all_goals first | trivial | (cases x; cases y; simp_all; done) | (simp only [szAddr, szConn, szResponse] at *; omega) | grind [szAddr, szConn, szResponse])
def E96 : D.Env := E95.add 204 feqConn
theorem E96ok : EOk Tryz.prog E96 := E95ok.add k204_95
-- laws.szConnS
set_option maxHeartbeats 2000000 in
theorem k76_96 : fszConnS.ok Tryz.prog 76 := Fct.of (S := fszConnS) (L := fun ⟨l, n, _⟩ => fun | 5 => some (LszS .conn szConn l n) | _ => none) (kp := [0,1,4,5,11,15,25,1000011,1000015,1000025]) E96ok Tryz.func76 (by kernel_rfl) (by kernel_rfl) (by
  rintro ⟨(l : List SConn), (n : Int), _⟩ hp
  refine holds_of (X := .br (decide (IntKind.i64.wrap (n - (↑l.length : Int)) < (0 : Int)))
 (.leaf (mkR fszConnS.rs ((-1 : Int), ())) [] [])
 (lpx (LszS .conn szConn l n) (IntKind.i64.wrap (n - (↑l.length : Int)), ((0 : Int), ())) fun (y2 : Int × Int × PUnit) bk2 =>
  .br (decide (y2.snd.fst < (↑l.length : Int)))
   (.ob ((0 : Int) ≤ y2.snd.fst ∧ y2.snd.fst < (↑l.length : Int)) <|
    .ob (fszConn.pre (l.getD y2.snd.fst.toNat default, y2.fst, ())) <|
    .lt (Int × PUnit) (fszConn.fn (l.getD y2.snd.fst.toNat default, y2.fst, ())) fun z2 =>
    .br (decide (z2.fst < (0 : Int)))
     (.leaf (mkR fszConnS.rs ((-1 : Int), ())) [] [])
     (.ob (l = l) <|
      .ob (bk2 (z2.fst, (IntKind.i64.wrap (y2.snd.fst + (1 : Int)), ()))) <|
      .ok))
   (.leaf (mkR fszConnS.rs (y2.fst, ())) [] []))) (by kernel_rfl) ?_
  refine br_i (fun h1 => Fct.leafY ?_) (fun h1 => lpx_i ?_ fun (y2 : Int × Int × PUnit) i2 => br_i (fun h3 => ob_i ?_ fun o4 => ob_i ?_ fun o5 => lt_i (br_i (fun h6 => Fct.leafY ?_) (fun h6 => ob_i rfl fun _ => ob_i ?_ fun o7 => trivial))) (fun h3 => Fct.leafY ?_))
  all_goals try simp only [decide_eq_true_eq, decide_eq_false_iff_not, Bool.not_eq_true', Bool.not_eq_false', bne_iff_ne, bne_eq_false_iff_eq, beq_iff_eq, beq_eq_false_iff_ne, baEq, Int.not_lt, Int.not_le, ne_eq, Decidable.not_not] at *
  all_goals try simp only [LszS, fszConn, fszConnS, etaToken, etaNode, etaBuilder, etaPolicy, etaPage, etaVisit, etaTab, etaServer, etaCache, etaNet, etaLoader, etaSheet, etaResult, etaSlot, etaModule, etaAddr, etaRequest, etaResponse, etaConn, etaGuess, etaEntry, etaSent, etaFile, baSz, List.size_toArray, List.length_cons, List.length_nil, Nat.reduceAdd, Int.toNat_zero, List.drop_zero, decide_eq_true_eq, decide_eq_false_iff_not, Bool.not_eq_true', Bool.not_eq_false', bne_iff_ne, bne_eq_false_iff_eq, beq_iff_eq, beq_eq_false_iff_ne, Bool.not_eq_true, Bool.not_eq_false, ne_eq, Decidable.not_not, baEq, decide_not, Prod.mk.injEq, and_true, true_and, Room, List.nil_append, Nat.zero_add, Int.not_lt, Int.not_le] at *
  · have := good_len hp.1; simp only [maxLen] at this; rw [wrapId (by omega)] at h1
    rw [lessenNeg (by simp only [szL]; omega)]
  · have := good_len hp.1; simp only [maxLen] at this
    rw [wrapId (by omega)] at h1 ⊢
    exact ⟨by omega, by omega, h1, by simp⟩
  · omega
  · exact ⟨good_getD hp.1 (by omega), by omega, by omega⟩
  · have hs := sum_take_le szConn l (y2.2.1.toNat + 1)
    rw [sum_take szConn (by omega)] at hs
    rw [lessen_lt (by omega)] at h6
    rw [lessenNeg (by simp only [szL]; omega)]
  · have hw : IntKind.i64.wrap (y2.2.1 + 1) = y2.2.1 + 1 := wrapId (by have := good_len hp.1; simp only [maxLen] at this; omega)
    have h7 : ¬ lessen y2.1 (szConn (l.getD y2.2.1.toNat default)) < 0 := by omega
    rw [lessen_lt (by omega)] at h7
    rw [hw, toNat1 (by omega), sum_take szConn (by omega), lessen_ge (by omega)]
    exact ⟨⟨by omega, by omega, by omega, by omega⟩, by omega⟩
  · have e : l.take y2.2.1.toNat = l := List.take_of_length_le (by omega)
    rw [e] at i2
    have hz : ((szL szConn l : Nat) : Int) = l.length + (l.map szConn).sum := by simp only [szL]; omega
    rw [lessen_ge (by omega)]
    show y2.1 = n - ((szL szConn l : Nat) : Int)
    omega)
def E97 : D.Env := E96.add 76 fszConnS
theorem E97ok : EOk Tryz.prog E97 := E96ok.add k76_96
-- laws.toConnS
theorem k81_97 : ftoConnS.ok Tryz.prog 81 := Fct.of (S := ftoConnS) (L := fun ⟨l, _⟩ => fun | 3 => some (LtoS .conn l) | _ => none) (kp := [0,2,3,4,11,1000011]) E97ok Tryz.func81 (by kernel_rfl) (by kernel_rfl) (by
  rintro ⟨(l : List SConn), _⟩ hp
  refine holds_of (X := .ob ((↑l.length : Int) = (↑l.length : Int) ∧
  (0 : Int) ≤ (↑l.length : Int) ∧
    (112 : Int) * (↑l.length : Int) ≤ (140737488355328 : Int) ∧ (↑l.length : Int) ≤ (140737488355328 : Int)) <|
 lpx (LtoS .conn l) ((0 : Int), (List.replicate (↑l.length : Int).toNat default, ())) fun (y2 : Int × List SConn × PUnit) bk2 =>
 .br (decide (y2.fst < (↑l.length : Int)))
  (.ob ((0 : Int) ≤ y2.fst ∧ y2.fst < (↑l.length : Int)) <|
   .ob (ftoConn.pre (l.getD y2.fst.toNat default, ())) <|
   .lt (SConn × PUnit) (ftoConn.fn (l.getD y2.fst.toNat default, ())) fun z2 =>
   .ob ((0 : Int) ≤ y2.fst ∧ y2.fst < (↑y2.snd.fst.length : Int)) <|
    .ob (y2.fst.toNat < y2.snd.fst.length) <|
    .lt (List SConn) (y2.snd.fst.modify y2.fst.toNat fun z => z2.fst) fun z3 =>
    .ob (l = l) <|
     .ob (bk2 (IntKind.i64.wrap (y2.fst + (1 : Int)), (z3, ()))) <|
     .ok)
  (.leaf (mkR ftoConnS.rs (y2.snd.fst, ())) [] [])) (by kernel_rfl) ?_
  refine ob_i ?_ fun o1 => lpx_i ?_ fun (y2 : Int × List SConn × PUnit) i2 => br_i (fun h3 => ob_i ?_ fun o4 => ob_i ?_ fun o5 => lt_i (ob_i ?_ fun o6 => ob_i ?_ fun o7 => lt_i (ob_i rfl fun _ => ob_i ?_ fun o8 => trivial))) (fun h3 => Fct.leafY ?_)
  all_goals try simp only [decide_eq_true_eq, decide_eq_false_iff_not, Bool.not_eq_true', Bool.not_eq_false', bne_iff_ne, bne_eq_false_iff_eq, beq_iff_eq, beq_eq_false_iff_ne, baEq, Int.not_lt, Int.not_le, ne_eq, Decidable.not_not] at *
  all_goals try simp only [LtoS, ftoConn, ftoConnS, etaToken, etaNode, etaBuilder, etaPolicy, etaPage, etaVisit, etaTab, etaServer, etaCache, etaNet, etaLoader, etaSheet, etaResult, etaSlot, etaModule, etaAddr, etaRequest, etaResponse, etaConn, etaGuess, etaEntry, etaSent, etaFile, baSz, List.size_toArray, List.length_cons, List.length_nil, Nat.reduceAdd, Int.toNat_zero, List.drop_zero, decide_eq_true_eq, decide_eq_false_iff_not, Bool.not_eq_true', Bool.not_eq_false', bne_iff_ne, bne_eq_false_iff_eq, beq_iff_eq, beq_eq_false_iff_ne, Bool.not_eq_true, Bool.not_eq_false, ne_eq, Decidable.not_not, baEq, decide_not, Prod.mk.injEq, and_true, true_and, Room, List.nil_append, Nat.zero_add, Int.not_lt, Int.not_le] at *
  · have := szL_len szConn l; omega
  · exact ⟨by omega, by omega, by simp⟩
  · omega
  · have hs := sum_take_le szConn l (y2.1.toNat + 1)
    rw [sum_take szConn (by omega)] at hs
    simp only [szL] at hp; omega
  · rw [i2.2.2]; simp; omega
  · rw [i2.2.2]; simp; omega
  · have hw : IntKind.i64.wrap (y2.1 + 1) = y2.1 + 1 := wrapId (by have := szL_len szConn l; omega)
    rw [hw, toNat1 (by omega), i2.2.2]
    refine ⟨⟨by omega, by omega, ?_⟩, by omega⟩
    rw [show l.length - y2.1.toNat = (l.length - (y2.1.toNat + 1)) + 1 from by omega, List.replicate_succ, mod_at (by simp; omega), take_succ (by omega)]
    simp
  · have e : l.take y2.1.toNat = l := List.take_of_length_le (by omega)
    rw [i2.2.2, e]; simp; omega)
def E98 : D.Env := E97.add 81 ftoConnS
theorem E98ok : EOk Tryz.prog E98 := E97ok.add k81_97
-- laws.eqConnS
set_option maxHeartbeats 2000000 in
theorem k86_98 : feqConnS.ok Tryz.prog 86 := Fct.of (S := feqConnS) (L := fun ⟨l, m, _⟩ => fun | 4 => some (LeqS .conn l m) | _ => none) (kp := [0,1,4,5,10,14,26,1000010,1000014,1000026]) E98ok Tryz.func86 (by kernel_rfl) (by kernel_rfl) (by
  rintro ⟨(l : List SConn), (m : List SConn), _⟩ hp
  refine holds_of (X := .br ((↑l.length : Int) != (↑m.length : Int))
 (.leaf (mkR feqConnS.rs (false, ())) [] [])
 (lpx (LeqS .conn l m) ((0 : Int), ()) fun (y2 : Int × PUnit) bk2 =>
  .br (decide (y2.fst < (↑l.length : Int)))
   (.ob ((0 : Int) ≤ y2.fst ∧ y2.fst < (↑l.length : Int)) <|
    .ob ((0 : Int) ≤ y2.fst ∧ y2.fst < (↑m.length : Int)) <|
    .ob (feqConn.pre (l.getD y2.fst.toNat default, m.getD y2.fst.toNat default, ())) <|
    .lt (Bool × PUnit) (feqConn.fn (l.getD y2.fst.toNat default, m.getD y2.fst.toNat default, ())) fun z2 =>
    .br (!z2.fst)
     (.leaf (mkR feqConnS.rs (false, ())) [] [])
     (.ob (l = l) <|
      .ob (m = m) <|
      .ob (bk2 (IntKind.i64.wrap (y2.fst + (1 : Int)), ())) <|
      .ok))
   (.leaf (mkR feqConnS.rs (true, ())) [] []))) (by kernel_rfl) ?_
  refine br_i (fun h1 => Fct.leafY ?_) (fun h1 => lpx_i ?_ fun (y2 : Int × PUnit) i2 => br_i (fun h3 => ob_i ?_ fun o4 => ob_i ?_ fun o5 => ob_i trivial fun _ => lt_i (br_i (fun h6 => Fct.leafY ?_) (fun h6 => ob_i rfl fun _ => ob_i rfl fun _ => ob_i ?_ fun o7 => trivial))) (fun h3 => Fct.leafY ?_))
  all_goals try simp only [decide_eq_true_eq, decide_eq_false_iff_not, Bool.not_eq_true', Bool.not_eq_false', bne_iff_ne, bne_eq_false_iff_eq, beq_iff_eq, beq_eq_false_iff_ne, baEq, Int.not_lt, Int.not_le, ne_eq, Decidable.not_not] at *
  all_goals try simp only [LeqS, feqConn, feqConnS, etaToken, etaNode, etaBuilder, etaPolicy, etaPage, etaVisit, etaTab, etaServer, etaCache, etaNet, etaLoader, etaSheet, etaResult, etaSlot, etaModule, etaAddr, etaRequest, etaResponse, etaConn, etaGuess, etaEntry, etaSent, etaFile, baSz, List.size_toArray, List.length_cons, List.length_nil, Nat.reduceAdd, Int.toNat_zero, List.drop_zero, decide_eq_true_eq, decide_eq_false_iff_not, Bool.not_eq_true', Bool.not_eq_false', bne_iff_ne, bne_eq_false_iff_eq, beq_iff_eq, beq_eq_false_iff_ne, Bool.not_eq_true, Bool.not_eq_false, ne_eq, Decidable.not_not, baEq, decide_not, Prod.mk.injEq, and_true, true_and, Room, List.nil_append, Nat.zero_add, Int.not_lt, Int.not_le] at *
  · rw [decide_eq_false]; rintro rfl; omega
  · exact ⟨by omega, by omega, by simp⟩
  · omega
  · omega
  · rw [decide_eq_false]; rintro rfl; exact absurd rfl h6
  · have hw : IntKind.i64.wrap (y2.1 + 1) = y2.1 + 1 := wrapId (by omega)
    rw [hw, toNat1 (by omega)]
    refine ⟨⟨by omega, by omega, ?_⟩, by omega⟩
    rw [take_succ (by omega), take_succ (by omega), i2.2.2, h6]
  · have e : l.take y2.1.toNat = l := List.take_of_length_le (by omega)
    have e2 : m.take y2.1.toNat = m := List.take_of_length_le (by omega)
    rw [decide_eq_true]; rw [← e, ← e2, i2.2.2])
def E99 : D.Env := E98.add 86 feqConnS
theorem E99ok : EOk Tryz.prog E99 := E98ok.add k86_98
-- laws.szLoader
set_option maxHeartbeats 2000000 in
theorem k21_99 : fszLoader.ok Tryz.prog 21 := Fct.of (S := fszLoader) (L := fun _ _ => none) (kp := [1,2,4,10,16,22,28,34,1000010,1000016,1000022,1000028,1000034]) E99ok Tryz.func21 (by kernel_rfl) (by kernel_rfl) (by
  rintro ⟨(x : SLoader), (n : Int), _⟩ hp
  refine holds_of (X := .ob (fszNet.pre (x.net, n, ())) <|
 .lt (Int × PUnit) (fszNet.fn (x.net, n, ())) fun z2 =>
 .br (decide (z2.fst < (0 : Int)))
  (.leaf (mkR fszLoader.rs ((-1 : Int), ())) [] [])
  (.ob (fszPage.pre (x.page, z2.fst, ())) <|
   .lt (Int × PUnit) (fszPage.fn (x.page, z2.fst, ())) fun z3 =>
   .br (decide (z3.fst < (0 : Int)))
    (.leaf (mkR fszLoader.rs ((-1 : Int), ())) [] [])
    (.ob (fszStringS.pre (x.parts, z3.fst, ())) <|
     .lt (Int × PUnit) (fszStringS.fn (x.parts, z3.fst, ())) fun z4 =>
     .br (decide (z4.fst < (0 : Int)))
      (.leaf (mkR fszLoader.rs ((-1 : Int), ())) [] [])
      (.ob (fszConnS.pre (x.conns, z4.fst, ())) <|
       .lt (Int × PUnit) (fszConnS.fn (x.conns, z4.fst, ())) fun z5 =>
       .br (decide (z5.fst < (0 : Int)))
        (.leaf (mkR fszLoader.rs ((-1 : Int), ())) [] [])
        (.ob (fszGuessS.pre (x.guesses, z5.fst, ())) <|
         .lt (Int × PUnit) (fszGuessS.fn (x.guesses, z5.fst, ())) fun z6 =>
         .br (decide (z6.fst < (0 : Int)))
          (.leaf (mkR fszLoader.rs ((-1 : Int), ())) [] [])
          (.leaf (mkR fszLoader.rs (z6.fst, ())) [] [])))))) (by kernel_rfl) ?_
  refine ob_i ?_ fun o1 => lt_i (br_i (fun h2 => Fct.leafY ?_) (fun h2 => ob_i ?_ fun o3 => lt_i (br_i (fun h4 => Fct.leafY ?_) (fun h4 => ob_i ?_ fun o5 => lt_i (br_i (fun h6 => Fct.leafY ?_) (fun h6 => ob_i ?_ fun o7 => lt_i (br_i (fun h8 => Fct.leafY ?_) (fun h8 => ob_i ?_ fun o9 => lt_i (br_i (fun h10 => Fct.leafY ?_) (fun h10 => Fct.leafY ?_))))))))))
  all_goals try simp only [decide_eq_true_eq, decide_eq_false_iff_not, Bool.not_eq_true', Bool.not_eq_false', bne_iff_ne, bne_eq_false_iff_eq, beq_iff_eq, beq_eq_false_iff_ne, baEq, Int.not_lt, Int.not_le, ne_eq, Decidable.not_not] at *
  all_goals try simp only [fszConnS, fszGuessS, fszLoader, fszNet, fszPage, fszStringS, etaToken, etaNode, etaBuilder, etaPolicy, etaPage, etaVisit, etaTab, etaServer, etaCache, etaNet, etaLoader, etaSheet, etaResult, etaSlot, etaModule, etaAddr, etaRequest, etaResponse, etaConn, etaGuess, etaEntry, etaSent, etaFile, baSz, List.size_toArray, List.length_cons, List.length_nil, Nat.reduceAdd, Int.toNat_zero, List.drop_zero, decide_eq_true_eq, decide_eq_false_iff_not, Bool.not_eq_true', Bool.not_eq_false', bne_iff_ne, bne_eq_false_iff_eq, beq_iff_eq, beq_eq_false_iff_ne, Bool.not_eq_true, Bool.not_eq_false, ne_eq, Decidable.not_not, baEq, decide_not, Prod.mk.injEq, and_true, true_and, Room, List.nil_append, Nat.zero_add, Int.not_lt, Int.not_le, Sh.good, Sh.fc, enc, List.forall_mem_cons, List.not_mem_nil, false_implies, implies_true, goodC, maxLen] at *
  all_goals grind [wrapId', lessen, szL, szLoader, szNet, szPage])
def E100 : D.Env := E99.add 21 fszLoader
theorem E100ok : EOk Tryz.prog E100 := E99ok.add k21_99
-- laws.toLoader
theorem k23_100 : ftoLoader.ok Tryz.prog 23 := Fct.of (S := ftoLoader) (L := fun _ _ => none) (kp := [1,2,3]) E100ok Tryz.func23 (by kernel_rfl) (by kernel_rfl) (by
  rintro ⟨(x : SLoader), _⟩ hp
  refine holds_of (X := .ob (ftoNet.pre (x.net, ())) <|
 .lt (SNet × PUnit) (ftoNet.fn (x.net, ())) fun z2 =>
 .ob (ftoPage.pre (x.page, ())) <|
  .lt (SPage × PUnit) (ftoPage.fn (x.page, ())) fun z3 =>
  .ob (ftoStringS.pre (x.parts, ())) <|
   .lt (List ByteArray × PUnit) (ftoStringS.fn (x.parts, ())) fun z4 =>
   .ob (ftoConnS.pre (x.conns, ())) <|
    .lt (List SConn × PUnit) (ftoConnS.fn (x.conns, ())) fun z5 =>
    .ob (ftoGuessS.pre (x.guesses, ())) <|
     .lt (List SGuess × PUnit) (ftoGuessS.fn (x.guesses, ())) fun z6 =>
     .leaf (mkR ftoLoader.rs (⟨z2.fst, z3.fst, z4.fst, z5.fst, z6.fst⟩, ())) [] []) (by kernel_rfl) ?_
  refine ob_i ?_ fun o1 => lt_i (ob_i ?_ fun o2 => lt_i (ob_i ?_ fun o3 => lt_i (ob_i ?_ fun o4 => lt_i (ob_i ?_ fun o5 => lt_i (Fct.leafY ?_)))))
  all_goals try simp only [decide_eq_true_eq, decide_eq_false_iff_not, Bool.not_eq_true', Bool.not_eq_false', bne_iff_ne, bne_eq_false_iff_eq, beq_iff_eq, beq_eq_false_iff_ne, baEq, Int.not_lt, Int.not_le, ne_eq, Decidable.not_not] at *
  all_goals try simp only [ftoConnS, ftoGuessS, ftoLoader, ftoNet, ftoPage, ftoStringS, etaToken, etaNode, etaBuilder, etaPolicy, etaPage, etaVisit, etaTab, etaServer, etaCache, etaNet, etaLoader, etaSheet, etaResult, etaSlot, etaModule, etaAddr, etaRequest, etaResponse, etaConn, etaGuess, etaEntry, etaSent, etaFile, baSz, List.size_toArray, List.length_cons, List.length_nil, Nat.reduceAdd, Int.toNat_zero, List.drop_zero, decide_eq_true_eq, decide_eq_false_iff_not, Bool.not_eq_true', Bool.not_eq_false', bne_iff_ne, bne_eq_false_iff_eq, beq_iff_eq, beq_eq_false_iff_ne, Bool.not_eq_true, Bool.not_eq_false, ne_eq, Decidable.not_not, baEq, decide_not, Prod.mk.injEq, and_true, true_and, Room, List.nil_append, Nat.zero_add, Int.not_lt, Int.not_le] at *
  all_goals first | trivial | rfl | grind [szL, szLoader, szNet, szPage])
def E101 : D.Env := E100.add 23 ftoLoader
theorem E101ok : EOk Tryz.prog E101 := E100ok.add k23_100
-- laws.eqLoader
set_option maxHeartbeats 2000000 in
theorem k25_101 : feqLoader.ok Tryz.prog 25 := Fct.of (S := feqLoader) (L := fun _ _ => none) (kp := [2,3,4,10,16,22,28,34,1000010,1000016,1000022,1000028,1000034]) E101ok Tryz.func25 (by kernel_rfl) (by kernel_rfl) (by
  rintro ⟨(x : SLoader), (y : SLoader), _⟩ hp
  refine holds_of (X := .ob (feqNet.pre (x.net, y.net, ())) <|
 .lt (Bool × PUnit) (feqNet.fn (x.net, y.net, ())) fun z2 =>
 .br (!z2.fst)
  (.leaf (mkR feqLoader.rs (false, ())) [] [])
  (.ob (feqPage.pre (x.page, y.page, ())) <|
   .lt (Bool × PUnit) (feqPage.fn (x.page, y.page, ())) fun z3 =>
   .br (!z3.fst)
    (.leaf (mkR feqLoader.rs (false, ())) [] [])
    (.ob (feqStringS.pre (x.parts, y.parts, ())) <|
     .lt (Bool × PUnit) (feqStringS.fn (x.parts, y.parts, ())) fun z4 =>
     .br (!z4.fst)
      (.leaf (mkR feqLoader.rs (false, ())) [] [])
      (.ob (feqConnS.pre (x.conns, y.conns, ())) <|
       .lt (Bool × PUnit) (feqConnS.fn (x.conns, y.conns, ())) fun z5 =>
       .br (!z5.fst)
        (.leaf (mkR feqLoader.rs (false, ())) [] [])
        (.ob (feqGuessS.pre (x.guesses, y.guesses, ())) <|
         .lt (Bool × PUnit) (feqGuessS.fn (x.guesses, y.guesses, ())) fun z6 =>
         .br (!z6.fst)
          (.leaf (mkR feqLoader.rs (false, ())) [] [])
          (.leaf (mkR feqLoader.rs (true, ())) [] [])))))) (by kernel_rfl) ?_
  refine ob_i ?_ fun o1 => lt_i (br_i (fun h2 => Fct.leafY ?_) (fun h2 => ob_i ?_ fun o3 => lt_i (br_i (fun h4 => Fct.leafY ?_) (fun h4 => ob_i ?_ fun o5 => lt_i (br_i (fun h6 => Fct.leafY ?_) (fun h6 => ob_i ?_ fun o7 => lt_i (br_i (fun h8 => Fct.leafY ?_) (fun h8 => ob_i ?_ fun o9 => lt_i (br_i (fun h10 => Fct.leafY ?_) (fun h10 => Fct.leafY ?_))))))))))
  all_goals try simp only [decide_eq_true_eq, decide_eq_false_iff_not, Bool.not_eq_true', Bool.not_eq_false', bne_iff_ne, bne_eq_false_iff_eq, beq_iff_eq, beq_eq_false_iff_ne, baEq, Int.not_lt, Int.not_le, ne_eq, Decidable.not_not] at *
  all_goals try simp only [feqConnS, feqGuessS, feqLoader, feqNet, feqPage, feqStringS, etaToken, etaNode, etaBuilder, etaPolicy, etaPage, etaVisit, etaTab, etaServer, etaCache, etaNet, etaLoader, etaSheet, etaResult, etaSlot, etaModule, etaAddr, etaRequest, etaResponse, etaConn, etaGuess, etaEntry, etaSent, etaFile, baSz, List.size_toArray, List.length_cons, List.length_nil, Nat.reduceAdd, Int.toNat_zero, List.drop_zero, decide_eq_true_eq, decide_eq_false_iff_not, Bool.not_eq_true', Bool.not_eq_false', bne_iff_ne, bne_eq_false_iff_eq, beq_iff_eq, beq_eq_false_iff_ne, Bool.not_eq_true, Bool.not_eq_false, ne_eq, Decidable.not_not, baEq, decide_not, Prod.mk.injEq, and_true, true_and, Room, List.nil_append, Nat.zero_add, Int.not_lt, Int.not_le] at *
  all_goals first | trivial | (cases x; cases y; simp_all; done) | (simp only [szL, szLoader, szNet, szPage] at *; omega) | grind [szL, szLoader, szNet, szPage])
def E102 : D.Env := E101.add 25 feqLoader
theorem E102ok : EOk Tryz.prog E102 := E101ok.add k25_101
def fEqual_int : Fct := ⟨[.v (.sl .int), .v (.sl .int)], [.el .bool], fun (x_ : (List Int) × (List Int) × Unit) => x_.1.length ≤ 1000000000000000000, fun (x_ : (List Int) × (List Int) × Unit) => (decide (x_.1 = x_.2.1), ())⟩
abbrev W_slices_Equal_int_int_fEqual_int_4 (l : (List Int)) (m : (List Int)) : LInv := ⟨[⟨.s, 13, true, .el .int⟩], fun _ (x_ : Int × Unit) => 0 ≤ x_.1 ∧ x_.1 ≤ l.length ∧ l.length = m.length ∧ decide (l.drop x_.1.toNat = m.drop x_.1.toNat) = decide (l = m), fun (x_ : Int × Unit) => l.length - x_.1.toNat⟩
-- slices.Equal[[]int,int]
theorem k251_102 : fEqual_int.ok Tryz.prog 251 := Fct.of (S := fEqual_int) (L := fun ⟨l, m, _⟩ => fun | 4 => some (W_slices_Equal_int_int_fEqual_int_4 l m) | _ => none) (kp := [0,1,4,5,10,12,13,14,24,1000010,1000014,1000024]) E102ok Tryz.func251 (by kernel_rfl) (by kernel_rfl) (by
  rintro ⟨(l : List Int), (m : List Int), _⟩ hp
  refine holds_of (X := .br ((↑l.length : Int) != (↑m.length : Int))
 (.leaf (mkR fEqual_int.rs (false, ())) [] [])
 (lpx (W_slices_Equal_int_int_fEqual_int_4 l m) ((0 : Int), ()) fun (y2 : Int × PUnit) bk2 =>
  .br (decide (y2.fst < (↑l.length : Int)))
   (.ob ((0 : Int) ≤ y2.fst ∧ y2.fst < (↑l.length : Int)) <|
    .ob ((0 : Int) ≤ y2.fst ∧ y2.fst < (↑m.length : Int)) <|
    .br (l.getD y2.fst.toNat default != m.getD y2.fst.toNat default)
    (.leaf (mkR fEqual_int.rs (false, ())) [] [])
    (.ob (l = l) <|
     .ob (m = m) <|
     .ob (Value.int IntKind.i64 (↑l.length : Int) = Value.int IntKind.i64 (↑l.length : Int)) <|
     .ob (bk2 (IntKind.i64.wrap (y2.fst + (1 : Int)), ())) <|
     .ok))
   (.leaf (mkR fEqual_int.rs (true, ())) [] []))) (by kernel_rfl) ?_
  refine br_i (fun h1 => Fct.leafY ?_) (fun h1 => lpx_i ?_ fun (y2 : Int × PUnit) i2 => br_i (fun h3 => ob_i ?_ fun o4 => ob_i ?_ fun o5 => br_i (fun h6 => Fct.leafY ?_) (fun h6 => ob_i rfl fun _ => ob_i rfl fun _ => ob_i rfl fun _ => ob_i ?_ fun o7 => trivial)) (fun h3 => Fct.leafY ?_))
  all_goals try simp only [beq_iff_eq] at *
  all_goals try simp only [decide_eq_true_eq, decide_eq_false_iff_not, Bool.not_eq_true', Bool.not_eq_false', bne_iff_ne, bne_eq_false_iff_eq, beq_iff_eq, beq_eq_false_iff_ne, baEq, Int.not_lt, Int.not_le, ne_eq, Decidable.not_not] at *
  all_goals try simp only [W_slices_Equal_int_int_fEqual_int_4, fEqual_int, etaToken, etaNode, etaBuilder, etaPolicy, etaPage, etaVisit, etaTab, etaServer, etaCache, etaNet, etaLoader, etaSheet, etaResult, etaSlot, etaModule, etaAddr, etaRequest, etaResponse, etaConn, etaGuess, etaEntry, etaSent, etaFile, baSz, List.size_toArray, List.length_cons, List.length_nil, Nat.reduceAdd, Int.toNat_zero, List.drop_zero, decide_eq_true_eq, decide_eq_false_iff_not, Bool.not_eq_true', Bool.not_eq_false', bne_iff_ne, bne_eq_false_iff_eq, beq_iff_eq, beq_eq_false_iff_ne, Bool.not_eq_true, Bool.not_eq_false, ne_eq, Decidable.not_not, baEq, decide_not, Prod.mk.injEq, and_true, true_and, Room, List.nil_append, Nat.zero_add, Int.not_lt, Int.not_le] at *
  all_goals try simp (disch := omega) only [wrapId', toNat1] at *
  all_goals try simp (disch := omega) only [if_pos, if_neg]
  all_goals first | trivial | omega | grind [wrapId', toNat1, drop_cons, drop_end, good_len, maxLen])
def E103 : D.Env := E102.add 251 fEqual_int
theorem E103ok : EOk Tryz.prog E103 := E102ok.add k251_102
def fEqual_str : Fct := ⟨[.v (.sl .str), .v (.sl .str)], [.el .bool], fun (x_ : (List ByteArray) × (List ByteArray) × Unit) => x_.1.length ≤ 1000000000000000000, fun (x_ : (List ByteArray) × (List ByteArray) × Unit) => (decide (x_.1 = x_.2.1), ())⟩
abbrev W_slices_Equal_string_string_fEqual_str_4 (l : (List ByteArray)) (m : (List ByteArray)) : LInv := ⟨[⟨.s, 13, true, .el .int⟩], fun _ (x_ : Int × Unit) => 0 ≤ x_.1 ∧ x_.1 ≤ l.length ∧ l.length = m.length ∧ decide (l.drop x_.1.toNat = m.drop x_.1.toNat) = decide (l = m), fun (x_ : Int × Unit) => l.length - x_.1.toNat⟩
-- slices.Equal[[]string,string]
theorem k150_103 : fEqual_str.ok Tryz.prog 150 := Fct.of (S := fEqual_str) (L := fun ⟨l, m, _⟩ => fun | 4 => some (W_slices_Equal_string_string_fEqual_str_4 l m) | _ => none) (kp := [0,1,4,5,10,12,13,14,24,1000010,1000014,1000024]) E103ok Tryz.func150 (by kernel_rfl) (by kernel_rfl) (by
  rintro ⟨(l : List ByteArray), (m : List ByteArray), _⟩ hp
  refine holds_of (X := .br ((↑l.length : Int) != (↑m.length : Int))
 (.leaf (mkR fEqual_str.rs (false, ())) [] [])
 (lpx (W_slices_Equal_string_string_fEqual_str_4 l m) ((0 : Int), ()) fun (y2 : Int × PUnit) bk2 =>
  .br (decide (y2.fst < (↑l.length : Int)))
   (.ob ((0 : Int) ≤ y2.fst ∧ y2.fst < (↑l.length : Int)) <|
    .ob ((0 : Int) ≤ y2.fst ∧ y2.fst < (↑m.length : Int)) <|
    .br (!(l.getD y2.fst.toNat default).toList == (m.getD y2.fst.toNat default).toList)
    (.leaf (mkR fEqual_str.rs (false, ())) [] [])
    (.ob (l = l) <|
     .ob (m = m) <|
     .ob (Value.int IntKind.i64 (↑l.length : Int) = Value.int IntKind.i64 (↑l.length : Int)) <|
     .ob (bk2 (IntKind.i64.wrap (y2.fst + (1 : Int)), ())) <|
     .ok))
   (.leaf (mkR fEqual_str.rs (true, ())) [] []))) (by kernel_rfl) ?_
  refine br_i (fun h1 => Fct.leafY ?_) (fun h1 => lpx_i ?_ fun (y2 : Int × PUnit) i2 => br_i (fun h3 => ob_i ?_ fun o4 => ob_i ?_ fun o5 => br_i (fun h6 => Fct.leafY ?_) (fun h6 => ob_i rfl fun _ => ob_i rfl fun _ => ob_i rfl fun _ => ob_i ?_ fun o7 => trivial)) (fun h3 => Fct.leafY ?_))
  all_goals try simp only [baBeq, baEq] at *
  all_goals try simp only [decide_eq_true_eq, decide_eq_false_iff_not, Bool.not_eq_true', Bool.not_eq_false', bne_iff_ne, bne_eq_false_iff_eq, beq_iff_eq, beq_eq_false_iff_ne, baEq, Int.not_lt, Int.not_le, ne_eq, Decidable.not_not] at *
  all_goals try simp only [W_slices_Equal_string_string_fEqual_str_4, fEqual_str, etaToken, etaNode, etaBuilder, etaPolicy, etaPage, etaVisit, etaTab, etaServer, etaCache, etaNet, etaLoader, etaSheet, etaResult, etaSlot, etaModule, etaAddr, etaRequest, etaResponse, etaConn, etaGuess, etaEntry, etaSent, etaFile, baSz, List.size_toArray, List.length_cons, List.length_nil, Nat.reduceAdd, Int.toNat_zero, List.drop_zero, decide_eq_true_eq, decide_eq_false_iff_not, Bool.not_eq_true', Bool.not_eq_false', bne_iff_ne, bne_eq_false_iff_eq, beq_iff_eq, beq_eq_false_iff_ne, Bool.not_eq_true, Bool.not_eq_false, ne_eq, Decidable.not_not, baEq, decide_not, Prod.mk.injEq, and_true, true_and, Room, List.nil_append, Nat.zero_add, Int.not_lt, Int.not_le] at *
  all_goals try simp (disch := omega) only [wrapId', toNat1] at *
  all_goals try simp (disch := omega) only [if_pos, if_neg]
  all_goals first | trivial | omega | grind [wrapId', toNat1, drop_cons, drop_end, good_len, maxLen])
def E104 : D.Env := E103.add 150 fEqual_str
theorem E104ok : EOk Tryz.prog E104 := E103ok.add k150_103
def fEqual_attr : Fct := ⟨[.v (.sl .attr), .v (.sl .attr)], [.el .bool], fun (x_ : (List SAttr) × (List SAttr) × Unit) => x_.1.length ≤ 1000000000000000000, fun (x_ : (List SAttr) × (List SAttr) × Unit) => (decide (x_.1 = x_.2.1), ())⟩
abbrev W_slices_Equal_impl_Attr_impl_Attr_fEqual_attr_4 (l : (List SAttr)) (m : (List SAttr)) : LInv := ⟨[⟨.s, 13, true, .el .int⟩], fun _ (x_ : Int × Unit) => 0 ≤ x_.1 ∧ x_.1 ≤ l.length ∧ l.length = m.length ∧ decide (l.drop x_.1.toNat = m.drop x_.1.toNat) = decide (l = m), fun (x_ : Int × Unit) => l.length - x_.1.toNat⟩
-- slices.Equal[[]impl.Attr,impl.Attr]
theorem k248_104 : fEqual_attr.ok Tryz.prog 248 := Fct.of (S := fEqual_attr) (L := fun ⟨l, m, _⟩ => fun | 4 => some (W_slices_Equal_impl_Attr_impl_Attr_fEqual_attr_4 l m) | _ => none) (kp := [0,1,4,5,10,12,13,14,24,1000010,1000014,1000024]) E104ok Tryz.func248 (by kernel_rfl) (by kernel_rfl) (by
  rintro ⟨(l : List SAttr), (m : List SAttr), _⟩ hp
  refine holds_of (X := .br ((↑l.length : Int) != (↑m.length : Int))
 (.leaf (mkR fEqual_attr.rs (false, ())) [] [])
 (lpx (W_slices_Equal_impl_Attr_impl_Attr_fEqual_attr_4 l m) ((0 : Int), ()) fun (y2 : Int × PUnit) bk2 =>
  .br (decide (y2.fst < (↑l.length : Int)))
   (.ob ((0 : Int) ≤ y2.fst ∧ y2.fst < (↑l.length : Int)) <|
    .ob ((0 : Int) ≤ y2.fst ∧ y2.fst < (↑m.length : Int)) <|
    .br (!((l.getD y2.fst.toNat default).name == (m.getD y2.fst.toNat default).name &&
    ((l.getD y2.fst.toNat default).value == (m.getD y2.fst.toNat default).value && true)))
    (.leaf (mkR fEqual_attr.rs (false, ())) [] [])
    (.ob (l = l) <|
     .ob (m = m) <|
     .ob (Value.int IntKind.i64 (↑l.length : Int) = Value.int IntKind.i64 (↑l.length : Int)) <|
     .ob (bk2 (IntKind.i64.wrap (y2.fst + (1 : Int)), ())) <|
     .ok))
   (.leaf (mkR fEqual_attr.rs (true, ())) [] []))) (by kernel_rfl) ?_
  refine br_i (fun h1 => Fct.leafY ?_) (fun h1 => lpx_i ?_ fun (y2 : Int × PUnit) i2 => br_i (fun h3 => ob_i ?_ fun o4 => ob_i ?_ fun o5 => br_i (fun h6 => Fct.leafY ?_) (fun h6 => ob_i rfl fun _ => ob_i rfl fun _ => ob_i rfl fun _ => ob_i ?_ fun o7 => trivial)) (fun h3 => Fct.leafY ?_))
  all_goals try simp only [beqAttr] at *
  all_goals try simp only [decide_eq_true_eq, decide_eq_false_iff_not, Bool.not_eq_true', Bool.not_eq_false', bne_iff_ne, bne_eq_false_iff_eq, beq_iff_eq, beq_eq_false_iff_ne, baEq, Int.not_lt, Int.not_le, ne_eq, Decidable.not_not] at *
  all_goals try simp only [W_slices_Equal_impl_Attr_impl_Attr_fEqual_attr_4, fEqual_attr, etaToken, etaNode, etaBuilder, etaPolicy, etaPage, etaVisit, etaTab, etaServer, etaCache, etaNet, etaLoader, etaSheet, etaResult, etaSlot, etaModule, etaAddr, etaRequest, etaResponse, etaConn, etaGuess, etaEntry, etaSent, etaFile, baSz, List.size_toArray, List.length_cons, List.length_nil, Nat.reduceAdd, Int.toNat_zero, List.drop_zero, decide_eq_true_eq, decide_eq_false_iff_not, Bool.not_eq_true', Bool.not_eq_false', bne_iff_ne, bne_eq_false_iff_eq, beq_iff_eq, beq_eq_false_iff_ne, Bool.not_eq_true, Bool.not_eq_false, ne_eq, Decidable.not_not, baEq, decide_not, Prod.mk.injEq, and_true, true_and, Room, List.nil_append, Nat.zero_add, Int.not_lt, Int.not_le] at *
  all_goals try simp (disch := omega) only [wrapId', toNat1] at *
  all_goals try simp (disch := omega) only [if_pos, if_neg]
  all_goals first | trivial | omega | grind [wrapId', toNat1, drop_cons, drop_end, good_len, maxLen])
def E105 : D.Env := E104.add 248 fEqual_attr
theorem E105ok : EOk Tryz.prog E105 := E104ok.add k248_104
def fEqual_addr : Fct := ⟨[.v (.sl .addr), .v (.sl .addr)], [.el .bool], fun (x_ : (List SAddr) × (List SAddr) × Unit) => x_.1.length ≤ 1000000000000000000, fun (x_ : (List SAddr) × (List SAddr) × Unit) => (decide (x_.1 = x_.2.1), ())⟩
abbrev W_slices_Equal_impl_Addr_impl_Addr_fEqual_addr_4 (l : (List SAddr)) (m : (List SAddr)) : LInv := ⟨[⟨.s, 13, true, .el .int⟩], fun _ (x_ : Int × Unit) => 0 ≤ x_.1 ∧ x_.1 ≤ l.length ∧ l.length = m.length ∧ decide (l.drop x_.1.toNat = m.drop x_.1.toNat) = decide (l = m), fun (x_ : Int × Unit) => l.length - x_.1.toNat⟩
-- slices.Equal[[]impl.Addr,impl.Addr]
theorem k149_105 : fEqual_addr.ok Tryz.prog 149 := Fct.of (S := fEqual_addr) (L := fun ⟨l, m, _⟩ => fun | 4 => some (W_slices_Equal_impl_Addr_impl_Addr_fEqual_addr_4 l m) | _ => none) (kp := [0,1,4,5,10,12,13,14,24,1000010,1000014,1000024]) E105ok Tryz.func149 (by kernel_rfl) (by kernel_rfl) (by
  rintro ⟨(l : List SAddr), (m : List SAddr), _⟩ hp
  refine holds_of (X := .br ((↑l.length : Int) != (↑m.length : Int))
 (.leaf (mkR fEqual_addr.rs (false, ())) [] [])
 (lpx (W_slices_Equal_impl_Addr_impl_Addr_fEqual_addr_4 l m) ((0 : Int), ()) fun (y2 : Int × PUnit) bk2 =>
  .br (decide (y2.fst < (↑l.length : Int)))
   (.ob ((0 : Int) ≤ y2.fst ∧ y2.fst < (↑l.length : Int)) <|
    .ob ((0 : Int) ≤ y2.fst ∧ y2.fst < (↑m.length : Int)) <|
    .br (!((l.getD y2.fst.toNat default).host == (m.getD y2.fst.toNat default).host &&
    ((l.getD y2.fst.toNat default).path == (m.getD y2.fst.toNat default).path && true)))
    (.leaf (mkR fEqual_addr.rs (false, ())) [] [])
    (.ob (l = l) <|
     .ob (m = m) <|
     .ob (Value.int IntKind.i64 (↑l.length : Int) = Value.int IntKind.i64 (↑l.length : Int)) <|
     .ob (bk2 (IntKind.i64.wrap (y2.fst + (1 : Int)), ())) <|
     .ok))
   (.leaf (mkR fEqual_addr.rs (true, ())) [] []))) (by kernel_rfl) ?_
  refine br_i (fun h1 => Fct.leafY ?_) (fun h1 => lpx_i ?_ fun (y2 : Int × PUnit) i2 => br_i (fun h3 => ob_i ?_ fun o4 => ob_i ?_ fun o5 => br_i (fun h6 => Fct.leafY ?_) (fun h6 => ob_i rfl fun _ => ob_i rfl fun _ => ob_i rfl fun _ => ob_i ?_ fun o7 => trivial)) (fun h3 => Fct.leafY ?_))
  all_goals try simp only [beqAddr] at *
  all_goals try simp only [decide_eq_true_eq, decide_eq_false_iff_not, Bool.not_eq_true', Bool.not_eq_false', bne_iff_ne, bne_eq_false_iff_eq, beq_iff_eq, beq_eq_false_iff_ne, baEq, Int.not_lt, Int.not_le, ne_eq, Decidable.not_not] at *
  all_goals try simp only [W_slices_Equal_impl_Addr_impl_Addr_fEqual_addr_4, fEqual_addr, etaToken, etaNode, etaBuilder, etaPolicy, etaPage, etaVisit, etaTab, etaServer, etaCache, etaNet, etaLoader, etaSheet, etaResult, etaSlot, etaModule, etaAddr, etaRequest, etaResponse, etaConn, etaGuess, etaEntry, etaSent, etaFile, baSz, List.size_toArray, List.length_cons, List.length_nil, Nat.reduceAdd, Int.toNat_zero, List.drop_zero, decide_eq_true_eq, decide_eq_false_iff_not, Bool.not_eq_true', Bool.not_eq_false', bne_iff_ne, bne_eq_false_iff_eq, beq_iff_eq, beq_eq_false_iff_ne, Bool.not_eq_true, Bool.not_eq_false, ne_eq, Decidable.not_not, baEq, decide_not, Prod.mk.injEq, and_true, true_and, Room, List.nil_append, Nat.zero_add, Int.not_lt, Int.not_le] at *
  all_goals try simp (disch := omega) only [wrapId', toNat1] at *
  all_goals try simp (disch := omega) only [if_pos, if_neg]
  all_goals first | trivial | omega | grind [wrapId', toNat1, drop_cons, drop_end, good_len, maxLen])
def E106 : D.Env := E105.add 149 fEqual_addr
theorem E106ok : EOk Tryz.prog E106 := E105ok.add k149_105
abbrev W_spec_EqualInts_fEqual_int_4 (l : (List Int)) (m : (List Int)) : LInv := ⟨[⟨.s, 5, true, .el .int⟩], fun _ (x_ : Int × Unit) => 0 ≤ x_.1 ∧ x_.1 ≤ l.length ∧ l.length = m.length ∧ decide (l.drop x_.1.toNat = m.drop x_.1.toNat) = decide (l = m), fun (x_ : Int × Unit) => l.length - x_.1.toNat⟩
-- spec.EqualInts
theorem k330_106 : fEqual_int.ok Tryz.prog 330 := Fct.of (S := fEqual_int) (L := fun ⟨l, m, _⟩ => fun | 4 => some (W_spec_EqualInts_fEqual_int_4 l m) | _ => none) (kp := [0,1,4,5,10,14,25,1000010,1000014,1000025]) E106ok Tryz.func330 (by kernel_rfl) (by kernel_rfl) (by
  rintro ⟨(l : List Int), (m : List Int), _⟩ hp
  refine holds_of (X := .br ((↑l.length : Int) != (↑m.length : Int))
 (.leaf (mkR fEqual_int.rs (false, ())) [] [])
 (lpx (W_spec_EqualInts_fEqual_int_4 l m) ((0 : Int), ()) fun (y2 : Int × PUnit) bk2 =>
  .br (decide (y2.fst < (↑l.length : Int)))
   (.ob ((0 : Int) ≤ y2.fst ∧ y2.fst < (↑l.length : Int)) <|
    .ob ((0 : Int) ≤ y2.fst ∧ y2.fst < (↑m.length : Int)) <|
    .br (l.getD y2.fst.toNat default != m.getD y2.fst.toNat default)
    (.leaf (mkR fEqual_int.rs (false, ())) [] [])
    (.ob (l = l) <|
     .ob (m = m) <|
     .ob (bk2 (IntKind.i64.wrap (y2.fst + (1 : Int)), ())) <|
     .ok))
   (.leaf (mkR fEqual_int.rs (true, ())) [] []))) (by kernel_rfl) ?_
  refine br_i (fun h1 => Fct.leafY ?_) (fun h1 => lpx_i ?_ fun (y2 : Int × PUnit) i2 => br_i (fun h3 => ob_i ?_ fun o4 => ob_i ?_ fun o5 => br_i (fun h6 => Fct.leafY ?_) (fun h6 => ob_i rfl fun _ => ob_i rfl fun _ => ob_i ?_ fun o7 => trivial)) (fun h3 => Fct.leafY ?_))
  all_goals try simp only [decide_eq_true_eq, decide_eq_false_iff_not, Bool.not_eq_true', Bool.not_eq_false', bne_iff_ne, bne_eq_false_iff_eq, beq_iff_eq, beq_eq_false_iff_ne, baEq, Int.not_lt, Int.not_le, ne_eq, Decidable.not_not] at *
  all_goals try simp only [W_spec_EqualInts_fEqual_int_4, fEqual_int, etaToken, etaNode, etaBuilder, etaPolicy, etaPage, etaVisit, etaTab, etaServer, etaCache, etaNet, etaLoader, etaSheet, etaResult, etaSlot, etaModule, etaAddr, etaRequest, etaResponse, etaConn, etaGuess, etaEntry, etaSent, etaFile, baSz, List.size_toArray, List.length_cons, List.length_nil, Nat.reduceAdd, Int.toNat_zero, List.drop_zero, decide_eq_true_eq, decide_eq_false_iff_not, Bool.not_eq_true', Bool.not_eq_false', bne_iff_ne, bne_eq_false_iff_eq, beq_iff_eq, beq_eq_false_iff_ne, Bool.not_eq_true, Bool.not_eq_false, ne_eq, Decidable.not_not, baEq, decide_not, Prod.mk.injEq, and_true, true_and, Room, List.nil_append, Nat.zero_add, Int.not_lt, Int.not_le] at *
  all_goals try simp (disch := omega) only [wrapId', toNat1] at *
  all_goals try simp (disch := omega) only [if_pos, if_neg]
  all_goals first | trivial | omega | grind [wrapId', toNat1, drop_cons, drop_end, good_len, maxLen])
def E107 : D.Env := E106.add 330 fEqual_int
theorem E107ok : EOk Tryz.prog E107 := E106ok.add k330_106
abbrev W_spec_l9Same_fEqual_str_4 (l : (List ByteArray)) (m : (List ByteArray)) : LInv := ⟨[⟨.s, 5, true, .el .int⟩], fun _ (x_ : Int × Unit) => 0 ≤ x_.1 ∧ x_.1 ≤ l.length ∧ l.length = m.length ∧ decide (l.drop x_.1.toNat = m.drop x_.1.toNat) = decide (l = m), fun (x_ : Int × Unit) => l.length - x_.1.toNat⟩
-- spec.l9Same
theorem k154_107 : fEqual_str.ok Tryz.prog 154 := Fct.of (S := fEqual_str) (L := fun ⟨l, m, _⟩ => fun | 4 => some (W_spec_l9Same_fEqual_str_4 l m) | _ => none) (kp := [0,1,4,5,10,14,25,1000010,1000014,1000025]) E107ok Tryz.func154 (by kernel_rfl) (by kernel_rfl) (by
  rintro ⟨(l : List ByteArray), (m : List ByteArray), _⟩ hp
  refine holds_of (X := .br ((↑l.length : Int) != (↑m.length : Int))
 (.leaf (mkR fEqual_str.rs (false, ())) [] [])
 (lpx (W_spec_l9Same_fEqual_str_4 l m) ((0 : Int), ()) fun (y2 : Int × PUnit) bk2 =>
  .br (decide (y2.fst < (↑l.length : Int)))
   (.ob ((0 : Int) ≤ y2.fst ∧ y2.fst < (↑l.length : Int)) <|
    .ob ((0 : Int) ≤ y2.fst ∧ y2.fst < (↑m.length : Int)) <|
    .br (!(l.getD y2.fst.toNat default).toList == (m.getD y2.fst.toNat default).toList)
    (.leaf (mkR fEqual_str.rs (false, ())) [] [])
    (.ob (l = l) <|
     .ob (m = m) <|
     .ob (bk2 (IntKind.i64.wrap (y2.fst + (1 : Int)), ())) <|
     .ok))
   (.leaf (mkR fEqual_str.rs (true, ())) [] []))) (by kernel_rfl) ?_
  refine br_i (fun h1 => Fct.leafY ?_) (fun h1 => lpx_i ?_ fun (y2 : Int × PUnit) i2 => br_i (fun h3 => ob_i ?_ fun o4 => ob_i ?_ fun o5 => br_i (fun h6 => Fct.leafY ?_) (fun h6 => ob_i rfl fun _ => ob_i rfl fun _ => ob_i ?_ fun o7 => trivial)) (fun h3 => Fct.leafY ?_))
  all_goals try simp only [decide_eq_true_eq, decide_eq_false_iff_not, Bool.not_eq_true', Bool.not_eq_false', bne_iff_ne, bne_eq_false_iff_eq, beq_iff_eq, beq_eq_false_iff_ne, baEq, Int.not_lt, Int.not_le, ne_eq, Decidable.not_not] at *
  all_goals try simp only [W_spec_l9Same_fEqual_str_4, fEqual_str, etaToken, etaNode, etaBuilder, etaPolicy, etaPage, etaVisit, etaTab, etaServer, etaCache, etaNet, etaLoader, etaSheet, etaResult, etaSlot, etaModule, etaAddr, etaRequest, etaResponse, etaConn, etaGuess, etaEntry, etaSent, etaFile, baSz, List.size_toArray, List.length_cons, List.length_nil, Nat.reduceAdd, Int.toNat_zero, List.drop_zero, decide_eq_true_eq, decide_eq_false_iff_not, Bool.not_eq_true', Bool.not_eq_false', bne_iff_ne, bne_eq_false_iff_eq, beq_iff_eq, beq_eq_false_iff_ne, Bool.not_eq_true, Bool.not_eq_false, ne_eq, Decidable.not_not, baEq, decide_not, Prod.mk.injEq, and_true, true_and, Room, List.nil_append, Nat.zero_add, Int.not_lt, Int.not_le] at *
  all_goals try simp (disch := omega) only [wrapId', toNat1] at *
  all_goals try simp (disch := omega) only [if_pos, if_neg]
  all_goals first | trivial | omega | grind [wrapId', toNat1, drop_cons, drop_end, good_len, maxLen])
def E108 : D.Env := E107.add 154 fEqual_str
theorem E108ok : EOk Tryz.prog E108 := E107ok.add k154_107
-- spec.l15Texts
theorem k259_108 : fEqual_str.ok Tryz.prog 259 := Fct.of (S := fEqual_str) (L := fun _ _ => none) (kp := [0,1,4]) E108ok Tryz.func259 (by kernel_rfl) (by kernel_rfl) (by
  rintro ⟨(l : List ByteArray), (m : List ByteArray), _⟩ hp
  refine holds_of (X := .ob (fEqual_str.pre (l, m, ())) <|
 .lt (Bool × PUnit) (fEqual_str.fn (l, m, ())) fun z2 =>
 .leaf (mkR fEqual_str.rs (z2.fst, ())) [] []) (by kernel_rfl) ?_
  refine ob_i ?_ fun o1 => lt_i (Fct.leafY ?_)
  all_goals try simp only [decide_eq_true_eq, decide_eq_false_iff_not, Bool.not_eq_true', Bool.not_eq_false', bne_iff_ne, bne_eq_false_iff_eq, beq_iff_eq, beq_eq_false_iff_ne, baEq, Int.not_lt, Int.not_le, ne_eq, Decidable.not_not] at *
  all_goals try simp only [fEqual_str, etaToken, etaNode, etaBuilder, etaPolicy, etaPage, etaVisit, etaTab, etaServer, etaCache, etaNet, etaLoader, etaSheet, etaResult, etaSlot, etaModule, etaAddr, etaRequest, etaResponse, etaConn, etaGuess, etaEntry, etaSent, etaFile, baSz, List.size_toArray, List.length_cons, List.length_nil, Nat.reduceAdd, Int.toNat_zero, List.drop_zero, decide_eq_true_eq, decide_eq_false_iff_not, Bool.not_eq_true', Bool.not_eq_false', bne_iff_ne, bne_eq_false_iff_eq, beq_iff_eq, beq_eq_false_iff_ne, Bool.not_eq_true, Bool.not_eq_false, ne_eq, Decidable.not_not, baEq, decide_not, Prod.mk.injEq, and_true, true_and, Room, List.nil_append, Nat.zero_add, Int.not_lt, Int.not_le] at *
  all_goals try simp (disch := omega) only [wrapId', toNat1] at *
  all_goals try simp (disch := omega) only [if_pos, if_neg]
  all_goals first | trivial | omega | grind [wrapId', toNat1, drop_cons, drop_end, good_len, maxLen])
def E109 : D.Env := E108.add 259 fEqual_str
theorem E109ok : EOk Tryz.prog E109 := E108ok.add k259_108
abbrev W_spec_l15Addrs_fEqual_addr_4 (l : (List SAddr)) (m : (List SAddr)) : LInv := ⟨[⟨.s, 5, true, .el .int⟩], fun _ (x_ : Int × Unit) => 0 ≤ x_.1 ∧ x_.1 ≤ l.length ∧ l.length = m.length ∧ decide (l.drop x_.1.toNat = m.drop x_.1.toNat) = decide (l = m), fun (x_ : Int × Unit) => l.length - x_.1.toNat⟩
-- spec.l15Addrs
theorem k258_109 : fEqual_addr.ok Tryz.prog 258 := Fct.of (S := fEqual_addr) (L := fun ⟨l, m, _⟩ => fun | 4 => some (W_spec_l15Addrs_fEqual_addr_4 l m) | _ => none) (kp := [0,1,4,5,10,14,25,1000010,1000014,1000025]) E109ok Tryz.func258 (by kernel_rfl) (by kernel_rfl) (by
  rintro ⟨(l : List SAddr), (m : List SAddr), _⟩ hp
  refine holds_of (X := .br ((↑l.length : Int) != (↑m.length : Int))
 (.leaf (mkR fEqual_addr.rs (false, ())) [] [])
 (lpx (W_spec_l15Addrs_fEqual_addr_4 l m) ((0 : Int), ()) fun (y2 : Int × PUnit) bk2 =>
  .br (decide (y2.fst < (↑l.length : Int)))
   (.ob ((0 : Int) ≤ y2.fst ∧ y2.fst < (↑l.length : Int)) <|
    .ob ((0 : Int) ≤ y2.fst ∧ y2.fst < (↑m.length : Int)) <|
    .br (!((l.getD y2.fst.toNat default).host == (m.getD y2.fst.toNat default).host &&
    ((l.getD y2.fst.toNat default).path == (m.getD y2.fst.toNat default).path && true)))
    (.leaf (mkR fEqual_addr.rs (false, ())) [] [])
    (.ob (l = l) <|
     .ob (m = m) <|
     .ob (bk2 (IntKind.i64.wrap (y2.fst + (1 : Int)), ())) <|
     .ok))
   (.leaf (mkR fEqual_addr.rs (true, ())) [] []))) (by kernel_rfl) ?_
  refine br_i (fun h1 => Fct.leafY ?_) (fun h1 => lpx_i ?_ fun (y2 : Int × PUnit) i2 => br_i (fun h3 => ob_i ?_ fun o4 => ob_i ?_ fun o5 => br_i (fun h6 => Fct.leafY ?_) (fun h6 => ob_i rfl fun _ => ob_i rfl fun _ => ob_i ?_ fun o7 => trivial)) (fun h3 => Fct.leafY ?_))
  all_goals try simp only [beqAddr] at *
  all_goals try simp only [decide_eq_true_eq, decide_eq_false_iff_not, Bool.not_eq_true', Bool.not_eq_false', bne_iff_ne, bne_eq_false_iff_eq, beq_iff_eq, beq_eq_false_iff_ne, baEq, Int.not_lt, Int.not_le, ne_eq, Decidable.not_not] at *
  all_goals try simp only [W_spec_l15Addrs_fEqual_addr_4, fEqual_addr, etaToken, etaNode, etaBuilder, etaPolicy, etaPage, etaVisit, etaTab, etaServer, etaCache, etaNet, etaLoader, etaSheet, etaResult, etaSlot, etaModule, etaAddr, etaRequest, etaResponse, etaConn, etaGuess, etaEntry, etaSent, etaFile, baSz, List.size_toArray, List.length_cons, List.length_nil, Nat.reduceAdd, Int.toNat_zero, List.drop_zero, decide_eq_true_eq, decide_eq_false_iff_not, Bool.not_eq_true', Bool.not_eq_false', bne_iff_ne, bne_eq_false_iff_eq, beq_iff_eq, beq_eq_false_iff_ne, Bool.not_eq_true, Bool.not_eq_false, ne_eq, Decidable.not_not, baEq, decide_not, Prod.mk.injEq, and_true, true_and, Room, List.nil_append, Nat.zero_add, Int.not_lt, Int.not_le] at *
  all_goals try simp (disch := omega) only [wrapId', toNat1] at *
  all_goals try simp (disch := omega) only [if_pos, if_neg]
  all_goals first | trivial | omega | grind [wrapId', toNat1, drop_cons, drop_end, good_len, maxLen])
def E110 : D.Env := E109.add 258 fEqual_addr
theorem E110ok : EOk Tryz.prog E110 := E109ok.add k258_109
def fEqNode : Fct := ⟨[.v (.el .node), .v (.el .node)], [.el .bool], fun (x_ : SNode × SNode × Unit) => x_.1.attrs.length ≤ 1000000000000000000, fun (x_ : SNode × SNode × Unit) => (decide (x_.1 = x_.2.1), ())⟩
abbrev W_spec_l6Same_fEqNode_4 (a : SNode) (b : SNode) : LInv := ⟨[⟨.s, 5, true, .el .int⟩, ⟨.b, 2, false, .el .node⟩, ⟨.b, 3, false, .el .node⟩], fun (z_ : Int × SNode × SNode × Unit) (x_ : Int × SNode × SNode × Unit) => ((0 ≤ x_.1 ∧ x_.1 ≤ a.attrs.length ∧ a.name = b.name ∧ a.text = b.text ∧ a.parent = b.parent ∧ a.attrs.length = b.attrs.length ∧ decide (a.attrs.drop x_.1.toNat = b.attrs.drop x_.1.toNat) = decide (a.attrs = b.attrs)) ∧ x_.2.1 = z_.2.1) ∧ x_.2.2.1 = z_.2.2.1, fun (x_ : Int × SNode × SNode × Unit) => a.attrs.length - x_.1.toNat⟩
-- spec.l6Same
theorem k331_110 : fEqNode.ok Tryz.prog 331 := Fct.of (S := fEqNode) (L := fun ⟨a, b, _⟩ => fun | 4 => some (W_spec_l6Same_fEqNode_4 a b) | _ => none) (kp := [2,3,4,5,33,38,51,1000033,1000038,1000051]) E110ok Tryz.func331 (by kernel_rfl) (by kernel_rfl) (by
  rintro ⟨(a : SNode), (b : SNode), _⟩ hp
  refine holds_of (X := .br (!a.name.toList == b.name.toList)
 (.leaf (mkR fEqNode.rs (false, ())) [] [])
 (.br (!a.text.toList == b.text.toList)
  (.leaf (mkR fEqNode.rs (false, ())) [] [])
  (.br (a.parent != b.parent)
   (.leaf (mkR fEqNode.rs (false, ())) [] [])
   (.br ((↑a.attrs.length : Int) != (↑b.attrs.length : Int))
    (.leaf (mkR fEqNode.rs (false, ())) [] [])
    (lpx (W_spec_l6Same_fEqNode_4 a b) ((0 : Int), (a, (b, ()))) fun (y5 : Int × SNode × SNode × PUnit) bk5 =>
     .br (decide (y5.fst < (↑y5.snd.fst.attrs.length : Int)))
      (.ob ((0 : Int) ≤ y5.fst ∧ y5.fst < (↑y5.snd.fst.attrs.length : Int)) <|
       .ob ((0 : Int) ≤ y5.fst ∧ y5.fst < (↑y5.snd.snd.fst.attrs.length : Int)) <|
       .br (!((y5.snd.fst.attrs.getD y5.fst.toNat default).name == (y5.snd.snd.fst.attrs.getD y5.fst.toNat default).name &&
    ((y5.snd.fst.attrs.getD y5.fst.toNat default).value == (y5.snd.snd.fst.attrs.getD y5.fst.toNat default).value &&
      true)))
       (.leaf (mkR fEqNode.rs (false, ())) [] [])
       (.ob (bk5 (IntKind.i64.wrap (y5.fst + (1 : Int)), (y5.snd.fst, (y5.snd.snd.fst, ())))) <|
        .ok))
      (.leaf (mkR fEqNode.rs (true, ())) [] [])))))) (by kernel_rfl) ?_
  refine br_i (fun h1 => Fct.leafY ?_) (fun h1 => br_i (fun h2 => Fct.leafY ?_) (fun h2 => br_i (fun h3 => Fct.leafY ?_) (fun h3 => br_i (fun h4 => Fct.leafY ?_) (fun h4 => lpx_i ?_ fun (y5 : Int × SNode × SNode × PUnit) i5 => br_i (fun h6 => ob_i ?_ fun o7 => ob_i ?_ fun o8 => br_i (fun h9 => Fct.leafY ?_) (fun h9 => ob_i ?_ fun o10 => trivial)) (fun h6 => Fct.leafY ?_)))))
  all_goals try simp only [beqAttr] at *
  all_goals (cases a; cases b)
  all_goals try simp only [decide_eq_true_eq, decide_eq_false_iff_not, Bool.not_eq_true', Bool.not_eq_false', bne_iff_ne, bne_eq_false_iff_eq, beq_iff_eq, beq_eq_false_iff_ne, baEq, Int.not_lt, Int.not_le, ne_eq, Decidable.not_not] at *
  all_goals try simp only [W_spec_l6Same_fEqNode_4, fEqNode, etaToken, etaNode, etaBuilder, etaPolicy, etaPage, etaVisit, etaTab, etaServer, etaCache, etaNet, etaLoader, etaSheet, etaResult, etaSlot, etaModule, etaAddr, etaRequest, etaResponse, etaConn, etaGuess, etaEntry, etaSent, etaFile, baSz, List.size_toArray, List.length_cons, List.length_nil, Nat.reduceAdd, Int.toNat_zero, List.drop_zero, decide_eq_true_eq, decide_eq_false_iff_not, Bool.not_eq_true', Bool.not_eq_false', bne_iff_ne, bne_eq_false_iff_eq, beq_iff_eq, beq_eq_false_iff_ne, Bool.not_eq_true, Bool.not_eq_false, ne_eq, Decidable.not_not, baEq, decide_not, Prod.mk.injEq, and_true, true_and, Room, List.nil_append, Nat.zero_add, Int.not_lt, Int.not_le] at *
  all_goals try simp (disch := omega) only [wrapId', toNat1] at *
  all_goals try simp (disch := omega) only [if_pos, if_neg]
  all_goals first | trivial | omega | grind [wrapId', toNat1, drop_cons, drop_end, good_len, maxLen])
def E111 : D.Env := E110.add 331 fEqNode
theorem E111ok : EOk Tryz.prog E111 := E110ok.add k331_110
-- impl.equalNodes
theorem k250_111 : fEqNode.ok Tryz.prog 250 := Fct.of (S := fEqNode) (L := fun _ _ => none) (kp := [2,3,4]) E111ok Tryz.func250 (by kernel_rfl) (by kernel_rfl) (by
  rintro ⟨(a : SNode), (b : SNode), _⟩ hp
  refine holds_of (X := .br (a.name.toList == b.name.toList)
 (.br (a.text.toList == b.text.toList)
  (.br (a.parent == b.parent)
   (.ob (fEqual_attr.pre (a.attrs, b.attrs, ())) <|
    .lt (Bool × PUnit) (fEqual_attr.fn (a.attrs, b.attrs, ())) fun z2 =>
    .leaf (mkR fEqNode.rs (z2.fst, ())) [] [])
   (.leaf (mkR fEqNode.rs (false, ())) [] []))
  (.leaf (mkR fEqNode.rs (false, ())) [] []))
 (.leaf (mkR fEqNode.rs (false, ())) [] [])) (by kernel_rfl) ?_
  refine br_i (fun h1 => br_i (fun h2 => br_i (fun h3 => ob_i ?_ fun o4 => lt_i (Fct.leafY ?_)) (fun h3 => Fct.leafY ?_)) (fun h2 => Fct.leafY ?_)) (fun h1 => Fct.leafY ?_)
  all_goals (cases a; cases b)
  all_goals try simp only [decide_eq_true_eq, decide_eq_false_iff_not, Bool.not_eq_true', Bool.not_eq_false', bne_iff_ne, bne_eq_false_iff_eq, beq_iff_eq, beq_eq_false_iff_ne, baEq, Int.not_lt, Int.not_le, ne_eq, Decidable.not_not] at *
  all_goals try simp only [fEqNode, fEqual_attr, etaToken, etaNode, etaBuilder, etaPolicy, etaPage, etaVisit, etaTab, etaServer, etaCache, etaNet, etaLoader, etaSheet, etaResult, etaSlot, etaModule, etaAddr, etaRequest, etaResponse, etaConn, etaGuess, etaEntry, etaSent, etaFile, baSz, List.size_toArray, List.length_cons, List.length_nil, Nat.reduceAdd, Int.toNat_zero, List.drop_zero, decide_eq_true_eq, decide_eq_false_iff_not, Bool.not_eq_true', Bool.not_eq_false', bne_iff_ne, bne_eq_false_iff_eq, beq_iff_eq, beq_eq_false_iff_ne, Bool.not_eq_true, Bool.not_eq_false, ne_eq, Decidable.not_not, baEq, decide_not, Prod.mk.injEq, and_true, true_and, Room, List.nil_append, Nat.zero_add, Int.not_lt, Int.not_le, fEqual_attr] at *
  all_goals try simp (disch := omega) only [wrapId', toNat1] at *
  all_goals try simp (disch := omega) only [if_pos, if_neg]
  all_goals first | trivial | omega | grind [wrapId', toNat1, drop_cons, drop_end, good_len, maxLen, fEqual_attr])
def E112 : D.Env := E111.add 250 fEqNode
theorem E112ok : EOk Tryz.prog E112 := E111ok.add k250_111
def fEqToken : Fct := ⟨[.v (.el .token), .v (.el .token)], [.el .bool], fun (x_ : SToken × SToken × Unit) => x_.1.attrs.length ≤ 1000000000000000000, fun (x_ : SToken × SToken × Unit) => (decide (x_.1 = x_.2.1), ())⟩
-- impl.equalTokens
theorem k145_112 : fEqToken.ok Tryz.prog 145 := Fct.of (S := fEqToken) (L := fun _ _ => none) (kp := [2,3,4]) E112ok Tryz.func145 (by kernel_rfl) (by kernel_rfl) (by
  rintro ⟨(a : SToken), (b : SToken), _⟩ hp
  refine holds_of (X := .br (a.kind == b.kind)
 (.br (a.name.toList == b.name.toList)
  (.ob (fEqual_attr.pre (a.attrs, b.attrs, ())) <|
   .lt (Bool × PUnit) (fEqual_attr.fn (a.attrs, b.attrs, ())) fun z2 =>
   .br (z2.fst)
    (.leaf (mkR fEqToken.rs (a.text.toList == b.text.toList, ())) [] [])
    (.leaf (mkR fEqToken.rs (false, ())) [] []))
  (.leaf (mkR fEqToken.rs (false, ())) [] []))
 (.leaf (mkR fEqToken.rs (false, ())) [] [])) (by kernel_rfl) ?_
  refine br_i (fun h1 => br_i (fun h2 => ob_i ?_ fun o3 => lt_i (br_i (fun h4 => Fct.leafY ?_) (fun h4 => Fct.leafY ?_))) (fun h2 => Fct.leafY ?_)) (fun h1 => Fct.leafY ?_)
  all_goals (cases a; cases b)
  all_goals try simp only [decide_eq_true_eq, decide_eq_false_iff_not, Bool.not_eq_true', Bool.not_eq_false', bne_iff_ne, bne_eq_false_iff_eq, beq_iff_eq, beq_eq_false_iff_ne, baEq, Int.not_lt, Int.not_le, ne_eq, Decidable.not_not] at *
  all_goals try simp only [fEqToken, fEqual_attr, etaToken, etaNode, etaBuilder, etaPolicy, etaPage, etaVisit, etaTab, etaServer, etaCache, etaNet, etaLoader, etaSheet, etaResult, etaSlot, etaModule, etaAddr, etaRequest, etaResponse, etaConn, etaGuess, etaEntry, etaSent, etaFile, baSz, List.size_toArray, List.length_cons, List.length_nil, Nat.reduceAdd, Int.toNat_zero, List.drop_zero, decide_eq_true_eq, decide_eq_false_iff_not, Bool.not_eq_true', Bool.not_eq_false', bne_iff_ne, bne_eq_false_iff_eq, beq_iff_eq, beq_eq_false_iff_ne, Bool.not_eq_true, Bool.not_eq_false, ne_eq, Decidable.not_not, baEq, decide_not, Prod.mk.injEq, and_true, true_and, Room, List.nil_append, Nat.zero_add, Int.not_lt, Int.not_le, fEqual_attr] at *
  all_goals try simp (disch := omega) only [wrapId', toNat1] at *
  all_goals try simp (disch := omega) only [if_pos, if_neg]
  all_goals first | trivial | omega | grind [wrapId', toNat1, drop_cons, drop_end, good_len, maxLen, fEqual_attr])
def E113 : D.Env := E112.add 145 fEqToken
theorem E113ok : EOk Tryz.prog E113 := E112ok.add k145_112
def fEqualFunc_node : Fct := ⟨[aL .node, aL .node, .c 250 []], [rB], fun x => x.1.length ≤ 1000000000000000000 ∧ ∀ i, i < x.1.length → i < x.2.1.length → fEqNode.pre (x.1.getD i default, x.2.1.getD i default, ()), fun x => (decide (x.1 = x.2.1), ())⟩
abbrev W_slices_EqualFunc_impl_Node_impl_Node_impl_Node_impl_Node_fEqualFunc_node_4 (l : (List SNode)) (m : (List SNode)) (u : (Unit)) : LInv := ⟨[⟨.s, 17, true, .el .int⟩], fun _ (x_ : Int × Unit) => 0 ≤ x_.1 ∧ x_.1 ≤ l.length ∧ l.length = m.length ∧ decide (l.drop x_.1.toNat = m.drop x_.1.toNat) = decide (l = m), fun (x_ : Int × Unit) => l.length - x_.1.toNat⟩
-- slices.EqualFunc[[]impl.Node,[]impl.Node,impl.Node,impl.Node]
theorem k249_113 : fEqualFunc_node.ok Tryz.prog 249 := Fct.of (S := fEqualFunc_node) (L := fun ⟨l, m, u, _⟩ => fun | 4 => some (W_slices_EqualFunc_impl_Node_impl_Node_impl_Node_impl_Node_fEqualFunc_node_4 l m u) | _ => none) (kp := [0,1,2,6,7,8,9,14,15,16,17,18,30,1000014,1000018,1000030]) E113ok Tryz.func249 (by kernel_rfl) (by kernel_rfl) (by
  rintro ⟨(l : List SNode), (m : List SNode), (u : PUnit), _⟩ hp
  refine holds_of (X := .br ((↑l.length : Int) != (↑m.length : Int))
 (.leaf (mkR fEqualFunc_node.rs (false, ())) [] [])
 (lpx (W_slices_EqualFunc_impl_Node_impl_Node_impl_Node_impl_Node_fEqualFunc_node_4 l m u) ((0 : Int), ()) fun (y2 : Int × PUnit) bk2 =>
  .br (decide (y2.fst < (↑l.length : Int)))
   (.ob ((0 : Int) ≤ y2.fst ∧ y2.fst < (↑l.length : Int)) <|
    .ob ((0 : Int) ≤ y2.fst ∧ y2.fst < (↑m.length : Int)) <|
    .ob (fEqNode.pre (l.getD y2.fst.toNat default, m.getD y2.fst.toNat default, ())) <|
    .lt (Bool × PUnit) (fEqNode.fn (l.getD y2.fst.toNat default, m.getD y2.fst.toNat default, ())) fun z2 =>
    .br (!z2.fst)
     (.leaf (mkR fEqualFunc_node.rs (false, ())) [] [])
     (.ob (l = l) <|
      .ob (m = m) <|
      .ob (l = l) <|
      .ob (Value.int IntKind.i64 (↑l.length : Int) = Value.int IntKind.i64 (↑l.length : Int)) <|
      .ob (bk2 (IntKind.i64.wrap (y2.fst + (1 : Int)), ())) <|
      .ok))
   (.leaf (mkR fEqualFunc_node.rs (true, ())) [] []))) (by kernel_rfl) ?_
  refine br_i (fun h1 => Fct.leafY ?_) (fun h1 => lpx_i ?_ fun (y2 : Int × PUnit) i2 => br_i (fun h3 => ob_i ?_ fun o4 => ob_i ?_ fun o5 => ob_i ?_ fun o6 => lt_i (br_i (fun h7 => Fct.leafY ?_) (fun h7 => ob_i rfl fun _ => ob_i rfl fun _ => ob_i rfl fun _ => ob_i rfl fun _ => ob_i ?_ fun o8 => trivial))) (fun h3 => Fct.leafY ?_))
  all_goals have hpl := hp.1
  all_goals have hpe := hp.2
  all_goals clear hp
  all_goals try simp only [fEqNode] at hpe
  all_goals try simp only [decide_eq_true_eq, decide_eq_false_iff_not, Bool.not_eq_true', Bool.not_eq_false', bne_iff_ne, bne_eq_false_iff_eq, beq_iff_eq, beq_eq_false_iff_ne, baEq, Int.not_lt, Int.not_le, ne_eq, Decidable.not_not] at *
  all_goals try simp only [W_slices_EqualFunc_impl_Node_impl_Node_impl_Node_impl_Node_fEqualFunc_node_4, fEqNode, fEqualFunc_node, etaToken, etaNode, etaBuilder, etaPolicy, etaPage, etaVisit, etaTab, etaServer, etaCache, etaNet, etaLoader, etaSheet, etaResult, etaSlot, etaModule, etaAddr, etaRequest, etaResponse, etaConn, etaGuess, etaEntry, etaSent, etaFile, baSz, List.size_toArray, List.length_cons, List.length_nil, Nat.reduceAdd, Int.toNat_zero, List.drop_zero, decide_eq_true_eq, decide_eq_false_iff_not, Bool.not_eq_true', Bool.not_eq_false', bne_iff_ne, bne_eq_false_iff_eq, beq_iff_eq, beq_eq_false_iff_ne, Bool.not_eq_true, Bool.not_eq_false, ne_eq, Decidable.not_not, baEq, decide_not, Prod.mk.injEq, and_true, true_and, Room, List.nil_append, Nat.zero_add, Int.not_lt, Int.not_le, fEqNode] at *
  all_goals try simp (disch := omega) only [wrapId', toNat1] at *
  all_goals try simp (disch := omega) only [if_pos, if_neg]
  all_goals first | trivial | omega | grind [wrapId', toNat1, drop_cons, drop_end, good_len, maxLen, fEqNode])
def E114 : D.Env := E113.add 249 fEqualFunc_node
theorem E114ok : EOk Tryz.prog E114 := E113ok.add k249_113
def fEqualFunc_token : Fct := ⟨[aL .token, aL .token, .c 145 []], [rB], fun x => x.1.length ≤ 1000000000000000000 ∧ ∀ i, i < x.1.length → i < x.2.1.length → fEqToken.pre (x.1.getD i default, x.2.1.getD i default, ()), fun x => (decide (x.1 = x.2.1), ())⟩
abbrev W_slices_EqualFunc_impl_Token_impl_Token_impl_Token_impl_Token_fEqualFunc_token_4 (l : (List SToken)) (m : (List SToken)) (u : (Unit)) : LInv := ⟨[⟨.s, 17, true, .el .int⟩], fun _ (x_ : Int × Unit) => 0 ≤ x_.1 ∧ x_.1 ≤ l.length ∧ l.length = m.length ∧ decide (l.drop x_.1.toNat = m.drop x_.1.toNat) = decide (l = m), fun (x_ : Int × Unit) => l.length - x_.1.toNat⟩
-- slices.EqualFunc[[]impl.Token,[]impl.Token,impl.Token,impl.Token]
theorem k144_114 : fEqualFunc_token.ok Tryz.prog 144 := Fct.of (S := fEqualFunc_token) (L := fun ⟨l, m, u, _⟩ => fun | 4 => some (W_slices_EqualFunc_impl_Token_impl_Token_impl_Token_impl_Token_fEqualFunc_token_4 l m u) | _ => none) (kp := [0,1,2,6,7,8,9,14,15,16,17,18,30,1000014,1000018,1000030]) E114ok Tryz.func144 (by kernel_rfl) (by kernel_rfl) (by
  rintro ⟨(l : List SToken), (m : List SToken), (u : PUnit), _⟩ hp
  refine holds_of (X := .br ((↑l.length : Int) != (↑m.length : Int))
 (.leaf (mkR fEqualFunc_token.rs (false, ())) [] [])
 (lpx (W_slices_EqualFunc_impl_Token_impl_Token_impl_Token_impl_Token_fEqualFunc_token_4 l m u) ((0 : Int), ()) fun (y2 : Int × PUnit) bk2 =>
  .br (decide (y2.fst < (↑l.length : Int)))
   (.ob ((0 : Int) ≤ y2.fst ∧ y2.fst < (↑l.length : Int)) <|
    .ob ((0 : Int) ≤ y2.fst ∧ y2.fst < (↑m.length : Int)) <|
    .ob (fEqToken.pre (l.getD y2.fst.toNat default, m.getD y2.fst.toNat default, ())) <|
    .lt (Bool × PUnit) (fEqToken.fn (l.getD y2.fst.toNat default, m.getD y2.fst.toNat default, ())) fun z2 =>
    .br (!z2.fst)
     (.leaf (mkR fEqualFunc_token.rs (false, ())) [] [])
     (.ob (l = l) <|
      .ob (m = m) <|
      .ob (l = l) <|
      .ob (Value.int IntKind.i64 (↑l.length : Int) = Value.int IntKind.i64 (↑l.length : Int)) <|
      .ob (bk2 (IntKind.i64.wrap (y2.fst + (1 : Int)), ())) <|
      .ok))
   (.leaf (mkR fEqualFunc_token.rs (true, ())) [] []))) (by kernel_rfl) ?_
  refine br_i (fun h1 => Fct.leafY ?_) (fun h1 => lpx_i ?_ fun (y2 : Int × PUnit) i2 => br_i (fun h3 => ob_i ?_ fun o4 => ob_i ?_ fun o5 => ob_i ?_ fun o6 => lt_i (br_i (fun h7 => Fct.leafY ?_) (fun h7 => ob_i rfl fun _ => ob_i rfl fun _ => ob_i rfl fun _ => ob_i rfl fun _ => ob_i ?_ fun o8 => trivial))) (fun h3 => Fct.leafY ?_))
  all_goals have hpl := hp.1
  all_goals have hpe := hp.2
  all_goals clear hp
  all_goals try simp only [fEqToken] at hpe
  all_goals try simp only [decide_eq_true_eq, decide_eq_false_iff_not, Bool.not_eq_true', Bool.not_eq_false', bne_iff_ne, bne_eq_false_iff_eq, beq_iff_eq, beq_eq_false_iff_ne, baEq, Int.not_lt, Int.not_le, ne_eq, Decidable.not_not] at *
  all_goals try simp only [W_slices_EqualFunc_impl_Token_impl_Token_impl_Token_impl_Token_fEqualFunc_token_4, fEqToken, fEqualFunc_token, etaToken, etaNode, etaBuilder, etaPolicy, etaPage, etaVisit, etaTab, etaServer, etaCache, etaNet, etaLoader, etaSheet, etaResult, etaSlot, etaModule, etaAddr, etaRequest, etaResponse, etaConn, etaGuess, etaEntry, etaSent, etaFile, baSz, List.size_toArray, List.length_cons, List.length_nil, Nat.reduceAdd, Int.toNat_zero, List.drop_zero, decide_eq_true_eq, decide_eq_false_iff_not, Bool.not_eq_true', Bool.not_eq_false', bne_iff_ne, bne_eq_false_iff_eq, beq_iff_eq, beq_eq_false_iff_ne, Bool.not_eq_true, Bool.not_eq_false, ne_eq, Decidable.not_not, baEq, decide_not, Prod.mk.injEq, and_true, true_and, Room, List.nil_append, Nat.zero_add, Int.not_lt, Int.not_le, fEqToken] at *
  all_goals try simp (disch := omega) only [wrapId', toNat1] at *
  all_goals try simp (disch := omega) only [if_pos, if_neg]
  all_goals first | trivial | omega | grind [wrapId', toNat1, drop_cons, drop_end, good_len, maxLen, fEqToken])
def E115 : D.Env := E114.add 144 fEqualFunc_token
theorem E115ok : EOk Tryz.prog E115 := E114ok.add k144_114
def fEqBuilder : Fct := ⟨[.v (.el .builder), .v (.el .builder)], [.el .bool], fun (x_ : SBuilder × SBuilder × Unit) => szBuilder x_.1 ≤ 1099511627776, fun (x_ : SBuilder × SBuilder × Unit) => (decide (x_.1 = x_.2.1), ())⟩
theorem szNode_get {l : List SNode} {i : Nat} (h : i < l.length) : (l.getD i default).attrs.length + l.length ≤ szL szNode l := by
  have := szL_get szNode h
  have h2 := szL_len szAttr (l.getD i default).attrs
  simp only [szNode] at this; omega
theorem szToken_get {l : List SToken} {i : Nat} (h : i < l.length) : (l.getD i default).attrs.length + l.length ≤ szL szToken l := by
  have := szL_get szToken h
  have h2 := szL_len szAttr (l.getD i default).attrs
  simp only [szToken] at this; omega
abbrev W_spec_EqualBuilders_fEqBuilder_4 (a : SBuilder) (b : SBuilder) : LInv := ⟨[⟨.s, 5, true, .el .int⟩, ⟨.b, 2, false, .el .builder⟩, ⟨.b, 3, false, .el .builder⟩], fun (z_ : Int × SBuilder × SBuilder × Unit) (x_ : Int × SBuilder × SBuilder × Unit) => ((0 ≤ x_.1 ∧ x_.1 ≤ a.nodes.length ∧ a.nodes.length = b.nodes.length ∧ a.open_ = b.open_ ∧ decide (a.nodes.drop x_.1.toNat = b.nodes.drop x_.1.toNat) = decide (a.nodes = b.nodes)) ∧ x_.2.1 = z_.2.1) ∧ x_.2.2.1 = z_.2.2.1, fun (x_ : Int × SBuilder × SBuilder × Unit) => a.nodes.length - x_.1.toNat⟩
-- spec.EqualBuilders
theorem k255_115 : fEqBuilder.ok Tryz.prog 255 := Fct.of (S := fEqBuilder) (L := fun ⟨a, b, _⟩ => fun | 4 => some (W_spec_EqualBuilders_fEqBuilder_4 a b) | _ => none) (kp := [2,3,4,5,20,25,39,1000020,1000025,1000039]) E115ok Tryz.func255 (by kernel_rfl) (by kernel_rfl) (by
  rintro ⟨(a : SBuilder), (b : SBuilder), _⟩ hp
  refine holds_of (X := .br ((↑a.nodes.length : Int) != (↑b.nodes.length : Int))
 (.leaf (mkR fEqBuilder.rs (false, ())) [] [])
 (.ob (fEqual_int.pre (a.open_, b.open_, ())) <|
  .lt (Bool × PUnit) (fEqual_int.fn (a.open_, b.open_, ())) fun z2 =>
  .br (!z2.fst)
   (.leaf (mkR fEqBuilder.rs (false, ())) [] [])
   (lpx (W_spec_EqualBuilders_fEqBuilder_4 a b) ((0 : Int), (a, (b, ()))) fun (y4 : Int × SBuilder × SBuilder × PUnit) bk4 =>
    .br (decide (y4.fst < (↑y4.snd.fst.nodes.length : Int)))
     (.ob ((0 : Int) ≤ y4.fst ∧ y4.fst < (↑y4.snd.fst.nodes.length : Int)) <|
      .ob ((0 : Int) ≤ y4.fst ∧ y4.fst < (↑y4.snd.snd.fst.nodes.length : Int)) <|
      .ob (fEqNode.pre (y4.snd.fst.nodes.getD y4.fst.toNat default, y4.snd.snd.fst.nodes.getD y4.fst.toNat default, ())) <|
      .lt (Bool × PUnit) (fEqNode.fn (y4.snd.fst.nodes.getD y4.fst.toNat default, y4.snd.snd.fst.nodes.getD y4.fst.toNat default, ())) fun z3 =>
      .br (!z3.fst)
       (.leaf (mkR fEqBuilder.rs (false, ())) [] [])
       (.ob (bk4 (IntKind.i64.wrap (y4.fst + (1 : Int)), (y4.snd.fst, (y4.snd.snd.fst, ())))) <|
        .ok))
     (.leaf (mkR fEqBuilder.rs (true, ())) [] [])))) (by kernel_rfl) ?_
  refine br_i (fun h1 => Fct.leafY ?_) (fun h1 => ob_i ?_ fun o2 => lt_i (br_i (fun h3 => Fct.leafY ?_) (fun h3 => lpx_i ?_ fun (y4 : Int × SBuilder × SBuilder × PUnit) i4 => br_i (fun h5 => ob_i ?_ fun o6 => ob_i ?_ fun o7 => ob_i ?_ fun o8 => lt_i (br_i (fun h9 => Fct.leafY ?_) (fun h9 => ob_i ?_ fun o10 => trivial))) (fun h5 => Fct.leafY ?_))))
  all_goals have hl := szL_len szNode a.nodes
  all_goals have hg : ∀ i, i < a.nodes.length → (a.nodes.getD i default).attrs.length ≤ szL szNode a.nodes := fun i h => by have := szNode_get h; omega
  all_goals simp only [fEqBuilder, szBuilder] at hp
  all_goals (cases a; cases b)
  all_goals try simp only [decide_eq_true_eq, decide_eq_false_iff_not, Bool.not_eq_true', Bool.not_eq_false', bne_iff_ne, bne_eq_false_iff_eq, beq_iff_eq, beq_eq_false_iff_ne, baEq, Int.not_lt, Int.not_le, ne_eq, Decidable.not_not] at *
  all_goals try simp only [W_spec_EqualBuilders_fEqBuilder_4, fEqBuilder, fEqNode, fEqual_int, etaToken, etaNode, etaBuilder, etaPolicy, etaPage, etaVisit, etaTab, etaServer, etaCache, etaNet, etaLoader, etaSheet, etaResult, etaSlot, etaModule, etaAddr, etaRequest, etaResponse, etaConn, etaGuess, etaEntry, etaSent, etaFile, baSz, List.size_toArray, List.length_cons, List.length_nil, Nat.reduceAdd, Int.toNat_zero, List.drop_zero, decide_eq_true_eq, decide_eq_false_iff_not, Bool.not_eq_true', Bool.not_eq_false', bne_iff_ne, bne_eq_false_iff_eq, beq_iff_eq, beq_eq_false_iff_ne, Bool.not_eq_true, Bool.not_eq_false, ne_eq, Decidable.not_not, baEq, decide_not, Prod.mk.injEq, and_true, true_and, Room, List.nil_append, Nat.zero_add, Int.not_lt, Int.not_le, fEqual_int, fEqNode] at *
  all_goals try simp (disch := omega) only [wrapId', toNat1] at *
  all_goals try simp (disch := omega) only [if_pos, if_neg]
  all_goals first | trivial | omega | grind [wrapId', toNat1, drop_cons, drop_end, good_len, maxLen, fEqual_int, fEqNode])
def E116 : D.Env := E115.add 255 fEqBuilder
theorem E116ok : EOk Tryz.prog E116 := E115ok.add k255_115
-- impl.EqualBuilders
theorem k146_116 : fEqBuilder.ok Tryz.prog 146 := Fct.of (S := fEqBuilder) (L := fun _ _ => none) (kp := [2,3,4]) E116ok Tryz.func146 (by kernel_rfl) (by kernel_rfl) (by
  rintro ⟨(a : SBuilder), (b : SBuilder), _⟩ hp
  refine holds_of (X := .ob (fEqualFunc_node.pre (a.nodes, b.nodes, (), ())) <|
 .lt (Bool × PUnit) (fEqualFunc_node.fn (a.nodes, b.nodes, (), ())) fun z2 =>
 .br (z2.fst)
  (.ob (fEqual_int.pre (a.open_, b.open_, ())) <|
   .lt (Bool × PUnit) (fEqual_int.fn (a.open_, b.open_, ())) fun z3 =>
   .leaf (mkR fEqBuilder.rs (z3.fst, ())) [] [])
  (.leaf (mkR fEqBuilder.rs (false, ())) [] [])) (by kernel_rfl) ?_
  refine ob_i ?_ fun o1 => lt_i (br_i (fun h2 => ob_i ?_ fun o3 => lt_i (Fct.leafY ?_)) (fun h2 => Fct.leafY ?_))
  all_goals have hl := szL_len szNode a.nodes
  all_goals have hg : ∀ i, i < a.nodes.length → (a.nodes.getD i default).attrs.length ≤ szL szNode a.nodes := fun i h => by have := szNode_get h; omega
  all_goals have hg2 : ∀ i, i < a.nodes.length → (a.nodes.getD i default).attrs.length ≤ 1000000000000000000 := fun i h => by have := hg i h; have hp2 : szBuilder a ≤ 1099511627776 := hp; simp only [szBuilder] at hp2; omega
  all_goals simp only [fEqBuilder, szBuilder] at hp
  all_goals (cases a; cases b)
  all_goals try simp only [decide_eq_true_eq, decide_eq_false_iff_not, Bool.not_eq_true', Bool.not_eq_false', bne_iff_ne, bne_eq_false_iff_eq, beq_iff_eq, beq_eq_false_iff_ne, baEq, Int.not_lt, Int.not_le, ne_eq, Decidable.not_not] at *
  all_goals try simp only [fEqBuilder, fEqualFunc_node, fEqual_int, etaToken, etaNode, etaBuilder, etaPolicy, etaPage, etaVisit, etaTab, etaServer, etaCache, etaNet, etaLoader, etaSheet, etaResult, etaSlot, etaModule, etaAddr, etaRequest, etaResponse, etaConn, etaGuess, etaEntry, etaSent, etaFile, baSz, List.size_toArray, List.length_cons, List.length_nil, Nat.reduceAdd, Int.toNat_zero, List.drop_zero, decide_eq_true_eq, decide_eq_false_iff_not, Bool.not_eq_true', Bool.not_eq_false', bne_iff_ne, bne_eq_false_iff_eq, beq_iff_eq, beq_eq_false_iff_ne, Bool.not_eq_true, Bool.not_eq_false, ne_eq, Decidable.not_not, baEq, decide_not, Prod.mk.injEq, and_true, true_and, Room, List.nil_append, Nat.zero_add, Int.not_lt, Int.not_le, fEqual_int, fEqNode, fEqualFunc_node] at *
  all_goals try simp (disch := omega) only [wrapId', toNat1] at *
  all_goals try simp (disch := omega) only [if_pos, if_neg]
  all_goals first | trivial | omega | grind [wrapId', toNat1, drop_cons, drop_end, good_len, maxLen, fEqual_int, fEqNode, fEqualFunc_node])
def E117 : D.Env := E116.add 146 fEqBuilder
theorem E117ok : EOk Tryz.prog E117 := E116ok.add k146_116
def fEqPolicy : Fct := ⟨[.v (.el .policy), .v (.el .policy)], [.el .bool], fun (x_ : SPolicy × SPolicy × Unit) => szPolicy x_.1 ≤ 1099511627776, fun (x_ : SPolicy × SPolicy × Unit) => (decide (x_.1 = x_.2.1), ())⟩
-- spec.EqualPolicies
theorem k254_117 : fEqPolicy.ok Tryz.prog 254 := Fct.of (S := fEqPolicy) (L := fun _ _ => none) (kp := [2,3,4]) E117ok Tryz.func254 (by kernel_rfl) (by kernel_rfl) (by
  rintro ⟨(a : SPolicy), (b : SPolicy), _⟩ hp
  refine holds_of (X := .br (a.set_ == b.set_)
 (.ob (fEqual_str.pre (a.scripts, b.scripts, ())) <|
  .lt (Bool × PUnit) (fEqual_str.fn (a.scripts, b.scripts, ())) fun z2 =>
  .br (z2.fst)
   (.ob (fEqual_str.pre (a.styles, b.styles, ())) <|
    .lt (Bool × PUnit) (fEqual_str.fn (a.styles, b.styles, ())) fun z3 =>
    .br (z3.fst)
     (.ob (fEqual_str.pre (a.images, b.images, ())) <|
      .lt (Bool × PUnit) (fEqual_str.fn (a.images, b.images, ())) fun z4 =>
      .br (z4.fst)
       (.leaf (mkR fEqPolicy.rs (a.nonce.toList == b.nonce.toList, ())) [] [])
       (.leaf (mkR fEqPolicy.rs (false, ())) [] []))
     (.leaf (mkR fEqPolicy.rs (false, ())) [] []))
   (.leaf (mkR fEqPolicy.rs (false, ())) [] []))
 (.leaf (mkR fEqPolicy.rs (false, ())) [] [])) (by kernel_rfl) ?_
  refine br_i (fun h1 => ob_i ?_ fun o2 => lt_i (br_i (fun h3 => ob_i ?_ fun o4 => lt_i (br_i (fun h5 => ob_i ?_ fun o6 => lt_i (br_i (fun h7 => Fct.leafY ?_) (fun h7 => Fct.leafY ?_))) (fun h5 => Fct.leafY ?_))) (fun h3 => Fct.leafY ?_))) (fun h1 => Fct.leafY ?_)
  all_goals have hl1 := szL_len szString a.scripts
  all_goals have hl2 := szL_len szString a.styles
  all_goals have hl3 := szL_len szString a.images
  all_goals simp only [fEqPolicy, szPolicy] at hp
  all_goals (cases a; cases b)
  all_goals try simp only [decide_eq_true_eq, decide_eq_false_iff_not, Bool.not_eq_true', Bool.not_eq_false', bne_iff_ne, bne_eq_false_iff_eq, beq_iff_eq, beq_eq_false_iff_ne, baEq, Int.not_lt, Int.not_le, ne_eq, Decidable.not_not] at *
  all_goals try simp only [fEqPolicy, fEqual_str, etaToken, etaNode, etaBuilder, etaPolicy, etaPage, etaVisit, etaTab, etaServer, etaCache, etaNet, etaLoader, etaSheet, etaResult, etaSlot, etaModule, etaAddr, etaRequest, etaResponse, etaConn, etaGuess, etaEntry, etaSent, etaFile, baSz, List.size_toArray, List.length_cons, List.length_nil, Nat.reduceAdd, Int.toNat_zero, List.drop_zero, decide_eq_true_eq, decide_eq_false_iff_not, Bool.not_eq_true', Bool.not_eq_false', bne_iff_ne, bne_eq_false_iff_eq, beq_iff_eq, beq_eq_false_iff_ne, Bool.not_eq_true, Bool.not_eq_false, ne_eq, Decidable.not_not, baEq, decide_not, Prod.mk.injEq, and_true, true_and, Room, List.nil_append, Nat.zero_add, Int.not_lt, Int.not_le, fEqual_str] at *
  all_goals try simp (disch := omega) only [wrapId', toNat1] at *
  all_goals try simp (disch := omega) only [if_pos, if_neg]
  all_goals first | trivial | omega | grind [wrapId', toNat1, drop_cons, drop_end, good_len, maxLen, fEqual_str])
def E118 : D.Env := E117.add 254 fEqPolicy
theorem E118ok : EOk Tryz.prog E118 := E117ok.add k254_117
-- impl.EqualPolicies
theorem k143_118 : fEqPolicy.ok Tryz.prog 143 := Fct.of (S := fEqPolicy) (L := fun _ _ => none) (kp := [2,3,4]) E118ok Tryz.func143 (by kernel_rfl) (by kernel_rfl) (by
  rintro ⟨(a : SPolicy), (b : SPolicy), _⟩ hp
  refine holds_of (X := .br (a.set_ == b.set_)
 (.ob (fEqual_str.pre (a.scripts, b.scripts, ())) <|
  .lt (Bool × PUnit) (fEqual_str.fn (a.scripts, b.scripts, ())) fun z2 =>
  .br (z2.fst)
   (.ob (fEqual_str.pre (a.styles, b.styles, ())) <|
    .lt (Bool × PUnit) (fEqual_str.fn (a.styles, b.styles, ())) fun z3 =>
    .br (z3.fst)
     (.ob (fEqual_str.pre (a.images, b.images, ())) <|
      .lt (Bool × PUnit) (fEqual_str.fn (a.images, b.images, ())) fun z4 =>
      .br (z4.fst)
       (.leaf (mkR fEqPolicy.rs (a.nonce.toList == b.nonce.toList, ())) [] [])
       (.leaf (mkR fEqPolicy.rs (false, ())) [] []))
     (.leaf (mkR fEqPolicy.rs (false, ())) [] []))
   (.leaf (mkR fEqPolicy.rs (false, ())) [] []))
 (.leaf (mkR fEqPolicy.rs (false, ())) [] [])) (by kernel_rfl) ?_
  refine br_i (fun h1 => ob_i ?_ fun o2 => lt_i (br_i (fun h3 => ob_i ?_ fun o4 => lt_i (br_i (fun h5 => ob_i ?_ fun o6 => lt_i (br_i (fun h7 => Fct.leafY ?_) (fun h7 => Fct.leafY ?_))) (fun h5 => Fct.leafY ?_))) (fun h3 => Fct.leafY ?_))) (fun h1 => Fct.leafY ?_)
  all_goals have hl1 := szL_len szString a.scripts
  all_goals have hl2 := szL_len szString a.styles
  all_goals have hl3 := szL_len szString a.images
  all_goals simp only [fEqPolicy, szPolicy] at hp
  all_goals (cases a; cases b)
  all_goals try simp only [decide_eq_true_eq, decide_eq_false_iff_not, Bool.not_eq_true', Bool.not_eq_false', bne_iff_ne, bne_eq_false_iff_eq, beq_iff_eq, beq_eq_false_iff_ne, baEq, Int.not_lt, Int.not_le, ne_eq, Decidable.not_not] at *
  all_goals try simp only [fEqPolicy, fEqual_str, etaToken, etaNode, etaBuilder, etaPolicy, etaPage, etaVisit, etaTab, etaServer, etaCache, etaNet, etaLoader, etaSheet, etaResult, etaSlot, etaModule, etaAddr, etaRequest, etaResponse, etaConn, etaGuess, etaEntry, etaSent, etaFile, baSz, List.size_toArray, List.length_cons, List.length_nil, Nat.reduceAdd, Int.toNat_zero, List.drop_zero, decide_eq_true_eq, decide_eq_false_iff_not, Bool.not_eq_true', Bool.not_eq_false', bne_iff_ne, bne_eq_false_iff_eq, beq_iff_eq, beq_eq_false_iff_ne, Bool.not_eq_true, Bool.not_eq_false, ne_eq, Decidable.not_not, baEq, decide_not, Prod.mk.injEq, and_true, true_and, Room, List.nil_append, Nat.zero_add, Int.not_lt, Int.not_le, fEqual_str] at *
  all_goals try simp (disch := omega) only [wrapId', toNat1] at *
  all_goals try simp (disch := omega) only [if_pos, if_neg]
  all_goals first | trivial | omega | grind [wrapId', toNat1, drop_cons, drop_end, good_len, maxLen, fEqual_str])
def E119 : D.Env := E118.add 143 fEqPolicy
theorem E119ok : EOk Tryz.prog E119 := E118ok.add k143_118
def fmtAttrs : List SAttr → ByteArray → ByteArray
  | [], s => s
  | a :: l, s => fmtAttrs l (s ++ ⟨#[32]⟩ ++ a.name ++ ⟨#[61]⟩ ++ a.value)
def formatToken (t : SToken) : ByteArray := if t.kind = 1 then fmtAttrs t.attrs (⟨#[60]⟩ ++ t.name) ++ ⟨#[62]⟩ else if t.kind = 2 then ⟨#[60, 47]⟩ ++ t.name ++ ⟨#[62]⟩ else if t.kind = 3 then t.text else ⟨#[]⟩
theorem szAttr_get {l : List SAttr} {i : Nat} (h : i < l.length) : szL szAttr (l.drop i) = 1 + (l.getD i default).name.size + (l.getD i default).value.size + szL szAttr (l.drop (i + 1)) := by
  rw [drop_cons h]; simp only [szL, List.length_cons, List.map_cons, List.sum_cons, szAttr]; omega
def fFormatToken : Fct := ⟨[.v (.el .token)], [.el .str], fun (x_ : SToken × Unit) => szToken x_.1 ≤ 1099511627776, fun (x_ : SToken × Unit) => (formatToken x_.1, ())⟩
abbrev W_spec_FormatToken_fFormatToken_5 (t : SToken) : LInv := ⟨[⟨.s, 3, true, .el .str⟩, ⟨.s, 4, true, .el .int⟩, ⟨.b, 1, false, .el .token⟩], fun (z_ : ByteArray × Int × SToken × Unit) (x_ : ByteArray × Int × SToken × Unit) => (0 ≤ x_.2.1 ∧ x_.2.1 ≤ t.attrs.length ∧ x_.1.size + 2 * szL szAttr (t.attrs.drop x_.2.1.toNat) ≤ 1 + t.name.size + 2 * szL szAttr t.attrs ∧ fmtAttrs (t.attrs.drop x_.2.1.toNat) x_.1 = fmtAttrs t.attrs (⟨#[60]⟩ ++ t.name)) ∧ x_.2.2.1 = z_.2.2.1, fun (x_ : ByteArray × Int × SToken × Unit) => t.attrs.length - x_.2.1.toNat⟩
-- spec.FormatToken
theorem k332_119 : fFormatToken.ok Tryz.prog 332 := Fct.of (S := fFormatToken) (L := fun ⟨t, _⟩ => fun | 5 => some (W_spec_FormatToken_fFormatToken_5 t) | _ => none) (kp := [1,2,3,4,6,7,16,38,44,1000007,1000016,1000038,1000044]) E119ok Tryz.func332 (by kernel_rfl) (by kernel_rfl) (by
  rintro ⟨(t : SToken), _⟩ hp
  refine holds_of (X := .br (t.kind == (1 : Int))
 (.ob (sameSize { data := #[(60 : UInt8)] : ByteArray } t.name) <|
  lpx (W_spec_FormatToken_fFormatToken_5 t) ({ data := #[(60 : UInt8)] : ByteArray } ++ t.name, ((0 : Int), (t, ()))) fun (y3 : ByteArray × Int × SToken × PUnit) bk3 =>
  .br (decide (y3.snd.fst < (↑y3.snd.snd.fst.attrs.length : Int)))
   (.ob (sameSize y3.fst { data := #[(32 : UInt8)] : ByteArray }) <|
    .ob ((0 : Int) ≤ y3.snd.fst ∧ y3.snd.fst < (↑y3.snd.snd.fst.attrs.length : Int)) <|
    .ob (sameSize (y3.fst ++ { data := #[(32 : UInt8)] : ByteArray }) (y3.snd.snd.fst.attrs.getD y3.snd.fst.toNat default).name) <|
    .ob (sameSize
  (y3.fst ++ { data := #[(32 : UInt8)] : ByteArray } ++ (y3.snd.snd.fst.attrs.getD y3.snd.fst.toNat default).name)
  { data := #[(61 : UInt8)] : ByteArray }) <|
    .ob ((0 : Int) ≤ y3.snd.fst ∧ y3.snd.fst < (↑y3.snd.snd.fst.attrs.length : Int)) <|
    .ob (sameSize
  (y3.fst ++ { data := #[(32 : UInt8)] : ByteArray } ++ (y3.snd.snd.fst.attrs.getD y3.snd.fst.toNat default).name ++
    { data := #[(61 : UInt8)] : ByteArray })
  (y3.snd.snd.fst.attrs.getD y3.snd.fst.toNat default).value) <|
    .ob (Value.string { data := #[] : ByteArray } = Value.string { data := #[] : ByteArray }) <|
    .ob (Value.int IntKind.i64 t.kind = Value.int IntKind.i64 t.kind) <|
    .ob (bk3 (y3.fst ++ { data := #[(32 : UInt8)] : ByteArray } ++ (y3.snd.snd.fst.attrs.getD y3.snd.fst.toNat default).name ++
    { data := #[(61 : UInt8)] : ByteArray } ++
  (y3.snd.snd.fst.attrs.getD y3.snd.fst.toNat default).value, (IntKind.i64.wrap (y3.snd.fst + (1 : Int)), (y3.snd.snd.fst, ())))) <|
    .ok)
   (.ob (sameSize y3.fst { data := #[(62 : UInt8)] : ByteArray }) <|
    .leaf (mkR fFormatToken.rs (y3.fst ++ { data := #[(62 : UInt8)] : ByteArray }, ())) [] []))
 (.br (t.kind == (2 : Int))
  (.ob (sameSize { data := #[(60 : UInt8), (47 : UInt8)] : ByteArray } t.name) <|
   .ob (sameSize ({ data := #[(60 : UInt8), (47 : UInt8)] : ByteArray } ++ t.name) { data := #[(62 : UInt8)] : ByteArray }) <|
   .leaf (mkR fFormatToken.rs ({ data := #[(60 : UInt8), (47 : UInt8)] : ByteArray } ++ t.name ++ { data := #[(62 : UInt8)] : ByteArray }, ())) [] [])
  (.br (t.kind == (3 : Int))
   (.leaf (mkR fFormatToken.rs (t.text, ())) [] [])
   (.leaf (mkR fFormatToken.rs ({ data := #[] : ByteArray }, ())) [] [])))) (by kernel_rfl) ?_
  refine br_i (fun h1 => ob_i ?_ fun o2 => lpx_i ?_ fun (y3 : ByteArray × Int × SToken × PUnit) i3 => br_i (fun h4 => ob_i ?_ fun o5 => ob_i ?_ fun o6 => ob_i ?_ fun o7 => ob_i ?_ fun o8 => ob_i ?_ fun o9 => ob_i ?_ fun o10 => ob_i rfl fun _ => ob_i rfl fun _ => ob_i ?_ fun o11 => trivial) (fun h4 => ob_i ?_ fun o12 => Fct.leafY ?_)) (fun h1 => br_i (fun h13 => ob_i ?_ fun o14 => ob_i ?_ fun o15 => Fct.leafY ?_) (fun h13 => br_i (fun h16 => Fct.leafY ?_) (fun h16 => Fct.leafY ?_)))
  all_goals have hl := szL_len szAttr t.attrs
  all_goals try simp only [decide_eq_true_eq, decide_eq_false_iff_not, Bool.not_eq_true', Bool.not_eq_false', bne_iff_ne, bne_eq_false_iff_eq, beq_iff_eq, beq_eq_false_iff_ne, baEq, Int.not_lt, Int.not_le, ne_eq, Decidable.not_not] at *
  all_goals try simp only [W_spec_FormatToken_fFormatToken_5, fFormatToken, etaToken, etaNode, etaBuilder, etaPolicy, etaPage, etaVisit, etaTab, etaServer, etaCache, etaNet, etaLoader, etaSheet, etaResult, etaSlot, etaModule, etaAddr, etaRequest, etaResponse, etaConn, etaGuess, etaEntry, etaSent, etaFile, baSz, List.size_toArray, List.length_cons, List.length_nil, Nat.reduceAdd, Int.toNat_zero, List.drop_zero, decide_eq_true_eq, decide_eq_false_iff_not, Bool.not_eq_true', Bool.not_eq_false', bne_iff_ne, bne_eq_false_iff_eq, beq_iff_eq, beq_eq_false_iff_ne, Bool.not_eq_true, Bool.not_eq_false, ne_eq, Decidable.not_not, baEq, decide_not, Prod.mk.injEq, and_true, true_and, Room, List.nil_append, Nat.zero_add, Int.not_lt, Int.not_le, formatToken, fmtAttrs, szToken, szAttr_get, ByteArray.size_append, sameSize] at *
  all_goals try simp (disch := omega) only [wrapId', toNat1] at *
  all_goals try simp (disch := omega) only [if_pos, if_neg]
  all_goals first | trivial | omega | grind [wrapId', toNat1, drop_cons, drop_end, good_len, maxLen, formatToken, fmtAttrs, szToken, szAttr_get, ByteArray.size_append, sameSize])
def E120 : D.Env := E119.add 332 fFormatToken
theorem E120ok : EOk Tryz.prog E120 := E119ok.add k332_119
def fEqTokens : Fct := ⟨[.v (.sl .token), .v (.sl .token)], [.el .bool], fun (x_ : (List SToken) × (List SToken) × Unit) => szL szToken x_.1 ≤ 1099511627776 ∧ szL szToken x_.2.1 ≤ 1099511627776, fun (x_ : (List SToken) × (List SToken) × Unit) => (decide (x_.1 = x_.2.1), ())⟩
def fEqLists : Fct := ⟨[.v (.el .page), .v (.el .page)], [.el .bool], fun (x_ : SPage × SPage × Unit) => x_.1.slots.length ≤ 2000000000000 ∧ x_.1.mods.length ≤ 2000000000000, fun (x_ : SPage × SPage × Unit) => (decide (x_.1.slots = x_.2.1.slots) && decide (x_.1.mods = x_.2.1.mods), ())⟩
abbrev W_spec_l15Lists_fEqLists_4 (a : SPage) (b : SPage) : LInv := ⟨[⟨.s, 5, true, .el .int⟩, ⟨.b, 2, false, .el .page⟩, ⟨.b, 3, false, .el .page⟩], fun (z_ : Int × SPage × SPage × Unit) (x_ : Int × SPage × SPage × Unit) => ((0 ≤ x_.1 ∧ x_.1 ≤ a.slots.length ∧ a.slots.length = b.slots.length ∧ a.mods.length = b.mods.length ∧ decide (a.slots.drop x_.1.toNat = b.slots.drop x_.1.toNat) = decide (a.slots = b.slots)) ∧ x_.2.1 = z_.2.1) ∧ x_.2.2.1 = z_.2.2.1, fun (x_ : Int × SPage × SPage × Unit) => a.slots.length - x_.1.toNat⟩
abbrev W_spec_l15Lists_fEqLists_9 (a : SPage) (b : SPage) : LInv := ⟨[⟨.s, 6, true, .el .int⟩, ⟨.b, 2, false, .el .page⟩, ⟨.b, 3, false, .el .page⟩], fun (z_ : Int × SPage × SPage × Unit) (x_ : Int × SPage × SPage × Unit) => ((0 ≤ x_.1 ∧ x_.1 ≤ a.mods.length ∧ a.slots = b.slots ∧ a.mods.length = b.mods.length ∧ decide (a.mods.drop x_.1.toNat = b.mods.drop x_.1.toNat) = decide (a.mods = b.mods)) ∧ x_.2.1 = z_.2.1) ∧ x_.2.2.1 = z_.2.2.1, fun (x_ : Int × SPage × SPage × Unit) => a.mods.length - x_.1.toNat⟩
-- spec.l15Lists
theorem k257_120 : fEqLists.ok Tryz.prog 257 := Fct.of (S := fEqLists) (L := fun ⟨a, b, _⟩ => fun | 4 => some (W_spec_l15Lists_fEqLists_4 a b) | 9 => some (W_spec_l15Lists_fEqLists_9 a b) | _ => none) (kp := [2,3,4,5,6,22,27,40,45,58,1000022,1000027,1000040,1000045,1000058]) E120ok Tryz.func257 (by kernel_rfl) (by kernel_rfl) (by
  rintro ⟨(a : SPage), (b : SPage), _⟩ hp
  refine holds_of (X := .br ((↑a.slots.length : Int) != (↑b.slots.length : Int))
 (.leaf (mkR fEqLists.rs (false, ())) [] [])
 (.br ((↑a.mods.length : Int) != (↑b.mods.length : Int))
  (.leaf (mkR fEqLists.rs (false, ())) [] [])
  (lpx (W_spec_l15Lists_fEqLists_4 a b) ((0 : Int), (a, (b, ()))) fun (y3 : Int × SPage × SPage × PUnit) bk3 =>
   .br (decide (y3.fst < (↑y3.snd.fst.slots.length : Int)))
    (.ob ((0 : Int) ≤ y3.fst ∧ y3.fst < (↑y3.snd.fst.slots.length : Int)) <|
     .ob ((0 : Int) ≤ y3.fst ∧ y3.fst < (↑y3.snd.snd.fst.slots.length : Int)) <|
     .br (!((y3.snd.fst.slots.getD y3.fst.toNat default).mode == (y3.snd.snd.fst.slots.getD y3.fst.toNat default).mode &&
    ((y3.snd.fst.slots.getD y3.fst.toNat default).to.host == (y3.snd.snd.fst.slots.getD y3.fst.toNat default).to.host &&
        ((y3.snd.fst.slots.getD y3.fst.toNat default).to.path ==
            (y3.snd.snd.fst.slots.getD y3.fst.toNat default).to.path &&
          true) &&
      ((y3.snd.fst.slots.getD y3.fst.toNat default).digest == (y3.snd.snd.fst.slots.getD y3.fst.toNat default).digest &&
        ((y3.snd.fst.slots.getD y3.fst.toNat default).node == (y3.snd.snd.fst.slots.getD y3.fst.toNat default).node &&
          ((y3.snd.fst.slots.getD y3.fst.toNat default).done == (y3.snd.snd.fst.slots.getD y3.fst.toNat default).done &&
            ((y3.snd.fst.slots.getD y3.fst.toNat default).code ==
                (y3.snd.snd.fst.slots.getD y3.fst.toNat default).code &&
              ((y3.snd.fst.slots.getD y3.fst.toNat default).body ==
                  (y3.snd.snd.fst.slots.getD y3.fst.toNat default).body &&
                true))))))))
     (.leaf (mkR fEqLists.rs (false, ())) [] [])
     (.ob (bk3 (IntKind.i64.wrap (y3.fst + (1 : Int)), (y3.snd.fst, (y3.snd.snd.fst, ())))) <|
      .ok))
    (lpx (W_spec_l15Lists_fEqLists_9 a b) ((0 : Int), (y3.snd.fst, (y3.snd.snd.fst, ()))) fun (y9 : Int × SPage × SPage × PUnit) bk9 =>
     .br (decide (y9.fst < (↑y9.snd.fst.mods.length : Int)))
      (.ob ((0 : Int) ≤ y9.fst ∧ y9.fst < (↑y9.snd.fst.mods.length : Int)) <|
       .ob ((0 : Int) ≤ y9.fst ∧ y9.fst < (↑y9.snd.snd.fst.mods.length : Int)) <|
       .br (!((y9.snd.fst.mods.getD y9.fst.toNat default).to.host == (y9.snd.snd.fst.mods.getD y9.fst.toNat default).to.host &&
      ((y9.snd.fst.mods.getD y9.fst.toNat default).to.path == (y9.snd.snd.fst.mods.getD y9.fst.toNat default).to.path &&
        true) &&
    ((y9.snd.fst.mods.getD y9.fst.toNat default).done == (y9.snd.snd.fst.mods.getD y9.fst.toNat default).done &&
      ((y9.snd.fst.mods.getD y9.fst.toNat default).code == (y9.snd.snd.fst.mods.getD y9.fst.toNat default).code &&
        ((y9.snd.fst.mods.getD y9.fst.toNat default).body == (y9.snd.snd.fst.mods.getD y9.fst.toNat default).body &&
          true)))))
       (.leaf (mkR fEqLists.rs (false, ())) [] [])
       (.ob (Value.int IntKind.i64 y3.fst = Value.int IntKind.i64 y3.fst) <|
        .ob (bk9 (IntKind.i64.wrap (y9.fst + (1 : Int)), (y9.snd.fst, (y9.snd.snd.fst, ())))) <|
        .ok))
      (.leaf (mkR fEqLists.rs (true, ())) [] []))))) (by kernel_rfl) ?_
  refine br_i (fun h1 => Fct.leafY ?_) (fun h1 => br_i (fun h2 => Fct.leafY ?_) (fun h2 => lpx_i ?_ fun (y3 : Int × SPage × SPage × PUnit) i3 => br_i (fun h4 => ob_i ?_ fun o5 => ob_i ?_ fun o6 => br_i (fun h7 => Fct.leafY ?_) (fun h7 => ob_i ?_ fun o8 => trivial)) (fun h4 => lpx_i ?_ fun (y9 : Int × SPage × SPage × PUnit) i9 => br_i (fun h10 => ob_i ?_ fun o11 => ob_i ?_ fun o12 => br_i (fun h13 => Fct.leafY ?_) (fun h13 => ob_i rfl fun _ => ob_i ?_ fun o14 => trivial)) (fun h10 => Fct.leafY ?_))))
  all_goals try simp only [beqSlot, beqModule] at *
  all_goals try simp only [decide_eq_true_eq, decide_eq_false_iff_not, Bool.not_eq_true', Bool.not_eq_false', bne_iff_ne, bne_eq_false_iff_eq, beq_iff_eq, beq_eq_false_iff_ne, baEq, Int.not_lt, Int.not_le, ne_eq, Decidable.not_not] at *
  all_goals try simp only [W_spec_l15Lists_fEqLists_4, W_spec_l15Lists_fEqLists_9, fEqLists, etaToken, etaNode, etaBuilder, etaPolicy, etaPage, etaVisit, etaTab, etaServer, etaCache, etaNet, etaLoader, etaSheet, etaResult, etaSlot, etaModule, etaAddr, etaRequest, etaResponse, etaConn, etaGuess, etaEntry, etaSent, etaFile, baSz, List.size_toArray, List.length_cons, List.length_nil, Nat.reduceAdd, Int.toNat_zero, List.drop_zero, decide_eq_true_eq, decide_eq_false_iff_not, Bool.not_eq_true', Bool.not_eq_false', bne_iff_ne, bne_eq_false_iff_eq, beq_iff_eq, beq_eq_false_iff_ne, Bool.not_eq_true, Bool.not_eq_false, ne_eq, Decidable.not_not, baEq, decide_not, Prod.mk.injEq, and_true, true_and, Room, List.nil_append, Nat.zero_add, Int.not_lt, Int.not_le] at *
  all_goals try simp (disch := omega) only [wrapId', toNat1] at *
  all_goals try simp (disch := omega) only [if_pos, if_neg]
  all_goals first | trivial | omega | grind [wrapId', toNat1, drop_cons, drop_end, good_len, maxLen])
def E121 : D.Env := E120.add 257 fEqLists
theorem E121ok : EOk Tryz.prog E121 := E120ok.add k257_120
abbrev W_spec_l15SameTokens_fEqTokens_4 (l : (List SToken)) (m : (List SToken)) : LInv := ⟨[⟨.s, 5, true, .el .int⟩], fun _ (x_ : Int × Unit) => 0 ≤ x_.1 ∧ x_.1 ≤ l.length ∧ l.length = m.length ∧ decide (l.drop x_.1.toNat = m.drop x_.1.toNat) = decide (l = m), fun (x_ : Int × Unit) => l.length - x_.1.toNat⟩
abbrev W_spec_l15SameTokens_fEqTokens_9 (l : (List SToken)) (m : (List SToken)) : LInv := ⟨[⟨.s, 6, true, .el .int⟩, ⟨.s, 5, true, .el .int⟩], fun (z_ : Int × Int × Unit) (x_ : Int × Int × Unit) => x_.2.1 = z_.2.1 ∧ 0 ≤ x_.2.1 ∧ x_.2.1 < l.length ∧ l.length = m.length ∧ decide (l.drop x_.2.1.toNat = m.drop x_.2.1.toNat) = decide (l = m) ∧ 0 ≤ x_.1 ∧ x_.1 ≤ (l.getD x_.2.1.toNat default).attrs.length ∧ (l.getD x_.2.1.toNat default).kind = (m.getD x_.2.1.toNat default).kind ∧ (l.getD x_.2.1.toNat default).name = (m.getD x_.2.1.toNat default).name ∧ (l.getD x_.2.1.toNat default).text = (m.getD x_.2.1.toNat default).text ∧ (l.getD x_.2.1.toNat default).attrs.length = (m.getD x_.2.1.toNat default).attrs.length ∧ decide ((l.getD x_.2.1.toNat default).attrs.drop x_.1.toNat = (m.getD x_.2.1.toNat default).attrs.drop x_.1.toNat) = decide ((l.getD x_.2.1.toNat default).attrs = (m.getD x_.2.1.toNat default).attrs), fun (x_ : Int × Int × Unit) => (l.getD x_.2.1.toNat default).attrs.length - x_.1.toNat⟩
-- spec.l15SameTokens
theorem k256_121 : fEqTokens.ok Tryz.prog 256 := Fct.of (S := fEqTokens) (L := fun ⟨l, m, _⟩ => fun | 4 => some (W_spec_l15SameTokens_fEqTokens_4 l m) | 9 => some (W_spec_l15SameTokens_fEqTokens_9 l m) | _ => none) (kp := [0,1,4,5,6,11,15,82,90,109,1000011,1000015,1000082,1000090,1000109]) E121ok Tryz.func256 (by kernel_rfl) (by kernel_rfl) (by
  rintro ⟨(l : List SToken), (m : List SToken), _⟩ hp
  refine holds_of (X := .br ((↑l.length : Int) != (↑m.length : Int))
 (.leaf (mkR fEqTokens.rs (false, ())) [] [])
 (lpx (W_spec_l15SameTokens_fEqTokens_4 l m) ((0 : Int), ()) fun (y2 : Int × PUnit) bk2 =>
  .br (decide (y2.fst < (↑l.length : Int)))
   (.ob ((0 : Int) ≤ y2.fst ∧ y2.fst < (↑l.length : Int)) <|
    .ob ((0 : Int) ≤ y2.fst ∧ y2.fst < (↑m.length : Int)) <|
    .br ((l.getD y2.fst.toNat default).kind != (m.getD y2.fst.toNat default).kind)
    (.leaf (mkR fEqTokens.rs (false, ())) [] [])
    (.ob ((0 : Int) ≤ y2.fst ∧ y2.fst < (↑l.length : Int)) <|
     .ob (fFormatToken.pre (l.getD y2.fst.toNat default, ())) <|
     .lt (ByteArray × PUnit) (fFormatToken.fn (l.getD y2.fst.toNat default, ())) fun z2 =>
     .ob ((0 : Int) ≤ y2.fst ∧ y2.fst < (↑m.length : Int)) <|
      .ob (fFormatToken.pre (m.getD y2.fst.toNat default, ())) <|
      .lt (ByteArray × PUnit) (fFormatToken.fn (m.getD y2.fst.toNat default, ())) fun z3 =>
      .br (!z2.fst.toList == z3.fst.toList)
       (.leaf (mkR fEqTokens.rs (false, ())) [] [])
       (.ob ((0 : Int) ≤ y2.fst ∧ y2.fst < (↑l.length : Int)) <|
        .ob ((0 : Int) ≤ y2.fst ∧ y2.fst < (↑m.length : Int)) <|
        .br (!(l.getD y2.fst.toNat default).name.toList == (m.getD y2.fst.toNat default).name.toList)
        (.leaf (mkR fEqTokens.rs (false, ())) [] [])
        (.ob ((0 : Int) ≤ y2.fst ∧ y2.fst < (↑l.length : Int)) <|
         .ob ((0 : Int) ≤ y2.fst ∧ y2.fst < (↑m.length : Int)) <|
         .br (!(l.getD y2.fst.toNat default).text.toList == (m.getD y2.fst.toNat default).text.toList)
         (.leaf (mkR fEqTokens.rs (false, ())) [] [])
         (.ob ((0 : Int) ≤ y2.fst ∧ y2.fst < (↑l.length : Int)) <|
          .ob ((0 : Int) ≤ y2.fst ∧ y2.fst < (↑m.length : Int)) <|
          .br ((↑(l.getD y2.fst.toNat default).attrs.length : Int) != (↑(m.getD y2.fst.toNat default).attrs.length : Int))
          (.leaf (mkR fEqTokens.rs (false, ())) [] [])
          (lpx (W_spec_l15SameTokens_fEqTokens_9 l m) ((0 : Int), (y2.fst, ())) fun (y21 : Int × Int × PUnit) bk21 =>
           .ob ((0 : Int) ≤ y21.snd.fst ∧ y21.snd.fst < (↑l.length : Int)) <|
            .br (decide (y21.fst < (↑(l.getD y21.snd.fst.toNat default).attrs.length : Int)))
            (.ob ((0 : Int) ≤ y21.snd.fst ∧ y21.snd.fst < (↑l.length : Int)) <|
             .ob ((0 : Int) ≤ y21.fst ∧ y21.fst < (↑(l.getD y21.snd.fst.toNat default).attrs.length : Int)) <|
             .ob ((0 : Int) ≤ y21.snd.fst ∧ y21.snd.fst < (↑m.length : Int)) <|
             .ob ((0 : Int) ≤ y21.fst ∧ y21.fst < (↑(m.getD y21.snd.fst.toNat default).attrs.length : Int)) <|
             .br (!(((l.getD y21.snd.fst.toNat default).attrs.getD y21.fst.toNat default).name ==
      ((m.getD y21.snd.fst.toNat default).attrs.getD y21.fst.toNat default).name &&
    (((l.getD y21.snd.fst.toNat default).attrs.getD y21.fst.toNat default).value ==
        ((m.getD y21.snd.fst.toNat default).attrs.getD y21.fst.toNat default).value &&
      true)))
             (.leaf (mkR fEqTokens.rs (false, ())) [] [])
             (.ob (l = l) <|
              .ob (m = m) <|
              .ob (bk21 (IntKind.i64.wrap (y21.fst + (1 : Int)), (y21.snd.fst, ()))) <|
              .ok))
            (.ob (l = l) <|
             .ob (m = m) <|
             .ob (bk2 (IntKind.i64.wrap (y21.snd.fst + (1 : Int)), ())) <|
             .ok)))))))
   (.leaf (mkR fEqTokens.rs (true, ())) [] []))) (by kernel_rfl) ?_
  refine br_i (fun h1 => Fct.leafY ?_) (fun h1 => lpx_i ?_ fun (y2 : Int × PUnit) i2 => br_i (fun h3 => ob_i ?_ fun o4 => ob_i ?_ fun o5 => br_i (fun h6 => Fct.leafY ?_) (fun h6 => ob_i ?_ fun o7 => ob_i ?_ fun o8 => lt_i (ob_i ?_ fun o9 => ob_i ?_ fun o10 => lt_i (br_i (fun h11 => Fct.leafY ?_) (fun h11 => ob_i ?_ fun o12 => ob_i ?_ fun o13 => br_i (fun h14 => Fct.leafY ?_) (fun h14 => ob_i ?_ fun o15 => ob_i ?_ fun o16 => br_i (fun h17 => Fct.leafY ?_) (fun h17 => ob_i ?_ fun o18 => ob_i ?_ fun o19 => br_i (fun h20 => Fct.leafY ?_) (fun h20 => lpx_i ?_ fun (y21 : Int × Int × PUnit) i21 => ob_i ?_ fun o22 => br_i (fun h23 => ob_i ?_ fun o24 => ob_i ?_ fun o25 => ob_i ?_ fun o26 => ob_i ?_ fun o27 => br_i (fun h28 => Fct.leafY ?_) (fun h28 => ob_i rfl fun _ => ob_i rfl fun _ => ob_i ?_ fun o29 => trivial)) (fun h23 => ob_i rfl fun _ => ob_i rfl fun _ => ob_i ?_ fun o30 => trivial))))))))) (fun h3 => Fct.leafY ?_))
  all_goals try simp only [beqAttr] at *
  all_goals have hl := szL_len szToken l
  all_goals have hg : ∀ i, i < l.length → szToken (l.getD i default) ≤ 1099511627776 := fun i h => by have := szL_get szToken h; have hp2 : szL szToken l ≤ 1099511627776 := hp.1; omega
  all_goals have hg2 : ∀ i, i < m.length → szToken (m.getD i default) ≤ 1099511627776 := fun i h => by have := szL_get szToken h; have hp2 : szL szToken m ≤ 1099511627776 := hp.2; omega
  all_goals have hg3 : ∀ i, i < l.length → (l.getD i default).attrs.length ≤ 1099511627776 := fun i h => by have := szToken_get h; have hp2 : szL szToken l ≤ 1099511627776 := hp.1; omega
  all_goals have he : ∀ x y : SToken, x.kind = y.kind → x.name = y.name → x.text = y.text → x.attrs = y.attrs → x = y := fun x y h1 h2 h3 h4 => by cases x; cases y; simp_all
  all_goals try simp only [decide_eq_true_eq, decide_eq_false_iff_not, Bool.not_eq_true', Bool.not_eq_false', bne_iff_ne, bne_eq_false_iff_eq, beq_iff_eq, beq_eq_false_iff_ne, baEq, Int.not_lt, Int.not_le, ne_eq, Decidable.not_not] at *
  all_goals try simp only [W_spec_l15SameTokens_fEqTokens_4, W_spec_l15SameTokens_fEqTokens_9, fEqTokens, fFormatToken, etaToken, etaNode, etaBuilder, etaPolicy, etaPage, etaVisit, etaTab, etaServer, etaCache, etaNet, etaLoader, etaSheet, etaResult, etaSlot, etaModule, etaAddr, etaRequest, etaResponse, etaConn, etaGuess, etaEntry, etaSent, etaFile, baSz, List.size_toArray, List.length_cons, List.length_nil, Nat.reduceAdd, Int.toNat_zero, List.drop_zero, decide_eq_true_eq, decide_eq_false_iff_not, Bool.not_eq_true', Bool.not_eq_false', bne_iff_ne, bne_eq_false_iff_eq, beq_iff_eq, beq_eq_false_iff_ne, Bool.not_eq_true, Bool.not_eq_false, ne_eq, Decidable.not_not, baEq, decide_not, Prod.mk.injEq, and_true, true_and, Room, List.nil_append, Nat.zero_add, Int.not_lt, Int.not_le, fFormatToken] at *
  all_goals try simp (disch := omega) only [wrapId', toNat1] at *
  all_goals try simp (disch := omega) only [if_pos, if_neg]
  all_goals first | trivial | omega | grind [wrapId', toNat1, drop_cons, drop_end, good_len, maxLen, fFormatToken])
def E122 : D.Env := E121.add 256 fEqTokens
theorem E122ok : EOk Tryz.prog E122 := E121ok.add k256_121
def fEqual_slot : Fct := ⟨[.v (.sl .slot), .v (.sl .slot)], [.el .bool], fun (x_ : (List SSlot) × (List SSlot) × Unit) => x_.1.length ≤ 1000000000000000000, fun (x_ : (List SSlot) × (List SSlot) × Unit) => (decide (x_.1 = x_.2.1), ())⟩
abbrev W_slices_Equal_impl_Slot_impl_Slot_fEqual_slot_4 (l : (List SSlot)) (m : (List SSlot)) : LInv := ⟨[⟨.s, 13, true, .el .int⟩], fun _ (x_ : Int × Unit) => 0 ≤ x_.1 ∧ x_.1 ≤ l.length ∧ l.length = m.length ∧ decide (l.drop x_.1.toNat = m.drop x_.1.toNat) = decide (l = m), fun (x_ : Int × Unit) => l.length - x_.1.toNat⟩
-- slices.Equal[[]impl.Slot,impl.Slot]
theorem k147_122 : fEqual_slot.ok Tryz.prog 147 := Fct.of (S := fEqual_slot) (L := fun ⟨l, m, _⟩ => fun | 4 => some (W_slices_Equal_impl_Slot_impl_Slot_fEqual_slot_4 l m) | _ => none) (kp := [0,1,4,5,10,12,13,14,24,1000010,1000014,1000024]) E122ok Tryz.func147 (by kernel_rfl) (by kernel_rfl) (by
  rintro ⟨(l : List SSlot), (m : List SSlot), _⟩ hp
  refine holds_of (X := .br ((↑l.length : Int) != (↑m.length : Int))
 (.leaf (mkR fEqual_slot.rs (false, ())) [] [])
 (lpx (W_slices_Equal_impl_Slot_impl_Slot_fEqual_slot_4 l m) ((0 : Int), ()) fun (y2 : Int × PUnit) bk2 =>
  .br (decide (y2.fst < (↑l.length : Int)))
   (.ob ((0 : Int) ≤ y2.fst ∧ y2.fst < (↑l.length : Int)) <|
    .ob ((0 : Int) ≤ y2.fst ∧ y2.fst < (↑m.length : Int)) <|
    .br (!((l.getD y2.fst.toNat default).mode == (m.getD y2.fst.toNat default).mode &&
    ((l.getD y2.fst.toNat default).to.host == (m.getD y2.fst.toNat default).to.host &&
        ((l.getD y2.fst.toNat default).to.path == (m.getD y2.fst.toNat default).to.path && true) &&
      ((l.getD y2.fst.toNat default).digest == (m.getD y2.fst.toNat default).digest &&
        ((l.getD y2.fst.toNat default).node == (m.getD y2.fst.toNat default).node &&
          ((l.getD y2.fst.toNat default).done == (m.getD y2.fst.toNat default).done &&
            ((l.getD y2.fst.toNat default).code == (m.getD y2.fst.toNat default).code &&
              ((l.getD y2.fst.toNat default).body == (m.getD y2.fst.toNat default).body && true))))))))
    (.leaf (mkR fEqual_slot.rs (false, ())) [] [])
    (.ob (l = l) <|
     .ob (m = m) <|
     .ob (Value.int IntKind.i64 (↑l.length : Int) = Value.int IntKind.i64 (↑l.length : Int)) <|
     .ob (bk2 (IntKind.i64.wrap (y2.fst + (1 : Int)), ())) <|
     .ok))
   (.leaf (mkR fEqual_slot.rs (true, ())) [] []))) (by kernel_rfl) ?_
  refine br_i (fun h1 => Fct.leafY ?_) (fun h1 => lpx_i ?_ fun (y2 : Int × PUnit) i2 => br_i (fun h3 => ob_i ?_ fun o4 => ob_i ?_ fun o5 => br_i (fun h6 => Fct.leafY ?_) (fun h6 => ob_i rfl fun _ => ob_i rfl fun _ => ob_i rfl fun _ => ob_i ?_ fun o7 => trivial)) (fun h3 => Fct.leafY ?_))
  all_goals try simp only [beqSlot] at *
  all_goals try simp only [decide_eq_true_eq, decide_eq_false_iff_not, Bool.not_eq_true', Bool.not_eq_false', bne_iff_ne, bne_eq_false_iff_eq, beq_iff_eq, beq_eq_false_iff_ne, baEq, Int.not_lt, Int.not_le, ne_eq, Decidable.not_not] at *
  all_goals try simp only [W_slices_Equal_impl_Slot_impl_Slot_fEqual_slot_4, fEqual_slot, etaToken, etaNode, etaBuilder, etaPolicy, etaPage, etaVisit, etaTab, etaServer, etaCache, etaNet, etaLoader, etaSheet, etaResult, etaSlot, etaModule, etaAddr, etaRequest, etaResponse, etaConn, etaGuess, etaEntry, etaSent, etaFile, baSz, List.size_toArray, List.length_cons, List.length_nil, Nat.reduceAdd, Int.toNat_zero, List.drop_zero, decide_eq_true_eq, decide_eq_false_iff_not, Bool.not_eq_true', Bool.not_eq_false', bne_iff_ne, bne_eq_false_iff_eq, beq_iff_eq, beq_eq_false_iff_ne, Bool.not_eq_true, Bool.not_eq_false, ne_eq, Decidable.not_not, baEq, decide_not, Prod.mk.injEq, and_true, true_and, Room, List.nil_append, Nat.zero_add, Int.not_lt, Int.not_le] at *
  all_goals try simp (disch := omega) only [wrapId', toNat1] at *
  all_goals try simp (disch := omega) only [if_pos, if_neg]
  all_goals first | trivial | omega | grind [wrapId', toNat1, drop_cons, drop_end, good_len, maxLen])
def E123 : D.Env := E122.add 147 fEqual_slot
theorem E123ok : EOk Tryz.prog E123 := E122ok.add k147_122
def fEqual_module : Fct := ⟨[.v (.sl .module), .v (.sl .module)], [.el .bool], fun (x_ : (List SModule) × (List SModule) × Unit) => x_.1.length ≤ 1000000000000000000, fun (x_ : (List SModule) × (List SModule) × Unit) => (decide (x_.1 = x_.2.1), ())⟩
abbrev W_slices_Equal_impl_Module_impl_Module_fEqual_module_4 (l : (List SModule)) (m : (List SModule)) : LInv := ⟨[⟨.s, 13, true, .el .int⟩], fun _ (x_ : Int × Unit) => 0 ≤ x_.1 ∧ x_.1 ≤ l.length ∧ l.length = m.length ∧ decide (l.drop x_.1.toNat = m.drop x_.1.toNat) = decide (l = m), fun (x_ : Int × Unit) => l.length - x_.1.toNat⟩
-- slices.Equal[[]impl.Module,impl.Module]
theorem k148_123 : fEqual_module.ok Tryz.prog 148 := Fct.of (S := fEqual_module) (L := fun ⟨l, m, _⟩ => fun | 4 => some (W_slices_Equal_impl_Module_impl_Module_fEqual_module_4 l m) | _ => none) (kp := [0,1,4,5,10,12,13,14,24,1000010,1000014,1000024]) E123ok Tryz.func148 (by kernel_rfl) (by kernel_rfl) (by
  rintro ⟨(l : List SModule), (m : List SModule), _⟩ hp
  refine holds_of (X := .br ((↑l.length : Int) != (↑m.length : Int))
 (.leaf (mkR fEqual_module.rs (false, ())) [] [])
 (lpx (W_slices_Equal_impl_Module_impl_Module_fEqual_module_4 l m) ((0 : Int), ()) fun (y2 : Int × PUnit) bk2 =>
  .br (decide (y2.fst < (↑l.length : Int)))
   (.ob ((0 : Int) ≤ y2.fst ∧ y2.fst < (↑l.length : Int)) <|
    .ob ((0 : Int) ≤ y2.fst ∧ y2.fst < (↑m.length : Int)) <|
    .br (!((l.getD y2.fst.toNat default).to.host == (m.getD y2.fst.toNat default).to.host &&
      ((l.getD y2.fst.toNat default).to.path == (m.getD y2.fst.toNat default).to.path && true) &&
    ((l.getD y2.fst.toNat default).done == (m.getD y2.fst.toNat default).done &&
      ((l.getD y2.fst.toNat default).code == (m.getD y2.fst.toNat default).code &&
        ((l.getD y2.fst.toNat default).body == (m.getD y2.fst.toNat default).body && true)))))
    (.leaf (mkR fEqual_module.rs (false, ())) [] [])
    (.ob (l = l) <|
     .ob (m = m) <|
     .ob (Value.int IntKind.i64 (↑l.length : Int) = Value.int IntKind.i64 (↑l.length : Int)) <|
     .ob (bk2 (IntKind.i64.wrap (y2.fst + (1 : Int)), ())) <|
     .ok))
   (.leaf (mkR fEqual_module.rs (true, ())) [] []))) (by kernel_rfl) ?_
  refine br_i (fun h1 => Fct.leafY ?_) (fun h1 => lpx_i ?_ fun (y2 : Int × PUnit) i2 => br_i (fun h3 => ob_i ?_ fun o4 => ob_i ?_ fun o5 => br_i (fun h6 => Fct.leafY ?_) (fun h6 => ob_i rfl fun _ => ob_i rfl fun _ => ob_i rfl fun _ => ob_i ?_ fun o7 => trivial)) (fun h3 => Fct.leafY ?_))
  all_goals try simp only [beqModule] at *
  all_goals try simp only [decide_eq_true_eq, decide_eq_false_iff_not, Bool.not_eq_true', Bool.not_eq_false', bne_iff_ne, bne_eq_false_iff_eq, beq_iff_eq, beq_eq_false_iff_ne, baEq, Int.not_lt, Int.not_le, ne_eq, Decidable.not_not] at *
  all_goals try simp only [W_slices_Equal_impl_Module_impl_Module_fEqual_module_4, fEqual_module, etaToken, etaNode, etaBuilder, etaPolicy, etaPage, etaVisit, etaTab, etaServer, etaCache, etaNet, etaLoader, etaSheet, etaResult, etaSlot, etaModule, etaAddr, etaRequest, etaResponse, etaConn, etaGuess, etaEntry, etaSent, etaFile, baSz, List.size_toArray, List.length_cons, List.length_nil, Nat.reduceAdd, Int.toNat_zero, List.drop_zero, decide_eq_true_eq, decide_eq_false_iff_not, Bool.not_eq_true', Bool.not_eq_false', bne_iff_ne, bne_eq_false_iff_eq, beq_iff_eq, beq_eq_false_iff_ne, Bool.not_eq_true, Bool.not_eq_false, ne_eq, Decidable.not_not, baEq, decide_not, Prod.mk.injEq, and_true, true_and, Room, List.nil_append, Nat.zero_add, Int.not_lt, Int.not_le] at *
  all_goals try simp (disch := omega) only [wrapId', toNat1] at *
  all_goals try simp (disch := omega) only [if_pos, if_neg]
  all_goals first | trivial | omega | grind [wrapId', toNat1, drop_cons, drop_end, good_len, maxLen])
def E124 : D.Env := E123.add 148 fEqual_module
theorem E124ok : EOk Tryz.prog E124 := E123ok.add k148_123
def fEqPage : Fct := ⟨[.v (.el .page), .v (.el .page)], [.el .bool], fun (x_ : SPage × SPage × Unit) => szPage x_.1 ≤ 1099511627776 ∧ szPage x_.2.1 ≤ 1099511627776, fun (x_ : SPage × SPage × Unit) => (decide (x_.1 = x_.2.1), ())⟩
-- spec.EqualPages
theorem k153_124 : fEqPage.ok Tryz.prog 153 := Fct.of (S := fEqPage) (L := fun _ _ => none) (kp := [2,3,4,58,1000058]) E124ok Tryz.func153 (by kernel_rfl) (by kernel_rfl) (by
  rintro ⟨(a : SPage), (b : SPage), _⟩ hp
  refine holds_of (X := .br (!(a.addr.host == b.addr.host && (a.addr.path == b.addr.path && true)))
 (.leaf (mkR fEqPage.rs (false, ())) [] [])
 (.br (!(a.tok.rest == b.tok.rest && true))
  (.leaf (mkR fEqPage.rs (false, ())) [] [])
  (.br (!a.ended == b.ended)
   (.leaf (mkR fEqPage.rs (false, ())) [] [])
   (.br (a.block != b.block)
    (.leaf (mkR fEqPage.rs (false, ())) [] [])
    (.br (a.inline != b.inline)
     (.leaf (mkR fEqPage.rs (false, ())) [] [])
     (.br (a.deferred != b.deferred)
      (.leaf (mkR fEqPage.rs (false, ())) [] [])
      (.br (a.entered != b.entered)
       (.leaf (mkR fEqPage.rs (false, ())) [] [])
       (.br (!a.loaded == b.loaded)
        (.leaf (mkR fEqPage.rs (false, ())) [] [])
        (.ob (fEqPolicy.pre (a.policy, b.policy, ())) <|
         .lt (Bool × PUnit) (fEqPolicy.fn (a.policy, b.policy, ())) fun z2 =>
         .br (z2.fst)
          (.ob (fEqBuilder.pre (a.builder, b.builder, ())) <|
           .lt (Bool × PUnit) (fEqBuilder.fn (a.builder, b.builder, ())) fun z3 =>
           .br (z3.fst)
            (.ob (fEqTokens.pre (a.queue, b.queue, ())) <|
             .lt (Bool × PUnit) (fEqTokens.fn (a.queue, b.queue, ())) fun z4 =>
             .br (z4.fst)
              (.ob (fEqLists.pre (a, b, ())) <|
               .lt (Bool × PUnit) (fEqLists.fn (a, b, ())) fun z5 =>
               .br (z5.fst)
                (.ob (fEqual_addr.pre (a.entries, b.entries, ())) <|
                 .lt (Bool × PUnit) (fEqual_addr.fn (a.entries, b.entries, ())) fun z6 =>
                 .br (z6.fst)
                  (.ob (fEqual_addr.pre (a.ran, b.ran, ())) <|
                   .lt (Bool × PUnit) (fEqual_addr.fn (a.ran, b.ran, ())) fun z7 =>
                   .br (z7.fst)
                    (.ob (fEqual_str.pre (a.log, b.log, ())) <|
                     .lt (Bool × PUnit) (fEqual_str.fn (a.log, b.log, ())) fun z8 =>
                     .leaf (mkR fEqPage.rs (z8.fst, ())) [] [])
                    (.leaf (mkR fEqPage.rs (false, ())) [] []))
                  (.leaf (mkR fEqPage.rs (false, ())) [] []))
                (.leaf (mkR fEqPage.rs (false, ())) [] []))
              (.leaf (mkR fEqPage.rs (false, ())) [] []))
            (.leaf (mkR fEqPage.rs (false, ())) [] []))
          (.leaf (mkR fEqPage.rs (false, ())) [] [])))))))))) (by kernel_rfl) ?_
  refine br_i (fun h1 => Fct.leafY ?_) (fun h1 => br_i (fun h2 => Fct.leafY ?_) (fun h2 => br_i (fun h3 => Fct.leafY ?_) (fun h3 => br_i (fun h4 => Fct.leafY ?_) (fun h4 => br_i (fun h5 => Fct.leafY ?_) (fun h5 => br_i (fun h6 => Fct.leafY ?_) (fun h6 => br_i (fun h7 => Fct.leafY ?_) (fun h7 => br_i (fun h8 => Fct.leafY ?_) (fun h8 => ob_i ?_ fun o9 => lt_i (br_i (fun h10 => ob_i ?_ fun o11 => lt_i (br_i (fun h12 => ob_i ?_ fun o13 => lt_i (br_i (fun h14 => ob_i ?_ fun o15 => lt_i (br_i (fun h16 => ob_i ?_ fun o17 => lt_i (br_i (fun h18 => ob_i ?_ fun o19 => lt_i (br_i (fun h20 => ob_i ?_ fun o21 => lt_i (Fct.leafY ?_)) (fun h20 => Fct.leafY ?_))) (fun h18 => Fct.leafY ?_))) (fun h16 => Fct.leafY ?_))) (fun h14 => Fct.leafY ?_))) (fun h12 => Fct.leafY ?_))) (fun h10 => Fct.leafY ?_))))))))))
  all_goals have hl1 := szL_len szSlot a.slots
  all_goals have hl2 := szL_len szModule a.mods
  all_goals have hl3 := szL_len szAddr a.entries
  all_goals have hl4 := szL_len szAddr a.ran
  all_goals have hl5 := szL_len szString a.log
  all_goals have hl6 := szL_len szToken a.queue
  all_goals have hg : ∀ i, i < a.queue.length → (a.queue.getD i default).attrs.length ≤ szL szToken a.queue := fun i h => by have := szToken_get h; omega
  all_goals have hg2 : ∀ i, i < a.queue.length → (a.queue.getD i default).attrs.length ≤ 1000000000000000000 := fun i h => by have := hg i h; have hp2 : szPage a ≤ 1099511627776 := hp.1; simp only [szPage] at hp2; omega
  all_goals simp only [fEqPage, szPage] at hp
  all_goals try simp only [beqAddr, beqTokenizer] at *
  all_goals (cases a; cases b)
  all_goals try simp only [decide_eq_true_eq, decide_eq_false_iff_not, Bool.not_eq_true', Bool.not_eq_false', bne_iff_ne, bne_eq_false_iff_eq, beq_iff_eq, beq_eq_false_iff_ne, baEq, Int.not_lt, Int.not_le, ne_eq, Decidable.not_not] at *
  all_goals try simp only [fEqBuilder, fEqLists, fEqPage, fEqPolicy, fEqTokens, fEqual_addr, fEqual_str, etaToken, etaNode, etaBuilder, etaPolicy, etaPage, etaVisit, etaTab, etaServer, etaCache, etaNet, etaLoader, etaSheet, etaResult, etaSlot, etaModule, etaAddr, etaRequest, etaResponse, etaConn, etaGuess, etaEntry, etaSent, etaFile, baSz, List.size_toArray, List.length_cons, List.length_nil, Nat.reduceAdd, Int.toNat_zero, List.drop_zero, decide_eq_true_eq, decide_eq_false_iff_not, Bool.not_eq_true', Bool.not_eq_false', bne_iff_ne, bne_eq_false_iff_eq, beq_iff_eq, beq_eq_false_iff_ne, Bool.not_eq_true, Bool.not_eq_false, ne_eq, Decidable.not_not, baEq, decide_not, Prod.mk.injEq, and_true, true_and, Room, List.nil_append, Nat.zero_add, Int.not_lt, Int.not_le, fEqual_str, fEqual_addr, fEqual_slot, fEqual_module, fEqTokens, fEqLists, fEqPolicy, fEqBuilder, fEqualFunc_token, fEqToken] at *
  all_goals try simp (disch := omega) only [wrapId', toNat1] at *
  all_goals try simp (disch := omega) only [if_pos, if_neg]
  all_goals first | trivial | omega | grind [wrapId', toNat1, drop_cons, drop_end, good_len, maxLen, fEqual_str, fEqual_addr, fEqual_slot, fEqual_module, fEqTokens, fEqLists, fEqPolicy, fEqBuilder, fEqualFunc_token, fEqToken])
def E125 : D.Env := E124.add 153 fEqPage
theorem E125ok : EOk Tryz.prog E125 := E124ok.add k153_124
-- impl.EqualPages
theorem k43_125 : fEqPage.ok Tryz.prog 43 := Fct.of (S := fEqPage) (L := fun _ _ => none) (kp := [2,3,4]) E125ok Tryz.func43 (by kernel_rfl) (by kernel_rfl) (by
  rintro ⟨(a : SPage), (b : SPage), _⟩ hp
  refine holds_of (X := .br (a.addr.host == b.addr.host && (a.addr.path == b.addr.path && true))
 (.ob (fEqPolicy.pre (a.policy, b.policy, ())) <|
  .lt (Bool × PUnit) (fEqPolicy.fn (a.policy, b.policy, ())) fun z2 =>
  .br (z2.fst)
   (.br (a.tok.rest == b.tok.rest && true)
    (.ob (fEqualFunc_token.pre (a.queue, b.queue, (), ())) <|
     .lt (Bool × PUnit) (fEqualFunc_token.fn (a.queue, b.queue, (), ())) fun z3 =>
     .br (z3.fst)
      (.br (a.ended == b.ended)
       (.ob (fEqBuilder.pre (a.builder, b.builder, ())) <|
        .lt (Bool × PUnit) (fEqBuilder.fn (a.builder, b.builder, ())) fun z4 =>
        .br (z4.fst)
         (.ob (fEqual_slot.pre (a.slots, b.slots, ())) <|
          .lt (Bool × PUnit) (fEqual_slot.fn (a.slots, b.slots, ())) fun z5 =>
          .br (z5.fst)
           (.ob (fEqual_module.pre (a.mods, b.mods, ())) <|
            .lt (Bool × PUnit) (fEqual_module.fn (a.mods, b.mods, ())) fun z6 =>
            .br (z6.fst)
             (.ob (fEqual_addr.pre (a.entries, b.entries, ())) <|
              .lt (Bool × PUnit) (fEqual_addr.fn (a.entries, b.entries, ())) fun z7 =>
              .br (z7.fst)
               (.br (a.block == b.block)
                (.br (a.inline == b.inline)
                 (.br (a.deferred == b.deferred)
                  (.br (a.entered == b.entered)
                   (.ob (fEqual_addr.pre (a.ran, b.ran, ())) <|
                    .lt (Bool × PUnit) (fEqual_addr.fn (a.ran, b.ran, ())) fun z8 =>
                    .br (z8.fst)
                     (.ob (fEqual_str.pre (a.log, b.log, ())) <|
                      .lt (Bool × PUnit) (fEqual_str.fn (a.log, b.log, ())) fun z9 =>
                      .br (z9.fst)
                       (.leaf (mkR fEqPage.rs (a.loaded == b.loaded, ())) [] [])
                       (.leaf (mkR fEqPage.rs (false, ())) [] []))
                     (.leaf (mkR fEqPage.rs (false, ())) [] []))
                   (.leaf (mkR fEqPage.rs (false, ())) [] []))
                  (.leaf (mkR fEqPage.rs (false, ())) [] []))
                 (.leaf (mkR fEqPage.rs (false, ())) [] []))
                (.leaf (mkR fEqPage.rs (false, ())) [] []))
               (.leaf (mkR fEqPage.rs (false, ())) [] []))
             (.leaf (mkR fEqPage.rs (false, ())) [] []))
           (.leaf (mkR fEqPage.rs (false, ())) [] []))
         (.leaf (mkR fEqPage.rs (false, ())) [] []))
       (.leaf (mkR fEqPage.rs (false, ())) [] []))
      (.leaf (mkR fEqPage.rs (false, ())) [] []))
    (.leaf (mkR fEqPage.rs (false, ())) [] []))
   (.leaf (mkR fEqPage.rs (false, ())) [] []))
 (.leaf (mkR fEqPage.rs (false, ())) [] [])) (by kernel_rfl) ?_
  refine br_i (fun h1 => ob_i ?_ fun o2 => lt_i (br_i (fun h3 => br_i (fun h4 => ob_i ?_ fun o5 => lt_i (br_i (fun h6 => br_i (fun h7 => ob_i ?_ fun o8 => lt_i (br_i (fun h9 => ob_i ?_ fun o10 => lt_i (br_i (fun h11 => ob_i ?_ fun o12 => lt_i (br_i (fun h13 => ob_i ?_ fun o14 => lt_i (br_i (fun h15 => br_i (fun h16 => br_i (fun h17 => br_i (fun h18 => br_i (fun h19 => ob_i ?_ fun o20 => lt_i (br_i (fun h21 => ob_i ?_ fun o22 => lt_i (br_i (fun h23 => Fct.leafY ?_) (fun h23 => Fct.leafY ?_))) (fun h21 => Fct.leafY ?_))) (fun h19 => Fct.leafY ?_)) (fun h18 => Fct.leafY ?_)) (fun h17 => Fct.leafY ?_)) (fun h16 => Fct.leafY ?_)) (fun h15 => Fct.leafY ?_))) (fun h13 => Fct.leafY ?_))) (fun h11 => Fct.leafY ?_))) (fun h9 => Fct.leafY ?_))) (fun h7 => Fct.leafY ?_)) (fun h6 => Fct.leafY ?_))) (fun h4 => Fct.leafY ?_)) (fun h3 => Fct.leafY ?_))) (fun h1 => Fct.leafY ?_)
  all_goals have hl1 := szL_len szSlot a.slots
  all_goals have hl2 := szL_len szModule a.mods
  all_goals have hl3 := szL_len szAddr a.entries
  all_goals have hl4 := szL_len szAddr a.ran
  all_goals have hl5 := szL_len szString a.log
  all_goals have hl6 := szL_len szToken a.queue
  all_goals have hg : ∀ i, i < a.queue.length → (a.queue.getD i default).attrs.length ≤ szL szToken a.queue := fun i h => by have := szToken_get h; omega
  all_goals have hg2 : ∀ i, i < a.queue.length → (a.queue.getD i default).attrs.length ≤ 1000000000000000000 := fun i h => by have := hg i h; have hp2 : szPage a ≤ 1099511627776 := hp.1; simp only [szPage] at hp2; omega
  all_goals simp only [fEqPage, szPage] at hp
  all_goals try simp only [beqAddr, beqTokenizer] at *
  all_goals (cases a; cases b)
  all_goals try simp only [decide_eq_true_eq, decide_eq_false_iff_not, Bool.not_eq_true', Bool.not_eq_false', bne_iff_ne, bne_eq_false_iff_eq, beq_iff_eq, beq_eq_false_iff_ne, baEq, Int.not_lt, Int.not_le, ne_eq, Decidable.not_not] at *
  all_goals try simp only [fEqBuilder, fEqPage, fEqPolicy, fEqualFunc_token, fEqual_addr, fEqual_module, fEqual_slot, fEqual_str, etaToken, etaNode, etaBuilder, etaPolicy, etaPage, etaVisit, etaTab, etaServer, etaCache, etaNet, etaLoader, etaSheet, etaResult, etaSlot, etaModule, etaAddr, etaRequest, etaResponse, etaConn, etaGuess, etaEntry, etaSent, etaFile, baSz, List.size_toArray, List.length_cons, List.length_nil, Nat.reduceAdd, Int.toNat_zero, List.drop_zero, decide_eq_true_eq, decide_eq_false_iff_not, Bool.not_eq_true', Bool.not_eq_false', bne_iff_ne, bne_eq_false_iff_eq, beq_iff_eq, beq_eq_false_iff_ne, Bool.not_eq_true, Bool.not_eq_false, ne_eq, Decidable.not_not, baEq, decide_not, Prod.mk.injEq, and_true, true_and, Room, List.nil_append, Nat.zero_add, Int.not_lt, Int.not_le, fEqual_str, fEqual_addr, fEqual_slot, fEqual_module, fEqTokens, fEqLists, fEqPolicy, fEqBuilder, fEqualFunc_token, fEqToken] at *
  all_goals try simp (disch := omega) only [wrapId', toNat1] at *
  all_goals try simp (disch := omega) only [if_pos, if_neg]
  all_goals first | trivial | omega | grind [wrapId', toNat1, drop_cons, drop_end, good_len, maxLen, fEqual_str, fEqual_addr, fEqual_slot, fEqual_module, fEqTokens, fEqLists, fEqPolicy, fEqBuilder, fEqualFunc_token, fEqToken])
def E126 : D.Env := E125.add 43 fEqPage
theorem E126ok : EOk Tryz.prog E126 := E125ok.add k43_125
def fEqual_file : Fct := ⟨[.v (.sl .file), .v (.sl .file)], [.el .bool], fun (x_ : (List SFile) × (List SFile) × Unit) => x_.1.length ≤ 1000000000000000000, fun (x_ : (List SFile) × (List SFile) × Unit) => (decide (x_.1 = x_.2.1), ())⟩
abbrev W_slices_Equal_impl_File_impl_File_fEqual_file_4 (l : (List SFile)) (m : (List SFile)) : LInv := ⟨[⟨.s, 13, true, .el .int⟩], fun _ (x_ : Int × Unit) => 0 ≤ x_.1 ∧ x_.1 ≤ l.length ∧ l.length = m.length ∧ decide (l.drop x_.1.toNat = m.drop x_.1.toNat) = decide (l = m), fun (x_ : Int × Unit) => l.length - x_.1.toNat⟩
-- slices.Equal[[]impl.File,impl.File]
theorem k335_126 : fEqual_file.ok Tryz.prog 335 := Fct.of (S := fEqual_file) (L := fun ⟨l, m, _⟩ => fun | 4 => some (W_slices_Equal_impl_File_impl_File_fEqual_file_4 l m) | _ => none) (kp := [0,1,4,5,10,12,13,14,24,1000010,1000014,1000024]) E126ok Tryz.func335 (by kernel_rfl) (by kernel_rfl) (by
  rintro ⟨(l : List SFile), (m : List SFile), _⟩ hp
  refine holds_of (X := .br ((↑l.length : Int) != (↑m.length : Int))
 (.leaf (mkR fEqual_file.rs (false, ())) [] [])
 (lpx (W_slices_Equal_impl_File_impl_File_fEqual_file_4 l m) ((0 : Int), ()) fun (y2 : Int × PUnit) bk2 =>
  .br (decide (y2.fst < (↑l.length : Int)))
   (.ob ((0 : Int) ≤ y2.fst ∧ y2.fst < (↑l.length : Int)) <|
    .ob ((0 : Int) ≤ y2.fst ∧ y2.fst < (↑m.length : Int)) <|
    .br (!((l.getD y2.fst.toNat default).path == (m.getD y2.fst.toNat default).path &&
    ((l.getD y2.fst.toNat default).response.status == (m.getD y2.fst.toNat default).response.status &&
        ((l.getD y2.fst.toNat default).response.kind == (m.getD y2.fst.toNat default).response.kind &&
          ((l.getD y2.fst.toNat default).response.body == (m.getD y2.fst.toNat default).response.body &&
            ((l.getD y2.fst.toNat default).response.age == (m.getD y2.fst.toNat default).response.age &&
              ((l.getD y2.fst.toNat default).response.shares == (m.getD y2.fst.toNat default).response.shares &&
                ((l.getD y2.fst.toNat default).response.policy == (m.getD y2.fst.toNat default).response.policy &&
                  true))))) &&
      true)))
    (.leaf (mkR fEqual_file.rs (false, ())) [] [])
    (.ob (l = l) <|
     .ob (m = m) <|
     .ob (Value.int IntKind.i64 (↑l.length : Int) = Value.int IntKind.i64 (↑l.length : Int)) <|
     .ob (bk2 (IntKind.i64.wrap (y2.fst + (1 : Int)), ())) <|
     .ok))
   (.leaf (mkR fEqual_file.rs (true, ())) [] []))) (by kernel_rfl) ?_
  refine br_i (fun h1 => Fct.leafY ?_) (fun h1 => lpx_i ?_ fun (y2 : Int × PUnit) i2 => br_i (fun h3 => ob_i ?_ fun o4 => ob_i ?_ fun o5 => br_i (fun h6 => Fct.leafY ?_) (fun h6 => ob_i rfl fun _ => ob_i rfl fun _ => ob_i rfl fun _ => ob_i ?_ fun o7 => trivial)) (fun h3 => Fct.leafY ?_))
  all_goals try simp only [beqFile] at *
  all_goals try simp only [decide_eq_true_eq, decide_eq_false_iff_not, Bool.not_eq_true', Bool.not_eq_false', bne_iff_ne, bne_eq_false_iff_eq, beq_iff_eq, beq_eq_false_iff_ne, baEq, Int.not_lt, Int.not_le, ne_eq, Decidable.not_not] at *
  all_goals try simp only [W_slices_Equal_impl_File_impl_File_fEqual_file_4, fEqual_file, etaToken, etaNode, etaBuilder, etaPolicy, etaPage, etaVisit, etaTab, etaServer, etaCache, etaNet, etaLoader, etaSheet, etaResult, etaSlot, etaModule, etaAddr, etaRequest, etaResponse, etaConn, etaGuess, etaEntry, etaSent, etaFile, baSz, List.size_toArray, List.length_cons, List.length_nil, Nat.reduceAdd, Int.toNat_zero, List.drop_zero, decide_eq_true_eq, decide_eq_false_iff_not, Bool.not_eq_true', Bool.not_eq_false', bne_iff_ne, bne_eq_false_iff_eq, beq_iff_eq, beq_eq_false_iff_ne, Bool.not_eq_true, Bool.not_eq_false, ne_eq, Decidable.not_not, baEq, decide_not, Prod.mk.injEq, and_true, true_and, Room, List.nil_append, Nat.zero_add, Int.not_lt, Int.not_le] at *
  all_goals try simp (disch := omega) only [wrapId', toNat1] at *
  all_goals try simp (disch := omega) only [if_pos, if_neg]
  all_goals first | trivial | omega | grind [wrapId', toNat1, drop_cons, drop_end, good_len, maxLen])
def E127 : D.Env := E126.add 335 fEqual_file
theorem E127ok : EOk Tryz.prog E127 := E126ok.add k335_126
def fEqual_entry : Fct := ⟨[.v (.sl .entry), .v (.sl .entry)], [.el .bool], fun (x_ : (List SEntry) × (List SEntry) × Unit) => x_.1.length ≤ 1000000000000000000, fun (x_ : (List SEntry) × (List SEntry) × Unit) => (decide (x_.1 = x_.2.1), ())⟩
abbrev W_slices_Equal_impl_Entry_impl_Entry_fEqual_entry_4 (l : (List SEntry)) (m : (List SEntry)) : LInv := ⟨[⟨.s, 13, true, .el .int⟩], fun _ (x_ : Int × Unit) => 0 ≤ x_.1 ∧ x_.1 ≤ l.length ∧ l.length = m.length ∧ decide (l.drop x_.1.toNat = m.drop x_.1.toNat) = decide (l = m), fun (x_ : Int × Unit) => l.length - x_.1.toNat⟩
-- slices.Equal[[]impl.Entry,impl.Entry]
theorem k336_127 : fEqual_entry.ok Tryz.prog 336 := Fct.of (S := fEqual_entry) (L := fun ⟨l, m, _⟩ => fun | 4 => some (W_slices_Equal_impl_Entry_impl_Entry_fEqual_entry_4 l m) | _ => none) (kp := [0,1,4,5,10,12,13,14,24,1000010,1000014,1000024]) E127ok Tryz.func336 (by kernel_rfl) (by kernel_rfl) (by
  rintro ⟨(l : List SEntry), (m : List SEntry), _⟩ hp
  refine holds_of (X := .br ((↑l.length : Int) != (↑m.length : Int))
 (.leaf (mkR fEqual_entry.rs (false, ())) [] [])
 (lpx (W_slices_Equal_impl_Entry_impl_Entry_fEqual_entry_4 l m) ((0 : Int), ()) fun (y2 : Int × PUnit) bk2 =>
  .br (decide (y2.fst < (↑l.length : Int)))
   (.ob ((0 : Int) ≤ y2.fst ∧ y2.fst < (↑l.length : Int)) <|
    .ob ((0 : Int) ≤ y2.fst ∧ y2.fst < (↑m.length : Int)) <|
    .br (!((l.getD y2.fst.toNat default).top == (m.getD y2.fst.toNat default).top &&
    ((l.getD y2.fst.toNat default).to.host == (m.getD y2.fst.toNat default).to.host &&
        ((l.getD y2.fst.toNat default).to.path == (m.getD y2.fst.toNat default).to.path && true) &&
      ((l.getD y2.fst.toNat default).response.status == (m.getD y2.fst.toNat default).response.status &&
          ((l.getD y2.fst.toNat default).response.kind == (m.getD y2.fst.toNat default).response.kind &&
            ((l.getD y2.fst.toNat default).response.body == (m.getD y2.fst.toNat default).response.body &&
              ((l.getD y2.fst.toNat default).response.age == (m.getD y2.fst.toNat default).response.age &&
                ((l.getD y2.fst.toNat default).response.shares == (m.getD y2.fst.toNat default).response.shares &&
                  ((l.getD y2.fst.toNat default).response.policy == (m.getD y2.fst.toNat default).response.policy &&
                    true))))) &&
        ((l.getD y2.fst.toNat default).until_ == (m.getD y2.fst.toNat default).until_ && true)))))
    (.leaf (mkR fEqual_entry.rs (false, ())) [] [])
    (.ob (l = l) <|
     .ob (m = m) <|
     .ob (Value.int IntKind.i64 (↑l.length : Int) = Value.int IntKind.i64 (↑l.length : Int)) <|
     .ob (bk2 (IntKind.i64.wrap (y2.fst + (1 : Int)), ())) <|
     .ok))
   (.leaf (mkR fEqual_entry.rs (true, ())) [] []))) (by kernel_rfl) ?_
  refine br_i (fun h1 => Fct.leafY ?_) (fun h1 => lpx_i ?_ fun (y2 : Int × PUnit) i2 => br_i (fun h3 => ob_i ?_ fun o4 => ob_i ?_ fun o5 => br_i (fun h6 => Fct.leafY ?_) (fun h6 => ob_i rfl fun _ => ob_i rfl fun _ => ob_i rfl fun _ => ob_i ?_ fun o7 => trivial)) (fun h3 => Fct.leafY ?_))
  all_goals try simp only [beqEntry] at *
  all_goals try simp only [decide_eq_true_eq, decide_eq_false_iff_not, Bool.not_eq_true', Bool.not_eq_false', bne_iff_ne, bne_eq_false_iff_eq, beq_iff_eq, beq_eq_false_iff_ne, baEq, Int.not_lt, Int.not_le, ne_eq, Decidable.not_not] at *
  all_goals try simp only [W_slices_Equal_impl_Entry_impl_Entry_fEqual_entry_4, fEqual_entry, etaToken, etaNode, etaBuilder, etaPolicy, etaPage, etaVisit, etaTab, etaServer, etaCache, etaNet, etaLoader, etaSheet, etaResult, etaSlot, etaModule, etaAddr, etaRequest, etaResponse, etaConn, etaGuess, etaEntry, etaSent, etaFile, baSz, List.size_toArray, List.length_cons, List.length_nil, Nat.reduceAdd, Int.toNat_zero, List.drop_zero, decide_eq_true_eq, decide_eq_false_iff_not, Bool.not_eq_true', Bool.not_eq_false', bne_iff_ne, bne_eq_false_iff_eq, beq_iff_eq, beq_eq_false_iff_ne, Bool.not_eq_true, Bool.not_eq_false, ne_eq, Decidable.not_not, baEq, decide_not, Prod.mk.injEq, and_true, true_and, Room, List.nil_append, Nat.zero_add, Int.not_lt, Int.not_le] at *
  all_goals try simp (disch := omega) only [wrapId', toNat1] at *
  all_goals try simp (disch := omega) only [if_pos, if_neg]
  all_goals first | trivial | omega | grind [wrapId', toNat1, drop_cons, drop_end, good_len, maxLen])
def E128 : D.Env := E127.add 336 fEqual_entry
theorem E128ok : EOk Tryz.prog E128 := E127ok.add k336_127
def fEqual_sent : Fct := ⟨[.v (.sl .sent), .v (.sl .sent)], [.el .bool], fun (x_ : (List SSent) × (List SSent) × Unit) => x_.1.length ≤ 1000000000000000000, fun (x_ : (List SSent) × (List SSent) × Unit) => (decide (x_.1 = x_.2.1), ())⟩
abbrev W_slices_Equal_impl_Sent_impl_Sent_fEqual_sent_4 (l : (List SSent)) (m : (List SSent)) : LInv := ⟨[⟨.s, 13, true, .el .int⟩], fun _ (x_ : Int × Unit) => 0 ≤ x_.1 ∧ x_.1 ≤ l.length ∧ l.length = m.length ∧ decide (l.drop x_.1.toNat = m.drop x_.1.toNat) = decide (l = m), fun (x_ : Int × Unit) => l.length - x_.1.toNat⟩
-- slices.Equal[[]impl.Sent,impl.Sent]
theorem k262_128 : fEqual_sent.ok Tryz.prog 262 := Fct.of (S := fEqual_sent) (L := fun ⟨l, m, _⟩ => fun | 4 => some (W_slices_Equal_impl_Sent_impl_Sent_fEqual_sent_4 l m) | _ => none) (kp := [0,1,4,5,10,12,13,14,24,1000010,1000014,1000024]) E128ok Tryz.func262 (by kernel_rfl) (by kernel_rfl) (by
  rintro ⟨(l : List SSent), (m : List SSent), _⟩ hp
  refine holds_of (X := .br ((↑l.length : Int) != (↑m.length : Int))
 (.leaf (mkR fEqual_sent.rs (false, ())) [] [])
 (lpx (W_slices_Equal_impl_Sent_impl_Sent_fEqual_sent_4 l m) ((0 : Int), ()) fun (y2 : Int × PUnit) bk2 =>
  .br (decide (y2.fst < (↑l.length : Int)))
   (.ob ((0 : Int) ≤ y2.fst ∧ y2.fst < (↑l.length : Int)) <|
    .ob ((0 : Int) ≤ y2.fst ∧ y2.fst < (↑m.length : Int)) <|
    .br (!((l.getD y2.fst.toNat default).top == (m.getD y2.fst.toNat default).top &&
    ((l.getD y2.fst.toNat default).to.host == (m.getD y2.fst.toNat default).to.host &&
        ((l.getD y2.fst.toNat default).to.path == (m.getD y2.fst.toNat default).to.path && true) &&
      ((l.getD y2.fst.toNat default).guess == (m.getD y2.fst.toNat default).guess && true))))
    (.leaf (mkR fEqual_sent.rs (false, ())) [] [])
    (.ob (l = l) <|
     .ob (m = m) <|
     .ob (Value.int IntKind.i64 (↑l.length : Int) = Value.int IntKind.i64 (↑l.length : Int)) <|
     .ob (bk2 (IntKind.i64.wrap (y2.fst + (1 : Int)), ())) <|
     .ok))
   (.leaf (mkR fEqual_sent.rs (true, ())) [] []))) (by kernel_rfl) ?_
  refine br_i (fun h1 => Fct.leafY ?_) (fun h1 => lpx_i ?_ fun (y2 : Int × PUnit) i2 => br_i (fun h3 => ob_i ?_ fun o4 => ob_i ?_ fun o5 => br_i (fun h6 => Fct.leafY ?_) (fun h6 => ob_i rfl fun _ => ob_i rfl fun _ => ob_i rfl fun _ => ob_i ?_ fun o7 => trivial)) (fun h3 => Fct.leafY ?_))
  all_goals try simp only [beqSent] at *
  all_goals try simp only [decide_eq_true_eq, decide_eq_false_iff_not, Bool.not_eq_true', Bool.not_eq_false', bne_iff_ne, bne_eq_false_iff_eq, beq_iff_eq, beq_eq_false_iff_ne, baEq, Int.not_lt, Int.not_le, ne_eq, Decidable.not_not] at *
  all_goals try simp only [W_slices_Equal_impl_Sent_impl_Sent_fEqual_sent_4, fEqual_sent, etaToken, etaNode, etaBuilder, etaPolicy, etaPage, etaVisit, etaTab, etaServer, etaCache, etaNet, etaLoader, etaSheet, etaResult, etaSlot, etaModule, etaAddr, etaRequest, etaResponse, etaConn, etaGuess, etaEntry, etaSent, etaFile, baSz, List.size_toArray, List.length_cons, List.length_nil, Nat.reduceAdd, Int.toNat_zero, List.drop_zero, decide_eq_true_eq, decide_eq_false_iff_not, Bool.not_eq_true', Bool.not_eq_false', bne_iff_ne, bne_eq_false_iff_eq, beq_iff_eq, beq_eq_false_iff_ne, Bool.not_eq_true, Bool.not_eq_false, ne_eq, Decidable.not_not, baEq, decide_not, Prod.mk.injEq, and_true, true_and, Room, List.nil_append, Nat.zero_add, Int.not_lt, Int.not_le] at *
  all_goals try simp (disch := omega) only [wrapId', toNat1] at *
  all_goals try simp (disch := omega) only [if_pos, if_neg]
  all_goals first | trivial | omega | grind [wrapId', toNat1, drop_cons, drop_end, good_len, maxLen])
def E129 : D.Env := E128.add 262 fEqual_sent
theorem E129ok : EOk Tryz.prog E129 := E128ok.add k262_128
def fEqual_conn : Fct := ⟨[.v (.sl .conn), .v (.sl .conn)], [.el .bool], fun (x_ : (List SConn) × (List SConn) × Unit) => x_.1.length ≤ 1000000000000000000, fun (x_ : (List SConn) × (List SConn) × Unit) => (decide (x_.1 = x_.2.1), ())⟩
abbrev W_slices_Equal_impl_Conn_impl_Conn_fEqual_conn_4 (l : (List SConn)) (m : (List SConn)) : LInv := ⟨[⟨.s, 13, true, .el .int⟩], fun _ (x_ : Int × Unit) => 0 ≤ x_.1 ∧ x_.1 ≤ l.length ∧ l.length = m.length ∧ decide (l.drop x_.1.toNat = m.drop x_.1.toNat) = decide (l = m), fun (x_ : Int × Unit) => l.length - x_.1.toNat⟩
-- slices.Equal[[]impl.Conn,impl.Conn]
theorem k158_129 : fEqual_conn.ok Tryz.prog 158 := Fct.of (S := fEqual_conn) (L := fun ⟨l, m, _⟩ => fun | 4 => some (W_slices_Equal_impl_Conn_impl_Conn_fEqual_conn_4 l m) | _ => none) (kp := [0,1,4,5,10,12,13,14,24,1000010,1000014,1000024]) E129ok Tryz.func158 (by kernel_rfl) (by kernel_rfl) (by
  rintro ⟨(l : List SConn), (m : List SConn), _⟩ hp
  refine holds_of (X := .br ((↑l.length : Int) != (↑m.length : Int))
 (.leaf (mkR fEqual_conn.rs (false, ())) [] [])
 (lpx (W_slices_Equal_impl_Conn_impl_Conn_fEqual_conn_4 l m) ((0 : Int), ()) fun (y2 : Int × PUnit) bk2 =>
  .br (decide (y2.fst < (↑l.length : Int)))
   (.ob ((0 : Int) ≤ y2.fst ∧ y2.fst < (↑l.length : Int)) <|
    .ob ((0 : Int) ≤ y2.fst ∧ y2.fst < (↑m.length : Int)) <|
    .br (!((l.getD y2.fst.toNat default).to.host == (m.getD y2.fst.toNat default).to.host &&
      ((l.getD y2.fst.toNat default).to.path == (m.getD y2.fst.toNat default).to.path && true) &&
    ((l.getD y2.fst.toNat default).left == (m.getD y2.fst.toNat default).left &&
      ((l.getD y2.fst.toNat default).guess == (m.getD y2.fst.toNat default).guess &&
        ((l.getD y2.fst.toNat default).response.status == (m.getD y2.fst.toNat default).response.status &&
            ((l.getD y2.fst.toNat default).response.kind == (m.getD y2.fst.toNat default).response.kind &&
              ((l.getD y2.fst.toNat default).response.body == (m.getD y2.fst.toNat default).response.body &&
                ((l.getD y2.fst.toNat default).response.age == (m.getD y2.fst.toNat default).response.age &&
                  ((l.getD y2.fst.toNat default).response.shares == (m.getD y2.fst.toNat default).response.shares &&
                    ((l.getD y2.fst.toNat default).response.policy == (m.getD y2.fst.toNat default).response.policy &&
                      true))))) &&
          true)))))
    (.leaf (mkR fEqual_conn.rs (false, ())) [] [])
    (.ob (l = l) <|
     .ob (m = m) <|
     .ob (Value.int IntKind.i64 (↑l.length : Int) = Value.int IntKind.i64 (↑l.length : Int)) <|
     .ob (bk2 (IntKind.i64.wrap (y2.fst + (1 : Int)), ())) <|
     .ok))
   (.leaf (mkR fEqual_conn.rs (true, ())) [] []))) (by kernel_rfl) ?_
  refine br_i (fun h1 => Fct.leafY ?_) (fun h1 => lpx_i ?_ fun (y2 : Int × PUnit) i2 => br_i (fun h3 => ob_i ?_ fun o4 => ob_i ?_ fun o5 => br_i (fun h6 => Fct.leafY ?_) (fun h6 => ob_i rfl fun _ => ob_i rfl fun _ => ob_i rfl fun _ => ob_i ?_ fun o7 => trivial)) (fun h3 => Fct.leafY ?_))
  all_goals try simp only [beqConn] at *
  all_goals try simp only [decide_eq_true_eq, decide_eq_false_iff_not, Bool.not_eq_true', Bool.not_eq_false', bne_iff_ne, bne_eq_false_iff_eq, beq_iff_eq, beq_eq_false_iff_ne, baEq, Int.not_lt, Int.not_le, ne_eq, Decidable.not_not] at *
  all_goals try simp only [W_slices_Equal_impl_Conn_impl_Conn_fEqual_conn_4, fEqual_conn, etaToken, etaNode, etaBuilder, etaPolicy, etaPage, etaVisit, etaTab, etaServer, etaCache, etaNet, etaLoader, etaSheet, etaResult, etaSlot, etaModule, etaAddr, etaRequest, etaResponse, etaConn, etaGuess, etaEntry, etaSent, etaFile, baSz, List.size_toArray, List.length_cons, List.length_nil, Nat.reduceAdd, Int.toNat_zero, List.drop_zero, decide_eq_true_eq, decide_eq_false_iff_not, Bool.not_eq_true', Bool.not_eq_false', bne_iff_ne, bne_eq_false_iff_eq, beq_iff_eq, beq_eq_false_iff_ne, Bool.not_eq_true, Bool.not_eq_false, ne_eq, Decidable.not_not, baEq, decide_not, Prod.mk.injEq, and_true, true_and, Room, List.nil_append, Nat.zero_add, Int.not_lt, Int.not_le] at *
  all_goals try simp (disch := omega) only [wrapId', toNat1] at *
  all_goals try simp (disch := omega) only [if_pos, if_neg]
  all_goals first | trivial | omega | grind [wrapId', toNat1, drop_cons, drop_end, good_len, maxLen])
def E130 : D.Env := E129.add 158 fEqual_conn
theorem E130ok : EOk Tryz.prog E130 := E129ok.add k158_129
def fEqual_guess : Fct := ⟨[.v (.sl .guess), .v (.sl .guess)], [.el .bool], fun (x_ : (List SGuess) × (List SGuess) × Unit) => x_.1.length ≤ 1000000000000000000, fun (x_ : (List SGuess) × (List SGuess) × Unit) => (decide (x_.1 = x_.2.1), ())⟩
abbrev W_slices_Equal_impl_Guess_impl_Guess_fEqual_guess_4 (l : (List SGuess)) (m : (List SGuess)) : LInv := ⟨[⟨.s, 13, true, .el .int⟩], fun _ (x_ : Int × Unit) => 0 ≤ x_.1 ∧ x_.1 ≤ l.length ∧ l.length = m.length ∧ decide (l.drop x_.1.toNat = m.drop x_.1.toNat) = decide (l = m), fun (x_ : Int × Unit) => l.length - x_.1.toNat⟩
-- slices.Equal[[]impl.Guess,impl.Guess]
theorem k263_130 : fEqual_guess.ok Tryz.prog 263 := Fct.of (S := fEqual_guess) (L := fun ⟨l, m, _⟩ => fun | 4 => some (W_slices_Equal_impl_Guess_impl_Guess_fEqual_guess_4 l m) | _ => none) (kp := [0,1,4,5,10,12,13,14,24,1000010,1000014,1000024]) E130ok Tryz.func263 (by kernel_rfl) (by kernel_rfl) (by
  rintro ⟨(l : List SGuess), (m : List SGuess), _⟩ hp
  refine holds_of (X := .br ((↑l.length : Int) != (↑m.length : Int))
 (.leaf (mkR fEqual_guess.rs (false, ())) [] [])
 (lpx (W_slices_Equal_impl_Guess_impl_Guess_fEqual_guess_4 l m) ((0 : Int), ()) fun (y2 : Int × PUnit) bk2 =>
  .br (decide (y2.fst < (↑l.length : Int)))
   (.ob ((0 : Int) ≤ y2.fst ∧ y2.fst < (↑l.length : Int)) <|
    .ob ((0 : Int) ≤ y2.fst ∧ y2.fst < (↑m.length : Int)) <|
    .br (!((l.getD y2.fst.toNat default).to.host == (m.getD y2.fst.toNat default).to.host &&
      ((l.getD y2.fst.toNat default).to.path == (m.getD y2.fst.toNat default).to.path && true) &&
    ((l.getD y2.fst.toNat default).response.status == (m.getD y2.fst.toNat default).response.status &&
        ((l.getD y2.fst.toNat default).response.kind == (m.getD y2.fst.toNat default).response.kind &&
          ((l.getD y2.fst.toNat default).response.body == (m.getD y2.fst.toNat default).response.body &&
            ((l.getD y2.fst.toNat default).response.age == (m.getD y2.fst.toNat default).response.age &&
              ((l.getD y2.fst.toNat default).response.shares == (m.getD y2.fst.toNat default).response.shares &&
                ((l.getD y2.fst.toNat default).response.policy == (m.getD y2.fst.toNat default).response.policy &&
                  true))))) &&
      ((l.getD y2.fst.toNat default).used == (m.getD y2.fst.toNat default).used && true))))
    (.leaf (mkR fEqual_guess.rs (false, ())) [] [])
    (.ob (l = l) <|
     .ob (m = m) <|
     .ob (Value.int IntKind.i64 (↑l.length : Int) = Value.int IntKind.i64 (↑l.length : Int)) <|
     .ob (bk2 (IntKind.i64.wrap (y2.fst + (1 : Int)), ())) <|
     .ok))
   (.leaf (mkR fEqual_guess.rs (true, ())) [] []))) (by kernel_rfl) ?_
  refine br_i (fun h1 => Fct.leafY ?_) (fun h1 => lpx_i ?_ fun (y2 : Int × PUnit) i2 => br_i (fun h3 => ob_i ?_ fun o4 => ob_i ?_ fun o5 => br_i (fun h6 => Fct.leafY ?_) (fun h6 => ob_i rfl fun _ => ob_i rfl fun _ => ob_i rfl fun _ => ob_i ?_ fun o7 => trivial)) (fun h3 => Fct.leafY ?_))
  all_goals try simp only [beqGuess] at *
  all_goals try simp only [decide_eq_true_eq, decide_eq_false_iff_not, Bool.not_eq_true', Bool.not_eq_false', bne_iff_ne, bne_eq_false_iff_eq, beq_iff_eq, beq_eq_false_iff_ne, baEq, Int.not_lt, Int.not_le, ne_eq, Decidable.not_not] at *
  all_goals try simp only [W_slices_Equal_impl_Guess_impl_Guess_fEqual_guess_4, fEqual_guess, etaToken, etaNode, etaBuilder, etaPolicy, etaPage, etaVisit, etaTab, etaServer, etaCache, etaNet, etaLoader, etaSheet, etaResult, etaSlot, etaModule, etaAddr, etaRequest, etaResponse, etaConn, etaGuess, etaEntry, etaSent, etaFile, baSz, List.size_toArray, List.length_cons, List.length_nil, Nat.reduceAdd, Int.toNat_zero, List.drop_zero, decide_eq_true_eq, decide_eq_false_iff_not, Bool.not_eq_true', Bool.not_eq_false', bne_iff_ne, bne_eq_false_iff_eq, beq_iff_eq, beq_eq_false_iff_ne, Bool.not_eq_true, Bool.not_eq_false, ne_eq, Decidable.not_not, baEq, decide_not, Prod.mk.injEq, and_true, true_and, Room, List.nil_append, Nat.zero_add, Int.not_lt, Int.not_le] at *
  all_goals try simp (disch := omega) only [wrapId', toNat1] at *
  all_goals try simp (disch := omega) only [if_pos, if_neg]
  all_goals first | trivial | omega | grind [wrapId', toNat1, drop_cons, drop_end, good_len, maxLen])
def E131 : D.Env := E130.add 263 fEqual_guess
theorem E131ok : EOk Tryz.prog E131 := E130ok.add k263_130
theorem szServer_get {l : List SServer} {i : Nat} (h : i < l.length) : (l.getD i default).files.length + l.length ≤ szL szServer l := by
  have := szL_get szServer h
  have h2 := szL_len szFile (l.getD i default).files
  simp only [szServer] at this; omega
def fEqServer : Fct := ⟨[.v (.el .server), .v (.el .server)], [.el .bool], fun (x_ : SServer × SServer × Unit) => x_.1.files.length ≤ 1000000000000000000, fun (x_ : SServer × SServer × Unit) => (decide (x_.1 = x_.2.1), ())⟩
-- impl.EqualServers$1
theorem k334_131 : fEqServer.ok Tryz.prog 334 := Fct.of (S := fEqServer) (L := fun _ _ => none) (kp := [2,3,4]) E131ok Tryz.func334 (by kernel_rfl) (by kernel_rfl) (by
  rintro ⟨(a : SServer), (b : SServer), _⟩ hp
  refine holds_of (X := .br (a.host.toList == b.host.toList)
 (.ob (fEqual_file.pre (a.files, b.files, ())) <|
  .lt (Bool × PUnit) (fEqual_file.fn (a.files, b.files, ())) fun z2 =>
  .leaf (mkR fEqServer.rs (z2.fst, ())) [] [])
 (.leaf (mkR fEqServer.rs (false, ())) [] [])) (by kernel_rfl) ?_
  refine br_i (fun h1 => ob_i ?_ fun o2 => lt_i (Fct.leafY ?_)) (fun h1 => Fct.leafY ?_)
  all_goals (cases a; cases b)
  all_goals try simp only [decide_eq_true_eq, decide_eq_false_iff_not, Bool.not_eq_true', Bool.not_eq_false', bne_iff_ne, bne_eq_false_iff_eq, beq_iff_eq, beq_eq_false_iff_ne, baEq, Int.not_lt, Int.not_le, ne_eq, Decidable.not_not] at *
  all_goals try simp only [fEqServer, fEqual_file, etaToken, etaNode, etaBuilder, etaPolicy, etaPage, etaVisit, etaTab, etaServer, etaCache, etaNet, etaLoader, etaSheet, etaResult, etaSlot, etaModule, etaAddr, etaRequest, etaResponse, etaConn, etaGuess, etaEntry, etaSent, etaFile, baSz, List.size_toArray, List.length_cons, List.length_nil, Nat.reduceAdd, Int.toNat_zero, List.drop_zero, decide_eq_true_eq, decide_eq_false_iff_not, Bool.not_eq_true', Bool.not_eq_false', bne_iff_ne, bne_eq_false_iff_eq, beq_iff_eq, beq_eq_false_iff_ne, Bool.not_eq_true, Bool.not_eq_false, ne_eq, Decidable.not_not, baEq, decide_not, Prod.mk.injEq, and_true, true_and, Room, List.nil_append, Nat.zero_add, Int.not_lt, Int.not_le, fEqual_file] at *
  all_goals try simp (disch := omega) only [wrapId', toNat1] at *
  all_goals try simp (disch := omega) only [if_pos, if_neg]
  all_goals first | trivial | omega | grind [wrapId', toNat1, drop_cons, drop_end, good_len, maxLen, fEqual_file])
def E132 : D.Env := E131.add 334 fEqServer
theorem E132ok : EOk Tryz.prog E132 := E131ok.add k334_131
def fEqualFunc_server : Fct := ⟨[aL .server, aL .server, .c 334 []], [rB], fun x => x.1.length ≤ 1000000000000000000 ∧ ∀ i, i < x.1.length → i < x.2.1.length → fEqServer.pre (x.1.getD i default, x.2.1.getD i default, ()), fun x => (decide (x.1 = x.2.1), ())⟩
abbrev W_slices_EqualFunc_impl_Server_impl_Server_impl_Server_impl_Server_fEqualFunc_server_4 (l : (List SServer)) (m : (List SServer)) (u : (Unit)) : LInv := ⟨[⟨.s, 17, true, .el .int⟩], fun _ (x_ : Int × Unit) => 0 ≤ x_.1 ∧ x_.1 ≤ l.length ∧ l.length = m.length ∧ decide (l.drop x_.1.toNat = m.drop x_.1.toNat) = decide (l = m), fun (x_ : Int × Unit) => l.length - x_.1.toNat⟩
-- slices.EqualFunc[[]impl.Server,[]impl.Server,impl.Server,impl.Server]
theorem k333_132 : fEqualFunc_server.ok Tryz.prog 333 := Fct.of (S := fEqualFunc_server) (L := fun ⟨l, m, u, _⟩ => fun | 4 => some (W_slices_EqualFunc_impl_Server_impl_Server_impl_Server_impl_Server_fEqualFunc_server_4 l m u) | _ => none) (kp := [0,1,2,6,7,8,9,14,15,16,17,18,30,1000014,1000018,1000030]) E132ok Tryz.func333 (by kernel_rfl) (by kernel_rfl) (by
  rintro ⟨(l : List SServer), (m : List SServer), (u : PUnit), _⟩ hp
  refine holds_of (X := .br ((↑l.length : Int) != (↑m.length : Int))
 (.leaf (mkR fEqualFunc_server.rs (false, ())) [] [])
 (lpx (W_slices_EqualFunc_impl_Server_impl_Server_impl_Server_impl_Server_fEqualFunc_server_4 l m u) ((0 : Int), ()) fun (y2 : Int × PUnit) bk2 =>
  .br (decide (y2.fst < (↑l.length : Int)))
   (.ob ((0 : Int) ≤ y2.fst ∧ y2.fst < (↑l.length : Int)) <|
    .ob ((0 : Int) ≤ y2.fst ∧ y2.fst < (↑m.length : Int)) <|
    .ob (fEqServer.pre (l.getD y2.fst.toNat default, m.getD y2.fst.toNat default, ())) <|
    .lt (Bool × PUnit) (fEqServer.fn (l.getD y2.fst.toNat default, m.getD y2.fst.toNat default, ())) fun z2 =>
    .br (!z2.fst)
     (.leaf (mkR fEqualFunc_server.rs (false, ())) [] [])
     (.ob (l = l) <|
      .ob (m = m) <|
      .ob (l = l) <|
      .ob (Value.int IntKind.i64 (↑l.length : Int) = Value.int IntKind.i64 (↑l.length : Int)) <|
      .ob (bk2 (IntKind.i64.wrap (y2.fst + (1 : Int)), ())) <|
      .ok))
   (.leaf (mkR fEqualFunc_server.rs (true, ())) [] []))) (by kernel_rfl) ?_
  refine br_i (fun h1 => Fct.leafY ?_) (fun h1 => lpx_i ?_ fun (y2 : Int × PUnit) i2 => br_i (fun h3 => ob_i ?_ fun o4 => ob_i ?_ fun o5 => ob_i ?_ fun o6 => lt_i (br_i (fun h7 => Fct.leafY ?_) (fun h7 => ob_i rfl fun _ => ob_i rfl fun _ => ob_i rfl fun _ => ob_i rfl fun _ => ob_i ?_ fun o8 => trivial))) (fun h3 => Fct.leafY ?_))
  all_goals have hpl := hp.1
  all_goals have hpe := hp.2
  all_goals clear hp
  all_goals try simp only [fEqServer] at hpe
  all_goals try simp only [decide_eq_true_eq, decide_eq_false_iff_not, Bool.not_eq_true', Bool.not_eq_false', bne_iff_ne, bne_eq_false_iff_eq, beq_iff_eq, beq_eq_false_iff_ne, baEq, Int.not_lt, Int.not_le, ne_eq, Decidable.not_not] at *
  all_goals try simp only [W_slices_EqualFunc_impl_Server_impl_Server_impl_Server_impl_Server_fEqualFunc_server_4, fEqServer, fEqualFunc_server, etaToken, etaNode, etaBuilder, etaPolicy, etaPage, etaVisit, etaTab, etaServer, etaCache, etaNet, etaLoader, etaSheet, etaResult, etaSlot, etaModule, etaAddr, etaRequest, etaResponse, etaConn, etaGuess, etaEntry, etaSent, etaFile, baSz, List.size_toArray, List.length_cons, List.length_nil, Nat.reduceAdd, Int.toNat_zero, List.drop_zero, decide_eq_true_eq, decide_eq_false_iff_not, Bool.not_eq_true', Bool.not_eq_false', bne_iff_ne, bne_eq_false_iff_eq, beq_iff_eq, beq_eq_false_iff_ne, Bool.not_eq_true, Bool.not_eq_false, ne_eq, Decidable.not_not, baEq, decide_not, Prod.mk.injEq, and_true, true_and, Room, List.nil_append, Nat.zero_add, Int.not_lt, Int.not_le, fEqServer] at *
  all_goals try simp (disch := omega) only [wrapId', toNat1] at *
  all_goals try simp (disch := omega) only [if_pos, if_neg]
  all_goals first | trivial | omega | grind [wrapId', toNat1, drop_cons, drop_end, good_len, maxLen, fEqServer])
def E133 : D.Env := E132.add 333 fEqualFunc_server
theorem E133ok : EOk Tryz.prog E133 := E132ok.add k333_132
def fEqServers : Fct := ⟨[.v (.sl .server), .v (.sl .server)], [.el .bool], fun (x_ : (List SServer) × (List SServer) × Unit) => szL szServer x_.1 ≤ 1099511627776 ∧ szL szServer x_.2.1 ≤ 1099511627776, fun (x_ : (List SServer) × (List SServer) × Unit) => (decide (x_.1 = x_.2.1), ())⟩
-- impl.EqualServers
theorem k260_133 : fEqServers.ok Tryz.prog 260 := Fct.of (S := fEqServers) (L := fun _ _ => none) (kp := [0,1,4]) E133ok Tryz.func260 (by kernel_rfl) (by kernel_rfl) (by
  rintro ⟨(a : List SServer), (b : List SServer), _⟩ hp
  refine holds_of (X := .ob (fEqualFunc_server.pre (a, b, (), ())) <|
 .lt (Bool × PUnit) (fEqualFunc_server.fn (a, b, (), ())) fun z2 =>
 .leaf (mkR fEqServers.rs (z2.fst, ())) [] []) (by kernel_rfl) ?_
  refine ob_i ?_ fun o1 => lt_i (Fct.leafY ?_)
  all_goals have hl := szL_len szServer a
  all_goals have hg : ∀ i, i < a.length → (a.getD i default).files.length ≤ 1000000000000000000 := fun i h => by have := szServer_get h; have hp2 : szL szServer a ≤ 1099511627776 := hp.1; omega
  all_goals try simp only [decide_eq_true_eq, decide_eq_false_iff_not, Bool.not_eq_true', Bool.not_eq_false', bne_iff_ne, bne_eq_false_iff_eq, beq_iff_eq, beq_eq_false_iff_ne, baEq, Int.not_lt, Int.not_le, ne_eq, Decidable.not_not] at *
  all_goals try simp only [fEqServers, fEqualFunc_server, etaToken, etaNode, etaBuilder, etaPolicy, etaPage, etaVisit, etaTab, etaServer, etaCache, etaNet, etaLoader, etaSheet, etaResult, etaSlot, etaModule, etaAddr, etaRequest, etaResponse, etaConn, etaGuess, etaEntry, etaSent, etaFile, baSz, List.size_toArray, List.length_cons, List.length_nil, Nat.reduceAdd, Int.toNat_zero, List.drop_zero, decide_eq_true_eq, decide_eq_false_iff_not, Bool.not_eq_true', Bool.not_eq_false', bne_iff_ne, bne_eq_false_iff_eq, beq_iff_eq, beq_eq_false_iff_ne, Bool.not_eq_true, Bool.not_eq_false, ne_eq, Decidable.not_not, baEq, decide_not, Prod.mk.injEq, and_true, true_and, Room, List.nil_append, Nat.zero_add, Int.not_lt, Int.not_le, fEqualFunc_server, fEqServer] at *
  all_goals try simp (disch := omega) only [wrapId', toNat1] at *
  all_goals try simp (disch := omega) only [if_pos, if_neg]
  all_goals first | trivial | omega | grind [wrapId', toNat1, drop_cons, drop_end, good_len, maxLen, fEqualFunc_server, fEqServer])
def E134 : D.Env := E133.add 260 fEqServers
theorem E134ok : EOk Tryz.prog E134 := E133ok.add k260_133
abbrev W_spec_EqualServers_fEqServers_4 (l : (List SServer)) (m : (List SServer)) : LInv := ⟨[⟨.s, 5, true, .el .int⟩], fun _ (x_ : Int × Unit) => 0 ≤ x_.1 ∧ x_.1 ≤ l.length ∧ l.length = m.length ∧ decide (l.drop x_.1.toNat = m.drop x_.1.toNat) = decide (l = m), fun (x_ : Int × Unit) => l.length - x_.1.toNat⟩
abbrev W_spec_EqualServers_fEqServers_9 (l : (List SServer)) (m : (List SServer)) : LInv := ⟨[⟨.s, 6, true, .el .int⟩, ⟨.s, 5, true, .el .int⟩], fun (z_ : Int × Int × Unit) (x_ : Int × Int × Unit) => x_.2.1 = z_.2.1 ∧ 0 ≤ x_.2.1 ∧ x_.2.1 < l.length ∧ l.length = m.length ∧ decide (l.drop x_.2.1.toNat = m.drop x_.2.1.toNat) = decide (l = m) ∧ 0 ≤ x_.1 ∧ x_.1 ≤ (l.getD x_.2.1.toNat default).files.length ∧ (l.getD x_.2.1.toNat default).host = (m.getD x_.2.1.toNat default).host ∧ (l.getD x_.2.1.toNat default).files.length = (m.getD x_.2.1.toNat default).files.length ∧ decide ((l.getD x_.2.1.toNat default).files.drop x_.1.toNat = (m.getD x_.2.1.toNat default).files.drop x_.1.toNat) = decide ((l.getD x_.2.1.toNat default).files = (m.getD x_.2.1.toNat default).files), fun (x_ : Int × Int × Unit) => (l.getD x_.2.1.toNat default).files.length - x_.1.toNat⟩
-- spec.EqualServers
theorem k252_134 : fEqServers.ok Tryz.prog 252 := Fct.of (S := fEqServers) (L := fun ⟨l, m, _⟩ => fun | 4 => some (W_spec_EqualServers_fEqServers_4 l m) | 9 => some (W_spec_EqualServers_fEqServers_9 l m) | _ => none) (kp := [0,1,4,5,6,11,15,43,51,70,1000011,1000015,1000043,1000051,1000070]) E134ok Tryz.func252 (by kernel_rfl) (by kernel_rfl) (by
  rintro ⟨(l : List SServer), (m : List SServer), _⟩ hp
  refine holds_of (X := .br ((↑l.length : Int) != (↑m.length : Int))
 (.leaf (mkR fEqServers.rs (false, ())) [] [])
 (lpx (W_spec_EqualServers_fEqServers_4 l m) ((0 : Int), ()) fun (y2 : Int × PUnit) bk2 =>
  .br (decide (y2.fst < (↑l.length : Int)))
   (.ob ((0 : Int) ≤ y2.fst ∧ y2.fst < (↑l.length : Int)) <|
    .ob ((0 : Int) ≤ y2.fst ∧ y2.fst < (↑m.length : Int)) <|
    .br (!(l.getD y2.fst.toNat default).host.toList == (m.getD y2.fst.toNat default).host.toList)
    (.leaf (mkR fEqServers.rs (false, ())) [] [])
    (.ob ((0 : Int) ≤ y2.fst ∧ y2.fst < (↑l.length : Int)) <|
     .ob ((0 : Int) ≤ y2.fst ∧ y2.fst < (↑m.length : Int)) <|
     .br ((↑(l.getD y2.fst.toNat default).files.length : Int) != (↑(m.getD y2.fst.toNat default).files.length : Int))
     (.leaf (mkR fEqServers.rs (false, ())) [] [])
     (lpx (W_spec_EqualServers_fEqServers_9 l m) ((0 : Int), (y2.fst, ())) fun (y10 : Int × Int × PUnit) bk10 =>
      .ob ((0 : Int) ≤ y10.snd.fst ∧ y10.snd.fst < (↑l.length : Int)) <|
       .br (decide (y10.fst < (↑(l.getD y10.snd.fst.toNat default).files.length : Int)))
       (.ob ((0 : Int) ≤ y10.snd.fst ∧ y10.snd.fst < (↑l.length : Int)) <|
        .ob ((0 : Int) ≤ y10.fst ∧ y10.fst < (↑(l.getD y10.snd.fst.toNat default).files.length : Int)) <|
        .ob ((0 : Int) ≤ y10.snd.fst ∧ y10.snd.fst < (↑m.length : Int)) <|
        .ob ((0 : Int) ≤ y10.fst ∧ y10.fst < (↑(m.getD y10.snd.fst.toNat default).files.length : Int)) <|
        .br (!(((l.getD y10.snd.fst.toNat default).files.getD y10.fst.toNat default).path ==
      ((m.getD y10.snd.fst.toNat default).files.getD y10.fst.toNat default).path &&
    (((l.getD y10.snd.fst.toNat default).files.getD y10.fst.toNat default).response.status ==
          ((m.getD y10.snd.fst.toNat default).files.getD y10.fst.toNat default).response.status &&
        (((l.getD y10.snd.fst.toNat default).files.getD y10.fst.toNat default).response.kind ==
            ((m.getD y10.snd.fst.toNat default).files.getD y10.fst.toNat default).response.kind &&
          (((l.getD y10.snd.fst.toNat default).files.getD y10.fst.toNat default).response.body ==
              ((m.getD y10.snd.fst.toNat default).files.getD y10.fst.toNat default).response.body &&
            (((l.getD y10.snd.fst.toNat default).files.getD y10.fst.toNat default).response.age ==
                ((m.getD y10.snd.fst.toNat default).files.getD y10.fst.toNat default).response.age &&
              (((l.getD y10.snd.fst.toNat default).files.getD y10.fst.toNat default).response.shares ==
                  ((m.getD y10.snd.fst.toNat default).files.getD y10.fst.toNat default).response.shares &&
                (((l.getD y10.snd.fst.toNat default).files.getD y10.fst.toNat default).response.policy ==
                    ((m.getD y10.snd.fst.toNat default).files.getD y10.fst.toNat default).response.policy &&
                  true))))) &&
      true)))
        (.leaf (mkR fEqServers.rs (false, ())) [] [])
        (.ob (l = l) <|
         .ob (m = m) <|
         .ob (bk10 (IntKind.i64.wrap (y10.fst + (1 : Int)), (y10.snd.fst, ()))) <|
         .ok))
       (.ob (l = l) <|
        .ob (m = m) <|
        .ob (bk2 (IntKind.i64.wrap (y10.snd.fst + (1 : Int)), ())) <|
        .ok))))
   (.leaf (mkR fEqServers.rs (true, ())) [] []))) (by kernel_rfl) ?_
  refine br_i (fun h1 => Fct.leafY ?_) (fun h1 => lpx_i ?_ fun (y2 : Int × PUnit) i2 => br_i (fun h3 => ob_i ?_ fun o4 => ob_i ?_ fun o5 => br_i (fun h6 => Fct.leafY ?_) (fun h6 => ob_i ?_ fun o7 => ob_i ?_ fun o8 => br_i (fun h9 => Fct.leafY ?_) (fun h9 => lpx_i ?_ fun (y10 : Int × Int × PUnit) i10 => ob_i ?_ fun o11 => br_i (fun h12 => ob_i ?_ fun o13 => ob_i ?_ fun o14 => ob_i ?_ fun o15 => ob_i ?_ fun o16 => br_i (fun h17 => Fct.leafY ?_) (fun h17 => ob_i rfl fun _ => ob_i rfl fun _ => ob_i ?_ fun o18 => trivial)) (fun h12 => ob_i rfl fun _ => ob_i rfl fun _ => ob_i ?_ fun o19 => trivial)))) (fun h3 => Fct.leafY ?_))
  all_goals try simp only [beqFile] at *
  all_goals have hl := szL_len szServer l
  all_goals have hg3 : ∀ i, i < l.length → (l.getD i default).files.length ≤ 1099511627776 := fun i h => by have := szServer_get h; have hp2 : szL szServer l ≤ 1099511627776 := hp.1; omega
  all_goals have hg4 : ∀ i, i < m.length → (m.getD i default).files.length ≤ 1099511627776 := fun i h => by have := szServer_get h; have hp2 : szL szServer m ≤ 1099511627776 := hp.2; omega
  all_goals have he : ∀ x y : SServer, x.host = y.host → x.files = y.files → x = y := fun x y h1 h2 => by cases x; cases y; simp_all
  all_goals try simp only [decide_eq_true_eq, decide_eq_false_iff_not, Bool.not_eq_true', Bool.not_eq_false', bne_iff_ne, bne_eq_false_iff_eq, beq_iff_eq, beq_eq_false_iff_ne, baEq, Int.not_lt, Int.not_le, ne_eq, Decidable.not_not] at *
  all_goals try simp only [W_spec_EqualServers_fEqServers_4, W_spec_EqualServers_fEqServers_9, fEqServers, etaToken, etaNode, etaBuilder, etaPolicy, etaPage, etaVisit, etaTab, etaServer, etaCache, etaNet, etaLoader, etaSheet, etaResult, etaSlot, etaModule, etaAddr, etaRequest, etaResponse, etaConn, etaGuess, etaEntry, etaSent, etaFile, baSz, List.size_toArray, List.length_cons, List.length_nil, Nat.reduceAdd, Int.toNat_zero, List.drop_zero, decide_eq_true_eq, decide_eq_false_iff_not, Bool.not_eq_true', Bool.not_eq_false', bne_iff_ne, bne_eq_false_iff_eq, beq_iff_eq, beq_eq_false_iff_ne, Bool.not_eq_true, Bool.not_eq_false, ne_eq, Decidable.not_not, baEq, decide_not, Prod.mk.injEq, and_true, true_and, Room, List.nil_append, Nat.zero_add, Int.not_lt, Int.not_le] at *
  all_goals try simp (disch := omega) only [wrapId', toNat1] at *
  all_goals try simp (disch := omega) only [if_pos, if_neg]
  all_goals first | trivial | omega | grind [wrapId', toNat1, drop_cons, drop_end, good_len, maxLen])
def E135 : D.Env := E134.add 252 fEqServers
theorem E135ok : EOk Tryz.prog E135 := E134ok.add k252_134
def fEqCache : Fct := ⟨[.v (.el .cache), .v (.el .cache)], [.el .bool], fun (x_ : SCache × SCache × Unit) => x_.1.entries.length ≤ 1099511627776, fun (x_ : SCache × SCache × Unit) => (decide (x_.1 = x_.2.1), ())⟩
-- impl.EqualCaches
theorem k261_135 : fEqCache.ok Tryz.prog 261 := Fct.of (S := fEqCache) (L := fun _ _ => none) (kp := [2,3,4]) E135ok Tryz.func261 (by kernel_rfl) (by kernel_rfl) (by
  rintro ⟨(a : SCache), (b : SCache), _⟩ hp
  refine holds_of (X := .ob (fEqual_entry.pre (a.entries, b.entries, ())) <|
 .lt (Bool × PUnit) (fEqual_entry.fn (a.entries, b.entries, ())) fun z2 =>
 .leaf (mkR fEqCache.rs (z2.fst, ())) [] []) (by kernel_rfl) ?_
  refine ob_i ?_ fun o1 => lt_i (Fct.leafY ?_)
  all_goals (cases a; cases b)
  all_goals try simp only [decide_eq_true_eq, decide_eq_false_iff_not, Bool.not_eq_true', Bool.not_eq_false', bne_iff_ne, bne_eq_false_iff_eq, beq_iff_eq, beq_eq_false_iff_ne, baEq, Int.not_lt, Int.not_le, ne_eq, Decidable.not_not] at *
  all_goals try simp only [fEqCache, fEqual_entry, etaToken, etaNode, etaBuilder, etaPolicy, etaPage, etaVisit, etaTab, etaServer, etaCache, etaNet, etaLoader, etaSheet, etaResult, etaSlot, etaModule, etaAddr, etaRequest, etaResponse, etaConn, etaGuess, etaEntry, etaSent, etaFile, baSz, List.size_toArray, List.length_cons, List.length_nil, Nat.reduceAdd, Int.toNat_zero, List.drop_zero, decide_eq_true_eq, decide_eq_false_iff_not, Bool.not_eq_true', Bool.not_eq_false', bne_iff_ne, bne_eq_false_iff_eq, beq_iff_eq, beq_eq_false_iff_ne, Bool.not_eq_true, Bool.not_eq_false, ne_eq, Decidable.not_not, baEq, decide_not, Prod.mk.injEq, and_true, true_and, Room, List.nil_append, Nat.zero_add, Int.not_lt, Int.not_le, fEqual_entry] at *
  all_goals try simp (disch := omega) only [wrapId', toNat1] at *
  all_goals try simp (disch := omega) only [if_pos, if_neg]
  all_goals first | trivial | omega | grind [wrapId', toNat1, drop_cons, drop_end, good_len, maxLen, fEqual_entry])
def E136 : D.Env := E135.add 261 fEqCache
theorem E136ok : EOk Tryz.prog E136 := E135ok.add k261_135
abbrev W_spec_EqualCaches_fEqCache_4 (a : SCache) (b : SCache) : LInv := ⟨[⟨.s, 5, true, .el .int⟩, ⟨.b, 2, false, .el .cache⟩, ⟨.b, 3, false, .el .cache⟩], fun (z_ : Int × SCache × SCache × Unit) (x_ : Int × SCache × SCache × Unit) => ((0 ≤ x_.1 ∧ x_.1 ≤ a.entries.length ∧ a.entries.length = b.entries.length ∧ decide (a.entries.drop x_.1.toNat = b.entries.drop x_.1.toNat) = decide (a.entries = b.entries)) ∧ x_.2.1 = z_.2.1) ∧ x_.2.2.1 = z_.2.2.1, fun (x_ : Int × SCache × SCache × Unit) => a.entries.length - x_.1.toNat⟩
-- spec.EqualCaches
theorem k253_136 : fEqCache.ok Tryz.prog 253 := Fct.of (S := fEqCache) (L := fun ⟨a, b, _⟩ => fun | 4 => some (W_spec_EqualCaches_fEqCache_4 a b) | _ => none) (kp := [2,3,4,5,12,17,30,1000012,1000017,1000030]) E136ok Tryz.func253 (by kernel_rfl) (by kernel_rfl) (by
  rintro ⟨(a : SCache), (b : SCache), _⟩ hp
  refine holds_of (X := .br ((↑a.entries.length : Int) != (↑b.entries.length : Int))
 (.leaf (mkR fEqCache.rs (false, ())) [] [])
 (lpx (W_spec_EqualCaches_fEqCache_4 a b) ((0 : Int), (a, (b, ()))) fun (y2 : Int × SCache × SCache × PUnit) bk2 =>
  .br (decide (y2.fst < (↑y2.snd.fst.entries.length : Int)))
   (.ob ((0 : Int) ≤ y2.fst ∧ y2.fst < (↑y2.snd.fst.entries.length : Int)) <|
    .ob ((0 : Int) ≤ y2.fst ∧ y2.fst < (↑y2.snd.snd.fst.entries.length : Int)) <|
    .br (!((y2.snd.fst.entries.getD y2.fst.toNat default).top == (y2.snd.snd.fst.entries.getD y2.fst.toNat default).top &&
    ((y2.snd.fst.entries.getD y2.fst.toNat default).to.host ==
          (y2.snd.snd.fst.entries.getD y2.fst.toNat default).to.host &&
        ((y2.snd.fst.entries.getD y2.fst.toNat default).to.path ==
            (y2.snd.snd.fst.entries.getD y2.fst.toNat default).to.path &&
          true) &&
      ((y2.snd.fst.entries.getD y2.fst.toNat default).response.status ==
            (y2.snd.snd.fst.entries.getD y2.fst.toNat default).response.status &&
          ((y2.snd.fst.entries.getD y2.fst.toNat default).response.kind ==
              (y2.snd.snd.fst.entries.getD y2.fst.toNat default).response.kind &&
            ((y2.snd.fst.entries.getD y2.fst.toNat default).response.body ==
                (y2.snd.snd.fst.entries.getD y2.fst.toNat default).response.body &&
              ((y2.snd.fst.entries.getD y2.fst.toNat default).response.age ==
                  (y2.snd.snd.fst.entries.getD y2.fst.toNat default).response.age &&
                ((y2.snd.fst.entries.getD y2.fst.toNat default).response.shares ==
                    (y2.snd.snd.fst.entries.getD y2.fst.toNat default).response.shares &&
                  ((y2.snd.fst.entries.getD y2.fst.toNat default).response.policy ==
                      (y2.snd.snd.fst.entries.getD y2.fst.toNat default).response.policy &&
                    true))))) &&
        ((y2.snd.fst.entries.getD y2.fst.toNat default).until_ ==
            (y2.snd.snd.fst.entries.getD y2.fst.toNat default).until_ &&
          true)))))
    (.leaf (mkR fEqCache.rs (false, ())) [] [])
    (.ob (bk2 (IntKind.i64.wrap (y2.fst + (1 : Int)), (y2.snd.fst, (y2.snd.snd.fst, ())))) <|
     .ok))
   (.leaf (mkR fEqCache.rs (true, ())) [] []))) (by kernel_rfl) ?_
  refine br_i (fun h1 => Fct.leafY ?_) (fun h1 => lpx_i ?_ fun (y2 : Int × SCache × SCache × PUnit) i2 => br_i (fun h3 => ob_i ?_ fun o4 => ob_i ?_ fun o5 => br_i (fun h6 => Fct.leafY ?_) (fun h6 => ob_i ?_ fun o7 => trivial)) (fun h3 => Fct.leafY ?_))
  all_goals try simp only [beqEntry] at *
  all_goals (cases a; cases b)
  all_goals try simp only [decide_eq_true_eq, decide_eq_false_iff_not, Bool.not_eq_true', Bool.not_eq_false', bne_iff_ne, bne_eq_false_iff_eq, beq_iff_eq, beq_eq_false_iff_ne, baEq, Int.not_lt, Int.not_le, ne_eq, Decidable.not_not] at *
  all_goals try simp only [W_spec_EqualCaches_fEqCache_4, fEqCache, etaToken, etaNode, etaBuilder, etaPolicy, etaPage, etaVisit, etaTab, etaServer, etaCache, etaNet, etaLoader, etaSheet, etaResult, etaSlot, etaModule, etaAddr, etaRequest, etaResponse, etaConn, etaGuess, etaEntry, etaSent, etaFile, baSz, List.size_toArray, List.length_cons, List.length_nil, Nat.reduceAdd, Int.toNat_zero, List.drop_zero, decide_eq_true_eq, decide_eq_false_iff_not, Bool.not_eq_true', Bool.not_eq_false', bne_iff_ne, bne_eq_false_iff_eq, beq_iff_eq, beq_eq_false_iff_ne, Bool.not_eq_true, Bool.not_eq_false, ne_eq, Decidable.not_not, baEq, decide_not, Prod.mk.injEq, and_true, true_and, Room, List.nil_append, Nat.zero_add, Int.not_lt, Int.not_le] at *
  all_goals try simp (disch := omega) only [wrapId', toNat1] at *
  all_goals try simp (disch := omega) only [if_pos, if_neg]
  all_goals first | trivial | omega | grind [wrapId', toNat1, drop_cons, drop_end, good_len, maxLen])
def E137 : D.Env := E136.add 253 fEqCache
theorem E137ok : EOk Tryz.prog E137 := E136ok.add k253_136
def fEqGuesses : Fct := ⟨[.v (.sl .guess), .v (.sl .guess)], [.el .bool], fun (x_ : (List SGuess) × (List SGuess) × Unit) => x_.1.length ≤ 1099511627776, fun (x_ : (List SGuess) × (List SGuess) × Unit) => (decide (x_.1 = x_.2.1), ())⟩
-- impl.EqualGuesses
theorem k159_137 : fEqGuesses.ok Tryz.prog 159 := Fct.of (S := fEqGuesses) (L := fun _ _ => none) (kp := [0,1,4]) E137ok Tryz.func159 (by kernel_rfl) (by kernel_rfl) (by
  rintro ⟨(l : List SGuess), (m : List SGuess), _⟩ hp
  refine holds_of (X := .ob (fEqual_guess.pre (l, m, ())) <|
 .lt (Bool × PUnit) (fEqual_guess.fn (l, m, ())) fun z2 =>
 .leaf (mkR fEqGuesses.rs (z2.fst, ())) [] []) (by kernel_rfl) ?_
  refine ob_i ?_ fun o1 => lt_i (Fct.leafY ?_)
  all_goals try simp only [decide_eq_true_eq, decide_eq_false_iff_not, Bool.not_eq_true', Bool.not_eq_false', bne_iff_ne, bne_eq_false_iff_eq, beq_iff_eq, beq_eq_false_iff_ne, baEq, Int.not_lt, Int.not_le, ne_eq, Decidable.not_not] at *
  all_goals try simp only [fEqGuesses, fEqual_guess, etaToken, etaNode, etaBuilder, etaPolicy, etaPage, etaVisit, etaTab, etaServer, etaCache, etaNet, etaLoader, etaSheet, etaResult, etaSlot, etaModule, etaAddr, etaRequest, etaResponse, etaConn, etaGuess, etaEntry, etaSent, etaFile, baSz, List.size_toArray, List.length_cons, List.length_nil, Nat.reduceAdd, Int.toNat_zero, List.drop_zero, decide_eq_true_eq, decide_eq_false_iff_not, Bool.not_eq_true', Bool.not_eq_false', bne_iff_ne, bne_eq_false_iff_eq, beq_iff_eq, beq_eq_false_iff_ne, Bool.not_eq_true, Bool.not_eq_false, ne_eq, Decidable.not_not, baEq, decide_not, Prod.mk.injEq, and_true, true_and, Room, List.nil_append, Nat.zero_add, Int.not_lt, Int.not_le, fEqual_guess] at *
  all_goals try simp (disch := omega) only [wrapId', toNat1] at *
  all_goals try simp (disch := omega) only [if_pos, if_neg]
  all_goals first | trivial | omega | grind [wrapId', toNat1, drop_cons, drop_end, good_len, maxLen, fEqual_guess])
def E138 : D.Env := E137.add 159 fEqGuesses
theorem E138ok : EOk Tryz.prog E138 := E137ok.add k159_137
abbrev W_spec_EqualGuesses_fEqGuesses_4 (l : (List SGuess)) (m : (List SGuess)) : LInv := ⟨[⟨.s, 5, true, .el .int⟩], fun _ (x_ : Int × Unit) => 0 ≤ x_.1 ∧ x_.1 ≤ l.length ∧ l.length = m.length ∧ decide (l.drop x_.1.toNat = m.drop x_.1.toNat) = decide (l = m), fun (x_ : Int × Unit) => l.length - x_.1.toNat⟩
-- spec.EqualGuesses
theorem k156_138 : fEqGuesses.ok Tryz.prog 156 := Fct.of (S := fEqGuesses) (L := fun ⟨l, m, _⟩ => fun | 4 => some (W_spec_EqualGuesses_fEqGuesses_4 l m) | _ => none) (kp := [0,1,4,5,10,14,25,1000010,1000014,1000025]) E138ok Tryz.func156 (by kernel_rfl) (by kernel_rfl) (by
  rintro ⟨(l : List SGuess), (m : List SGuess), _⟩ hp
  refine holds_of (X := .br ((↑l.length : Int) != (↑m.length : Int))
 (.leaf (mkR fEqGuesses.rs (false, ())) [] [])
 (lpx (W_spec_EqualGuesses_fEqGuesses_4 l m) ((0 : Int), ()) fun (y2 : Int × PUnit) bk2 =>
  .br (decide (y2.fst < (↑l.length : Int)))
   (.ob ((0 : Int) ≤ y2.fst ∧ y2.fst < (↑l.length : Int)) <|
    .ob ((0 : Int) ≤ y2.fst ∧ y2.fst < (↑m.length : Int)) <|
    .br (!((l.getD y2.fst.toNat default).to.host == (m.getD y2.fst.toNat default).to.host &&
      ((l.getD y2.fst.toNat default).to.path == (m.getD y2.fst.toNat default).to.path && true) &&
    ((l.getD y2.fst.toNat default).response.status == (m.getD y2.fst.toNat default).response.status &&
        ((l.getD y2.fst.toNat default).response.kind == (m.getD y2.fst.toNat default).response.kind &&
          ((l.getD y2.fst.toNat default).response.body == (m.getD y2.fst.toNat default).response.body &&
            ((l.getD y2.fst.toNat default).response.age == (m.getD y2.fst.toNat default).response.age &&
              ((l.getD y2.fst.toNat default).response.shares == (m.getD y2.fst.toNat default).response.shares &&
                ((l.getD y2.fst.toNat default).response.policy == (m.getD y2.fst.toNat default).response.policy &&
                  true))))) &&
      ((l.getD y2.fst.toNat default).used == (m.getD y2.fst.toNat default).used && true))))
    (.leaf (mkR fEqGuesses.rs (false, ())) [] [])
    (.ob (l = l) <|
     .ob (m = m) <|
     .ob (bk2 (IntKind.i64.wrap (y2.fst + (1 : Int)), ())) <|
     .ok))
   (.leaf (mkR fEqGuesses.rs (true, ())) [] []))) (by kernel_rfl) ?_
  refine br_i (fun h1 => Fct.leafY ?_) (fun h1 => lpx_i ?_ fun (y2 : Int × PUnit) i2 => br_i (fun h3 => ob_i ?_ fun o4 => ob_i ?_ fun o5 => br_i (fun h6 => Fct.leafY ?_) (fun h6 => ob_i rfl fun _ => ob_i rfl fun _ => ob_i ?_ fun o7 => trivial)) (fun h3 => Fct.leafY ?_))
  all_goals try simp only [beqGuess] at *
  all_goals try simp only [decide_eq_true_eq, decide_eq_false_iff_not, Bool.not_eq_true', Bool.not_eq_false', bne_iff_ne, bne_eq_false_iff_eq, beq_iff_eq, beq_eq_false_iff_ne, baEq, Int.not_lt, Int.not_le, ne_eq, Decidable.not_not] at *
  all_goals try simp only [W_spec_EqualGuesses_fEqGuesses_4, fEqGuesses, etaToken, etaNode, etaBuilder, etaPolicy, etaPage, etaVisit, etaTab, etaServer, etaCache, etaNet, etaLoader, etaSheet, etaResult, etaSlot, etaModule, etaAddr, etaRequest, etaResponse, etaConn, etaGuess, etaEntry, etaSent, etaFile, baSz, List.size_toArray, List.length_cons, List.length_nil, Nat.reduceAdd, Int.toNat_zero, List.drop_zero, decide_eq_true_eq, decide_eq_false_iff_not, Bool.not_eq_true', Bool.not_eq_false', bne_iff_ne, bne_eq_false_iff_eq, beq_iff_eq, beq_eq_false_iff_ne, Bool.not_eq_true, Bool.not_eq_false, ne_eq, Decidable.not_not, baEq, decide_not, Prod.mk.injEq, and_true, true_and, Room, List.nil_append, Nat.zero_add, Int.not_lt, Int.not_le] at *
  all_goals try simp (disch := omega) only [wrapId', toNat1] at *
  all_goals try simp (disch := omega) only [if_pos, if_neg]
  all_goals first | trivial | omega | grind [wrapId', toNat1, drop_cons, drop_end, good_len, maxLen])
def E139 : D.Env := E138.add 156 fEqGuesses
theorem E139ok : EOk Tryz.prog E139 := E138ok.add k156_138
abbrev W_spec_l26SameConns_fEqual_conn_4 (l : (List SConn)) (m : (List SConn)) : LInv := ⟨[⟨.s, 5, true, .el .int⟩], fun _ (x_ : Int × Unit) => 0 ≤ x_.1 ∧ x_.1 ≤ l.length ∧ l.length = m.length ∧ decide (l.drop x_.1.toNat = m.drop x_.1.toNat) = decide (l = m), fun (x_ : Int × Unit) => l.length - x_.1.toNat⟩
-- spec.l26SameConns
theorem k155_139 : fEqual_conn.ok Tryz.prog 155 := Fct.of (S := fEqual_conn) (L := fun ⟨l, m, _⟩ => fun | 4 => some (W_spec_l26SameConns_fEqual_conn_4 l m) | _ => none) (kp := [0,1,4,5,10,14,25,1000010,1000014,1000025]) E139ok Tryz.func155 (by kernel_rfl) (by kernel_rfl) (by
  rintro ⟨(l : List SConn), (m : List SConn), _⟩ hp
  refine holds_of (X := .br ((↑l.length : Int) != (↑m.length : Int))
 (.leaf (mkR fEqual_conn.rs (false, ())) [] [])
 (lpx (W_spec_l26SameConns_fEqual_conn_4 l m) ((0 : Int), ()) fun (y2 : Int × PUnit) bk2 =>
  .br (decide (y2.fst < (↑l.length : Int)))
   (.ob ((0 : Int) ≤ y2.fst ∧ y2.fst < (↑l.length : Int)) <|
    .ob ((0 : Int) ≤ y2.fst ∧ y2.fst < (↑m.length : Int)) <|
    .br (!((l.getD y2.fst.toNat default).to.host == (m.getD y2.fst.toNat default).to.host &&
      ((l.getD y2.fst.toNat default).to.path == (m.getD y2.fst.toNat default).to.path && true) &&
    ((l.getD y2.fst.toNat default).left == (m.getD y2.fst.toNat default).left &&
      ((l.getD y2.fst.toNat default).guess == (m.getD y2.fst.toNat default).guess &&
        ((l.getD y2.fst.toNat default).response.status == (m.getD y2.fst.toNat default).response.status &&
            ((l.getD y2.fst.toNat default).response.kind == (m.getD y2.fst.toNat default).response.kind &&
              ((l.getD y2.fst.toNat default).response.body == (m.getD y2.fst.toNat default).response.body &&
                ((l.getD y2.fst.toNat default).response.age == (m.getD y2.fst.toNat default).response.age &&
                  ((l.getD y2.fst.toNat default).response.shares == (m.getD y2.fst.toNat default).response.shares &&
                    ((l.getD y2.fst.toNat default).response.policy == (m.getD y2.fst.toNat default).response.policy &&
                      true))))) &&
          true)))))
    (.leaf (mkR fEqual_conn.rs (false, ())) [] [])
    (.ob (l = l) <|
     .ob (m = m) <|
     .ob (bk2 (IntKind.i64.wrap (y2.fst + (1 : Int)), ())) <|
     .ok))
   (.leaf (mkR fEqual_conn.rs (true, ())) [] []))) (by kernel_rfl) ?_
  refine br_i (fun h1 => Fct.leafY ?_) (fun h1 => lpx_i ?_ fun (y2 : Int × PUnit) i2 => br_i (fun h3 => ob_i ?_ fun o4 => ob_i ?_ fun o5 => br_i (fun h6 => Fct.leafY ?_) (fun h6 => ob_i rfl fun _ => ob_i rfl fun _ => ob_i ?_ fun o7 => trivial)) (fun h3 => Fct.leafY ?_))
  all_goals try simp only [beqConn] at *
  all_goals try simp only [decide_eq_true_eq, decide_eq_false_iff_not, Bool.not_eq_true', Bool.not_eq_false', bne_iff_ne, bne_eq_false_iff_eq, beq_iff_eq, beq_eq_false_iff_ne, baEq, Int.not_lt, Int.not_le, ne_eq, Decidable.not_not] at *
  all_goals try simp only [W_spec_l26SameConns_fEqual_conn_4, fEqual_conn, etaToken, etaNode, etaBuilder, etaPolicy, etaPage, etaVisit, etaTab, etaServer, etaCache, etaNet, etaLoader, etaSheet, etaResult, etaSlot, etaModule, etaAddr, etaRequest, etaResponse, etaConn, etaGuess, etaEntry, etaSent, etaFile, baSz, List.size_toArray, List.length_cons, List.length_nil, Nat.reduceAdd, Int.toNat_zero, List.drop_zero, decide_eq_true_eq, decide_eq_false_iff_not, Bool.not_eq_true', Bool.not_eq_false', bne_iff_ne, bne_eq_false_iff_eq, beq_iff_eq, beq_eq_false_iff_ne, Bool.not_eq_true, Bool.not_eq_false, ne_eq, Decidable.not_not, baEq, decide_not, Prod.mk.injEq, and_true, true_and, Room, List.nil_append, Nat.zero_add, Int.not_lt, Int.not_le] at *
  all_goals try simp (disch := omega) only [wrapId', toNat1] at *
  all_goals try simp (disch := omega) only [if_pos, if_neg]
  all_goals first | trivial | omega | grind [wrapId', toNat1, drop_cons, drop_end, good_len, maxLen])
def E140 : D.Env := E139.add 155 fEqual_conn
theorem E140ok : EOk Tryz.prog E140 := E139ok.add k155_139
def fEqNet : Fct := ⟨[.v (.el .net), .v (.el .net)], [.el .bool], fun (x_ : SNet × SNet × Unit) => szNet x_.1 ≤ 1099511627776 ∧ szNet x_.2.1 ≤ 1099511627776, fun (x_ : SNet × SNet × Unit) => (decide (x_.1 = x_.2.1), ())⟩
-- impl.EqualNets
theorem k157_140 : fEqNet.ok Tryz.prog 157 := Fct.of (S := fEqNet) (L := fun _ _ => none) (kp := [2,3,4]) E140ok Tryz.func157 (by kernel_rfl) (by kernel_rfl) (by
  rintro ⟨(a : SNet), (b : SNet), _⟩ hp
  refine holds_of (X := .ob (fEqServers.pre (a.servers, b.servers, ())) <|
 .lt (Bool × PUnit) (fEqServers.fn (a.servers, b.servers, ())) fun z2 =>
 .br (z2.fst)
  (.ob (fEqCache.pre (a.cache, b.cache, ())) <|
   .lt (Bool × PUnit) (fEqCache.fn (a.cache, b.cache, ())) fun z3 =>
   .br (z3.fst)
    (.ob (fEqual_sent.pre (a.log, b.log, ())) <|
     .lt (Bool × PUnit) (fEqual_sent.fn (a.log, b.log, ())) fun z4 =>
     .br (z4.fst)
      (.leaf (mkR fEqNet.rs (a.now == b.now, ())) [] [])
      (.leaf (mkR fEqNet.rs (false, ())) [] []))
    (.leaf (mkR fEqNet.rs (false, ())) [] []))
  (.leaf (mkR fEqNet.rs (false, ())) [] [])) (by kernel_rfl) ?_
  refine ob_i ?_ fun o1 => lt_i (br_i (fun h2 => ob_i ?_ fun o3 => lt_i (br_i (fun h4 => ob_i ?_ fun o5 => lt_i (br_i (fun h6 => Fct.leafY ?_) (fun h6 => Fct.leafY ?_))) (fun h4 => Fct.leafY ?_))) (fun h2 => Fct.leafY ?_))
  all_goals have hl1 := szL_len szSent a.log
  all_goals have hl2 := szL_len szEntry a.cache.entries
  all_goals simp only [fEqNet, szNet, szCache] at hp
  all_goals (cases a; cases b)
  all_goals try simp only [decide_eq_true_eq, decide_eq_false_iff_not, Bool.not_eq_true', Bool.not_eq_false', bne_iff_ne, bne_eq_false_iff_eq, beq_iff_eq, beq_eq_false_iff_ne, baEq, Int.not_lt, Int.not_le, ne_eq, Decidable.not_not] at *
  all_goals try simp only [fEqCache, fEqNet, fEqServers, fEqual_sent, etaToken, etaNode, etaBuilder, etaPolicy, etaPage, etaVisit, etaTab, etaServer, etaCache, etaNet, etaLoader, etaSheet, etaResult, etaSlot, etaModule, etaAddr, etaRequest, etaResponse, etaConn, etaGuess, etaEntry, etaSent, etaFile, baSz, List.size_toArray, List.length_cons, List.length_nil, Nat.reduceAdd, Int.toNat_zero, List.drop_zero, decide_eq_true_eq, decide_eq_false_iff_not, Bool.not_eq_true', Bool.not_eq_false', bne_iff_ne, bne_eq_false_iff_eq, beq_iff_eq, beq_eq_false_iff_ne, Bool.not_eq_true, Bool.not_eq_false, ne_eq, Decidable.not_not, baEq, decide_not, Prod.mk.injEq, and_true, true_and, Room, List.nil_append, Nat.zero_add, Int.not_lt, Int.not_le, fEqServers, fEqCache, fEqual_sent] at *
  all_goals try simp (disch := omega) only [wrapId', toNat1] at *
  all_goals try simp (disch := omega) only [if_pos, if_neg]
  all_goals first | trivial | omega | grind [wrapId', toNat1, drop_cons, drop_end, good_len, maxLen, fEqServers, fEqCache, fEqual_sent])
def E141 : D.Env := E140.add 157 fEqNet
theorem E141ok : EOk Tryz.prog E141 := E140ok.add k157_140
abbrev W_spec_EqualNets_fEqNet_4 (a : SNet) (b : SNet) : LInv := ⟨[⟨.s, 5, true, .el .int⟩, ⟨.b, 2, false, .el .net⟩, ⟨.b, 3, false, .el .net⟩], fun (z_ : Int × SNet × SNet × Unit) (x_ : Int × SNet × SNet × Unit) => ((0 ≤ x_.1 ∧ x_.1 ≤ a.log.length ∧ a.servers = b.servers ∧ a.cache = b.cache ∧ a.now = b.now ∧ a.log.length = b.log.length ∧ decide (a.log.drop x_.1.toNat = b.log.drop x_.1.toNat) = decide (a.log = b.log)) ∧ x_.2.1 = z_.2.1) ∧ x_.2.2.1 = z_.2.2.1, fun (x_ : Int × SNet × SNet × Unit) => a.log.length - x_.1.toNat⟩
-- spec.EqualNets
theorem k152_141 : fEqNet.ok Tryz.prog 152 := Fct.of (S := fEqNet) (L := fun ⟨a, b, _⟩ => fun | 4 => some (W_spec_EqualNets_fEqNet_4 a b) | _ => none) (kp := [2,3,4,5,35,40,53,1000035,1000040,1000053]) E141ok Tryz.func152 (by kernel_rfl) (by kernel_rfl) (by
  rintro ⟨(a : SNet), (b : SNet), _⟩ hp
  refine holds_of (X := .ob (fEqServers.pre (a.servers, b.servers, ())) <|
 .lt (Bool × PUnit) (fEqServers.fn (a.servers, b.servers, ())) fun z2 =>
 .br (!z2.fst)
  (.leaf (mkR fEqNet.rs (false, ())) [] [])
  (.ob (fEqCache.pre (a.cache, b.cache, ())) <|
   .lt (Bool × PUnit) (fEqCache.fn (a.cache, b.cache, ())) fun z3 =>
   .br (!z3.fst)
    (.leaf (mkR fEqNet.rs (false, ())) [] [])
    (.br ((↑a.log.length : Int) != (↑b.log.length : Int))
     (.leaf (mkR fEqNet.rs (false, ())) [] [])
     (.br (a.now != b.now)
      (.leaf (mkR fEqNet.rs (false, ())) [] [])
      (lpx (W_spec_EqualNets_fEqNet_4 a b) ((0 : Int), (a, (b, ()))) fun (y7 : Int × SNet × SNet × PUnit) bk7 =>
       .br (decide (y7.fst < (↑y7.snd.fst.log.length : Int)))
        (.ob ((0 : Int) ≤ y7.fst ∧ y7.fst < (↑y7.snd.fst.log.length : Int)) <|
         .ob ((0 : Int) ≤ y7.fst ∧ y7.fst < (↑y7.snd.snd.fst.log.length : Int)) <|
         .br (!((y7.snd.fst.log.getD y7.fst.toNat default).top == (y7.snd.snd.fst.log.getD y7.fst.toNat default).top &&
    ((y7.snd.fst.log.getD y7.fst.toNat default).to.host == (y7.snd.snd.fst.log.getD y7.fst.toNat default).to.host &&
        ((y7.snd.fst.log.getD y7.fst.toNat default).to.path == (y7.snd.snd.fst.log.getD y7.fst.toNat default).to.path &&
          true) &&
      ((y7.snd.fst.log.getD y7.fst.toNat default).guess == (y7.snd.snd.fst.log.getD y7.fst.toNat default).guess &&
        true))))
         (.leaf (mkR fEqNet.rs (false, ())) [] [])
         (.ob (bk7 (IntKind.i64.wrap (y7.fst + (1 : Int)), (y7.snd.fst, (y7.snd.snd.fst, ())))) <|
          .ok))
        (.leaf (mkR fEqNet.rs (true, ())) [] [])))))) (by kernel_rfl) ?_
  refine ob_i ?_ fun o1 => lt_i (br_i (fun h2 => Fct.leafY ?_) (fun h2 => ob_i ?_ fun o3 => lt_i (br_i (fun h4 => Fct.leafY ?_) (fun h4 => br_i (fun h5 => Fct.leafY ?_) (fun h5 => br_i (fun h6 => Fct.leafY ?_) (fun h6 => lpx_i ?_ fun (y7 : Int × SNet × SNet × PUnit) i7 => br_i (fun h8 => ob_i ?_ fun o9 => ob_i ?_ fun o10 => br_i (fun h11 => Fct.leafY ?_) (fun h11 => ob_i ?_ fun o12 => trivial)) (fun h8 => Fct.leafY ?_)))))))
  all_goals have hl1 := szL_len szSent a.log
  all_goals have hl2 := szL_len szEntry a.cache.entries
  all_goals simp only [fEqNet, szNet, szCache] at hp
  all_goals try simp only [beqSent] at *
  all_goals (cases a; cases b)
  all_goals try simp only [decide_eq_true_eq, decide_eq_false_iff_not, Bool.not_eq_true', Bool.not_eq_false', bne_iff_ne, bne_eq_false_iff_eq, beq_iff_eq, beq_eq_false_iff_ne, baEq, Int.not_lt, Int.not_le, ne_eq, Decidable.not_not] at *
  all_goals try simp only [W_spec_EqualNets_fEqNet_4, fEqCache, fEqNet, fEqServers, etaToken, etaNode, etaBuilder, etaPolicy, etaPage, etaVisit, etaTab, etaServer, etaCache, etaNet, etaLoader, etaSheet, etaResult, etaSlot, etaModule, etaAddr, etaRequest, etaResponse, etaConn, etaGuess, etaEntry, etaSent, etaFile, baSz, List.size_toArray, List.length_cons, List.length_nil, Nat.reduceAdd, Int.toNat_zero, List.drop_zero, decide_eq_true_eq, decide_eq_false_iff_not, Bool.not_eq_true', Bool.not_eq_false', bne_iff_ne, bne_eq_false_iff_eq, beq_iff_eq, beq_eq_false_iff_ne, Bool.not_eq_true, Bool.not_eq_false, ne_eq, Decidable.not_not, baEq, decide_not, Prod.mk.injEq, and_true, true_and, Room, List.nil_append, Nat.zero_add, Int.not_lt, Int.not_le, fEqServers, fEqCache] at *
  all_goals try simp (disch := omega) only [wrapId', toNat1] at *
  all_goals try simp (disch := omega) only [if_pos, if_neg]
  all_goals first | trivial | omega | grind [wrapId', toNat1, drop_cons, drop_end, good_len, maxLen, fEqServers, fEqCache])
def E142 : D.Env := E141.add 152 fEqNet
theorem E142ok : EOk Tryz.prog E142 := E141ok.add k152_141
def fEqLoader : Fct := ⟨[.v (.el .loader), .v (.el .loader)], [.el .bool], fun (x_ : SLoader × SLoader × Unit) => szLoader x_.1 ≤ 1099511627776 ∧ szLoader x_.2.1 ≤ 1099511627776, fun (x_ : SLoader × SLoader × Unit) => (decide (x_.1 = x_.2.1), ())⟩
-- spec.EqualLoaders
theorem k48_142 : fEqLoader.ok Tryz.prog 48 := Fct.of (S := fEqLoader) (L := fun _ _ => none) (kp := [2,3,4]) E142ok Tryz.func48 (by kernel_rfl) (by kernel_rfl) (by
  rintro ⟨(a : SLoader), (b : SLoader), _⟩ hp
  refine holds_of (X := .ob (fEqNet.pre (a.net, b.net, ())) <|
 .lt (Bool × PUnit) (fEqNet.fn (a.net, b.net, ())) fun z2 =>
 .br (z2.fst)
  (.ob (fEqPage.pre (a.page, b.page, ())) <|
   .lt (Bool × PUnit) (fEqPage.fn (a.page, b.page, ())) fun z3 =>
   .br (z3.fst)
    (.ob (fEqual_str.pre (a.parts, b.parts, ())) <|
     .lt (Bool × PUnit) (fEqual_str.fn (a.parts, b.parts, ())) fun z4 =>
     .br (z4.fst)
      (.ob (fEqual_conn.pre (a.conns, b.conns, ())) <|
       .lt (Bool × PUnit) (fEqual_conn.fn (a.conns, b.conns, ())) fun z5 =>
       .br (z5.fst)
        (.ob (fEqGuesses.pre (a.guesses, b.guesses, ())) <|
         .lt (Bool × PUnit) (fEqGuesses.fn (a.guesses, b.guesses, ())) fun z6 =>
         .leaf (mkR fEqLoader.rs (z6.fst, ())) [] [])
        (.leaf (mkR fEqLoader.rs (false, ())) [] []))
      (.leaf (mkR fEqLoader.rs (false, ())) [] []))
    (.leaf (mkR fEqLoader.rs (false, ())) [] []))
  (.leaf (mkR fEqLoader.rs (false, ())) [] [])) (by kernel_rfl) ?_
  refine ob_i ?_ fun o1 => lt_i (br_i (fun h2 => ob_i ?_ fun o3 => lt_i (br_i (fun h4 => ob_i ?_ fun o5 => lt_i (br_i (fun h6 => ob_i ?_ fun o7 => lt_i (br_i (fun h8 => ob_i ?_ fun o9 => lt_i (Fct.leafY ?_)) (fun h8 => Fct.leafY ?_))) (fun h6 => Fct.leafY ?_))) (fun h4 => Fct.leafY ?_))) (fun h2 => Fct.leafY ?_))
  all_goals have hl1 := szL_len szString a.parts
  all_goals have hl2 := szL_len szConn a.conns
  all_goals have hl3 := szL_len szGuess a.guesses
  all_goals simp only [fEqLoader, szLoader] at hp
  all_goals (cases a; cases b)
  all_goals try simp only [decide_eq_true_eq, decide_eq_false_iff_not, Bool.not_eq_true', Bool.not_eq_false', bne_iff_ne, bne_eq_false_iff_eq, beq_iff_eq, beq_eq_false_iff_ne, baEq, Int.not_lt, Int.not_le, ne_eq, Decidable.not_not] at *
  all_goals try simp only [fEqGuesses, fEqLoader, fEqNet, fEqPage, fEqual_conn, fEqual_str, etaToken, etaNode, etaBuilder, etaPolicy, etaPage, etaVisit, etaTab, etaServer, etaCache, etaNet, etaLoader, etaSheet, etaResult, etaSlot, etaModule, etaAddr, etaRequest, etaResponse, etaConn, etaGuess, etaEntry, etaSent, etaFile, baSz, List.size_toArray, List.length_cons, List.length_nil, Nat.reduceAdd, Int.toNat_zero, List.drop_zero, decide_eq_true_eq, decide_eq_false_iff_not, Bool.not_eq_true', Bool.not_eq_false', bne_iff_ne, bne_eq_false_iff_eq, beq_iff_eq, beq_eq_false_iff_ne, Bool.not_eq_true, Bool.not_eq_false, ne_eq, Decidable.not_not, baEq, decide_not, Prod.mk.injEq, and_true, true_and, Room, List.nil_append, Nat.zero_add, Int.not_lt, Int.not_le, fEqNet, fEqPage, fEqual_str, fEqual_conn, fEqGuesses] at *
  all_goals try simp (disch := omega) only [wrapId', toNat1] at *
  all_goals try simp (disch := omega) only [if_pos, if_neg]
  all_goals first | trivial | omega | grind [wrapId', toNat1, drop_cons, drop_end, good_len, maxLen, fEqNet, fEqPage, fEqual_str, fEqual_conn, fEqGuesses])
def E143 : D.Env := E142.add 48 fEqLoader
theorem E143ok : EOk Tryz.prog E143 := E142ok.add k48_142
-- impl.EqualLoaders
theorem k49_143 : fEqLoader.ok Tryz.prog 49 := Fct.of (S := fEqLoader) (L := fun _ _ => none) (kp := [2,3,4]) E143ok Tryz.func49 (by kernel_rfl) (by kernel_rfl) (by
  rintro ⟨(a : SLoader), (b : SLoader), _⟩ hp
  refine holds_of (X := .ob (fEqNet.pre (a.net, b.net, ())) <|
 .lt (Bool × PUnit) (fEqNet.fn (a.net, b.net, ())) fun z2 =>
 .br (z2.fst)
  (.ob (fEqPage.pre (a.page, b.page, ())) <|
   .lt (Bool × PUnit) (fEqPage.fn (a.page, b.page, ())) fun z3 =>
   .br (z3.fst)
    (.ob (fEqual_str.pre (a.parts, b.parts, ())) <|
     .lt (Bool × PUnit) (fEqual_str.fn (a.parts, b.parts, ())) fun z4 =>
     .br (z4.fst)
      (.ob (fEqual_conn.pre (a.conns, b.conns, ())) <|
       .lt (Bool × PUnit) (fEqual_conn.fn (a.conns, b.conns, ())) fun z5 =>
       .br (z5.fst)
        (.ob (fEqGuesses.pre (a.guesses, b.guesses, ())) <|
         .lt (Bool × PUnit) (fEqGuesses.fn (a.guesses, b.guesses, ())) fun z6 =>
         .leaf (mkR fEqLoader.rs (z6.fst, ())) [] [])
        (.leaf (mkR fEqLoader.rs (false, ())) [] []))
      (.leaf (mkR fEqLoader.rs (false, ())) [] []))
    (.leaf (mkR fEqLoader.rs (false, ())) [] []))
  (.leaf (mkR fEqLoader.rs (false, ())) [] [])) (by kernel_rfl) ?_
  refine ob_i ?_ fun o1 => lt_i (br_i (fun h2 => ob_i ?_ fun o3 => lt_i (br_i (fun h4 => ob_i ?_ fun o5 => lt_i (br_i (fun h6 => ob_i ?_ fun o7 => lt_i (br_i (fun h8 => ob_i ?_ fun o9 => lt_i (Fct.leafY ?_)) (fun h8 => Fct.leafY ?_))) (fun h6 => Fct.leafY ?_))) (fun h4 => Fct.leafY ?_))) (fun h2 => Fct.leafY ?_))
  all_goals have hl1 := szL_len szString a.parts
  all_goals have hl2 := szL_len szConn a.conns
  all_goals have hl3 := szL_len szGuess a.guesses
  all_goals simp only [fEqLoader, szLoader] at hp
  all_goals (cases a; cases b)
  all_goals try simp only [decide_eq_true_eq, decide_eq_false_iff_not, Bool.not_eq_true', Bool.not_eq_false', bne_iff_ne, bne_eq_false_iff_eq, beq_iff_eq, beq_eq_false_iff_ne, baEq, Int.not_lt, Int.not_le, ne_eq, Decidable.not_not] at *
  all_goals try simp only [fEqGuesses, fEqLoader, fEqNet, fEqPage, fEqual_conn, fEqual_str, etaToken, etaNode, etaBuilder, etaPolicy, etaPage, etaVisit, etaTab, etaServer, etaCache, etaNet, etaLoader, etaSheet, etaResult, etaSlot, etaModule, etaAddr, etaRequest, etaResponse, etaConn, etaGuess, etaEntry, etaSent, etaFile, baSz, List.size_toArray, List.length_cons, List.length_nil, Nat.reduceAdd, Int.toNat_zero, List.drop_zero, decide_eq_true_eq, decide_eq_false_iff_not, Bool.not_eq_true', Bool.not_eq_false', bne_iff_ne, bne_eq_false_iff_eq, beq_iff_eq, beq_eq_false_iff_ne, Bool.not_eq_true, Bool.not_eq_false, ne_eq, Decidable.not_not, baEq, decide_not, Prod.mk.injEq, and_true, true_and, Room, List.nil_append, Nat.zero_add, Int.not_lt, Int.not_le, fEqNet, fEqPage, fEqual_str, fEqual_conn, fEqGuesses] at *
  all_goals try simp (disch := omega) only [wrapId', toNat1] at *
  all_goals try simp (disch := omega) only [if_pos, if_neg]
  all_goals first | trivial | omega | grind [wrapId', toNat1, drop_cons, drop_end, good_len, maxLen, fEqNet, fEqPage, fEqual_str, fEqual_conn, fEqGuesses])
def E144 : D.Env := E143.add 49 fEqLoader
theorem E144ok : EOk Tryz.prog E144 := E143ok.add k49_143
def lLoader2 : Fct := lawFS [.el .loader, .el .loader]
-- laws.FnExactEqualLoaders
set_option maxHeartbeats 2000000 in
theorem k8_144 : lLoader2.ok Tryz.prog 8 := Fct.of (S := lLoader2) (L := fun _ _ => none) (kp := [2,3,4,5,6,7,8,9,14,19,34,39,44,1000014,1000019,1000034,1000039,1000044]) E144ok Tryz.func8 (by kernel_rfl) (by kernel_rfl) (by
  rintro ⟨(a : SLoader), (b : SLoader), _⟩ hp
  refine holds_of (X := .ob (fszLoader.pre (a, (1048576 : Int), ())) <|
 .lt (Int × PUnit) (fszLoader.fn (a, (1048576 : Int), ())) fun z2 =>
 .br (decide (z2.fst < (0 : Int)))
  (.leaf (mkR lLoader2.rs (true, ())) [] [])
  (.ob (fszLoader.pre (b, z2.fst, ())) <|
   .lt (Int × PUnit) (fszLoader.fn (b, z2.fst, ())) fun z3 =>
   .br (decide (z3.fst < (0 : Int)))
    (.leaf (mkR lLoader2.rs (true, ())) [] [])
    (.ob (ftoLoader.pre (a, ())) <|
     .lt (SLoader × PUnit) (ftoLoader.fn (a, ())) fun z4 =>
     .ob (ftoLoader.pre (b, ())) <|
      .lt (SLoader × PUnit) (ftoLoader.fn (b, ())) fun z5 =>
      .ob (fEqLoader.pre (z4.fst, z5.fst, ())) <|
       .lt (Bool × PUnit) (fEqLoader.fn (z4.fst, z5.fst, ())) fun z6 =>
       .ob (ftoLoader.pre (a, ())) <|
        .lt (SLoader × PUnit) (ftoLoader.fn (a, ())) fun z7 =>
        .ob (ftoLoader.pre (b, ())) <|
         .lt (SLoader × PUnit) (ftoLoader.fn (b, ())) fun z8 =>
         .ob (fEqLoader.pre (z7.fst, z8.fst, ())) <|
          .lt (Bool × PUnit) (fEqLoader.fn (z7.fst, z8.fst, ())) fun z9 =>
          .br (!z9.fst == z6.fst)
           (.leaf (mkR lLoader2.rs (false, ())) [] [])
           (.ob (ftoLoader.pre (a, ())) <|
            .lt (SLoader × PUnit) (ftoLoader.fn (a, ())) fun z10 =>
            .ob (feqLoader.pre (z7.fst, z10.fst, ())) <|
             .lt (Bool × PUnit) (feqLoader.fn (z7.fst, z10.fst, ())) fun z11 =>
             .br (!z11.fst)
              (.leaf (mkR lLoader2.rs (false, ())) [] [])
              (.ob (ftoLoader.pre (b, ())) <|
               .lt (SLoader × PUnit) (ftoLoader.fn (b, ())) fun z12 =>
               .ob (feqLoader.pre (z8.fst, z12.fst, ())) <|
                .lt (Bool × PUnit) (feqLoader.fn (z8.fst, z12.fst, ())) fun z13 =>
                .br (!z13.fst)
                 (.leaf (mkR lLoader2.rs (false, ())) [] [])
                 (.leaf (mkR lLoader2.rs (true, ())) [] [])))))) (by kernel_rfl) ?_
  refine ob_i ?_ fun o1 => lt_e fun z2 ez2 => (br_i (fun h2 => Fct.leafY ?_) (fun h2 => ob_i ?_ fun o3 => lt_e fun z3 ez3 => (br_i (fun h4 => Fct.leafY ?_) (fun h4 => ob_i ?_ fun o5 => lt_e fun z4 ez4 => (ob_i ?_ fun o6 => lt_e fun z5 ez5 => (ob_i ?_ fun o7 => lt_e fun z6 ez6 => (ob_i ?_ fun o8 => lt_e fun z7 ez7 => (ob_i ?_ fun o9 => lt_e fun z8 ez8 => (ob_i ?_ fun o10 => lt_e fun z9 ez9 => (br_i (fun h11 => Fct.leafY ?_) (fun h11 => ob_i ?_ fun o12 => lt_e fun z10 ez10 => (ob_i ?_ fun o13 => lt_e fun z11 ez11 => (br_i (fun h14 => Fct.leafY ?_) (fun h14 => ob_i ?_ fun o15 => lt_e fun z12 ez12 => (ob_i ?_ fun o16 => lt_e fun z13 ez13 => (br_i (fun h17 => Fct.leafY ?_) (fun h17 => Fct.leafY ?_)))))))))))))))))
  all_goals have hg0 : Sh.good (.el .loader) a := hp.1
  all_goals have hg1 : Sh.good (.el .loader) b := hp.2.1
  all_goals clear hp
  all_goals subst_vars
  all_goals try simp only [decide_eq_true_eq, decide_eq_false_iff_not, Bool.not_eq_true', Bool.not_eq_false', bne_iff_ne, bne_eq_false_iff_eq, beq_iff_eq, beq_eq_false_iff_ne, baEq, Int.not_lt, Int.not_le, ne_eq, Decidable.not_not] at *
  all_goals try simp only [fEqLoader, feqLoader, fszLoader, ftoLoader, lLoader2, etaToken, etaNode, etaBuilder, etaPolicy, etaPage, etaVisit, etaTab, etaServer, etaCache, etaNet, etaLoader, etaSheet, etaResult, etaSlot, etaModule, etaAddr, etaRequest, etaResponse, etaConn, etaGuess, etaEntry, etaSent, etaFile, baSz, List.size_toArray, List.length_cons, List.length_nil, Nat.reduceAdd, Int.toNat_zero, List.drop_zero, decide_eq_true_eq, decide_eq_false_iff_not, Bool.not_eq_true', Bool.not_eq_false', bne_iff_ne, bne_eq_false_iff_eq, beq_iff_eq, beq_eq_false_iff_ne, Bool.not_eq_true, Bool.not_eq_false, ne_eq, Decidable.not_not, baEq, decide_not, Prod.mk.injEq, and_true, true_and, Room, List.nil_append, Nat.zero_add, Int.not_lt, Int.not_le, decide_true] at *
  all_goals first | trivial | omega | grind [lessen])
def E145 : D.Env := E144.add 8 lLoader2
theorem E145ok : EOk Tryz.prog E145 := E144ok.add k8_144

section
open Go.ChangeShapes Go.WideShapes Go.ChangeAt Go.RowKit
theorem own : ownKnob Tryz.prog.godebug = none := by kernel_rfl
theorem types : ∀ e t, tyOf e = some t → e ∈ ([3, 4, 5, 9, 25, 28, 30, 35, 40, 47, 58, 61, 62, 63, 64, 68, 73, 77, 83, 86, 90, 97, 102, 130, 148, 156, 158, 183, 215, 218, 221, 251, 253, 256, 270, 274, 279, 282, 304, 307, 345, 349, 354, 368, 375, 377, 413, 421, 463, 477, 484, 511] : List TypeId) := by
  intro e t h
  unfold tyOf at h
  split at h <;> first | (simp; done) | cases h
theorem lifted (os : Os) (started : os.Started) (H : Type) (enc : TypeId × Value → H) :
    ReturnsInHanded {} Tryz.checked os 8 .any (Rows.fnExactEqualLoadersSpec.pre6 enc Tryz.prog Tryz.f8 Rows.fnExactEqualLoadersRow.domain false) (Rows.fnExactEqualLoadersSpec.post enc Tryz.prog Tryz.f8 false true false false) := by
  refine returnsInHanded_of_change (C := Tryz.checked) own started (by kernel_rfl) Tryz.func8
    (ChangeSpec.witness6 (enc := enc) (C := Tryz.checked) false ⟨#[], #[.agg #[.slice none 0 0, .slice none 0 0, .slice none 0 0, .int .i64 0, .string ⟨#[]⟩, .string ⟨#[]⟩, .bool false, .slice none 0 0, .slice none 0 0, .slice none 0 0, .string ⟨#[]⟩, .string ⟨#[]⟩, .slice none 0 0, .bool false, .slice none 0 0, .slice none 0 0, .slice none 0 0, .slice none 0 0, .slice none 0 0, .int .i64 0, .int .i64 0, .int .i64 0, .int .i64 0, .slice none 0 0, .slice none 0 0, .bool false, .slice none 0 0, .slice none 0 0, .slice none 0 0], .agg #[.slice none 0 0, .slice none 0 0, .slice none 0 0, .int .i64 0, .string ⟨#[]⟩, .string ⟨#[]⟩, .bool false, .slice none 0 0, .slice none 0 0, .slice none 0 0, .string ⟨#[]⟩, .string ⟨#[]⟩, .slice none 0 0, .bool false, .slice none 0 0, .slice none 0 0, .slice none 0 0, .slice none 0 0, .slice none 0 0, .int .i64 0, .int .i64 0, .int .i64 0, .int .i64 0, .slice none 0 0, .slice none 0 0, .bool false, .slice none 0 0, .slice none 0 0, .slice none 0 0]], []⟩ 8 (by kernel_rfl) (by kernel_rfl) (by kernel_rfl) (by kernel_rfl)) ?_
  intro W base args ds gs before hval0 hW hcnd _
  have hval : ∀ (j : Nat) t v, Tryz.f8.params[j]? = some t → args[j]? = some v → Value.okWide Tryz.prog W .any base t v := hval0
  refine law_calls (show rowOk Tryz.prog Tryz.f8 tyOf [3, 4, 5, 9, 25, 28, 30, 35, 40, 47, 58, 61, 62, 63, 64, 68, 73, 77, 83, 86, 90, 97, 102, 130, 148, 156, 158, 183, 215, 218, 221, 251, 253, 256, 270, 274, 279, 282, 304, 307, 345, 349, 354, 368, 375, 377, 413, 421, 463, 477, 484, 511] [.el .loader, .el .loader] = true by kernel_rfl) types rfl Tryz.underlying4 rfl hW (fun xs h => ?_) hval k8_144
  · rw [Tryz.params8] at h
    match xs, (show xs.length = 2 from h) with
    | [x0, x1], _ => rfl
set_option maxHeartbeats 0 in
theorem closed : joinedFacts Tryz.prog 8 Tryz.f8 Rows.fnExactEqualLoadersSpec Rows.fnExactEqualLoadersRow = true := by
  unfold joinedFacts
  refine (and_i (and_i (and_i (and_i (and_i (and_i (and_i (and_i (and_i (and_i (and_i (and_i (and_i (and_i (and_i (and_i (and_i (and_i (and_i (and_i (and_i (and_i (and_i (and_i (and_i (and_i (and_i (and_i (and_i (and_i (and_i ?_ ?_) ?_) ?_) ?_) ?_) ?_) ?_) ?_) ?_) ?_) ?_) ?_) ?_) ?_) ?_) ?_) ?_) ?_) ?_) ?_) ?_) ?_) ?_) ?_) ?_) ?_) ?_) ?_) ?_) ?_) ?_)
  all_goals decide +kernel
theorem over : Rows.fnExactEqualLoadersRow.holds Tryz.pinned (OpenSpec.ofChange Rows.fnExactEqualLoadersSpec) :=
  OpenClaim.holds_of_wide 8 Tryz.f8 rfl rfl rfl rfl rfl rfl rfl ⟨rfl, rfl, rfl, rfl, rfl⟩ rfl rfl rfl rfl rfl (by kernel_rfl) Tryz.func8 closed
    (of_decide_eq_true (by kernel_rfl)) (by unfold Func.isWrapper; first | (rw [if_pos (by decide +kernel)]; kernel_rfl) | (rw [if_neg (by decide +kernel)]; exact ⟨rfl, rfl⟩))
    (fun os started H enc _ => lifted os started H enc)
theorem proved : Rows.FnExactEqualLoadersSaid := over
end
end Go.Proofs.YthbopfedhjekbaaGreat.fnExactEqualLoaders
