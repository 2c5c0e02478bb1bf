/-
  The program's LoaderWaste returns what the reference's returns, for all arguments: the law returns true. No condition.
-/
import Derived.Test.YtdcpenhjenhjcaaGreatVPLoaderWaste1
import Derived.Test.YtdcpenhjenhjcaaGreatRows
import Derived.WalkKit
import Derived.ProofKit
import Derived.OpenShut
namespace Go.Proofs.YtdcpenhjenhjcaaGreat.fnExactLoaderWaste
open Go.Proofs.YtdcpenhjenhjcaaGreat
open Go.D
set_option maxRecDepth 100000
set_option linter.unusedVariables false
set_option linter.unusedSimpArgs false

-- laws.szGuessS
set_option maxHeartbeats 2000000 in
theorem k32_90 : fszGuessS.ok Tryz.prog 32 := Fct.of (S := fszGuessS) (L := fun ⟨l, n, _⟩ => fun | 5 => some (LszS .guess szGuess l n) | _ => none) (kp := [0,1,4,5,11,15,25,1000011,1000015,1000025]) E90ok Tryz.func32 (by kernel_rfl) (by kernel_rfl) (by
  rintro ⟨(l : List SGuess), (n : Int), _⟩ hp
  refine holds_of (X := .br (decide (IntKind.i64.wrap (n - (↑l.length : Int)) < (0 : Int)))
 (.leaf (mkR fszGuessS.rs ((-1 : Int), ())) [] [])
 (lpx (LszS .guess szGuess l n) (IntKind.i64.wrap (n - (↑l.length : Int)), ((0 : Int), ())) fun (y2 : Int × Int × PUnit) bk2 =>
  .br (decide (y2.snd.fst < (↑l.length : Int)))
   (.ob ((0 : Int) ≤ y2.snd.fst ∧ y2.snd.fst < (↑l.length : Int)) <|
    .ob (fszGuess.pre (l.getD y2.snd.fst.toNat default, y2.fst, ())) <|
    .lt (Int × PUnit) (fszGuess.fn (l.getD y2.snd.fst.toNat default, y2.fst, ())) fun z2 =>
    .br (decide (z2.fst < (0 : Int)))
     (.leaf (mkR fszGuessS.rs ((-1 : Int), ())) [] [])
     (.ob (l = l) <|
      .ob (bk2 (z2.fst, (IntKind.i64.wrap (y2.snd.fst + (1 : Int)), ()))) <|
      .ok))
   (.leaf (mkR fszGuessS.rs (y2.fst, ())) [] []))) (by kernel_rfl) ?_
  refine br_i (fun h1 => Fct.leafY ?_) (fun h1 => lpx_i ?_ fun (y2 : Int × Int × PUnit) i2 => br_i (fun h3 => ob_i ?_ fun o4 => ob_i ?_ fun o5 => lt_i (br_i (fun h6 => Fct.leafY ?_) (fun h6 => ob_i rfl fun _ => ob_i ?_ fun o7 => trivial))) (fun h3 => Fct.leafY ?_))
  all_goals try simp only [decide_eq_true_eq, decide_eq_false_iff_not, Bool.not_eq_true', Bool.not_eq_false', bne_iff_ne, bne_eq_false_iff_eq, beq_iff_eq, beq_eq_false_iff_ne, baEq, Int.not_lt, Int.not_le, ne_eq, Decidable.not_not] at *
  all_goals try simp only [LszS, fszGuess, fszGuessS, etaToken, etaNode, etaBuilder, etaPolicy, etaPage, etaVisit, etaTab, etaServer, etaCache, etaNet, etaLoader, etaSheet, etaResult, etaSlot, etaModule, etaAddr, etaRequest, etaResponse, etaConn, etaGuess, etaEntry, etaSent, etaFile, baSz, List.size_toArray, List.length_cons, List.length_nil, Nat.reduceAdd, Int.toNat_zero, List.drop_zero, decide_eq_true_eq, decide_eq_false_iff_not, Bool.not_eq_true', Bool.not_eq_false', bne_iff_ne, bne_eq_false_iff_eq, beq_iff_eq, beq_eq_false_iff_ne, Bool.not_eq_true, Bool.not_eq_false, ne_eq, Decidable.not_not, baEq, decide_not, Prod.mk.injEq, and_true, true_and, Room, List.nil_append, Nat.zero_add, Int.not_lt, Int.not_le] at *
  · have := good_len hp.1; simp only [maxLen] at this; rw [wrapId (by omega)] at h1
    rw [lessenNeg (by simp only [szL]; omega)]
  · have := good_len hp.1; simp only [maxLen] at this
    rw [wrapId (by omega)] at h1 ⊢
    exact ⟨by omega, by omega, h1, by simp⟩
  · omega
  · exact ⟨good_getD hp.1 (by omega), by omega, by omega⟩
  · have hs := sum_take_le szGuess l (y2.2.1.toNat + 1)
    rw [sum_take szGuess (by omega)] at hs
    rw [lessen_lt (by omega)] at h6
    rw [lessenNeg (by simp only [szL]; omega)]
  · have hw : IntKind.i64.wrap (y2.2.1 + 1) = y2.2.1 + 1 := wrapId (by have := good_len hp.1; simp only [maxLen] at this; omega)
    have h7 : ¬ lessen y2.1 (szGuess (l.getD y2.2.1.toNat default)) < 0 := by omega
    rw [lessen_lt (by omega)] at h7
    rw [hw, toNat1 (by omega), sum_take szGuess (by omega), lessen_ge (by omega)]
    exact ⟨⟨by omega, by omega, by omega, by omega⟩, by omega⟩
  · have e : l.take y2.2.1.toNat = l := List.take_of_length_le (by omega)
    rw [e] at i2
    have hz : ((szL szGuess l : Nat) : Int) = l.length + (l.map szGuess).sum := by simp only [szL]; omega
    rw [lessen_ge (by omega)]
    show y2.1 = n - ((szL szGuess l : Nat) : Int)
    omega)
def E91 : D.Env := E90.add 32 fszGuessS
theorem E91ok : EOk Tryz.prog E91 := E90ok.add k32_90
-- laws.toGuessS
theorem k38_91 : ftoGuessS.ok Tryz.prog 38 := Fct.of (S := ftoGuessS) (L := fun ⟨l, _⟩ => fun | 3 => some (LtoS .guess l) | _ => none) (kp := [0,2,3,4,11,1000011]) E91ok Tryz.func38 (by kernel_rfl) (by kernel_rfl) (by
  rintro ⟨(l : List SGuess), _⟩ hp
  refine holds_of (X := .ob ((↑l.length : Int) = (↑l.length : Int) ∧
  (0 : Int) ≤ (↑l.length : Int) ∧
    (104 : Int) * (↑l.length : Int) ≤ (140737488355328 : Int) ∧ (↑l.length : Int) ≤ (140737488355328 : Int)) <|
 lpx (LtoS .guess l) ((0 : Int), (List.replicate (↑l.length : Int).toNat default, ())) fun (y2 : Int × List SGuess × PUnit) bk2 =>
 .br (decide (y2.fst < (↑l.length : Int)))
  (.ob ((0 : Int) ≤ y2.fst ∧ y2.fst < (↑l.length : Int)) <|
   .ob (ftoGuess.pre (l.getD y2.fst.toNat default, ())) <|
   .lt (SGuess × PUnit) (ftoGuess.fn (l.getD y2.fst.toNat default, ())) fun z2 =>
   .ob ((0 : Int) ≤ y2.fst ∧ y2.fst < (↑y2.snd.fst.length : Int)) <|
    .ob (y2.fst.toNat < y2.snd.fst.length) <|
    .lt (List SGuess) (y2.snd.fst.modify y2.fst.toNat fun z => z2.fst) fun z3 =>
    .ob (l = l) <|
     .ob (bk2 (IntKind.i64.wrap (y2.fst + (1 : Int)), (z3, ()))) <|
     .ok)
  (.leaf (mkR ftoGuessS.rs (y2.snd.fst, ())) [] [])) (by kernel_rfl) ?_
  refine ob_i ?_ fun o1 => lpx_i ?_ fun (y2 : Int × List SGuess × PUnit) i2 => br_i (fun h3 => ob_i ?_ fun o4 => ob_i ?_ fun o5 => lt_i (ob_i ?_ fun o6 => ob_i ?_ fun o7 => lt_i (ob_i rfl fun _ => ob_i ?_ fun o8 => trivial))) (fun h3 => Fct.leafY ?_)
  all_goals try simp only [decide_eq_true_eq, decide_eq_false_iff_not, Bool.not_eq_true', Bool.not_eq_false', bne_iff_ne, bne_eq_false_iff_eq, beq_iff_eq, beq_eq_false_iff_ne, baEq, Int.not_lt, Int.not_le, ne_eq, Decidable.not_not] at *
  all_goals try simp only [LtoS, ftoGuess, ftoGuessS, etaToken, etaNode, etaBuilder, etaPolicy, etaPage, etaVisit, etaTab, etaServer, etaCache, etaNet, etaLoader, etaSheet, etaResult, etaSlot, etaModule, etaAddr, etaRequest, etaResponse, etaConn, etaGuess, etaEntry, etaSent, etaFile, baSz, List.size_toArray, List.length_cons, List.length_nil, Nat.reduceAdd, Int.toNat_zero, List.drop_zero, decide_eq_true_eq, decide_eq_false_iff_not, Bool.not_eq_true', Bool.not_eq_false', bne_iff_ne, bne_eq_false_iff_eq, beq_iff_eq, beq_eq_false_iff_ne, Bool.not_eq_true, Bool.not_eq_false, ne_eq, Decidable.not_not, baEq, decide_not, Prod.mk.injEq, and_true, true_and, Room, List.nil_append, Nat.zero_add, Int.not_lt, Int.not_le] at *
  · have := szL_len szGuess l; omega
  · exact ⟨by omega, by omega, by simp⟩
  · omega
  · have hs := sum_take_le szGuess l (y2.1.toNat + 1)
    rw [sum_take szGuess (by omega)] at hs
    simp only [szL] at hp; omega
  · rw [i2.2.2]; simp; omega
  · rw [i2.2.2]; simp; omega
  · have hw : IntKind.i64.wrap (y2.1 + 1) = y2.1 + 1 := wrapId (by have := szL_len szGuess l; omega)
    rw [hw, toNat1 (by omega), i2.2.2]
    refine ⟨⟨by omega, by omega, ?_⟩, by omega⟩
    rw [show l.length - y2.1.toNat = (l.length - (y2.1.toNat + 1)) + 1 from by omega, List.replicate_succ, mod_at (by simp; omega), take_succ (by omega)]
    simp
  · have e : l.take y2.1.toNat = l := List.take_of_length_le (by omega)
    rw [i2.2.2, e]; simp; omega)
def E92 : D.Env := E91.add 38 ftoGuessS
theorem E92ok : EOk Tryz.prog E92 := E91ok.add k38_91
-- laws.eqGuessS
set_option maxHeartbeats 2000000 in
theorem k43_92 : feqGuessS.ok Tryz.prog 43 := Fct.of (S := feqGuessS) (L := fun ⟨l, m, _⟩ => fun | 4 => some (LeqS .guess l m) | _ => none) (kp := [0,1,4,5,10,14,26,1000010,1000014,1000026]) E92ok Tryz.func43 (by kernel_rfl) (by kernel_rfl) (by
  rintro ⟨(l : List SGuess), (m : List SGuess), _⟩ hp
  refine holds_of (X := .br ((↑l.length : Int) != (↑m.length : Int))
 (.leaf (mkR feqGuessS.rs (false, ())) [] [])
 (lpx (LeqS .guess l m) ((0 : Int), ()) fun (y2 : Int × PUnit) bk2 =>
  .br (decide (y2.fst < (↑l.length : Int)))
   (.ob ((0 : Int) ≤ y2.fst ∧ y2.fst < (↑l.length : Int)) <|
    .ob ((0 : Int) ≤ y2.fst ∧ y2.fst < (↑m.length : Int)) <|
    .ob (feqGuess.pre (l.getD y2.fst.toNat default, m.getD y2.fst.toNat default, ())) <|
    .lt (Bool × PUnit) (feqGuess.fn (l.getD y2.fst.toNat default, m.getD y2.fst.toNat default, ())) fun z2 =>
    .br (!z2.fst)
     (.leaf (mkR feqGuessS.rs (false, ())) [] [])
     (.ob (l = l) <|
      .ob (m = m) <|
      .ob (bk2 (IntKind.i64.wrap (y2.fst + (1 : Int)), ())) <|
      .ok))
   (.leaf (mkR feqGuessS.rs (true, ())) [] []))) (by kernel_rfl) ?_
  refine br_i (fun h1 => Fct.leafY ?_) (fun h1 => lpx_i ?_ fun (y2 : Int × PUnit) i2 => br_i (fun h3 => ob_i ?_ fun o4 => ob_i ?_ fun o5 => ob_i trivial fun _ => lt_i (br_i (fun h6 => Fct.leafY ?_) (fun h6 => ob_i rfl fun _ => ob_i rfl fun _ => ob_i ?_ fun o7 => trivial))) (fun h3 => Fct.leafY ?_))
  all_goals try simp only [decide_eq_true_eq, decide_eq_false_iff_not, Bool.not_eq_true', Bool.not_eq_false', bne_iff_ne, bne_eq_false_iff_eq, beq_iff_eq, beq_eq_false_iff_ne, baEq, Int.not_lt, Int.not_le, ne_eq, Decidable.not_not] at *
  all_goals try simp only [LeqS, feqGuess, feqGuessS, etaToken, etaNode, etaBuilder, etaPolicy, etaPage, etaVisit, etaTab, etaServer, etaCache, etaNet, etaLoader, etaSheet, etaResult, etaSlot, etaModule, etaAddr, etaRequest, etaResponse, etaConn, etaGuess, etaEntry, etaSent, etaFile, baSz, List.size_toArray, List.length_cons, List.length_nil, Nat.reduceAdd, Int.toNat_zero, List.drop_zero, decide_eq_true_eq, decide_eq_false_iff_not, Bool.not_eq_true', Bool.not_eq_false', bne_iff_ne, bne_eq_false_iff_eq, beq_iff_eq, beq_eq_false_iff_ne, Bool.not_eq_true, Bool.not_eq_false, ne_eq, Decidable.not_not, baEq, decide_not, Prod.mk.injEq, and_true, true_and, Room, List.nil_append, Nat.zero_add, Int.not_lt, Int.not_le] at *
  · rw [decide_eq_false]; rintro rfl; omega
  · exact ⟨by omega, by omega, by simp⟩
  · omega
  · omega
  · rw [decide_eq_false]; rintro rfl; exact absurd rfl h6
  · have hw : IntKind.i64.wrap (y2.1 + 1) = y2.1 + 1 := wrapId (by omega)
    rw [hw, toNat1 (by omega)]
    refine ⟨⟨by omega, by omega, ?_⟩, by omega⟩
    rw [take_succ (by omega), take_succ (by omega), i2.2.2, h6]
  · have e : l.take y2.1.toNat = l := List.take_of_length_le (by omega)
    have e2 : m.take y2.1.toNat = m := List.take_of_length_le (by omega)
    rw [decide_eq_true]; rw [← e, ← e2, i2.2.2])
def E93 : D.Env := E92.add 43 feqGuessS
theorem E93ok : EOk Tryz.prog E93 := E92ok.add k43_92
-- laws.szConn
set_option maxHeartbeats 2000000 in
theorem k92_93 : fszConn.ok Tryz.prog 92 := Fct.of (S := fszConn) (L := fun _ _ => none) (kp := [1,2,4,10,16,1000010,1000016]) E93ok Tryz.func92 (by kernel_rfl) (by kernel_rfl) (by
  rintro ⟨(x : SConn), (n : Int), _⟩ hp
  refine holds_of (X := .ob (fszAddr.pre (x.to, n, ())) <|
 .lt (Int × PUnit) (fszAddr.fn (x.to, n, ())) fun z2 =>
 .br (decide (z2.fst < (0 : Int)))
  (.leaf (mkR fszConn.rs ((-1 : Int), ())) [] [])
  (.ob (fszResponse.pre (x.response, z2.fst, ())) <|
   .lt (Int × PUnit) (fszResponse.fn (x.response, z2.fst, ())) fun z3 =>
   .br (decide (z3.fst < (0 : Int)))
    (.leaf (mkR fszConn.rs ((-1 : Int), ())) [] [])
    (.leaf (mkR fszConn.rs (z3.fst, ())) [] []))) (by kernel_rfl) ?_
  refine ob_i ?_ fun o1 => lt_i (br_i (fun h2 => Fct.leafY ?_) (fun h2 => ob_i ?_ fun o3 => lt_i (br_i (fun h4 => Fct.leafY ?_) (fun h4 => Fct.leafY ?_))))
  all_goals try simp only [decide_eq_true_eq, decide_eq_false_iff_not, Bool.not_eq_true', Bool.not_eq_false', bne_iff_ne, bne_eq_false_iff_eq, beq_iff_eq, beq_eq_false_iff_ne, baEq, Int.not_lt, Int.not_le, ne_eq, Decidable.not_not] at *
  all_goals try simp only [fszAddr, fszConn, fszResponse, etaToken, etaNode, etaBuilder, etaPolicy, etaPage, etaVisit, etaTab, etaServer, etaCache, etaNet, etaLoader, etaSheet, etaResult, etaSlot, etaModule, etaAddr, etaRequest, etaResponse, etaConn, etaGuess, etaEntry, etaSent, etaFile, baSz, List.size_toArray, List.length_cons, List.length_nil, Nat.reduceAdd, Int.toNat_zero, List.drop_zero, decide_eq_true_eq, decide_eq_false_iff_not, Bool.not_eq_true', Bool.not_eq_false', bne_iff_ne, bne_eq_false_iff_eq, beq_iff_eq, beq_eq_false_iff_ne, Bool.not_eq_true, Bool.not_eq_false, ne_eq, Decidable.not_not, baEq, decide_not, Prod.mk.injEq, and_true, true_and, Room, List.nil_append, Nat.zero_add, Int.not_lt, Int.not_le, Sh.good, Sh.fc, enc, List.forall_mem_cons, List.not_mem_nil, false_implies, implies_true, goodC, maxLen] at *
  all_goals grind [wrapId', lessen, szAddr, szConn, szResponse])
def E94 : D.Env := E93.add 92 fszConn
theorem E94ok : EOk Tryz.prog E94 := E93ok.add k92_93
-- laws.toConn
theorem k105_94 : ftoConn.ok Tryz.prog 105 := Fct.of (S := ftoConn) (L := fun _ _ => none) (kp := [1,2,3]) E94ok Tryz.func105 (by kernel_rfl) (by kernel_rfl) (by
  rintro ⟨(x : SConn), _⟩ hp
  refine holds_of (X := .ob (ftoAddr.pre (x.to, ())) <|
 .lt (SAddr × PUnit) (ftoAddr.fn (x.to, ())) fun z2 =>
 .ob (ftoResponse.pre (x.response, ())) <|
  .lt (SResponse × PUnit) (ftoResponse.fn (x.response, ())) fun z3 =>
  .leaf (mkR ftoConn.rs (⟨z2.fst, x.left, x.guess, z3.fst⟩, ())) [] []) (by kernel_rfl) ?_
  refine ob_i ?_ fun o1 => lt_i (ob_i ?_ fun o2 => lt_i (Fct.leafY ?_))
  all_goals try simp only [decide_eq_true_eq, decide_eq_false_iff_not, Bool.not_eq_true', Bool.not_eq_false', bne_iff_ne, bne_eq_false_iff_eq, beq_iff_eq, beq_eq_false_iff_ne, baEq, Int.not_lt, Int.not_le, ne_eq, Decidable.not_not] at *
  all_goals try simp only [ftoAddr, ftoConn, ftoResponse, etaToken, etaNode, etaBuilder, etaPolicy, etaPage, etaVisit, etaTab, etaServer, etaCache, etaNet, etaLoader, etaSheet, etaResult, etaSlot, etaModule, etaAddr, etaRequest, etaResponse, etaConn, etaGuess, etaEntry, etaSent, etaFile, baSz, List.size_toArray, List.length_cons, List.length_nil, Nat.reduceAdd, Int.toNat_zero, List.drop_zero, decide_eq_true_eq, decide_eq_false_iff_not, Bool.not_eq_true', Bool.not_eq_false', bne_iff_ne, bne_eq_false_iff_eq, beq_iff_eq, beq_eq_false_iff_ne, Bool.not_eq_true, Bool.not_eq_false, ne_eq, Decidable.not_not, baEq, decide_not, Prod.mk.injEq, and_true, true_and, Room, List.nil_append, Nat.zero_add, Int.not_lt, Int.not_le] at *
  all_goals first | trivial | rfl | grind [szAddr, szConn, szResponse])
def E95 : D.Env := E94.add 105 ftoConn
theorem E95ok : EOk Tryz.prog E95 := E94ok.add k105_94
-- laws.eqConn
set_option maxHeartbeats 2000000 in
theorem k110_95 : feqConn.ok Tryz.prog 110 := Fct.of (S := feqConn) (L := fun _ _ => none) (kp := [2,3,4,10,15,20,26,1000010,1000015,1000020,1000026]) E95ok Tryz.func110 (by kernel_rfl) (by kernel_rfl) (by
  rintro ⟨(x : SConn), (y : SConn), _⟩ hp
  refine holds_of (X := .ob (feqAddr.pre (x.to, y.to, ())) <|
 .lt (Bool × PUnit) (feqAddr.fn (x.to, y.to, ())) fun z2 =>
 .br (!z2.fst)
  (.leaf (mkR feqConn.rs (false, ())) [] [])
  (.br (x.left != y.left)
   (.leaf (mkR feqConn.rs (false, ())) [] [])
   (.br (!x.guess == y.guess)
    (.leaf (mkR feqConn.rs (false, ())) [] [])
    (.ob (feqResponse.pre (x.response, y.response, ())) <|
     .lt (Bool × PUnit) (feqResponse.fn (x.response, y.response, ())) fun z3 =>
     .br (!z3.fst)
      (.leaf (mkR feqConn.rs (false, ())) [] [])
      (.leaf (mkR feqConn.rs (true, ())) [] []))))) (by kernel_rfl) ?_
  refine ob_i trivial fun _ => lt_i (br_i (fun h1 => Fct.leafY ?_) (fun h1 => br_i (fun h2 => Fct.leafY ?_) (fun h2 => br_i (fun h3 => Fct.leafY ?_) (fun h3 => ob_i trivial fun _ => lt_i (br_i (fun h4 => Fct.leafY ?_) (fun h4 => Fct.leafY ?_))))))
  all_goals try simp only [decide_eq_true_eq, decide_eq_false_iff_not, Bool.not_eq_true', Bool.not_eq_false', bne_iff_ne, bne_eq_false_iff_eq, beq_iff_eq, beq_eq_false_iff_ne, baEq, Int.not_lt, Int.not_le, ne_eq, Decidable.not_not] at *
  all_goals try simp only [feqAddr, feqConn, feqResponse, etaToken, etaNode, etaBuilder, etaPolicy, etaPage, etaVisit, etaTab, etaServer, etaCache, etaNet, etaLoader, etaSheet, etaResult, etaSlot, etaModule, etaAddr, etaRequest, etaResponse, etaConn, etaGuess, etaEntry, etaSent, etaFile, baSz, List.size_toArray, List.length_cons, List.length_nil, Nat.reduceAdd, Int.toNat_zero, List.drop_zero, decide_eq_true_eq, decide_eq_false_iff_not, Bool.not_eq_true', Bool.not_eq_false', bne_iff_ne, bne_eq_false_iff_eq, beq_iff_eq, beq_eq_false_iff_ne, Bool.not_eq_true, Bool.not_eq_false, ne_eq, Decidable.not_not, baEq, decide_not, Prod.mk.injEq, and_true, true_and, Room, List.nil_append, Nat.zero_add, Int.not_lt, Int.not_le] at *
  all_goals first | trivial | (cases x; cases y; simp_all; done) | (simp only [szAddr, szConn, szResponse] at *; omega) | grind [szAddr, szConn, szResponse])
def E96 : D.Env := E95.add 110 feqConn
theorem E96ok : EOk Tryz.prog E96 := E95ok.add k110_95
-- laws.szConnS
set_option maxHeartbeats 2000000 in
theorem k31_96 : fszConnS.ok Tryz.prog 31 := Fct.of (S := fszConnS) (L := fun ⟨l, n, _⟩ => fun | 5 => some (LszS .conn szConn l n) | _ => none) (kp := [0,1,4,5,11,15,25,1000011,1000015,1000025]) E96ok Tryz.func31 (by kernel_rfl) (by kernel_rfl) (by
  rintro ⟨(l : List SConn), (n : Int), _⟩ hp
  refine holds_of (X := .br (decide (IntKind.i64.wrap (n - (↑l.length : Int)) < (0 : Int)))
 (.leaf (mkR fszConnS.rs ((-1 : Int), ())) [] [])
 (lpx (LszS .conn szConn l n) (IntKind.i64.wrap (n - (↑l.length : Int)), ((0 : Int), ())) fun (y2 : Int × Int × PUnit) bk2 =>
  .br (decide (y2.snd.fst < (↑l.length : Int)))
   (.ob ((0 : Int) ≤ y2.snd.fst ∧ y2.snd.fst < (↑l.length : Int)) <|
    .ob (fszConn.pre (l.getD y2.snd.fst.toNat default, y2.fst, ())) <|
    .lt (Int × PUnit) (fszConn.fn (l.getD y2.snd.fst.toNat default, y2.fst, ())) fun z2 =>
    .br (decide (z2.fst < (0 : Int)))
     (.leaf (mkR fszConnS.rs ((-1 : Int), ())) [] [])
     (.ob (l = l) <|
      .ob (bk2 (z2.fst, (IntKind.i64.wrap (y2.snd.fst + (1 : Int)), ()))) <|
      .ok))
   (.leaf (mkR fszConnS.rs (y2.fst, ())) [] []))) (by kernel_rfl) ?_
  refine br_i (fun h1 => Fct.leafY ?_) (fun h1 => lpx_i ?_ fun (y2 : Int × Int × PUnit) i2 => br_i (fun h3 => ob_i ?_ fun o4 => ob_i ?_ fun o5 => lt_i (br_i (fun h6 => Fct.leafY ?_) (fun h6 => ob_i rfl fun _ => ob_i ?_ fun o7 => trivial))) (fun h3 => Fct.leafY ?_))
  all_goals try simp only [decide_eq_true_eq, decide_eq_false_iff_not, Bool.not_eq_true', Bool.not_eq_false', bne_iff_ne, bne_eq_false_iff_eq, beq_iff_eq, beq_eq_false_iff_ne, baEq, Int.not_lt, Int.not_le, ne_eq, Decidable.not_not] at *
  all_goals try simp only [LszS, fszConn, fszConnS, etaToken, etaNode, etaBuilder, etaPolicy, etaPage, etaVisit, etaTab, etaServer, etaCache, etaNet, etaLoader, etaSheet, etaResult, etaSlot, etaModule, etaAddr, etaRequest, etaResponse, etaConn, etaGuess, etaEntry, etaSent, etaFile, baSz, List.size_toArray, List.length_cons, List.length_nil, Nat.reduceAdd, Int.toNat_zero, List.drop_zero, decide_eq_true_eq, decide_eq_false_iff_not, Bool.not_eq_true', Bool.not_eq_false', bne_iff_ne, bne_eq_false_iff_eq, beq_iff_eq, beq_eq_false_iff_ne, Bool.not_eq_true, Bool.not_eq_false, ne_eq, Decidable.not_not, baEq, decide_not, Prod.mk.injEq, and_true, true_and, Room, List.nil_append, Nat.zero_add, Int.not_lt, Int.not_le] at *
  · have := good_len hp.1; simp only [maxLen] at this; rw [wrapId (by omega)] at h1
    rw [lessenNeg (by simp only [szL]; omega)]
  · have := good_len hp.1; simp only [maxLen] at this
    rw [wrapId (by omega)] at h1 ⊢
    exact ⟨by omega, by omega, h1, by simp⟩
  · omega
  · exact ⟨good_getD hp.1 (by omega), by omega, by omega⟩
  · have hs := sum_take_le szConn l (y2.2.1.toNat + 1)
    rw [sum_take szConn (by omega)] at hs
    rw [lessen_lt (by omega)] at h6
    rw [lessenNeg (by simp only [szL]; omega)]
  · have hw : IntKind.i64.wrap (y2.2.1 + 1) = y2.2.1 + 1 := wrapId (by have := good_len hp.1; simp only [maxLen] at this; omega)
    have h7 : ¬ lessen y2.1 (szConn (l.getD y2.2.1.toNat default)) < 0 := by omega
    rw [lessen_lt (by omega)] at h7
    rw [hw, toNat1 (by omega), sum_take szConn (by omega), lessen_ge (by omega)]
    exact ⟨⟨by omega, by omega, by omega, by omega⟩, by omega⟩
  · have e : l.take y2.2.1.toNat = l := List.take_of_length_le (by omega)
    rw [e] at i2
    have hz : ((szL szConn l : Nat) : Int) = l.length + (l.map szConn).sum := by simp only [szL]; omega
    rw [lessen_ge (by omega)]
    show y2.1 = n - ((szL szConn l : Nat) : Int)
    omega)
def E97 : D.Env := E96.add 31 fszConnS
theorem E97ok : EOk Tryz.prog E97 := E96ok.add k31_96
-- laws.toConnS
theorem k37_97 : ftoConnS.ok Tryz.prog 37 := Fct.of (S := ftoConnS) (L := fun ⟨l, _⟩ => fun | 3 => some (LtoS .conn l) | _ => none) (kp := [0,2,3,4,11,1000011]) E97ok Tryz.func37 (by kernel_rfl) (by kernel_rfl) (by
  rintro ⟨(l : List SConn), _⟩ hp
  refine holds_of (X := .ob ((↑l.length : Int) = (↑l.length : Int) ∧
  (0 : Int) ≤ (↑l.length : Int) ∧
    (112 : Int) * (↑l.length : Int) ≤ (140737488355328 : Int) ∧ (↑l.length : Int) ≤ (140737488355328 : Int)) <|
 lpx (LtoS .conn l) ((0 : Int), (List.replicate (↑l.length : Int).toNat default, ())) fun (y2 : Int × List SConn × PUnit) bk2 =>
 .br (decide (y2.fst < (↑l.length : Int)))
  (.ob ((0 : Int) ≤ y2.fst ∧ y2.fst < (↑l.length : Int)) <|
   .ob (ftoConn.pre (l.getD y2.fst.toNat default, ())) <|
   .lt (SConn × PUnit) (ftoConn.fn (l.getD y2.fst.toNat default, ())) fun z2 =>
   .ob ((0 : Int) ≤ y2.fst ∧ y2.fst < (↑y2.snd.fst.length : Int)) <|
    .ob (y2.fst.toNat < y2.snd.fst.length) <|
    .lt (List SConn) (y2.snd.fst.modify y2.fst.toNat fun z => z2.fst) fun z3 =>
    .ob (l = l) <|
     .ob (bk2 (IntKind.i64.wrap (y2.fst + (1 : Int)), (z3, ()))) <|
     .ok)
  (.leaf (mkR ftoConnS.rs (y2.snd.fst, ())) [] [])) (by kernel_rfl) ?_
  refine ob_i ?_ fun o1 => lpx_i ?_ fun (y2 : Int × List SConn × PUnit) i2 => br_i (fun h3 => ob_i ?_ fun o4 => ob_i ?_ fun o5 => lt_i (ob_i ?_ fun o6 => ob_i ?_ fun o7 => lt_i (ob_i rfl fun _ => ob_i ?_ fun o8 => trivial))) (fun h3 => Fct.leafY ?_)
  all_goals try simp only [decide_eq_true_eq, decide_eq_false_iff_not, Bool.not_eq_true', Bool.not_eq_false', bne_iff_ne, bne_eq_false_iff_eq, beq_iff_eq, beq_eq_false_iff_ne, baEq, Int.not_lt, Int.not_le, ne_eq, Decidable.not_not] at *
  all_goals try simp only [LtoS, ftoConn, ftoConnS, etaToken, etaNode, etaBuilder, etaPolicy, etaPage, etaVisit, etaTab, etaServer, etaCache, etaNet, etaLoader, etaSheet, etaResult, etaSlot, etaModule, etaAddr, etaRequest, etaResponse, etaConn, etaGuess, etaEntry, etaSent, etaFile, baSz, List.size_toArray, List.length_cons, List.length_nil, Nat.reduceAdd, Int.toNat_zero, List.drop_zero, decide_eq_true_eq, decide_eq_false_iff_not, Bool.not_eq_true', Bool.not_eq_false', bne_iff_ne, bne_eq_false_iff_eq, beq_iff_eq, beq_eq_false_iff_ne, Bool.not_eq_true, Bool.not_eq_false, ne_eq, Decidable.not_not, baEq, decide_not, Prod.mk.injEq, and_true, true_and, Room, List.nil_append, Nat.zero_add, Int.not_lt, Int.not_le] at *
  · have := szL_len szConn l; omega
  · exact ⟨by omega, by omega, by simp⟩
  · omega
  · have hs := sum_take_le szConn l (y2.1.toNat + 1)
    rw [sum_take szConn (by omega)] at hs
    simp only [szL] at hp; omega
  · rw [i2.2.2]; simp; omega
  · rw [i2.2.2]; simp; omega
  · have hw : IntKind.i64.wrap (y2.1 + 1) = y2.1 + 1 := wrapId (by have := szL_len szConn l; omega)
    rw [hw, toNat1 (by omega), i2.2.2]
    refine ⟨⟨by omega, by omega, ?_⟩, by omega⟩
    rw [show l.length - y2.1.toNat = (l.length - (y2.1.toNat + 1)) + 1 from by omega, List.replicate_succ, mod_at (by simp; omega), take_succ (by omega)]
    simp
  · have e : l.take y2.1.toNat = l := List.take_of_length_le (by omega)
    rw [i2.2.2, e]; simp; omega)
def E98 : D.Env := E97.add 37 ftoConnS
theorem E98ok : EOk Tryz.prog E98 := E97ok.add k37_97
-- laws.eqConnS
set_option maxHeartbeats 2000000 in
theorem k42_98 : feqConnS.ok Tryz.prog 42 := Fct.of (S := feqConnS) (L := fun ⟨l, m, _⟩ => fun | 4 => some (LeqS .conn l m) | _ => none) (kp := [0,1,4,5,10,14,26,1000010,1000014,1000026]) E98ok Tryz.func42 (by kernel_rfl) (by kernel_rfl) (by
  rintro ⟨(l : List SConn), (m : List SConn), _⟩ hp
  refine holds_of (X := .br ((↑l.length : Int) != (↑m.length : Int))
 (.leaf (mkR feqConnS.rs (false, ())) [] [])
 (lpx (LeqS .conn l m) ((0 : Int), ()) fun (y2 : Int × PUnit) bk2 =>
  .br (decide (y2.fst < (↑l.length : Int)))
   (.ob ((0 : Int) ≤ y2.fst ∧ y2.fst < (↑l.length : Int)) <|
    .ob ((0 : Int) ≤ y2.fst ∧ y2.fst < (↑m.length : Int)) <|
    .ob (feqConn.pre (l.getD y2.fst.toNat default, m.getD y2.fst.toNat default, ())) <|
    .lt (Bool × PUnit) (feqConn.fn (l.getD y2.fst.toNat default, m.getD y2.fst.toNat default, ())) fun z2 =>
    .br (!z2.fst)
     (.leaf (mkR feqConnS.rs (false, ())) [] [])
     (.ob (l = l) <|
      .ob (m = m) <|
      .ob (bk2 (IntKind.i64.wrap (y2.fst + (1 : Int)), ())) <|
      .ok))
   (.leaf (mkR feqConnS.rs (true, ())) [] []))) (by kernel_rfl) ?_
  refine br_i (fun h1 => Fct.leafY ?_) (fun h1 => lpx_i ?_ fun (y2 : Int × PUnit) i2 => br_i (fun h3 => ob_i ?_ fun o4 => ob_i ?_ fun o5 => ob_i trivial fun _ => lt_i (br_i (fun h6 => Fct.leafY ?_) (fun h6 => ob_i rfl fun _ => ob_i rfl fun _ => ob_i ?_ fun o7 => trivial))) (fun h3 => Fct.leafY ?_))
  all_goals try simp only [decide_eq_true_eq, decide_eq_false_iff_not, Bool.not_eq_true', Bool.not_eq_false', bne_iff_ne, bne_eq_false_iff_eq, beq_iff_eq, beq_eq_false_iff_ne, baEq, Int.not_lt, Int.not_le, ne_eq, Decidable.not_not] at *
  all_goals try simp only [LeqS, feqConn, feqConnS, etaToken, etaNode, etaBuilder, etaPolicy, etaPage, etaVisit, etaTab, etaServer, etaCache, etaNet, etaLoader, etaSheet, etaResult, etaSlot, etaModule, etaAddr, etaRequest, etaResponse, etaConn, etaGuess, etaEntry, etaSent, etaFile, baSz, List.size_toArray, List.length_cons, List.length_nil, Nat.reduceAdd, Int.toNat_zero, List.drop_zero, decide_eq_true_eq, decide_eq_false_iff_not, Bool.not_eq_true', Bool.not_eq_false', bne_iff_ne, bne_eq_false_iff_eq, beq_iff_eq, beq_eq_false_iff_ne, Bool.not_eq_true, Bool.not_eq_false, ne_eq, Decidable.not_not, baEq, decide_not, Prod.mk.injEq, and_true, true_and, Room, List.nil_append, Nat.zero_add, Int.not_lt, Int.not_le] at *
  · rw [decide_eq_false]; rintro rfl; omega
  · exact ⟨by omega, by omega, by simp⟩
  · omega
  · omega
  · rw [decide_eq_false]; rintro rfl; exact absurd rfl h6
  · have hw : IntKind.i64.wrap (y2.1 + 1) = y2.1 + 1 := wrapId (by omega)
    rw [hw, toNat1 (by omega)]
    refine ⟨⟨by omega, by omega, ?_⟩, by omega⟩
    rw [take_succ (by omega), take_succ (by omega), i2.2.2, h6]
  · have e : l.take y2.1.toNat = l := List.take_of_length_le (by omega)
    have e2 : m.take y2.1.toNat = m := List.take_of_length_le (by omega)
    rw [decide_eq_true]; rw [← e, ← e2, i2.2.2])
def E99 : D.Env := E98.add 42 feqConnS
theorem E99ok : EOk Tryz.prog E99 := E98ok.add k42_98
-- laws.szLoader
set_option maxHeartbeats 2000000 in
theorem k8_99 : fszLoader.ok Tryz.prog 8 := Fct.of (S := fszLoader) (L := fun _ _ => none) (kp := [1,2,4,10,16,22,28,34,1000010,1000016,1000022,1000028,1000034]) E99ok Tryz.func8 (by kernel_rfl) (by kernel_rfl) (by
  rintro ⟨(x : SLoader), (n : Int), _⟩ hp
  refine holds_of (X := .ob (fszNet.pre (x.net, n, ())) <|
 .lt (Int × PUnit) (fszNet.fn (x.net, n, ())) fun z2 =>
 .br (decide (z2.fst < (0 : Int)))
  (.leaf (mkR fszLoader.rs ((-1 : Int), ())) [] [])
  (.ob (fszPage.pre (x.page, z2.fst, ())) <|
   .lt (Int × PUnit) (fszPage.fn (x.page, z2.fst, ())) fun z3 =>
   .br (decide (z3.fst < (0 : Int)))
    (.leaf (mkR fszLoader.rs ((-1 : Int), ())) [] [])
    (.ob (fszStringS.pre (x.parts, z3.fst, ())) <|
     .lt (Int × PUnit) (fszStringS.fn (x.parts, z3.fst, ())) fun z4 =>
     .br (decide (z4.fst < (0 : Int)))
      (.leaf (mkR fszLoader.rs ((-1 : Int), ())) [] [])
      (.ob (fszConnS.pre (x.conns, z4.fst, ())) <|
       .lt (Int × PUnit) (fszConnS.fn (x.conns, z4.fst, ())) fun z5 =>
       .br (decide (z5.fst < (0 : Int)))
        (.leaf (mkR fszLoader.rs ((-1 : Int), ())) [] [])
        (.ob (fszGuessS.pre (x.guesses, z5.fst, ())) <|
         .lt (Int × PUnit) (fszGuessS.fn (x.guesses, z5.fst, ())) fun z6 =>
         .br (decide (z6.fst < (0 : Int)))
          (.leaf (mkR fszLoader.rs ((-1 : Int), ())) [] [])
          (.leaf (mkR fszLoader.rs (z6.fst, ())) [] [])))))) (by kernel_rfl) ?_
  refine ob_i ?_ fun o1 => lt_i (br_i (fun h2 => Fct.leafY ?_) (fun h2 => ob_i ?_ fun o3 => lt_i (br_i (fun h4 => Fct.leafY ?_) (fun h4 => ob_i ?_ fun o5 => lt_i (br_i (fun h6 => Fct.leafY ?_) (fun h6 => ob_i ?_ fun o7 => lt_i (br_i (fun h8 => Fct.leafY ?_) (fun h8 => ob_i ?_ fun o9 => lt_i (br_i (fun h10 => Fct.leafY ?_) (fun h10 => Fct.leafY ?_))))))))))
  all_goals try simp only [decide_eq_true_eq, decide_eq_false_iff_not, Bool.not_eq_true', Bool.not_eq_false', bne_iff_ne, bne_eq_false_iff_eq, beq_iff_eq, beq_eq_false_iff_ne, baEq, Int.not_lt, Int.not_le, ne_eq, Decidable.not_not] at *
  all_goals try simp only [fszConnS, fszGuessS, fszLoader, fszNet, fszPage, fszStringS, etaToken, etaNode, etaBuilder, etaPolicy, etaPage, etaVisit, etaTab, etaServer, etaCache, etaNet, etaLoader, etaSheet, etaResult, etaSlot, etaModule, etaAddr, etaRequest, etaResponse, etaConn, etaGuess, etaEntry, etaSent, etaFile, baSz, List.size_toArray, List.length_cons, List.length_nil, Nat.reduceAdd, Int.toNat_zero, List.drop_zero, decide_eq_true_eq, decide_eq_false_iff_not, Bool.not_eq_true', Bool.not_eq_false', bne_iff_ne, bne_eq_false_iff_eq, beq_iff_eq, beq_eq_false_iff_ne, Bool.not_eq_true, Bool.not_eq_false, ne_eq, Decidable.not_not, baEq, decide_not, Prod.mk.injEq, and_true, true_and, Room, List.nil_append, Nat.zero_add, Int.not_lt, Int.not_le, Sh.good, Sh.fc, enc, List.forall_mem_cons, List.not_mem_nil, false_implies, implies_true, goodC, maxLen] at *
  all_goals grind [wrapId', lessen, szL, szLoader, szNet, szPage])
def E100 : D.Env := E99.add 8 fszLoader
theorem E100ok : EOk Tryz.prog E100 := E99ok.add k8_99
-- laws.toLoader
theorem k10_100 : ftoLoader.ok Tryz.prog 10 := Fct.of (S := ftoLoader) (L := fun _ _ => none) (kp := [1,2,3]) E100ok Tryz.func10 (by kernel_rfl) (by kernel_rfl) (by
  rintro ⟨(x : SLoader), _⟩ hp
  refine holds_of (X := .ob (ftoNet.pre (x.net, ())) <|
 .lt (SNet × PUnit) (ftoNet.fn (x.net, ())) fun z2 =>
 .ob (ftoPage.pre (x.page, ())) <|
  .lt (SPage × PUnit) (ftoPage.fn (x.page, ())) fun z3 =>
  .ob (ftoStringS.pre (x.parts, ())) <|
   .lt (List ByteArray × PUnit) (ftoStringS.fn (x.parts, ())) fun z4 =>
   .ob (ftoConnS.pre (x.conns, ())) <|
    .lt (List SConn × PUnit) (ftoConnS.fn (x.conns, ())) fun z5 =>
    .ob (ftoGuessS.pre (x.guesses, ())) <|
     .lt (List SGuess × PUnit) (ftoGuessS.fn (x.guesses, ())) fun z6 =>
     .leaf (mkR ftoLoader.rs (⟨z2.fst, z3.fst, z4.fst, z5.fst, z6.fst⟩, ())) [] []) (by kernel_rfl) ?_
  refine ob_i ?_ fun o1 => lt_i (ob_i ?_ fun o2 => lt_i (ob_i ?_ fun o3 => lt_i (ob_i ?_ fun o4 => lt_i (ob_i ?_ fun o5 => lt_i (Fct.leafY ?_)))))
  all_goals try simp only [decide_eq_true_eq, decide_eq_false_iff_not, Bool.not_eq_true', Bool.not_eq_false', bne_iff_ne, bne_eq_false_iff_eq, beq_iff_eq, beq_eq_false_iff_ne, baEq, Int.not_lt, Int.not_le, ne_eq, Decidable.not_not] at *
  all_goals try simp only [ftoConnS, ftoGuessS, ftoLoader, ftoNet, ftoPage, ftoStringS, etaToken, etaNode, etaBuilder, etaPolicy, etaPage, etaVisit, etaTab, etaServer, etaCache, etaNet, etaLoader, etaSheet, etaResult, etaSlot, etaModule, etaAddr, etaRequest, etaResponse, etaConn, etaGuess, etaEntry, etaSent, etaFile, baSz, List.size_toArray, List.length_cons, List.length_nil, Nat.reduceAdd, Int.toNat_zero, List.drop_zero, decide_eq_true_eq, decide_eq_false_iff_not, Bool.not_eq_true', Bool.not_eq_false', bne_iff_ne, bne_eq_false_iff_eq, beq_iff_eq, beq_eq_false_iff_ne, Bool.not_eq_true, Bool.not_eq_false, ne_eq, Decidable.not_not, baEq, decide_not, Prod.mk.injEq, and_true, true_and, Room, List.nil_append, Nat.zero_add, Int.not_lt, Int.not_le] at *
  all_goals first | trivial | rfl | grind [szL, szLoader, szNet, szPage])
def E101 : D.Env := E100.add 10 ftoLoader
theorem E101ok : EOk Tryz.prog E101 := E100ok.add k10_100
-- laws.eqLoader
set_option maxHeartbeats 2000000 in
theorem k12_101 : feqLoader.ok Tryz.prog 12 := Fct.of (S := feqLoader) (L := fun _ _ => none) (kp := [2,3,4,10,16,22,28,34,1000010,1000016,1000022,1000028,1000034]) E101ok Tryz.func12 (by kernel_rfl) (by kernel_rfl) (by
  rintro ⟨(x : SLoader), (y : SLoader), _⟩ hp
  refine holds_of (X := .ob (feqNet.pre (x.net, y.net, ())) <|
 .lt (Bool × PUnit) (feqNet.fn (x.net, y.net, ())) fun z2 =>
 .br (!z2.fst)
  (.leaf (mkR feqLoader.rs (false, ())) [] [])
  (.ob (feqPage.pre (x.page, y.page, ())) <|
   .lt (Bool × PUnit) (feqPage.fn (x.page, y.page, ())) fun z3 =>
   .br (!z3.fst)
    (.leaf (mkR feqLoader.rs (false, ())) [] [])
    (.ob (feqStringS.pre (x.parts, y.parts, ())) <|
     .lt (Bool × PUnit) (feqStringS.fn (x.parts, y.parts, ())) fun z4 =>
     .br (!z4.fst)
      (.leaf (mkR feqLoader.rs (false, ())) [] [])
      (.ob (feqConnS.pre (x.conns, y.conns, ())) <|
       .lt (Bool × PUnit) (feqConnS.fn (x.conns, y.conns, ())) fun z5 =>
       .br (!z5.fst)
        (.leaf (mkR feqLoader.rs (false, ())) [] [])
        (.ob (feqGuessS.pre (x.guesses, y.guesses, ())) <|
         .lt (Bool × PUnit) (feqGuessS.fn (x.guesses, y.guesses, ())) fun z6 =>
         .br (!z6.fst)
          (.leaf (mkR feqLoader.rs (false, ())) [] [])
          (.leaf (mkR feqLoader.rs (true, ())) [] [])))))) (by kernel_rfl) ?_
  refine ob_i ?_ fun o1 => lt_i (br_i (fun h2 => Fct.leafY ?_) (fun h2 => ob_i ?_ fun o3 => lt_i (br_i (fun h4 => Fct.leafY ?_) (fun h4 => ob_i ?_ fun o5 => lt_i (br_i (fun h6 => Fct.leafY ?_) (fun h6 => ob_i ?_ fun o7 => lt_i (br_i (fun h8 => Fct.leafY ?_) (fun h8 => ob_i ?_ fun o9 => lt_i (br_i (fun h10 => Fct.leafY ?_) (fun h10 => Fct.leafY ?_))))))))))
  all_goals try simp only [decide_eq_true_eq, decide_eq_false_iff_not, Bool.not_eq_true', Bool.not_eq_false', bne_iff_ne, bne_eq_false_iff_eq, beq_iff_eq, beq_eq_false_iff_ne, baEq, Int.not_lt, Int.not_le, ne_eq, Decidable.not_not] at *
  all_goals try simp only [feqConnS, feqGuessS, feqLoader, feqNet, feqPage, feqStringS, etaToken, etaNode, etaBuilder, etaPolicy, etaPage, etaVisit, etaTab, etaServer, etaCache, etaNet, etaLoader, etaSheet, etaResult, etaSlot, etaModule, etaAddr, etaRequest, etaResponse, etaConn, etaGuess, etaEntry, etaSent, etaFile, baSz, List.size_toArray, List.length_cons, List.length_nil, Nat.reduceAdd, Int.toNat_zero, List.drop_zero, decide_eq_true_eq, decide_eq_false_iff_not, Bool.not_eq_true', Bool.not_eq_false', bne_iff_ne, bne_eq_false_iff_eq, beq_iff_eq, beq_eq_false_iff_ne, Bool.not_eq_true, Bool.not_eq_false, ne_eq, Decidable.not_not, baEq, decide_not, Prod.mk.injEq, and_true, true_and, Room, List.nil_append, Nat.zero_add, Int.not_lt, Int.not_le] at *
  all_goals first | trivial | (cases x; cases y; simp_all; done) | (simp only [szL, szLoader, szNet, szPage] at *; omega) | grind [szL, szLoader, szNet, szPage])
def E102 : D.Env := E101.add 12 feqLoader
theorem E102ok : EOk Tryz.prog E102 := E101ok.add k12_101
def sizeResponse (x : SResponse) : Int := x.body.size + 20
def fSizeResponse : Fct := ⟨[aE .response], [rI], fun (x : SResponse × Unit) => x.1.body.size ≤ 1000000000000, fun (x : SResponse × Unit) => (sizeResponse x.1, ())⟩
-- spec.SizeResponse
theorem k76_102 : fSizeResponse.ok Tryz.prog 76 := Fct.of (S := fSizeResponse) (L := fun _ _ => none) (kp := [1,2]) E102ok Tryz.func76 (by kernel_rfl) (by kernel_rfl) (by
  rintro ⟨(x : SResponse), _⟩ hp
  refine holds_of (X := .leaf (mkR fSizeResponse.rs (IntKind.i64.wrap ((↑x.body.size : Int) + (20 : Int)), ())) [] []) (by kernel_rfl) ?_
  refine Fct.leafY ?_
  all_goals try simp only [decide_eq_true_eq, decide_eq_false_iff_not, Bool.not_eq_true', Bool.not_eq_false', bne_iff_ne, bne_eq_false_iff_eq, beq_iff_eq, beq_eq_false_iff_ne, baEq, Int.not_lt, Int.not_le, ne_eq, Decidable.not_not] at *
  all_goals try simp only [fSizeResponse, etaToken, etaNode, etaBuilder, etaPolicy, etaPage, etaVisit, etaTab, etaServer, etaCache, etaNet, etaLoader, etaSheet, etaResult, etaSlot, etaModule, etaAddr, etaRequest, etaResponse, etaConn, etaGuess, etaEntry, etaSent, etaFile, baSz, List.size_toArray, List.length_cons, List.length_nil, Nat.reduceAdd, Int.toNat_zero, List.drop_zero, decide_eq_true_eq, decide_eq_false_iff_not, Bool.not_eq_true', Bool.not_eq_false', bne_iff_ne, bne_eq_false_iff_eq, beq_iff_eq, beq_eq_false_iff_ne, Bool.not_eq_true, Bool.not_eq_false, ne_eq, Decidable.not_not, baEq, decide_not, Prod.mk.injEq, and_true, true_and, Room, List.nil_append, Nat.zero_add, Int.not_lt, Int.not_le, sizeResponse] at *
  rw [wrapId (by omega)])
def E103 : D.Env := E102.add 76 fSizeResponse
theorem E103ok : EOk Tryz.prog E103 := E102ok.add k76_102
-- impl.SizeResponse
theorem k78_103 : fSizeResponse.ok Tryz.prog 78 := Fct.of (S := fSizeResponse) (L := fun _ _ => none) (kp := [1,2]) E103ok Tryz.func78 (by kernel_rfl) (by kernel_rfl) (by
  rintro ⟨(x : SResponse), _⟩ hp
  refine holds_of (X := .leaf (mkR fSizeResponse.rs (IntKind.i64.wrap ((↑x.body.size : Int) + (20 : Int)), ())) [] []) (by kernel_rfl) ?_
  refine Fct.leafY ?_
  all_goals try simp only [decide_eq_true_eq, decide_eq_false_iff_not, Bool.not_eq_true', Bool.not_eq_false', bne_iff_ne, bne_eq_false_iff_eq, beq_iff_eq, beq_eq_false_iff_ne, baEq, Int.not_lt, Int.not_le, ne_eq, Decidable.not_not] at *
  all_goals try simp only [fSizeResponse, etaToken, etaNode, etaBuilder, etaPolicy, etaPage, etaVisit, etaTab, etaServer, etaCache, etaNet, etaLoader, etaSheet, etaResult, etaSlot, etaModule, etaAddr, etaRequest, etaResponse, etaConn, etaGuess, etaEntry, etaSent, etaFile, baSz, List.size_toArray, List.length_cons, List.length_nil, Nat.reduceAdd, Int.toNat_zero, List.drop_zero, decide_eq_true_eq, decide_eq_false_iff_not, Bool.not_eq_true', Bool.not_eq_false', bne_iff_ne, bne_eq_false_iff_eq, beq_iff_eq, beq_eq_false_iff_ne, Bool.not_eq_true, Bool.not_eq_false, ne_eq, Decidable.not_not, baEq, decide_not, Prod.mk.injEq, and_true, true_and, Room, List.nil_append, Nat.zero_add, Int.not_lt, Int.not_le, sizeResponse] at *
  rw [wrapId (by omega)])
def E104 : D.Env := E103.add 78 fSizeResponse
theorem E104ok : EOk Tryz.prog E104 := E103ok.add k78_103
def sumIf {α : Type} (p : α → Bool) (f : α → Int) : List α → Int
  | [] => 0
  | x :: l => (if p x then f x else 0) + sumIf p f l
theorem sumIf_nn {α : Type} (p : α → Bool) (f : α → Int) (h : ∀ x, 0 ≤ f x) (l : List α) : 0 ≤ sumIf p f l := by
  induction l with
  | nil => simp [sumIf]
  | cons x l ih => simp only [sumIf]; have := h x; split <;> omega
def wasteOf (l : List SGuess) : Int := sumIf (fun g => !g.used) (fun g => g.response.body.size + 20) l
def connWaste (l : List SConn) : Int := sumIf (fun c => c.guess) (fun c => c.response.body.size + 20) l
theorem wasteOf_nn (l : List SGuess) : 0 ≤ sumIf (fun g : SGuess => !g.used) (fun g => (g.response.body.size : Int) + 20) l := sumIf_nn _ _ (fun _ => by omega) l
theorem connWaste_nn (l : List SConn) : 0 ≤ sumIf (fun c : SConn => c.guess) (fun c => (c.response.body.size : Int) + 20) l := sumIf_nn _ _ (fun _ => by omega) l
def fWasteOf : Fct := ⟨[.v (.sl .guess)], [.el .int], fun (x_ : (List SGuess) × Unit) => x_.1.length ≤ 1000000000000 ∧ wasteOf x_.1 ≤ 1000000000000, fun (x_ : (List SGuess) × Unit) => (wasteOf x_.1, ())⟩
abbrev W_spec_WasteOf_fWasteOf_3 (l : (List SGuess)) : LInv := ⟨[⟨.s, 3, true, .el .int⟩, ⟨.s, 4, true, .el .int⟩], fun _ (x_ : Int × Int × Unit) => 0 ≤ x_.2.1 ∧ x_.2.1 ≤ l.length ∧ 0 ≤ x_.1 ∧ x_.1 + sumIf (fun g => !g.used) (fun g => (g.response.body.size : Int) + 20) (l.drop x_.2.1.toNat) = wasteOf l, fun (x_ : Int × Int × Unit) => l.length - x_.2.1.toNat⟩
-- spec.WasteOf
theorem k75_104 : fWasteOf.ok Tryz.prog 75 := Fct.of (S := fWasteOf) (L := fun ⟨l, _⟩ => fun | 3 => some (W_spec_WasteOf_fWasteOf_3 l) | _ => none) (kp := [0,2,3,4,8,16,1000008,1000016]) E104ok Tryz.func75 (by kernel_rfl) (by kernel_rfl) (by
  rintro ⟨(l : List SGuess), _⟩ hp
  refine holds_of (X := lpx (W_spec_WasteOf_fWasteOf_3 l) ((0 : Int), ((0 : Int), ())) fun (y1 : Int × Int × PUnit) bk1 =>
 .br (decide (y1.snd.fst < (↑l.length : Int)))
  (.ob ((0 : Int) ≤ y1.snd.fst ∧ y1.snd.fst < (↑l.length : Int)) <|
   .br (!(l.getD y1.snd.fst.toNat default).used)
   (.ob ((0 : Int) ≤ y1.snd.fst ∧ y1.snd.fst < (↑l.length : Int)) <|
    .ob (fSizeResponse.pre ((l.getD y1.snd.fst.toNat default).response, ())) <|
    .lt (Int × PUnit) (fSizeResponse.fn ((l.getD y1.snd.fst.toNat default).response, ())) fun z2 =>
    .ob (l = l) <|
     .ob (Value.int IntKind.i64 (0 : Int) = Value.int IntKind.i64 (0 : Int)) <|
     .ob (bk1 (IntKind.i64.wrap (y1.fst + z2.fst), (IntKind.i64.wrap (y1.snd.fst + (1 : Int)), ()))) <|
     .ok)
   (.ob (l = l) <|
    .ob (Value.int IntKind.i64 (0 : Int) = Value.int IntKind.i64 (0 : Int)) <|
    .ob (bk1 (y1.fst, (IntKind.i64.wrap (y1.snd.fst + (1 : Int)), ()))) <|
    .ok))
  (.leaf (mkR fWasteOf.rs (y1.fst, ())) [] [])) (by kernel_rfl) ?_
  refine lpx_i ?_ fun (y1 : Int × Int × PUnit) i1 => br_i (fun h2 => ob_i ?_ fun o3 => br_i (fun h4 => ob_i ?_ fun o5 => ob_i ?_ fun o6 => lt_i (ob_i rfl fun _ => ob_i rfl fun _ => ob_i ?_ fun o7 => trivial)) (fun h4 => ob_i rfl fun _ => ob_i rfl fun _ => ob_i ?_ fun o8 => trivial)) (fun h2 => Fct.leafY ?_)
  all_goals try have hn1 := wasteOf_nn (l.drop (y1.2.1.toNat + 1))
  all_goals try simp only [decide_eq_true_eq, decide_eq_false_iff_not, Bool.not_eq_true', Bool.not_eq_false', bne_iff_ne, bne_eq_false_iff_eq, beq_iff_eq, beq_eq_false_iff_ne, baEq, Int.not_lt, Int.not_le, ne_eq, Decidable.not_not] at *
  all_goals try simp only [W_spec_WasteOf_fWasteOf_3, fSizeResponse, fWasteOf, etaToken, etaNode, etaBuilder, etaPolicy, etaPage, etaVisit, etaTab, etaServer, etaCache, etaNet, etaLoader, etaSheet, etaResult, etaSlot, etaModule, etaAddr, etaRequest, etaResponse, etaConn, etaGuess, etaEntry, etaSent, etaFile, baSz, List.size_toArray, List.length_cons, List.length_nil, Nat.reduceAdd, Int.toNat_zero, List.drop_zero, decide_eq_true_eq, decide_eq_false_iff_not, Bool.not_eq_true', Bool.not_eq_false', bne_iff_ne, bne_eq_false_iff_eq, beq_iff_eq, beq_eq_false_iff_ne, Bool.not_eq_true, Bool.not_eq_false, ne_eq, Decidable.not_not, baEq, decide_not, Prod.mk.injEq, and_true, true_and, Room, List.nil_append, Nat.zero_add, Int.not_lt, Int.not_le, wasteOf, sumIf, fSizeResponse, sizeResponse] at *
  all_goals try simp (disch := omega) only [wrapId', toNat1] at *
  all_goals try simp (disch := omega) only [if_pos, if_neg]
  all_goals first | trivial | omega | grind [wrapId', toNat1, drop_cons, drop_end, good_len, maxLen, wasteOf, sumIf, fSizeResponse, sizeResponse])
def E105 : D.Env := E104.add 75 fWasteOf
theorem E105ok : EOk Tryz.prog E105 := E104ok.add k75_104
abbrev W_impl_WasteOf_fWasteOf_3 (l : (List SGuess)) : LInv := ⟨[⟨.s, 3, true, .el .int⟩, ⟨.s, 8, true, .el .int⟩], fun _ (x_ : Int × Int × Unit) => 0 ≤ x_.2.1 ∧ x_.2.1 ≤ l.length ∧ 0 ≤ x_.1 ∧ x_.1 + sumIf (fun g => !g.used) (fun g => (g.response.body.size : Int) + 20) (l.drop x_.2.1.toNat) = wasteOf l, fun (x_ : Int × Int × Unit) => l.length - x_.2.1.toNat⟩
-- impl.WasteOf
theorem k77_105 : fWasteOf.ok Tryz.prog 77 := Fct.of (S := fWasteOf) (L := fun ⟨l, _⟩ => fun | 3 => some (W_impl_WasteOf_fWasteOf_3 l) | _ => none) (kp := [0,2,3,5,6,7,8,9,14,1000009,1000014]) E105ok Tryz.func77 (by kernel_rfl) (by kernel_rfl) (by
  rintro ⟨(l : List SGuess), _⟩ hp
  refine holds_of (X := lpx (W_impl_WasteOf_fWasteOf_3 l) ((0 : Int), ((0 : Int), ())) fun (y1 : Int × Int × PUnit) bk1 =>
 .br (decide (y1.snd.fst < (↑l.length : Int)))
  (.ob ((0 : Int) ≤ y1.snd.fst ∧ y1.snd.fst < (↑l.length : Int)) <|
   .br (!(l.getD y1.snd.fst.toNat default).used)
   (.ob (fSizeResponse.pre ((l.getD y1.snd.fst.toNat default).response, ())) <|
    .lt (Int × PUnit) (fSizeResponse.fn ((l.getD y1.snd.fst.toNat default).response, ())) fun z2 =>
    .ob (l = l) <|
     .ob (Value.int IntKind.i64 (0 : Int) = Value.int IntKind.i64 (0 : Int)) <|
     .ob (l = l) <|
     .ob (Value.int IntKind.i64 (↑l.length : Int) = Value.int IntKind.i64 (↑l.length : Int)) <|
     .ob (bk1 (IntKind.i64.wrap (y1.fst + z2.fst), (IntKind.i64.wrap (y1.snd.fst + (1 : Int)), ()))) <|
     .ok)
   (.ob (l = l) <|
    .ob (Value.int IntKind.i64 (0 : Int) = Value.int IntKind.i64 (0 : Int)) <|
    .ob (l = l) <|
    .ob (Value.int IntKind.i64 (↑l.length : Int) = Value.int IntKind.i64 (↑l.length : Int)) <|
    .ob (bk1 (y1.fst, (IntKind.i64.wrap (y1.snd.fst + (1 : Int)), ()))) <|
    .ok))
  (.leaf (mkR fWasteOf.rs (y1.fst, ())) [] [])) (by kernel_rfl) ?_
  refine lpx_i ?_ fun (y1 : Int × Int × PUnit) i1 => br_i (fun h2 => ob_i ?_ fun o3 => br_i (fun h4 => ob_i ?_ fun o5 => lt_i (ob_i rfl fun _ => ob_i rfl fun _ => ob_i rfl fun _ => ob_i rfl fun _ => ob_i ?_ fun o6 => trivial)) (fun h4 => ob_i rfl fun _ => ob_i rfl fun _ => ob_i rfl fun _ => ob_i rfl fun _ => ob_i ?_ fun o7 => trivial)) (fun h2 => Fct.leafY ?_)
  all_goals try have hn1 := wasteOf_nn (l.drop (y1.2.1.toNat + 1))
  all_goals try simp only [decide_eq_true_eq, decide_eq_false_iff_not, Bool.not_eq_true', Bool.not_eq_false', bne_iff_ne, bne_eq_false_iff_eq, beq_iff_eq, beq_eq_false_iff_ne, baEq, Int.not_lt, Int.not_le, ne_eq, Decidable.not_not] at *
  all_goals try simp only [W_impl_WasteOf_fWasteOf_3, fSizeResponse, fWasteOf, etaToken, etaNode, etaBuilder, etaPolicy, etaPage, etaVisit, etaTab, etaServer, etaCache, etaNet, etaLoader, etaSheet, etaResult, etaSlot, etaModule, etaAddr, etaRequest, etaResponse, etaConn, etaGuess, etaEntry, etaSent, etaFile, baSz, List.size_toArray, List.length_cons, List.length_nil, Nat.reduceAdd, Int.toNat_zero, List.drop_zero, decide_eq_true_eq, decide_eq_false_iff_not, Bool.not_eq_true', Bool.not_eq_false', bne_iff_ne, bne_eq_false_iff_eq, beq_iff_eq, beq_eq_false_iff_ne, Bool.not_eq_true, Bool.not_eq_false, ne_eq, Decidable.not_not, baEq, decide_not, Prod.mk.injEq, and_true, true_and, Room, List.nil_append, Nat.zero_add, Int.not_lt, Int.not_le, wasteOf, sumIf, fSizeResponse, sizeResponse] at *
  all_goals try simp (disch := omega) only [wrapId', toNat1] at *
  all_goals try simp (disch := omega) only [if_pos, if_neg]
  all_goals first | trivial | omega | grind [wrapId', toNat1, drop_cons, drop_end, good_len, maxLen, wasteOf, sumIf, fSizeResponse, sizeResponse])
def E106 : D.Env := E105.add 77 fWasteOf
theorem E106ok : EOk Tryz.prog E106 := E105ok.add k77_105
def loaderWaste (l : SLoader) : Int := wasteOf l.guesses + connWaste l.conns
def fLoaderWaste : Fct := ⟨[.v (.el .loader)], [.el .int], fun (x_ : SLoader × Unit) => x_.1.guesses.length ≤ 1000000000000 ∧ x_.1.conns.length ≤ 1000000000000 ∧ loaderWaste x_.1 ≤ 1000000000000, fun (x_ : SLoader × Unit) => (loaderWaste x_.1, ())⟩
abbrev W_spec_LoaderWaste_fLoaderWaste_3 (l : SLoader) : LInv := ⟨[⟨.s, 3, true, .el .int⟩, ⟨.s, 4, true, .el .int⟩, ⟨.b, 1, false, .el .loader⟩], fun (z_ : Int × Int × SLoader × Unit) (x_ : Int × Int × SLoader × Unit) => (0 ≤ x_.2.1 ∧ x_.2.1 ≤ l.conns.length ∧ 0 ≤ x_.1 ∧ x_.1 + sumIf (fun c => c.guess) (fun c => (c.response.body.size : Int) + 20) (l.conns.drop x_.2.1.toNat) = loaderWaste l) ∧ x_.2.2.1 = z_.2.2.1, fun (x_ : Int × Int × SLoader × Unit) => l.conns.length - x_.2.1.toNat⟩
-- spec.LoaderWaste
theorem k24_106 : fLoaderWaste.ok Tryz.prog 24 := Fct.of (S := fLoaderWaste) (L := fun ⟨l, _⟩ => fun | 3 => some (W_spec_LoaderWaste_fLoaderWaste_3 l) | _ => none) (kp := [1,2,3,4,12,20,1000012,1000020]) E106ok Tryz.func24 (by kernel_rfl) (by kernel_rfl) (by
  rintro ⟨(l : SLoader), _⟩ hp
  refine holds_of (X := .ob (fWasteOf.pre (l.guesses, ())) <|
 .lt (Int × PUnit) (fWasteOf.fn (l.guesses, ())) fun z2 =>
 lpx (W_spec_LoaderWaste_fLoaderWaste_3 l) (z2.fst, ((0 : Int), (l, ()))) fun (y2 : Int × Int × SLoader × PUnit) bk2 =>
  .br (decide (y2.snd.fst < (↑y2.snd.snd.fst.conns.length : Int)))
   (.ob ((0 : Int) ≤ y2.snd.fst ∧ y2.snd.fst < (↑y2.snd.snd.fst.conns.length : Int)) <|
    .br ((y2.snd.snd.fst.conns.getD y2.snd.fst.toNat default).guess)
    (.ob ((0 : Int) ≤ y2.snd.fst ∧ y2.snd.fst < (↑y2.snd.snd.fst.conns.length : Int)) <|
     .ob (fSizeResponse.pre ((y2.snd.snd.fst.conns.getD y2.snd.fst.toNat default).response, ())) <|
     .lt (Int × PUnit) (fSizeResponse.fn ((y2.snd.snd.fst.conns.getD y2.snd.fst.toNat default).response, ())) fun z3 =>
     .ob (Value.int IntKind.i64 (0 : Int) = Value.int IntKind.i64 (0 : Int)) <|
      .ob (bk2 (IntKind.i64.wrap (y2.fst + z3.fst), (IntKind.i64.wrap (y2.snd.fst + (1 : Int)), (y2.snd.snd.fst, ())))) <|
      .ok)
    (.ob (Value.int IntKind.i64 (0 : Int) = Value.int IntKind.i64 (0 : Int)) <|
     .ob (bk2 (y2.fst, (IntKind.i64.wrap (y2.snd.fst + (1 : Int)), (y2.snd.snd.fst, ())))) <|
     .ok))
   (.leaf (mkR fLoaderWaste.rs (y2.fst, ())) [] [])) (by kernel_rfl) ?_
  refine ob_i ?_ fun o1 => lt_i (lpx_i ?_ fun (y2 : Int × Int × SLoader × PUnit) i2 => br_i (fun h3 => ob_i ?_ fun o4 => br_i (fun h5 => ob_i ?_ fun o6 => ob_i ?_ fun o7 => lt_i (ob_i rfl fun _ => ob_i ?_ fun o8 => trivial)) (fun h5 => ob_i rfl fun _ => ob_i ?_ fun o9 => trivial)) (fun h3 => Fct.leafY ?_))
  all_goals have hw0 := wasteOf_nn l.guesses
  all_goals have hw1 := connWaste_nn l.conns
  all_goals try have hn1 := connWaste_nn (l.conns.drop (y1.2.1.toNat + 1))
  all_goals try have hn2 := connWaste_nn (l.conns.drop (y2.2.1.toNat + 1))
  all_goals try simp only [decide_eq_true_eq, decide_eq_false_iff_not, Bool.not_eq_true', Bool.not_eq_false', bne_iff_ne, bne_eq_false_iff_eq, beq_iff_eq, beq_eq_false_iff_ne, baEq, Int.not_lt, Int.not_le, ne_eq, Decidable.not_not] at *
  all_goals try simp only [W_spec_LoaderWaste_fLoaderWaste_3, fLoaderWaste, fSizeResponse, fWasteOf, etaToken, etaNode, etaBuilder, etaPolicy, etaPage, etaVisit, etaTab, etaServer, etaCache, etaNet, etaLoader, etaSheet, etaResult, etaSlot, etaModule, etaAddr, etaRequest, etaResponse, etaConn, etaGuess, etaEntry, etaSent, etaFile, baSz, List.size_toArray, List.length_cons, List.length_nil, Nat.reduceAdd, Int.toNat_zero, List.drop_zero, decide_eq_true_eq, decide_eq_false_iff_not, Bool.not_eq_true', Bool.not_eq_false', bne_iff_ne, bne_eq_false_iff_eq, beq_iff_eq, beq_eq_false_iff_ne, Bool.not_eq_true, Bool.not_eq_false, ne_eq, Decidable.not_not, baEq, decide_not, Prod.mk.injEq, and_true, true_and, Room, List.nil_append, Nat.zero_add, Int.not_lt, Int.not_le, loaderWaste, connWaste, wasteOf, sumIf, fSizeResponse, sizeResponse, fWasteOf] at *
  all_goals try simp (disch := omega) only [wrapId', toNat1] at *
  all_goals try simp (disch := omega) only [if_pos, if_neg]
  all_goals first | trivial | omega | grind [wrapId', toNat1, drop_cons, drop_end, good_len, maxLen, loaderWaste, connWaste, wasteOf, sumIf, fSizeResponse, sizeResponse, fWasteOf])
def E107 : D.Env := E106.add 24 fLoaderWaste
theorem E107ok : EOk Tryz.prog E107 := E106ok.add k24_106
abbrev W_impl_LoaderWaste_fLoaderWaste_3 (l : SLoader) : LInv := ⟨[⟨.s, 3, true, .el .int⟩, ⟨.s, 12, true, .el .int⟩], fun _ (x_ : Int × Int × Unit) => 0 ≤ x_.2.1 ∧ x_.2.1 ≤ l.conns.length ∧ 0 ≤ x_.1 ∧ x_.1 + sumIf (fun c => c.guess) (fun c => (c.response.body.size : Int) + 20) (l.conns.drop x_.2.1.toNat) = loaderWaste l, fun (x_ : Int × Int × Unit) => l.conns.length - x_.2.1.toNat⟩
-- impl.LoaderWaste
theorem k25_107 : fLoaderWaste.ok Tryz.prog 25 := Fct.of (S := fLoaderWaste) (L := fun ⟨l, _⟩ => fun | 3 => some (W_impl_LoaderWaste_fLoaderWaste_3 l) | _ => none) (kp := [1,2,3,5,10,11,12,13,17,1000013,1000017]) E107ok Tryz.func25 (by kernel_rfl) (by kernel_rfl) (by
  rintro ⟨(l : SLoader), _⟩ hp
  refine holds_of (X := .ob (fWasteOf.pre (l.guesses, ())) <|
 .lt (Int × PUnit) (fWasteOf.fn (l.guesses, ())) fun z2 =>
 lpx (W_impl_LoaderWaste_fLoaderWaste_3 l) (z2.fst, ((0 : Int), ())) fun (y2 : Int × Int × PUnit) bk2 =>
  .br (decide (y2.snd.fst < (↑l.conns.length : Int)))
   (.ob ((0 : Int) ≤ y2.snd.fst ∧ y2.snd.fst < (↑l.conns.length : Int)) <|
    .br ((l.conns.getD y2.snd.fst.toNat default).guess)
    (.ob (fSizeResponse.pre ((l.conns.getD y2.snd.fst.toNat default).response, ())) <|
     .lt (Int × PUnit) (fSizeResponse.fn ((l.conns.getD y2.snd.fst.toNat default).response, ())) fun z3 =>
     .ob (Value.int IntKind.i64 (0 : Int) = Value.int IntKind.i64 (0 : Int)) <|
      .ob (l.conns = l.conns) <|
      .ob (Value.int IntKind.i64 (↑l.conns.length : Int) = Value.int IntKind.i64 (↑l.conns.length : Int)) <|
      .ob (bk2 (IntKind.i64.wrap (y2.fst + z3.fst), (IntKind.i64.wrap (y2.snd.fst + (1 : Int)), ()))) <|
      .ok)
    (.ob (Value.int IntKind.i64 (0 : Int) = Value.int IntKind.i64 (0 : Int)) <|
     .ob (l.conns = l.conns) <|
     .ob (Value.int IntKind.i64 (↑l.conns.length : Int) = Value.int IntKind.i64 (↑l.conns.length : Int)) <|
     .ob (bk2 (y2.fst, (IntKind.i64.wrap (y2.snd.fst + (1 : Int)), ()))) <|
     .ok))
   (.leaf (mkR fLoaderWaste.rs (y2.fst, ())) [] [])) (by kernel_rfl) ?_
  refine ob_i ?_ fun o1 => lt_i (lpx_i ?_ fun (y2 : Int × Int × PUnit) i2 => br_i (fun h3 => ob_i ?_ fun o4 => br_i (fun h5 => ob_i ?_ fun o6 => lt_i (ob_i rfl fun _ => ob_i rfl fun _ => ob_i rfl fun _ => ob_i ?_ fun o7 => trivial)) (fun h5 => ob_i rfl fun _ => ob_i rfl fun _ => ob_i rfl fun _ => ob_i ?_ fun o8 => trivial)) (fun h3 => Fct.leafY ?_))
  all_goals have hw0 := wasteOf_nn l.guesses
  all_goals have hw1 := connWaste_nn l.conns
  all_goals try have hn1 := connWaste_nn (l.conns.drop (y1.2.1.toNat + 1))
  all_goals try have hn2 := connWaste_nn (l.conns.drop (y2.2.1.toNat + 1))
  all_goals try simp only [decide_eq_true_eq, decide_eq_false_iff_not, Bool.not_eq_true', Bool.not_eq_false', bne_iff_ne, bne_eq_false_iff_eq, beq_iff_eq, beq_eq_false_iff_ne, baEq, Int.not_lt, Int.not_le, ne_eq, Decidable.not_not] at *
  all_goals try simp only [W_impl_LoaderWaste_fLoaderWaste_3, fLoaderWaste, fSizeResponse, fWasteOf, etaToken, etaNode, etaBuilder, etaPolicy, etaPage, etaVisit, etaTab, etaServer, etaCache, etaNet, etaLoader, etaSheet, etaResult, etaSlot, etaModule, etaAddr, etaRequest, etaResponse, etaConn, etaGuess, etaEntry, etaSent, etaFile, baSz, List.size_toArray, List.length_cons, List.length_nil, Nat.reduceAdd, Int.toNat_zero, List.drop_zero, decide_eq_true_eq, decide_eq_false_iff_not, Bool.not_eq_true', Bool.not_eq_false', bne_iff_ne, bne_eq_false_iff_eq, beq_iff_eq, beq_eq_false_iff_ne, Bool.not_eq_true, Bool.not_eq_false, ne_eq, Decidable.not_not, baEq, decide_not, Prod.mk.injEq, and_true, true_and, Room, List.nil_append, Nat.zero_add, Int.not_lt, Int.not_le, loaderWaste, connWaste, wasteOf, sumIf, fSizeResponse, sizeResponse, fWasteOf] at *
  all_goals try simp (disch := omega) only [wrapId', toNat1] at *
  all_goals try simp (disch := omega) only [if_pos, if_neg]
  all_goals first | trivial | omega | grind [wrapId', toNat1, drop_cons, drop_end, good_len, maxLen, loaderWaste, connWaste, wasteOf, sumIf, fSizeResponse, sizeResponse, fWasteOf])
def E108 : D.Env := E107.add 25 fLoaderWaste
theorem E108ok : EOk Tryz.prog E108 := E107ok.add k25_107
def lLoader : Fct := lawFS [.el .loader]
theorem guessSz (l : List SGuess) : wasteOf l ≤ 21 * szL szGuess l := by
  induction l with
  | nil => simp only [wasteOf, sumIf]; omega
  | cons g l ih => simp only [wasteOf, sumIf, szL, List.length_cons, List.map_cons, List.sum_cons, szGuess, szResponse] at *; split <;> omega
theorem connSz (l : List SConn) : connWaste l ≤ 21 * szL szConn l := by
  induction l with
  | nil => simp only [connWaste, sumIf]; omega
  | cons g l ih => simp only [connWaste, sumIf, szL, List.length_cons, List.map_cons, List.sum_cons, szConn, szResponse] at *; split <;> omega
theorem loaderSz (l : SLoader) : loaderWaste l ≤ 21 * szLoader l ∧ l.guesses.length ≤ szLoader l ∧ l.conns.length ≤ szLoader l ∧ l.parts.length ≤ szLoader l := by
  have h1 := guessSz l.guesses
  have h2 := connSz l.conns
  have h3 := szL_len szGuess l.guesses
  have h4 := szL_len szConn l.conns
  have h5 := szL_len szString l.parts
  simp only [loaderWaste, szLoader]; omega
-- laws.FnExactLoaderWaste
set_option maxHeartbeats 2000000 in
theorem k6_108 : lLoader.ok Tryz.prog 6 := Fct.of (S := lLoader) (L := fun _ _ => none) (kp := [1,2,3,4,5,6,11,21,26,1000011,1000021,1000026]) E108ok Tryz.func6 (by kernel_rfl) (by kernel_rfl) (by
  rintro ⟨(l : SLoader), _⟩ hp
  refine holds_of (X := .ob (fszLoader.pre (l, (1048576 : Int), ())) <|
 .lt (Int × PUnit) (fszLoader.fn (l, (1048576 : Int), ())) fun z2 =>
 .br (decide (z2.fst < (0 : Int)))
  (.leaf (mkR lLoader.rs (true, ())) [] [])
  (.ob (ftoLoader.pre (l, ())) <|
   .lt (SLoader × PUnit) (ftoLoader.fn (l, ())) fun z3 =>
   .ob (fLoaderWaste.pre (z3.fst, ())) <|
    .lt (Int × PUnit) (fLoaderWaste.fn (z3.fst, ())) fun z4 =>
    .ob (ftoLoader.pre (l, ())) <|
     .lt (SLoader × PUnit) (ftoLoader.fn (l, ())) fun z5 =>
     .ob (fLoaderWaste.pre (z5.fst, ())) <|
      .lt (Int × PUnit) (fLoaderWaste.fn (z5.fst, ())) fun z6 =>
      .br (z6.fst != z4.fst)
       (.leaf (mkR lLoader.rs (false, ())) [] [])
       (.ob (ftoLoader.pre (l, ())) <|
        .lt (SLoader × PUnit) (ftoLoader.fn (l, ())) fun z7 =>
        .ob (feqLoader.pre (z5.fst, z7.fst, ())) <|
         .lt (Bool × PUnit) (feqLoader.fn (z5.fst, z7.fst, ())) fun z8 =>
         .br (!z8.fst)
          (.leaf (mkR lLoader.rs (false, ())) [] [])
          (.leaf (mkR lLoader.rs (true, ())) [] [])))) (by kernel_rfl) ?_
  refine ob_i ?_ fun o1 => lt_e fun z2 ez2 => (br_i (fun h2 => Fct.leafY ?_) (fun h2 => ob_i ?_ fun o3 => lt_e fun z3 ez3 => (ob_i ?_ fun o4 => lt_e fun z4 ez4 => (ob_i ?_ fun o5 => lt_e fun z5 ez5 => (ob_i ?_ fun o6 => lt_e fun z6 ez6 => (br_i (fun h7 => Fct.leafY ?_) (fun h7 => ob_i ?_ fun o8 => lt_e fun z7 ez7 => (ob_i ?_ fun o9 => lt_e fun z8 ez8 => (br_i (fun h10 => Fct.leafY ?_) (fun h10 => Fct.leafY ?_))))))))))
  all_goals have hls := loaderSz l
  all_goals have hg0 : Sh.good (.el .loader) l := hp.1
  all_goals clear hp
  all_goals subst_vars
  all_goals try simp only [decide_eq_true_eq, decide_eq_false_iff_not, Bool.not_eq_true', Bool.not_eq_false', bne_iff_ne, bne_eq_false_iff_eq, beq_iff_eq, beq_eq_false_iff_ne, baEq, Int.not_lt, Int.not_le, ne_eq, Decidable.not_not] at *
  all_goals try simp only [fLoaderWaste, feqLoader, fszLoader, ftoLoader, lLoader, etaToken, etaNode, etaBuilder, etaPolicy, etaPage, etaVisit, etaTab, etaServer, etaCache, etaNet, etaLoader, etaSheet, etaResult, etaSlot, etaModule, etaAddr, etaRequest, etaResponse, etaConn, etaGuess, etaEntry, etaSent, etaFile, baSz, List.size_toArray, List.length_cons, List.length_nil, Nat.reduceAdd, Int.toNat_zero, List.drop_zero, decide_eq_true_eq, decide_eq_false_iff_not, Bool.not_eq_true', Bool.not_eq_false', bne_iff_ne, bne_eq_false_iff_eq, beq_iff_eq, beq_eq_false_iff_ne, Bool.not_eq_true, Bool.not_eq_false, ne_eq, Decidable.not_not, baEq, decide_not, Prod.mk.injEq, and_true, true_and, Room, List.nil_append, Nat.zero_add, Int.not_lt, Int.not_le, decide_true] at *
  all_goals first | trivial | omega | grind [lessen])
def E109 : D.Env := E108.add 6 lLoader
theorem E109ok : EOk Tryz.prog E109 := E108ok.add k6_108

section
open Go.ChangeShapes Go.WideShapes Go.ChangeAt Go.RowKit
theorem own : ownKnob Tryz.prog.godebug = none := by kernel_rfl
theorem types : ∀ e t, tyOf e = some t → e ∈ ([3, 4, 5, 9, 25, 28, 30, 33, 35, 40, 45, 49, 55, 58, 59, 60, 61, 65, 70, 74, 81, 87, 110, 112, 117, 138, 152, 154, 157, 178, 186, 191, 194, 203, 207, 211, 215, 218, 222, 226, 240, 246, 250, 254, 257, 266, 268, 270] : List TypeId) := by
  intro e t h
  unfold tyOf at h
  split at h <;> first | (simp; done) | cases h
theorem lifted (os : Os) (started : os.Started) (H : Type) (enc : TypeId × Value → H) :
    ReturnsInHanded {} Tryz.checked os 6 .any (Rows.fnExactLoaderWasteSpec.pre6 enc Tryz.prog Tryz.f6 Rows.fnExactLoaderWasteRow.domain false) (Rows.fnExactLoaderWasteSpec.post enc Tryz.prog Tryz.f6 false true false false) := by
  refine returnsInHanded_of_change (C := Tryz.checked) own started (by kernel_rfl) Tryz.func6
    (ChangeSpec.witness6 (enc := enc) (C := Tryz.checked) false ⟨#[], #[.agg #[.slice none 0 0, .slice none 0 0, .slice none 0 0, .int .i64 0, .string ⟨#[]⟩, .string ⟨#[]⟩, .bool false, .slice none 0 0, .slice none 0 0, .slice none 0 0, .string ⟨#[]⟩, .string ⟨#[]⟩, .slice none 0 0, .bool false, .slice none 0 0, .slice none 0 0, .slice none 0 0, .slice none 0 0, .slice none 0 0, .int .i64 0, .int .i64 0, .int .i64 0, .int .i64 0, .slice none 0 0, .slice none 0 0, .bool false, .slice none 0 0, .slice none 0 0, .slice none 0 0]], []⟩ 8 (by kernel_rfl) (by kernel_rfl) (by kernel_rfl) (by kernel_rfl)) ?_
  intro W base args ds gs before hval0 hW hcnd _
  have hval : ∀ (j : Nat) t v, Tryz.f6.params[j]? = some t → args[j]? = some v → Value.okWide Tryz.prog W .any base t v := hval0
  refine law_calls (show rowOk Tryz.prog Tryz.f6 tyOf [3, 4, 5, 9, 25, 28, 30, 33, 35, 40, 45, 49, 55, 58, 59, 60, 61, 65, 70, 74, 81, 87, 110, 112, 117, 138, 152, 154, 157, 178, 186, 191, 194, 203, 207, 211, 215, 218, 222, 226, 240, 246, 250, 254, 257, 266, 268, 270] [.el .loader] = true by kernel_rfl) types rfl Tryz.underlying4 rfl hW (fun xs h => ?_) hval k6_108
  · rw [Tryz.params6] at h
    obtain ⟨x, rfl⟩ := List.length_eq_one_iff.1 (show xs.length = 1 from h)
    rfl
set_option maxHeartbeats 0 in
theorem closed : joinedFacts Tryz.prog 6 Tryz.f6 Rows.fnExactLoaderWasteSpec Rows.fnExactLoaderWasteRow = true := by
  unfold joinedFacts
  refine (and_i (and_i (and_i (and_i (and_i (and_i (and_i (and_i (and_i (and_i (and_i (and_i (and_i (and_i (and_i (and_i (and_i (and_i (and_i (and_i (and_i (and_i (and_i (and_i (and_i (and_i (and_i (and_i (and_i (and_i (and_i ?_ ?_) ?_) ?_) ?_) ?_) ?_) ?_) ?_) ?_) ?_) ?_) ?_) ?_) ?_) ?_) ?_) ?_) ?_) ?_) ?_) ?_) ?_) ?_) ?_) ?_) ?_) ?_) ?_) ?_) ?_) ?_)
  all_goals decide +kernel
theorem over : Rows.fnExactLoaderWasteRow.holds Tryz.pinned (OpenSpec.ofChange Rows.fnExactLoaderWasteSpec) :=
  OpenClaim.holds_of_wide 6 Tryz.f6 rfl rfl rfl rfl rfl rfl rfl ⟨rfl, rfl, rfl, rfl, rfl⟩ rfl rfl rfl rfl rfl (by kernel_rfl) Tryz.func6 closed
    (of_decide_eq_true (by kernel_rfl)) (by unfold Func.isWrapper; first | (rw [if_pos (by decide +kernel)]; kernel_rfl) | (rw [if_neg (by decide +kernel)]; exact ⟨rfl, rfl⟩))
    (fun os started H enc _ => lifted os started H enc)
theorem proved : Rows.FnExactLoaderWasteSaid := over
end
end Go.Proofs.YtdcpenhjenhjcaaGreat.fnExactLoaderWaste
