/-
  The program's SavedRequests returns what the reference's returns, for all arguments: the law returns true. No condition.
-/
import Derived.Test.YtdcpenhjenhjcaaGreatVPt
import Derived.Test.YtdcpenhjenhjcaaGreatRows
import Derived.WalkKit
import Derived.ProofKit
import Derived.OpenShut
namespace Go.Proofs.YtdcpenhjenhjcaaGreat.fnExactSavedRequests
open Go.Proofs.YtdcpenhjenhjcaaGreat
open Go.D
set_option maxRecDepth 100000
set_option linter.unusedVariables false
set_option linter.unusedSimpArgs false
def tyOf : TypeId → Option Ty
  | 3 => some .int
  | 4 => some .bool
  | 5 => some .u8
  | 9 => some .str
  | 25 => some .cache
  | 28 => some .net
  | 30 => some .addr
  | 33 => some .policy
  | 35 => some .tokenizer
  | 40 => some .builder
  | 45 => some .page
  | 49 => some .loader
  | 55 => some .cache
  | 58 => some .net
  | 59 => some .addr
  | 60 => some .policy
  | 61 => some .tokenizer
  | 65 => some .builder
  | 70 => some .page
  | 74 => some .loader
  | 81 => some .tab
  | 87 => some .tab
  | 110 => some .response
  | 112 => some .guess
  | 117 => some .visit
  | 138 => some .conn
  | 152 => some .response
  | 154 => some .conn
  | 157 => some .guess
  | 178 => some .visit
  | 186 => some .token
  | 191 => some .slot
  | 194 => some .module
  | 203 => some .server
  | 207 => some .sent
  | 211 => some .token
  | 215 => some .slot
  | 218 => some .module
  | 222 => some .server
  | 226 => some .sent
  | 240 => some .node
  | 246 => some .attr
  | 250 => some .entry
  | 254 => some .node
  | 257 => some .entry
  | 266 => some .file
  | 268 => some .attr
  | 270 => some .file
  | _ => none
def E0 : D.Env := D.Env.empty tyOf
theorem E0ok : EOk Tryz.prog E0 := EOk.empty _ _

-- laws.szStringS
set_option maxHeartbeats 2000000 in
theorem k30_0 : fszStringS.ok Tryz.prog 30 := Fct.of (S := fszStringS) (L := fun ⟨l, n, _⟩ => fun | 5 => some (LszS .str szString l n) | _ => none) (kp := [0,1,4,5,11,15,26]) E0ok Tryz.func30 (by kernel_rfl) (by kernel_rfl) (by
  rintro ⟨(l : List ByteArray), (n : Int), _⟩ hp
  refine holds_of (X := .br (decide (IntKind.i64.wrap (n - (↑l.length : Int)) < (0 : Int)))
 (.leaf (mkR fszStringS.rs ((-1 : Int), ())) [] [])
 (lpx (LszS .str szString l n) (IntKind.i64.wrap (n - (↑l.length : Int)), ((0 : Int), ())) fun (y2 : Int × Int × PUnit) bk2 =>
  .br (decide (y2.snd.fst < (↑l.length : Int)))
   (.ob ((0 : Int) ≤ y2.snd.fst ∧ y2.snd.fst < (↑l.length : Int)) <|
    .br (decide (IntKind.i64.wrap (y2.fst - (↑(l.getD y2.snd.fst.toNat default).size : Int)) < (0 : Int)))
    (.leaf (mkR fszStringS.rs ((-1 : Int), ())) [] [])
    (.ob (l = l) <|
     .ob (Value.bool (decide (IntKind.i64.wrap (n - (↑l.length : Int)) < (0 : Int))) =
  Value.bool (decide (IntKind.i64.wrap (n - (↑l.length : Int)) < (0 : Int)))) <|
     .ob (bk2 (IntKind.i64.wrap (y2.fst - (↑(l.getD y2.snd.fst.toNat default).size : Int)), (IntKind.i64.wrap (y2.snd.fst + (1 : Int)), ()))) <|
     .ok))
   (.leaf (mkR fszStringS.rs (y2.fst, ())) [] []))) (by kernel_rfl) ?_
  refine br_i (fun h1 => Fct.leafY ?_) (fun h1 => lpx_i ?_ fun (y2 : Int × Int × PUnit) i2 => br_i (fun h3 => ob_i ?_ fun o4 => br_i (fun h5 => Fct.leafY ?_) (fun h5 => ob_i rfl fun _ => ob_i rfl fun _ => ob_i ?_ fun o6 => trivial)) (fun h3 => Fct.leafY ?_))
  all_goals try simp only [decide_eq_true_eq, decide_eq_false_iff_not, Bool.not_eq_true', Bool.not_eq_false', bne_iff_ne, bne_eq_false_iff_eq, beq_iff_eq, beq_eq_false_iff_ne, baEq, Int.not_lt, Int.not_le, ne_eq, Decidable.not_not] at *
  all_goals try simp only [LszS, fszStringS, baSz, List.size_toArray, List.length_cons, List.length_nil, Nat.reduceAdd, Int.toNat_zero, List.drop_zero, decide_eq_true_eq, decide_eq_false_iff_not, Bool.not_eq_true', Bool.not_eq_false', bne_iff_ne, bne_eq_false_iff_eq, beq_iff_eq, beq_eq_false_iff_ne, Bool.not_eq_true, Bool.not_eq_false, ne_eq, Decidable.not_not, baEq, decide_not, Prod.mk.injEq, and_true, true_and, Room, List.nil_append, Nat.zero_add, Int.not_lt, Int.not_le] at *
  all_goals have hgl := good_len hp.1
  all_goals simp only [maxLen] at hgl
  · rw [wrapId (by omega)] at h1
    rw [lessenNeg (by simp only [szL]; omega)]
  · rw [wrapId (by omega)] at h1 ⊢
    exact ⟨by omega, by omega, h1, by simp⟩
  all_goals have hg : y2.2.1.toNat < l.length → (l.getD y2.2.1.toNat default).size ≤ 9223372036854775807 := fun h => (good_getD hp.1 h) _ (List.Mem.head _)
  all_goals have hs := sum_take_le szString l (y2.2.1.toNat + 1)
  all_goals have hs2 : y2.2.1.toNat < l.length → ((l.take (y2.2.1.toNat + 1)).map szString).sum = ((l.take y2.2.1.toNat).map szString).sum + (l.getD y2.2.1.toNat default).size := fun h => sum_take szString h
  · omega
  · have hlt : y2.2.1.toNat < l.length := by omega
    have a1 := hg hlt; have a2 := hs2 hlt
    rw [wrapId (by omega)] at h5
    rw [lessenNeg (by simp only [szL]; omega)]
  · have hlt : y2.2.1.toNat < l.length := by omega
    have a1 := hg hlt; have a2 := hs2 hlt
    rw [wrapId (n := y2.1 - _) (by omega)] at h5 ⊢
    rw [wrapId (by omega), toNat1 (by omega), a2]
    exact ⟨⟨by omega, by omega, by omega, by omega⟩, by omega⟩
  · have e : l.take y2.2.1.toNat = l := List.take_of_length_le (by omega)
    rw [e] at i2
    have hz : ((szL szString l : Nat) : Int) = l.length + (l.map szString).sum := by simp only [szL]; omega
    rw [lessen_ge (by omega)]
    show y2.1 = n - ((szL szString l : Nat) : Int)
    omega)
def E1 : D.Env := E0.add 30 fszStringS
theorem E1ok : EOk Tryz.prog E1 := E0ok.add k30_0
-- laws.toStringS
theorem k36_1 : ftoStringS.ok Tryz.prog 36 := Fct.of (S := ftoStringS) (L := fun ⟨l, _⟩ => fun | 3 => some (LtoS .str l) | _ => none) (kp := [0,2,3,4,11]) E1ok Tryz.func36 (by kernel_rfl) (by kernel_rfl) (by
  rintro ⟨(l : List ByteArray), _⟩ hp
  refine holds_of (X := .ob ((↑l.length : Int) = (↑l.length : Int) ∧
  (0 : Int) ≤ (↑l.length : Int) ∧
    (16 : Int) * (↑l.length : Int) ≤ (140737488355328 : Int) ∧ (↑l.length : Int) ≤ (140737488355328 : Int)) <|
 lpx (LtoS .str l) ((0 : Int), (List.replicate (↑l.length : Int).toNat { data := #[] : ByteArray }, ())) fun (y2 : Int × List ByteArray × PUnit) bk2 =>
 .br (decide (y2.fst < (↑l.length : Int)))
  (.ob ((0 : Int) ≤ y2.fst ∧ y2.fst < (↑l.length : Int)) <|
   .ob ((0 : Int) ≤ y2.fst ∧ y2.fst < (↑y2.snd.fst.length : Int)) <|
   .ob (y2.fst.toNat < y2.snd.fst.length) <|
   .lt (List ByteArray) (y2.snd.fst.modify y2.fst.toNat fun z => l.getD y2.fst.toNat default) fun z2 =>
   .ob (l = l) <|
    .ob (bk2 (IntKind.i64.wrap (y2.fst + (1 : Int)), (z2, ()))) <|
    .ok)
  (.leaf (mkR ftoStringS.rs (y2.snd.fst, ())) [] [])) (by kernel_rfl) ?_
  refine ob_i ?_ fun o1 => lpx_i ?_ fun (y2 : Int × List ByteArray × PUnit) i2 => br_i (fun h3 => ob_i ?_ fun o4 => ob_i ?_ fun o5 => ob_i ?_ fun o6 => lt_i (ob_i rfl fun _ => ob_i ?_ fun o7 => trivial)) (fun h3 => Fct.leafY ?_)
  all_goals try simp only [decide_eq_true_eq, decide_eq_false_iff_not, Bool.not_eq_true', Bool.not_eq_false', bne_iff_ne, bne_eq_false_iff_eq, beq_iff_eq, beq_eq_false_iff_ne, baEq, Int.not_lt, Int.not_le, ne_eq, Decidable.not_not] at *
  all_goals try simp only [LtoS, ftoStringS, baSz, List.size_toArray, List.length_cons, List.length_nil, Nat.reduceAdd, Int.toNat_zero, List.drop_zero, decide_eq_true_eq, decide_eq_false_iff_not, Bool.not_eq_true', Bool.not_eq_false', bne_iff_ne, bne_eq_false_iff_eq, beq_iff_eq, beq_eq_false_iff_ne, Bool.not_eq_true, Bool.not_eq_false, ne_eq, Decidable.not_not, baEq, decide_not, Prod.mk.injEq, and_true, true_and, Room, List.nil_append, Nat.zero_add, Int.not_lt, Int.not_le] at *
  all_goals try have hsz : l.length ≤ 1048576 := by first | exact hp | (have := szL_len szString l; exact Nat.le_trans this hp)
  all_goals clear hp
  all_goals try rw [i2.2.2]
  all_goals first | omega | (refine ⟨by omega, by omega, ?_⟩; simp; done) | (refine ⟨by omega, by omega, ?_⟩; simp; exact .inr rfl) | (simp; omega) | skip
  · rw [wrapId (by omega), toNat1 (by omega)]
    refine ⟨⟨by omega, by omega, ?_⟩, by omega⟩
    rw [show l.length - y2.1.toNat = (l.length - (y2.1.toNat + 1)) + 1 from by omega, List.replicate_succ, mod_at (by simp; omega), take_succ (by omega)]
    simp
  · have e : l.take y2.1.toNat = l := List.take_of_length_le (by omega)
    rw [e]; simp; omega)
def E2 : D.Env := E1.add 36 ftoStringS
theorem E2ok : EOk Tryz.prog E2 := E1ok.add k36_1
-- laws.eqStringS
set_option maxHeartbeats 2000000 in
theorem k41_2 : feqStringS.ok Tryz.prog 41 := Fct.of (S := feqStringS) (L := fun ⟨l, m, _⟩ => fun | 4 => some (LeqS .str l m) | _ => none) (kp := [0,1,4,5,10,14,25]) E2ok Tryz.func41 (by kernel_rfl) (by kernel_rfl) (by
  rintro ⟨(l : List ByteArray), (m : List ByteArray), _⟩ hp
  refine holds_of (X := .br ((↑l.length : Int) != (↑m.length : Int))
 (.leaf (mkR feqStringS.rs (false, ())) [] [])
 (lpx (LeqS .str l m) ((0 : Int), ()) fun (y2 : Int × PUnit) bk2 =>
  .br (decide (y2.fst < (↑l.length : Int)))
   (.ob ((0 : Int) ≤ y2.fst ∧ y2.fst < (↑l.length : Int)) <|
    .ob ((0 : Int) ≤ y2.fst ∧ y2.fst < (↑m.length : Int)) <|
    .br (!(l.getD y2.fst.toNat default).toList == (m.getD y2.fst.toNat default).toList)
    (.leaf (mkR feqStringS.rs (false, ())) [] [])
    (.ob (l = l) <|
     .ob (m = m) <|
     .ob (Value.bool ((↑l.length : Int) != (↑m.length : Int)) = Value.bool ((↑l.length : Int) != (↑m.length : Int))) <|
     .ob (bk2 (IntKind.i64.wrap (y2.fst + (1 : Int)), ())) <|
     .ok))
   (.leaf (mkR feqStringS.rs (true, ())) [] []))) (by kernel_rfl) ?_
  refine br_i (fun h1 => Fct.leafY ?_) (fun h1 => lpx_i ?_ fun (y2 : Int × PUnit) i2 => br_i (fun h3 => ob_i ?_ fun o4 => ob_i ?_ fun o5 => br_i (fun h6 => Fct.leafY ?_) (fun h6 => ob_i rfl fun _ => ob_i rfl fun _ => ob_i rfl fun _ => ob_i ?_ fun o7 => trivial)) (fun h3 => Fct.leafY ?_))
  all_goals try simp only [decide_eq_true_eq, decide_eq_false_iff_not, Bool.not_eq_true', Bool.not_eq_false', bne_iff_ne, bne_eq_false_iff_eq, beq_iff_eq, beq_eq_false_iff_ne, baEq, Int.not_lt, Int.not_le, ne_eq, Decidable.not_not] at *
  all_goals try simp only [LeqS, feqStringS, baSz, List.size_toArray, List.length_cons, List.length_nil, Nat.reduceAdd, Int.toNat_zero, List.drop_zero, decide_eq_true_eq, decide_eq_false_iff_not, Bool.not_eq_true', Bool.not_eq_false', bne_iff_ne, bne_eq_false_iff_eq, beq_iff_eq, beq_eq_false_iff_ne, Bool.not_eq_true, Bool.not_eq_false, ne_eq, Decidable.not_not, baEq, decide_not, Prod.mk.injEq, and_true, true_and, Room, List.nil_append, Nat.zero_add, Int.not_lt, Int.not_le] at *
  · rw [decide_eq_false]; rintro rfl; omega
  · exact ⟨by omega, by omega, by simp⟩
  · omega
  · omega
  · rw [decide_eq_false]; rintro rfl; first | exact absurd rfl h5 | exact absurd rfl h6
  · have hw : IntKind.i64.wrap (y2.1 + 1) = y2.1 + 1 := wrapId (by omega)
    rw [hw, toNat1 (by omega)]
    refine ⟨⟨by omega, by omega, ?_⟩, by omega⟩
    rw [take_succ (by omega), take_succ (by omega), i2.2.2]; first | rw [h5] | rw [h6]
  · have e : l.take y2.1.toNat = l := List.take_of_length_le (by omega)
    have e2 : m.take y2.1.toNat = m := List.take_of_length_le (by omega)
    rw [decide_eq_true]; rw [← e, ← e2, i2.2.2])
def E3 : D.Env := E2.add 41 feqStringS
theorem E3ok : EOk Tryz.prog E3 := E2ok.add k41_2
-- laws.szIntS
set_option maxHeartbeats 2000000 in
theorem k138_3 : fszIntS.ok Tryz.prog 138 := Fct.of (S := fszIntS) (L := fun _ _ => none) (kp := [0,1,4,10]) E3ok Tryz.func138 (by kernel_rfl) (by kernel_rfl) (by
  rintro ⟨(l : List Int), (n : Int), _⟩ hp
  refine holds_of (X := .br (decide (IntKind.i64.wrap (n - (↑(List.length l) : Int)) < (0 : Int)))
 (.leaf (mkR fszIntS.rs ((-1 : Int), ())) [] [])
 (.leaf (mkR fszIntS.rs (IntKind.i64.wrap (n - (↑(List.length l) : Int)), ())) [] [])) (by kernel_rfl) ?_
  refine br_i (fun h1 => Fct.leafY ?_) (fun h1 => Fct.leafY ?_)
  all_goals try simp only [decide_eq_true_eq, decide_eq_false_iff_not, Bool.not_eq_true', Bool.not_eq_false', bne_iff_ne, bne_eq_false_iff_eq, beq_iff_eq, beq_eq_false_iff_ne, baEq, Int.not_lt, Int.not_le, ne_eq, Decidable.not_not] at *
  all_goals try simp only [fszIntS, baSz, List.size_toArray, List.length_cons, List.length_nil, Nat.reduceAdd, Int.toNat_zero, List.drop_zero, decide_eq_true_eq, decide_eq_false_iff_not, Bool.not_eq_true', Bool.not_eq_false', bne_iff_ne, bne_eq_false_iff_eq, beq_iff_eq, beq_eq_false_iff_ne, Bool.not_eq_true, Bool.not_eq_false, ne_eq, Decidable.not_not, baEq, decide_not, Prod.mk.injEq, and_true, true_and, Room, List.nil_append, Nat.zero_add, Int.not_lt, Int.not_le, Sh.good, Sh.fc, enc, List.forall_mem_cons, List.not_mem_nil, false_implies, implies_true, goodC, maxLen] at *
  all_goals grind [wrapId', lessen])
def E4 : D.Env := E3.add 138 fszIntS
theorem E4ok : EOk Tryz.prog E4 := E3ok.add k138_3
-- laws.toIntS
theorem k147_4 : ftoIntS.ok Tryz.prog 147 := Fct.of (S := ftoIntS) (L := fun ⟨l, _⟩ => fun | 3 => some (LtoS .int l) | _ => none) (kp := [0,2,3,4,11]) E4ok Tryz.func147 (by kernel_rfl) (by kernel_rfl) (by
  rintro ⟨(l : List Int), _⟩ hp
  refine holds_of (X := .ob ((↑l.length : Int) = (↑l.length : Int) ∧
  (0 : Int) ≤ (↑l.length : Int) ∧
    (8 : Int) * (↑l.length : Int) ≤ (140737488355328 : Int) ∧ (↑l.length : Int) ≤ (140737488355328 : Int)) <|
 lpx (LtoS .int l) ((0 : Int), (List.replicate (↑l.length : Int).toNat (0 : Int), ())) fun (y2 : Int × List Int × PUnit) bk2 =>
 .br (decide (y2.fst < (↑l.length : Int)))
  (.ob ((0 : Int) ≤ y2.fst ∧ y2.fst < (↑l.length : Int)) <|
   .ob ((0 : Int) ≤ y2.fst ∧ y2.fst < (↑y2.snd.fst.length : Int)) <|
   .ob (y2.fst.toNat < y2.snd.fst.length) <|
   .lt (List Int) (y2.snd.fst.modify y2.fst.toNat fun z => l.getD y2.fst.toNat default) fun z2 =>
   .ob (l = l) <|
    .ob (bk2 (IntKind.i64.wrap (y2.fst + (1 : Int)), (z2, ()))) <|
    .ok)
  (.leaf (mkR ftoIntS.rs (y2.snd.fst, ())) [] [])) (by kernel_rfl) ?_
  refine ob_i ?_ fun o1 => lpx_i ?_ fun (y2 : Int × List Int × PUnit) i2 => br_i (fun h3 => ob_i ?_ fun o4 => ob_i ?_ fun o5 => ob_i ?_ fun o6 => lt_i (ob_i rfl fun _ => ob_i ?_ fun o7 => trivial)) (fun h3 => Fct.leafY ?_)
  all_goals try simp only [decide_eq_true_eq, decide_eq_false_iff_not, Bool.not_eq_true', Bool.not_eq_false', bne_iff_ne, bne_eq_false_iff_eq, beq_iff_eq, beq_eq_false_iff_ne, baEq, Int.not_lt, Int.not_le, ne_eq, Decidable.not_not] at *
  all_goals try simp only [LtoS, ftoIntS, baSz, List.size_toArray, List.length_cons, List.length_nil, Nat.reduceAdd, Int.toNat_zero, List.drop_zero, decide_eq_true_eq, decide_eq_false_iff_not, Bool.not_eq_true', Bool.not_eq_false', bne_iff_ne, bne_eq_false_iff_eq, beq_iff_eq, beq_eq_false_iff_ne, Bool.not_eq_true, Bool.not_eq_false, ne_eq, Decidable.not_not, baEq, decide_not, Prod.mk.injEq, and_true, true_and, Room, List.nil_append, Nat.zero_add, Int.not_lt, Int.not_le] at *
  all_goals try have hsz : l.length ≤ 1048576 := by first | exact hp | (have := szL_len szString l; exact Nat.le_trans this hp)
  all_goals clear hp
  all_goals try rw [i2.2.2]
  all_goals first | omega | (refine ⟨by omega, by omega, ?_⟩; simp; done) | (refine ⟨by omega, by omega, ?_⟩; simp; exact .inr rfl) | (simp; omega) | skip
  · rw [wrapId (by omega), toNat1 (by omega)]
    refine ⟨⟨by omega, by omega, ?_⟩, by omega⟩
    rw [show l.length - y2.1.toNat = (l.length - (y2.1.toNat + 1)) + 1 from by omega, List.replicate_succ, mod_at (by simp; omega), take_succ (by omega)]
    simp
  · have e : l.take y2.1.toNat = l := List.take_of_length_le (by omega)
    rw [e]; simp; omega)
def E5 : D.Env := E4.add 147 ftoIntS
theorem E5ok : EOk Tryz.prog E5 := E4ok.add k147_4
-- laws.eqIntS
set_option maxHeartbeats 2000000 in
theorem k122_5 : feqIntS.ok Tryz.prog 122 := Fct.of (S := feqIntS) (L := fun ⟨l, m, _⟩ => fun | 4 => some (LeqS .int l m) | _ => none) (kp := [0,1,4,5,10,14,25]) E5ok Tryz.func122 (by kernel_rfl) (by kernel_rfl) (by
  rintro ⟨(l : List Int), (m : List Int), _⟩ hp
  refine holds_of (X := .br ((↑l.length : Int) != (↑m.length : Int))
 (.leaf (mkR feqIntS.rs (false, ())) [] [])
 (lpx (LeqS .int l m) ((0 : Int), ()) fun (y2 : Int × PUnit) bk2 =>
  .br (decide (y2.fst < (↑l.length : Int)))
   (.ob ((0 : Int) ≤ y2.fst ∧ y2.fst < (↑l.length : Int)) <|
    .ob ((0 : Int) ≤ y2.fst ∧ y2.fst < (↑m.length : Int)) <|
    .br (l.getD y2.fst.toNat default != m.getD y2.fst.toNat default)
    (.leaf (mkR feqIntS.rs (false, ())) [] [])
    (.ob (l = l) <|
     .ob (m = m) <|
     .ob (Value.bool ((↑l.length : Int) != (↑m.length : Int)) = Value.bool ((↑l.length : Int) != (↑m.length : Int))) <|
     .ob (bk2 (IntKind.i64.wrap (y2.fst + (1 : Int)), ())) <|
     .ok))
   (.leaf (mkR feqIntS.rs (true, ())) [] []))) (by kernel_rfl) ?_
  refine br_i (fun h1 => Fct.leafY ?_) (fun h1 => lpx_i ?_ fun (y2 : Int × PUnit) i2 => br_i (fun h3 => ob_i ?_ fun o4 => ob_i ?_ fun o5 => br_i (fun h6 => Fct.leafY ?_) (fun h6 => ob_i rfl fun _ => ob_i rfl fun _ => ob_i rfl fun _ => ob_i ?_ fun o7 => trivial)) (fun h3 => Fct.leafY ?_))
  all_goals try simp only [decide_eq_true_eq, decide_eq_false_iff_not, Bool.not_eq_true', Bool.not_eq_false', bne_iff_ne, bne_eq_false_iff_eq, beq_iff_eq, beq_eq_false_iff_ne, baEq, Int.not_lt, Int.not_le, ne_eq, Decidable.not_not] at *
  all_goals try simp only [LeqS, feqIntS, baSz, List.size_toArray, List.length_cons, List.length_nil, Nat.reduceAdd, Int.toNat_zero, List.drop_zero, decide_eq_true_eq, decide_eq_false_iff_not, Bool.not_eq_true', Bool.not_eq_false', bne_iff_ne, bne_eq_false_iff_eq, beq_iff_eq, beq_eq_false_iff_ne, Bool.not_eq_true, Bool.not_eq_false, ne_eq, Decidable.not_not, baEq, decide_not, Prod.mk.injEq, and_true, true_and, Room, List.nil_append, Nat.zero_add, Int.not_lt, Int.not_le] at *
  · rw [decide_eq_false]; rintro rfl; omega
  · exact ⟨by omega, by omega, by simp⟩
  · omega
  · omega
  · rw [decide_eq_false]; rintro rfl; first | exact absurd rfl h5 | exact absurd rfl h6
  · have hw : IntKind.i64.wrap (y2.1 + 1) = y2.1 + 1 := wrapId (by omega)
    rw [hw, toNat1 (by omega)]
    refine ⟨⟨by omega, by omega, ?_⟩, by omega⟩
    rw [take_succ (by omega), take_succ (by omega), i2.2.2]; first | rw [h5] | rw [h6]
  · have e : l.take y2.1.toNat = l := List.take_of_length_le (by omega)
    have e2 : m.take y2.1.toNat = m := List.take_of_length_le (by omega)
    rw [decide_eq_true]; rw [← e, ← e2, i2.2.2])
def E6 : D.Env := E5.add 122 feqIntS
theorem E6ok : EOk Tryz.prog E6 := E5ok.add k122_5
-- laws.szAddr
set_option maxHeartbeats 2000000 in
theorem k84_6 : fszAddr.ok Tryz.prog 84 := Fct.of (S := fszAddr) (L := fun _ _ => none) (kp := [0,1,2,4,11,18]) E6ok Tryz.func84 (by kernel_rfl) (by kernel_rfl) (by
  rintro ⟨(x : SAddr), (n : Int), _⟩ hp
  refine holds_of (X := .br (decide (IntKind.i64.wrap (n - (↑x.host.size : Int)) < (0 : Int)))
 (.leaf (mkR fszAddr.rs ((-1 : Int), ())) [] [])
 (.br (decide (IntKind.i64.wrap (IntKind.i64.wrap (n - (↑x.host.size : Int)) - (↑x.path.size : Int)) < (0 : Int)))
  (.leaf (mkR fszAddr.rs ((-1 : Int), ())) [] [])
  (.leaf (mkR fszAddr.rs (IntKind.i64.wrap (IntKind.i64.wrap (n - (↑x.host.size : Int)) - (↑x.path.size : Int)), ())) [] []))) (by kernel_rfl) ?_
  refine br_i (fun h1 => Fct.leafY ?_) (fun h1 => br_i (fun h2 => Fct.leafY ?_) (fun h2 => Fct.leafY ?_))
  all_goals try simp only [decide_eq_true_eq, decide_eq_false_iff_not, Bool.not_eq_true', Bool.not_eq_false', bne_iff_ne, bne_eq_false_iff_eq, beq_iff_eq, beq_eq_false_iff_ne, baEq, Int.not_lt, Int.not_le, ne_eq, Decidable.not_not] at *
  all_goals try simp only [fszAddr, baSz, List.size_toArray, List.length_cons, List.length_nil, Nat.reduceAdd, Int.toNat_zero, List.drop_zero, decide_eq_true_eq, decide_eq_false_iff_not, Bool.not_eq_true', Bool.not_eq_false', bne_iff_ne, bne_eq_false_iff_eq, beq_iff_eq, beq_eq_false_iff_ne, Bool.not_eq_true, Bool.not_eq_false, ne_eq, Decidable.not_not, baEq, decide_not, Prod.mk.injEq, and_true, true_and, Room, List.nil_append, Nat.zero_add, Int.not_lt, Int.not_le, Sh.good, Sh.fc, enc, List.forall_mem_cons, List.not_mem_nil, false_implies, implies_true, goodC, maxLen] at *
  all_goals grind [wrapId', lessen, szAddr])
def E7 : D.Env := E6.add 84 fszAddr
theorem E7ok : EOk Tryz.prog E7 := E6ok.add k84_6
-- laws.toAddr
theorem k97_7 : ftoAddr.ok Tryz.prog 97 := Fct.of (S := ftoAddr) (L := fun _ _ => none) (kp := [0,1,2,3]) E7ok Tryz.func97 (by kernel_rfl) (by kernel_rfl) (by
  rintro ⟨(x : SAddr), _⟩ hp
  refine holds_of (X := .leaf (mkR ftoAddr.rs (x, ())) [] []) (by kernel_rfl) ?_
  refine Fct.leafY ?_
  all_goals try simp only [decide_eq_true_eq, decide_eq_false_iff_not, Bool.not_eq_true', Bool.not_eq_false', bne_iff_ne, bne_eq_false_iff_eq, beq_iff_eq, beq_eq_false_iff_ne, baEq, Int.not_lt, Int.not_le, ne_eq, Decidable.not_not] at *
  all_goals try simp only [ftoAddr, baSz, List.size_toArray, List.length_cons, List.length_nil, Nat.reduceAdd, Int.toNat_zero, List.drop_zero, decide_eq_true_eq, decide_eq_false_iff_not, Bool.not_eq_true', Bool.not_eq_false', bne_iff_ne, bne_eq_false_iff_eq, beq_iff_eq, beq_eq_false_iff_ne, Bool.not_eq_true, Bool.not_eq_false, ne_eq, Decidable.not_not, baEq, decide_not, Prod.mk.injEq, and_true, true_and, Room, List.nil_append, Nat.zero_add, Int.not_lt, Int.not_le] at *
  all_goals first | trivial | rfl | grind [szAddr])
def E8 : D.Env := E7.add 97 ftoAddr
theorem E8ok : EOk Tryz.prog E8 := E7ok.add k97_7
-- laws.eqAddr
set_option maxHeartbeats 2000000 in
theorem k51_8 : feqAddr.ok Tryz.prog 51 := Fct.of (S := feqAddr) (L := fun _ _ => none) (kp := [0,1,2,3,4,9,14]) E8ok Tryz.func51 (by kernel_rfl) (by kernel_rfl) (by
  rintro ⟨(x : SAddr), (y : SAddr), _⟩ hp
  refine holds_of (X := .br (!x.host.toList == y.host.toList)
 (.leaf (mkR feqAddr.rs (false, ())) [] [])
 (.br (!x.path.toList == y.path.toList)
  (.leaf (mkR feqAddr.rs (false, ())) [] [])
  (.leaf (mkR feqAddr.rs (true, ())) [] []))) (by kernel_rfl) ?_
  refine br_i (fun h1 => Fct.leafY ?_) (fun h1 => br_i (fun h2 => Fct.leafY ?_) (fun h2 => Fct.leafY ?_))
  all_goals try simp only [decide_eq_true_eq, decide_eq_false_iff_not, Bool.not_eq_true', Bool.not_eq_false', bne_iff_ne, bne_eq_false_iff_eq, beq_iff_eq, beq_eq_false_iff_ne, baEq, Int.not_lt, Int.not_le, ne_eq, Decidable.not_not] at *
  all_goals try simp only [feqAddr, baSz, List.size_toArray, List.length_cons, List.length_nil, Nat.reduceAdd, Int.toNat_zero, List.drop_zero, decide_eq_true_eq, decide_eq_false_iff_not, Bool.not_eq_true', Bool.not_eq_false', bne_iff_ne, bne_eq_false_iff_eq, beq_iff_eq, beq_eq_false_iff_ne, Bool.not_eq_true, Bool.not_eq_false, ne_eq, Decidable.not_not, baEq, decide_not, Prod.mk.injEq, and_true, true_and, Room, List.nil_append, Nat.zero_add, Int.not_lt, Int.not_le] at *
  all_goals first | trivial | (cases x; cases y; simp_all; done) | (simp only [szAddr] at *; omega) | grind [szAddr])
def E9 : D.Env := E8.add 51 feqAddr
theorem E9ok : EOk Tryz.prog E9 := E8ok.add k51_8
-- laws.szAddrS
set_option maxHeartbeats 2000000 in
theorem k91_9 : fszAddrS.ok Tryz.prog 91 := Fct.of (S := fszAddrS) (L := fun ⟨l, n, _⟩ => fun | 5 => some (LszS .addr szAddr l n) | _ => none) (kp := [0,1,4,5,11,15,25]) E9ok Tryz.func91 (by kernel_rfl) (by kernel_rfl) (by
  rintro ⟨(l : List SAddr), (n : Int), _⟩ hp
  refine holds_of (X := .br (decide (IntKind.i64.wrap (n - (↑l.length : Int)) < (0 : Int)))
 (.leaf (mkR fszAddrS.rs ((-1 : Int), ())) [] [])
 (lpx (LszS .addr szAddr l n) (IntKind.i64.wrap (n - (↑l.length : Int)), ((0 : Int), ())) fun (y2 : Int × Int × PUnit) bk2 =>
  .br (decide (y2.snd.fst < (↑l.length : Int)))
   (.ob ((0 : Int) ≤ y2.snd.fst ∧ y2.snd.fst < (↑l.length : Int)) <|
    .ob (fszAddr.pre (l.getD y2.snd.fst.toNat default, y2.fst, ())) <|
    .lt (Int × PUnit) (fszAddr.fn (l.getD y2.snd.fst.toNat default, y2.fst, ())) fun z2 =>
    .br (decide (z2.fst < (0 : Int)))
     (.leaf (mkR fszAddrS.rs ((-1 : Int), ())) [] [])
     (.ob (l = l) <|
      .ob (Value.bool (decide (IntKind.i64.wrap (n - (↑l.length : Int)) < (0 : Int))) =
  Value.bool (decide (IntKind.i64.wrap (n - (↑l.length : Int)) < (0 : Int)))) <|
      .ob (bk2 (z2.fst, (IntKind.i64.wrap (y2.snd.fst + (1 : Int)), ()))) <|
      .ok))
   (.leaf (mkR fszAddrS.rs (y2.fst, ())) [] []))) (by kernel_rfl) ?_
  refine br_i (fun h1 => Fct.leafY ?_) (fun h1 => lpx_i ?_ fun (y2 : Int × Int × PUnit) i2 => br_i (fun h3 => ob_i ?_ fun o4 => ob_i ?_ fun o5 => lt_i (br_i (fun h6 => Fct.leafY ?_) (fun h6 => ob_i rfl fun _ => ob_i rfl fun _ => ob_i ?_ fun o7 => trivial))) (fun h3 => Fct.leafY ?_))
  all_goals try simp only [decide_eq_true_eq, decide_eq_false_iff_not, Bool.not_eq_true', Bool.not_eq_false', bne_iff_ne, bne_eq_false_iff_eq, beq_iff_eq, beq_eq_false_iff_ne, baEq, Int.not_lt, Int.not_le, ne_eq, Decidable.not_not] at *
  all_goals try simp only [LszS, fszAddr, fszAddrS, baSz, List.size_toArray, List.length_cons, List.length_nil, Nat.reduceAdd, Int.toNat_zero, List.drop_zero, decide_eq_true_eq, decide_eq_false_iff_not, Bool.not_eq_true', Bool.not_eq_false', bne_iff_ne, bne_eq_false_iff_eq, beq_iff_eq, beq_eq_false_iff_ne, Bool.not_eq_true, Bool.not_eq_false, ne_eq, Decidable.not_not, baEq, decide_not, Prod.mk.injEq, and_true, true_and, Room, List.nil_append, Nat.zero_add, Int.not_lt, Int.not_le] at *
  · have := good_len hp.1; simp only [maxLen] at this; rw [wrapId (by omega)] at h1
    rw [lessenNeg (by simp only [szL]; omega)]
  · have := good_len hp.1; simp only [maxLen] at this
    rw [wrapId (by omega)] at h1 ⊢
    exact ⟨by omega, by omega, h1, by simp⟩
  · omega
  · exact ⟨good_getD hp.1 (by omega), by omega, by omega⟩
  · have hs := sum_take_le szAddr l (y2.2.1.toNat + 1)
    rw [sum_take szAddr (by omega)] at hs
    rw [lessen_lt (by omega)] at h6
    rw [lessenNeg (by simp only [szL]; omega)]
  · have hw : IntKind.i64.wrap (y2.2.1 + 1) = y2.2.1 + 1 := wrapId (by have := good_len hp.1; simp only [maxLen] at this; omega)
    have h7 : ¬ lessen y2.1 (szAddr (l.getD y2.2.1.toNat default)) < 0 := by omega
    rw [lessen_lt (by omega)] at h7
    rw [hw, toNat1 (by omega), sum_take szAddr (by omega), lessen_ge (by omega)]
    exact ⟨⟨by omega, by omega, by omega, by omega⟩, by omega⟩
  · have e : l.take y2.2.1.toNat = l := List.take_of_length_le (by omega)
    rw [e] at i2
    have hz : ((szL szAddr l : Nat) : Int) = l.length + (l.map szAddr).sum := by simp only [szL]; omega
    rw [lessen_ge (by omega)]
    show y2.1 = n - ((szL szAddr l : Nat) : Int)
    omega)
def E10 : D.Env := E9.add 91 fszAddrS
theorem E10ok : EOk Tryz.prog E10 := E9ok.add k91_9
-- laws.toAddrS
theorem k104_10 : ftoAddrS.ok Tryz.prog 104 := Fct.of (S := ftoAddrS) (L := fun ⟨l, _⟩ => fun | 3 => some (LtoS .addr l) | _ => none) (kp := [0,2,3,4,11]) E10ok Tryz.func104 (by kernel_rfl) (by kernel_rfl) (by
  rintro ⟨(l : List SAddr), _⟩ hp
  refine holds_of (X := .ob ((↑l.length : Int) = (↑l.length : Int) ∧
  (0 : Int) ≤ (↑l.length : Int) ∧
    (32 : Int) * (↑l.length : Int) ≤ (140737488355328 : Int) ∧ (↑l.length : Int) ≤ (140737488355328 : Int)) <|
 lpx (LtoS .addr l) ((0 : Int), (List.replicate (↑l.length : Int).toNat default, ())) fun (y2 : Int × List SAddr × PUnit) bk2 =>
 .br (decide (y2.fst < (↑l.length : Int)))
  (.ob ((0 : Int) ≤ y2.fst ∧ y2.fst < (↑l.length : Int)) <|
   .ob (ftoAddr.pre (l.getD y2.fst.toNat default, ())) <|
   .lt (SAddr × PUnit) (ftoAddr.fn (l.getD y2.fst.toNat default, ())) fun z2 =>
   .ob ((0 : Int) ≤ y2.fst ∧ y2.fst < (↑y2.snd.fst.length : Int)) <|
    .ob (y2.fst.toNat < y2.snd.fst.length) <|
    .lt (List SAddr) (y2.snd.fst.modify y2.fst.toNat fun z => z2.fst) fun z3 =>
    .ob (l = l) <|
     .ob (bk2 (IntKind.i64.wrap (y2.fst + (1 : Int)), (z3, ()))) <|
     .ok)
  (.leaf (mkR ftoAddrS.rs (y2.snd.fst, ())) [] [])) (by kernel_rfl) ?_
  refine ob_i ?_ fun o1 => lpx_i ?_ fun (y2 : Int × List SAddr × PUnit) i2 => br_i (fun h3 => ob_i ?_ fun o4 => ob_i ?_ fun o5 => lt_i (ob_i ?_ fun o6 => ob_i ?_ fun o7 => lt_i (ob_i rfl fun _ => ob_i ?_ fun o8 => trivial))) (fun h3 => Fct.leafY ?_)
  all_goals try simp only [decide_eq_true_eq, decide_eq_false_iff_not, Bool.not_eq_true', Bool.not_eq_false', bne_iff_ne, bne_eq_false_iff_eq, beq_iff_eq, beq_eq_false_iff_ne, baEq, Int.not_lt, Int.not_le, ne_eq, Decidable.not_not] at *
  all_goals try simp only [LtoS, ftoAddr, ftoAddrS, baSz, List.size_toArray, List.length_cons, List.length_nil, Nat.reduceAdd, Int.toNat_zero, List.drop_zero, decide_eq_true_eq, decide_eq_false_iff_not, Bool.not_eq_true', Bool.not_eq_false', bne_iff_ne, bne_eq_false_iff_eq, beq_iff_eq, beq_eq_false_iff_ne, Bool.not_eq_true, Bool.not_eq_false, ne_eq, Decidable.not_not, baEq, decide_not, Prod.mk.injEq, and_true, true_and, Room, List.nil_append, Nat.zero_add, Int.not_lt, Int.not_le] at *
  · have := szL_len szAddr l; omega
  · exact ⟨by omega, by omega, by simp⟩
  · omega
  · have hs := sum_take_le szAddr l (y2.1.toNat + 1)
    rw [sum_take szAddr (by omega)] at hs
    simp only [szL] at hp; omega
  · rw [i2.2.2]; simp; omega
  · rw [i2.2.2]; simp; omega
  · have hw : IntKind.i64.wrap (y2.1 + 1) = y2.1 + 1 := wrapId (by have := szL_len szAddr l; omega)
    rw [hw, toNat1 (by omega), i2.2.2]
    refine ⟨⟨by omega, by omega, ?_⟩, by omega⟩
    rw [show l.length - y2.1.toNat = (l.length - (y2.1.toNat + 1)) + 1 from by omega, List.replicate_succ, mod_at (by simp; omega), take_succ (by omega)]
    simp
  · have e : l.take y2.1.toNat = l := List.take_of_length_le (by omega)
    rw [i2.2.2, e]; simp; omega)
def E11 : D.Env := E10.add 104 ftoAddrS
theorem E11ok : EOk Tryz.prog E11 := E10ok.add k104_10
-- laws.eqAddrS
set_option maxHeartbeats 2000000 in
theorem k58_11 : feqAddrS.ok Tryz.prog 58 := Fct.of (S := feqAddrS) (L := fun ⟨l, m, _⟩ => fun | 4 => some (LeqS .addr l m) | _ => none) (kp := [0,1,4,5,10,14,26]) E11ok Tryz.func58 (by kernel_rfl) (by kernel_rfl) (by
  rintro ⟨(l : List SAddr), (m : List SAddr), _⟩ hp
  refine holds_of (X := .br ((↑l.length : Int) != (↑m.length : Int))
 (.leaf (mkR feqAddrS.rs (false, ())) [] [])
 (lpx (LeqS .addr l m) ((0 : Int), ()) fun (y2 : Int × PUnit) bk2 =>
  .br (decide (y2.fst < (↑l.length : Int)))
   (.ob ((0 : Int) ≤ y2.fst ∧ y2.fst < (↑l.length : Int)) <|
    .ob ((0 : Int) ≤ y2.fst ∧ y2.fst < (↑m.length : Int)) <|
    .ob (feqAddr.pre (l.getD y2.fst.toNat default, m.getD y2.fst.toNat default, ())) <|
    .lt (Bool × PUnit) (feqAddr.fn (l.getD y2.fst.toNat default, m.getD y2.fst.toNat default, ())) fun z2 =>
    .br (!z2.fst)
     (.leaf (mkR feqAddrS.rs (false, ())) [] [])
     (.ob (l = l) <|
      .ob (m = m) <|
      .ob (Value.bool ((↑l.length : Int) != (↑m.length : Int)) = Value.bool ((↑l.length : Int) != (↑m.length : Int))) <|
      .ob (bk2 (IntKind.i64.wrap (y2.fst + (1 : Int)), ())) <|
      .ok))
   (.leaf (mkR feqAddrS.rs (true, ())) [] []))) (by kernel_rfl) ?_
  refine br_i (fun h1 => Fct.leafY ?_) (fun h1 => lpx_i ?_ fun (y2 : Int × PUnit) i2 => br_i (fun h3 => ob_i ?_ fun o4 => ob_i ?_ fun o5 => ob_i trivial fun _ => lt_i (br_i (fun h6 => Fct.leafY ?_) (fun h6 => ob_i rfl fun _ => ob_i rfl fun _ => ob_i rfl fun _ => ob_i ?_ fun o7 => trivial))) (fun h3 => Fct.leafY ?_))
  all_goals try simp only [decide_eq_true_eq, decide_eq_false_iff_not, Bool.not_eq_true', Bool.not_eq_false', bne_iff_ne, bne_eq_false_iff_eq, beq_iff_eq, beq_eq_false_iff_ne, baEq, Int.not_lt, Int.not_le, ne_eq, Decidable.not_not] at *
  all_goals try simp only [LeqS, feqAddr, feqAddrS, baSz, List.size_toArray, List.length_cons, List.length_nil, Nat.reduceAdd, Int.toNat_zero, List.drop_zero, decide_eq_true_eq, decide_eq_false_iff_not, Bool.not_eq_true', Bool.not_eq_false', bne_iff_ne, bne_eq_false_iff_eq, beq_iff_eq, beq_eq_false_iff_ne, Bool.not_eq_true, Bool.not_eq_false, ne_eq, Decidable.not_not, baEq, decide_not, Prod.mk.injEq, and_true, true_and, Room, List.nil_append, Nat.zero_add, Int.not_lt, Int.not_le] at *
  · rw [decide_eq_false]; rintro rfl; omega
  · exact ⟨by omega, by omega, by simp⟩
  · omega
  · omega
  · rw [decide_eq_false]; rintro rfl; exact absurd rfl h6
  · have hw : IntKind.i64.wrap (y2.1 + 1) = y2.1 + 1 := wrapId (by omega)
    rw [hw, toNat1 (by omega)]
    refine ⟨⟨by omega, by omega, ?_⟩, by omega⟩
    rw [take_succ (by omega), take_succ (by omega), i2.2.2, h6]
  · have e : l.take y2.1.toNat = l := List.take_of_length_le (by omega)
    have e2 : m.take y2.1.toNat = m := List.take_of_length_le (by omega)
    rw [decide_eq_true]; rw [← e, ← e2, i2.2.2])
def E12 : D.Env := E11.add 58 feqAddrS
theorem E12ok : EOk Tryz.prog E12 := E11ok.add k58_11
-- laws.szAttr
set_option maxHeartbeats 2000000 in
theorem k171_12 : fszAttr.ok Tryz.prog 171 := Fct.of (S := fszAttr) (L := fun _ _ => none) (kp := [0,1,2,4,11,18]) E12ok Tryz.func171 (by kernel_rfl) (by kernel_rfl) (by
  rintro ⟨(x : SAttr), (n : Int), _⟩ hp
  refine holds_of (X := .br (decide (IntKind.i64.wrap (n - (↑x.name.size : Int)) < (0 : Int)))
 (.leaf (mkR fszAttr.rs ((-1 : Int), ())) [] [])
 (.br (decide (IntKind.i64.wrap (IntKind.i64.wrap (n - (↑x.name.size : Int)) - (↑x.value.size : Int)) < (0 : Int)))
  (.leaf (mkR fszAttr.rs ((-1 : Int), ())) [] [])
  (.leaf (mkR fszAttr.rs (IntKind.i64.wrap (IntKind.i64.wrap (n - (↑x.name.size : Int)) - (↑x.value.size : Int)), ())) [] []))) (by kernel_rfl) ?_
  refine br_i (fun h1 => Fct.leafY ?_) (fun h1 => br_i (fun h2 => Fct.leafY ?_) (fun h2 => Fct.leafY ?_))
  all_goals try simp only [decide_eq_true_eq, decide_eq_false_iff_not, Bool.not_eq_true', Bool.not_eq_false', bne_iff_ne, bne_eq_false_iff_eq, beq_iff_eq, beq_eq_false_iff_ne, baEq, Int.not_lt, Int.not_le, ne_eq, Decidable.not_not] at *
  all_goals try simp only [fszAttr, baSz, List.size_toArray, List.length_cons, List.length_nil, Nat.reduceAdd, Int.toNat_zero, List.drop_zero, decide_eq_true_eq, decide_eq_false_iff_not, Bool.not_eq_true', Bool.not_eq_false', bne_iff_ne, bne_eq_false_iff_eq, beq_iff_eq, beq_eq_false_iff_ne, Bool.not_eq_true, Bool.not_eq_false, ne_eq, Decidable.not_not, baEq, decide_not, Prod.mk.injEq, and_true, true_and, Room, List.nil_append, Nat.zero_add, Int.not_lt, Int.not_le, Sh.good, Sh.fc, enc, List.forall_mem_cons, List.not_mem_nil, false_implies, implies_true, goodC, maxLen] at *
  all_goals grind [wrapId', lessen, szAttr])
def E13 : D.Env := E12.add 171 fszAttr
theorem E13ok : EOk Tryz.prog E13 := E12ok.add k171_12
-- laws.toAttr
theorem k173_13 : ftoAttr.ok Tryz.prog 173 := Fct.of (S := ftoAttr) (L := fun _ _ => none) (kp := [0,1,2,3]) E13ok Tryz.func173 (by kernel_rfl) (by kernel_rfl) (by
  rintro ⟨(x : SAttr), _⟩ hp
  refine holds_of (X := .leaf (mkR ftoAttr.rs (x, ())) [] []) (by kernel_rfl) ?_
  refine Fct.leafY ?_
  all_goals try simp only [decide_eq_true_eq, decide_eq_false_iff_not, Bool.not_eq_true', Bool.not_eq_false', bne_iff_ne, bne_eq_false_iff_eq, beq_iff_eq, beq_eq_false_iff_ne, baEq, Int.not_lt, Int.not_le, ne_eq, Decidable.not_not] at *
  all_goals try simp only [ftoAttr, baSz, List.size_toArray, List.length_cons, List.length_nil, Nat.reduceAdd, Int.toNat_zero, List.drop_zero, decide_eq_true_eq, decide_eq_false_iff_not, Bool.not_eq_true', Bool.not_eq_false', bne_iff_ne, bne_eq_false_iff_eq, beq_iff_eq, beq_eq_false_iff_ne, Bool.not_eq_true, Bool.not_eq_false, ne_eq, Decidable.not_not, baEq, decide_not, Prod.mk.injEq, and_true, true_and, Room, List.nil_append, Nat.zero_add, Int.not_lt, Int.not_le] at *
  all_goals first | trivial | rfl | grind [szAttr])
def E14 : D.Env := E13.add 173 ftoAttr
theorem E14ok : EOk Tryz.prog E14 := E13ok.add k173_13
-- laws.eqAttr
set_option maxHeartbeats 2000000 in
theorem k169_14 : feqAttr.ok Tryz.prog 169 := Fct.of (S := feqAttr) (L := fun _ _ => none) (kp := [0,1,2,3,4,9,14]) E14ok Tryz.func169 (by kernel_rfl) (by kernel_rfl) (by
  rintro ⟨(x : SAttr), (y : SAttr), _⟩ hp
  refine holds_of (X := .br (!x.name.toList == y.name.toList)
 (.leaf (mkR feqAttr.rs (false, ())) [] [])
 (.br (!x.value.toList == y.value.toList)
  (.leaf (mkR feqAttr.rs (false, ())) [] [])
  (.leaf (mkR feqAttr.rs (true, ())) [] []))) (by kernel_rfl) ?_
  refine br_i (fun h1 => Fct.leafY ?_) (fun h1 => br_i (fun h2 => Fct.leafY ?_) (fun h2 => Fct.leafY ?_))
  all_goals try simp only [decide_eq_true_eq, decide_eq_false_iff_not, Bool.not_eq_true', Bool.not_eq_false', bne_iff_ne, bne_eq_false_iff_eq, beq_iff_eq, beq_eq_false_iff_ne, baEq, Int.not_lt, Int.not_le, ne_eq, Decidable.not_not] at *
  all_goals try simp only [feqAttr, baSz, List.size_toArray, List.length_cons, List.length_nil, Nat.reduceAdd, Int.toNat_zero, List.drop_zero, decide_eq_true_eq, decide_eq_false_iff_not, Bool.not_eq_true', Bool.not_eq_false', bne_iff_ne, bne_eq_false_iff_eq, beq_iff_eq, beq_eq_false_iff_ne, Bool.not_eq_true, Bool.not_eq_false, ne_eq, Decidable.not_not, baEq, decide_not, Prod.mk.injEq, and_true, true_and, Room, List.nil_append, Nat.zero_add, Int.not_lt, Int.not_le] at *
  all_goals first | trivial | (cases x; cases y; simp_all; done) | (simp only [szAttr] at *; omega) | grind [szAttr])
def E15 : D.Env := E14.add 169 feqAttr
theorem E15ok : EOk Tryz.prog E15 := E14ok.add k169_14
-- laws.szAttrS
set_option maxHeartbeats 2000000 in
theorem k161_15 : fszAttrS.ok Tryz.prog 161 := Fct.of (S := fszAttrS) (L := fun ⟨l, n, _⟩ => fun | 5 => some (LszS .attr szAttr l n) | _ => none) (kp := [0,1,4,5,11,15,25]) E15ok Tryz.func161 (by kernel_rfl) (by kernel_rfl) (by
  rintro ⟨(l : List SAttr), (n : Int), _⟩ hp
  refine holds_of (X := .br (decide (IntKind.i64.wrap (n - (↑l.length : Int)) < (0 : Int)))
 (.leaf (mkR fszAttrS.rs ((-1 : Int), ())) [] [])
 (lpx (LszS .attr szAttr l n) (IntKind.i64.wrap (n - (↑l.length : Int)), ((0 : Int), ())) fun (y2 : Int × Int × PUnit) bk2 =>
  .br (decide (y2.snd.fst < (↑l.length : Int)))
   (.ob ((0 : Int) ≤ y2.snd.fst ∧ y2.snd.fst < (↑l.length : Int)) <|
    .ob (fszAttr.pre (l.getD y2.snd.fst.toNat default, y2.fst, ())) <|
    .lt (Int × PUnit) (fszAttr.fn (l.getD y2.snd.fst.toNat default, y2.fst, ())) fun z2 =>
    .br (decide (z2.fst < (0 : Int)))
     (.leaf (mkR fszAttrS.rs ((-1 : Int), ())) [] [])
     (.ob (l = l) <|
      .ob (Value.bool (decide (IntKind.i64.wrap (n - (↑l.length : Int)) < (0 : Int))) =
  Value.bool (decide (IntKind.i64.wrap (n - (↑l.length : Int)) < (0 : Int)))) <|
      .ob (bk2 (z2.fst, (IntKind.i64.wrap (y2.snd.fst + (1 : Int)), ()))) <|
      .ok))
   (.leaf (mkR fszAttrS.rs (y2.fst, ())) [] []))) (by kernel_rfl) ?_
  refine br_i (fun h1 => Fct.leafY ?_) (fun h1 => lpx_i ?_ fun (y2 : Int × Int × PUnit) i2 => br_i (fun h3 => ob_i ?_ fun o4 => ob_i ?_ fun o5 => lt_i (br_i (fun h6 => Fct.leafY ?_) (fun h6 => ob_i rfl fun _ => ob_i rfl fun _ => ob_i ?_ fun o7 => trivial))) (fun h3 => Fct.leafY ?_))
  all_goals try simp only [decide_eq_true_eq, decide_eq_false_iff_not, Bool.not_eq_true', Bool.not_eq_false', bne_iff_ne, bne_eq_false_iff_eq, beq_iff_eq, beq_eq_false_iff_ne, baEq, Int.not_lt, Int.not_le, ne_eq, Decidable.not_not] at *
  all_goals try simp only [LszS, fszAttr, fszAttrS, baSz, List.size_toArray, List.length_cons, List.length_nil, Nat.reduceAdd, Int.toNat_zero, List.drop_zero, decide_eq_true_eq, decide_eq_false_iff_not, Bool.not_eq_true', Bool.not_eq_false', bne_iff_ne, bne_eq_false_iff_eq, beq_iff_eq, beq_eq_false_iff_ne, Bool.not_eq_true, Bool.not_eq_false, ne_eq, Decidable.not_not, baEq, decide_not, Prod.mk.injEq, and_true, true_and, Room, List.nil_append, Nat.zero_add, Int.not_lt, Int.not_le] at *
  · have := good_len hp.1; simp only [maxLen] at this; rw [wrapId (by omega)] at h1
    rw [lessenNeg (by simp only [szL]; omega)]
  · have := good_len hp.1; simp only [maxLen] at this
    rw [wrapId (by omega)] at h1 ⊢
    exact ⟨by omega, by omega, h1, by simp⟩
  · omega
  · exact ⟨good_getD hp.1 (by omega), by omega, by omega⟩
  · have hs := sum_take_le szAttr l (y2.2.1.toNat + 1)
    rw [sum_take szAttr (by omega)] at hs
    rw [lessen_lt (by omega)] at h6
    rw [lessenNeg (by simp only [szL]; omega)]
  · have hw : IntKind.i64.wrap (y2.2.1 + 1) = y2.2.1 + 1 := wrapId (by have := good_len hp.1; simp only [maxLen] at this; omega)
    have h7 : ¬ lessen y2.1 (szAttr (l.getD y2.2.1.toNat default)) < 0 := by omega
    rw [lessen_lt (by omega)] at h7
    rw [hw, toNat1 (by omega), sum_take szAttr (by omega), lessen_ge (by omega)]
    exact ⟨⟨by omega, by omega, by omega, by omega⟩, by omega⟩
  · have e : l.take y2.2.1.toNat = l := List.take_of_length_le (by omega)
    rw [e] at i2
    have hz : ((szL szAttr l : Nat) : Int) = l.length + (l.map szAttr).sum := by simp only [szL]; omega
    rw [lessen_ge (by omega)]
    show y2.1 = n - ((szL szAttr l : Nat) : Int)
    omega)
def E16 : D.Env := E15.add 161 fszAttrS
theorem E16ok : EOk Tryz.prog E16 := E15ok.add k161_15
-- laws.toAttrS
theorem k165_16 : ftoAttrS.ok Tryz.prog 165 := Fct.of (S := ftoAttrS) (L := fun ⟨l, _⟩ => fun | 3 => some (LtoS .attr l) | _ => none) (kp := [0,2,3,4,11]) E16ok Tryz.func165 (by kernel_rfl) (by kernel_rfl) (by
  rintro ⟨(l : List SAttr), _⟩ hp
  refine holds_of (X := .ob ((↑l.length : Int) = (↑l.length : Int) ∧
  (0 : Int) ≤ (↑l.length : Int) ∧
    (32 : Int) * (↑l.length : Int) ≤ (140737488355328 : Int) ∧ (↑l.length : Int) ≤ (140737488355328 : Int)) <|
 lpx (LtoS .attr l) ((0 : Int), (List.replicate (↑l.length : Int).toNat default, ())) fun (y2 : Int × List SAttr × PUnit) bk2 =>
 .br (decide (y2.fst < (↑l.length : Int)))
  (.ob ((0 : Int) ≤ y2.fst ∧ y2.fst < (↑l.length : Int)) <|
   .ob (ftoAttr.pre (l.getD y2.fst.toNat default, ())) <|
   .lt (SAttr × PUnit) (ftoAttr.fn (l.getD y2.fst.toNat default, ())) fun z2 =>
   .ob ((0 : Int) ≤ y2.fst ∧ y2.fst < (↑y2.snd.fst.length : Int)) <|
    .ob (y2.fst.toNat < y2.snd.fst.length) <|
    .lt (List SAttr) (y2.snd.fst.modify y2.fst.toNat fun z => z2.fst) fun z3 =>
    .ob (l = l) <|
     .ob (bk2 (IntKind.i64.wrap (y2.fst + (1 : Int)), (z3, ()))) <|
     .ok)
  (.leaf (mkR ftoAttrS.rs (y2.snd.fst, ())) [] [])) (by kernel_rfl) ?_
  refine ob_i ?_ fun o1 => lpx_i ?_ fun (y2 : Int × List SAttr × PUnit) i2 => br_i (fun h3 => ob_i ?_ fun o4 => ob_i ?_ fun o5 => lt_i (ob_i ?_ fun o6 => ob_i ?_ fun o7 => lt_i (ob_i rfl fun _ => ob_i ?_ fun o8 => trivial))) (fun h3 => Fct.leafY ?_)
  all_goals try simp only [decide_eq_true_eq, decide_eq_false_iff_not, Bool.not_eq_true', Bool.not_eq_false', bne_iff_ne, bne_eq_false_iff_eq, beq_iff_eq, beq_eq_false_iff_ne, baEq, Int.not_lt, Int.not_le, ne_eq, Decidable.not_not] at *
  all_goals try simp only [LtoS, ftoAttr, ftoAttrS, baSz, List.size_toArray, List.length_cons, List.length_nil, Nat.reduceAdd, Int.toNat_zero, List.drop_zero, decide_eq_true_eq, decide_eq_false_iff_not, Bool.not_eq_true', Bool.not_eq_false', bne_iff_ne, bne_eq_false_iff_eq, beq_iff_eq, beq_eq_false_iff_ne, Bool.not_eq_true, Bool.not_eq_false, ne_eq, Decidable.not_not, baEq, decide_not, Prod.mk.injEq, and_true, true_and, Room, List.nil_append, Nat.zero_add, Int.not_lt, Int.not_le] at *
  · have := szL_len szAttr l; omega
  · exact ⟨by omega, by omega, by simp⟩
  · omega
  · have hs := sum_take_le szAttr l (y2.1.toNat + 1)
    rw [sum_take szAttr (by omega)] at hs
    simp only [szL] at hp; omega
  · rw [i2.2.2]; simp; omega
  · rw [i2.2.2]; simp; omega
  · have hw : IntKind.i64.wrap (y2.1 + 1) = y2.1 + 1 := wrapId (by have := szL_len szAttr l; omega)
    rw [hw, toNat1 (by omega), i2.2.2]
    refine ⟨⟨by omega, by omega, ?_⟩, by omega⟩
    rw [show l.length - y2.1.toNat = (l.length - (y2.1.toNat + 1)) + 1 from by omega, List.replicate_succ, mod_at (by simp; omega), take_succ (by omega)]
    simp
  · have e : l.take y2.1.toNat = l := List.take_of_length_le (by omega)
    rw [i2.2.2, e]; simp; omega)
def E17 : D.Env := E16.add 165 ftoAttrS
theorem E17ok : EOk Tryz.prog E17 := E16ok.add k165_16
-- laws.eqAttrS
set_option maxHeartbeats 2000000 in
theorem k157_17 : feqAttrS.ok Tryz.prog 157 := Fct.of (S := feqAttrS) (L := fun ⟨l, m, _⟩ => fun | 4 => some (LeqS .attr l m) | _ => none) (kp := [0,1,4,5,10,14,26]) E17ok Tryz.func157 (by kernel_rfl) (by kernel_rfl) (by
  rintro ⟨(l : List SAttr), (m : List SAttr), _⟩ hp
  refine holds_of (X := .br ((↑l.length : Int) != (↑m.length : Int))
 (.leaf (mkR feqAttrS.rs (false, ())) [] [])
 (lpx (LeqS .attr l m) ((0 : Int), ()) fun (y2 : Int × PUnit) bk2 =>
  .br (decide (y2.fst < (↑l.length : Int)))
   (.ob ((0 : Int) ≤ y2.fst ∧ y2.fst < (↑l.length : Int)) <|
    .ob ((0 : Int) ≤ y2.fst ∧ y2.fst < (↑m.length : Int)) <|
    .ob (feqAttr.pre (l.getD y2.fst.toNat default, m.getD y2.fst.toNat default, ())) <|
    .lt (Bool × PUnit) (feqAttr.fn (l.getD y2.fst.toNat default, m.getD y2.fst.toNat default, ())) fun z2 =>
    .br (!z2.fst)
     (.leaf (mkR feqAttrS.rs (false, ())) [] [])
     (.ob (l = l) <|
      .ob (m = m) <|
      .ob (Value.bool ((↑l.length : Int) != (↑m.length : Int)) = Value.bool ((↑l.length : Int) != (↑m.length : Int))) <|
      .ob (bk2 (IntKind.i64.wrap (y2.fst + (1 : Int)), ())) <|
      .ok))
   (.leaf (mkR feqAttrS.rs (true, ())) [] []))) (by kernel_rfl) ?_
  refine br_i (fun h1 => Fct.leafY ?_) (fun h1 => lpx_i ?_ fun (y2 : Int × PUnit) i2 => br_i (fun h3 => ob_i ?_ fun o4 => ob_i ?_ fun o5 => ob_i trivial fun _ => lt_i (br_i (fun h6 => Fct.leafY ?_) (fun h6 => ob_i rfl fun _ => ob_i rfl fun _ => ob_i rfl fun _ => ob_i ?_ fun o7 => trivial))) (fun h3 => Fct.leafY ?_))
  all_goals try simp only [decide_eq_true_eq, decide_eq_false_iff_not, Bool.not_eq_true', Bool.not_eq_false', bne_iff_ne, bne_eq_false_iff_eq, beq_iff_eq, beq_eq_false_iff_ne, baEq, Int.not_lt, Int.not_le, ne_eq, Decidable.not_not] at *
  all_goals try simp only [LeqS, feqAttr, feqAttrS, baSz, List.size_toArray, List.length_cons, List.length_nil, Nat.reduceAdd, Int.toNat_zero, List.drop_zero, decide_eq_true_eq, decide_eq_false_iff_not, Bool.not_eq_true', Bool.not_eq_false', bne_iff_ne, bne_eq_false_iff_eq, beq_iff_eq, beq_eq_false_iff_ne, Bool.not_eq_true, Bool.not_eq_false, ne_eq, Decidable.not_not, baEq, decide_not, Prod.mk.injEq, and_true, true_and, Room, List.nil_append, Nat.zero_add, Int.not_lt, Int.not_le] at *
  · rw [decide_eq_false]; rintro rfl; omega
  · exact ⟨by omega, by omega, by simp⟩
  · omega
  · omega
  · rw [decide_eq_false]; rintro rfl; exact absurd rfl h6
  · have hw : IntKind.i64.wrap (y2.1 + 1) = y2.1 + 1 := wrapId (by omega)
    rw [hw, toNat1 (by omega)]
    refine ⟨⟨by omega, by omega, ?_⟩, by omega⟩
    rw [take_succ (by omega), take_succ (by omega), i2.2.2, h6]
  · have e : l.take y2.1.toNat = l := List.take_of_length_le (by omega)
    have e2 : m.take y2.1.toNat = m := List.take_of_length_le (by omega)
    rw [decide_eq_true]; rw [← e, ← e2, i2.2.2])
def E18 : D.Env := E17.add 157 feqAttrS
theorem E18ok : EOk Tryz.prog E18 := E17ok.add k157_17
-- laws.szToken
set_option maxHeartbeats 2000000 in
theorem k136_18 : fszToken.ok Tryz.prog 136 := Fct.of (S := fszToken) (L := fun _ _ => none) (kp := [0,1,2,4,11,17,24]) E18ok Tryz.func136 (by kernel_rfl) (by kernel_rfl) (by
  rintro ⟨(x : SToken), (n : Int), _⟩ hp
  refine holds_of (X := .br (decide (IntKind.i64.wrap (n - (↑x.name.size : Int)) < (0 : Int)))
 (.leaf (mkR fszToken.rs ((-1 : Int), ())) [] [])
 (.ob (fszAttrS.pre (x.attrs, IntKind.i64.wrap (n - (↑x.name.size : Int)), ())) <|
  .lt (Int × PUnit) (fszAttrS.fn (x.attrs, IntKind.i64.wrap (n - (↑x.name.size : Int)), ())) fun z2 =>
  .br (decide (z2.fst < (0 : Int)))
   (.leaf (mkR fszToken.rs ((-1 : Int), ())) [] [])
   (.br (decide (IntKind.i64.wrap (z2.fst - (↑x.text.size : Int)) < (0 : Int)))
    (.leaf (mkR fszToken.rs ((-1 : Int), ())) [] [])
    (.leaf (mkR fszToken.rs (IntKind.i64.wrap (z2.fst - (↑x.text.size : Int)), ())) [] [])))) (by kernel_rfl) ?_
  refine br_i (fun h1 => Fct.leafY ?_) (fun h1 => ob_i ?_ fun o2 => lt_i (br_i (fun h3 => Fct.leafY ?_) (fun h3 => br_i (fun h4 => Fct.leafY ?_) (fun h4 => Fct.leafY ?_))))
  all_goals try simp only [decide_eq_true_eq, decide_eq_false_iff_not, Bool.not_eq_true', Bool.not_eq_false', bne_iff_ne, bne_eq_false_iff_eq, beq_iff_eq, beq_eq_false_iff_ne, baEq, Int.not_lt, Int.not_le, ne_eq, Decidable.not_not] at *
  all_goals try simp only [fszAttrS, fszToken, baSz, List.size_toArray, List.length_cons, List.length_nil, Nat.reduceAdd, Int.toNat_zero, List.drop_zero, decide_eq_true_eq, decide_eq_false_iff_not, Bool.not_eq_true', Bool.not_eq_false', bne_iff_ne, bne_eq_false_iff_eq, beq_iff_eq, beq_eq_false_iff_ne, Bool.not_eq_true, Bool.not_eq_false, ne_eq, Decidable.not_not, baEq, decide_not, Prod.mk.injEq, and_true, true_and, Room, List.nil_append, Nat.zero_add, Int.not_lt, Int.not_le, Sh.good, Sh.fc, enc, List.forall_mem_cons, List.not_mem_nil, false_implies, implies_true, goodC, maxLen] at *
  all_goals grind [wrapId', lessen, szL, szToken])
def E19 : D.Env := E18.add 136 fszToken
theorem E19ok : EOk Tryz.prog E19 := E18ok.add k136_18
-- laws.toToken
theorem k145_19 : ftoToken.ok Tryz.prog 145 := Fct.of (S := ftoToken) (L := fun _ _ => none) (kp := [0,1,2,3]) E19ok Tryz.func145 (by kernel_rfl) (by kernel_rfl) (by
  rintro ⟨(x : SToken), _⟩ hp
  refine holds_of (X := .ob (ftoAttrS.pre (x.attrs, ())) <|
 .lt (List SAttr × PUnit) (ftoAttrS.fn (x.attrs, ())) fun z2 =>
 .leaf (mkR ftoToken.rs (⟨x.kind, x.name, z2.fst, x.text⟩, ())) [] []) (by kernel_rfl) ?_
  refine ob_i ?_ fun o1 => lt_i (Fct.leafY ?_)
  all_goals try simp only [decide_eq_true_eq, decide_eq_false_iff_not, Bool.not_eq_true', Bool.not_eq_false', bne_iff_ne, bne_eq_false_iff_eq, beq_iff_eq, beq_eq_false_iff_ne, baEq, Int.not_lt, Int.not_le, ne_eq, Decidable.not_not] at *
  all_goals try simp only [ftoAttrS, ftoToken, baSz, List.size_toArray, List.length_cons, List.length_nil, Nat.reduceAdd, Int.toNat_zero, List.drop_zero, decide_eq_true_eq, decide_eq_false_iff_not, Bool.not_eq_true', Bool.not_eq_false', bne_iff_ne, bne_eq_false_iff_eq, beq_iff_eq, beq_eq_false_iff_ne, Bool.not_eq_true, Bool.not_eq_false, ne_eq, Decidable.not_not, baEq, decide_not, Prod.mk.injEq, and_true, true_and, Room, List.nil_append, Nat.zero_add, Int.not_lt, Int.not_le] at *
  all_goals first | trivial | rfl | grind [szL, szToken])
def E20 : D.Env := E19.add 145 ftoToken
theorem E20ok : EOk Tryz.prog E20 := E19ok.add k145_19
-- laws.eqToken
set_option maxHeartbeats 2000000 in
theorem k120_20 : feqToken.ok Tryz.prog 120 := Fct.of (S := feqToken) (L := fun _ _ => none) (kp := [0,1,2,3,4,9,14,20,25]) E20ok Tryz.func120 (by kernel_rfl) (by kernel_rfl) (by
  rintro ⟨(x : SToken), (y : SToken), _⟩ hp
  refine holds_of (X := .br (x.kind != y.kind)
 (.leaf (mkR feqToken.rs (false, ())) [] [])
 (.br (!x.name.toList == y.name.toList)
  (.leaf (mkR feqToken.rs (false, ())) [] [])
  (.ob (feqAttrS.pre (x.attrs, y.attrs, ())) <|
   .lt (Bool × PUnit) (feqAttrS.fn (x.attrs, y.attrs, ())) fun z2 =>
   .br (!z2.fst)
    (.leaf (mkR feqToken.rs (false, ())) [] [])
    (.br (!x.text.toList == y.text.toList)
     (.leaf (mkR feqToken.rs (false, ())) [] [])
     (.leaf (mkR feqToken.rs (true, ())) [] []))))) (by kernel_rfl) ?_
  refine br_i (fun h1 => Fct.leafY ?_) (fun h1 => br_i (fun h2 => Fct.leafY ?_) (fun h2 => ob_i ?_ fun o3 => lt_i (br_i (fun h4 => Fct.leafY ?_) (fun h4 => br_i (fun h5 => Fct.leafY ?_) (fun h5 => Fct.leafY ?_)))))
  all_goals try simp only [decide_eq_true_eq, decide_eq_false_iff_not, Bool.not_eq_true', Bool.not_eq_false', bne_iff_ne, bne_eq_false_iff_eq, beq_iff_eq, beq_eq_false_iff_ne, baEq, Int.not_lt, Int.not_le, ne_eq, Decidable.not_not] at *
  all_goals try simp only [feqAttrS, feqToken, baSz, List.size_toArray, List.length_cons, List.length_nil, Nat.reduceAdd, Int.toNat_zero, List.drop_zero, decide_eq_true_eq, decide_eq_false_iff_not, Bool.not_eq_true', Bool.not_eq_false', bne_iff_ne, bne_eq_false_iff_eq, beq_iff_eq, beq_eq_false_iff_ne, Bool.not_eq_true, Bool.not_eq_false, ne_eq, Decidable.not_not, baEq, decide_not, Prod.mk.injEq, and_true, true_and, Room, List.nil_append, Nat.zero_add, Int.not_lt, Int.not_le] at *
  all_goals first | trivial | (cases x; cases y; simp_all; done) | (simp only [szL, szToken] at *; omega) | grind [szL, szToken])
def E21 : D.Env := E20.add 120 feqToken
theorem E21ok : EOk Tryz.prog E21 := E20ok.add k120_20
-- laws.szTokenS
set_option maxHeartbeats 2000000 in
theorem k87_21 : fszTokenS.ok Tryz.prog 87 := Fct.of (S := fszTokenS) (L := fun ⟨l, n, _⟩ => fun | 5 => some (LszS .token szToken l n) | _ => none) (kp := [0,1,4,5,11,15,25]) E21ok Tryz.func87 (by kernel_rfl) (by kernel_rfl) (by
  rintro ⟨(l : List SToken), (n : Int), _⟩ hp
  refine holds_of (X := .br (decide (IntKind.i64.wrap (n - (↑l.length : Int)) < (0 : Int)))
 (.leaf (mkR fszTokenS.rs ((-1 : Int), ())) [] [])
 (lpx (LszS .token szToken l n) (IntKind.i64.wrap (n - (↑l.length : Int)), ((0 : Int), ())) fun (y2 : Int × Int × PUnit) bk2 =>
  .br (decide (y2.snd.fst < (↑l.length : Int)))
   (.ob ((0 : Int) ≤ y2.snd.fst ∧ y2.snd.fst < (↑l.length : Int)) <|
    .ob (fszToken.pre (l.getD y2.snd.fst.toNat default, y2.fst, ())) <|
    .lt (Int × PUnit) (fszToken.fn (l.getD y2.snd.fst.toNat default, y2.fst, ())) fun z2 =>
    .br (decide (z2.fst < (0 : Int)))
     (.leaf (mkR fszTokenS.rs ((-1 : Int), ())) [] [])
     (.ob (l = l) <|
      .ob (Value.bool (decide (IntKind.i64.wrap (n - (↑l.length : Int)) < (0 : Int))) =
  Value.bool (decide (IntKind.i64.wrap (n - (↑l.length : Int)) < (0 : Int)))) <|
      .ob (bk2 (z2.fst, (IntKind.i64.wrap (y2.snd.fst + (1 : Int)), ()))) <|
      .ok))
   (.leaf (mkR fszTokenS.rs (y2.fst, ())) [] []))) (by kernel_rfl) ?_
  refine br_i (fun h1 => Fct.leafY ?_) (fun h1 => lpx_i ?_ fun (y2 : Int × Int × PUnit) i2 => br_i (fun h3 => ob_i ?_ fun o4 => ob_i ?_ fun o5 => lt_i (br_i (fun h6 => Fct.leafY ?_) (fun h6 => ob_i rfl fun _ => ob_i rfl fun _ => ob_i ?_ fun o7 => trivial))) (fun h3 => Fct.leafY ?_))
  all_goals try simp only [decide_eq_true_eq, decide_eq_false_iff_not, Bool.not_eq_true', Bool.not_eq_false', bne_iff_ne, bne_eq_false_iff_eq, beq_iff_eq, beq_eq_false_iff_ne, baEq, Int.not_lt, Int.not_le, ne_eq, Decidable.not_not] at *
  all_goals try simp only [LszS, fszToken, fszTokenS, baSz, List.size_toArray, List.length_cons, List.length_nil, Nat.reduceAdd, Int.toNat_zero, List.drop_zero, decide_eq_true_eq, decide_eq_false_iff_not, Bool.not_eq_true', Bool.not_eq_false', bne_iff_ne, bne_eq_false_iff_eq, beq_iff_eq, beq_eq_false_iff_ne, Bool.not_eq_true, Bool.not_eq_false, ne_eq, Decidable.not_not, baEq, decide_not, Prod.mk.injEq, and_true, true_and, Room, List.nil_append, Nat.zero_add, Int.not_lt, Int.not_le] at *
  · have := good_len hp.1; simp only [maxLen] at this; rw [wrapId (by omega)] at h1
    rw [lessenNeg (by simp only [szL]; omega)]
  · have := good_len hp.1; simp only [maxLen] at this
    rw [wrapId (by omega)] at h1 ⊢
    exact ⟨by omega, by omega, h1, by simp⟩
  · omega
  · exact ⟨good_getD hp.1 (by omega), by omega, by omega⟩
  · have hs := sum_take_le szToken l (y2.2.1.toNat + 1)
    rw [sum_take szToken (by omega)] at hs
    rw [lessen_lt (by omega)] at h6
    rw [lessenNeg (by simp only [szL]; omega)]
  · have hw : IntKind.i64.wrap (y2.2.1 + 1) = y2.2.1 + 1 := wrapId (by have := good_len hp.1; simp only [maxLen] at this; omega)
    have h7 : ¬ lessen y2.1 (szToken (l.getD y2.2.1.toNat default)) < 0 := by omega
    rw [lessen_lt (by omega)] at h7
    rw [hw, toNat1 (by omega), sum_take szToken (by omega), lessen_ge (by omega)]
    exact ⟨⟨by omega, by omega, by omega, by omega⟩, by omega⟩
  · have e : l.take y2.2.1.toNat = l := List.take_of_length_le (by omega)
    rw [e] at i2
    have hz : ((szL szToken l : Nat) : Int) = l.length + (l.map szToken).sum := by simp only [szL]; omega
    rw [lessen_ge (by omega)]
    show y2.1 = n - ((szL szToken l : Nat) : Int)
    omega)
def E22 : D.Env := E21.add 87 fszTokenS
theorem E22ok : EOk Tryz.prog E22 := E21ok.add k87_21
-- laws.toTokenS
theorem k100_22 : ftoTokenS.ok Tryz.prog 100 := Fct.of (S := ftoTokenS) (L := fun ⟨l, _⟩ => fun | 3 => some (LtoS .token l) | _ => none) (kp := [0,2,3,4,11]) E22ok Tryz.func100 (by kernel_rfl) (by kernel_rfl) (by
  rintro ⟨(l : List SToken), _⟩ hp
  refine holds_of (X := .ob ((↑l.length : Int) = (↑l.length : Int) ∧
  (0 : Int) ≤ (↑l.length : Int) ∧
    (64 : Int) * (↑l.length : Int) ≤ (140737488355328 : Int) ∧ (↑l.length : Int) ≤ (140737488355328 : Int)) <|
 lpx (LtoS .token l) ((0 : Int), (List.replicate (↑l.length : Int).toNat default, ())) fun (y2 : Int × List SToken × PUnit) bk2 =>
 .br (decide (y2.fst < (↑l.length : Int)))
  (.ob ((0 : Int) ≤ y2.fst ∧ y2.fst < (↑l.length : Int)) <|
   .ob (ftoToken.pre (l.getD y2.fst.toNat default, ())) <|
   .lt (SToken × PUnit) (ftoToken.fn (l.getD y2.fst.toNat default, ())) fun z2 =>
   .ob ((0 : Int) ≤ y2.fst ∧ y2.fst < (↑y2.snd.fst.length : Int)) <|
    .ob (y2.fst.toNat < y2.snd.fst.length) <|
    .lt (List SToken) (y2.snd.fst.modify y2.fst.toNat fun z => z2.fst) fun z3 =>
    .ob (l = l) <|
     .ob (bk2 (IntKind.i64.wrap (y2.fst + (1 : Int)), (z3, ()))) <|
     .ok)
  (.leaf (mkR ftoTokenS.rs (y2.snd.fst, ())) [] [])) (by kernel_rfl) ?_
  refine ob_i ?_ fun o1 => lpx_i ?_ fun (y2 : Int × List SToken × PUnit) i2 => br_i (fun h3 => ob_i ?_ fun o4 => ob_i ?_ fun o5 => lt_i (ob_i ?_ fun o6 => ob_i ?_ fun o7 => lt_i (ob_i rfl fun _ => ob_i ?_ fun o8 => trivial))) (fun h3 => Fct.leafY ?_)
  all_goals try simp only [decide_eq_true_eq, decide_eq_false_iff_not, Bool.not_eq_true', Bool.not_eq_false', bne_iff_ne, bne_eq_false_iff_eq, beq_iff_eq, beq_eq_false_iff_ne, baEq, Int.not_lt, Int.not_le, ne_eq, Decidable.not_not] at *
  all_goals try simp only [LtoS, ftoToken, ftoTokenS, baSz, List.size_toArray, List.length_cons, List.length_nil, Nat.reduceAdd, Int.toNat_zero, List.drop_zero, decide_eq_true_eq, decide_eq_false_iff_not, Bool.not_eq_true', Bool.not_eq_false', bne_iff_ne, bne_eq_false_iff_eq, beq_iff_eq, beq_eq_false_iff_ne, Bool.not_eq_true, Bool.not_eq_false, ne_eq, Decidable.not_not, baEq, decide_not, Prod.mk.injEq, and_true, true_and, Room, List.nil_append, Nat.zero_add, Int.not_lt, Int.not_le] at *
  · have := szL_len szToken l; omega
  · exact ⟨by omega, by omega, by simp⟩
  · omega
  · have hs := sum_take_le szToken l (y2.1.toNat + 1)
    rw [sum_take szToken (by omega)] at hs
    simp only [szL] at hp; omega
  · rw [i2.2.2]; simp; omega
  · rw [i2.2.2]; simp; omega
  · have hw : IntKind.i64.wrap (y2.1 + 1) = y2.1 + 1 := wrapId (by have := szL_len szToken l; omega)
    rw [hw, toNat1 (by omega), i2.2.2]
    refine ⟨⟨by omega, by omega, ?_⟩, by omega⟩
    rw [show l.length - y2.1.toNat = (l.length - (y2.1.toNat + 1)) + 1 from by omega, List.replicate_succ, mod_at (by simp; omega), take_succ (by omega)]
    simp
  · have e : l.take y2.1.toNat = l := List.take_of_length_le (by omega)
    rw [i2.2.2, e]; simp; omega)
def E23 : D.Env := E22.add 100 ftoTokenS
theorem E23ok : EOk Tryz.prog E23 := E22ok.add k100_22
-- laws.eqTokenS
set_option maxHeartbeats 2000000 in
theorem k54_23 : feqTokenS.ok Tryz.prog 54 := Fct.of (S := feqTokenS) (L := fun ⟨l, m, _⟩ => fun | 4 => some (LeqS .token l m) | _ => none) (kp := [0,1,4,5,10,14,26]) E23ok Tryz.func54 (by kernel_rfl) (by kernel_rfl) (by
  rintro ⟨(l : List SToken), (m : List SToken), _⟩ hp
  refine holds_of (X := .br ((↑l.length : Int) != (↑m.length : Int))
 (.leaf (mkR feqTokenS.rs (false, ())) [] [])
 (lpx (LeqS .token l m) ((0 : Int), ()) fun (y2 : Int × PUnit) bk2 =>
  .br (decide (y2.fst < (↑l.length : Int)))
   (.ob ((0 : Int) ≤ y2.fst ∧ y2.fst < (↑l.length : Int)) <|
    .ob ((0 : Int) ≤ y2.fst ∧ y2.fst < (↑m.length : Int)) <|
    .ob (feqToken.pre (l.getD y2.fst.toNat default, m.getD y2.fst.toNat default, ())) <|
    .lt (Bool × PUnit) (feqToken.fn (l.getD y2.fst.toNat default, m.getD y2.fst.toNat default, ())) fun z2 =>
    .br (!z2.fst)
     (.leaf (mkR feqTokenS.rs (false, ())) [] [])
     (.ob (l = l) <|
      .ob (m = m) <|
      .ob (Value.bool ((↑l.length : Int) != (↑m.length : Int)) = Value.bool ((↑l.length : Int) != (↑m.length : Int))) <|
      .ob (bk2 (IntKind.i64.wrap (y2.fst + (1 : Int)), ())) <|
      .ok))
   (.leaf (mkR feqTokenS.rs (true, ())) [] []))) (by kernel_rfl) ?_
  refine br_i (fun h1 => Fct.leafY ?_) (fun h1 => lpx_i ?_ fun (y2 : Int × PUnit) i2 => br_i (fun h3 => ob_i ?_ fun o4 => ob_i ?_ fun o5 => ob_i ?_ fun o6 => lt_i (br_i (fun h7 => Fct.leafY ?_) (fun h7 => ob_i rfl fun _ => ob_i rfl fun _ => ob_i rfl fun _ => ob_i ?_ fun o8 => trivial))) (fun h3 => Fct.leafY ?_))
  all_goals try simp only [decide_eq_true_eq, decide_eq_false_iff_not, Bool.not_eq_true', Bool.not_eq_false', bne_iff_ne, bne_eq_false_iff_eq, beq_iff_eq, beq_eq_false_iff_ne, baEq, Int.not_lt, Int.not_le, ne_eq, Decidable.not_not] at *
  all_goals try simp only [LeqS, feqToken, feqTokenS, baSz, List.size_toArray, List.length_cons, List.length_nil, Nat.reduceAdd, Int.toNat_zero, List.drop_zero, decide_eq_true_eq, decide_eq_false_iff_not, Bool.not_eq_true', Bool.not_eq_false', bne_iff_ne, bne_eq_false_iff_eq, beq_iff_eq, beq_eq_false_iff_ne, Bool.not_eq_true, Bool.not_eq_false, ne_eq, Decidable.not_not, baEq, decide_not, Prod.mk.injEq, and_true, true_and, Room, List.nil_append, Nat.zero_add, Int.not_lt, Int.not_le] at *
  all_goals have hl := szL_len szToken l
  · rw [decide_eq_false]; rintro rfl; omega
  · exact ⟨by omega, by omega, by simp⟩
  · omega
  · omega
  · have hs := szL_get szToken (l := l) (i := y2.1.toNat) (by omega); omega
  · rw [decide_eq_false]; rintro rfl; first | exact absurd rfl h6 | exact absurd rfl h7
  · have hw : IntKind.i64.wrap (y2.1 + 1) = y2.1 + 1 := wrapId (by omega)
    rw [hw, toNat1 (by omega)]
    refine ⟨⟨by omega, by omega, ?_⟩, by omega⟩
    rw [take_succ (by omega), take_succ (by omega), i2.2.2]; first | rw [h6] | rw [h7]
  · have e : l.take y2.1.toNat = l := List.take_of_length_le (by omega)
    have e2 : m.take y2.1.toNat = m := List.take_of_length_le (by omega)
    rw [decide_eq_true]; rw [← e, ← e2, i2.2.2])
def E24 : D.Env := E23.add 54 feqTokenS
theorem E24ok : EOk Tryz.prog E24 := E23ok.add k54_23
-- laws.szTokenizer
set_option maxHeartbeats 2000000 in
theorem k86_24 : fszTokenizer.ok Tryz.prog 86 := Fct.of (S := fszTokenizer) (L := fun _ _ => none) (kp := [0,1,2,4,11]) E24ok Tryz.func86 (by kernel_rfl) (by kernel_rfl) (by
  rintro ⟨(x : STokenizer), (n : Int), _⟩ hp
  refine holds_of (X := .br (decide (IntKind.i64.wrap (n - (↑x.rest.size : Int)) < (0 : Int)))
 (.leaf (mkR fszTokenizer.rs ((-1 : Int), ())) [] [])
 (.leaf (mkR fszTokenizer.rs (IntKind.i64.wrap (n - (↑x.rest.size : Int)), ())) [] [])) (by kernel_rfl) ?_
  refine br_i (fun h1 => Fct.leafY ?_) (fun h1 => Fct.leafY ?_)
  all_goals try simp only [decide_eq_true_eq, decide_eq_false_iff_not, Bool.not_eq_true', Bool.not_eq_false', bne_iff_ne, bne_eq_false_iff_eq, beq_iff_eq, beq_eq_false_iff_ne, baEq, Int.not_lt, Int.not_le, ne_eq, Decidable.not_not] at *
  all_goals try simp only [fszTokenizer, baSz, List.size_toArray, List.length_cons, List.length_nil, Nat.reduceAdd, Int.toNat_zero, List.drop_zero, decide_eq_true_eq, decide_eq_false_iff_not, Bool.not_eq_true', Bool.not_eq_false', bne_iff_ne, bne_eq_false_iff_eq, beq_iff_eq, beq_eq_false_iff_ne, Bool.not_eq_true, Bool.not_eq_false, ne_eq, Decidable.not_not, baEq, decide_not, Prod.mk.injEq, and_true, true_and, Room, List.nil_append, Nat.zero_add, Int.not_lt, Int.not_le, Sh.good, Sh.fc, enc, List.forall_mem_cons, List.not_mem_nil, false_implies, implies_true, goodC, maxLen] at *
  all_goals grind [wrapId', lessen, szTokenizer])
def E25 : D.Env := E24.add 86 fszTokenizer
theorem E25ok : EOk Tryz.prog E25 := E24ok.add k86_24
-- laws.toTokenizer
theorem k99_25 : ftoTokenizer.ok Tryz.prog 99 := Fct.of (S := ftoTokenizer) (L := fun _ _ => none) (kp := [0,1,2,3]) E25ok Tryz.func99 (by kernel_rfl) (by kernel_rfl) (by
  rintro ⟨(x : STokenizer), _⟩ hp
  refine holds_of (X := .leaf (mkR ftoTokenizer.rs (x, ())) [] []) (by kernel_rfl) ?_
  refine Fct.leafY ?_
  all_goals try simp only [decide_eq_true_eq, decide_eq_false_iff_not, Bool.not_eq_true', Bool.not_eq_false', bne_iff_ne, bne_eq_false_iff_eq, beq_iff_eq, beq_eq_false_iff_ne, baEq, Int.not_lt, Int.not_le, ne_eq, Decidable.not_not] at *
  all_goals try simp only [ftoTokenizer, baSz, List.size_toArray, List.length_cons, List.length_nil, Nat.reduceAdd, Int.toNat_zero, List.drop_zero, decide_eq_true_eq, decide_eq_false_iff_not, Bool.not_eq_true', Bool.not_eq_false', bne_iff_ne, bne_eq_false_iff_eq, beq_iff_eq, beq_eq_false_iff_ne, Bool.not_eq_true, Bool.not_eq_false, ne_eq, Decidable.not_not, baEq, decide_not, Prod.mk.injEq, and_true, true_and, Room, List.nil_append, Nat.zero_add, Int.not_lt, Int.not_le] at *
  all_goals first | trivial | rfl | grind [szTokenizer])
def E26 : D.Env := E25.add 99 ftoTokenizer
theorem E26ok : EOk Tryz.prog E26 := E25ok.add k99_25
-- laws.eqTokenizer
set_option maxHeartbeats 2000000 in
theorem k53_26 : feqTokenizer.ok Tryz.prog 53 := Fct.of (S := feqTokenizer) (L := fun _ _ => none) (kp := [0,1,2,3,4,9]) E26ok Tryz.func53 (by kernel_rfl) (by kernel_rfl) (by
  rintro ⟨(x : STokenizer), (y : STokenizer), _⟩ hp
  refine holds_of (X := .br (!x.rest.toList == y.rest.toList)
 (.leaf (mkR feqTokenizer.rs (false, ())) [] [])
 (.leaf (mkR feqTokenizer.rs (true, ())) [] [])) (by kernel_rfl) ?_
  refine br_i (fun h1 => Fct.leafY ?_) (fun h1 => Fct.leafY ?_)
  all_goals try simp only [decide_eq_true_eq, decide_eq_false_iff_not, Bool.not_eq_true', Bool.not_eq_false', bne_iff_ne, bne_eq_false_iff_eq, beq_iff_eq, beq_eq_false_iff_ne, baEq, Int.not_lt, Int.not_le, ne_eq, Decidable.not_not] at *
  all_goals try simp only [feqTokenizer, baSz, List.size_toArray, List.length_cons, List.length_nil, Nat.reduceAdd, Int.toNat_zero, List.drop_zero, decide_eq_true_eq, decide_eq_false_iff_not, Bool.not_eq_true', Bool.not_eq_false', bne_iff_ne, bne_eq_false_iff_eq, beq_iff_eq, beq_eq_false_iff_ne, Bool.not_eq_true, Bool.not_eq_false, ne_eq, Decidable.not_not, baEq, decide_not, Prod.mk.injEq, and_true, true_and, Room, List.nil_append, Nat.zero_add, Int.not_lt, Int.not_le] at *
  all_goals first | trivial | (cases x; cases y; simp_all; done) | (simp only [szTokenizer] at *; omega) | grind [szTokenizer])
def E27 : D.Env := E26.add 53 feqTokenizer
theorem E27ok : EOk Tryz.prog E27 := E26ok.add k53_26
-- laws.szNode
set_option maxHeartbeats 2000000 in
theorem k162_27 : fszNode.ok Tryz.prog 162 := Fct.of (S := fszNode) (L := fun _ _ => none) (kp := [0,1,2,4,11,18,24]) E27ok Tryz.func162 (by kernel_rfl) (by kernel_rfl) (by
  rintro ⟨(x : SNode), (n : Int), _⟩ hp
  refine holds_of (X := .br (decide (IntKind.i64.wrap (n - (↑x.name.size : Int)) < (0 : Int)))
 (.leaf (mkR fszNode.rs ((-1 : Int), ())) [] [])
 (.br (decide (IntKind.i64.wrap (IntKind.i64.wrap (n - (↑x.name.size : Int)) - (↑x.text.size : Int)) < (0 : Int)))
  (.leaf (mkR fszNode.rs ((-1 : Int), ())) [] [])
  (.ob (fszAttrS.pre (x.attrs, IntKind.i64.wrap (IntKind.i64.wrap (n - (↑x.name.size : Int)) - (↑x.text.size : Int)), ())) <|
   .lt (Int × PUnit) (fszAttrS.fn (x.attrs, IntKind.i64.wrap (IntKind.i64.wrap (n - (↑x.name.size : Int)) - (↑x.text.size : Int)), ())) fun z2 =>
   .br (decide (z2.fst < (0 : Int)))
    (.leaf (mkR fszNode.rs ((-1 : Int), ())) [] [])
    (.leaf (mkR fszNode.rs (z2.fst, ())) [] [])))) (by kernel_rfl) ?_
  refine br_i (fun h1 => Fct.leafY ?_) (fun h1 => br_i (fun h2 => Fct.leafY ?_) (fun h2 => ob_i ?_ fun o3 => lt_i (br_i (fun h4 => Fct.leafY ?_) (fun h4 => Fct.leafY ?_))))
  all_goals try simp only [decide_eq_true_eq, decide_eq_false_iff_not, Bool.not_eq_true', Bool.not_eq_false', bne_iff_ne, bne_eq_false_iff_eq, beq_iff_eq, beq_eq_false_iff_ne, baEq, Int.not_lt, Int.not_le, ne_eq, Decidable.not_not] at *
  all_goals try simp only [fszAttrS, fszNode, baSz, List.size_toArray, List.length_cons, List.length_nil, Nat.reduceAdd, Int.toNat_zero, List.drop_zero, decide_eq_true_eq, decide_eq_false_iff_not, Bool.not_eq_true', Bool.not_eq_false', bne_iff_ne, bne_eq_false_iff_eq, beq_iff_eq, beq_eq_false_iff_ne, Bool.not_eq_true, Bool.not_eq_false, ne_eq, Decidable.not_not, baEq, decide_not, Prod.mk.injEq, and_true, true_and, Room, List.nil_append, Nat.zero_add, Int.not_lt, Int.not_le, Sh.good, Sh.fc, enc, List.forall_mem_cons, List.not_mem_nil, false_implies, implies_true, goodC, maxLen] at *
  all_goals grind [wrapId', lessen, szL, szNode])
def E28 : D.Env := E27.add 162 fszNode
theorem E28ok : EOk Tryz.prog E28 := E27ok.add k162_27
-- laws.toNode
theorem k166_28 : ftoNode.ok Tryz.prog 166 := Fct.of (S := ftoNode) (L := fun _ _ => none) (kp := [0,1,2,3]) E28ok Tryz.func166 (by kernel_rfl) (by kernel_rfl) (by
  rintro ⟨(x : SNode), _⟩ hp
  refine holds_of (X := .ob (ftoAttrS.pre (x.attrs, ())) <|
 .lt (List SAttr × PUnit) (ftoAttrS.fn (x.attrs, ())) fun z2 =>
 .leaf (mkR ftoNode.rs (⟨x.name, x.text, x.parent, z2.fst⟩, ())) [] []) (by kernel_rfl) ?_
  refine ob_i ?_ fun o1 => lt_i (Fct.leafY ?_)
  all_goals try simp only [decide_eq_true_eq, decide_eq_false_iff_not, Bool.not_eq_true', Bool.not_eq_false', bne_iff_ne, bne_eq_false_iff_eq, beq_iff_eq, beq_eq_false_iff_ne, baEq, Int.not_lt, Int.not_le, ne_eq, Decidable.not_not] at *
  all_goals try simp only [ftoAttrS, ftoNode, baSz, List.size_toArray, List.length_cons, List.length_nil, Nat.reduceAdd, Int.toNat_zero, List.drop_zero, decide_eq_true_eq, decide_eq_false_iff_not, Bool.not_eq_true', Bool.not_eq_false', bne_iff_ne, bne_eq_false_iff_eq, beq_iff_eq, beq_eq_false_iff_ne, Bool.not_eq_true, Bool.not_eq_false, ne_eq, Decidable.not_not, baEq, decide_not, Prod.mk.injEq, and_true, true_and, Room, List.nil_append, Nat.zero_add, Int.not_lt, Int.not_le] at *
  all_goals first | trivial | rfl | grind [szL, szNode])
def E29 : D.Env := E28.add 166 ftoNode
theorem E29ok : EOk Tryz.prog E29 := E28ok.add k166_28
-- laws.eqNode
set_option maxHeartbeats 2000000 in
theorem k158_29 : feqNode.ok Tryz.prog 158 := Fct.of (S := feqNode) (L := fun _ _ => none) (kp := [0,1,2,3,4,9,14,19,25]) E29ok Tryz.func158 (by kernel_rfl) (by kernel_rfl) (by
  rintro ⟨(x : SNode), (y : SNode), _⟩ hp
  refine holds_of (X := .br (!x.name.toList == y.name.toList)
 (.leaf (mkR feqNode.rs (false, ())) [] [])
 (.br (!x.text.toList == y.text.toList)
  (.leaf (mkR feqNode.rs (false, ())) [] [])
  (.br (x.parent != y.parent)
   (.leaf (mkR feqNode.rs (false, ())) [] [])
   (.ob (feqAttrS.pre (x.attrs, y.attrs, ())) <|
    .lt (Bool × PUnit) (feqAttrS.fn (x.attrs, y.attrs, ())) fun z2 =>
    .br (!z2.fst)
     (.leaf (mkR feqNode.rs (false, ())) [] [])
     (.leaf (mkR feqNode.rs (true, ())) [] []))))) (by kernel_rfl) ?_
  refine br_i (fun h1 => Fct.leafY ?_) (fun h1 => br_i (fun h2 => Fct.leafY ?_) (fun h2 => br_i (fun h3 => Fct.leafY ?_) (fun h3 => ob_i ?_ fun o4 => lt_i (br_i (fun h5 => Fct.leafY ?_) (fun h5 => Fct.leafY ?_)))))
  all_goals try simp only [decide_eq_true_eq, decide_eq_false_iff_not, Bool.not_eq_true', Bool.not_eq_false', bne_iff_ne, bne_eq_false_iff_eq, beq_iff_eq, beq_eq_false_iff_ne, baEq, Int.not_lt, Int.not_le, ne_eq, Decidable.not_not] at *
  all_goals try simp only [feqAttrS, feqNode, baSz, List.size_toArray, List.length_cons, List.length_nil, Nat.reduceAdd, Int.toNat_zero, List.drop_zero, decide_eq_true_eq, decide_eq_false_iff_not, Bool.not_eq_true', Bool.not_eq_false', bne_iff_ne, bne_eq_false_iff_eq, beq_iff_eq, beq_eq_false_iff_ne, Bool.not_eq_true, Bool.not_eq_false, ne_eq, Decidable.not_not, baEq, decide_not, Prod.mk.injEq, and_true, true_and, Room, List.nil_append, Nat.zero_add, Int.not_lt, Int.not_le] at *
  all_goals first | trivial | (cases x; cases y; simp_all; done) | (simp only [szL, szNode] at *; omega) | grind [szL, szNode])
def E30 : D.Env := E29.add 158 feqNode
theorem E30ok : EOk Tryz.prog E30 := E29ok.add k158_29
-- laws.szNodeS
set_option maxHeartbeats 2000000 in
theorem k137_30 : fszNodeS.ok Tryz.prog 137 := Fct.of (S := fszNodeS) (L := fun ⟨l, n, _⟩ => fun | 5 => some (LszS .node szNode l n) | _ => none) (kp := [0,1,4,5,11,15,25]) E30ok Tryz.func137 (by kernel_rfl) (by kernel_rfl) (by
  rintro ⟨(l : List SNode), (n : Int), _⟩ hp
  refine holds_of (X := .br (decide (IntKind.i64.wrap (n - (↑l.length : Int)) < (0 : Int)))
 (.leaf (mkR fszNodeS.rs ((-1 : Int), ())) [] [])
 (lpx (LszS .node szNode l n) (IntKind.i64.wrap (n - (↑l.length : Int)), ((0 : Int), ())) fun (y2 : Int × Int × PUnit) bk2 =>
  .br (decide (y2.snd.fst < (↑l.length : Int)))
   (.ob ((0 : Int) ≤ y2.snd.fst ∧ y2.snd.fst < (↑l.length : Int)) <|
    .ob (fszNode.pre (l.getD y2.snd.fst.toNat default, y2.fst, ())) <|
    .lt (Int × PUnit) (fszNode.fn (l.getD y2.snd.fst.toNat default, y2.fst, ())) fun z2 =>
    .br (decide (z2.fst < (0 : Int)))
     (.leaf (mkR fszNodeS.rs ((-1 : Int), ())) [] [])
     (.ob (l = l) <|
      .ob (Value.bool (decide (IntKind.i64.wrap (n - (↑l.length : Int)) < (0 : Int))) =
  Value.bool (decide (IntKind.i64.wrap (n - (↑l.length : Int)) < (0 : Int)))) <|
      .ob (bk2 (z2.fst, (IntKind.i64.wrap (y2.snd.fst + (1 : Int)), ()))) <|
      .ok))
   (.leaf (mkR fszNodeS.rs (y2.fst, ())) [] []))) (by kernel_rfl) ?_
  refine br_i (fun h1 => Fct.leafY ?_) (fun h1 => lpx_i ?_ fun (y2 : Int × Int × PUnit) i2 => br_i (fun h3 => ob_i ?_ fun o4 => ob_i ?_ fun o5 => lt_i (br_i (fun h6 => Fct.leafY ?_) (fun h6 => ob_i rfl fun _ => ob_i rfl fun _ => ob_i ?_ fun o7 => trivial))) (fun h3 => Fct.leafY ?_))
  all_goals try simp only [decide_eq_true_eq, decide_eq_false_iff_not, Bool.not_eq_true', Bool.not_eq_false', bne_iff_ne, bne_eq_false_iff_eq, beq_iff_eq, beq_eq_false_iff_ne, baEq, Int.not_lt, Int.not_le, ne_eq, Decidable.not_not] at *
  all_goals try simp only [LszS, fszNode, fszNodeS, baSz, List.size_toArray, List.length_cons, List.length_nil, Nat.reduceAdd, Int.toNat_zero, List.drop_zero, decide_eq_true_eq, decide_eq_false_iff_not, Bool.not_eq_true', Bool.not_eq_false', bne_iff_ne, bne_eq_false_iff_eq, beq_iff_eq, beq_eq_false_iff_ne, Bool.not_eq_true, Bool.not_eq_false, ne_eq, Decidable.not_not, baEq, decide_not, Prod.mk.injEq, and_true, true_and, Room, List.nil_append, Nat.zero_add, Int.not_lt, Int.not_le] at *
  · have := good_len hp.1; simp only [maxLen] at this; rw [wrapId (by omega)] at h1
    rw [lessenNeg (by simp only [szL]; omega)]
  · have := good_len hp.1; simp only [maxLen] at this
    rw [wrapId (by omega)] at h1 ⊢
    exact ⟨by omega, by omega, h1, by simp⟩
  · omega
  · exact ⟨good_getD hp.1 (by omega), by omega, by omega⟩
  · have hs := sum_take_le szNode l (y2.2.1.toNat + 1)
    rw [sum_take szNode (by omega)] at hs
    rw [lessen_lt (by omega)] at h6
    rw [lessenNeg (by simp only [szL]; omega)]
  · have hw : IntKind.i64.wrap (y2.2.1 + 1) = y2.2.1 + 1 := wrapId (by have := good_len hp.1; simp only [maxLen] at this; omega)
    have h7 : ¬ lessen y2.1 (szNode (l.getD y2.2.1.toNat default)) < 0 := by omega
    rw [lessen_lt (by omega)] at h7
    rw [hw, toNat1 (by omega), sum_take szNode (by omega), lessen_ge (by omega)]
    exact ⟨⟨by omega, by omega, by omega, by omega⟩, by omega⟩
  · have e : l.take y2.2.1.toNat = l := List.take_of_length_le (by omega)
    rw [e] at i2
    have hz : ((szL szNode l : Nat) : Int) = l.length + (l.map szNode).sum := by simp only [szL]; omega
    rw [lessen_ge (by omega)]
    show y2.1 = n - ((szL szNode l : Nat) : Int)
    omega)
def E31 : D.Env := E30.add 137 fszNodeS
theorem E31ok : EOk Tryz.prog E31 := E30ok.add k137_30
-- laws.toNodeS
theorem k146_31 : ftoNodeS.ok Tryz.prog 146 := Fct.of (S := ftoNodeS) (L := fun ⟨l, _⟩ => fun | 3 => some (LtoS .node l) | _ => none) (kp := [0,2,3,4,11]) E31ok Tryz.func146 (by kernel_rfl) (by kernel_rfl) (by
  rintro ⟨(l : List SNode), _⟩ hp
  refine holds_of (X := .ob ((↑l.length : Int) = (↑l.length : Int) ∧
  (0 : Int) ≤ (↑l.length : Int) ∧
    (64 : Int) * (↑l.length : Int) ≤ (140737488355328 : Int) ∧ (↑l.length : Int) ≤ (140737488355328 : Int)) <|
 lpx (LtoS .node l) ((0 : Int), (List.replicate (↑l.length : Int).toNat default, ())) fun (y2 : Int × List SNode × PUnit) bk2 =>
 .br (decide (y2.fst < (↑l.length : Int)))
  (.ob ((0 : Int) ≤ y2.fst ∧ y2.fst < (↑l.length : Int)) <|
   .ob (ftoNode.pre (l.getD y2.fst.toNat default, ())) <|
   .lt (SNode × PUnit) (ftoNode.fn (l.getD y2.fst.toNat default, ())) fun z2 =>
   .ob ((0 : Int) ≤ y2.fst ∧ y2.fst < (↑y2.snd.fst.length : Int)) <|
    .ob (y2.fst.toNat < y2.snd.fst.length) <|
    .lt (List SNode) (y2.snd.fst.modify y2.fst.toNat fun z => z2.fst) fun z3 =>
    .ob (l = l) <|
     .ob (bk2 (IntKind.i64.wrap (y2.fst + (1 : Int)), (z3, ()))) <|
     .ok)
  (.leaf (mkR ftoNodeS.rs (y2.snd.fst, ())) [] [])) (by kernel_rfl) ?_
  refine ob_i ?_ fun o1 => lpx_i ?_ fun (y2 : Int × List SNode × PUnit) i2 => br_i (fun h3 => ob_i ?_ fun o4 => ob_i ?_ fun o5 => lt_i (ob_i ?_ fun o6 => ob_i ?_ fun o7 => lt_i (ob_i rfl fun _ => ob_i ?_ fun o8 => trivial))) (fun h3 => Fct.leafY ?_)
  all_goals try simp only [decide_eq_true_eq, decide_eq_false_iff_not, Bool.not_eq_true', Bool.not_eq_false', bne_iff_ne, bne_eq_false_iff_eq, beq_iff_eq, beq_eq_false_iff_ne, baEq, Int.not_lt, Int.not_le, ne_eq, Decidable.not_not] at *
  all_goals try simp only [LtoS, ftoNode, ftoNodeS, baSz, List.size_toArray, List.length_cons, List.length_nil, Nat.reduceAdd, Int.toNat_zero, List.drop_zero, decide_eq_true_eq, decide_eq_false_iff_not, Bool.not_eq_true', Bool.not_eq_false', bne_iff_ne, bne_eq_false_iff_eq, beq_iff_eq, beq_eq_false_iff_ne, Bool.not_eq_true, Bool.not_eq_false, ne_eq, Decidable.not_not, baEq, decide_not, Prod.mk.injEq, and_true, true_and, Room, List.nil_append, Nat.zero_add, Int.not_lt, Int.not_le] at *
  · have := szL_len szNode l; omega
  · exact ⟨by omega, by omega, by simp⟩
  · omega
  · have hs := sum_take_le szNode l (y2.1.toNat + 1)
    rw [sum_take szNode (by omega)] at hs
    simp only [szL] at hp; omega
  · rw [i2.2.2]; simp; omega
  · rw [i2.2.2]; simp; omega
  · have hw : IntKind.i64.wrap (y2.1 + 1) = y2.1 + 1 := wrapId (by have := szL_len szNode l; omega)
    rw [hw, toNat1 (by omega), i2.2.2]
    refine ⟨⟨by omega, by omega, ?_⟩, by omega⟩
    rw [show l.length - y2.1.toNat = (l.length - (y2.1.toNat + 1)) + 1 from by omega, List.replicate_succ, mod_at (by simp; omega), take_succ (by omega)]
    simp
  · have e : l.take y2.1.toNat = l := List.take_of_length_le (by omega)
    rw [i2.2.2, e]; simp; omega)
def E32 : D.Env := E31.add 146 ftoNodeS
theorem E32ok : EOk Tryz.prog E32 := E31ok.add k146_31
-- laws.eqNodeS
set_option maxHeartbeats 2000000 in
theorem k121_32 : feqNodeS.ok Tryz.prog 121 := Fct.of (S := feqNodeS) (L := fun ⟨l, m, _⟩ => fun | 4 => some (LeqS .node l m) | _ => none) (kp := [0,1,4,5,10,14,26]) E32ok Tryz.func121 (by kernel_rfl) (by kernel_rfl) (by
  rintro ⟨(l : List SNode), (m : List SNode), _⟩ hp
  refine holds_of (X := .br ((↑l.length : Int) != (↑m.length : Int))
 (.leaf (mkR feqNodeS.rs (false, ())) [] [])
 (lpx (LeqS .node l m) ((0 : Int), ()) fun (y2 : Int × PUnit) bk2 =>
  .br (decide (y2.fst < (↑l.length : Int)))
   (.ob ((0 : Int) ≤ y2.fst ∧ y2.fst < (↑l.length : Int)) <|
    .ob ((0 : Int) ≤ y2.fst ∧ y2.fst < (↑m.length : Int)) <|
    .ob (feqNode.pre (l.getD y2.fst.toNat default, m.getD y2.fst.toNat default, ())) <|
    .lt (Bool × PUnit) (feqNode.fn (l.getD y2.fst.toNat default, m.getD y2.fst.toNat default, ())) fun z2 =>
    .br (!z2.fst)
     (.leaf (mkR feqNodeS.rs (false, ())) [] [])
     (.ob (l = l) <|
      .ob (m = m) <|
      .ob (Value.bool ((↑l.length : Int) != (↑m.length : Int)) = Value.bool ((↑l.length : Int) != (↑m.length : Int))) <|
      .ob (bk2 (IntKind.i64.wrap (y2.fst + (1 : Int)), ())) <|
      .ok))
   (.leaf (mkR feqNodeS.rs (true, ())) [] []))) (by kernel_rfl) ?_
  refine br_i (fun h1 => Fct.leafY ?_) (fun h1 => lpx_i ?_ fun (y2 : Int × PUnit) i2 => br_i (fun h3 => ob_i ?_ fun o4 => ob_i ?_ fun o5 => ob_i ?_ fun o6 => lt_i (br_i (fun h7 => Fct.leafY ?_) (fun h7 => ob_i rfl fun _ => ob_i rfl fun _ => ob_i rfl fun _ => ob_i ?_ fun o8 => trivial))) (fun h3 => Fct.leafY ?_))
  all_goals try simp only [decide_eq_true_eq, decide_eq_false_iff_not, Bool.not_eq_true', Bool.not_eq_false', bne_iff_ne, bne_eq_false_iff_eq, beq_iff_eq, beq_eq_false_iff_ne, baEq, Int.not_lt, Int.not_le, ne_eq, Decidable.not_not] at *
  all_goals try simp only [LeqS, feqNode, feqNodeS, baSz, List.size_toArray, List.length_cons, List.length_nil, Nat.reduceAdd, Int.toNat_zero, List.drop_zero, decide_eq_true_eq, decide_eq_false_iff_not, Bool.not_eq_true', Bool.not_eq_false', bne_iff_ne, bne_eq_false_iff_eq, beq_iff_eq, beq_eq_false_iff_ne, Bool.not_eq_true, Bool.not_eq_false, ne_eq, Decidable.not_not, baEq, decide_not, Prod.mk.injEq, and_true, true_and, Room, List.nil_append, Nat.zero_add, Int.not_lt, Int.not_le] at *
  all_goals have hl := szL_len szNode l
  · rw [decide_eq_false]; rintro rfl; omega
  · exact ⟨by omega, by omega, by simp⟩
  · omega
  · omega
  · have hs := szL_get szNode (l := l) (i := y2.1.toNat) (by omega); omega
  · rw [decide_eq_false]; rintro rfl; first | exact absurd rfl h6 | exact absurd rfl h7
  · have hw : IntKind.i64.wrap (y2.1 + 1) = y2.1 + 1 := wrapId (by omega)
    rw [hw, toNat1 (by omega)]
    refine ⟨⟨by omega, by omega, ?_⟩, by omega⟩
    rw [take_succ (by omega), take_succ (by omega), i2.2.2]; first | rw [h6] | rw [h7]
  · have e : l.take y2.1.toNat = l := List.take_of_length_le (by omega)
    have e2 : m.take y2.1.toNat = m := List.take_of_length_le (by omega)
    rw [decide_eq_true]; rw [← e, ← e2, i2.2.2])
def E33 : D.Env := E32.add 121 feqNodeS
theorem E33ok : EOk Tryz.prog E33 := E32ok.add k121_32
-- laws.szBuilder
set_option maxHeartbeats 2000000 in
theorem k88_33 : fszBuilder.ok Tryz.prog 88 := Fct.of (S := fszBuilder) (L := fun _ _ => none) (kp := [0,1,2,4,10,16]) E33ok Tryz.func88 (by kernel_rfl) (by kernel_rfl) (by
  rintro ⟨(x : SBuilder), (n : Int), _⟩ hp
  refine holds_of (X := .ob (fszNodeS.pre (x.nodes, n, ())) <|
 .lt (Int × PUnit) (fszNodeS.fn (x.nodes, n, ())) fun z2 =>
 .br (decide (z2.fst < (0 : Int)))
  (.leaf (mkR fszBuilder.rs ((-1 : Int), ())) [] [])
  (.ob (fszIntS.pre (x.open_, z2.fst, ())) <|
   .lt (Int × PUnit) (fszIntS.fn (x.open_, z2.fst, ())) fun z3 =>
   .br (decide (z3.fst < (0 : Int)))
    (.leaf (mkR fszBuilder.rs ((-1 : Int), ())) [] [])
    (.leaf (mkR fszBuilder.rs (z3.fst, ())) [] []))) (by kernel_rfl) ?_
  refine ob_i ?_ fun o1 => lt_i (br_i (fun h2 => Fct.leafY ?_) (fun h2 => ob_i ?_ fun o3 => lt_i (br_i (fun h4 => Fct.leafY ?_) (fun h4 => Fct.leafY ?_))))
  all_goals try simp only [decide_eq_true_eq, decide_eq_false_iff_not, Bool.not_eq_true', Bool.not_eq_false', bne_iff_ne, bne_eq_false_iff_eq, beq_iff_eq, beq_eq_false_iff_ne, baEq, Int.not_lt, Int.not_le, ne_eq, Decidable.not_not] at *
  all_goals try simp only [fszBuilder, fszIntS, fszNodeS, baSz, List.size_toArray, List.length_cons, List.length_nil, Nat.reduceAdd, Int.toNat_zero, List.drop_zero, decide_eq_true_eq, decide_eq_false_iff_not, Bool.not_eq_true', Bool.not_eq_false', bne_iff_ne, bne_eq_false_iff_eq, beq_iff_eq, beq_eq_false_iff_ne, Bool.not_eq_true, Bool.not_eq_false, ne_eq, Decidable.not_not, baEq, decide_not, Prod.mk.injEq, and_true, true_and, Room, List.nil_append, Nat.zero_add, Int.not_lt, Int.not_le, Sh.good, Sh.fc, enc, List.forall_mem_cons, List.not_mem_nil, false_implies, implies_true, goodC, maxLen] at *
  all_goals grind [wrapId', lessen, szBuilder, szL])
def E34 : D.Env := E33.add 88 fszBuilder
theorem E34ok : EOk Tryz.prog E34 := E33ok.add k88_33
-- laws.toBuilder
theorem k101_34 : ftoBuilder.ok Tryz.prog 101 := Fct.of (S := ftoBuilder) (L := fun _ _ => none) (kp := [0,1,2,3]) E34ok Tryz.func101 (by kernel_rfl) (by kernel_rfl) (by
  rintro ⟨(x : SBuilder), _⟩ hp
  refine holds_of (X := .ob (ftoNodeS.pre (x.nodes, ())) <|
 .lt (List SNode × PUnit) (ftoNodeS.fn (x.nodes, ())) fun z2 =>
 .ob (ftoIntS.pre (x.open_, ())) <|
  .lt (List Int × PUnit) (ftoIntS.fn (x.open_, ())) fun z3 =>
  .leaf (mkR ftoBuilder.rs (⟨z2.fst, z3.fst⟩, ())) [] []) (by kernel_rfl) ?_
  refine ob_i ?_ fun o1 => lt_i (ob_i ?_ fun o2 => lt_i (Fct.leafY ?_))
  all_goals try simp only [decide_eq_true_eq, decide_eq_false_iff_not, Bool.not_eq_true', Bool.not_eq_false', bne_iff_ne, bne_eq_false_iff_eq, beq_iff_eq, beq_eq_false_iff_ne, baEq, Int.not_lt, Int.not_le, ne_eq, Decidable.not_not] at *
  all_goals try simp only [ftoBuilder, ftoIntS, ftoNodeS, baSz, List.size_toArray, List.length_cons, List.length_nil, Nat.reduceAdd, Int.toNat_zero, List.drop_zero, decide_eq_true_eq, decide_eq_false_iff_not, Bool.not_eq_true', Bool.not_eq_false', bne_iff_ne, bne_eq_false_iff_eq, beq_iff_eq, beq_eq_false_iff_ne, Bool.not_eq_true, Bool.not_eq_false, ne_eq, Decidable.not_not, baEq, decide_not, Prod.mk.injEq, and_true, true_and, Room, List.nil_append, Nat.zero_add, Int.not_lt, Int.not_le] at *
  all_goals first | trivial | rfl | grind [szBuilder, szL])
def E35 : D.Env := E34.add 101 ftoBuilder
theorem E35ok : EOk Tryz.prog E35 := E34ok.add k101_34
-- laws.eqBuilder
set_option maxHeartbeats 2000000 in
theorem k55_35 : feqBuilder.ok Tryz.prog 55 := Fct.of (S := feqBuilder) (L := fun _ _ => none) (kp := [0,1,2,3,4,10,16]) E35ok Tryz.func55 (by kernel_rfl) (by kernel_rfl) (by
  rintro ⟨(x : SBuilder), (y : SBuilder), _⟩ hp
  refine holds_of (X := .ob (feqNodeS.pre (x.nodes, y.nodes, ())) <|
 .lt (Bool × PUnit) (feqNodeS.fn (x.nodes, y.nodes, ())) fun z2 =>
 .br (!z2.fst)
  (.leaf (mkR feqBuilder.rs (false, ())) [] [])
  (.ob (feqIntS.pre (x.open_, y.open_, ())) <|
   .lt (Bool × PUnit) (feqIntS.fn (x.open_, y.open_, ())) fun z3 =>
   .br (!z3.fst)
    (.leaf (mkR feqBuilder.rs (false, ())) [] [])
    (.leaf (mkR feqBuilder.rs (true, ())) [] []))) (by kernel_rfl) ?_
  refine ob_i ?_ fun o1 => lt_i (br_i (fun h2 => Fct.leafY ?_) (fun h2 => ob_i ?_ fun o3 => lt_i (br_i (fun h4 => Fct.leafY ?_) (fun h4 => Fct.leafY ?_))))
  all_goals try simp only [decide_eq_true_eq, decide_eq_false_iff_not, Bool.not_eq_true', Bool.not_eq_false', bne_iff_ne, bne_eq_false_iff_eq, beq_iff_eq, beq_eq_false_iff_ne, baEq, Int.not_lt, Int.not_le, ne_eq, Decidable.not_not] at *
  all_goals try simp only [feqBuilder, feqIntS, feqNodeS, baSz, List.size_toArray, List.length_cons, List.length_nil, Nat.reduceAdd, Int.toNat_zero, List.drop_zero, decide_eq_true_eq, decide_eq_false_iff_not, Bool.not_eq_true', Bool.not_eq_false', bne_iff_ne, bne_eq_false_iff_eq, beq_iff_eq, beq_eq_false_iff_ne, Bool.not_eq_true, Bool.not_eq_false, ne_eq, Decidable.not_not, baEq, decide_not, Prod.mk.injEq, and_true, true_and, Room, List.nil_append, Nat.zero_add, Int.not_lt, Int.not_le] at *
  all_goals first | trivial | (cases x; cases y; simp_all; done) | (simp only [szBuilder, szL] at *; omega) | grind [szBuilder, szL])
def E36 : D.Env := E35.add 55 feqBuilder
theorem E36ok : EOk Tryz.prog E36 := E35ok.add k55_35
-- laws.szPolicy
set_option maxHeartbeats 2000000 in
theorem k85_36 : fszPolicy.ok Tryz.prog 85 := Fct.of (S := fszPolicy) (L := fun _ _ => none) (kp := [0,1,2,4,10,16,22,29]) E36ok Tryz.func85 (by kernel_rfl) (by kernel_rfl) (by
  rintro ⟨(x : SPolicy), (n : Int), _⟩ hp
  refine holds_of (X := .ob (fszStringS.pre (x.scripts, n, ())) <|
 .lt (Int × PUnit) (fszStringS.fn (x.scripts, n, ())) fun z2 =>
 .br (decide (z2.fst < (0 : Int)))
  (.leaf (mkR fszPolicy.rs ((-1 : Int), ())) [] [])
  (.ob (fszStringS.pre (x.styles, z2.fst, ())) <|
   .lt (Int × PUnit) (fszStringS.fn (x.styles, z2.fst, ())) fun z3 =>
   .br (decide (z3.fst < (0 : Int)))
    (.leaf (mkR fszPolicy.rs ((-1 : Int), ())) [] [])
    (.ob (fszStringS.pre (x.images, z3.fst, ())) <|
     .lt (Int × PUnit) (fszStringS.fn (x.images, z3.fst, ())) fun z4 =>
     .br (decide (z4.fst < (0 : Int)))
      (.leaf (mkR fszPolicy.rs ((-1 : Int), ())) [] [])
      (.br (decide (IntKind.i64.wrap (z4.fst - (↑x.nonce.size : Int)) < (0 : Int)))
       (.leaf (mkR fszPolicy.rs ((-1 : Int), ())) [] [])
       (.leaf (mkR fszPolicy.rs (IntKind.i64.wrap (z4.fst - (↑x.nonce.size : Int)), ())) [] []))))) (by kernel_rfl) ?_
  refine ob_i ?_ fun o1 => lt_i (br_i (fun h2 => Fct.leafY ?_) (fun h2 => ob_i ?_ fun o3 => lt_i (br_i (fun h4 => Fct.leafY ?_) (fun h4 => ob_i ?_ fun o5 => lt_i (br_i (fun h6 => Fct.leafY ?_) (fun h6 => br_i (fun h7 => Fct.leafY ?_) (fun h7 => Fct.leafY ?_)))))))
  all_goals try simp only [decide_eq_true_eq, decide_eq_false_iff_not, Bool.not_eq_true', Bool.not_eq_false', bne_iff_ne, bne_eq_false_iff_eq, beq_iff_eq, beq_eq_false_iff_ne, baEq, Int.not_lt, Int.not_le, ne_eq, Decidable.not_not] at *
  all_goals try simp only [fszPolicy, fszStringS, baSz, List.size_toArray, List.length_cons, List.length_nil, Nat.reduceAdd, Int.toNat_zero, List.drop_zero, decide_eq_true_eq, decide_eq_false_iff_not, Bool.not_eq_true', Bool.not_eq_false', bne_iff_ne, bne_eq_false_iff_eq, beq_iff_eq, beq_eq_false_iff_ne, Bool.not_eq_true, Bool.not_eq_false, ne_eq, Decidable.not_not, baEq, decide_not, Prod.mk.injEq, and_true, true_and, Room, List.nil_append, Nat.zero_add, Int.not_lt, Int.not_le, Sh.good, Sh.fc, enc, List.forall_mem_cons, List.not_mem_nil, false_implies, implies_true, goodC, maxLen] at *
  all_goals grind [wrapId', lessen, szL, szPolicy])
def E37 : D.Env := E36.add 85 fszPolicy
theorem E37ok : EOk Tryz.prog E37 := E36ok.add k85_36
-- laws.toPolicy
theorem k98_37 : ftoPolicy.ok Tryz.prog 98 := Fct.of (S := ftoPolicy) (L := fun _ _ => none) (kp := [0,1,2,3]) E37ok Tryz.func98 (by kernel_rfl) (by kernel_rfl) (by
  rintro ⟨(x : SPolicy), _⟩ hp
  refine holds_of (X := .ob (ftoStringS.pre (x.scripts, ())) <|
 .lt (List ByteArray × PUnit) (ftoStringS.fn (x.scripts, ())) fun z2 =>
 .ob (ftoStringS.pre (x.styles, ())) <|
  .lt (List ByteArray × PUnit) (ftoStringS.fn (x.styles, ())) fun z3 =>
  .ob (ftoStringS.pre (x.images, ())) <|
   .lt (List ByteArray × PUnit) (ftoStringS.fn (x.images, ())) fun z4 =>
   .leaf (mkR ftoPolicy.rs (⟨x.set_, z2.fst, z3.fst, z4.fst, x.nonce⟩, ())) [] []) (by kernel_rfl) ?_
  refine ob_i ?_ fun o1 => lt_i (ob_i ?_ fun o2 => lt_i (ob_i ?_ fun o3 => lt_i (Fct.leafY ?_)))
  all_goals try simp only [decide_eq_true_eq, decide_eq_false_iff_not, Bool.not_eq_true', Bool.not_eq_false', bne_iff_ne, bne_eq_false_iff_eq, beq_iff_eq, beq_eq_false_iff_ne, baEq, Int.not_lt, Int.not_le, ne_eq, Decidable.not_not] at *
  all_goals try simp only [ftoPolicy, ftoStringS, baSz, List.size_toArray, List.length_cons, List.length_nil, Nat.reduceAdd, Int.toNat_zero, List.drop_zero, decide_eq_true_eq, decide_eq_false_iff_not, Bool.not_eq_true', Bool.not_eq_false', bne_iff_ne, bne_eq_false_iff_eq, beq_iff_eq, beq_eq_false_iff_ne, Bool.not_eq_true, Bool.not_eq_false, ne_eq, Decidable.not_not, baEq, decide_not, Prod.mk.injEq, and_true, true_and, Room, List.nil_append, Nat.zero_add, Int.not_lt, Int.not_le] at *
  all_goals first | trivial | rfl | grind [szL, szPolicy])
def E38 : D.Env := E37.add 98 ftoPolicy
theorem E38ok : EOk Tryz.prog E38 := E37ok.add k98_37
-- laws.eqPolicy
set_option maxHeartbeats 2000000 in
theorem k52_38 : feqPolicy.ok Tryz.prog 52 := Fct.of (S := feqPolicy) (L := fun _ _ => none) (kp := [0,1,2,3,4,9,15,21,27,32]) E38ok Tryz.func52 (by kernel_rfl) (by kernel_rfl) (by
  rintro ⟨(x : SPolicy), (y : SPolicy), _⟩ hp
  refine holds_of (X := .br (!x.set_ == y.set_)
 (.leaf (mkR feqPolicy.rs (false, ())) [] [])
 (.ob (feqStringS.pre (x.scripts, y.scripts, ())) <|
  .lt (Bool × PUnit) (feqStringS.fn (x.scripts, y.scripts, ())) fun z2 =>
  .br (!z2.fst)
   (.leaf (mkR feqPolicy.rs (false, ())) [] [])
   (.ob (feqStringS.pre (x.styles, y.styles, ())) <|
    .lt (Bool × PUnit) (feqStringS.fn (x.styles, y.styles, ())) fun z3 =>
    .br (!z3.fst)
     (.leaf (mkR feqPolicy.rs (false, ())) [] [])
     (.ob (feqStringS.pre (x.images, y.images, ())) <|
      .lt (Bool × PUnit) (feqStringS.fn (x.images, y.images, ())) fun z4 =>
      .br (!z4.fst)
       (.leaf (mkR feqPolicy.rs (false, ())) [] [])
       (.br (!x.nonce.toList == y.nonce.toList)
        (.leaf (mkR feqPolicy.rs (false, ())) [] [])
        (.leaf (mkR feqPolicy.rs (true, ())) [] [])))))) (by kernel_rfl) ?_
  refine br_i (fun h1 => Fct.leafY ?_) (fun h1 => ob_i ?_ fun o2 => lt_i (br_i (fun h3 => Fct.leafY ?_) (fun h3 => ob_i ?_ fun o4 => lt_i (br_i (fun h5 => Fct.leafY ?_) (fun h5 => ob_i ?_ fun o6 => lt_i (br_i (fun h7 => Fct.leafY ?_) (fun h7 => br_i (fun h8 => Fct.leafY ?_) (fun h8 => Fct.leafY ?_))))))))
  all_goals try simp only [decide_eq_true_eq, decide_eq_false_iff_not, Bool.not_eq_true', Bool.not_eq_false', bne_iff_ne, bne_eq_false_iff_eq, beq_iff_eq, beq_eq_false_iff_ne, baEq, Int.not_lt, Int.not_le, ne_eq, Decidable.not_not] at *
  all_goals try simp only [feqPolicy, feqStringS, baSz, List.size_toArray, List.length_cons, List.length_nil, Nat.reduceAdd, Int.toNat_zero, List.drop_zero, decide_eq_true_eq, decide_eq_false_iff_not, Bool.not_eq_true', Bool.not_eq_false', bne_iff_ne, bne_eq_false_iff_eq, beq_iff_eq, beq_eq_false_iff_ne, Bool.not_eq_true, Bool.not_eq_false, ne_eq, Decidable.not_not, baEq, decide_not, Prod.mk.injEq, and_true, true_and, Room, List.nil_append, Nat.zero_add, Int.not_lt, Int.not_le] at *
  all_goals first | trivial | (cases x; cases y; simp_all; done) | (simp only [szL, szPolicy] at *; omega) | grind [szL, szPolicy])
def E39 : D.Env := E38.add 52 feqPolicy
theorem E39ok : EOk Tryz.prog E39 := E38ok.add k52_38
-- laws.szResponse
set_option maxHeartbeats 2000000 in
theorem k141_39 : fszResponse.ok Tryz.prog 141 := Fct.of (S := fszResponse) (L := fun _ _ => none) (kp := [0,1,2,4,11,18]) E39ok Tryz.func141 (by kernel_rfl) (by kernel_rfl) (by
  rintro ⟨(x : SResponse), (n : Int), _⟩ hp
  refine holds_of (X := .br (decide (IntKind.i64.wrap (n - (↑x.body.size : Int)) < (0 : Int)))
 (.leaf (mkR fszResponse.rs ((-1 : Int), ())) [] [])
 (.br (decide (IntKind.i64.wrap (IntKind.i64.wrap (n - (↑x.body.size : Int)) - (↑x.policy.size : Int)) < (0 : Int)))
  (.leaf (mkR fszResponse.rs ((-1 : Int), ())) [] [])
  (.leaf (mkR fszResponse.rs (IntKind.i64.wrap (IntKind.i64.wrap (n - (↑x.body.size : Int)) - (↑x.policy.size : Int)), ())) [] []))) (by kernel_rfl) ?_
  refine br_i (fun h1 => Fct.leafY ?_) (fun h1 => br_i (fun h2 => Fct.leafY ?_) (fun h2 => Fct.leafY ?_))
  all_goals try simp only [decide_eq_true_eq, decide_eq_false_iff_not, Bool.not_eq_true', Bool.not_eq_false', bne_iff_ne, bne_eq_false_iff_eq, beq_iff_eq, beq_eq_false_iff_ne, baEq, Int.not_lt, Int.not_le, ne_eq, Decidable.not_not] at *
  all_goals try simp only [fszResponse, baSz, List.size_toArray, List.length_cons, List.length_nil, Nat.reduceAdd, Int.toNat_zero, List.drop_zero, decide_eq_true_eq, decide_eq_false_iff_not, Bool.not_eq_true', Bool.not_eq_false', bne_iff_ne, bne_eq_false_iff_eq, beq_iff_eq, beq_eq_false_iff_ne, Bool.not_eq_true, Bool.not_eq_false, ne_eq, Decidable.not_not, baEq, decide_not, Prod.mk.injEq, and_true, true_and, Room, List.nil_append, Nat.zero_add, Int.not_lt, Int.not_le, Sh.good, Sh.fc, enc, List.forall_mem_cons, List.not_mem_nil, false_implies, implies_true, goodC, maxLen] at *
  all_goals grind [wrapId', lessen, szResponse])
def E40 : D.Env := E39.add 141 fszResponse
theorem E40ok : EOk Tryz.prog E40 := E39ok.add k141_39
-- laws.toResponse
theorem k150_40 : ftoResponse.ok Tryz.prog 150 := Fct.of (S := ftoResponse) (L := fun _ _ => none) (kp := [0,1,2,3]) E40ok Tryz.func150 (by kernel_rfl) (by kernel_rfl) (by
  rintro ⟨(x : SResponse), _⟩ hp
  refine holds_of (X := .leaf (mkR ftoResponse.rs (x, ())) [] []) (by kernel_rfl) ?_
  refine Fct.leafY ?_
  all_goals try simp only [decide_eq_true_eq, decide_eq_false_iff_not, Bool.not_eq_true', Bool.not_eq_false', bne_iff_ne, bne_eq_false_iff_eq, beq_iff_eq, beq_eq_false_iff_ne, baEq, Int.not_lt, Int.not_le, ne_eq, Decidable.not_not] at *
  all_goals try simp only [ftoResponse, baSz, List.size_toArray, List.length_cons, List.length_nil, Nat.reduceAdd, Int.toNat_zero, List.drop_zero, decide_eq_true_eq, decide_eq_false_iff_not, Bool.not_eq_true', Bool.not_eq_false', bne_iff_ne, bne_eq_false_iff_eq, beq_iff_eq, beq_eq_false_iff_ne, Bool.not_eq_true, Bool.not_eq_false, ne_eq, Decidable.not_not, baEq, decide_not, Prod.mk.injEq, and_true, true_and, Room, List.nil_append, Nat.zero_add, Int.not_lt, Int.not_le] at *
  all_goals first | trivial | rfl | grind [szResponse])
def E41 : D.Env := E40.add 150 ftoResponse
theorem E41ok : EOk Tryz.prog E41 := E40ok.add k150_40
-- laws.eqResponse
set_option maxHeartbeats 2000000 in
theorem k154_41 : feqResponse.ok Tryz.prog 154 := Fct.of (S := feqResponse) (L := fun _ _ => none) (kp := [0,1,2,3,4,9,14,19,24,29,34]) E41ok Tryz.func154 (by kernel_rfl) (by kernel_rfl) (by
  rintro ⟨(x : SResponse), (y : SResponse), _⟩ hp
  refine holds_of (X := .br (x.status != y.status)
 (.leaf (mkR feqResponse.rs (false, ())) [] [])
 (.br (x.kind != y.kind)
  (.leaf (mkR feqResponse.rs (false, ())) [] [])
  (.br (!x.body.toList == y.body.toList)
   (.leaf (mkR feqResponse.rs (false, ())) [] [])
   (.br (x.age != y.age)
    (.leaf (mkR feqResponse.rs (false, ())) [] [])
    (.br (!x.shares == y.shares)
     (.leaf (mkR feqResponse.rs (false, ())) [] [])
     (.br (!x.policy.toList == y.policy.toList)
      (.leaf (mkR feqResponse.rs (false, ())) [] [])
      (.leaf (mkR feqResponse.rs (true, ())) [] []))))))) (by kernel_rfl) ?_
  refine br_i (fun h1 => Fct.leafY ?_) (fun h1 => br_i (fun h2 => Fct.leafY ?_) (fun h2 => br_i (fun h3 => Fct.leafY ?_) (fun h3 => br_i (fun h4 => Fct.leafY ?_) (fun h4 => br_i (fun h5 => Fct.leafY ?_) (fun h5 => br_i (fun h6 => Fct.leafY ?_) (fun h6 => Fct.leafY ?_))))))
  all_goals try simp only [decide_eq_true_eq, decide_eq_false_iff_not, Bool.not_eq_true', Bool.not_eq_false', bne_iff_ne, bne_eq_false_iff_eq, beq_iff_eq, beq_eq_false_iff_ne, baEq, Int.not_lt, Int.not_le, ne_eq, Decidable.not_not] at *
  all_goals try simp only [feqResponse, baSz, List.size_toArray, List.length_cons, List.length_nil, Nat.reduceAdd, Int.toNat_zero, List.drop_zero, decide_eq_true_eq, decide_eq_false_iff_not, Bool.not_eq_true', Bool.not_eq_false', bne_iff_ne, bne_eq_false_iff_eq, beq_iff_eq, beq_eq_false_iff_ne, Bool.not_eq_true, Bool.not_eq_false, ne_eq, Decidable.not_not, baEq, decide_not, Prod.mk.injEq, and_true, true_and, Room, List.nil_append, Nat.zero_add, Int.not_lt, Int.not_le] at *
  all_goals first | trivial | (cases x; cases y; simp_all; done) | (simp only [szResponse] at *; omega) | grind [szResponse])
def E42 : D.Env := E41.add 154 feqResponse
theorem E42ok : EOk Tryz.prog E42 := E41ok.add k154_41
-- laws.szFile
set_option maxHeartbeats 2000000 in
theorem k170_42 : fszFile.ok Tryz.prog 170 := Fct.of (S := fszFile) (L := fun _ _ => none) (kp := [0,1,2,4,11,17]) E42ok Tryz.func170 (by kernel_rfl) (by kernel_rfl) (by
  rintro ⟨(x : SFile), (n : Int), _⟩ hp
  refine holds_of (X := .br (decide (IntKind.i64.wrap (n - (↑x.path.size : Int)) < (0 : Int)))
 (.leaf (mkR fszFile.rs ((-1 : Int), ())) [] [])
 (.ob (fszResponse.pre (x.response, IntKind.i64.wrap (n - (↑x.path.size : Int)), ())) <|
  .lt (Int × PUnit) (fszResponse.fn (x.response, IntKind.i64.wrap (n - (↑x.path.size : Int)), ())) fun z2 =>
  .br (decide (z2.fst < (0 : Int)))
   (.leaf (mkR fszFile.rs ((-1 : Int), ())) [] [])
   (.leaf (mkR fszFile.rs (z2.fst, ())) [] []))) (by kernel_rfl) ?_
  refine br_i (fun h1 => Fct.leafY ?_) (fun h1 => ob_i ?_ fun o2 => lt_i (br_i (fun h3 => Fct.leafY ?_) (fun h3 => Fct.leafY ?_)))
  all_goals try simp only [decide_eq_true_eq, decide_eq_false_iff_not, Bool.not_eq_true', Bool.not_eq_false', bne_iff_ne, bne_eq_false_iff_eq, beq_iff_eq, beq_eq_false_iff_ne, baEq, Int.not_lt, Int.not_le, ne_eq, Decidable.not_not] at *
  all_goals try simp only [fszFile, fszResponse, baSz, List.size_toArray, List.length_cons, List.length_nil, Nat.reduceAdd, Int.toNat_zero, List.drop_zero, decide_eq_true_eq, decide_eq_false_iff_not, Bool.not_eq_true', Bool.not_eq_false', bne_iff_ne, bne_eq_false_iff_eq, beq_iff_eq, beq_eq_false_iff_ne, Bool.not_eq_true, Bool.not_eq_false, ne_eq, Decidable.not_not, baEq, decide_not, Prod.mk.injEq, and_true, true_and, Room, List.nil_append, Nat.zero_add, Int.not_lt, Int.not_le, Sh.good, Sh.fc, enc, List.forall_mem_cons, List.not_mem_nil, false_implies, implies_true, goodC, maxLen] at *
  all_goals grind [wrapId', lessen, szFile, szResponse])
def E43 : D.Env := E42.add 170 fszFile
theorem E43ok : EOk Tryz.prog E43 := E42ok.add k170_42
-- laws.toFile
theorem k172_43 : ftoFile.ok Tryz.prog 172 := Fct.of (S := ftoFile) (L := fun _ _ => none) (kp := [0,1,2,3]) E43ok Tryz.func172 (by kernel_rfl) (by kernel_rfl) (by
  rintro ⟨(x : SFile), _⟩ hp
  refine holds_of (X := .ob (ftoResponse.pre (x.response, ())) <|
 .lt (SResponse × PUnit) (ftoResponse.fn (x.response, ())) fun z2 =>
 .leaf (mkR ftoFile.rs (⟨x.path, z2.fst⟩, ())) [] []) (by kernel_rfl) ?_
  refine ob_i ?_ fun o1 => lt_i (Fct.leafY ?_)
  all_goals try simp only [decide_eq_true_eq, decide_eq_false_iff_not, Bool.not_eq_true', Bool.not_eq_false', bne_iff_ne, bne_eq_false_iff_eq, beq_iff_eq, beq_eq_false_iff_ne, baEq, Int.not_lt, Int.not_le, ne_eq, Decidable.not_not] at *
  all_goals try simp only [ftoFile, ftoResponse, baSz, List.size_toArray, List.length_cons, List.length_nil, Nat.reduceAdd, Int.toNat_zero, List.drop_zero, decide_eq_true_eq, decide_eq_false_iff_not, Bool.not_eq_true', Bool.not_eq_false', bne_iff_ne, bne_eq_false_iff_eq, beq_iff_eq, beq_eq_false_iff_ne, Bool.not_eq_true, Bool.not_eq_false, ne_eq, Decidable.not_not, baEq, decide_not, Prod.mk.injEq, and_true, true_and, Room, List.nil_append, Nat.zero_add, Int.not_lt, Int.not_le] at *
  all_goals first | trivial | rfl | grind [szFile, szResponse])
def E44 : D.Env := E43.add 172 ftoFile
theorem E44ok : EOk Tryz.prog E44 := E43ok.add k172_43
-- laws.eqFile
set_option maxHeartbeats 2000000 in
theorem k174_44 : feqFile.ok Tryz.prog 174 := Fct.of (S := feqFile) (L := fun _ _ => none) (kp := [0,1,2,3,4,9,15]) E44ok Tryz.func174 (by kernel_rfl) (by kernel_rfl) (by
  rintro ⟨(x : SFile), (y : SFile), _⟩ hp
  refine holds_of (X := .br (!x.path.toList == y.path.toList)
 (.leaf (mkR feqFile.rs (false, ())) [] [])
 (.ob (feqResponse.pre (x.response, y.response, ())) <|
  .lt (Bool × PUnit) (feqResponse.fn (x.response, y.response, ())) fun z2 =>
  .br (!z2.fst)
   (.leaf (mkR feqFile.rs (false, ())) [] [])
   (.leaf (mkR feqFile.rs (true, ())) [] []))) (by kernel_rfl) ?_
  refine br_i (fun h1 => Fct.leafY ?_) (fun h1 => ob_i trivial fun _ => lt_i (br_i (fun h2 => Fct.leafY ?_) (fun h2 => Fct.leafY ?_)))
  all_goals try simp only [decide_eq_true_eq, decide_eq_false_iff_not, Bool.not_eq_true', Bool.not_eq_false', bne_iff_ne, bne_eq_false_iff_eq, beq_iff_eq, beq_eq_false_iff_ne, baEq, Int.not_lt, Int.not_le, ne_eq, Decidable.not_not] at *
  all_goals try simp only [feqFile, feqResponse, baSz, List.size_toArray, List.length_cons, List.length_nil, Nat.reduceAdd, Int.toNat_zero, List.drop_zero, decide_eq_true_eq, decide_eq_false_iff_not, Bool.not_eq_true', Bool.not_eq_false', bne_iff_ne, bne_eq_false_iff_eq, beq_iff_eq, beq_eq_false_iff_ne, Bool.not_eq_true, Bool.not_eq_false, ne_eq, Decidable.not_not, baEq, decide_not, Prod.mk.injEq, and_true, true_and, Room, List.nil_append, Nat.zero_add, Int.not_lt, Int.not_le] at *
  all_goals first | trivial | (cases x; cases y; simp_all; done) | (simp only [szFile, szResponse] at *; omega) | grind [szFile, szResponse])
def E45 : D.Env := E44.add 174 feqFile
theorem E45ok : EOk Tryz.prog E45 := E44ok.add k174_44
-- laws.szFileS
set_option maxHeartbeats 2000000 in
theorem k159_45 : fszFileS.ok Tryz.prog 159 := Fct.of (S := fszFileS) (L := fun ⟨l, n, _⟩ => fun | 5 => some (LszS .file szFile l n) | _ => none) (kp := [0,1,4,5,11,15,25]) E45ok Tryz.func159 (by kernel_rfl) (by kernel_rfl) (by
  rintro ⟨(l : List SFile), (n : Int), _⟩ hp
  refine holds_of (X := .br (decide (IntKind.i64.wrap (n - (↑l.length : Int)) < (0 : Int)))
 (.leaf (mkR fszFileS.rs ((-1 : Int), ())) [] [])
 (lpx (LszS .file szFile l n) (IntKind.i64.wrap (n - (↑l.length : Int)), ((0 : Int), ())) fun (y2 : Int × Int × PUnit) bk2 =>
  .br (decide (y2.snd.fst < (↑l.length : Int)))
   (.ob ((0 : Int) ≤ y2.snd.fst ∧ y2.snd.fst < (↑l.length : Int)) <|
    .ob (fszFile.pre (l.getD y2.snd.fst.toNat default, y2.fst, ())) <|
    .lt (Int × PUnit) (fszFile.fn (l.getD y2.snd.fst.toNat default, y2.fst, ())) fun z2 =>
    .br (decide (z2.fst < (0 : Int)))
     (.leaf (mkR fszFileS.rs ((-1 : Int), ())) [] [])
     (.ob (l = l) <|
      .ob (Value.bool (decide (IntKind.i64.wrap (n - (↑l.length : Int)) < (0 : Int))) =
  Value.bool (decide (IntKind.i64.wrap (n - (↑l.length : Int)) < (0 : Int)))) <|
      .ob (bk2 (z2.fst, (IntKind.i64.wrap (y2.snd.fst + (1 : Int)), ()))) <|
      .ok))
   (.leaf (mkR fszFileS.rs (y2.fst, ())) [] []))) (by kernel_rfl) ?_
  refine br_i (fun h1 => Fct.leafY ?_) (fun h1 => lpx_i ?_ fun (y2 : Int × Int × PUnit) i2 => br_i (fun h3 => ob_i ?_ fun o4 => ob_i ?_ fun o5 => lt_i (br_i (fun h6 => Fct.leafY ?_) (fun h6 => ob_i rfl fun _ => ob_i rfl fun _ => ob_i ?_ fun o7 => trivial))) (fun h3 => Fct.leafY ?_))
  all_goals try simp only [decide_eq_true_eq, decide_eq_false_iff_not, Bool.not_eq_true', Bool.not_eq_false', bne_iff_ne, bne_eq_false_iff_eq, beq_iff_eq, beq_eq_false_iff_ne, baEq, Int.not_lt, Int.not_le, ne_eq, Decidable.not_not] at *
  all_goals try simp only [LszS, fszFile, fszFileS, baSz, List.size_toArray, List.length_cons, List.length_nil, Nat.reduceAdd, Int.toNat_zero, List.drop_zero, decide_eq_true_eq, decide_eq_false_iff_not, Bool.not_eq_true', Bool.not_eq_false', bne_iff_ne, bne_eq_false_iff_eq, beq_iff_eq, beq_eq_false_iff_ne, Bool.not_eq_true, Bool.not_eq_false, ne_eq, Decidable.not_not, baEq, decide_not, Prod.mk.injEq, and_true, true_and, Room, List.nil_append, Nat.zero_add, Int.not_lt, Int.not_le] at *
  · have := good_len hp.1; simp only [maxLen] at this; rw [wrapId (by omega)] at h1
    rw [lessenNeg (by simp only [szL]; omega)]
  · have := good_len hp.1; simp only [maxLen] at this
    rw [wrapId (by omega)] at h1 ⊢
    exact ⟨by omega, by omega, h1, by simp⟩
  · omega
  · exact ⟨good_getD hp.1 (by omega), by omega, by omega⟩
  · have hs := sum_take_le szFile l (y2.2.1.toNat + 1)
    rw [sum_take szFile (by omega)] at hs
    rw [lessen_lt (by omega)] at h6
    rw [lessenNeg (by simp only [szL]; omega)]
  · have hw : IntKind.i64.wrap (y2.2.1 + 1) = y2.2.1 + 1 := wrapId (by have := good_len hp.1; simp only [maxLen] at this; omega)
    have h7 : ¬ lessen y2.1 (szFile (l.getD y2.2.1.toNat default)) < 0 := by omega
    rw [lessen_lt (by omega)] at h7
    rw [hw, toNat1 (by omega), sum_take szFile (by omega), lessen_ge (by omega)]
    exact ⟨⟨by omega, by omega, by omega, by omega⟩, by omega⟩
  · have e : l.take y2.2.1.toNat = l := List.take_of_length_le (by omega)
    rw [e] at i2
    have hz : ((szL szFile l : Nat) : Int) = l.length + (l.map szFile).sum := by simp only [szL]; omega
    rw [lessen_ge (by omega)]
    show y2.1 = n - ((szL szFile l : Nat) : Int)
    omega)
def E46 : D.Env := E45.add 159 fszFileS
theorem E46ok : EOk Tryz.prog E46 := E45ok.add k159_45
-- laws.toFileS
theorem k163_46 : ftoFileS.ok Tryz.prog 163 := Fct.of (S := ftoFileS) (L := fun ⟨l, _⟩ => fun | 3 => some (LtoS .file l) | _ => none) (kp := [0,2,3,4,11]) E46ok Tryz.func163 (by kernel_rfl) (by kernel_rfl) (by
  rintro ⟨(l : List SFile), _⟩ hp
  refine holds_of (X := .ob ((↑l.length : Int) = (↑l.length : Int) ∧
  (0 : Int) ≤ (↑l.length : Int) ∧
    (80 : Int) * (↑l.length : Int) ≤ (140737488355328 : Int) ∧ (↑l.length : Int) ≤ (140737488355328 : Int)) <|
 lpx (LtoS .file l) ((0 : Int), (List.replicate (↑l.length : Int).toNat default, ())) fun (y2 : Int × List SFile × PUnit) bk2 =>
 .br (decide (y2.fst < (↑l.length : Int)))
  (.ob ((0 : Int) ≤ y2.fst ∧ y2.fst < (↑l.length : Int)) <|
   .ob (ftoFile.pre (l.getD y2.fst.toNat default, ())) <|
   .lt (SFile × PUnit) (ftoFile.fn (l.getD y2.fst.toNat default, ())) fun z2 =>
   .ob ((0 : Int) ≤ y2.fst ∧ y2.fst < (↑y2.snd.fst.length : Int)) <|
    .ob (y2.fst.toNat < y2.snd.fst.length) <|
    .lt (List SFile) (y2.snd.fst.modify y2.fst.toNat fun z => z2.fst) fun z3 =>
    .ob (l = l) <|
     .ob (bk2 (IntKind.i64.wrap (y2.fst + (1 : Int)), (z3, ()))) <|
     .ok)
  (.leaf (mkR ftoFileS.rs (y2.snd.fst, ())) [] [])) (by kernel_rfl) ?_
  refine ob_i ?_ fun o1 => lpx_i ?_ fun (y2 : Int × List SFile × PUnit) i2 => br_i (fun h3 => ob_i ?_ fun o4 => ob_i ?_ fun o5 => lt_i (ob_i ?_ fun o6 => ob_i ?_ fun o7 => lt_i (ob_i rfl fun _ => ob_i ?_ fun o8 => trivial))) (fun h3 => Fct.leafY ?_)
  all_goals try simp only [decide_eq_true_eq, decide_eq_false_iff_not, Bool.not_eq_true', Bool.not_eq_false', bne_iff_ne, bne_eq_false_iff_eq, beq_iff_eq, beq_eq_false_iff_ne, baEq, Int.not_lt, Int.not_le, ne_eq, Decidable.not_not] at *
  all_goals try simp only [LtoS, ftoFile, ftoFileS, baSz, List.size_toArray, List.length_cons, List.length_nil, Nat.reduceAdd, Int.toNat_zero, List.drop_zero, decide_eq_true_eq, decide_eq_false_iff_not, Bool.not_eq_true', Bool.not_eq_false', bne_iff_ne, bne_eq_false_iff_eq, beq_iff_eq, beq_eq_false_iff_ne, Bool.not_eq_true, Bool.not_eq_false, ne_eq, Decidable.not_not, baEq, decide_not, Prod.mk.injEq, and_true, true_and, Room, List.nil_append, Nat.zero_add, Int.not_lt, Int.not_le] at *
  · have := szL_len szFile l; omega
  · exact ⟨by omega, by omega, by simp⟩
  · omega
  · have hs := sum_take_le szFile l (y2.1.toNat + 1)
    rw [sum_take szFile (by omega)] at hs
    simp only [szL] at hp; omega
  · rw [i2.2.2]; simp; omega
  · rw [i2.2.2]; simp; omega
  · have hw : IntKind.i64.wrap (y2.1 + 1) = y2.1 + 1 := wrapId (by have := szL_len szFile l; omega)
    rw [hw, toNat1 (by omega), i2.2.2]
    refine ⟨⟨by omega, by omega, ?_⟩, by omega⟩
    rw [show l.length - y2.1.toNat = (l.length - (y2.1.toNat + 1)) + 1 from by omega, List.replicate_succ, mod_at (by simp; omega), take_succ (by omega)]
    simp
  · have e : l.take y2.1.toNat = l := List.take_of_length_le (by omega)
    rw [i2.2.2, e]; simp; omega)
def E47 : D.Env := E46.add 163 ftoFileS
theorem E47ok : EOk Tryz.prog E47 := E46ok.add k163_46
-- laws.eqFileS
set_option maxHeartbeats 2000000 in
theorem k167_47 : feqFileS.ok Tryz.prog 167 := Fct.of (S := feqFileS) (L := fun ⟨l, m, _⟩ => fun | 4 => some (LeqS .file l m) | _ => none) (kp := [0,1,4,5,10,14,26]) E47ok Tryz.func167 (by kernel_rfl) (by kernel_rfl) (by
  rintro ⟨(l : List SFile), (m : List SFile), _⟩ hp
  refine holds_of (X := .br ((↑l.length : Int) != (↑m.length : Int))
 (.leaf (mkR feqFileS.rs (false, ())) [] [])
 (lpx (LeqS .file l m) ((0 : Int), ()) fun (y2 : Int × PUnit) bk2 =>
  .br (decide (y2.fst < (↑l.length : Int)))
   (.ob ((0 : Int) ≤ y2.fst ∧ y2.fst < (↑l.length : Int)) <|
    .ob ((0 : Int) ≤ y2.fst ∧ y2.fst < (↑m.length : Int)) <|
    .ob (feqFile.pre (l.getD y2.fst.toNat default, m.getD y2.fst.toNat default, ())) <|
    .lt (Bool × PUnit) (feqFile.fn (l.getD y2.fst.toNat default, m.getD y2.fst.toNat default, ())) fun z2 =>
    .br (!z2.fst)
     (.leaf (mkR feqFileS.rs (false, ())) [] [])
     (.ob (l = l) <|
      .ob (m = m) <|
      .ob (Value.bool ((↑l.length : Int) != (↑m.length : Int)) = Value.bool ((↑l.length : Int) != (↑m.length : Int))) <|
      .ob (bk2 (IntKind.i64.wrap (y2.fst + (1 : Int)), ())) <|
      .ok))
   (.leaf (mkR feqFileS.rs (true, ())) [] []))) (by kernel_rfl) ?_
  refine br_i (fun h1 => Fct.leafY ?_) (fun h1 => lpx_i ?_ fun (y2 : Int × PUnit) i2 => br_i (fun h3 => ob_i ?_ fun o4 => ob_i ?_ fun o5 => ob_i trivial fun _ => lt_i (br_i (fun h6 => Fct.leafY ?_) (fun h6 => ob_i rfl fun _ => ob_i rfl fun _ => ob_i rfl fun _ => ob_i ?_ fun o7 => trivial))) (fun h3 => Fct.leafY ?_))
  all_goals try simp only [decide_eq_true_eq, decide_eq_false_iff_not, Bool.not_eq_true', Bool.not_eq_false', bne_iff_ne, bne_eq_false_iff_eq, beq_iff_eq, beq_eq_false_iff_ne, baEq, Int.not_lt, Int.not_le, ne_eq, Decidable.not_not] at *
  all_goals try simp only [LeqS, feqFile, feqFileS, baSz, List.size_toArray, List.length_cons, List.length_nil, Nat.reduceAdd, Int.toNat_zero, List.drop_zero, decide_eq_true_eq, decide_eq_false_iff_not, Bool.not_eq_true', Bool.not_eq_false', bne_iff_ne, bne_eq_false_iff_eq, beq_iff_eq, beq_eq_false_iff_ne, Bool.not_eq_true, Bool.not_eq_false, ne_eq, Decidable.not_not, baEq, decide_not, Prod.mk.injEq, and_true, true_and, Room, List.nil_append, Nat.zero_add, Int.not_lt, Int.not_le] at *
  · rw [decide_eq_false]; rintro rfl; omega
  · exact ⟨by omega, by omega, by simp⟩
  · omega
  · omega
  · rw [decide_eq_false]; rintro rfl; exact absurd rfl h6
  · have hw : IntKind.i64.wrap (y2.1 + 1) = y2.1 + 1 := wrapId (by omega)
    rw [hw, toNat1 (by omega)]
    refine ⟨⟨by omega, by omega, ?_⟩, by omega⟩
    rw [take_succ (by omega), take_succ (by omega), i2.2.2, h6]
  · have e : l.take y2.1.toNat = l := List.take_of_length_le (by omega)
    have e2 : m.take y2.1.toNat = m := List.take_of_length_le (by omega)
    rw [decide_eq_true]; rw [← e, ← e2, i2.2.2])
def E48 : D.Env := E47.add 167 feqFileS
theorem E48ok : EOk Tryz.prog E48 := E47ok.add k167_47
-- laws.szServer
set_option maxHeartbeats 2000000 in
theorem k133_48 : fszServer.ok Tryz.prog 133 := Fct.of (S := fszServer) (L := fun _ _ => none) (kp := [0,1,2,4,11,17]) E48ok Tryz.func133 (by kernel_rfl) (by kernel_rfl) (by
  rintro ⟨(x : SServer), (n : Int), _⟩ hp
  refine holds_of (X := .br (decide (IntKind.i64.wrap (n - (↑x.host.size : Int)) < (0 : Int)))
 (.leaf (mkR fszServer.rs ((-1 : Int), ())) [] [])
 (.ob (fszFileS.pre (x.files, IntKind.i64.wrap (n - (↑x.host.size : Int)), ())) <|
  .lt (Int × PUnit) (fszFileS.fn (x.files, IntKind.i64.wrap (n - (↑x.host.size : Int)), ())) fun z2 =>
  .br (decide (z2.fst < (0 : Int)))
   (.leaf (mkR fszServer.rs ((-1 : Int), ())) [] [])
   (.leaf (mkR fszServer.rs (z2.fst, ())) [] []))) (by kernel_rfl) ?_
  refine br_i (fun h1 => Fct.leafY ?_) (fun h1 => ob_i ?_ fun o2 => lt_i (br_i (fun h3 => Fct.leafY ?_) (fun h3 => Fct.leafY ?_)))
  all_goals try simp only [decide_eq_true_eq, decide_eq_false_iff_not, Bool.not_eq_true', Bool.not_eq_false', bne_iff_ne, bne_eq_false_iff_eq, beq_iff_eq, beq_eq_false_iff_ne, baEq, Int.not_lt, Int.not_le, ne_eq, Decidable.not_not] at *
  all_goals try simp only [fszFileS, fszServer, baSz, List.size_toArray, List.length_cons, List.length_nil, Nat.reduceAdd, Int.toNat_zero, List.drop_zero, decide_eq_true_eq, decide_eq_false_iff_not, Bool.not_eq_true', Bool.not_eq_false', bne_iff_ne, bne_eq_false_iff_eq, beq_iff_eq, beq_eq_false_iff_ne, Bool.not_eq_true, Bool.not_eq_false, ne_eq, Decidable.not_not, baEq, decide_not, Prod.mk.injEq, and_true, true_and, Room, List.nil_append, Nat.zero_add, Int.not_lt, Int.not_le, Sh.good, Sh.fc, enc, List.forall_mem_cons, List.not_mem_nil, false_implies, implies_true, goodC, maxLen] at *
  all_goals grind [wrapId', lessen, szL, szServer])
def E49 : D.Env := E48.add 133 fszServer
theorem E49ok : EOk Tryz.prog E49 := E48ok.add k133_48
-- laws.toServer
theorem k142_49 : ftoServer.ok Tryz.prog 142 := Fct.of (S := ftoServer) (L := fun _ _ => none) (kp := [0,1,2,3]) E49ok Tryz.func142 (by kernel_rfl) (by kernel_rfl) (by
  rintro ⟨(x : SServer), _⟩ hp
  refine holds_of (X := .ob (ftoFileS.pre (x.files, ())) <|
 .lt (List SFile × PUnit) (ftoFileS.fn (x.files, ())) fun z2 =>
 .leaf (mkR ftoServer.rs (⟨x.host, z2.fst⟩, ())) [] []) (by kernel_rfl) ?_
  refine ob_i ?_ fun o1 => lt_i (Fct.leafY ?_)
  all_goals try simp only [decide_eq_true_eq, decide_eq_false_iff_not, Bool.not_eq_true', Bool.not_eq_false', bne_iff_ne, bne_eq_false_iff_eq, beq_iff_eq, beq_eq_false_iff_ne, baEq, Int.not_lt, Int.not_le, ne_eq, Decidable.not_not] at *
  all_goals try simp only [ftoFileS, ftoServer, baSz, List.size_toArray, List.length_cons, List.length_nil, Nat.reduceAdd, Int.toNat_zero, List.drop_zero, decide_eq_true_eq, decide_eq_false_iff_not, Bool.not_eq_true', Bool.not_eq_false', bne_iff_ne, bne_eq_false_iff_eq, beq_iff_eq, beq_eq_false_iff_ne, Bool.not_eq_true, Bool.not_eq_false, ne_eq, Decidable.not_not, baEq, decide_not, Prod.mk.injEq, and_true, true_and, Room, List.nil_append, Nat.zero_add, Int.not_lt, Int.not_le] at *
  all_goals first | trivial | rfl | grind [szL, szServer])
def E50 : D.Env := E49.add 142 ftoServer
theorem E50ok : EOk Tryz.prog E50 := E49ok.add k142_49
-- laws.eqServer
set_option maxHeartbeats 2000000 in
theorem k151_50 : feqServer.ok Tryz.prog 151 := Fct.of (S := feqServer) (L := fun _ _ => none) (kp := [0,1,2,3,4,9,15]) E50ok Tryz.func151 (by kernel_rfl) (by kernel_rfl) (by
  rintro ⟨(x : SServer), (y : SServer), _⟩ hp
  refine holds_of (X := .br (!x.host.toList == y.host.toList)
 (.leaf (mkR feqServer.rs (false, ())) [] [])
 (.ob (feqFileS.pre (x.files, y.files, ())) <|
  .lt (Bool × PUnit) (feqFileS.fn (x.files, y.files, ())) fun z2 =>
  .br (!z2.fst)
   (.leaf (mkR feqServer.rs (false, ())) [] [])
   (.leaf (mkR feqServer.rs (true, ())) [] []))) (by kernel_rfl) ?_
  refine br_i (fun h1 => Fct.leafY ?_) (fun h1 => ob_i ?_ fun o2 => lt_i (br_i (fun h3 => Fct.leafY ?_) (fun h3 => Fct.leafY ?_)))
  all_goals try simp only [decide_eq_true_eq, decide_eq_false_iff_not, Bool.not_eq_true', Bool.not_eq_false', bne_iff_ne, bne_eq_false_iff_eq, beq_iff_eq, beq_eq_false_iff_ne, baEq, Int.not_lt, Int.not_le, ne_eq, Decidable.not_not] at *
  all_goals try simp only [feqFileS, feqServer, baSz, List.size_toArray, List.length_cons, List.length_nil, Nat.reduceAdd, Int.toNat_zero, List.drop_zero, decide_eq_true_eq, decide_eq_false_iff_not, Bool.not_eq_true', Bool.not_eq_false', bne_iff_ne, bne_eq_false_iff_eq, beq_iff_eq, beq_eq_false_iff_ne, Bool.not_eq_true, Bool.not_eq_false, ne_eq, Decidable.not_not, baEq, decide_not, Prod.mk.injEq, and_true, true_and, Room, List.nil_append, Nat.zero_add, Int.not_lt, Int.not_le] at *
  all_goals first | trivial | (cases x; cases y; simp_all; done) | (simp only [szL, szServer] at *; omega) | grind [szL, szServer])
def E51 : D.Env := E50.add 151 feqServer
theorem E51ok : EOk Tryz.prog E51 := E50ok.add k151_50
-- laws.szServerS
set_option maxHeartbeats 2000000 in
theorem k81_51 : fszServerS.ok Tryz.prog 81 := Fct.of (S := fszServerS) (L := fun ⟨l, n, _⟩ => fun | 5 => some (LszS .server szServer l n) | _ => none) (kp := [0,1,4,5,11,15,25]) E51ok Tryz.func81 (by kernel_rfl) (by kernel_rfl) (by
  rintro ⟨(l : List SServer), (n : Int), _⟩ hp
  refine holds_of (X := .br (decide (IntKind.i64.wrap (n - (↑l.length : Int)) < (0 : Int)))
 (.leaf (mkR fszServerS.rs ((-1 : Int), ())) [] [])
 (lpx (LszS .server szServer l n) (IntKind.i64.wrap (n - (↑l.length : Int)), ((0 : Int), ())) fun (y2 : Int × Int × PUnit) bk2 =>
  .br (decide (y2.snd.fst < (↑l.length : Int)))
   (.ob ((0 : Int) ≤ y2.snd.fst ∧ y2.snd.fst < (↑l.length : Int)) <|
    .ob (fszServer.pre (l.getD y2.snd.fst.toNat default, y2.fst, ())) <|
    .lt (Int × PUnit) (fszServer.fn (l.getD y2.snd.fst.toNat default, y2.fst, ())) fun z2 =>
    .br (decide (z2.fst < (0 : Int)))
     (.leaf (mkR fszServerS.rs ((-1 : Int), ())) [] [])
     (.ob (l = l) <|
      .ob (Value.bool (decide (IntKind.i64.wrap (n - (↑l.length : Int)) < (0 : Int))) =
  Value.bool (decide (IntKind.i64.wrap (n - (↑l.length : Int)) < (0 : Int)))) <|
      .ob (bk2 (z2.fst, (IntKind.i64.wrap (y2.snd.fst + (1 : Int)), ()))) <|
      .ok))
   (.leaf (mkR fszServerS.rs (y2.fst, ())) [] []))) (by kernel_rfl) ?_
  refine br_i (fun h1 => Fct.leafY ?_) (fun h1 => lpx_i ?_ fun (y2 : Int × Int × PUnit) i2 => br_i (fun h3 => ob_i ?_ fun o4 => ob_i ?_ fun o5 => lt_i (br_i (fun h6 => Fct.leafY ?_) (fun h6 => ob_i rfl fun _ => ob_i rfl fun _ => ob_i ?_ fun o7 => trivial))) (fun h3 => Fct.leafY ?_))
  all_goals try simp only [decide_eq_true_eq, decide_eq_false_iff_not, Bool.not_eq_true', Bool.not_eq_false', bne_iff_ne, bne_eq_false_iff_eq, beq_iff_eq, beq_eq_false_iff_ne, baEq, Int.not_lt, Int.not_le, ne_eq, Decidable.not_not] at *
  all_goals try simp only [LszS, fszServer, fszServerS, baSz, List.size_toArray, List.length_cons, List.length_nil, Nat.reduceAdd, Int.toNat_zero, List.drop_zero, decide_eq_true_eq, decide_eq_false_iff_not, Bool.not_eq_true', Bool.not_eq_false', bne_iff_ne, bne_eq_false_iff_eq, beq_iff_eq, beq_eq_false_iff_ne, Bool.not_eq_true, Bool.not_eq_false, ne_eq, Decidable.not_not, baEq, decide_not, Prod.mk.injEq, and_true, true_and, Room, List.nil_append, Nat.zero_add, Int.not_lt, Int.not_le] at *
  · have := good_len hp.1; simp only [maxLen] at this; rw [wrapId (by omega)] at h1
    rw [lessenNeg (by simp only [szL]; omega)]
  · have := good_len hp.1; simp only [maxLen] at this
    rw [wrapId (by omega)] at h1 ⊢
    exact ⟨by omega, by omega, h1, by simp⟩
  · omega
  · exact ⟨good_getD hp.1 (by omega), by omega, by omega⟩
  · have hs := sum_take_le szServer l (y2.2.1.toNat + 1)
    rw [sum_take szServer (by omega)] at hs
    rw [lessen_lt (by omega)] at h6
    rw [lessenNeg (by simp only [szL]; omega)]
  · have hw : IntKind.i64.wrap (y2.2.1 + 1) = y2.2.1 + 1 := wrapId (by have := good_len hp.1; simp only [maxLen] at this; omega)
    have h7 : ¬ lessen y2.1 (szServer (l.getD y2.2.1.toNat default)) < 0 := by omega
    rw [lessen_lt (by omega)] at h7
    rw [hw, toNat1 (by omega), sum_take szServer (by omega), lessen_ge (by omega)]
    exact ⟨⟨by omega, by omega, by omega, by omega⟩, by omega⟩
  · have e : l.take y2.2.1.toNat = l := List.take_of_length_le (by omega)
    rw [e] at i2
    have hz : ((szL szServer l : Nat) : Int) = l.length + (l.map szServer).sum := by simp only [szL]; omega
    rw [lessen_ge (by omega)]
    show y2.1 = n - ((szL szServer l : Nat) : Int)
    omega)
def E52 : D.Env := E51.add 81 fszServerS
theorem E52ok : EOk Tryz.prog E52 := E51ok.add k81_51
-- laws.toServerS
theorem k94_52 : ftoServerS.ok Tryz.prog 94 := Fct.of (S := ftoServerS) (L := fun ⟨l, _⟩ => fun | 3 => some (LtoS .server l) | _ => none) (kp := [0,2,3,4,11]) E52ok Tryz.func94 (by kernel_rfl) (by kernel_rfl) (by
  rintro ⟨(l : List SServer), _⟩ hp
  refine holds_of (X := .ob ((↑l.length : Int) = (↑l.length : Int) ∧
  (0 : Int) ≤ (↑l.length : Int) ∧
    (40 : Int) * (↑l.length : Int) ≤ (140737488355328 : Int) ∧ (↑l.length : Int) ≤ (140737488355328 : Int)) <|
 lpx (LtoS .server l) ((0 : Int), (List.replicate (↑l.length : Int).toNat default, ())) fun (y2 : Int × List SServer × PUnit) bk2 =>
 .br (decide (y2.fst < (↑l.length : Int)))
  (.ob ((0 : Int) ≤ y2.fst ∧ y2.fst < (↑l.length : Int)) <|
   .ob (ftoServer.pre (l.getD y2.fst.toNat default, ())) <|
   .lt (SServer × PUnit) (ftoServer.fn (l.getD y2.fst.toNat default, ())) fun z2 =>
   .ob ((0 : Int) ≤ y2.fst ∧ y2.fst < (↑y2.snd.fst.length : Int)) <|
    .ob (y2.fst.toNat < y2.snd.fst.length) <|
    .lt (List SServer) (y2.snd.fst.modify y2.fst.toNat fun z => z2.fst) fun z3 =>
    .ob (l = l) <|
     .ob (bk2 (IntKind.i64.wrap (y2.fst + (1 : Int)), (z3, ()))) <|
     .ok)
  (.leaf (mkR ftoServerS.rs (y2.snd.fst, ())) [] [])) (by kernel_rfl) ?_
  refine ob_i ?_ fun o1 => lpx_i ?_ fun (y2 : Int × List SServer × PUnit) i2 => br_i (fun h3 => ob_i ?_ fun o4 => ob_i ?_ fun o5 => lt_i (ob_i ?_ fun o6 => ob_i ?_ fun o7 => lt_i (ob_i rfl fun _ => ob_i ?_ fun o8 => trivial))) (fun h3 => Fct.leafY ?_)
  all_goals try simp only [decide_eq_true_eq, decide_eq_false_iff_not, Bool.not_eq_true', Bool.not_eq_false', bne_iff_ne, bne_eq_false_iff_eq, beq_iff_eq, beq_eq_false_iff_ne, baEq, Int.not_lt, Int.not_le, ne_eq, Decidable.not_not] at *
  all_goals try simp only [LtoS, ftoServer, ftoServerS, baSz, List.size_toArray, List.length_cons, List.length_nil, Nat.reduceAdd, Int.toNat_zero, List.drop_zero, decide_eq_true_eq, decide_eq_false_iff_not, Bool.not_eq_true', Bool.not_eq_false', bne_iff_ne, bne_eq_false_iff_eq, beq_iff_eq, beq_eq_false_iff_ne, Bool.not_eq_true, Bool.not_eq_false, ne_eq, Decidable.not_not, baEq, decide_not, Prod.mk.injEq, and_true, true_and, Room, List.nil_append, Nat.zero_add, Int.not_lt, Int.not_le] at *
  · have := szL_len szServer l; omega
  · exact ⟨by omega, by omega, by simp⟩
  · omega
  · have hs := sum_take_le szServer l (y2.1.toNat + 1)
    rw [sum_take szServer (by omega)] at hs
    simp only [szL] at hp; omega
  · rw [i2.2.2]; simp; omega
  · rw [i2.2.2]; simp; omega
  · have hw : IntKind.i64.wrap (y2.1 + 1) = y2.1 + 1 := wrapId (by have := szL_len szServer l; omega)
    rw [hw, toNat1 (by omega), i2.2.2]
    refine ⟨⟨by omega, by omega, ?_⟩, by omega⟩
    rw [show l.length - y2.1.toNat = (l.length - (y2.1.toNat + 1)) + 1 from by omega, List.replicate_succ, mod_at (by simp; omega), take_succ (by omega)]
    simp
  · have e : l.take y2.1.toNat = l := List.take_of_length_le (by omega)
    rw [i2.2.2, e]; simp; omega)
def E53 : D.Env := E52.add 94 ftoServerS
theorem E53ok : EOk Tryz.prog E53 := E52ok.add k94_52
-- laws.eqServerS
set_option maxHeartbeats 2000000 in
theorem k107_53 : feqServerS.ok Tryz.prog 107 := Fct.of (S := feqServerS) (L := fun ⟨l, m, _⟩ => fun | 4 => some (LeqS .server l m) | _ => none) (kp := [0,1,4,5,10,14,26]) E53ok Tryz.func107 (by kernel_rfl) (by kernel_rfl) (by
  rintro ⟨(l : List SServer), (m : List SServer), _⟩ hp
  refine holds_of (X := .br ((↑l.length : Int) != (↑m.length : Int))
 (.leaf (mkR feqServerS.rs (false, ())) [] [])
 (lpx (LeqS .server l m) ((0 : Int), ()) fun (y2 : Int × PUnit) bk2 =>
  .br (decide (y2.fst < (↑l.length : Int)))
   (.ob ((0 : Int) ≤ y2.fst ∧ y2.fst < (↑l.length : Int)) <|
    .ob ((0 : Int) ≤ y2.fst ∧ y2.fst < (↑m.length : Int)) <|
    .ob (feqServer.pre (l.getD y2.fst.toNat default, m.getD y2.fst.toNat default, ())) <|
    .lt (Bool × PUnit) (feqServer.fn (l.getD y2.fst.toNat default, m.getD y2.fst.toNat default, ())) fun z2 =>
    .br (!z2.fst)
     (.leaf (mkR feqServerS.rs (false, ())) [] [])
     (.ob (l = l) <|
      .ob (m = m) <|
      .ob (Value.bool ((↑l.length : Int) != (↑m.length : Int)) = Value.bool ((↑l.length : Int) != (↑m.length : Int))) <|
      .ob (bk2 (IntKind.i64.wrap (y2.fst + (1 : Int)), ())) <|
      .ok))
   (.leaf (mkR feqServerS.rs (true, ())) [] []))) (by kernel_rfl) ?_
  refine br_i (fun h1 => Fct.leafY ?_) (fun h1 => lpx_i ?_ fun (y2 : Int × PUnit) i2 => br_i (fun h3 => ob_i ?_ fun o4 => ob_i ?_ fun o5 => ob_i ?_ fun o6 => lt_i (br_i (fun h7 => Fct.leafY ?_) (fun h7 => ob_i rfl fun _ => ob_i rfl fun _ => ob_i rfl fun _ => ob_i ?_ fun o8 => trivial))) (fun h3 => Fct.leafY ?_))
  all_goals try simp only [decide_eq_true_eq, decide_eq_false_iff_not, Bool.not_eq_true', Bool.not_eq_false', bne_iff_ne, bne_eq_false_iff_eq, beq_iff_eq, beq_eq_false_iff_ne, baEq, Int.not_lt, Int.not_le, ne_eq, Decidable.not_not] at *
  all_goals try simp only [LeqS, feqServer, feqServerS, baSz, List.size_toArray, List.length_cons, List.length_nil, Nat.reduceAdd, Int.toNat_zero, List.drop_zero, decide_eq_true_eq, decide_eq_false_iff_not, Bool.not_eq_true', Bool.not_eq_false', bne_iff_ne, bne_eq_false_iff_eq, beq_iff_eq, beq_eq_false_iff_ne, Bool.not_eq_true, Bool.not_eq_false, ne_eq, Decidable.not_not, baEq, decide_not, Prod.mk.injEq, and_true, true_and, Room, List.nil_append, Nat.zero_add, Int.not_lt, Int.not_le] at *
  all_goals have hl := szL_len szServer l
  · rw [decide_eq_false]; rintro rfl; omega
  · exact ⟨by omega, by omega, by simp⟩
  · omega
  · omega
  · have hs := szL_get szServer (l := l) (i := y2.1.toNat) (by omega); omega
  · rw [decide_eq_false]; rintro rfl; first | exact absurd rfl h6 | exact absurd rfl h7
  · have hw : IntKind.i64.wrap (y2.1 + 1) = y2.1 + 1 := wrapId (by omega)
    rw [hw, toNat1 (by omega)]
    refine ⟨⟨by omega, by omega, ?_⟩, by omega⟩
    rw [take_succ (by omega), take_succ (by omega), i2.2.2]; first | rw [h6] | rw [h7]
  · have e : l.take y2.1.toNat = l := List.take_of_length_le (by omega)
    have e2 : m.take y2.1.toNat = m := List.take_of_length_le (by omega)
    rw [decide_eq_true]; rw [← e, ← e2, i2.2.2])
def E54 : D.Env := E53.add 107 feqServerS
theorem E54ok : EOk Tryz.prog E54 := E53ok.add k107_53
-- laws.szEntry
set_option maxHeartbeats 2000000 in
theorem k160_54 : fszEntry.ok Tryz.prog 160 := Fct.of (S := fszEntry) (L := fun _ _ => none) (kp := [0,1,2,4,11,17,23]) E54ok Tryz.func160 (by kernel_rfl) (by kernel_rfl) (by
  rintro ⟨(x : SEntry), (n : Int), _⟩ hp
  refine holds_of (X := .br (decide (IntKind.i64.wrap (n - (↑x.top.size : Int)) < (0 : Int)))
 (.leaf (mkR fszEntry.rs ((-1 : Int), ())) [] [])
 (.ob (fszAddr.pre (x.to, IntKind.i64.wrap (n - (↑x.top.size : Int)), ())) <|
  .lt (Int × PUnit) (fszAddr.fn (x.to, IntKind.i64.wrap (n - (↑x.top.size : Int)), ())) fun z2 =>
  .br (decide (z2.fst < (0 : Int)))
   (.leaf (mkR fszEntry.rs ((-1 : Int), ())) [] [])
   (.ob (fszResponse.pre (x.response, z2.fst, ())) <|
    .lt (Int × PUnit) (fszResponse.fn (x.response, z2.fst, ())) fun z3 =>
    .br (decide (z3.fst < (0 : Int)))
     (.leaf (mkR fszEntry.rs ((-1 : Int), ())) [] [])
     (.leaf (mkR fszEntry.rs (z3.fst, ())) [] [])))) (by kernel_rfl) ?_
  refine br_i (fun h1 => Fct.leafY ?_) (fun h1 => ob_i ?_ fun o2 => lt_i (br_i (fun h3 => Fct.leafY ?_) (fun h3 => ob_i ?_ fun o4 => lt_i (br_i (fun h5 => Fct.leafY ?_) (fun h5 => Fct.leafY ?_)))))
  all_goals try simp only [decide_eq_true_eq, decide_eq_false_iff_not, Bool.not_eq_true', Bool.not_eq_false', bne_iff_ne, bne_eq_false_iff_eq, beq_iff_eq, beq_eq_false_iff_ne, baEq, Int.not_lt, Int.not_le, ne_eq, Decidable.not_not] at *
  all_goals try simp only [fszAddr, fszEntry, fszResponse, baSz, List.size_toArray, List.length_cons, List.length_nil, Nat.reduceAdd, Int.toNat_zero, List.drop_zero, decide_eq_true_eq, decide_eq_false_iff_not, Bool.not_eq_true', Bool.not_eq_false', bne_iff_ne, bne_eq_false_iff_eq, beq_iff_eq, beq_eq_false_iff_ne, Bool.not_eq_true, Bool.not_eq_false, ne_eq, Decidable.not_not, baEq, decide_not, Prod.mk.injEq, and_true, true_and, Room, List.nil_append, Nat.zero_add, Int.not_lt, Int.not_le, Sh.good, Sh.fc, enc, List.forall_mem_cons, List.not_mem_nil, false_implies, implies_true, goodC, maxLen] at *
  all_goals grind [wrapId', lessen, szAddr, szEntry, szResponse])
def E55 : D.Env := E54.add 160 fszEntry
theorem E55ok : EOk Tryz.prog E55 := E54ok.add k160_54
-- laws.toEntry
theorem k164_55 : ftoEntry.ok Tryz.prog 164 := Fct.of (S := ftoEntry) (L := fun _ _ => none) (kp := [0,1,2,3]) E55ok Tryz.func164 (by kernel_rfl) (by kernel_rfl) (by
  rintro ⟨(x : SEntry), _⟩ hp
  refine holds_of (X := .ob (ftoAddr.pre (x.to, ())) <|
 .lt (SAddr × PUnit) (ftoAddr.fn (x.to, ())) fun z2 =>
 .ob (ftoResponse.pre (x.response, ())) <|
  .lt (SResponse × PUnit) (ftoResponse.fn (x.response, ())) fun z3 =>
  .leaf (mkR ftoEntry.rs (⟨x.top, z2.fst, z3.fst, x.until_⟩, ())) [] []) (by kernel_rfl) ?_
  refine ob_i ?_ fun o1 => lt_i (ob_i ?_ fun o2 => lt_i (Fct.leafY ?_))
  all_goals try simp only [decide_eq_true_eq, decide_eq_false_iff_not, Bool.not_eq_true', Bool.not_eq_false', bne_iff_ne, bne_eq_false_iff_eq, beq_iff_eq, beq_eq_false_iff_ne, baEq, Int.not_lt, Int.not_le, ne_eq, Decidable.not_not] at *
  all_goals try simp only [ftoAddr, ftoEntry, ftoResponse, baSz, List.size_toArray, List.length_cons, List.length_nil, Nat.reduceAdd, Int.toNat_zero, List.drop_zero, decide_eq_true_eq, decide_eq_false_iff_not, Bool.not_eq_true', Bool.not_eq_false', bne_iff_ne, bne_eq_false_iff_eq, beq_iff_eq, beq_eq_false_iff_ne, Bool.not_eq_true, Bool.not_eq_false, ne_eq, Decidable.not_not, baEq, decide_not, Prod.mk.injEq, and_true, true_and, Room, List.nil_append, Nat.zero_add, Int.not_lt, Int.not_le] at *
  all_goals first | trivial | rfl | grind [szAddr, szEntry, szResponse])
def E56 : D.Env := E55.add 164 ftoEntry
theorem E56ok : EOk Tryz.prog E56 := E55ok.add k164_55
-- laws.eqEntry
set_option maxHeartbeats 2000000 in
theorem k168_56 : feqEntry.ok Tryz.prog 168 := Fct.of (S := feqEntry) (L := fun _ _ => none) (kp := [0,1,2,3,4,9,15,21,26]) E56ok Tryz.func168 (by kernel_rfl) (by kernel_rfl) (by
  rintro ⟨(x : SEntry), (y : SEntry), _⟩ hp
  refine holds_of (X := .br (!x.top.toList == y.top.toList)
 (.leaf (mkR feqEntry.rs (false, ())) [] [])
 (.ob (feqAddr.pre (x.to, y.to, ())) <|
  .lt (Bool × PUnit) (feqAddr.fn (x.to, y.to, ())) fun z2 =>
  .br (!z2.fst)
   (.leaf (mkR feqEntry.rs (false, ())) [] [])
   (.ob (feqResponse.pre (x.response, y.response, ())) <|
    .lt (Bool × PUnit) (feqResponse.fn (x.response, y.response, ())) fun z3 =>
    .br (!z3.fst)
     (.leaf (mkR feqEntry.rs (false, ())) [] [])
     (.br (x.until_ != y.until_)
      (.leaf (mkR feqEntry.rs (false, ())) [] [])
      (.leaf (mkR feqEntry.rs (true, ())) [] []))))) (by kernel_rfl) ?_
  refine br_i (fun h1 => Fct.leafY ?_) (fun h1 => ob_i trivial fun _ => lt_i (br_i (fun h2 => Fct.leafY ?_) (fun h2 => ob_i trivial fun _ => lt_i (br_i (fun h3 => Fct.leafY ?_) (fun h3 => br_i (fun h4 => Fct.leafY ?_) (fun h4 => Fct.leafY ?_))))))
  all_goals try simp only [decide_eq_true_eq, decide_eq_false_iff_not, Bool.not_eq_true', Bool.not_eq_false', bne_iff_ne, bne_eq_false_iff_eq, beq_iff_eq, beq_eq_false_iff_ne, baEq, Int.not_lt, Int.not_le, ne_eq, Decidable.not_not] at *
  all_goals try simp only [feqAddr, feqEntry, feqResponse, baSz, List.size_toArray, List.length_cons, List.length_nil, Nat.reduceAdd, Int.toNat_zero, List.drop_zero, decide_eq_true_eq, decide_eq_false_iff_not, Bool.not_eq_true', Bool.not_eq_false', bne_iff_ne, bne_eq_false_iff_eq, beq_iff_eq, beq_eq_false_iff_ne, Bool.not_eq_true, Bool.not_eq_false, ne_eq, Decidable.not_not, baEq, decide_not, Prod.mk.injEq, and_true, true_and, Room, List.nil_append, Nat.zero_add, Int.not_lt, Int.not_le] at *
  all_goals first | trivial | (cases x; cases y; simp_all; done) | (simp only [szAddr, szEntry, szResponse] at *; omega) | grind [szAddr, szEntry, szResponse])
def E57 : D.Env := E56.add 168 feqEntry
theorem E57ok : EOk Tryz.prog E57 := E56ok.add k168_56
-- laws.szEntryS
set_option maxHeartbeats 2000000 in
theorem k134_57 : fszEntryS.ok Tryz.prog 134 := Fct.of (S := fszEntryS) (L := fun ⟨l, n, _⟩ => fun | 5 => some (LszS .entry szEntry l n) | _ => none) (kp := [0,1,4,5,11,15,25]) E57ok Tryz.func134 (by kernel_rfl) (by kernel_rfl) (by
  rintro ⟨(l : List SEntry), (n : Int), _⟩ hp
  refine holds_of (X := .br (decide (IntKind.i64.wrap (n - (↑l.length : Int)) < (0 : Int)))
 (.leaf (mkR fszEntryS.rs ((-1 : Int), ())) [] [])
 (lpx (LszS .entry szEntry l n) (IntKind.i64.wrap (n - (↑l.length : Int)), ((0 : Int), ())) fun (y2 : Int × Int × PUnit) bk2 =>
  .br (decide (y2.snd.fst < (↑l.length : Int)))
   (.ob ((0 : Int) ≤ y2.snd.fst ∧ y2.snd.fst < (↑l.length : Int)) <|
    .ob (fszEntry.pre (l.getD y2.snd.fst.toNat default, y2.fst, ())) <|
    .lt (Int × PUnit) (fszEntry.fn (l.getD y2.snd.fst.toNat default, y2.fst, ())) fun z2 =>
    .br (decide (z2.fst < (0 : Int)))
     (.leaf (mkR fszEntryS.rs ((-1 : Int), ())) [] [])
     (.ob (l = l) <|
      .ob (Value.bool (decide (IntKind.i64.wrap (n - (↑l.length : Int)) < (0 : Int))) =
  Value.bool (decide (IntKind.i64.wrap (n - (↑l.length : Int)) < (0 : Int)))) <|
      .ob (bk2 (z2.fst, (IntKind.i64.wrap (y2.snd.fst + (1 : Int)), ()))) <|
      .ok))
   (.leaf (mkR fszEntryS.rs (y2.fst, ())) [] []))) (by kernel_rfl) ?_
  refine br_i (fun h1 => Fct.leafY ?_) (fun h1 => lpx_i ?_ fun (y2 : Int × Int × PUnit) i2 => br_i (fun h3 => ob_i ?_ fun o4 => ob_i ?_ fun o5 => lt_i (br_i (fun h6 => Fct.leafY ?_) (fun h6 => ob_i rfl fun _ => ob_i rfl fun _ => ob_i ?_ fun o7 => trivial))) (fun h3 => Fct.leafY ?_))
  all_goals try simp only [decide_eq_true_eq, decide_eq_false_iff_not, Bool.not_eq_true', Bool.not_eq_false', bne_iff_ne, bne_eq_false_iff_eq, beq_iff_eq, beq_eq_false_iff_ne, baEq, Int.not_lt, Int.not_le, ne_eq, Decidable.not_not] at *
  all_goals try simp only [LszS, fszEntry, fszEntryS, baSz, List.size_toArray, List.length_cons, List.length_nil, Nat.reduceAdd, Int.toNat_zero, List.drop_zero, decide_eq_true_eq, decide_eq_false_iff_not, Bool.not_eq_true', Bool.not_eq_false', bne_iff_ne, bne_eq_false_iff_eq, beq_iff_eq, beq_eq_false_iff_ne, Bool.not_eq_true, Bool.not_eq_false, ne_eq, Decidable.not_not, baEq, decide_not, Prod.mk.injEq, and_true, true_and, Room, List.nil_append, Nat.zero_add, Int.not_lt, Int.not_le] at *
  · have := good_len hp.1; simp only [maxLen] at this; rw [wrapId (by omega)] at h1
    rw [lessenNeg (by simp only [szL]; omega)]
  · have := good_len hp.1; simp only [maxLen] at this
    rw [wrapId (by omega)] at h1 ⊢
    exact ⟨by omega, by omega, h1, by simp⟩
  · omega
  · exact ⟨good_getD hp.1 (by omega), by omega, by omega⟩
  · have hs := sum_take_le szEntry l (y2.2.1.toNat + 1)
    rw [sum_take szEntry (by omega)] at hs
    rw [lessen_lt (by omega)] at h6
    rw [lessenNeg (by simp only [szL]; omega)]
  · have hw : IntKind.i64.wrap (y2.2.1 + 1) = y2.2.1 + 1 := wrapId (by have := good_len hp.1; simp only [maxLen] at this; omega)
    have h7 : ¬ lessen y2.1 (szEntry (l.getD y2.2.1.toNat default)) < 0 := by omega
    rw [lessen_lt (by omega)] at h7
    rw [hw, toNat1 (by omega), sum_take szEntry (by omega), lessen_ge (by omega)]
    exact ⟨⟨by omega, by omega, by omega, by omega⟩, by omega⟩
  · have e : l.take y2.2.1.toNat = l := List.take_of_length_le (by omega)
    rw [e] at i2
    have hz : ((szL szEntry l : Nat) : Int) = l.length + (l.map szEntry).sum := by simp only [szL]; omega
    rw [lessen_ge (by omega)]
    show y2.1 = n - ((szL szEntry l : Nat) : Int)
    omega)
def E58 : D.Env := E57.add 134 fszEntryS
theorem E58ok : EOk Tryz.prog E58 := E57ok.add k134_57
-- laws.toEntryS
theorem k143_58 : ftoEntryS.ok Tryz.prog 143 := Fct.of (S := ftoEntryS) (L := fun ⟨l, _⟩ => fun | 3 => some (LtoS .entry l) | _ => none) (kp := [0,2,3,4,11]) E58ok Tryz.func143 (by kernel_rfl) (by kernel_rfl) (by
  rintro ⟨(l : List SEntry), _⟩ hp
  refine holds_of (X := .ob ((↑l.length : Int) = (↑l.length : Int) ∧
  (0 : Int) ≤ (↑l.length : Int) ∧
    (120 : Int) * (↑l.length : Int) ≤ (140737488355328 : Int) ∧ (↑l.length : Int) ≤ (140737488355328 : Int)) <|
 lpx (LtoS .entry l) ((0 : Int), (List.replicate (↑l.length : Int).toNat default, ())) fun (y2 : Int × List SEntry × PUnit) bk2 =>
 .br (decide (y2.fst < (↑l.length : Int)))
  (.ob ((0 : Int) ≤ y2.fst ∧ y2.fst < (↑l.length : Int)) <|
   .ob (ftoEntry.pre (l.getD y2.fst.toNat default, ())) <|
   .lt (SEntry × PUnit) (ftoEntry.fn (l.getD y2.fst.toNat default, ())) fun z2 =>
   .ob ((0 : Int) ≤ y2.fst ∧ y2.fst < (↑y2.snd.fst.length : Int)) <|
    .ob (y2.fst.toNat < y2.snd.fst.length) <|
    .lt (List SEntry) (y2.snd.fst.modify y2.fst.toNat fun z => z2.fst) fun z3 =>
    .ob (l = l) <|
     .ob (bk2 (IntKind.i64.wrap (y2.fst + (1 : Int)), (z3, ()))) <|
     .ok)
  (.leaf (mkR ftoEntryS.rs (y2.snd.fst, ())) [] [])) (by kernel_rfl) ?_
  refine ob_i ?_ fun o1 => lpx_i ?_ fun (y2 : Int × List SEntry × PUnit) i2 => br_i (fun h3 => ob_i ?_ fun o4 => ob_i ?_ fun o5 => lt_i (ob_i ?_ fun o6 => ob_i ?_ fun o7 => lt_i (ob_i rfl fun _ => ob_i ?_ fun o8 => trivial))) (fun h3 => Fct.leafY ?_)
  all_goals try simp only [decide_eq_true_eq, decide_eq_false_iff_not, Bool.not_eq_true', Bool.not_eq_false', bne_iff_ne, bne_eq_false_iff_eq, beq_iff_eq, beq_eq_false_iff_ne, baEq, Int.not_lt, Int.not_le, ne_eq, Decidable.not_not] at *
  all_goals try simp only [LtoS, ftoEntry, ftoEntryS, baSz, List.size_toArray, List.length_cons, List.length_nil, Nat.reduceAdd, Int.toNat_zero, List.drop_zero, decide_eq_true_eq, decide_eq_false_iff_not, Bool.not_eq_true', Bool.not_eq_false', bne_iff_ne, bne_eq_false_iff_eq, beq_iff_eq, beq_eq_false_iff_ne, Bool.not_eq_true, Bool.not_eq_false, ne_eq, Decidable.not_not, baEq, decide_not, Prod.mk.injEq, and_true, true_and, Room, List.nil_append, Nat.zero_add, Int.not_lt, Int.not_le] at *
  · have := szL_len szEntry l; omega
  · exact ⟨by omega, by omega, by simp⟩
  · omega
  · have hs := sum_take_le szEntry l (y2.1.toNat + 1)
    rw [sum_take szEntry (by omega)] at hs
    simp only [szL] at hp; omega
  · rw [i2.2.2]; simp; omega
  · rw [i2.2.2]; simp; omega
  · have hw : IntKind.i64.wrap (y2.1 + 1) = y2.1 + 1 := wrapId (by have := szL_len szEntry l; omega)
    rw [hw, toNat1 (by omega), i2.2.2]
    refine ⟨⟨by omega, by omega, ?_⟩, by omega⟩
    rw [show l.length - y2.1.toNat = (l.length - (y2.1.toNat + 1)) + 1 from by omega, List.replicate_succ, mod_at (by simp; omega), take_succ (by omega)]
    simp
  · have e : l.take y2.1.toNat = l := List.take_of_length_le (by omega)
    rw [i2.2.2, e]; simp; omega)
def E59 : D.Env := E58.add 143 ftoEntryS
theorem E59ok : EOk Tryz.prog E59 := E58ok.add k143_58
-- laws.eqEntryS
set_option maxHeartbeats 2000000 in
theorem k152_59 : feqEntryS.ok Tryz.prog 152 := Fct.of (S := feqEntryS) (L := fun ⟨l, m, _⟩ => fun | 4 => some (LeqS .entry l m) | _ => none) (kp := [0,1,4,5,10,14,26]) E59ok Tryz.func152 (by kernel_rfl) (by kernel_rfl) (by
  rintro ⟨(l : List SEntry), (m : List SEntry), _⟩ hp
  refine holds_of (X := .br ((↑l.length : Int) != (↑m.length : Int))
 (.leaf (mkR feqEntryS.rs (false, ())) [] [])
 (lpx (LeqS .entry l m) ((0 : Int), ()) fun (y2 : Int × PUnit) bk2 =>
  .br (decide (y2.fst < (↑l.length : Int)))
   (.ob ((0 : Int) ≤ y2.fst ∧ y2.fst < (↑l.length : Int)) <|
    .ob ((0 : Int) ≤ y2.fst ∧ y2.fst < (↑m.length : Int)) <|
    .ob (feqEntry.pre (l.getD y2.fst.toNat default, m.getD y2.fst.toNat default, ())) <|
    .lt (Bool × PUnit) (feqEntry.fn (l.getD y2.fst.toNat default, m.getD y2.fst.toNat default, ())) fun z2 =>
    .br (!z2.fst)
     (.leaf (mkR feqEntryS.rs (false, ())) [] [])
     (.ob (l = l) <|
      .ob (m = m) <|
      .ob (Value.bool ((↑l.length : Int) != (↑m.length : Int)) = Value.bool ((↑l.length : Int) != (↑m.length : Int))) <|
      .ob (bk2 (IntKind.i64.wrap (y2.fst + (1 : Int)), ())) <|
      .ok))
   (.leaf (mkR feqEntryS.rs (true, ())) [] []))) (by kernel_rfl) ?_
  refine br_i (fun h1 => Fct.leafY ?_) (fun h1 => lpx_i ?_ fun (y2 : Int × PUnit) i2 => br_i (fun h3 => ob_i ?_ fun o4 => ob_i ?_ fun o5 => ob_i trivial fun _ => lt_i (br_i (fun h6 => Fct.leafY ?_) (fun h6 => ob_i rfl fun _ => ob_i rfl fun _ => ob_i rfl fun _ => ob_i ?_ fun o7 => trivial))) (fun h3 => Fct.leafY ?_))
  all_goals try simp only [decide_eq_true_eq, decide_eq_false_iff_not, Bool.not_eq_true', Bool.not_eq_false', bne_iff_ne, bne_eq_false_iff_eq, beq_iff_eq, beq_eq_false_iff_ne, baEq, Int.not_lt, Int.not_le, ne_eq, Decidable.not_not] at *
  all_goals try simp only [LeqS, feqEntry, feqEntryS, baSz, List.size_toArray, List.length_cons, List.length_nil, Nat.reduceAdd, Int.toNat_zero, List.drop_zero, decide_eq_true_eq, decide_eq_false_iff_not, Bool.not_eq_true', Bool.not_eq_false', bne_iff_ne, bne_eq_false_iff_eq, beq_iff_eq, beq_eq_false_iff_ne, Bool.not_eq_true, Bool.not_eq_false, ne_eq, Decidable.not_not, baEq, decide_not, Prod.mk.injEq, and_true, true_and, Room, List.nil_append, Nat.zero_add, Int.not_lt, Int.not_le] at *
  · rw [decide_eq_false]; rintro rfl; omega
  · exact ⟨by omega, by omega, by simp⟩
  · omega
  · omega
  · rw [decide_eq_false]; rintro rfl; exact absurd rfl h6
  · have hw : IntKind.i64.wrap (y2.1 + 1) = y2.1 + 1 := wrapId (by omega)
    rw [hw, toNat1 (by omega)]
    refine ⟨⟨by omega, by omega, ?_⟩, by omega⟩
    rw [take_succ (by omega), take_succ (by omega), i2.2.2, h6]
  · have e : l.take y2.1.toNat = l := List.take_of_length_le (by omega)
    have e2 : m.take y2.1.toNat = m := List.take_of_length_le (by omega)
    rw [decide_eq_true]; rw [← e, ← e2, i2.2.2])
def E60 : D.Env := E59.add 152 feqEntryS
theorem E60ok : EOk Tryz.prog E60 := E59ok.add k152_59
-- laws.szCache
set_option maxHeartbeats 2000000 in
theorem k82_60 : fszCache.ok Tryz.prog 82 := Fct.of (S := fszCache) (L := fun _ _ => none) (kp := [0,1,2,4,10]) E60ok Tryz.func82 (by kernel_rfl) (by kernel_rfl) (by
  rintro ⟨(x : SCache), (n : Int), _⟩ hp
  refine holds_of (X := .ob (fszEntryS.pre (x.entries, n, ())) <|
 .lt (Int × PUnit) (fszEntryS.fn (x.entries, n, ())) fun z2 =>
 .br (decide (z2.fst < (0 : Int)))
  (.leaf (mkR fszCache.rs ((-1 : Int), ())) [] [])
  (.leaf (mkR fszCache.rs (z2.fst, ())) [] [])) (by kernel_rfl) ?_
  refine ob_i ?_ fun o1 => lt_i (br_i (fun h2 => Fct.leafY ?_) (fun h2 => Fct.leafY ?_))
  all_goals try simp only [decide_eq_true_eq, decide_eq_false_iff_not, Bool.not_eq_true', Bool.not_eq_false', bne_iff_ne, bne_eq_false_iff_eq, beq_iff_eq, beq_eq_false_iff_ne, baEq, Int.not_lt, Int.not_le, ne_eq, Decidable.not_not] at *
  all_goals try simp only [fszCache, fszEntryS, baSz, List.size_toArray, List.length_cons, List.length_nil, Nat.reduceAdd, Int.toNat_zero, List.drop_zero, decide_eq_true_eq, decide_eq_false_iff_not, Bool.not_eq_true', Bool.not_eq_false', bne_iff_ne, bne_eq_false_iff_eq, beq_iff_eq, beq_eq_false_iff_ne, Bool.not_eq_true, Bool.not_eq_false, ne_eq, Decidable.not_not, baEq, decide_not, Prod.mk.injEq, and_true, true_and, Room, List.nil_append, Nat.zero_add, Int.not_lt, Int.not_le, Sh.good, Sh.fc, enc, List.forall_mem_cons, List.not_mem_nil, false_implies, implies_true, goodC, maxLen] at *
  all_goals grind [wrapId', lessen, szCache, szL])
def E61 : D.Env := E60.add 82 fszCache
theorem E61ok : EOk Tryz.prog E61 := E60ok.add k82_60
-- laws.toCache
theorem k95_61 : ftoCache.ok Tryz.prog 95 := Fct.of (S := ftoCache) (L := fun _ _ => none) (kp := [0,1,2,3]) E61ok Tryz.func95 (by kernel_rfl) (by kernel_rfl) (by
  rintro ⟨(x : SCache), _⟩ hp
  refine holds_of (X := .ob (ftoEntryS.pre (x.entries, ())) <|
 .lt (List SEntry × PUnit) (ftoEntryS.fn (x.entries, ())) fun z2 =>
 .leaf (mkR ftoCache.rs (⟨z2.fst⟩, ())) [] []) (by kernel_rfl) ?_
  refine ob_i ?_ fun o1 => lt_i (Fct.leafY ?_)
  all_goals try simp only [decide_eq_true_eq, decide_eq_false_iff_not, Bool.not_eq_true', Bool.not_eq_false', bne_iff_ne, bne_eq_false_iff_eq, beq_iff_eq, beq_eq_false_iff_ne, baEq, Int.not_lt, Int.not_le, ne_eq, Decidable.not_not] at *
  all_goals try simp only [ftoCache, ftoEntryS, baSz, List.size_toArray, List.length_cons, List.length_nil, Nat.reduceAdd, Int.toNat_zero, List.drop_zero, decide_eq_true_eq, decide_eq_false_iff_not, Bool.not_eq_true', Bool.not_eq_false', bne_iff_ne, bne_eq_false_iff_eq, beq_iff_eq, beq_eq_false_iff_ne, Bool.not_eq_true, Bool.not_eq_false, ne_eq, Decidable.not_not, baEq, decide_not, Prod.mk.injEq, and_true, true_and, Room, List.nil_append, Nat.zero_add, Int.not_lt, Int.not_le] at *
  all_goals first | trivial | rfl | grind [szCache, szL])
def E62 : D.Env := E61.add 95 ftoCache
theorem E62ok : EOk Tryz.prog E62 := E61ok.add k95_61
-- laws.eqCache
set_option maxHeartbeats 2000000 in
theorem k108_62 : feqCache.ok Tryz.prog 108 := Fct.of (S := feqCache) (L := fun _ _ => none) (kp := [0,1,2,3,4,10]) E62ok Tryz.func108 (by kernel_rfl) (by kernel_rfl) (by
  rintro ⟨(x : SCache), (y : SCache), _⟩ hp
  refine holds_of (X := .ob (feqEntryS.pre (x.entries, y.entries, ())) <|
 .lt (Bool × PUnit) (feqEntryS.fn (x.entries, y.entries, ())) fun z2 =>
 .br (!z2.fst)
  (.leaf (mkR feqCache.rs (false, ())) [] [])
  (.leaf (mkR feqCache.rs (true, ())) [] [])) (by kernel_rfl) ?_
  refine ob_i ?_ fun o1 => lt_i (br_i (fun h2 => Fct.leafY ?_) (fun h2 => Fct.leafY ?_))
  all_goals try simp only [decide_eq_true_eq, decide_eq_false_iff_not, Bool.not_eq_true', Bool.not_eq_false', bne_iff_ne, bne_eq_false_iff_eq, beq_iff_eq, beq_eq_false_iff_ne, baEq, Int.not_lt, Int.not_le, ne_eq, Decidable.not_not] at *
  all_goals try simp only [feqCache, feqEntryS, baSz, List.size_toArray, List.length_cons, List.length_nil, Nat.reduceAdd, Int.toNat_zero, List.drop_zero, decide_eq_true_eq, decide_eq_false_iff_not, Bool.not_eq_true', Bool.not_eq_false', bne_iff_ne, bne_eq_false_iff_eq, beq_iff_eq, beq_eq_false_iff_ne, Bool.not_eq_true, Bool.not_eq_false, ne_eq, Decidable.not_not, baEq, decide_not, Prod.mk.injEq, and_true, true_and, Room, List.nil_append, Nat.zero_add, Int.not_lt, Int.not_le] at *
  all_goals first | trivial | (cases x; cases y; simp_all; done) | (simp only [szCache, szL] at *; omega) | grind [szCache, szL])
def E63 : D.Env := E62.add 108 feqCache
theorem E63ok : EOk Tryz.prog E63 := E62ok.add k108_62
-- laws.szSent
set_option maxHeartbeats 2000000 in
theorem k135_63 : fszSent.ok Tryz.prog 135 := Fct.of (S := fszSent) (L := fun _ _ => none) (kp := [0,1,2,4,11,17]) E63ok Tryz.func135 (by kernel_rfl) (by kernel_rfl) (by
  rintro ⟨(x : SSent), (n : Int), _⟩ hp
  refine holds_of (X := .br (decide (IntKind.i64.wrap (n - (↑x.top.size : Int)) < (0 : Int)))
 (.leaf (mkR fszSent.rs ((-1 : Int), ())) [] [])
 (.ob (fszAddr.pre (x.to, IntKind.i64.wrap (n - (↑x.top.size : Int)), ())) <|
  .lt (Int × PUnit) (fszAddr.fn (x.to, IntKind.i64.wrap (n - (↑x.top.size : Int)), ())) fun z2 =>
  .br (decide (z2.fst < (0 : Int)))
   (.leaf (mkR fszSent.rs ((-1 : Int), ())) [] [])
   (.leaf (mkR fszSent.rs (z2.fst, ())) [] []))) (by kernel_rfl) ?_
  refine br_i (fun h1 => Fct.leafY ?_) (fun h1 => ob_i ?_ fun o2 => lt_i (br_i (fun h3 => Fct.leafY ?_) (fun h3 => Fct.leafY ?_)))
  all_goals try simp only [decide_eq_true_eq, decide_eq_false_iff_not, Bool.not_eq_true', Bool.not_eq_false', bne_iff_ne, bne_eq_false_iff_eq, beq_iff_eq, beq_eq_false_iff_ne, baEq, Int.not_lt, Int.not_le, ne_eq, Decidable.not_not] at *
  all_goals try simp only [fszAddr, fszSent, baSz, List.size_toArray, List.length_cons, List.length_nil, Nat.reduceAdd, Int.toNat_zero, List.drop_zero, decide_eq_true_eq, decide_eq_false_iff_not, Bool.not_eq_true', Bool.not_eq_false', bne_iff_ne, bne_eq_false_iff_eq, beq_iff_eq, beq_eq_false_iff_ne, Bool.not_eq_true, Bool.not_eq_false, ne_eq, Decidable.not_not, baEq, decide_not, Prod.mk.injEq, and_true, true_and, Room, List.nil_append, Nat.zero_add, Int.not_lt, Int.not_le, Sh.good, Sh.fc, enc, List.forall_mem_cons, List.not_mem_nil, false_implies, implies_true, goodC, maxLen] at *
  all_goals grind [wrapId', lessen, szAddr, szSent])
def E64 : D.Env := E63.add 135 fszSent
theorem E64ok : EOk Tryz.prog E64 := E63ok.add k135_63
-- laws.toSent
theorem k144_64 : ftoSent.ok Tryz.prog 144 := Fct.of (S := ftoSent) (L := fun _ _ => none) (kp := [0,1,2,3]) E64ok Tryz.func144 (by kernel_rfl) (by kernel_rfl) (by
  rintro ⟨(x : SSent), _⟩ hp
  refine holds_of (X := .ob (ftoAddr.pre (x.to, ())) <|
 .lt (SAddr × PUnit) (ftoAddr.fn (x.to, ())) fun z2 =>
 .leaf (mkR ftoSent.rs (⟨x.top, z2.fst, x.guess⟩, ())) [] []) (by kernel_rfl) ?_
  refine ob_i ?_ fun o1 => lt_i (Fct.leafY ?_)
  all_goals try simp only [decide_eq_true_eq, decide_eq_false_iff_not, Bool.not_eq_true', Bool.not_eq_false', bne_iff_ne, bne_eq_false_iff_eq, beq_iff_eq, beq_eq_false_iff_ne, baEq, Int.not_lt, Int.not_le, ne_eq, Decidable.not_not] at *
  all_goals try simp only [ftoAddr, ftoSent, baSz, List.size_toArray, List.length_cons, List.length_nil, Nat.reduceAdd, Int.toNat_zero, List.drop_zero, decide_eq_true_eq, decide_eq_false_iff_not, Bool.not_eq_true', Bool.not_eq_false', bne_iff_ne, bne_eq_false_iff_eq, beq_iff_eq, beq_eq_false_iff_ne, Bool.not_eq_true, Bool.not_eq_false, ne_eq, Decidable.not_not, baEq, decide_not, Prod.mk.injEq, and_true, true_and, Room, List.nil_append, Nat.zero_add, Int.not_lt, Int.not_le] at *
  all_goals first | trivial | rfl | grind [szAddr, szSent])
def E65 : D.Env := E64.add 144 ftoSent
theorem E65ok : EOk Tryz.prog E65 := E64ok.add k144_64
-- laws.eqSent
set_option maxHeartbeats 2000000 in
theorem k153_65 : feqSent.ok Tryz.prog 153 := Fct.of (S := feqSent) (L := fun _ _ => none) (kp := [0,1,2,3,4,9,15,20]) E65ok Tryz.func153 (by kernel_rfl) (by kernel_rfl) (by
  rintro ⟨(x : SSent), (y : SSent), _⟩ hp
  refine holds_of (X := .br (!x.top.toList == y.top.toList)
 (.leaf (mkR feqSent.rs (false, ())) [] [])
 (.ob (feqAddr.pre (x.to, y.to, ())) <|
  .lt (Bool × PUnit) (feqAddr.fn (x.to, y.to, ())) fun z2 =>
  .br (!z2.fst)
   (.leaf (mkR feqSent.rs (false, ())) [] [])
   (.br (!x.guess == y.guess)
    (.leaf (mkR feqSent.rs (false, ())) [] [])
    (.leaf (mkR feqSent.rs (true, ())) [] [])))) (by kernel_rfl) ?_
  refine br_i (fun h1 => Fct.leafY ?_) (fun h1 => ob_i trivial fun _ => lt_i (br_i (fun h2 => Fct.leafY ?_) (fun h2 => br_i (fun h3 => Fct.leafY ?_) (fun h3 => Fct.leafY ?_))))
  all_goals try simp only [decide_eq_true_eq, decide_eq_false_iff_not, Bool.not_eq_true', Bool.not_eq_false', bne_iff_ne, bne_eq_false_iff_eq, beq_iff_eq, beq_eq_false_iff_ne, baEq, Int.not_lt, Int.not_le, ne_eq, Decidable.not_not] at *
  all_goals try simp only [feqAddr, feqSent, baSz, List.size_toArray, List.length_cons, List.length_nil, Nat.reduceAdd, Int.toNat_zero, List.drop_zero, decide_eq_true_eq, decide_eq_false_iff_not, Bool.not_eq_true', Bool.not_eq_false', bne_iff_ne, bne_eq_false_iff_eq, beq_iff_eq, beq_eq_false_iff_ne, Bool.not_eq_true, Bool.not_eq_false, ne_eq, Decidable.not_not, baEq, decide_not, Prod.mk.injEq, and_true, true_and, Room, List.nil_append, Nat.zero_add, Int.not_lt, Int.not_le] at *
  all_goals first | trivial | (cases x; cases y; simp_all; done) | (simp only [szAddr, szSent] at *; omega) | grind [szAddr, szSent])
def E66 : D.Env := E65.add 153 feqSent
theorem E66ok : EOk Tryz.prog E66 := E65ok.add k153_65
-- laws.szSentS
set_option maxHeartbeats 2000000 in
theorem k83_66 : fszSentS.ok Tryz.prog 83 := Fct.of (S := fszSentS) (L := fun ⟨l, n, _⟩ => fun | 5 => some (LszS .sent szSent l n) | _ => none) (kp := [0,1,4,5,11,15,25]) E66ok Tryz.func83 (by kernel_rfl) (by kernel_rfl) (by
  rintro ⟨(l : List SSent), (n : Int), _⟩ hp
  refine holds_of (X := .br (decide (IntKind.i64.wrap (n - (↑l.length : Int)) < (0 : Int)))
 (.leaf (mkR fszSentS.rs ((-1 : Int), ())) [] [])
 (lpx (LszS .sent szSent l n) (IntKind.i64.wrap (n - (↑l.length : Int)), ((0 : Int), ())) fun (y2 : Int × Int × PUnit) bk2 =>
  .br (decide (y2.snd.fst < (↑l.length : Int)))
   (.ob ((0 : Int) ≤ y2.snd.fst ∧ y2.snd.fst < (↑l.length : Int)) <|
    .ob (fszSent.pre (l.getD y2.snd.fst.toNat default, y2.fst, ())) <|
    .lt (Int × PUnit) (fszSent.fn (l.getD y2.snd.fst.toNat default, y2.fst, ())) fun z2 =>
    .br (decide (z2.fst < (0 : Int)))
     (.leaf (mkR fszSentS.rs ((-1 : Int), ())) [] [])
     (.ob (l = l) <|
      .ob (Value.bool (decide (IntKind.i64.wrap (n - (↑l.length : Int)) < (0 : Int))) =
  Value.bool (decide (IntKind.i64.wrap (n - (↑l.length : Int)) < (0 : Int)))) <|
      .ob (bk2 (z2.fst, (IntKind.i64.wrap (y2.snd.fst + (1 : Int)), ()))) <|
      .ok))
   (.leaf (mkR fszSentS.rs (y2.fst, ())) [] []))) (by kernel_rfl) ?_
  refine br_i (fun h1 => Fct.leafY ?_) (fun h1 => lpx_i ?_ fun (y2 : Int × Int × PUnit) i2 => br_i (fun h3 => ob_i ?_ fun o4 => ob_i ?_ fun o5 => lt_i (br_i (fun h6 => Fct.leafY ?_) (fun h6 => ob_i rfl fun _ => ob_i rfl fun _ => ob_i ?_ fun o7 => trivial))) (fun h3 => Fct.leafY ?_))
  all_goals try simp only [decide_eq_true_eq, decide_eq_false_iff_not, Bool.not_eq_true', Bool.not_eq_false', bne_iff_ne, bne_eq_false_iff_eq, beq_iff_eq, beq_eq_false_iff_ne, baEq, Int.not_lt, Int.not_le, ne_eq, Decidable.not_not] at *
  all_goals try simp only [LszS, fszSent, fszSentS, baSz, List.size_toArray, List.length_cons, List.length_nil, Nat.reduceAdd, Int.toNat_zero, List.drop_zero, decide_eq_true_eq, decide_eq_false_iff_not, Bool.not_eq_true', Bool.not_eq_false', bne_iff_ne, bne_eq_false_iff_eq, beq_iff_eq, beq_eq_false_iff_ne, Bool.not_eq_true, Bool.not_eq_false, ne_eq, Decidable.not_not, baEq, decide_not, Prod.mk.injEq, and_true, true_and, Room, List.nil_append, Nat.zero_add, Int.not_lt, Int.not_le] at *
  · have := good_len hp.1; simp only [maxLen] at this; rw [wrapId (by omega)] at h1
    rw [lessenNeg (by simp only [szL]; omega)]
  · have := good_len hp.1; simp only [maxLen] at this
    rw [wrapId (by omega)] at h1 ⊢
    exact ⟨by omega, by omega, h1, by simp⟩
  · omega
  · exact ⟨good_getD hp.1 (by omega), by omega, by omega⟩
  · have hs := sum_take_le szSent l (y2.2.1.toNat + 1)
    rw [sum_take szSent (by omega)] at hs
    rw [lessen_lt (by omega)] at h6
    rw [lessenNeg (by simp only [szL]; omega)]
  · have hw : IntKind.i64.wrap (y2.2.1 + 1) = y2.2.1 + 1 := wrapId (by have := good_len hp.1; simp only [maxLen] at this; omega)
    have h7 : ¬ lessen y2.1 (szSent (l.getD y2.2.1.toNat default)) < 0 := by omega
    rw [lessen_lt (by omega)] at h7
    rw [hw, toNat1 (by omega), sum_take szSent (by omega), lessen_ge (by omega)]
    exact ⟨⟨by omega, by omega, by omega, by omega⟩, by omega⟩
  · have e : l.take y2.2.1.toNat = l := List.take_of_length_le (by omega)
    rw [e] at i2
    have hz : ((szL szSent l : Nat) : Int) = l.length + (l.map szSent).sum := by simp only [szL]; omega
    rw [lessen_ge (by omega)]
    show y2.1 = n - ((szL szSent l : Nat) : Int)
    omega)
def E67 : D.Env := E66.add 83 fszSentS
theorem E67ok : EOk Tryz.prog E67 := E66ok.add k83_66
-- laws.toSentS
theorem k96_67 : ftoSentS.ok Tryz.prog 96 := Fct.of (S := ftoSentS) (L := fun ⟨l, _⟩ => fun | 3 => some (LtoS .sent l) | _ => none) (kp := [0,2,3,4,11]) E67ok Tryz.func96 (by kernel_rfl) (by kernel_rfl) (by
  rintro ⟨(l : List SSent), _⟩ hp
  refine holds_of (X := .ob ((↑l.length : Int) = (↑l.length : Int) ∧
  (0 : Int) ≤ (↑l.length : Int) ∧
    (56 : Int) * (↑l.length : Int) ≤ (140737488355328 : Int) ∧ (↑l.length : Int) ≤ (140737488355328 : Int)) <|
 lpx (LtoS .sent l) ((0 : Int), (List.replicate (↑l.length : Int).toNat default, ())) fun (y2 : Int × List SSent × PUnit) bk2 =>
 .br (decide (y2.fst < (↑l.length : Int)))
  (.ob ((0 : Int) ≤ y2.fst ∧ y2.fst < (↑l.length : Int)) <|
   .ob (ftoSent.pre (l.getD y2.fst.toNat default, ())) <|
   .lt (SSent × PUnit) (ftoSent.fn (l.getD y2.fst.toNat default, ())) fun z2 =>
   .ob ((0 : Int) ≤ y2.fst ∧ y2.fst < (↑y2.snd.fst.length : Int)) <|
    .ob (y2.fst.toNat < y2.snd.fst.length) <|
    .lt (List SSent) (y2.snd.fst.modify y2.fst.toNat fun z => z2.fst) fun z3 =>
    .ob (l = l) <|
     .ob (bk2 (IntKind.i64.wrap (y2.fst + (1 : Int)), (z3, ()))) <|
     .ok)
  (.leaf (mkR ftoSentS.rs (y2.snd.fst, ())) [] [])) (by kernel_rfl) ?_
  refine ob_i ?_ fun o1 => lpx_i ?_ fun (y2 : Int × List SSent × PUnit) i2 => br_i (fun h3 => ob_i ?_ fun o4 => ob_i ?_ fun o5 => lt_i (ob_i ?_ fun o6 => ob_i ?_ fun o7 => lt_i (ob_i rfl fun _ => ob_i ?_ fun o8 => trivial))) (fun h3 => Fct.leafY ?_)
  all_goals try simp only [decide_eq_true_eq, decide_eq_false_iff_not, Bool.not_eq_true', Bool.not_eq_false', bne_iff_ne, bne_eq_false_iff_eq, beq_iff_eq, beq_eq_false_iff_ne, baEq, Int.not_lt, Int.not_le, ne_eq, Decidable.not_not] at *
  all_goals try simp only [LtoS, ftoSent, ftoSentS, baSz, List.size_toArray, List.length_cons, List.length_nil, Nat.reduceAdd, Int.toNat_zero, List.drop_zero, decide_eq_true_eq, decide_eq_false_iff_not, Bool.not_eq_true', Bool.not_eq_false', bne_iff_ne, bne_eq_false_iff_eq, beq_iff_eq, beq_eq_false_iff_ne, Bool.not_eq_true, Bool.not_eq_false, ne_eq, Decidable.not_not, baEq, decide_not, Prod.mk.injEq, and_true, true_and, Room, List.nil_append, Nat.zero_add, Int.not_lt, Int.not_le] at *
  · have := szL_len szSent l; omega
  · exact ⟨by omega, by omega, by simp⟩
  · omega
  · have hs := sum_take_le szSent l (y2.1.toNat + 1)
    rw [sum_take szSent (by omega)] at hs
    simp only [szL] at hp; omega
  · rw [i2.2.2]; simp; omega
  · rw [i2.2.2]; simp; omega
  · have hw : IntKind.i64.wrap (y2.1 + 1) = y2.1 + 1 := wrapId (by have := szL_len szSent l; omega)
    rw [hw, toNat1 (by omega), i2.2.2]
    refine ⟨⟨by omega, by omega, ?_⟩, by omega⟩
    rw [show l.length - y2.1.toNat = (l.length - (y2.1.toNat + 1)) + 1 from by omega, List.replicate_succ, mod_at (by simp; omega), take_succ (by omega)]
    simp
  · have e : l.take y2.1.toNat = l := List.take_of_length_le (by omega)
    rw [i2.2.2, e]; simp; omega)
def E68 : D.Env := E67.add 96 ftoSentS
theorem E68ok : EOk Tryz.prog E68 := E67ok.add k96_67
-- laws.eqSentS
set_option maxHeartbeats 2000000 in
theorem k109_68 : feqSentS.ok Tryz.prog 109 := Fct.of (S := feqSentS) (L := fun ⟨l, m, _⟩ => fun | 4 => some (LeqS .sent l m) | _ => none) (kp := [0,1,4,5,10,14,26]) E68ok Tryz.func109 (by kernel_rfl) (by kernel_rfl) (by
  rintro ⟨(l : List SSent), (m : List SSent), _⟩ hp
  refine holds_of (X := .br ((↑l.length : Int) != (↑m.length : Int))
 (.leaf (mkR feqSentS.rs (false, ())) [] [])
 (lpx (LeqS .sent l m) ((0 : Int), ()) fun (y2 : Int × PUnit) bk2 =>
  .br (decide (y2.fst < (↑l.length : Int)))
   (.ob ((0 : Int) ≤ y2.fst ∧ y2.fst < (↑l.length : Int)) <|
    .ob ((0 : Int) ≤ y2.fst ∧ y2.fst < (↑m.length : Int)) <|
    .ob (feqSent.pre (l.getD y2.fst.toNat default, m.getD y2.fst.toNat default, ())) <|
    .lt (Bool × PUnit) (feqSent.fn (l.getD y2.fst.toNat default, m.getD y2.fst.toNat default, ())) fun z2 =>
    .br (!z2.fst)
     (.leaf (mkR feqSentS.rs (false, ())) [] [])
     (.ob (l = l) <|
      .ob (m = m) <|
      .ob (Value.bool ((↑l.length : Int) != (↑m.length : Int)) = Value.bool ((↑l.length : Int) != (↑m.length : Int))) <|
      .ob (bk2 (IntKind.i64.wrap (y2.fst + (1 : Int)), ())) <|
      .ok))
   (.leaf (mkR feqSentS.rs (true, ())) [] []))) (by kernel_rfl) ?_
  refine br_i (fun h1 => Fct.leafY ?_) (fun h1 => lpx_i ?_ fun (y2 : Int × PUnit) i2 => br_i (fun h3 => ob_i ?_ fun o4 => ob_i ?_ fun o5 => ob_i trivial fun _ => lt_i (br_i (fun h6 => Fct.leafY ?_) (fun h6 => ob_i rfl fun _ => ob_i rfl fun _ => ob_i rfl fun _ => ob_i ?_ fun o7 => trivial))) (fun h3 => Fct.leafY ?_))
  all_goals try simp only [decide_eq_true_eq, decide_eq_false_iff_not, Bool.not_eq_true', Bool.not_eq_false', bne_iff_ne, bne_eq_false_iff_eq, beq_iff_eq, beq_eq_false_iff_ne, baEq, Int.not_lt, Int.not_le, ne_eq, Decidable.not_not] at *
  all_goals try simp only [LeqS, feqSent, feqSentS, baSz, List.size_toArray, List.length_cons, List.length_nil, Nat.reduceAdd, Int.toNat_zero, List.drop_zero, decide_eq_true_eq, decide_eq_false_iff_not, Bool.not_eq_true', Bool.not_eq_false', bne_iff_ne, bne_eq_false_iff_eq, beq_iff_eq, beq_eq_false_iff_ne, Bool.not_eq_true, Bool.not_eq_false, ne_eq, Decidable.not_not, baEq, decide_not, Prod.mk.injEq, and_true, true_and, Room, List.nil_append, Nat.zero_add, Int.not_lt, Int.not_le] at *
  · rw [decide_eq_false]; rintro rfl; omega
  · exact ⟨by omega, by omega, by simp⟩
  · omega
  · omega
  · rw [decide_eq_false]; rintro rfl; exact absurd rfl h6
  · have hw : IntKind.i64.wrap (y2.1 + 1) = y2.1 + 1 := wrapId (by omega)
    rw [hw, toNat1 (by omega)]
    refine ⟨⟨by omega, by omega, ?_⟩, by omega⟩
    rw [take_succ (by omega), take_succ (by omega), i2.2.2, h6]
  · have e : l.take y2.1.toNat = l := List.take_of_length_le (by omega)
    have e2 : m.take y2.1.toNat = m := List.take_of_length_le (by omega)
    rw [decide_eq_true]; rw [← e, ← e2, i2.2.2])
def E69 : D.Env := E68.add 109 feqSentS
theorem E69ok : EOk Tryz.prog E69 := E68ok.add k109_68
-- laws.szNet
set_option maxHeartbeats 2000000 in
theorem k28_69 : fszNet.ok Tryz.prog 28 := Fct.of (S := fszNet) (L := fun _ _ => none) (kp := [0,1,2,4,10,16,22]) E69ok Tryz.func28 (by kernel_rfl) (by kernel_rfl) (by
  rintro ⟨(x : SNet), (n : Int), _⟩ hp
  refine holds_of (X := .ob (fszServerS.pre (x.servers, n, ())) <|
 .lt (Int × PUnit) (fszServerS.fn (x.servers, n, ())) fun z2 =>
 .br (decide (z2.fst < (0 : Int)))
  (.leaf (mkR fszNet.rs ((-1 : Int), ())) [] [])
  (.ob (fszCache.pre (x.cache, z2.fst, ())) <|
   .lt (Int × PUnit) (fszCache.fn (x.cache, z2.fst, ())) fun z3 =>
   .br (decide (z3.fst < (0 : Int)))
    (.leaf (mkR fszNet.rs ((-1 : Int), ())) [] [])
    (.ob (fszSentS.pre (x.log, z3.fst, ())) <|
     .lt (Int × PUnit) (fszSentS.fn (x.log, z3.fst, ())) fun z4 =>
     .br (decide (z4.fst < (0 : Int)))
      (.leaf (mkR fszNet.rs ((-1 : Int), ())) [] [])
      (.leaf (mkR fszNet.rs (z4.fst, ())) [] [])))) (by kernel_rfl) ?_
  refine ob_i ?_ fun o1 => lt_i (br_i (fun h2 => Fct.leafY ?_) (fun h2 => ob_i ?_ fun o3 => lt_i (br_i (fun h4 => Fct.leafY ?_) (fun h4 => ob_i ?_ fun o5 => lt_i (br_i (fun h6 => Fct.leafY ?_) (fun h6 => Fct.leafY ?_))))))
  all_goals try simp only [decide_eq_true_eq, decide_eq_false_iff_not, Bool.not_eq_true', Bool.not_eq_false', bne_iff_ne, bne_eq_false_iff_eq, beq_iff_eq, beq_eq_false_iff_ne, baEq, Int.not_lt, Int.not_le, ne_eq, Decidable.not_not] at *
  all_goals try simp only [fszCache, fszNet, fszSentS, fszServerS, baSz, List.size_toArray, List.length_cons, List.length_nil, Nat.reduceAdd, Int.toNat_zero, List.drop_zero, decide_eq_true_eq, decide_eq_false_iff_not, Bool.not_eq_true', Bool.not_eq_false', bne_iff_ne, bne_eq_false_iff_eq, beq_iff_eq, beq_eq_false_iff_ne, Bool.not_eq_true, Bool.not_eq_false, ne_eq, Decidable.not_not, baEq, decide_not, Prod.mk.injEq, and_true, true_and, Room, List.nil_append, Nat.zero_add, Int.not_lt, Int.not_le, Sh.good, Sh.fc, enc, List.forall_mem_cons, List.not_mem_nil, false_implies, implies_true, goodC, maxLen] at *
  all_goals grind [wrapId', lessen, szCache, szL, szNet])
def E70 : D.Env := E69.add 28 fszNet
theorem E70ok : EOk Tryz.prog E70 := E69ok.add k28_69
-- laws.toNet
theorem k34_70 : ftoNet.ok Tryz.prog 34 := Fct.of (S := ftoNet) (L := fun _ _ => none) (kp := [0,1,2,3]) E70ok Tryz.func34 (by kernel_rfl) (by kernel_rfl) (by
  rintro ⟨(x : SNet), _⟩ hp
  refine holds_of (X := .ob (ftoServerS.pre (x.servers, ())) <|
 .lt (List SServer × PUnit) (ftoServerS.fn (x.servers, ())) fun z2 =>
 .ob (ftoCache.pre (x.cache, ())) <|
  .lt (SCache × PUnit) (ftoCache.fn (x.cache, ())) fun z3 =>
  .ob (ftoSentS.pre (x.log, ())) <|
   .lt (List SSent × PUnit) (ftoSentS.fn (x.log, ())) fun z4 =>
   .leaf (mkR ftoNet.rs (⟨z2.fst, z3.fst, z4.fst, x.now⟩, ())) [] []) (by kernel_rfl) ?_
  refine ob_i ?_ fun o1 => lt_i (ob_i ?_ fun o2 => lt_i (ob_i ?_ fun o3 => lt_i (Fct.leafY ?_)))
  all_goals try simp only [decide_eq_true_eq, decide_eq_false_iff_not, Bool.not_eq_true', Bool.not_eq_false', bne_iff_ne, bne_eq_false_iff_eq, beq_iff_eq, beq_eq_false_iff_ne, baEq, Int.not_lt, Int.not_le, ne_eq, Decidable.not_not] at *
  all_goals try simp only [ftoCache, ftoNet, ftoSentS, ftoServerS, baSz, List.size_toArray, List.length_cons, List.length_nil, Nat.reduceAdd, Int.toNat_zero, List.drop_zero, decide_eq_true_eq, decide_eq_false_iff_not, Bool.not_eq_true', Bool.not_eq_false', bne_iff_ne, bne_eq_false_iff_eq, beq_iff_eq, beq_eq_false_iff_ne, Bool.not_eq_true, Bool.not_eq_false, ne_eq, Decidable.not_not, baEq, decide_not, Prod.mk.injEq, and_true, true_and, Room, List.nil_append, Nat.zero_add, Int.not_lt, Int.not_le] at *
  all_goals first | trivial | rfl | grind [szCache, szL, szNet])
def E71 : D.Env := E70.add 34 ftoNet
theorem E71ok : EOk Tryz.prog E71 := E70ok.add k34_70
-- laws.eqNet
set_option maxHeartbeats 2000000 in
theorem k40_71 : feqNet.ok Tryz.prog 40 := Fct.of (S := feqNet) (L := fun _ _ => none) (kp := [0,1,2,3,4,10,16,22,27]) E71ok Tryz.func40 (by kernel_rfl) (by kernel_rfl) (by
  rintro ⟨(x : SNet), (y : SNet), _⟩ hp
  refine holds_of (X := .ob (feqServerS.pre (x.servers, y.servers, ())) <|
 .lt (Bool × PUnit) (feqServerS.fn (x.servers, y.servers, ())) fun z2 =>
 .br (!z2.fst)
  (.leaf (mkR feqNet.rs (false, ())) [] [])
  (.ob (feqCache.pre (x.cache, y.cache, ())) <|
   .lt (Bool × PUnit) (feqCache.fn (x.cache, y.cache, ())) fun z3 =>
   .br (!z3.fst)
    (.leaf (mkR feqNet.rs (false, ())) [] [])
    (.ob (feqSentS.pre (x.log, y.log, ())) <|
     .lt (Bool × PUnit) (feqSentS.fn (x.log, y.log, ())) fun z4 =>
     .br (!z4.fst)
      (.leaf (mkR feqNet.rs (false, ())) [] [])
      (.br (x.now != y.now)
       (.leaf (mkR feqNet.rs (false, ())) [] [])
       (.leaf (mkR feqNet.rs (true, ())) [] []))))) (by kernel_rfl) ?_
  refine ob_i ?_ fun o1 => lt_i (br_i (fun h2 => Fct.leafY ?_) (fun h2 => ob_i ?_ fun o3 => lt_i (br_i (fun h4 => Fct.leafY ?_) (fun h4 => ob_i ?_ fun o5 => lt_i (br_i (fun h6 => Fct.leafY ?_) (fun h6 => br_i (fun h7 => Fct.leafY ?_) (fun h7 => Fct.leafY ?_)))))))
  all_goals try simp only [decide_eq_true_eq, decide_eq_false_iff_not, Bool.not_eq_true', Bool.not_eq_false', bne_iff_ne, bne_eq_false_iff_eq, beq_iff_eq, beq_eq_false_iff_ne, baEq, Int.not_lt, Int.not_le, ne_eq, Decidable.not_not] at *
  all_goals try simp only [feqCache, feqNet, feqSentS, feqServerS, baSz, List.size_toArray, List.length_cons, List.length_nil, Nat.reduceAdd, Int.toNat_zero, List.drop_zero, decide_eq_true_eq, decide_eq_false_iff_not, Bool.not_eq_true', Bool.not_eq_false', bne_iff_ne, bne_eq_false_iff_eq, beq_iff_eq, beq_eq_false_iff_ne, Bool.not_eq_true, Bool.not_eq_false, ne_eq, Decidable.not_not, baEq, decide_not, Prod.mk.injEq, and_true, true_and, Room, List.nil_append, Nat.zero_add, Int.not_lt, Int.not_le] at *
  all_goals first | trivial | (cases x; cases y; simp_all; done) | (simp only [szCache, szL, szNet] at *; omega) | grind [szCache, szL, szNet])
def E72 : D.Env := E71.add 40 feqNet
theorem E72ok : EOk Tryz.prog E72 := E71ok.add k40_71
-- laws.szSlot
set_option maxHeartbeats 2000000 in
theorem k139_72 : fszSlot.ok Tryz.prog 139 := Fct.of (S := fszSlot) (L := fun _ _ => none) (kp := [0,1,2,4,10,17,24]) E72ok Tryz.func139 (by kernel_rfl) (by kernel_rfl) (by
  rintro ⟨(x : SSlot), (n : Int), _⟩ hp
  refine holds_of (X := .ob (fszAddr.pre (x.to, n, ())) <|
 .lt (Int × PUnit) (fszAddr.fn (x.to, n, ())) fun z2 =>
 .br (decide (z2.fst < (0 : Int)))
  (.leaf (mkR fszSlot.rs ((-1 : Int), ())) [] [])
  (.br (decide (IntKind.i64.wrap (z2.fst - (↑x.digest.size : Int)) < (0 : Int)))
   (.leaf (mkR fszSlot.rs ((-1 : Int), ())) [] [])
   (.br (decide (IntKind.i64.wrap (IntKind.i64.wrap (z2.fst - (↑x.digest.size : Int)) - (↑x.body.size : Int)) < (0 : Int)))
    (.leaf (mkR fszSlot.rs ((-1 : Int), ())) [] [])
    (.leaf (mkR fszSlot.rs (IntKind.i64.wrap (IntKind.i64.wrap (z2.fst - (↑x.digest.size : Int)) - (↑x.body.size : Int)), ())) [] [])))) (by kernel_rfl) ?_
  refine ob_i ?_ fun o1 => lt_i (br_i (fun h2 => Fct.leafY ?_) (fun h2 => br_i (fun h3 => Fct.leafY ?_) (fun h3 => br_i (fun h4 => Fct.leafY ?_) (fun h4 => Fct.leafY ?_))))
  all_goals try simp only [decide_eq_true_eq, decide_eq_false_iff_not, Bool.not_eq_true', Bool.not_eq_false', bne_iff_ne, bne_eq_false_iff_eq, beq_iff_eq, beq_eq_false_iff_ne, baEq, Int.not_lt, Int.not_le, ne_eq, Decidable.not_not] at *
  all_goals try simp only [fszAddr, fszSlot, baSz, List.size_toArray, List.length_cons, List.length_nil, Nat.reduceAdd, Int.toNat_zero, List.drop_zero, decide_eq_true_eq, decide_eq_false_iff_not, Bool.not_eq_true', Bool.not_eq_false', bne_iff_ne, bne_eq_false_iff_eq, beq_iff_eq, beq_eq_false_iff_ne, Bool.not_eq_true, Bool.not_eq_false, ne_eq, Decidable.not_not, baEq, decide_not, Prod.mk.injEq, and_true, true_and, Room, List.nil_append, Nat.zero_add, Int.not_lt, Int.not_le, Sh.good, Sh.fc, enc, List.forall_mem_cons, List.not_mem_nil, false_implies, implies_true, goodC, maxLen] at *
  all_goals grind [wrapId', lessen, szAddr, szSlot])
def E73 : D.Env := E72.add 139 fszSlot
theorem E73ok : EOk Tryz.prog E73 := E72ok.add k139_72
-- laws.toSlot
theorem k148_73 : ftoSlot.ok Tryz.prog 148 := Fct.of (S := ftoSlot) (L := fun _ _ => none) (kp := [0,1,2,3]) E73ok Tryz.func148 (by kernel_rfl) (by kernel_rfl) (by
  rintro ⟨(x : SSlot), _⟩ hp
  refine holds_of (X := .ob (ftoAddr.pre (x.to, ())) <|
 .lt (SAddr × PUnit) (ftoAddr.fn (x.to, ())) fun z2 =>
 .leaf (mkR ftoSlot.rs (⟨x.mode, z2.fst, x.digest, x.node, x.done, x.code, x.body⟩, ())) [] []) (by kernel_rfl) ?_
  refine ob_i ?_ fun o1 => lt_i (Fct.leafY ?_)
  all_goals try simp only [decide_eq_true_eq, decide_eq_false_iff_not, Bool.not_eq_true', Bool.not_eq_false', bne_iff_ne, bne_eq_false_iff_eq, beq_iff_eq, beq_eq_false_iff_ne, baEq, Int.not_lt, Int.not_le, ne_eq, Decidable.not_not] at *
  all_goals try simp only [ftoAddr, ftoSlot, baSz, List.size_toArray, List.length_cons, List.length_nil, Nat.reduceAdd, Int.toNat_zero, List.drop_zero, decide_eq_true_eq, decide_eq_false_iff_not, Bool.not_eq_true', Bool.not_eq_false', bne_iff_ne, bne_eq_false_iff_eq, beq_iff_eq, beq_eq_false_iff_ne, Bool.not_eq_true, Bool.not_eq_false, ne_eq, Decidable.not_not, baEq, decide_not, Prod.mk.injEq, and_true, true_and, Room, List.nil_append, Nat.zero_add, Int.not_lt, Int.not_le] at *
  all_goals first | trivial | rfl | grind [szAddr, szSlot])
def E74 : D.Env := E73.add 148 ftoSlot
theorem E74ok : EOk Tryz.prog E74 := E73ok.add k148_73
-- laws.eqSlot
set_option maxHeartbeats 2000000 in
theorem k123_74 : feqSlot.ok Tryz.prog 123 := Fct.of (S := feqSlot) (L := fun _ _ => none) (kp := [0,1,2,3,4,9,15,20,25,30,35,40]) E74ok Tryz.func123 (by kernel_rfl) (by kernel_rfl) (by
  rintro ⟨(x : SSlot), (y : SSlot), _⟩ hp
  refine holds_of (X := .br (x.mode != y.mode)
 (.leaf (mkR feqSlot.rs (false, ())) [] [])
 (.ob (feqAddr.pre (x.to, y.to, ())) <|
  .lt (Bool × PUnit) (feqAddr.fn (x.to, y.to, ())) fun z2 =>
  .br (!z2.fst)
   (.leaf (mkR feqSlot.rs (false, ())) [] [])
   (.br (!x.digest.toList == y.digest.toList)
    (.leaf (mkR feqSlot.rs (false, ())) [] [])
    (.br (x.node != y.node)
     (.leaf (mkR feqSlot.rs (false, ())) [] [])
     (.br (!x.done == y.done)
      (.leaf (mkR feqSlot.rs (false, ())) [] [])
      (.br (x.code != y.code)
       (.leaf (mkR feqSlot.rs (false, ())) [] [])
       (.br (!x.body.toList == y.body.toList)
        (.leaf (mkR feqSlot.rs (false, ())) [] [])
        (.leaf (mkR feqSlot.rs (true, ())) [] [])))))))) (by kernel_rfl) ?_
  refine br_i (fun h1 => Fct.leafY ?_) (fun h1 => ob_i trivial fun _ => lt_i (br_i (fun h2 => Fct.leafY ?_) (fun h2 => br_i (fun h3 => Fct.leafY ?_) (fun h3 => br_i (fun h4 => Fct.leafY ?_) (fun h4 => br_i (fun h5 => Fct.leafY ?_) (fun h5 => br_i (fun h6 => Fct.leafY ?_) (fun h6 => br_i (fun h7 => Fct.leafY ?_) (fun h7 => Fct.leafY ?_))))))))
  all_goals try simp only [decide_eq_true_eq, decide_eq_false_iff_not, Bool.not_eq_true', Bool.not_eq_false', bne_iff_ne, bne_eq_false_iff_eq, beq_iff_eq, beq_eq_false_iff_ne, baEq, Int.not_lt, Int.not_le, ne_eq, Decidable.not_not] at *
  all_goals try simp only [feqAddr, feqSlot, baSz, List.size_toArray, List.length_cons, List.length_nil, Nat.reduceAdd, Int.toNat_zero, List.drop_zero, decide_eq_true_eq, decide_eq_false_iff_not, Bool.not_eq_true', Bool.not_eq_false', bne_iff_ne, bne_eq_false_iff_eq, beq_iff_eq, beq_eq_false_iff_ne, Bool.not_eq_true, Bool.not_eq_false, ne_eq, Decidable.not_not, baEq, decide_not, Prod.mk.injEq, and_true, true_and, Room, List.nil_append, Nat.zero_add, Int.not_lt, Int.not_le] at *
  all_goals first | trivial | (cases x; cases y; simp_all; done) | (simp only [szAddr, szSlot] at *; omega) | grind [szAddr, szSlot])
def E75 : D.Env := E74.add 123 feqSlot
theorem E75ok : EOk Tryz.prog E75 := E74ok.add k123_74
-- laws.szSlotS
set_option maxHeartbeats 2000000 in
theorem k89_75 : fszSlotS.ok Tryz.prog 89 := Fct.of (S := fszSlotS) (L := fun ⟨l, n, _⟩ => fun | 5 => some (LszS .slot szSlot l n) | _ => none) (kp := [0,1,4,5,11,15,25]) E75ok Tryz.func89 (by kernel_rfl) (by kernel_rfl) (by
  rintro ⟨(l : List SSlot), (n : Int), _⟩ hp
  refine holds_of (X := .br (decide (IntKind.i64.wrap (n - (↑l.length : Int)) < (0 : Int)))
 (.leaf (mkR fszSlotS.rs ((-1 : Int), ())) [] [])
 (lpx (LszS .slot szSlot l n) (IntKind.i64.wrap (n - (↑l.length : Int)), ((0 : Int), ())) fun (y2 : Int × Int × PUnit) bk2 =>
  .br (decide (y2.snd.fst < (↑l.length : Int)))
   (.ob ((0 : Int) ≤ y2.snd.fst ∧ y2.snd.fst < (↑l.length : Int)) <|
    .ob (fszSlot.pre (l.getD y2.snd.fst.toNat default, y2.fst, ())) <|
    .lt (Int × PUnit) (fszSlot.fn (l.getD y2.snd.fst.toNat default, y2.fst, ())) fun z2 =>
    .br (decide (z2.fst < (0 : Int)))
     (.leaf (mkR fszSlotS.rs ((-1 : Int), ())) [] [])
     (.ob (l = l) <|
      .ob (Value.bool (decide (IntKind.i64.wrap (n - (↑l.length : Int)) < (0 : Int))) =
  Value.bool (decide (IntKind.i64.wrap (n - (↑l.length : Int)) < (0 : Int)))) <|
      .ob (bk2 (z2.fst, (IntKind.i64.wrap (y2.snd.fst + (1 : Int)), ()))) <|
      .ok))
   (.leaf (mkR fszSlotS.rs (y2.fst, ())) [] []))) (by kernel_rfl) ?_
  refine br_i (fun h1 => Fct.leafY ?_) (fun h1 => lpx_i ?_ fun (y2 : Int × Int × PUnit) i2 => br_i (fun h3 => ob_i ?_ fun o4 => ob_i ?_ fun o5 => lt_i (br_i (fun h6 => Fct.leafY ?_) (fun h6 => ob_i rfl fun _ => ob_i rfl fun _ => ob_i ?_ fun o7 => trivial))) (fun h3 => Fct.leafY ?_))
  all_goals try simp only [decide_eq_true_eq, decide_eq_false_iff_not, Bool.not_eq_true', Bool.not_eq_false', bne_iff_ne, bne_eq_false_iff_eq, beq_iff_eq, beq_eq_false_iff_ne, baEq, Int.not_lt, Int.not_le, ne_eq, Decidable.not_not] at *
  all_goals try simp only [LszS, fszSlot, fszSlotS, baSz, List.size_toArray, List.length_cons, List.length_nil, Nat.reduceAdd, Int.toNat_zero, List.drop_zero, decide_eq_true_eq, decide_eq_false_iff_not, Bool.not_eq_true', Bool.not_eq_false', bne_iff_ne, bne_eq_false_iff_eq, beq_iff_eq, beq_eq_false_iff_ne, Bool.not_eq_true, Bool.not_eq_false, ne_eq, Decidable.not_not, baEq, decide_not, Prod.mk.injEq, and_true, true_and, Room, List.nil_append, Nat.zero_add, Int.not_lt, Int.not_le] at *
  · have := good_len hp.1; simp only [maxLen] at this; rw [wrapId (by omega)] at h1
    rw [lessenNeg (by simp only [szL]; omega)]
  · have := good_len hp.1; simp only [maxLen] at this
    rw [wrapId (by omega)] at h1 ⊢
    exact ⟨by omega, by omega, h1, by simp⟩
  · omega
  · exact ⟨good_getD hp.1 (by omega), by omega, by omega⟩
  · have hs := sum_take_le szSlot l (y2.2.1.toNat + 1)
    rw [sum_take szSlot (by omega)] at hs
    rw [lessen_lt (by omega)] at h6
    rw [lessenNeg (by simp only [szL]; omega)]
  · have hw : IntKind.i64.wrap (y2.2.1 + 1) = y2.2.1 + 1 := wrapId (by have := good_len hp.1; simp only [maxLen] at this; omega)
    have h7 : ¬ lessen y2.1 (szSlot (l.getD y2.2.1.toNat default)) < 0 := by omega
    rw [lessen_lt (by omega)] at h7
    rw [hw, toNat1 (by omega), sum_take szSlot (by omega), lessen_ge (by omega)]
    exact ⟨⟨by omega, by omega, by omega, by omega⟩, by omega⟩
  · have e : l.take y2.2.1.toNat = l := List.take_of_length_le (by omega)
    rw [e] at i2
    have hz : ((szL szSlot l : Nat) : Int) = l.length + (l.map szSlot).sum := by simp only [szL]; omega
    rw [lessen_ge (by omega)]
    show y2.1 = n - ((szL szSlot l : Nat) : Int)
    omega)
def E76 : D.Env := E75.add 89 fszSlotS
theorem E76ok : EOk Tryz.prog E76 := E75ok.add k89_75
-- laws.toSlotS
theorem k102_76 : ftoSlotS.ok Tryz.prog 102 := Fct.of (S := ftoSlotS) (L := fun ⟨l, _⟩ => fun | 3 => some (LtoS .slot l) | _ => none) (kp := [0,2,3,4,11]) E76ok Tryz.func102 (by kernel_rfl) (by kernel_rfl) (by
  rintro ⟨(l : List SSlot), _⟩ hp
  refine holds_of (X := .ob ((↑l.length : Int) = (↑l.length : Int) ∧
  (0 : Int) ≤ (↑l.length : Int) ∧
    (96 : Int) * (↑l.length : Int) ≤ (140737488355328 : Int) ∧ (↑l.length : Int) ≤ (140737488355328 : Int)) <|
 lpx (LtoS .slot l) ((0 : Int), (List.replicate (↑l.length : Int).toNat default, ())) fun (y2 : Int × List SSlot × PUnit) bk2 =>
 .br (decide (y2.fst < (↑l.length : Int)))
  (.ob ((0 : Int) ≤ y2.fst ∧ y2.fst < (↑l.length : Int)) <|
   .ob (ftoSlot.pre (l.getD y2.fst.toNat default, ())) <|
   .lt (SSlot × PUnit) (ftoSlot.fn (l.getD y2.fst.toNat default, ())) fun z2 =>
   .ob ((0 : Int) ≤ y2.fst ∧ y2.fst < (↑y2.snd.fst.length : Int)) <|
    .ob (y2.fst.toNat < y2.snd.fst.length) <|
    .lt (List SSlot) (y2.snd.fst.modify y2.fst.toNat fun z => z2.fst) fun z3 =>
    .ob (l = l) <|
     .ob (bk2 (IntKind.i64.wrap (y2.fst + (1 : Int)), (z3, ()))) <|
     .ok)
  (.leaf (mkR ftoSlotS.rs (y2.snd.fst, ())) [] [])) (by kernel_rfl) ?_
  refine ob_i ?_ fun o1 => lpx_i ?_ fun (y2 : Int × List SSlot × PUnit) i2 => br_i (fun h3 => ob_i ?_ fun o4 => ob_i ?_ fun o5 => lt_i (ob_i ?_ fun o6 => ob_i ?_ fun o7 => lt_i (ob_i rfl fun _ => ob_i ?_ fun o8 => trivial))) (fun h3 => Fct.leafY ?_)
  all_goals try simp only [decide_eq_true_eq, decide_eq_false_iff_not, Bool.not_eq_true', Bool.not_eq_false', bne_iff_ne, bne_eq_false_iff_eq, beq_iff_eq, beq_eq_false_iff_ne, baEq, Int.not_lt, Int.not_le, ne_eq, Decidable.not_not] at *
  all_goals try simp only [LtoS, ftoSlot, ftoSlotS, baSz, List.size_toArray, List.length_cons, List.length_nil, Nat.reduceAdd, Int.toNat_zero, List.drop_zero, decide_eq_true_eq, decide_eq_false_iff_not, Bool.not_eq_true', Bool.not_eq_false', bne_iff_ne, bne_eq_false_iff_eq, beq_iff_eq, beq_eq_false_iff_ne, Bool.not_eq_true, Bool.not_eq_false, ne_eq, Decidable.not_not, baEq, decide_not, Prod.mk.injEq, and_true, true_and, Room, List.nil_append, Nat.zero_add, Int.not_lt, Int.not_le] at *
  · have := szL_len szSlot l; omega
  · exact ⟨by omega, by omega, by simp⟩
  · omega
  · have hs := sum_take_le szSlot l (y2.1.toNat + 1)
    rw [sum_take szSlot (by omega)] at hs
    simp only [szL] at hp; omega
  · rw [i2.2.2]; simp; omega
  · rw [i2.2.2]; simp; omega
  · have hw : IntKind.i64.wrap (y2.1 + 1) = y2.1 + 1 := wrapId (by have := szL_len szSlot l; omega)
    rw [hw, toNat1 (by omega), i2.2.2]
    refine ⟨⟨by omega, by omega, ?_⟩, by omega⟩
    rw [show l.length - y2.1.toNat = (l.length - (y2.1.toNat + 1)) + 1 from by omega, List.replicate_succ, mod_at (by simp; omega), take_succ (by omega)]
    simp
  · have e : l.take y2.1.toNat = l := List.take_of_length_le (by omega)
    rw [i2.2.2, e]; simp; omega)
def E77 : D.Env := E76.add 102 ftoSlotS
theorem E77ok : EOk Tryz.prog E77 := E76ok.add k102_76
-- laws.eqSlotS
set_option maxHeartbeats 2000000 in
theorem k56_77 : feqSlotS.ok Tryz.prog 56 := Fct.of (S := feqSlotS) (L := fun ⟨l, m, _⟩ => fun | 4 => some (LeqS .slot l m) | _ => none) (kp := [0,1,4,5,10,14,26]) E77ok Tryz.func56 (by kernel_rfl) (by kernel_rfl) (by
  rintro ⟨(l : List SSlot), (m : List SSlot), _⟩ hp
  refine holds_of (X := .br ((↑l.length : Int) != (↑m.length : Int))
 (.leaf (mkR feqSlotS.rs (false, ())) [] [])
 (lpx (LeqS .slot l m) ((0 : Int), ()) fun (y2 : Int × PUnit) bk2 =>
  .br (decide (y2.fst < (↑l.length : Int)))
   (.ob ((0 : Int) ≤ y2.fst ∧ y2.fst < (↑l.length : Int)) <|
    .ob ((0 : Int) ≤ y2.fst ∧ y2.fst < (↑m.length : Int)) <|
    .ob (feqSlot.pre (l.getD y2.fst.toNat default, m.getD y2.fst.toNat default, ())) <|
    .lt (Bool × PUnit) (feqSlot.fn (l.getD y2.fst.toNat default, m.getD y2.fst.toNat default, ())) fun z2 =>
    .br (!z2.fst)
     (.leaf (mkR feqSlotS.rs (false, ())) [] [])
     (.ob (l = l) <|
      .ob (m = m) <|
      .ob (Value.bool ((↑l.length : Int) != (↑m.length : Int)) = Value.bool ((↑l.length : Int) != (↑m.length : Int))) <|
      .ob (bk2 (IntKind.i64.wrap (y2.fst + (1 : Int)), ())) <|
      .ok))
   (.leaf (mkR feqSlotS.rs (true, ())) [] []))) (by kernel_rfl) ?_
  refine br_i (fun h1 => Fct.leafY ?_) (fun h1 => lpx_i ?_ fun (y2 : Int × PUnit) i2 => br_i (fun h3 => ob_i ?_ fun o4 => ob_i ?_ fun o5 => ob_i trivial fun _ => lt_i (br_i (fun h6 => Fct.leafY ?_) (fun h6 => ob_i rfl fun _ => ob_i rfl fun _ => ob_i rfl fun _ => ob_i ?_ fun o7 => trivial))) (fun h3 => Fct.leafY ?_))
  all_goals try simp only [decide_eq_true_eq, decide_eq_false_iff_not, Bool.not_eq_true', Bool.not_eq_false', bne_iff_ne, bne_eq_false_iff_eq, beq_iff_eq, beq_eq_false_iff_ne, baEq, Int.not_lt, Int.not_le, ne_eq, Decidable.not_not] at *
  all_goals try simp only [LeqS, feqSlot, feqSlotS, baSz, List.size_toArray, List.length_cons, List.length_nil, Nat.reduceAdd, Int.toNat_zero, List.drop_zero, decide_eq_true_eq, decide_eq_false_iff_not, Bool.not_eq_true', Bool.not_eq_false', bne_iff_ne, bne_eq_false_iff_eq, beq_iff_eq, beq_eq_false_iff_ne, Bool.not_eq_true, Bool.not_eq_false, ne_eq, Decidable.not_not, baEq, decide_not, Prod.mk.injEq, and_true, true_and, Room, List.nil_append, Nat.zero_add, Int.not_lt, Int.not_le] at *
  · rw [decide_eq_false]; rintro rfl; omega
  · exact ⟨by omega, by omega, by simp⟩
  · omega
  · omega
  · rw [decide_eq_false]; rintro rfl; exact absurd rfl h6
  · have hw : IntKind.i64.wrap (y2.1 + 1) = y2.1 + 1 := wrapId (by omega)
    rw [hw, toNat1 (by omega)]
    refine ⟨⟨by omega, by omega, ?_⟩, by omega⟩
    rw [take_succ (by omega), take_succ (by omega), i2.2.2, h6]
  · have e : l.take y2.1.toNat = l := List.take_of_length_le (by omega)
    have e2 : m.take y2.1.toNat = m := List.take_of_length_le (by omega)
    rw [decide_eq_true]; rw [← e, ← e2, i2.2.2])
def E78 : D.Env := E77.add 56 feqSlotS
theorem E78ok : EOk Tryz.prog E78 := E77ok.add k56_77
-- laws.szModule
set_option maxHeartbeats 2000000 in
theorem k140_78 : fszModule.ok Tryz.prog 140 := Fct.of (S := fszModule) (L := fun _ _ => none) (kp := [0,1,2,4,10,17]) E78ok Tryz.func140 (by kernel_rfl) (by kernel_rfl) (by
  rintro ⟨(x : SModule), (n : Int), _⟩ hp
  refine holds_of (X := .ob (fszAddr.pre (x.to, n, ())) <|
 .lt (Int × PUnit) (fszAddr.fn (x.to, n, ())) fun z2 =>
 .br (decide (z2.fst < (0 : Int)))
  (.leaf (mkR fszModule.rs ((-1 : Int), ())) [] [])
  (.br (decide (IntKind.i64.wrap (z2.fst - (↑x.body.size : Int)) < (0 : Int)))
   (.leaf (mkR fszModule.rs ((-1 : Int), ())) [] [])
   (.leaf (mkR fszModule.rs (IntKind.i64.wrap (z2.fst - (↑x.body.size : Int)), ())) [] []))) (by kernel_rfl) ?_
  refine ob_i ?_ fun o1 => lt_i (br_i (fun h2 => Fct.leafY ?_) (fun h2 => br_i (fun h3 => Fct.leafY ?_) (fun h3 => Fct.leafY ?_)))
  all_goals try simp only [decide_eq_true_eq, decide_eq_false_iff_not, Bool.not_eq_true', Bool.not_eq_false', bne_iff_ne, bne_eq_false_iff_eq, beq_iff_eq, beq_eq_false_iff_ne, baEq, Int.not_lt, Int.not_le, ne_eq, Decidable.not_not] at *
  all_goals try simp only [fszAddr, fszModule, baSz, List.size_toArray, List.length_cons, List.length_nil, Nat.reduceAdd, Int.toNat_zero, List.drop_zero, decide_eq_true_eq, decide_eq_false_iff_not, Bool.not_eq_true', Bool.not_eq_false', bne_iff_ne, bne_eq_false_iff_eq, beq_iff_eq, beq_eq_false_iff_ne, Bool.not_eq_true, Bool.not_eq_false, ne_eq, Decidable.not_not, baEq, decide_not, Prod.mk.injEq, and_true, true_and, Room, List.nil_append, Nat.zero_add, Int.not_lt, Int.not_le, Sh.good, Sh.fc, enc, List.forall_mem_cons, List.not_mem_nil, false_implies, implies_true, goodC, maxLen] at *
  all_goals grind [wrapId', lessen, szAddr, szModule])
def E79 : D.Env := E78.add 140 fszModule
theorem E79ok : EOk Tryz.prog E79 := E78ok.add k140_78
-- laws.toModule
theorem k149_79 : ftoModule.ok Tryz.prog 149 := Fct.of (S := ftoModule) (L := fun _ _ => none) (kp := [0,1,2,3]) E79ok Tryz.func149 (by kernel_rfl) (by kernel_rfl) (by
  rintro ⟨(x : SModule), _⟩ hp
  refine holds_of (X := .ob (ftoAddr.pre (x.to, ())) <|
 .lt (SAddr × PUnit) (ftoAddr.fn (x.to, ())) fun z2 =>
 .leaf (mkR ftoModule.rs (⟨z2.fst, x.done, x.code, x.body⟩, ())) [] []) (by kernel_rfl) ?_
  refine ob_i ?_ fun o1 => lt_i (Fct.leafY ?_)
  all_goals try simp only [decide_eq_true_eq, decide_eq_false_iff_not, Bool.not_eq_true', Bool.not_eq_false', bne_iff_ne, bne_eq_false_iff_eq, beq_iff_eq, beq_eq_false_iff_ne, baEq, Int.not_lt, Int.not_le, ne_eq, Decidable.not_not] at *
  all_goals try simp only [ftoAddr, ftoModule, baSz, List.size_toArray, List.length_cons, List.length_nil, Nat.reduceAdd, Int.toNat_zero, List.drop_zero, decide_eq_true_eq, decide_eq_false_iff_not, Bool.not_eq_true', Bool.not_eq_false', bne_iff_ne, bne_eq_false_iff_eq, beq_iff_eq, beq_eq_false_iff_ne, Bool.not_eq_true, Bool.not_eq_false, ne_eq, Decidable.not_not, baEq, decide_not, Prod.mk.injEq, and_true, true_and, Room, List.nil_append, Nat.zero_add, Int.not_lt, Int.not_le] at *
  all_goals first | trivial | rfl | grind [szAddr, szModule])
def E80 : D.Env := E79.add 149 ftoModule
theorem E80ok : EOk Tryz.prog E80 := E79ok.add k149_79
-- laws.eqModule
set_option maxHeartbeats 2000000 in
theorem k124_80 : feqModule.ok Tryz.prog 124 := Fct.of (S := feqModule) (L := fun _ _ => none) (kp := [0,1,2,3,4,10,15,20,25]) E80ok Tryz.func124 (by kernel_rfl) (by kernel_rfl) (by
  rintro ⟨(x : SModule), (y : SModule), _⟩ hp
  refine holds_of (X := .ob (feqAddr.pre (x.to, y.to, ())) <|
 .lt (Bool × PUnit) (feqAddr.fn (x.to, y.to, ())) fun z2 =>
 .br (!z2.fst)
  (.leaf (mkR feqModule.rs (false, ())) [] [])
  (.br (!x.done == y.done)
   (.leaf (mkR feqModule.rs (false, ())) [] [])
   (.br (x.code != y.code)
    (.leaf (mkR feqModule.rs (false, ())) [] [])
    (.br (!x.body.toList == y.body.toList)
     (.leaf (mkR feqModule.rs (false, ())) [] [])
     (.leaf (mkR feqModule.rs (true, ())) [] []))))) (by kernel_rfl) ?_
  refine ob_i trivial fun _ => lt_i (br_i (fun h1 => Fct.leafY ?_) (fun h1 => br_i (fun h2 => Fct.leafY ?_) (fun h2 => br_i (fun h3 => Fct.leafY ?_) (fun h3 => br_i (fun h4 => Fct.leafY ?_) (fun h4 => Fct.leafY ?_)))))
  all_goals try simp only [decide_eq_true_eq, decide_eq_false_iff_not, Bool.not_eq_true', Bool.not_eq_false', bne_iff_ne, bne_eq_false_iff_eq, beq_iff_eq, beq_eq_false_iff_ne, baEq, Int.not_lt, Int.not_le, ne_eq, Decidable.not_not] at *
  all_goals try simp only [feqAddr, feqModule, baSz, List.size_toArray, List.length_cons, List.length_nil, Nat.reduceAdd, Int.toNat_zero, List.drop_zero, decide_eq_true_eq, decide_eq_false_iff_not, Bool.not_eq_true', Bool.not_eq_false', bne_iff_ne, bne_eq_false_iff_eq, beq_iff_eq, beq_eq_false_iff_ne, Bool.not_eq_true, Bool.not_eq_false, ne_eq, Decidable.not_not, baEq, decide_not, Prod.mk.injEq, and_true, true_and, Room, List.nil_append, Nat.zero_add, Int.not_lt, Int.not_le] at *
  all_goals first | trivial | (cases x; cases y; simp_all; done) | (simp only [szAddr, szModule] at *; omega) | grind [szAddr, szModule])
def E81 : D.Env := E80.add 124 feqModule
theorem E81ok : EOk Tryz.prog E81 := E80ok.add k124_80
-- laws.szModuleS
set_option maxHeartbeats 2000000 in
theorem k90_81 : fszModuleS.ok Tryz.prog 90 := Fct.of (S := fszModuleS) (L := fun ⟨l, n, _⟩ => fun | 5 => some (LszS .module szModule l n) | _ => none) (kp := [0,1,4,5,11,15,25]) E81ok Tryz.func90 (by kernel_rfl) (by kernel_rfl) (by
  rintro ⟨(l : List SModule), (n : Int), _⟩ hp
  refine holds_of (X := .br (decide (IntKind.i64.wrap (n - (↑l.length : Int)) < (0 : Int)))
 (.leaf (mkR fszModuleS.rs ((-1 : Int), ())) [] [])
 (lpx (LszS .module szModule l n) (IntKind.i64.wrap (n - (↑l.length : Int)), ((0 : Int), ())) fun (y2 : Int × Int × PUnit) bk2 =>
  .br (decide (y2.snd.fst < (↑l.length : Int)))
   (.ob ((0 : Int) ≤ y2.snd.fst ∧ y2.snd.fst < (↑l.length : Int)) <|
    .ob (fszModule.pre (l.getD y2.snd.fst.toNat default, y2.fst, ())) <|
    .lt (Int × PUnit) (fszModule.fn (l.getD y2.snd.fst.toNat default, y2.fst, ())) fun z2 =>
    .br (decide (z2.fst < (0 : Int)))
     (.leaf (mkR fszModuleS.rs ((-1 : Int), ())) [] [])
     (.ob (l = l) <|
      .ob (Value.bool (decide (IntKind.i64.wrap (n - (↑l.length : Int)) < (0 : Int))) =
  Value.bool (decide (IntKind.i64.wrap (n - (↑l.length : Int)) < (0 : Int)))) <|
      .ob (bk2 (z2.fst, (IntKind.i64.wrap (y2.snd.fst + (1 : Int)), ()))) <|
      .ok))
   (.leaf (mkR fszModuleS.rs (y2.fst, ())) [] []))) (by kernel_rfl) ?_
  refine br_i (fun h1 => Fct.leafY ?_) (fun h1 => lpx_i ?_ fun (y2 : Int × Int × PUnit) i2 => br_i (fun h3 => ob_i ?_ fun o4 => ob_i ?_ fun o5 => lt_i (br_i (fun h6 => Fct.leafY ?_) (fun h6 => ob_i rfl fun _ => ob_i rfl fun _ => ob_i ?_ fun o7 => trivial))) (fun h3 => Fct.leafY ?_))
  all_goals try simp only [decide_eq_true_eq, decide_eq_false_iff_not, Bool.not_eq_true', Bool.not_eq_false', bne_iff_ne, bne_eq_false_iff_eq, beq_iff_eq, beq_eq_false_iff_ne, baEq, Int.not_lt, Int.not_le, ne_eq, Decidable.not_not] at *
  all_goals try simp only [LszS, fszModule, fszModuleS, baSz, List.size_toArray, List.length_cons, List.length_nil, Nat.reduceAdd, Int.toNat_zero, List.drop_zero, decide_eq_true_eq, decide_eq_false_iff_not, Bool.not_eq_true', Bool.not_eq_false', bne_iff_ne, bne_eq_false_iff_eq, beq_iff_eq, beq_eq_false_iff_ne, Bool.not_eq_true, Bool.not_eq_false, ne_eq, Decidable.not_not, baEq, decide_not, Prod.mk.injEq, and_true, true_and, Room, List.nil_append, Nat.zero_add, Int.not_lt, Int.not_le] at *
  · have := good_len hp.1; simp only [maxLen] at this; rw [wrapId (by omega)] at h1
    rw [lessenNeg (by simp only [szL]; omega)]
  · have := good_len hp.1; simp only [maxLen] at this
    rw [wrapId (by omega)] at h1 ⊢
    exact ⟨by omega, by omega, h1, by simp⟩
  · omega
  · exact ⟨good_getD hp.1 (by omega), by omega, by omega⟩
  · have hs := sum_take_le szModule l (y2.2.1.toNat + 1)
    rw [sum_take szModule (by omega)] at hs
    rw [lessen_lt (by omega)] at h6
    rw [lessenNeg (by simp only [szL]; omega)]
  · have hw : IntKind.i64.wrap (y2.2.1 + 1) = y2.2.1 + 1 := wrapId (by have := good_len hp.1; simp only [maxLen] at this; omega)
    have h7 : ¬ lessen y2.1 (szModule (l.getD y2.2.1.toNat default)) < 0 := by omega
    rw [lessen_lt (by omega)] at h7
    rw [hw, toNat1 (by omega), sum_take szModule (by omega), lessen_ge (by omega)]
    exact ⟨⟨by omega, by omega, by omega, by omega⟩, by omega⟩
  · have e : l.take y2.2.1.toNat = l := List.take_of_length_le (by omega)
    rw [e] at i2
    have hz : ((szL szModule l : Nat) : Int) = l.length + (l.map szModule).sum := by simp only [szL]; omega
    rw [lessen_ge (by omega)]
    show y2.1 = n - ((szL szModule l : Nat) : Int)
    omega)
def E82 : D.Env := E81.add 90 fszModuleS
theorem E82ok : EOk Tryz.prog E82 := E81ok.add k90_81
-- laws.toModuleS
theorem k103_82 : ftoModuleS.ok Tryz.prog 103 := Fct.of (S := ftoModuleS) (L := fun ⟨l, _⟩ => fun | 3 => some (LtoS .module l) | _ => none) (kp := [0,2,3,4,11]) E82ok Tryz.func103 (by kernel_rfl) (by kernel_rfl) (by
  rintro ⟨(l : List SModule), _⟩ hp
  refine holds_of (X := .ob ((↑l.length : Int) = (↑l.length : Int) ∧
  (0 : Int) ≤ (↑l.length : Int) ∧
    (64 : Int) * (↑l.length : Int) ≤ (140737488355328 : Int) ∧ (↑l.length : Int) ≤ (140737488355328 : Int)) <|
 lpx (LtoS .module l) ((0 : Int), (List.replicate (↑l.length : Int).toNat default, ())) fun (y2 : Int × List SModule × PUnit) bk2 =>
 .br (decide (y2.fst < (↑l.length : Int)))
  (.ob ((0 : Int) ≤ y2.fst ∧ y2.fst < (↑l.length : Int)) <|
   .ob (ftoModule.pre (l.getD y2.fst.toNat default, ())) <|
   .lt (SModule × PUnit) (ftoModule.fn (l.getD y2.fst.toNat default, ())) fun z2 =>
   .ob ((0 : Int) ≤ y2.fst ∧ y2.fst < (↑y2.snd.fst.length : Int)) <|
    .ob (y2.fst.toNat < y2.snd.fst.length) <|
    .lt (List SModule) (y2.snd.fst.modify y2.fst.toNat fun z => z2.fst) fun z3 =>
    .ob (l = l) <|
     .ob (bk2 (IntKind.i64.wrap (y2.fst + (1 : Int)), (z3, ()))) <|
     .ok)
  (.leaf (mkR ftoModuleS.rs (y2.snd.fst, ())) [] [])) (by kernel_rfl) ?_
  refine ob_i ?_ fun o1 => lpx_i ?_ fun (y2 : Int × List SModule × PUnit) i2 => br_i (fun h3 => ob_i ?_ fun o4 => ob_i ?_ fun o5 => lt_i (ob_i ?_ fun o6 => ob_i ?_ fun o7 => lt_i (ob_i rfl fun _ => ob_i ?_ fun o8 => trivial))) (fun h3 => Fct.leafY ?_)
  all_goals try simp only [decide_eq_true_eq, decide_eq_false_iff_not, Bool.not_eq_true', Bool.not_eq_false', bne_iff_ne, bne_eq_false_iff_eq, beq_iff_eq, beq_eq_false_iff_ne, baEq, Int.not_lt, Int.not_le, ne_eq, Decidable.not_not] at *
  all_goals try simp only [LtoS, ftoModule, ftoModuleS, baSz, List.size_toArray, List.length_cons, List.length_nil, Nat.reduceAdd, Int.toNat_zero, List.drop_zero, decide_eq_true_eq, decide_eq_false_iff_not, Bool.not_eq_true', Bool.not_eq_false', bne_iff_ne, bne_eq_false_iff_eq, beq_iff_eq, beq_eq_false_iff_ne, Bool.not_eq_true, Bool.not_eq_false, ne_eq, Decidable.not_not, baEq, decide_not, Prod.mk.injEq, and_true, true_and, Room, List.nil_append, Nat.zero_add, Int.not_lt, Int.not_le] at *
  · have := szL_len szModule l; omega
  · exact ⟨by omega, by omega, by simp⟩
  · omega
  · have hs := sum_take_le szModule l (y2.1.toNat + 1)
    rw [sum_take szModule (by omega)] at hs
    simp only [szL] at hp; omega
  · rw [i2.2.2]; simp; omega
  · rw [i2.2.2]; simp; omega
  · have hw : IntKind.i64.wrap (y2.1 + 1) = y2.1 + 1 := wrapId (by have := szL_len szModule l; omega)
    rw [hw, toNat1 (by omega), i2.2.2]
    refine ⟨⟨by omega, by omega, ?_⟩, by omega⟩
    rw [show l.length - y2.1.toNat = (l.length - (y2.1.toNat + 1)) + 1 from by omega, List.replicate_succ, mod_at (by simp; omega), take_succ (by omega)]
    simp
  · have e : l.take y2.1.toNat = l := List.take_of_length_le (by omega)
    rw [i2.2.2, e]; simp; omega)
def E83 : D.Env := E82.add 103 ftoModuleS
theorem E83ok : EOk Tryz.prog E83 := E82ok.add k103_82
-- laws.eqModuleS
set_option maxHeartbeats 2000000 in
theorem k57_83 : feqModuleS.ok Tryz.prog 57 := Fct.of (S := feqModuleS) (L := fun ⟨l, m, _⟩ => fun | 4 => some (LeqS .module l m) | _ => none) (kp := [0,1,4,5,10,14,26]) E83ok Tryz.func57 (by kernel_rfl) (by kernel_rfl) (by
  rintro ⟨(l : List SModule), (m : List SModule), _⟩ hp
  refine holds_of (X := .br ((↑l.length : Int) != (↑m.length : Int))
 (.leaf (mkR feqModuleS.rs (false, ())) [] [])
 (lpx (LeqS .module l m) ((0 : Int), ()) fun (y2 : Int × PUnit) bk2 =>
  .br (decide (y2.fst < (↑l.length : Int)))
   (.ob ((0 : Int) ≤ y2.fst ∧ y2.fst < (↑l.length : Int)) <|
    .ob ((0 : Int) ≤ y2.fst ∧ y2.fst < (↑m.length : Int)) <|
    .ob (feqModule.pre (l.getD y2.fst.toNat default, m.getD y2.fst.toNat default, ())) <|
    .lt (Bool × PUnit) (feqModule.fn (l.getD y2.fst.toNat default, m.getD y2.fst.toNat default, ())) fun z2 =>
    .br (!z2.fst)
     (.leaf (mkR feqModuleS.rs (false, ())) [] [])
     (.ob (l = l) <|
      .ob (m = m) <|
      .ob (Value.bool ((↑l.length : Int) != (↑m.length : Int)) = Value.bool ((↑l.length : Int) != (↑m.length : Int))) <|
      .ob (bk2 (IntKind.i64.wrap (y2.fst + (1 : Int)), ())) <|
      .ok))
   (.leaf (mkR feqModuleS.rs (true, ())) [] []))) (by kernel_rfl) ?_
  refine br_i (fun h1 => Fct.leafY ?_) (fun h1 => lpx_i ?_ fun (y2 : Int × PUnit) i2 => br_i (fun h3 => ob_i ?_ fun o4 => ob_i ?_ fun o5 => ob_i trivial fun _ => lt_i (br_i (fun h6 => Fct.leafY ?_) (fun h6 => ob_i rfl fun _ => ob_i rfl fun _ => ob_i rfl fun _ => ob_i ?_ fun o7 => trivial))) (fun h3 => Fct.leafY ?_))
  all_goals try simp only [decide_eq_true_eq, decide_eq_false_iff_not, Bool.not_eq_true', Bool.not_eq_false', bne_iff_ne, bne_eq_false_iff_eq, beq_iff_eq, beq_eq_false_iff_ne, baEq, Int.not_lt, Int.not_le, ne_eq, Decidable.not_not] at *
  all_goals try simp only [LeqS, feqModule, feqModuleS, baSz, List.size_toArray, List.length_cons, List.length_nil, Nat.reduceAdd, Int.toNat_zero, List.drop_zero, decide_eq_true_eq, decide_eq_false_iff_not, Bool.not_eq_true', Bool.not_eq_false', bne_iff_ne, bne_eq_false_iff_eq, beq_iff_eq, beq_eq_false_iff_ne, Bool.not_eq_true, Bool.not_eq_false, ne_eq, Decidable.not_not, baEq, decide_not, Prod.mk.injEq, and_true, true_and, Room, List.nil_append, Nat.zero_add, Int.not_lt, Int.not_le] at *
  · rw [decide_eq_false]; rintro rfl; omega
  · exact ⟨by omega, by omega, by simp⟩
  · omega
  · omega
  · rw [decide_eq_false]; rintro rfl; exact absurd rfl h6
  · have hw : IntKind.i64.wrap (y2.1 + 1) = y2.1 + 1 := wrapId (by omega)
    rw [hw, toNat1 (by omega)]
    refine ⟨⟨by omega, by omega, ?_⟩, by omega⟩
    rw [take_succ (by omega), take_succ (by omega), i2.2.2, h6]
  · have e : l.take y2.1.toNat = l := List.take_of_length_le (by omega)
    have e2 : m.take y2.1.toNat = m := List.take_of_length_le (by omega)
    rw [decide_eq_true]; rw [← e, ← e2, i2.2.2])
def E84 : D.Env := E83.add 57 feqModuleS
theorem E84ok : EOk Tryz.prog E84 := E83ok.add k57_83
-- laws.szPage
set_option maxHeartbeats 2000000 in
theorem k29_84 : fszPage.ok Tryz.prog 29 := Fct.of (S := fszPage) (L := fun _ _ => none) (kp := [0,1,2,4,10,16,22,28,34,40,46,52,58,64]) E84ok Tryz.func29 (by kernel_rfl) (by kernel_rfl) (by
  rintro ⟨(x : SPage), (n : Int), _⟩ hp
  refine holds_of (X := .ob (fszAddr.pre (x.addr, n, ())) <|
 .lt (Int × PUnit) (fszAddr.fn (x.addr, n, ())) fun z2 =>
 .br (decide (z2.fst < (0 : Int)))
  (.leaf (mkR fszPage.rs ((-1 : Int), ())) [] [])
  (.ob (fszPolicy.pre (x.policy, z2.fst, ())) <|
   .lt (Int × PUnit) (fszPolicy.fn (x.policy, z2.fst, ())) fun z3 =>
   .br (decide (z3.fst < (0 : Int)))
    (.leaf (mkR fszPage.rs ((-1 : Int), ())) [] [])
    (.ob (fszTokenizer.pre (x.tok, z3.fst, ())) <|
     .lt (Int × PUnit) (fszTokenizer.fn (x.tok, z3.fst, ())) fun z4 =>
     .br (decide (z4.fst < (0 : Int)))
      (.leaf (mkR fszPage.rs ((-1 : Int), ())) [] [])
      (.ob (fszTokenS.pre (x.queue, z4.fst, ())) <|
       .lt (Int × PUnit) (fszTokenS.fn (x.queue, z4.fst, ())) fun z5 =>
       .br (decide (z5.fst < (0 : Int)))
        (.leaf (mkR fszPage.rs ((-1 : Int), ())) [] [])
        (.ob (fszBuilder.pre (x.builder, z5.fst, ())) <|
         .lt (Int × PUnit) (fszBuilder.fn (x.builder, z5.fst, ())) fun z6 =>
         .br (decide (z6.fst < (0 : Int)))
          (.leaf (mkR fszPage.rs ((-1 : Int), ())) [] [])
          (.ob (fszSlotS.pre (x.slots, z6.fst, ())) <|
           .lt (Int × PUnit) (fszSlotS.fn (x.slots, z6.fst, ())) fun z7 =>
           .br (decide (z7.fst < (0 : Int)))
            (.leaf (mkR fszPage.rs ((-1 : Int), ())) [] [])
            (.ob (fszModuleS.pre (x.mods, z7.fst, ())) <|
             .lt (Int × PUnit) (fszModuleS.fn (x.mods, z7.fst, ())) fun z8 =>
             .br (decide (z8.fst < (0 : Int)))
              (.leaf (mkR fszPage.rs ((-1 : Int), ())) [] [])
              (.ob (fszAddrS.pre (x.entries, z8.fst, ())) <|
               .lt (Int × PUnit) (fszAddrS.fn (x.entries, z8.fst, ())) fun z9 =>
               .br (decide (z9.fst < (0 : Int)))
                (.leaf (mkR fszPage.rs ((-1 : Int), ())) [] [])
                (.ob (fszAddrS.pre (x.ran, z9.fst, ())) <|
                 .lt (Int × PUnit) (fszAddrS.fn (x.ran, z9.fst, ())) fun z10 =>
                 .br (decide (z10.fst < (0 : Int)))
                  (.leaf (mkR fszPage.rs ((-1 : Int), ())) [] [])
                  (.ob (fszStringS.pre (x.log, z10.fst, ())) <|
                   .lt (Int × PUnit) (fszStringS.fn (x.log, z10.fst, ())) fun z11 =>
                   .br (decide (z11.fst < (0 : Int)))
                    (.leaf (mkR fszPage.rs ((-1 : Int), ())) [] [])
                    (.leaf (mkR fszPage.rs (z11.fst, ())) [] []))))))))))) (by kernel_rfl) ?_
  refine ob_i ?_ fun o1 => lt_i (br_i (fun h2 => Fct.leafY ?_) (fun h2 => ob_i ?_ fun o3 => lt_i (br_i (fun h4 => Fct.leafY ?_) (fun h4 => ob_i ?_ fun o5 => lt_i (br_i (fun h6 => Fct.leafY ?_) (fun h6 => ob_i ?_ fun o7 => lt_i (br_i (fun h8 => Fct.leafY ?_) (fun h8 => ob_i ?_ fun o9 => lt_i (br_i (fun h10 => Fct.leafY ?_) (fun h10 => ob_i ?_ fun o11 => lt_i (br_i (fun h12 => Fct.leafY ?_) (fun h12 => ob_i ?_ fun o13 => lt_i (br_i (fun h14 => Fct.leafY ?_) (fun h14 => ob_i ?_ fun o15 => lt_i (br_i (fun h16 => Fct.leafY ?_) (fun h16 => ob_i ?_ fun o17 => lt_i (br_i (fun h18 => Fct.leafY ?_) (fun h18 => ob_i ?_ fun o19 => lt_i (br_i (fun h20 => Fct.leafY ?_) (fun h20 => Fct.leafY ?_))))))))))))))))))))
  all_goals try simp only [decide_eq_true_eq, decide_eq_false_iff_not, Bool.not_eq_true', Bool.not_eq_false', bne_iff_ne, bne_eq_false_iff_eq, beq_iff_eq, beq_eq_false_iff_ne, baEq, Int.not_lt, Int.not_le, ne_eq, Decidable.not_not] at *
  all_goals try simp only [fszAddr, fszAddrS, fszBuilder, fszModuleS, fszPage, fszPolicy, fszSlotS, fszStringS, fszTokenS, fszTokenizer, baSz, List.size_toArray, List.length_cons, List.length_nil, Nat.reduceAdd, Int.toNat_zero, List.drop_zero, decide_eq_true_eq, decide_eq_false_iff_not, Bool.not_eq_true', Bool.not_eq_false', bne_iff_ne, bne_eq_false_iff_eq, beq_iff_eq, beq_eq_false_iff_ne, Bool.not_eq_true, Bool.not_eq_false, ne_eq, Decidable.not_not, baEq, decide_not, Prod.mk.injEq, and_true, true_and, Room, List.nil_append, Nat.zero_add, Int.not_lt, Int.not_le, Sh.good, Sh.fc, enc, List.forall_mem_cons, List.not_mem_nil, false_implies, implies_true, goodC, maxLen] at *
  all_goals grind [wrapId', lessen, szAddr, szBuilder, szL, szPage, szPolicy, szTokenizer])
def E85 : D.Env := E84.add 29 fszPage
theorem E85ok : EOk Tryz.prog E85 := E84ok.add k29_84
-- laws.toPage
theorem k35_85 : ftoPage.ok Tryz.prog 35 := Fct.of (S := ftoPage) (L := fun _ _ => none) (kp := [0,1,2,3]) E85ok Tryz.func35 (by kernel_rfl) (by kernel_rfl) (by
  rintro ⟨(x : SPage), _⟩ hp
  refine holds_of (X := .ob (ftoAddr.pre (x.addr, ())) <|
 .lt (SAddr × PUnit) (ftoAddr.fn (x.addr, ())) fun z2 =>
 .ob (ftoPolicy.pre (x.policy, ())) <|
  .lt (SPolicy × PUnit) (ftoPolicy.fn (x.policy, ())) fun z3 =>
  .ob (ftoTokenizer.pre (x.tok, ())) <|
   .lt (STokenizer × PUnit) (ftoTokenizer.fn (x.tok, ())) fun z4 =>
   .ob (ftoTokenS.pre (x.queue, ())) <|
    .lt (List SToken × PUnit) (ftoTokenS.fn (x.queue, ())) fun z5 =>
    .ob (ftoBuilder.pre (x.builder, ())) <|
     .lt (SBuilder × PUnit) (ftoBuilder.fn (x.builder, ())) fun z6 =>
     .ob (ftoSlotS.pre (x.slots, ())) <|
      .lt (List SSlot × PUnit) (ftoSlotS.fn (x.slots, ())) fun z7 =>
      .ob (ftoModuleS.pre (x.mods, ())) <|
       .lt (List SModule × PUnit) (ftoModuleS.fn (x.mods, ())) fun z8 =>
       .ob (ftoAddrS.pre (x.entries, ())) <|
        .lt (List SAddr × PUnit) (ftoAddrS.fn (x.entries, ())) fun z9 =>
        .ob (ftoAddrS.pre (x.ran, ())) <|
         .lt (List SAddr × PUnit) (ftoAddrS.fn (x.ran, ())) fun z10 =>
         .ob (ftoStringS.pre (x.log, ())) <|
          .lt (List ByteArray × PUnit) (ftoStringS.fn (x.log, ())) fun z11 =>
          .leaf (mkR ftoPage.rs (⟨z2.fst, z3.fst, z4.fst, z5.fst, x.ended, z6.fst, z7.fst, z8.fst, z9.fst, x.block, x.inline, x.deferred, x.entered, z10.fst, z11.fst, x.loaded⟩, ())) [] []) (by kernel_rfl) ?_
  refine ob_i ?_ fun o1 => lt_i (ob_i ?_ fun o2 => lt_i (ob_i ?_ fun o3 => lt_i (ob_i ?_ fun o4 => lt_i (ob_i ?_ fun o5 => lt_i (ob_i ?_ fun o6 => lt_i (ob_i ?_ fun o7 => lt_i (ob_i ?_ fun o8 => lt_i (ob_i ?_ fun o9 => lt_i (ob_i ?_ fun o10 => lt_i (Fct.leafY ?_))))))))))
  all_goals try simp only [decide_eq_true_eq, decide_eq_false_iff_not, Bool.not_eq_true', Bool.not_eq_false', bne_iff_ne, bne_eq_false_iff_eq, beq_iff_eq, beq_eq_false_iff_ne, baEq, Int.not_lt, Int.not_le, ne_eq, Decidable.not_not] at *
  all_goals try simp only [ftoAddr, ftoAddrS, ftoBuilder, ftoModuleS, ftoPage, ftoPolicy, ftoSlotS, ftoStringS, ftoTokenS, ftoTokenizer, baSz, List.size_toArray, List.length_cons, List.length_nil, Nat.reduceAdd, Int.toNat_zero, List.drop_zero, decide_eq_true_eq, decide_eq_false_iff_not, Bool.not_eq_true', Bool.not_eq_false', bne_iff_ne, bne_eq_false_iff_eq, beq_iff_eq, beq_eq_false_iff_ne, Bool.not_eq_true, Bool.not_eq_false, ne_eq, Decidable.not_not, baEq, decide_not, Prod.mk.injEq, and_true, true_and, Room, List.nil_append, Nat.zero_add, Int.not_lt, Int.not_le] at *
  all_goals first | trivial | rfl | grind [szAddr, szBuilder, szL, szPage, szPolicy, szTokenizer])
def E86 : D.Env := E85.add 35 ftoPage
theorem E86ok : EOk Tryz.prog E86 := E85ok.add k35_85
-- laws.eqPage
set_option maxHeartbeats 2000000 in
theorem k19_86 : feqPage.ok Tryz.prog 19 := Fct.of (S := feqPage) (L := fun _ _ => none) (kp := [0,1,2,3,4,10,16,22,28,33,39,45,51,57,62,67,72,77,83,89,94]) E86ok Tryz.func19 (by kernel_rfl) (by kernel_rfl) (by
  rintro ⟨(x : SPage), (y : SPage), _⟩ hp
  refine holds_of (X := .ob (feqAddr.pre (x.addr, y.addr, ())) <|
 .lt (Bool × PUnit) (feqAddr.fn (x.addr, y.addr, ())) fun z2 =>
 .br (!z2.fst)
  (.leaf (mkR feqPage.rs (false, ())) [] [])
  (.ob (feqPolicy.pre (x.policy, y.policy, ())) <|
   .lt (Bool × PUnit) (feqPolicy.fn (x.policy, y.policy, ())) fun z3 =>
   .br (!z3.fst)
    (.leaf (mkR feqPage.rs (false, ())) [] [])
    (.ob (feqTokenizer.pre (x.tok, y.tok, ())) <|
     .lt (Bool × PUnit) (feqTokenizer.fn (x.tok, y.tok, ())) fun z4 =>
     .br (!z4.fst)
      (.leaf (mkR feqPage.rs (false, ())) [] [])
      (.ob (feqTokenS.pre (x.queue, y.queue, ())) <|
       .lt (Bool × PUnit) (feqTokenS.fn (x.queue, y.queue, ())) fun z5 =>
       .br (!z5.fst)
        (.leaf (mkR feqPage.rs (false, ())) [] [])
        (.br (!x.ended == y.ended)
         (.leaf (mkR feqPage.rs (false, ())) [] [])
         (.ob (feqBuilder.pre (x.builder, y.builder, ())) <|
          .lt (Bool × PUnit) (feqBuilder.fn (x.builder, y.builder, ())) fun z6 =>
          .br (!z6.fst)
           (.leaf (mkR feqPage.rs (false, ())) [] [])
           (.ob (feqSlotS.pre (x.slots, y.slots, ())) <|
            .lt (Bool × PUnit) (feqSlotS.fn (x.slots, y.slots, ())) fun z7 =>
            .br (!z7.fst)
             (.leaf (mkR feqPage.rs (false, ())) [] [])
             (.ob (feqModuleS.pre (x.mods, y.mods, ())) <|
              .lt (Bool × PUnit) (feqModuleS.fn (x.mods, y.mods, ())) fun z8 =>
              .br (!z8.fst)
               (.leaf (mkR feqPage.rs (false, ())) [] [])
               (.ob (feqAddrS.pre (x.entries, y.entries, ())) <|
                .lt (Bool × PUnit) (feqAddrS.fn (x.entries, y.entries, ())) fun z9 =>
                .br (!z9.fst)
                 (.leaf (mkR feqPage.rs (false, ())) [] [])
                 (.br (x.block != y.block)
                  (.leaf (mkR feqPage.rs (false, ())) [] [])
                  (.br (x.inline != y.inline)
                   (.leaf (mkR feqPage.rs (false, ())) [] [])
                   (.br (x.deferred != y.deferred)
                    (.leaf (mkR feqPage.rs (false, ())) [] [])
                    (.br (x.entered != y.entered)
                     (.leaf (mkR feqPage.rs (false, ())) [] [])
                     (.ob (feqAddrS.pre (x.ran, y.ran, ())) <|
                      .lt (Bool × PUnit) (feqAddrS.fn (x.ran, y.ran, ())) fun z10 =>
                      .br (!z10.fst)
                       (.leaf (mkR feqPage.rs (false, ())) [] [])
                       (.ob (feqStringS.pre (x.log, y.log, ())) <|
                        .lt (Bool × PUnit) (feqStringS.fn (x.log, y.log, ())) fun z11 =>
                        .br (!z11.fst)
                         (.leaf (mkR feqPage.rs (false, ())) [] [])
                         (.br (!x.loaded == y.loaded)
                          (.leaf (mkR feqPage.rs (false, ())) [] [])
                          (.leaf (mkR feqPage.rs (true, ())) [] []))))))))))))))))) (by kernel_rfl) ?_
  refine ob_i trivial fun _ => lt_i (br_i (fun h1 => Fct.leafY ?_) (fun h1 => ob_i ?_ fun o2 => lt_i (br_i (fun h3 => Fct.leafY ?_) (fun h3 => ob_i trivial fun _ => lt_i (br_i (fun h4 => Fct.leafY ?_) (fun h4 => ob_i ?_ fun o5 => lt_i (br_i (fun h6 => Fct.leafY ?_) (fun h6 => br_i (fun h7 => Fct.leafY ?_) (fun h7 => ob_i ?_ fun o8 => lt_i (br_i (fun h9 => Fct.leafY ?_) (fun h9 => ob_i ?_ fun o10 => lt_i (br_i (fun h11 => Fct.leafY ?_) (fun h11 => ob_i ?_ fun o12 => lt_i (br_i (fun h13 => Fct.leafY ?_) (fun h13 => ob_i ?_ fun o14 => lt_i (br_i (fun h15 => Fct.leafY ?_) (fun h15 => br_i (fun h16 => Fct.leafY ?_) (fun h16 => br_i (fun h17 => Fct.leafY ?_) (fun h17 => br_i (fun h18 => Fct.leafY ?_) (fun h18 => br_i (fun h19 => Fct.leafY ?_) (fun h19 => ob_i ?_ fun o20 => lt_i (br_i (fun h21 => Fct.leafY ?_) (fun h21 => ob_i ?_ fun o22 => lt_i (br_i (fun h23 => Fct.leafY ?_) (fun h23 => br_i (fun h24 => Fct.leafY ?_) (fun h24 => Fct.leafY ?_))))))))))))))))))))))))))
  all_goals try simp only [decide_eq_true_eq, decide_eq_false_iff_not, Bool.not_eq_true', Bool.not_eq_false', bne_iff_ne, bne_eq_false_iff_eq, beq_iff_eq, beq_eq_false_iff_ne, baEq, Int.not_lt, Int.not_le, ne_eq, Decidable.not_not] at *
  all_goals try simp only [feqAddr, feqAddrS, feqBuilder, feqModuleS, feqPage, feqPolicy, feqSlotS, feqStringS, feqTokenS, feqTokenizer, baSz, List.size_toArray, List.length_cons, List.length_nil, Nat.reduceAdd, Int.toNat_zero, List.drop_zero, decide_eq_true_eq, decide_eq_false_iff_not, Bool.not_eq_true', Bool.not_eq_false', bne_iff_ne, bne_eq_false_iff_eq, beq_iff_eq, beq_eq_false_iff_ne, Bool.not_eq_true, Bool.not_eq_false, ne_eq, Decidable.not_not, baEq, decide_not, Prod.mk.injEq, and_true, true_and, Room, List.nil_append, Nat.zero_add, Int.not_lt, Int.not_le] at *
  all_goals first | trivial | (cases x; cases y; simp_all; done) | (simp only [szAddr, szBuilder, szL, szPage, szPolicy, szTokenizer] at *; omega) | grind [szAddr, szBuilder, szL, szPage, szPolicy, szTokenizer])
def E87 : D.Env := E86.add 19 feqPage
theorem E87ok : EOk Tryz.prog E87 := E86ok.add k19_86
-- laws.szGuess
set_option maxHeartbeats 2000000 in
theorem k93_87 : fszGuess.ok Tryz.prog 93 := Fct.of (S := fszGuess) (L := fun _ _ => none) (kp := [0,1,2,4,10,16]) E87ok Tryz.func93 (by kernel_rfl) (by kernel_rfl) (by
  rintro ⟨(x : SGuess), (n : Int), _⟩ hp
  refine holds_of (X := .ob (fszAddr.pre (x.to, n, ())) <|
 .lt (Int × PUnit) (fszAddr.fn (x.to, n, ())) fun z2 =>
 .br (decide (z2.fst < (0 : Int)))
  (.leaf (mkR fszGuess.rs ((-1 : Int), ())) [] [])
  (.ob (fszResponse.pre (x.response, z2.fst, ())) <|
   .lt (Int × PUnit) (fszResponse.fn (x.response, z2.fst, ())) fun z3 =>
   .br (decide (z3.fst < (0 : Int)))
    (.leaf (mkR fszGuess.rs ((-1 : Int), ())) [] [])
    (.leaf (mkR fszGuess.rs (z3.fst, ())) [] []))) (by kernel_rfl) ?_
  refine ob_i ?_ fun o1 => lt_i (br_i (fun h2 => Fct.leafY ?_) (fun h2 => ob_i ?_ fun o3 => lt_i (br_i (fun h4 => Fct.leafY ?_) (fun h4 => Fct.leafY ?_))))
  all_goals try simp only [decide_eq_true_eq, decide_eq_false_iff_not, Bool.not_eq_true', Bool.not_eq_false', bne_iff_ne, bne_eq_false_iff_eq, beq_iff_eq, beq_eq_false_iff_ne, baEq, Int.not_lt, Int.not_le, ne_eq, Decidable.not_not] at *
  all_goals try simp only [fszAddr, fszGuess, fszResponse, baSz, List.size_toArray, List.length_cons, List.length_nil, Nat.reduceAdd, Int.toNat_zero, List.drop_zero, decide_eq_true_eq, decide_eq_false_iff_not, Bool.not_eq_true', Bool.not_eq_false', bne_iff_ne, bne_eq_false_iff_eq, beq_iff_eq, beq_eq_false_iff_ne, Bool.not_eq_true, Bool.not_eq_false, ne_eq, Decidable.not_not, baEq, decide_not, Prod.mk.injEq, and_true, true_and, Room, List.nil_append, Nat.zero_add, Int.not_lt, Int.not_le, Sh.good, Sh.fc, enc, List.forall_mem_cons, List.not_mem_nil, false_implies, implies_true, goodC, maxLen] at *
  all_goals grind [wrapId', lessen, szAddr, szGuess, szResponse])
def E88 : D.Env := E87.add 93 fszGuess
theorem E88ok : EOk Tryz.prog E88 := E87ok.add k93_87
-- laws.toGuess
theorem k106_88 : ftoGuess.ok Tryz.prog 106 := Fct.of (S := ftoGuess) (L := fun _ _ => none) (kp := [0,1,2,3]) E88ok Tryz.func106 (by kernel_rfl) (by kernel_rfl) (by
  rintro ⟨(x : SGuess), _⟩ hp
  refine holds_of (X := .ob (ftoAddr.pre (x.to, ())) <|
 .lt (SAddr × PUnit) (ftoAddr.fn (x.to, ())) fun z2 =>
 .ob (ftoResponse.pre (x.response, ())) <|
  .lt (SResponse × PUnit) (ftoResponse.fn (x.response, ())) fun z3 =>
  .leaf (mkR ftoGuess.rs (⟨z2.fst, z3.fst, x.used⟩, ())) [] []) (by kernel_rfl) ?_
  refine ob_i ?_ fun o1 => lt_i (ob_i ?_ fun o2 => lt_i (Fct.leafY ?_))
  all_goals try simp only [decide_eq_true_eq, decide_eq_false_iff_not, Bool.not_eq_true', Bool.not_eq_false', bne_iff_ne, bne_eq_false_iff_eq, beq_iff_eq, beq_eq_false_iff_ne, baEq, Int.not_lt, Int.not_le, ne_eq, Decidable.not_not] at *
  all_goals try simp only [ftoAddr, ftoGuess, ftoResponse, baSz, List.size_toArray, List.length_cons, List.length_nil, Nat.reduceAdd, Int.toNat_zero, List.drop_zero, decide_eq_true_eq, decide_eq_false_iff_not, Bool.not_eq_true', Bool.not_eq_false', bne_iff_ne, bne_eq_false_iff_eq, beq_iff_eq, beq_eq_false_iff_ne, Bool.not_eq_true, Bool.not_eq_false, ne_eq, Decidable.not_not, baEq, decide_not, Prod.mk.injEq, and_true, true_and, Room, List.nil_append, Nat.zero_add, Int.not_lt, Int.not_le] at *
  all_goals first | trivial | rfl | grind [szAddr, szGuess, szResponse])
def E89 : D.Env := E88.add 106 ftoGuess
theorem E89ok : EOk Tryz.prog E89 := E88ok.add k106_88
-- laws.eqGuess
set_option maxHeartbeats 2000000 in
theorem k111_89 : feqGuess.ok Tryz.prog 111 := Fct.of (S := feqGuess) (L := fun _ _ => none) (kp := [0,1,2,3,4,10,16,21]) E89ok Tryz.func111 (by kernel_rfl) (by kernel_rfl) (by
  rintro ⟨(x : SGuess), (y : SGuess), _⟩ hp
  refine holds_of (X := .ob (feqAddr.pre (x.to, y.to, ())) <|
 .lt (Bool × PUnit) (feqAddr.fn (x.to, y.to, ())) fun z2 =>
 .br (!z2.fst)
  (.leaf (mkR feqGuess.rs (false, ())) [] [])
  (.ob (feqResponse.pre (x.response, y.response, ())) <|
   .lt (Bool × PUnit) (feqResponse.fn (x.response, y.response, ())) fun z3 =>
   .br (!z3.fst)
    (.leaf (mkR feqGuess.rs (false, ())) [] [])
    (.br (!x.used == y.used)
     (.leaf (mkR feqGuess.rs (false, ())) [] [])
     (.leaf (mkR feqGuess.rs (true, ())) [] [])))) (by kernel_rfl) ?_
  refine ob_i trivial fun _ => lt_i (br_i (fun h1 => Fct.leafY ?_) (fun h1 => ob_i trivial fun _ => lt_i (br_i (fun h2 => Fct.leafY ?_) (fun h2 => br_i (fun h3 => Fct.leafY ?_) (fun h3 => Fct.leafY ?_)))))
  all_goals try simp only [decide_eq_true_eq, decide_eq_false_iff_not, Bool.not_eq_true', Bool.not_eq_false', bne_iff_ne, bne_eq_false_iff_eq, beq_iff_eq, beq_eq_false_iff_ne, baEq, Int.not_lt, Int.not_le, ne_eq, Decidable.not_not] at *
  all_goals try simp only [feqAddr, feqGuess, feqResponse, baSz, List.size_toArray, List.length_cons, List.length_nil, Nat.reduceAdd, Int.toNat_zero, List.drop_zero, decide_eq_true_eq, decide_eq_false_iff_not, Bool.not_eq_true', Bool.not_eq_false', bne_iff_ne, bne_eq_false_iff_eq, beq_iff_eq, beq_eq_false_iff_ne, Bool.not_eq_true, Bool.not_eq_false, ne_eq, Decidable.not_not, baEq, decide_not, Prod.mk.injEq, and_true, true_and, Room, List.nil_append, Nat.zero_add, Int.not_lt, Int.not_le] at *
  all_goals first | trivial | (cases x; cases y; simp_all; done) | (simp only [szAddr, szGuess, szResponse] at *; omega) | grind [szAddr, szGuess, szResponse])
def E90 : D.Env := E89.add 111 feqGuess
theorem E90ok : EOk Tryz.prog E90 := E89ok.add k111_89
-- laws.szGuessS
set_option maxHeartbeats 2000000 in
theorem k32_90 : fszGuessS.ok Tryz.prog 32 := Fct.of (S := fszGuessS) (L := fun ⟨l, n, _⟩ => fun | 5 => some (LszS .guess szGuess l n) | _ => none) (kp := [0,1,4,5,11,15,25]) E90ok Tryz.func32 (by kernel_rfl) (by kernel_rfl) (by
  rintro ⟨(l : List SGuess), (n : Int), _⟩ hp
  refine holds_of (X := .br (decide (IntKind.i64.wrap (n - (↑l.length : Int)) < (0 : Int)))
 (.leaf (mkR fszGuessS.rs ((-1 : Int), ())) [] [])
 (lpx (LszS .guess szGuess l n) (IntKind.i64.wrap (n - (↑l.length : Int)), ((0 : Int), ())) fun (y2 : Int × Int × PUnit) bk2 =>
  .br (decide (y2.snd.fst < (↑l.length : Int)))
   (.ob ((0 : Int) ≤ y2.snd.fst ∧ y2.snd.fst < (↑l.length : Int)) <|
    .ob (fszGuess.pre (l.getD y2.snd.fst.toNat default, y2.fst, ())) <|
    .lt (Int × PUnit) (fszGuess.fn (l.getD y2.snd.fst.toNat default, y2.fst, ())) fun z2 =>
    .br (decide (z2.fst < (0 : Int)))
     (.leaf (mkR fszGuessS.rs ((-1 : Int), ())) [] [])
     (.ob (l = l) <|
      .ob (Value.bool (decide (IntKind.i64.wrap (n - (↑l.length : Int)) < (0 : Int))) =
  Value.bool (decide (IntKind.i64.wrap (n - (↑l.length : Int)) < (0 : Int)))) <|
      .ob (bk2 (z2.fst, (IntKind.i64.wrap (y2.snd.fst + (1 : Int)), ()))) <|
      .ok))
   (.leaf (mkR fszGuessS.rs (y2.fst, ())) [] []))) (by kernel_rfl) ?_
  refine br_i (fun h1 => Fct.leafY ?_) (fun h1 => lpx_i ?_ fun (y2 : Int × Int × PUnit) i2 => br_i (fun h3 => ob_i ?_ fun o4 => ob_i ?_ fun o5 => lt_i (br_i (fun h6 => Fct.leafY ?_) (fun h6 => ob_i rfl fun _ => ob_i rfl fun _ => ob_i ?_ fun o7 => trivial))) (fun h3 => Fct.leafY ?_))
  all_goals try simp only [decide_eq_true_eq, decide_eq_false_iff_not, Bool.not_eq_true', Bool.not_eq_false', bne_iff_ne, bne_eq_false_iff_eq, beq_iff_eq, beq_eq_false_iff_ne, baEq, Int.not_lt, Int.not_le, ne_eq, Decidable.not_not] at *
  all_goals try simp only [LszS, fszGuess, fszGuessS, baSz, List.size_toArray, List.length_cons, List.length_nil, Nat.reduceAdd, Int.toNat_zero, List.drop_zero, decide_eq_true_eq, decide_eq_false_iff_not, Bool.not_eq_true', Bool.not_eq_false', bne_iff_ne, bne_eq_false_iff_eq, beq_iff_eq, beq_eq_false_iff_ne, Bool.not_eq_true, Bool.not_eq_false, ne_eq, Decidable.not_not, baEq, decide_not, Prod.mk.injEq, and_true, true_and, Room, List.nil_append, Nat.zero_add, Int.not_lt, Int.not_le] at *
  · have := good_len hp.1; simp only [maxLen] at this; rw [wrapId (by omega)] at h1
    rw [lessenNeg (by simp only [szL]; omega)]
  · have := good_len hp.1; simp only [maxLen] at this
    rw [wrapId (by omega)] at h1 ⊢
    exact ⟨by omega, by omega, h1, by simp⟩
  · omega
  · exact ⟨good_getD hp.1 (by omega), by omega, by omega⟩
  · have hs := sum_take_le szGuess l (y2.2.1.toNat + 1)
    rw [sum_take szGuess (by omega)] at hs
    rw [lessen_lt (by omega)] at h6
    rw [lessenNeg (by simp only [szL]; omega)]
  · have hw : IntKind.i64.wrap (y2.2.1 + 1) = y2.2.1 + 1 := wrapId (by have := good_len hp.1; simp only [maxLen] at this; omega)
    have h7 : ¬ lessen y2.1 (szGuess (l.getD y2.2.1.toNat default)) < 0 := by omega
    rw [lessen_lt (by omega)] at h7
    rw [hw, toNat1 (by omega), sum_take szGuess (by omega), lessen_ge (by omega)]
    exact ⟨⟨by omega, by omega, by omega, by omega⟩, by omega⟩
  · have e : l.take y2.2.1.toNat = l := List.take_of_length_le (by omega)
    rw [e] at i2
    have hz : ((szL szGuess l : Nat) : Int) = l.length + (l.map szGuess).sum := by simp only [szL]; omega
    rw [lessen_ge (by omega)]
    show y2.1 = n - ((szL szGuess l : Nat) : Int)
    omega)
def E91 : D.Env := E90.add 32 fszGuessS
theorem E91ok : EOk Tryz.prog E91 := E90ok.add k32_90
-- laws.toGuessS
theorem k38_91 : ftoGuessS.ok Tryz.prog 38 := Fct.of (S := ftoGuessS) (L := fun ⟨l, _⟩ => fun | 3 => some (LtoS .guess l) | _ => none) (kp := [0,2,3,4,11]) E91ok Tryz.func38 (by kernel_rfl) (by kernel_rfl) (by
  rintro ⟨(l : List SGuess), _⟩ hp
  refine holds_of (X := .ob ((↑l.length : Int) = (↑l.length : Int) ∧
  (0 : Int) ≤ (↑l.length : Int) ∧
    (104 : Int) * (↑l.length : Int) ≤ (140737488355328 : Int) ∧ (↑l.length : Int) ≤ (140737488355328 : Int)) <|
 lpx (LtoS .guess l) ((0 : Int), (List.replicate (↑l.length : Int).toNat default, ())) fun (y2 : Int × List SGuess × PUnit) bk2 =>
 .br (decide (y2.fst < (↑l.length : Int)))
  (.ob ((0 : Int) ≤ y2.fst ∧ y2.fst < (↑l.length : Int)) <|
   .ob (ftoGuess.pre (l.getD y2.fst.toNat default, ())) <|
   .lt (SGuess × PUnit) (ftoGuess.fn (l.getD y2.fst.toNat default, ())) fun z2 =>
   .ob ((0 : Int) ≤ y2.fst ∧ y2.fst < (↑y2.snd.fst.length : Int)) <|
    .ob (y2.fst.toNat < y2.snd.fst.length) <|
    .lt (List SGuess) (y2.snd.fst.modify y2.fst.toNat fun z => z2.fst) fun z3 =>
    .ob (l = l) <|
     .ob (bk2 (IntKind.i64.wrap (y2.fst + (1 : Int)), (z3, ()))) <|
     .ok)
  (.leaf (mkR ftoGuessS.rs (y2.snd.fst, ())) [] [])) (by kernel_rfl) ?_
  refine ob_i ?_ fun o1 => lpx_i ?_ fun (y2 : Int × List SGuess × PUnit) i2 => br_i (fun h3 => ob_i ?_ fun o4 => ob_i ?_ fun o5 => lt_i (ob_i ?_ fun o6 => ob_i ?_ fun o7 => lt_i (ob_i rfl fun _ => ob_i ?_ fun o8 => trivial))) (fun h3 => Fct.leafY ?_)
  all_goals try simp only [decide_eq_true_eq, decide_eq_false_iff_not, Bool.not_eq_true', Bool.not_eq_false', bne_iff_ne, bne_eq_false_iff_eq, beq_iff_eq, beq_eq_false_iff_ne, baEq, Int.not_lt, Int.not_le, ne_eq, Decidable.not_not] at *
  all_goals try simp only [LtoS, ftoGuess, ftoGuessS, baSz, List.size_toArray, List.length_cons, List.length_nil, Nat.reduceAdd, Int.toNat_zero, List.drop_zero, decide_eq_true_eq, decide_eq_false_iff_not, Bool.not_eq_true', Bool.not_eq_false', bne_iff_ne, bne_eq_false_iff_eq, beq_iff_eq, beq_eq_false_iff_ne, Bool.not_eq_true, Bool.not_eq_false, ne_eq, Decidable.not_not, baEq, decide_not, Prod.mk.injEq, and_true, true_and, Room, List.nil_append, Nat.zero_add, Int.not_lt, Int.not_le] at *
  · have := szL_len szGuess l; omega
  · exact ⟨by omega, by omega, by simp⟩
  · omega
  · have hs := sum_take_le szGuess l (y2.1.toNat + 1)
    rw [sum_take szGuess (by omega)] at hs
    simp only [szL] at hp; omega
  · rw [i2.2.2]; simp; omega
  · rw [i2.2.2]; simp; omega
  · have hw : IntKind.i64.wrap (y2.1 + 1) = y2.1 + 1 := wrapId (by have := szL_len szGuess l; omega)
    rw [hw, toNat1 (by omega), i2.2.2]
    refine ⟨⟨by omega, by omega, ?_⟩, by omega⟩
    rw [show l.length - y2.1.toNat = (l.length - (y2.1.toNat + 1)) + 1 from by omega, List.replicate_succ, mod_at (by simp; omega), take_succ (by omega)]
    simp
  · have e : l.take y2.1.toNat = l := List.take_of_length_le (by omega)
    rw [i2.2.2, e]; simp; omega)
def E92 : D.Env := E91.add 38 ftoGuessS
theorem E92ok : EOk Tryz.prog E92 := E91ok.add k38_91
-- laws.eqGuessS
set_option maxHeartbeats 2000000 in
theorem k43_92 : feqGuessS.ok Tryz.prog 43 := Fct.of (S := feqGuessS) (L := fun ⟨l, m, _⟩ => fun | 4 => some (LeqS .guess l m) | _ => none) (kp := [0,1,4,5,10,14,26]) E92ok Tryz.func43 (by kernel_rfl) (by kernel_rfl) (by
  rintro ⟨(l : List SGuess), (m : List SGuess), _⟩ hp
  refine holds_of (X := .br ((↑l.length : Int) != (↑m.length : Int))
 (.leaf (mkR feqGuessS.rs (false, ())) [] [])
 (lpx (LeqS .guess l m) ((0 : Int), ()) fun (y2 : Int × PUnit) bk2 =>
  .br (decide (y2.fst < (↑l.length : Int)))
   (.ob ((0 : Int) ≤ y2.fst ∧ y2.fst < (↑l.length : Int)) <|
    .ob ((0 : Int) ≤ y2.fst ∧ y2.fst < (↑m.length : Int)) <|
    .ob (feqGuess.pre (l.getD y2.fst.toNat default, m.getD y2.fst.toNat default, ())) <|
    .lt (Bool × PUnit) (feqGuess.fn (l.getD y2.fst.toNat default, m.getD y2.fst.toNat default, ())) fun z2 =>
    .br (!z2.fst)
     (.leaf (mkR feqGuessS.rs (false, ())) [] [])
     (.ob (l = l) <|
      .ob (m = m) <|
      .ob (Value.bool ((↑l.length : Int) != (↑m.length : Int)) = Value.bool ((↑l.length : Int) != (↑m.length : Int))) <|
      .ob (bk2 (IntKind.i64.wrap (y2.fst + (1 : Int)), ())) <|
      .ok))
   (.leaf (mkR feqGuessS.rs (true, ())) [] []))) (by kernel_rfl) ?_
  refine br_i (fun h1 => Fct.leafY ?_) (fun h1 => lpx_i ?_ fun (y2 : Int × PUnit) i2 => br_i (fun h3 => ob_i ?_ fun o4 => ob_i ?_ fun o5 => ob_i trivial fun _ => lt_i (br_i (fun h6 => Fct.leafY ?_) (fun h6 => ob_i rfl fun _ => ob_i rfl fun _ => ob_i rfl fun _ => ob_i ?_ fun o7 => trivial))) (fun h3 => Fct.leafY ?_))
  all_goals try simp only [decide_eq_true_eq, decide_eq_false_iff_not, Bool.not_eq_true', Bool.not_eq_false', bne_iff_ne, bne_eq_false_iff_eq, beq_iff_eq, beq_eq_false_iff_ne, baEq, Int.not_lt, Int.not_le, ne_eq, Decidable.not_not] at *
  all_goals try simp only [LeqS, feqGuess, feqGuessS, baSz, List.size_toArray, List.length_cons, List.length_nil, Nat.reduceAdd, Int.toNat_zero, List.drop_zero, decide_eq_true_eq, decide_eq_false_iff_not, Bool.not_eq_true', Bool.not_eq_false', bne_iff_ne, bne_eq_false_iff_eq, beq_iff_eq, beq_eq_false_iff_ne, Bool.not_eq_true, Bool.not_eq_false, ne_eq, Decidable.not_not, baEq, decide_not, Prod.mk.injEq, and_true, true_and, Room, List.nil_append, Nat.zero_add, Int.not_lt, Int.not_le] at *
  · rw [decide_eq_false]; rintro rfl; omega
  · exact ⟨by omega, by omega, by simp⟩
  · omega
  · omega
  · rw [decide_eq_false]; rintro rfl; exact absurd rfl h6
  · have hw : IntKind.i64.wrap (y2.1 + 1) = y2.1 + 1 := wrapId (by omega)
    rw [hw, toNat1 (by omega)]
    refine ⟨⟨by omega, by omega, ?_⟩, by omega⟩
    rw [take_succ (by omega), take_succ (by omega), i2.2.2, h6]
  · have e : l.take y2.1.toNat = l := List.take_of_length_le (by omega)
    have e2 : m.take y2.1.toNat = m := List.take_of_length_le (by omega)
    rw [decide_eq_true]; rw [← e, ← e2, i2.2.2])
def E93 : D.Env := E92.add 43 feqGuessS
theorem E93ok : EOk Tryz.prog E93 := E92ok.add k43_92
-- laws.szConn
set_option maxHeartbeats 2000000 in
theorem k92_93 : fszConn.ok Tryz.prog 92 := Fct.of (S := fszConn) (L := fun _ _ => none) (kp := [0,1,2,4,10,16]) E93ok Tryz.func92 (by kernel_rfl) (by kernel_rfl) (by
  rintro ⟨(x : SConn), (n : Int), _⟩ hp
  refine holds_of (X := .ob (fszAddr.pre (x.to, n, ())) <|
 .lt (Int × PUnit) (fszAddr.fn (x.to, n, ())) fun z2 =>
 .br (decide (z2.fst < (0 : Int)))
  (.leaf (mkR fszConn.rs ((-1 : Int), ())) [] [])
  (.ob (fszResponse.pre (x.response, z2.fst, ())) <|
   .lt (Int × PUnit) (fszResponse.fn (x.response, z2.fst, ())) fun z3 =>
   .br (decide (z3.fst < (0 : Int)))
    (.leaf (mkR fszConn.rs ((-1 : Int), ())) [] [])
    (.leaf (mkR fszConn.rs (z3.fst, ())) [] []))) (by kernel_rfl) ?_
  refine ob_i ?_ fun o1 => lt_i (br_i (fun h2 => Fct.leafY ?_) (fun h2 => ob_i ?_ fun o3 => lt_i (br_i (fun h4 => Fct.leafY ?_) (fun h4 => Fct.leafY ?_))))
  all_goals try simp only [decide_eq_true_eq, decide_eq_false_iff_not, Bool.not_eq_true', Bool.not_eq_false', bne_iff_ne, bne_eq_false_iff_eq, beq_iff_eq, beq_eq_false_iff_ne, baEq, Int.not_lt, Int.not_le, ne_eq, Decidable.not_not] at *
  all_goals try simp only [fszAddr, fszConn, fszResponse, baSz, List.size_toArray, List.length_cons, List.length_nil, Nat.reduceAdd, Int.toNat_zero, List.drop_zero, decide_eq_true_eq, decide_eq_false_iff_not, Bool.not_eq_true', Bool.not_eq_false', bne_iff_ne, bne_eq_false_iff_eq, beq_iff_eq, beq_eq_false_iff_ne, Bool.not_eq_true, Bool.not_eq_false, ne_eq, Decidable.not_not, baEq, decide_not, Prod.mk.injEq, and_true, true_and, Room, List.nil_append, Nat.zero_add, Int.not_lt, Int.not_le, Sh.good, Sh.fc, enc, List.forall_mem_cons, List.not_mem_nil, false_implies, implies_true, goodC, maxLen] at *
  all_goals grind [wrapId', lessen, szAddr, szConn, szResponse])
def E94 : D.Env := E93.add 92 fszConn
theorem E94ok : EOk Tryz.prog E94 := E93ok.add k92_93
-- laws.toConn
theorem k105_94 : ftoConn.ok Tryz.prog 105 := Fct.of (S := ftoConn) (L := fun _ _ => none) (kp := [0,1,2,3]) E94ok Tryz.func105 (by kernel_rfl) (by kernel_rfl) (by
  rintro ⟨(x : SConn), _⟩ hp
  refine holds_of (X := .ob (ftoAddr.pre (x.to, ())) <|
 .lt (SAddr × PUnit) (ftoAddr.fn (x.to, ())) fun z2 =>
 .ob (ftoResponse.pre (x.response, ())) <|
  .lt (SResponse × PUnit) (ftoResponse.fn (x.response, ())) fun z3 =>
  .leaf (mkR ftoConn.rs (⟨z2.fst, x.left, x.guess, z3.fst⟩, ())) [] []) (by kernel_rfl) ?_
  refine ob_i ?_ fun o1 => lt_i (ob_i ?_ fun o2 => lt_i (Fct.leafY ?_))
  all_goals try simp only [decide_eq_true_eq, decide_eq_false_iff_not, Bool.not_eq_true', Bool.not_eq_false', bne_iff_ne, bne_eq_false_iff_eq, beq_iff_eq, beq_eq_false_iff_ne, baEq, Int.not_lt, Int.not_le, ne_eq, Decidable.not_not] at *
  all_goals try simp only [ftoAddr, ftoConn, ftoResponse, baSz, List.size_toArray, List.length_cons, List.length_nil, Nat.reduceAdd, Int.toNat_zero, List.drop_zero, decide_eq_true_eq, decide_eq_false_iff_not, Bool.not_eq_true', Bool.not_eq_false', bne_iff_ne, bne_eq_false_iff_eq, beq_iff_eq, beq_eq_false_iff_ne, Bool.not_eq_true, Bool.not_eq_false, ne_eq, Decidable.not_not, baEq, decide_not, Prod.mk.injEq, and_true, true_and, Room, List.nil_append, Nat.zero_add, Int.not_lt, Int.not_le] at *
  all_goals first | trivial | rfl | grind [szAddr, szConn, szResponse])
def E95 : D.Env := E94.add 105 ftoConn
theorem E95ok : EOk Tryz.prog E95 := E94ok.add k105_94
-- laws.eqConn
set_option maxHeartbeats 2000000 in
theorem k110_95 : feqConn.ok Tryz.prog 110 := Fct.of (S := feqConn) (L := fun _ _ => none) (kp := [0,1,2,3,4,10,15,20,26]) E95ok Tryz.func110 (by kernel_rfl) (by kernel_rfl) (by
  rintro ⟨(x : SConn), (y : SConn), _⟩ hp
  refine holds_of (X := .ob (feqAddr.pre (x.to, y.to, ())) <|
 .lt (Bool × PUnit) (feqAddr.fn (x.to, y.to, ())) fun z2 =>
 .br (!z2.fst)
  (.leaf (mkR feqConn.rs (false, ())) [] [])
  (.br (x.left != y.left)
   (.leaf (mkR feqConn.rs (false, ())) [] [])
   (.br (!x.guess == y.guess)
    (.leaf (mkR feqConn.rs (false, ())) [] [])
    (.ob (feqResponse.pre (x.response, y.response, ())) <|
     .lt (Bool × PUnit) (feqResponse.fn (x.response, y.response, ())) fun z3 =>
     .br (!z3.fst)
      (.leaf (mkR feqConn.rs (false, ())) [] [])
      (.leaf (mkR feqConn.rs (true, ())) [] []))))) (by kernel_rfl) ?_
  refine ob_i trivial fun _ => lt_i (br_i (fun h1 => Fct.leafY ?_) (fun h1 => br_i (fun h2 => Fct.leafY ?_) (fun h2 => br_i (fun h3 => Fct.leafY ?_) (fun h3 => ob_i trivial fun _ => lt_i (br_i (fun h4 => Fct.leafY ?_) (fun h4 => Fct.leafY ?_))))))
  all_goals try simp only [decide_eq_true_eq, decide_eq_false_iff_not, Bool.not_eq_true', Bool.not_eq_false', bne_iff_ne, bne_eq_false_iff_eq, beq_iff_eq, beq_eq_false_iff_ne, baEq, Int.not_lt, Int.not_le, ne_eq, Decidable.not_not] at *
  all_goals try simp only [feqAddr, feqConn, feqResponse, baSz, List.size_toArray, List.length_cons, List.length_nil, Nat.reduceAdd, Int.toNat_zero, List.drop_zero, decide_eq_true_eq, decide_eq_false_iff_not, Bool.not_eq_true', Bool.not_eq_false', bne_iff_ne, bne_eq_false_iff_eq, beq_iff_eq, beq_eq_false_iff_ne, Bool.not_eq_true, Bool.not_eq_false, ne_eq, Decidable.not_not, baEq, decide_not, Prod.mk.injEq, and_true, true_and, Room, List.nil_append, Nat.zero_add, Int.not_lt, Int.not_le] at *
  all_goals first | trivial | (cases x; cases y; simp_all; done) | (simp only [szAddr, szConn, szResponse] at *; omega) | grind [szAddr, szConn, szResponse])
def E96 : D.Env := E95.add 110 feqConn
theorem E96ok : EOk Tryz.prog E96 := E95ok.add k110_95
-- laws.szConnS
set_option maxHeartbeats 2000000 in
theorem k31_96 : fszConnS.ok Tryz.prog 31 := Fct.of (S := fszConnS) (L := fun ⟨l, n, _⟩ => fun | 5 => some (LszS .conn szConn l n) | _ => none) (kp := [0,1,4,5,11,15,25]) E96ok Tryz.func31 (by kernel_rfl) (by kernel_rfl) (by
  rintro ⟨(l : List SConn), (n : Int), _⟩ hp
  refine holds_of (X := .br (decide (IntKind.i64.wrap (n - (↑l.length : Int)) < (0 : Int)))
 (.leaf (mkR fszConnS.rs ((-1 : Int), ())) [] [])
 (lpx (LszS .conn szConn l n) (IntKind.i64.wrap (n - (↑l.length : Int)), ((0 : Int), ())) fun (y2 : Int × Int × PUnit) bk2 =>
  .br (decide (y2.snd.fst < (↑l.length : Int)))
   (.ob ((0 : Int) ≤ y2.snd.fst ∧ y2.snd.fst < (↑l.length : Int)) <|
    .ob (fszConn.pre (l.getD y2.snd.fst.toNat default, y2.fst, ())) <|
    .lt (Int × PUnit) (fszConn.fn (l.getD y2.snd.fst.toNat default, y2.fst, ())) fun z2 =>
    .br (decide (z2.fst < (0 : Int)))
     (.leaf (mkR fszConnS.rs ((-1 : Int), ())) [] [])
     (.ob (l = l) <|
      .ob (Value.bool (decide (IntKind.i64.wrap (n - (↑l.length : Int)) < (0 : Int))) =
  Value.bool (decide (IntKind.i64.wrap (n - (↑l.length : Int)) < (0 : Int)))) <|
      .ob (bk2 (z2.fst, (IntKind.i64.wrap (y2.snd.fst + (1 : Int)), ()))) <|
      .ok))
   (.leaf (mkR fszConnS.rs (y2.fst, ())) [] []))) (by kernel_rfl) ?_
  refine br_i (fun h1 => Fct.leafY ?_) (fun h1 => lpx_i ?_ fun (y2 : Int × Int × PUnit) i2 => br_i (fun h3 => ob_i ?_ fun o4 => ob_i ?_ fun o5 => lt_i (br_i (fun h6 => Fct.leafY ?_) (fun h6 => ob_i rfl fun _ => ob_i rfl fun _ => ob_i ?_ fun o7 => trivial))) (fun h3 => Fct.leafY ?_))
  all_goals try simp only [decide_eq_true_eq, decide_eq_false_iff_not, Bool.not_eq_true', Bool.not_eq_false', bne_iff_ne, bne_eq_false_iff_eq, beq_iff_eq, beq_eq_false_iff_ne, baEq, Int.not_lt, Int.not_le, ne_eq, Decidable.not_not] at *
  all_goals try simp only [LszS, fszConn, fszConnS, baSz, List.size_toArray, List.length_cons, List.length_nil, Nat.reduceAdd, Int.toNat_zero, List.drop_zero, decide_eq_true_eq, decide_eq_false_iff_not, Bool.not_eq_true', Bool.not_eq_false', bne_iff_ne, bne_eq_false_iff_eq, beq_iff_eq, beq_eq_false_iff_ne, Bool.not_eq_true, Bool.not_eq_false, ne_eq, Decidable.not_not, baEq, decide_not, Prod.mk.injEq, and_true, true_and, Room, List.nil_append, Nat.zero_add, Int.not_lt, Int.not_le] at *
  · have := good_len hp.1; simp only [maxLen] at this; rw [wrapId (by omega)] at h1
    rw [lessenNeg (by simp only [szL]; omega)]
  · have := good_len hp.1; simp only [maxLen] at this
    rw [wrapId (by omega)] at h1 ⊢
    exact ⟨by omega, by omega, h1, by simp⟩
  · omega
  · exact ⟨good_getD hp.1 (by omega), by omega, by omega⟩
  · have hs := sum_take_le szConn l (y2.2.1.toNat + 1)
    rw [sum_take szConn (by omega)] at hs
    rw [lessen_lt (by omega)] at h6
    rw [lessenNeg (by simp only [szL]; omega)]
  · have hw : IntKind.i64.wrap (y2.2.1 + 1) = y2.2.1 + 1 := wrapId (by have := good_len hp.1; simp only [maxLen] at this; omega)
    have h7 : ¬ lessen y2.1 (szConn (l.getD y2.2.1.toNat default)) < 0 := by omega
    rw [lessen_lt (by omega)] at h7
    rw [hw, toNat1 (by omega), sum_take szConn (by omega), lessen_ge (by omega)]
    exact ⟨⟨by omega, by omega, by omega, by omega⟩, by omega⟩
  · have e : l.take y2.2.1.toNat = l := List.take_of_length_le (by omega)
    rw [e] at i2
    have hz : ((szL szConn l : Nat) : Int) = l.length + (l.map szConn).sum := by simp only [szL]; omega
    rw [lessen_ge (by omega)]
    show y2.1 = n - ((szL szConn l : Nat) : Int)
    omega)
def E97 : D.Env := E96.add 31 fszConnS
theorem E97ok : EOk Tryz.prog E97 := E96ok.add k31_96
-- laws.toConnS
theorem k37_97 : ftoConnS.ok Tryz.prog 37 := Fct.of (S := ftoConnS) (L := fun ⟨l, _⟩ => fun | 3 => some (LtoS .conn l) | _ => none) (kp := [0,2,3,4,11]) E97ok Tryz.func37 (by kernel_rfl) (by kernel_rfl) (by
  rintro ⟨(l : List SConn), _⟩ hp
  refine holds_of (X := .ob ((↑l.length : Int) = (↑l.length : Int) ∧
  (0 : Int) ≤ (↑l.length : Int) ∧
    (112 : Int) * (↑l.length : Int) ≤ (140737488355328 : Int) ∧ (↑l.length : Int) ≤ (140737488355328 : Int)) <|
 lpx (LtoS .conn l) ((0 : Int), (List.replicate (↑l.length : Int).toNat default, ())) fun (y2 : Int × List SConn × PUnit) bk2 =>
 .br (decide (y2.fst < (↑l.length : Int)))
  (.ob ((0 : Int) ≤ y2.fst ∧ y2.fst < (↑l.length : Int)) <|
   .ob (ftoConn.pre (l.getD y2.fst.toNat default, ())) <|
   .lt (SConn × PUnit) (ftoConn.fn (l.getD y2.fst.toNat default, ())) fun z2 =>
   .ob ((0 : Int) ≤ y2.fst ∧ y2.fst < (↑y2.snd.fst.length : Int)) <|
    .ob (y2.fst.toNat < y2.snd.fst.length) <|
    .lt (List SConn) (y2.snd.fst.modify y2.fst.toNat fun z => z2.fst) fun z3 =>
    .ob (l = l) <|
     .ob (bk2 (IntKind.i64.wrap (y2.fst + (1 : Int)), (z3, ()))) <|
     .ok)
  (.leaf (mkR ftoConnS.rs (y2.snd.fst, ())) [] [])) (by kernel_rfl) ?_
  refine ob_i ?_ fun o1 => lpx_i ?_ fun (y2 : Int × List SConn × PUnit) i2 => br_i (fun h3 => ob_i ?_ fun o4 => ob_i ?_ fun o5 => lt_i (ob_i ?_ fun o6 => ob_i ?_ fun o7 => lt_i (ob_i rfl fun _ => ob_i ?_ fun o8 => trivial))) (fun h3 => Fct.leafY ?_)
  all_goals try simp only [decide_eq_true_eq, decide_eq_false_iff_not, Bool.not_eq_true', Bool.not_eq_false', bne_iff_ne, bne_eq_false_iff_eq, beq_iff_eq, beq_eq_false_iff_ne, baEq, Int.not_lt, Int.not_le, ne_eq, Decidable.not_not] at *
  all_goals try simp only [LtoS, ftoConn, ftoConnS, baSz, List.size_toArray, List.length_cons, List.length_nil, Nat.reduceAdd, Int.toNat_zero, List.drop_zero, decide_eq_true_eq, decide_eq_false_iff_not, Bool.not_eq_true', Bool.not_eq_false', bne_iff_ne, bne_eq_false_iff_eq, beq_iff_eq, beq_eq_false_iff_ne, Bool.not_eq_true, Bool.not_eq_false, ne_eq, Decidable.not_not, baEq, decide_not, Prod.mk.injEq, and_true, true_and, Room, List.nil_append, Nat.zero_add, Int.not_lt, Int.not_le] at *
  · have := szL_len szConn l; omega
  · exact ⟨by omega, by omega, by simp⟩
  · omega
  · have hs := sum_take_le szConn l (y2.1.toNat + 1)
    rw [sum_take szConn (by omega)] at hs
    simp only [szL] at hp; omega
  · rw [i2.2.2]; simp; omega
  · rw [i2.2.2]; simp; omega
  · have hw : IntKind.i64.wrap (y2.1 + 1) = y2.1 + 1 := wrapId (by have := szL_len szConn l; omega)
    rw [hw, toNat1 (by omega), i2.2.2]
    refine ⟨⟨by omega, by omega, ?_⟩, by omega⟩
    rw [show l.length - y2.1.toNat = (l.length - (y2.1.toNat + 1)) + 1 from by omega, List.replicate_succ, mod_at (by simp; omega), take_succ (by omega)]
    simp
  · have e : l.take y2.1.toNat = l := List.take_of_length_le (by omega)
    rw [i2.2.2, e]; simp; omega)
def E98 : D.Env := E97.add 37 ftoConnS
theorem E98ok : EOk Tryz.prog E98 := E97ok.add k37_97
-- laws.eqConnS
set_option maxHeartbeats 2000000 in
theorem k42_98 : feqConnS.ok Tryz.prog 42 := Fct.of (S := feqConnS) (L := fun ⟨l, m, _⟩ => fun | 4 => some (LeqS .conn l m) | _ => none) (kp := [0,1,4,5,10,14,26]) E98ok Tryz.func42 (by kernel_rfl) (by kernel_rfl) (by
  rintro ⟨(l : List SConn), (m : List SConn), _⟩ hp
  refine holds_of (X := .br ((↑l.length : Int) != (↑m.length : Int))
 (.leaf (mkR feqConnS.rs (false, ())) [] [])
 (lpx (LeqS .conn l m) ((0 : Int), ()) fun (y2 : Int × PUnit) bk2 =>
  .br (decide (y2.fst < (↑l.length : Int)))
   (.ob ((0 : Int) ≤ y2.fst ∧ y2.fst < (↑l.length : Int)) <|
    .ob ((0 : Int) ≤ y2.fst ∧ y2.fst < (↑m.length : Int)) <|
    .ob (feqConn.pre (l.getD y2.fst.toNat default, m.getD y2.fst.toNat default, ())) <|
    .lt (Bool × PUnit) (feqConn.fn (l.getD y2.fst.toNat default, m.getD y2.fst.toNat default, ())) fun z2 =>
    .br (!z2.fst)
     (.leaf (mkR feqConnS.rs (false, ())) [] [])
     (.ob (l = l) <|
      .ob (m = m) <|
      .ob (Value.bool ((↑l.length : Int) != (↑m.length : Int)) = Value.bool ((↑l.length : Int) != (↑m.length : Int))) <|
      .ob (bk2 (IntKind.i64.wrap (y2.fst + (1 : Int)), ())) <|
      .ok))
   (.leaf (mkR feqConnS.rs (true, ())) [] []))) (by kernel_rfl) ?_
  refine br_i (fun h1 => Fct.leafY ?_) (fun h1 => lpx_i ?_ fun (y2 : Int × PUnit) i2 => br_i (fun h3 => ob_i ?_ fun o4 => ob_i ?_ fun o5 => ob_i trivial fun _ => lt_i (br_i (fun h6 => Fct.leafY ?_) (fun h6 => ob_i rfl fun _ => ob_i rfl fun _ => ob_i rfl fun _ => ob_i ?_ fun o7 => trivial))) (fun h3 => Fct.leafY ?_))
  all_goals try simp only [decide_eq_true_eq, decide_eq_false_iff_not, Bool.not_eq_true', Bool.not_eq_false', bne_iff_ne, bne_eq_false_iff_eq, beq_iff_eq, beq_eq_false_iff_ne, baEq, Int.not_lt, Int.not_le, ne_eq, Decidable.not_not] at *
  all_goals try simp only [LeqS, feqConn, feqConnS, baSz, List.size_toArray, List.length_cons, List.length_nil, Nat.reduceAdd, Int.toNat_zero, List.drop_zero, decide_eq_true_eq, decide_eq_false_iff_not, Bool.not_eq_true', Bool.not_eq_false', bne_iff_ne, bne_eq_false_iff_eq, beq_iff_eq, beq_eq_false_iff_ne, Bool.not_eq_true, Bool.not_eq_false, ne_eq, Decidable.not_not, baEq, decide_not, Prod.mk.injEq, and_true, true_and, Room, List.nil_append, Nat.zero_add, Int.not_lt, Int.not_le] at *
  · rw [decide_eq_false]; rintro rfl; omega
  · exact ⟨by omega, by omega, by simp⟩
  · omega
  · omega
  · rw [decide_eq_false]; rintro rfl; exact absurd rfl h6
  · have hw : IntKind.i64.wrap (y2.1 + 1) = y2.1 + 1 := wrapId (by omega)
    rw [hw, toNat1 (by omega)]
    refine ⟨⟨by omega, by omega, ?_⟩, by omega⟩
    rw [take_succ (by omega), take_succ (by omega), i2.2.2, h6]
  · have e : l.take y2.1.toNat = l := List.take_of_length_le (by omega)
    have e2 : m.take y2.1.toNat = m := List.take_of_length_le (by omega)
    rw [decide_eq_true]; rw [← e, ← e2, i2.2.2])
def E99 : D.Env := E98.add 42 feqConnS
theorem E99ok : EOk Tryz.prog E99 := E98ok.add k42_98
-- laws.szLoader
set_option maxHeartbeats 2000000 in
theorem k8_99 : fszLoader.ok Tryz.prog 8 := Fct.of (S := fszLoader) (L := fun _ _ => none) (kp := [0,1,2,4,10,16,22,28,34]) E99ok Tryz.func8 (by kernel_rfl) (by kernel_rfl) (by
  rintro ⟨(x : SLoader), (n : Int), _⟩ hp
  refine holds_of (X := .ob (fszNet.pre (x.net, n, ())) <|
 .lt (Int × PUnit) (fszNet.fn (x.net, n, ())) fun z2 =>
 .br (decide (z2.fst < (0 : Int)))
  (.leaf (mkR fszLoader.rs ((-1 : Int), ())) [] [])
  (.ob (fszPage.pre (x.page, z2.fst, ())) <|
   .lt (Int × PUnit) (fszPage.fn (x.page, z2.fst, ())) fun z3 =>
   .br (decide (z3.fst < (0 : Int)))
    (.leaf (mkR fszLoader.rs ((-1 : Int), ())) [] [])
    (.ob (fszStringS.pre (x.parts, z3.fst, ())) <|
     .lt (Int × PUnit) (fszStringS.fn (x.parts, z3.fst, ())) fun z4 =>
     .br (decide (z4.fst < (0 : Int)))
      (.leaf (mkR fszLoader.rs ((-1 : Int), ())) [] [])
      (.ob (fszConnS.pre (x.conns, z4.fst, ())) <|
       .lt (Int × PUnit) (fszConnS.fn (x.conns, z4.fst, ())) fun z5 =>
       .br (decide (z5.fst < (0 : Int)))
        (.leaf (mkR fszLoader.rs ((-1 : Int), ())) [] [])
        (.ob (fszGuessS.pre (x.guesses, z5.fst, ())) <|
         .lt (Int × PUnit) (fszGuessS.fn (x.guesses, z5.fst, ())) fun z6 =>
         .br (decide (z6.fst < (0 : Int)))
          (.leaf (mkR fszLoader.rs ((-1 : Int), ())) [] [])
          (.leaf (mkR fszLoader.rs (z6.fst, ())) [] [])))))) (by kernel_rfl) ?_
  refine ob_i ?_ fun o1 => lt_i (br_i (fun h2 => Fct.leafY ?_) (fun h2 => ob_i ?_ fun o3 => lt_i (br_i (fun h4 => Fct.leafY ?_) (fun h4 => ob_i ?_ fun o5 => lt_i (br_i (fun h6 => Fct.leafY ?_) (fun h6 => ob_i ?_ fun o7 => lt_i (br_i (fun h8 => Fct.leafY ?_) (fun h8 => ob_i ?_ fun o9 => lt_i (br_i (fun h10 => Fct.leafY ?_) (fun h10 => Fct.leafY ?_))))))))))
  all_goals try simp only [decide_eq_true_eq, decide_eq_false_iff_not, Bool.not_eq_true', Bool.not_eq_false', bne_iff_ne, bne_eq_false_iff_eq, beq_iff_eq, beq_eq_false_iff_ne, baEq, Int.not_lt, Int.not_le, ne_eq, Decidable.not_not] at *
  all_goals try simp only [fszConnS, fszGuessS, fszLoader, fszNet, fszPage, fszStringS, baSz, List.size_toArray, List.length_cons, List.length_nil, Nat.reduceAdd, Int.toNat_zero, List.drop_zero, decide_eq_true_eq, decide_eq_false_iff_not, Bool.not_eq_true', Bool.not_eq_false', bne_iff_ne, bne_eq_false_iff_eq, beq_iff_eq, beq_eq_false_iff_ne, Bool.not_eq_true, Bool.not_eq_false, ne_eq, Decidable.not_not, baEq, decide_not, Prod.mk.injEq, and_true, true_and, Room, List.nil_append, Nat.zero_add, Int.not_lt, Int.not_le, Sh.good, Sh.fc, enc, List.forall_mem_cons, List.not_mem_nil, false_implies, implies_true, goodC, maxLen] at *
  all_goals grind [wrapId', lessen, szL, szLoader, szNet, szPage])
def E100 : D.Env := E99.add 8 fszLoader
theorem E100ok : EOk Tryz.prog E100 := E99ok.add k8_99
-- laws.toLoader
theorem k10_100 : ftoLoader.ok Tryz.prog 10 := Fct.of (S := ftoLoader) (L := fun _ _ => none) (kp := [0,1,2,3]) E100ok Tryz.func10 (by kernel_rfl) (by kernel_rfl) (by
  rintro ⟨(x : SLoader), _⟩ hp
  refine holds_of (X := .ob (ftoNet.pre (x.net, ())) <|
 .lt (SNet × PUnit) (ftoNet.fn (x.net, ())) fun z2 =>
 .ob (ftoPage.pre (x.page, ())) <|
  .lt (SPage × PUnit) (ftoPage.fn (x.page, ())) fun z3 =>
  .ob (ftoStringS.pre (x.parts, ())) <|
   .lt (List ByteArray × PUnit) (ftoStringS.fn (x.parts, ())) fun z4 =>
   .ob (ftoConnS.pre (x.conns, ())) <|
    .lt (List SConn × PUnit) (ftoConnS.fn (x.conns, ())) fun z5 =>
    .ob (ftoGuessS.pre (x.guesses, ())) <|
     .lt (List SGuess × PUnit) (ftoGuessS.fn (x.guesses, ())) fun z6 =>
     .leaf (mkR ftoLoader.rs (⟨z2.fst, z3.fst, z4.fst, z5.fst, z6.fst⟩, ())) [] []) (by kernel_rfl) ?_
  refine ob_i ?_ fun o1 => lt_i (ob_i ?_ fun o2 => lt_i (ob_i ?_ fun o3 => lt_i (ob_i ?_ fun o4 => lt_i (ob_i ?_ fun o5 => lt_i (Fct.leafY ?_)))))
  all_goals try simp only [decide_eq_true_eq, decide_eq_false_iff_not, Bool.not_eq_true', Bool.not_eq_false', bne_iff_ne, bne_eq_false_iff_eq, beq_iff_eq, beq_eq_false_iff_ne, baEq, Int.not_lt, Int.not_le, ne_eq, Decidable.not_not] at *
  all_goals try simp only [ftoConnS, ftoGuessS, ftoLoader, ftoNet, ftoPage, ftoStringS, baSz, List.size_toArray, List.length_cons, List.length_nil, Nat.reduceAdd, Int.toNat_zero, List.drop_zero, decide_eq_true_eq, decide_eq_false_iff_not, Bool.not_eq_true', Bool.not_eq_false', bne_iff_ne, bne_eq_false_iff_eq, beq_iff_eq, beq_eq_false_iff_ne, Bool.not_eq_true, Bool.not_eq_false, ne_eq, Decidable.not_not, baEq, decide_not, Prod.mk.injEq, and_true, true_and, Room, List.nil_append, Nat.zero_add, Int.not_lt, Int.not_le] at *
  all_goals first | trivial | rfl | grind [szL, szLoader, szNet, szPage])
def E101 : D.Env := E100.add 10 ftoLoader
theorem E101ok : EOk Tryz.prog E101 := E100ok.add k10_100
-- laws.eqLoader
set_option maxHeartbeats 2000000 in
theorem k12_101 : feqLoader.ok Tryz.prog 12 := Fct.of (S := feqLoader) (L := fun _ _ => none) (kp := [0,1,2,3,4,10,16,22,28,34]) E101ok Tryz.func12 (by kernel_rfl) (by kernel_rfl) (by
  rintro ⟨(x : SLoader), (y : SLoader), _⟩ hp
  refine holds_of (X := .ob (feqNet.pre (x.net, y.net, ())) <|
 .lt (Bool × PUnit) (feqNet.fn (x.net, y.net, ())) fun z2 =>
 .br (!z2.fst)
  (.leaf (mkR feqLoader.rs (false, ())) [] [])
  (.ob (feqPage.pre (x.page, y.page, ())) <|
   .lt (Bool × PUnit) (feqPage.fn (x.page, y.page, ())) fun z3 =>
   .br (!z3.fst)
    (.leaf (mkR feqLoader.rs (false, ())) [] [])
    (.ob (feqStringS.pre (x.parts, y.parts, ())) <|
     .lt (Bool × PUnit) (feqStringS.fn (x.parts, y.parts, ())) fun z4 =>
     .br (!z4.fst)
      (.leaf (mkR feqLoader.rs (false, ())) [] [])
      (.ob (feqConnS.pre (x.conns, y.conns, ())) <|
       .lt (Bool × PUnit) (feqConnS.fn (x.conns, y.conns, ())) fun z5 =>
       .br (!z5.fst)
        (.leaf (mkR feqLoader.rs (false, ())) [] [])
        (.ob (feqGuessS.pre (x.guesses, y.guesses, ())) <|
         .lt (Bool × PUnit) (feqGuessS.fn (x.guesses, y.guesses, ())) fun z6 =>
         .br (!z6.fst)
          (.leaf (mkR feqLoader.rs (false, ())) [] [])
          (.leaf (mkR feqLoader.rs (true, ())) [] [])))))) (by kernel_rfl) ?_
  refine ob_i ?_ fun o1 => lt_i (br_i (fun h2 => Fct.leafY ?_) (fun h2 => ob_i ?_ fun o3 => lt_i (br_i (fun h4 => Fct.leafY ?_) (fun h4 => ob_i ?_ fun o5 => lt_i (br_i (fun h6 => Fct.leafY ?_) (fun h6 => ob_i ?_ fun o7 => lt_i (br_i (fun h8 => Fct.leafY ?_) (fun h8 => ob_i ?_ fun o9 => lt_i (br_i (fun h10 => Fct.leafY ?_) (fun h10 => Fct.leafY ?_))))))))))
  all_goals try simp only [decide_eq_true_eq, decide_eq_false_iff_not, Bool.not_eq_true', Bool.not_eq_false', bne_iff_ne, bne_eq_false_iff_eq, beq_iff_eq, beq_eq_false_iff_ne, baEq, Int.not_lt, Int.not_le, ne_eq, Decidable.not_not] at *
  all_goals try simp only [feqConnS, feqGuessS, feqLoader, feqNet, feqPage, feqStringS, baSz, List.size_toArray, List.length_cons, List.length_nil, Nat.reduceAdd, Int.toNat_zero, List.drop_zero, decide_eq_true_eq, decide_eq_false_iff_not, Bool.not_eq_true', Bool.not_eq_false', bne_iff_ne, bne_eq_false_iff_eq, beq_iff_eq, beq_eq_false_iff_ne, Bool.not_eq_true, Bool.not_eq_false, ne_eq, Decidable.not_not, baEq, decide_not, Prod.mk.injEq, and_true, true_and, Room, List.nil_append, Nat.zero_add, Int.not_lt, Int.not_le] at *
  all_goals first | trivial | (cases x; cases y; simp_all; done) | (simp only [szL, szLoader, szNet, szPage] at *; omega) | grind [szL, szLoader, szNet, szPage])
def E102 : D.Env := E101.add 12 feqLoader
theorem E102ok : EOk Tryz.prog E102 := E101ok.add k12_101
def isOwnGuess (s : SSent) : Bool := !s.guess || decide (s.to.host = s.top)
def fIsOwnGuess : Fct := ⟨[aE .sent], [rB], fun _ => True, fun x => (isOwnGuess x.1, ())⟩
def lSent : Fct := lawFS [.el .sent]
def countGuess : List SConn → Nat
  | [] => 0
  | c :: l => countGuess l + (if c.guess then 1 else 0)
theorem countGuess_app (l : List SConn) (c : SConn) : countGuess (l ++ [c]) = countGuess l + (if c.guess then 1 else 0) := by
  induction l with
  | nil => simp [countGuess]
  | cons d l ih => simp only [List.cons_append, countGuess, ih]; omega
theorem countGuess_take {l : List SConn} {i : Nat} (h : i < l.length) : countGuess (l.take (i + 1)) = countGuess (l.take i) + (if (l.getD i default).guess then 1 else 0) := by rw [take_succ h, countGuess_app]
theorem countGuess_le (l : List SConn) : countGuess l ≤ l.length := by
  induction l with
  | nil => simp [countGuess]
  | cons d l ih => simp only [countGuess, List.length_cons]; split <;> omega
def fCount : Fct := ⟨[aL .conn], [rI], fun x => Sh.good (.sl .conn) x.1, fun x => ((countGuess x.1 : Int), ())⟩
abbrev Lcount (n i : Nat) (l : List SConn) : LInv := ⟨[⟨.s, n, true, .el .int⟩, ⟨.s, i, true, .el .int⟩], fun _ (x : Int × Int × Unit) => 0 ≤ x.2.1 ∧ x.2.1 ≤ l.length ∧ x.1 = countGuess (l.take x.2.1.toNat), fun (x : Int × Int × Unit) => l.length - x.2.1.toNat⟩
def findConn (a : SAddr) : List SConn → Int → Int
  | [], _ => -1
  | c :: l, i => if c.to = a then i else findConn a l (i + 1)
theorem findConn_at {a : SAddr} {l : List SConn} {i : Nat} {z : Int} (h : i < l.length) : findConn a (l.drop i) z = if (l.getD i default).to = a then z else findConn a (l.drop (i + 1)) (z + 1) := by rw [drop_cons h]; rfl
theorem findConn_end {a : SAddr} {l : List SConn} {i : Nat} {z : Int} (h : l.length ≤ i) : findConn a (l.drop i) z = -1 := by rw [List.drop_of_length_le h]; rfl
theorem addrEq (x y : SAddr) : (x.host == y.host && (x.path == y.path && true)) = decide (x = y) := beqAddr x y
def fFind : Fct := ⟨[aL .conn, aE .addr], [rI], fun x => Sh.good (.sl .conn) x.1, fun x => (findConn x.2.1 x.1 0, ())⟩
abbrev Lfind (l : List SConn) (a : SAddr) : LInv := ⟨[⟨.s, 5, true, .el .int⟩, ⟨.b, 3, true, .el .addr⟩], fun _ (x : Int × SAddr × Unit) => 0 ≤ x.1 ∧ x.1 ≤ l.length ∧ x.2.1 = a ∧ findConn a l 0 = findConn a (l.drop x.1.toNat) x.1, fun (x : Int × SAddr × Unit) => l.length - x.1.toNat⟩
def fFind1 : Fct := ⟨[aE .conn, .p (.el .addr)], [rB], fun _ => True, fun x => (decide (x.1.to = x.2.1), ())⟩
def fIdxFind : Fct := ⟨[aL .conn, .c 0 [.el .addr]], [rI], fun x => Sh.good (.sl .conn) x.1, fun x => (findConn x.2.1.1 x.1 0, ())⟩
abbrev Lidx (l : List SConn) (F : List SConn → Int → Int) : LInv := ⟨[⟨.s, 8, true, .el .int⟩], fun _ (x : Int × Unit) => 0 ≤ x.1 ∧ x.1 ≤ l.length ∧ F l 0 = F (l.drop x.1.toNat) x.1, fun (x : Int × Unit) => l.length - x.1.toNat⟩
abbrev Lidxf (l : List SConn) (a : SAddr × Unit) : LInv := Lidx l (findConn a.1)
def firstDone : List SConn → Int → Int
  | [], _ => -1
  | c :: l, i => if c.left ≤ 0 then i else firstDone l (i + 1)
theorem firstDone_at {l : List SConn} {i : Nat} {z : Int} (h : i < l.length) : firstDone (l.drop i) z = if (l.getD i default).left ≤ 0 then z else firstDone (l.drop (i + 1)) (z + 1) := by rw [drop_cons h]; rfl
theorem firstDone_end {l : List SConn} {i : Nat} {z : Int} (h : l.length ≤ i) : firstDone (l.drop i) z = -1 := by rw [List.drop_of_length_le h]; rfl
def fFirst : Fct := ⟨[aL .conn], [rI], fun x => Sh.good (.sl .conn) x.1, fun x => (firstDone x.1 0, ())⟩
abbrev Lfirst (l : List SConn) : LInv := ⟨[⟨.s, 3, true, .el .int⟩], fun _ (x : Int × Unit) => 0 ≤ x.1 ∧ x.1 ≤ l.length ∧ firstDone l 0 = firstDone (l.drop x.1.toNat) x.1, fun (x : Int × Unit) => l.length - x.1.toNat⟩
def fFirst1 : Fct := ⟨[aE .conn], [rB], fun _ => True, fun x => (decide (x.1.left ≤ 0), ())⟩
def fIdxFirst : Fct := ⟨[aL .conn, .c 0 []], [rI], fun x => Sh.good (.sl .conn) x.1, fun x => (firstDone x.1 0, ())⟩
def lConnS : Fct := lawFS [.sl .conn]
def lConnSAddr : Fct := lawFS [.sl .conn, .el .addr]
def inRange (n lo hi : Int) : Bool := decide (lo ≤ n) && decide (n ≤ hi)
def fInRange : Fct := ⟨[aI, aI, aI], [rB], fun _ => True, fun (x : Int × Int × Int × Unit) => (inRange x.1 x.2.1 x.2.2.1, ())⟩
def fMax : Fct := ⟨[aI, aI], [rI], fun _ => True, fun (x : Int × Int × Unit) => (max x.1 x.2.1, ())⟩
def fCopyConns : Fct := ⟨[aL .conn], [rL .conn], fun (x : List SConn × Unit) => x.1.length ≤ 1048576, fun (x : List SConn × Unit) => (x.1, ())⟩
def moveOne (b : Int) (c : SConn) : SConn := { c with left := max 0 (IntKind.i64.wrap (c.left - b)) }
def moveConns (l : List SConn) (b : Int) : List SConn := if inRange b 0 1000 then l.map (moveOne b) else l
def fMove : Fct := ⟨[aL .conn, aI], [rL .conn], fun (x : List SConn × Int × Unit) => x.1.length ≤ 1048576, fun (x : List SConn × Int × Unit) => (moveConns x.1 x.2.1, ())⟩
abbrev L45 (l : List SConn) (b : Int) : LInv := ⟨[⟨.s, 6, true, .el .int⟩, ⟨.s, 5, true, .sl .conn⟩], fun _ (x : Int × List SConn × Unit) => 0 ≤ x.1 ∧ x.1 ≤ l.length ∧ x.2.1 = moveConns (l.take x.1.toNat) b ++ l.drop x.1.toNat, fun (x : Int × List SConn × Unit) => l.length - x.1.toNat⟩
theorem moveConns_len (l : List SConn) (b : Int) : (moveConns l b).length = l.length := by unfold moveConns; split <;> simp
theorem moveConns_nil (b : Int) : moveConns [] b = [] := by unfold moveConns; split <;> rfl
theorem moveConns_step {l : List SConn} {b : Int} {i : Nat} (hb : inRange b 0 1000 = true) (h : i < l.length) {g : SConn → SConn} (hg : g (l.getD i default) = moveOne b (l.getD i default)) : (moveConns (l.take i) b ++ l.drop i).modify i g = moveConns (l.take (i + 1)) b ++ l.drop (i + 1) := by
  rw [drop_cons h, mod_at (by rw [moveConns_len, List.length_take]; omega), take_succ h]
  simp only [moveConns, hb, if_true, List.map_append, List.map_cons, List.map_nil, List.append_assoc, List.cons_append, List.nil_append, hg]
theorem moveConns_out {l : List SConn} {b : Int} {i : Nat} (hb : inRange b 0 1000 = false) : moveConns (l.take i) b ++ l.drop i = moveConns l b := by
  simp [moveConns, hb]
abbrev L46 (l : List SConn) (b : Int) : LInv := ⟨[⟨.s, 15, true, .el .int⟩, ⟨.s, 5, true, .sl .conn⟩], fun _ (x : Int × List SConn × Unit) => 0 ≤ x.1 ∧ x.1 ≤ l.length ∧ x.2.1 = moveConns (l.take x.1.toNat) b ++ l.drop x.1.toNat, fun (x : Int × List SConn × Unit) => l.length - x.1.toNat⟩
def lMove : Fct := lawFS [.sl .conn, .el .int]
theorem mkConn_idem (x : SConn) (k : Int) : mkConn (mkConn x k).1 k = mkConn x k := rfl
def sizeResponse (x : SResponse) : Int := x.body.size + 20
def fSizeResponse : Fct := ⟨[aE .response], [rI], fun (x : SResponse × Unit) => x.1.body.size ≤ 1000000000000, fun (x : SResponse × Unit) => (sizeResponse x.1, ())⟩
def openConn (l : List SConn) (a : SAddr) (x : SResponse) (g : Bool) : List SConn × Bool := if (l.length : Int) ≥ 3 ∨ findConn a l 0 ≥ 0 then (l, false) else (l ++ [⟨a, sizeResponse x, g, x⟩], true)
def fOpen : Fct := ⟨[aL .conn, aE .addr, aE .response, aB], [rL .conn, rB], fun (x : List SConn × SAddr × SResponse × Bool × Unit) => x.1.length ≤ 1048576 ∧ Sh.good (.sl .conn) x.1 ∧ x.2.2.1.body.size ≤ 1048576, fun (x : List SConn × SAddr × SResponse × Bool × Unit) => ((openConn x.1 x.2.1 x.2.2.1 x.2.2.2.1).1, (openConn x.1 x.2.1 x.2.2.1 x.2.2.2.1).2, ())⟩
def lOpen : Fct := lawFS [.sl .conn, .el .addr, .el .response, .el .bool]
theorem openConn_len (l : List SConn) (a : SAddr) (x : SResponse) (g : Bool) : (openConn l a x g).1.length ≤ l.length + 1 := by unfold openConn; split <;> simp
def fIndex_addr : Fct := ⟨[.v (.sl .addr), .v (.el .addr)], [.el .int], fun (x_ : (List SAddr) × SAddr × Unit) => x_.1.length ≤ 1000000000000000000, fun (x_ : (List SAddr) × SAddr × Unit) => (fidx (fun c => decide (c = x_.2.1)) x_.1 0, ())⟩
def fContains_addr : Fct := ⟨[.v (.sl .addr), .v (.el .addr)], [.el .bool], fun (x_ : (List SAddr) × SAddr × Unit) => x_.1.length ≤ 1000000000000000000, fun (x_ : (List SAddr) × SAddr × Unit) => (x_.1.any fun c => decide (c = x_.2.1), ())⟩
def fHasAddr : Fct := ⟨[.v (.sl .addr), .v (.el .addr)], [.el .bool], fun (x_ : (List SAddr) × SAddr × Unit) => x_.1.length ≤ 1000000000000000000, fun (x_ : (List SAddr) × SAddr × Unit) => (x_.1.any fun c => decide (c = x_.2.1), ())⟩
def withoutAddrs (d : List SAddr) : List SRequest → List SRequest
  | [] => []
  | r :: l => if d.any (fun c => decide (c = r.to)) then withoutAddrs d l else r :: withoutAddrs d l
def fWithoutAddrs : Fct := ⟨[.v (.sl .request), .v (.sl .addr)], [.sl .request], fun (x_ : (List SRequest) × (List SAddr) × Unit) => x_.1.length ≤ 1048576 ∧ x_.2.1.length ≤ 1048576, fun (x_ : (List SRequest) × (List SAddr) × Unit) => (withoutAddrs x_.2.1 x_.1, ())⟩
theorem withoutAddrs_len (d : List SAddr) (l : List SRequest) : (withoutAddrs d l).length ≤ l.length := by
  induction l <;> grind [withoutAddrs]
def lWithoutAddrs : Fct := lawFS [.sl .request, .sl .addr]
def fIndex_str : Fct := ⟨[.v (.sl .str), .v (.el .str)], [.el .int], fun (x_ : (List ByteArray) × ByteArray × Unit) => x_.1.length ≤ 1000000000000000000, fun (x_ : (List ByteArray) × ByteArray × Unit) => (fidx (fun c => decide (c = x_.2.1)) x_.1 0, ())⟩
def fContains_str : Fct := ⟨[.v (.sl .str), .v (.el .str)], [.el .bool], fun (x_ : (List ByteArray) × ByteArray × Unit) => x_.1.length ≤ 1000000000000000000, fun (x_ : (List ByteArray) × ByteArray × Unit) => (x_.1.any fun c => decide (c = x_.2.1), ())⟩
def fHas9 : Fct := ⟨[.v (.sl .str), .v (.el .str)], [.el .bool], fun (x_ : (List ByteArray) × ByteArray × Unit) => x_.1.length ≤ 1000000000000000000, fun (x_ : (List ByteArray) × ByteArray × Unit) => (x_.1.any fun c => decide (c = x_.2.1), ())⟩
def fCountGuesses : Fct := ⟨[.v (.sl .sent)], [.el .int], fun (x_ : (List SSent) × Unit) => x_.1.length ≤ 1000000000000000000, fun (x_ : (List SSent) × Unit) => (countIf (fun s => s.guess) x_.1, ())⟩
def guessesSent (l : List SSent) (b : Int) : Int := if 0 ≤ b then countIf (fun s => s.guess) (l.drop b.toNat) else 0
def fGuessesSent : Fct := ⟨[.v (.el .net), .v (.el .int)], [.el .int], fun (x_ : SNet × Int × Unit) => x_.1.log.length ≤ 1048576, fun (x_ : SNet × Int × Unit) => (guessesSent x_.1.log x_.2.1, ())⟩
def fIsComplete : Fct := ⟨[.v (.el .page)], [.el .bool], fun (x_ : SPage × Unit) => True, fun (x_ : SPage × Unit) => (x_.1.loaded, ())⟩
def blockedOn (p : SPage) : SAddr × Bool := if 1 ≤ p.block ∧ p.block ≤ p.slots.length then ((p.slots.getD (p.block - 1).toNat default).to, true) else (default, false)
def fBlockedOn : Fct := ⟨[.v (.el .page)], [.el .addr, .el .bool], fun (x_ : SPage × Unit) => x_.1.slots.length ≤ 1048576 ∧ -9223372036854775808 ≤ x_.1.block ∧ x_.1.block ≤ 9223372036854775807, fun (x_ : SPage × Unit) => ((blockedOn x_.1).1, (blockedOn x_.1).2, ())⟩
def fRefusedUses : Fct := ⟨[.v (.el .page)], [.el .int], fun (x_ : SPage × Unit) => x_.1.slots.length ≤ 1048576 ∧ x_.1.mods.length ≤ 1048576, fun (x_ : SPage × Unit) => (countIf (fun s => s.done && decide (s.code ≠ 1)) x_.1.slots + countIf (fun s => s.done && decide (s.code ≠ 1)) x_.1.mods, ())⟩
def fNewTab : Fct := ⟨[], [rE .tab], fun _ => True, fun _ => (⟨[], -1⟩, ())⟩
def classOf (p : SPage) (r : SRequest) : Int := if (blockedOn p).2 = true ∧ (blockedOn p).1 = r.to then 0 else if r.kind = 3 then 1 else if r.kind = 2 then 2 else if r.kind = 5 then 3 else if r.kind = 4 then 4 else 5
def fClassOf : Fct := ⟨[.v (.el .page), .v (.el .request)], [.el .int], fun (x_ : SPage × SRequest × Unit) => x_.1.slots.length ≤ 1048576 ∧ -9223372036854775808 ≤ x_.1.block ∧ x_.1.block ≤ 9223372036854775807, fun (x_ : SPage × SRequest × Unit) => (classOf x_.1 x_.2.1, ())⟩
def presentAddr (t : STab) : SAddr × Bool := if 0 ≤ t.at_ ∧ t.at_ < t.visits.length then ((t.visits.getD t.at_.toNat default).addr, true) else (default, false)
def fPresentAddr : Fct := ⟨[.v (.el .tab)], [.el .addr, .el .bool], fun (x_ : STab × Unit) => x_.1.visits.length ≤ 1048576, fun (x_ : STab × Unit) => ((presentAddr x_.1).1, (presentAddr x_.1).2, ())⟩
def fHasPresent : Fct := ⟨[.v (.el .tab)], [.el .bool], fun (x_ : STab × Unit) => True, fun (x_ : STab × Unit) => (decide (0 ≤ x_.1.at_ ∧ x_.1.at_ < x_.1.visits.length), ())⟩
def fKeptCount : Fct := ⟨[.v (.el .tab)], [.el .int], fun (x_ : STab × Unit) => x_.1.visits.length ≤ 1048576, fun (x_ : STab × Unit) => (countIf (fun v => v.kept) x_.1.visits, ())⟩
def visitOk (v : SVisit) : Bool := !v.kept || decide (v.addr = v.page.addr)
def isTab (t : STab) : Bool := t.visits.all visitOk && decide (t.visits.length ≤ 6 ∧ ((t.visits.length = 0 ∧ t.at_ = -1) ∨ (0 ≤ t.at_ ∧ t.at_ < t.visits.length)))
def fIsTab : Fct := ⟨[.v (.el .tab)], [.el .bool], fun (x_ : STab × Unit) => x_.1.visits.length ≤ 1048576, fun (x_ : STab × Unit) => (isTab x_.1, ())⟩
def fHostsOf : Fct := ⟨[.v (.el .net)], [.sl .str], fun (x_ : SNet × Unit) => x_.1.log.length ≤ 1048576, fun (x_ : SNet × Unit) => (uniqBy (fun s => s.to.host) [] x_.1.log, ())⟩
def fSentTo : Fct := ⟨[.v (.el .net), .v (.el .str)], [.sl .sent], fun (x_ : SNet × ByteArray × Unit) => x_.1.log.length ≤ 1048576, fun (x_ : SNet × ByteArray × Unit) => (x_.1.log.filter (fun s => decide (s.to.host = x_.2.1)), ())⟩
def topsOf (n : SNet) (h : ByteArray) : List ByteArray := uniqBy (fun s => s.top) [] (n.log.filter (fun s => decide (s.to.host = h)))
theorem filter_len_ {α : Type} (p : α → Bool) (l : List α) : (l.filter p).length ≤ l.length := List.length_filter_le p l
def fTopsOf : Fct := ⟨[.v (.el .net), .v (.el .str)], [.sl .str], fun (x_ : SNet × ByteArray × Unit) => x_.1.log.length ≤ 1048576, fun (x_ : SNet × ByteArray × Unit) => (topsOf x_.1 x_.2.1, ())⟩
def lGuessesSent : Fct := lawFS [.el .net, .el .int]
def lPage : Fct := lawFS [.el .page]
def lPageReq : Fct := lawFS [.el .page, .el .request]
def lTab : Fct := lawFS [.el .tab]
def lNet : Fct := lawFS [.el .net]
theorem uniqHosts_len (n : SNet) : (uniqBy (fun s => s.to.host) [] n.log).length ≤ n.log.length := by simpa using uniqBy_len (fun (s : SSent) => s.to.host) n.log []
def lNetStr : Fct := lawFS [.el .net, .el .str]
theorem topsOf_len (n : SNet) (h : ByteArray) : (topsOf n h).length ≤ n.log.length := by
  have h1 := uniqBy_len (fun (s : SSent) => s.top) (n.log.filter (fun s => decide (s.to.host = h))) []
  have h2 := filter_len_ (fun (s : SSent) => decide (s.to.host = h)) n.log
  simp only [topsOf, List.length_nil] at *; omega
def fEqual_int : Fct := ⟨[.v (.sl .int), .v (.sl .int)], [.el .bool], fun (x_ : (List Int) × (List Int) × Unit) => x_.1.length ≤ 1000000000000000000, fun (x_ : (List Int) × (List Int) × Unit) => (decide (x_.1 = x_.2.1), ())⟩
def fEqual_str : Fct := ⟨[.v (.sl .str), .v (.sl .str)], [.el .bool], fun (x_ : (List ByteArray) × (List ByteArray) × Unit) => x_.1.length ≤ 1000000000000000000, fun (x_ : (List ByteArray) × (List ByteArray) × Unit) => (decide (x_.1 = x_.2.1), ())⟩
def fEqual_attr : Fct := ⟨[.v (.sl .attr), .v (.sl .attr)], [.el .bool], fun (x_ : (List SAttr) × (List SAttr) × Unit) => x_.1.length ≤ 1000000000000000000, fun (x_ : (List SAttr) × (List SAttr) × Unit) => (decide (x_.1 = x_.2.1), ())⟩
def fEqual_addr : Fct := ⟨[.v (.sl .addr), .v (.sl .addr)], [.el .bool], fun (x_ : (List SAddr) × (List SAddr) × Unit) => x_.1.length ≤ 1000000000000000000, fun (x_ : (List SAddr) × (List SAddr) × Unit) => (decide (x_.1 = x_.2.1), ())⟩
theorem nodeEq (a b : SNode) : decide (a = b) = (decide (a.name = b.name) && (decide (a.text = b.text) && (decide (a.parent = b.parent) && decide (a.attrs = b.attrs)))) := by cases a; cases b; simp
theorem tokenEq (a b : SToken) : decide (a = b) = (decide (a.kind = b.kind) && (decide (a.name = b.name) && (decide (a.attrs = b.attrs) && decide (a.text = b.text)))) := by cases a; cases b; simp
def fEqNode : Fct := ⟨[.v (.el .node), .v (.el .node)], [.el .bool], fun (x_ : SNode × SNode × Unit) => x_.1.attrs.length ≤ 1000000000000000000, fun (x_ : SNode × SNode × Unit) => (decide (x_.1 = x_.2.1), ())⟩
def fEqToken : Fct := ⟨[.v (.el .token), .v (.el .token)], [.el .bool], fun (x_ : SToken × SToken × Unit) => x_.1.attrs.length ≤ 1000000000000000000, fun (x_ : SToken × SToken × Unit) => (decide (x_.1 = x_.2.1), ())⟩
def fEqualFunc_node : Fct := ⟨[aL .node, aL .node, .c 0 []], [rB], fun x => x.1.length ≤ 1000000000000000000 ∧ ∀ i, i < x.1.length → i < x.2.1.length → fEqNode.pre (x.1.getD i default, x.2.1.getD i default, ()), fun x => (decide (x.1 = x.2.1), ())⟩
def fEqualFunc_token : Fct := ⟨[aL .token, aL .token, .c 0 []], [rB], fun x => x.1.length ≤ 1000000000000000000 ∧ ∀ i, i < x.1.length → i < x.2.1.length → fEqToken.pre (x.1.getD i default, x.2.1.getD i default, ()), fun x => (decide (x.1 = x.2.1), ())⟩
def fEqBuilder : Fct := ⟨[.v (.el .builder), .v (.el .builder)], [.el .bool], fun (x_ : SBuilder × SBuilder × Unit) => szBuilder x_.1 ≤ 1099511627776, fun (x_ : SBuilder × SBuilder × Unit) => (decide (x_.1 = x_.2.1), ())⟩
theorem builderEq (a b : SBuilder) : decide (a = b) = (decide (a.nodes = b.nodes) && decide (a.open_ = b.open_)) := by cases a; cases b; simp
theorem szNode_get {l : List SNode} {i : Nat} (h : i < l.length) : (l.getD i default).attrs.length + l.length ≤ szL szNode l := by
  have := szL_get szNode h
  have h2 := szL_len szAttr (l.getD i default).attrs
  simp only [szNode] at this; omega
theorem szToken_get {l : List SToken} {i : Nat} (h : i < l.length) : (l.getD i default).attrs.length + l.length ≤ szL szToken l := by
  have := szL_get szToken h
  have h2 := szL_len szAttr (l.getD i default).attrs
  simp only [szToken] at this; omega
def fEqPolicy : Fct := ⟨[.v (.el .policy), .v (.el .policy)], [.el .bool], fun (x_ : SPolicy × SPolicy × Unit) => szPolicy x_.1 ≤ 1099511627776, fun (x_ : SPolicy × SPolicy × Unit) => (decide (x_.1 = x_.2.1), ())⟩
theorem policyEq (a b : SPolicy) : decide (a = b) = (decide (a.set_ = b.set_) && (decide (a.scripts = b.scripts) && (decide (a.styles = b.styles) && (decide (a.images = b.images) && decide (a.nonce = b.nonce))))) := by cases a; cases b; simp
def fmtAttrs : List SAttr → ByteArray → ByteArray
  | [], s => s
  | a :: l, s => fmtAttrs l (s ++ ⟨#[32]⟩ ++ a.name ++ ⟨#[61]⟩ ++ a.value)
def formatToken (t : SToken) : ByteArray := if t.kind = 1 then fmtAttrs t.attrs (⟨#[60]⟩ ++ t.name) ++ ⟨#[62]⟩ else if t.kind = 2 then ⟨#[60, 47]⟩ ++ t.name ++ ⟨#[62]⟩ else if t.kind = 3 then t.text else ⟨#[]⟩
theorem szAttr_get {l : List SAttr} {i : Nat} (h : i < l.length) : szL szAttr (l.drop i) = 1 + (l.getD i default).name.size + (l.getD i default).value.size + szL szAttr (l.drop (i + 1)) := by
  rw [drop_cons h]; simp only [szL, List.length_cons, List.map_cons, List.sum_cons, szAttr]; omega
def fFormatToken : Fct := ⟨[.v (.el .token)], [.el .str], fun (x_ : SToken × Unit) => szToken x_.1 ≤ 1099511627776, fun (x_ : SToken × Unit) => (formatToken x_.1, ())⟩
def fEqTokens : Fct := ⟨[.v (.sl .token), .v (.sl .token)], [.el .bool], fun (x_ : (List SToken) × (List SToken) × Unit) => szL szToken x_.1 ≤ 1099511627776 ∧ szL szToken x_.2.1 ≤ 1099511627776, fun (x_ : (List SToken) × (List SToken) × Unit) => (decide (x_.1 = x_.2.1), ())⟩
def fEqLists : Fct := ⟨[.v (.el .page), .v (.el .page)], [.el .bool], fun (x_ : SPage × SPage × Unit) => x_.1.slots.length ≤ 2000000000000 ∧ x_.1.mods.length ≤ 2000000000000, fun (x_ : SPage × SPage × Unit) => (decide (x_.1.slots = x_.2.1.slots) && decide (x_.1.mods = x_.2.1.mods), ())⟩
def fEqual_slot : Fct := ⟨[.v (.sl .slot), .v (.sl .slot)], [.el .bool], fun (x_ : (List SSlot) × (List SSlot) × Unit) => x_.1.length ≤ 1000000000000000000, fun (x_ : (List SSlot) × (List SSlot) × Unit) => (decide (x_.1 = x_.2.1), ())⟩
def fEqual_module : Fct := ⟨[.v (.sl .module), .v (.sl .module)], [.el .bool], fun (x_ : (List SModule) × (List SModule) × Unit) => x_.1.length ≤ 1000000000000000000, fun (x_ : (List SModule) × (List SModule) × Unit) => (decide (x_.1 = x_.2.1), ())⟩
def fEqPage : Fct := ⟨[.v (.el .page), .v (.el .page)], [.el .bool], fun (x_ : SPage × SPage × Unit) => szPage x_.1 ≤ 1099511627776 ∧ szPage x_.2.1 ≤ 1099511627776, fun (x_ : SPage × SPage × Unit) => (decide (x_.1 = x_.2.1), ())⟩
def fEqVisit : Fct := ⟨[.v (.el .visit), .v (.el .visit)], [.el .bool], fun (x_ : SVisit × SVisit × Unit) => szPage x_.1.page ≤ 1099511627776 ∧ szPage x_.2.1.page ≤ 1099511627776, fun (x_ : SVisit × SVisit × Unit) => (decide (x_.1 = x_.2.1), ())⟩
def fEqualFunc_visit : Fct := ⟨[aL .visit, aL .visit, .c 0 []], [rB], fun x => x.1.length ≤ 1000000000000000000 ∧ ∀ i, i < x.1.length → i < x.2.1.length → fEqVisit.pre (x.1.getD i default, x.2.1.getD i default, ()), fun x => (decide (x.1 = x.2.1), ())⟩
theorem szVisit_get {l : List SVisit} {i : Nat} (h : i < l.length) : szPage (l.getD i default).page + l.length ≤ szL szVisit l := by
  have := szL_get szVisit h
  simp only [szVisit] at this; omega
def fEqTab : Fct := ⟨[.v (.el .tab), .v (.el .tab)], [.el .bool], fun (x_ : STab × STab × Unit) => szTab x_.1 ≤ 1099511627776 ∧ szTab x_.2.1 ≤ 1099511627776, fun (x_ : STab × STab × Unit) => (decide (x_.1 = x_.2.1), ())⟩
def lTab2 : Fct := lawFS [.el .tab, .el .tab]
def pickReq (p : SPage) : List SRequest → Int → Int → Int → Int
  | [], _, best, _ => best
  | r :: l, i, best, bc => if best < 0 ∨ classOf p r < bc then pickReq p l (i + 1) i (classOf p r) else pickReq p l (i + 1) best bc
def fPickRequest : Fct := ⟨[.v (.el .page), .v (.sl .request)], [.el .int], fun (x_ : SPage × (List SRequest) × Unit) => x_.1.slots.length ≤ 1048576 ∧ (-9223372036854775808 ≤ x_.1.block ∧ x_.1.block ≤ 9223372036854775807) ∧ x_.2.1.length ≤ 1048576, fun (x_ : SPage × (List SRequest) × Unit) => (pickReq x_.1 x_.2.1 0 (-1) 0, ())⟩
def lPageReqs : Fct := lawFS [.el .page, .sl .request]
def fUnused : Fct := ⟨[.v (.sl .guess)], [.el .int], fun (x_ : (List SGuess) × Unit) => x_.1.length ≤ 1048576, fun (x_ : (List SGuess) × Unit) => (countIf (fun g => !g.used) x_.1, ())⟩
abbrev W_impl_UnusedGuesses_fUnused_3 (l : (List SGuess)) : LInv := ⟨[⟨.s, 3, true, .el .int⟩, ⟨.s, 8, true, .el .int⟩], fun _ (x_ : Int × Int × Unit) => 0 ≤ x_.2.1 ∧ x_.2.1 ≤ l.length ∧ 0 ≤ x_.1 ∧ x_.1 ≤ x_.2.1 ∧ x_.1 + countIf (fun g => !g.used) (l.drop x_.2.1.toNat) = countIf (fun g => !g.used) l, fun (x_ : Int × Int × Unit) => l.length - x_.2.1.toNat⟩
-- impl.UnusedGuesses
theorem k44_102 : fUnused.ok Tryz.prog 44 := Fct.of (S := fUnused) (L := fun ⟨l, _⟩ => fun | 3 => some (W_impl_UnusedGuesses_fUnused_3 l) | _ => none) (kp := [0,2,3,5,6,7,8,9,14]) E102ok Tryz.func44 (by kernel_rfl) (by kernel_rfl) (by
  rintro ⟨(l : List SGuess), _⟩ hp
  refine holds_of (X := lpx (W_impl_UnusedGuesses_fUnused_3 l) ((0 : Int), ((0 : Int), ())) fun (y1 : Int × Int × PUnit) bk1 =>
 .br (decide (y1.snd.fst < (↑l.length : Int)))
  (.ob ((0 : Int) ≤ y1.snd.fst ∧ y1.snd.fst < (↑l.length : Int)) <|
   .br (!(l.getD y1.snd.fst.toNat default).used)
   (.ob (l = l) <|
    .ob (Value.int IntKind.i64 (0 : Int) = Value.int IntKind.i64 (0 : Int)) <|
    .ob (l = l) <|
    .ob (Value.int IntKind.i64 (↑l.length : Int) = Value.int IntKind.i64 (↑l.length : Int)) <|
    .ob (bk1 (IntKind.i64.wrap (y1.fst + (1 : Int)), (IntKind.i64.wrap (y1.snd.fst + (1 : Int)), ()))) <|
    .ok)
   (.ob (l = l) <|
    .ob (Value.int IntKind.i64 (0 : Int) = Value.int IntKind.i64 (0 : Int)) <|
    .ob (l = l) <|
    .ob (Value.int IntKind.i64 (↑l.length : Int) = Value.int IntKind.i64 (↑l.length : Int)) <|
    .ob (bk1 (y1.fst, (IntKind.i64.wrap (y1.snd.fst + (1 : Int)), ()))) <|
    .ok))
  (.leaf (mkR fUnused.rs (y1.fst, ())) [] [])) (by kernel_rfl) ?_
  refine lpx_i ?_ fun (y1 : Int × Int × PUnit) i1 => br_i (fun h2 => ob_i ?_ fun o3 => br_i (fun h4 => ob_i rfl fun _ => ob_i rfl fun _ => ob_i rfl fun _ => ob_i rfl fun _ => ob_i ?_ fun o5 => trivial) (fun h4 => ob_i rfl fun _ => ob_i rfl fun _ => ob_i rfl fun _ => ob_i rfl fun _ => ob_i ?_ fun o6 => trivial)) (fun h2 => Fct.leafY ?_)
  all_goals try simp only [decide_eq_true_eq, decide_eq_false_iff_not, Bool.not_eq_true', Bool.not_eq_false', bne_iff_ne, bne_eq_false_iff_eq, beq_iff_eq, beq_eq_false_iff_ne, baEq, Int.not_lt, Int.not_le, ne_eq, Decidable.not_not] at *
  all_goals try simp only [W_impl_UnusedGuesses_fUnused_3, fUnused, baSz, List.size_toArray, List.length_cons, List.length_nil, Nat.reduceAdd, Int.toNat_zero, List.drop_zero, decide_eq_true_eq, decide_eq_false_iff_not, Bool.not_eq_true', Bool.not_eq_false', bne_iff_ne, bne_eq_false_iff_eq, beq_iff_eq, beq_eq_false_iff_ne, Bool.not_eq_true, Bool.not_eq_false, ne_eq, Decidable.not_not, baEq, decide_not, Prod.mk.injEq, and_true, true_and, Room, List.nil_append, Nat.zero_add, Int.not_lt, Int.not_le, countIf, countIf_le] at *
  all_goals try simp (disch := omega) only [wrapId', toNat1] at *
  all_goals try simp (disch := omega) only [if_pos, if_neg]
  all_goals first | trivial | omega | grind [wrapId', toNat1, drop_cons, drop_end, good_len, maxLen, countIf, countIf_le])
def E103 : D.Env := E102.add 44 fUnused
theorem E103ok : EOk Tryz.prog E103 := E102ok.add k44_102
theorem countIf_not {α : Type} (p : α → Bool) (l : List α) : countIf (fun x => !p x) l + countIf p l = l.length := by
  induction l with
  | nil => simp [countIf]
  | cons x l ih => simp only [countIf, List.length_cons]; by_cases h : p x = true <;> simp [h] <;> omega
def fSaved : Fct := ⟨[.v (.el .loader)], [.el .int], fun (x_ : SLoader × Unit) => x_.1.guesses.length ≤ 1048576, fun (x_ : SLoader × Unit) => (countIf (fun g => g.used) x_.1.guesses, ())⟩
abbrev W_spec_SavedRequests_fSaved_3 (l : SLoader) : LInv := ⟨[⟨.s, 3, true, .el .int⟩, ⟨.s, 4, true, .el .int⟩, ⟨.b, 1, false, .el .loader⟩], fun (z_ : Int × Int × SLoader × Unit) (x_ : Int × Int × SLoader × Unit) => (0 ≤ x_.2.1 ∧ x_.2.1 ≤ l.guesses.length ∧ 0 ≤ x_.1 ∧ x_.1 ≤ x_.2.1 ∧ x_.1 + countIf (fun g => g.used) (l.guesses.drop x_.2.1.toNat) = countIf (fun g => g.used) l.guesses) ∧ x_.2.2.1 = z_.2.2.1, fun (x_ : Int × Int × SLoader × Unit) => l.guesses.length - x_.2.1.toNat⟩
-- spec.SavedRequests
theorem k13_103 : fSaved.ok Tryz.prog 13 := Fct.of (S := fSaved) (L := fun ⟨l, _⟩ => fun | 3 => some (W_spec_SavedRequests_fSaved_3 l) | _ => none) (kp := [0,1,2,3,4,9,17]) E103ok Tryz.func13 (by kernel_rfl) (by kernel_rfl) (by
  rintro ⟨(l : SLoader), _⟩ hp
  refine holds_of (X := lpx (W_spec_SavedRequests_fSaved_3 l) ((0 : Int), ((0 : Int), (l, ()))) fun (y1 : Int × Int × SLoader × PUnit) bk1 =>
 .br (decide (y1.snd.fst < (↑y1.snd.snd.fst.guesses.length : Int)))
  (.ob ((0 : Int) ≤ y1.snd.fst ∧ y1.snd.fst < (↑y1.snd.snd.fst.guesses.length : Int)) <|
   .br ((y1.snd.snd.fst.guesses.getD y1.snd.fst.toNat default).used)
   (.ob (l.net.servers = l.net.servers) <|
    .ob (l.net.cache.entries = l.net.cache.entries) <|
    .ob (l.net.log = l.net.log) <|
    .ob (Value.int IntKind.i64 l.net.now = Value.int IntKind.i64 l.net.now) <|
    .ob (Value.string l.page.addr.host = Value.string l.page.addr.host) <|
    .ob (Value.string l.page.addr.path = Value.string l.page.addr.path) <|
    .ob (Value.bool l.page.policy.set_ = Value.bool l.page.policy.set_) <|
    .ob (l.page.policy.scripts = l.page.policy.scripts) <|
    .ob (l.page.policy.styles = l.page.policy.styles) <|
    .ob (l.page.policy.images = l.page.policy.images) <|
    .ob (Value.string l.page.policy.nonce = Value.string l.page.policy.nonce) <|
    .ob (Value.string l.page.tok.rest = Value.string l.page.tok.rest) <|
    .ob (l.page.queue = l.page.queue) <|
    .ob (Value.bool l.page.ended = Value.bool l.page.ended) <|
    .ob (l.page.builder.nodes = l.page.builder.nodes) <|
    .ob (l.page.builder.open_ = l.page.builder.open_) <|
    .ob (l.page.slots = l.page.slots) <|
    .ob (l.page.mods = l.page.mods) <|
    .ob (l.page.entries = l.page.entries) <|
    .ob (Value.int IntKind.i64 l.page.block = Value.int IntKind.i64 l.page.block) <|
    .ob (Value.int IntKind.i64 l.page.inline = Value.int IntKind.i64 l.page.inline) <|
    .ob (Value.int IntKind.i64 l.page.deferred = Value.int IntKind.i64 l.page.deferred) <|
    .ob (Value.int IntKind.i64 l.page.entered = Value.int IntKind.i64 l.page.entered) <|
    .ob (l.page.ran = l.page.ran) <|
    .ob (l.page.log = l.page.log) <|
    .ob (Value.bool l.page.loaded = Value.bool l.page.loaded) <|
    .ob (l.parts = l.parts) <|
    .ob (l.conns = l.conns) <|
    .ob (l.guesses = l.guesses) <|
    .ob (Value.int IntKind.i64 (0 : Int) = Value.int IntKind.i64 (0 : Int)) <|
    .ob (bk1 (IntKind.i64.wrap (y1.fst + (1 : Int)), (IntKind.i64.wrap (y1.snd.fst + (1 : Int)), (y1.snd.snd.fst, ())))) <|
    .ok)
   (.ob (l.net.servers = l.net.servers) <|
    .ob (l.net.cache.entries = l.net.cache.entries) <|
    .ob (l.net.log = l.net.log) <|
    .ob (Value.int IntKind.i64 l.net.now = Value.int IntKind.i64 l.net.now) <|
    .ob (Value.string l.page.addr.host = Value.string l.page.addr.host) <|
    .ob (Value.string l.page.addr.path = Value.string l.page.addr.path) <|
    .ob (Value.bool l.page.policy.set_ = Value.bool l.page.policy.set_) <|
    .ob (l.page.policy.scripts = l.page.policy.scripts) <|
    .ob (l.page.policy.styles = l.page.policy.styles) <|
    .ob (l.page.policy.images = l.page.policy.images) <|
    .ob (Value.string l.page.policy.nonce = Value.string l.page.policy.nonce) <|
    .ob (Value.string l.page.tok.rest = Value.string l.page.tok.rest) <|
    .ob (l.page.queue = l.page.queue) <|
    .ob (Value.bool l.page.ended = Value.bool l.page.ended) <|
    .ob (l.page.builder.nodes = l.page.builder.nodes) <|
    .ob (l.page.builder.open_ = l.page.builder.open_) <|
    .ob (l.page.slots = l.page.slots) <|
    .ob (l.page.mods = l.page.mods) <|
    .ob (l.page.entries = l.page.entries) <|
    .ob (Value.int IntKind.i64 l.page.block = Value.int IntKind.i64 l.page.block) <|
    .ob (Value.int IntKind.i64 l.page.inline = Value.int IntKind.i64 l.page.inline) <|
    .ob (Value.int IntKind.i64 l.page.deferred = Value.int IntKind.i64 l.page.deferred) <|
    .ob (Value.int IntKind.i64 l.page.entered = Value.int IntKind.i64 l.page.entered) <|
    .ob (l.page.ran = l.page.ran) <|
    .ob (l.page.log = l.page.log) <|
    .ob (Value.bool l.page.loaded = Value.bool l.page.loaded) <|
    .ob (l.parts = l.parts) <|
    .ob (l.conns = l.conns) <|
    .ob (l.guesses = l.guesses) <|
    .ob (Value.int IntKind.i64 (0 : Int) = Value.int IntKind.i64 (0 : Int)) <|
    .ob (bk1 (y1.fst, (IntKind.i64.wrap (y1.snd.fst + (1 : Int)), (y1.snd.snd.fst, ())))) <|
    .ok))
  (.leaf (mkR fSaved.rs (y1.fst, ())) [] [])) (by kernel_rfl) ?_
  refine lpx_i ?_ fun (y1 : Int × Int × SLoader × PUnit) i1 => br_i (fun h2 => ob_i ?_ fun o3 => br_i (fun h4 => ob_i rfl fun _ => ob_i rfl fun _ => ob_i rfl fun _ => ob_i rfl fun _ => ob_i rfl fun _ => ob_i rfl fun _ => ob_i rfl fun _ => ob_i rfl fun _ => ob_i rfl fun _ => ob_i rfl fun _ => ob_i rfl fun _ => ob_i rfl fun _ => ob_i rfl fun _ => ob_i rfl fun _ => ob_i rfl fun _ => ob_i rfl fun _ => ob_i rfl fun _ => ob_i rfl fun _ => ob_i rfl fun _ => ob_i rfl fun _ => ob_i rfl fun _ => ob_i rfl fun _ => ob_i rfl fun _ => ob_i rfl fun _ => ob_i rfl fun _ => ob_i rfl fun _ => ob_i rfl fun _ => ob_i rfl fun _ => ob_i rfl fun _ => ob_i rfl fun _ => ob_i ?_ fun o5 => trivial) (fun h4 => ob_i rfl fun _ => ob_i rfl fun _ => ob_i rfl fun _ => ob_i rfl fun _ => ob_i rfl fun _ => ob_i rfl fun _ => ob_i rfl fun _ => ob_i rfl fun _ => ob_i rfl fun _ => ob_i rfl fun _ => ob_i rfl fun _ => ob_i rfl fun _ => ob_i rfl fun _ => ob_i rfl fun _ => ob_i rfl fun _ => ob_i rfl fun _ => ob_i rfl fun _ => ob_i rfl fun _ => ob_i rfl fun _ => ob_i rfl fun _ => ob_i rfl fun _ => ob_i rfl fun _ => ob_i rfl fun _ => ob_i rfl fun _ => ob_i rfl fun _ => ob_i rfl fun _ => ob_i rfl fun _ => ob_i rfl fun _ => ob_i rfl fun _ => ob_i rfl fun _ => ob_i ?_ fun o6 => trivial)) (fun h2 => Fct.leafY ?_)
  all_goals try simp only [decide_eq_true_eq, decide_eq_false_iff_not, Bool.not_eq_true', Bool.not_eq_false', bne_iff_ne, bne_eq_false_iff_eq, beq_iff_eq, beq_eq_false_iff_ne, baEq, Int.not_lt, Int.not_le, ne_eq, Decidable.not_not] at *
  all_goals try simp only [W_spec_SavedRequests_fSaved_3, fSaved, baSz, List.size_toArray, List.length_cons, List.length_nil, Nat.reduceAdd, Int.toNat_zero, List.drop_zero, decide_eq_true_eq, decide_eq_false_iff_not, Bool.not_eq_true', Bool.not_eq_false', bne_iff_ne, bne_eq_false_iff_eq, beq_iff_eq, beq_eq_false_iff_ne, Bool.not_eq_true, Bool.not_eq_false, ne_eq, Decidable.not_not, baEq, decide_not, Prod.mk.injEq, and_true, true_and, Room, List.nil_append, Nat.zero_add, Int.not_lt, Int.not_le, countIf, countIf_le] at *
  all_goals try simp (disch := omega) only [wrapId', toNat1] at *
  all_goals try simp (disch := omega) only [if_pos, if_neg]
  all_goals first | trivial | omega | grind [wrapId', toNat1, drop_cons, drop_end, good_len, maxLen, countIf, countIf_le])
def E104 : D.Env := E103.add 13 fSaved
theorem E104ok : EOk Tryz.prog E104 := E103ok.add k13_103
-- impl.SavedRequests
theorem k14_104 : fSaved.ok Tryz.prog 14 := Fct.of (S := fSaved) (L := fun _ _ => none) (kp := [0,1,2]) E104ok Tryz.func14 (by kernel_rfl) (by kernel_rfl) (by
  rintro ⟨(l : SLoader), _⟩ hp
  refine holds_of (X := .ob (fUnused.pre (l.guesses, ())) <|
 .lt (Int × PUnit) (fUnused.fn (l.guesses, ())) fun z2 =>
 .leaf (mkR fSaved.rs (IntKind.i64.wrap ((↑l.guesses.length : Int) - z2.fst), ())) [] []) (by kernel_rfl) ?_
  refine ob_i ?_ fun o1 => lt_i (Fct.leafY ?_)
  all_goals have hc := countIf_not (fun g : SGuess => g.used) l.guesses
  all_goals have hc2 := countIf_le (fun g : SGuess => g.used) l.guesses
  all_goals try simp only [decide_eq_true_eq, decide_eq_false_iff_not, Bool.not_eq_true', Bool.not_eq_false', bne_iff_ne, bne_eq_false_iff_eq, beq_iff_eq, beq_eq_false_iff_ne, baEq, Int.not_lt, Int.not_le, ne_eq, Decidable.not_not] at *
  all_goals try simp only [fSaved, fUnused, baSz, List.size_toArray, List.length_cons, List.length_nil, Nat.reduceAdd, Int.toNat_zero, List.drop_zero, decide_eq_true_eq, decide_eq_false_iff_not, Bool.not_eq_true', Bool.not_eq_false', bne_iff_ne, bne_eq_false_iff_eq, beq_iff_eq, beq_eq_false_iff_ne, Bool.not_eq_true, Bool.not_eq_false, ne_eq, Decidable.not_not, baEq, decide_not, Prod.mk.injEq, and_true, true_and, Room, List.nil_append, Nat.zero_add, Int.not_lt, Int.not_le, fUnused] at *
  all_goals try simp (disch := omega) only [wrapId', toNat1] at *
  all_goals try simp (disch := omega) only [if_pos, if_neg]
  all_goals first | trivial | omega | grind [wrapId', toNat1, drop_cons, drop_end, good_len, maxLen, fUnused])
def E105 : D.Env := E104.add 14 fSaved
theorem E105ok : EOk Tryz.prog E105 := E104ok.add k14_104
def sumIf {α : Type} (p : α → Bool) (f : α → Int) : List α → Int
  | [] => 0
  | x :: l => (if p x then f x else 0) + sumIf p f l
theorem sumIf_nn {α : Type} (p : α → Bool) (f : α → Int) (h : ∀ x, 0 ≤ f x) (l : List α) : 0 ≤ sumIf p f l := by
  induction l with
  | nil => simp [sumIf]
  | cons x l ih => simp only [sumIf]; have := h x; split <;> omega
def wasteOf (l : List SGuess) : Int := sumIf (fun g => !g.used) (fun g => g.response.body.size + 20) l
def connWaste (l : List SConn) : Int := sumIf (fun c => c.guess) (fun c => c.response.body.size + 20) l
theorem wasteOf_nn (l : List SGuess) : 0 ≤ sumIf (fun g : SGuess => !g.used) (fun g => (g.response.body.size : Int) + 20) l := sumIf_nn _ _ (fun _ => by omega) l
theorem connWaste_nn (l : List SConn) : 0 ≤ sumIf (fun c : SConn => c.guess) (fun c => (c.response.body.size : Int) + 20) l := sumIf_nn _ _ (fun _ => by omega) l
def fWasteOf : Fct := ⟨[.v (.sl .guess)], [.el .int], fun (x_ : (List SGuess) × Unit) => x_.1.length ≤ 1000000000000 ∧ wasteOf x_.1 ≤ 1000000000000, fun (x_ : (List SGuess) × Unit) => (wasteOf x_.1, ())⟩
def loaderWaste (l : SLoader) : Int := wasteOf l.guesses + connWaste l.conns
def fLoaderWaste : Fct := ⟨[.v (.el .loader)], [.el .int], fun (x_ : SLoader × Unit) => x_.1.guesses.length ≤ 1000000000000 ∧ x_.1.conns.length ≤ 1000000000000 ∧ loaderWaste x_.1 ≤ 1000000000000, fun (x_ : SLoader × Unit) => (loaderWaste x_.1, ())⟩
def fIsFinished : Fct := ⟨[.v (.el .loader)], [.el .bool], fun (x_ : SLoader × Unit) => True, fun (x_ : SLoader × Unit) => (x_.1.page.loaded && decide (x_.1.parts.length = 0), ())⟩
def lLoader : Fct := lawFS [.el .loader]
theorem guessSz (l : List SGuess) : wasteOf l ≤ 21 * szL szGuess l := by
  induction l with
  | nil => simp only [wasteOf, sumIf]; omega
  | cons g l ih => simp only [wasteOf, sumIf, szL, List.length_cons, List.map_cons, List.sum_cons, szGuess, szResponse] at *; split <;> omega
theorem connSz (l : List SConn) : connWaste l ≤ 21 * szL szConn l := by
  induction l with
  | nil => simp only [connWaste, sumIf]; omega
  | cons g l ih => simp only [connWaste, sumIf, szL, List.length_cons, List.map_cons, List.sum_cons, szConn, szResponse] at *; split <;> omega
theorem loaderSz (l : SLoader) : loaderWaste l ≤ 21 * szLoader l ∧ l.guesses.length ≤ szLoader l ∧ l.conns.length ≤ szLoader l ∧ l.parts.length ≤ szLoader l := by
  have h1 := guessSz l.guesses
  have h2 := connSz l.conns
  have h3 := szL_len szGuess l.guesses
  have h4 := szL_len szConn l.conns
  have h5 := szL_len szString l.parts
  simp only [loaderWaste, szLoader]; omega
-- laws.FnExactSavedRequests
set_option maxHeartbeats 2000000 in
theorem k4_105 : lLoader.ok Tryz.prog 4 := Fct.of (S := lLoader) (L := fun _ _ => none) (kp := [0,1,2,3,4,5,6,11,21,26]) E105ok Tryz.func4 (by kernel_rfl) (by kernel_rfl) (by
  rintro ⟨(l : SLoader), _⟩ hp
  refine holds_of (X := .ob (fszLoader.pre (l, (1048576 : Int), ())) <|
 .lt (Int × PUnit) (fszLoader.fn (l, (1048576 : Int), ())) fun z2 =>
 .br (decide (z2.fst < (0 : Int)))
  (.leaf (mkR lLoader.rs (true, ())) [] [])
  (.ob (ftoLoader.pre (l, ())) <|
   .lt (SLoader × PUnit) (ftoLoader.fn (l, ())) fun z3 =>
   .ob (fSaved.pre (z3.fst, ())) <|
    .lt (Int × PUnit) (fSaved.fn (z3.fst, ())) fun z4 =>
    .ob (ftoLoader.pre (l, ())) <|
     .lt (SLoader × PUnit) (ftoLoader.fn (l, ())) fun z5 =>
     .ob (fSaved.pre (z5.fst, ())) <|
      .lt (Int × PUnit) (fSaved.fn (z5.fst, ())) fun z6 =>
      .br (z6.fst != z4.fst)
       (.leaf (mkR lLoader.rs (false, ())) [] [])
       (.ob (ftoLoader.pre (l, ())) <|
        .lt (SLoader × PUnit) (ftoLoader.fn (l, ())) fun z7 =>
        .ob (feqLoader.pre (z5.fst, z7.fst, ())) <|
         .lt (Bool × PUnit) (feqLoader.fn (z5.fst, z7.fst, ())) fun z8 =>
         .br (!z8.fst)
          (.leaf (mkR lLoader.rs (false, ())) [] [])
          (.leaf (mkR lLoader.rs (true, ())) [] [])))) (by kernel_rfl) ?_
  refine ob_i ?_ fun o1 => lt_i (br_i (fun h2 => Fct.leafY ?_) (fun h2 => ob_i ?_ fun o3 => lt_i (ob_i ?_ fun o4 => lt_i (ob_i ?_ fun o5 => lt_i (ob_i ?_ fun o6 => lt_i (br_i (fun h7 => Fct.leafY ?_) (fun h7 => ob_i ?_ fun o8 => lt_i (ob_i ?_ fun o9 => lt_i (br_i (fun h10 => Fct.leafY ?_) (fun h10 => Fct.leafY ?_))))))))))
  all_goals have hls := loaderSz l
  all_goals have hg0 : Sh.good (.el .loader) l := hp.1
  all_goals clear hp
  all_goals subst_vars
  all_goals try simp only [decide_eq_true_eq, decide_eq_false_iff_not, Bool.not_eq_true', Bool.not_eq_false', bne_iff_ne, bne_eq_false_iff_eq, beq_iff_eq, beq_eq_false_iff_ne, baEq, Int.not_lt, Int.not_le, ne_eq, Decidable.not_not] at *
  all_goals try simp only [fSaved, feqLoader, fszLoader, ftoLoader, lLoader, baSz, List.size_toArray, List.length_cons, List.length_nil, Nat.reduceAdd, Int.toNat_zero, List.drop_zero, decide_eq_true_eq, decide_eq_false_iff_not, Bool.not_eq_true', Bool.not_eq_false', bne_iff_ne, bne_eq_false_iff_eq, beq_iff_eq, beq_eq_false_iff_ne, Bool.not_eq_true, Bool.not_eq_false, ne_eq, Decidable.not_not, baEq, decide_not, Prod.mk.injEq, and_true, true_and, Room, List.nil_append, Nat.zero_add, Int.not_lt, Int.not_le, decide_true] at *
  all_goals first | trivial | omega | grind [lessen])
def E106 : D.Env := E105.add 4 lLoader
theorem E106ok : EOk Tryz.prog E106 := E105ok.add k4_105

section
open Go.ChangeShapes Go.WideShapes Go.ChangeAt Go.RowKit
theorem own : ownKnob Tryz.prog.godebug = none := by kernel_rfl
theorem types : ∀ e t, tyOf e = some t → e ∈ ([3, 4, 5, 9, 25, 28, 30, 33, 35, 40, 45, 49, 55, 58, 59, 60, 61, 65, 70, 74, 81, 87, 110, 112, 117, 138, 152, 154, 157, 178, 186, 191, 194, 203, 207, 211, 215, 218, 222, 226, 240, 246, 250, 254, 257, 266, 268, 270] : List TypeId) := by
  intro e t h
  unfold tyOf at h
  split at h <;> first | (simp; done) | cases h
theorem lifted (os : Os) (started : os.Started) (H : Type) (enc : TypeId × Value → H) :
    ReturnsInHanded {} Tryz.checked os 4 .any (Rows.fnExactSavedRequestsSpec.pre6 enc Tryz.prog Tryz.f4 Rows.fnExactSavedRequestsRow.domain false) (Rows.fnExactSavedRequestsSpec.post enc Tryz.prog Tryz.f4 false true false false) := by
  refine returnsInHanded_of_change (C := Tryz.checked) own started (by kernel_rfl) Tryz.func4
    (ChangeSpec.witness6 (enc := enc) (C := Tryz.checked) false ⟨#[], #[.agg #[.slice none 0 0, .slice none 0 0, .slice none 0 0, .int .i64 0, .string ⟨#[]⟩, .string ⟨#[]⟩, .bool false, .slice none 0 0, .slice none 0 0, .slice none 0 0, .string ⟨#[]⟩, .string ⟨#[]⟩, .slice none 0 0, .bool false, .slice none 0 0, .slice none 0 0, .slice none 0 0, .slice none 0 0, .slice none 0 0, .int .i64 0, .int .i64 0, .int .i64 0, .int .i64 0, .slice none 0 0, .slice none 0 0, .bool false, .slice none 0 0, .slice none 0 0, .slice none 0 0]], []⟩ 8 (by kernel_rfl) (by kernel_rfl) (by kernel_rfl) (by kernel_rfl)) ?_
  intro W base args ds gs before hval0 hW hcnd _
  have hval : ∀ (j : Nat) t v, Tryz.f4.params[j]? = some t → args[j]? = some v → Value.okWide Tryz.prog W .any base t v := hval0
  refine law_calls (show rowOk Tryz.prog Tryz.f4 tyOf [3, 4, 5, 9, 25, 28, 30, 33, 35, 40, 45, 49, 55, 58, 59, 60, 61, 65, 70, 74, 81, 87, 110, 112, 117, 138, 152, 154, 157, 178, 186, 191, 194, 203, 207, 211, 215, 218, 222, 226, 240, 246, 250, 254, 257, 266, 268, 270] [.el .loader] = true by kernel_rfl) types rfl Tryz.underlying4 rfl hW (fun xs h => ?_) hval k4_105
  · rw [Tryz.params4] at h
    obtain ⟨x, rfl⟩ := List.length_eq_one_iff.1 (show xs.length = 1 from h)
    rfl
set_option maxHeartbeats 0 in
theorem closed : joinedFacts Tryz.prog 4 Tryz.f4 Rows.fnExactSavedRequestsSpec Rows.fnExactSavedRequestsRow = true := by
  unfold joinedFacts
  refine (and_i (and_i (and_i (and_i (and_i (and_i (and_i (and_i (and_i (and_i (and_i (and_i (and_i (and_i (and_i (and_i (and_i (and_i (and_i (and_i (and_i (and_i (and_i (and_i (and_i (and_i (and_i (and_i (and_i (and_i (and_i ?_ ?_) ?_) ?_) ?_) ?_) ?_) ?_) ?_) ?_) ?_) ?_) ?_) ?_) ?_) ?_) ?_) ?_) ?_) ?_) ?_) ?_) ?_) ?_) ?_) ?_) ?_) ?_) ?_) ?_) ?_) ?_)
  all_goals decide +kernel
theorem over : Rows.fnExactSavedRequestsRow.holds Tryz.pinned (OpenSpec.ofChange Rows.fnExactSavedRequestsSpec) :=
  OpenClaim.holds_of_wide 4 Tryz.f4 rfl rfl rfl rfl rfl rfl rfl ⟨rfl, rfl, rfl, rfl, rfl⟩ rfl rfl rfl rfl rfl (by kernel_rfl) Tryz.func4 closed
    (of_decide_eq_true (by kernel_rfl)) (by unfold Func.isWrapper; first | (rw [if_pos (by decide +kernel)]; kernel_rfl) | (rw [if_neg (by decide +kernel)]; exact ⟨rfl, rfl⟩))
    (fun os started H enc _ => lifted os started H enc)
theorem proved : Rows.FnExactSavedRequestsSaid := over
end
end Go.Proofs.YtdcpenhjenhjcaaGreat.fnExactSavedRequests
