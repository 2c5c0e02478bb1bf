/-
  The program's FirstDone returns what the reference's returns, for all arguments: the law returns true. No condition.
-/
import Derived.Test.YtedcmphhpfdblaaVPt
import Derived.Test.YtedcmphhpfdblaaRows
import Derived.WalkKit
import Derived.ProofKit
import Derived.OpenShut
namespace Go.Proofs.Ytedcmphhpfdblaa.fnExactFirstDone
open Go.Proofs.Ytedcmphhpfdblaa
open Go.D
set_option maxRecDepth 100000
set_option linter.unusedVariables false
set_option linter.unusedSimpArgs false
def tyOf : TypeId → Option Ty
  | 3 => some .int
  | 4 => some .bool
  | 5 => some .u8
  | 9 => some .str
  | 27 => some .addr
  | 29 => some .sent
  | 32 => some .addr
  | 34 => some .sent
  | 66 => some .response
  | 70 => some .response
  | 90 => some .conn
  | 97 => some .conn
  | 104 => some .request
  | 107 => some .request
  | 121 => some .guess
  | 141 => some .policy
  | _ => none
def E0 : D.Env := D.Env.empty tyOf
theorem E0ok : EOk Try.prog E0 := EOk.empty _ _


-- laws.szAddr
theorem k28_0 : fszAddr.ok Try.prog 28 := Fct.of (S := fszAddr) (L := fun _ _ => none) (kp := [0,1,2,4,11,18]) E0ok Try.func28 (by kernel_rfl) (by kernel_rfl) (by
  rintro ⟨(x : SAddr), (n : Int), _⟩ hp
  refine holds_of (X := .br (decide (IntKind.i64.wrap (n - (↑x.host.size : Int)) < (0 : Int)))
 (.leaf (mkR fszAddr.rs ((-1 : Int), ())) [] [])
 (.br (decide (IntKind.i64.wrap (IntKind.i64.wrap (n - (↑x.host.size : Int)) - (↑x.path.size : Int)) < (0 : Int)))
  (.leaf (mkR fszAddr.rs ((-1 : Int), ())) [] [])
  (.leaf (mkR fszAddr.rs (IntKind.i64.wrap (IntKind.i64.wrap (n - (↑x.host.size : Int)) - (↑x.path.size : Int)), ())) [] []))) (by kernel_rfl) ?_
  refine br_i (fun h1 => Fct.leafY ?_) (fun h1 => br_i (fun h2 => Fct.leafY ?_) (fun h2 => Fct.leafY ?_))
  all_goals try simp only [decide_eq_true_eq, decide_eq_false_iff_not, Bool.not_eq_true', Bool.not_eq_false', bne_iff_ne, bne_eq_false_iff_eq, beq_iff_eq, beq_eq_false_iff_ne, baEq, Int.not_lt, Int.not_le, ne_eq, Decidable.not_not] at *
  all_goals try simp only [fszAddr, decide_eq_true_eq, decide_eq_false_iff_not, Bool.not_eq_true', Bool.not_eq_false', bne_iff_ne, bne_eq_false_iff_eq, beq_iff_eq, beq_eq_false_iff_ne, Bool.not_eq_true, Bool.not_eq_false, ne_eq, Decidable.not_not, baEq, decide_not, Prod.mk.injEq, and_true, true_and, Room, List.nil_append, Nat.zero_add, Int.not_lt, Int.not_le, Sh.good, Sh.fc, enc, List.forall_mem_cons, List.not_mem_nil, false_implies, implies_true, goodC, maxLen] at *
  all_goals grind [wrapId', lessen, szAddr])
def E1 : D.Env := E0.add 28 fszAddr
theorem E1ok : EOk Try.prog E1 := E0ok.add k28_0
-- laws.toAddr
theorem k30_1 : ftoAddr.ok Try.prog 30 := Fct.of (S := ftoAddr) (L := fun _ _ => none) (kp := [0,1,2,3]) E1ok Try.func30 (by kernel_rfl) (by kernel_rfl) (by
  rintro ⟨(x : SAddr), _⟩ hp
  refine holds_of (X := .leaf (mkR ftoAddr.rs (x, ())) [] []) (by kernel_rfl) ?_
  refine Fct.leafY ?_
  all_goals try simp only [decide_eq_true_eq, decide_eq_false_iff_not, Bool.not_eq_true', Bool.not_eq_false', bne_iff_ne, bne_eq_false_iff_eq, beq_iff_eq, beq_eq_false_iff_ne, baEq, Int.not_lt, Int.not_le, ne_eq, Decidable.not_not] at *
  all_goals try simp only [ftoAddr, decide_eq_true_eq, decide_eq_false_iff_not, Bool.not_eq_true', Bool.not_eq_false', bne_iff_ne, bne_eq_false_iff_eq, beq_iff_eq, beq_eq_false_iff_ne, Bool.not_eq_true, Bool.not_eq_false, ne_eq, Decidable.not_not, baEq, decide_not, Prod.mk.injEq, and_true, true_and, Room, List.nil_append, Nat.zero_add, Int.not_lt, Int.not_le] at *
  all_goals first | trivial | rfl | grind [szAddr])
def E2 : D.Env := E1.add 30 ftoAddr
theorem E2ok : EOk Try.prog E2 := E1ok.add k30_1
-- laws.eqAddr
theorem k81_2 : feqAddr.ok Try.prog 81 := Fct.of (S := feqAddr) (L := fun _ _ => none) (kp := [0,1,2,3,4,9,14]) E2ok Try.func81 (by kernel_rfl) (by kernel_rfl) (by
  rintro ⟨(x : SAddr), (y : SAddr), _⟩ hp
  refine holds_of (X := .br (!x.host.toList == y.host.toList)
 (.leaf (mkR feqAddr.rs (false, ())) [] [])
 (.br (!x.path.toList == y.path.toList)
  (.leaf (mkR feqAddr.rs (false, ())) [] [])
  (.leaf (mkR feqAddr.rs (true, ())) [] []))) (by kernel_rfl) ?_
  refine br_i (fun h1 => Fct.leafY ?_) (fun h1 => br_i (fun h2 => Fct.leafY ?_) (fun h2 => Fct.leafY ?_))
  all_goals try simp only [decide_eq_true_eq, decide_eq_false_iff_not, Bool.not_eq_true', Bool.not_eq_false', bne_iff_ne, bne_eq_false_iff_eq, beq_iff_eq, beq_eq_false_iff_ne, baEq, Int.not_lt, Int.not_le, ne_eq, Decidable.not_not] at *
  all_goals try simp only [feqAddr, decide_eq_true_eq, decide_eq_false_iff_not, Bool.not_eq_true', Bool.not_eq_false', bne_iff_ne, bne_eq_false_iff_eq, beq_iff_eq, beq_eq_false_iff_ne, Bool.not_eq_true, Bool.not_eq_false, ne_eq, Decidable.not_not, baEq, decide_not, Prod.mk.injEq, and_true, true_and, Room, List.nil_append, Nat.zero_add, Int.not_lt, Int.not_le] at *
  all_goals first | trivial | (cases x; cases y; simp_all))
def E3 : D.Env := E2.add 81 feqAddr
theorem E3ok : EOk Try.prog E3 := E2ok.add k81_2
-- laws.szResponse
theorem k51_3 : fszResponse.ok Try.prog 51 := Fct.of (S := fszResponse) (L := fun _ _ => none) (kp := [0,1,2,4,11,18]) E3ok Try.func51 (by kernel_rfl) (by kernel_rfl) (by
  rintro ⟨(x : SResponse), (n : Int), _⟩ hp
  refine holds_of (X := .br (decide (IntKind.i64.wrap (n - (↑x.body.size : Int)) < (0 : Int)))
 (.leaf (mkR fszResponse.rs ((-1 : Int), ())) [] [])
 (.br (decide (IntKind.i64.wrap (IntKind.i64.wrap (n - (↑x.body.size : Int)) - (↑x.policy.size : Int)) < (0 : Int)))
  (.leaf (mkR fszResponse.rs ((-1 : Int), ())) [] [])
  (.leaf (mkR fszResponse.rs (IntKind.i64.wrap (IntKind.i64.wrap (n - (↑x.body.size : Int)) - (↑x.policy.size : Int)), ())) [] []))) (by kernel_rfl) ?_
  refine br_i (fun h1 => Fct.leafY ?_) (fun h1 => br_i (fun h2 => Fct.leafY ?_) (fun h2 => Fct.leafY ?_))
  all_goals try simp only [decide_eq_true_eq, decide_eq_false_iff_not, Bool.not_eq_true', Bool.not_eq_false', bne_iff_ne, bne_eq_false_iff_eq, beq_iff_eq, beq_eq_false_iff_ne, baEq, Int.not_lt, Int.not_le, ne_eq, Decidable.not_not] at *
  all_goals try simp only [fszResponse, decide_eq_true_eq, decide_eq_false_iff_not, Bool.not_eq_true', Bool.not_eq_false', bne_iff_ne, bne_eq_false_iff_eq, beq_iff_eq, beq_eq_false_iff_ne, Bool.not_eq_true, Bool.not_eq_false, ne_eq, Decidable.not_not, baEq, decide_not, Prod.mk.injEq, and_true, true_and, Room, List.nil_append, Nat.zero_add, Int.not_lt, Int.not_le, Sh.good, Sh.fc, enc, List.forall_mem_cons, List.not_mem_nil, false_implies, implies_true, goodC, maxLen] at *
  all_goals grind [wrapId', lessen, szResponse])
def E4 : D.Env := E3.add 51 fszResponse
theorem E4ok : EOk Try.prog E4 := E3ok.add k51_3
-- laws.toResponse
theorem k53_4 : ftoResponse.ok Try.prog 53 := Fct.of (S := ftoResponse) (L := fun _ _ => none) (kp := [0,1,2,3]) E4ok Try.func53 (by kernel_rfl) (by kernel_rfl) (by
  rintro ⟨(x : SResponse), _⟩ hp
  refine holds_of (X := .leaf (mkR ftoResponse.rs (x, ())) [] []) (by kernel_rfl) ?_
  refine Fct.leafY ?_
  all_goals try simp only [decide_eq_true_eq, decide_eq_false_iff_not, Bool.not_eq_true', Bool.not_eq_false', bne_iff_ne, bne_eq_false_iff_eq, beq_iff_eq, beq_eq_false_iff_ne, baEq, Int.not_lt, Int.not_le, ne_eq, Decidable.not_not] at *
  all_goals try simp only [ftoResponse, decide_eq_true_eq, decide_eq_false_iff_not, Bool.not_eq_true', Bool.not_eq_false', bne_iff_ne, bne_eq_false_iff_eq, beq_iff_eq, beq_eq_false_iff_ne, Bool.not_eq_true, Bool.not_eq_false, ne_eq, Decidable.not_not, baEq, decide_not, Prod.mk.injEq, and_true, true_and, Room, List.nil_append, Nat.zero_add, Int.not_lt, Int.not_le] at *
  all_goals first | trivial | rfl | grind [szResponse])
def E5 : D.Env := E4.add 53 ftoResponse
theorem E5ok : EOk Try.prog E5 := E4ok.add k53_4
-- laws.eqResponse
theorem k101_5 : feqResponse.ok Try.prog 101 := Fct.of (S := feqResponse) (L := fun _ _ => none) (kp := [0,1,2,3,4,9,14,19,24,29,34]) E5ok Try.func101 (by kernel_rfl) (by kernel_rfl) (by
  rintro ⟨(x : SResponse), (y : SResponse), _⟩ hp
  refine holds_of (X := .br (x.status != y.status)
 (.leaf (mkR feqResponse.rs (false, ())) [] [])
 (.br (x.kind != y.kind)
  (.leaf (mkR feqResponse.rs (false, ())) [] [])
  (.br (!x.body.toList == y.body.toList)
   (.leaf (mkR feqResponse.rs (false, ())) [] [])
   (.br (x.age != y.age)
    (.leaf (mkR feqResponse.rs (false, ())) [] [])
    (.br (!x.shares == y.shares)
     (.leaf (mkR feqResponse.rs (false, ())) [] [])
     (.br (!x.policy.toList == y.policy.toList)
      (.leaf (mkR feqResponse.rs (false, ())) [] [])
      (.leaf (mkR feqResponse.rs (true, ())) [] []))))))) (by kernel_rfl) ?_
  refine br_i (fun h1 => Fct.leafY ?_) (fun h1 => br_i (fun h2 => Fct.leafY ?_) (fun h2 => br_i (fun h3 => Fct.leafY ?_) (fun h3 => br_i (fun h4 => Fct.leafY ?_) (fun h4 => br_i (fun h5 => Fct.leafY ?_) (fun h5 => br_i (fun h6 => Fct.leafY ?_) (fun h6 => Fct.leafY ?_))))))
  all_goals try simp only [decide_eq_true_eq, decide_eq_false_iff_not, Bool.not_eq_true', Bool.not_eq_false', bne_iff_ne, bne_eq_false_iff_eq, beq_iff_eq, beq_eq_false_iff_ne, baEq, Int.not_lt, Int.not_le, ne_eq, Decidable.not_not] at *
  all_goals try simp only [feqResponse, decide_eq_true_eq, decide_eq_false_iff_not, Bool.not_eq_true', Bool.not_eq_false', bne_iff_ne, bne_eq_false_iff_eq, beq_iff_eq, beq_eq_false_iff_ne, Bool.not_eq_true, Bool.not_eq_false, ne_eq, Decidable.not_not, baEq, decide_not, Prod.mk.injEq, and_true, true_and, Room, List.nil_append, Nat.zero_add, Int.not_lt, Int.not_le] at *
  all_goals first | trivial | (cases x; cases y; simp_all))
def E6 : D.Env := E5.add 101 feqResponse
theorem E6ok : EOk Try.prog E6 := E5ok.add k101_5
-- laws.szConn
theorem k70_6 : fszConn.ok Try.prog 70 := Fct.of (S := fszConn) (L := fun _ _ => none) (kp := [0,1,2,4,10,16]) E6ok Try.func70 (by kernel_rfl) (by kernel_rfl) (by
  rintro ⟨(x : SConn), (n : Int), _⟩ hp
  refine holds_of (X := .ob (fszAddr.pre (x.to, n, ())) <|
 .br (decide ((fszAddr.fn (x.to, n, ())).fst < (0 : Int)))
 (.leaf (mkR fszConn.rs ((-1 : Int), ())) [] [])
 (.ob (fszResponse.pre (x.response, (fszAddr.fn (x.to, n, ())).fst, ())) <|
  .br (decide ((fszResponse.fn (x.response, (fszAddr.fn (x.to, n, ())).fst, ())).fst < (0 : Int)))
  (.leaf (mkR fszConn.rs ((-1 : Int), ())) [] [])
  (.leaf (mkR fszConn.rs ((fszResponse.fn (x.response, (fszAddr.fn (x.to, n, ())).fst, ())).fst, ())) [] []))) (by kernel_rfl) ?_
  refine ob_i ?_ fun o1 => br_i (fun h2 => Fct.leafY ?_) (fun h2 => ob_i ?_ fun o3 => br_i (fun h4 => Fct.leafY ?_) (fun h4 => Fct.leafY ?_))
  all_goals try simp only [decide_eq_true_eq, decide_eq_false_iff_not, Bool.not_eq_true', Bool.not_eq_false', bne_iff_ne, bne_eq_false_iff_eq, beq_iff_eq, beq_eq_false_iff_ne, baEq, Int.not_lt, Int.not_le, ne_eq, Decidable.not_not] at *
  all_goals try simp only [fszAddr, fszConn, fszResponse, decide_eq_true_eq, decide_eq_false_iff_not, Bool.not_eq_true', Bool.not_eq_false', bne_iff_ne, bne_eq_false_iff_eq, beq_iff_eq, beq_eq_false_iff_ne, Bool.not_eq_true, Bool.not_eq_false, ne_eq, Decidable.not_not, baEq, decide_not, Prod.mk.injEq, and_true, true_and, Room, List.nil_append, Nat.zero_add, Int.not_lt, Int.not_le, Sh.good, Sh.fc, enc, List.forall_mem_cons, List.not_mem_nil, false_implies, implies_true, goodC, maxLen] at *
  all_goals grind [wrapId', lessen, szAddr, szConn, szResponse])
def E7 : D.Env := E6.add 70 fszConn
theorem E7ok : EOk Try.prog E7 := E6ok.add k70_6
-- laws.toConn
theorem k71_7 : ftoConn.ok Try.prog 71 := Fct.of (S := ftoConn) (L := fun _ _ => none) (kp := [0,1,2,3]) E7ok Try.func71 (by kernel_rfl) (by kernel_rfl) (by
  rintro ⟨(x : SConn), _⟩ hp
  refine holds_of (X := .ob (ftoAddr.pre (x.to, ())) <|
 .ob (ftoResponse.pre (x.response, ())) <|
 .leaf (mkR ftoConn.rs (x, ())) [] []) (by kernel_rfl) ?_
  refine ob_i ?_ fun o1 => ob_i ?_ fun o2 => Fct.leafY ?_
  all_goals try simp only [decide_eq_true_eq, decide_eq_false_iff_not, Bool.not_eq_true', Bool.not_eq_false', bne_iff_ne, bne_eq_false_iff_eq, beq_iff_eq, beq_eq_false_iff_ne, baEq, Int.not_lt, Int.not_le, ne_eq, Decidable.not_not] at *
  all_goals try simp only [ftoAddr, ftoConn, ftoResponse, decide_eq_true_eq, decide_eq_false_iff_not, Bool.not_eq_true', Bool.not_eq_false', bne_iff_ne, bne_eq_false_iff_eq, beq_iff_eq, beq_eq_false_iff_ne, Bool.not_eq_true, Bool.not_eq_false, ne_eq, Decidable.not_not, baEq, decide_not, Prod.mk.injEq, and_true, true_and, Room, List.nil_append, Nat.zero_add, Int.not_lt, Int.not_le] at *
  all_goals first | trivial | rfl | grind [szAddr, szConn, szResponse])
def E8 : D.Env := E7.add 71 ftoConn
theorem E8ok : EOk Try.prog E8 := E7ok.add k71_7
-- laws.eqConn
theorem k72_8 : feqConn.ok Try.prog 72 := Fct.of (S := feqConn) (L := fun _ _ => none) (kp := [0,1,2,3,4,10,15,20,26]) E8ok Try.func72 (by kernel_rfl) (by kernel_rfl) (by
  rintro ⟨(x : SConn), (y : SConn), _⟩ hp
  refine holds_of (X := .ob (feqAddr.pre (x.to, y.to, ())) <|
 .br (!(feqAddr.fn (x.to, y.to, ())).fst)
 (.leaf (mkR feqConn.rs (false, ())) [] [])
 (.br (x.left != y.left)
  (.leaf (mkR feqConn.rs (false, ())) [] [])
  (.br (!x.guess == y.guess)
   (.leaf (mkR feqConn.rs (false, ())) [] [])
   (.ob (feqResponse.pre (x.response, y.response, ())) <|
    .br (!(feqResponse.fn (x.response, y.response, ())).fst)
    (.leaf (mkR feqConn.rs (false, ())) [] [])
    (.leaf (mkR feqConn.rs (true, ())) [] []))))) (by kernel_rfl) ?_
  refine ob_i trivial fun _ => br_i (fun h1 => Fct.leafY ?_) (fun h1 => br_i (fun h2 => Fct.leafY ?_) (fun h2 => br_i (fun h3 => Fct.leafY ?_) (fun h3 => ob_i trivial fun _ => br_i (fun h4 => Fct.leafY ?_) (fun h4 => Fct.leafY ?_))))
  all_goals try simp only [decide_eq_true_eq, decide_eq_false_iff_not, Bool.not_eq_true', Bool.not_eq_false', bne_iff_ne, bne_eq_false_iff_eq, beq_iff_eq, beq_eq_false_iff_ne, baEq, Int.not_lt, Int.not_le, ne_eq, Decidable.not_not] at *
  all_goals try simp only [feqAddr, feqConn, feqResponse, decide_eq_true_eq, decide_eq_false_iff_not, Bool.not_eq_true', Bool.not_eq_false', bne_iff_ne, bne_eq_false_iff_eq, beq_iff_eq, beq_eq_false_iff_ne, Bool.not_eq_true, Bool.not_eq_false, ne_eq, Decidable.not_not, baEq, decide_not, Prod.mk.injEq, and_true, true_and, Room, List.nil_append, Nat.zero_add, Int.not_lt, Int.not_le] at *
  all_goals first | trivial | (cases x; cases y; simp_all))
def E9 : D.Env := E8.add 72 feqConn
theorem E9ok : EOk Try.prog E9 := E8ok.add k72_8
-- laws.szConnS
theorem k23_9 : fszConnS.ok Try.prog 23 := Fct.of (S := fszConnS) (L := fun ⟨l, n, _⟩ => fun | 5 => some (LszS .conn szConn l n) | _ => none) (kp := [0,1,4,5,11,15,25]) E9ok Try.func23 (by kernel_rfl) (by kernel_rfl) (by
  rintro ⟨(l : List SConn), (n : Int), _⟩ hp
  refine holds_of (X := .br (decide (IntKind.i64.wrap (n - (↑l.length : Int)) < (0 : Int)))
 (.leaf (mkR fszConnS.rs ((-1 : Int), ())) [] [])
 (lpx (LszS .conn szConn l n) (IntKind.i64.wrap (n - (↑l.length : Int)), ((0 : Int), ())) fun (y2 : Int × Int × PUnit) bk2 =>
  .br (decide (y2.snd.fst < (↑l.length : Int)))
   (.ob ((0 : Int) ≤ y2.snd.fst ∧ y2.snd.fst < (↑l.length : Int)) <|
    .ob (fszConn.pre (l.getD y2.snd.fst.toNat default, y2.fst, ())) <|
    .br (decide ((fszConn.fn (l.getD y2.snd.fst.toNat default, y2.fst, ())).fst < (0 : Int)))
    (.leaf (mkR fszConnS.rs ((-1 : Int), ())) [] [])
    (.ob (l = l) <|
     .ob (Value.bool (decide (IntKind.i64.wrap (n - (↑l.length : Int)) < (0 : Int))) =
  Value.bool (decide (IntKind.i64.wrap (n - (↑l.length : Int)) < (0 : Int)))) <|
     .ob (bk2 ((fszConn.fn (l.getD y2.snd.fst.toNat default, y2.fst, ())).fst, (IntKind.i64.wrap (y2.snd.fst + (1 : Int)), ()))) <|
     .ok))
   (.leaf (mkR fszConnS.rs (y2.fst, ())) [] []))) (by kernel_rfl) ?_
  refine br_i (fun h1 => Fct.leafY ?_) (fun h1 => lpx_i ?_ fun (y2 : Int × Int × PUnit) i2 => br_i (fun h3 => ob_i ?_ fun o4 => ob_i ?_ fun o5 => br_i (fun h6 => Fct.leafY ?_) (fun h6 => ob_i rfl fun _ => ob_i rfl fun _ => ob_i ?_ fun o7 => trivial)) (fun h3 => Fct.leafY ?_))
  all_goals try simp only [decide_eq_true_eq, decide_eq_false_iff_not, Bool.not_eq_true', Bool.not_eq_false', bne_iff_ne, bne_eq_false_iff_eq, beq_iff_eq, beq_eq_false_iff_ne, baEq, Int.not_lt, Int.not_le, ne_eq, Decidable.not_not] at *
  all_goals try simp only [LszS, fszConn, fszConnS, decide_eq_true_eq, decide_eq_false_iff_not, Bool.not_eq_true', Bool.not_eq_false', bne_iff_ne, bne_eq_false_iff_eq, beq_iff_eq, beq_eq_false_iff_ne, Bool.not_eq_true, Bool.not_eq_false, ne_eq, Decidable.not_not, baEq, decide_not, Prod.mk.injEq, and_true, true_and, Room, List.nil_append, Nat.zero_add, Int.not_lt, Int.not_le] at *
  · have := good_len hp.1; simp only [maxLen] at this; rw [wrapId (by omega)] at h1
    rw [lessenNeg (by simp only [szL]; omega)]
  · have := good_len hp.1; simp only [maxLen] at this
    rw [wrapId (by omega)] at h1 ⊢
    exact ⟨by omega, by omega, h1, by simp⟩
  · omega
  · exact ⟨good_getD hp.1 (by omega), by omega, by omega⟩
  · have hs := sum_take_le szConn l (y2.2.1.toNat + 1)
    rw [sum_take szConn (by omega)] at hs
    rw [lessen_lt (by omega)] at h6
    rw [lessenNeg (by simp only [szL]; omega)]
  · have hw : IntKind.i64.wrap (y2.2.1 + 1) = y2.2.1 + 1 := wrapId (by have := good_len hp.1; simp only [maxLen] at this; omega)
    have h7 : ¬ lessen y2.1 (szConn (l.getD y2.2.1.toNat default)) < 0 := by omega
    rw [lessen_lt (by omega)] at h7
    rw [hw, toNat1 (by omega), sum_take szConn (by omega), lessen_ge (by omega)]
    exact ⟨⟨by omega, by omega, by omega, by omega⟩, by omega⟩
  · have e : l.take y2.2.1.toNat = l := List.take_of_length_le (by omega)
    rw [e] at i2
    have hz : ((szL szConn l : Nat) : Int) = l.length + (l.map szConn).sum := by simp only [szL]; omega
    rw [lessen_ge (by omega)]
    show y2.1 = n - ((szL szConn l : Nat) : Int)
    omega)
def E10 : D.Env := E9.add 23 fszConnS
theorem E10ok : EOk Try.prog E10 := E9ok.add k23_9
-- laws.toConnS
theorem k25_10 : ftoConnS.ok Try.prog 25 := Fct.of (S := ftoConnS) (L := fun ⟨l, _⟩ => fun | 3 => some (LtoS .conn l) | _ => none) (kp := [0,2,3,4,11]) E10ok Try.func25 (by kernel_rfl) (by kernel_rfl) (by
  rintro ⟨(l : List SConn), _⟩ hp
  refine holds_of (X := .ob ((↑l.length : Int) = (↑l.length : Int) ∧
  (0 : Int) ≤ (↑l.length : Int) ∧
    (112 : Int) * (↑l.length : Int) ≤ (140737488355328 : Int) ∧ (↑l.length : Int) ≤ (140737488355328 : Int)) <|
 lpx (LtoS .conn l) ((0 : Int), (List.replicate (↑l.length : Int).toNat default, ())) fun (y2 : Int × List SConn × PUnit) bk2 =>
 .br (decide (y2.fst < (↑l.length : Int)))
  (.ob ((0 : Int) ≤ y2.fst ∧ y2.fst < (↑l.length : Int)) <|
   .ob (ftoConn.pre (l.getD y2.fst.toNat default, ())) <|
   .ob ((0 : Int) ≤ y2.fst ∧ y2.fst < (↑y2.snd.fst.length : Int)) <|
   .ob (y2.fst.toNat < y2.snd.fst.length) <|
   .ob (l = l) <|
   .ob (bk2 (IntKind.i64.wrap (y2.fst + (1 : Int)), (y2.snd.fst.modify y2.fst.toNat fun z => l.getD y2.fst.toNat default, ()))) <|
   .ok)
  (.leaf (mkR ftoConnS.rs (y2.snd.fst, ())) [] [])) (by kernel_rfl) ?_
  refine ob_i ?_ fun o1 => lpx_i ?_ fun (y2 : Int × List SConn × PUnit) i2 => br_i (fun h3 => ob_i ?_ fun o4 => ob_i ?_ fun o5 => ob_i ?_ fun o6 => ob_i ?_ fun o7 => ob_i rfl fun _ => ob_i ?_ fun o8 => trivial) (fun h3 => Fct.leafY ?_)
  all_goals try simp only [decide_eq_true_eq, decide_eq_false_iff_not, Bool.not_eq_true', Bool.not_eq_false', bne_iff_ne, bne_eq_false_iff_eq, beq_iff_eq, beq_eq_false_iff_ne, baEq, Int.not_lt, Int.not_le, ne_eq, Decidable.not_not] at *
  all_goals try simp only [LtoS, ftoConn, ftoConnS, decide_eq_true_eq, decide_eq_false_iff_not, Bool.not_eq_true', Bool.not_eq_false', bne_iff_ne, bne_eq_false_iff_eq, beq_iff_eq, beq_eq_false_iff_ne, Bool.not_eq_true, Bool.not_eq_false, ne_eq, Decidable.not_not, baEq, decide_not, Prod.mk.injEq, and_true, true_and, Room, List.nil_append, Nat.zero_add, Int.not_lt, Int.not_le] at *
  · have := szL_len szConn l; omega
  · exact ⟨by omega, by omega, by simp⟩
  · omega
  · have hs := sum_take_le szConn l (y2.1.toNat + 1)
    rw [sum_take szConn (by omega)] at hs
    simp only [szL] at hp; omega
  · rw [i2.2.2]; simp; omega
  · rw [i2.2.2]; simp; omega
  · have hw : IntKind.i64.wrap (y2.1 + 1) = y2.1 + 1 := wrapId (by have := szL_len szConn l; omega)
    rw [hw, toNat1 (by omega), i2.2.2]
    refine ⟨⟨by omega, by omega, ?_⟩, by omega⟩
    rw [show l.length - y2.1.toNat = (l.length - (y2.1.toNat + 1)) + 1 from by omega, List.replicate_succ, mod_at (by simp; omega), take_succ (by omega)]
    simp
  · have e : l.take y2.1.toNat = l := List.take_of_length_le (by omega)
    rw [i2.2.2, e]; simp; omega)
def E11 : D.Env := E10.add 25 ftoConnS
theorem E11ok : EOk Try.prog E11 := E10ok.add k25_10
-- laws.eqConnS
theorem k27_11 : feqConnS.ok Try.prog 27 := Fct.of (S := feqConnS) (L := fun ⟨l, m, _⟩ => fun | 4 => some (LeqS .conn l m) | _ => none) (kp := [0,1,4,5,10,14,26]) E11ok Try.func27 (by kernel_rfl) (by kernel_rfl) (by
  rintro ⟨(l : List SConn), (m : List SConn), _⟩ hp
  refine holds_of (X := .br ((↑l.length : Int) != (↑m.length : Int))
 (.leaf (mkR feqConnS.rs (false, ())) [] [])
 (lpx (LeqS .conn l m) ((0 : Int), ()) fun (y2 : Int × PUnit) bk2 =>
  .br (decide (y2.fst < (↑l.length : Int)))
   (.ob ((0 : Int) ≤ y2.fst ∧ y2.fst < (↑l.length : Int)) <|
    .ob ((0 : Int) ≤ y2.fst ∧ y2.fst < (↑m.length : Int)) <|
    .ob (feqConn.pre (l.getD y2.fst.toNat default, m.getD y2.fst.toNat default, ())) <|
    .br (!(feqConn.fn (l.getD y2.fst.toNat default, m.getD y2.fst.toNat default, ())).fst)
    (.leaf (mkR feqConnS.rs (false, ())) [] [])
    (.ob (l = l) <|
     .ob (m = m) <|
     .ob (Value.bool ((↑l.length : Int) != (↑m.length : Int)) = Value.bool ((↑l.length : Int) != (↑m.length : Int))) <|
     .ob (bk2 (IntKind.i64.wrap (y2.fst + (1 : Int)), ())) <|
     .ok))
   (.leaf (mkR feqConnS.rs (true, ())) [] []))) (by kernel_rfl) ?_
  refine br_i (fun h1 => Fct.leafY ?_) (fun h1 => lpx_i ?_ fun (y2 : Int × PUnit) i2 => br_i (fun h3 => ob_i ?_ fun o4 => ob_i ?_ fun o5 => ob_i trivial fun _ => br_i (fun h6 => Fct.leafY ?_) (fun h6 => ob_i rfl fun _ => ob_i rfl fun _ => ob_i rfl fun _ => ob_i ?_ fun o7 => trivial)) (fun h3 => Fct.leafY ?_))
  all_goals try simp only [decide_eq_true_eq, decide_eq_false_iff_not, Bool.not_eq_true', Bool.not_eq_false', bne_iff_ne, bne_eq_false_iff_eq, beq_iff_eq, beq_eq_false_iff_ne, baEq, Int.not_lt, Int.not_le, ne_eq, Decidable.not_not] at *
  all_goals try simp only [LeqS, feqConn, feqConnS, decide_eq_true_eq, decide_eq_false_iff_not, Bool.not_eq_true', Bool.not_eq_false', bne_iff_ne, bne_eq_false_iff_eq, beq_iff_eq, beq_eq_false_iff_ne, Bool.not_eq_true, Bool.not_eq_false, ne_eq, Decidable.not_not, baEq, decide_not, Prod.mk.injEq, and_true, true_and, Room, List.nil_append, Nat.zero_add, Int.not_lt, Int.not_le] at *
  · rw [decide_eq_false]; rintro rfl; omega
  · exact ⟨by omega, by omega, by simp⟩
  · omega
  · omega
  · rw [decide_eq_false]; rintro rfl; exact absurd rfl h6
  · have hw : IntKind.i64.wrap (y2.1 + 1) = y2.1 + 1 := wrapId (by omega)
    rw [hw, toNat1 (by omega)]
    refine ⟨⟨by omega, by omega, ?_⟩, by omega⟩
    rw [take_succ (by omega), take_succ (by omega), i2.2.2, h6]
  · have e : l.take y2.1.toNat = l := List.take_of_length_le (by omega)
    have e2 : m.take y2.1.toNat = m := List.take_of_length_le (by omega)
    rw [decide_eq_true]; rw [← e, ← e2, i2.2.2])
def E12 : D.Env := E11.add 27 feqConnS
theorem E12ok : EOk Try.prog E12 := E11ok.add k27_11
def isOwnGuess (s : SSent) : Bool := !s.guess || decide (s.to.host = s.top)
def fIsOwnGuess : Fct := ⟨[aE .sent], [rB], fun _ => True, fun x => (isOwnGuess x.1, ())⟩
theorem lessen_nn {a : Int} {n : Nat} (h : 0 ≤ lessen a n) : (n : Int) ≤ a := by unfold lessen at h; split at h <;> omega
theorem lessen_le1 {a : Int} {n : Nat} (h : a ≤ 1048576) : lessen a n ≤ 1048576 := by unfold lessen; split <;> omega
def lSent : Fct := lawFS [.el .sent]
def countGuess : List SConn → Nat
  | [] => 0
  | c :: l => countGuess l + (if c.guess then 1 else 0)
theorem countGuess_app (l : List SConn) (c : SConn) : countGuess (l ++ [c]) = countGuess l + (if c.guess then 1 else 0) := by
  induction l with
  | nil => simp [countGuess]
  | cons d l ih => simp only [List.cons_append, countGuess, ih]; omega
theorem countGuess_take {l : List SConn} {i : Nat} (h : i < l.length) : countGuess (l.take (i + 1)) = countGuess (l.take i) + (if (l.getD i default).guess then 1 else 0) := by rw [take_succ h, countGuess_app]
theorem countGuess_le (l : List SConn) : countGuess l ≤ l.length := by
  induction l with
  | nil => simp [countGuess]
  | cons d l ih => simp only [countGuess, List.length_cons]; split <;> omega
def fCount : Fct := ⟨[aL .conn], [rI], fun x => Sh.good (.sl .conn) x.1, fun x => ((countGuess x.1 : Int), ())⟩
abbrev Lcount (n i : Nat) (l : List SConn) : LInv := ⟨[⟨.s, n, true, .el .int⟩, ⟨.s, i, true, .el .int⟩], fun _ (x : Int × Int × Unit) => 0 ≤ x.2.1 ∧ x.2.1 ≤ l.length ∧ x.1 = countGuess (l.take x.2.1.toNat), fun (x : Int × Int × Unit) => l.length - x.2.1.toNat⟩
def findConn (a : SAddr) : List SConn → Int → Int
  | [], _ => -1
  | c :: l, i => if c.to = a then i else findConn a l (i + 1)
theorem findConn_at {a : SAddr} {l : List SConn} {i : Nat} {z : Int} (h : i < l.length) : findConn a (l.drop i) z = if (l.getD i default).to = a then z else findConn a (l.drop (i + 1)) (z + 1) := by rw [drop_cons h]; rfl
theorem findConn_end {a : SAddr} {l : List SConn} {i : Nat} {z : Int} (h : l.length ≤ i) : findConn a (l.drop i) z = -1 := by rw [List.drop_of_length_le h]; rfl
theorem baBeq (x y : ByteArray) : (x == y) = decide (x = y) := by
  rw [Bool.eq_iff_iff, decide_eq_true_eq]
  constructor
  · intro h
    have h' : (x.data == y.data) = true := h
    cases x; cases y; simpa using h'
  · rintro rfl
    show (x.data == x.data) = true
    simp
theorem addrEq (x y : SAddr) : (x.host == y.host && (x.path == y.path && true)) = decide (x = y) := by
  rw [Bool.eq_iff_iff]; cases x; cases y; simp [baBeq]
def fFind : Fct := ⟨[aL .conn, aE .addr], [rI], fun x => Sh.good (.sl .conn) x.1, fun x => (findConn x.2.1 x.1 0, ())⟩
abbrev Lfind (l : List SConn) (a : SAddr) : LInv := ⟨[⟨.s, 5, true, .el .int⟩, ⟨.b, 3, true, .el .addr⟩], fun _ (x : Int × SAddr × Unit) => 0 ≤ x.1 ∧ x.1 ≤ l.length ∧ x.2.1 = a ∧ findConn a l 0 = findConn a (l.drop x.1.toNat) x.1, fun (x : Int × SAddr × Unit) => l.length - x.1.toNat⟩
def fFind1 : Fct := ⟨[aE .conn, .p (.el .addr)], [rB], fun _ => True, fun x => (decide (x.1.to = x.2.1), ())⟩
def fIdxFind : Fct := ⟨[aL .conn, .c 74 [.el .addr]], [rI], fun x => Sh.good (.sl .conn) x.1, fun x => (findConn x.2.1.1 x.1 0, ())⟩
abbrev Lidx (l : List SConn) (F : List SConn → Int → Int) : LInv := ⟨[⟨.s, 8, true, .el .int⟩], fun _ (x : Int × Unit) => 0 ≤ x.1 ∧ x.1 ≤ l.length ∧ F l 0 = F (l.drop x.1.toNat) x.1, fun (x : Int × Unit) => l.length - x.1.toNat⟩
abbrev Lidxf (l : List SConn) (a : SAddr × Unit) : LInv := Lidx l (findConn a.1)
def firstDone : List SConn → Int → Int
  | [], _ => -1
  | c :: l, i => if c.left ≤ 0 then i else firstDone l (i + 1)
theorem firstDone_at {l : List SConn} {i : Nat} {z : Int} (h : i < l.length) : firstDone (l.drop i) z = if (l.getD i default).left ≤ 0 then z else firstDone (l.drop (i + 1)) (z + 1) := by rw [drop_cons h]; rfl
theorem firstDone_end {l : List SConn} {i : Nat} {z : Int} (h : l.length ≤ i) : firstDone (l.drop i) z = -1 := by rw [List.drop_of_length_le h]; rfl
def fFirst : Fct := ⟨[aL .conn], [rI], fun x => Sh.good (.sl .conn) x.1, fun x => (firstDone x.1 0, ())⟩
abbrev Lfirst (l : List SConn) : LInv := ⟨[⟨.s, 3, true, .el .int⟩], fun _ (x : Int × Unit) => 0 ≤ x.1 ∧ x.1 ≤ l.length ∧ firstDone l 0 = firstDone (l.drop x.1.toNat) x.1, fun (x : Int × Unit) => l.length - x.1.toNat⟩
-- spec.FirstDone
theorem k32_12 : fFirst.ok Try.prog 32 := Fct.of (S := fFirst) (L := fun ⟨l, _⟩ => fun | 2 => some (Lfirst l) | _ => none) (kp := [0,2,3,7,15]) E12ok Try.func32 (by kernel_rfl) (by kernel_rfl) (by
  rintro ⟨(l : List SConn), _⟩ hp
  refine holds_of (X := lpx (Lfirst l) ((0 : Int), ()) fun (y1 : Int × PUnit) bk1 =>
 .br (decide (y1.fst < (↑l.length : Int)))
  (.ob ((0 : Int) ≤ y1.fst ∧ y1.fst < (↑l.length : Int)) <|
   .br (decide ((l.getD y1.fst.toNat default).left ≤ (0 : Int)))
   (.leaf (mkR fFirst.rs (y1.fst, ())) [] [])
   (.ob (l = l) <|
    .ob (bk1 (IntKind.i64.wrap (y1.fst + (1 : Int)), ())) <|
    .ok))
  (.leaf (mkR fFirst.rs ((-1 : Int), ())) [] [])) (by kernel_rfl) ?_
  refine lpx_i ?_ fun (y1 : Int × PUnit) i1 => br_i (fun h2 => ob_i ?_ fun o3 => br_i (fun h4 => Fct.leafY ?_) (fun h4 => ob_i rfl fun _ => ob_i ?_ fun o5 => trivial)) (fun h2 => Fct.leafY ?_)
  all_goals try simp only [decide_eq_true_eq, decide_eq_false_iff_not, Bool.not_eq_true', Bool.not_eq_false', bne_iff_ne, bne_eq_false_iff_eq, beq_iff_eq, beq_eq_false_iff_ne, baEq, Int.not_lt, Int.not_le, ne_eq, Decidable.not_not] at *
  all_goals try simp only [Lfirst, fFirst, decide_eq_true_eq, decide_eq_false_iff_not, Bool.not_eq_true', Bool.not_eq_false', bne_iff_ne, bne_eq_false_iff_eq, beq_iff_eq, beq_eq_false_iff_ne, Bool.not_eq_true, Bool.not_eq_false, ne_eq, Decidable.not_not, baEq, decide_not, Prod.mk.injEq, and_true, true_and, Room, List.nil_append, Nat.zero_add, Int.not_lt, Int.not_le] at *
  all_goals try simp only [addrEq, decide_eq_true_eq, decide_eq_false_iff_not] at *
  · exact ⟨by omega, by omega, by simp⟩
  · omega
  · rw [firstDone_at (by omega), if_pos h4] at i1
    exact i1.2.2.symm
  · rw [firstDone_at (by omega), if_neg (by omega)] at i1
    have hn := good_len hp
    simp only [maxLen] at hn
    rw [wrapId (by omega), toNat1 (by omega)]
    exact ⟨⟨by omega, by omega, i1.2.2⟩, by omega⟩
  · rw [firstDone_end (by omega)] at i1
    exact i1.2.2.symm)
def E13 : D.Env := E12.add 32 fFirst
theorem E13ok : EOk Try.prog E13 := E12ok.add k32_12
def fFirst1 : Fct := ⟨[aE .conn], [rB], fun _ => True, fun x => (decide (x.1.left ≤ 0), ())⟩
-- impl.FirstDone$1
theorem k75_13 : fFirst1.ok Try.prog 75 := Fct.of (S := fFirst1) (L := fun _ _ => none) (kp := [0,1,2]) E13ok Try.func75 (by kernel_rfl) (by kernel_rfl) (by
  rintro ⟨(c : SConn), _⟩ hp
  refine holds_of (X := .leaf (mkR fFirst1.rs (decide (c.left ≤ (0 : Int)), ())) [] []) (by kernel_rfl) ?_
  refine Fct.leafY ?_
  all_goals try simp only [decide_eq_true_eq, decide_eq_false_iff_not, Bool.not_eq_true', Bool.not_eq_false', bne_iff_ne, bne_eq_false_iff_eq, beq_iff_eq, beq_eq_false_iff_ne, baEq, Int.not_lt, Int.not_le, ne_eq, Decidable.not_not] at *
  all_goals try simp only [fFirst1, decide_eq_true_eq, decide_eq_false_iff_not, Bool.not_eq_true', Bool.not_eq_false', bne_iff_ne, bne_eq_false_iff_eq, beq_iff_eq, beq_eq_false_iff_ne, Bool.not_eq_true, Bool.not_eq_false, ne_eq, Decidable.not_not, baEq, decide_not, Prod.mk.injEq, and_true, true_and, Room, List.nil_append, Nat.zero_add, Int.not_lt, Int.not_le] at *
  all_goals first | trivial | omega | (simp_all; done) | (simp_all; omega) | grind)
def E14 : D.Env := E13.add 75 fFirst1
theorem E14ok : EOk Try.prog E14 := E13ok.add k75_13
def fIdxFirst : Fct := ⟨[aL .conn, .c 75 []], [rI], fun x => Sh.good (.sl .conn) x.1, fun x => (firstDone x.1 0, ())⟩
-- slices.IndexFunc[[]impl.Conn,impl.Conn]
theorem k73_14 : fIdxFirst.ok Try.prog 73 := Fct.of (S := fIdxFirst) (L := fun ⟨l, u, _⟩ => fun | 2 => some (Lidx l firstDone) | _ => none) (kp := [0,1,4,5,7,8,9,16]) E14ok Try.func73 (by kernel_rfl) (by kernel_rfl) (by
  rintro ⟨(l : List SConn), (u : PUnit), _⟩ hp
  refine holds_of (X := lpx (Lidx l firstDone) ((0 : Int), ()) fun (y1 : Int × PUnit) bk1 =>
 .br (decide (y1.fst < (↑l.length : Int)))
  (.ob ((0 : Int) ≤ y1.fst ∧ y1.fst < (↑l.length : Int)) <|
   .ob (fFirst1.pre (l.getD y1.fst.toNat default, ())) <|
   .br ((fFirst1.fn (l.getD y1.fst.toNat default, ())).fst)
   (.leaf (mkR fIdxFirst.rs (y1.fst, ())) [] [])
   (.ob (l = l) <|
    .ob (Value.int IntKind.i64 (↑l.length : Int) = Value.int IntKind.i64 (↑l.length : Int)) <|
    .ob (bk1 (IntKind.i64.wrap (y1.fst + (1 : Int)), ())) <|
    .ok))
  (.leaf (mkR fIdxFirst.rs ((-1 : Int), ())) [] [])) (by kernel_rfl) ?_
  refine lpx_i ?_ fun (y1 : Int × PUnit) i1 => br_i (fun h2 => ob_i ?_ fun o3 => ob_i trivial fun _ => br_i (fun h4 => Fct.leafY ?_) (fun h4 => ob_i rfl fun _ => ob_i rfl fun _ => ob_i ?_ fun o5 => trivial)) (fun h2 => Fct.leafY ?_)
  all_goals try simp only [decide_eq_true_eq, decide_eq_false_iff_not, Bool.not_eq_true', Bool.not_eq_false', bne_iff_ne, bne_eq_false_iff_eq, beq_iff_eq, beq_eq_false_iff_ne, baEq, Int.not_lt, Int.not_le, ne_eq, Decidable.not_not] at *
  all_goals try simp only [Lidx, fFirst1, fIdxFirst, decide_eq_true_eq, decide_eq_false_iff_not, Bool.not_eq_true', Bool.not_eq_false', bne_iff_ne, bne_eq_false_iff_eq, beq_iff_eq, beq_eq_false_iff_ne, Bool.not_eq_true, Bool.not_eq_false, ne_eq, Decidable.not_not, baEq, decide_not, Prod.mk.injEq, and_true, true_and, Room, List.nil_append, Nat.zero_add, Int.not_lt, Int.not_le] at *
  all_goals try simp only [addrEq, decide_eq_true_eq, decide_eq_false_iff_not] at *
  · exact ⟨by omega, by omega, by simp⟩
  · omega
  · rw [firstDone_at (by omega), if_pos h4] at i1
    exact i1.2.2.symm
  · rw [firstDone_at (by omega), if_neg (by omega)] at i1
    have hn := good_len hp
    simp only [maxLen] at hn
    rw [wrapId (by omega), toNat1 (by omega)]
    exact ⟨⟨by omega, by omega, i1.2.2⟩, by omega⟩
  · rw [firstDone_end (by omega)] at i1
    exact i1.2.2.symm)
def E15 : D.Env := E14.add 73 fIdxFirst
theorem E15ok : EOk Try.prog E15 := E14ok.add k73_14
-- impl.FirstDone
theorem k33_15 : fFirst.ok Try.prog 33 := Fct.of (S := fFirst) (L := fun _ _ => none) (kp := [0,2]) E15ok Try.func33 (by kernel_rfl) (by kernel_rfl) (by
  rintro ⟨(l : List SConn), _⟩ hp
  refine holds_of (X := .ob (fIdxFirst.pre (l, (), ())) <|
 .leaf (mkR fFirst.rs ((fIdxFirst.fn (l, (), ())).fst, ())) [] []) (by kernel_rfl) ?_
  refine ob_i ?_ fun o1 => Fct.leafY ?_
  all_goals try simp only [decide_eq_true_eq, decide_eq_false_iff_not, Bool.not_eq_true', Bool.not_eq_false', bne_iff_ne, bne_eq_false_iff_eq, beq_iff_eq, beq_eq_false_iff_ne, baEq, Int.not_lt, Int.not_le, ne_eq, Decidable.not_not] at *
  all_goals try simp only [fFirst, fIdxFirst, decide_eq_true_eq, decide_eq_false_iff_not, Bool.not_eq_true', Bool.not_eq_false', bne_iff_ne, bne_eq_false_iff_eq, beq_iff_eq, beq_eq_false_iff_ne, Bool.not_eq_true, Bool.not_eq_false, ne_eq, Decidable.not_not, baEq, decide_not, Prod.mk.injEq, and_true, true_and, Room, List.nil_append, Nat.zero_add, Int.not_lt, Int.not_le] at *
  all_goals first | trivial | omega | (simp_all; done) | (simp_all; omega) | grind)
def E16 : D.Env := E15.add 33 fFirst
theorem E16ok : EOk Try.prog E16 := E15ok.add k33_15
def lConnS : Fct := lawFS [.sl .conn]
-- laws.FnExactFirstDone
theorem k8_16 : lConnS.ok Try.prog 8 := Fct.of (S := lConnS) (L := fun _ _ => none) (kp := [0,2,3,4,5,6,11,21,26]) E16ok Try.func8 (by kernel_rfl) (by kernel_rfl) (by
  rintro ⟨(l : List SConn), _⟩ hp
  refine holds_of (X := .ob (fszConnS.pre (l, (1048576 : Int), ())) <|
 .br (decide ((fszConnS.fn (l, (1048576 : Int), ())).fst < (0 : Int)))
 (.leaf (mkR lConnS.rs (true, ())) [] [])
 (.ob (ftoConnS.pre (l, ())) <|
  .ob (fFirst.pre ((ftoConnS.fn (l, ())).fst, ())) <|
  .ob (ftoConnS.pre (l, ())) <|
  .ob (fFirst.pre ((ftoConnS.fn (l, ())).fst, ())) <|
  .br ((fFirst.fn ((ftoConnS.fn (l, ())).fst, ())).fst != (fFirst.fn ((ftoConnS.fn (l, ())).fst, ())).fst)
  (.leaf (mkR lConnS.rs (false, ())) [] [])
  (.ob (ftoConnS.pre (l, ())) <|
   .ob (feqConnS.pre ((ftoConnS.fn (l, ())).fst, (ftoConnS.fn (l, ())).fst, ())) <|
   .br (!(feqConnS.fn ((ftoConnS.fn (l, ())).fst, (ftoConnS.fn (l, ())).fst, ())).fst)
   (.leaf (mkR lConnS.rs (false, ())) [] [])
   (.leaf (mkR lConnS.rs (true, ())) [] [])))) (by kernel_rfl) ?_
  refine ob_i ?_ fun o1 => br_i (fun h2 => Fct.leafY ?_) (fun h2 => ob_i ?_ fun o3 => ob_i ?_ fun o4 => ob_i ?_ fun o5 => ob_i ?_ fun o6 => br_i (fun h7 => Fct.leafY ?_) (fun h7 => ob_i ?_ fun o8 => ob_i ?_ fun o9 => br_i (fun h10 => Fct.leafY ?_) (fun h10 => Fct.leafY ?_)))
  all_goals have hg : Sh.good (.sl .conn) l := hp.1
  all_goals try simp only [decide_eq_true_eq, decide_eq_false_iff_not, Bool.not_eq_true', Bool.not_eq_false', bne_iff_ne, bne_eq_false_iff_eq, beq_iff_eq, beq_eq_false_iff_ne, baEq, Int.not_lt, Int.not_le, ne_eq, Decidable.not_not] at *
  all_goals try simp only [fFirst, feqConnS, fszConnS, ftoConnS, lConnS, decide_eq_true_eq, decide_eq_false_iff_not, Bool.not_eq_true', Bool.not_eq_false', bne_iff_ne, bne_eq_false_iff_eq, beq_iff_eq, beq_eq_false_iff_ne, Bool.not_eq_true, Bool.not_eq_false, ne_eq, Decidable.not_not, baEq, decide_not, Prod.mk.injEq, and_true, true_and, Room, List.nil_append, Nat.zero_add, Int.not_lt, Int.not_le] at *
  all_goals first | trivial | exact ⟨hg, by omega, by omega⟩ | (have := lessen_nn h2; omega) | (have := szL_len szConn l; have := lessen_nn h2; omega) | (simp_all; done) | grind)
def E17 : D.Env := E16.add 8 lConnS
theorem E17ok : EOk Try.prog E17 := E16ok.add k8_16
def lConnSAddr : Fct := lawFS [.sl .conn, .el .addr]

section
open Go.ChangeShapes Go.WideShapes Go.ChangeAt Go.RowKit
theorem own : ownKnob Try.prog.godebug = none := by kernel_rfl
theorem types : ∀ e t, tyOf e = some t → e ∈ ([3, 4, 5, 9, 27, 29, 32, 34, 66, 70, 90, 97, 104, 107, 121, 141] : List TypeId) := by
  intro e t h
  unfold tyOf at h
  split at h <;> first | (simp; done) | cases h
theorem lifted (os : Os) (started : os.Started) (H : Type) (enc : TypeId × Value → H) :
    ReturnsInHanded {} Try.checked os 8 .any (Rows.fnExactFirstDoneSpec.pre6 enc Try.prog Try.f8 Rows.fnExactFirstDoneRow.domain false) (Rows.fnExactFirstDoneSpec.post enc Try.prog Try.f8 false true false false) := by
  refine returnsInHanded_of_change (C := Try.checked) own started (by kernel_rfl) Try.func8
    (ChangeSpec.witness6 (enc := enc) (C := Try.checked) false ⟨#[], #[.slice none 0 0], []⟩ 8 (by kernel_rfl) (by kernel_rfl) (by kernel_rfl) (by kernel_rfl)) ?_
  intro W base args ds gs before hval0 hW hcnd _
  have hval : ∀ (j : Nat) t v, Try.f8.params[j]? = some t → args[j]? = some v → Value.okWide Try.prog W .any base t v := hval0
  refine law_calls (show rowOk Try.prog Try.f8 tyOf [3, 4, 5, 9, 27, 29, 32, 34, 66, 70, 90, 97, 104, 107, 121, 141] [.sl .conn] = true by kernel_rfl) types rfl Try.underlying4 rfl hW (fun xs h => ?_) hval k8_16
  · rw [Try.params8] at h
    obtain ⟨x, rfl⟩ := List.length_eq_one_iff.1 (show xs.length = 1 from h)
    rfl
theorem over : Rows.fnExactFirstDoneRow.holds Try.pinned (OpenSpec.ofChange Rows.fnExactFirstDoneSpec) :=
  OpenClaim.holds_of_wide 8 Try.f8 rfl rfl rfl rfl rfl rfl rfl ⟨rfl, rfl, rfl, rfl, rfl⟩ rfl rfl rfl rfl rfl (by kernel_rfl) Try.func8 (by kernel_rfl)
    (of_decide_eq_true (by kernel_rfl)) (by unfold Func.isWrapper; first | (rw [if_pos (by decide +kernel)]; kernel_rfl) | (rw [if_neg (by decide +kernel)]; exact ⟨rfl, rfl⟩))
    (fun os started H enc _ => lifted os started H enc)
theorem proved : Rows.FnExactFirstDoneSaid := over
end
end Go.Proofs.Ytedcmphhpfdblaa.fnExactFirstDone
