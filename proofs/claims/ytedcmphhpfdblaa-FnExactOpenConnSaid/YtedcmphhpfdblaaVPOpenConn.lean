/-
  The program's OpenConn returns what the reference's returns, for all arguments: the law returns true. No condition.
-/
import Derived.Test.YtedcmphhpfdblaaVPt
import Derived.Test.YtedcmphhpfdblaaRows
import Derived.WalkKit
import Derived.ProofKit
import Derived.OpenShut
namespace Go.Proofs.Ytedcmphhpfdblaa.fnExactOpenConn
open Go.Proofs.Ytedcmphhpfdblaa
open Go.D
set_option maxRecDepth 100000
set_option linter.unusedVariables false
set_option linter.unusedSimpArgs false
def tyOf : TypeId → Option Ty
  | 3 => some .int
  | 4 => some .bool
  | 5 => some .u8
  | 9 => some .str
  | 27 => some .addr
  | 29 => some .sent
  | 32 => some .addr
  | 34 => some .sent
  | 66 => some .response
  | 70 => some .response
  | 90 => some .conn
  | 97 => some .conn
  | 104 => some .request
  | 107 => some .request
  | 121 => some .guess
  | 141 => some .policy
  | _ => none
def E0 : D.Env := D.Env.empty tyOf
theorem E0ok : EOk Try.prog E0 := EOk.empty _ _

-- laws.markText
theorem k82_0 : fmarkText.ok Try.prog 82 := Fct.of (S := fmarkText) (L := fun ⟨k, _⟩ => fun | 4 => some (LmTx k) | _ => none) (kp := [0,2,3,5,7]) E0ok Try.func82 (by kernel_rfl) (by kernel_rfl) (by
  rintro ⟨(k : Int), _⟩ hp
  refine holds_of (X := .br (decide (k ≤ (0 : Int)))
 (.leaf (mkR fmarkText.rs ({ data := #[(109 : UInt8), (48 : UInt8)] : ByteArray }, ())) [] [])
 (lpx (LmTx k) (k, ({ data := #[] : ByteArray }, ())) fun (y2 : Int × ByteArray × PUnit) bk2 =>
  .br (decide (y2.fst > (0 : Int)))
   (.ob ((10 : Int) ≠ (0 : Int)) <|
    .ob (True) <|
    .ob (sameSize
  (List.foldl (fun r n => r.push (UInt8.ofNat n.toNat)) ByteArray.empty
    [IntKind.u8.wrap (IntKind.i64.wrap ((48 : Int) + y2.fst.tmod (10 : Int)))])
  y2.snd.fst) <|
    .ob ((10 : Int) ≠ (0 : Int)) <|
    .ob (Value.string { data := #[] : ByteArray } = Value.string { data := #[] : ByteArray }) <|
    .ob (Value.bool (decide (k ≤ (0 : Int))) = Value.bool (decide (k ≤ (0 : Int)))) <|
    .ob (bk2 (IntKind.i64.wrap (y2.fst.tdiv (10 : Int)), (List.foldl (fun r n => r.push (UInt8.ofNat n.toNat)) ByteArray.empty
    [IntKind.u8.wrap (IntKind.i64.wrap ((48 : Int) + y2.fst.tmod (10 : Int)))] ++
  y2.snd.fst, ()))) <|
    .ok)
   (.ob (sameSize { data := #[(109 : UInt8)] : ByteArray } y2.snd.fst) <|
    .leaf (mkR fmarkText.rs ({ data := #[(109 : UInt8)] : ByteArray } ++ y2.snd.fst, ())) [] []))) (by kernel_rfl) ?_
  refine br_i (fun h1 => Fct.leafY ?_) (fun h1 => lpx_i ?_ fun (y2 : Int × ByteArray × PUnit) i2 => br_i (fun h3 => ob_i ?_ fun o4 => ob_i trivial fun _ => ob_i ?_ fun o5 => ob_i ?_ fun o6 => ob_i rfl fun _ => ob_i rfl fun _ => ob_i ?_ fun o7 => trivial) (fun h3 => ob_i ?_ fun o8 => Fct.leafY ?_))
  all_goals try rw [digByte (by first | exact i2.1 | (have := i2.1; omega))]
  all_goals try simp only [decide_eq_true_eq, decide_eq_false_iff_not, Bool.not_eq_true', Bool.not_eq_false', bne_iff_ne, bne_eq_false_iff_eq, beq_iff_eq, beq_eq_false_iff_ne, baEq, Int.not_lt, Int.not_le, ne_eq, Decidable.not_not] at *
  all_goals try simp only [LmTx, fmarkText, decide_eq_true_eq, decide_eq_false_iff_not, Bool.not_eq_true', Bool.not_eq_false', bne_iff_ne, bne_eq_false_iff_eq, beq_iff_eq, beq_eq_false_iff_ne, Bool.not_eq_true, Bool.not_eq_false, ne_eq, Decidable.not_not, baEq, decide_not, Prod.mk.injEq, and_true, true_and, Room, List.nil_append, Nat.zero_add, Int.not_lt, Int.not_le] at *
  · simp [mtext, h1]
  · exact ⟨by omega, by omega, 64, rfl, Nat.lt_of_lt_of_le (show k.toNat < 10 ^ 19 by omega) (Nat.pow_le_pow_right (by decide) (by decide)), rfl⟩
  · decide
  · obtain ⟨i3, i4, f, i5, i6, i7⟩ := i2
    show (1 : Nat) + _ ≤ _
    omega
  · decide
  · obtain ⟨i3, i4, f, i5, i6, i7⟩ := i2
    have hd : IntKind.i64.wrap (y2.1.tdiv 10) = y2.1 / 10 := (tdiv10 i3).resolve_right (by omega)
    rw [hd]
    cases f with
    | zero => simp at i6; omega
    | succ f =>
      rw [digs_step (k := y2.1.toNat) (by omega)] at i7
      have i8 : y2.1.toNat < 10 * 10 ^ f := by rw [Nat.pow_succ] at i6; omega
      generalize 10 ^ f = p at i8
      refine ⟨⟨by omega, by omega, f, by rw [sz1]; omega, by omega, ?_⟩, by omega⟩
      rw [show (y2.1 / 10).toNat = y2.1.toNat / 10 by omega]
      exact i7
  · obtain ⟨i3, i4, f, i5, i6, i7⟩ := i2
    show (1 : Nat) + _ ≤ _
    omega
  · obtain ⟨i3, i4, f, i5, i6, i7⟩ := i2
    have h0 : y2.1.toNat = 0 := by omega
    rw [h0, digs_end] at i7
    rw [mtext, if_neg (by omega), i7])
def E1 : D.Env := E0.add 82 fmarkText
theorem E1ok : EOk Try.prog E1 := E0ok.add k82_0
-- laws.szAddr
theorem k28_1 : fszAddr.ok Try.prog 28 := Fct.of (S := fszAddr) (L := fun _ _ => none) (kp := [0,1,2,4,11,18]) E1ok Try.func28 (by kernel_rfl) (by kernel_rfl) (by
  rintro ⟨(x : SAddr), (n : Int), _⟩ hp
  refine holds_of (X := .br (decide (IntKind.i64.wrap (n - (↑x.host.size : Int)) < (0 : Int)))
 (.leaf (mkR fszAddr.rs ((-1 : Int), ())) [] [])
 (.br (decide (IntKind.i64.wrap (IntKind.i64.wrap (n - (↑x.host.size : Int)) - (↑x.path.size : Int)) < (0 : Int)))
  (.leaf (mkR fszAddr.rs ((-1 : Int), ())) [] [])
  (.leaf (mkR fszAddr.rs (IntKind.i64.wrap (IntKind.i64.wrap (n - (↑x.host.size : Int)) - (↑x.path.size : Int)), ())) [] []))) (by kernel_rfl) ?_
  refine br_i (fun h1 => Fct.leafY ?_) (fun h1 => br_i (fun h2 => Fct.leafY ?_) (fun h2 => Fct.leafY ?_))
  all_goals try simp only [decide_eq_true_eq, decide_eq_false_iff_not, Bool.not_eq_true', Bool.not_eq_false', bne_iff_ne, bne_eq_false_iff_eq, beq_iff_eq, beq_eq_false_iff_ne, baEq, Int.not_lt, Int.not_le, ne_eq, Decidable.not_not] at *
  all_goals try simp only [fszAddr, decide_eq_true_eq, decide_eq_false_iff_not, Bool.not_eq_true', Bool.not_eq_false', bne_iff_ne, bne_eq_false_iff_eq, beq_iff_eq, beq_eq_false_iff_ne, Bool.not_eq_true, Bool.not_eq_false, ne_eq, Decidable.not_not, baEq, decide_not, Prod.mk.injEq, and_true, true_and, Room, List.nil_append, Nat.zero_add, Int.not_lt, Int.not_le, Sh.good, Sh.fc, enc, List.forall_mem_cons, List.not_mem_nil, false_implies, implies_true, goodC, maxLen] at *
  all_goals grind [wrapId', lessen, szAddr])
def E2 : D.Env := E1.add 28 fszAddr
theorem E2ok : EOk Try.prog E2 := E1ok.add k28_1
-- laws.toAddr
theorem k30_2 : ftoAddr.ok Try.prog 30 := Fct.of (S := ftoAddr) (L := fun _ _ => none) (kp := [0,1,2,3]) E2ok Try.func30 (by kernel_rfl) (by kernel_rfl) (by
  rintro ⟨(x : SAddr), _⟩ hp
  refine holds_of (X := .leaf (mkR ftoAddr.rs (x, ())) [] []) (by kernel_rfl) ?_
  refine Fct.leafY ?_
  all_goals try simp only [decide_eq_true_eq, decide_eq_false_iff_not, Bool.not_eq_true', Bool.not_eq_false', bne_iff_ne, bne_eq_false_iff_eq, beq_iff_eq, beq_eq_false_iff_ne, baEq, Int.not_lt, Int.not_le, ne_eq, Decidable.not_not] at *
  all_goals try simp only [ftoAddr, decide_eq_true_eq, decide_eq_false_iff_not, Bool.not_eq_true', Bool.not_eq_false', bne_iff_ne, bne_eq_false_iff_eq, beq_iff_eq, beq_eq_false_iff_ne, Bool.not_eq_true, Bool.not_eq_false, ne_eq, Decidable.not_not, baEq, decide_not, Prod.mk.injEq, and_true, true_and, Room, List.nil_append, Nat.zero_add, Int.not_lt, Int.not_le] at *
  all_goals first | trivial | rfl | grind [szAddr])
def E3 : D.Env := E2.add 30 ftoAddr
theorem E3ok : EOk Try.prog E3 := E2ok.add k30_2
-- laws.eqAddr
theorem k81_3 : feqAddr.ok Try.prog 81 := Fct.of (S := feqAddr) (L := fun _ _ => none) (kp := [0,1,2,3,4,9,14]) E3ok Try.func81 (by kernel_rfl) (by kernel_rfl) (by
  rintro ⟨(x : SAddr), (y : SAddr), _⟩ hp
  refine holds_of (X := .br (!x.host.toList == y.host.toList)
 (.leaf (mkR feqAddr.rs (false, ())) [] [])
 (.br (!x.path.toList == y.path.toList)
  (.leaf (mkR feqAddr.rs (false, ())) [] [])
  (.leaf (mkR feqAddr.rs (true, ())) [] []))) (by kernel_rfl) ?_
  refine br_i (fun h1 => Fct.leafY ?_) (fun h1 => br_i (fun h2 => Fct.leafY ?_) (fun h2 => Fct.leafY ?_))
  all_goals try simp only [decide_eq_true_eq, decide_eq_false_iff_not, Bool.not_eq_true', Bool.not_eq_false', bne_iff_ne, bne_eq_false_iff_eq, beq_iff_eq, beq_eq_false_iff_ne, baEq, Int.not_lt, Int.not_le, ne_eq, Decidable.not_not] at *
  all_goals try simp only [feqAddr, decide_eq_true_eq, decide_eq_false_iff_not, Bool.not_eq_true', Bool.not_eq_false', bne_iff_ne, bne_eq_false_iff_eq, beq_iff_eq, beq_eq_false_iff_ne, Bool.not_eq_true, Bool.not_eq_false, ne_eq, Decidable.not_not, baEq, decide_not, Prod.mk.injEq, and_true, true_and, Room, List.nil_append, Nat.zero_add, Int.not_lt, Int.not_le] at *
  all_goals first | trivial | (cases x; cases y; simp_all))
def E4 : D.Env := E3.add 81 feqAddr
theorem E4ok : EOk Try.prog E4 := E3ok.add k81_3
-- laws.szResponse
theorem k51_4 : fszResponse.ok Try.prog 51 := Fct.of (S := fszResponse) (L := fun _ _ => none) (kp := [0,1,2,4,11,18]) E4ok Try.func51 (by kernel_rfl) (by kernel_rfl) (by
  rintro ⟨(x : SResponse), (n : Int), _⟩ hp
  refine holds_of (X := .br (decide (IntKind.i64.wrap (n - (↑x.body.size : Int)) < (0 : Int)))
 (.leaf (mkR fszResponse.rs ((-1 : Int), ())) [] [])
 (.br (decide (IntKind.i64.wrap (IntKind.i64.wrap (n - (↑x.body.size : Int)) - (↑x.policy.size : Int)) < (0 : Int)))
  (.leaf (mkR fszResponse.rs ((-1 : Int), ())) [] [])
  (.leaf (mkR fszResponse.rs (IntKind.i64.wrap (IntKind.i64.wrap (n - (↑x.body.size : Int)) - (↑x.policy.size : Int)), ())) [] []))) (by kernel_rfl) ?_
  refine br_i (fun h1 => Fct.leafY ?_) (fun h1 => br_i (fun h2 => Fct.leafY ?_) (fun h2 => Fct.leafY ?_))
  all_goals try simp only [decide_eq_true_eq, decide_eq_false_iff_not, Bool.not_eq_true', Bool.not_eq_false', bne_iff_ne, bne_eq_false_iff_eq, beq_iff_eq, beq_eq_false_iff_ne, baEq, Int.not_lt, Int.not_le, ne_eq, Decidable.not_not] at *
  all_goals try simp only [fszResponse, decide_eq_true_eq, decide_eq_false_iff_not, Bool.not_eq_true', Bool.not_eq_false', bne_iff_ne, bne_eq_false_iff_eq, beq_iff_eq, beq_eq_false_iff_ne, Bool.not_eq_true, Bool.not_eq_false, ne_eq, Decidable.not_not, baEq, decide_not, Prod.mk.injEq, and_true, true_and, Room, List.nil_append, Nat.zero_add, Int.not_lt, Int.not_le, Sh.good, Sh.fc, enc, List.forall_mem_cons, List.not_mem_nil, false_implies, implies_true, goodC, maxLen] at *
  all_goals grind [wrapId', lessen, szResponse])
def E5 : D.Env := E4.add 51 fszResponse
theorem E5ok : EOk Try.prog E5 := E4ok.add k51_4
-- laws.toResponse
theorem k53_5 : ftoResponse.ok Try.prog 53 := Fct.of (S := ftoResponse) (L := fun _ _ => none) (kp := [0,1,2,3]) E5ok Try.func53 (by kernel_rfl) (by kernel_rfl) (by
  rintro ⟨(x : SResponse), _⟩ hp
  refine holds_of (X := .leaf (mkR ftoResponse.rs (x, ())) [] []) (by kernel_rfl) ?_
  refine Fct.leafY ?_
  all_goals try simp only [decide_eq_true_eq, decide_eq_false_iff_not, Bool.not_eq_true', Bool.not_eq_false', bne_iff_ne, bne_eq_false_iff_eq, beq_iff_eq, beq_eq_false_iff_ne, baEq, Int.not_lt, Int.not_le, ne_eq, Decidable.not_not] at *
  all_goals try simp only [ftoResponse, decide_eq_true_eq, decide_eq_false_iff_not, Bool.not_eq_true', Bool.not_eq_false', bne_iff_ne, bne_eq_false_iff_eq, beq_iff_eq, beq_eq_false_iff_ne, Bool.not_eq_true, Bool.not_eq_false, ne_eq, Decidable.not_not, baEq, decide_not, Prod.mk.injEq, and_true, true_and, Room, List.nil_append, Nat.zero_add, Int.not_lt, Int.not_le] at *
  all_goals first | trivial | rfl | grind [szResponse])
def E6 : D.Env := E5.add 53 ftoResponse
theorem E6ok : EOk Try.prog E6 := E5ok.add k53_5
-- laws.eqResponse
theorem k101_6 : feqResponse.ok Try.prog 101 := Fct.of (S := feqResponse) (L := fun _ _ => none) (kp := [0,1,2,3,4,9,14,19,24,29,34]) E6ok Try.func101 (by kernel_rfl) (by kernel_rfl) (by
  rintro ⟨(x : SResponse), (y : SResponse), _⟩ hp
  refine holds_of (X := .br (x.status != y.status)
 (.leaf (mkR feqResponse.rs (false, ())) [] [])
 (.br (x.kind != y.kind)
  (.leaf (mkR feqResponse.rs (false, ())) [] [])
  (.br (!x.body.toList == y.body.toList)
   (.leaf (mkR feqResponse.rs (false, ())) [] [])
   (.br (x.age != y.age)
    (.leaf (mkR feqResponse.rs (false, ())) [] [])
    (.br (!x.shares == y.shares)
     (.leaf (mkR feqResponse.rs (false, ())) [] [])
     (.br (!x.policy.toList == y.policy.toList)
      (.leaf (mkR feqResponse.rs (false, ())) [] [])
      (.leaf (mkR feqResponse.rs (true, ())) [] []))))))) (by kernel_rfl) ?_
  refine br_i (fun h1 => Fct.leafY ?_) (fun h1 => br_i (fun h2 => Fct.leafY ?_) (fun h2 => br_i (fun h3 => Fct.leafY ?_) (fun h3 => br_i (fun h4 => Fct.leafY ?_) (fun h4 => br_i (fun h5 => Fct.leafY ?_) (fun h5 => br_i (fun h6 => Fct.leafY ?_) (fun h6 => Fct.leafY ?_))))))
  all_goals try simp only [decide_eq_true_eq, decide_eq_false_iff_not, Bool.not_eq_true', Bool.not_eq_false', bne_iff_ne, bne_eq_false_iff_eq, beq_iff_eq, beq_eq_false_iff_ne, baEq, Int.not_lt, Int.not_le, ne_eq, Decidable.not_not] at *
  all_goals try simp only [feqResponse, decide_eq_true_eq, decide_eq_false_iff_not, Bool.not_eq_true', Bool.not_eq_false', bne_iff_ne, bne_eq_false_iff_eq, beq_iff_eq, beq_eq_false_iff_ne, Bool.not_eq_true, Bool.not_eq_false, ne_eq, Decidable.not_not, baEq, decide_not, Prod.mk.injEq, and_true, true_and, Room, List.nil_append, Nat.zero_add, Int.not_lt, Int.not_le] at *
  all_goals first | trivial | (cases x; cases y; simp_all))
def E7 : D.Env := E6.add 101 feqResponse
theorem E7ok : EOk Try.prog E7 := E6ok.add k101_6
-- laws.szConn
theorem k70_7 : fszConn.ok Try.prog 70 := Fct.of (S := fszConn) (L := fun _ _ => none) (kp := [0,1,2,4,10,16]) E7ok Try.func70 (by kernel_rfl) (by kernel_rfl) (by
  rintro ⟨(x : SConn), (n : Int), _⟩ hp
  refine holds_of (X := .ob (fszAddr.pre (x.to, n, ())) <|
 .br (decide ((fszAddr.fn (x.to, n, ())).fst < (0 : Int)))
 (.leaf (mkR fszConn.rs ((-1 : Int), ())) [] [])
 (.ob (fszResponse.pre (x.response, (fszAddr.fn (x.to, n, ())).fst, ())) <|
  .br (decide ((fszResponse.fn (x.response, (fszAddr.fn (x.to, n, ())).fst, ())).fst < (0 : Int)))
  (.leaf (mkR fszConn.rs ((-1 : Int), ())) [] [])
  (.leaf (mkR fszConn.rs ((fszResponse.fn (x.response, (fszAddr.fn (x.to, n, ())).fst, ())).fst, ())) [] []))) (by kernel_rfl) ?_
  refine ob_i ?_ fun o1 => br_i (fun h2 => Fct.leafY ?_) (fun h2 => ob_i ?_ fun o3 => br_i (fun h4 => Fct.leafY ?_) (fun h4 => Fct.leafY ?_))
  all_goals try simp only [decide_eq_true_eq, decide_eq_false_iff_not, Bool.not_eq_true', Bool.not_eq_false', bne_iff_ne, bne_eq_false_iff_eq, beq_iff_eq, beq_eq_false_iff_ne, baEq, Int.not_lt, Int.not_le, ne_eq, Decidable.not_not] at *
  all_goals try simp only [fszAddr, fszConn, fszResponse, decide_eq_true_eq, decide_eq_false_iff_not, Bool.not_eq_true', Bool.not_eq_false', bne_iff_ne, bne_eq_false_iff_eq, beq_iff_eq, beq_eq_false_iff_ne, Bool.not_eq_true, Bool.not_eq_false, ne_eq, Decidable.not_not, baEq, decide_not, Prod.mk.injEq, and_true, true_and, Room, List.nil_append, Nat.zero_add, Int.not_lt, Int.not_le, Sh.good, Sh.fc, enc, List.forall_mem_cons, List.not_mem_nil, false_implies, implies_true, goodC, maxLen] at *
  all_goals grind [wrapId', lessen, szAddr, szConn, szResponse])
def E8 : D.Env := E7.add 70 fszConn
theorem E8ok : EOk Try.prog E8 := E7ok.add k70_7
-- laws.toConn
theorem k71_8 : ftoConn.ok Try.prog 71 := Fct.of (S := ftoConn) (L := fun _ _ => none) (kp := [0,1,2,3]) E8ok Try.func71 (by kernel_rfl) (by kernel_rfl) (by
  rintro ⟨(x : SConn), _⟩ hp
  refine holds_of (X := .ob (ftoAddr.pre (x.to, ())) <|
 .ob (ftoResponse.pre (x.response, ())) <|
 .leaf (mkR ftoConn.rs (x, ())) [] []) (by kernel_rfl) ?_
  refine ob_i ?_ fun o1 => ob_i ?_ fun o2 => Fct.leafY ?_
  all_goals try simp only [decide_eq_true_eq, decide_eq_false_iff_not, Bool.not_eq_true', Bool.not_eq_false', bne_iff_ne, bne_eq_false_iff_eq, beq_iff_eq, beq_eq_false_iff_ne, baEq, Int.not_lt, Int.not_le, ne_eq, Decidable.not_not] at *
  all_goals try simp only [ftoAddr, ftoConn, ftoResponse, decide_eq_true_eq, decide_eq_false_iff_not, Bool.not_eq_true', Bool.not_eq_false', bne_iff_ne, bne_eq_false_iff_eq, beq_iff_eq, beq_eq_false_iff_ne, Bool.not_eq_true, Bool.not_eq_false, ne_eq, Decidable.not_not, baEq, decide_not, Prod.mk.injEq, and_true, true_and, Room, List.nil_append, Nat.zero_add, Int.not_lt, Int.not_le] at *
  all_goals first | trivial | rfl | grind [szAddr, szConn, szResponse])
def E9 : D.Env := E8.add 71 ftoConn
theorem E9ok : EOk Try.prog E9 := E8ok.add k71_8
-- laws.eqConn
theorem k72_9 : feqConn.ok Try.prog 72 := Fct.of (S := feqConn) (L := fun _ _ => none) (kp := [0,1,2,3,4,10,15,20,26]) E9ok Try.func72 (by kernel_rfl) (by kernel_rfl) (by
  rintro ⟨(x : SConn), (y : SConn), _⟩ hp
  refine holds_of (X := .ob (feqAddr.pre (x.to, y.to, ())) <|
 .br (!(feqAddr.fn (x.to, y.to, ())).fst)
 (.leaf (mkR feqConn.rs (false, ())) [] [])
 (.br (x.left != y.left)
  (.leaf (mkR feqConn.rs (false, ())) [] [])
  (.br (!x.guess == y.guess)
   (.leaf (mkR feqConn.rs (false, ())) [] [])
   (.ob (feqResponse.pre (x.response, y.response, ())) <|
    .br (!(feqResponse.fn (x.response, y.response, ())).fst)
    (.leaf (mkR feqConn.rs (false, ())) [] [])
    (.leaf (mkR feqConn.rs (true, ())) [] []))))) (by kernel_rfl) ?_
  refine ob_i trivial fun _ => br_i (fun h1 => Fct.leafY ?_) (fun h1 => br_i (fun h2 => Fct.leafY ?_) (fun h2 => br_i (fun h3 => Fct.leafY ?_) (fun h3 => ob_i trivial fun _ => br_i (fun h4 => Fct.leafY ?_) (fun h4 => Fct.leafY ?_))))
  all_goals try simp only [decide_eq_true_eq, decide_eq_false_iff_not, Bool.not_eq_true', Bool.not_eq_false', bne_iff_ne, bne_eq_false_iff_eq, beq_iff_eq, beq_eq_false_iff_ne, baEq, Int.not_lt, Int.not_le, ne_eq, Decidable.not_not] at *
  all_goals try simp only [feqAddr, feqConn, feqResponse, decide_eq_true_eq, decide_eq_false_iff_not, Bool.not_eq_true', Bool.not_eq_false', bne_iff_ne, bne_eq_false_iff_eq, beq_iff_eq, beq_eq_false_iff_ne, Bool.not_eq_true, Bool.not_eq_false, ne_eq, Decidable.not_not, baEq, decide_not, Prod.mk.injEq, and_true, true_and, Room, List.nil_append, Nat.zero_add, Int.not_lt, Int.not_le] at *
  all_goals first | trivial | (cases x; cases y; simp_all))
def E10 : D.Env := E9.add 72 feqConn
theorem E10ok : EOk Try.prog E10 := E9ok.add k72_9
-- laws.szConnS
theorem k23_10 : fszConnS.ok Try.prog 23 := Fct.of (S := fszConnS) (L := fun ⟨l, n, _⟩ => fun | 5 => some (LszS .conn szConn l n) | _ => none) (kp := [0,1,4,5,11,15,25]) E10ok Try.func23 (by kernel_rfl) (by kernel_rfl) (by
  rintro ⟨(l : List SConn), (n : Int), _⟩ hp
  refine holds_of (X := .br (decide (IntKind.i64.wrap (n - (↑l.length : Int)) < (0 : Int)))
 (.leaf (mkR fszConnS.rs ((-1 : Int), ())) [] [])
 (lpx (LszS .conn szConn l n) (IntKind.i64.wrap (n - (↑l.length : Int)), ((0 : Int), ())) fun (y2 : Int × Int × PUnit) bk2 =>
  .br (decide (y2.snd.fst < (↑l.length : Int)))
   (.ob ((0 : Int) ≤ y2.snd.fst ∧ y2.snd.fst < (↑l.length : Int)) <|
    .ob (fszConn.pre (l.getD y2.snd.fst.toNat default, y2.fst, ())) <|
    .br (decide ((fszConn.fn (l.getD y2.snd.fst.toNat default, y2.fst, ())).fst < (0 : Int)))
    (.leaf (mkR fszConnS.rs ((-1 : Int), ())) [] [])
    (.ob (l = l) <|
     .ob (Value.bool (decide (IntKind.i64.wrap (n - (↑l.length : Int)) < (0 : Int))) =
  Value.bool (decide (IntKind.i64.wrap (n - (↑l.length : Int)) < (0 : Int)))) <|
     .ob (bk2 ((fszConn.fn (l.getD y2.snd.fst.toNat default, y2.fst, ())).fst, (IntKind.i64.wrap (y2.snd.fst + (1 : Int)), ()))) <|
     .ok))
   (.leaf (mkR fszConnS.rs (y2.fst, ())) [] []))) (by kernel_rfl) ?_
  refine br_i (fun h1 => Fct.leafY ?_) (fun h1 => lpx_i ?_ fun (y2 : Int × Int × PUnit) i2 => br_i (fun h3 => ob_i ?_ fun o4 => ob_i ?_ fun o5 => br_i (fun h6 => Fct.leafY ?_) (fun h6 => ob_i rfl fun _ => ob_i rfl fun _ => ob_i ?_ fun o7 => trivial)) (fun h3 => Fct.leafY ?_))
  all_goals try simp only [decide_eq_true_eq, decide_eq_false_iff_not, Bool.not_eq_true', Bool.not_eq_false', bne_iff_ne, bne_eq_false_iff_eq, beq_iff_eq, beq_eq_false_iff_ne, baEq, Int.not_lt, Int.not_le, ne_eq, Decidable.not_not] at *
  all_goals try simp only [LszS, fszConn, fszConnS, decide_eq_true_eq, decide_eq_false_iff_not, Bool.not_eq_true', Bool.not_eq_false', bne_iff_ne, bne_eq_false_iff_eq, beq_iff_eq, beq_eq_false_iff_ne, Bool.not_eq_true, Bool.not_eq_false, ne_eq, Decidable.not_not, baEq, decide_not, Prod.mk.injEq, and_true, true_and, Room, List.nil_append, Nat.zero_add, Int.not_lt, Int.not_le] at *
  · have := good_len hp.1; simp only [maxLen] at this; rw [wrapId (by omega)] at h1
    rw [lessenNeg (by simp only [szL]; omega)]
  · have := good_len hp.1; simp only [maxLen] at this
    rw [wrapId (by omega)] at h1 ⊢
    exact ⟨by omega, by omega, h1, by simp⟩
  · omega
  · exact ⟨good_getD hp.1 (by omega), by omega, by omega⟩
  · have hs := sum_take_le szConn l (y2.2.1.toNat + 1)
    rw [sum_take szConn (by omega)] at hs
    rw [lessen_lt (by omega)] at h6
    rw [lessenNeg (by simp only [szL]; omega)]
  · have hw : IntKind.i64.wrap (y2.2.1 + 1) = y2.2.1 + 1 := wrapId (by have := good_len hp.1; simp only [maxLen] at this; omega)
    have h7 : ¬ lessen y2.1 (szConn (l.getD y2.2.1.toNat default)) < 0 := by omega
    rw [lessen_lt (by omega)] at h7
    rw [hw, toNat1 (by omega), sum_take szConn (by omega), lessen_ge (by omega)]
    exact ⟨⟨by omega, by omega, by omega, by omega⟩, by omega⟩
  · have e : l.take y2.2.1.toNat = l := List.take_of_length_le (by omega)
    rw [e] at i2
    have hz : ((szL szConn l : Nat) : Int) = l.length + (l.map szConn).sum := by simp only [szL]; omega
    rw [lessen_ge (by omega)]
    show y2.1 = n - ((szL szConn l : Nat) : Int)
    omega)
def E11 : D.Env := E10.add 23 fszConnS
theorem E11ok : EOk Try.prog E11 := E10ok.add k23_10
-- laws.toConnS
theorem k25_11 : ftoConnS.ok Try.prog 25 := Fct.of (S := ftoConnS) (L := fun ⟨l, _⟩ => fun | 3 => some (LtoS .conn l) | _ => none) (kp := [0,2,3,4,11]) E11ok Try.func25 (by kernel_rfl) (by kernel_rfl) (by
  rintro ⟨(l : List SConn), _⟩ hp
  refine holds_of (X := .ob ((↑l.length : Int) = (↑l.length : Int) ∧
  (0 : Int) ≤ (↑l.length : Int) ∧
    (112 : Int) * (↑l.length : Int) ≤ (140737488355328 : Int) ∧ (↑l.length : Int) ≤ (140737488355328 : Int)) <|
 lpx (LtoS .conn l) ((0 : Int), (List.replicate (↑l.length : Int).toNat default, ())) fun (y2 : Int × List SConn × PUnit) bk2 =>
 .br (decide (y2.fst < (↑l.length : Int)))
  (.ob ((0 : Int) ≤ y2.fst ∧ y2.fst < (↑l.length : Int)) <|
   .ob (ftoConn.pre (l.getD y2.fst.toNat default, ())) <|
   .ob ((0 : Int) ≤ y2.fst ∧ y2.fst < (↑y2.snd.fst.length : Int)) <|
   .ob (y2.fst.toNat < y2.snd.fst.length) <|
   .ob (l = l) <|
   .ob (bk2 (IntKind.i64.wrap (y2.fst + (1 : Int)), (y2.snd.fst.modify y2.fst.toNat fun z => l.getD y2.fst.toNat default, ()))) <|
   .ok)
  (.leaf (mkR ftoConnS.rs (y2.snd.fst, ())) [] [])) (by kernel_rfl) ?_
  refine ob_i ?_ fun o1 => lpx_i ?_ fun (y2 : Int × List SConn × PUnit) i2 => br_i (fun h3 => ob_i ?_ fun o4 => ob_i ?_ fun o5 => ob_i ?_ fun o6 => ob_i ?_ fun o7 => ob_i rfl fun _ => ob_i ?_ fun o8 => trivial) (fun h3 => Fct.leafY ?_)
  all_goals try simp only [decide_eq_true_eq, decide_eq_false_iff_not, Bool.not_eq_true', Bool.not_eq_false', bne_iff_ne, bne_eq_false_iff_eq, beq_iff_eq, beq_eq_false_iff_ne, baEq, Int.not_lt, Int.not_le, ne_eq, Decidable.not_not] at *
  all_goals try simp only [LtoS, ftoConn, ftoConnS, decide_eq_true_eq, decide_eq_false_iff_not, Bool.not_eq_true', Bool.not_eq_false', bne_iff_ne, bne_eq_false_iff_eq, beq_iff_eq, beq_eq_false_iff_ne, Bool.not_eq_true, Bool.not_eq_false, ne_eq, Decidable.not_not, baEq, decide_not, Prod.mk.injEq, and_true, true_and, Room, List.nil_append, Nat.zero_add, Int.not_lt, Int.not_le] at *
  · have := szL_len szConn l; omega
  · exact ⟨by omega, by omega, by simp⟩
  · omega
  · have hs := sum_take_le szConn l (y2.1.toNat + 1)
    rw [sum_take szConn (by omega)] at hs
    simp only [szL] at hp; omega
  · rw [i2.2.2]; simp; omega
  · rw [i2.2.2]; simp; omega
  · have hw : IntKind.i64.wrap (y2.1 + 1) = y2.1 + 1 := wrapId (by have := szL_len szConn l; omega)
    rw [hw, toNat1 (by omega), i2.2.2]
    refine ⟨⟨by omega, by omega, ?_⟩, by omega⟩
    rw [show l.length - y2.1.toNat = (l.length - (y2.1.toNat + 1)) + 1 from by omega, List.replicate_succ, mod_at (by simp; omega), take_succ (by omega)]
    simp
  · have e : l.take y2.1.toNat = l := List.take_of_length_le (by omega)
    rw [i2.2.2, e]; simp; omega)
def E12 : D.Env := E11.add 25 ftoConnS
theorem E12ok : EOk Try.prog E12 := E11ok.add k25_11
-- laws.eqConnS
theorem k27_12 : feqConnS.ok Try.prog 27 := Fct.of (S := feqConnS) (L := fun ⟨l, m, _⟩ => fun | 4 => some (LeqS .conn l m) | _ => none) (kp := [0,1,4,5,10,14,26]) E12ok Try.func27 (by kernel_rfl) (by kernel_rfl) (by
  rintro ⟨(l : List SConn), (m : List SConn), _⟩ hp
  refine holds_of (X := .br ((↑l.length : Int) != (↑m.length : Int))
 (.leaf (mkR feqConnS.rs (false, ())) [] [])
 (lpx (LeqS .conn l m) ((0 : Int), ()) fun (y2 : Int × PUnit) bk2 =>
  .br (decide (y2.fst < (↑l.length : Int)))
   (.ob ((0 : Int) ≤ y2.fst ∧ y2.fst < (↑l.length : Int)) <|
    .ob ((0 : Int) ≤ y2.fst ∧ y2.fst < (↑m.length : Int)) <|
    .ob (feqConn.pre (l.getD y2.fst.toNat default, m.getD y2.fst.toNat default, ())) <|
    .br (!(feqConn.fn (l.getD y2.fst.toNat default, m.getD y2.fst.toNat default, ())).fst)
    (.leaf (mkR feqConnS.rs (false, ())) [] [])
    (.ob (l = l) <|
     .ob (m = m) <|
     .ob (Value.bool ((↑l.length : Int) != (↑m.length : Int)) = Value.bool ((↑l.length : Int) != (↑m.length : Int))) <|
     .ob (bk2 (IntKind.i64.wrap (y2.fst + (1 : Int)), ())) <|
     .ok))
   (.leaf (mkR feqConnS.rs (true, ())) [] []))) (by kernel_rfl) ?_
  refine br_i (fun h1 => Fct.leafY ?_) (fun h1 => lpx_i ?_ fun (y2 : Int × PUnit) i2 => br_i (fun h3 => ob_i ?_ fun o4 => ob_i ?_ fun o5 => ob_i trivial fun _ => br_i (fun h6 => Fct.leafY ?_) (fun h6 => ob_i rfl fun _ => ob_i rfl fun _ => ob_i rfl fun _ => ob_i ?_ fun o7 => trivial)) (fun h3 => Fct.leafY ?_))
  all_goals try simp only [decide_eq_true_eq, decide_eq_false_iff_not, Bool.not_eq_true', Bool.not_eq_false', bne_iff_ne, bne_eq_false_iff_eq, beq_iff_eq, beq_eq_false_iff_ne, baEq, Int.not_lt, Int.not_le, ne_eq, Decidable.not_not] at *
  all_goals try simp only [LeqS, feqConn, feqConnS, decide_eq_true_eq, decide_eq_false_iff_not, Bool.not_eq_true', Bool.not_eq_false', bne_iff_ne, bne_eq_false_iff_eq, beq_iff_eq, beq_eq_false_iff_ne, Bool.not_eq_true, Bool.not_eq_false, ne_eq, Decidable.not_not, baEq, decide_not, Prod.mk.injEq, and_true, true_and, Room, List.nil_append, Nat.zero_add, Int.not_lt, Int.not_le] at *
  · rw [decide_eq_false]; rintro rfl; omega
  · exact ⟨by omega, by omega, by simp⟩
  · omega
  · omega
  · rw [decide_eq_false]; rintro rfl; exact absurd rfl h6
  · have hw : IntKind.i64.wrap (y2.1 + 1) = y2.1 + 1 := wrapId (by omega)
    rw [hw, toNat1 (by omega)]
    refine ⟨⟨by omega, by omega, ?_⟩, by omega⟩
    rw [take_succ (by omega), take_succ (by omega), i2.2.2, h6]
  · have e : l.take y2.1.toNat = l := List.take_of_length_le (by omega)
    have e2 : m.take y2.1.toNat = m := List.take_of_length_le (by omega)
    rw [decide_eq_true]; rw [← e, ← e2, i2.2.2])
def E13 : D.Env := E12.add 27 feqConnS
theorem E13ok : EOk Try.prog E13 := E12ok.add k27_12
-- laws.markConnS
theorem k47_13 : fmarkConnS.ok Try.prog 47 := MS.of (S := fmarkConnS) (L := fun l k => fun | 2 => some (LmkS .conn mkConn l k) | _ => none) (kp := [0,1,4,5,9]) (kl := [0]) E13ok Try.func47 (by kernel_rfl) (by kernel_rfl) (by
  rintro (l : List SConn) (k : Int) hp
  refine holds_of (X := lpx (LmkS .conn mkConn l k) (k, ((0 : Int), (l, ()))) fun (y1 : Int × Int × List SConn × PUnit) bk1 =>
 .br (decide (y1.snd.fst < (↑y1.snd.snd.fst.length : Int)))
  (.ob (fmarkText.pre (y1.fst, ())) <|
   .ob ((0 : Int) ≤ y1.snd.fst ∧ y1.snd.fst < (↑y1.snd.snd.fst.length : Int)) <|
   .ob (y1.snd.fst.toNat < y1.snd.snd.fst.length) <|
   .ob (fmarkText.pre (IntKind.i64.wrap (y1.fst + (1 : Int)), ())) <|
   .ob ((0 : Int) ≤ y1.snd.fst ∧
  y1.snd.fst <
    (↑(y1.snd.snd.fst.modify y1.snd.fst.toNat fun z =>
            { to := { host := (fmarkText.fn (y1.fst, ())).fst, path := z.to.path : SAddr }, left := z.left,
              guess := z.guess, response := z.response : SConn }).length :
      Int)) <|
   .ob (y1.snd.fst.toNat <
  (y1.snd.snd.fst.modify y1.snd.fst.toNat fun z =>
      { to := { host := (fmarkText.fn (y1.fst, ())).fst, path := z.to.path : SAddr }, left := z.left, guess := z.guess,
        response := z.response : SConn }).length) <|
   .ob ((0 : Int) ≤ y1.snd.fst ∧
  y1.snd.fst <
    (↑((y1.snd.snd.fst.modify y1.snd.fst.toNat fun z =>
                { to := { host := (fmarkText.fn (y1.fst, ())).fst, path := z.to.path : SAddr }, left := z.left,
                  guess := z.guess, response := z.response : SConn }).modify
            y1.snd.fst.toNat fun z =>
            {
              to :=
                { host := z.to.host, path := (fmarkText.fn (IntKind.i64.wrap (y1.fst + (1 : Int)), ())).fst : SAddr },
              left := z.left, guess := z.guess, response := z.response : SConn }).length :
      Int)) <|
   .ob (y1.snd.fst.toNat <
  ((y1.snd.snd.fst.modify y1.snd.fst.toNat fun z =>
          { to := { host := (fmarkText.fn (y1.fst, ())).fst, path := z.to.path : SAddr }, left := z.left,
            guess := z.guess, response := z.response : SConn }).modify
      y1.snd.fst.toNat fun z =>
      { to := { host := z.to.host, path := (fmarkText.fn (IntKind.i64.wrap (y1.fst + (1 : Int)), ())).fst : SAddr },
        left := z.left, guess := z.guess, response := z.response : SConn }).length) <|
   .ob ((3 : Int) ≠ (0 : Int)) <|
   .ob ((0 : Int) ≤ y1.snd.fst ∧
  y1.snd.fst <
    (↑(((y1.snd.snd.fst.modify y1.snd.fst.toNat fun z =>
                    { to := { host := (fmarkText.fn (y1.fst, ())).fst, path := z.to.path : SAddr }, left := z.left,
                      guess := z.guess, response := z.response : SConn }).modify
                y1.snd.fst.toNat fun z =>
                {
                  to :=
                    { host := z.to.host, path := (fmarkText.fn (IntKind.i64.wrap (y1.fst + (1 : Int)), ())).fst :
                      SAddr },
                  left := z.left, guess := z.guess, response := z.response : SConn }).modify
            y1.snd.fst.toNat fun z =>
            { to := z.to, left := IntKind.i64.wrap (IntKind.i64.wrap (y1.fst + (1 : Int)) + (1 : Int)),
              guess := z.guess, response := z.response : SConn }).length :
      Int)) <|
   .ob (y1.snd.fst.toNat <
  (((y1.snd.snd.fst.modify y1.snd.fst.toNat fun z =>
              { to := { host := (fmarkText.fn (y1.fst, ())).fst, path := z.to.path : SAddr }, left := z.left,
                guess := z.guess, response := z.response : SConn }).modify
          y1.snd.fst.toNat fun z =>
          { to := { host := z.to.host, path := (fmarkText.fn (IntKind.i64.wrap (y1.fst + (1 : Int)), ())).fst : SAddr },
            left := z.left, guess := z.guess, response := z.response : SConn }).modify
      y1.snd.fst.toNat fun z =>
      { to := z.to, left := IntKind.i64.wrap (IntKind.i64.wrap (y1.fst + (1 : Int)) + (1 : Int)), guess := z.guess,
        response := z.response : SConn }).length) <|
   .ob ((0 : Int) ≤ y1.snd.fst ∧
  y1.snd.fst <
    (↑((((y1.snd.snd.fst.modify y1.snd.fst.toNat fun z =>
                        { to := { host := (fmarkText.fn (y1.fst, ())).fst, path := z.to.path : SAddr }, left := z.left,
                          guess := z.guess, response := z.response : SConn }).modify
                    y1.snd.fst.toNat fun z =>
                    {
                      to :=
                        { host := z.to.host, path := (fmarkText.fn (IntKind.i64.wrap (y1.fst + (1 : Int)), ())).fst :
                          SAddr },
                      left := z.left, guess := z.guess, response := z.response : SConn }).modify
                y1.snd.fst.toNat fun z =>
                { to := z.to, left := IntKind.i64.wrap (IntKind.i64.wrap (y1.fst + (1 : Int)) + (1 : Int)),
                  guess := z.guess, response := z.response : SConn }).modify
            y1.snd.fst.toNat fun z =>
            { to := z.to, left := z.left,
              guess :=
                (IntKind.i64.wrap
                        (IntKind.i64.wrap (IntKind.i64.wrap (y1.fst + (1 : Int)) + (1 : Int)) + (1 : Int))).tmod
                    (3 : Int) ==
                  (0 : Int),
              response := z.response : SConn }).length :
      Int)) <|
   .ob (y1.snd.fst.toNat <
  ((((y1.snd.snd.fst.modify y1.snd.fst.toNat fun z =>
                  { to := { host := (fmarkText.fn (y1.fst, ())).fst, path := z.to.path : SAddr }, left := z.left,
                    guess := z.guess, response := z.response : SConn }).modify
              y1.snd.fst.toNat fun z =>
              {
                to :=
                  { host := z.to.host, path := (fmarkText.fn (IntKind.i64.wrap (y1.fst + (1 : Int)), ())).fst : SAddr },
                left := z.left, guess := z.guess, response := z.response : SConn }).modify
          y1.snd.fst.toNat fun z =>
          { to := z.to, left := IntKind.i64.wrap (IntKind.i64.wrap (y1.fst + (1 : Int)) + (1 : Int)), guess := z.guess,
            response := z.response : SConn }).modify
      y1.snd.fst.toNat fun z =>
      { to := z.to, left := z.left,
        guess :=
          (IntKind.i64.wrap (IntKind.i64.wrap (IntKind.i64.wrap (y1.fst + (1 : Int)) + (1 : Int)) + (1 : Int))).tmod
              (3 : Int) ==
            (0 : Int),
        response := z.response : SConn }).length) <|
   .ob ((0 : Int) ≤ y1.snd.fst ∧
  y1.snd.fst <
    (↑(((((y1.snd.snd.fst.modify y1.snd.fst.toNat fun z =>
                            { to := { host := (fmarkText.fn (y1.fst, ())).fst, path := z.to.path : SAddr },
                              left := z.left, guess := z.guess, response := z.response : SConn }).modify
                        y1.snd.fst.toNat fun z =>
                        {
                          to :=
                            { host := z.to.host,
                              path := (fmarkText.fn (IntKind.i64.wrap (y1.fst + (1 : Int)), ())).fst : SAddr },
                          left := z.left, guess := z.guess, response := z.response : SConn }).modify
                    y1.snd.fst.toNat fun z =>
                    { to := z.to, left := IntKind.i64.wrap (IntKind.i64.wrap (y1.fst + (1 : Int)) + (1 : Int)),
                      guess := z.guess, response := z.response : SConn }).modify
                y1.snd.fst.toNat fun z =>
                { to := z.to, left := z.left,
                  guess :=
                    (IntKind.i64.wrap
                            (IntKind.i64.wrap (IntKind.i64.wrap (y1.fst + (1 : Int)) + (1 : Int)) + (1 : Int))).tmod
                        (3 : Int) ==
                      (0 : Int),
                  response := z.response : SConn }).modify
            y1.snd.fst.toNat fun z =>
            { to := z.to, left := z.left, guess := z.guess,
              response :=
                {
                  status :=
                    IntKind.i64.wrap
                      (IntKind.i64.wrap
                          (IntKind.i64.wrap (IntKind.i64.wrap (y1.fst + (1 : Int)) + (1 : Int)) + (1 : Int)) +
                        (1 : Int)),
                  kind := z.response.kind, body := z.response.body, age := z.response.age, shares := z.response.shares,
                  policy := z.response.policy : SResponse } :
              SConn }).length :
      Int)) <|
   .ob (y1.snd.fst.toNat <
  (((((y1.snd.snd.fst.modify y1.snd.fst.toNat fun z =>
                      { to := { host := (fmarkText.fn (y1.fst, ())).fst, path := z.to.path : SAddr }, left := z.left,
                        guess := z.guess, response := z.response : SConn }).modify
                  y1.snd.fst.toNat fun z =>
                  {
                    to :=
                      { host := z.to.host, path := (fmarkText.fn (IntKind.i64.wrap (y1.fst + (1 : Int)), ())).fst :
                        SAddr },
                    left := z.left, guess := z.guess, response := z.response : SConn }).modify
              y1.snd.fst.toNat fun z =>
              { to := z.to, left := IntKind.i64.wrap (IntKind.i64.wrap (y1.fst + (1 : Int)) + (1 : Int)),
                guess := z.guess, response := z.response : SConn }).modify
          y1.snd.fst.toNat fun z =>
          { to := z.to, left := z.left,
            guess :=
              (IntKind.i64.wrap (IntKind.i64.wrap (IntKind.i64.wrap (y1.fst + (1 : Int)) + (1 : Int)) + (1 : Int))).tmod
                  (3 : Int) ==
                (0 : Int),
            response := z.response : SConn }).modify
      y1.snd.fst.toNat fun z =>
      { to := z.to, left := z.left, guess := z.guess,
        response :=
          {
            status :=
              IntKind.i64.wrap
                (IntKind.i64.wrap (IntKind.i64.wrap (IntKind.i64.wrap (y1.fst + (1 : Int)) + (1 : Int)) + (1 : Int)) +
                  (1 : Int)),
            kind := z.response.kind, body := z.response.body, age := z.response.age, shares := z.response.shares,
            policy := z.response.policy : SResponse } :
        SConn }).length) <|
   .ob (fmarkText.pre
  (IntKind.i64.wrap
      (IntKind.i64.wrap
          (IntKind.i64.wrap
              (IntKind.i64.wrap (IntKind.i64.wrap (IntKind.i64.wrap (y1.fst + (1 : Int)) + (1 : Int)) + (1 : Int)) +
                (1 : Int)) +
            (1 : Int)) +
        (1 : Int)),
    ())) <|
   .ob ((0 : Int) ≤ y1.snd.fst ∧
  y1.snd.fst <
    (↑((((((y1.snd.snd.fst.modify y1.snd.fst.toNat fun z =>
                                { to := { host := (fmarkText.fn (y1.fst, ())).fst, path := z.to.path : SAddr },
                                  left := z.left, guess := z.guess, response := z.response : SConn }).modify
                            y1.snd.fst.toNat fun z =>
                            {
                              to :=
                                { host := z.to.host,
                                  path := (fmarkText.fn (IntKind.i64.wrap (y1.fst + (1 : Int)), ())).fst : SAddr },
                              left := z.left, guess := z.guess, response := z.response : SConn }).modify
                        y1.snd.fst.toNat fun z =>
                        { to := z.to, left := IntKind.i64.wrap (IntKind.i64.wrap (y1.fst + (1 : Int)) + (1 : Int)),
                          guess := z.guess, response := z.response : SConn }).modify
                    y1.snd.fst.toNat fun z =>
                    { to := z.to, left := z.left,
                      guess :=
                        (IntKind.i64.wrap
                                (IntKind.i64.wrap (IntKind.i64.wrap (y1.fst + (1 : Int)) + (1 : Int)) + (1 : Int))).tmod
                            (3 : Int) ==
                          (0 : Int),
                      response := z.response : SConn }).modify
                y1.snd.fst.toNat fun z =>
                { to := z.to, left := z.left, guess := z.guess,
                  response :=
                    {
                      status :=
                        IntKind.i64.wrap
                          (IntKind.i64.wrap
                              (IntKind.i64.wrap (IntKind.i64.wrap (y1.fst + (1 : Int)) + (1 : Int)) + (1 : Int)) +
                            (1 : Int)),
                      kind := z.response.kind, body := z.response.body, age := z.response.age,
                      shares := z.response.shares, policy := z.response.policy : SResponse } :
                  SConn }).modify
            y1.snd.fst.toNat fun z =>
            { to := z.to, left := z.left, guess := z.guess,
              response :=
                { status := z.response.status,
                  kind :=
                    IntKind.i64.wrap
                      (IntKind.i64.wrap
                          (IntKind.i64.wrap
                              (IntKind.i64.wrap (IntKind.i64.wrap (y1.fst + (1 : Int)) + (1 : Int)) + (1 : Int)) +
                            (1 : Int)) +
                        (1 : Int)),
                  body := z.response.body, age := z.response.age, shares := z.response.shares,
                  policy := z.response.policy : SResponse } :
              SConn }).length :
      Int)) <|
   .ob (y1.snd.fst.toNat <
  ((((((y1.snd.snd.fst.modify y1.snd.fst.toNat fun z =>
                          { to := { host := (fmarkText.fn (y1.fst, ())).fst, path := z.to.path : SAddr },
                            left := z.left, guess := z.guess, response := z.response : SConn }).modify
                      y1.snd.fst.toNat fun z =>
                      {
                        to :=
                          { host := z.to.host, path := (fmarkText.fn (IntKind.i64.wrap (y1.fst + (1 : Int)), ())).fst :
                            SAddr },
                        left := z.left, guess := z.guess, response := z.response : SConn }).modify
                  y1.snd.fst.toNat fun z =>
                  { to := z.to, left := IntKind.i64.wrap (IntKind.i64.wrap (y1.fst + (1 : Int)) + (1 : Int)),
                    guess := z.guess, response := z.response : SConn }).modify
              y1.snd.fst.toNat fun z =>
              { to := z.to, left := z.left,
                guess :=
                  (IntKind.i64.wrap
                          (IntKind.i64.wrap (IntKind.i64.wrap (y1.fst + (1 : Int)) + (1 : Int)) + (1 : Int))).tmod
                      (3 : Int) ==
                    (0 : Int),
                response := z.response : SConn }).modify
          y1.snd.fst.toNat fun z =>
          { to := z.to, left := z.left, guess := z.guess,
            response :=
              {
                status :=
                  IntKind.i64.wrap
                    (IntKind.i64.wrap
                        (IntKind.i64.wrap (IntKind.i64.wrap (y1.fst + (1 : Int)) + (1 : Int)) + (1 : Int)) +
                      (1 : Int)),
                kind := z.response.kind, body := z.response.body, age := z.response.age, shares := z.response.shares,
                policy := z.response.policy : SResponse } :
            SConn }).modify
      y1.snd.fst.toNat fun z =>
      { to := z.to, left := z.left, guess := z.guess,
        response :=
          { status := z.response.status,
            kind :=
              IntKind.i64.wrap
                (IntKind.i64.wrap
                    (IntKind.i64.wrap
                        (IntKind.i64.wrap (IntKind.i64.wrap (y1.fst + (1 : Int)) + (1 : Int)) + (1 : Int)) +
                      (1 : Int)) +
                  (1 : Int)),
            body := z.response.body, age := z.response.age, shares := z.response.shares, policy := z.response.policy :
            SResponse } :
        SConn }).length) <|
   .ob ((0 : Int) ≤ y1.snd.fst ∧
  y1.snd.fst <
    (↑(((((((y1.snd.snd.fst.modify y1.snd.fst.toNat fun z =>
                                    { to := { host := (fmarkText.fn (y1.fst, ())).fst, path := z.to.path : SAddr },
                                      left := z.left, guess := z.guess, response := z.response : SConn }).modify
                                y1.snd.fst.toNat fun z =>
                                {
                                  to :=
                                    { host := z.to.host,
                                      path := (fmarkText.fn (IntKind.i64.wrap (y1.fst + (1 : Int)), ())).fst : SAddr },
                                  left := z.left, guess := z.guess, response := z.response : SConn }).modify
                            y1.snd.fst.toNat fun z =>
                            { to := z.to, left := IntKind.i64.wrap (IntKind.i64.wrap (y1.fst + (1 : Int)) + (1 : Int)),
                              guess := z.guess, response := z.response : SConn }).modify
                        y1.snd.fst.toNat fun z =>
                        { to := z.to, left := z.left,
                          guess :=
                            (IntKind.i64.wrap
                                    (IntKind.i64.wrap (IntKind.i64.wrap (y1.fst + (1 : Int)) + (1 : Int)) +
                                      (1 : Int))).tmod
                                (3 : Int) ==
                              (0 : Int),
                          response := z.response : SConn }).modify
                    y1.snd.fst.toNat fun z =>
                    { to := z.to, left := z.left, guess := z.guess,
                      response :=
                        {
                          status :=
                            IntKind.i64.wrap
                              (IntKind.i64.wrap
                                  (IntKind.i64.wrap (IntKind.i64.wrap (y1.fst + (1 : Int)) + (1 : Int)) + (1 : Int)) +
                                (1 : Int)),
                          kind := z.response.kind, body := z.response.body, age := z.response.age,
                          shares := z.response.shares, policy := z.response.policy : SResponse } :
                      SConn }).modify
                y1.snd.fst.toNat fun z =>
                { to := z.to, left := z.left, guess := z.guess,
                  response :=
                    { status := z.response.status,
                      kind :=
                        IntKind.i64.wrap
                          (IntKind.i64.wrap
                              (IntKind.i64.wrap
                                  (IntKind.i64.wrap (IntKind.i64.wrap (y1.fst + (1 : Int)) + (1 : Int)) + (1 : Int)) +
                                (1 : Int)) +
                            (1 : Int)),
                      body := z.response.body, age := z.response.age, shares := z.response.shares,
                      policy := z.response.policy : SResponse } :
                  SConn }).modify
            y1.snd.fst.toNat fun z =>
            { to := z.to, left := z.left, guess := z.guess,
              response :=
                { status := z.response.status, kind := z.response.kind,
                  body :=
                    (fmarkText.fn
                        (IntKind.i64.wrap
                            (IntKind.i64.wrap
                                (IntKind.i64.wrap
                                    (IntKind.i64.wrap
                                        (IntKind.i64.wrap (IntKind.i64.wrap (y1.fst + (1 : Int)) + (1 : Int)) +
                                          (1 : Int)) +
                                      (1 : Int)) +
                                  (1 : Int)) +
                              (1 : Int)),
                          ())).fst,
                  age := z.response.age, shares := z.response.shares, policy := z.response.policy : SResponse } :
              SConn }).length :
      Int)) <|
   .ob (y1.snd.fst.toNat <
  (((((((y1.snd.snd.fst.modify y1.snd.fst.toNat fun z =>
                              { to := { host := (fmarkText.fn (y1.fst, ())).fst, path := z.to.path : SAddr },
                                left := z.left, guess := z.guess, response := z.response : SConn }).modify
                          y1.snd.fst.toNat fun z =>
                          {
                            to :=
                              { host := z.to.host,
                                path := (fmarkText.fn (IntKind.i64.wrap (y1.fst + (1 : Int)), ())).fst : SAddr },
                            left := z.left, guess := z.guess, response := z.response : SConn }).modify
                      y1.snd.fst.toNat fun z =>
                      { to := z.to, left := IntKind.i64.wrap (IntKind.i64.wrap (y1.fst + (1 : Int)) + (1 : Int)),
                        guess := z.guess, response := z.response : SConn }).modify
                  y1.snd.fst.toNat fun z =>
                  { to := z.to, left := z.left,
                    guess :=
                      (IntKind.i64.wrap
                              (IntKind.i64.wrap (IntKind.i64.wrap (y1.fst + (1 : Int)) + (1 : Int)) + (1 : Int))).tmod
                          (3 : Int) ==
                        (0 : Int),
                    response := z.response : SConn }).modify
              y1.snd.fst.toNat fun z =>
              { to := z.to, left := z.left, guess := z.guess,
                response :=
                  {
                    status :=
                      IntKind.i64.wrap
                        (IntKind.i64.wrap
                            (IntKind.i64.wrap (IntKind.i64.wrap (y1.fst + (1 : Int)) + (1 : Int)) + (1 : Int)) +
                          (1 : Int)),
                    kind := z.response.kind, body := z.response.body, age := z.response.age,
                    shares := z.response.shares, policy := z.response.policy : SResponse } :
                SConn }).modify
          y1.snd.fst.toNat fun z =>
          { to := z.to, left := z.left, guess := z.guess,
            response :=
              { status := z.response.status,
                kind :=
                  IntKind.i64.wrap
                    (IntKind.i64.wrap
                        (IntKind.i64.wrap
                            (IntKind.i64.wrap (IntKind.i64.wrap (y1.fst + (1 : Int)) + (1 : Int)) + (1 : Int)) +
                          (1 : Int)) +
                      (1 : Int)),
                body := z.response.body, age := z.response.age, shares := z.response.shares,
                policy := z.response.policy : SResponse } :
            SConn }).modify
      y1.snd.fst.toNat fun z =>
      { to := z.to, left := z.left, guess := z.guess,
        response :=
          { status := z.response.status, kind := z.response.kind,
            body :=
              (fmarkText.fn
                  (IntKind.i64.wrap
                      (IntKind.i64.wrap
                          (IntKind.i64.wrap
                              (IntKind.i64.wrap
                                  (IntKind.i64.wrap (IntKind.i64.wrap (y1.fst + (1 : Int)) + (1 : Int)) + (1 : Int)) +
                                (1 : Int)) +
                            (1 : Int)) +
                        (1 : Int)),
                    ())).fst,
            age := z.response.age, shares := z.response.shares, policy := z.response.policy : SResponse } :
        SConn }).length) <|
   .ob ((3 : Int) ≠ (0 : Int)) <|
   .ob ((0 : Int) ≤ y1.snd.fst ∧
  y1.snd.fst <
    (↑((((((((y1.snd.snd.fst.modify y1.snd.fst.toNat fun z =>
                                        { to := { host := (fmarkText.fn (y1.fst, ())).fst, path := z.to.path : SAddr },
                                          left := z.left, guess := z.guess, response := z.response : SConn }).modify
                                    y1.snd.fst.toNat fun z =>
                                    {
                                      to :=
                                        { host := z.to.host,
                                          path := (fmarkText.fn (IntKind.i64.wrap (y1.fst + (1 : Int)), ())).fst :
                                          SAddr },
                                      left := z.left, guess := z.guess, response := z.response : SConn }).modify
                                y1.snd.fst.toNat fun z =>
                                { to := z.to,
                                  left := IntKind.i64.wrap (IntKind.i64.wrap (y1.fst + (1 : Int)) + (1 : Int)),
                                  guess := z.guess, response := z.response : SConn }).modify
                            y1.snd.fst.toNat fun z =>
                            { to := z.to, left := z.left,
                              guess :=
                                (IntKind.i64.wrap
                                        (IntKind.i64.wrap (IntKind.i64.wrap (y1.fst + (1 : Int)) + (1 : Int)) +
                                          (1 : Int))).tmod
                                    (3 : Int) ==
                                  (0 : Int),
                              response := z.response : SConn }).modify
                        y1.snd.fst.toNat fun z =>
                        { to := z.to, left := z.left, guess := z.guess,
                          response :=
                            {
                              status :=
                                IntKind.i64.wrap
                                  (IntKind.i64.wrap
                                      (IntKind.i64.wrap (IntKind.i64.wrap (y1.fst + (1 : Int)) + (1 : Int)) +
                                        (1 : Int)) +
                                    (1 : Int)),
                              kind := z.response.kind, body := z.response.body, age := z.response.age,
                              shares := z.response.shares, policy := z.response.policy : SResponse } :
                          SConn }).modify
                    y1.snd.fst.toNat fun z =>
                    { to := z.to, left := z.left, guess := z.guess,
                      response :=
                        { status := z.response.status,
                          kind :=
                            IntKind.i64.wrap
                              (IntKind.i64.wrap
                                  (IntKind.i64.wrap
                                      (IntKind.i64.wrap (IntKind.i64.wrap (y1.fst + (1 : Int)) + (1 : Int)) +
                                        (1 : Int)) +
                                    (1 : Int)) +
                                (1 : Int)),
                          body := z.response.body, age := z.response.age, shares := z.response.shares,
                          policy := z.response.policy : SResponse } :
                      SConn }).modify
                y1.snd.fst.toNat fun z =>
                { to := z.to, left := z.left, guess := z.guess,
                  response :=
                    { status := z.response.status, kind := z.response.kind,
                      body :=
                        (fmarkText.fn
                            (IntKind.i64.wrap
                                (IntKind.i64.wrap
                                    (IntKind.i64.wrap
                                        (IntKind.i64.wrap
                                            (IntKind.i64.wrap (IntKind.i64.wrap (y1.fst + (1 : Int)) + (1 : Int)) +
                                              (1 : Int)) +
                                          (1 : Int)) +
                                      (1 : Int)) +
                                  (1 : Int)),
                              ())).fst,
                      age := z.response.age, shares := z.response.shares, policy := z.response.policy : SResponse } :
                  SConn }).modify
            y1.snd.fst.toNat fun z =>
            { to := z.to, left := z.left, guess := z.guess,
              response :=
                { status := z.response.status, kind := z.response.kind, body := z.response.body,
                  age :=
                    IntKind.i64.wrap
                      (IntKind.i64.wrap
                          (IntKind.i64.wrap
                              (IntKind.i64.wrap
                                  (IntKind.i64.wrap
                                      (IntKind.i64.wrap (IntKind.i64.wrap (y1.fst + (1 : Int)) + (1 : Int)) +
                                        (1 : Int)) +
                                    (1 : Int)) +
                                (1 : Int)) +
                            (1 : Int)) +
                        (1 : Int)),
                  shares := z.response.shares, policy := z.response.policy : SResponse } :
              SConn }).length :
      Int)) <|
   .ob (y1.snd.fst.toNat <
  ((((((((y1.snd.snd.fst.modify y1.snd.fst.toNat fun z =>
                                  { to := { host := (fmarkText.fn (y1.fst, ())).fst, path := z.to.path : SAddr },
                                    left := z.left, guess := z.guess, response := z.response : SConn }).modify
                              y1.snd.fst.toNat fun z =>
                              {
                                to :=
                                  { host := z.to.host,
                                    path := (fmarkText.fn (IntKind.i64.wrap (y1.fst + (1 : Int)), ())).fst : SAddr },
                                left := z.left, guess := z.guess, response := z.response : SConn }).modify
                          y1.snd.fst.toNat fun z =>
                          { to := z.to, left := IntKind.i64.wrap (IntKind.i64.wrap (y1.fst + (1 : Int)) + (1 : Int)),
                            guess := z.guess, response := z.response : SConn }).modify
                      y1.snd.fst.toNat fun z =>
                      { to := z.to, left := z.left,
                        guess :=
                          (IntKind.i64.wrap
                                  (IntKind.i64.wrap (IntKind.i64.wrap (y1.fst + (1 : Int)) + (1 : Int)) +
                                    (1 : Int))).tmod
                              (3 : Int) ==
                            (0 : Int),
                        response := z.response : SConn }).modify
                  y1.snd.fst.toNat fun z =>
                  { to := z.to, left := z.left, guess := z.guess,
                    response :=
                      {
                        status :=
                          IntKind.i64.wrap
                            (IntKind.i64.wrap
                                (IntKind.i64.wrap (IntKind.i64.wrap (y1.fst + (1 : Int)) + (1 : Int)) + (1 : Int)) +
                              (1 : Int)),
                        kind := z.response.kind, body := z.response.body, age := z.response.age,
                        shares := z.response.shares, policy := z.response.policy : SResponse } :
                    SConn }).modify
              y1.snd.fst.toNat fun z =>
              { to := z.to, left := z.left, guess := z.guess,
                response :=
                  { status := z.response.status,
                    kind :=
                      IntKind.i64.wrap
                        (IntKind.i64.wrap
                            (IntKind.i64.wrap
                                (IntKind.i64.wrap (IntKind.i64.wrap (y1.fst + (1 : Int)) + (1 : Int)) + (1 : Int)) +
                              (1 : Int)) +
                          (1 : Int)),
                    body := z.response.body, age := z.response.age, shares := z.response.shares,
                    policy := z.response.policy : SResponse } :
                SConn }).modify
          y1.snd.fst.toNat fun z =>
          { to := z.to, left := z.left, guess := z.guess,
            response :=
              { status := z.response.status, kind := z.response.kind,
                body :=
                  (fmarkText.fn
                      (IntKind.i64.wrap
                          (IntKind.i64.wrap
                              (IntKind.i64.wrap
                                  (IntKind.i64.wrap
                                      (IntKind.i64.wrap (IntKind.i64.wrap (y1.fst + (1 : Int)) + (1 : Int)) +
                                        (1 : Int)) +
                                    (1 : Int)) +
                                (1 : Int)) +
                            (1 : Int)),
                        ())).fst,
                age := z.response.age, shares := z.response.shares, policy := z.response.policy : SResponse } :
            SConn }).modify
      y1.snd.fst.toNat fun z =>
      { to := z.to, left := z.left, guess := z.guess,
        response :=
          { status := z.response.status, kind := z.response.kind, body := z.response.body,
            age :=
              IntKind.i64.wrap
                (IntKind.i64.wrap
                    (IntKind.i64.wrap
                        (IntKind.i64.wrap
                            (IntKind.i64.wrap
                                (IntKind.i64.wrap (IntKind.i64.wrap (y1.fst + (1 : Int)) + (1 : Int)) + (1 : Int)) +
                              (1 : Int)) +
                          (1 : Int)) +
                      (1 : Int)) +
                  (1 : Int)),
            shares := z.response.shares, policy := z.response.policy : SResponse } :
        SConn }).length) <|
   .ob (fmarkText.pre
  (IntKind.i64.wrap
      (IntKind.i64.wrap
          (IntKind.i64.wrap
              (IntKind.i64.wrap
                  (IntKind.i64.wrap
                      (IntKind.i64.wrap
                          (IntKind.i64.wrap
                              (IntKind.i64.wrap (IntKind.i64.wrap (y1.fst + (1 : Int)) + (1 : Int)) + (1 : Int)) +
                            (1 : Int)) +
                        (1 : Int)) +
                    (1 : Int)) +
                (1 : Int)) +
            (1 : Int)) +
        (1 : Int)),
    ())) <|
   .ob ((0 : Int) ≤ y1.snd.fst ∧
  y1.snd.fst <
    (↑(((((((((y1.snd.snd.fst.modify y1.snd.fst.toNat fun z =>
                                            {
                                              to :=
                                                { host := (fmarkText.fn (y1.fst, ())).fst, path := z.to.path : SAddr },
                                              left := z.left, guess := z.guess, response := z.response : SConn }).modify
                                        y1.snd.fst.toNat fun z =>
                                        {
                                          to :=
                                            { host := z.to.host,
                                              path := (fmarkText.fn (IntKind.i64.wrap (y1.fst + (1 : Int)), ())).fst :
                                              SAddr },
                                          left := z.left, guess := z.guess, response := z.response : SConn }).modify
                                    y1.snd.fst.toNat fun z =>
                                    { to := z.to,
                                      left := IntKind.i64.wrap (IntKind.i64.wrap (y1.fst + (1 : Int)) + (1 : Int)),
                                      guess := z.guess, response := z.response : SConn }).modify
                                y1.snd.fst.toNat fun z =>
                                { to := z.to, left := z.left,
                                  guess :=
                                    (IntKind.i64.wrap
                                            (IntKind.i64.wrap (IntKind.i64.wrap (y1.fst + (1 : Int)) + (1 : Int)) +
                                              (1 : Int))).tmod
                                        (3 : Int) ==
                                      (0 : Int),
                                  response := z.response : SConn }).modify
                            y1.snd.fst.toNat fun z =>
                            { to := z.to, left := z.left, guess := z.guess,
                              response :=
                                {
                                  status :=
                                    IntKind.i64.wrap
                                      (IntKind.i64.wrap
                                          (IntKind.i64.wrap (IntKind.i64.wrap (y1.fst + (1 : Int)) + (1 : Int)) +
                                            (1 : Int)) +
                                        (1 : Int)),
                                  kind := z.response.kind, body := z.response.body, age := z.response.age,
                                  shares := z.response.shares, policy := z.response.policy : SResponse } :
                              SConn }).modify
                        y1.snd.fst.toNat fun z =>
                        { to := z.to, left := z.left, guess := z.guess,
                          response :=
                            { status := z.response.status,
                              kind :=
                                IntKind.i64.wrap
                                  (IntKind.i64.wrap
                                      (IntKind.i64.wrap
                                          (IntKind.i64.wrap (IntKind.i64.wrap (y1.fst + (1 : Int)) + (1 : Int)) +
                                            (1 : Int)) +
                                        (1 : Int)) +
                                    (1 : Int)),
                              body := z.response.body, age := z.response.age, shares := z.response.shares,
                              policy := z.response.policy : SResponse } :
                          SConn }).modify
                    y1.snd.fst.toNat fun z =>
                    { to := z.to, left := z.left, guess := z.guess,
                      response :=
                        { status := z.response.status, kind := z.response.kind,
                          body :=
                            (fmarkText.fn
                                (IntKind.i64.wrap
                                    (IntKind.i64.wrap
                                        (IntKind.i64.wrap
                                            (IntKind.i64.wrap
                                                (IntKind.i64.wrap (IntKind.i64.wrap (y1.fst + (1 : Int)) + (1 : Int)) +
                                                  (1 : Int)) +
                                              (1 : Int)) +
                                          (1 : Int)) +
                                      (1 : Int)),
                                  ())).fst,
                          age := z.response.age, shares := z.response.shares, policy := z.response.policy :
                          SResponse } :
                      SConn }).modify
                y1.snd.fst.toNat fun z =>
                { to := z.to, left := z.left, guess := z.guess,
                  response :=
                    { status := z.response.status, kind := z.response.kind, body := z.response.body,
                      age :=
                        IntKind.i64.wrap
                          (IntKind.i64.wrap
                              (IntKind.i64.wrap
                                  (IntKind.i64.wrap
                                      (IntKind.i64.wrap
                                          (IntKind.i64.wrap (IntKind.i64.wrap (y1.fst + (1 : Int)) + (1 : Int)) +
                                            (1 : Int)) +
                                        (1 : Int)) +
                                    (1 : Int)) +
                                (1 : Int)) +
                            (1 : Int)),
                      shares := z.response.shares, policy := z.response.policy : SResponse } :
                  SConn }).modify
            y1.snd.fst.toNat fun z =>
            { to := z.to, left := z.left, guess := z.guess,
              response :=
                { status := z.response.status, kind := z.response.kind, body := z.response.body, age := z.response.age,
                  shares :=
                    (IntKind.i64.wrap
                            (IntKind.i64.wrap
                                (IntKind.i64.wrap
                                    (IntKind.i64.wrap
                                        (IntKind.i64.wrap
                                            (IntKind.i64.wrap
                                                (IntKind.i64.wrap (IntKind.i64.wrap (y1.fst + (1 : Int)) + (1 : Int)) +
                                                  (1 : Int)) +
                                              (1 : Int)) +
                                          (1 : Int)) +
                                      (1 : Int)) +
                                  (1 : Int)) +
                              (1 : Int))).tmod
                        (3 : Int) ==
                      (0 : Int),
                  policy := z.response.policy : SResponse } :
              SConn }).length :
      Int)) <|
   .ob (y1.snd.fst.toNat <
  (((((((((y1.snd.snd.fst.modify y1.snd.fst.toNat fun z =>
                                      { to := { host := (fmarkText.fn (y1.fst, ())).fst, path := z.to.path : SAddr },
                                        left := z.left, guess := z.guess, response := z.response : SConn }).modify
                                  y1.snd.fst.toNat fun z =>
                                  {
                                    to :=
                                      { host := z.to.host,
                                        path := (fmarkText.fn (IntKind.i64.wrap (y1.fst + (1 : Int)), ())).fst :
                                        SAddr },
                                    left := z.left, guess := z.guess, response := z.response : SConn }).modify
                              y1.snd.fst.toNat fun z =>
                              { to := z.to,
                                left := IntKind.i64.wrap (IntKind.i64.wrap (y1.fst + (1 : Int)) + (1 : Int)),
                                guess := z.guess, response := z.response : SConn }).modify
                          y1.snd.fst.toNat fun z =>
                          { to := z.to, left := z.left,
                            guess :=
                              (IntKind.i64.wrap
                                      (IntKind.i64.wrap (IntKind.i64.wrap (y1.fst + (1 : Int)) + (1 : Int)) +
                                        (1 : Int))).tmod
                                  (3 : Int) ==
                                (0 : Int),
                            response := z.response : SConn }).modify
                      y1.snd.fst.toNat fun z =>
                      { to := z.to, left := z.left, guess := z.guess,
                        response :=
                          {
                            status :=
                              IntKind.i64.wrap
                                (IntKind.i64.wrap
                                    (IntKind.i64.wrap (IntKind.i64.wrap (y1.fst + (1 : Int)) + (1 : Int)) + (1 : Int)) +
                                  (1 : Int)),
                            kind := z.response.kind, body := z.response.body, age := z.response.age,
                            shares := z.response.shares, policy := z.response.policy : SResponse } :
                        SConn }).modify
                  y1.snd.fst.toNat fun z =>
                  { to := z.to, left := z.left, guess := z.guess,
                    response :=
                      { status := z.response.status,
                        kind :=
                          IntKind.i64.wrap
                            (IntKind.i64.wrap
                                (IntKind.i64.wrap
                                    (IntKind.i64.wrap (IntKind.i64.wrap (y1.fst + (1 : Int)) + (1 : Int)) + (1 : Int)) +
                                  (1 : Int)) +
                              (1 : Int)),
                        body := z.response.body, age := z.response.age, shares := z.response.shares,
                        policy := z.response.policy : SResponse } :
                    SConn }).modify
              y1.snd.fst.toNat fun z =>
              { to := z.to, left := z.left, guess := z.guess,
                response :=
                  { status := z.response.status, kind := z.response.kind,
                    body :=
                      (fmarkText.fn
                          (IntKind.i64.wrap
                              (IntKind.i64.wrap
                                  (IntKind.i64.wrap
                                      (IntKind.i64.wrap
                                          (IntKind.i64.wrap (IntKind.i64.wrap (y1.fst + (1 : Int)) + (1 : Int)) +
                                            (1 : Int)) +
                                        (1 : Int)) +
                                    (1 : Int)) +
                                (1 : Int)),
                            ())).fst,
                    age := z.response.age, shares := z.response.shares, policy := z.response.policy : SResponse } :
                SConn }).modify
          y1.snd.fst.toNat fun z =>
          { to := z.to, left := z.left, guess := z.guess,
            response :=
              { status := z.response.status, kind := z.response.kind, body := z.response.body,
                age :=
                  IntKind.i64.wrap
                    (IntKind.i64.wrap
                        (IntKind.i64.wrap
                            (IntKind.i64.wrap
                                (IntKind.i64.wrap
                                    (IntKind.i64.wrap (IntKind.i64.wrap (y1.fst + (1 : Int)) + (1 : Int)) + (1 : Int)) +
                                  (1 : Int)) +
                              (1 : Int)) +
                          (1 : Int)) +
                      (1 : Int)),
                shares := z.response.shares, policy := z.response.policy : SResponse } :
            SConn }).modify
      y1.snd.fst.toNat fun z =>
      { to := z.to, left := z.left, guess := z.guess,
        response :=
          { status := z.response.status, kind := z.response.kind, body := z.response.body, age := z.response.age,
            shares :=
              (IntKind.i64.wrap
                      (IntKind.i64.wrap
                          (IntKind.i64.wrap
                              (IntKind.i64.wrap
                                  (IntKind.i64.wrap
                                      (IntKind.i64.wrap
                                          (IntKind.i64.wrap (IntKind.i64.wrap (y1.fst + (1 : Int)) + (1 : Int)) +
                                            (1 : Int)) +
                                        (1 : Int)) +
                                    (1 : Int)) +
                                (1 : Int)) +
                            (1 : Int)) +
                        (1 : Int))).tmod
                  (3 : Int) ==
                (0 : Int),
            policy := z.response.policy : SResponse } :
        SConn }).length) <|
   .ob (Value.int IntKind.i64 (0 : Int) = Value.int IntKind.i64 (0 : Int)) <|
   .ob (bk1 (IntKind.i64.wrap
  (IntKind.i64.wrap
      (IntKind.i64.wrap
          (IntKind.i64.wrap
              (IntKind.i64.wrap
                  (IntKind.i64.wrap
                      (IntKind.i64.wrap
                          (IntKind.i64.wrap
                              (IntKind.i64.wrap (IntKind.i64.wrap (y1.fst + (1 : Int)) + (1 : Int)) + (1 : Int)) +
                            (1 : Int)) +
                        (1 : Int)) +
                    (1 : Int)) +
                (1 : Int)) +
            (1 : Int)) +
        (1 : Int)) +
    (1 : Int)), (IntKind.i64.wrap (y1.snd.fst + (1 : Int)), ((((((((((y1.snd.snd.fst.modify y1.snd.fst.toNat fun z =>
                                      { to := { host := (fmarkText.fn (y1.fst, ())).fst, path := z.to.path : SAddr },
                                        left := z.left, guess := z.guess, response := z.response : SConn }).modify
                                  y1.snd.fst.toNat fun z =>
                                  {
                                    to :=
                                      { host := z.to.host,
                                        path := (fmarkText.fn (IntKind.i64.wrap (y1.fst + (1 : Int)), ())).fst :
                                        SAddr },
                                    left := z.left, guess := z.guess, response := z.response : SConn }).modify
                              y1.snd.fst.toNat fun z =>
                              { to := z.to,
                                left := IntKind.i64.wrap (IntKind.i64.wrap (y1.fst + (1 : Int)) + (1 : Int)),
                                guess := z.guess, response := z.response : SConn }).modify
                          y1.snd.fst.toNat fun z =>
                          { to := z.to, left := z.left,
                            guess :=
                              (IntKind.i64.wrap
                                      (IntKind.i64.wrap (IntKind.i64.wrap (y1.fst + (1 : Int)) + (1 : Int)) +
                                        (1 : Int))).tmod
                                  (3 : Int) ==
                                (0 : Int),
                            response := z.response : SConn }).modify
                      y1.snd.fst.toNat fun z =>
                      { to := z.to, left := z.left, guess := z.guess,
                        response :=
                          {
                            status :=
                              IntKind.i64.wrap
                                (IntKind.i64.wrap
                                    (IntKind.i64.wrap (IntKind.i64.wrap (y1.fst + (1 : Int)) + (1 : Int)) + (1 : Int)) +
                                  (1 : Int)),
                            kind := z.response.kind, body := z.response.body, age := z.response.age,
                            shares := z.response.shares, policy := z.response.policy : SResponse } :
                        SConn }).modify
                  y1.snd.fst.toNat fun z =>
                  { to := z.to, left := z.left, guess := z.guess,
                    response :=
                      { status := z.response.status,
                        kind :=
                          IntKind.i64.wrap
                            (IntKind.i64.wrap
                                (IntKind.i64.wrap
                                    (IntKind.i64.wrap (IntKind.i64.wrap (y1.fst + (1 : Int)) + (1 : Int)) + (1 : Int)) +
                                  (1 : Int)) +
                              (1 : Int)),
                        body := z.response.body, age := z.response.age, shares := z.response.shares,
                        policy := z.response.policy : SResponse } :
                    SConn }).modify
              y1.snd.fst.toNat fun z =>
              { to := z.to, left := z.left, guess := z.guess,
                response :=
                  { status := z.response.status, kind := z.response.kind,
                    body :=
                      (fmarkText.fn
                          (IntKind.i64.wrap
                              (IntKind.i64.wrap
                                  (IntKind.i64.wrap
                                      (IntKind.i64.wrap
                                          (IntKind.i64.wrap (IntKind.i64.wrap (y1.fst + (1 : Int)) + (1 : Int)) +
                                            (1 : Int)) +
                                        (1 : Int)) +
                                    (1 : Int)) +
                                (1 : Int)),
                            ())).fst,
                    age := z.response.age, shares := z.response.shares, policy := z.response.policy : SResponse } :
                SConn }).modify
          y1.snd.fst.toNat fun z =>
          { to := z.to, left := z.left, guess := z.guess,
            response :=
              { status := z.response.status, kind := z.response.kind, body := z.response.body,
                age :=
                  IntKind.i64.wrap
                    (IntKind.i64.wrap
                        (IntKind.i64.wrap
                            (IntKind.i64.wrap
                                (IntKind.i64.wrap
                                    (IntKind.i64.wrap (IntKind.i64.wrap (y1.fst + (1 : Int)) + (1 : Int)) + (1 : Int)) +
                                  (1 : Int)) +
                              (1 : Int)) +
                          (1 : Int)) +
                      (1 : Int)),
                shares := z.response.shares, policy := z.response.policy : SResponse } :
            SConn }).modify
      y1.snd.fst.toNat fun z =>
      { to := z.to, left := z.left, guess := z.guess,
        response :=
          { status := z.response.status, kind := z.response.kind, body := z.response.body, age := z.response.age,
            shares :=
              (IntKind.i64.wrap
                      (IntKind.i64.wrap
                          (IntKind.i64.wrap
                              (IntKind.i64.wrap
                                  (IntKind.i64.wrap
                                      (IntKind.i64.wrap
                                          (IntKind.i64.wrap (IntKind.i64.wrap (y1.fst + (1 : Int)) + (1 : Int)) +
                                            (1 : Int)) +
                                        (1 : Int)) +
                                    (1 : Int)) +
                                (1 : Int)) +
                            (1 : Int)) +
                        (1 : Int))).tmod
                  (3 : Int) ==
                (0 : Int),
            policy := z.response.policy : SResponse } :
        SConn }).modify
  y1.snd.fst.toNat fun z =>
  { to := z.to, left := z.left, guess := z.guess,
    response :=
      { status := z.response.status, kind := z.response.kind, body := z.response.body, age := z.response.age,
        shares := z.response.shares,
        policy :=
          (fmarkText.fn
              (IntKind.i64.wrap
                  (IntKind.i64.wrap
                      (IntKind.i64.wrap
                          (IntKind.i64.wrap
                              (IntKind.i64.wrap
                                  (IntKind.i64.wrap
                                      (IntKind.i64.wrap
                                          (IntKind.i64.wrap (IntKind.i64.wrap (y1.fst + (1 : Int)) + (1 : Int)) +
                                            (1 : Int)) +
                                        (1 : Int)) +
                                    (1 : Int)) +
                                (1 : Int)) +
                            (1 : Int)) +
                        (1 : Int)) +
                    (1 : Int)),
                ())).fst :
        SResponse } :
    SConn }, ())))) <|
   .ok)
  (.leaf (.one false [vi (y1.fst)]) [] [((0 : Nat), ⟨Ty.conn, y1.snd.snd.fst⟩)])) (by kernel_rfl) ?_
  refine lpx_i ?_ fun (y1 : Int × Int × List SConn × PUnit) i1 => br_i (fun h2 => ob_i ?_ fun o3 => ob_i ?_ fun o4 => ob_i ?_ fun o5 => ob_i ?_ fun o6 => ob_i ?_ fun o7 => ob_i ?_ fun o8 => ob_i ?_ fun o9 => ob_i ?_ fun o10 => ob_i ?_ fun o11 => ob_i ?_ fun o12 => ob_i ?_ fun o13 => ob_i ?_ fun o14 => ob_i ?_ fun o15 => ob_i ?_ fun o16 => ob_i ?_ fun o17 => ob_i ?_ fun o18 => ob_i ?_ fun o19 => ob_i ?_ fun o20 => ob_i ?_ fun o21 => ob_i ?_ fun o22 => ob_i ?_ fun o23 => ob_i ?_ fun o24 => ob_i ?_ fun o25 => ob_i ?_ fun o26 => ob_i ?_ fun o27 => ob_i ?_ fun o28 => ob_i rfl fun _ => ob_i ?_ fun o29 => trivial) (fun h2 => MS.leaf ?_)
  · exact ⟨by simp, by simp, by simp [markL], by simp [markL]⟩
  all_goals have hp1 : 0 ≤ k := hp.1
  all_goals have hp2 : (markL mkConn l k).2 ≤ 4000000000000000000 := hp.2
  all_goals have i3 : 0 ≤ y1.2.1 ∧ y1.2.1 ≤ l.length ∧ y1.1 = (markL mkConn (l.take y1.2.1.toNat) k).2 ∧ y1.2.2.1 = (markL mkConn (l.take y1.2.1.toNat) k).1 ++ l.drop y1.2.1.toNat := i1
  all_goals have hcnt := markL_cnt (f := mkConn) (fun x k => by simp only [mkConn]; omega) l k
  all_goals have hx : y1.2.2.1.length = l.length := by rw [i3.2.2.2, List.length_append, markL_len, List.length_take, List.length_drop]; omega
  all_goals simp only [decide_eq_true_eq, decide_eq_false_iff_not, hx] at h2
  all_goals clear i1
  all_goals try have hlt : y1.2.1.toNat < l.length := by omega
  all_goals try have ht := markL_take (f := mkConn) hlt k
  all_goals try have hle := (markL_take_le mkConn_mono l (y1.2.1.toNat + 1) k).2
  all_goals try have hl0 := (markL_take_le mkConn_mono l y1.2.1.toNat k).1
  all_goals try rw [ht] at hle
  all_goals try rw [← i3.2.2.1] at hle hl0 ht
  all_goals try simp only [mkConn] at hle
  all_goals first | decide | (simp only [List.length_modify, hx]; omega) | (refine ⟨?_, ?_⟩ <;> (try simp (discharger := omega) only [wrapId']) <;> omega) | skip
  · clear o3 o4 o5
    simp (discharger := omega) only [wrapId', fmarkText]
    have hA : (markL mkConn (l.take y1.2.1.toNat) k).1.length = y1.2.1.toNat := by rw [markL_len, List.length_take]; omega
    refine ⟨⟨by omega, by omega, ?_, ?_⟩, ?_⟩
    · rw [toNat1 (by omega), ht]
      simp only [mkConn]
      omega
    · rw [toNat1 (by omega), ht, i3.2.2.2, drop_cons hlt]
      simp only [mod_at hA, mkConn, Int.add_assoc, Int.reduceAdd, List.append_assoc, List.cons_append, List.nil_append]
    · omega
  · refine MS.leafL (t := .conn) (fn := fun l k => markL mkConn l k) ?_
    have e1 : l.take y1.2.1.toNat = l := List.take_of_length_le (by omega)
    have e2 : l.drop y1.2.1.toNat = [] := List.drop_of_length_le (by omega)
    rw [i3.2.2.2, i3.2.2.1, e1, e2, List.append_nil])
def E14 : D.Env := E13.addM 47 fmarkConnS
theorem E14ok : EOk Try.prog E14 := E13ok.addM k47_13
-- laws.heldConnS
theorem k48_14 : fheldConnS.ok Try.prog 48 := Fct.of (S := fheldConnS) (L := fun ⟨l, k, _⟩ => fun | 2 => some (LheS .conn mkConn l k) | _ => none) (kp := [0,1,4,5,9,20,31,40,51,61,71,82,92,104,115]) E14ok Try.func48 (by kernel_rfl) (by kernel_rfl) (by
  rintro ⟨(l : List SConn), (k : Int), _⟩ hp
  refine holds_of (X := lpx (LheS .conn mkConn l k) (k, ((0 : Int), ())) fun (y1 : Int × Int × PUnit) bk1 =>
 .br (decide (y1.snd.fst < (↑l.length : Int)))
  (.ob ((0 : Int) ≤ y1.snd.fst ∧ y1.snd.fst < (↑l.length : Int)) <|
   .ob (fmarkText.pre (y1.fst, ())) <|
   .br (!(l.getD y1.snd.fst.toNat default).to.host.toList == (fmarkText.fn (y1.fst, ())).fst.toList)
   (.leaf (mkR fheldConnS.rs ((-1 : Int), ())) [] [])
   (.ob ((0 : Int) ≤ y1.snd.fst ∧ y1.snd.fst < (↑l.length : Int)) <|
    .ob (fmarkText.pre (IntKind.i64.wrap (y1.fst + (1 : Int)), ())) <|
    .br (!(l.getD y1.snd.fst.toNat default).to.path.toList ==
    (fmarkText.fn (IntKind.i64.wrap (y1.fst + (1 : Int)), ())).fst.toList)
    (.leaf (mkR fheldConnS.rs ((-1 : Int), ())) [] [])
    (.ob ((0 : Int) ≤ y1.snd.fst ∧ y1.snd.fst < (↑l.length : Int)) <|
     .br ((l.getD y1.snd.fst.toNat default).left != IntKind.i64.wrap (IntKind.i64.wrap (y1.fst + (1 : Int)) + (1 : Int)))
     (.leaf (mkR fheldConnS.rs ((-1 : Int), ())) [] [])
     (.ob ((0 : Int) ≤ y1.snd.fst ∧ y1.snd.fst < (↑l.length : Int)) <|
      .ob ((3 : Int) ≠ (0 : Int)) <|
      .br (!(l.getD y1.snd.fst.toNat default).guess ==
    ((IntKind.i64.wrap (IntKind.i64.wrap (IntKind.i64.wrap (y1.fst + (1 : Int)) + (1 : Int)) + (1 : Int))).tmod
        (3 : Int) ==
      (0 : Int)))
      (.leaf (mkR fheldConnS.rs ((-1 : Int), ())) [] [])
      (.ob ((0 : Int) ≤ y1.snd.fst ∧ y1.snd.fst < (↑l.length : Int)) <|
       .br ((l.getD y1.snd.fst.toNat default).response.status !=
  IntKind.i64.wrap
    (IntKind.i64.wrap (IntKind.i64.wrap (IntKind.i64.wrap (y1.fst + (1 : Int)) + (1 : Int)) + (1 : Int)) + (1 : Int)))
       (.leaf (mkR fheldConnS.rs ((-1 : Int), ())) [] [])
       (.ob ((0 : Int) ≤ y1.snd.fst ∧ y1.snd.fst < (↑l.length : Int)) <|
        .br ((l.getD y1.snd.fst.toNat default).response.kind !=
  IntKind.i64.wrap
    (IntKind.i64.wrap
        (IntKind.i64.wrap (IntKind.i64.wrap (IntKind.i64.wrap (y1.fst + (1 : Int)) + (1 : Int)) + (1 : Int)) +
          (1 : Int)) +
      (1 : Int)))
        (.leaf (mkR fheldConnS.rs ((-1 : Int), ())) [] [])
        (.ob ((0 : Int) ≤ y1.snd.fst ∧ y1.snd.fst < (↑l.length : Int)) <|
         .ob (fmarkText.pre
  (IntKind.i64.wrap
      (IntKind.i64.wrap
          (IntKind.i64.wrap
              (IntKind.i64.wrap (IntKind.i64.wrap (IntKind.i64.wrap (y1.fst + (1 : Int)) + (1 : Int)) + (1 : Int)) +
                (1 : Int)) +
            (1 : Int)) +
        (1 : Int)),
    ())) <|
         .br (!(l.getD y1.snd.fst.toNat default).response.body.toList ==
    (fmarkText.fn
          (IntKind.i64.wrap
              (IntKind.i64.wrap
                  (IntKind.i64.wrap
                      (IntKind.i64.wrap
                          (IntKind.i64.wrap (IntKind.i64.wrap (y1.fst + (1 : Int)) + (1 : Int)) + (1 : Int)) +
                        (1 : Int)) +
                    (1 : Int)) +
                (1 : Int)),
            ())).fst.toList)
         (.leaf (mkR fheldConnS.rs ((-1 : Int), ())) [] [])
         (.ob ((0 : Int) ≤ y1.snd.fst ∧ y1.snd.fst < (↑l.length : Int)) <|
          .br ((l.getD y1.snd.fst.toNat default).response.age !=
  IntKind.i64.wrap
    (IntKind.i64.wrap
        (IntKind.i64.wrap
            (IntKind.i64.wrap
                (IntKind.i64.wrap (IntKind.i64.wrap (IntKind.i64.wrap (y1.fst + (1 : Int)) + (1 : Int)) + (1 : Int)) +
                  (1 : Int)) +
              (1 : Int)) +
          (1 : Int)) +
      (1 : Int)))
          (.leaf (mkR fheldConnS.rs ((-1 : Int), ())) [] [])
          (.ob ((0 : Int) ≤ y1.snd.fst ∧ y1.snd.fst < (↑l.length : Int)) <|
           .ob ((3 : Int) ≠ (0 : Int)) <|
           .br (!(l.getD y1.snd.fst.toNat default).response.shares ==
    ((IntKind.i64.wrap
            (IntKind.i64.wrap
                (IntKind.i64.wrap
                    (IntKind.i64.wrap
                        (IntKind.i64.wrap
                            (IntKind.i64.wrap
                                (IntKind.i64.wrap (IntKind.i64.wrap (y1.fst + (1 : Int)) + (1 : Int)) + (1 : Int)) +
                              (1 : Int)) +
                          (1 : Int)) +
                      (1 : Int)) +
                  (1 : Int)) +
              (1 : Int))).tmod
        (3 : Int) ==
      (0 : Int)))
           (.leaf (mkR fheldConnS.rs ((-1 : Int), ())) [] [])
           (.ob ((0 : Int) ≤ y1.snd.fst ∧ y1.snd.fst < (↑l.length : Int)) <|
            .ob (fmarkText.pre
  (IntKind.i64.wrap
      (IntKind.i64.wrap
          (IntKind.i64.wrap
              (IntKind.i64.wrap
                  (IntKind.i64.wrap
                      (IntKind.i64.wrap
                          (IntKind.i64.wrap
                              (IntKind.i64.wrap (IntKind.i64.wrap (y1.fst + (1 : Int)) + (1 : Int)) + (1 : Int)) +
                            (1 : Int)) +
                        (1 : Int)) +
                    (1 : Int)) +
                (1 : Int)) +
            (1 : Int)) +
        (1 : Int)),
    ())) <|
            .br (!(l.getD y1.snd.fst.toNat default).response.policy.toList ==
    (fmarkText.fn
          (IntKind.i64.wrap
              (IntKind.i64.wrap
                  (IntKind.i64.wrap
                      (IntKind.i64.wrap
                          (IntKind.i64.wrap
                              (IntKind.i64.wrap
                                  (IntKind.i64.wrap
                                      (IntKind.i64.wrap (IntKind.i64.wrap (y1.fst + (1 : Int)) + (1 : Int)) +
                                        (1 : Int)) +
                                    (1 : Int)) +
                                (1 : Int)) +
                            (1 : Int)) +
                        (1 : Int)) +
                    (1 : Int)) +
                (1 : Int)),
            ())).fst.toList)
            (.leaf (mkR fheldConnS.rs ((-1 : Int), ())) [] [])
            (.ob (l = l) <|
             .ob (bk1 (IntKind.i64.wrap
  (IntKind.i64.wrap
      (IntKind.i64.wrap
          (IntKind.i64.wrap
              (IntKind.i64.wrap
                  (IntKind.i64.wrap
                      (IntKind.i64.wrap
                          (IntKind.i64.wrap
                              (IntKind.i64.wrap (IntKind.i64.wrap (y1.fst + (1 : Int)) + (1 : Int)) + (1 : Int)) +
                            (1 : Int)) +
                        (1 : Int)) +
                    (1 : Int)) +
                (1 : Int)) +
            (1 : Int)) +
        (1 : Int)) +
    (1 : Int)), (IntKind.i64.wrap (y1.snd.fst + (1 : Int)), ()))) <|
             .ok)))))))))))
  (.leaf (mkR fheldConnS.rs (y1.fst, ())) [] [])) (by kernel_rfl) ?_
  refine lpx_i ?_ fun (y1 : Int × Int × PUnit) i1 => br_i (fun h2 => ob_i ?_ fun o3 => ob_i ?_ fun o4 => br_i (fun h5 => Fct.leafY ?_) (fun h5 => ob_i ?_ fun o6 => ob_i ?_ fun o7 => br_i (fun h8 => Fct.leafY ?_) (fun h8 => ob_i ?_ fun o9 => br_i (fun h10 => Fct.leafY ?_) (fun h10 => ob_i ?_ fun o11 => ob_i ?_ fun o12 => br_i (fun h13 => Fct.leafY ?_) (fun h13 => ob_i ?_ fun o14 => br_i (fun h15 => Fct.leafY ?_) (fun h15 => ob_i ?_ fun o16 => br_i (fun h17 => Fct.leafY ?_) (fun h17 => ob_i ?_ fun o18 => ob_i ?_ fun o19 => br_i (fun h20 => Fct.leafY ?_) (fun h20 => ob_i ?_ fun o21 => br_i (fun h22 => Fct.leafY ?_) (fun h22 => ob_i ?_ fun o23 => ob_i ?_ fun o24 => br_i (fun h25 => Fct.leafY ?_) (fun h25 => ob_i ?_ fun o26 => ob_i ?_ fun o27 => br_i (fun h28 => Fct.leafY ?_) (fun h28 => ob_i rfl fun _ => ob_i ?_ fun o29 => trivial))))))))))) (fun h2 => Fct.leafY ?_)
  · exact ⟨by simp, by simp, by simp [markL]⟩
  all_goals have hp1 : 0 ≤ k := hp.1
  all_goals have hp2 : (markL mkConn l k).2 ≤ 4000000000000000000 := hp.2.1
  all_goals have hp3 : (markL mkConn l k).1 = l := hp.2.2
  all_goals have i3 : 0 ≤ y1.2.1 ∧ y1.2.1 ≤ l.length ∧ y1.1 = (markL mkConn (l.take y1.2.1.toNat) k).2 := i1
  all_goals have hcnt := markL_cnt (f := mkConn) (fun x k => by simp only [mkConn]; omega) l k
  all_goals simp only [decide_eq_true_eq, decide_eq_false_iff_not] at h2
  all_goals clear i1 hp
  all_goals try have hlt : y1.2.1.toNat < l.length := by omega
  all_goals try have ht := markL_take (f := mkConn) hlt k
  all_goals try have hle := (markL_take_le mkConn_mono l (y1.2.1.toNat + 1) k).2
  all_goals try have hl0 := (markL_take_le mkConn_mono l y1.2.1.toNat k).1
  all_goals try have heq := markL_held hp3 hlt
  all_goals try rw [ht] at hle
  all_goals try rw [← i3.2.2] at hle hl0 ht heq
  all_goals try simp only [mkConn] at hle heq
  all_goals first | decide | omega | (refine ⟨?_, ?_⟩ <;> (try simp (discharger := omega) only [wrapId']) <;> omega) | skip
  all_goals try (exfalso; clear ht; generalize l.getD y1.2.1.toNat default = c at *; subst heq; simp (discharger := omega) [wrapId', fmarkText, Int.add_assoc] at *; done)
  · simp (discharger := omega) only [wrapId']
    refine ⟨⟨by omega, by omega, ?_⟩, ?_⟩
    · rw [toNat1 (by omega), ht]
      simp only [mkConn]
      omega
    · omega
  · have e1 : l.take y1.2.1.toNat = l := List.take_of_length_le (by omega)
    rw [e1] at i3
    show (y1.1, ()) = ((markL mkConn l k).2, ())
    rw [i3.2.2])
def E15 : D.Env := E14.add 48 fheldConnS
theorem E15ok : EOk Try.prog E15 := E14ok.add k48_14
def isOwnGuess (s : SSent) : Bool := !s.guess || decide (s.to.host = s.top)
def fIsOwnGuess : Fct := ⟨[aE .sent], [rB], fun _ => True, fun x => (isOwnGuess x.1, ())⟩
def lSent : Fct := lawFS [.el .sent]
def countGuess : List SConn → Nat
  | [] => 0
  | c :: l => countGuess l + (if c.guess then 1 else 0)
theorem countGuess_app (l : List SConn) (c : SConn) : countGuess (l ++ [c]) = countGuess l + (if c.guess then 1 else 0) := by
  induction l with
  | nil => simp [countGuess]
  | cons d l ih => simp only [List.cons_append, countGuess, ih]; omega
theorem countGuess_take {l : List SConn} {i : Nat} (h : i < l.length) : countGuess (l.take (i + 1)) = countGuess (l.take i) + (if (l.getD i default).guess then 1 else 0) := by rw [take_succ h, countGuess_app]
theorem countGuess_le (l : List SConn) : countGuess l ≤ l.length := by
  induction l with
  | nil => simp [countGuess]
  | cons d l ih => simp only [countGuess, List.length_cons]; split <;> omega
def fCount : Fct := ⟨[aL .conn], [rI], fun x => Sh.good (.sl .conn) x.1, fun x => ((countGuess x.1 : Int), ())⟩
abbrev Lcount (n i : Nat) (l : List SConn) : LInv := ⟨[⟨.s, n, true, .el .int⟩, ⟨.s, i, true, .el .int⟩], fun _ (x : Int × Int × Unit) => 0 ≤ x.2.1 ∧ x.2.1 ≤ l.length ∧ x.1 = countGuess (l.take x.2.1.toNat), fun (x : Int × Int × Unit) => l.length - x.2.1.toNat⟩
def findConn (a : SAddr) : List SConn → Int → Int
  | [], _ => -1
  | c :: l, i => if c.to = a then i else findConn a l (i + 1)
theorem findConn_at {a : SAddr} {l : List SConn} {i : Nat} {z : Int} (h : i < l.length) : findConn a (l.drop i) z = if (l.getD i default).to = a then z else findConn a (l.drop (i + 1)) (z + 1) := by rw [drop_cons h]; rfl
theorem findConn_end {a : SAddr} {l : List SConn} {i : Nat} {z : Int} (h : l.length ≤ i) : findConn a (l.drop i) z = -1 := by rw [List.drop_of_length_le h]; rfl
theorem addrEq (x y : SAddr) : (x.host == y.host && (x.path == y.path && true)) = decide (x = y) := beqAddr x y
def fFind : Fct := ⟨[aL .conn, aE .addr], [rI], fun x => Sh.good (.sl .conn) x.1, fun x => (findConn x.2.1 x.1 0, ())⟩
abbrev Lfind (l : List SConn) (a : SAddr) : LInv := ⟨[⟨.s, 5, true, .el .int⟩, ⟨.b, 3, true, .el .addr⟩], fun _ (x : Int × SAddr × Unit) => 0 ≤ x.1 ∧ x.1 ≤ l.length ∧ x.2.1 = a ∧ findConn a l 0 = findConn a (l.drop x.1.toNat) x.1, fun (x : Int × SAddr × Unit) => l.length - x.1.toNat⟩
-- spec.FindConn
theorem k29_15 : fFind.ok Try.prog 29 := Fct.of (S := fFind) (L := fun ⟨l, a, _⟩ => fun | 2 => some (Lfind l a) | _ => none) (kp := [0,1,3,4,5,9,18]) E15ok Try.func29 (by kernel_rfl) (by kernel_rfl) (by
  rintro ⟨(l : List SConn), (a : SAddr), _⟩ hp
  refine holds_of (X := lpx (Lfind l a) ((0 : Int), (a, ())) fun (y1 : Int × SAddr × PUnit) bk1 =>
 .br (decide (y1.fst < (↑l.length : Int)))
  (.ob ((0 : Int) ≤ y1.fst ∧ y1.fst < (↑l.length : Int)) <|
   .br ((l.getD y1.fst.toNat default).to.host == y1.snd.fst.host &&
  ((l.getD y1.fst.toNat default).to.path == y1.snd.fst.path && true))
   (.leaf (mkR fFind.rs (y1.fst, ())) [] [])
   (.ob (l = l) <|
    .ob (Value.string a.host = Value.string a.host) <|
    .ob (Value.string a.path = Value.string a.path) <|
    .ob (bk1 (IntKind.i64.wrap (y1.fst + (1 : Int)), (y1.snd.fst, ()))) <|
    .ok))
  (.leaf (mkR fFind.rs ((-1 : Int), ())) [] [])) (by kernel_rfl) ?_
  refine lpx_i ?_ fun (y1 : Int × SAddr × PUnit) i1 => br_i (fun h2 => ob_i ?_ fun o3 => br_i (fun h4 => Fct.leafY ?_) (fun h4 => ob_i rfl fun _ => ob_i rfl fun _ => ob_i rfl fun _ => ob_i ?_ fun o5 => trivial)) (fun h2 => Fct.leafY ?_)
  all_goals try simp only [decide_eq_true_eq, decide_eq_false_iff_not, Bool.not_eq_true', Bool.not_eq_false', bne_iff_ne, bne_eq_false_iff_eq, beq_iff_eq, beq_eq_false_iff_ne, baEq, Int.not_lt, Int.not_le, ne_eq, Decidable.not_not] at *
  all_goals try simp only [Lfind, fFind, decide_eq_true_eq, decide_eq_false_iff_not, Bool.not_eq_true', Bool.not_eq_false', bne_iff_ne, bne_eq_false_iff_eq, beq_iff_eq, beq_eq_false_iff_ne, Bool.not_eq_true, Bool.not_eq_false, ne_eq, Decidable.not_not, baEq, decide_not, Prod.mk.injEq, and_true, true_and, Room, List.nil_append, Nat.zero_add, Int.not_lt, Int.not_le] at *
  all_goals try simp only [addrEq, decide_eq_true_eq, decide_eq_false_iff_not] at *
  · exact ⟨by omega, by omega, by simp⟩
  · omega
  · rw [findConn_at (by omega), if_pos (h4.trans i1.2.2.1)] at i1
    exact i1.2.2.2.symm
  · rw [findConn_at (by omega), if_neg (fun h => h4 (h.trans i1.2.2.1.symm))] at i1
    have hn := good_len hp
    simp only [maxLen] at hn
    rw [wrapId (by omega), toNat1 (by omega)]
    exact ⟨⟨by omega, by omega, i1.2.2.1, i1.2.2.2⟩, by omega⟩
  · rw [findConn_end (by omega)] at i1
    exact i1.2.2.2.symm)
def E16 : D.Env := E15.add 29 fFind
theorem E16ok : EOk Try.prog E16 := E15ok.add k29_15
def fFind1 : Fct := ⟨[aE .conn, .p (.el .addr)], [rB], fun _ => True, fun x => (decide (x.1.to = x.2.1), ())⟩
-- impl.FindConn$1
theorem k74_16 : fFind1.ok Try.prog 74 := Fct.of (S := fFind1) (L := fun _ _ => none) (kp := [0,1,2,3]) E16ok Try.func74 (by kernel_rfl) (by kernel_rfl) (by
  rintro ⟨(c : SConn), (a : SAddr), _⟩ hp
  refine holds_of (X := .leaf (mkR fFind1.rs (c.to.host == a.host && (c.to.path == a.path && true), ())) [] []) (by kernel_rfl) ?_
  refine Fct.leafY ?_
  show (_, ()) = (_, ())
  rw [addrEq])
def E17 : D.Env := E16.add 74 fFind1
theorem E17ok : EOk Try.prog E17 := E16ok.add k74_16
def fIdxFind : Fct := ⟨[aL .conn, .c 74 [.el .addr]], [rI], fun x => Sh.good (.sl .conn) x.1, fun x => (findConn x.2.1.1 x.1 0, ())⟩
abbrev Lidx (l : List SConn) (F : List SConn → Int → Int) : LInv := ⟨[⟨.s, 8, true, .el .int⟩], fun _ (x : Int × Unit) => 0 ≤ x.1 ∧ x.1 ≤ l.length ∧ F l 0 = F (l.drop x.1.toNat) x.1, fun (x : Int × Unit) => l.length - x.1.toNat⟩
abbrev Lidxf (l : List SConn) (a : SAddr × Unit) : LInv := Lidx l (findConn a.1)
-- slices.IndexFunc[[]impl.Conn,impl.Conn]
theorem k73_17 : fIdxFind.ok Try.prog 73 := Fct.of (S := fIdxFind) (L := fun ⟨l, a, _⟩ => fun | 2 => some (Lidxf l a) | _ => none) (kp := [0,1,4,5,7,8,9,16]) E17ok Try.func73 (by kernel_rfl) (by kernel_rfl) (by
  rintro ⟨(l : List SConn), (a : SAddr × PUnit), _⟩ hp
  refine holds_of (X := lpx (Lidxf l a) ((0 : Int), ()) fun (y1 : Int × PUnit) bk1 =>
 .br (decide (y1.fst < (↑l.length : Int)))
  (.ob ((0 : Int) ≤ y1.fst ∧ y1.fst < (↑l.length : Int)) <|
   .ob (fFind1.pre (l.getD y1.fst.toNat default, a.fst, ())) <|
   .br ((fFind1.fn (l.getD y1.fst.toNat default, a.fst, ())).fst)
   (.leaf (mkR fIdxFind.rs (y1.fst, ())) [] [])
   (.ob (l = l) <|
    .ob (enc Ty.addr a.fst = enc Ty.addr a.fst) <|
    .ob (Value.int IntKind.i64 (↑l.length : Int) = Value.int IntKind.i64 (↑l.length : Int)) <|
    .ob (bk1 (IntKind.i64.wrap (y1.fst + (1 : Int)), ())) <|
    .ok))
  (.leaf (mkR fIdxFind.rs ((-1 : Int), ())) [] [])) (by kernel_rfl) ?_
  refine lpx_i ?_ fun (y1 : Int × PUnit) i1 => br_i (fun h2 => ob_i ?_ fun o3 => ob_i trivial fun _ => br_i (fun h4 => Fct.leafY ?_) (fun h4 => ob_i rfl fun _ => ob_i rfl fun _ => ob_i rfl fun _ => ob_i ?_ fun o5 => trivial)) (fun h2 => Fct.leafY ?_)
  all_goals try simp only [decide_eq_true_eq, decide_eq_false_iff_not, Bool.not_eq_true', Bool.not_eq_false', bne_iff_ne, bne_eq_false_iff_eq, beq_iff_eq, beq_eq_false_iff_ne, baEq, Int.not_lt, Int.not_le, ne_eq, Decidable.not_not] at *
  all_goals try simp only [Lidxf, fFind1, fIdxFind, decide_eq_true_eq, decide_eq_false_iff_not, Bool.not_eq_true', Bool.not_eq_false', bne_iff_ne, bne_eq_false_iff_eq, beq_iff_eq, beq_eq_false_iff_ne, Bool.not_eq_true, Bool.not_eq_false, ne_eq, Decidable.not_not, baEq, decide_not, Prod.mk.injEq, and_true, true_and, Room, List.nil_append, Nat.zero_add, Int.not_lt, Int.not_le] at *
  all_goals try simp only [addrEq, decide_eq_true_eq, decide_eq_false_iff_not] at *
  · exact ⟨by omega, by omega, by simp⟩
  · omega
  · rw [findConn_at (by omega), if_pos h4] at i1
    exact i1.2.2.symm
  · rw [findConn_at (by omega), if_neg h4] at i1
    have hn := good_len hp
    simp only [maxLen] at hn
    rw [wrapId (by omega), toNat1 (by omega)]
    exact ⟨⟨by omega, by omega, i1.2.2⟩, by omega⟩
  · rw [findConn_end (by omega)] at i1
    exact i1.2.2.symm)
def E18 : D.Env := E17.add 73 fIdxFind
theorem E18ok : EOk Try.prog E18 := E17ok.add k73_17
-- impl.FindConn
theorem k31_18 : fFind.ok Try.prog 31 := Fct.of (S := fFind) (L := fun _ _ => none) (kp := [0,1,3,4]) E18ok Try.func31 (by kernel_rfl) (by kernel_rfl) (by
  rintro ⟨(l : List SConn), (a : SAddr), _⟩ hp
  refine holds_of (X := .ob (fIdxFind.pre (l, (a, ()), ())) <|
 .leaf (mkR fFind.rs ((fIdxFind.fn (l, (a, ()), ())).fst, ())) [] []) (by kernel_rfl) ?_
  refine ob_i ?_ fun o1 => Fct.leafY ?_
  all_goals try simp only [decide_eq_true_eq, decide_eq_false_iff_not, Bool.not_eq_true', Bool.not_eq_false', bne_iff_ne, bne_eq_false_iff_eq, beq_iff_eq, beq_eq_false_iff_ne, baEq, Int.not_lt, Int.not_le, ne_eq, Decidable.not_not] at *
  all_goals try simp only [fFind, fIdxFind, decide_eq_true_eq, decide_eq_false_iff_not, Bool.not_eq_true', Bool.not_eq_false', bne_iff_ne, bne_eq_false_iff_eq, beq_iff_eq, beq_eq_false_iff_ne, Bool.not_eq_true, Bool.not_eq_false, ne_eq, Decidable.not_not, baEq, decide_not, Prod.mk.injEq, and_true, true_and, Room, List.nil_append, Nat.zero_add, Int.not_lt, Int.not_le] at *
  all_goals first | trivial | omega | (simp_all; done) | (simp_all; omega) | grind)
def E19 : D.Env := E18.add 31 fFind
theorem E19ok : EOk Try.prog E19 := E18ok.add k31_18
def firstDone : List SConn → Int → Int
  | [], _ => -1
  | c :: l, i => if c.left ≤ 0 then i else firstDone l (i + 1)
theorem firstDone_at {l : List SConn} {i : Nat} {z : Int} (h : i < l.length) : firstDone (l.drop i) z = if (l.getD i default).left ≤ 0 then z else firstDone (l.drop (i + 1)) (z + 1) := by rw [drop_cons h]; rfl
theorem firstDone_end {l : List SConn} {i : Nat} {z : Int} (h : l.length ≤ i) : firstDone (l.drop i) z = -1 := by rw [List.drop_of_length_le h]; rfl
def fFirst : Fct := ⟨[aL .conn], [rI], fun x => Sh.good (.sl .conn) x.1, fun x => (firstDone x.1 0, ())⟩
abbrev Lfirst (l : List SConn) : LInv := ⟨[⟨.s, 3, true, .el .int⟩], fun _ (x : Int × Unit) => 0 ≤ x.1 ∧ x.1 ≤ l.length ∧ firstDone l 0 = firstDone (l.drop x.1.toNat) x.1, fun (x : Int × Unit) => l.length - x.1.toNat⟩
def fFirst1 : Fct := ⟨[aE .conn], [rB], fun _ => True, fun x => (decide (x.1.left ≤ 0), ())⟩
def fIdxFirst : Fct := ⟨[aL .conn, .c 75 []], [rI], fun x => Sh.good (.sl .conn) x.1, fun x => (firstDone x.1 0, ())⟩
def lConnS : Fct := lawFS [.sl .conn]
def lConnSAddr : Fct := lawFS [.sl .conn, .el .addr]
def inRange (n lo hi : Int) : Bool := decide (lo ≤ n) && decide (n ≤ hi)
def fInRange : Fct := ⟨[aI, aI, aI], [rB], fun _ => True, fun (x : Int × Int × Int × Unit) => (inRange x.1 x.2.1 x.2.2.1, ())⟩
def fMax : Fct := ⟨[aI, aI], [rI], fun _ => True, fun (x : Int × Int × Unit) => (max x.1 x.2.1, ())⟩
def fCopyConns : Fct := ⟨[aL .conn], [rL .conn], fun (x : List SConn × Unit) => x.1.length ≤ 1048576, fun (x : List SConn × Unit) => (x.1, ())⟩
-- impl.copyConns
theorem k84_19 : fCopyConns.ok Try.prog 84 := Fct.of (S := fCopyConns) (L := fun _ _ => none) (kp := [0,2]) E19ok Try.func84 (by kernel_rfl) (by kernel_rfl) (by
  rintro ⟨(l : List SConn), _⟩ hp
  refine holds_of (X := .ob (True) <|
 .ob (Room ((0 : Nat) + List.length l) (112 : Nat)) <|
 .leaf (mkR fCopyConns.rs ([] ++ l, ())) [] []) (by kernel_rfl) ?_
  refine ob_i trivial fun _ => ob_i ?_ fun o1 => Fct.leafY ?_
  all_goals try simp only [decide_eq_true_eq, decide_eq_false_iff_not, Bool.not_eq_true', Bool.not_eq_false', bne_iff_ne, bne_eq_false_iff_eq, beq_iff_eq, beq_eq_false_iff_ne, baEq, Int.not_lt, Int.not_le, ne_eq, Decidable.not_not] at *
  all_goals try simp only [fCopyConns, decide_eq_true_eq, decide_eq_false_iff_not, Bool.not_eq_true', Bool.not_eq_false', bne_iff_ne, bne_eq_false_iff_eq, beq_iff_eq, beq_eq_false_iff_ne, Bool.not_eq_true, Bool.not_eq_false, ne_eq, Decidable.not_not, baEq, decide_not, Prod.mk.injEq, and_true, true_and, Room, List.nil_append, Nat.zero_add, Int.not_lt, Int.not_le] at *
  all_goals first | trivial | omega | (simp_all; done) | (simp_all; omega) | grind)
def E20 : D.Env := E19.add 84 fCopyConns
theorem E20ok : EOk Try.prog E20 := E19ok.add k84_19
def moveOne (b : Int) (c : SConn) : SConn := { c with left := max 0 (IntKind.i64.wrap (c.left - b)) }
def moveConns (l : List SConn) (b : Int) : List SConn := if inRange b 0 1000 then l.map (moveOne b) else l
def fMove : Fct := ⟨[aL .conn, aI], [rL .conn], fun (x : List SConn × Int × Unit) => x.1.length ≤ 1048576, fun (x : List SConn × Int × Unit) => (moveConns x.1 x.2.1, ())⟩
abbrev L45 (l : List SConn) (b : Int) : LInv := ⟨[⟨.s, 6, true, .el .int⟩, ⟨.s, 5, true, .sl .conn⟩], fun _ (x : Int × List SConn × Unit) => 0 ≤ x.1 ∧ x.1 ≤ l.length ∧ x.2.1 = moveConns (l.take x.1.toNat) b ++ l.drop x.1.toNat, fun (x : Int × List SConn × Unit) => l.length - x.1.toNat⟩
theorem moveConns_len (l : List SConn) (b : Int) : (moveConns l b).length = l.length := by unfold moveConns; split <;> simp
theorem moveConns_nil (b : Int) : moveConns [] b = [] := by unfold moveConns; split <;> rfl
theorem moveConns_step {l : List SConn} {b : Int} {i : Nat} (hb : inRange b 0 1000 = true) (h : i < l.length) {g : SConn → SConn} (hg : g (l.getD i default) = moveOne b (l.getD i default)) : (moveConns (l.take i) b ++ l.drop i).modify i g = moveConns (l.take (i + 1)) b ++ l.drop (i + 1) := by
  rw [drop_cons h, mod_at (by rw [moveConns_len, List.length_take]; omega), take_succ h]
  simp only [moveConns, hb, if_true, List.map_append, List.map_cons, List.map_nil, List.append_assoc, List.cons_append, List.nil_append, hg]
theorem moveConns_out {l : List SConn} {b : Int} {i : Nat} (hb : inRange b 0 1000 = false) : moveConns (l.take i) b ++ l.drop i = moveConns l b := by
  simp [moveConns, hb]
abbrev L46 (l : List SConn) (b : Int) : LInv := ⟨[⟨.s, 15, true, .el .int⟩, ⟨.s, 5, true, .sl .conn⟩], fun _ (x : Int × List SConn × Unit) => 0 ≤ x.1 ∧ x.1 ≤ l.length ∧ x.2.1 = moveConns (l.take x.1.toNat) b ++ l.drop x.1.toNat, fun (x : Int × List SConn × Unit) => l.length - x.1.toNat⟩
def lMove : Fct := lawFS [.sl .conn, .el .int]
theorem mkConn_idem (x : SConn) (k : Int) : mkConn (mkConn x k).1 k = mkConn x k := rfl
def sizeResponse (x : SResponse) : Int := x.body.size + 20
def fSizeResponse : Fct := ⟨[aE .response], [rI], fun (x : SResponse × Unit) => x.1.body.size ≤ 1048576, fun (x : SResponse × Unit) => (sizeResponse x.1, ())⟩
-- spec.SizeResponse
theorem k86_20 : fSizeResponse.ok Try.prog 86 := Fct.of (S := fSizeResponse) (L := fun _ _ => none) (kp := [0,1,2]) E20ok Try.func86 (by kernel_rfl) (by kernel_rfl) (by
  rintro ⟨(x : SResponse), _⟩ hp
  refine holds_of (X := .leaf (mkR fSizeResponse.rs (IntKind.i64.wrap ((↑x.body.size : Int) + (20 : Int)), ())) [] []) (by kernel_rfl) ?_
  refine Fct.leafY ?_
  all_goals try simp only [decide_eq_true_eq, decide_eq_false_iff_not, Bool.not_eq_true', Bool.not_eq_false', bne_iff_ne, bne_eq_false_iff_eq, beq_iff_eq, beq_eq_false_iff_ne, baEq, Int.not_lt, Int.not_le, ne_eq, Decidable.not_not] at *
  all_goals try simp only [fSizeResponse, decide_eq_true_eq, decide_eq_false_iff_not, Bool.not_eq_true', Bool.not_eq_false', bne_iff_ne, bne_eq_false_iff_eq, beq_iff_eq, beq_eq_false_iff_ne, Bool.not_eq_true, Bool.not_eq_false, ne_eq, Decidable.not_not, baEq, decide_not, Prod.mk.injEq, and_true, true_and, Room, List.nil_append, Nat.zero_add, Int.not_lt, Int.not_le, sizeResponse] at *
  rw [wrapId (by omega)])
def E21 : D.Env := E20.add 86 fSizeResponse
theorem E21ok : EOk Try.prog E21 := E20ok.add k86_20
-- impl.SizeResponse
theorem k65_21 : fSizeResponse.ok Try.prog 65 := Fct.of (S := fSizeResponse) (L := fun _ _ => none) (kp := [0,1,2]) E21ok Try.func65 (by kernel_rfl) (by kernel_rfl) (by
  rintro ⟨(x : SResponse), _⟩ hp
  refine holds_of (X := .leaf (mkR fSizeResponse.rs (IntKind.i64.wrap ((↑x.body.size : Int) + (20 : Int)), ())) [] []) (by kernel_rfl) ?_
  refine Fct.leafY ?_
  all_goals try simp only [decide_eq_true_eq, decide_eq_false_iff_not, Bool.not_eq_true', Bool.not_eq_false', bne_iff_ne, bne_eq_false_iff_eq, beq_iff_eq, beq_eq_false_iff_ne, baEq, Int.not_lt, Int.not_le, ne_eq, Decidable.not_not] at *
  all_goals try simp only [fSizeResponse, decide_eq_true_eq, decide_eq_false_iff_not, Bool.not_eq_true', Bool.not_eq_false', bne_iff_ne, bne_eq_false_iff_eq, beq_iff_eq, beq_eq_false_iff_ne, Bool.not_eq_true, Bool.not_eq_false, ne_eq, Decidable.not_not, baEq, decide_not, Prod.mk.injEq, and_true, true_and, Room, List.nil_append, Nat.zero_add, Int.not_lt, Int.not_le, sizeResponse] at *
  rw [wrapId (by omega)])
def E22 : D.Env := E21.add 65 fSizeResponse
theorem E22ok : EOk Try.prog E22 := E21ok.add k65_21
def openConn (l : List SConn) (a : SAddr) (x : SResponse) (g : Bool) : List SConn × Bool := if (l.length : Int) ≥ 3 ∨ findConn a l 0 ≥ 0 then (l, false) else (l ++ [⟨a, sizeResponse x, g, x⟩], true)
def fOpen : Fct := ⟨[aL .conn, aE .addr, aE .response, aB], [rL .conn, rB], fun (x : List SConn × SAddr × SResponse × Bool × Unit) => x.1.length ≤ 1048576 ∧ Sh.good (.sl .conn) x.1 ∧ x.2.2.1.body.size ≤ 1048576, fun (x : List SConn × SAddr × SResponse × Bool × Unit) => ((openConn x.1 x.2.1 x.2.2.1 x.2.2.2.1).1, (openConn x.1 x.2.1 x.2.2.1 x.2.2.2.1).2, ())⟩
-- spec.OpenConn
theorem k52_22 : fOpen.ok Try.prog 52 := Fct.of (S := fOpen) (L := fun _ _ => none) (kp := [0,1,2,3,5,6,8,9,10,22]) E22ok Try.func52 (by kernel_rfl) (by kernel_rfl) (by
  rintro ⟨(l : List SConn), (a : SAddr), (x : SResponse), (g : Bool), _⟩ hp
  refine holds_of (X := .ob (True) <|
 .ob (Room ((0 : Nat) + List.length l) (112 : Nat)) <|
 .br (decide ((↑(List.length l) : Int) ≥ (3 : Int)))
 (.leaf (mkR fOpen.rs ([] ++ l, false, ())) [] [])
 (.ob (fFind.pre (l, a, ())) <|
  .br (decide ((fFind.fn (l, a, ())).fst ≥ (0 : Int)))
  (.leaf (mkR fOpen.rs ([] ++ l, false, ())) [] [])
  (.ob (fSizeResponse.pre (x, ())) <|
   .ob (True) <|
   .ob (Room
  (([] ++ l).length + [{ to := a, left := (fSizeResponse.fn (x, ())).fst, guess := g, response := x : SConn }].length)
  (112 : Nat)) <|
   .leaf (mkR fOpen.rs ([] ++ l ++ [{ to := a, left := (fSizeResponse.fn (x, ())).fst, guess := g, response := x : SConn }], true, ())) [] []))) (by kernel_rfl) ?_
  refine ob_i trivial fun _ => ob_i ?_ fun o1 => br_i (fun h2 => Fct.leafY ?_) (fun h2 => ob_i ?_ fun o3 => br_i (fun h4 => Fct.leafY ?_) (fun h4 => ob_i ?_ fun o5 => ob_i trivial fun _ => ob_i ?_ fun o6 => Fct.leafY ?_))
  all_goals have hp1 : l.length ≤ 1048576 := hp.1
  all_goals have hp2 : Sh.good (.sl .conn) l := hp.2.1
  all_goals have hp3 : x.body.size ≤ 1048576 := hp.2.2
  all_goals clear hp
  all_goals try simp only [decide_eq_true_eq, decide_eq_false_iff_not, Bool.not_eq_true', Bool.not_eq_false', bne_iff_ne, bne_eq_false_iff_eq, beq_iff_eq, beq_eq_false_iff_ne, baEq, Int.not_lt, Int.not_le, ne_eq, Decidable.not_not] at *
  all_goals try simp only [fFind, fOpen, fSizeResponse, decide_eq_true_eq, decide_eq_false_iff_not, Bool.not_eq_true', Bool.not_eq_false', bne_iff_ne, bne_eq_false_iff_eq, beq_iff_eq, beq_eq_false_iff_ne, Bool.not_eq_true, Bool.not_eq_false, ne_eq, Decidable.not_not, baEq, decide_not, Prod.mk.injEq, and_true, true_and, Room, List.nil_append, Nat.zero_add, Int.not_lt, Int.not_le, fCopyConns, List.length_append, List.length_cons, List.length_nil] at *
  all_goals first | trivial | omega | exact hp2 | (simp [openConn, h2]; done) | (simp [openConn, h4]; done) | (have hh : ¬ ((3 : Int) ≤ (l.length : Int) ∨ 0 ≤ findConn a l 0) := by omega; simp [openConn, hh]; done) | skip
  all_goals
    rw [openConn, if_neg (show ¬ ((l.length : Int) ≥ 3 ∨ findConn a l 0 ≥ 0) by rintro (h | h) <;> omega)]
    exact ⟨rfl, rfl⟩)
def E23 : D.Env := E22.add 52 fOpen
theorem E23ok : EOk Try.prog E23 := E22ok.add k52_22
-- impl.OpenConn
theorem k54_23 : fOpen.ok Try.prog 54 := Fct.of (S := fOpen) (L := fun _ _ => none) (kp := [0,1,2,3,5,6,8,9,10,21]) E23ok Try.func54 (by kernel_rfl) (by kernel_rfl) (by
  rintro ⟨(l : List SConn), (a : SAddr), (x : SResponse), (g : Bool), _⟩ hp
  refine holds_of (X := .ob (fCopyConns.pre (l, ())) <|
 .br (decide ((↑(List.length l) : Int) ≥ (3 : Int)))
 (.leaf (mkR fOpen.rs ((fCopyConns.fn (l, ())).fst, false, ())) [] [])
 (.ob (fFind.pre (l, a, ())) <|
  .br (decide ((fFind.fn (l, a, ())).fst ≥ (0 : Int)))
  (.leaf (mkR fOpen.rs ((fCopyConns.fn (l, ())).fst, false, ())) [] [])
  (.ob (fSizeResponse.pre (x, ())) <|
   .ob (True) <|
   .ob (Room
  ((fCopyConns.fn (l, ())).fst.length +
    [{ to := a, left := (fSizeResponse.fn (x, ())).fst, guess := g, response := x : SConn }].length)
  (112 : Nat)) <|
   .leaf (mkR fOpen.rs ((fCopyConns.fn (l, ())).fst ++ [{ to := a, left := (fSizeResponse.fn (x, ())).fst, guess := g, response := x : SConn }], true, ())) [] []))) (by kernel_rfl) ?_
  refine ob_i ?_ fun o1 => br_i (fun h2 => Fct.leafY ?_) (fun h2 => ob_i ?_ fun o3 => br_i (fun h4 => Fct.leafY ?_) (fun h4 => ob_i ?_ fun o5 => ob_i trivial fun _ => ob_i ?_ fun o6 => Fct.leafY ?_))
  all_goals have hp1 : l.length ≤ 1048576 := hp.1
  all_goals have hp2 : Sh.good (.sl .conn) l := hp.2.1
  all_goals have hp3 : x.body.size ≤ 1048576 := hp.2.2
  all_goals clear hp
  all_goals try simp only [decide_eq_true_eq, decide_eq_false_iff_not, Bool.not_eq_true', Bool.not_eq_false', bne_iff_ne, bne_eq_false_iff_eq, beq_iff_eq, beq_eq_false_iff_ne, baEq, Int.not_lt, Int.not_le, ne_eq, Decidable.not_not] at *
  all_goals try simp only [fCopyConns, fFind, fOpen, fSizeResponse, decide_eq_true_eq, decide_eq_false_iff_not, Bool.not_eq_true', Bool.not_eq_false', bne_iff_ne, bne_eq_false_iff_eq, beq_iff_eq, beq_eq_false_iff_ne, Bool.not_eq_true, Bool.not_eq_false, ne_eq, Decidable.not_not, baEq, decide_not, Prod.mk.injEq, and_true, true_and, Room, List.nil_append, Nat.zero_add, Int.not_lt, Int.not_le, fCopyConns, List.length_append, List.length_cons, List.length_nil] at *
  all_goals first | trivial | omega | exact hp2 | (simp [openConn, h2]; done) | (simp [openConn, h4]; done) | (have hh : ¬ ((3 : Int) ≤ (l.length : Int) ∨ 0 ≤ findConn a l 0) := by omega; simp [openConn, hh]; done) | skip
  all_goals
    rw [openConn, if_neg (show ¬ ((l.length : Int) ≥ 3 ∨ findConn a l 0 ≥ 0) by rintro (h | h) <;> omega)]
    exact ⟨rfl, rfl⟩)
def E24 : D.Env := E23.add 54 fOpen
theorem E24ok : EOk Try.prog E24 := E23ok.add k54_23
def lOpen : Fct := lawFS [.sl .conn, .el .addr, .el .response, .el .bool]
theorem openConn_len (l : List SConn) (a : SAddr) (x : SResponse) (g : Bool) : (openConn l a x g).1.length ≤ l.length + 1 := by unfold openConn; split <;> simp
-- laws.FnExactOpenConn
theorem k12_24 : lOpen.ok Try.prog 12 := Fct.of (S := lOpen) (L := fun _ _ => none) (kp := [0,1,2,3,5,6,8,9,10,11,12,13,14,15,16,17,18,19,24,29,34,66,71,87,95,98,118,123,126]) E24ok Try.func12 (by kernel_rfl) (by kernel_rfl) (by
  rintro ⟨(l : List SConn), (a : SAddr), (x : SResponse), (g : Bool), _⟩ hp
  refine holds_of (X := .ob (fszConnS.pre (l, (1048576 : Int), ())) <|
 .br (decide ((fszConnS.fn (l, (1048576 : Int), ())).fst < (0 : Int)))
 (.leaf (mkR lOpen.rs (true, ())) [] [])
 (.ob (fszAddr.pre (a, (fszConnS.fn (l, (1048576 : Int), ())).fst, ())) <|
  .br (decide ((fszAddr.fn (a, (fszConnS.fn (l, (1048576 : Int), ())).fst, ())).fst < (0 : Int)))
  (.leaf (mkR lOpen.rs (true, ())) [] [])
  (.ob (fszResponse.pre (x, (fszAddr.fn (a, (fszConnS.fn (l, (1048576 : Int), ())).fst, ())).fst, ())) <|
   .br (decide ((fszResponse.fn (x, (fszAddr.fn (a, (fszConnS.fn (l, (1048576 : Int), ())).fst, ())).fst, ())).fst < (0 : Int)))
   (.leaf (mkR lOpen.rs (true, ())) [] [])
   (.ob (ftoConnS.pre (l, ())) <|
    .ob (ftoAddr.pre (a, ())) <|
    .ob (ftoResponse.pre (x, ())) <|
    .ob (fOpen.pre ((ftoConnS.fn (l, ())).fst, a, x, g, ())) <|
    .ob (ftoConnS.pre (l, ())) <|
    .ob (ftoAddr.pre (a, ())) <|
    .ob (ftoResponse.pre (x, ())) <|
    .ob (fOpen.pre ((ftoConnS.fn (l, ())).fst, a, x, g, ())) <|
    .ob (feqConnS.pre
  ((fOpen.fn ((ftoConnS.fn (l, ())).fst, a, x, g, ())).fst, (fOpen.fn ((ftoConnS.fn (l, ())).fst, a, x, g, ())).fst, ())) <|
    .br (!(feqConnS.fn
      ((fOpen.fn ((ftoConnS.fn (l, ())).fst, a, x, g, ())).fst, (fOpen.fn ((ftoConnS.fn (l, ())).fst, a, x, g, ())).fst,
        ())).fst)
    (.leaf (mkR lOpen.rs (false, ())) [] [])
    (.br (!(fOpen.fn ((ftoConnS.fn (l, ())).fst, a, x, g, ())).snd.fst ==
    (fOpen.fn ((ftoConnS.fn (l, ())).fst, a, x, g, ())).snd.fst)
     (.leaf (mkR lOpen.rs (false, ())) [] [])
     (.ob (ftoConnS.pre (l, ())) <|
      .ob (feqConnS.pre ((ftoConnS.fn (l, ())).fst, (ftoConnS.fn (l, ())).fst, ())) <|
      .br (!(feqConnS.fn ((ftoConnS.fn (l, ())).fst, (ftoConnS.fn (l, ())).fst, ())).fst)
      (.leaf (mkR lOpen.rs (false, ())) [] [])
      (.ob (fmarkConnS.pre (ftoConnS.fn (l, ())).fst (1 : Int)) <|
       .br (decide ((fmarkConnS.fn (ftoConnS.fn (l, ())).fst (1 : Int)).snd < (0 : Int)))
       (.leaf (mkR lOpen.rs (false, ())) [] [])
       (.ob (feqConnS.pre
  ((fOpen.fn ((ftoConnS.fn (l, ())).fst, a, x, g, ())).fst, (fOpen.fn ((ftoConnS.fn (l, ())).fst, a, x, g, ())).fst, ())) <|
        .br (!(feqConnS.fn
      ((fOpen.fn ((ftoConnS.fn (l, ())).fst, a, x, g, ())).fst, (fOpen.fn ((ftoConnS.fn (l, ())).fst, a, x, g, ())).fst,
        ())).fst)
        (.leaf (mkR lOpen.rs (false, ())) [] [])
        (.br (!(fOpen.fn ((ftoConnS.fn (l, ())).fst, a, x, g, ())).snd.fst ==
    (fOpen.fn ((ftoConnS.fn (l, ())).fst, a, x, g, ())).snd.fst)
         (.leaf (mkR lOpen.rs (false, ())) [] [])
         (.ob (fmarkConnS.pre (fOpen.fn ((ftoConnS.fn (l, ())).fst, a, x, g, ())).fst (1 : Int)) <|
          .ob (fheldConnS.pre ((fmarkConnS.fn (fOpen.fn ((ftoConnS.fn (l, ())).fst, a, x, g, ())).fst (1 : Int)).fst, (1 : Int), ())) <|
          .br (decide
  ((fheldConnS.fn
        ((fmarkConnS.fn (fOpen.fn ((ftoConnS.fn (l, ())).fst, a, x, g, ())).fst (1 : Int)).fst, (1 : Int), ())).fst <
    (0 : Int)))
          (.leaf (mkR lOpen.rs (false, ())) [] [])
          (.br ((fheldConnS.fn
      ((fmarkConnS.fn (fOpen.fn ((ftoConnS.fn (l, ())).fst, a, x, g, ())).fst (1 : Int)).fst, (1 : Int), ())).fst !=
  (fmarkConnS.fn (fOpen.fn ((ftoConnS.fn (l, ())).fst, a, x, g, ())).fst (1 : Int)).snd)
           (.leaf (mkR lOpen.rs (false, ())) [] [])
           (.ob (ftoConnS.pre (l, ())) <|
            .ob (ftoAddr.pre (a, ())) <|
            .ob (ftoResponse.pre (x, ())) <|
            .ob (fOpen.pre ((ftoConnS.fn (l, ())).fst, a, x, g, ())) <|
            .ob (feqConnS.pre
  ((fOpen.fn ((ftoConnS.fn (l, ())).fst, a, x, g, ())).fst, (fOpen.fn ((ftoConnS.fn (l, ())).fst, a, x, g, ())).fst, ())) <|
            .br (!(feqConnS.fn
      ((fOpen.fn ((ftoConnS.fn (l, ())).fst, a, x, g, ())).fst, (fOpen.fn ((ftoConnS.fn (l, ())).fst, a, x, g, ())).fst,
        ())).fst)
            (.leaf (mkR lOpen.rs (false, ())) [] [])
            (.br (!(fOpen.fn ((ftoConnS.fn (l, ())).fst, a, x, g, ())).snd.fst ==
    (fOpen.fn ((ftoConnS.fn (l, ())).fst, a, x, g, ())).snd.fst)
             (.leaf (mkR lOpen.rs (false, ())) [] [])
             (.ob (fheldConnS.pre ((fmarkConnS.fn (fOpen.fn ((ftoConnS.fn (l, ())).fst, a, x, g, ())).fst (1 : Int)).fst, (1 : Int), ())) <|
              .br (decide
  ((fheldConnS.fn
        ((fmarkConnS.fn (fOpen.fn ((ftoConnS.fn (l, ())).fst, a, x, g, ())).fst (1 : Int)).fst, (1 : Int), ())).fst <
    (0 : Int)))
              (.leaf (mkR lOpen.rs (false, ())) [] [])
              (.br ((fheldConnS.fn
      ((fmarkConnS.fn (fOpen.fn ((ftoConnS.fn (l, ())).fst, a, x, g, ())).fst (1 : Int)).fst, (1 : Int), ())).fst !=
  (fmarkConnS.fn (fOpen.fn ((ftoConnS.fn (l, ())).fst, a, x, g, ())).fst (1 : Int)).snd)
               (.leaf (mkR lOpen.rs (false, ())) [] [])
               (.leaf (mkR lOpen.rs (true, ())) [] [])))))))))))))))) (by kernel_rfl) ?_
  refine ob_i ?_ fun o1 => br_i (fun h2 => Fct.leafY ?_) (fun h2 => ob_i ?_ fun o3 => br_i (fun h4 => Fct.leafY ?_) (fun h4 => ob_i ?_ fun o5 => br_i (fun h6 => Fct.leafY ?_) (fun h6 => ob_i ?_ fun o7 => ob_i ?_ fun o8 => ob_i ?_ fun o9 => ob_i ?_ fun o10 => ob_i ?_ fun o11 => ob_i ?_ fun o12 => ob_i ?_ fun o13 => ob_i ?_ fun o14 => ob_i ?_ fun o15 => br_i (fun h16 => Fct.leafY ?_) (fun h16 => br_i (fun h17 => Fct.leafY ?_) (fun h17 => ob_i ?_ fun o18 => ob_i ?_ fun o19 => br_i (fun h20 => Fct.leafY ?_) (fun h20 => ob_i ?_ fun o21 => br_i (fun h22 => Fct.leafY ?_) (fun h22 => ob_i ?_ fun o23 => br_i (fun h24 => Fct.leafY ?_) (fun h24 => br_i (fun h25 => Fct.leafY ?_) (fun h25 => ob_i ?_ fun o26 => ob_i ?_ fun o27 => br_i (fun h28 => Fct.leafY ?_) (fun h28 => br_i (fun h29 => Fct.leafY ?_) (fun h29 => ob_i ?_ fun o30 => ob_i ?_ fun o31 => ob_i ?_ fun o32 => ob_i ?_ fun o33 => ob_i ?_ fun o34 => br_i (fun h35 => Fct.leafY ?_) (fun h35 => br_i (fun h36 => Fct.leafY ?_) (fun h36 => ob_i ?_ fun o37 => br_i (fun h38 => Fct.leafY ?_) (fun h38 => br_i (fun h39 => Fct.leafY ?_) (fun h39 => Fct.leafY ?_)))))))))))))))
  all_goals have hg0 : Sh.good (.sl .conn) l := hp.1
  all_goals have hg1 : Sh.good (.el .addr) a := hp.2.1
  all_goals have hg2 : Sh.good (.el .response) x := hp.2.2.1
  all_goals have hg3 : Sh.good (.el .bool) g := hp.2.2.2.1
  all_goals clear hp
  all_goals try simp only [decide_eq_true_eq, decide_eq_false_iff_not, Bool.not_eq_true', Bool.not_eq_false', bne_iff_ne, bne_eq_false_iff_eq, beq_iff_eq, beq_eq_false_iff_ne, baEq, Int.not_lt, Int.not_le, ne_eq, Decidable.not_not] at *
  all_goals try simp only [fOpen, feqConnS, fheldConnS, fmarkConnS, fszAddr, fszConnS, fszResponse, ftoAddr, ftoConnS, ftoResponse, lOpen, decide_eq_true_eq, decide_eq_false_iff_not, Bool.not_eq_true', Bool.not_eq_false', bne_iff_ne, bne_eq_false_iff_eq, beq_iff_eq, beq_eq_false_iff_ne, Bool.not_eq_true, Bool.not_eq_false, ne_eq, Decidable.not_not, baEq, decide_not, Prod.mk.injEq, and_true, true_and, Room, List.nil_append, Nat.zero_add, Int.not_lt, Int.not_le, decide_true] at *
  all_goals have hz0 := szL_len szConn l
  all_goals try simp only [mkConnS_idem, mkConnS_ub] at *
  all_goals first | trivial | omega | grind [lessen, openConn_len, szResponse])
def E25 : D.Env := E24.add 12 lOpen
theorem E25ok : EOk Try.prog E25 := E24ok.add k12_24
def fIndex_addr : Fct := ⟨[.v (.sl .addr), .v (.el .addr)], [.el .int], fun (x_ : (List SAddr) × SAddr × Unit) => x_.1.length ≤ 1000000000000000000, fun (x_ : (List SAddr) × SAddr × Unit) => (fidx (fun c => decide (c = x_.2.1)) x_.1 0, ())⟩
def fContains_addr : Fct := ⟨[.v (.sl .addr), .v (.el .addr)], [.el .bool], fun (x_ : (List SAddr) × SAddr × Unit) => x_.1.length ≤ 1000000000000000000, fun (x_ : (List SAddr) × SAddr × Unit) => (x_.1.any fun c => decide (c = x_.2.1), ())⟩
def fHasAddr : Fct := ⟨[.v (.sl .addr), .v (.el .addr)], [.el .bool], fun (x_ : (List SAddr) × SAddr × Unit) => x_.1.length ≤ 1000000000000000000, fun (x_ : (List SAddr) × SAddr × Unit) => (x_.1.any fun c => decide (c = x_.2.1), ())⟩
def withoutAddrs (d : List SAddr) : List SRequest → List SRequest
  | [] => []
  | r :: l => if d.any (fun c => decide (c = r.to)) then withoutAddrs d l else r :: withoutAddrs d l
def fWithoutAddrs : Fct := ⟨[.v (.sl .request), .v (.sl .addr)], [.sl .request], fun (x_ : (List SRequest) × (List SAddr) × Unit) => x_.1.length ≤ 1048576 ∧ x_.2.1.length ≤ 1048576, fun (x_ : (List SRequest) × (List SAddr) × Unit) => (withoutAddrs x_.2.1 x_.1, ())⟩
theorem withoutAddrs_len (d : List SAddr) (l : List SRequest) : (withoutAddrs d l).length ≤ l.length := by
  induction l <;> grind [withoutAddrs]
def lWithoutAddrs : Fct := lawFS [.sl .request, .sl .addr]

section
open Go.ChangeShapes Go.WideShapes Go.ChangeAt Go.RowKit
theorem own : ownKnob Try.prog.godebug = none := by kernel_rfl
theorem types : ∀ e t, tyOf e = some t → e ∈ ([3, 4, 5, 9, 27, 29, 32, 34, 66, 70, 90, 97, 104, 107, 121, 141] : List TypeId) := by
  intro e t h
  unfold tyOf at h
  split at h <;> first | (simp; done) | cases h
theorem lifted (os : Os) (started : os.Started) (H : Type) (enc : TypeId × Value → H) :
    ReturnsInHanded {} Try.checked os 12 .any (Rows.fnExactOpenConnSpec.pre6 enc Try.prog Try.f12 Rows.fnExactOpenConnRow.domain false) (Rows.fnExactOpenConnSpec.post enc Try.prog Try.f12 false true false false) := by
  refine returnsInHanded_of_change (C := Try.checked) own started (by kernel_rfl) Try.func12
    (ChangeSpec.witness6 (enc := enc) (C := Try.checked) false ⟨#[], #[.slice none 0 0, .agg #[.string ⟨#[]⟩, .string ⟨#[]⟩], .agg #[.int .i64 0, .int .i64 0, .string ⟨#[]⟩, .int .i64 0, .bool false, .string ⟨#[]⟩], .bool false], []⟩ 8 (by kernel_rfl) (by kernel_rfl) (by kernel_rfl) (by kernel_rfl)) ?_
  intro W base args ds gs before hval0 hW hcnd _
  have hval : ∀ (j : Nat) t v, Try.f12.params[j]? = some t → args[j]? = some v → Value.okWide Try.prog W .any base t v := hval0
  refine law_calls (show rowOk Try.prog Try.f12 tyOf [3, 4, 5, 9, 27, 29, 32, 34, 66, 70, 90, 97, 104, 107, 121, 141] [.sl .conn, .el .addr, .el .response, .el .bool] = true by kernel_rfl) types rfl Try.underlying4 rfl hW (fun xs h => ?_) hval k12_24
  · rw [Try.params12] at h
    match xs, (show xs.length = 4 from h) with
    | [x0, x1, x2, x3], _ => rfl
theorem over : Rows.fnExactOpenConnRow.holds Try.pinned (OpenSpec.ofChange Rows.fnExactOpenConnSpec) :=
  OpenClaim.holds_of_wide 12 Try.f12 rfl rfl rfl rfl rfl rfl rfl ⟨rfl, rfl, rfl, rfl, rfl⟩ rfl rfl rfl rfl rfl (by kernel_rfl) Try.func12 (by kernel_rfl)
    (of_decide_eq_true (by kernel_rfl)) (by unfold Func.isWrapper; first | (rw [if_pos (by decide +kernel)]; kernel_rfl) | (rw [if_neg (by decide +kernel)]; exact ⟨rfl, rfl⟩))
    (fun os started H enc _ => lifted os started H enc)
theorem proved : Rows.FnExactOpenConnSaid := over
end
end Go.Proofs.Ytedcmphhpfdblaa.fnExactOpenConn
