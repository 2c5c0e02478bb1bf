/-
  The program's WithoutAddrs returns what the reference's returns, for all arguments: the law returns true. No condition.
-/
import Derived.Test.YtedcmphhpfdblaaVPt
import Derived.Test.YtedcmphhpfdblaaRows
import Derived.WalkKit
import Derived.ProofKit
import Derived.OpenShut
namespace Go.Proofs.Ytedcmphhpfdblaa.fnExactWithoutAddrs
open Go.Proofs.Ytedcmphhpfdblaa
open Go.D
set_option maxRecDepth 100000
set_option linter.unusedVariables false
set_option linter.unusedSimpArgs false
def tyOf : TypeId → Option Ty
  | 3 => some .int
  | 4 => some .bool
  | 5 => some .u8
  | 9 => some .str
  | 27 => some .addr
  | 29 => some .sent
  | 32 => some .addr
  | 34 => some .sent
  | 66 => some .response
  | 70 => some .response
  | 90 => some .conn
  | 97 => some .conn
  | 104 => some .request
  | 107 => some .request
  | 121 => some .guess
  | 141 => some .policy
  | _ => none
def E0 : D.Env := D.Env.empty tyOf
theorem E0ok : EOk Try.prog E0 := EOk.empty _ _

-- laws.markText
theorem k82_0 : fmarkText.ok Try.prog 82 := Fct.of (S := fmarkText) (L := fun ⟨k, _⟩ => fun | 4 => some (LmTx k) | _ => none) (kp := [0,2,3,5,7]) E0ok Try.func82 (by kernel_rfl) (by kernel_rfl) (by
  rintro ⟨(k : Int), _⟩ hp
  refine holds_of (X := .br (decide (k ≤ (0 : Int)))
 (.leaf (mkR fmarkText.rs ({ data := #[(109 : UInt8), (48 : UInt8)] : ByteArray }, ())) [] [])
 (lpx (LmTx k) (k, ({ data := #[] : ByteArray }, ())) fun (y2 : Int × ByteArray × PUnit) bk2 =>
  .br (decide (y2.fst > (0 : Int)))
   (.ob ((10 : Int) ≠ (0 : Int)) <|
    .ob (True) <|
    .ob (sameSize
  (List.foldl (fun r n => r.push (UInt8.ofNat n.toNat)) ByteArray.empty
    [IntKind.u8.wrap (IntKind.i64.wrap ((48 : Int) + y2.fst.tmod (10 : Int)))])
  y2.snd.fst) <|
    .ob ((10 : Int) ≠ (0 : Int)) <|
    .ob (Value.string { data := #[] : ByteArray } = Value.string { data := #[] : ByteArray }) <|
    .ob (Value.bool (decide (k ≤ (0 : Int))) = Value.bool (decide (k ≤ (0 : Int)))) <|
    .ob (bk2 (IntKind.i64.wrap (y2.fst.tdiv (10 : Int)), (List.foldl (fun r n => r.push (UInt8.ofNat n.toNat)) ByteArray.empty
    [IntKind.u8.wrap (IntKind.i64.wrap ((48 : Int) + y2.fst.tmod (10 : Int)))] ++
  y2.snd.fst, ()))) <|
    .ok)
   (.ob (sameSize { data := #[(109 : UInt8)] : ByteArray } y2.snd.fst) <|
    .leaf (mkR fmarkText.rs ({ data := #[(109 : UInt8)] : ByteArray } ++ y2.snd.fst, ())) [] []))) (by kernel_rfl) ?_
  refine br_i (fun h1 => Fct.leafY ?_) (fun h1 => lpx_i ?_ fun (y2 : Int × ByteArray × PUnit) i2 => br_i (fun h3 => ob_i ?_ fun o4 => ob_i trivial fun _ => ob_i ?_ fun o5 => ob_i ?_ fun o6 => ob_i rfl fun _ => ob_i rfl fun _ => ob_i ?_ fun o7 => trivial) (fun h3 => ob_i ?_ fun o8 => Fct.leafY ?_))
  all_goals try rw [digByte (by first | exact i2.1 | (have := i2.1; omega))]
  all_goals try simp only [decide_eq_true_eq, decide_eq_false_iff_not, Bool.not_eq_true', Bool.not_eq_false', bne_iff_ne, bne_eq_false_iff_eq, beq_iff_eq, beq_eq_false_iff_ne, baEq, Int.not_lt, Int.not_le, ne_eq, Decidable.not_not] at *
  all_goals try simp only [LmTx, fmarkText, decide_eq_true_eq, decide_eq_false_iff_not, Bool.not_eq_true', Bool.not_eq_false', bne_iff_ne, bne_eq_false_iff_eq, beq_iff_eq, beq_eq_false_iff_ne, Bool.not_eq_true, Bool.not_eq_false, ne_eq, Decidable.not_not, baEq, decide_not, Prod.mk.injEq, and_true, true_and, Room, List.nil_append, Nat.zero_add, Int.not_lt, Int.not_le] at *
  · simp [mtext, h1]
  · exact ⟨by omega, by omega, 64, rfl, Nat.lt_of_lt_of_le (show k.toNat < 10 ^ 19 by omega) (Nat.pow_le_pow_right (by decide) (by decide)), rfl⟩
  · decide
  · obtain ⟨i3, i4, f, i5, i6, i7⟩ := i2
    show (1 : Nat) + _ ≤ _
    omega
  · decide
  · obtain ⟨i3, i4, f, i5, i6, i7⟩ := i2
    have hd : IntKind.i64.wrap (y2.1.tdiv 10) = y2.1 / 10 := (tdiv10 i3).resolve_right (by omega)
    rw [hd]
    cases f with
    | zero => simp at i6; omega
    | succ f =>
      rw [digs_step (k := y2.1.toNat) (by omega)] at i7
      have i8 : y2.1.toNat < 10 * 10 ^ f := by rw [Nat.pow_succ] at i6; omega
      generalize 10 ^ f = p at i8
      refine ⟨⟨by omega, by omega, f, by rw [sz1]; omega, by omega, ?_⟩, by omega⟩
      rw [show (y2.1 / 10).toNat = y2.1.toNat / 10 by omega]
      exact i7
  · obtain ⟨i3, i4, f, i5, i6, i7⟩ := i2
    show (1 : Nat) + _ ≤ _
    omega
  · obtain ⟨i3, i4, f, i5, i6, i7⟩ := i2
    have h0 : y2.1.toNat = 0 := by omega
    rw [h0, digs_end] at i7
    rw [mtext, if_neg (by omega), i7])
def E1 : D.Env := E0.add 82 fmarkText
theorem E1ok : EOk Try.prog E1 := E0ok.add k82_0
-- laws.szAddr
theorem k28_1 : fszAddr.ok Try.prog 28 := Fct.of (S := fszAddr) (L := fun _ _ => none) (kp := [0,1,2,4,11,18]) E1ok Try.func28 (by kernel_rfl) (by kernel_rfl) (by
  rintro ⟨(x : SAddr), (n : Int), _⟩ hp
  refine holds_of (X := .br (decide (IntKind.i64.wrap (n - (↑x.host.size : Int)) < (0 : Int)))
 (.leaf (mkR fszAddr.rs ((-1 : Int), ())) [] [])
 (.br (decide (IntKind.i64.wrap (IntKind.i64.wrap (n - (↑x.host.size : Int)) - (↑x.path.size : Int)) < (0 : Int)))
  (.leaf (mkR fszAddr.rs ((-1 : Int), ())) [] [])
  (.leaf (mkR fszAddr.rs (IntKind.i64.wrap (IntKind.i64.wrap (n - (↑x.host.size : Int)) - (↑x.path.size : Int)), ())) [] []))) (by kernel_rfl) ?_
  refine br_i (fun h1 => Fct.leafY ?_) (fun h1 => br_i (fun h2 => Fct.leafY ?_) (fun h2 => Fct.leafY ?_))
  all_goals try simp only [decide_eq_true_eq, decide_eq_false_iff_not, Bool.not_eq_true', Bool.not_eq_false', bne_iff_ne, bne_eq_false_iff_eq, beq_iff_eq, beq_eq_false_iff_ne, baEq, Int.not_lt, Int.not_le, ne_eq, Decidable.not_not] at *
  all_goals try simp only [fszAddr, decide_eq_true_eq, decide_eq_false_iff_not, Bool.not_eq_true', Bool.not_eq_false', bne_iff_ne, bne_eq_false_iff_eq, beq_iff_eq, beq_eq_false_iff_ne, Bool.not_eq_true, Bool.not_eq_false, ne_eq, Decidable.not_not, baEq, decide_not, Prod.mk.injEq, and_true, true_and, Room, List.nil_append, Nat.zero_add, Int.not_lt, Int.not_le, Sh.good, Sh.fc, enc, List.forall_mem_cons, List.not_mem_nil, false_implies, implies_true, goodC, maxLen] at *
  all_goals grind [wrapId', lessen, szAddr])
def E2 : D.Env := E1.add 28 fszAddr
theorem E2ok : EOk Try.prog E2 := E1ok.add k28_1
-- laws.toAddr
theorem k30_2 : ftoAddr.ok Try.prog 30 := Fct.of (S := ftoAddr) (L := fun _ _ => none) (kp := [0,1,2,3]) E2ok Try.func30 (by kernel_rfl) (by kernel_rfl) (by
  rintro ⟨(x : SAddr), _⟩ hp
  refine holds_of (X := .leaf (mkR ftoAddr.rs (x, ())) [] []) (by kernel_rfl) ?_
  refine Fct.leafY ?_
  all_goals try simp only [decide_eq_true_eq, decide_eq_false_iff_not, Bool.not_eq_true', Bool.not_eq_false', bne_iff_ne, bne_eq_false_iff_eq, beq_iff_eq, beq_eq_false_iff_ne, baEq, Int.not_lt, Int.not_le, ne_eq, Decidable.not_not] at *
  all_goals try simp only [ftoAddr, decide_eq_true_eq, decide_eq_false_iff_not, Bool.not_eq_true', Bool.not_eq_false', bne_iff_ne, bne_eq_false_iff_eq, beq_iff_eq, beq_eq_false_iff_ne, Bool.not_eq_true, Bool.not_eq_false, ne_eq, Decidable.not_not, baEq, decide_not, Prod.mk.injEq, and_true, true_and, Room, List.nil_append, Nat.zero_add, Int.not_lt, Int.not_le] at *
  all_goals first | trivial | rfl | grind [szAddr])
def E3 : D.Env := E2.add 30 ftoAddr
theorem E3ok : EOk Try.prog E3 := E2ok.add k30_2
-- laws.eqAddr
theorem k81_3 : feqAddr.ok Try.prog 81 := Fct.of (S := feqAddr) (L := fun _ _ => none) (kp := [0,1,2,3,4,9,14]) E3ok Try.func81 (by kernel_rfl) (by kernel_rfl) (by
  rintro ⟨(x : SAddr), (y : SAddr), _⟩ hp
  refine holds_of (X := .br (!x.host.toList == y.host.toList)
 (.leaf (mkR feqAddr.rs (false, ())) [] [])
 (.br (!x.path.toList == y.path.toList)
  (.leaf (mkR feqAddr.rs (false, ())) [] [])
  (.leaf (mkR feqAddr.rs (true, ())) [] []))) (by kernel_rfl) ?_
  refine br_i (fun h1 => Fct.leafY ?_) (fun h1 => br_i (fun h2 => Fct.leafY ?_) (fun h2 => Fct.leafY ?_))
  all_goals try simp only [decide_eq_true_eq, decide_eq_false_iff_not, Bool.not_eq_true', Bool.not_eq_false', bne_iff_ne, bne_eq_false_iff_eq, beq_iff_eq, beq_eq_false_iff_ne, baEq, Int.not_lt, Int.not_le, ne_eq, Decidable.not_not] at *
  all_goals try simp only [feqAddr, decide_eq_true_eq, decide_eq_false_iff_not, Bool.not_eq_true', Bool.not_eq_false', bne_iff_ne, bne_eq_false_iff_eq, beq_iff_eq, beq_eq_false_iff_ne, Bool.not_eq_true, Bool.not_eq_false, ne_eq, Decidable.not_not, baEq, decide_not, Prod.mk.injEq, and_true, true_and, Room, List.nil_append, Nat.zero_add, Int.not_lt, Int.not_le] at *
  all_goals first | trivial | (cases x; cases y; simp_all))
def E4 : D.Env := E3.add 81 feqAddr
theorem E4ok : EOk Try.prog E4 := E3ok.add k81_3
-- laws.szAddrS
theorem k35_4 : fszAddrS.ok Try.prog 35 := Fct.of (S := fszAddrS) (L := fun ⟨l, n, _⟩ => fun | 5 => some (LszS .addr szAddr l n) | _ => none) (kp := [0,1,4,5,11,15,25]) E4ok Try.func35 (by kernel_rfl) (by kernel_rfl) (by
  rintro ⟨(l : List SAddr), (n : Int), _⟩ hp
  refine holds_of (X := .br (decide (IntKind.i64.wrap (n - (↑l.length : Int)) < (0 : Int)))
 (.leaf (mkR fszAddrS.rs ((-1 : Int), ())) [] [])
 (lpx (LszS .addr szAddr l n) (IntKind.i64.wrap (n - (↑l.length : Int)), ((0 : Int), ())) fun (y2 : Int × Int × PUnit) bk2 =>
  .br (decide (y2.snd.fst < (↑l.length : Int)))
   (.ob ((0 : Int) ≤ y2.snd.fst ∧ y2.snd.fst < (↑l.length : Int)) <|
    .ob (fszAddr.pre (l.getD y2.snd.fst.toNat default, y2.fst, ())) <|
    .br (decide ((fszAddr.fn (l.getD y2.snd.fst.toNat default, y2.fst, ())).fst < (0 : Int)))
    (.leaf (mkR fszAddrS.rs ((-1 : Int), ())) [] [])
    (.ob (l = l) <|
     .ob (Value.bool (decide (IntKind.i64.wrap (n - (↑l.length : Int)) < (0 : Int))) =
  Value.bool (decide (IntKind.i64.wrap (n - (↑l.length : Int)) < (0 : Int)))) <|
     .ob (bk2 ((fszAddr.fn (l.getD y2.snd.fst.toNat default, y2.fst, ())).fst, (IntKind.i64.wrap (y2.snd.fst + (1 : Int)), ()))) <|
     .ok))
   (.leaf (mkR fszAddrS.rs (y2.fst, ())) [] []))) (by kernel_rfl) ?_
  refine br_i (fun h1 => Fct.leafY ?_) (fun h1 => lpx_i ?_ fun (y2 : Int × Int × PUnit) i2 => br_i (fun h3 => ob_i ?_ fun o4 => ob_i ?_ fun o5 => br_i (fun h6 => Fct.leafY ?_) (fun h6 => ob_i rfl fun _ => ob_i rfl fun _ => ob_i ?_ fun o7 => trivial)) (fun h3 => Fct.leafY ?_))
  all_goals try simp only [decide_eq_true_eq, decide_eq_false_iff_not, Bool.not_eq_true', Bool.not_eq_false', bne_iff_ne, bne_eq_false_iff_eq, beq_iff_eq, beq_eq_false_iff_ne, baEq, Int.not_lt, Int.not_le, ne_eq, Decidable.not_not] at *
  all_goals try simp only [LszS, fszAddr, fszAddrS, decide_eq_true_eq, decide_eq_false_iff_not, Bool.not_eq_true', Bool.not_eq_false', bne_iff_ne, bne_eq_false_iff_eq, beq_iff_eq, beq_eq_false_iff_ne, Bool.not_eq_true, Bool.not_eq_false, ne_eq, Decidable.not_not, baEq, decide_not, Prod.mk.injEq, and_true, true_and, Room, List.nil_append, Nat.zero_add, Int.not_lt, Int.not_le] at *
  · have := good_len hp.1; simp only [maxLen] at this; rw [wrapId (by omega)] at h1
    rw [lessenNeg (by simp only [szL]; omega)]
  · have := good_len hp.1; simp only [maxLen] at this
    rw [wrapId (by omega)] at h1 ⊢
    exact ⟨by omega, by omega, h1, by simp⟩
  · omega
  · exact ⟨good_getD hp.1 (by omega), by omega, by omega⟩
  · have hs := sum_take_le szAddr l (y2.2.1.toNat + 1)
    rw [sum_take szAddr (by omega)] at hs
    rw [lessen_lt (by omega)] at h6
    rw [lessenNeg (by simp only [szL]; omega)]
  · have hw : IntKind.i64.wrap (y2.2.1 + 1) = y2.2.1 + 1 := wrapId (by have := good_len hp.1; simp only [maxLen] at this; omega)
    have h7 : ¬ lessen y2.1 (szAddr (l.getD y2.2.1.toNat default)) < 0 := by omega
    rw [lessen_lt (by omega)] at h7
    rw [hw, toNat1 (by omega), sum_take szAddr (by omega), lessen_ge (by omega)]
    exact ⟨⟨by omega, by omega, by omega, by omega⟩, by omega⟩
  · have e : l.take y2.2.1.toNat = l := List.take_of_length_le (by omega)
    rw [e] at i2
    have hz : ((szL szAddr l : Nat) : Int) = l.length + (l.map szAddr).sum := by simp only [szL]; omega
    rw [lessen_ge (by omega)]
    show y2.1 = n - ((szL szAddr l : Nat) : Int)
    omega)
def E5 : D.Env := E4.add 35 fszAddrS
theorem E5ok : EOk Try.prog E5 := E4ok.add k35_4
-- laws.toAddrS
theorem k38_5 : ftoAddrS.ok Try.prog 38 := Fct.of (S := ftoAddrS) (L := fun ⟨l, _⟩ => fun | 3 => some (LtoS .addr l) | _ => none) (kp := [0,2,3,4,11]) E5ok Try.func38 (by kernel_rfl) (by kernel_rfl) (by
  rintro ⟨(l : List SAddr), _⟩ hp
  refine holds_of (X := .ob ((↑l.length : Int) = (↑l.length : Int) ∧
  (0 : Int) ≤ (↑l.length : Int) ∧
    (32 : Int) * (↑l.length : Int) ≤ (140737488355328 : Int) ∧ (↑l.length : Int) ≤ (140737488355328 : Int)) <|
 lpx (LtoS .addr l) ((0 : Int), (List.replicate (↑l.length : Int).toNat default, ())) fun (y2 : Int × List SAddr × PUnit) bk2 =>
 .br (decide (y2.fst < (↑l.length : Int)))
  (.ob ((0 : Int) ≤ y2.fst ∧ y2.fst < (↑l.length : Int)) <|
   .ob (ftoAddr.pre (l.getD y2.fst.toNat default, ())) <|
   .ob ((0 : Int) ≤ y2.fst ∧ y2.fst < (↑y2.snd.fst.length : Int)) <|
   .ob (y2.fst.toNat < y2.snd.fst.length) <|
   .ob (l = l) <|
   .ob (bk2 (IntKind.i64.wrap (y2.fst + (1 : Int)), (y2.snd.fst.modify y2.fst.toNat fun z => l.getD y2.fst.toNat default, ()))) <|
   .ok)
  (.leaf (mkR ftoAddrS.rs (y2.snd.fst, ())) [] [])) (by kernel_rfl) ?_
  refine ob_i ?_ fun o1 => lpx_i ?_ fun (y2 : Int × List SAddr × PUnit) i2 => br_i (fun h3 => ob_i ?_ fun o4 => ob_i ?_ fun o5 => ob_i ?_ fun o6 => ob_i ?_ fun o7 => ob_i rfl fun _ => ob_i ?_ fun o8 => trivial) (fun h3 => Fct.leafY ?_)
  all_goals try simp only [decide_eq_true_eq, decide_eq_false_iff_not, Bool.not_eq_true', Bool.not_eq_false', bne_iff_ne, bne_eq_false_iff_eq, beq_iff_eq, beq_eq_false_iff_ne, baEq, Int.not_lt, Int.not_le, ne_eq, Decidable.not_not] at *
  all_goals try simp only [LtoS, ftoAddr, ftoAddrS, decide_eq_true_eq, decide_eq_false_iff_not, Bool.not_eq_true', Bool.not_eq_false', bne_iff_ne, bne_eq_false_iff_eq, beq_iff_eq, beq_eq_false_iff_ne, Bool.not_eq_true, Bool.not_eq_false, ne_eq, Decidable.not_not, baEq, decide_not, Prod.mk.injEq, and_true, true_and, Room, List.nil_append, Nat.zero_add, Int.not_lt, Int.not_le] at *
  · have := szL_len szAddr l; omega
  · exact ⟨by omega, by omega, by simp⟩
  · omega
  · have hs := sum_take_le szAddr l (y2.1.toNat + 1)
    rw [sum_take szAddr (by omega)] at hs
    simp only [szL] at hp; omega
  · rw [i2.2.2]; simp; omega
  · rw [i2.2.2]; simp; omega
  · have hw : IntKind.i64.wrap (y2.1 + 1) = y2.1 + 1 := wrapId (by have := szL_len szAddr l; omega)
    rw [hw, toNat1 (by omega), i2.2.2]
    refine ⟨⟨by omega, by omega, ?_⟩, by omega⟩
    rw [show l.length - y2.1.toNat = (l.length - (y2.1.toNat + 1)) + 1 from by omega, List.replicate_succ, mod_at (by simp; omega), take_succ (by omega)]
    simp
  · have e : l.take y2.1.toNat = l := List.take_of_length_le (by omega)
    rw [i2.2.2, e]; simp; omega)
def E6 : D.Env := E5.add 38 ftoAddrS
theorem E6ok : EOk Try.prog E6 := E5ok.add k38_5
-- laws.eqAddrS
theorem k41_6 : feqAddrS.ok Try.prog 41 := Fct.of (S := feqAddrS) (L := fun ⟨l, m, _⟩ => fun | 4 => some (LeqS .addr l m) | _ => none) (kp := [0,1,4,5,10,14,26]) E6ok Try.func41 (by kernel_rfl) (by kernel_rfl) (by
  rintro ⟨(l : List SAddr), (m : List SAddr), _⟩ hp
  refine holds_of (X := .br ((↑l.length : Int) != (↑m.length : Int))
 (.leaf (mkR feqAddrS.rs (false, ())) [] [])
 (lpx (LeqS .addr l m) ((0 : Int), ()) fun (y2 : Int × PUnit) bk2 =>
  .br (decide (y2.fst < (↑l.length : Int)))
   (.ob ((0 : Int) ≤ y2.fst ∧ y2.fst < (↑l.length : Int)) <|
    .ob ((0 : Int) ≤ y2.fst ∧ y2.fst < (↑m.length : Int)) <|
    .ob (feqAddr.pre (l.getD y2.fst.toNat default, m.getD y2.fst.toNat default, ())) <|
    .br (!(feqAddr.fn (l.getD y2.fst.toNat default, m.getD y2.fst.toNat default, ())).fst)
    (.leaf (mkR feqAddrS.rs (false, ())) [] [])
    (.ob (l = l) <|
     .ob (m = m) <|
     .ob (Value.bool ((↑l.length : Int) != (↑m.length : Int)) = Value.bool ((↑l.length : Int) != (↑m.length : Int))) <|
     .ob (bk2 (IntKind.i64.wrap (y2.fst + (1 : Int)), ())) <|
     .ok))
   (.leaf (mkR feqAddrS.rs (true, ())) [] []))) (by kernel_rfl) ?_
  refine br_i (fun h1 => Fct.leafY ?_) (fun h1 => lpx_i ?_ fun (y2 : Int × PUnit) i2 => br_i (fun h3 => ob_i ?_ fun o4 => ob_i ?_ fun o5 => ob_i trivial fun _ => br_i (fun h6 => Fct.leafY ?_) (fun h6 => ob_i rfl fun _ => ob_i rfl fun _ => ob_i rfl fun _ => ob_i ?_ fun o7 => trivial)) (fun h3 => Fct.leafY ?_))
  all_goals try simp only [decide_eq_true_eq, decide_eq_false_iff_not, Bool.not_eq_true', Bool.not_eq_false', bne_iff_ne, bne_eq_false_iff_eq, beq_iff_eq, beq_eq_false_iff_ne, baEq, Int.not_lt, Int.not_le, ne_eq, Decidable.not_not] at *
  all_goals try simp only [LeqS, feqAddr, feqAddrS, decide_eq_true_eq, decide_eq_false_iff_not, Bool.not_eq_true', Bool.not_eq_false', bne_iff_ne, bne_eq_false_iff_eq, beq_iff_eq, beq_eq_false_iff_ne, Bool.not_eq_true, Bool.not_eq_false, ne_eq, Decidable.not_not, baEq, decide_not, Prod.mk.injEq, and_true, true_and, Room, List.nil_append, Nat.zero_add, Int.not_lt, Int.not_le] at *
  · rw [decide_eq_false]; rintro rfl; omega
  · exact ⟨by omega, by omega, by simp⟩
  · omega
  · omega
  · rw [decide_eq_false]; rintro rfl; exact absurd rfl h6
  · have hw : IntKind.i64.wrap (y2.1 + 1) = y2.1 + 1 := wrapId (by omega)
    rw [hw, toNat1 (by omega)]
    refine ⟨⟨by omega, by omega, ?_⟩, by omega⟩
    rw [take_succ (by omega), take_succ (by omega), i2.2.2, h6]
  · have e : l.take y2.1.toNat = l := List.take_of_length_le (by omega)
    have e2 : m.take y2.1.toNat = m := List.take_of_length_le (by omega)
    rw [decide_eq_true]; rw [← e, ← e2, i2.2.2])
def E7 : D.Env := E6.add 41 feqAddrS
theorem E7ok : EOk Try.prog E7 := E6ok.add k41_6
-- laws.markAddrS
theorem k43_7 : fmarkAddrS.ok Try.prog 43 := MS.of (S := fmarkAddrS) (L := fun l k => fun | 2 => some (LmkS .addr mkAddr l k) | _ => none) (kp := [0,1,4,5,9]) (kl := [0]) E7ok Try.func43 (by kernel_rfl) (by kernel_rfl) (by
  rintro (l : List SAddr) (k : Int) hp
  refine holds_of (X := lpx (LmkS .addr mkAddr l k) (k, ((0 : Int), (l, ()))) fun (y1 : Int × Int × List SAddr × PUnit) bk1 =>
 .br (decide (y1.snd.fst < (↑y1.snd.snd.fst.length : Int)))
  (.ob (fmarkText.pre (y1.fst, ())) <|
   .ob ((0 : Int) ≤ y1.snd.fst ∧ y1.snd.fst < (↑y1.snd.snd.fst.length : Int)) <|
   .ob (y1.snd.fst.toNat < y1.snd.snd.fst.length) <|
   .ob (fmarkText.pre (IntKind.i64.wrap (y1.fst + (1 : Int)), ())) <|
   .ob ((0 : Int) ≤ y1.snd.fst ∧
  y1.snd.fst <
    (↑(y1.snd.snd.fst.modify y1.snd.fst.toNat fun z =>
            { host := (fmarkText.fn (y1.fst, ())).fst, path := z.path : SAddr }).length :
      Int)) <|
   .ob (y1.snd.fst.toNat <
  (y1.snd.snd.fst.modify y1.snd.fst.toNat fun z =>
      { host := (fmarkText.fn (y1.fst, ())).fst, path := z.path : SAddr }).length) <|
   .ob (Value.int IntKind.i64 (0 : Int) = Value.int IntKind.i64 (0 : Int)) <|
   .ob (bk1 (IntKind.i64.wrap (IntKind.i64.wrap (y1.fst + (1 : Int)) + (1 : Int)), (IntKind.i64.wrap (y1.snd.fst + (1 : Int)), ((y1.snd.snd.fst.modify y1.snd.fst.toNat fun z =>
      { host := (fmarkText.fn (y1.fst, ())).fst, path := z.path : SAddr }).modify
  y1.snd.fst.toNat fun z =>
  { host := z.host, path := (fmarkText.fn (IntKind.i64.wrap (y1.fst + (1 : Int)), ())).fst : SAddr }, ())))) <|
   .ok)
  (.leaf (.one false [vi (y1.fst)]) [] [((0 : Nat), ⟨Ty.addr, y1.snd.snd.fst⟩)])) (by kernel_rfl) ?_
  refine lpx_i ?_ fun (y1 : Int × Int × List SAddr × PUnit) i1 => br_i (fun h2 => ob_i ?_ fun o3 => ob_i ?_ fun o4 => ob_i ?_ fun o5 => ob_i ?_ fun o6 => ob_i ?_ fun o7 => ob_i ?_ fun o8 => ob_i rfl fun _ => ob_i ?_ fun o9 => trivial) (fun h2 => MS.leaf ?_)
  · exact ⟨by simp, by simp, by simp [markL], by simp [markL]⟩
  all_goals have hp1 : 0 ≤ k := hp.1
  all_goals have hp2 : (markL mkAddr l k).2 ≤ 4000000000000000000 := hp.2
  all_goals have i3 : 0 ≤ y1.2.1 ∧ y1.2.1 ≤ l.length ∧ y1.1 = (markL mkAddr (l.take y1.2.1.toNat) k).2 ∧ y1.2.2.1 = (markL mkAddr (l.take y1.2.1.toNat) k).1 ++ l.drop y1.2.1.toNat := i1
  all_goals have hcnt := markL_cnt (f := mkAddr) (fun x k => by simp only [mkAddr]; omega) l k
  all_goals have hx : y1.2.2.1.length = l.length := by rw [i3.2.2.2, List.length_append, markL_len, List.length_take, List.length_drop]; omega
  all_goals simp only [decide_eq_true_eq, decide_eq_false_iff_not, hx] at h2
  all_goals clear i1
  all_goals try have hlt : y1.2.1.toNat < l.length := by omega
  all_goals try have ht := markL_take (f := mkAddr) hlt k
  all_goals try have hle := (markL_take_le mkAddr_mono l (y1.2.1.toNat + 1) k).2
  all_goals try have hl0 := (markL_take_le mkAddr_mono l y1.2.1.toNat k).1
  all_goals try rw [ht] at hle
  all_goals try rw [← i3.2.2.1] at hle hl0 ht
  all_goals try simp only [mkAddr] at hle
  all_goals first | decide | (simp only [List.length_modify, hx]; omega) | (refine ⟨?_, ?_⟩ <;> (try simp (discharger := omega) only [wrapId']) <;> omega) | skip
  · clear o3 o4 o5
    simp (discharger := omega) only [wrapId', fmarkText]
    have hA : (markL mkAddr (l.take y1.2.1.toNat) k).1.length = y1.2.1.toNat := by rw [markL_len, List.length_take]; omega
    refine ⟨⟨by omega, by omega, ?_, ?_⟩, ?_⟩
    · rw [toNat1 (by omega), ht]
      simp only [mkAddr]
      omega
    · rw [toNat1 (by omega), ht, i3.2.2.2, drop_cons hlt]
      simp only [mod_at hA, mkAddr, Int.add_assoc, Int.reduceAdd, List.append_assoc, List.cons_append, List.nil_append]
    · omega
  · refine MS.leafL (t := .addr) (fn := fun l k => markL mkAddr l k) ?_
    have e1 : l.take y1.2.1.toNat = l := List.take_of_length_le (by omega)
    have e2 : l.drop y1.2.1.toNat = [] := List.drop_of_length_le (by omega)
    rw [i3.2.2.2, i3.2.2.1, e1, e2, List.append_nil])
def E8 : D.Env := E7.addM 43 fmarkAddrS
theorem E8ok : EOk Try.prog E8 := E7ok.addM k43_7
-- laws.szRequest
theorem k76_8 : fszRequest.ok Try.prog 76 := Fct.of (S := fszRequest) (L := fun _ _ => none) (kp := [0,1,2,4,10,17,24]) E8ok Try.func76 (by kernel_rfl) (by kernel_rfl) (by
  rintro ⟨(x : SRequest), (n : Int), _⟩ hp
  refine holds_of (X := .ob (fszAddr.pre (x.to, n, ())) <|
 .br (decide ((fszAddr.fn (x.to, n, ())).fst < (0 : Int)))
 (.leaf (mkR fszRequest.rs ((-1 : Int), ())) [] [])
 (.br (decide (IntKind.i64.wrap ((fszAddr.fn (x.to, n, ())).fst - (↑x.from_.size : Int)) < (0 : Int)))
  (.leaf (mkR fszRequest.rs ((-1 : Int), ())) [] [])
  (.br (decide
  (IntKind.i64.wrap
      (IntKind.i64.wrap ((fszAddr.fn (x.to, n, ())).fst - (↑x.from_.size : Int)) - (↑x.digest.size : Int)) <
    (0 : Int)))
   (.leaf (mkR fszRequest.rs ((-1 : Int), ())) [] [])
   (.leaf (mkR fszRequest.rs (IntKind.i64.wrap (IntKind.i64.wrap ((fszAddr.fn (x.to, n, ())).fst - (↑x.from_.size : Int)) - (↑x.digest.size : Int)), ())) [] [])))) (by kernel_rfl) ?_
  refine ob_i ?_ fun o1 => br_i (fun h2 => Fct.leafY ?_) (fun h2 => br_i (fun h3 => Fct.leafY ?_) (fun h3 => br_i (fun h4 => Fct.leafY ?_) (fun h4 => Fct.leafY ?_)))
  all_goals try simp only [decide_eq_true_eq, decide_eq_false_iff_not, Bool.not_eq_true', Bool.not_eq_false', bne_iff_ne, bne_eq_false_iff_eq, beq_iff_eq, beq_eq_false_iff_ne, baEq, Int.not_lt, Int.not_le, ne_eq, Decidable.not_not] at *
  all_goals try simp only [fszAddr, fszRequest, decide_eq_true_eq, decide_eq_false_iff_not, Bool.not_eq_true', Bool.not_eq_false', bne_iff_ne, bne_eq_false_iff_eq, beq_iff_eq, beq_eq_false_iff_ne, Bool.not_eq_true, Bool.not_eq_false, ne_eq, Decidable.not_not, baEq, decide_not, Prod.mk.injEq, and_true, true_and, Room, List.nil_append, Nat.zero_add, Int.not_lt, Int.not_le, Sh.good, Sh.fc, enc, List.forall_mem_cons, List.not_mem_nil, false_implies, implies_true, goodC, maxLen] at *
  all_goals grind [wrapId', lessen, szAddr, szRequest])
def E9 : D.Env := E8.add 76 fszRequest
theorem E9ok : EOk Try.prog E9 := E8ok.add k76_8
-- laws.toRequest
theorem k78_9 : ftoRequest.ok Try.prog 78 := Fct.of (S := ftoRequest) (L := fun _ _ => none) (kp := [0,1,2,3]) E9ok Try.func78 (by kernel_rfl) (by kernel_rfl) (by
  rintro ⟨(x : SRequest), _⟩ hp
  refine holds_of (X := .ob (ftoAddr.pre (x.to, ())) <|
 .leaf (mkR ftoRequest.rs (x, ())) [] []) (by kernel_rfl) ?_
  refine ob_i ?_ fun o1 => Fct.leafY ?_
  all_goals try simp only [decide_eq_true_eq, decide_eq_false_iff_not, Bool.not_eq_true', Bool.not_eq_false', bne_iff_ne, bne_eq_false_iff_eq, beq_iff_eq, beq_eq_false_iff_ne, baEq, Int.not_lt, Int.not_le, ne_eq, Decidable.not_not] at *
  all_goals try simp only [ftoAddr, ftoRequest, decide_eq_true_eq, decide_eq_false_iff_not, Bool.not_eq_true', Bool.not_eq_false', bne_iff_ne, bne_eq_false_iff_eq, beq_iff_eq, beq_eq_false_iff_ne, Bool.not_eq_true, Bool.not_eq_false, ne_eq, Decidable.not_not, baEq, decide_not, Prod.mk.injEq, and_true, true_and, Room, List.nil_append, Nat.zero_add, Int.not_lt, Int.not_le] at *
  all_goals first | trivial | rfl | grind [szAddr, szRequest])
def E10 : D.Env := E9.add 78 ftoRequest
theorem E10ok : EOk Try.prog E10 := E9ok.add k78_9
-- laws.eqRequest
theorem k80_10 : feqRequest.ok Try.prog 80 := Fct.of (S := feqRequest) (L := fun _ _ => none) (kp := [0,1,2,3,4,9,15,20,25]) E10ok Try.func80 (by kernel_rfl) (by kernel_rfl) (by
  rintro ⟨(x : SRequest), (y : SRequest), _⟩ hp
  refine holds_of (X := .br (x.kind != y.kind)
 (.leaf (mkR feqRequest.rs (false, ())) [] [])
 (.ob (feqAddr.pre (x.to, y.to, ())) <|
  .br (!(feqAddr.fn (x.to, y.to, ())).fst)
  (.leaf (mkR feqRequest.rs (false, ())) [] [])
  (.br (!x.from_.toList == y.from_.toList)
   (.leaf (mkR feqRequest.rs (false, ())) [] [])
   (.br (!x.digest.toList == y.digest.toList)
    (.leaf (mkR feqRequest.rs (false, ())) [] [])
    (.leaf (mkR feqRequest.rs (true, ())) [] []))))) (by kernel_rfl) ?_
  refine br_i (fun h1 => Fct.leafY ?_) (fun h1 => ob_i trivial fun _ => br_i (fun h2 => Fct.leafY ?_) (fun h2 => br_i (fun h3 => Fct.leafY ?_) (fun h3 => br_i (fun h4 => Fct.leafY ?_) (fun h4 => Fct.leafY ?_))))
  all_goals try simp only [decide_eq_true_eq, decide_eq_false_iff_not, Bool.not_eq_true', Bool.not_eq_false', bne_iff_ne, bne_eq_false_iff_eq, beq_iff_eq, beq_eq_false_iff_ne, baEq, Int.not_lt, Int.not_le, ne_eq, Decidable.not_not] at *
  all_goals try simp only [feqAddr, feqRequest, decide_eq_true_eq, decide_eq_false_iff_not, Bool.not_eq_true', Bool.not_eq_false', bne_iff_ne, bne_eq_false_iff_eq, beq_iff_eq, beq_eq_false_iff_ne, Bool.not_eq_true, Bool.not_eq_false, ne_eq, Decidable.not_not, baEq, decide_not, Prod.mk.injEq, and_true, true_and, Room, List.nil_append, Nat.zero_add, Int.not_lt, Int.not_le] at *
  all_goals first | trivial | (cases x; cases y; simp_all))
def E11 : D.Env := E10.add 80 feqRequest
theorem E11ok : EOk Try.prog E11 := E10ok.add k80_10
-- laws.szRequestS
theorem k34_11 : fszRequestS.ok Try.prog 34 := Fct.of (S := fszRequestS) (L := fun ⟨l, n, _⟩ => fun | 5 => some (LszS .request szRequest l n) | _ => none) (kp := [0,1,4,5,11,15,25]) E11ok Try.func34 (by kernel_rfl) (by kernel_rfl) (by
  rintro ⟨(l : List SRequest), (n : Int), _⟩ hp
  refine holds_of (X := .br (decide (IntKind.i64.wrap (n - (↑l.length : Int)) < (0 : Int)))
 (.leaf (mkR fszRequestS.rs ((-1 : Int), ())) [] [])
 (lpx (LszS .request szRequest l n) (IntKind.i64.wrap (n - (↑l.length : Int)), ((0 : Int), ())) fun (y2 : Int × Int × PUnit) bk2 =>
  .br (decide (y2.snd.fst < (↑l.length : Int)))
   (.ob ((0 : Int) ≤ y2.snd.fst ∧ y2.snd.fst < (↑l.length : Int)) <|
    .ob (fszRequest.pre (l.getD y2.snd.fst.toNat default, y2.fst, ())) <|
    .br (decide ((fszRequest.fn (l.getD y2.snd.fst.toNat default, y2.fst, ())).fst < (0 : Int)))
    (.leaf (mkR fszRequestS.rs ((-1 : Int), ())) [] [])
    (.ob (l = l) <|
     .ob (Value.bool (decide (IntKind.i64.wrap (n - (↑l.length : Int)) < (0 : Int))) =
  Value.bool (decide (IntKind.i64.wrap (n - (↑l.length : Int)) < (0 : Int)))) <|
     .ob (bk2 ((fszRequest.fn (l.getD y2.snd.fst.toNat default, y2.fst, ())).fst, (IntKind.i64.wrap (y2.snd.fst + (1 : Int)), ()))) <|
     .ok))
   (.leaf (mkR fszRequestS.rs (y2.fst, ())) [] []))) (by kernel_rfl) ?_
  refine br_i (fun h1 => Fct.leafY ?_) (fun h1 => lpx_i ?_ fun (y2 : Int × Int × PUnit) i2 => br_i (fun h3 => ob_i ?_ fun o4 => ob_i ?_ fun o5 => br_i (fun h6 => Fct.leafY ?_) (fun h6 => ob_i rfl fun _ => ob_i rfl fun _ => ob_i ?_ fun o7 => trivial)) (fun h3 => Fct.leafY ?_))
  all_goals try simp only [decide_eq_true_eq, decide_eq_false_iff_not, Bool.not_eq_true', Bool.not_eq_false', bne_iff_ne, bne_eq_false_iff_eq, beq_iff_eq, beq_eq_false_iff_ne, baEq, Int.not_lt, Int.not_le, ne_eq, Decidable.not_not] at *
  all_goals try simp only [LszS, fszRequest, fszRequestS, decide_eq_true_eq, decide_eq_false_iff_not, Bool.not_eq_true', Bool.not_eq_false', bne_iff_ne, bne_eq_false_iff_eq, beq_iff_eq, beq_eq_false_iff_ne, Bool.not_eq_true, Bool.not_eq_false, ne_eq, Decidable.not_not, baEq, decide_not, Prod.mk.injEq, and_true, true_and, Room, List.nil_append, Nat.zero_add, Int.not_lt, Int.not_le] at *
  · have := good_len hp.1; simp only [maxLen] at this; rw [wrapId (by omega)] at h1
    rw [lessenNeg (by simp only [szL]; omega)]
  · have := good_len hp.1; simp only [maxLen] at this
    rw [wrapId (by omega)] at h1 ⊢
    exact ⟨by omega, by omega, h1, by simp⟩
  · omega
  · exact ⟨good_getD hp.1 (by omega), by omega, by omega⟩
  · have hs := sum_take_le szRequest l (y2.2.1.toNat + 1)
    rw [sum_take szRequest (by omega)] at hs
    rw [lessen_lt (by omega)] at h6
    rw [lessenNeg (by simp only [szL]; omega)]
  · have hw : IntKind.i64.wrap (y2.2.1 + 1) = y2.2.1 + 1 := wrapId (by have := good_len hp.1; simp only [maxLen] at this; omega)
    have h7 : ¬ lessen y2.1 (szRequest (l.getD y2.2.1.toNat default)) < 0 := by omega
    rw [lessen_lt (by omega)] at h7
    rw [hw, toNat1 (by omega), sum_take szRequest (by omega), lessen_ge (by omega)]
    exact ⟨⟨by omega, by omega, by omega, by omega⟩, by omega⟩
  · have e : l.take y2.2.1.toNat = l := List.take_of_length_le (by omega)
    rw [e] at i2
    have hz : ((szL szRequest l : Nat) : Int) = l.length + (l.map szRequest).sum := by simp only [szL]; omega
    rw [lessen_ge (by omega)]
    show y2.1 = n - ((szL szRequest l : Nat) : Int)
    omega)
def E12 : D.Env := E11.add 34 fszRequestS
theorem E12ok : EOk Try.prog E12 := E11ok.add k34_11
-- laws.toRequestS
theorem k37_12 : ftoRequestS.ok Try.prog 37 := Fct.of (S := ftoRequestS) (L := fun ⟨l, _⟩ => fun | 3 => some (LtoS .request l) | _ => none) (kp := [0,2,3,4,11]) E12ok Try.func37 (by kernel_rfl) (by kernel_rfl) (by
  rintro ⟨(l : List SRequest), _⟩ hp
  refine holds_of (X := .ob ((↑l.length : Int) = (↑l.length : Int) ∧
  (0 : Int) ≤ (↑l.length : Int) ∧
    (72 : Int) * (↑l.length : Int) ≤ (140737488355328 : Int) ∧ (↑l.length : Int) ≤ (140737488355328 : Int)) <|
 lpx (LtoS .request l) ((0 : Int), (List.replicate (↑l.length : Int).toNat default, ())) fun (y2 : Int × List SRequest × PUnit) bk2 =>
 .br (decide (y2.fst < (↑l.length : Int)))
  (.ob ((0 : Int) ≤ y2.fst ∧ y2.fst < (↑l.length : Int)) <|
   .ob (ftoRequest.pre (l.getD y2.fst.toNat default, ())) <|
   .ob ((0 : Int) ≤ y2.fst ∧ y2.fst < (↑y2.snd.fst.length : Int)) <|
   .ob (y2.fst.toNat < y2.snd.fst.length) <|
   .ob (l = l) <|
   .ob (bk2 (IntKind.i64.wrap (y2.fst + (1 : Int)), (y2.snd.fst.modify y2.fst.toNat fun z => l.getD y2.fst.toNat default, ()))) <|
   .ok)
  (.leaf (mkR ftoRequestS.rs (y2.snd.fst, ())) [] [])) (by kernel_rfl) ?_
  refine ob_i ?_ fun o1 => lpx_i ?_ fun (y2 : Int × List SRequest × PUnit) i2 => br_i (fun h3 => ob_i ?_ fun o4 => ob_i ?_ fun o5 => ob_i ?_ fun o6 => ob_i ?_ fun o7 => ob_i rfl fun _ => ob_i ?_ fun o8 => trivial) (fun h3 => Fct.leafY ?_)
  all_goals try simp only [decide_eq_true_eq, decide_eq_false_iff_not, Bool.not_eq_true', Bool.not_eq_false', bne_iff_ne, bne_eq_false_iff_eq, beq_iff_eq, beq_eq_false_iff_ne, baEq, Int.not_lt, Int.not_le, ne_eq, Decidable.not_not] at *
  all_goals try simp only [LtoS, ftoRequest, ftoRequestS, decide_eq_true_eq, decide_eq_false_iff_not, Bool.not_eq_true', Bool.not_eq_false', bne_iff_ne, bne_eq_false_iff_eq, beq_iff_eq, beq_eq_false_iff_ne, Bool.not_eq_true, Bool.not_eq_false, ne_eq, Decidable.not_not, baEq, decide_not, Prod.mk.injEq, and_true, true_and, Room, List.nil_append, Nat.zero_add, Int.not_lt, Int.not_le] at *
  · have := szL_len szRequest l; omega
  · exact ⟨by omega, by omega, by simp⟩
  · omega
  · have hs := sum_take_le szRequest l (y2.1.toNat + 1)
    rw [sum_take szRequest (by omega)] at hs
    simp only [szL] at hp; omega
  · rw [i2.2.2]; simp; omega
  · rw [i2.2.2]; simp; omega
  · have hw : IntKind.i64.wrap (y2.1 + 1) = y2.1 + 1 := wrapId (by have := szL_len szRequest l; omega)
    rw [hw, toNat1 (by omega), i2.2.2]
    refine ⟨⟨by omega, by omega, ?_⟩, by omega⟩
    rw [show l.length - y2.1.toNat = (l.length - (y2.1.toNat + 1)) + 1 from by omega, List.replicate_succ, mod_at (by simp; omega), take_succ (by omega)]
    simp
  · have e : l.take y2.1.toNat = l := List.take_of_length_le (by omega)
    rw [i2.2.2, e]; simp; omega)
def E13 : D.Env := E12.add 37 ftoRequestS
theorem E13ok : EOk Try.prog E13 := E12ok.add k37_12
-- laws.eqRequestS
theorem k40_13 : feqRequestS.ok Try.prog 40 := Fct.of (S := feqRequestS) (L := fun ⟨l, m, _⟩ => fun | 4 => some (LeqS .request l m) | _ => none) (kp := [0,1,4,5,10,14,26]) E13ok Try.func40 (by kernel_rfl) (by kernel_rfl) (by
  rintro ⟨(l : List SRequest), (m : List SRequest), _⟩ hp
  refine holds_of (X := .br ((↑l.length : Int) != (↑m.length : Int))
 (.leaf (mkR feqRequestS.rs (false, ())) [] [])
 (lpx (LeqS .request l m) ((0 : Int), ()) fun (y2 : Int × PUnit) bk2 =>
  .br (decide (y2.fst < (↑l.length : Int)))
   (.ob ((0 : Int) ≤ y2.fst ∧ y2.fst < (↑l.length : Int)) <|
    .ob ((0 : Int) ≤ y2.fst ∧ y2.fst < (↑m.length : Int)) <|
    .ob (feqRequest.pre (l.getD y2.fst.toNat default, m.getD y2.fst.toNat default, ())) <|
    .br (!(feqRequest.fn (l.getD y2.fst.toNat default, m.getD y2.fst.toNat default, ())).fst)
    (.leaf (mkR feqRequestS.rs (false, ())) [] [])
    (.ob (l = l) <|
     .ob (m = m) <|
     .ob (Value.bool ((↑l.length : Int) != (↑m.length : Int)) = Value.bool ((↑l.length : Int) != (↑m.length : Int))) <|
     .ob (bk2 (IntKind.i64.wrap (y2.fst + (1 : Int)), ())) <|
     .ok))
   (.leaf (mkR feqRequestS.rs (true, ())) [] []))) (by kernel_rfl) ?_
  refine br_i (fun h1 => Fct.leafY ?_) (fun h1 => lpx_i ?_ fun (y2 : Int × PUnit) i2 => br_i (fun h3 => ob_i ?_ fun o4 => ob_i ?_ fun o5 => ob_i trivial fun _ => br_i (fun h6 => Fct.leafY ?_) (fun h6 => ob_i rfl fun _ => ob_i rfl fun _ => ob_i rfl fun _ => ob_i ?_ fun o7 => trivial)) (fun h3 => Fct.leafY ?_))
  all_goals try simp only [decide_eq_true_eq, decide_eq_false_iff_not, Bool.not_eq_true', Bool.not_eq_false', bne_iff_ne, bne_eq_false_iff_eq, beq_iff_eq, beq_eq_false_iff_ne, baEq, Int.not_lt, Int.not_le, ne_eq, Decidable.not_not] at *
  all_goals try simp only [LeqS, feqRequest, feqRequestS, decide_eq_true_eq, decide_eq_false_iff_not, Bool.not_eq_true', Bool.not_eq_false', bne_iff_ne, bne_eq_false_iff_eq, beq_iff_eq, beq_eq_false_iff_ne, Bool.not_eq_true, Bool.not_eq_false, ne_eq, Decidable.not_not, baEq, decide_not, Prod.mk.injEq, and_true, true_and, Room, List.nil_append, Nat.zero_add, Int.not_lt, Int.not_le] at *
  · rw [decide_eq_false]; rintro rfl; omega
  · exact ⟨by omega, by omega, by simp⟩
  · omega
  · omega
  · rw [decide_eq_false]; rintro rfl; exact absurd rfl h6
  · have hw : IntKind.i64.wrap (y2.1 + 1) = y2.1 + 1 := wrapId (by omega)
    rw [hw, toNat1 (by omega)]
    refine ⟨⟨by omega, by omega, ?_⟩, by omega⟩
    rw [take_succ (by omega), take_succ (by omega), i2.2.2, h6]
  · have e : l.take y2.1.toNat = l := List.take_of_length_le (by omega)
    have e2 : m.take y2.1.toNat = m := List.take_of_length_le (by omega)
    rw [decide_eq_true]; rw [← e, ← e2, i2.2.2])
def E14 : D.Env := E13.add 40 feqRequestS
theorem E14ok : EOk Try.prog E14 := E13ok.add k40_13
-- laws.markRequestS
theorem k42_14 : fmarkRequestS.ok Try.prog 42 := MS.of (S := fmarkRequestS) (L := fun l k => fun | 2 => some (LmkS .request mkRequest l k) | _ => none) (kp := [0,1,4,5,9]) (kl := [0]) E14ok Try.func42 (by kernel_rfl) (by kernel_rfl) (by
  rintro (l : List SRequest) (k : Int) hp
  refine holds_of (X := lpx (LmkS .request mkRequest l k) (k, ((0 : Int), (l, ()))) fun (y1 : Int × Int × List SRequest × PUnit) bk1 =>
 .br (decide (y1.snd.fst < (↑y1.snd.snd.fst.length : Int)))
  (.ob ((0 : Int) ≤ y1.snd.fst ∧ y1.snd.fst < (↑y1.snd.snd.fst.length : Int)) <|
   .ob (y1.snd.fst.toNat < y1.snd.snd.fst.length) <|
   .ob (fmarkText.pre (IntKind.i64.wrap (y1.fst + (1 : Int)), ())) <|
   .ob ((0 : Int) ≤ y1.snd.fst ∧
  y1.snd.fst <
    (↑(y1.snd.snd.fst.modify y1.snd.fst.toNat fun z =>
            { kind := y1.fst, to := z.to, from_ := z.from_, digest := z.digest : SRequest }).length :
      Int)) <|
   .ob (y1.snd.fst.toNat <
  (y1.snd.snd.fst.modify y1.snd.fst.toNat fun z =>
      { kind := y1.fst, to := z.to, from_ := z.from_, digest := z.digest : SRequest }).length) <|
   .ob (fmarkText.pre (IntKind.i64.wrap (IntKind.i64.wrap (y1.fst + (1 : Int)) + (1 : Int)), ())) <|
   .ob ((0 : Int) ≤ y1.snd.fst ∧
  y1.snd.fst <
    (↑((y1.snd.snd.fst.modify y1.snd.fst.toNat fun z =>
                { kind := y1.fst, to := z.to, from_ := z.from_, digest := z.digest : SRequest }).modify
            y1.snd.fst.toNat fun z =>
            { kind := z.kind,
              to :=
                { host := (fmarkText.fn (IntKind.i64.wrap (y1.fst + (1 : Int)), ())).fst, path := z.to.path : SAddr },
              from_ := z.from_, digest := z.digest : SRequest }).length :
      Int)) <|
   .ob (y1.snd.fst.toNat <
  ((y1.snd.snd.fst.modify y1.snd.fst.toNat fun z =>
          { kind := y1.fst, to := z.to, from_ := z.from_, digest := z.digest : SRequest }).modify
      y1.snd.fst.toNat fun z =>
      { kind := z.kind,
        to := { host := (fmarkText.fn (IntKind.i64.wrap (y1.fst + (1 : Int)), ())).fst, path := z.to.path : SAddr },
        from_ := z.from_, digest := z.digest : SRequest }).length) <|
   .ob (fmarkText.pre (IntKind.i64.wrap (IntKind.i64.wrap (IntKind.i64.wrap (y1.fst + (1 : Int)) + (1 : Int)) + (1 : Int)), ())) <|
   .ob ((0 : Int) ≤ y1.snd.fst ∧
  y1.snd.fst <
    (↑(((y1.snd.snd.fst.modify y1.snd.fst.toNat fun z =>
                    { kind := y1.fst, to := z.to, from_ := z.from_, digest := z.digest : SRequest }).modify
                y1.snd.fst.toNat fun z =>
                { kind := z.kind,
                  to :=
                    { host := (fmarkText.fn (IntKind.i64.wrap (y1.fst + (1 : Int)), ())).fst, path := z.to.path :
                      SAddr },
                  from_ := z.from_, digest := z.digest : SRequest }).modify
            y1.snd.fst.toNat fun z =>
            { kind := z.kind,
              to :=
                { host := z.to.host,
                  path :=
                    (fmarkText.fn (IntKind.i64.wrap (IntKind.i64.wrap (y1.fst + (1 : Int)) + (1 : Int)), ())).fst :
                  SAddr },
              from_ := z.from_, digest := z.digest : SRequest }).length :
      Int)) <|
   .ob (y1.snd.fst.toNat <
  (((y1.snd.snd.fst.modify y1.snd.fst.toNat fun z =>
              { kind := y1.fst, to := z.to, from_ := z.from_, digest := z.digest : SRequest }).modify
          y1.snd.fst.toNat fun z =>
          { kind := z.kind,
            to := { host := (fmarkText.fn (IntKind.i64.wrap (y1.fst + (1 : Int)), ())).fst, path := z.to.path : SAddr },
            from_ := z.from_, digest := z.digest : SRequest }).modify
      y1.snd.fst.toNat fun z =>
      { kind := z.kind,
        to :=
          { host := z.to.host,
            path := (fmarkText.fn (IntKind.i64.wrap (IntKind.i64.wrap (y1.fst + (1 : Int)) + (1 : Int)), ())).fst :
            SAddr },
        from_ := z.from_, digest := z.digest : SRequest }).length) <|
   .ob (fmarkText.pre
  (IntKind.i64.wrap
      (IntKind.i64.wrap (IntKind.i64.wrap (IntKind.i64.wrap (y1.fst + (1 : Int)) + (1 : Int)) + (1 : Int)) + (1 : Int)),
    ())) <|
   .ob ((0 : Int) ≤ y1.snd.fst ∧
  y1.snd.fst <
    (↑((((y1.snd.snd.fst.modify y1.snd.fst.toNat fun z =>
                        { kind := y1.fst, to := z.to, from_ := z.from_, digest := z.digest : SRequest }).modify
                    y1.snd.fst.toNat fun z =>
                    { kind := z.kind,
                      to :=
                        { host := (fmarkText.fn (IntKind.i64.wrap (y1.fst + (1 : Int)), ())).fst, path := z.to.path :
                          SAddr },
                      from_ := z.from_, digest := z.digest : SRequest }).modify
                y1.snd.fst.toNat fun z =>
                { kind := z.kind,
                  to :=
                    { host := z.to.host,
                      path :=
                        (fmarkText.fn (IntKind.i64.wrap (IntKind.i64.wrap (y1.fst + (1 : Int)) + (1 : Int)), ())).fst :
                      SAddr },
                  from_ := z.from_, digest := z.digest : SRequest }).modify
            y1.snd.fst.toNat fun z =>
            { kind := z.kind, to := z.to,
              from_ :=
                (fmarkText.fn
                    (IntKind.i64.wrap
                        (IntKind.i64.wrap (IntKind.i64.wrap (y1.fst + (1 : Int)) + (1 : Int)) + (1 : Int)),
                      ())).fst,
              digest := z.digest : SRequest }).length :
      Int)) <|
   .ob (y1.snd.fst.toNat <
  ((((y1.snd.snd.fst.modify y1.snd.fst.toNat fun z =>
                  { kind := y1.fst, to := z.to, from_ := z.from_, digest := z.digest : SRequest }).modify
              y1.snd.fst.toNat fun z =>
              { kind := z.kind,
                to :=
                  { host := (fmarkText.fn (IntKind.i64.wrap (y1.fst + (1 : Int)), ())).fst, path := z.to.path : SAddr },
                from_ := z.from_, digest := z.digest : SRequest }).modify
          y1.snd.fst.toNat fun z =>
          { kind := z.kind,
            to :=
              { host := z.to.host,
                path := (fmarkText.fn (IntKind.i64.wrap (IntKind.i64.wrap (y1.fst + (1 : Int)) + (1 : Int)), ())).fst :
                SAddr },
            from_ := z.from_, digest := z.digest : SRequest }).modify
      y1.snd.fst.toNat fun z =>
      { kind := z.kind, to := z.to,
        from_ :=
          (fmarkText.fn
              (IntKind.i64.wrap (IntKind.i64.wrap (IntKind.i64.wrap (y1.fst + (1 : Int)) + (1 : Int)) + (1 : Int)),
                ())).fst,
        digest := z.digest : SRequest }).length) <|
   .ob (Value.int IntKind.i64 (0 : Int) = Value.int IntKind.i64 (0 : Int)) <|
   .ob (bk1 (IntKind.i64.wrap
  (IntKind.i64.wrap
      (IntKind.i64.wrap (IntKind.i64.wrap (IntKind.i64.wrap (y1.fst + (1 : Int)) + (1 : Int)) + (1 : Int)) +
        (1 : Int)) +
    (1 : Int)), (IntKind.i64.wrap (y1.snd.fst + (1 : Int)), (((((y1.snd.snd.fst.modify y1.snd.fst.toNat fun z =>
                  { kind := y1.fst, to := z.to, from_ := z.from_, digest := z.digest : SRequest }).modify
              y1.snd.fst.toNat fun z =>
              { kind := z.kind,
                to :=
                  { host := (fmarkText.fn (IntKind.i64.wrap (y1.fst + (1 : Int)), ())).fst, path := z.to.path : SAddr },
                from_ := z.from_, digest := z.digest : SRequest }).modify
          y1.snd.fst.toNat fun z =>
          { kind := z.kind,
            to :=
              { host := z.to.host,
                path := (fmarkText.fn (IntKind.i64.wrap (IntKind.i64.wrap (y1.fst + (1 : Int)) + (1 : Int)), ())).fst :
                SAddr },
            from_ := z.from_, digest := z.digest : SRequest }).modify
      y1.snd.fst.toNat fun z =>
      { kind := z.kind, to := z.to,
        from_ :=
          (fmarkText.fn
              (IntKind.i64.wrap (IntKind.i64.wrap (IntKind.i64.wrap (y1.fst + (1 : Int)) + (1 : Int)) + (1 : Int)),
                ())).fst,
        digest := z.digest : SRequest }).modify
  y1.snd.fst.toNat fun z =>
  { kind := z.kind, to := z.to, from_ := z.from_,
    digest :=
      (fmarkText.fn
          (IntKind.i64.wrap
              (IntKind.i64.wrap (IntKind.i64.wrap (IntKind.i64.wrap (y1.fst + (1 : Int)) + (1 : Int)) + (1 : Int)) +
                (1 : Int)),
            ())).fst :
    SRequest }, ())))) <|
   .ok)
  (.leaf (.one false [vi (y1.fst)]) [] [((0 : Nat), ⟨Ty.request, y1.snd.snd.fst⟩)])) (by kernel_rfl) ?_
  refine lpx_i ?_ fun (y1 : Int × Int × List SRequest × PUnit) i1 => br_i (fun h2 => ob_i ?_ fun o3 => ob_i ?_ fun o4 => ob_i ?_ fun o5 => ob_i ?_ fun o6 => ob_i ?_ fun o7 => ob_i ?_ fun o8 => ob_i ?_ fun o9 => ob_i ?_ fun o10 => ob_i ?_ fun o11 => ob_i ?_ fun o12 => ob_i ?_ fun o13 => ob_i ?_ fun o14 => ob_i ?_ fun o15 => ob_i ?_ fun o16 => ob_i rfl fun _ => ob_i ?_ fun o17 => trivial) (fun h2 => MS.leaf ?_)
  · exact ⟨by simp, by simp, by simp [markL], by simp [markL]⟩
  all_goals have hp1 : 0 ≤ k := hp.1
  all_goals have hp2 : (markL mkRequest l k).2 ≤ 4000000000000000000 := hp.2
  all_goals have i3 : 0 ≤ y1.2.1 ∧ y1.2.1 ≤ l.length ∧ y1.1 = (markL mkRequest (l.take y1.2.1.toNat) k).2 ∧ y1.2.2.1 = (markL mkRequest (l.take y1.2.1.toNat) k).1 ++ l.drop y1.2.1.toNat := i1
  all_goals have hcnt := markL_cnt (f := mkRequest) (fun x k => by simp only [mkRequest]; omega) l k
  all_goals have hx : y1.2.2.1.length = l.length := by rw [i3.2.2.2, List.length_append, markL_len, List.length_take, List.length_drop]; omega
  all_goals simp only [decide_eq_true_eq, decide_eq_false_iff_not, hx] at h2
  all_goals clear i1
  all_goals try have hlt : y1.2.1.toNat < l.length := by omega
  all_goals try have ht := markL_take (f := mkRequest) hlt k
  all_goals try have hle := (markL_take_le mkRequest_mono l (y1.2.1.toNat + 1) k).2
  all_goals try have hl0 := (markL_take_le mkRequest_mono l y1.2.1.toNat k).1
  all_goals try rw [ht] at hle
  all_goals try rw [← i3.2.2.1] at hle hl0 ht
  all_goals try simp only [mkRequest] at hle
  all_goals first | decide | (simp only [List.length_modify, hx]; omega) | (refine ⟨?_, ?_⟩ <;> (try simp (discharger := omega) only [wrapId']) <;> omega) | skip
  · clear o3 o4 o5
    simp (discharger := omega) only [wrapId', fmarkText]
    have hA : (markL mkRequest (l.take y1.2.1.toNat) k).1.length = y1.2.1.toNat := by rw [markL_len, List.length_take]; omega
    refine ⟨⟨by omega, by omega, ?_, ?_⟩, ?_⟩
    · rw [toNat1 (by omega), ht]
      simp only [mkRequest]
      omega
    · rw [toNat1 (by omega), ht, i3.2.2.2, drop_cons hlt]
      simp only [mod_at hA, mkRequest, Int.add_assoc, Int.reduceAdd, List.append_assoc, List.cons_append, List.nil_append]
    · omega
  · refine MS.leafL (t := .request) (fn := fun l k => markL mkRequest l k) ?_
    have e1 : l.take y1.2.1.toNat = l := List.take_of_length_le (by omega)
    have e2 : l.drop y1.2.1.toNat = [] := List.drop_of_length_le (by omega)
    rw [i3.2.2.2, i3.2.2.1, e1, e2, List.append_nil])
def E15 : D.Env := E14.addM 42 fmarkRequestS
theorem E15ok : EOk Try.prog E15 := E14ok.addM k42_14
-- laws.heldRequestS
theorem k44_15 : fheldRequestS.ok Try.prog 44 := Fct.of (S := fheldRequestS) (L := fun ⟨l, k, _⟩ => fun | 2 => some (LheS .request mkRequest l k) | _ => none) (kp := [0,1,4,5,9,18,29,40,50,60]) E15ok Try.func44 (by kernel_rfl) (by kernel_rfl) (by
  rintro ⟨(l : List SRequest), (k : Int), _⟩ hp
  refine holds_of (X := lpx (LheS .request mkRequest l k) (k, ((0 : Int), ())) fun (y1 : Int × Int × PUnit) bk1 =>
 .br (decide (y1.snd.fst < (↑l.length : Int)))
  (.ob ((0 : Int) ≤ y1.snd.fst ∧ y1.snd.fst < (↑l.length : Int)) <|
   .br ((l.getD y1.snd.fst.toNat default).kind != y1.fst)
   (.leaf (mkR fheldRequestS.rs ((-1 : Int), ())) [] [])
   (.ob ((0 : Int) ≤ y1.snd.fst ∧ y1.snd.fst < (↑l.length : Int)) <|
    .ob (fmarkText.pre (IntKind.i64.wrap (y1.fst + (1 : Int)), ())) <|
    .br (!(l.getD y1.snd.fst.toNat default).to.host.toList ==
    (fmarkText.fn (IntKind.i64.wrap (y1.fst + (1 : Int)), ())).fst.toList)
    (.leaf (mkR fheldRequestS.rs ((-1 : Int), ())) [] [])
    (.ob ((0 : Int) ≤ y1.snd.fst ∧ y1.snd.fst < (↑l.length : Int)) <|
     .ob (fmarkText.pre (IntKind.i64.wrap (IntKind.i64.wrap (y1.fst + (1 : Int)) + (1 : Int)), ())) <|
     .br (!(l.getD y1.snd.fst.toNat default).to.path.toList ==
    (fmarkText.fn (IntKind.i64.wrap (IntKind.i64.wrap (y1.fst + (1 : Int)) + (1 : Int)), ())).fst.toList)
     (.leaf (mkR fheldRequestS.rs ((-1 : Int), ())) [] [])
     (.ob ((0 : Int) ≤ y1.snd.fst ∧ y1.snd.fst < (↑l.length : Int)) <|
      .ob (fmarkText.pre (IntKind.i64.wrap (IntKind.i64.wrap (IntKind.i64.wrap (y1.fst + (1 : Int)) + (1 : Int)) + (1 : Int)), ())) <|
      .br (!(l.getD y1.snd.fst.toNat default).from_.toList ==
    (fmarkText.fn
          (IntKind.i64.wrap (IntKind.i64.wrap (IntKind.i64.wrap (y1.fst + (1 : Int)) + (1 : Int)) + (1 : Int)),
            ())).fst.toList)
      (.leaf (mkR fheldRequestS.rs ((-1 : Int), ())) [] [])
      (.ob ((0 : Int) ≤ y1.snd.fst ∧ y1.snd.fst < (↑l.length : Int)) <|
       .ob (fmarkText.pre
  (IntKind.i64.wrap
      (IntKind.i64.wrap (IntKind.i64.wrap (IntKind.i64.wrap (y1.fst + (1 : Int)) + (1 : Int)) + (1 : Int)) + (1 : Int)),
    ())) <|
       .br (!(l.getD y1.snd.fst.toNat default).digest.toList ==
    (fmarkText.fn
          (IntKind.i64.wrap
              (IntKind.i64.wrap (IntKind.i64.wrap (IntKind.i64.wrap (y1.fst + (1 : Int)) + (1 : Int)) + (1 : Int)) +
                (1 : Int)),
            ())).fst.toList)
       (.leaf (mkR fheldRequestS.rs ((-1 : Int), ())) [] [])
       (.ob (l = l) <|
        .ob (bk1 (IntKind.i64.wrap
  (IntKind.i64.wrap
      (IntKind.i64.wrap (IntKind.i64.wrap (IntKind.i64.wrap (y1.fst + (1 : Int)) + (1 : Int)) + (1 : Int)) +
        (1 : Int)) +
    (1 : Int)), (IntKind.i64.wrap (y1.snd.fst + (1 : Int)), ()))) <|
        .ok))))))
  (.leaf (mkR fheldRequestS.rs (y1.fst, ())) [] [])) (by kernel_rfl) ?_
  refine lpx_i ?_ fun (y1 : Int × Int × PUnit) i1 => br_i (fun h2 => ob_i ?_ fun o3 => br_i (fun h4 => Fct.leafY ?_) (fun h4 => ob_i ?_ fun o5 => ob_i ?_ fun o6 => br_i (fun h7 => Fct.leafY ?_) (fun h7 => ob_i ?_ fun o8 => ob_i ?_ fun o9 => br_i (fun h10 => Fct.leafY ?_) (fun h10 => ob_i ?_ fun o11 => ob_i ?_ fun o12 => br_i (fun h13 => Fct.leafY ?_) (fun h13 => ob_i ?_ fun o14 => ob_i ?_ fun o15 => br_i (fun h16 => Fct.leafY ?_) (fun h16 => ob_i rfl fun _ => ob_i ?_ fun o17 => trivial)))))) (fun h2 => Fct.leafY ?_)
  · exact ⟨by simp, by simp, by simp [markL]⟩
  all_goals have hp1 : 0 ≤ k := hp.1
  all_goals have hp2 : (markL mkRequest l k).2 ≤ 4000000000000000000 := hp.2.1
  all_goals have hp3 : (markL mkRequest l k).1 = l := hp.2.2
  all_goals have i3 : 0 ≤ y1.2.1 ∧ y1.2.1 ≤ l.length ∧ y1.1 = (markL mkRequest (l.take y1.2.1.toNat) k).2 := i1
  all_goals have hcnt := markL_cnt (f := mkRequest) (fun x k => by simp only [mkRequest]; omega) l k
  all_goals simp only [decide_eq_true_eq, decide_eq_false_iff_not] at h2
  all_goals clear i1 hp
  all_goals try have hlt : y1.2.1.toNat < l.length := by omega
  all_goals try have ht := markL_take (f := mkRequest) hlt k
  all_goals try have hle := (markL_take_le mkRequest_mono l (y1.2.1.toNat + 1) k).2
  all_goals try have hl0 := (markL_take_le mkRequest_mono l y1.2.1.toNat k).1
  all_goals try have heq := markL_held hp3 hlt
  all_goals try rw [ht] at hle
  all_goals try rw [← i3.2.2] at hle hl0 ht heq
  all_goals try simp only [mkRequest] at hle heq
  all_goals first | decide | omega | (refine ⟨?_, ?_⟩ <;> (try simp (discharger := omega) only [wrapId']) <;> omega) | skip
  all_goals try (exfalso; clear ht; generalize l.getD y1.2.1.toNat default = c at *; subst heq; simp (discharger := omega) [wrapId', fmarkText, Int.add_assoc] at *; done)
  · simp (discharger := omega) only [wrapId']
    refine ⟨⟨by omega, by omega, ?_⟩, ?_⟩
    · rw [toNat1 (by omega), ht]
      simp only [mkRequest]
      omega
    · omega
  · have e1 : l.take y1.2.1.toNat = l := List.take_of_length_le (by omega)
    rw [e1] at i3
    show (y1.1, ()) = ((markL mkRequest l k).2, ())
    rw [i3.2.2])
def E16 : D.Env := E15.add 44 fheldRequestS
theorem E16ok : EOk Try.prog E16 := E15ok.add k44_15
def isOwnGuess (s : SSent) : Bool := !s.guess || decide (s.to.host = s.top)
def fIsOwnGuess : Fct := ⟨[aE .sent], [rB], fun _ => True, fun x => (isOwnGuess x.1, ())⟩
def lSent : Fct := lawFS [.el .sent]
def countGuess : List SConn → Nat
  | [] => 0
  | c :: l => countGuess l + (if c.guess then 1 else 0)
theorem countGuess_app (l : List SConn) (c : SConn) : countGuess (l ++ [c]) = countGuess l + (if c.guess then 1 else 0) := by
  induction l with
  | nil => simp [countGuess]
  | cons d l ih => simp only [List.cons_append, countGuess, ih]; omega
theorem countGuess_take {l : List SConn} {i : Nat} (h : i < l.length) : countGuess (l.take (i + 1)) = countGuess (l.take i) + (if (l.getD i default).guess then 1 else 0) := by rw [take_succ h, countGuess_app]
theorem countGuess_le (l : List SConn) : countGuess l ≤ l.length := by
  induction l with
  | nil => simp [countGuess]
  | cons d l ih => simp only [countGuess, List.length_cons]; split <;> omega
def fCount : Fct := ⟨[aL .conn], [rI], fun x => Sh.good (.sl .conn) x.1, fun x => ((countGuess x.1 : Int), ())⟩
abbrev Lcount (n i : Nat) (l : List SConn) : LInv := ⟨[⟨.s, n, true, .el .int⟩, ⟨.s, i, true, .el .int⟩], fun _ (x : Int × Int × Unit) => 0 ≤ x.2.1 ∧ x.2.1 ≤ l.length ∧ x.1 = countGuess (l.take x.2.1.toNat), fun (x : Int × Int × Unit) => l.length - x.2.1.toNat⟩
def findConn (a : SAddr) : List SConn → Int → Int
  | [], _ => -1
  | c :: l, i => if c.to = a then i else findConn a l (i + 1)
theorem findConn_at {a : SAddr} {l : List SConn} {i : Nat} {z : Int} (h : i < l.length) : findConn a (l.drop i) z = if (l.getD i default).to = a then z else findConn a (l.drop (i + 1)) (z + 1) := by rw [drop_cons h]; rfl
theorem findConn_end {a : SAddr} {l : List SConn} {i : Nat} {z : Int} (h : l.length ≤ i) : findConn a (l.drop i) z = -1 := by rw [List.drop_of_length_le h]; rfl
theorem addrEq (x y : SAddr) : (x.host == y.host && (x.path == y.path && true)) = decide (x = y) := beqAddr x y
def fFind : Fct := ⟨[aL .conn, aE .addr], [rI], fun x => Sh.good (.sl .conn) x.1, fun x => (findConn x.2.1 x.1 0, ())⟩
abbrev Lfind (l : List SConn) (a : SAddr) : LInv := ⟨[⟨.s, 5, true, .el .int⟩, ⟨.b, 3, true, .el .addr⟩], fun _ (x : Int × SAddr × Unit) => 0 ≤ x.1 ∧ x.1 ≤ l.length ∧ x.2.1 = a ∧ findConn a l 0 = findConn a (l.drop x.1.toNat) x.1, fun (x : Int × SAddr × Unit) => l.length - x.1.toNat⟩
def fFind1 : Fct := ⟨[aE .conn, .p (.el .addr)], [rB], fun _ => True, fun x => (decide (x.1.to = x.2.1), ())⟩
def fIdxFind : Fct := ⟨[aL .conn, .c 74 [.el .addr]], [rI], fun x => Sh.good (.sl .conn) x.1, fun x => (findConn x.2.1.1 x.1 0, ())⟩
abbrev Lidx (l : List SConn) (F : List SConn → Int → Int) : LInv := ⟨[⟨.s, 8, true, .el .int⟩], fun _ (x : Int × Unit) => 0 ≤ x.1 ∧ x.1 ≤ l.length ∧ F l 0 = F (l.drop x.1.toNat) x.1, fun (x : Int × Unit) => l.length - x.1.toNat⟩
abbrev Lidxf (l : List SConn) (a : SAddr × Unit) : LInv := Lidx l (findConn a.1)
def firstDone : List SConn → Int → Int
  | [], _ => -1
  | c :: l, i => if c.left ≤ 0 then i else firstDone l (i + 1)
theorem firstDone_at {l : List SConn} {i : Nat} {z : Int} (h : i < l.length) : firstDone (l.drop i) z = if (l.getD i default).left ≤ 0 then z else firstDone (l.drop (i + 1)) (z + 1) := by rw [drop_cons h]; rfl
theorem firstDone_end {l : List SConn} {i : Nat} {z : Int} (h : l.length ≤ i) : firstDone (l.drop i) z = -1 := by rw [List.drop_of_length_le h]; rfl
def fFirst : Fct := ⟨[aL .conn], [rI], fun x => Sh.good (.sl .conn) x.1, fun x => (firstDone x.1 0, ())⟩
abbrev Lfirst (l : List SConn) : LInv := ⟨[⟨.s, 3, true, .el .int⟩], fun _ (x : Int × Unit) => 0 ≤ x.1 ∧ x.1 ≤ l.length ∧ firstDone l 0 = firstDone (l.drop x.1.toNat) x.1, fun (x : Int × Unit) => l.length - x.1.toNat⟩
def fFirst1 : Fct := ⟨[aE .conn], [rB], fun _ => True, fun x => (decide (x.1.left ≤ 0), ())⟩
def fIdxFirst : Fct := ⟨[aL .conn, .c 75 []], [rI], fun x => Sh.good (.sl .conn) x.1, fun x => (firstDone x.1 0, ())⟩
def lConnS : Fct := lawFS [.sl .conn]
def lConnSAddr : Fct := lawFS [.sl .conn, .el .addr]
def inRange (n lo hi : Int) : Bool := decide (lo ≤ n) && decide (n ≤ hi)
def fInRange : Fct := ⟨[aI, aI, aI], [rB], fun _ => True, fun (x : Int × Int × Int × Unit) => (inRange x.1 x.2.1 x.2.2.1, ())⟩
def fMax : Fct := ⟨[aI, aI], [rI], fun _ => True, fun (x : Int × Int × Unit) => (max x.1 x.2.1, ())⟩
def fCopyConns : Fct := ⟨[aL .conn], [rL .conn], fun (x : List SConn × Unit) => x.1.length ≤ 1048576, fun (x : List SConn × Unit) => (x.1, ())⟩
def moveOne (b : Int) (c : SConn) : SConn := { c with left := max 0 (IntKind.i64.wrap (c.left - b)) }
def moveConns (l : List SConn) (b : Int) : List SConn := if inRange b 0 1000 then l.map (moveOne b) else l
def fMove : Fct := ⟨[aL .conn, aI], [rL .conn], fun (x : List SConn × Int × Unit) => x.1.length ≤ 1048576, fun (x : List SConn × Int × Unit) => (moveConns x.1 x.2.1, ())⟩
abbrev L45 (l : List SConn) (b : Int) : LInv := ⟨[⟨.s, 6, true, .el .int⟩, ⟨.s, 5, true, .sl .conn⟩], fun _ (x : Int × List SConn × Unit) => 0 ≤ x.1 ∧ x.1 ≤ l.length ∧ x.2.1 = moveConns (l.take x.1.toNat) b ++ l.drop x.1.toNat, fun (x : Int × List SConn × Unit) => l.length - x.1.toNat⟩
theorem moveConns_len (l : List SConn) (b : Int) : (moveConns l b).length = l.length := by unfold moveConns; split <;> simp
theorem moveConns_nil (b : Int) : moveConns [] b = [] := by unfold moveConns; split <;> rfl
theorem moveConns_step {l : List SConn} {b : Int} {i : Nat} (hb : inRange b 0 1000 = true) (h : i < l.length) {g : SConn → SConn} (hg : g (l.getD i default) = moveOne b (l.getD i default)) : (moveConns (l.take i) b ++ l.drop i).modify i g = moveConns (l.take (i + 1)) b ++ l.drop (i + 1) := by
  rw [drop_cons h, mod_at (by rw [moveConns_len, List.length_take]; omega), take_succ h]
  simp only [moveConns, hb, if_true, List.map_append, List.map_cons, List.map_nil, List.append_assoc, List.cons_append, List.nil_append, hg]
theorem moveConns_out {l : List SConn} {b : Int} {i : Nat} (hb : inRange b 0 1000 = false) : moveConns (l.take i) b ++ l.drop i = moveConns l b := by
  simp [moveConns, hb]
abbrev L46 (l : List SConn) (b : Int) : LInv := ⟨[⟨.s, 15, true, .el .int⟩, ⟨.s, 5, true, .sl .conn⟩], fun _ (x : Int × List SConn × Unit) => 0 ≤ x.1 ∧ x.1 ≤ l.length ∧ x.2.1 = moveConns (l.take x.1.toNat) b ++ l.drop x.1.toNat, fun (x : Int × List SConn × Unit) => l.length - x.1.toNat⟩
def lMove : Fct := lawFS [.sl .conn, .el .int]
theorem mkConn_idem (x : SConn) (k : Int) : mkConn (mkConn x k).1 k = mkConn x k := rfl
def sizeResponse (x : SResponse) : Int := x.body.size + 20
def fSizeResponse : Fct := ⟨[aE .response], [rI], fun (x : SResponse × Unit) => x.1.body.size ≤ 1048576, fun (x : SResponse × Unit) => (sizeResponse x.1, ())⟩
def openConn (l : List SConn) (a : SAddr) (x : SResponse) (g : Bool) : List SConn × Bool := if (l.length : Int) ≥ 3 ∨ findConn a l 0 ≥ 0 then (l, false) else (l ++ [⟨a, sizeResponse x, g, x⟩], true)
def fOpen : Fct := ⟨[aL .conn, aE .addr, aE .response, aB], [rL .conn, rB], fun (x : List SConn × SAddr × SResponse × Bool × Unit) => x.1.length ≤ 1048576 ∧ Sh.good (.sl .conn) x.1 ∧ x.2.2.1.body.size ≤ 1048576, fun (x : List SConn × SAddr × SResponse × Bool × Unit) => ((openConn x.1 x.2.1 x.2.2.1 x.2.2.2.1).1, (openConn x.1 x.2.1 x.2.2.1 x.2.2.2.1).2, ())⟩
def lOpen : Fct := lawFS [.sl .conn, .el .addr, .el .response, .el .bool]
theorem openConn_len (l : List SConn) (a : SAddr) (x : SResponse) (g : Bool) : (openConn l a x g).1.length ≤ l.length + 1 := by unfold openConn; split <;> simp
def fIndex_addr : Fct := ⟨[.v (.sl .addr), .v (.el .addr)], [.el .int], fun (x_ : (List SAddr) × SAddr × Unit) => x_.1.length ≤ 1000000000000000000, fun (x_ : (List SAddr) × SAddr × Unit) => (fidx (fun c => decide (c = x_.2.1)) x_.1 0, ())⟩
abbrev W_slices_Index_impl_Addr_impl_Addr_fIndex_addr_2 (l : (List SAddr)) (a : SAddr) : LInv := ⟨[⟨.s, 8, true, .el .int⟩, ⟨.b, 3, true, .el .addr⟩], fun (z_ : Int × SAddr × Unit) (x_ : Int × SAddr × Unit) => (0 ≤ x_.1 ∧ x_.1 ≤ l.length ∧ fidx (fun c => decide (c = a)) l 0 = fidx (fun c => decide (c = a)) (l.drop x_.1.toNat) x_.1) ∧ x_.2.1 = z_.2.1, fun (x_ : Int × SAddr × Unit) => l.length - x_.1.toNat⟩
-- slices.Index[[]impl.Addr,impl.Addr]
theorem k109_16 : fIndex_addr.ok Try.prog 109 := Fct.of (S := fIndex_addr) (L := fun ⟨l, a, _⟩ => fun | 2 => some (W_slices_Index_impl_Addr_impl_Addr_fIndex_addr_2 l a) | _ => none) (kp := [0,1,3,4,5,7,8,9,16]) E16ok Try.func109 (by kernel_rfl) (by kernel_rfl) (by
  rintro ⟨(l : List SAddr), (a : SAddr), _⟩ hp
  refine holds_of (X := lpx (W_slices_Index_impl_Addr_impl_Addr_fIndex_addr_2 l a) ((0 : Int), (a, ())) fun (y1 : Int × SAddr × PUnit) bk1 =>
 .br (decide (y1.fst < (↑l.length : Int)))
  (.ob ((0 : Int) ≤ y1.fst ∧ y1.fst < (↑l.length : Int)) <|
   .br (y1.snd.fst.host == (l.getD y1.fst.toNat default).host && (y1.snd.fst.path == (l.getD y1.fst.toNat default).path && true))
   (.leaf (mkR fIndex_addr.rs (y1.fst, ())) [] [])
   (.ob (l = l) <|
    .ob (Value.string a.host = Value.string a.host) <|
    .ob (Value.string a.path = Value.string a.path) <|
    .ob (Value.int IntKind.i64 (↑l.length : Int) = Value.int IntKind.i64 (↑l.length : Int)) <|
    .ob (bk1 (IntKind.i64.wrap (y1.fst + (1 : Int)), (y1.snd.fst, ()))) <|
    .ok))
  (.leaf (mkR fIndex_addr.rs ((-1 : Int), ())) [] [])) (by kernel_rfl) ?_
  refine lpx_i ?_ fun (y1 : Int × SAddr × PUnit) i1 => br_i (fun h2 => ob_i ?_ fun o3 => br_i (fun h4 => Fct.leafY ?_) (fun h4 => ob_i rfl fun _ => ob_i rfl fun _ => ob_i rfl fun _ => ob_i rfl fun _ => ob_i ?_ fun o5 => trivial)) (fun h2 => Fct.leafY ?_)
  all_goals try simp only [beqAddr] at *
  all_goals try simp only [decide_eq_true_eq, decide_eq_false_iff_not, Bool.not_eq_true', Bool.not_eq_false', bne_iff_ne, bne_eq_false_iff_eq, beq_iff_eq, beq_eq_false_iff_ne, baEq, Int.not_lt, Int.not_le, ne_eq, Decidable.not_not] at *
  all_goals try simp only [W_slices_Index_impl_Addr_impl_Addr_fIndex_addr_2, fIndex_addr, decide_eq_true_eq, decide_eq_false_iff_not, Bool.not_eq_true', Bool.not_eq_false', bne_iff_ne, bne_eq_false_iff_eq, beq_iff_eq, beq_eq_false_iff_ne, Bool.not_eq_true, Bool.not_eq_false, ne_eq, Decidable.not_not, baEq, decide_not, Prod.mk.injEq, and_true, true_and, Room, List.nil_append, Nat.zero_add, Int.not_lt, Int.not_le, fidx] at *
  all_goals first | trivial | omega | grind [wrapId', toNat1, drop_cons, drop_end, good_len, maxLen, fidx])
def E17 : D.Env := E16.add 109 fIndex_addr
theorem E17ok : EOk Try.prog E17 := E16ok.add k109_16
def fContains_addr : Fct := ⟨[.v (.sl .addr), .v (.el .addr)], [.el .bool], fun (x_ : (List SAddr) × SAddr × Unit) => x_.1.length ≤ 1000000000000000000, fun (x_ : (List SAddr) × SAddr × Unit) => (x_.1.any fun c => decide (c = x_.2.1), ())⟩
-- slices.Contains[[]impl.Addr,impl.Addr]
theorem k102_17 : fContains_addr.ok Try.prog 102 := Fct.of (S := fContains_addr) (L := fun _ _ => none) (kp := [0,1,3,4]) E17ok Try.func102 (by kernel_rfl) (by kernel_rfl) (by
  rintro ⟨(l : List SAddr), (a : SAddr), _⟩ hp
  refine holds_of (X := .ob (fIndex_addr.pre (l, a, ())) <|
 .leaf (mkR fContains_addr.rs (decide ((fIndex_addr.fn (l, a, ())).fst ≥ (0 : Int)), ())) [] []) (by kernel_rfl) ?_
  refine ob_i ?_ fun o1 => Fct.leafY ?_
  all_goals try simp only [decide_eq_true_eq, decide_eq_false_iff_not, Bool.not_eq_true', Bool.not_eq_false', bne_iff_ne, bne_eq_false_iff_eq, beq_iff_eq, beq_eq_false_iff_ne, baEq, Int.not_lt, Int.not_le, ne_eq, Decidable.not_not] at *
  all_goals try simp only [fContains_addr, fIndex_addr, decide_eq_true_eq, decide_eq_false_iff_not, Bool.not_eq_true', Bool.not_eq_false', bne_iff_ne, bne_eq_false_iff_eq, beq_iff_eq, beq_eq_false_iff_ne, Bool.not_eq_true, Bool.not_eq_false, ne_eq, Decidable.not_not, baEq, decide_not, Prod.mk.injEq, and_true, true_and, Room, List.nil_append, Nat.zero_add, Int.not_lt, Int.not_le] at *
  all_goals first | trivial | omega | (rw [Bool.eq_iff_iff]; exact decide_eq_true_iff.trans (fidx_ge _ _ _ (by omega))))
def E18 : D.Env := E17.add 102 fContains_addr
theorem E18ok : EOk Try.prog E18 := E17ok.add k102_17
def fHasAddr : Fct := ⟨[.v (.sl .addr), .v (.el .addr)], [.el .bool], fun (x_ : (List SAddr) × SAddr × Unit) => x_.1.length ≤ 1000000000000000000, fun (x_ : (List SAddr) × SAddr × Unit) => (x_.1.any fun c => decide (c = x_.2.1), ())⟩
abbrev W_spec_HasAddr_fHasAddr_2 (l : (List SAddr)) (a : SAddr) : LInv := ⟨[⟨.s, 5, true, .el .int⟩, ⟨.b, 3, true, .el .addr⟩], fun (z_ : Int × SAddr × Unit) (x_ : Int × SAddr × Unit) => (0 ≤ x_.1 ∧ x_.1 ≤ l.length ∧ l.any (fun c => decide (c = a)) = (l.drop x_.1.toNat).any (fun c => decide (c = a))) ∧ x_.2.1 = z_.2.1, fun (x_ : Int × SAddr × Unit) => l.length - x_.1.toNat⟩
-- spec.HasAddr
theorem k77_18 : fHasAddr.ok Try.prog 77 := Fct.of (S := fHasAddr) (L := fun ⟨l, a, _⟩ => fun | 2 => some (W_spec_HasAddr_fHasAddr_2 l a) | _ => none) (kp := [0,1,3,4,5,9,17]) E18ok Try.func77 (by kernel_rfl) (by kernel_rfl) (by
  rintro ⟨(l : List SAddr), (a : SAddr), _⟩ hp
  refine holds_of (X := lpx (W_spec_HasAddr_fHasAddr_2 l a) ((0 : Int), (a, ())) fun (y1 : Int × SAddr × PUnit) bk1 =>
 .br (decide (y1.fst < (↑l.length : Int)))
  (.ob ((0 : Int) ≤ y1.fst ∧ y1.fst < (↑l.length : Int)) <|
   .br ((l.getD y1.fst.toNat default).host == y1.snd.fst.host && ((l.getD y1.fst.toNat default).path == y1.snd.fst.path && true))
   (.leaf (mkR fHasAddr.rs (true, ())) [] [])
   (.ob (l = l) <|
    .ob (Value.string a.host = Value.string a.host) <|
    .ob (Value.string a.path = Value.string a.path) <|
    .ob (bk1 (IntKind.i64.wrap (y1.fst + (1 : Int)), (y1.snd.fst, ()))) <|
    .ok))
  (.leaf (mkR fHasAddr.rs (false, ())) [] [])) (by kernel_rfl) ?_
  refine lpx_i ?_ fun (y1 : Int × SAddr × PUnit) i1 => br_i (fun h2 => ob_i ?_ fun o3 => br_i (fun h4 => Fct.leafY ?_) (fun h4 => ob_i rfl fun _ => ob_i rfl fun _ => ob_i rfl fun _ => ob_i ?_ fun o5 => trivial)) (fun h2 => Fct.leafY ?_)
  all_goals try simp only [beqAddr] at *
  all_goals try simp only [decide_eq_true_eq, decide_eq_false_iff_not, Bool.not_eq_true', Bool.not_eq_false', bne_iff_ne, bne_eq_false_iff_eq, beq_iff_eq, beq_eq_false_iff_ne, baEq, Int.not_lt, Int.not_le, ne_eq, Decidable.not_not] at *
  all_goals try simp only [W_spec_HasAddr_fHasAddr_2, fHasAddr, decide_eq_true_eq, decide_eq_false_iff_not, Bool.not_eq_true', Bool.not_eq_false', bne_iff_ne, bne_eq_false_iff_eq, beq_iff_eq, beq_eq_false_iff_ne, Bool.not_eq_true, Bool.not_eq_false, ne_eq, Decidable.not_not, baEq, decide_not, Prod.mk.injEq, and_true, true_and, Room, List.nil_append, Nat.zero_add, Int.not_lt, Int.not_le] at *
  all_goals first | trivial | omega | grind [wrapId', toNat1, drop_cons, drop_end, good_len, maxLen])
def E19 : D.Env := E18.add 77 fHasAddr
theorem E19ok : EOk Try.prog E19 := E18ok.add k77_18
-- impl.HasAddr
theorem k79_19 : fHasAddr.ok Try.prog 79 := Fct.of (S := fHasAddr) (L := fun _ _ => none) (kp := [0,1,3,4]) E19ok Try.func79 (by kernel_rfl) (by kernel_rfl) (by
  rintro ⟨(l : List SAddr), (a : SAddr), _⟩ hp
  refine holds_of (X := .ob (fContains_addr.pre (l, a, ())) <|
 .leaf (mkR fHasAddr.rs ((fContains_addr.fn (l, a, ())).fst, ())) [] []) (by kernel_rfl) ?_
  refine ob_i ?_ fun o1 => Fct.leafY ?_
  all_goals try simp only [beqAddr] at *
  all_goals try simp only [decide_eq_true_eq, decide_eq_false_iff_not, Bool.not_eq_true', Bool.not_eq_false', bne_iff_ne, bne_eq_false_iff_eq, beq_iff_eq, beq_eq_false_iff_ne, baEq, Int.not_lt, Int.not_le, ne_eq, Decidable.not_not] at *
  all_goals try simp only [fContains_addr, fHasAddr, decide_eq_true_eq, decide_eq_false_iff_not, Bool.not_eq_true', Bool.not_eq_false', bne_iff_ne, bne_eq_false_iff_eq, beq_iff_eq, beq_eq_false_iff_ne, Bool.not_eq_true, Bool.not_eq_false, ne_eq, Decidable.not_not, baEq, decide_not, Prod.mk.injEq, and_true, true_and, Room, List.nil_append, Nat.zero_add, Int.not_lt, Int.not_le] at *
  all_goals first | trivial | omega | grind [wrapId', toNat1, drop_cons, drop_end, good_len, maxLen])
def E20 : D.Env := E19.add 79 fHasAddr
theorem E20ok : EOk Try.prog E20 := E19ok.add k79_19
def withoutAddrs (d : List SAddr) : List SRequest → List SRequest
  | [] => []
  | r :: l => if d.any (fun c => decide (c = r.to)) then withoutAddrs d l else r :: withoutAddrs d l
def fWithoutAddrs : Fct := ⟨[.v (.sl .request), .v (.sl .addr)], [.sl .request], fun (x_ : (List SRequest) × (List SAddr) × Unit) => x_.1.length ≤ 1048576 ∧ x_.2.1.length ≤ 1048576, fun (x_ : (List SRequest) × (List SAddr) × Unit) => (withoutAddrs x_.2.1 x_.1, ())⟩
abbrev W_spec_WithoutAddrs_fWithoutAddrs_3 (l : (List SRequest)) (d : (List SAddr)) : LInv := ⟨[⟨.s, 5, true, .sl .request⟩, ⟨.s, 6, true, .el .int⟩], fun _ (x_ : (List SRequest) × Int × Unit) => 0 ≤ x_.2.1 ∧ x_.2.1 ≤ l.length ∧ x_.1.length ≤ x_.2.1 ∧ withoutAddrs d l = x_.1 ++ withoutAddrs d (l.drop x_.2.1.toNat), fun (x_ : (List SRequest) × Int × Unit) => l.length - x_.2.1.toNat⟩
-- spec.WithoutAddrs
theorem k36_20 : fWithoutAddrs.ok Try.prog 36 := Fct.of (S := fWithoutAddrs) (L := fun ⟨l, d, _⟩ => fun | 3 => some (W_spec_WithoutAddrs_fWithoutAddrs_3 l d) | _ => none) (kp := [0,1,4,5,6,11,21]) E20ok Try.func36 (by kernel_rfl) (by kernel_rfl) (by
  rintro ⟨(l : List SRequest), (d : List SAddr), _⟩ hp
  refine holds_of (X := lpx (W_spec_WithoutAddrs_fWithoutAddrs_3 l d) ([], ((0 : Int), ())) fun (y1 : List SRequest × Int × PUnit) bk1 =>
 .br (decide (y1.snd.fst < (↑l.length : Int)))
  (.ob ((0 : Int) ≤ y1.snd.fst ∧ y1.snd.fst < (↑l.length : Int)) <|
   .ob (fHasAddr.pre (d, (l.getD y1.snd.fst.toNat default).to, ())) <|
   .br (!(fHasAddr.fn (d, (l.getD y1.snd.fst.toNat default).to, ())).fst)
   (.ob ((0 : Int) ≤ y1.snd.fst ∧ y1.snd.fst < (↑l.length : Int)) <|
    .ob (True) <|
    .ob (Room (y1.fst.length + [l.getD y1.snd.fst.toNat default].length) (72 : Nat)) <|
    .ob (l = l) <|
    .ob (d = d) <|
    .ob (bk1 (y1.fst ++ [l.getD y1.snd.fst.toNat default], (IntKind.i64.wrap (y1.snd.fst + (1 : Int)), ()))) <|
    .ok)
   (.ob (l = l) <|
    .ob (d = d) <|
    .ob (bk1 (y1.fst, (IntKind.i64.wrap (y1.snd.fst + (1 : Int)), ()))) <|
    .ok))
  (.leaf (mkR fWithoutAddrs.rs (y1.fst, ())) [] [])) (by kernel_rfl) ?_
  refine lpx_i ?_ fun (y1 : List SRequest × Int × PUnit) i1 => br_i (fun h2 => ob_i ?_ fun o3 => ob_i ?_ fun o4 => br_i (fun h5 => ob_i ?_ fun o6 => ob_i trivial fun _ => ob_i ?_ fun o7 => ob_i rfl fun _ => ob_i rfl fun _ => ob_i ?_ fun o8 => trivial) (fun h5 => ob_i rfl fun _ => ob_i rfl fun _ => ob_i ?_ fun o9 => trivial)) (fun h2 => Fct.leafY ?_)
  all_goals try simp only [decide_eq_true_eq, decide_eq_false_iff_not, Bool.not_eq_true', Bool.not_eq_false', bne_iff_ne, bne_eq_false_iff_eq, beq_iff_eq, beq_eq_false_iff_ne, baEq, Int.not_lt, Int.not_le, ne_eq, Decidable.not_not] at *
  all_goals try simp only [W_spec_WithoutAddrs_fWithoutAddrs_3, fHasAddr, fWithoutAddrs, decide_eq_true_eq, decide_eq_false_iff_not, Bool.not_eq_true', Bool.not_eq_false', bne_iff_ne, bne_eq_false_iff_eq, beq_iff_eq, beq_eq_false_iff_ne, Bool.not_eq_true, Bool.not_eq_false, ne_eq, Decidable.not_not, baEq, decide_not, Prod.mk.injEq, and_true, true_and, Room, List.nil_append, Nat.zero_add, Int.not_lt, Int.not_le, withoutAddrs, fHasAddr] at *
  all_goals first | trivial | omega | grind [wrapId', toNat1, drop_cons, drop_end, good_len, maxLen, withoutAddrs, fHasAddr])
def E21 : D.Env := E20.add 36 fWithoutAddrs
theorem E21ok : EOk Try.prog E21 := E20ok.add k36_20
abbrev W_impl_WithoutAddrs_fWithoutAddrs_3 (l : (List SRequest)) (d : (List SAddr)) : LInv := ⟨[⟨.s, 5, true, .sl .request⟩, ⟨.s, 11, true, .el .int⟩], fun _ (x_ : (List SRequest) × Int × Unit) => 0 ≤ x_.2.1 ∧ x_.2.1 ≤ l.length ∧ x_.1.length ≤ x_.2.1 ∧ withoutAddrs d l = x_.1 ++ withoutAddrs d (l.drop x_.2.1.toNat), fun (x_ : (List SRequest) × Int × Unit) => l.length - x_.2.1.toNat⟩
-- impl.WithoutAddrs
theorem k39_21 : fWithoutAddrs.ok Try.prog 39 := Fct.of (S := fWithoutAddrs) (L := fun ⟨l, d, _⟩ => fun | 3 => some (W_impl_WithoutAddrs_fWithoutAddrs_3 l d) | _ => none) (kp := [0,1,4,5,7,9,10,11,12,19]) E21ok Try.func39 (by kernel_rfl) (by kernel_rfl) (by
  rintro ⟨(l : List SRequest), (d : List SAddr), _⟩ hp
  refine holds_of (X := lpx (W_impl_WithoutAddrs_fWithoutAddrs_3 l d) ([], ((0 : Int), ())) fun (y1 : List SRequest × Int × PUnit) bk1 =>
 .br (decide (y1.snd.fst < (↑l.length : Int)))
  (.ob ((0 : Int) ≤ y1.snd.fst ∧ y1.snd.fst < (↑l.length : Int)) <|
   .ob (fHasAddr.pre (d, (l.getD y1.snd.fst.toNat default).to, ())) <|
   .br (!(fHasAddr.fn (d, (l.getD y1.snd.fst.toNat default).to, ())).fst)
   (.ob (True) <|
    .ob (Room (y1.fst.length + [l.getD y1.snd.fst.toNat default].length) (72 : Nat)) <|
    .ob (l = l) <|
    .ob (d = d) <|
    .ob (l = l) <|
    .ob (Value.int IntKind.i64 (↑l.length : Int) = Value.int IntKind.i64 (↑l.length : Int)) <|
    .ob (bk1 (y1.fst ++ [l.getD y1.snd.fst.toNat default], (IntKind.i64.wrap (y1.snd.fst + (1 : Int)), ()))) <|
    .ok)
   (.ob (l = l) <|
    .ob (d = d) <|
    .ob (l = l) <|
    .ob (Value.int IntKind.i64 (↑l.length : Int) = Value.int IntKind.i64 (↑l.length : Int)) <|
    .ob (bk1 (y1.fst, (IntKind.i64.wrap (y1.snd.fst + (1 : Int)), ()))) <|
    .ok))
  (.leaf (mkR fWithoutAddrs.rs (y1.fst, ())) [] [])) (by kernel_rfl) ?_
  refine lpx_i ?_ fun (y1 : List SRequest × Int × PUnit) i1 => br_i (fun h2 => ob_i ?_ fun o3 => ob_i ?_ fun o4 => br_i (fun h5 => ob_i trivial fun _ => ob_i ?_ fun o6 => ob_i rfl fun _ => ob_i rfl fun _ => ob_i rfl fun _ => ob_i rfl fun _ => ob_i ?_ fun o7 => trivial) (fun h5 => ob_i rfl fun _ => ob_i rfl fun _ => ob_i rfl fun _ => ob_i rfl fun _ => ob_i ?_ fun o8 => trivial)) (fun h2 => Fct.leafY ?_)
  all_goals try simp only [decide_eq_true_eq, decide_eq_false_iff_not, Bool.not_eq_true', Bool.not_eq_false', bne_iff_ne, bne_eq_false_iff_eq, beq_iff_eq, beq_eq_false_iff_ne, baEq, Int.not_lt, Int.not_le, ne_eq, Decidable.not_not] at *
  all_goals try simp only [W_impl_WithoutAddrs_fWithoutAddrs_3, fHasAddr, fWithoutAddrs, decide_eq_true_eq, decide_eq_false_iff_not, Bool.not_eq_true', Bool.not_eq_false', bne_iff_ne, bne_eq_false_iff_eq, beq_iff_eq, beq_eq_false_iff_ne, Bool.not_eq_true, Bool.not_eq_false, ne_eq, Decidable.not_not, baEq, decide_not, Prod.mk.injEq, and_true, true_and, Room, List.nil_append, Nat.zero_add, Int.not_lt, Int.not_le, withoutAddrs, fHasAddr] at *
  all_goals first | trivial | omega | grind [wrapId', toNat1, drop_cons, drop_end, good_len, maxLen, withoutAddrs, fHasAddr])
def E22 : D.Env := E21.add 39 fWithoutAddrs
theorem E22ok : EOk Try.prog E22 := E21ok.add k39_21
theorem withoutAddrs_len (d : List SAddr) (l : List SRequest) : (withoutAddrs d l).length ≤ l.length := by
  induction l <;> grind [withoutAddrs]
def lWithoutAddrs : Fct := lawFS [.sl .request, .sl .addr]
-- laws.FnExactWithoutAddrs
theorem k9_22 : lWithoutAddrs.ok Try.prog 9 := Fct.of (S := lWithoutAddrs) (L := fun _ _ => none) (kp := [0,1,4,5,6,7,8,9,10,11,12,13,18,23,39,44,49,63,71,74,83,88,91]) E22ok Try.func9 (by kernel_rfl) (by kernel_rfl) (by
  rintro ⟨(l : List SRequest), (d : List SAddr), _⟩ hp
  refine holds_of (X := .ob (fszRequestS.pre (l, (1048576 : Int), ())) <|
 .br (decide ((fszRequestS.fn (l, (1048576 : Int), ())).fst < (0 : Int)))
 (.leaf (mkR lWithoutAddrs.rs (true, ())) [] [])
 (.ob (fszAddrS.pre (d, (fszRequestS.fn (l, (1048576 : Int), ())).fst, ())) <|
  .br (decide ((fszAddrS.fn (d, (fszRequestS.fn (l, (1048576 : Int), ())).fst, ())).fst < (0 : Int)))
  (.leaf (mkR lWithoutAddrs.rs (true, ())) [] [])
  (.ob (ftoRequestS.pre (l, ())) <|
   .ob (ftoAddrS.pre (d, ())) <|
   .ob (fWithoutAddrs.pre ((ftoRequestS.fn (l, ())).fst, (ftoAddrS.fn (d, ())).fst, ())) <|
   .ob (ftoRequestS.pre (l, ())) <|
   .ob (ftoAddrS.pre (d, ())) <|
   .ob (fWithoutAddrs.pre ((ftoRequestS.fn (l, ())).fst, (ftoAddrS.fn (d, ())).fst, ())) <|
   .ob (feqRequestS.pre
  ((fWithoutAddrs.fn ((ftoRequestS.fn (l, ())).fst, (ftoAddrS.fn (d, ())).fst, ())).fst,
    (fWithoutAddrs.fn ((ftoRequestS.fn (l, ())).fst, (ftoAddrS.fn (d, ())).fst, ())).fst, ())) <|
   .br (!(feqRequestS.fn
      ((fWithoutAddrs.fn ((ftoRequestS.fn (l, ())).fst, (ftoAddrS.fn (d, ())).fst, ())).fst,
        (fWithoutAddrs.fn ((ftoRequestS.fn (l, ())).fst, (ftoAddrS.fn (d, ())).fst, ())).fst, ())).fst)
   (.leaf (mkR lWithoutAddrs.rs (false, ())) [] [])
   (.ob (ftoRequestS.pre (l, ())) <|
    .ob (feqRequestS.pre ((ftoRequestS.fn (l, ())).fst, (ftoRequestS.fn (l, ())).fst, ())) <|
    .br (!(feqRequestS.fn ((ftoRequestS.fn (l, ())).fst, (ftoRequestS.fn (l, ())).fst, ())).fst)
    (.leaf (mkR lWithoutAddrs.rs (false, ())) [] [])
    (.ob (ftoAddrS.pre (d, ())) <|
     .ob (feqAddrS.pre ((ftoAddrS.fn (d, ())).fst, (ftoAddrS.fn (d, ())).fst, ())) <|
     .br (!(feqAddrS.fn ((ftoAddrS.fn (d, ())).fst, (ftoAddrS.fn (d, ())).fst, ())).fst)
     (.leaf (mkR lWithoutAddrs.rs (false, ())) [] [])
     (.ob (fmarkRequestS.pre (ftoRequestS.fn (l, ())).fst (1 : Int)) <|
      .ob (fmarkAddrS.pre (ftoAddrS.fn (d, ())).fst (fmarkRequestS.fn (ftoRequestS.fn (l, ())).fst (1 : Int)).snd) <|
      .br (decide
  ((fmarkAddrS.fn (ftoAddrS.fn (d, ())).fst (fmarkRequestS.fn (ftoRequestS.fn (l, ())).fst (1 : Int)).snd).snd <
    (0 : Int)))
      (.leaf (mkR lWithoutAddrs.rs (false, ())) [] [])
      (.ob (feqRequestS.pre
  ((fWithoutAddrs.fn ((ftoRequestS.fn (l, ())).fst, (ftoAddrS.fn (d, ())).fst, ())).fst,
    (fWithoutAddrs.fn ((ftoRequestS.fn (l, ())).fst, (ftoAddrS.fn (d, ())).fst, ())).fst, ())) <|
       .br (!(feqRequestS.fn
      ((fWithoutAddrs.fn ((ftoRequestS.fn (l, ())).fst, (ftoAddrS.fn (d, ())).fst, ())).fst,
        (fWithoutAddrs.fn ((ftoRequestS.fn (l, ())).fst, (ftoAddrS.fn (d, ())).fst, ())).fst, ())).fst)
       (.leaf (mkR lWithoutAddrs.rs (false, ())) [] [])
       (.ob (fmarkRequestS.pre (fWithoutAddrs.fn ((ftoRequestS.fn (l, ())).fst, (ftoAddrS.fn (d, ())).fst, ())).fst (1 : Int)) <|
        .ob (fheldRequestS.pre
  ((fmarkRequestS.fn (fWithoutAddrs.fn ((ftoRequestS.fn (l, ())).fst, (ftoAddrS.fn (d, ())).fst, ())).fst
        (1 : Int)).fst,
    (1 : Int), ())) <|
        .br (decide
  ((fheldRequestS.fn
        ((fmarkRequestS.fn (fWithoutAddrs.fn ((ftoRequestS.fn (l, ())).fst, (ftoAddrS.fn (d, ())).fst, ())).fst
              (1 : Int)).fst,
          (1 : Int), ())).fst <
    (0 : Int)))
        (.leaf (mkR lWithoutAddrs.rs (false, ())) [] [])
        (.br ((fheldRequestS.fn
      ((fmarkRequestS.fn (fWithoutAddrs.fn ((ftoRequestS.fn (l, ())).fst, (ftoAddrS.fn (d, ())).fst, ())).fst
            (1 : Int)).fst,
        (1 : Int), ())).fst !=
  (fmarkRequestS.fn (fWithoutAddrs.fn ((ftoRequestS.fn (l, ())).fst, (ftoAddrS.fn (d, ())).fst, ())).fst (1 : Int)).snd)
         (.leaf (mkR lWithoutAddrs.rs (false, ())) [] [])
         (.ob (ftoRequestS.pre (l, ())) <|
          .ob (ftoAddrS.pre (d, ())) <|
          .ob (fWithoutAddrs.pre ((ftoRequestS.fn (l, ())).fst, (ftoAddrS.fn (d, ())).fst, ())) <|
          .ob (feqRequestS.pre
  ((fWithoutAddrs.fn ((ftoRequestS.fn (l, ())).fst, (ftoAddrS.fn (d, ())).fst, ())).fst,
    (fWithoutAddrs.fn ((ftoRequestS.fn (l, ())).fst, (ftoAddrS.fn (d, ())).fst, ())).fst, ())) <|
          .br (!(feqRequestS.fn
      ((fWithoutAddrs.fn ((ftoRequestS.fn (l, ())).fst, (ftoAddrS.fn (d, ())).fst, ())).fst,
        (fWithoutAddrs.fn ((ftoRequestS.fn (l, ())).fst, (ftoAddrS.fn (d, ())).fst, ())).fst, ())).fst)
          (.leaf (mkR lWithoutAddrs.rs (false, ())) [] [])
          (.ob (fheldRequestS.pre
  ((fmarkRequestS.fn (fWithoutAddrs.fn ((ftoRequestS.fn (l, ())).fst, (ftoAddrS.fn (d, ())).fst, ())).fst
        (1 : Int)).fst,
    (1 : Int), ())) <|
           .br (decide
  ((fheldRequestS.fn
        ((fmarkRequestS.fn (fWithoutAddrs.fn ((ftoRequestS.fn (l, ())).fst, (ftoAddrS.fn (d, ())).fst, ())).fst
              (1 : Int)).fst,
          (1 : Int), ())).fst <
    (0 : Int)))
           (.leaf (mkR lWithoutAddrs.rs (false, ())) [] [])
           (.br ((fheldRequestS.fn
      ((fmarkRequestS.fn (fWithoutAddrs.fn ((ftoRequestS.fn (l, ())).fst, (ftoAddrS.fn (d, ())).fst, ())).fst
            (1 : Int)).fst,
        (1 : Int), ())).fst !=
  (fmarkRequestS.fn (fWithoutAddrs.fn ((ftoRequestS.fn (l, ())).fst, (ftoAddrS.fn (d, ())).fst, ())).fst (1 : Int)).snd)
            (.leaf (mkR lWithoutAddrs.rs (false, ())) [] [])
            (.leaf (mkR lWithoutAddrs.rs (true, ())) [] []))))))))))))) (by kernel_rfl) ?_
  refine ob_i ?_ fun o1 => br_i (fun h2 => Fct.leafY ?_) (fun h2 => ob_i ?_ fun o3 => br_i (fun h4 => Fct.leafY ?_) (fun h4 => ob_i ?_ fun o5 => ob_i ?_ fun o6 => ob_i ?_ fun o7 => ob_i ?_ fun o8 => ob_i ?_ fun o9 => ob_i ?_ fun o10 => ob_i ?_ fun o11 => br_i (fun h12 => Fct.leafY ?_) (fun h12 => ob_i ?_ fun o13 => ob_i ?_ fun o14 => br_i (fun h15 => Fct.leafY ?_) (fun h15 => ob_i ?_ fun o16 => ob_i ?_ fun o17 => br_i (fun h18 => Fct.leafY ?_) (fun h18 => ob_i ?_ fun o19 => ob_i ?_ fun o20 => br_i (fun h21 => Fct.leafY ?_) (fun h21 => ob_i ?_ fun o22 => br_i (fun h23 => Fct.leafY ?_) (fun h23 => ob_i ?_ fun o24 => ob_i ?_ fun o25 => br_i (fun h26 => Fct.leafY ?_) (fun h26 => br_i (fun h27 => Fct.leafY ?_) (fun h27 => ob_i ?_ fun o28 => ob_i ?_ fun o29 => ob_i ?_ fun o30 => ob_i ?_ fun o31 => br_i (fun h32 => Fct.leafY ?_) (fun h32 => ob_i ?_ fun o33 => br_i (fun h34 => Fct.leafY ?_) (fun h34 => br_i (fun h35 => Fct.leafY ?_) (fun h35 => Fct.leafY ?_))))))))))))
  all_goals have hg0 : Sh.good (.sl .request) l := hp.1
  all_goals have hg1 : Sh.good (.sl .addr) d := hp.2.1
  all_goals clear hp
  all_goals try simp only [decide_eq_true_eq, decide_eq_false_iff_not, Bool.not_eq_true', Bool.not_eq_false', bne_iff_ne, bne_eq_false_iff_eq, beq_iff_eq, beq_eq_false_iff_ne, baEq, Int.not_lt, Int.not_le, ne_eq, Decidable.not_not] at *
  all_goals try simp only [fWithoutAddrs, feqAddrS, feqRequestS, fheldRequestS, fmarkAddrS, fmarkRequestS, fszAddrS, fszRequestS, ftoAddrS, ftoRequestS, lWithoutAddrs, decide_eq_true_eq, decide_eq_false_iff_not, Bool.not_eq_true', Bool.not_eq_false', bne_iff_ne, bne_eq_false_iff_eq, beq_iff_eq, beq_eq_false_iff_ne, Bool.not_eq_true, Bool.not_eq_false, ne_eq, Decidable.not_not, baEq, decide_not, Prod.mk.injEq, and_true, true_and, Room, List.nil_append, Nat.zero_add, Int.not_lt, Int.not_le, decide_true] at *
  all_goals have hz0 := szL_len szRequest l
  all_goals have hz1 := szL_len szAddr d
  all_goals try simp only [mkAddrS_idem, mkAddrS_ub, mkRequestS_idem, mkRequestS_ub] at *
  all_goals first | trivial | omega | grind [lessen, withoutAddrs_len])
def E23 : D.Env := E22.add 9 lWithoutAddrs
theorem E23ok : EOk Try.prog E23 := E22ok.add k9_22

section
open Go.ChangeShapes Go.WideShapes Go.ChangeAt Go.RowKit
theorem own : ownKnob Try.prog.godebug = none := by kernel_rfl
theorem types : ∀ e t, tyOf e = some t → e ∈ ([3, 4, 5, 9, 27, 29, 32, 34, 66, 70, 90, 97, 104, 107, 121, 141] : List TypeId) := by
  intro e t h
  unfold tyOf at h
  split at h <;> first | (simp; done) | cases h
theorem lifted (os : Os) (started : os.Started) (H : Type) (enc : TypeId × Value → H) :
    ReturnsInHanded {} Try.checked os 9 .any (Rows.fnExactWithoutAddrsSpec.pre6 enc Try.prog Try.f9 Rows.fnExactWithoutAddrsRow.domain false) (Rows.fnExactWithoutAddrsSpec.post enc Try.prog Try.f9 false true false false) := by
  refine returnsInHanded_of_change (C := Try.checked) own started (by kernel_rfl) Try.func9
    (ChangeSpec.witness6 (enc := enc) (C := Try.checked) false ⟨#[], #[.slice none 0 0, .slice none 0 0], []⟩ 8 (by kernel_rfl) (by kernel_rfl) (by kernel_rfl) (by kernel_rfl)) ?_
  intro W base args ds gs before hval0 hW hcnd _
  have hval : ∀ (j : Nat) t v, Try.f9.params[j]? = some t → args[j]? = some v → Value.okWide Try.prog W .any base t v := hval0
  refine law_calls (show rowOk Try.prog Try.f9 tyOf [3, 4, 5, 9, 27, 29, 32, 34, 66, 70, 90, 97, 104, 107, 121, 141] [.sl .request, .sl .addr] = true by kernel_rfl) types rfl Try.underlying4 rfl hW (fun xs h => ?_) hval k9_22
  · rw [Try.params9] at h
    match xs, (show xs.length = 2 from h) with
    | [x0, x1], _ => rfl
theorem over : Rows.fnExactWithoutAddrsRow.holds Try.pinned (OpenSpec.ofChange Rows.fnExactWithoutAddrsSpec) :=
  OpenClaim.holds_of_wide 9 Try.f9 rfl rfl rfl rfl rfl rfl rfl ⟨rfl, rfl, rfl, rfl, rfl⟩ rfl rfl rfl rfl rfl (by kernel_rfl) Try.func9 (by kernel_rfl)
    (of_decide_eq_true (by kernel_rfl)) (by unfold Func.isWrapper; first | (rw [if_pos (by decide +kernel)]; kernel_rfl) | (rw [if_neg (by decide +kernel)]; exact ⟨rfl, rfl⟩))
    (fun os started H enc _ => lifted os started H enc)
theorem proved : Rows.FnExactWithoutAddrsSaid := over
end
end Go.Proofs.Ytedcmphhpfdblaa.fnExactWithoutAddrs
