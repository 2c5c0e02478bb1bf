/-
  The program's GuessesSent returns what the reference's returns, for all arguments: the law returns true. No condition.
-/
import Derived.Test.YtmpkhgpieioofaaVPt
import Derived.Test.YtmpkhgpieioofaaRows
import Derived.WalkKit
import Derived.ProofKit
import Derived.OpenShut
namespace Go.Proofs.Ytmpkhgpieioofaa.fnExactGuessesSent
open Go.Proofs.Ytmpkhgpieioofaa
open Go.D
set_option maxRecDepth 100000
set_option linter.unusedVariables false
set_option linter.unusedSimpArgs false
def tyOf : TypeId → Option Ty
  | 3 => some .int
  | 4 => some .bool
  | 5 => some .u8
  | 9 => some .str
  | 25 => some .cache
  | 28 => some .net
  | 34 => some .cache
  | 37 => some .net
  | 55 => some .addr
  | 57 => some .policy
  | 59 => some .tokenizer
  | 63 => some .builder
  | 68 => some .page
  | 71 => some .addr
  | 72 => some .policy
  | 73 => some .tokenizer
  | 77 => some .builder
  | 82 => some .page
  | 92 => some .tab
  | 98 => some .request
  | 102 => some .request
  | 107 => some .tab
  | 119 => some .sent
  | 160 => some .slot
  | 162 => some .module
  | 167 => some .visit
  | 172 => some .server
  | 176 => some .sent
  | 179 => some .server
  | 196 => some .token
  | 200 => some .slot
  | 203 => some .module
  | 206 => some .token
  | 223 => some .visit
  | 228 => some .response
  | 230 => some .entry
  | 232 => some .response
  | 234 => some .entry
  | 252 => some .file
  | 256 => some .node
  | 259 => some .node
  | 266 => some .file
  | 281 => some .attr
  | 282 => some .attr
  | _ => none
def E0 : D.Env := D.Env.empty tyOf
theorem E0ok : EOk Try.prog E0 := EOk.empty _ _

-- laws.szAddr
set_option maxHeartbeats 2000000 in
theorem k83_0 : fszAddr.ok Try.prog 83 := Fct.of (S := fszAddr) (L := fun _ _ => none) (kp := [0,1,2,4,11,18]) E0ok Try.func83 (by kernel_rfl) (by kernel_rfl) (by
  rintro ⟨(x : SAddr), (n : Int), _⟩ hp
  refine holds_of (X := .br (decide (IntKind.i64.wrap (n - (↑x.host.size : Int)) < (0 : Int)))
 (.leaf (mkR fszAddr.rs ((-1 : Int), ())) [] [])
 (.br (decide (IntKind.i64.wrap (IntKind.i64.wrap (n - (↑x.host.size : Int)) - (↑x.path.size : Int)) < (0 : Int)))
  (.leaf (mkR fszAddr.rs ((-1 : Int), ())) [] [])
  (.leaf (mkR fszAddr.rs (IntKind.i64.wrap (IntKind.i64.wrap (n - (↑x.host.size : Int)) - (↑x.path.size : Int)), ())) [] []))) (by kernel_rfl) ?_
  refine br_i (fun h1 => Fct.leafY ?_) (fun h1 => br_i (fun h2 => Fct.leafY ?_) (fun h2 => Fct.leafY ?_))
  all_goals try simp only [decide_eq_true_eq, decide_eq_false_iff_not, Bool.not_eq_true', Bool.not_eq_false', bne_iff_ne, bne_eq_false_iff_eq, beq_iff_eq, beq_eq_false_iff_ne, baEq, Int.not_lt, Int.not_le, ne_eq, Decidable.not_not] at *
  all_goals try simp only [fszAddr, decide_eq_true_eq, decide_eq_false_iff_not, Bool.not_eq_true', Bool.not_eq_false', bne_iff_ne, bne_eq_false_iff_eq, beq_iff_eq, beq_eq_false_iff_ne, Bool.not_eq_true, Bool.not_eq_false, ne_eq, Decidable.not_not, baEq, decide_not, Prod.mk.injEq, and_true, true_and, Room, List.nil_append, Nat.zero_add, Int.not_lt, Int.not_le, Sh.good, Sh.fc, enc, List.forall_mem_cons, List.not_mem_nil, false_implies, implies_true, goodC, maxLen] at *
  all_goals grind [wrapId', lessen, szAddr])
def E1 : D.Env := E0.add 83 fszAddr
theorem E1ok : EOk Try.prog E1 := E0ok.add k83_0
-- laws.toAddr
theorem k93_1 : ftoAddr.ok Try.prog 93 := Fct.of (S := ftoAddr) (L := fun _ _ => none) (kp := [0,1,2,3]) E1ok Try.func93 (by kernel_rfl) (by kernel_rfl) (by
  rintro ⟨(x : SAddr), _⟩ hp
  refine holds_of (X := .leaf (mkR ftoAddr.rs (x, ())) [] []) (by kernel_rfl) ?_
  refine Fct.leafY ?_
  all_goals try simp only [decide_eq_true_eq, decide_eq_false_iff_not, Bool.not_eq_true', Bool.not_eq_false', bne_iff_ne, bne_eq_false_iff_eq, beq_iff_eq, beq_eq_false_iff_ne, baEq, Int.not_lt, Int.not_le, ne_eq, Decidable.not_not] at *
  all_goals try simp only [ftoAddr, decide_eq_true_eq, decide_eq_false_iff_not, Bool.not_eq_true', Bool.not_eq_false', bne_iff_ne, bne_eq_false_iff_eq, beq_iff_eq, beq_eq_false_iff_ne, Bool.not_eq_true, Bool.not_eq_false, ne_eq, Decidable.not_not, baEq, decide_not, Prod.mk.injEq, and_true, true_and, Room, List.nil_append, Nat.zero_add, Int.not_lt, Int.not_le] at *
  all_goals first | trivial | rfl | grind [szAddr])
def E2 : D.Env := E1.add 93 ftoAddr
theorem E2ok : EOk Try.prog E2 := E1ok.add k93_1
-- laws.eqAddr
set_option maxHeartbeats 2000000 in
theorem k40_2 : feqAddr.ok Try.prog 40 := Fct.of (S := feqAddr) (L := fun _ _ => none) (kp := [0,1,2,3,4,9,14]) E2ok Try.func40 (by kernel_rfl) (by kernel_rfl) (by
  rintro ⟨(x : SAddr), (y : SAddr), _⟩ hp
  refine holds_of (X := .br (!x.host.toList == y.host.toList)
 (.leaf (mkR feqAddr.rs (false, ())) [] [])
 (.br (!x.path.toList == y.path.toList)
  (.leaf (mkR feqAddr.rs (false, ())) [] [])
  (.leaf (mkR feqAddr.rs (true, ())) [] []))) (by kernel_rfl) ?_
  refine br_i (fun h1 => Fct.leafY ?_) (fun h1 => br_i (fun h2 => Fct.leafY ?_) (fun h2 => Fct.leafY ?_))
  all_goals try simp only [decide_eq_true_eq, decide_eq_false_iff_not, Bool.not_eq_true', Bool.not_eq_false', bne_iff_ne, bne_eq_false_iff_eq, beq_iff_eq, beq_eq_false_iff_ne, baEq, Int.not_lt, Int.not_le, ne_eq, Decidable.not_not] at *
  all_goals try simp only [feqAddr, decide_eq_true_eq, decide_eq_false_iff_not, Bool.not_eq_true', Bool.not_eq_false', bne_iff_ne, bne_eq_false_iff_eq, beq_iff_eq, beq_eq_false_iff_ne, Bool.not_eq_true, Bool.not_eq_false, ne_eq, Decidable.not_not, baEq, decide_not, Prod.mk.injEq, and_true, true_and, Room, List.nil_append, Nat.zero_add, Int.not_lt, Int.not_le] at *
  all_goals first | trivial | (cases x; cases y; simp_all; done) | (simp only [szAddr] at *; omega) | grind [szAddr])
def E3 : D.Env := E2.add 40 feqAddr
theorem E3ok : EOk Try.prog E3 := E2ok.add k40_2
-- laws.szResponse
set_option maxHeartbeats 2000000 in
theorem k184_3 : fszResponse.ok Try.prog 184 := Fct.of (S := fszResponse) (L := fun _ _ => none) (kp := [0,1,2,4,11,18]) E3ok Try.func184 (by kernel_rfl) (by kernel_rfl) (by
  rintro ⟨(x : SResponse), (n : Int), _⟩ hp
  refine holds_of (X := .br (decide (IntKind.i64.wrap (n - (↑x.body.size : Int)) < (0 : Int)))
 (.leaf (mkR fszResponse.rs ((-1 : Int), ())) [] [])
 (.br (decide (IntKind.i64.wrap (IntKind.i64.wrap (n - (↑x.body.size : Int)) - (↑x.policy.size : Int)) < (0 : Int)))
  (.leaf (mkR fszResponse.rs ((-1 : Int), ())) [] [])
  (.leaf (mkR fszResponse.rs (IntKind.i64.wrap (IntKind.i64.wrap (n - (↑x.body.size : Int)) - (↑x.policy.size : Int)), ())) [] []))) (by kernel_rfl) ?_
  refine br_i (fun h1 => Fct.leafY ?_) (fun h1 => br_i (fun h2 => Fct.leafY ?_) (fun h2 => Fct.leafY ?_))
  all_goals try simp only [decide_eq_true_eq, decide_eq_false_iff_not, Bool.not_eq_true', Bool.not_eq_false', bne_iff_ne, bne_eq_false_iff_eq, beq_iff_eq, beq_eq_false_iff_ne, baEq, Int.not_lt, Int.not_le, ne_eq, Decidable.not_not] at *
  all_goals try simp only [fszResponse, decide_eq_true_eq, decide_eq_false_iff_not, Bool.not_eq_true', Bool.not_eq_false', bne_iff_ne, bne_eq_false_iff_eq, beq_iff_eq, beq_eq_false_iff_ne, Bool.not_eq_true, Bool.not_eq_false, ne_eq, Decidable.not_not, baEq, decide_not, Prod.mk.injEq, and_true, true_and, Room, List.nil_append, Nat.zero_add, Int.not_lt, Int.not_le, Sh.good, Sh.fc, enc, List.forall_mem_cons, List.not_mem_nil, false_implies, implies_true, goodC, maxLen] at *
  all_goals grind [wrapId', lessen, szResponse])
def E4 : D.Env := E3.add 184 fszResponse
theorem E4ok : EOk Try.prog E4 := E3ok.add k184_3
-- laws.toResponse
theorem k186_4 : ftoResponse.ok Try.prog 186 := Fct.of (S := ftoResponse) (L := fun _ _ => none) (kp := [0,1,2,3]) E4ok Try.func186 (by kernel_rfl) (by kernel_rfl) (by
  rintro ⟨(x : SResponse), _⟩ hp
  refine holds_of (X := .leaf (mkR ftoResponse.rs (x, ())) [] []) (by kernel_rfl) ?_
  refine Fct.leafY ?_
  all_goals try simp only [decide_eq_true_eq, decide_eq_false_iff_not, Bool.not_eq_true', Bool.not_eq_false', bne_iff_ne, bne_eq_false_iff_eq, beq_iff_eq, beq_eq_false_iff_ne, baEq, Int.not_lt, Int.not_le, ne_eq, Decidable.not_not] at *
  all_goals try simp only [ftoResponse, decide_eq_true_eq, decide_eq_false_iff_not, Bool.not_eq_true', Bool.not_eq_false', bne_iff_ne, bne_eq_false_iff_eq, beq_iff_eq, beq_eq_false_iff_ne, Bool.not_eq_true, Bool.not_eq_false, ne_eq, Decidable.not_not, baEq, decide_not, Prod.mk.injEq, and_true, true_and, Room, List.nil_append, Nat.zero_add, Int.not_lt, Int.not_le] at *
  all_goals first | trivial | rfl | grind [szResponse])
def E5 : D.Env := E4.add 186 ftoResponse
theorem E5ok : EOk Try.prog E5 := E4ok.add k186_4
-- laws.eqResponse
set_option maxHeartbeats 2000000 in
theorem k188_5 : feqResponse.ok Try.prog 188 := Fct.of (S := feqResponse) (L := fun _ _ => none) (kp := [0,1,2,3,4,9,14,19,24,29,34]) E5ok Try.func188 (by kernel_rfl) (by kernel_rfl) (by
  rintro ⟨(x : SResponse), (y : SResponse), _⟩ hp
  refine holds_of (X := .br (x.status != y.status)
 (.leaf (mkR feqResponse.rs (false, ())) [] [])
 (.br (x.kind != y.kind)
  (.leaf (mkR feqResponse.rs (false, ())) [] [])
  (.br (!x.body.toList == y.body.toList)
   (.leaf (mkR feqResponse.rs (false, ())) [] [])
   (.br (x.age != y.age)
    (.leaf (mkR feqResponse.rs (false, ())) [] [])
    (.br (!x.shares == y.shares)
     (.leaf (mkR feqResponse.rs (false, ())) [] [])
     (.br (!x.policy.toList == y.policy.toList)
      (.leaf (mkR feqResponse.rs (false, ())) [] [])
      (.leaf (mkR feqResponse.rs (true, ())) [] []))))))) (by kernel_rfl) ?_
  refine br_i (fun h1 => Fct.leafY ?_) (fun h1 => br_i (fun h2 => Fct.leafY ?_) (fun h2 => br_i (fun h3 => Fct.leafY ?_) (fun h3 => br_i (fun h4 => Fct.leafY ?_) (fun h4 => br_i (fun h5 => Fct.leafY ?_) (fun h5 => br_i (fun h6 => Fct.leafY ?_) (fun h6 => Fct.leafY ?_))))))
  all_goals try simp only [decide_eq_true_eq, decide_eq_false_iff_not, Bool.not_eq_true', Bool.not_eq_false', bne_iff_ne, bne_eq_false_iff_eq, beq_iff_eq, beq_eq_false_iff_ne, baEq, Int.not_lt, Int.not_le, ne_eq, Decidable.not_not] at *
  all_goals try simp only [feqResponse, decide_eq_true_eq, decide_eq_false_iff_not, Bool.not_eq_true', Bool.not_eq_false', bne_iff_ne, bne_eq_false_iff_eq, beq_iff_eq, beq_eq_false_iff_ne, Bool.not_eq_true, Bool.not_eq_false, ne_eq, Decidable.not_not, baEq, decide_not, Prod.mk.injEq, and_true, true_and, Room, List.nil_append, Nat.zero_add, Int.not_lt, Int.not_le] at *
  all_goals first | trivial | (cases x; cases y; simp_all; done) | (simp only [szResponse] at *; omega) | grind [szResponse])
def E6 : D.Env := E5.add 188 feqResponse
theorem E6ok : EOk Try.prog E6 := E5ok.add k188_5
-- laws.szFile
set_option maxHeartbeats 2000000 in
theorem k183_6 : fszFile.ok Try.prog 183 := Fct.of (S := fszFile) (L := fun _ _ => none) (kp := [0,1,2,4,11,17]) E6ok Try.func183 (by kernel_rfl) (by kernel_rfl) (by
  rintro ⟨(x : SFile), (n : Int), _⟩ hp
  refine holds_of (X := .br (decide (IntKind.i64.wrap (n - (↑x.path.size : Int)) < (0 : Int)))
 (.leaf (mkR fszFile.rs ((-1 : Int), ())) [] [])
 (.ob (fszResponse.pre (x.response, IntKind.i64.wrap (n - (↑x.path.size : Int)), ())) <|
  .br (decide ((fszResponse.fn (x.response, IntKind.i64.wrap (n - (↑x.path.size : Int)), ())).fst < (0 : Int)))
  (.leaf (mkR fszFile.rs ((-1 : Int), ())) [] [])
  (.leaf (mkR fszFile.rs ((fszResponse.fn (x.response, IntKind.i64.wrap (n - (↑x.path.size : Int)), ())).fst, ())) [] []))) (by kernel_rfl) ?_
  refine br_i (fun h1 => Fct.leafY ?_) (fun h1 => ob_i ?_ fun o2 => br_i (fun h3 => Fct.leafY ?_) (fun h3 => Fct.leafY ?_))
  all_goals try simp only [decide_eq_true_eq, decide_eq_false_iff_not, Bool.not_eq_true', Bool.not_eq_false', bne_iff_ne, bne_eq_false_iff_eq, beq_iff_eq, beq_eq_false_iff_ne, baEq, Int.not_lt, Int.not_le, ne_eq, Decidable.not_not] at *
  all_goals try simp only [fszFile, fszResponse, decide_eq_true_eq, decide_eq_false_iff_not, Bool.not_eq_true', Bool.not_eq_false', bne_iff_ne, bne_eq_false_iff_eq, beq_iff_eq, beq_eq_false_iff_ne, Bool.not_eq_true, Bool.not_eq_false, ne_eq, Decidable.not_not, baEq, decide_not, Prod.mk.injEq, and_true, true_and, Room, List.nil_append, Nat.zero_add, Int.not_lt, Int.not_le, Sh.good, Sh.fc, enc, List.forall_mem_cons, List.not_mem_nil, false_implies, implies_true, goodC, maxLen] at *
  all_goals grind [wrapId', lessen, szFile, szResponse])
def E7 : D.Env := E6.add 183 fszFile
theorem E7ok : EOk Try.prog E7 := E6ok.add k183_6
-- laws.toFile
theorem k185_7 : ftoFile.ok Try.prog 185 := Fct.of (S := ftoFile) (L := fun _ _ => none) (kp := [0,1,2,3]) E7ok Try.func185 (by kernel_rfl) (by kernel_rfl) (by
  rintro ⟨(x : SFile), _⟩ hp
  refine holds_of (X := .ob (ftoResponse.pre (x.response, ())) <|
 .leaf (mkR ftoFile.rs (x, ())) [] []) (by kernel_rfl) ?_
  refine ob_i ?_ fun o1 => Fct.leafY ?_
  all_goals try simp only [decide_eq_true_eq, decide_eq_false_iff_not, Bool.not_eq_true', Bool.not_eq_false', bne_iff_ne, bne_eq_false_iff_eq, beq_iff_eq, beq_eq_false_iff_ne, baEq, Int.not_lt, Int.not_le, ne_eq, Decidable.not_not] at *
  all_goals try simp only [ftoFile, ftoResponse, decide_eq_true_eq, decide_eq_false_iff_not, Bool.not_eq_true', Bool.not_eq_false', bne_iff_ne, bne_eq_false_iff_eq, beq_iff_eq, beq_eq_false_iff_ne, Bool.not_eq_true, Bool.not_eq_false, ne_eq, Decidable.not_not, baEq, decide_not, Prod.mk.injEq, and_true, true_and, Room, List.nil_append, Nat.zero_add, Int.not_lt, Int.not_le] at *
  all_goals first | trivial | rfl | grind [szFile, szResponse])
def E8 : D.Env := E7.add 185 ftoFile
theorem E8ok : EOk Try.prog E8 := E7ok.add k185_7
-- laws.eqFile
set_option maxHeartbeats 2000000 in
theorem k187_8 : feqFile.ok Try.prog 187 := Fct.of (S := feqFile) (L := fun _ _ => none) (kp := [0,1,2,3,4,9,15]) E8ok Try.func187 (by kernel_rfl) (by kernel_rfl) (by
  rintro ⟨(x : SFile), (y : SFile), _⟩ hp
  refine holds_of (X := .br (!x.path.toList == y.path.toList)
 (.leaf (mkR feqFile.rs (false, ())) [] [])
 (.ob (feqResponse.pre (x.response, y.response, ())) <|
  .br (!(feqResponse.fn (x.response, y.response, ())).fst)
  (.leaf (mkR feqFile.rs (false, ())) [] [])
  (.leaf (mkR feqFile.rs (true, ())) [] []))) (by kernel_rfl) ?_
  refine br_i (fun h1 => Fct.leafY ?_) (fun h1 => ob_i trivial fun _ => br_i (fun h2 => Fct.leafY ?_) (fun h2 => Fct.leafY ?_))
  all_goals try simp only [decide_eq_true_eq, decide_eq_false_iff_not, Bool.not_eq_true', Bool.not_eq_false', bne_iff_ne, bne_eq_false_iff_eq, beq_iff_eq, beq_eq_false_iff_ne, baEq, Int.not_lt, Int.not_le, ne_eq, Decidable.not_not] at *
  all_goals try simp only [feqFile, feqResponse, decide_eq_true_eq, decide_eq_false_iff_not, Bool.not_eq_true', Bool.not_eq_false', bne_iff_ne, bne_eq_false_iff_eq, beq_iff_eq, beq_eq_false_iff_ne, Bool.not_eq_true, Bool.not_eq_false, ne_eq, Decidable.not_not, baEq, decide_not, Prod.mk.injEq, and_true, true_and, Room, List.nil_append, Nat.zero_add, Int.not_lt, Int.not_le] at *
  all_goals first | trivial | (cases x; cases y; simp_all; done) | (simp only [szFile, szResponse] at *; omega) | grind [szFile, szResponse])
def E9 : D.Env := E8.add 187 feqFile
theorem E9ok : EOk Try.prog E9 := E8ok.add k187_8
-- laws.szFileS
set_option maxHeartbeats 2000000 in
theorem k158_9 : fszFileS.ok Try.prog 158 := Fct.of (S := fszFileS) (L := fun ⟨l, n, _⟩ => fun | 5 => some (LszS .file szFile l n) | _ => none) (kp := [0,1,4,5,11,15,25]) E9ok Try.func158 (by kernel_rfl) (by kernel_rfl) (by
  rintro ⟨(l : List SFile), (n : Int), _⟩ hp
  refine holds_of (X := .br (decide (IntKind.i64.wrap (n - (↑l.length : Int)) < (0 : Int)))
 (.leaf (mkR fszFileS.rs ((-1 : Int), ())) [] [])
 (lpx (LszS .file szFile l n) (IntKind.i64.wrap (n - (↑l.length : Int)), ((0 : Int), ())) fun (y2 : Int × Int × PUnit) bk2 =>
  .br (decide (y2.snd.fst < (↑l.length : Int)))
   (.ob ((0 : Int) ≤ y2.snd.fst ∧ y2.snd.fst < (↑l.length : Int)) <|
    .ob (fszFile.pre (l.getD y2.snd.fst.toNat default, y2.fst, ())) <|
    .br (decide ((fszFile.fn (l.getD y2.snd.fst.toNat default, y2.fst, ())).fst < (0 : Int)))
    (.leaf (mkR fszFileS.rs ((-1 : Int), ())) [] [])
    (.ob (l = l) <|
     .ob (Value.bool (decide (IntKind.i64.wrap (n - (↑l.length : Int)) < (0 : Int))) =
  Value.bool (decide (IntKind.i64.wrap (n - (↑l.length : Int)) < (0 : Int)))) <|
     .ob (bk2 ((fszFile.fn (l.getD y2.snd.fst.toNat default, y2.fst, ())).fst, (IntKind.i64.wrap (y2.snd.fst + (1 : Int)), ()))) <|
     .ok))
   (.leaf (mkR fszFileS.rs (y2.fst, ())) [] []))) (by kernel_rfl) ?_
  refine br_i (fun h1 => Fct.leafY ?_) (fun h1 => lpx_i ?_ fun (y2 : Int × Int × PUnit) i2 => br_i (fun h3 => ob_i ?_ fun o4 => ob_i ?_ fun o5 => br_i (fun h6 => Fct.leafY ?_) (fun h6 => ob_i rfl fun _ => ob_i rfl fun _ => ob_i ?_ fun o7 => trivial)) (fun h3 => Fct.leafY ?_))
  all_goals try simp only [decide_eq_true_eq, decide_eq_false_iff_not, Bool.not_eq_true', Bool.not_eq_false', bne_iff_ne, bne_eq_false_iff_eq, beq_iff_eq, beq_eq_false_iff_ne, baEq, Int.not_lt, Int.not_le, ne_eq, Decidable.not_not] at *
  all_goals try simp only [LszS, fszFile, fszFileS, decide_eq_true_eq, decide_eq_false_iff_not, Bool.not_eq_true', Bool.not_eq_false', bne_iff_ne, bne_eq_false_iff_eq, beq_iff_eq, beq_eq_false_iff_ne, Bool.not_eq_true, Bool.not_eq_false, ne_eq, Decidable.not_not, baEq, decide_not, Prod.mk.injEq, and_true, true_and, Room, List.nil_append, Nat.zero_add, Int.not_lt, Int.not_le] at *
  · have := good_len hp.1; simp only [maxLen] at this; rw [wrapId (by omega)] at h1
    rw [lessenNeg (by simp only [szL]; omega)]
  · have := good_len hp.1; simp only [maxLen] at this
    rw [wrapId (by omega)] at h1 ⊢
    exact ⟨by omega, by omega, h1, by simp⟩
  · omega
  · exact ⟨good_getD hp.1 (by omega), by omega, by omega⟩
  · have hs := sum_take_le szFile l (y2.2.1.toNat + 1)
    rw [sum_take szFile (by omega)] at hs
    rw [lessen_lt (by omega)] at h6
    rw [lessenNeg (by simp only [szL]; omega)]
  · have hw : IntKind.i64.wrap (y2.2.1 + 1) = y2.2.1 + 1 := wrapId (by have := good_len hp.1; simp only [maxLen] at this; omega)
    have h7 : ¬ lessen y2.1 (szFile (l.getD y2.2.1.toNat default)) < 0 := by omega
    rw [lessen_lt (by omega)] at h7
    rw [hw, toNat1 (by omega), sum_take szFile (by omega), lessen_ge (by omega)]
    exact ⟨⟨by omega, by omega, by omega, by omega⟩, by omega⟩
  · have e : l.take y2.2.1.toNat = l := List.take_of_length_le (by omega)
    rw [e] at i2
    have hz : ((szL szFile l : Nat) : Int) = l.length + (l.map szFile).sum := by simp only [szL]; omega
    rw [lessen_ge (by omega)]
    show y2.1 = n - ((szL szFile l : Nat) : Int)
    omega)
def E10 : D.Env := E9.add 158 fszFileS
theorem E10ok : EOk Try.prog E10 := E9ok.add k158_9
-- laws.toFileS
theorem k160_10 : ftoFileS.ok Try.prog 160 := Fct.of (S := ftoFileS) (L := fun ⟨l, _⟩ => fun | 3 => some (LtoS .file l) | _ => none) (kp := [0,2,3,4,11]) E10ok Try.func160 (by kernel_rfl) (by kernel_rfl) (by
  rintro ⟨(l : List SFile), _⟩ hp
  refine holds_of (X := .ob ((↑l.length : Int) = (↑l.length : Int) ∧
  (0 : Int) ≤ (↑l.length : Int) ∧
    (80 : Int) * (↑l.length : Int) ≤ (140737488355328 : Int) ∧ (↑l.length : Int) ≤ (140737488355328 : Int)) <|
 lpx (LtoS .file l) ((0 : Int), (List.replicate (↑l.length : Int).toNat default, ())) fun (y2 : Int × List SFile × PUnit) bk2 =>
 .br (decide (y2.fst < (↑l.length : Int)))
  (.ob ((0 : Int) ≤ y2.fst ∧ y2.fst < (↑l.length : Int)) <|
   .ob (ftoFile.pre (l.getD y2.fst.toNat default, ())) <|
   .ob ((0 : Int) ≤ y2.fst ∧ y2.fst < (↑y2.snd.fst.length : Int)) <|
   .ob (y2.fst.toNat < y2.snd.fst.length) <|
   .ob (l = l) <|
   .ob (bk2 (IntKind.i64.wrap (y2.fst + (1 : Int)), (y2.snd.fst.modify y2.fst.toNat fun z => l.getD y2.fst.toNat default, ()))) <|
   .ok)
  (.leaf (mkR ftoFileS.rs (y2.snd.fst, ())) [] [])) (by kernel_rfl) ?_
  refine ob_i ?_ fun o1 => lpx_i ?_ fun (y2 : Int × List SFile × PUnit) i2 => br_i (fun h3 => ob_i ?_ fun o4 => ob_i ?_ fun o5 => ob_i ?_ fun o6 => ob_i ?_ fun o7 => ob_i rfl fun _ => ob_i ?_ fun o8 => trivial) (fun h3 => Fct.leafY ?_)
  all_goals try simp only [decide_eq_true_eq, decide_eq_false_iff_not, Bool.not_eq_true', Bool.not_eq_false', bne_iff_ne, bne_eq_false_iff_eq, beq_iff_eq, beq_eq_false_iff_ne, baEq, Int.not_lt, Int.not_le, ne_eq, Decidable.not_not] at *
  all_goals try simp only [LtoS, ftoFile, ftoFileS, decide_eq_true_eq, decide_eq_false_iff_not, Bool.not_eq_true', Bool.not_eq_false', bne_iff_ne, bne_eq_false_iff_eq, beq_iff_eq, beq_eq_false_iff_ne, Bool.not_eq_true, Bool.not_eq_false, ne_eq, Decidable.not_not, baEq, decide_not, Prod.mk.injEq, and_true, true_and, Room, List.nil_append, Nat.zero_add, Int.not_lt, Int.not_le] at *
  · have := szL_len szFile l; omega
  · exact ⟨by omega, by omega, by simp⟩
  · omega
  · have hs := sum_take_le szFile l (y2.1.toNat + 1)
    rw [sum_take szFile (by omega)] at hs
    simp only [szL] at hp; omega
  · rw [i2.2.2]; simp; omega
  · rw [i2.2.2]; simp; omega
  · have hw : IntKind.i64.wrap (y2.1 + 1) = y2.1 + 1 := wrapId (by have := szL_len szFile l; omega)
    rw [hw, toNat1 (by omega), i2.2.2]
    refine ⟨⟨by omega, by omega, ?_⟩, by omega⟩
    rw [show l.length - y2.1.toNat = (l.length - (y2.1.toNat + 1)) + 1 from by omega, List.replicate_succ, mod_at (by simp; omega), take_succ (by omega)]
    simp
  · have e : l.take y2.1.toNat = l := List.take_of_length_le (by omega)
    rw [i2.2.2, e]; simp; omega)
def E11 : D.Env := E10.add 160 ftoFileS
theorem E11ok : EOk Try.prog E11 := E10ok.add k160_10
-- laws.eqFileS
set_option maxHeartbeats 2000000 in
theorem k162_11 : feqFileS.ok Try.prog 162 := Fct.of (S := feqFileS) (L := fun ⟨l, m, _⟩ => fun | 4 => some (LeqS .file l m) | _ => none) (kp := [0,1,4,5,10,14,26]) E11ok Try.func162 (by kernel_rfl) (by kernel_rfl) (by
  rintro ⟨(l : List SFile), (m : List SFile), _⟩ hp
  refine holds_of (X := .br ((↑l.length : Int) != (↑m.length : Int))
 (.leaf (mkR feqFileS.rs (false, ())) [] [])
 (lpx (LeqS .file l m) ((0 : Int), ()) fun (y2 : Int × PUnit) bk2 =>
  .br (decide (y2.fst < (↑l.length : Int)))
   (.ob ((0 : Int) ≤ y2.fst ∧ y2.fst < (↑l.length : Int)) <|
    .ob ((0 : Int) ≤ y2.fst ∧ y2.fst < (↑m.length : Int)) <|
    .ob (feqFile.pre (l.getD y2.fst.toNat default, m.getD y2.fst.toNat default, ())) <|
    .br (!(feqFile.fn (l.getD y2.fst.toNat default, m.getD y2.fst.toNat default, ())).fst)
    (.leaf (mkR feqFileS.rs (false, ())) [] [])
    (.ob (l = l) <|
     .ob (m = m) <|
     .ob (Value.bool ((↑l.length : Int) != (↑m.length : Int)) = Value.bool ((↑l.length : Int) != (↑m.length : Int))) <|
     .ob (bk2 (IntKind.i64.wrap (y2.fst + (1 : Int)), ())) <|
     .ok))
   (.leaf (mkR feqFileS.rs (true, ())) [] []))) (by kernel_rfl) ?_
  refine br_i (fun h1 => Fct.leafY ?_) (fun h1 => lpx_i ?_ fun (y2 : Int × PUnit) i2 => br_i (fun h3 => ob_i ?_ fun o4 => ob_i ?_ fun o5 => ob_i trivial fun _ => br_i (fun h6 => Fct.leafY ?_) (fun h6 => ob_i rfl fun _ => ob_i rfl fun _ => ob_i rfl fun _ => ob_i ?_ fun o7 => trivial)) (fun h3 => Fct.leafY ?_))
  all_goals try simp only [decide_eq_true_eq, decide_eq_false_iff_not, Bool.not_eq_true', Bool.not_eq_false', bne_iff_ne, bne_eq_false_iff_eq, beq_iff_eq, beq_eq_false_iff_ne, baEq, Int.not_lt, Int.not_le, ne_eq, Decidable.not_not] at *
  all_goals try simp only [LeqS, feqFile, feqFileS, decide_eq_true_eq, decide_eq_false_iff_not, Bool.not_eq_true', Bool.not_eq_false', bne_iff_ne, bne_eq_false_iff_eq, beq_iff_eq, beq_eq_false_iff_ne, Bool.not_eq_true, Bool.not_eq_false, ne_eq, Decidable.not_not, baEq, decide_not, Prod.mk.injEq, and_true, true_and, Room, List.nil_append, Nat.zero_add, Int.not_lt, Int.not_le] at *
  · rw [decide_eq_false]; rintro rfl; omega
  · exact ⟨by omega, by omega, by simp⟩
  · omega
  · omega
  · rw [decide_eq_false]; rintro rfl; exact absurd rfl h6
  · have hw : IntKind.i64.wrap (y2.1 + 1) = y2.1 + 1 := wrapId (by omega)
    rw [hw, toNat1 (by omega)]
    refine ⟨⟨by omega, by omega, ?_⟩, by omega⟩
    rw [take_succ (by omega), take_succ (by omega), i2.2.2, h6]
  · have e : l.take y2.1.toNat = l := List.take_of_length_le (by omega)
    have e2 : m.take y2.1.toNat = m := List.take_of_length_le (by omega)
    rw [decide_eq_true]; rw [← e, ← e2, i2.2.2])
def E12 : D.Env := E11.add 162 feqFileS
theorem E12ok : EOk Try.prog E12 := E11ok.add k162_11
-- laws.szServer
set_option maxHeartbeats 2000000 in
theorem k117_12 : fszServer.ok Try.prog 117 := Fct.of (S := fszServer) (L := fun _ _ => none) (kp := [0,1,2,4,11,17]) E12ok Try.func117 (by kernel_rfl) (by kernel_rfl) (by
  rintro ⟨(x : SServer), (n : Int), _⟩ hp
  refine holds_of (X := .br (decide (IntKind.i64.wrap (n - (↑x.host.size : Int)) < (0 : Int)))
 (.leaf (mkR fszServer.rs ((-1 : Int), ())) [] [])
 (.ob (fszFileS.pre (x.files, IntKind.i64.wrap (n - (↑x.host.size : Int)), ())) <|
  .br (decide ((fszFileS.fn (x.files, IntKind.i64.wrap (n - (↑x.host.size : Int)), ())).fst < (0 : Int)))
  (.leaf (mkR fszServer.rs ((-1 : Int), ())) [] [])
  (.leaf (mkR fszServer.rs ((fszFileS.fn (x.files, IntKind.i64.wrap (n - (↑x.host.size : Int)), ())).fst, ())) [] []))) (by kernel_rfl) ?_
  refine br_i (fun h1 => Fct.leafY ?_) (fun h1 => ob_i ?_ fun o2 => br_i (fun h3 => Fct.leafY ?_) (fun h3 => Fct.leafY ?_))
  all_goals try simp only [decide_eq_true_eq, decide_eq_false_iff_not, Bool.not_eq_true', Bool.not_eq_false', bne_iff_ne, bne_eq_false_iff_eq, beq_iff_eq, beq_eq_false_iff_ne, baEq, Int.not_lt, Int.not_le, ne_eq, Decidable.not_not] at *
  all_goals try simp only [fszFileS, fszServer, decide_eq_true_eq, decide_eq_false_iff_not, Bool.not_eq_true', Bool.not_eq_false', bne_iff_ne, bne_eq_false_iff_eq, beq_iff_eq, beq_eq_false_iff_ne, Bool.not_eq_true, Bool.not_eq_false, ne_eq, Decidable.not_not, baEq, decide_not, Prod.mk.injEq, and_true, true_and, Room, List.nil_append, Nat.zero_add, Int.not_lt, Int.not_le, Sh.good, Sh.fc, enc, List.forall_mem_cons, List.not_mem_nil, false_implies, implies_true, goodC, maxLen] at *
  all_goals grind [wrapId', lessen, szL, szServer])
def E13 : D.Env := E12.add 117 fszServer
theorem E13ok : EOk Try.prog E13 := E12ok.add k117_12
-- laws.toServer
theorem k120_13 : ftoServer.ok Try.prog 120 := Fct.of (S := ftoServer) (L := fun _ _ => none) (kp := [0,1,2,3]) E13ok Try.func120 (by kernel_rfl) (by kernel_rfl) (by
  rintro ⟨(x : SServer), _⟩ hp
  refine holds_of (X := .ob (ftoFileS.pre (x.files, ())) <|
 .leaf (mkR ftoServer.rs (⟨x.host, (ftoFileS.fn (x.files, ())).fst⟩, ())) [] []) (by kernel_rfl) ?_
  refine ob_i ?_ fun o1 => Fct.leafY ?_
  all_goals try simp only [decide_eq_true_eq, decide_eq_false_iff_not, Bool.not_eq_true', Bool.not_eq_false', bne_iff_ne, bne_eq_false_iff_eq, beq_iff_eq, beq_eq_false_iff_ne, baEq, Int.not_lt, Int.not_le, ne_eq, Decidable.not_not] at *
  all_goals try simp only [ftoFileS, ftoServer, decide_eq_true_eq, decide_eq_false_iff_not, Bool.not_eq_true', Bool.not_eq_false', bne_iff_ne, bne_eq_false_iff_eq, beq_iff_eq, beq_eq_false_iff_ne, Bool.not_eq_true, Bool.not_eq_false, ne_eq, Decidable.not_not, baEq, decide_not, Prod.mk.injEq, and_true, true_and, Room, List.nil_append, Nat.zero_add, Int.not_lt, Int.not_le] at *
  all_goals first | trivial | rfl | grind [szL, szServer])
def E14 : D.Env := E13.add 120 ftoServer
theorem E14ok : EOk Try.prog E14 := E13ok.add k120_13
-- laws.eqServer
set_option maxHeartbeats 2000000 in
theorem k123_14 : feqServer.ok Try.prog 123 := Fct.of (S := feqServer) (L := fun _ _ => none) (kp := [0,1,2,3,4,9,15]) E14ok Try.func123 (by kernel_rfl) (by kernel_rfl) (by
  rintro ⟨(x : SServer), (y : SServer), _⟩ hp
  refine holds_of (X := .br (!x.host.toList == y.host.toList)
 (.leaf (mkR feqServer.rs (false, ())) [] [])
 (.ob (feqFileS.pre (x.files, y.files, ())) <|
  .br (!(feqFileS.fn (x.files, y.files, ())).fst)
  (.leaf (mkR feqServer.rs (false, ())) [] [])
  (.leaf (mkR feqServer.rs (true, ())) [] []))) (by kernel_rfl) ?_
  refine br_i (fun h1 => Fct.leafY ?_) (fun h1 => ob_i ?_ fun o2 => br_i (fun h3 => Fct.leafY ?_) (fun h3 => Fct.leafY ?_))
  all_goals try simp only [decide_eq_true_eq, decide_eq_false_iff_not, Bool.not_eq_true', Bool.not_eq_false', bne_iff_ne, bne_eq_false_iff_eq, beq_iff_eq, beq_eq_false_iff_ne, baEq, Int.not_lt, Int.not_le, ne_eq, Decidable.not_not] at *
  all_goals try simp only [feqFileS, feqServer, decide_eq_true_eq, decide_eq_false_iff_not, Bool.not_eq_true', Bool.not_eq_false', bne_iff_ne, bne_eq_false_iff_eq, beq_iff_eq, beq_eq_false_iff_ne, Bool.not_eq_true, Bool.not_eq_false, ne_eq, Decidable.not_not, baEq, decide_not, Prod.mk.injEq, and_true, true_and, Room, List.nil_append, Nat.zero_add, Int.not_lt, Int.not_le] at *
  all_goals first | trivial | (cases x; cases y; simp_all; done) | (simp only [szL, szServer] at *; omega) | grind [szL, szServer])
def E15 : D.Env := E14.add 123 feqServer
theorem E15ok : EOk Try.prog E15 := E14ok.add k123_14
-- laws.szServerS
set_option maxHeartbeats 2000000 in
theorem k60_15 : fszServerS.ok Try.prog 60 := Fct.of (S := fszServerS) (L := fun ⟨l, n, _⟩ => fun | 5 => some (LszS .server szServer l n) | _ => none) (kp := [0,1,4,5,11,15,25]) E15ok Try.func60 (by kernel_rfl) (by kernel_rfl) (by
  rintro ⟨(l : List SServer), (n : Int), _⟩ hp
  refine holds_of (X := .br (decide (IntKind.i64.wrap (n - (↑l.length : Int)) < (0 : Int)))
 (.leaf (mkR fszServerS.rs ((-1 : Int), ())) [] [])
 (lpx (LszS .server szServer l n) (IntKind.i64.wrap (n - (↑l.length : Int)), ((0 : Int), ())) fun (y2 : Int × Int × PUnit) bk2 =>
  .br (decide (y2.snd.fst < (↑l.length : Int)))
   (.ob ((0 : Int) ≤ y2.snd.fst ∧ y2.snd.fst < (↑l.length : Int)) <|
    .ob (fszServer.pre (l.getD y2.snd.fst.toNat default, y2.fst, ())) <|
    .br (decide ((fszServer.fn (l.getD y2.snd.fst.toNat default, y2.fst, ())).fst < (0 : Int)))
    (.leaf (mkR fszServerS.rs ((-1 : Int), ())) [] [])
    (.ob (l = l) <|
     .ob (Value.bool (decide (IntKind.i64.wrap (n - (↑l.length : Int)) < (0 : Int))) =
  Value.bool (decide (IntKind.i64.wrap (n - (↑l.length : Int)) < (0 : Int)))) <|
     .ob (bk2 ((fszServer.fn (l.getD y2.snd.fst.toNat default, y2.fst, ())).fst, (IntKind.i64.wrap (y2.snd.fst + (1 : Int)), ()))) <|
     .ok))
   (.leaf (mkR fszServerS.rs (y2.fst, ())) [] []))) (by kernel_rfl) ?_
  refine br_i (fun h1 => Fct.leafY ?_) (fun h1 => lpx_i ?_ fun (y2 : Int × Int × PUnit) i2 => br_i (fun h3 => ob_i ?_ fun o4 => ob_i ?_ fun o5 => br_i (fun h6 => Fct.leafY ?_) (fun h6 => ob_i rfl fun _ => ob_i rfl fun _ => ob_i ?_ fun o7 => trivial)) (fun h3 => Fct.leafY ?_))
  all_goals try simp only [decide_eq_true_eq, decide_eq_false_iff_not, Bool.not_eq_true', Bool.not_eq_false', bne_iff_ne, bne_eq_false_iff_eq, beq_iff_eq, beq_eq_false_iff_ne, baEq, Int.not_lt, Int.not_le, ne_eq, Decidable.not_not] at *
  all_goals try simp only [LszS, fszServer, fszServerS, decide_eq_true_eq, decide_eq_false_iff_not, Bool.not_eq_true', Bool.not_eq_false', bne_iff_ne, bne_eq_false_iff_eq, beq_iff_eq, beq_eq_false_iff_ne, Bool.not_eq_true, Bool.not_eq_false, ne_eq, Decidable.not_not, baEq, decide_not, Prod.mk.injEq, and_true, true_and, Room, List.nil_append, Nat.zero_add, Int.not_lt, Int.not_le] at *
  · have := good_len hp.1; simp only [maxLen] at this; rw [wrapId (by omega)] at h1
    rw [lessenNeg (by simp only [szL]; omega)]
  · have := good_len hp.1; simp only [maxLen] at this
    rw [wrapId (by omega)] at h1 ⊢
    exact ⟨by omega, by omega, h1, by simp⟩
  · omega
  · exact ⟨good_getD hp.1 (by omega), by omega, by omega⟩
  · have hs := sum_take_le szServer l (y2.2.1.toNat + 1)
    rw [sum_take szServer (by omega)] at hs
    rw [lessen_lt (by omega)] at h6
    rw [lessenNeg (by simp only [szL]; omega)]
  · have hw : IntKind.i64.wrap (y2.2.1 + 1) = y2.2.1 + 1 := wrapId (by have := good_len hp.1; simp only [maxLen] at this; omega)
    have h7 : ¬ lessen y2.1 (szServer (l.getD y2.2.1.toNat default)) < 0 := by omega
    rw [lessen_lt (by omega)] at h7
    rw [hw, toNat1 (by omega), sum_take szServer (by omega), lessen_ge (by omega)]
    exact ⟨⟨by omega, by omega, by omega, by omega⟩, by omega⟩
  · have e : l.take y2.2.1.toNat = l := List.take_of_length_le (by omega)
    rw [e] at i2
    have hz : ((szL szServer l : Nat) : Int) = l.length + (l.map szServer).sum := by simp only [szL]; omega
    rw [lessen_ge (by omega)]
    show y2.1 = n - ((szL szServer l : Nat) : Int)
    omega)
def E16 : D.Env := E15.add 60 fszServerS
theorem E16ok : EOk Try.prog E16 := E15ok.add k60_15
-- laws.toServerS
theorem k64_16 : ftoServerS.ok Try.prog 64 := Fct.of (S := ftoServerS) (L := fun ⟨l, _⟩ => fun | 3 => some (LtoS .server l) | _ => none) (kp := [0,2,3,4,11]) E16ok Try.func64 (by kernel_rfl) (by kernel_rfl) (by
  rintro ⟨(l : List SServer), _⟩ hp
  refine holds_of (X := .ob ((↑l.length : Int) = (↑l.length : Int) ∧
  (0 : Int) ≤ (↑l.length : Int) ∧
    (40 : Int) * (↑l.length : Int) ≤ (140737488355328 : Int) ∧ (↑l.length : Int) ≤ (140737488355328 : Int)) <|
 lpx (LtoS .server l) ((0 : Int), (List.replicate (↑l.length : Int).toNat default, ())) fun (y2 : Int × List SServer × PUnit) bk2 =>
 .br (decide (y2.fst < (↑l.length : Int)))
  (.ob ((0 : Int) ≤ y2.fst ∧ y2.fst < (↑l.length : Int)) <|
   .ob (ftoServer.pre (l.getD y2.fst.toNat default, ())) <|
   .ob ((0 : Int) ≤ y2.fst ∧ y2.fst < (↑y2.snd.fst.length : Int)) <|
   .ob (y2.fst.toNat < y2.snd.fst.length) <|
   .ob (l = l) <|
   .ob (bk2 (IntKind.i64.wrap (y2.fst + (1 : Int)), (y2.snd.fst.modify y2.fst.toNat fun z => l.getD y2.fst.toNat default, ()))) <|
   .ok)
  (.leaf (mkR ftoServerS.rs (y2.snd.fst, ())) [] [])) (by kernel_rfl) ?_
  refine ob_i ?_ fun o1 => lpx_i ?_ fun (y2 : Int × List SServer × PUnit) i2 => br_i (fun h3 => ob_i ?_ fun o4 => ob_i ?_ fun o5 => ob_i ?_ fun o6 => ob_i ?_ fun o7 => ob_i rfl fun _ => ob_i ?_ fun o8 => trivial) (fun h3 => Fct.leafY ?_)
  all_goals try simp only [decide_eq_true_eq, decide_eq_false_iff_not, Bool.not_eq_true', Bool.not_eq_false', bne_iff_ne, bne_eq_false_iff_eq, beq_iff_eq, beq_eq_false_iff_ne, baEq, Int.not_lt, Int.not_le, ne_eq, Decidable.not_not] at *
  all_goals try simp only [LtoS, ftoServer, ftoServerS, decide_eq_true_eq, decide_eq_false_iff_not, Bool.not_eq_true', Bool.not_eq_false', bne_iff_ne, bne_eq_false_iff_eq, beq_iff_eq, beq_eq_false_iff_ne, Bool.not_eq_true, Bool.not_eq_false, ne_eq, Decidable.not_not, baEq, decide_not, Prod.mk.injEq, and_true, true_and, Room, List.nil_append, Nat.zero_add, Int.not_lt, Int.not_le] at *
  · have := szL_len szServer l; omega
  · exact ⟨by omega, by omega, by simp⟩
  · omega
  · have hs := sum_take_le szServer l (y2.1.toNat + 1)
    rw [sum_take szServer (by omega)] at hs
    simp only [szL] at hp; omega
  · rw [i2.2.2]; simp; omega
  · rw [i2.2.2]; simp; omega
  · have hw : IntKind.i64.wrap (y2.1 + 1) = y2.1 + 1 := wrapId (by have := szL_len szServer l; omega)
    rw [hw, toNat1 (by omega), i2.2.2]
    refine ⟨⟨by omega, by omega, ?_⟩, by omega⟩
    rw [show l.length - y2.1.toNat = (l.length - (y2.1.toNat + 1)) + 1 from by omega, List.replicate_succ, mod_at (by simp; omega), take_succ (by omega)]
    simp
  · have e : l.take y2.1.toNat = l := List.take_of_length_le (by omega)
    rw [i2.2.2, e]; simp; omega)
def E17 : D.Env := E16.add 64 ftoServerS
theorem E17ok : EOk Try.prog E17 := E16ok.add k64_16
-- laws.eqServerS
set_option maxHeartbeats 2000000 in
theorem k68_17 : feqServerS.ok Try.prog 68 := Fct.of (S := feqServerS) (L := fun ⟨l, m, _⟩ => fun | 4 => some (LeqS .server l m) | _ => none) (kp := [0,1,4,5,10,14,26]) E17ok Try.func68 (by kernel_rfl) (by kernel_rfl) (by
  rintro ⟨(l : List SServer), (m : List SServer), _⟩ hp
  refine holds_of (X := .br ((↑l.length : Int) != (↑m.length : Int))
 (.leaf (mkR feqServerS.rs (false, ())) [] [])
 (lpx (LeqS .server l m) ((0 : Int), ()) fun (y2 : Int × PUnit) bk2 =>
  .br (decide (y2.fst < (↑l.length : Int)))
   (.ob ((0 : Int) ≤ y2.fst ∧ y2.fst < (↑l.length : Int)) <|
    .ob ((0 : Int) ≤ y2.fst ∧ y2.fst < (↑m.length : Int)) <|
    .ob (feqServer.pre (l.getD y2.fst.toNat default, m.getD y2.fst.toNat default, ())) <|
    .br (!(feqServer.fn (l.getD y2.fst.toNat default, m.getD y2.fst.toNat default, ())).fst)
    (.leaf (mkR feqServerS.rs (false, ())) [] [])
    (.ob (l = l) <|
     .ob (m = m) <|
     .ob (Value.bool ((↑l.length : Int) != (↑m.length : Int)) = Value.bool ((↑l.length : Int) != (↑m.length : Int))) <|
     .ob (bk2 (IntKind.i64.wrap (y2.fst + (1 : Int)), ())) <|
     .ok))
   (.leaf (mkR feqServerS.rs (true, ())) [] []))) (by kernel_rfl) ?_
  refine br_i (fun h1 => Fct.leafY ?_) (fun h1 => lpx_i ?_ fun (y2 : Int × PUnit) i2 => br_i (fun h3 => ob_i ?_ fun o4 => ob_i ?_ fun o5 => ob_i ?_ fun o6 => br_i (fun h7 => Fct.leafY ?_) (fun h7 => ob_i rfl fun _ => ob_i rfl fun _ => ob_i rfl fun _ => ob_i ?_ fun o8 => trivial)) (fun h3 => Fct.leafY ?_))
  all_goals try simp only [decide_eq_true_eq, decide_eq_false_iff_not, Bool.not_eq_true', Bool.not_eq_false', bne_iff_ne, bne_eq_false_iff_eq, beq_iff_eq, beq_eq_false_iff_ne, baEq, Int.not_lt, Int.not_le, ne_eq, Decidable.not_not] at *
  all_goals try simp only [LeqS, feqServer, feqServerS, decide_eq_true_eq, decide_eq_false_iff_not, Bool.not_eq_true', Bool.not_eq_false', bne_iff_ne, bne_eq_false_iff_eq, beq_iff_eq, beq_eq_false_iff_ne, Bool.not_eq_true, Bool.not_eq_false, ne_eq, Decidable.not_not, baEq, decide_not, Prod.mk.injEq, and_true, true_and, Room, List.nil_append, Nat.zero_add, Int.not_lt, Int.not_le] at *
  all_goals have hl := szL_len szServer l
  · rw [decide_eq_false]; rintro rfl; omega
  · exact ⟨by omega, by omega, by simp⟩
  · omega
  · omega
  · have hs := szL_get szServer (l := l) (i := y2.1.toNat) (by omega); omega
  · rw [decide_eq_false]; rintro rfl; first | exact absurd rfl h6 | exact absurd rfl h7
  · have hw : IntKind.i64.wrap (y2.1 + 1) = y2.1 + 1 := wrapId (by omega)
    rw [hw, toNat1 (by omega)]
    refine ⟨⟨by omega, by omega, ?_⟩, by omega⟩
    rw [take_succ (by omega), take_succ (by omega), i2.2.2]; first | rw [h6] | rw [h7]
  · have e : l.take y2.1.toNat = l := List.take_of_length_le (by omega)
    have e2 : m.take y2.1.toNat = m := List.take_of_length_le (by omega)
    rw [decide_eq_true]; rw [← e, ← e2, i2.2.2])
def E18 : D.Env := E17.add 68 feqServerS
theorem E18ok : EOk Try.prog E18 := E17ok.add k68_17
-- laws.szEntry
set_option maxHeartbeats 2000000 in
theorem k159_18 : fszEntry.ok Try.prog 159 := Fct.of (S := fszEntry) (L := fun _ _ => none) (kp := [0,1,2,4,11,17,23]) E18ok Try.func159 (by kernel_rfl) (by kernel_rfl) (by
  rintro ⟨(x : SEntry), (n : Int), _⟩ hp
  refine holds_of (X := .br (decide (IntKind.i64.wrap (n - (↑x.top.size : Int)) < (0 : Int)))
 (.leaf (mkR fszEntry.rs ((-1 : Int), ())) [] [])
 (.ob (fszAddr.pre (x.to, IntKind.i64.wrap (n - (↑x.top.size : Int)), ())) <|
  .br (decide ((fszAddr.fn (x.to, IntKind.i64.wrap (n - (↑x.top.size : Int)), ())).fst < (0 : Int)))
  (.leaf (mkR fszEntry.rs ((-1 : Int), ())) [] [])
  (.ob (fszResponse.pre (x.response, (fszAddr.fn (x.to, IntKind.i64.wrap (n - (↑x.top.size : Int)), ())).fst, ())) <|
   .br (decide
  ((fszResponse.fn (x.response, (fszAddr.fn (x.to, IntKind.i64.wrap (n - (↑x.top.size : Int)), ())).fst, ())).fst <
    (0 : Int)))
   (.leaf (mkR fszEntry.rs ((-1 : Int), ())) [] [])
   (.leaf (mkR fszEntry.rs ((fszResponse.fn (x.response, (fszAddr.fn (x.to, IntKind.i64.wrap (n - (↑x.top.size : Int)), ())).fst, ())).fst, ())) [] [])))) (by kernel_rfl) ?_
  refine br_i (fun h1 => Fct.leafY ?_) (fun h1 => ob_i ?_ fun o2 => br_i (fun h3 => Fct.leafY ?_) (fun h3 => ob_i ?_ fun o4 => br_i (fun h5 => Fct.leafY ?_) (fun h5 => Fct.leafY ?_)))
  all_goals try simp only [decide_eq_true_eq, decide_eq_false_iff_not, Bool.not_eq_true', Bool.not_eq_false', bne_iff_ne, bne_eq_false_iff_eq, beq_iff_eq, beq_eq_false_iff_ne, baEq, Int.not_lt, Int.not_le, ne_eq, Decidable.not_not] at *
  all_goals try simp only [fszAddr, fszEntry, fszResponse, decide_eq_true_eq, decide_eq_false_iff_not, Bool.not_eq_true', Bool.not_eq_false', bne_iff_ne, bne_eq_false_iff_eq, beq_iff_eq, beq_eq_false_iff_ne, Bool.not_eq_true, Bool.not_eq_false, ne_eq, Decidable.not_not, baEq, decide_not, Prod.mk.injEq, and_true, true_and, Room, List.nil_append, Nat.zero_add, Int.not_lt, Int.not_le, Sh.good, Sh.fc, enc, List.forall_mem_cons, List.not_mem_nil, false_implies, implies_true, goodC, maxLen] at *
  all_goals grind [wrapId', lessen, szAddr, szEntry, szResponse])
def E19 : D.Env := E18.add 159 fszEntry
theorem E19ok : EOk Try.prog E19 := E18ok.add k159_18
-- laws.toEntry
theorem k161_19 : ftoEntry.ok Try.prog 161 := Fct.of (S := ftoEntry) (L := fun _ _ => none) (kp := [0,1,2,3]) E19ok Try.func161 (by kernel_rfl) (by kernel_rfl) (by
  rintro ⟨(x : SEntry), _⟩ hp
  refine holds_of (X := .ob (ftoAddr.pre (x.to, ())) <|
 .ob (ftoResponse.pre (x.response, ())) <|
 .leaf (mkR ftoEntry.rs (x, ())) [] []) (by kernel_rfl) ?_
  refine ob_i ?_ fun o1 => ob_i ?_ fun o2 => Fct.leafY ?_
  all_goals try simp only [decide_eq_true_eq, decide_eq_false_iff_not, Bool.not_eq_true', Bool.not_eq_false', bne_iff_ne, bne_eq_false_iff_eq, beq_iff_eq, beq_eq_false_iff_ne, baEq, Int.not_lt, Int.not_le, ne_eq, Decidable.not_not] at *
  all_goals try simp only [ftoAddr, ftoEntry, ftoResponse, decide_eq_true_eq, decide_eq_false_iff_not, Bool.not_eq_true', Bool.not_eq_false', bne_iff_ne, bne_eq_false_iff_eq, beq_iff_eq, beq_eq_false_iff_ne, Bool.not_eq_true, Bool.not_eq_false, ne_eq, Decidable.not_not, baEq, decide_not, Prod.mk.injEq, and_true, true_and, Room, List.nil_append, Nat.zero_add, Int.not_lt, Int.not_le] at *
  all_goals first | trivial | rfl | grind [szAddr, szEntry, szResponse])
def E20 : D.Env := E19.add 161 ftoEntry
theorem E20ok : EOk Try.prog E20 := E19ok.add k161_19
-- laws.eqEntry
set_option maxHeartbeats 2000000 in
theorem k163_20 : feqEntry.ok Try.prog 163 := Fct.of (S := feqEntry) (L := fun _ _ => none) (kp := [0,1,2,3,4,9,15,21,26]) E20ok Try.func163 (by kernel_rfl) (by kernel_rfl) (by
  rintro ⟨(x : SEntry), (y : SEntry), _⟩ hp
  refine holds_of (X := .br (!x.top.toList == y.top.toList)
 (.leaf (mkR feqEntry.rs (false, ())) [] [])
 (.ob (feqAddr.pre (x.to, y.to, ())) <|
  .br (!(feqAddr.fn (x.to, y.to, ())).fst)
  (.leaf (mkR feqEntry.rs (false, ())) [] [])
  (.ob (feqResponse.pre (x.response, y.response, ())) <|
   .br (!(feqResponse.fn (x.response, y.response, ())).fst)
   (.leaf (mkR feqEntry.rs (false, ())) [] [])
   (.br (x.until_ != y.until_)
    (.leaf (mkR feqEntry.rs (false, ())) [] [])
    (.leaf (mkR feqEntry.rs (true, ())) [] []))))) (by kernel_rfl) ?_
  refine br_i (fun h1 => Fct.leafY ?_) (fun h1 => ob_i trivial fun _ => br_i (fun h2 => Fct.leafY ?_) (fun h2 => ob_i trivial fun _ => br_i (fun h3 => Fct.leafY ?_) (fun h3 => br_i (fun h4 => Fct.leafY ?_) (fun h4 => Fct.leafY ?_))))
  all_goals try simp only [decide_eq_true_eq, decide_eq_false_iff_not, Bool.not_eq_true', Bool.not_eq_false', bne_iff_ne, bne_eq_false_iff_eq, beq_iff_eq, beq_eq_false_iff_ne, baEq, Int.not_lt, Int.not_le, ne_eq, Decidable.not_not] at *
  all_goals try simp only [feqAddr, feqEntry, feqResponse, decide_eq_true_eq, decide_eq_false_iff_not, Bool.not_eq_true', Bool.not_eq_false', bne_iff_ne, bne_eq_false_iff_eq, beq_iff_eq, beq_eq_false_iff_ne, Bool.not_eq_true, Bool.not_eq_false, ne_eq, Decidable.not_not, baEq, decide_not, Prod.mk.injEq, and_true, true_and, Room, List.nil_append, Nat.zero_add, Int.not_lt, Int.not_le] at *
  all_goals first | trivial | (cases x; cases y; simp_all; done) | (simp only [szAddr, szEntry, szResponse] at *; omega) | grind [szAddr, szEntry, szResponse])
def E21 : D.Env := E20.add 163 feqEntry
theorem E21ok : EOk Try.prog E21 := E20ok.add k163_20
-- laws.szEntryS
set_option maxHeartbeats 2000000 in
theorem k118_21 : fszEntryS.ok Try.prog 118 := Fct.of (S := fszEntryS) (L := fun ⟨l, n, _⟩ => fun | 5 => some (LszS .entry szEntry l n) | _ => none) (kp := [0,1,4,5,11,15,25]) E21ok Try.func118 (by kernel_rfl) (by kernel_rfl) (by
  rintro ⟨(l : List SEntry), (n : Int), _⟩ hp
  refine holds_of (X := .br (decide (IntKind.i64.wrap (n - (↑l.length : Int)) < (0 : Int)))
 (.leaf (mkR fszEntryS.rs ((-1 : Int), ())) [] [])
 (lpx (LszS .entry szEntry l n) (IntKind.i64.wrap (n - (↑l.length : Int)), ((0 : Int), ())) fun (y2 : Int × Int × PUnit) bk2 =>
  .br (decide (y2.snd.fst < (↑l.length : Int)))
   (.ob ((0 : Int) ≤ y2.snd.fst ∧ y2.snd.fst < (↑l.length : Int)) <|
    .ob (fszEntry.pre (l.getD y2.snd.fst.toNat default, y2.fst, ())) <|
    .br (decide ((fszEntry.fn (l.getD y2.snd.fst.toNat default, y2.fst, ())).fst < (0 : Int)))
    (.leaf (mkR fszEntryS.rs ((-1 : Int), ())) [] [])
    (.ob (l = l) <|
     .ob (Value.bool (decide (IntKind.i64.wrap (n - (↑l.length : Int)) < (0 : Int))) =
  Value.bool (decide (IntKind.i64.wrap (n - (↑l.length : Int)) < (0 : Int)))) <|
     .ob (bk2 ((fszEntry.fn (l.getD y2.snd.fst.toNat default, y2.fst, ())).fst, (IntKind.i64.wrap (y2.snd.fst + (1 : Int)), ()))) <|
     .ok))
   (.leaf (mkR fszEntryS.rs (y2.fst, ())) [] []))) (by kernel_rfl) ?_
  refine br_i (fun h1 => Fct.leafY ?_) (fun h1 => lpx_i ?_ fun (y2 : Int × Int × PUnit) i2 => br_i (fun h3 => ob_i ?_ fun o4 => ob_i ?_ fun o5 => br_i (fun h6 => Fct.leafY ?_) (fun h6 => ob_i rfl fun _ => ob_i rfl fun _ => ob_i ?_ fun o7 => trivial)) (fun h3 => Fct.leafY ?_))
  all_goals try simp only [decide_eq_true_eq, decide_eq_false_iff_not, Bool.not_eq_true', Bool.not_eq_false', bne_iff_ne, bne_eq_false_iff_eq, beq_iff_eq, beq_eq_false_iff_ne, baEq, Int.not_lt, Int.not_le, ne_eq, Decidable.not_not] at *
  all_goals try simp only [LszS, fszEntry, fszEntryS, decide_eq_true_eq, decide_eq_false_iff_not, Bool.not_eq_true', Bool.not_eq_false', bne_iff_ne, bne_eq_false_iff_eq, beq_iff_eq, beq_eq_false_iff_ne, Bool.not_eq_true, Bool.not_eq_false, ne_eq, Decidable.not_not, baEq, decide_not, Prod.mk.injEq, and_true, true_and, Room, List.nil_append, Nat.zero_add, Int.not_lt, Int.not_le] at *
  · have := good_len hp.1; simp only [maxLen] at this; rw [wrapId (by omega)] at h1
    rw [lessenNeg (by simp only [szL]; omega)]
  · have := good_len hp.1; simp only [maxLen] at this
    rw [wrapId (by omega)] at h1 ⊢
    exact ⟨by omega, by omega, h1, by simp⟩
  · omega
  · exact ⟨good_getD hp.1 (by omega), by omega, by omega⟩
  · have hs := sum_take_le szEntry l (y2.2.1.toNat + 1)
    rw [sum_take szEntry (by omega)] at hs
    rw [lessen_lt (by omega)] at h6
    rw [lessenNeg (by simp only [szL]; omega)]
  · have hw : IntKind.i64.wrap (y2.2.1 + 1) = y2.2.1 + 1 := wrapId (by have := good_len hp.1; simp only [maxLen] at this; omega)
    have h7 : ¬ lessen y2.1 (szEntry (l.getD y2.2.1.toNat default)) < 0 := by omega
    rw [lessen_lt (by omega)] at h7
    rw [hw, toNat1 (by omega), sum_take szEntry (by omega), lessen_ge (by omega)]
    exact ⟨⟨by omega, by omega, by omega, by omega⟩, by omega⟩
  · have e : l.take y2.2.1.toNat = l := List.take_of_length_le (by omega)
    rw [e] at i2
    have hz : ((szL szEntry l : Nat) : Int) = l.length + (l.map szEntry).sum := by simp only [szL]; omega
    rw [lessen_ge (by omega)]
    show y2.1 = n - ((szL szEntry l : Nat) : Int)
    omega)
def E22 : D.Env := E21.add 118 fszEntryS
theorem E22ok : EOk Try.prog E22 := E21ok.add k118_21
-- laws.toEntryS
theorem k121_22 : ftoEntryS.ok Try.prog 121 := Fct.of (S := ftoEntryS) (L := fun ⟨l, _⟩ => fun | 3 => some (LtoS .entry l) | _ => none) (kp := [0,2,3,4,11]) E22ok Try.func121 (by kernel_rfl) (by kernel_rfl) (by
  rintro ⟨(l : List SEntry), _⟩ hp
  refine holds_of (X := .ob ((↑l.length : Int) = (↑l.length : Int) ∧
  (0 : Int) ≤ (↑l.length : Int) ∧
    (120 : Int) * (↑l.length : Int) ≤ (140737488355328 : Int) ∧ (↑l.length : Int) ≤ (140737488355328 : Int)) <|
 lpx (LtoS .entry l) ((0 : Int), (List.replicate (↑l.length : Int).toNat default, ())) fun (y2 : Int × List SEntry × PUnit) bk2 =>
 .br (decide (y2.fst < (↑l.length : Int)))
  (.ob ((0 : Int) ≤ y2.fst ∧ y2.fst < (↑l.length : Int)) <|
   .ob (ftoEntry.pre (l.getD y2.fst.toNat default, ())) <|
   .ob ((0 : Int) ≤ y2.fst ∧ y2.fst < (↑y2.snd.fst.length : Int)) <|
   .ob (y2.fst.toNat < y2.snd.fst.length) <|
   .ob (l = l) <|
   .ob (bk2 (IntKind.i64.wrap (y2.fst + (1 : Int)), (y2.snd.fst.modify y2.fst.toNat fun z => l.getD y2.fst.toNat default, ()))) <|
   .ok)
  (.leaf (mkR ftoEntryS.rs (y2.snd.fst, ())) [] [])) (by kernel_rfl) ?_
  refine ob_i ?_ fun o1 => lpx_i ?_ fun (y2 : Int × List SEntry × PUnit) i2 => br_i (fun h3 => ob_i ?_ fun o4 => ob_i ?_ fun o5 => ob_i ?_ fun o6 => ob_i ?_ fun o7 => ob_i rfl fun _ => ob_i ?_ fun o8 => trivial) (fun h3 => Fct.leafY ?_)
  all_goals try simp only [decide_eq_true_eq, decide_eq_false_iff_not, Bool.not_eq_true', Bool.not_eq_false', bne_iff_ne, bne_eq_false_iff_eq, beq_iff_eq, beq_eq_false_iff_ne, baEq, Int.not_lt, Int.not_le, ne_eq, Decidable.not_not] at *
  all_goals try simp only [LtoS, ftoEntry, ftoEntryS, decide_eq_true_eq, decide_eq_false_iff_not, Bool.not_eq_true', Bool.not_eq_false', bne_iff_ne, bne_eq_false_iff_eq, beq_iff_eq, beq_eq_false_iff_ne, Bool.not_eq_true, Bool.not_eq_false, ne_eq, Decidable.not_not, baEq, decide_not, Prod.mk.injEq, and_true, true_and, Room, List.nil_append, Nat.zero_add, Int.not_lt, Int.not_le] at *
  · have := szL_len szEntry l; omega
  · exact ⟨by omega, by omega, by simp⟩
  · omega
  · have hs := sum_take_le szEntry l (y2.1.toNat + 1)
    rw [sum_take szEntry (by omega)] at hs
    simp only [szL] at hp; omega
  · rw [i2.2.2]; simp; omega
  · rw [i2.2.2]; simp; omega
  · have hw : IntKind.i64.wrap (y2.1 + 1) = y2.1 + 1 := wrapId (by have := szL_len szEntry l; omega)
    rw [hw, toNat1 (by omega), i2.2.2]
    refine ⟨⟨by omega, by omega, ?_⟩, by omega⟩
    rw [show l.length - y2.1.toNat = (l.length - (y2.1.toNat + 1)) + 1 from by omega, List.replicate_succ, mod_at (by simp; omega), take_succ (by omega)]
    simp
  · have e : l.take y2.1.toNat = l := List.take_of_length_le (by omega)
    rw [i2.2.2, e]; simp; omega)
def E23 : D.Env := E22.add 121 ftoEntryS
theorem E23ok : EOk Try.prog E23 := E22ok.add k121_22
-- laws.eqEntryS
set_option maxHeartbeats 2000000 in
theorem k124_23 : feqEntryS.ok Try.prog 124 := Fct.of (S := feqEntryS) (L := fun ⟨l, m, _⟩ => fun | 4 => some (LeqS .entry l m) | _ => none) (kp := [0,1,4,5,10,14,26]) E23ok Try.func124 (by kernel_rfl) (by kernel_rfl) (by
  rintro ⟨(l : List SEntry), (m : List SEntry), _⟩ hp
  refine holds_of (X := .br ((↑l.length : Int) != (↑m.length : Int))
 (.leaf (mkR feqEntryS.rs (false, ())) [] [])
 (lpx (LeqS .entry l m) ((0 : Int), ()) fun (y2 : Int × PUnit) bk2 =>
  .br (decide (y2.fst < (↑l.length : Int)))
   (.ob ((0 : Int) ≤ y2.fst ∧ y2.fst < (↑l.length : Int)) <|
    .ob ((0 : Int) ≤ y2.fst ∧ y2.fst < (↑m.length : Int)) <|
    .ob (feqEntry.pre (l.getD y2.fst.toNat default, m.getD y2.fst.toNat default, ())) <|
    .br (!(feqEntry.fn (l.getD y2.fst.toNat default, m.getD y2.fst.toNat default, ())).fst)
    (.leaf (mkR feqEntryS.rs (false, ())) [] [])
    (.ob (l = l) <|
     .ob (m = m) <|
     .ob (Value.bool ((↑l.length : Int) != (↑m.length : Int)) = Value.bool ((↑l.length : Int) != (↑m.length : Int))) <|
     .ob (bk2 (IntKind.i64.wrap (y2.fst + (1 : Int)), ())) <|
     .ok))
   (.leaf (mkR feqEntryS.rs (true, ())) [] []))) (by kernel_rfl) ?_
  refine br_i (fun h1 => Fct.leafY ?_) (fun h1 => lpx_i ?_ fun (y2 : Int × PUnit) i2 => br_i (fun h3 => ob_i ?_ fun o4 => ob_i ?_ fun o5 => ob_i trivial fun _ => br_i (fun h6 => Fct.leafY ?_) (fun h6 => ob_i rfl fun _ => ob_i rfl fun _ => ob_i rfl fun _ => ob_i ?_ fun o7 => trivial)) (fun h3 => Fct.leafY ?_))
  all_goals try simp only [decide_eq_true_eq, decide_eq_false_iff_not, Bool.not_eq_true', Bool.not_eq_false', bne_iff_ne, bne_eq_false_iff_eq, beq_iff_eq, beq_eq_false_iff_ne, baEq, Int.not_lt, Int.not_le, ne_eq, Decidable.not_not] at *
  all_goals try simp only [LeqS, feqEntry, feqEntryS, decide_eq_true_eq, decide_eq_false_iff_not, Bool.not_eq_true', Bool.not_eq_false', bne_iff_ne, bne_eq_false_iff_eq, beq_iff_eq, beq_eq_false_iff_ne, Bool.not_eq_true, Bool.not_eq_false, ne_eq, Decidable.not_not, baEq, decide_not, Prod.mk.injEq, and_true, true_and, Room, List.nil_append, Nat.zero_add, Int.not_lt, Int.not_le] at *
  · rw [decide_eq_false]; rintro rfl; omega
  · exact ⟨by omega, by omega, by simp⟩
  · omega
  · omega
  · rw [decide_eq_false]; rintro rfl; exact absurd rfl h6
  · have hw : IntKind.i64.wrap (y2.1 + 1) = y2.1 + 1 := wrapId (by omega)
    rw [hw, toNat1 (by omega)]
    refine ⟨⟨by omega, by omega, ?_⟩, by omega⟩
    rw [take_succ (by omega), take_succ (by omega), i2.2.2, h6]
  · have e : l.take y2.1.toNat = l := List.take_of_length_le (by omega)
    have e2 : m.take y2.1.toNat = m := List.take_of_length_le (by omega)
    rw [decide_eq_true]; rw [← e, ← e2, i2.2.2])
def E24 : D.Env := E23.add 124 feqEntryS
theorem E24ok : EOk Try.prog E24 := E23ok.add k124_23
-- laws.szCache
set_option maxHeartbeats 2000000 in
theorem k61_24 : fszCache.ok Try.prog 61 := Fct.of (S := fszCache) (L := fun _ _ => none) (kp := [0,1,2,4,10]) E24ok Try.func61 (by kernel_rfl) (by kernel_rfl) (by
  rintro ⟨(x : SCache), (n : Int), _⟩ hp
  refine holds_of (X := .ob (fszEntryS.pre (x.entries, n, ())) <|
 .br (decide ((fszEntryS.fn (x.entries, n, ())).fst < (0 : Int)))
 (.leaf (mkR fszCache.rs ((-1 : Int), ())) [] [])
 (.leaf (mkR fszCache.rs ((fszEntryS.fn (x.entries, n, ())).fst, ())) [] [])) (by kernel_rfl) ?_
  refine ob_i ?_ fun o1 => br_i (fun h2 => Fct.leafY ?_) (fun h2 => Fct.leafY ?_)
  all_goals try simp only [decide_eq_true_eq, decide_eq_false_iff_not, Bool.not_eq_true', Bool.not_eq_false', bne_iff_ne, bne_eq_false_iff_eq, beq_iff_eq, beq_eq_false_iff_ne, baEq, Int.not_lt, Int.not_le, ne_eq, Decidable.not_not] at *
  all_goals try simp only [fszCache, fszEntryS, decide_eq_true_eq, decide_eq_false_iff_not, Bool.not_eq_true', Bool.not_eq_false', bne_iff_ne, bne_eq_false_iff_eq, beq_iff_eq, beq_eq_false_iff_ne, Bool.not_eq_true, Bool.not_eq_false, ne_eq, Decidable.not_not, baEq, decide_not, Prod.mk.injEq, and_true, true_and, Room, List.nil_append, Nat.zero_add, Int.not_lt, Int.not_le, Sh.good, Sh.fc, enc, List.forall_mem_cons, List.not_mem_nil, false_implies, implies_true, goodC, maxLen] at *
  all_goals grind [wrapId', lessen, szCache, szL])
def E25 : D.Env := E24.add 61 fszCache
theorem E25ok : EOk Try.prog E25 := E24ok.add k61_24
-- laws.toCache
theorem k65_25 : ftoCache.ok Try.prog 65 := Fct.of (S := ftoCache) (L := fun _ _ => none) (kp := [0,1,2,3]) E25ok Try.func65 (by kernel_rfl) (by kernel_rfl) (by
  rintro ⟨(x : SCache), _⟩ hp
  refine holds_of (X := .ob (ftoEntryS.pre (x.entries, ())) <|
 .leaf (mkR ftoCache.rs (⟨(ftoEntryS.fn (x.entries, ())).fst⟩, ())) [] []) (by kernel_rfl) ?_
  refine ob_i ?_ fun o1 => Fct.leafY ?_
  all_goals try simp only [decide_eq_true_eq, decide_eq_false_iff_not, Bool.not_eq_true', Bool.not_eq_false', bne_iff_ne, bne_eq_false_iff_eq, beq_iff_eq, beq_eq_false_iff_ne, baEq, Int.not_lt, Int.not_le, ne_eq, Decidable.not_not] at *
  all_goals try simp only [ftoCache, ftoEntryS, decide_eq_true_eq, decide_eq_false_iff_not, Bool.not_eq_true', Bool.not_eq_false', bne_iff_ne, bne_eq_false_iff_eq, beq_iff_eq, beq_eq_false_iff_ne, Bool.not_eq_true, Bool.not_eq_false, ne_eq, Decidable.not_not, baEq, decide_not, Prod.mk.injEq, and_true, true_and, Room, List.nil_append, Nat.zero_add, Int.not_lt, Int.not_le] at *
  all_goals first | trivial | rfl | grind [szCache, szL])
def E26 : D.Env := E25.add 65 ftoCache
theorem E26ok : EOk Try.prog E26 := E25ok.add k65_25
-- laws.eqCache
set_option maxHeartbeats 2000000 in
theorem k69_26 : feqCache.ok Try.prog 69 := Fct.of (S := feqCache) (L := fun _ _ => none) (kp := [0,1,2,3,4,10]) E26ok Try.func69 (by kernel_rfl) (by kernel_rfl) (by
  rintro ⟨(x : SCache), (y : SCache), _⟩ hp
  refine holds_of (X := .ob (feqEntryS.pre (x.entries, y.entries, ())) <|
 .br (!(feqEntryS.fn (x.entries, y.entries, ())).fst)
 (.leaf (mkR feqCache.rs (false, ())) [] [])
 (.leaf (mkR feqCache.rs (true, ())) [] [])) (by kernel_rfl) ?_
  refine ob_i ?_ fun o1 => br_i (fun h2 => Fct.leafY ?_) (fun h2 => Fct.leafY ?_)
  all_goals try simp only [decide_eq_true_eq, decide_eq_false_iff_not, Bool.not_eq_true', Bool.not_eq_false', bne_iff_ne, bne_eq_false_iff_eq, beq_iff_eq, beq_eq_false_iff_ne, baEq, Int.not_lt, Int.not_le, ne_eq, Decidable.not_not] at *
  all_goals try simp only [feqCache, feqEntryS, decide_eq_true_eq, decide_eq_false_iff_not, Bool.not_eq_true', Bool.not_eq_false', bne_iff_ne, bne_eq_false_iff_eq, beq_iff_eq, beq_eq_false_iff_ne, Bool.not_eq_true, Bool.not_eq_false, ne_eq, Decidable.not_not, baEq, decide_not, Prod.mk.injEq, and_true, true_and, Room, List.nil_append, Nat.zero_add, Int.not_lt, Int.not_le] at *
  all_goals first | trivial | (cases x; cases y; simp_all; done) | (simp only [szCache, szL] at *; omega) | grind [szCache, szL])
def E27 : D.Env := E26.add 69 feqCache
theorem E27ok : EOk Try.prog E27 := E26ok.add k69_26
-- laws.szSent
set_option maxHeartbeats 2000000 in
theorem k119_27 : fszSent.ok Try.prog 119 := Fct.of (S := fszSent) (L := fun _ _ => none) (kp := [0,1,2,4,11,17]) E27ok Try.func119 (by kernel_rfl) (by kernel_rfl) (by
  rintro ⟨(x : SSent), (n : Int), _⟩ hp
  refine holds_of (X := .br (decide (IntKind.i64.wrap (n - (↑x.top.size : Int)) < (0 : Int)))
 (.leaf (mkR fszSent.rs ((-1 : Int), ())) [] [])
 (.ob (fszAddr.pre (x.to, IntKind.i64.wrap (n - (↑x.top.size : Int)), ())) <|
  .br (decide ((fszAddr.fn (x.to, IntKind.i64.wrap (n - (↑x.top.size : Int)), ())).fst < (0 : Int)))
  (.leaf (mkR fszSent.rs ((-1 : Int), ())) [] [])
  (.leaf (mkR fszSent.rs ((fszAddr.fn (x.to, IntKind.i64.wrap (n - (↑x.top.size : Int)), ())).fst, ())) [] []))) (by kernel_rfl) ?_
  refine br_i (fun h1 => Fct.leafY ?_) (fun h1 => ob_i ?_ fun o2 => br_i (fun h3 => Fct.leafY ?_) (fun h3 => Fct.leafY ?_))
  all_goals try simp only [decide_eq_true_eq, decide_eq_false_iff_not, Bool.not_eq_true', Bool.not_eq_false', bne_iff_ne, bne_eq_false_iff_eq, beq_iff_eq, beq_eq_false_iff_ne, baEq, Int.not_lt, Int.not_le, ne_eq, Decidable.not_not] at *
  all_goals try simp only [fszAddr, fszSent, decide_eq_true_eq, decide_eq_false_iff_not, Bool.not_eq_true', Bool.not_eq_false', bne_iff_ne, bne_eq_false_iff_eq, beq_iff_eq, beq_eq_false_iff_ne, Bool.not_eq_true, Bool.not_eq_false, ne_eq, Decidable.not_not, baEq, decide_not, Prod.mk.injEq, and_true, true_and, Room, List.nil_append, Nat.zero_add, Int.not_lt, Int.not_le, Sh.good, Sh.fc, enc, List.forall_mem_cons, List.not_mem_nil, false_implies, implies_true, goodC, maxLen] at *
  all_goals grind [wrapId', lessen, szAddr, szSent])
def E28 : D.Env := E27.add 119 fszSent
theorem E28ok : EOk Try.prog E28 := E27ok.add k119_27
-- laws.toSent
theorem k122_28 : ftoSent.ok Try.prog 122 := Fct.of (S := ftoSent) (L := fun _ _ => none) (kp := [0,1,2,3]) E28ok Try.func122 (by kernel_rfl) (by kernel_rfl) (by
  rintro ⟨(x : SSent), _⟩ hp
  refine holds_of (X := .ob (ftoAddr.pre (x.to, ())) <|
 .leaf (mkR ftoSent.rs (x, ())) [] []) (by kernel_rfl) ?_
  refine ob_i ?_ fun o1 => Fct.leafY ?_
  all_goals try simp only [decide_eq_true_eq, decide_eq_false_iff_not, Bool.not_eq_true', Bool.not_eq_false', bne_iff_ne, bne_eq_false_iff_eq, beq_iff_eq, beq_eq_false_iff_ne, baEq, Int.not_lt, Int.not_le, ne_eq, Decidable.not_not] at *
  all_goals try simp only [ftoAddr, ftoSent, decide_eq_true_eq, decide_eq_false_iff_not, Bool.not_eq_true', Bool.not_eq_false', bne_iff_ne, bne_eq_false_iff_eq, beq_iff_eq, beq_eq_false_iff_ne, Bool.not_eq_true, Bool.not_eq_false, ne_eq, Decidable.not_not, baEq, decide_not, Prod.mk.injEq, and_true, true_and, Room, List.nil_append, Nat.zero_add, Int.not_lt, Int.not_le] at *
  all_goals first | trivial | rfl | grind [szAddr, szSent])
def E29 : D.Env := E28.add 122 ftoSent
theorem E29ok : EOk Try.prog E29 := E28ok.add k122_28
-- laws.eqSent
set_option maxHeartbeats 2000000 in
theorem k125_29 : feqSent.ok Try.prog 125 := Fct.of (S := feqSent) (L := fun _ _ => none) (kp := [0,1,2,3,4,9,15,20]) E29ok Try.func125 (by kernel_rfl) (by kernel_rfl) (by
  rintro ⟨(x : SSent), (y : SSent), _⟩ hp
  refine holds_of (X := .br (!x.top.toList == y.top.toList)
 (.leaf (mkR feqSent.rs (false, ())) [] [])
 (.ob (feqAddr.pre (x.to, y.to, ())) <|
  .br (!(feqAddr.fn (x.to, y.to, ())).fst)
  (.leaf (mkR feqSent.rs (false, ())) [] [])
  (.br (!x.guess == y.guess)
   (.leaf (mkR feqSent.rs (false, ())) [] [])
   (.leaf (mkR feqSent.rs (true, ())) [] [])))) (by kernel_rfl) ?_
  refine br_i (fun h1 => Fct.leafY ?_) (fun h1 => ob_i trivial fun _ => br_i (fun h2 => Fct.leafY ?_) (fun h2 => br_i (fun h3 => Fct.leafY ?_) (fun h3 => Fct.leafY ?_)))
  all_goals try simp only [decide_eq_true_eq, decide_eq_false_iff_not, Bool.not_eq_true', Bool.not_eq_false', bne_iff_ne, bne_eq_false_iff_eq, beq_iff_eq, beq_eq_false_iff_ne, baEq, Int.not_lt, Int.not_le, ne_eq, Decidable.not_not] at *
  all_goals try simp only [feqAddr, feqSent, decide_eq_true_eq, decide_eq_false_iff_not, Bool.not_eq_true', Bool.not_eq_false', bne_iff_ne, bne_eq_false_iff_eq, beq_iff_eq, beq_eq_false_iff_ne, Bool.not_eq_true, Bool.not_eq_false, ne_eq, Decidable.not_not, baEq, decide_not, Prod.mk.injEq, and_true, true_and, Room, List.nil_append, Nat.zero_add, Int.not_lt, Int.not_le] at *
  all_goals first | trivial | (cases x; cases y; simp_all; done) | (simp only [szAddr, szSent] at *; omega) | grind [szAddr, szSent])
def E30 : D.Env := E29.add 125 feqSent
theorem E30ok : EOk Try.prog E30 := E29ok.add k125_29
-- laws.szSentS
set_option maxHeartbeats 2000000 in
theorem k62_30 : fszSentS.ok Try.prog 62 := Fct.of (S := fszSentS) (L := fun ⟨l, n, _⟩ => fun | 5 => some (LszS .sent szSent l n) | _ => none) (kp := [0,1,4,5,11,15,25]) E30ok Try.func62 (by kernel_rfl) (by kernel_rfl) (by
  rintro ⟨(l : List SSent), (n : Int), _⟩ hp
  refine holds_of (X := .br (decide (IntKind.i64.wrap (n - (↑l.length : Int)) < (0 : Int)))
 (.leaf (mkR fszSentS.rs ((-1 : Int), ())) [] [])
 (lpx (LszS .sent szSent l n) (IntKind.i64.wrap (n - (↑l.length : Int)), ((0 : Int), ())) fun (y2 : Int × Int × PUnit) bk2 =>
  .br (decide (y2.snd.fst < (↑l.length : Int)))
   (.ob ((0 : Int) ≤ y2.snd.fst ∧ y2.snd.fst < (↑l.length : Int)) <|
    .ob (fszSent.pre (l.getD y2.snd.fst.toNat default, y2.fst, ())) <|
    .br (decide ((fszSent.fn (l.getD y2.snd.fst.toNat default, y2.fst, ())).fst < (0 : Int)))
    (.leaf (mkR fszSentS.rs ((-1 : Int), ())) [] [])
    (.ob (l = l) <|
     .ob (Value.bool (decide (IntKind.i64.wrap (n - (↑l.length : Int)) < (0 : Int))) =
  Value.bool (decide (IntKind.i64.wrap (n - (↑l.length : Int)) < (0 : Int)))) <|
     .ob (bk2 ((fszSent.fn (l.getD y2.snd.fst.toNat default, y2.fst, ())).fst, (IntKind.i64.wrap (y2.snd.fst + (1 : Int)), ()))) <|
     .ok))
   (.leaf (mkR fszSentS.rs (y2.fst, ())) [] []))) (by kernel_rfl) ?_
  refine br_i (fun h1 => Fct.leafY ?_) (fun h1 => lpx_i ?_ fun (y2 : Int × Int × PUnit) i2 => br_i (fun h3 => ob_i ?_ fun o4 => ob_i ?_ fun o5 => br_i (fun h6 => Fct.leafY ?_) (fun h6 => ob_i rfl fun _ => ob_i rfl fun _ => ob_i ?_ fun o7 => trivial)) (fun h3 => Fct.leafY ?_))
  all_goals try simp only [decide_eq_true_eq, decide_eq_false_iff_not, Bool.not_eq_true', Bool.not_eq_false', bne_iff_ne, bne_eq_false_iff_eq, beq_iff_eq, beq_eq_false_iff_ne, baEq, Int.not_lt, Int.not_le, ne_eq, Decidable.not_not] at *
  all_goals try simp only [LszS, fszSent, fszSentS, decide_eq_true_eq, decide_eq_false_iff_not, Bool.not_eq_true', Bool.not_eq_false', bne_iff_ne, bne_eq_false_iff_eq, beq_iff_eq, beq_eq_false_iff_ne, Bool.not_eq_true, Bool.not_eq_false, ne_eq, Decidable.not_not, baEq, decide_not, Prod.mk.injEq, and_true, true_and, Room, List.nil_append, Nat.zero_add, Int.not_lt, Int.not_le] at *
  · have := good_len hp.1; simp only [maxLen] at this; rw [wrapId (by omega)] at h1
    rw [lessenNeg (by simp only [szL]; omega)]
  · have := good_len hp.1; simp only [maxLen] at this
    rw [wrapId (by omega)] at h1 ⊢
    exact ⟨by omega, by omega, h1, by simp⟩
  · omega
  · exact ⟨good_getD hp.1 (by omega), by omega, by omega⟩
  · have hs := sum_take_le szSent l (y2.2.1.toNat + 1)
    rw [sum_take szSent (by omega)] at hs
    rw [lessen_lt (by omega)] at h6
    rw [lessenNeg (by simp only [szL]; omega)]
  · have hw : IntKind.i64.wrap (y2.2.1 + 1) = y2.2.1 + 1 := wrapId (by have := good_len hp.1; simp only [maxLen] at this; omega)
    have h7 : ¬ lessen y2.1 (szSent (l.getD y2.2.1.toNat default)) < 0 := by omega
    rw [lessen_lt (by omega)] at h7
    rw [hw, toNat1 (by omega), sum_take szSent (by omega), lessen_ge (by omega)]
    exact ⟨⟨by omega, by omega, by omega, by omega⟩, by omega⟩
  · have e : l.take y2.2.1.toNat = l := List.take_of_length_le (by omega)
    rw [e] at i2
    have hz : ((szL szSent l : Nat) : Int) = l.length + (l.map szSent).sum := by simp only [szL]; omega
    rw [lessen_ge (by omega)]
    show y2.1 = n - ((szL szSent l : Nat) : Int)
    omega)
def E31 : D.Env := E30.add 62 fszSentS
theorem E31ok : EOk Try.prog E31 := E30ok.add k62_30
-- laws.toSentS
theorem k66_31 : ftoSentS.ok Try.prog 66 := Fct.of (S := ftoSentS) (L := fun ⟨l, _⟩ => fun | 3 => some (LtoS .sent l) | _ => none) (kp := [0,2,3,4,11]) E31ok Try.func66 (by kernel_rfl) (by kernel_rfl) (by
  rintro ⟨(l : List SSent), _⟩ hp
  refine holds_of (X := .ob ((↑l.length : Int) = (↑l.length : Int) ∧
  (0 : Int) ≤ (↑l.length : Int) ∧
    (56 : Int) * (↑l.length : Int) ≤ (140737488355328 : Int) ∧ (↑l.length : Int) ≤ (140737488355328 : Int)) <|
 lpx (LtoS .sent l) ((0 : Int), (List.replicate (↑l.length : Int).toNat default, ())) fun (y2 : Int × List SSent × PUnit) bk2 =>
 .br (decide (y2.fst < (↑l.length : Int)))
  (.ob ((0 : Int) ≤ y2.fst ∧ y2.fst < (↑l.length : Int)) <|
   .ob (ftoSent.pre (l.getD y2.fst.toNat default, ())) <|
   .ob ((0 : Int) ≤ y2.fst ∧ y2.fst < (↑y2.snd.fst.length : Int)) <|
   .ob (y2.fst.toNat < y2.snd.fst.length) <|
   .ob (l = l) <|
   .ob (bk2 (IntKind.i64.wrap (y2.fst + (1 : Int)), (y2.snd.fst.modify y2.fst.toNat fun z => l.getD y2.fst.toNat default, ()))) <|
   .ok)
  (.leaf (mkR ftoSentS.rs (y2.snd.fst, ())) [] [])) (by kernel_rfl) ?_
  refine ob_i ?_ fun o1 => lpx_i ?_ fun (y2 : Int × List SSent × PUnit) i2 => br_i (fun h3 => ob_i ?_ fun o4 => ob_i ?_ fun o5 => ob_i ?_ fun o6 => ob_i ?_ fun o7 => ob_i rfl fun _ => ob_i ?_ fun o8 => trivial) (fun h3 => Fct.leafY ?_)
  all_goals try simp only [decide_eq_true_eq, decide_eq_false_iff_not, Bool.not_eq_true', Bool.not_eq_false', bne_iff_ne, bne_eq_false_iff_eq, beq_iff_eq, beq_eq_false_iff_ne, baEq, Int.not_lt, Int.not_le, ne_eq, Decidable.not_not] at *
  all_goals try simp only [LtoS, ftoSent, ftoSentS, decide_eq_true_eq, decide_eq_false_iff_not, Bool.not_eq_true', Bool.not_eq_false', bne_iff_ne, bne_eq_false_iff_eq, beq_iff_eq, beq_eq_false_iff_ne, Bool.not_eq_true, Bool.not_eq_false, ne_eq, Decidable.not_not, baEq, decide_not, Prod.mk.injEq, and_true, true_and, Room, List.nil_append, Nat.zero_add, Int.not_lt, Int.not_le] at *
  · have := szL_len szSent l; omega
  · exact ⟨by omega, by omega, by simp⟩
  · omega
  · have hs := sum_take_le szSent l (y2.1.toNat + 1)
    rw [sum_take szSent (by omega)] at hs
    simp only [szL] at hp; omega
  · rw [i2.2.2]; simp; omega
  · rw [i2.2.2]; simp; omega
  · have hw : IntKind.i64.wrap (y2.1 + 1) = y2.1 + 1 := wrapId (by have := szL_len szSent l; omega)
    rw [hw, toNat1 (by omega), i2.2.2]
    refine ⟨⟨by omega, by omega, ?_⟩, by omega⟩
    rw [show l.length - y2.1.toNat = (l.length - (y2.1.toNat + 1)) + 1 from by omega, List.replicate_succ, mod_at (by simp; omega), take_succ (by omega)]
    simp
  · have e : l.take y2.1.toNat = l := List.take_of_length_le (by omega)
    rw [i2.2.2, e]; simp; omega)
def E32 : D.Env := E31.add 66 ftoSentS
theorem E32ok : EOk Try.prog E32 := E31ok.add k66_31
-- laws.eqSentS
set_option maxHeartbeats 2000000 in
theorem k70_32 : feqSentS.ok Try.prog 70 := Fct.of (S := feqSentS) (L := fun ⟨l, m, _⟩ => fun | 4 => some (LeqS .sent l m) | _ => none) (kp := [0,1,4,5,10,14,26]) E32ok Try.func70 (by kernel_rfl) (by kernel_rfl) (by
  rintro ⟨(l : List SSent), (m : List SSent), _⟩ hp
  refine holds_of (X := .br ((↑l.length : Int) != (↑m.length : Int))
 (.leaf (mkR feqSentS.rs (false, ())) [] [])
 (lpx (LeqS .sent l m) ((0 : Int), ()) fun (y2 : Int × PUnit) bk2 =>
  .br (decide (y2.fst < (↑l.length : Int)))
   (.ob ((0 : Int) ≤ y2.fst ∧ y2.fst < (↑l.length : Int)) <|
    .ob ((0 : Int) ≤ y2.fst ∧ y2.fst < (↑m.length : Int)) <|
    .ob (feqSent.pre (l.getD y2.fst.toNat default, m.getD y2.fst.toNat default, ())) <|
    .br (!(feqSent.fn (l.getD y2.fst.toNat default, m.getD y2.fst.toNat default, ())).fst)
    (.leaf (mkR feqSentS.rs (false, ())) [] [])
    (.ob (l = l) <|
     .ob (m = m) <|
     .ob (Value.bool ((↑l.length : Int) != (↑m.length : Int)) = Value.bool ((↑l.length : Int) != (↑m.length : Int))) <|
     .ob (bk2 (IntKind.i64.wrap (y2.fst + (1 : Int)), ())) <|
     .ok))
   (.leaf (mkR feqSentS.rs (true, ())) [] []))) (by kernel_rfl) ?_
  refine br_i (fun h1 => Fct.leafY ?_) (fun h1 => lpx_i ?_ fun (y2 : Int × PUnit) i2 => br_i (fun h3 => ob_i ?_ fun o4 => ob_i ?_ fun o5 => ob_i trivial fun _ => br_i (fun h6 => Fct.leafY ?_) (fun h6 => ob_i rfl fun _ => ob_i rfl fun _ => ob_i rfl fun _ => ob_i ?_ fun o7 => trivial)) (fun h3 => Fct.leafY ?_))
  all_goals try simp only [decide_eq_true_eq, decide_eq_false_iff_not, Bool.not_eq_true', Bool.not_eq_false', bne_iff_ne, bne_eq_false_iff_eq, beq_iff_eq, beq_eq_false_iff_ne, baEq, Int.not_lt, Int.not_le, ne_eq, Decidable.not_not] at *
  all_goals try simp only [LeqS, feqSent, feqSentS, decide_eq_true_eq, decide_eq_false_iff_not, Bool.not_eq_true', Bool.not_eq_false', bne_iff_ne, bne_eq_false_iff_eq, beq_iff_eq, beq_eq_false_iff_ne, Bool.not_eq_true, Bool.not_eq_false, ne_eq, Decidable.not_not, baEq, decide_not, Prod.mk.injEq, and_true, true_and, Room, List.nil_append, Nat.zero_add, Int.not_lt, Int.not_le] at *
  · rw [decide_eq_false]; rintro rfl; omega
  · exact ⟨by omega, by omega, by simp⟩
  · omega
  · omega
  · rw [decide_eq_false]; rintro rfl; exact absurd rfl h6
  · have hw : IntKind.i64.wrap (y2.1 + 1) = y2.1 + 1 := wrapId (by omega)
    rw [hw, toNat1 (by omega)]
    refine ⟨⟨by omega, by omega, ?_⟩, by omega⟩
    rw [take_succ (by omega), take_succ (by omega), i2.2.2, h6]
  · have e : l.take y2.1.toNat = l := List.take_of_length_le (by omega)
    have e2 : m.take y2.1.toNat = m := List.take_of_length_le (by omega)
    rw [decide_eq_true]; rw [← e, ← e2, i2.2.2])
def E33 : D.Env := E32.add 70 feqSentS
theorem E33ok : EOk Try.prog E33 := E32ok.add k70_32
-- laws.szNet
set_option maxHeartbeats 2000000 in
theorem k15_33 : fszNet.ok Try.prog 15 := Fct.of (S := fszNet) (L := fun _ _ => none) (kp := [0,1,2,4,10,16,22]) E33ok Try.func15 (by kernel_rfl) (by kernel_rfl) (by
  rintro ⟨(x : SNet), (n : Int), _⟩ hp
  refine holds_of (X := .ob (fszServerS.pre (x.servers, n, ())) <|
 .br (decide ((fszServerS.fn (x.servers, n, ())).fst < (0 : Int)))
 (.leaf (mkR fszNet.rs ((-1 : Int), ())) [] [])
 (.ob (fszCache.pre (x.cache, (fszServerS.fn (x.servers, n, ())).fst, ())) <|
  .br (decide ((fszCache.fn (x.cache, (fszServerS.fn (x.servers, n, ())).fst, ())).fst < (0 : Int)))
  (.leaf (mkR fszNet.rs ((-1 : Int), ())) [] [])
  (.ob (fszSentS.pre (x.log, (fszCache.fn (x.cache, (fszServerS.fn (x.servers, n, ())).fst, ())).fst, ())) <|
   .br (decide
  ((fszSentS.fn (x.log, (fszCache.fn (x.cache, (fszServerS.fn (x.servers, n, ())).fst, ())).fst, ())).fst < (0 : Int)))
   (.leaf (mkR fszNet.rs ((-1 : Int), ())) [] [])
   (.leaf (mkR fszNet.rs ((fszSentS.fn (x.log, (fszCache.fn (x.cache, (fszServerS.fn (x.servers, n, ())).fst, ())).fst, ())).fst, ())) [] [])))) (by kernel_rfl) ?_
  refine ob_i ?_ fun o1 => br_i (fun h2 => Fct.leafY ?_) (fun h2 => ob_i ?_ fun o3 => br_i (fun h4 => Fct.leafY ?_) (fun h4 => ob_i ?_ fun o5 => br_i (fun h6 => Fct.leafY ?_) (fun h6 => Fct.leafY ?_)))
  all_goals try simp only [decide_eq_true_eq, decide_eq_false_iff_not, Bool.not_eq_true', Bool.not_eq_false', bne_iff_ne, bne_eq_false_iff_eq, beq_iff_eq, beq_eq_false_iff_ne, baEq, Int.not_lt, Int.not_le, ne_eq, Decidable.not_not] at *
  all_goals try simp only [fszCache, fszNet, fszSentS, fszServerS, decide_eq_true_eq, decide_eq_false_iff_not, Bool.not_eq_true', Bool.not_eq_false', bne_iff_ne, bne_eq_false_iff_eq, beq_iff_eq, beq_eq_false_iff_ne, Bool.not_eq_true, Bool.not_eq_false, ne_eq, Decidable.not_not, baEq, decide_not, Prod.mk.injEq, and_true, true_and, Room, List.nil_append, Nat.zero_add, Int.not_lt, Int.not_le, Sh.good, Sh.fc, enc, List.forall_mem_cons, List.not_mem_nil, false_implies, implies_true, goodC, maxLen] at *
  all_goals grind [wrapId', lessen, szCache, szL, szNet])
def E34 : D.Env := E33.add 15 fszNet
theorem E34ok : EOk Try.prog E34 := E33ok.add k15_33
-- laws.toNet
theorem k17_34 : ftoNet.ok Try.prog 17 := Fct.of (S := ftoNet) (L := fun _ _ => none) (kp := [0,1,2,3]) E34ok Try.func17 (by kernel_rfl) (by kernel_rfl) (by
  rintro ⟨(x : SNet), _⟩ hp
  refine holds_of (X := .ob (ftoServerS.pre (x.servers, ())) <|
 .ob (ftoCache.pre (x.cache, ())) <|
 .ob (ftoSentS.pre (x.log, ())) <|
 .leaf (mkR ftoNet.rs (⟨(ftoServerS.fn (x.servers, ())).fst, x.cache, (ftoSentS.fn (x.log, ())).fst, x.now⟩, ())) [] []) (by kernel_rfl) ?_
  refine ob_i ?_ fun o1 => ob_i ?_ fun o2 => ob_i ?_ fun o3 => Fct.leafY ?_
  all_goals try simp only [decide_eq_true_eq, decide_eq_false_iff_not, Bool.not_eq_true', Bool.not_eq_false', bne_iff_ne, bne_eq_false_iff_eq, beq_iff_eq, beq_eq_false_iff_ne, baEq, Int.not_lt, Int.not_le, ne_eq, Decidable.not_not] at *
  all_goals try simp only [ftoCache, ftoNet, ftoSentS, ftoServerS, decide_eq_true_eq, decide_eq_false_iff_not, Bool.not_eq_true', Bool.not_eq_false', bne_iff_ne, bne_eq_false_iff_eq, beq_iff_eq, beq_eq_false_iff_ne, Bool.not_eq_true, Bool.not_eq_false, ne_eq, Decidable.not_not, baEq, decide_not, Prod.mk.injEq, and_true, true_and, Room, List.nil_append, Nat.zero_add, Int.not_lt, Int.not_le] at *
  all_goals first | trivial | rfl | grind [szCache, szL, szNet])
def E35 : D.Env := E34.add 17 ftoNet
theorem E35ok : EOk Try.prog E35 := E34ok.add k17_34
-- laws.eqNet
set_option maxHeartbeats 2000000 in
theorem k19_35 : feqNet.ok Try.prog 19 := Fct.of (S := feqNet) (L := fun _ _ => none) (kp := [0,1,2,3,4,10,16,22,27]) E35ok Try.func19 (by kernel_rfl) (by kernel_rfl) (by
  rintro ⟨(x : SNet), (y : SNet), _⟩ hp
  refine holds_of (X := .ob (feqServerS.pre (x.servers, y.servers, ())) <|
 .br (!(feqServerS.fn (x.servers, y.servers, ())).fst)
 (.leaf (mkR feqNet.rs (false, ())) [] [])
 (.ob (feqCache.pre (x.cache, y.cache, ())) <|
  .br (!(feqCache.fn (x.cache, y.cache, ())).fst)
  (.leaf (mkR feqNet.rs (false, ())) [] [])
  (.ob (feqSentS.pre (x.log, y.log, ())) <|
   .br (!(feqSentS.fn (x.log, y.log, ())).fst)
   (.leaf (mkR feqNet.rs (false, ())) [] [])
   (.br (x.now != y.now)
    (.leaf (mkR feqNet.rs (false, ())) [] [])
    (.leaf (mkR feqNet.rs (true, ())) [] []))))) (by kernel_rfl) ?_
  refine ob_i ?_ fun o1 => br_i (fun h2 => Fct.leafY ?_) (fun h2 => ob_i ?_ fun o3 => br_i (fun h4 => Fct.leafY ?_) (fun h4 => ob_i ?_ fun o5 => br_i (fun h6 => Fct.leafY ?_) (fun h6 => br_i (fun h7 => Fct.leafY ?_) (fun h7 => Fct.leafY ?_))))
  all_goals try simp only [decide_eq_true_eq, decide_eq_false_iff_not, Bool.not_eq_true', Bool.not_eq_false', bne_iff_ne, bne_eq_false_iff_eq, beq_iff_eq, beq_eq_false_iff_ne, baEq, Int.not_lt, Int.not_le, ne_eq, Decidable.not_not] at *
  all_goals try simp only [feqCache, feqNet, feqSentS, feqServerS, decide_eq_true_eq, decide_eq_false_iff_not, Bool.not_eq_true', Bool.not_eq_false', bne_iff_ne, bne_eq_false_iff_eq, beq_iff_eq, beq_eq_false_iff_ne, Bool.not_eq_true, Bool.not_eq_false, ne_eq, Decidable.not_not, baEq, decide_not, Prod.mk.injEq, and_true, true_and, Room, List.nil_append, Nat.zero_add, Int.not_lt, Int.not_le] at *
  all_goals first | trivial | (cases x; cases y; simp_all; done) | (simp only [szCache, szL, szNet] at *; omega) | grind [szCache, szL, szNet])
def E36 : D.Env := E35.add 19 feqNet
theorem E36ok : EOk Try.prog E36 := E35ok.add k19_35
def isOwnGuess (s : SSent) : Bool := !s.guess || decide (s.to.host = s.top)
def fIsOwnGuess : Fct := ⟨[aE .sent], [rB], fun _ => True, fun x => (isOwnGuess x.1, ())⟩
def lSent : Fct := lawFS [.el .sent]
def countGuess : List SConn → Nat
  | [] => 0
  | c :: l => countGuess l + (if c.guess then 1 else 0)
theorem countGuess_app (l : List SConn) (c : SConn) : countGuess (l ++ [c]) = countGuess l + (if c.guess then 1 else 0) := by
  induction l with
  | nil => simp [countGuess]
  | cons d l ih => simp only [List.cons_append, countGuess, ih]; omega
theorem countGuess_take {l : List SConn} {i : Nat} (h : i < l.length) : countGuess (l.take (i + 1)) = countGuess (l.take i) + (if (l.getD i default).guess then 1 else 0) := by rw [take_succ h, countGuess_app]
theorem countGuess_le (l : List SConn) : countGuess l ≤ l.length := by
  induction l with
  | nil => simp [countGuess]
  | cons d l ih => simp only [countGuess, List.length_cons]; split <;> omega
def fCount : Fct := ⟨[aL .conn], [rI], fun x => Sh.good (.sl .conn) x.1, fun x => ((countGuess x.1 : Int), ())⟩
abbrev Lcount (n i : Nat) (l : List SConn) : LInv := ⟨[⟨.s, n, true, .el .int⟩, ⟨.s, i, true, .el .int⟩], fun _ (x : Int × Int × Unit) => 0 ≤ x.2.1 ∧ x.2.1 ≤ l.length ∧ x.1 = countGuess (l.take x.2.1.toNat), fun (x : Int × Int × Unit) => l.length - x.2.1.toNat⟩
def findConn (a : SAddr) : List SConn → Int → Int
  | [], _ => -1
  | c :: l, i => if c.to = a then i else findConn a l (i + 1)
theorem findConn_at {a : SAddr} {l : List SConn} {i : Nat} {z : Int} (h : i < l.length) : findConn a (l.drop i) z = if (l.getD i default).to = a then z else findConn a (l.drop (i + 1)) (z + 1) := by rw [drop_cons h]; rfl
theorem findConn_end {a : SAddr} {l : List SConn} {i : Nat} {z : Int} (h : l.length ≤ i) : findConn a (l.drop i) z = -1 := by rw [List.drop_of_length_le h]; rfl
theorem addrEq (x y : SAddr) : (x.host == y.host && (x.path == y.path && true)) = decide (x = y) := beqAddr x y
def fFind : Fct := ⟨[aL .conn, aE .addr], [rI], fun x => Sh.good (.sl .conn) x.1, fun x => (findConn x.2.1 x.1 0, ())⟩
abbrev Lfind (l : List SConn) (a : SAddr) : LInv := ⟨[⟨.s, 5, true, .el .int⟩, ⟨.b, 3, true, .el .addr⟩], fun _ (x : Int × SAddr × Unit) => 0 ≤ x.1 ∧ x.1 ≤ l.length ∧ x.2.1 = a ∧ findConn a l 0 = findConn a (l.drop x.1.toNat) x.1, fun (x : Int × SAddr × Unit) => l.length - x.1.toNat⟩
def fFind1 : Fct := ⟨[aE .conn, .p (.el .addr)], [rB], fun _ => True, fun x => (decide (x.1.to = x.2.1), ())⟩
def fIdxFind : Fct := ⟨[aL .conn, .c 0 [.el .addr]], [rI], fun x => Sh.good (.sl .conn) x.1, fun x => (findConn x.2.1.1 x.1 0, ())⟩
abbrev Lidx (l : List SConn) (F : List SConn → Int → Int) : LInv := ⟨[⟨.s, 8, true, .el .int⟩], fun _ (x : Int × Unit) => 0 ≤ x.1 ∧ x.1 ≤ l.length ∧ F l 0 = F (l.drop x.1.toNat) x.1, fun (x : Int × Unit) => l.length - x.1.toNat⟩
abbrev Lidxf (l : List SConn) (a : SAddr × Unit) : LInv := Lidx l (findConn a.1)
def firstDone : List SConn → Int → Int
  | [], _ => -1
  | c :: l, i => if c.left ≤ 0 then i else firstDone l (i + 1)
theorem firstDone_at {l : List SConn} {i : Nat} {z : Int} (h : i < l.length) : firstDone (l.drop i) z = if (l.getD i default).left ≤ 0 then z else firstDone (l.drop (i + 1)) (z + 1) := by rw [drop_cons h]; rfl
theorem firstDone_end {l : List SConn} {i : Nat} {z : Int} (h : l.length ≤ i) : firstDone (l.drop i) z = -1 := by rw [List.drop_of_length_le h]; rfl
def fFirst : Fct := ⟨[aL .conn], [rI], fun x => Sh.good (.sl .conn) x.1, fun x => (firstDone x.1 0, ())⟩
abbrev Lfirst (l : List SConn) : LInv := ⟨[⟨.s, 3, true, .el .int⟩], fun _ (x : Int × Unit) => 0 ≤ x.1 ∧ x.1 ≤ l.length ∧ firstDone l 0 = firstDone (l.drop x.1.toNat) x.1, fun (x : Int × Unit) => l.length - x.1.toNat⟩
def fFirst1 : Fct := ⟨[aE .conn], [rB], fun _ => True, fun x => (decide (x.1.left ≤ 0), ())⟩
def fIdxFirst : Fct := ⟨[aL .conn, .c 0 []], [rI], fun x => Sh.good (.sl .conn) x.1, fun x => (firstDone x.1 0, ())⟩
def lConnS : Fct := lawFS [.sl .conn]
def lConnSAddr : Fct := lawFS [.sl .conn, .el .addr]
def inRange (n lo hi : Int) : Bool := decide (lo ≤ n) && decide (n ≤ hi)
def fInRange : Fct := ⟨[aI, aI, aI], [rB], fun _ => True, fun (x : Int × Int × Int × Unit) => (inRange x.1 x.2.1 x.2.2.1, ())⟩
def fMax : Fct := ⟨[aI, aI], [rI], fun _ => True, fun (x : Int × Int × Unit) => (max x.1 x.2.1, ())⟩
-- spec.Max
theorem k63_36 : fMax.ok Try.prog 63 := Fct.of (S := fMax) (L := fun _ _ => none) (kp := [0,1,4,7]) E36ok Try.func63 (by kernel_rfl) (by kernel_rfl) (by
  rintro ⟨(a : Int), (b : Int), _⟩ hp
  refine holds_of (X := .br (decide (b > a))
 (.leaf (mkR fMax.rs (b, ())) [] [])
 (.leaf (mkR fMax.rs (a, ())) [] [])) (by kernel_rfl) ?_
  refine br_i (fun h1 => Fct.leafY ?_) (fun h1 => Fct.leafY ?_)
  all_goals try simp only [decide_eq_true_eq, decide_eq_false_iff_not, Bool.not_eq_true', Bool.not_eq_false', bne_iff_ne, bne_eq_false_iff_eq, beq_iff_eq, beq_eq_false_iff_ne, baEq, Int.not_lt, Int.not_le, ne_eq, Decidable.not_not] at *
  all_goals try simp only [fMax, decide_eq_true_eq, decide_eq_false_iff_not, Bool.not_eq_true', Bool.not_eq_false', bne_iff_ne, bne_eq_false_iff_eq, beq_iff_eq, beq_eq_false_iff_ne, Bool.not_eq_true, Bool.not_eq_false, ne_eq, Decidable.not_not, baEq, decide_not, Prod.mk.injEq, and_true, true_and, Room, List.nil_append, Nat.zero_add, Int.not_lt, Int.not_le] at *
  all_goals first | trivial | omega | (simp_all; done) | (simp_all; omega) | grind)
def E37 : D.Env := E36.add 63 fMax
theorem E37ok : EOk Try.prog E37 := E36ok.add k63_36
def fCopyConns : Fct := ⟨[aL .conn], [rL .conn], fun (x : List SConn × Unit) => x.1.length ≤ 1048576, fun (x : List SConn × Unit) => (x.1, ())⟩
def moveOne (b : Int) (c : SConn) : SConn := { c with left := max 0 (IntKind.i64.wrap (c.left - b)) }
def moveConns (l : List SConn) (b : Int) : List SConn := if inRange b 0 1000 then l.map (moveOne b) else l
def fMove : Fct := ⟨[aL .conn, aI], [rL .conn], fun (x : List SConn × Int × Unit) => x.1.length ≤ 1048576, fun (x : List SConn × Int × Unit) => (moveConns x.1 x.2.1, ())⟩
abbrev L45 (l : List SConn) (b : Int) : LInv := ⟨[⟨.s, 6, true, .el .int⟩, ⟨.s, 5, true, .sl .conn⟩], fun _ (x : Int × List SConn × Unit) => 0 ≤ x.1 ∧ x.1 ≤ l.length ∧ x.2.1 = moveConns (l.take x.1.toNat) b ++ l.drop x.1.toNat, fun (x : Int × List SConn × Unit) => l.length - x.1.toNat⟩
theorem moveConns_len (l : List SConn) (b : Int) : (moveConns l b).length = l.length := by unfold moveConns; split <;> simp
theorem moveConns_nil (b : Int) : moveConns [] b = [] := by unfold moveConns; split <;> rfl
theorem moveConns_step {l : List SConn} {b : Int} {i : Nat} (hb : inRange b 0 1000 = true) (h : i < l.length) {g : SConn → SConn} (hg : g (l.getD i default) = moveOne b (l.getD i default)) : (moveConns (l.take i) b ++ l.drop i).modify i g = moveConns (l.take (i + 1)) b ++ l.drop (i + 1) := by
  rw [drop_cons h, mod_at (by rw [moveConns_len, List.length_take]; omega), take_succ h]
  simp only [moveConns, hb, if_true, List.map_append, List.map_cons, List.map_nil, List.append_assoc, List.cons_append, List.nil_append, hg]
theorem moveConns_out {l : List SConn} {b : Int} {i : Nat} (hb : inRange b 0 1000 = false) : moveConns (l.take i) b ++ l.drop i = moveConns l b := by
  simp [moveConns, hb]
abbrev L46 (l : List SConn) (b : Int) : LInv := ⟨[⟨.s, 15, true, .el .int⟩, ⟨.s, 5, true, .sl .conn⟩], fun _ (x : Int × List SConn × Unit) => 0 ≤ x.1 ∧ x.1 ≤ l.length ∧ x.2.1 = moveConns (l.take x.1.toNat) b ++ l.drop x.1.toNat, fun (x : Int × List SConn × Unit) => l.length - x.1.toNat⟩
def lMove : Fct := lawFS [.sl .conn, .el .int]
theorem mkConn_idem (x : SConn) (k : Int) : mkConn (mkConn x k).1 k = mkConn x k := rfl
def sizeResponse (x : SResponse) : Int := x.body.size + 20
def fSizeResponse : Fct := ⟨[aE .response], [rI], fun (x : SResponse × Unit) => x.1.body.size ≤ 1048576, fun (x : SResponse × Unit) => (sizeResponse x.1, ())⟩
def openConn (l : List SConn) (a : SAddr) (x : SResponse) (g : Bool) : List SConn × Bool := if (l.length : Int) ≥ 3 ∨ findConn a l 0 ≥ 0 then (l, false) else (l ++ [⟨a, sizeResponse x, g, x⟩], true)
def fOpen : Fct := ⟨[aL .conn, aE .addr, aE .response, aB], [rL .conn, rB], fun (x : List SConn × SAddr × SResponse × Bool × Unit) => x.1.length ≤ 1048576 ∧ Sh.good (.sl .conn) x.1 ∧ x.2.2.1.body.size ≤ 1048576, fun (x : List SConn × SAddr × SResponse × Bool × Unit) => ((openConn x.1 x.2.1 x.2.2.1 x.2.2.2.1).1, (openConn x.1 x.2.1 x.2.2.1 x.2.2.2.1).2, ())⟩
def lOpen : Fct := lawFS [.sl .conn, .el .addr, .el .response, .el .bool]
theorem openConn_len (l : List SConn) (a : SAddr) (x : SResponse) (g : Bool) : (openConn l a x g).1.length ≤ l.length + 1 := by unfold openConn; split <;> simp
def fIndex_addr : Fct := ⟨[.v (.sl .addr), .v (.el .addr)], [.el .int], fun (x_ : (List SAddr) × SAddr × Unit) => x_.1.length ≤ 1000000000000000000, fun (x_ : (List SAddr) × SAddr × Unit) => (fidx (fun c => decide (c = x_.2.1)) x_.1 0, ())⟩
def fContains_addr : Fct := ⟨[.v (.sl .addr), .v (.el .addr)], [.el .bool], fun (x_ : (List SAddr) × SAddr × Unit) => x_.1.length ≤ 1000000000000000000, fun (x_ : (List SAddr) × SAddr × Unit) => (x_.1.any fun c => decide (c = x_.2.1), ())⟩
def fHasAddr : Fct := ⟨[.v (.sl .addr), .v (.el .addr)], [.el .bool], fun (x_ : (List SAddr) × SAddr × Unit) => x_.1.length ≤ 1000000000000000000, fun (x_ : (List SAddr) × SAddr × Unit) => (x_.1.any fun c => decide (c = x_.2.1), ())⟩
def withoutAddrs (d : List SAddr) : List SRequest → List SRequest
  | [] => []
  | r :: l => if d.any (fun c => decide (c = r.to)) then withoutAddrs d l else r :: withoutAddrs d l
def fWithoutAddrs : Fct := ⟨[.v (.sl .request), .v (.sl .addr)], [.sl .request], fun (x_ : (List SRequest) × (List SAddr) × Unit) => x_.1.length ≤ 1048576 ∧ x_.2.1.length ≤ 1048576, fun (x_ : (List SRequest) × (List SAddr) × Unit) => (withoutAddrs x_.2.1 x_.1, ())⟩
theorem withoutAddrs_len (d : List SAddr) (l : List SRequest) : (withoutAddrs d l).length ≤ l.length := by
  induction l <;> grind [withoutAddrs]
def lWithoutAddrs : Fct := lawFS [.sl .request, .sl .addr]
def fIndex_str : Fct := ⟨[.v (.sl .str), .v (.el .str)], [.el .int], fun (x_ : (List ByteArray) × ByteArray × Unit) => x_.1.length ≤ 1000000000000000000, fun (x_ : (List ByteArray) × ByteArray × Unit) => (fidx (fun c => decide (c = x_.2.1)) x_.1 0, ())⟩
def fContains_str : Fct := ⟨[.v (.sl .str), .v (.el .str)], [.el .bool], fun (x_ : (List ByteArray) × ByteArray × Unit) => x_.1.length ≤ 1000000000000000000, fun (x_ : (List ByteArray) × ByteArray × Unit) => (x_.1.any fun c => decide (c = x_.2.1), ())⟩
def fHas9 : Fct := ⟨[.v (.sl .str), .v (.el .str)], [.el .bool], fun (x_ : (List ByteArray) × ByteArray × Unit) => x_.1.length ≤ 1000000000000000000, fun (x_ : (List ByteArray) × ByteArray × Unit) => (x_.1.any fun c => decide (c = x_.2.1), ())⟩
def fCountGuesses : Fct := ⟨[.v (.sl .sent)], [.el .int], fun (x_ : (List SSent) × Unit) => x_.1.length ≤ 1000000000000000000, fun (x_ : (List SSent) × Unit) => (countIf (fun s => s.guess) x_.1, ())⟩
abbrev W_impl_countGuesses_fCountGuesses_3 (l : (List SSent)) : LInv := ⟨[⟨.s, 3, true, .el .int⟩, ⟨.s, 8, true, .el .int⟩], fun _ (x_ : Int × Int × Unit) => 0 ≤ x_.2.1 ∧ x_.2.1 ≤ l.length ∧ 0 ≤ x_.1 ∧ x_.1 ≤ x_.2.1 ∧ x_.1 + countIf (fun s => s.guess) (l.drop x_.2.1.toNat) = countIf (fun s => s.guess) l, fun (x_ : Int × Int × Unit) => l.length - x_.2.1.toNat⟩
-- impl.countGuesses
theorem k67_37 : fCountGuesses.ok Try.prog 67 := Fct.of (S := fCountGuesses) (L := fun ⟨l, _⟩ => fun | 3 => some (W_impl_countGuesses_fCountGuesses_3 l) | _ => none) (kp := [0,2,3,5,6,7,8,9,13]) E37ok Try.func67 (by kernel_rfl) (by kernel_rfl) (by
  rintro ⟨(l : List SSent), _⟩ hp
  refine holds_of (X := lpx (W_impl_countGuesses_fCountGuesses_3 l) ((0 : Int), ((0 : Int), ())) fun (y1 : Int × Int × PUnit) bk1 =>
 .br (decide (y1.snd.fst < (↑l.length : Int)))
  (.ob ((0 : Int) ≤ y1.snd.fst ∧ y1.snd.fst < (↑l.length : Int)) <|
   .br ((l.getD y1.snd.fst.toNat default).guess)
   (.ob (l = l) <|
    .ob (Value.int IntKind.i64 (0 : Int) = Value.int IntKind.i64 (0 : Int)) <|
    .ob (l = l) <|
    .ob (Value.int IntKind.i64 (↑l.length : Int) = Value.int IntKind.i64 (↑l.length : Int)) <|
    .ob (bk1 (IntKind.i64.wrap (y1.fst + (1 : Int)), (IntKind.i64.wrap (y1.snd.fst + (1 : Int)), ()))) <|
    .ok)
   (.ob (l = l) <|
    .ob (Value.int IntKind.i64 (0 : Int) = Value.int IntKind.i64 (0 : Int)) <|
    .ob (l = l) <|
    .ob (Value.int IntKind.i64 (↑l.length : Int) = Value.int IntKind.i64 (↑l.length : Int)) <|
    .ob (bk1 (y1.fst, (IntKind.i64.wrap (y1.snd.fst + (1 : Int)), ()))) <|
    .ok))
  (.leaf (mkR fCountGuesses.rs (y1.fst, ())) [] [])) (by kernel_rfl) ?_
  refine lpx_i ?_ fun (y1 : Int × Int × PUnit) i1 => br_i (fun h2 => ob_i ?_ fun o3 => br_i (fun h4 => ob_i rfl fun _ => ob_i rfl fun _ => ob_i rfl fun _ => ob_i rfl fun _ => ob_i ?_ fun o5 => trivial) (fun h4 => ob_i rfl fun _ => ob_i rfl fun _ => ob_i rfl fun _ => ob_i rfl fun _ => ob_i ?_ fun o6 => trivial)) (fun h2 => Fct.leafY ?_)
  all_goals try simp only [decide_eq_true_eq, decide_eq_false_iff_not, Bool.not_eq_true', Bool.not_eq_false', bne_iff_ne, bne_eq_false_iff_eq, beq_iff_eq, beq_eq_false_iff_ne, baEq, Int.not_lt, Int.not_le, ne_eq, Decidable.not_not] at *
  all_goals try simp only [W_impl_countGuesses_fCountGuesses_3, fCountGuesses, decide_eq_true_eq, decide_eq_false_iff_not, Bool.not_eq_true', Bool.not_eq_false', bne_iff_ne, bne_eq_false_iff_eq, beq_iff_eq, beq_eq_false_iff_ne, Bool.not_eq_true, Bool.not_eq_false, ne_eq, Decidable.not_not, baEq, decide_not, Prod.mk.injEq, and_true, true_and, Room, List.nil_append, Nat.zero_add, Int.not_lt, Int.not_le, countIf, countIf_le] at *
  all_goals try simp (disch := omega) only [wrapId', toNat1] at *
  all_goals try simp (disch := omega) only [if_pos, if_neg]
  all_goals first | trivial | omega | grind [wrapId', toNat1, drop_cons, drop_end, good_len, maxLen, countIf, countIf_le])
def E38 : D.Env := E37.add 67 fCountGuesses
theorem E38ok : EOk Try.prog E38 := E37ok.add k67_37
def guessesSent (l : List SSent) (b : Int) : Int := if 0 ≤ b then countIf (fun s => s.guess) (l.drop b.toNat) else 0
def fGuessesSent : Fct := ⟨[.v (.el .net), .v (.el .int)], [.el .int], fun (x_ : SNet × Int × Unit) => x_.1.log.length ≤ 1048576, fun (x_ : SNet × Int × Unit) => (guessesSent x_.1.log x_.2.1, ())⟩
abbrev W_spec_GuessesSent_fGuessesSent_3 (n : SNet) (b : Int) : LInv := ⟨[⟨.s, 5, true, .el .int⟩, ⟨.s, 6, true, .el .int⟩, ⟨.b, 2, false, .el .net⟩], fun (z_ : Int × Int × SNet × Unit) (x_ : Int × Int × SNet × Unit) => (0 ≤ x_.2.1 ∧ (0 ≤ b → b ≤ x_.2.1) ∧ 0 ≤ x_.1 ∧ x_.1 ≤ x_.2.1 ∧ x_.1 + (if 0 ≤ b then countIf (fun s => s.guess) (n.log.drop x_.2.1.toNat) else 0) = guessesSent n.log b) ∧ x_.2.2.1 = z_.2.2.1, fun (x_ : Int × Int × SNet × Unit) => n.log.length - x_.2.1.toNat⟩
-- spec.GuessesSent
theorem k16_38 : fGuessesSent.ok Try.prog 16 := Fct.of (S := fGuessesSent) (L := fun ⟨n, b, _⟩ => fun | 3 => some (W_spec_GuessesSent_fGuessesSent_3 n b) | _ => none) (kp := [0,1,2,4,5,6,17,25]) E38ok Try.func16 (by kernel_rfl) (by kernel_rfl) (by
  rintro ⟨(n : SNet), (b : Int), _⟩ hp
  refine holds_of (X := .ob (fMax.pre ((0 : Int), b, ())) <|
 lpx (W_spec_GuessesSent_fGuessesSent_3 n b) ((0 : Int), ((fMax.fn ((0 : Int), b, ())).fst, (n, ()))) fun (y1 : Int × Int × SNet × PUnit) bk1 =>
 .br (decide (y1.snd.fst < (↑y1.snd.snd.fst.log.length : Int)))
  (.br (decide (b ≥ (0 : Int)))
   (.ob ((0 : Int) ≤ y1.snd.fst ∧ y1.snd.fst < (↑y1.snd.snd.fst.log.length : Int)) <|
    .br ((y1.snd.snd.fst.log.getD y1.snd.fst.toNat default).guess)
    (.ob (n.servers = n.servers) <|
     .ob (n.cache.entries = n.cache.entries) <|
     .ob (n.log = n.log) <|
     .ob (Value.int IntKind.i64 n.now = Value.int IntKind.i64 n.now) <|
     .ob (Value.int IntKind.i64 b = Value.int IntKind.i64 b) <|
     .ob (Value.int IntKind.i64 (0 : Int) = Value.int IntKind.i64 (0 : Int)) <|
     .ob (bk1 (IntKind.i64.wrap (y1.fst + (1 : Int)), (IntKind.i64.wrap (y1.snd.fst + (1 : Int)), (y1.snd.snd.fst, ())))) <|
     .ok)
    (.ob (n.servers = n.servers) <|
     .ob (n.cache.entries = n.cache.entries) <|
     .ob (n.log = n.log) <|
     .ob (Value.int IntKind.i64 n.now = Value.int IntKind.i64 n.now) <|
     .ob (Value.int IntKind.i64 b = Value.int IntKind.i64 b) <|
     .ob (Value.int IntKind.i64 (0 : Int) = Value.int IntKind.i64 (0 : Int)) <|
     .ob (bk1 (y1.fst, (IntKind.i64.wrap (y1.snd.fst + (1 : Int)), (y1.snd.snd.fst, ())))) <|
     .ok))
   (.leaf (mkR fGuessesSent.rs (y1.fst, ())) [] []))
  (.leaf (mkR fGuessesSent.rs (y1.fst, ())) [] [])) (by kernel_rfl) ?_
  refine ob_i trivial fun _ => lpx_i ?_ fun (y1 : Int × Int × SNet × PUnit) i1 => br_i (fun h2 => br_i (fun h3 => ob_i ?_ fun o4 => br_i (fun h5 => ob_i rfl fun _ => ob_i rfl fun _ => ob_i rfl fun _ => ob_i rfl fun _ => ob_i rfl fun _ => ob_i rfl fun _ => ob_i ?_ fun o6 => trivial) (fun h5 => ob_i rfl fun _ => ob_i rfl fun _ => ob_i rfl fun _ => ob_i rfl fun _ => ob_i rfl fun _ => ob_i rfl fun _ => ob_i ?_ fun o7 => trivial)) (fun h3 => Fct.leafY ?_)) (fun h2 => Fct.leafY ?_)
  all_goals try simp only [decide_eq_true_eq, decide_eq_false_iff_not, Bool.not_eq_true', Bool.not_eq_false', bne_iff_ne, bne_eq_false_iff_eq, beq_iff_eq, beq_eq_false_iff_ne, baEq, Int.not_lt, Int.not_le, ne_eq, Decidable.not_not] at *
  all_goals try simp only [W_spec_GuessesSent_fGuessesSent_3, fGuessesSent, fMax, decide_eq_true_eq, decide_eq_false_iff_not, Bool.not_eq_true', Bool.not_eq_false', bne_iff_ne, bne_eq_false_iff_eq, beq_iff_eq, beq_eq_false_iff_ne, Bool.not_eq_true, Bool.not_eq_false, ne_eq, Decidable.not_not, baEq, decide_not, Prod.mk.injEq, and_true, true_and, Room, List.nil_append, Nat.zero_add, Int.not_lt, Int.not_le, guessesSent, countIf, countIf_le, fMax, fCountGuesses, cut_end] at *
  all_goals try simp (disch := omega) only [wrapId', toNat1] at *
  all_goals try simp (disch := omega) only [if_pos, if_neg]
  all_goals first | trivial | omega | grind [wrapId', toNat1, drop_cons, drop_end, good_len, maxLen, guessesSent, countIf, countIf_le, fMax, fCountGuesses, cut_end])
def E39 : D.Env := E38.add 16 fGuessesSent
theorem E39ok : EOk Try.prog E39 := E38ok.add k16_38
-- impl.GuessesSent
theorem k18_39 : fGuessesSent.ok Try.prog 18 := Fct.of (S := fGuessesSent) (L := fun _ _ => none) (kp := [0,1,2,4,13]) E39ok Try.func18 (by kernel_rfl) (by kernel_rfl) (by
  rintro ⟨(n : SNet), (b : Int), _⟩ hp
  refine holds_of (X := .br (decide (b < (0 : Int)))
 (.leaf (mkR fGuessesSent.rs ((0 : Int), ())) [] [])
 (.br (decide (b ≥ (↑n.log.length : Int)))
  (.leaf (mkR fGuessesSent.rs ((0 : Int), ())) [] [])
  (.ob ((0 : Int) ≤ b ∧ b ≤ (↑n.log.length : Int)) <|
   .ob (fCountGuesses.pre (cut n.log (Int.toNat b) (n.log.length - Int.toNat b), ())) <|
   .leaf (mkR fGuessesSent.rs ((fCountGuesses.fn (cut n.log (Int.toNat b) (n.log.length - Int.toNat b), ())).fst, ())) [] []))) (by kernel_rfl) ?_
  refine br_i (fun h1 => Fct.leafY ?_) (fun h1 => br_i (fun h2 => Fct.leafY ?_) (fun h2 => ob_i ?_ fun o3 => ob_i ?_ fun o4 => Fct.leafY ?_))
  all_goals try simp only [decide_eq_true_eq, decide_eq_false_iff_not, Bool.not_eq_true', Bool.not_eq_false', bne_iff_ne, bne_eq_false_iff_eq, beq_iff_eq, beq_eq_false_iff_ne, baEq, Int.not_lt, Int.not_le, ne_eq, Decidable.not_not] at *
  all_goals try simp only [fCountGuesses, fGuessesSent, decide_eq_true_eq, decide_eq_false_iff_not, Bool.not_eq_true', Bool.not_eq_false', bne_iff_ne, bne_eq_false_iff_eq, beq_iff_eq, beq_eq_false_iff_ne, Bool.not_eq_true, Bool.not_eq_false, ne_eq, Decidable.not_not, baEq, decide_not, Prod.mk.injEq, and_true, true_and, Room, List.nil_append, Nat.zero_add, Int.not_lt, Int.not_le, guessesSent, countIf, countIf_le, fMax, fCountGuesses, cut_end] at *
  all_goals try simp (disch := omega) only [wrapId', toNat1] at *
  all_goals try simp (disch := omega) only [if_pos, if_neg]
  all_goals first | trivial | omega | grind [wrapId', toNat1, drop_cons, drop_end, good_len, maxLen, guessesSent, countIf, countIf_le, fMax, fCountGuesses, cut_end])
def E40 : D.Env := E39.add 18 fGuessesSent
theorem E40ok : EOk Try.prog E40 := E39ok.add k18_39
def fIsComplete : Fct := ⟨[.v (.el .page)], [.el .bool], fun (x_ : SPage × Unit) => True, fun (x_ : SPage × Unit) => (x_.1.loaded, ())⟩
def blockedOn (p : SPage) : SAddr × Bool := if 1 ≤ p.block ∧ p.block ≤ p.slots.length then ((p.slots.getD (p.block - 1).toNat default).to, true) else (default, false)
def fBlockedOn : Fct := ⟨[.v (.el .page)], [.el .addr, .el .bool], fun (x_ : SPage × Unit) => x_.1.slots.length ≤ 1048576 ∧ -9223372036854775808 ≤ x_.1.block ∧ x_.1.block ≤ 9223372036854775807, fun (x_ : SPage × Unit) => ((blockedOn x_.1).1, (blockedOn x_.1).2, ())⟩
def fRefusedUses : Fct := ⟨[.v (.el .page)], [.el .int], fun (x_ : SPage × Unit) => x_.1.slots.length ≤ 1048576 ∧ x_.1.mods.length ≤ 1048576, fun (x_ : SPage × Unit) => (countIf (fun s => s.done && decide (s.code ≠ 1)) x_.1.slots + countIf (fun s => s.done && decide (s.code ≠ 1)) x_.1.mods, ())⟩
def fNewTab : Fct := ⟨[], [rE .tab], fun _ => True, fun _ => (⟨[], -1⟩, ())⟩
def classOf (p : SPage) (r : SRequest) : Int := if (blockedOn p).2 = true ∧ (blockedOn p).1 = r.to then 0 else if r.kind = 3 then 1 else if r.kind = 2 then 2 else if r.kind = 5 then 3 else if r.kind = 4 then 4 else 5
def fClassOf : Fct := ⟨[.v (.el .page), .v (.el .request)], [.el .int], fun (x_ : SPage × SRequest × Unit) => x_.1.slots.length ≤ 1048576 ∧ -9223372036854775808 ≤ x_.1.block ∧ x_.1.block ≤ 9223372036854775807, fun (x_ : SPage × SRequest × Unit) => (classOf x_.1 x_.2.1, ())⟩
def presentAddr (t : STab) : SAddr × Bool := if 0 ≤ t.at_ ∧ t.at_ < t.visits.length then ((t.visits.getD t.at_.toNat default).addr, true) else (default, false)
def fPresentAddr : Fct := ⟨[.v (.el .tab)], [.el .addr, .el .bool], fun (x_ : STab × Unit) => x_.1.visits.length ≤ 1048576, fun (x_ : STab × Unit) => ((presentAddr x_.1).1, (presentAddr x_.1).2, ())⟩
def fHasPresent : Fct := ⟨[.v (.el .tab)], [.el .bool], fun (x_ : STab × Unit) => True, fun (x_ : STab × Unit) => (decide (0 ≤ x_.1.at_ ∧ x_.1.at_ < x_.1.visits.length), ())⟩
def fKeptCount : Fct := ⟨[.v (.el .tab)], [.el .int], fun (x_ : STab × Unit) => x_.1.visits.length ≤ 1048576, fun (x_ : STab × Unit) => (countIf (fun v => v.kept) x_.1.visits, ())⟩
def visitOk (v : SVisit) : Bool := !v.kept || decide (v.addr = v.page.addr)
def isTab (t : STab) : Bool := t.visits.all visitOk && decide (t.visits.length ≤ 6 ∧ ((t.visits = [] ∧ t.at_ = -1) ∨ (0 ≤ t.at_ ∧ t.at_ < t.visits.length)))
def fIsTab : Fct := ⟨[.v (.el .tab)], [.el .bool], fun (x_ : STab × Unit) => x_.1.visits.length ≤ 1048576, fun (x_ : STab × Unit) => (isTab x_.1, ())⟩
def fHostsOf : Fct := ⟨[.v (.el .net)], [.sl .str], fun (x_ : SNet × Unit) => x_.1.log.length ≤ 1048576, fun (x_ : SNet × Unit) => (uniqBy (fun s => s.to.host) [] x_.1.log, ())⟩
def fSentTo : Fct := ⟨[.v (.el .net), .v (.el .str)], [.sl .sent], fun (x_ : SNet × ByteArray × Unit) => x_.1.log.length ≤ 1048576, fun (x_ : SNet × ByteArray × Unit) => (x_.1.log.filter (fun s => decide (s.to.host = x_.2.1)), ())⟩
def topsOf (n : SNet) (h : ByteArray) : List ByteArray := uniqBy (fun s => s.top) [] (n.log.filter (fun s => decide (s.to.host = h)))
theorem filter_len_ {α : Type} (p : α → Bool) (l : List α) : (l.filter p).length ≤ l.length := List.length_filter_le p l
def fTopsOf : Fct := ⟨[.v (.el .net), .v (.el .str)], [.sl .str], fun (x_ : SNet × ByteArray × Unit) => x_.1.log.length ≤ 1048576, fun (x_ : SNet × ByteArray × Unit) => (topsOf x_.1 x_.2.1, ())⟩
def lGuessesSent : Fct := lawFS [.el .net, .el .int]
-- laws.FnExactGuessesSent
set_option maxHeartbeats 2000000 in
theorem k3_40 : lGuessesSent.ok Try.prog 3 := Fct.of (S := lGuessesSent) (L := fun _ _ => none) (kp := [0,1,2,4,5,6,7,8,13,25,30]) E40ok Try.func3 (by kernel_rfl) (by kernel_rfl) (by
  rintro ⟨(n : SNet), (b : Int), _⟩ hp
  refine holds_of (X := .ob (fszNet.pre (n, (1048576 : Int), ())) <|
 .br (decide ((fszNet.fn (n, (1048576 : Int), ())).fst < (0 : Int)))
 (.leaf (mkR lGuessesSent.rs (true, ())) [] [])
 (.ob (ftoNet.pre (n, ())) <|
  .ob (fGuessesSent.pre (n, b, ())) <|
  .ob (ftoNet.pre (n, ())) <|
  .ob (fGuessesSent.pre (n, b, ())) <|
  .br ((fGuessesSent.fn (n, b, ())).fst != (fGuessesSent.fn (n, b, ())).fst)
  (.leaf (mkR lGuessesSent.rs (false, ())) [] [])
  (.ob (ftoNet.pre (n, ())) <|
   .ob (feqNet.pre (n, n, ())) <|
   .br (!(feqNet.fn (n, n, ())).fst)
   (.leaf (mkR lGuessesSent.rs (false, ())) [] [])
   (.leaf (mkR lGuessesSent.rs (true, ())) [] [])))) (by kernel_rfl) ?_
  refine ob_i ?_ fun o1 => br_i (fun h2 => Fct.leafY ?_) (fun h2 => ob_i ?_ fun o3 => ob_i ?_ fun o4 => ob_i ?_ fun o5 => ob_i ?_ fun o6 => br_i (fun h7 => Fct.leafY ?_) (fun h7 => ob_i ?_ fun o8 => ob_i ?_ fun o9 => br_i (fun h10 => Fct.leafY ?_) (fun h10 => Fct.leafY ?_)))
  all_goals have hg0 : Sh.good (.el .net) n := hp.1
  all_goals have hg1 : Sh.good (.el .int) b := hp.2.1
  all_goals clear hp
  all_goals try simp only [decide_eq_true_eq, decide_eq_false_iff_not, Bool.not_eq_true', Bool.not_eq_false', bne_iff_ne, bne_eq_false_iff_eq, beq_iff_eq, beq_eq_false_iff_ne, baEq, Int.not_lt, Int.not_le, ne_eq, Decidable.not_not] at *
  all_goals try simp only [fGuessesSent, feqNet, fszNet, ftoNet, lGuessesSent, decide_eq_true_eq, decide_eq_false_iff_not, Bool.not_eq_true', Bool.not_eq_false', bne_iff_ne, bne_eq_false_iff_eq, beq_iff_eq, beq_eq_false_iff_ne, Bool.not_eq_true, Bool.not_eq_false, ne_eq, Decidable.not_not, baEq, decide_not, Prod.mk.injEq, and_true, true_and, Room, List.nil_append, Nat.zero_add, Int.not_lt, Int.not_le, decide_true] at *
  all_goals first | trivial | omega | grind [lessen, szNet, szL])
def E41 : D.Env := E40.add 3 lGuessesSent
theorem E41ok : EOk Try.prog E41 := E40ok.add k3_40
def lPage : Fct := lawFS [.el .page]
def lPageReq : Fct := lawFS [.el .page, .el .request]
def lTab : Fct := lawFS [.el .tab]

section
open Go.ChangeShapes Go.WideShapes Go.ChangeAt Go.RowKit
theorem own : ownKnob Try.prog.godebug = none := by kernel_rfl
theorem types : ∀ e t, tyOf e = some t → e ∈ ([3, 4, 5, 9, 25, 28, 34, 37, 55, 57, 59, 63, 68, 71, 72, 73, 77, 82, 92, 98, 102, 107, 119, 160, 162, 167, 172, 176, 179, 196, 200, 203, 206, 223, 228, 230, 232, 234, 252, 256, 259, 266, 281, 282] : List TypeId) := by
  intro e t h
  unfold tyOf at h
  split at h <;> first | (simp; done) | cases h
theorem lifted (os : Os) (started : os.Started) (H : Type) (enc : TypeId × Value → H) :
    ReturnsInHanded {} Try.checked os 3 .any (Rows.fnExactGuessesSentSpec.pre6 enc Try.prog Try.f3 Rows.fnExactGuessesSentRow.domain false) (Rows.fnExactGuessesSentSpec.post enc Try.prog Try.f3 false true false false) := by
  refine returnsInHanded_of_change (C := Try.checked) own started (by kernel_rfl) Try.func3
    (ChangeSpec.witness6 (enc := enc) (C := Try.checked) false ⟨#[], #[.agg #[.slice none 0 0, .slice none 0 0, .slice none 0 0, .int .i64 0], .int .i64 0], []⟩ 8 (by kernel_rfl) (by kernel_rfl) (by kernel_rfl) (by kernel_rfl)) ?_
  intro W base args ds gs before hval0 hW hcnd _
  have hval : ∀ (j : Nat) t v, Try.f3.params[j]? = some t → args[j]? = some v → Value.okWide Try.prog W .any base t v := hval0
  refine law_calls (show rowOk Try.prog Try.f3 tyOf [3, 4, 5, 9, 25, 28, 34, 37, 55, 57, 59, 63, 68, 71, 72, 73, 77, 82, 92, 98, 102, 107, 119, 160, 162, 167, 172, 176, 179, 196, 200, 203, 206, 223, 228, 230, 232, 234, 252, 256, 259, 266, 281, 282] [.el .net, .el .int] = true by kernel_rfl) types rfl Try.underlying4 rfl hW (fun xs h => ?_) hval k3_40
  · rw [Try.params3] at h
    match xs, (show xs.length = 2 from h) with
    | [x0, x1], _ => rfl
set_option maxHeartbeats 0 in
theorem closed : joinedFacts Try.prog 3 Try.f3 Rows.fnExactGuessesSentSpec Rows.fnExactGuessesSentRow = true := by
  unfold joinedFacts
  refine (and_i (and_i (and_i (and_i (and_i (and_i (and_i (and_i (and_i (and_i (and_i (and_i (and_i (and_i (and_i (and_i (and_i (and_i (and_i (and_i (and_i (and_i (and_i (and_i (and_i (and_i (and_i (and_i (and_i (and_i (and_i ?_ ?_) ?_) ?_) ?_) ?_) ?_) ?_) ?_) ?_) ?_) ?_) ?_) ?_) ?_) ?_) ?_) ?_) ?_) ?_) ?_) ?_) ?_) ?_) ?_) ?_) ?_) ?_) ?_) ?_) ?_) ?_)
  all_goals decide +kernel
theorem over : Rows.fnExactGuessesSentRow.holds Try.pinned (OpenSpec.ofChange Rows.fnExactGuessesSentSpec) :=
  OpenClaim.holds_of_wide 3 Try.f3 rfl rfl rfl rfl rfl rfl rfl ⟨rfl, rfl, rfl, rfl, rfl⟩ rfl rfl rfl rfl rfl (by kernel_rfl) Try.func3 closed
    (of_decide_eq_true (by kernel_rfl)) (by unfold Func.isWrapper; first | (rw [if_pos (by decide +kernel)]; kernel_rfl) | (rw [if_neg (by decide +kernel)]; exact ⟨rfl, rfl⟩))
    (fun os started H enc _ => lifted os started H enc)
theorem proved : Rows.FnExactGuessesSentSaid := over
end
end Go.Proofs.Ytmpkhgpieioofaa.fnExactGuessesSent
