/-
  The program's EqualTabs returns what the reference's returns, for all arguments: the law returns true. No condition.
-/
import Derived.Test.YtdcpenhjenhjcaaVPt
import Derived.Test.YtdcpenhjenhjcaaRows
import Derived.WalkKit
import Derived.ProofKit
import Derived.OpenShut
namespace Go.Proofs.Ytdcpenhjenhjcaa.fnExactEqualTabs
open Go.Proofs.Ytdcpenhjenhjcaa
open Go.D
set_option maxRecDepth 100000
set_option linter.unusedVariables false
set_option linter.unusedSimpArgs false
def tyOf : TypeId → Option Ty
  | 3 => some .int
  | 4 => some .bool
  | 5 => some .u8
  | 9 => some .str
  | 23 => some .addr
  | 26 => some .policy
  | 28 => some .tokenizer
  | 33 => some .builder
  | 38 => some .page
  | 43 => some .addr
  | 44 => some .policy
  | 45 => some .tokenizer
  | 49 => some .builder
  | 54 => some .page
  | 64 => some .cache
  | 67 => some .net
  | 73 => some .cache
  | 76 => some .net
  | 87 => some .tab
  | 92 => some .tab
  | 112 => some .request
  | 115 => some .request
  | 147 => some .sent
  | 155 => some .visit
  | 171 => some .token
  | 176 => some .slot
  | 179 => some .module
  | 184 => some .token
  | 189 => some .slot
  | 192 => some .module
  | 202 => some .server
  | 206 => some .sent
  | 210 => some .server
  | 224 => some .visit
  | 232 => some .node
  | 236 => some .node
  | 243 => some .response
  | 245 => some .entry
  | 247 => some .response
  | 249 => some .entry
  | 259 => some .file
  | 262 => some .attr
  | 268 => some .attr
  | 273 => some .file
  | _ => none
def E0 : D.Env := D.Env.empty tyOf
theorem E0ok : EOk Try.prog E0 := EOk.empty _ _

-- laws.szStringS
set_option maxHeartbeats 2000000 in
theorem k51_0 : fszStringS.ok Try.prog 51 := Fct.of (S := fszStringS) (L := fun ⟨l, n, _⟩ => fun | 5 => some (LszS .str szString l n) | _ => none) (kp := [0,1,4,5,11,15,26]) E0ok Try.func51 (by kernel_rfl) (by kernel_rfl) (by
  rintro ⟨(l : List ByteArray), (n : Int), _⟩ hp
  refine holds_of (X := .br (decide (IntKind.i64.wrap (n - (↑l.length : Int)) < (0 : Int)))
 (.leaf (mkR fszStringS.rs ((-1 : Int), ())) [] [])
 (lpx (LszS .str szString l n) (IntKind.i64.wrap (n - (↑l.length : Int)), ((0 : Int), ())) fun (y2 : Int × Int × PUnit) bk2 =>
  .br (decide (y2.snd.fst < (↑l.length : Int)))
   (.ob ((0 : Int) ≤ y2.snd.fst ∧ y2.snd.fst < (↑l.length : Int)) <|
    .br (decide (IntKind.i64.wrap (y2.fst - (↑(l.getD y2.snd.fst.toNat default).size : Int)) < (0 : Int)))
    (.leaf (mkR fszStringS.rs ((-1 : Int), ())) [] [])
    (.ob (l = l) <|
     .ob (Value.bool (decide (IntKind.i64.wrap (n - (↑l.length : Int)) < (0 : Int))) =
  Value.bool (decide (IntKind.i64.wrap (n - (↑l.length : Int)) < (0 : Int)))) <|
     .ob (bk2 (IntKind.i64.wrap (y2.fst - (↑(l.getD y2.snd.fst.toNat default).size : Int)), (IntKind.i64.wrap (y2.snd.fst + (1 : Int)), ()))) <|
     .ok))
   (.leaf (mkR fszStringS.rs (y2.fst, ())) [] []))) (by kernel_rfl) ?_
  refine br_i (fun h1 => Fct.leafY ?_) (fun h1 => lpx_i ?_ fun (y2 : Int × Int × PUnit) i2 => br_i (fun h3 => ob_i ?_ fun o4 => br_i (fun h5 => Fct.leafY ?_) (fun h5 => ob_i rfl fun _ => ob_i rfl fun _ => ob_i ?_ fun o6 => trivial)) (fun h3 => Fct.leafY ?_))
  all_goals try simp only [decide_eq_true_eq, decide_eq_false_iff_not, Bool.not_eq_true', Bool.not_eq_false', bne_iff_ne, bne_eq_false_iff_eq, beq_iff_eq, beq_eq_false_iff_ne, baEq, Int.not_lt, Int.not_le, ne_eq, Decidable.not_not] at *
  all_goals try simp only [LszS, fszStringS, baSz, List.size_toArray, List.length_cons, List.length_nil, Nat.reduceAdd, Int.toNat_zero, List.drop_zero, decide_eq_true_eq, decide_eq_false_iff_not, Bool.not_eq_true', Bool.not_eq_false', bne_iff_ne, bne_eq_false_iff_eq, beq_iff_eq, beq_eq_false_iff_ne, Bool.not_eq_true, Bool.not_eq_false, ne_eq, Decidable.not_not, baEq, decide_not, Prod.mk.injEq, and_true, true_and, Room, List.nil_append, Nat.zero_add, Int.not_lt, Int.not_le] at *
  all_goals have hgl := good_len hp.1
  all_goals simp only [maxLen] at hgl
  · rw [wrapId (by omega)] at h1
    rw [lessenNeg (by simp only [szL]; omega)]
  · rw [wrapId (by omega)] at h1 ⊢
    exact ⟨by omega, by omega, h1, by simp⟩
  all_goals have hg : y2.2.1.toNat < l.length → (l.getD y2.2.1.toNat default).size ≤ 9223372036854775807 := fun h => (good_getD hp.1 h) _ (List.Mem.head _)
  all_goals have hs := sum_take_le szString l (y2.2.1.toNat + 1)
  all_goals have hs2 : y2.2.1.toNat < l.length → ((l.take (y2.2.1.toNat + 1)).map szString).sum = ((l.take y2.2.1.toNat).map szString).sum + (l.getD y2.2.1.toNat default).size := fun h => sum_take szString h
  · omega
  · have hlt : y2.2.1.toNat < l.length := by omega
    have a1 := hg hlt; have a2 := hs2 hlt
    rw [wrapId (by omega)] at h5
    rw [lessenNeg (by simp only [szL]; omega)]
  · have hlt : y2.2.1.toNat < l.length := by omega
    have a1 := hg hlt; have a2 := hs2 hlt
    rw [wrapId (n := y2.1 - _) (by omega)] at h5 ⊢
    rw [wrapId (by omega), toNat1 (by omega), a2]
    exact ⟨⟨by omega, by omega, by omega, by omega⟩, by omega⟩
  · have e : l.take y2.2.1.toNat = l := List.take_of_length_le (by omega)
    rw [e] at i2
    have hz : ((szL szString l : Nat) : Int) = l.length + (l.map szString).sum := by simp only [szL]; omega
    rw [lessen_ge (by omega)]
    show y2.1 = n - ((szL szString l : Nat) : Int)
    omega)
def E1 : D.Env := E0.add 51 fszStringS
theorem E1ok : EOk Try.prog E1 := E0ok.add k51_0
-- laws.toStringS
theorem k62_1 : ftoStringS.ok Try.prog 62 := Fct.of (S := ftoStringS) (L := fun ⟨l, _⟩ => fun | 3 => some (LtoS .str l) | _ => none) (kp := [0,2,3,4,11]) E1ok Try.func62 (by kernel_rfl) (by kernel_rfl) (by
  rintro ⟨(l : List ByteArray), _⟩ hp
  refine holds_of (X := .ob ((↑l.length : Int) = (↑l.length : Int) ∧
  (0 : Int) ≤ (↑l.length : Int) ∧
    (16 : Int) * (↑l.length : Int) ≤ (140737488355328 : Int) ∧ (↑l.length : Int) ≤ (140737488355328 : Int)) <|
 lpx (LtoS .str l) ((0 : Int), (List.replicate (↑l.length : Int).toNat { data := #[] : ByteArray }, ())) fun (y2 : Int × List ByteArray × PUnit) bk2 =>
 .br (decide (y2.fst < (↑l.length : Int)))
  (.ob ((0 : Int) ≤ y2.fst ∧ y2.fst < (↑l.length : Int)) <|
   .ob ((0 : Int) ≤ y2.fst ∧ y2.fst < (↑y2.snd.fst.length : Int)) <|
   .ob (y2.fst.toNat < y2.snd.fst.length) <|
   .lt (List ByteArray) (y2.snd.fst.modify y2.fst.toNat fun z => l.getD y2.fst.toNat default) fun z2 =>
   .ob (l = l) <|
    .ob (bk2 (IntKind.i64.wrap (y2.fst + (1 : Int)), (z2, ()))) <|
    .ok)
  (.leaf (mkR ftoStringS.rs (y2.snd.fst, ())) [] [])) (by kernel_rfl) ?_
  refine ob_i ?_ fun o1 => lpx_i ?_ fun (y2 : Int × List ByteArray × PUnit) i2 => br_i (fun h3 => ob_i ?_ fun o4 => ob_i ?_ fun o5 => ob_i ?_ fun o6 => lt_i (ob_i rfl fun _ => ob_i ?_ fun o7 => trivial)) (fun h3 => Fct.leafY ?_)
  all_goals try simp only [decide_eq_true_eq, decide_eq_false_iff_not, Bool.not_eq_true', Bool.not_eq_false', bne_iff_ne, bne_eq_false_iff_eq, beq_iff_eq, beq_eq_false_iff_ne, baEq, Int.not_lt, Int.not_le, ne_eq, Decidable.not_not] at *
  all_goals try simp only [LtoS, ftoStringS, baSz, List.size_toArray, List.length_cons, List.length_nil, Nat.reduceAdd, Int.toNat_zero, List.drop_zero, decide_eq_true_eq, decide_eq_false_iff_not, Bool.not_eq_true', Bool.not_eq_false', bne_iff_ne, bne_eq_false_iff_eq, beq_iff_eq, beq_eq_false_iff_ne, Bool.not_eq_true, Bool.not_eq_false, ne_eq, Decidable.not_not, baEq, decide_not, Prod.mk.injEq, and_true, true_and, Room, List.nil_append, Nat.zero_add, Int.not_lt, Int.not_le] at *
  all_goals try have hsz : l.length ≤ 1048576 := by first | exact hp | (have := szL_len szString l; exact Nat.le_trans this hp)
  all_goals clear hp
  all_goals try rw [i2.2.2]
  all_goals first | omega | (refine ⟨by omega, by omega, ?_⟩; simp; done) | (refine ⟨by omega, by omega, ?_⟩; simp; exact .inr rfl) | (simp; omega) | skip
  · rw [wrapId (by omega), toNat1 (by omega)]
    refine ⟨⟨by omega, by omega, ?_⟩, by omega⟩
    rw [show l.length - y2.1.toNat = (l.length - (y2.1.toNat + 1)) + 1 from by omega, List.replicate_succ, mod_at (by simp; omega), take_succ (by omega)]
    simp
  · have e : l.take y2.1.toNat = l := List.take_of_length_le (by omega)
    rw [e]; simp; omega)
def E2 : D.Env := E1.add 62 ftoStringS
theorem E2ok : EOk Try.prog E2 := E1ok.add k62_1
-- laws.eqStringS
set_option maxHeartbeats 2000000 in
theorem k72_2 : feqStringS.ok Try.prog 72 := Fct.of (S := feqStringS) (L := fun ⟨l, m, _⟩ => fun | 4 => some (LeqS .str l m) | _ => none) (kp := [0,1,4,5,10,14,25]) E2ok Try.func72 (by kernel_rfl) (by kernel_rfl) (by
  rintro ⟨(l : List ByteArray), (m : List ByteArray), _⟩ hp
  refine holds_of (X := .br ((↑l.length : Int) != (↑m.length : Int))
 (.leaf (mkR feqStringS.rs (false, ())) [] [])
 (lpx (LeqS .str l m) ((0 : Int), ()) fun (y2 : Int × PUnit) bk2 =>
  .br (decide (y2.fst < (↑l.length : Int)))
   (.ob ((0 : Int) ≤ y2.fst ∧ y2.fst < (↑l.length : Int)) <|
    .ob ((0 : Int) ≤ y2.fst ∧ y2.fst < (↑m.length : Int)) <|
    .br (!(l.getD y2.fst.toNat default).toList == (m.getD y2.fst.toNat default).toList)
    (.leaf (mkR feqStringS.rs (false, ())) [] [])
    (.ob (l = l) <|
     .ob (m = m) <|
     .ob (Value.bool ((↑l.length : Int) != (↑m.length : Int)) = Value.bool ((↑l.length : Int) != (↑m.length : Int))) <|
     .ob (bk2 (IntKind.i64.wrap (y2.fst + (1 : Int)), ())) <|
     .ok))
   (.leaf (mkR feqStringS.rs (true, ())) [] []))) (by kernel_rfl) ?_
  refine br_i (fun h1 => Fct.leafY ?_) (fun h1 => lpx_i ?_ fun (y2 : Int × PUnit) i2 => br_i (fun h3 => ob_i ?_ fun o4 => ob_i ?_ fun o5 => br_i (fun h6 => Fct.leafY ?_) (fun h6 => ob_i rfl fun _ => ob_i rfl fun _ => ob_i rfl fun _ => ob_i ?_ fun o7 => trivial)) (fun h3 => Fct.leafY ?_))
  all_goals try simp only [decide_eq_true_eq, decide_eq_false_iff_not, Bool.not_eq_true', Bool.not_eq_false', bne_iff_ne, bne_eq_false_iff_eq, beq_iff_eq, beq_eq_false_iff_ne, baEq, Int.not_lt, Int.not_le, ne_eq, Decidable.not_not] at *
  all_goals try simp only [LeqS, feqStringS, baSz, List.size_toArray, List.length_cons, List.length_nil, Nat.reduceAdd, Int.toNat_zero, List.drop_zero, decide_eq_true_eq, decide_eq_false_iff_not, Bool.not_eq_true', Bool.not_eq_false', bne_iff_ne, bne_eq_false_iff_eq, beq_iff_eq, beq_eq_false_iff_ne, Bool.not_eq_true, Bool.not_eq_false, ne_eq, Decidable.not_not, baEq, decide_not, Prod.mk.injEq, and_true, true_and, Room, List.nil_append, Nat.zero_add, Int.not_lt, Int.not_le] at *
  · rw [decide_eq_false]; rintro rfl; omega
  · exact ⟨by omega, by omega, by simp⟩
  · omega
  · omega
  · rw [decide_eq_false]; rintro rfl; first | exact absurd rfl h5 | exact absurd rfl h6
  · have hw : IntKind.i64.wrap (y2.1 + 1) = y2.1 + 1 := wrapId (by omega)
    rw [hw, toNat1 (by omega)]
    refine ⟨⟨by omega, by omega, ?_⟩, by omega⟩
    rw [take_succ (by omega), take_succ (by omega), i2.2.2]; first | rw [h5] | rw [h6]
  · have e : l.take y2.1.toNat = l := List.take_of_length_le (by omega)
    have e2 : m.take y2.1.toNat = m := List.take_of_length_le (by omega)
    rw [decide_eq_true]; rw [← e, ← e2, i2.2.2])
def E3 : D.Env := E2.add 72 feqStringS
theorem E3ok : EOk Try.prog E3 := E2ok.add k72_2
-- laws.szIntS
set_option maxHeartbeats 2000000 in
theorem k111_3 : fszIntS.ok Try.prog 111 := Fct.of (S := fszIntS) (L := fun _ _ => none) (kp := [0,1,4,10]) E3ok Try.func111 (by kernel_rfl) (by kernel_rfl) (by
  rintro ⟨(l : List Int), (n : Int), _⟩ hp
  refine holds_of (X := .br (decide (IntKind.i64.wrap (n - (↑(List.length l) : Int)) < (0 : Int)))
 (.leaf (mkR fszIntS.rs ((-1 : Int), ())) [] [])
 (.leaf (mkR fszIntS.rs (IntKind.i64.wrap (n - (↑(List.length l) : Int)), ())) [] [])) (by kernel_rfl) ?_
  refine br_i (fun h1 => Fct.leafY ?_) (fun h1 => Fct.leafY ?_)
  all_goals try simp only [decide_eq_true_eq, decide_eq_false_iff_not, Bool.not_eq_true', Bool.not_eq_false', bne_iff_ne, bne_eq_false_iff_eq, beq_iff_eq, beq_eq_false_iff_ne, baEq, Int.not_lt, Int.not_le, ne_eq, Decidable.not_not] at *
  all_goals try simp only [fszIntS, baSz, List.size_toArray, List.length_cons, List.length_nil, Nat.reduceAdd, Int.toNat_zero, List.drop_zero, decide_eq_true_eq, decide_eq_false_iff_not, Bool.not_eq_true', Bool.not_eq_false', bne_iff_ne, bne_eq_false_iff_eq, beq_iff_eq, beq_eq_false_iff_ne, Bool.not_eq_true, Bool.not_eq_false, ne_eq, Decidable.not_not, baEq, decide_not, Prod.mk.injEq, and_true, true_and, Room, List.nil_append, Nat.zero_add, Int.not_lt, Int.not_le, Sh.good, Sh.fc, enc, List.forall_mem_cons, List.not_mem_nil, false_implies, implies_true, goodC, maxLen] at *
  all_goals grind [wrapId', lessen])
def E4 : D.Env := E3.add 111 fszIntS
theorem E4ok : EOk Try.prog E4 := E3ok.add k111_3
-- laws.toIntS
theorem k117_4 : ftoIntS.ok Try.prog 117 := Fct.of (S := ftoIntS) (L := fun ⟨l, _⟩ => fun | 3 => some (LtoS .int l) | _ => none) (kp := [0,2,3,4,11]) E4ok Try.func117 (by kernel_rfl) (by kernel_rfl) (by
  rintro ⟨(l : List Int), _⟩ hp
  refine holds_of (X := .ob ((↑l.length : Int) = (↑l.length : Int) ∧
  (0 : Int) ≤ (↑l.length : Int) ∧
    (8 : Int) * (↑l.length : Int) ≤ (140737488355328 : Int) ∧ (↑l.length : Int) ≤ (140737488355328 : Int)) <|
 lpx (LtoS .int l) ((0 : Int), (List.replicate (↑l.length : Int).toNat (0 : Int), ())) fun (y2 : Int × List Int × PUnit) bk2 =>
 .br (decide (y2.fst < (↑l.length : Int)))
  (.ob ((0 : Int) ≤ y2.fst ∧ y2.fst < (↑l.length : Int)) <|
   .ob ((0 : Int) ≤ y2.fst ∧ y2.fst < (↑y2.snd.fst.length : Int)) <|
   .ob (y2.fst.toNat < y2.snd.fst.length) <|
   .lt (List Int) (y2.snd.fst.modify y2.fst.toNat fun z => l.getD y2.fst.toNat default) fun z2 =>
   .ob (l = l) <|
    .ob (bk2 (IntKind.i64.wrap (y2.fst + (1 : Int)), (z2, ()))) <|
    .ok)
  (.leaf (mkR ftoIntS.rs (y2.snd.fst, ())) [] [])) (by kernel_rfl) ?_
  refine ob_i ?_ fun o1 => lpx_i ?_ fun (y2 : Int × List Int × PUnit) i2 => br_i (fun h3 => ob_i ?_ fun o4 => ob_i ?_ fun o5 => ob_i ?_ fun o6 => lt_i (ob_i rfl fun _ => ob_i ?_ fun o7 => trivial)) (fun h3 => Fct.leafY ?_)
  all_goals try simp only [decide_eq_true_eq, decide_eq_false_iff_not, Bool.not_eq_true', Bool.not_eq_false', bne_iff_ne, bne_eq_false_iff_eq, beq_iff_eq, beq_eq_false_iff_ne, baEq, Int.not_lt, Int.not_le, ne_eq, Decidable.not_not] at *
  all_goals try simp only [LtoS, ftoIntS, baSz, List.size_toArray, List.length_cons, List.length_nil, Nat.reduceAdd, Int.toNat_zero, List.drop_zero, decide_eq_true_eq, decide_eq_false_iff_not, Bool.not_eq_true', Bool.not_eq_false', bne_iff_ne, bne_eq_false_iff_eq, beq_iff_eq, beq_eq_false_iff_ne, Bool.not_eq_true, Bool.not_eq_false, ne_eq, Decidable.not_not, baEq, decide_not, Prod.mk.injEq, and_true, true_and, Room, List.nil_append, Nat.zero_add, Int.not_lt, Int.not_le] at *
  all_goals try have hsz : l.length ≤ 1048576 := by first | exact hp | (have := szL_len szString l; exact Nat.le_trans this hp)
  all_goals clear hp
  all_goals try rw [i2.2.2]
  all_goals first | omega | (refine ⟨by omega, by omega, ?_⟩; simp; done) | (refine ⟨by omega, by omega, ?_⟩; simp; exact .inr rfl) | (simp; omega) | skip
  · rw [wrapId (by omega), toNat1 (by omega)]
    refine ⟨⟨by omega, by omega, ?_⟩, by omega⟩
    rw [show l.length - y2.1.toNat = (l.length - (y2.1.toNat + 1)) + 1 from by omega, List.replicate_succ, mod_at (by simp; omega), take_succ (by omega)]
    simp
  · have e : l.take y2.1.toNat = l := List.take_of_length_le (by omega)
    rw [e]; simp; omega)
def E5 : D.Env := E4.add 117 ftoIntS
theorem E5ok : EOk Try.prog E5 := E4ok.add k117_4
-- laws.eqIntS
set_option maxHeartbeats 2000000 in
theorem k123_5 : feqIntS.ok Try.prog 123 := Fct.of (S := feqIntS) (L := fun ⟨l, m, _⟩ => fun | 4 => some (LeqS .int l m) | _ => none) (kp := [0,1,4,5,10,14,25]) E5ok Try.func123 (by kernel_rfl) (by kernel_rfl) (by
  rintro ⟨(l : List Int), (m : List Int), _⟩ hp
  refine holds_of (X := .br ((↑l.length : Int) != (↑m.length : Int))
 (.leaf (mkR feqIntS.rs (false, ())) [] [])
 (lpx (LeqS .int l m) ((0 : Int), ()) fun (y2 : Int × PUnit) bk2 =>
  .br (decide (y2.fst < (↑l.length : Int)))
   (.ob ((0 : Int) ≤ y2.fst ∧ y2.fst < (↑l.length : Int)) <|
    .ob ((0 : Int) ≤ y2.fst ∧ y2.fst < (↑m.length : Int)) <|
    .br (l.getD y2.fst.toNat default != m.getD y2.fst.toNat default)
    (.leaf (mkR feqIntS.rs (false, ())) [] [])
    (.ob (l = l) <|
     .ob (m = m) <|
     .ob (Value.bool ((↑l.length : Int) != (↑m.length : Int)) = Value.bool ((↑l.length : Int) != (↑m.length : Int))) <|
     .ob (bk2 (IntKind.i64.wrap (y2.fst + (1 : Int)), ())) <|
     .ok))
   (.leaf (mkR feqIntS.rs (true, ())) [] []))) (by kernel_rfl) ?_
  refine br_i (fun h1 => Fct.leafY ?_) (fun h1 => lpx_i ?_ fun (y2 : Int × PUnit) i2 => br_i (fun h3 => ob_i ?_ fun o4 => ob_i ?_ fun o5 => br_i (fun h6 => Fct.leafY ?_) (fun h6 => ob_i rfl fun _ => ob_i rfl fun _ => ob_i rfl fun _ => ob_i ?_ fun o7 => trivial)) (fun h3 => Fct.leafY ?_))
  all_goals try simp only [decide_eq_true_eq, decide_eq_false_iff_not, Bool.not_eq_true', Bool.not_eq_false', bne_iff_ne, bne_eq_false_iff_eq, beq_iff_eq, beq_eq_false_iff_ne, baEq, Int.not_lt, Int.not_le, ne_eq, Decidable.not_not] at *
  all_goals try simp only [LeqS, feqIntS, baSz, List.size_toArray, List.length_cons, List.length_nil, Nat.reduceAdd, Int.toNat_zero, List.drop_zero, decide_eq_true_eq, decide_eq_false_iff_not, Bool.not_eq_true', Bool.not_eq_false', bne_iff_ne, bne_eq_false_iff_eq, beq_iff_eq, beq_eq_false_iff_ne, Bool.not_eq_true, Bool.not_eq_false, ne_eq, Decidable.not_not, baEq, decide_not, Prod.mk.injEq, and_true, true_and, Room, List.nil_append, Nat.zero_add, Int.not_lt, Int.not_le] at *
  · rw [decide_eq_false]; rintro rfl; omega
  · exact ⟨by omega, by omega, by simp⟩
  · omega
  · omega
  · rw [decide_eq_false]; rintro rfl; first | exact absurd rfl h5 | exact absurd rfl h6
  · have hw : IntKind.i64.wrap (y2.1 + 1) = y2.1 + 1 := wrapId (by omega)
    rw [hw, toNat1 (by omega)]
    refine ⟨⟨by omega, by omega, ?_⟩, by omega⟩
    rw [take_succ (by omega), take_succ (by omega), i2.2.2]; first | rw [h5] | rw [h6]
  · have e : l.take y2.1.toNat = l := List.take_of_length_le (by omega)
    have e2 : m.take y2.1.toNat = m := List.take_of_length_le (by omega)
    rw [decide_eq_true]; rw [← e, ← e2, i2.2.2])
def E6 : D.Env := E5.add 123 feqIntS
theorem E6ok : EOk Try.prog E6 := E5ok.add k123_5
-- laws.szAddr
set_option maxHeartbeats 2000000 in
theorem k43_6 : fszAddr.ok Try.prog 43 := Fct.of (S := fszAddr) (L := fun _ _ => none) (kp := [0,1,2,4,11,18]) E6ok Try.func43 (by kernel_rfl) (by kernel_rfl) (by
  rintro ⟨(x : SAddr), (n : Int), _⟩ hp
  refine holds_of (X := .br (decide (IntKind.i64.wrap (n - (↑x.host.size : Int)) < (0 : Int)))
 (.leaf (mkR fszAddr.rs ((-1 : Int), ())) [] [])
 (.br (decide (IntKind.i64.wrap (IntKind.i64.wrap (n - (↑x.host.size : Int)) - (↑x.path.size : Int)) < (0 : Int)))
  (.leaf (mkR fszAddr.rs ((-1 : Int), ())) [] [])
  (.leaf (mkR fszAddr.rs (IntKind.i64.wrap (IntKind.i64.wrap (n - (↑x.host.size : Int)) - (↑x.path.size : Int)), ())) [] []))) (by kernel_rfl) ?_
  refine br_i (fun h1 => Fct.leafY ?_) (fun h1 => br_i (fun h2 => Fct.leafY ?_) (fun h2 => Fct.leafY ?_))
  all_goals try simp only [decide_eq_true_eq, decide_eq_false_iff_not, Bool.not_eq_true', Bool.not_eq_false', bne_iff_ne, bne_eq_false_iff_eq, beq_iff_eq, beq_eq_false_iff_ne, baEq, Int.not_lt, Int.not_le, ne_eq, Decidable.not_not] at *
  all_goals try simp only [fszAddr, baSz, List.size_toArray, List.length_cons, List.length_nil, Nat.reduceAdd, Int.toNat_zero, List.drop_zero, decide_eq_true_eq, decide_eq_false_iff_not, Bool.not_eq_true', Bool.not_eq_false', bne_iff_ne, bne_eq_false_iff_eq, beq_iff_eq, beq_eq_false_iff_ne, Bool.not_eq_true, Bool.not_eq_false, ne_eq, Decidable.not_not, baEq, decide_not, Prod.mk.injEq, and_true, true_and, Room, List.nil_append, Nat.zero_add, Int.not_lt, Int.not_le, Sh.good, Sh.fc, enc, List.forall_mem_cons, List.not_mem_nil, false_implies, implies_true, goodC, maxLen] at *
  all_goals grind [wrapId', lessen, szAddr])
def E7 : D.Env := E6.add 43 fszAddr
theorem E7ok : EOk Try.prog E7 := E6ok.add k43_6
-- laws.toAddr
theorem k54_7 : ftoAddr.ok Try.prog 54 := Fct.of (S := ftoAddr) (L := fun _ _ => none) (kp := [0,1,2,3]) E7ok Try.func54 (by kernel_rfl) (by kernel_rfl) (by
  rintro ⟨(x : SAddr), _⟩ hp
  refine holds_of (X := .leaf (mkR ftoAddr.rs (x, ())) [] []) (by kernel_rfl) ?_
  refine Fct.leafY ?_
  all_goals try simp only [decide_eq_true_eq, decide_eq_false_iff_not, Bool.not_eq_true', Bool.not_eq_false', bne_iff_ne, bne_eq_false_iff_eq, beq_iff_eq, beq_eq_false_iff_ne, baEq, Int.not_lt, Int.not_le, ne_eq, Decidable.not_not] at *
  all_goals try simp only [ftoAddr, baSz, List.size_toArray, List.length_cons, List.length_nil, Nat.reduceAdd, Int.toNat_zero, List.drop_zero, decide_eq_true_eq, decide_eq_false_iff_not, Bool.not_eq_true', Bool.not_eq_false', bne_iff_ne, bne_eq_false_iff_eq, beq_iff_eq, beq_eq_false_iff_ne, Bool.not_eq_true, Bool.not_eq_false, ne_eq, Decidable.not_not, baEq, decide_not, Prod.mk.injEq, and_true, true_and, Room, List.nil_append, Nat.zero_add, Int.not_lt, Int.not_le] at *
  all_goals first | trivial | rfl | grind [szAddr])
def E8 : D.Env := E7.add 54 ftoAddr
theorem E8ok : EOk Try.prog E8 := E7ok.add k54_7
-- laws.eqAddr
set_option maxHeartbeats 2000000 in
theorem k65_8 : feqAddr.ok Try.prog 65 := Fct.of (S := feqAddr) (L := fun _ _ => none) (kp := [0,1,2,3,4,9,14]) E8ok Try.func65 (by kernel_rfl) (by kernel_rfl) (by
  rintro ⟨(x : SAddr), (y : SAddr), _⟩ hp
  refine holds_of (X := .br (!x.host.toList == y.host.toList)
 (.leaf (mkR feqAddr.rs (false, ())) [] [])
 (.br (!x.path.toList == y.path.toList)
  (.leaf (mkR feqAddr.rs (false, ())) [] [])
  (.leaf (mkR feqAddr.rs (true, ())) [] []))) (by kernel_rfl) ?_
  refine br_i (fun h1 => Fct.leafY ?_) (fun h1 => br_i (fun h2 => Fct.leafY ?_) (fun h2 => Fct.leafY ?_))
  all_goals try simp only [decide_eq_true_eq, decide_eq_false_iff_not, Bool.not_eq_true', Bool.not_eq_false', bne_iff_ne, bne_eq_false_iff_eq, beq_iff_eq, beq_eq_false_iff_ne, baEq, Int.not_lt, Int.not_le, ne_eq, Decidable.not_not] at *
  all_goals try simp only [feqAddr, baSz, List.size_toArray, List.length_cons, List.length_nil, Nat.reduceAdd, Int.toNat_zero, List.drop_zero, decide_eq_true_eq, decide_eq_false_iff_not, Bool.not_eq_true', Bool.not_eq_false', bne_iff_ne, bne_eq_false_iff_eq, beq_iff_eq, beq_eq_false_iff_ne, Bool.not_eq_true, Bool.not_eq_false, ne_eq, Decidable.not_not, baEq, decide_not, Prod.mk.injEq, and_true, true_and, Room, List.nil_append, Nat.zero_add, Int.not_lt, Int.not_le] at *
  all_goals first | trivial | (cases x; cases y; simp_all; done) | (simp only [szAddr] at *; omega) | grind [szAddr])
def E9 : D.Env := E8.add 65 feqAddr
theorem E9ok : EOk Try.prog E9 := E8ok.add k65_8
-- laws.szAddrS
set_option maxHeartbeats 2000000 in
theorem k50_9 : fszAddrS.ok Try.prog 50 := Fct.of (S := fszAddrS) (L := fun ⟨l, n, _⟩ => fun | 5 => some (LszS .addr szAddr l n) | _ => none) (kp := [0,1,4,5,11,15,25]) E9ok Try.func50 (by kernel_rfl) (by kernel_rfl) (by
  rintro ⟨(l : List SAddr), (n : Int), _⟩ hp
  refine holds_of (X := .br (decide (IntKind.i64.wrap (n - (↑l.length : Int)) < (0 : Int)))
 (.leaf (mkR fszAddrS.rs ((-1 : Int), ())) [] [])
 (lpx (LszS .addr szAddr l n) (IntKind.i64.wrap (n - (↑l.length : Int)), ((0 : Int), ())) fun (y2 : Int × Int × PUnit) bk2 =>
  .br (decide (y2.snd.fst < (↑l.length : Int)))
   (.ob ((0 : Int) ≤ y2.snd.fst ∧ y2.snd.fst < (↑l.length : Int)) <|
    .ob (fszAddr.pre (l.getD y2.snd.fst.toNat default, y2.fst, ())) <|
    .lt (Int × PUnit) (fszAddr.fn (l.getD y2.snd.fst.toNat default, y2.fst, ())) fun z2 =>
    .br (decide (z2.fst < (0 : Int)))
     (.leaf (mkR fszAddrS.rs ((-1 : Int), ())) [] [])
     (.ob (l = l) <|
      .ob (Value.bool (decide (IntKind.i64.wrap (n - (↑l.length : Int)) < (0 : Int))) =
  Value.bool (decide (IntKind.i64.wrap (n - (↑l.length : Int)) < (0 : Int)))) <|
      .ob (bk2 (z2.fst, (IntKind.i64.wrap (y2.snd.fst + (1 : Int)), ()))) <|
      .ok))
   (.leaf (mkR fszAddrS.rs (y2.fst, ())) [] []))) (by kernel_rfl) ?_
  refine br_i (fun h1 => Fct.leafY ?_) (fun h1 => lpx_i ?_ fun (y2 : Int × Int × PUnit) i2 => br_i (fun h3 => ob_i ?_ fun o4 => ob_i ?_ fun o5 => lt_i (br_i (fun h6 => Fct.leafY ?_) (fun h6 => ob_i rfl fun _ => ob_i rfl fun _ => ob_i ?_ fun o7 => trivial))) (fun h3 => Fct.leafY ?_))
  all_goals try simp only [decide_eq_true_eq, decide_eq_false_iff_not, Bool.not_eq_true', Bool.not_eq_false', bne_iff_ne, bne_eq_false_iff_eq, beq_iff_eq, beq_eq_false_iff_ne, baEq, Int.not_lt, Int.not_le, ne_eq, Decidable.not_not] at *
  all_goals try simp only [LszS, fszAddr, fszAddrS, baSz, List.size_toArray, List.length_cons, List.length_nil, Nat.reduceAdd, Int.toNat_zero, List.drop_zero, decide_eq_true_eq, decide_eq_false_iff_not, Bool.not_eq_true', Bool.not_eq_false', bne_iff_ne, bne_eq_false_iff_eq, beq_iff_eq, beq_eq_false_iff_ne, Bool.not_eq_true, Bool.not_eq_false, ne_eq, Decidable.not_not, baEq, decide_not, Prod.mk.injEq, and_true, true_and, Room, List.nil_append, Nat.zero_add, Int.not_lt, Int.not_le] at *
  · have := good_len hp.1; simp only [maxLen] at this; rw [wrapId (by omega)] at h1
    rw [lessenNeg (by simp only [szL]; omega)]
  · have := good_len hp.1; simp only [maxLen] at this
    rw [wrapId (by omega)] at h1 ⊢
    exact ⟨by omega, by omega, h1, by simp⟩
  · omega
  · exact ⟨good_getD hp.1 (by omega), by omega, by omega⟩
  · have hs := sum_take_le szAddr l (y2.2.1.toNat + 1)
    rw [sum_take szAddr (by omega)] at hs
    rw [lessen_lt (by omega)] at h6
    rw [lessenNeg (by simp only [szL]; omega)]
  · have hw : IntKind.i64.wrap (y2.2.1 + 1) = y2.2.1 + 1 := wrapId (by have := good_len hp.1; simp only [maxLen] at this; omega)
    have h7 : ¬ lessen y2.1 (szAddr (l.getD y2.2.1.toNat default)) < 0 := by omega
    rw [lessen_lt (by omega)] at h7
    rw [hw, toNat1 (by omega), sum_take szAddr (by omega), lessen_ge (by omega)]
    exact ⟨⟨by omega, by omega, by omega, by omega⟩, by omega⟩
  · have e : l.take y2.2.1.toNat = l := List.take_of_length_le (by omega)
    rw [e] at i2
    have hz : ((szL szAddr l : Nat) : Int) = l.length + (l.map szAddr).sum := by simp only [szL]; omega
    rw [lessen_ge (by omega)]
    show y2.1 = n - ((szL szAddr l : Nat) : Int)
    omega)
def E10 : D.Env := E9.add 50 fszAddrS
theorem E10ok : EOk Try.prog E10 := E9ok.add k50_9
-- laws.toAddrS
theorem k61_10 : ftoAddrS.ok Try.prog 61 := Fct.of (S := ftoAddrS) (L := fun ⟨l, _⟩ => fun | 3 => some (LtoS .addr l) | _ => none) (kp := [0,2,3,4,11]) E10ok Try.func61 (by kernel_rfl) (by kernel_rfl) (by
  rintro ⟨(l : List SAddr), _⟩ hp
  refine holds_of (X := .ob ((↑l.length : Int) = (↑l.length : Int) ∧
  (0 : Int) ≤ (↑l.length : Int) ∧
    (32 : Int) * (↑l.length : Int) ≤ (140737488355328 : Int) ∧ (↑l.length : Int) ≤ (140737488355328 : Int)) <|
 lpx (LtoS .addr l) ((0 : Int), (List.replicate (↑l.length : Int).toNat default, ())) fun (y2 : Int × List SAddr × PUnit) bk2 =>
 .br (decide (y2.fst < (↑l.length : Int)))
  (.ob ((0 : Int) ≤ y2.fst ∧ y2.fst < (↑l.length : Int)) <|
   .ob (ftoAddr.pre (l.getD y2.fst.toNat default, ())) <|
   .lt (SAddr × PUnit) (ftoAddr.fn (l.getD y2.fst.toNat default, ())) fun z2 =>
   .ob ((0 : Int) ≤ y2.fst ∧ y2.fst < (↑y2.snd.fst.length : Int)) <|
    .ob (y2.fst.toNat < y2.snd.fst.length) <|
    .lt (List SAddr) (y2.snd.fst.modify y2.fst.toNat fun z => z2.fst) fun z3 =>
    .ob (l = l) <|
     .ob (bk2 (IntKind.i64.wrap (y2.fst + (1 : Int)), (z3, ()))) <|
     .ok)
  (.leaf (mkR ftoAddrS.rs (y2.snd.fst, ())) [] [])) (by kernel_rfl) ?_
  refine ob_i ?_ fun o1 => lpx_i ?_ fun (y2 : Int × List SAddr × PUnit) i2 => br_i (fun h3 => ob_i ?_ fun o4 => ob_i ?_ fun o5 => lt_i (ob_i ?_ fun o6 => ob_i ?_ fun o7 => lt_i (ob_i rfl fun _ => ob_i ?_ fun o8 => trivial))) (fun h3 => Fct.leafY ?_)
  all_goals try simp only [decide_eq_true_eq, decide_eq_false_iff_not, Bool.not_eq_true', Bool.not_eq_false', bne_iff_ne, bne_eq_false_iff_eq, beq_iff_eq, beq_eq_false_iff_ne, baEq, Int.not_lt, Int.not_le, ne_eq, Decidable.not_not] at *
  all_goals try simp only [LtoS, ftoAddr, ftoAddrS, baSz, List.size_toArray, List.length_cons, List.length_nil, Nat.reduceAdd, Int.toNat_zero, List.drop_zero, decide_eq_true_eq, decide_eq_false_iff_not, Bool.not_eq_true', Bool.not_eq_false', bne_iff_ne, bne_eq_false_iff_eq, beq_iff_eq, beq_eq_false_iff_ne, Bool.not_eq_true, Bool.not_eq_false, ne_eq, Decidable.not_not, baEq, decide_not, Prod.mk.injEq, and_true, true_and, Room, List.nil_append, Nat.zero_add, Int.not_lt, Int.not_le] at *
  · have := szL_len szAddr l; omega
  · exact ⟨by omega, by omega, by simp⟩
  · omega
  · have hs := sum_take_le szAddr l (y2.1.toNat + 1)
    rw [sum_take szAddr (by omega)] at hs
    simp only [szL] at hp; omega
  · rw [i2.2.2]; simp; omega
  · rw [i2.2.2]; simp; omega
  · have hw : IntKind.i64.wrap (y2.1 + 1) = y2.1 + 1 := wrapId (by have := szL_len szAddr l; omega)
    rw [hw, toNat1 (by omega), i2.2.2]
    refine ⟨⟨by omega, by omega, ?_⟩, by omega⟩
    rw [show l.length - y2.1.toNat = (l.length - (y2.1.toNat + 1)) + 1 from by omega, List.replicate_succ, mod_at (by simp; omega), take_succ (by omega)]
    simp
  · have e : l.take y2.1.toNat = l := List.take_of_length_le (by omega)
    rw [i2.2.2, e]; simp; omega)
def E11 : D.Env := E10.add 61 ftoAddrS
theorem E11ok : EOk Try.prog E11 := E10ok.add k61_10
-- laws.eqAddrS
set_option maxHeartbeats 2000000 in
theorem k25_11 : feqAddrS.ok Try.prog 25 := Fct.of (S := feqAddrS) (L := fun ⟨l, m, _⟩ => fun | 4 => some (LeqS .addr l m) | _ => none) (kp := [0,1,4,5,10,14,26]) E11ok Try.func25 (by kernel_rfl) (by kernel_rfl) (by
  rintro ⟨(l : List SAddr), (m : List SAddr), _⟩ hp
  refine holds_of (X := .br ((↑l.length : Int) != (↑m.length : Int))
 (.leaf (mkR feqAddrS.rs (false, ())) [] [])
 (lpx (LeqS .addr l m) ((0 : Int), ()) fun (y2 : Int × PUnit) bk2 =>
  .br (decide (y2.fst < (↑l.length : Int)))
   (.ob ((0 : Int) ≤ y2.fst ∧ y2.fst < (↑l.length : Int)) <|
    .ob ((0 : Int) ≤ y2.fst ∧ y2.fst < (↑m.length : Int)) <|
    .ob (feqAddr.pre (l.getD y2.fst.toNat default, m.getD y2.fst.toNat default, ())) <|
    .lt (Bool × PUnit) (feqAddr.fn (l.getD y2.fst.toNat default, m.getD y2.fst.toNat default, ())) fun z2 =>
    .br (!z2.fst)
     (.leaf (mkR feqAddrS.rs (false, ())) [] [])
     (.ob (l = l) <|
      .ob (m = m) <|
      .ob (Value.bool ((↑l.length : Int) != (↑m.length : Int)) = Value.bool ((↑l.length : Int) != (↑m.length : Int))) <|
      .ob (bk2 (IntKind.i64.wrap (y2.fst + (1 : Int)), ())) <|
      .ok))
   (.leaf (mkR feqAddrS.rs (true, ())) [] []))) (by kernel_rfl) ?_
  refine br_i (fun h1 => Fct.leafY ?_) (fun h1 => lpx_i ?_ fun (y2 : Int × PUnit) i2 => br_i (fun h3 => ob_i ?_ fun o4 => ob_i ?_ fun o5 => ob_i trivial fun _ => lt_i (br_i (fun h6 => Fct.leafY ?_) (fun h6 => ob_i rfl fun _ => ob_i rfl fun _ => ob_i rfl fun _ => ob_i ?_ fun o7 => trivial))) (fun h3 => Fct.leafY ?_))
  all_goals try simp only [decide_eq_true_eq, decide_eq_false_iff_not, Bool.not_eq_true', Bool.not_eq_false', bne_iff_ne, bne_eq_false_iff_eq, beq_iff_eq, beq_eq_false_iff_ne, baEq, Int.not_lt, Int.not_le, ne_eq, Decidable.not_not] at *
  all_goals try simp only [LeqS, feqAddr, feqAddrS, baSz, List.size_toArray, List.length_cons, List.length_nil, Nat.reduceAdd, Int.toNat_zero, List.drop_zero, decide_eq_true_eq, decide_eq_false_iff_not, Bool.not_eq_true', Bool.not_eq_false', bne_iff_ne, bne_eq_false_iff_eq, beq_iff_eq, beq_eq_false_iff_ne, Bool.not_eq_true, Bool.not_eq_false, ne_eq, Decidable.not_not, baEq, decide_not, Prod.mk.injEq, and_true, true_and, Room, List.nil_append, Nat.zero_add, Int.not_lt, Int.not_le] at *
  · rw [decide_eq_false]; rintro rfl; omega
  · exact ⟨by omega, by omega, by simp⟩
  · omega
  · omega
  · rw [decide_eq_false]; rintro rfl; exact absurd rfl h6
  · have hw : IntKind.i64.wrap (y2.1 + 1) = y2.1 + 1 := wrapId (by omega)
    rw [hw, toNat1 (by omega)]
    refine ⟨⟨by omega, by omega, ?_⟩, by omega⟩
    rw [take_succ (by omega), take_succ (by omega), i2.2.2, h6]
  · have e : l.take y2.1.toNat = l := List.take_of_length_le (by omega)
    have e2 : m.take y2.1.toNat = m := List.take_of_length_le (by omega)
    rw [decide_eq_true]; rw [← e, ← e2, i2.2.2])
def E12 : D.Env := E11.add 25 feqAddrS
theorem E12ok : EOk Try.prog E12 := E11ok.add k25_11
-- laws.szAttr
set_option maxHeartbeats 2000000 in
theorem k188_12 : fszAttr.ok Try.prog 188 := Fct.of (S := fszAttr) (L := fun _ _ => none) (kp := [0,1,2,4,11,18]) E12ok Try.func188 (by kernel_rfl) (by kernel_rfl) (by
  rintro ⟨(x : SAttr), (n : Int), _⟩ hp
  refine holds_of (X := .br (decide (IntKind.i64.wrap (n - (↑x.name.size : Int)) < (0 : Int)))
 (.leaf (mkR fszAttr.rs ((-1 : Int), ())) [] [])
 (.br (decide (IntKind.i64.wrap (IntKind.i64.wrap (n - (↑x.name.size : Int)) - (↑x.value.size : Int)) < (0 : Int)))
  (.leaf (mkR fszAttr.rs ((-1 : Int), ())) [] [])
  (.leaf (mkR fszAttr.rs (IntKind.i64.wrap (IntKind.i64.wrap (n - (↑x.name.size : Int)) - (↑x.value.size : Int)), ())) [] []))) (by kernel_rfl) ?_
  refine br_i (fun h1 => Fct.leafY ?_) (fun h1 => br_i (fun h2 => Fct.leafY ?_) (fun h2 => Fct.leafY ?_))
  all_goals try simp only [decide_eq_true_eq, decide_eq_false_iff_not, Bool.not_eq_true', Bool.not_eq_false', bne_iff_ne, bne_eq_false_iff_eq, beq_iff_eq, beq_eq_false_iff_ne, baEq, Int.not_lt, Int.not_le, ne_eq, Decidable.not_not] at *
  all_goals try simp only [fszAttr, baSz, List.size_toArray, List.length_cons, List.length_nil, Nat.reduceAdd, Int.toNat_zero, List.drop_zero, decide_eq_true_eq, decide_eq_false_iff_not, Bool.not_eq_true', Bool.not_eq_false', bne_iff_ne, bne_eq_false_iff_eq, beq_iff_eq, beq_eq_false_iff_ne, Bool.not_eq_true, Bool.not_eq_false, ne_eq, Decidable.not_not, baEq, decide_not, Prod.mk.injEq, and_true, true_and, Room, List.nil_append, Nat.zero_add, Int.not_lt, Int.not_le, Sh.good, Sh.fc, enc, List.forall_mem_cons, List.not_mem_nil, false_implies, implies_true, goodC, maxLen] at *
  all_goals grind [wrapId', lessen, szAttr])
def E13 : D.Env := E12.add 188 fszAttr
theorem E13ok : EOk Try.prog E13 := E12ok.add k188_12
-- laws.toAttr
theorem k189_13 : ftoAttr.ok Try.prog 189 := Fct.of (S := ftoAttr) (L := fun _ _ => none) (kp := [0,1,2,3]) E13ok Try.func189 (by kernel_rfl) (by kernel_rfl) (by
  rintro ⟨(x : SAttr), _⟩ hp
  refine holds_of (X := .leaf (mkR ftoAttr.rs (x, ())) [] []) (by kernel_rfl) ?_
  refine Fct.leafY ?_
  all_goals try simp only [decide_eq_true_eq, decide_eq_false_iff_not, Bool.not_eq_true', Bool.not_eq_false', bne_iff_ne, bne_eq_false_iff_eq, beq_iff_eq, beq_eq_false_iff_ne, baEq, Int.not_lt, Int.not_le, ne_eq, Decidable.not_not] at *
  all_goals try simp only [ftoAttr, baSz, List.size_toArray, List.length_cons, List.length_nil, Nat.reduceAdd, Int.toNat_zero, List.drop_zero, decide_eq_true_eq, decide_eq_false_iff_not, Bool.not_eq_true', Bool.not_eq_false', bne_iff_ne, bne_eq_false_iff_eq, beq_iff_eq, beq_eq_false_iff_ne, Bool.not_eq_true, Bool.not_eq_false, ne_eq, Decidable.not_not, baEq, decide_not, Prod.mk.injEq, and_true, true_and, Room, List.nil_append, Nat.zero_add, Int.not_lt, Int.not_le] at *
  all_goals first | trivial | rfl | grind [szAttr])
def E14 : D.Env := E13.add 189 ftoAttr
theorem E14ok : EOk Try.prog E14 := E13ok.add k189_13
-- laws.eqAttr
set_option maxHeartbeats 2000000 in
theorem k190_14 : feqAttr.ok Try.prog 190 := Fct.of (S := feqAttr) (L := fun _ _ => none) (kp := [0,1,2,3,4,9,14]) E14ok Try.func190 (by kernel_rfl) (by kernel_rfl) (by
  rintro ⟨(x : SAttr), (y : SAttr), _⟩ hp
  refine holds_of (X := .br (!x.name.toList == y.name.toList)
 (.leaf (mkR feqAttr.rs (false, ())) [] [])
 (.br (!x.value.toList == y.value.toList)
  (.leaf (mkR feqAttr.rs (false, ())) [] [])
  (.leaf (mkR feqAttr.rs (true, ())) [] []))) (by kernel_rfl) ?_
  refine br_i (fun h1 => Fct.leafY ?_) (fun h1 => br_i (fun h2 => Fct.leafY ?_) (fun h2 => Fct.leafY ?_))
  all_goals try simp only [decide_eq_true_eq, decide_eq_false_iff_not, Bool.not_eq_true', Bool.not_eq_false', bne_iff_ne, bne_eq_false_iff_eq, beq_iff_eq, beq_eq_false_iff_ne, baEq, Int.not_lt, Int.not_le, ne_eq, Decidable.not_not] at *
  all_goals try simp only [feqAttr, baSz, List.size_toArray, List.length_cons, List.length_nil, Nat.reduceAdd, Int.toNat_zero, List.drop_zero, decide_eq_true_eq, decide_eq_false_iff_not, Bool.not_eq_true', Bool.not_eq_false', bne_iff_ne, bne_eq_false_iff_eq, beq_iff_eq, beq_eq_false_iff_ne, Bool.not_eq_true, Bool.not_eq_false, ne_eq, Decidable.not_not, baEq, decide_not, Prod.mk.injEq, and_true, true_and, Room, List.nil_append, Nat.zero_add, Int.not_lt, Int.not_le] at *
  all_goals first | trivial | (cases x; cases y; simp_all; done) | (simp only [szAttr] at *; omega) | grind [szAttr])
def E15 : D.Env := E14.add 190 feqAttr
theorem E15ok : EOk Try.prog E15 := E14ok.add k190_14
-- laws.szAttrS
set_option maxHeartbeats 2000000 in
theorem k157_15 : fszAttrS.ok Try.prog 157 := Fct.of (S := fszAttrS) (L := fun ⟨l, n, _⟩ => fun | 5 => some (LszS .attr szAttr l n) | _ => none) (kp := [0,1,4,5,11,15,25]) E15ok Try.func157 (by kernel_rfl) (by kernel_rfl) (by
  rintro ⟨(l : List SAttr), (n : Int), _⟩ hp
  refine holds_of (X := .br (decide (IntKind.i64.wrap (n - (↑l.length : Int)) < (0 : Int)))
 (.leaf (mkR fszAttrS.rs ((-1 : Int), ())) [] [])
 (lpx (LszS .attr szAttr l n) (IntKind.i64.wrap (n - (↑l.length : Int)), ((0 : Int), ())) fun (y2 : Int × Int × PUnit) bk2 =>
  .br (decide (y2.snd.fst < (↑l.length : Int)))
   (.ob ((0 : Int) ≤ y2.snd.fst ∧ y2.snd.fst < (↑l.length : Int)) <|
    .ob (fszAttr.pre (l.getD y2.snd.fst.toNat default, y2.fst, ())) <|
    .lt (Int × PUnit) (fszAttr.fn (l.getD y2.snd.fst.toNat default, y2.fst, ())) fun z2 =>
    .br (decide (z2.fst < (0 : Int)))
     (.leaf (mkR fszAttrS.rs ((-1 : Int), ())) [] [])
     (.ob (l = l) <|
      .ob (Value.bool (decide (IntKind.i64.wrap (n - (↑l.length : Int)) < (0 : Int))) =
  Value.bool (decide (IntKind.i64.wrap (n - (↑l.length : Int)) < (0 : Int)))) <|
      .ob (bk2 (z2.fst, (IntKind.i64.wrap (y2.snd.fst + (1 : Int)), ()))) <|
      .ok))
   (.leaf (mkR fszAttrS.rs (y2.fst, ())) [] []))) (by kernel_rfl) ?_
  refine br_i (fun h1 => Fct.leafY ?_) (fun h1 => lpx_i ?_ fun (y2 : Int × Int × PUnit) i2 => br_i (fun h3 => ob_i ?_ fun o4 => ob_i ?_ fun o5 => lt_i (br_i (fun h6 => Fct.leafY ?_) (fun h6 => ob_i rfl fun _ => ob_i rfl fun _ => ob_i ?_ fun o7 => trivial))) (fun h3 => Fct.leafY ?_))
  all_goals try simp only [decide_eq_true_eq, decide_eq_false_iff_not, Bool.not_eq_true', Bool.not_eq_false', bne_iff_ne, bne_eq_false_iff_eq, beq_iff_eq, beq_eq_false_iff_ne, baEq, Int.not_lt, Int.not_le, ne_eq, Decidable.not_not] at *
  all_goals try simp only [LszS, fszAttr, fszAttrS, baSz, List.size_toArray, List.length_cons, List.length_nil, Nat.reduceAdd, Int.toNat_zero, List.drop_zero, decide_eq_true_eq, decide_eq_false_iff_not, Bool.not_eq_true', Bool.not_eq_false', bne_iff_ne, bne_eq_false_iff_eq, beq_iff_eq, beq_eq_false_iff_ne, Bool.not_eq_true, Bool.not_eq_false, ne_eq, Decidable.not_not, baEq, decide_not, Prod.mk.injEq, and_true, true_and, Room, List.nil_append, Nat.zero_add, Int.not_lt, Int.not_le] at *
  · have := good_len hp.1; simp only [maxLen] at this; rw [wrapId (by omega)] at h1
    rw [lessenNeg (by simp only [szL]; omega)]
  · have := good_len hp.1; simp only [maxLen] at this
    rw [wrapId (by omega)] at h1 ⊢
    exact ⟨by omega, by omega, h1, by simp⟩
  · omega
  · exact ⟨good_getD hp.1 (by omega), by omega, by omega⟩
  · have hs := sum_take_le szAttr l (y2.2.1.toNat + 1)
    rw [sum_take szAttr (by omega)] at hs
    rw [lessen_lt (by omega)] at h6
    rw [lessenNeg (by simp only [szL]; omega)]
  · have hw : IntKind.i64.wrap (y2.2.1 + 1) = y2.2.1 + 1 := wrapId (by have := good_len hp.1; simp only [maxLen] at this; omega)
    have h7 : ¬ lessen y2.1 (szAttr (l.getD y2.2.1.toNat default)) < 0 := by omega
    rw [lessen_lt (by omega)] at h7
    rw [hw, toNat1 (by omega), sum_take szAttr (by omega), lessen_ge (by omega)]
    exact ⟨⟨by omega, by omega, by omega, by omega⟩, by omega⟩
  · have e : l.take y2.2.1.toNat = l := List.take_of_length_le (by omega)
    rw [e] at i2
    have hz : ((szL szAttr l : Nat) : Int) = l.length + (l.map szAttr).sum := by simp only [szL]; omega
    rw [lessen_ge (by omega)]
    show y2.1 = n - ((szL szAttr l : Nat) : Int)
    omega)
def E16 : D.Env := E15.add 157 fszAttrS
theorem E16ok : EOk Try.prog E16 := E15ok.add k157_15
-- laws.toAttrS
theorem k160_16 : ftoAttrS.ok Try.prog 160 := Fct.of (S := ftoAttrS) (L := fun ⟨l, _⟩ => fun | 3 => some (LtoS .attr l) | _ => none) (kp := [0,2,3,4,11]) E16ok Try.func160 (by kernel_rfl) (by kernel_rfl) (by
  rintro ⟨(l : List SAttr), _⟩ hp
  refine holds_of (X := .ob ((↑l.length : Int) = (↑l.length : Int) ∧
  (0 : Int) ≤ (↑l.length : Int) ∧
    (32 : Int) * (↑l.length : Int) ≤ (140737488355328 : Int) ∧ (↑l.length : Int) ≤ (140737488355328 : Int)) <|
 lpx (LtoS .attr l) ((0 : Int), (List.replicate (↑l.length : Int).toNat default, ())) fun (y2 : Int × List SAttr × PUnit) bk2 =>
 .br (decide (y2.fst < (↑l.length : Int)))
  (.ob ((0 : Int) ≤ y2.fst ∧ y2.fst < (↑l.length : Int)) <|
   .ob (ftoAttr.pre (l.getD y2.fst.toNat default, ())) <|
   .lt (SAttr × PUnit) (ftoAttr.fn (l.getD y2.fst.toNat default, ())) fun z2 =>
   .ob ((0 : Int) ≤ y2.fst ∧ y2.fst < (↑y2.snd.fst.length : Int)) <|
    .ob (y2.fst.toNat < y2.snd.fst.length) <|
    .lt (List SAttr) (y2.snd.fst.modify y2.fst.toNat fun z => z2.fst) fun z3 =>
    .ob (l = l) <|
     .ob (bk2 (IntKind.i64.wrap (y2.fst + (1 : Int)), (z3, ()))) <|
     .ok)
  (.leaf (mkR ftoAttrS.rs (y2.snd.fst, ())) [] [])) (by kernel_rfl) ?_
  refine ob_i ?_ fun o1 => lpx_i ?_ fun (y2 : Int × List SAttr × PUnit) i2 => br_i (fun h3 => ob_i ?_ fun o4 => ob_i ?_ fun o5 => lt_i (ob_i ?_ fun o6 => ob_i ?_ fun o7 => lt_i (ob_i rfl fun _ => ob_i ?_ fun o8 => trivial))) (fun h3 => Fct.leafY ?_)
  all_goals try simp only [decide_eq_true_eq, decide_eq_false_iff_not, Bool.not_eq_true', Bool.not_eq_false', bne_iff_ne, bne_eq_false_iff_eq, beq_iff_eq, beq_eq_false_iff_ne, baEq, Int.not_lt, Int.not_le, ne_eq, Decidable.not_not] at *
  all_goals try simp only [LtoS, ftoAttr, ftoAttrS, baSz, List.size_toArray, List.length_cons, List.length_nil, Nat.reduceAdd, Int.toNat_zero, List.drop_zero, decide_eq_true_eq, decide_eq_false_iff_not, Bool.not_eq_true', Bool.not_eq_false', bne_iff_ne, bne_eq_false_iff_eq, beq_iff_eq, beq_eq_false_iff_ne, Bool.not_eq_true, Bool.not_eq_false, ne_eq, Decidable.not_not, baEq, decide_not, Prod.mk.injEq, and_true, true_and, Room, List.nil_append, Nat.zero_add, Int.not_lt, Int.not_le] at *
  · have := szL_len szAttr l; omega
  · exact ⟨by omega, by omega, by simp⟩
  · omega
  · have hs := sum_take_le szAttr l (y2.1.toNat + 1)
    rw [sum_take szAttr (by omega)] at hs
    simp only [szL] at hp; omega
  · rw [i2.2.2]; simp; omega
  · rw [i2.2.2]; simp; omega
  · have hw : IntKind.i64.wrap (y2.1 + 1) = y2.1 + 1 := wrapId (by have := szL_len szAttr l; omega)
    rw [hw, toNat1 (by omega), i2.2.2]
    refine ⟨⟨by omega, by omega, ?_⟩, by omega⟩
    rw [show l.length - y2.1.toNat = (l.length - (y2.1.toNat + 1)) + 1 from by omega, List.replicate_succ, mod_at (by simp; omega), take_succ (by omega)]
    simp
  · have e : l.take y2.1.toNat = l := List.take_of_length_le (by omega)
    rw [i2.2.2, e]; simp; omega)
def E17 : D.Env := E16.add 160 ftoAttrS
theorem E17ok : EOk Try.prog E17 := E16ok.add k160_16
-- laws.eqAttrS
set_option maxHeartbeats 2000000 in
theorem k162_17 : feqAttrS.ok Try.prog 162 := Fct.of (S := feqAttrS) (L := fun ⟨l, m, _⟩ => fun | 4 => some (LeqS .attr l m) | _ => none) (kp := [0,1,4,5,10,14,26]) E17ok Try.func162 (by kernel_rfl) (by kernel_rfl) (by
  rintro ⟨(l : List SAttr), (m : List SAttr), _⟩ hp
  refine holds_of (X := .br ((↑l.length : Int) != (↑m.length : Int))
 (.leaf (mkR feqAttrS.rs (false, ())) [] [])
 (lpx (LeqS .attr l m) ((0 : Int), ()) fun (y2 : Int × PUnit) bk2 =>
  .br (decide (y2.fst < (↑l.length : Int)))
   (.ob ((0 : Int) ≤ y2.fst ∧ y2.fst < (↑l.length : Int)) <|
    .ob ((0 : Int) ≤ y2.fst ∧ y2.fst < (↑m.length : Int)) <|
    .ob (feqAttr.pre (l.getD y2.fst.toNat default, m.getD y2.fst.toNat default, ())) <|
    .lt (Bool × PUnit) (feqAttr.fn (l.getD y2.fst.toNat default, m.getD y2.fst.toNat default, ())) fun z2 =>
    .br (!z2.fst)
     (.leaf (mkR feqAttrS.rs (false, ())) [] [])
     (.ob (l = l) <|
      .ob (m = m) <|
      .ob (Value.bool ((↑l.length : Int) != (↑m.length : Int)) = Value.bool ((↑l.length : Int) != (↑m.length : Int))) <|
      .ob (bk2 (IntKind.i64.wrap (y2.fst + (1 : Int)), ())) <|
      .ok))
   (.leaf (mkR feqAttrS.rs (true, ())) [] []))) (by kernel_rfl) ?_
  refine br_i (fun h1 => Fct.leafY ?_) (fun h1 => lpx_i ?_ fun (y2 : Int × PUnit) i2 => br_i (fun h3 => ob_i ?_ fun o4 => ob_i ?_ fun o5 => ob_i trivial fun _ => lt_i (br_i (fun h6 => Fct.leafY ?_) (fun h6 => ob_i rfl fun _ => ob_i rfl fun _ => ob_i rfl fun _ => ob_i ?_ fun o7 => trivial))) (fun h3 => Fct.leafY ?_))
  all_goals try simp only [decide_eq_true_eq, decide_eq_false_iff_not, Bool.not_eq_true', Bool.not_eq_false', bne_iff_ne, bne_eq_false_iff_eq, beq_iff_eq, beq_eq_false_iff_ne, baEq, Int.not_lt, Int.not_le, ne_eq, Decidable.not_not] at *
  all_goals try simp only [LeqS, feqAttr, feqAttrS, baSz, List.size_toArray, List.length_cons, List.length_nil, Nat.reduceAdd, Int.toNat_zero, List.drop_zero, decide_eq_true_eq, decide_eq_false_iff_not, Bool.not_eq_true', Bool.not_eq_false', bne_iff_ne, bne_eq_false_iff_eq, beq_iff_eq, beq_eq_false_iff_ne, Bool.not_eq_true, Bool.not_eq_false, ne_eq, Decidable.not_not, baEq, decide_not, Prod.mk.injEq, and_true, true_and, Room, List.nil_append, Nat.zero_add, Int.not_lt, Int.not_le] at *
  · rw [decide_eq_false]; rintro rfl; omega
  · exact ⟨by omega, by omega, by simp⟩
  · omega
  · omega
  · rw [decide_eq_false]; rintro rfl; exact absurd rfl h6
  · have hw : IntKind.i64.wrap (y2.1 + 1) = y2.1 + 1 := wrapId (by omega)
    rw [hw, toNat1 (by omega)]
    refine ⟨⟨by omega, by omega, ?_⟩, by omega⟩
    rw [take_succ (by omega), take_succ (by omega), i2.2.2, h6]
  · have e : l.take y2.1.toNat = l := List.take_of_length_le (by omega)
    have e2 : m.take y2.1.toNat = m := List.take_of_length_le (by omega)
    rw [decide_eq_true]; rw [← e, ← e2, i2.2.2])
def E18 : D.Env := E17.add 162 feqAttrS
theorem E18ok : EOk Try.prog E18 := E17ok.add k162_17
-- laws.szToken
set_option maxHeartbeats 2000000 in
theorem k109_18 : fszToken.ok Try.prog 109 := Fct.of (S := fszToken) (L := fun _ _ => none) (kp := [0,1,2,4,11,17,24]) E18ok Try.func109 (by kernel_rfl) (by kernel_rfl) (by
  rintro ⟨(x : SToken), (n : Int), _⟩ hp
  refine holds_of (X := .br (decide (IntKind.i64.wrap (n - (↑x.name.size : Int)) < (0 : Int)))
 (.leaf (mkR fszToken.rs ((-1 : Int), ())) [] [])
 (.ob (fszAttrS.pre (x.attrs, IntKind.i64.wrap (n - (↑x.name.size : Int)), ())) <|
  .lt (Int × PUnit) (fszAttrS.fn (x.attrs, IntKind.i64.wrap (n - (↑x.name.size : Int)), ())) fun z2 =>
  .br (decide (z2.fst < (0 : Int)))
   (.leaf (mkR fszToken.rs ((-1 : Int), ())) [] [])
   (.br (decide (IntKind.i64.wrap (z2.fst - (↑x.text.size : Int)) < (0 : Int)))
    (.leaf (mkR fszToken.rs ((-1 : Int), ())) [] [])
    (.leaf (mkR fszToken.rs (IntKind.i64.wrap (z2.fst - (↑x.text.size : Int)), ())) [] [])))) (by kernel_rfl) ?_
  refine br_i (fun h1 => Fct.leafY ?_) (fun h1 => ob_i ?_ fun o2 => lt_i (br_i (fun h3 => Fct.leafY ?_) (fun h3 => br_i (fun h4 => Fct.leafY ?_) (fun h4 => Fct.leafY ?_))))
  all_goals try simp only [decide_eq_true_eq, decide_eq_false_iff_not, Bool.not_eq_true', Bool.not_eq_false', bne_iff_ne, bne_eq_false_iff_eq, beq_iff_eq, beq_eq_false_iff_ne, baEq, Int.not_lt, Int.not_le, ne_eq, Decidable.not_not] at *
  all_goals try simp only [fszAttrS, fszToken, baSz, List.size_toArray, List.length_cons, List.length_nil, Nat.reduceAdd, Int.toNat_zero, List.drop_zero, decide_eq_true_eq, decide_eq_false_iff_not, Bool.not_eq_true', Bool.not_eq_false', bne_iff_ne, bne_eq_false_iff_eq, beq_iff_eq, beq_eq_false_iff_ne, Bool.not_eq_true, Bool.not_eq_false, ne_eq, Decidable.not_not, baEq, decide_not, Prod.mk.injEq, and_true, true_and, Room, List.nil_append, Nat.zero_add, Int.not_lt, Int.not_le, Sh.good, Sh.fc, enc, List.forall_mem_cons, List.not_mem_nil, false_implies, implies_true, goodC, maxLen] at *
  all_goals grind [wrapId', lessen, szL, szToken])
def E19 : D.Env := E18.add 109 fszToken
theorem E19ok : EOk Try.prog E19 := E18ok.add k109_18
-- laws.toToken
theorem k115_19 : ftoToken.ok Try.prog 115 := Fct.of (S := ftoToken) (L := fun _ _ => none) (kp := [0,1,2,3]) E19ok Try.func115 (by kernel_rfl) (by kernel_rfl) (by
  rintro ⟨(x : SToken), _⟩ hp
  refine holds_of (X := .ob (ftoAttrS.pre (x.attrs, ())) <|
 .lt (List SAttr × PUnit) (ftoAttrS.fn (x.attrs, ())) fun z2 =>
 .leaf (mkR ftoToken.rs (⟨x.kind, x.name, z2.fst, x.text⟩, ())) [] []) (by kernel_rfl) ?_
  refine ob_i ?_ fun o1 => lt_i (Fct.leafY ?_)
  all_goals try simp only [decide_eq_true_eq, decide_eq_false_iff_not, Bool.not_eq_true', Bool.not_eq_false', bne_iff_ne, bne_eq_false_iff_eq, beq_iff_eq, beq_eq_false_iff_ne, baEq, Int.not_lt, Int.not_le, ne_eq, Decidable.not_not] at *
  all_goals try simp only [ftoAttrS, ftoToken, baSz, List.size_toArray, List.length_cons, List.length_nil, Nat.reduceAdd, Int.toNat_zero, List.drop_zero, decide_eq_true_eq, decide_eq_false_iff_not, Bool.not_eq_true', Bool.not_eq_false', bne_iff_ne, bne_eq_false_iff_eq, beq_iff_eq, beq_eq_false_iff_ne, Bool.not_eq_true, Bool.not_eq_false, ne_eq, Decidable.not_not, baEq, decide_not, Prod.mk.injEq, and_true, true_and, Room, List.nil_append, Nat.zero_add, Int.not_lt, Int.not_le] at *
  all_goals first | trivial | rfl | grind [szL, szToken])
def E20 : D.Env := E19.add 115 ftoToken
theorem E20ok : EOk Try.prog E20 := E19ok.add k115_19
-- laws.eqToken
set_option maxHeartbeats 2000000 in
theorem k121_20 : feqToken.ok Try.prog 121 := Fct.of (S := feqToken) (L := fun _ _ => none) (kp := [0,1,2,3,4,9,14,20,25]) E20ok Try.func121 (by kernel_rfl) (by kernel_rfl) (by
  rintro ⟨(x : SToken), (y : SToken), _⟩ hp
  refine holds_of (X := .br (x.kind != y.kind)
 (.leaf (mkR feqToken.rs (false, ())) [] [])
 (.br (!x.name.toList == y.name.toList)
  (.leaf (mkR feqToken.rs (false, ())) [] [])
  (.ob (feqAttrS.pre (x.attrs, y.attrs, ())) <|
   .lt (Bool × PUnit) (feqAttrS.fn (x.attrs, y.attrs, ())) fun z2 =>
   .br (!z2.fst)
    (.leaf (mkR feqToken.rs (false, ())) [] [])
    (.br (!x.text.toList == y.text.toList)
     (.leaf (mkR feqToken.rs (false, ())) [] [])
     (.leaf (mkR feqToken.rs (true, ())) [] []))))) (by kernel_rfl) ?_
  refine br_i (fun h1 => Fct.leafY ?_) (fun h1 => br_i (fun h2 => Fct.leafY ?_) (fun h2 => ob_i ?_ fun o3 => lt_i (br_i (fun h4 => Fct.leafY ?_) (fun h4 => br_i (fun h5 => Fct.leafY ?_) (fun h5 => Fct.leafY ?_)))))
  all_goals try simp only [decide_eq_true_eq, decide_eq_false_iff_not, Bool.not_eq_true', Bool.not_eq_false', bne_iff_ne, bne_eq_false_iff_eq, beq_iff_eq, beq_eq_false_iff_ne, baEq, Int.not_lt, Int.not_le, ne_eq, Decidable.not_not] at *
  all_goals try simp only [feqAttrS, feqToken, baSz, List.size_toArray, List.length_cons, List.length_nil, Nat.reduceAdd, Int.toNat_zero, List.drop_zero, decide_eq_true_eq, decide_eq_false_iff_not, Bool.not_eq_true', Bool.not_eq_false', bne_iff_ne, bne_eq_false_iff_eq, beq_iff_eq, beq_eq_false_iff_ne, Bool.not_eq_true, Bool.not_eq_false, ne_eq, Decidable.not_not, baEq, decide_not, Prod.mk.injEq, and_true, true_and, Room, List.nil_append, Nat.zero_add, Int.not_lt, Int.not_le] at *
  all_goals first | trivial | (cases x; cases y; simp_all; done) | (simp only [szL, szToken] at *; omega) | grind [szL, szToken])
def E21 : D.Env := E20.add 121 feqToken
theorem E21ok : EOk Try.prog E21 := E20ok.add k121_20
-- laws.szTokenS
set_option maxHeartbeats 2000000 in
theorem k46_21 : fszTokenS.ok Try.prog 46 := Fct.of (S := fszTokenS) (L := fun ⟨l, n, _⟩ => fun | 5 => some (LszS .token szToken l n) | _ => none) (kp := [0,1,4,5,11,15,25]) E21ok Try.func46 (by kernel_rfl) (by kernel_rfl) (by
  rintro ⟨(l : List SToken), (n : Int), _⟩ hp
  refine holds_of (X := .br (decide (IntKind.i64.wrap (n - (↑l.length : Int)) < (0 : Int)))
 (.leaf (mkR fszTokenS.rs ((-1 : Int), ())) [] [])
 (lpx (LszS .token szToken l n) (IntKind.i64.wrap (n - (↑l.length : Int)), ((0 : Int), ())) fun (y2 : Int × Int × PUnit) bk2 =>
  .br (decide (y2.snd.fst < (↑l.length : Int)))
   (.ob ((0 : Int) ≤ y2.snd.fst ∧ y2.snd.fst < (↑l.length : Int)) <|
    .ob (fszToken.pre (l.getD y2.snd.fst.toNat default, y2.fst, ())) <|
    .lt (Int × PUnit) (fszToken.fn (l.getD y2.snd.fst.toNat default, y2.fst, ())) fun z2 =>
    .br (decide (z2.fst < (0 : Int)))
     (.leaf (mkR fszTokenS.rs ((-1 : Int), ())) [] [])
     (.ob (l = l) <|
      .ob (Value.bool (decide (IntKind.i64.wrap (n - (↑l.length : Int)) < (0 : Int))) =
  Value.bool (decide (IntKind.i64.wrap (n - (↑l.length : Int)) < (0 : Int)))) <|
      .ob (bk2 (z2.fst, (IntKind.i64.wrap (y2.snd.fst + (1 : Int)), ()))) <|
      .ok))
   (.leaf (mkR fszTokenS.rs (y2.fst, ())) [] []))) (by kernel_rfl) ?_
  refine br_i (fun h1 => Fct.leafY ?_) (fun h1 => lpx_i ?_ fun (y2 : Int × Int × PUnit) i2 => br_i (fun h3 => ob_i ?_ fun o4 => ob_i ?_ fun o5 => lt_i (br_i (fun h6 => Fct.leafY ?_) (fun h6 => ob_i rfl fun _ => ob_i rfl fun _ => ob_i ?_ fun o7 => trivial))) (fun h3 => Fct.leafY ?_))
  all_goals try simp only [decide_eq_true_eq, decide_eq_false_iff_not, Bool.not_eq_true', Bool.not_eq_false', bne_iff_ne, bne_eq_false_iff_eq, beq_iff_eq, beq_eq_false_iff_ne, baEq, Int.not_lt, Int.not_le, ne_eq, Decidable.not_not] at *
  all_goals try simp only [LszS, fszToken, fszTokenS, baSz, List.size_toArray, List.length_cons, List.length_nil, Nat.reduceAdd, Int.toNat_zero, List.drop_zero, decide_eq_true_eq, decide_eq_false_iff_not, Bool.not_eq_true', Bool.not_eq_false', bne_iff_ne, bne_eq_false_iff_eq, beq_iff_eq, beq_eq_false_iff_ne, Bool.not_eq_true, Bool.not_eq_false, ne_eq, Decidable.not_not, baEq, decide_not, Prod.mk.injEq, and_true, true_and, Room, List.nil_append, Nat.zero_add, Int.not_lt, Int.not_le] at *
  · have := good_len hp.1; simp only [maxLen] at this; rw [wrapId (by omega)] at h1
    rw [lessenNeg (by simp only [szL]; omega)]
  · have := good_len hp.1; simp only [maxLen] at this
    rw [wrapId (by omega)] at h1 ⊢
    exact ⟨by omega, by omega, h1, by simp⟩
  · omega
  · exact ⟨good_getD hp.1 (by omega), by omega, by omega⟩
  · have hs := sum_take_le szToken l (y2.2.1.toNat + 1)
    rw [sum_take szToken (by omega)] at hs
    rw [lessen_lt (by omega)] at h6
    rw [lessenNeg (by simp only [szL]; omega)]
  · have hw : IntKind.i64.wrap (y2.2.1 + 1) = y2.2.1 + 1 := wrapId (by have := good_len hp.1; simp only [maxLen] at this; omega)
    have h7 : ¬ lessen y2.1 (szToken (l.getD y2.2.1.toNat default)) < 0 := by omega
    rw [lessen_lt (by omega)] at h7
    rw [hw, toNat1 (by omega), sum_take szToken (by omega), lessen_ge (by omega)]
    exact ⟨⟨by omega, by omega, by omega, by omega⟩, by omega⟩
  · have e : l.take y2.2.1.toNat = l := List.take_of_length_le (by omega)
    rw [e] at i2
    have hz : ((szL szToken l : Nat) : Int) = l.length + (l.map szToken).sum := by simp only [szL]; omega
    rw [lessen_ge (by omega)]
    show y2.1 = n - ((szL szToken l : Nat) : Int)
    omega)
def E22 : D.Env := E21.add 46 fszTokenS
theorem E22ok : EOk Try.prog E22 := E21ok.add k46_21
-- laws.toTokenS
theorem k57_22 : ftoTokenS.ok Try.prog 57 := Fct.of (S := ftoTokenS) (L := fun ⟨l, _⟩ => fun | 3 => some (LtoS .token l) | _ => none) (kp := [0,2,3,4,11]) E22ok Try.func57 (by kernel_rfl) (by kernel_rfl) (by
  rintro ⟨(l : List SToken), _⟩ hp
  refine holds_of (X := .ob ((↑l.length : Int) = (↑l.length : Int) ∧
  (0 : Int) ≤ (↑l.length : Int) ∧
    (64 : Int) * (↑l.length : Int) ≤ (140737488355328 : Int) ∧ (↑l.length : Int) ≤ (140737488355328 : Int)) <|
 lpx (LtoS .token l) ((0 : Int), (List.replicate (↑l.length : Int).toNat default, ())) fun (y2 : Int × List SToken × PUnit) bk2 =>
 .br (decide (y2.fst < (↑l.length : Int)))
  (.ob ((0 : Int) ≤ y2.fst ∧ y2.fst < (↑l.length : Int)) <|
   .ob (ftoToken.pre (l.getD y2.fst.toNat default, ())) <|
   .lt (SToken × PUnit) (ftoToken.fn (l.getD y2.fst.toNat default, ())) fun z2 =>
   .ob ((0 : Int) ≤ y2.fst ∧ y2.fst < (↑y2.snd.fst.length : Int)) <|
    .ob (y2.fst.toNat < y2.snd.fst.length) <|
    .lt (List SToken) (y2.snd.fst.modify y2.fst.toNat fun z => z2.fst) fun z3 =>
    .ob (l = l) <|
     .ob (bk2 (IntKind.i64.wrap (y2.fst + (1 : Int)), (z3, ()))) <|
     .ok)
  (.leaf (mkR ftoTokenS.rs (y2.snd.fst, ())) [] [])) (by kernel_rfl) ?_
  refine ob_i ?_ fun o1 => lpx_i ?_ fun (y2 : Int × List SToken × PUnit) i2 => br_i (fun h3 => ob_i ?_ fun o4 => ob_i ?_ fun o5 => lt_i (ob_i ?_ fun o6 => ob_i ?_ fun o7 => lt_i (ob_i rfl fun _ => ob_i ?_ fun o8 => trivial))) (fun h3 => Fct.leafY ?_)
  all_goals try simp only [decide_eq_true_eq, decide_eq_false_iff_not, Bool.not_eq_true', Bool.not_eq_false', bne_iff_ne, bne_eq_false_iff_eq, beq_iff_eq, beq_eq_false_iff_ne, baEq, Int.not_lt, Int.not_le, ne_eq, Decidable.not_not] at *
  all_goals try simp only [LtoS, ftoToken, ftoTokenS, baSz, List.size_toArray, List.length_cons, List.length_nil, Nat.reduceAdd, Int.toNat_zero, List.drop_zero, decide_eq_true_eq, decide_eq_false_iff_not, Bool.not_eq_true', Bool.not_eq_false', bne_iff_ne, bne_eq_false_iff_eq, beq_iff_eq, beq_eq_false_iff_ne, Bool.not_eq_true, Bool.not_eq_false, ne_eq, Decidable.not_not, baEq, decide_not, Prod.mk.injEq, and_true, true_and, Room, List.nil_append, Nat.zero_add, Int.not_lt, Int.not_le] at *
  · have := szL_len szToken l; omega
  · exact ⟨by omega, by omega, by simp⟩
  · omega
  · have hs := sum_take_le szToken l (y2.1.toNat + 1)
    rw [sum_take szToken (by omega)] at hs
    simp only [szL] at hp; omega
  · rw [i2.2.2]; simp; omega
  · rw [i2.2.2]; simp; omega
  · have hw : IntKind.i64.wrap (y2.1 + 1) = y2.1 + 1 := wrapId (by have := szL_len szToken l; omega)
    rw [hw, toNat1 (by omega), i2.2.2]
    refine ⟨⟨by omega, by omega, ?_⟩, by omega⟩
    rw [show l.length - y2.1.toNat = (l.length - (y2.1.toNat + 1)) + 1 from by omega, List.replicate_succ, mod_at (by simp; omega), take_succ (by omega)]
    simp
  · have e : l.take y2.1.toNat = l := List.take_of_length_le (by omega)
    rw [i2.2.2, e]; simp; omega)
def E23 : D.Env := E22.add 57 ftoTokenS
theorem E23ok : EOk Try.prog E23 := E22ok.add k57_22
-- laws.eqTokenS
set_option maxHeartbeats 2000000 in
theorem k68_23 : feqTokenS.ok Try.prog 68 := Fct.of (S := feqTokenS) (L := fun ⟨l, m, _⟩ => fun | 4 => some (LeqS .token l m) | _ => none) (kp := [0,1,4,5,10,14,26]) E23ok Try.func68 (by kernel_rfl) (by kernel_rfl) (by
  rintro ⟨(l : List SToken), (m : List SToken), _⟩ hp
  refine holds_of (X := .br ((↑l.length : Int) != (↑m.length : Int))
 (.leaf (mkR feqTokenS.rs (false, ())) [] [])
 (lpx (LeqS .token l m) ((0 : Int), ()) fun (y2 : Int × PUnit) bk2 =>
  .br (decide (y2.fst < (↑l.length : Int)))
   (.ob ((0 : Int) ≤ y2.fst ∧ y2.fst < (↑l.length : Int)) <|
    .ob ((0 : Int) ≤ y2.fst ∧ y2.fst < (↑m.length : Int)) <|
    .ob (feqToken.pre (l.getD y2.fst.toNat default, m.getD y2.fst.toNat default, ())) <|
    .lt (Bool × PUnit) (feqToken.fn (l.getD y2.fst.toNat default, m.getD y2.fst.toNat default, ())) fun z2 =>
    .br (!z2.fst)
     (.leaf (mkR feqTokenS.rs (false, ())) [] [])
     (.ob (l = l) <|
      .ob (m = m) <|
      .ob (Value.bool ((↑l.length : Int) != (↑m.length : Int)) = Value.bool ((↑l.length : Int) != (↑m.length : Int))) <|
      .ob (bk2 (IntKind.i64.wrap (y2.fst + (1 : Int)), ())) <|
      .ok))
   (.leaf (mkR feqTokenS.rs (true, ())) [] []))) (by kernel_rfl) ?_
  refine br_i (fun h1 => Fct.leafY ?_) (fun h1 => lpx_i ?_ fun (y2 : Int × PUnit) i2 => br_i (fun h3 => ob_i ?_ fun o4 => ob_i ?_ fun o5 => ob_i ?_ fun o6 => lt_i (br_i (fun h7 => Fct.leafY ?_) (fun h7 => ob_i rfl fun _ => ob_i rfl fun _ => ob_i rfl fun _ => ob_i ?_ fun o8 => trivial))) (fun h3 => Fct.leafY ?_))
  all_goals try simp only [decide_eq_true_eq, decide_eq_false_iff_not, Bool.not_eq_true', Bool.not_eq_false', bne_iff_ne, bne_eq_false_iff_eq, beq_iff_eq, beq_eq_false_iff_ne, baEq, Int.not_lt, Int.not_le, ne_eq, Decidable.not_not] at *
  all_goals try simp only [LeqS, feqToken, feqTokenS, baSz, List.size_toArray, List.length_cons, List.length_nil, Nat.reduceAdd, Int.toNat_zero, List.drop_zero, decide_eq_true_eq, decide_eq_false_iff_not, Bool.not_eq_true', Bool.not_eq_false', bne_iff_ne, bne_eq_false_iff_eq, beq_iff_eq, beq_eq_false_iff_ne, Bool.not_eq_true, Bool.not_eq_false, ne_eq, Decidable.not_not, baEq, decide_not, Prod.mk.injEq, and_true, true_and, Room, List.nil_append, Nat.zero_add, Int.not_lt, Int.not_le] at *
  all_goals have hl := szL_len szToken l
  · rw [decide_eq_false]; rintro rfl; omega
  · exact ⟨by omega, by omega, by simp⟩
  · omega
  · omega
  · have hs := szL_get szToken (l := l) (i := y2.1.toNat) (by omega); omega
  · rw [decide_eq_false]; rintro rfl; first | exact absurd rfl h6 | exact absurd rfl h7
  · have hw : IntKind.i64.wrap (y2.1 + 1) = y2.1 + 1 := wrapId (by omega)
    rw [hw, toNat1 (by omega)]
    refine ⟨⟨by omega, by omega, ?_⟩, by omega⟩
    rw [take_succ (by omega), take_succ (by omega), i2.2.2]; first | rw [h6] | rw [h7]
  · have e : l.take y2.1.toNat = l := List.take_of_length_le (by omega)
    have e2 : m.take y2.1.toNat = m := List.take_of_length_le (by omega)
    rw [decide_eq_true]; rw [← e, ← e2, i2.2.2])
def E24 : D.Env := E23.add 68 feqTokenS
theorem E24ok : EOk Try.prog E24 := E23ok.add k68_23
-- laws.szTokenizer
set_option maxHeartbeats 2000000 in
theorem k45_24 : fszTokenizer.ok Try.prog 45 := Fct.of (S := fszTokenizer) (L := fun _ _ => none) (kp := [0,1,2,4,11]) E24ok Try.func45 (by kernel_rfl) (by kernel_rfl) (by
  rintro ⟨(x : STokenizer), (n : Int), _⟩ hp
  refine holds_of (X := .br (decide (IntKind.i64.wrap (n - (↑x.rest.size : Int)) < (0 : Int)))
 (.leaf (mkR fszTokenizer.rs ((-1 : Int), ())) [] [])
 (.leaf (mkR fszTokenizer.rs (IntKind.i64.wrap (n - (↑x.rest.size : Int)), ())) [] [])) (by kernel_rfl) ?_
  refine br_i (fun h1 => Fct.leafY ?_) (fun h1 => Fct.leafY ?_)
  all_goals try simp only [decide_eq_true_eq, decide_eq_false_iff_not, Bool.not_eq_true', Bool.not_eq_false', bne_iff_ne, bne_eq_false_iff_eq, beq_iff_eq, beq_eq_false_iff_ne, baEq, Int.not_lt, Int.not_le, ne_eq, Decidable.not_not] at *
  all_goals try simp only [fszTokenizer, baSz, List.size_toArray, List.length_cons, List.length_nil, Nat.reduceAdd, Int.toNat_zero, List.drop_zero, decide_eq_true_eq, decide_eq_false_iff_not, Bool.not_eq_true', Bool.not_eq_false', bne_iff_ne, bne_eq_false_iff_eq, beq_iff_eq, beq_eq_false_iff_ne, Bool.not_eq_true, Bool.not_eq_false, ne_eq, Decidable.not_not, baEq, decide_not, Prod.mk.injEq, and_true, true_and, Room, List.nil_append, Nat.zero_add, Int.not_lt, Int.not_le, Sh.good, Sh.fc, enc, List.forall_mem_cons, List.not_mem_nil, false_implies, implies_true, goodC, maxLen] at *
  all_goals grind [wrapId', lessen, szTokenizer])
def E25 : D.Env := E24.add 45 fszTokenizer
theorem E25ok : EOk Try.prog E25 := E24ok.add k45_24
-- laws.toTokenizer
theorem k56_25 : ftoTokenizer.ok Try.prog 56 := Fct.of (S := ftoTokenizer) (L := fun _ _ => none) (kp := [0,1,2,3]) E25ok Try.func56 (by kernel_rfl) (by kernel_rfl) (by
  rintro ⟨(x : STokenizer), _⟩ hp
  refine holds_of (X := .leaf (mkR ftoTokenizer.rs (x, ())) [] []) (by kernel_rfl) ?_
  refine Fct.leafY ?_
  all_goals try simp only [decide_eq_true_eq, decide_eq_false_iff_not, Bool.not_eq_true', Bool.not_eq_false', bne_iff_ne, bne_eq_false_iff_eq, beq_iff_eq, beq_eq_false_iff_ne, baEq, Int.not_lt, Int.not_le, ne_eq, Decidable.not_not] at *
  all_goals try simp only [ftoTokenizer, baSz, List.size_toArray, List.length_cons, List.length_nil, Nat.reduceAdd, Int.toNat_zero, List.drop_zero, decide_eq_true_eq, decide_eq_false_iff_not, Bool.not_eq_true', Bool.not_eq_false', bne_iff_ne, bne_eq_false_iff_eq, beq_iff_eq, beq_eq_false_iff_ne, Bool.not_eq_true, Bool.not_eq_false, ne_eq, Decidable.not_not, baEq, decide_not, Prod.mk.injEq, and_true, true_and, Room, List.nil_append, Nat.zero_add, Int.not_lt, Int.not_le] at *
  all_goals first | trivial | rfl | grind [szTokenizer])
def E26 : D.Env := E25.add 56 ftoTokenizer
theorem E26ok : EOk Try.prog E26 := E25ok.add k56_25
-- laws.eqTokenizer
set_option maxHeartbeats 2000000 in
theorem k67_26 : feqTokenizer.ok Try.prog 67 := Fct.of (S := feqTokenizer) (L := fun _ _ => none) (kp := [0,1,2,3,4,9]) E26ok Try.func67 (by kernel_rfl) (by kernel_rfl) (by
  rintro ⟨(x : STokenizer), (y : STokenizer), _⟩ hp
  refine holds_of (X := .br (!x.rest.toList == y.rest.toList)
 (.leaf (mkR feqTokenizer.rs (false, ())) [] [])
 (.leaf (mkR feqTokenizer.rs (true, ())) [] [])) (by kernel_rfl) ?_
  refine br_i (fun h1 => Fct.leafY ?_) (fun h1 => Fct.leafY ?_)
  all_goals try simp only [decide_eq_true_eq, decide_eq_false_iff_not, Bool.not_eq_true', Bool.not_eq_false', bne_iff_ne, bne_eq_false_iff_eq, beq_iff_eq, beq_eq_false_iff_ne, baEq, Int.not_lt, Int.not_le, ne_eq, Decidable.not_not] at *
  all_goals try simp only [feqTokenizer, baSz, List.size_toArray, List.length_cons, List.length_nil, Nat.reduceAdd, Int.toNat_zero, List.drop_zero, decide_eq_true_eq, decide_eq_false_iff_not, Bool.not_eq_true', Bool.not_eq_false', bne_iff_ne, bne_eq_false_iff_eq, beq_iff_eq, beq_eq_false_iff_ne, Bool.not_eq_true, Bool.not_eq_false, ne_eq, Decidable.not_not, baEq, decide_not, Prod.mk.injEq, and_true, true_and, Room, List.nil_append, Nat.zero_add, Int.not_lt, Int.not_le] at *
  all_goals first | trivial | (cases x; cases y; simp_all; done) | (simp only [szTokenizer] at *; omega) | grind [szTokenizer])
def E27 : D.Env := E26.add 67 feqTokenizer
theorem E27ok : EOk Try.prog E27 := E26ok.add k67_26
-- laws.szNode
set_option maxHeartbeats 2000000 in
theorem k158_27 : fszNode.ok Try.prog 158 := Fct.of (S := fszNode) (L := fun _ _ => none) (kp := [0,1,2,4,11,18,24]) E27ok Try.func158 (by kernel_rfl) (by kernel_rfl) (by
  rintro ⟨(x : SNode), (n : Int), _⟩ hp
  refine holds_of (X := .br (decide (IntKind.i64.wrap (n - (↑x.name.size : Int)) < (0 : Int)))
 (.leaf (mkR fszNode.rs ((-1 : Int), ())) [] [])
 (.br (decide (IntKind.i64.wrap (IntKind.i64.wrap (n - (↑x.name.size : Int)) - (↑x.text.size : Int)) < (0 : Int)))
  (.leaf (mkR fszNode.rs ((-1 : Int), ())) [] [])
  (.ob (fszAttrS.pre (x.attrs, IntKind.i64.wrap (IntKind.i64.wrap (n - (↑x.name.size : Int)) - (↑x.text.size : Int)), ())) <|
   .lt (Int × PUnit) (fszAttrS.fn (x.attrs, IntKind.i64.wrap (IntKind.i64.wrap (n - (↑x.name.size : Int)) - (↑x.text.size : Int)), ())) fun z2 =>
   .br (decide (z2.fst < (0 : Int)))
    (.leaf (mkR fszNode.rs ((-1 : Int), ())) [] [])
    (.leaf (mkR fszNode.rs (z2.fst, ())) [] [])))) (by kernel_rfl) ?_
  refine br_i (fun h1 => Fct.leafY ?_) (fun h1 => br_i (fun h2 => Fct.leafY ?_) (fun h2 => ob_i ?_ fun o3 => lt_i (br_i (fun h4 => Fct.leafY ?_) (fun h4 => Fct.leafY ?_))))
  all_goals try simp only [decide_eq_true_eq, decide_eq_false_iff_not, Bool.not_eq_true', Bool.not_eq_false', bne_iff_ne, bne_eq_false_iff_eq, beq_iff_eq, beq_eq_false_iff_ne, baEq, Int.not_lt, Int.not_le, ne_eq, Decidable.not_not] at *
  all_goals try simp only [fszAttrS, fszNode, baSz, List.size_toArray, List.length_cons, List.length_nil, Nat.reduceAdd, Int.toNat_zero, List.drop_zero, decide_eq_true_eq, decide_eq_false_iff_not, Bool.not_eq_true', Bool.not_eq_false', bne_iff_ne, bne_eq_false_iff_eq, beq_iff_eq, beq_eq_false_iff_ne, Bool.not_eq_true, Bool.not_eq_false, ne_eq, Decidable.not_not, baEq, decide_not, Prod.mk.injEq, and_true, true_and, Room, List.nil_append, Nat.zero_add, Int.not_lt, Int.not_le, Sh.good, Sh.fc, enc, List.forall_mem_cons, List.not_mem_nil, false_implies, implies_true, goodC, maxLen] at *
  all_goals grind [wrapId', lessen, szL, szNode])
def E28 : D.Env := E27.add 158 fszNode
theorem E28ok : EOk Try.prog E28 := E27ok.add k158_27
-- laws.toNode
theorem k161_28 : ftoNode.ok Try.prog 161 := Fct.of (S := ftoNode) (L := fun _ _ => none) (kp := [0,1,2,3]) E28ok Try.func161 (by kernel_rfl) (by kernel_rfl) (by
  rintro ⟨(x : SNode), _⟩ hp
  refine holds_of (X := .ob (ftoAttrS.pre (x.attrs, ())) <|
 .lt (List SAttr × PUnit) (ftoAttrS.fn (x.attrs, ())) fun z2 =>
 .leaf (mkR ftoNode.rs (⟨x.name, x.text, x.parent, z2.fst⟩, ())) [] []) (by kernel_rfl) ?_
  refine ob_i ?_ fun o1 => lt_i (Fct.leafY ?_)
  all_goals try simp only [decide_eq_true_eq, decide_eq_false_iff_not, Bool.not_eq_true', Bool.not_eq_false', bne_iff_ne, bne_eq_false_iff_eq, beq_iff_eq, beq_eq_false_iff_ne, baEq, Int.not_lt, Int.not_le, ne_eq, Decidable.not_not] at *
  all_goals try simp only [ftoAttrS, ftoNode, baSz, List.size_toArray, List.length_cons, List.length_nil, Nat.reduceAdd, Int.toNat_zero, List.drop_zero, decide_eq_true_eq, decide_eq_false_iff_not, Bool.not_eq_true', Bool.not_eq_false', bne_iff_ne, bne_eq_false_iff_eq, beq_iff_eq, beq_eq_false_iff_ne, Bool.not_eq_true, Bool.not_eq_false, ne_eq, Decidable.not_not, baEq, decide_not, Prod.mk.injEq, and_true, true_and, Room, List.nil_append, Nat.zero_add, Int.not_lt, Int.not_le] at *
  all_goals first | trivial | rfl | grind [szL, szNode])
def E29 : D.Env := E28.add 161 ftoNode
theorem E29ok : EOk Try.prog E29 := E28ok.add k161_28
-- laws.eqNode
set_option maxHeartbeats 2000000 in
theorem k163_29 : feqNode.ok Try.prog 163 := Fct.of (S := feqNode) (L := fun _ _ => none) (kp := [0,1,2,3,4,9,14,19,25]) E29ok Try.func163 (by kernel_rfl) (by kernel_rfl) (by
  rintro ⟨(x : SNode), (y : SNode), _⟩ hp
  refine holds_of (X := .br (!x.name.toList == y.name.toList)
 (.leaf (mkR feqNode.rs (false, ())) [] [])
 (.br (!x.text.toList == y.text.toList)
  (.leaf (mkR feqNode.rs (false, ())) [] [])
  (.br (x.parent != y.parent)
   (.leaf (mkR feqNode.rs (false, ())) [] [])
   (.ob (feqAttrS.pre (x.attrs, y.attrs, ())) <|
    .lt (Bool × PUnit) (feqAttrS.fn (x.attrs, y.attrs, ())) fun z2 =>
    .br (!z2.fst)
     (.leaf (mkR feqNode.rs (false, ())) [] [])
     (.leaf (mkR feqNode.rs (true, ())) [] []))))) (by kernel_rfl) ?_
  refine br_i (fun h1 => Fct.leafY ?_) (fun h1 => br_i (fun h2 => Fct.leafY ?_) (fun h2 => br_i (fun h3 => Fct.leafY ?_) (fun h3 => ob_i ?_ fun o4 => lt_i (br_i (fun h5 => Fct.leafY ?_) (fun h5 => Fct.leafY ?_)))))
  all_goals try simp only [decide_eq_true_eq, decide_eq_false_iff_not, Bool.not_eq_true', Bool.not_eq_false', bne_iff_ne, bne_eq_false_iff_eq, beq_iff_eq, beq_eq_false_iff_ne, baEq, Int.not_lt, Int.not_le, ne_eq, Decidable.not_not] at *
  all_goals try simp only [feqAttrS, feqNode, baSz, List.size_toArray, List.length_cons, List.length_nil, Nat.reduceAdd, Int.toNat_zero, List.drop_zero, decide_eq_true_eq, decide_eq_false_iff_not, Bool.not_eq_true', Bool.not_eq_false', bne_iff_ne, bne_eq_false_iff_eq, beq_iff_eq, beq_eq_false_iff_ne, Bool.not_eq_true, Bool.not_eq_false, ne_eq, Decidable.not_not, baEq, decide_not, Prod.mk.injEq, and_true, true_and, Room, List.nil_append, Nat.zero_add, Int.not_lt, Int.not_le] at *
  all_goals first | trivial | (cases x; cases y; simp_all; done) | (simp only [szL, szNode] at *; omega) | grind [szL, szNode])
def E30 : D.Env := E29.add 163 feqNode
theorem E30ok : EOk Try.prog E30 := E29ok.add k163_29
-- laws.szNodeS
set_option maxHeartbeats 2000000 in
theorem k110_30 : fszNodeS.ok Try.prog 110 := Fct.of (S := fszNodeS) (L := fun ⟨l, n, _⟩ => fun | 5 => some (LszS .node szNode l n) | _ => none) (kp := [0,1,4,5,11,15,25]) E30ok Try.func110 (by kernel_rfl) (by kernel_rfl) (by
  rintro ⟨(l : List SNode), (n : Int), _⟩ hp
  refine holds_of (X := .br (decide (IntKind.i64.wrap (n - (↑l.length : Int)) < (0 : Int)))
 (.leaf (mkR fszNodeS.rs ((-1 : Int), ())) [] [])
 (lpx (LszS .node szNode l n) (IntKind.i64.wrap (n - (↑l.length : Int)), ((0 : Int), ())) fun (y2 : Int × Int × PUnit) bk2 =>
  .br (decide (y2.snd.fst < (↑l.length : Int)))
   (.ob ((0 : Int) ≤ y2.snd.fst ∧ y2.snd.fst < (↑l.length : Int)) <|
    .ob (fszNode.pre (l.getD y2.snd.fst.toNat default, y2.fst, ())) <|
    .lt (Int × PUnit) (fszNode.fn (l.getD y2.snd.fst.toNat default, y2.fst, ())) fun z2 =>
    .br (decide (z2.fst < (0 : Int)))
     (.leaf (mkR fszNodeS.rs ((-1 : Int), ())) [] [])
     (.ob (l = l) <|
      .ob (Value.bool (decide (IntKind.i64.wrap (n - (↑l.length : Int)) < (0 : Int))) =
  Value.bool (decide (IntKind.i64.wrap (n - (↑l.length : Int)) < (0 : Int)))) <|
      .ob (bk2 (z2.fst, (IntKind.i64.wrap (y2.snd.fst + (1 : Int)), ()))) <|
      .ok))
   (.leaf (mkR fszNodeS.rs (y2.fst, ())) [] []))) (by kernel_rfl) ?_
  refine br_i (fun h1 => Fct.leafY ?_) (fun h1 => lpx_i ?_ fun (y2 : Int × Int × PUnit) i2 => br_i (fun h3 => ob_i ?_ fun o4 => ob_i ?_ fun o5 => lt_i (br_i (fun h6 => Fct.leafY ?_) (fun h6 => ob_i rfl fun _ => ob_i rfl fun _ => ob_i ?_ fun o7 => trivial))) (fun h3 => Fct.leafY ?_))
  all_goals try simp only [decide_eq_true_eq, decide_eq_false_iff_not, Bool.not_eq_true', Bool.not_eq_false', bne_iff_ne, bne_eq_false_iff_eq, beq_iff_eq, beq_eq_false_iff_ne, baEq, Int.not_lt, Int.not_le, ne_eq, Decidable.not_not] at *
  all_goals try simp only [LszS, fszNode, fszNodeS, baSz, List.size_toArray, List.length_cons, List.length_nil, Nat.reduceAdd, Int.toNat_zero, List.drop_zero, decide_eq_true_eq, decide_eq_false_iff_not, Bool.not_eq_true', Bool.not_eq_false', bne_iff_ne, bne_eq_false_iff_eq, beq_iff_eq, beq_eq_false_iff_ne, Bool.not_eq_true, Bool.not_eq_false, ne_eq, Decidable.not_not, baEq, decide_not, Prod.mk.injEq, and_true, true_and, Room, List.nil_append, Nat.zero_add, Int.not_lt, Int.not_le] at *
  · have := good_len hp.1; simp only [maxLen] at this; rw [wrapId (by omega)] at h1
    rw [lessenNeg (by simp only [szL]; omega)]
  · have := good_len hp.1; simp only [maxLen] at this
    rw [wrapId (by omega)] at h1 ⊢
    exact ⟨by omega, by omega, h1, by simp⟩
  · omega
  · exact ⟨good_getD hp.1 (by omega), by omega, by omega⟩
  · have hs := sum_take_le szNode l (y2.2.1.toNat + 1)
    rw [sum_take szNode (by omega)] at hs
    rw [lessen_lt (by omega)] at h6
    rw [lessenNeg (by simp only [szL]; omega)]
  · have hw : IntKind.i64.wrap (y2.2.1 + 1) = y2.2.1 + 1 := wrapId (by have := good_len hp.1; simp only [maxLen] at this; omega)
    have h7 : ¬ lessen y2.1 (szNode (l.getD y2.2.1.toNat default)) < 0 := by omega
    rw [lessen_lt (by omega)] at h7
    rw [hw, toNat1 (by omega), sum_take szNode (by omega), lessen_ge (by omega)]
    exact ⟨⟨by omega, by omega, by omega, by omega⟩, by omega⟩
  · have e : l.take y2.2.1.toNat = l := List.take_of_length_le (by omega)
    rw [e] at i2
    have hz : ((szL szNode l : Nat) : Int) = l.length + (l.map szNode).sum := by simp only [szL]; omega
    rw [lessen_ge (by omega)]
    show y2.1 = n - ((szL szNode l : Nat) : Int)
    omega)
def E31 : D.Env := E30.add 110 fszNodeS
theorem E31ok : EOk Try.prog E31 := E30ok.add k110_30
-- laws.toNodeS
theorem k116_31 : ftoNodeS.ok Try.prog 116 := Fct.of (S := ftoNodeS) (L := fun ⟨l, _⟩ => fun | 3 => some (LtoS .node l) | _ => none) (kp := [0,2,3,4,11]) E31ok Try.func116 (by kernel_rfl) (by kernel_rfl) (by
  rintro ⟨(l : List SNode), _⟩ hp
  refine holds_of (X := .ob ((↑l.length : Int) = (↑l.length : Int) ∧
  (0 : Int) ≤ (↑l.length : Int) ∧
    (64 : Int) * (↑l.length : Int) ≤ (140737488355328 : Int) ∧ (↑l.length : Int) ≤ (140737488355328 : Int)) <|
 lpx (LtoS .node l) ((0 : Int), (List.replicate (↑l.length : Int).toNat default, ())) fun (y2 : Int × List SNode × PUnit) bk2 =>
 .br (decide (y2.fst < (↑l.length : Int)))
  (.ob ((0 : Int) ≤ y2.fst ∧ y2.fst < (↑l.length : Int)) <|
   .ob (ftoNode.pre (l.getD y2.fst.toNat default, ())) <|
   .lt (SNode × PUnit) (ftoNode.fn (l.getD y2.fst.toNat default, ())) fun z2 =>
   .ob ((0 : Int) ≤ y2.fst ∧ y2.fst < (↑y2.snd.fst.length : Int)) <|
    .ob (y2.fst.toNat < y2.snd.fst.length) <|
    .lt (List SNode) (y2.snd.fst.modify y2.fst.toNat fun z => z2.fst) fun z3 =>
    .ob (l = l) <|
     .ob (bk2 (IntKind.i64.wrap (y2.fst + (1 : Int)), (z3, ()))) <|
     .ok)
  (.leaf (mkR ftoNodeS.rs (y2.snd.fst, ())) [] [])) (by kernel_rfl) ?_
  refine ob_i ?_ fun o1 => lpx_i ?_ fun (y2 : Int × List SNode × PUnit) i2 => br_i (fun h3 => ob_i ?_ fun o4 => ob_i ?_ fun o5 => lt_i (ob_i ?_ fun o6 => ob_i ?_ fun o7 => lt_i (ob_i rfl fun _ => ob_i ?_ fun o8 => trivial))) (fun h3 => Fct.leafY ?_)
  all_goals try simp only [decide_eq_true_eq, decide_eq_false_iff_not, Bool.not_eq_true', Bool.not_eq_false', bne_iff_ne, bne_eq_false_iff_eq, beq_iff_eq, beq_eq_false_iff_ne, baEq, Int.not_lt, Int.not_le, ne_eq, Decidable.not_not] at *
  all_goals try simp only [LtoS, ftoNode, ftoNodeS, baSz, List.size_toArray, List.length_cons, List.length_nil, Nat.reduceAdd, Int.toNat_zero, List.drop_zero, decide_eq_true_eq, decide_eq_false_iff_not, Bool.not_eq_true', Bool.not_eq_false', bne_iff_ne, bne_eq_false_iff_eq, beq_iff_eq, beq_eq_false_iff_ne, Bool.not_eq_true, Bool.not_eq_false, ne_eq, Decidable.not_not, baEq, decide_not, Prod.mk.injEq, and_true, true_and, Room, List.nil_append, Nat.zero_add, Int.not_lt, Int.not_le] at *
  · have := szL_len szNode l; omega
  · exact ⟨by omega, by omega, by simp⟩
  · omega
  · have hs := sum_take_le szNode l (y2.1.toNat + 1)
    rw [sum_take szNode (by omega)] at hs
    simp only [szL] at hp; omega
  · rw [i2.2.2]; simp; omega
  · rw [i2.2.2]; simp; omega
  · have hw : IntKind.i64.wrap (y2.1 + 1) = y2.1 + 1 := wrapId (by have := szL_len szNode l; omega)
    rw [hw, toNat1 (by omega), i2.2.2]
    refine ⟨⟨by omega, by omega, ?_⟩, by omega⟩
    rw [show l.length - y2.1.toNat = (l.length - (y2.1.toNat + 1)) + 1 from by omega, List.replicate_succ, mod_at (by simp; omega), take_succ (by omega)]
    simp
  · have e : l.take y2.1.toNat = l := List.take_of_length_le (by omega)
    rw [i2.2.2, e]; simp; omega)
def E32 : D.Env := E31.add 116 ftoNodeS
theorem E32ok : EOk Try.prog E32 := E31ok.add k116_31
-- laws.eqNodeS
set_option maxHeartbeats 2000000 in
theorem k122_32 : feqNodeS.ok Try.prog 122 := Fct.of (S := feqNodeS) (L := fun ⟨l, m, _⟩ => fun | 4 => some (LeqS .node l m) | _ => none) (kp := [0,1,4,5,10,14,26]) E32ok Try.func122 (by kernel_rfl) (by kernel_rfl) (by
  rintro ⟨(l : List SNode), (m : List SNode), _⟩ hp
  refine holds_of (X := .br ((↑l.length : Int) != (↑m.length : Int))
 (.leaf (mkR feqNodeS.rs (false, ())) [] [])
 (lpx (LeqS .node l m) ((0 : Int), ()) fun (y2 : Int × PUnit) bk2 =>
  .br (decide (y2.fst < (↑l.length : Int)))
   (.ob ((0 : Int) ≤ y2.fst ∧ y2.fst < (↑l.length : Int)) <|
    .ob ((0 : Int) ≤ y2.fst ∧ y2.fst < (↑m.length : Int)) <|
    .ob (feqNode.pre (l.getD y2.fst.toNat default, m.getD y2.fst.toNat default, ())) <|
    .lt (Bool × PUnit) (feqNode.fn (l.getD y2.fst.toNat default, m.getD y2.fst.toNat default, ())) fun z2 =>
    .br (!z2.fst)
     (.leaf (mkR feqNodeS.rs (false, ())) [] [])
     (.ob (l = l) <|
      .ob (m = m) <|
      .ob (Value.bool ((↑l.length : Int) != (↑m.length : Int)) = Value.bool ((↑l.length : Int) != (↑m.length : Int))) <|
      .ob (bk2 (IntKind.i64.wrap (y2.fst + (1 : Int)), ())) <|
      .ok))
   (.leaf (mkR feqNodeS.rs (true, ())) [] []))) (by kernel_rfl) ?_
  refine br_i (fun h1 => Fct.leafY ?_) (fun h1 => lpx_i ?_ fun (y2 : Int × PUnit) i2 => br_i (fun h3 => ob_i ?_ fun o4 => ob_i ?_ fun o5 => ob_i ?_ fun o6 => lt_i (br_i (fun h7 => Fct.leafY ?_) (fun h7 => ob_i rfl fun _ => ob_i rfl fun _ => ob_i rfl fun _ => ob_i ?_ fun o8 => trivial))) (fun h3 => Fct.leafY ?_))
  all_goals try simp only [decide_eq_true_eq, decide_eq_false_iff_not, Bool.not_eq_true', Bool.not_eq_false', bne_iff_ne, bne_eq_false_iff_eq, beq_iff_eq, beq_eq_false_iff_ne, baEq, Int.not_lt, Int.not_le, ne_eq, Decidable.not_not] at *
  all_goals try simp only [LeqS, feqNode, feqNodeS, baSz, List.size_toArray, List.length_cons, List.length_nil, Nat.reduceAdd, Int.toNat_zero, List.drop_zero, decide_eq_true_eq, decide_eq_false_iff_not, Bool.not_eq_true', Bool.not_eq_false', bne_iff_ne, bne_eq_false_iff_eq, beq_iff_eq, beq_eq_false_iff_ne, Bool.not_eq_true, Bool.not_eq_false, ne_eq, Decidable.not_not, baEq, decide_not, Prod.mk.injEq, and_true, true_and, Room, List.nil_append, Nat.zero_add, Int.not_lt, Int.not_le] at *
  all_goals have hl := szL_len szNode l
  · rw [decide_eq_false]; rintro rfl; omega
  · exact ⟨by omega, by omega, by simp⟩
  · omega
  · omega
  · have hs := szL_get szNode (l := l) (i := y2.1.toNat) (by omega); omega
  · rw [decide_eq_false]; rintro rfl; first | exact absurd rfl h6 | exact absurd rfl h7
  · have hw : IntKind.i64.wrap (y2.1 + 1) = y2.1 + 1 := wrapId (by omega)
    rw [hw, toNat1 (by omega)]
    refine ⟨⟨by omega, by omega, ?_⟩, by omega⟩
    rw [take_succ (by omega), take_succ (by omega), i2.2.2]; first | rw [h6] | rw [h7]
  · have e : l.take y2.1.toNat = l := List.take_of_length_le (by omega)
    have e2 : m.take y2.1.toNat = m := List.take_of_length_le (by omega)
    rw [decide_eq_true]; rw [← e, ← e2, i2.2.2])
def E33 : D.Env := E32.add 122 feqNodeS
theorem E33ok : EOk Try.prog E33 := E32ok.add k122_32
-- laws.szBuilder
set_option maxHeartbeats 2000000 in
theorem k47_33 : fszBuilder.ok Try.prog 47 := Fct.of (S := fszBuilder) (L := fun _ _ => none) (kp := [0,1,2,4,10,16]) E33ok Try.func47 (by kernel_rfl) (by kernel_rfl) (by
  rintro ⟨(x : SBuilder), (n : Int), _⟩ hp
  refine holds_of (X := .ob (fszNodeS.pre (x.nodes, n, ())) <|
 .lt (Int × PUnit) (fszNodeS.fn (x.nodes, n, ())) fun z2 =>
 .br (decide (z2.fst < (0 : Int)))
  (.leaf (mkR fszBuilder.rs ((-1 : Int), ())) [] [])
  (.ob (fszIntS.pre (x.open_, z2.fst, ())) <|
   .lt (Int × PUnit) (fszIntS.fn (x.open_, z2.fst, ())) fun z3 =>
   .br (decide (z3.fst < (0 : Int)))
    (.leaf (mkR fszBuilder.rs ((-1 : Int), ())) [] [])
    (.leaf (mkR fszBuilder.rs (z3.fst, ())) [] []))) (by kernel_rfl) ?_
  refine ob_i ?_ fun o1 => lt_i (br_i (fun h2 => Fct.leafY ?_) (fun h2 => ob_i ?_ fun o3 => lt_i (br_i (fun h4 => Fct.leafY ?_) (fun h4 => Fct.leafY ?_))))
  all_goals try simp only [decide_eq_true_eq, decide_eq_false_iff_not, Bool.not_eq_true', Bool.not_eq_false', bne_iff_ne, bne_eq_false_iff_eq, beq_iff_eq, beq_eq_false_iff_ne, baEq, Int.not_lt, Int.not_le, ne_eq, Decidable.not_not] at *
  all_goals try simp only [fszBuilder, fszIntS, fszNodeS, baSz, List.size_toArray, List.length_cons, List.length_nil, Nat.reduceAdd, Int.toNat_zero, List.drop_zero, decide_eq_true_eq, decide_eq_false_iff_not, Bool.not_eq_true', Bool.not_eq_false', bne_iff_ne, bne_eq_false_iff_eq, beq_iff_eq, beq_eq_false_iff_ne, Bool.not_eq_true, Bool.not_eq_false, ne_eq, Decidable.not_not, baEq, decide_not, Prod.mk.injEq, and_true, true_and, Room, List.nil_append, Nat.zero_add, Int.not_lt, Int.not_le, Sh.good, Sh.fc, enc, List.forall_mem_cons, List.not_mem_nil, false_implies, implies_true, goodC, maxLen] at *
  all_goals grind [wrapId', lessen, szBuilder, szL])
def E34 : D.Env := E33.add 47 fszBuilder
theorem E34ok : EOk Try.prog E34 := E33ok.add k47_33
-- laws.toBuilder
theorem k58_34 : ftoBuilder.ok Try.prog 58 := Fct.of (S := ftoBuilder) (L := fun _ _ => none) (kp := [0,1,2,3]) E34ok Try.func58 (by kernel_rfl) (by kernel_rfl) (by
  rintro ⟨(x : SBuilder), _⟩ hp
  refine holds_of (X := .ob (ftoNodeS.pre (x.nodes, ())) <|
 .lt (List SNode × PUnit) (ftoNodeS.fn (x.nodes, ())) fun z2 =>
 .ob (ftoIntS.pre (x.open_, ())) <|
  .lt (List Int × PUnit) (ftoIntS.fn (x.open_, ())) fun z3 =>
  .leaf (mkR ftoBuilder.rs (⟨z2.fst, z3.fst⟩, ())) [] []) (by kernel_rfl) ?_
  refine ob_i ?_ fun o1 => lt_i (ob_i ?_ fun o2 => lt_i (Fct.leafY ?_))
  all_goals try simp only [decide_eq_true_eq, decide_eq_false_iff_not, Bool.not_eq_true', Bool.not_eq_false', bne_iff_ne, bne_eq_false_iff_eq, beq_iff_eq, beq_eq_false_iff_ne, baEq, Int.not_lt, Int.not_le, ne_eq, Decidable.not_not] at *
  all_goals try simp only [ftoBuilder, ftoIntS, ftoNodeS, baSz, List.size_toArray, List.length_cons, List.length_nil, Nat.reduceAdd, Int.toNat_zero, List.drop_zero, decide_eq_true_eq, decide_eq_false_iff_not, Bool.not_eq_true', Bool.not_eq_false', bne_iff_ne, bne_eq_false_iff_eq, beq_iff_eq, beq_eq_false_iff_ne, Bool.not_eq_true, Bool.not_eq_false, ne_eq, Decidable.not_not, baEq, decide_not, Prod.mk.injEq, and_true, true_and, Room, List.nil_append, Nat.zero_add, Int.not_lt, Int.not_le] at *
  all_goals first | trivial | rfl | grind [szBuilder, szL])
def E35 : D.Env := E34.add 58 ftoBuilder
theorem E35ok : EOk Try.prog E35 := E34ok.add k58_34
-- laws.eqBuilder
set_option maxHeartbeats 2000000 in
theorem k69_35 : feqBuilder.ok Try.prog 69 := Fct.of (S := feqBuilder) (L := fun _ _ => none) (kp := [0,1,2,3,4,10,16]) E35ok Try.func69 (by kernel_rfl) (by kernel_rfl) (by
  rintro ⟨(x : SBuilder), (y : SBuilder), _⟩ hp
  refine holds_of (X := .ob (feqNodeS.pre (x.nodes, y.nodes, ())) <|
 .lt (Bool × PUnit) (feqNodeS.fn (x.nodes, y.nodes, ())) fun z2 =>
 .br (!z2.fst)
  (.leaf (mkR feqBuilder.rs (false, ())) [] [])
  (.ob (feqIntS.pre (x.open_, y.open_, ())) <|
   .lt (Bool × PUnit) (feqIntS.fn (x.open_, y.open_, ())) fun z3 =>
   .br (!z3.fst)
    (.leaf (mkR feqBuilder.rs (false, ())) [] [])
    (.leaf (mkR feqBuilder.rs (true, ())) [] []))) (by kernel_rfl) ?_
  refine ob_i ?_ fun o1 => lt_i (br_i (fun h2 => Fct.leafY ?_) (fun h2 => ob_i ?_ fun o3 => lt_i (br_i (fun h4 => Fct.leafY ?_) (fun h4 => Fct.leafY ?_))))
  all_goals try simp only [decide_eq_true_eq, decide_eq_false_iff_not, Bool.not_eq_true', Bool.not_eq_false', bne_iff_ne, bne_eq_false_iff_eq, beq_iff_eq, beq_eq_false_iff_ne, baEq, Int.not_lt, Int.not_le, ne_eq, Decidable.not_not] at *
  all_goals try simp only [feqBuilder, feqIntS, feqNodeS, baSz, List.size_toArray, List.length_cons, List.length_nil, Nat.reduceAdd, Int.toNat_zero, List.drop_zero, decide_eq_true_eq, decide_eq_false_iff_not, Bool.not_eq_true', Bool.not_eq_false', bne_iff_ne, bne_eq_false_iff_eq, beq_iff_eq, beq_eq_false_iff_ne, Bool.not_eq_true, Bool.not_eq_false, ne_eq, Decidable.not_not, baEq, decide_not, Prod.mk.injEq, and_true, true_and, Room, List.nil_append, Nat.zero_add, Int.not_lt, Int.not_le] at *
  all_goals first | trivial | (cases x; cases y; simp_all; done) | (simp only [szBuilder, szL] at *; omega) | grind [szBuilder, szL])
def E36 : D.Env := E35.add 69 feqBuilder
theorem E36ok : EOk Try.prog E36 := E35ok.add k69_35
-- laws.szPolicy
set_option maxHeartbeats 2000000 in
theorem k44_36 : fszPolicy.ok Try.prog 44 := Fct.of (S := fszPolicy) (L := fun _ _ => none) (kp := [0,1,2,4,10,16,22,29]) E36ok Try.func44 (by kernel_rfl) (by kernel_rfl) (by
  rintro ⟨(x : SPolicy), (n : Int), _⟩ hp
  refine holds_of (X := .ob (fszStringS.pre (x.scripts, n, ())) <|
 .lt (Int × PUnit) (fszStringS.fn (x.scripts, n, ())) fun z2 =>
 .br (decide (z2.fst < (0 : Int)))
  (.leaf (mkR fszPolicy.rs ((-1 : Int), ())) [] [])
  (.ob (fszStringS.pre (x.styles, z2.fst, ())) <|
   .lt (Int × PUnit) (fszStringS.fn (x.styles, z2.fst, ())) fun z3 =>
   .br (decide (z3.fst < (0 : Int)))
    (.leaf (mkR fszPolicy.rs ((-1 : Int), ())) [] [])
    (.ob (fszStringS.pre (x.images, z3.fst, ())) <|
     .lt (Int × PUnit) (fszStringS.fn (x.images, z3.fst, ())) fun z4 =>
     .br (decide (z4.fst < (0 : Int)))
      (.leaf (mkR fszPolicy.rs ((-1 : Int), ())) [] [])
      (.br (decide (IntKind.i64.wrap (z4.fst - (↑x.nonce.size : Int)) < (0 : Int)))
       (.leaf (mkR fszPolicy.rs ((-1 : Int), ())) [] [])
       (.leaf (mkR fszPolicy.rs (IntKind.i64.wrap (z4.fst - (↑x.nonce.size : Int)), ())) [] []))))) (by kernel_rfl) ?_
  refine ob_i ?_ fun o1 => lt_i (br_i (fun h2 => Fct.leafY ?_) (fun h2 => ob_i ?_ fun o3 => lt_i (br_i (fun h4 => Fct.leafY ?_) (fun h4 => ob_i ?_ fun o5 => lt_i (br_i (fun h6 => Fct.leafY ?_) (fun h6 => br_i (fun h7 => Fct.leafY ?_) (fun h7 => Fct.leafY ?_)))))))
  all_goals try simp only [decide_eq_true_eq, decide_eq_false_iff_not, Bool.not_eq_true', Bool.not_eq_false', bne_iff_ne, bne_eq_false_iff_eq, beq_iff_eq, beq_eq_false_iff_ne, baEq, Int.not_lt, Int.not_le, ne_eq, Decidable.not_not] at *
  all_goals try simp only [fszPolicy, fszStringS, baSz, List.size_toArray, List.length_cons, List.length_nil, Nat.reduceAdd, Int.toNat_zero, List.drop_zero, decide_eq_true_eq, decide_eq_false_iff_not, Bool.not_eq_true', Bool.not_eq_false', bne_iff_ne, bne_eq_false_iff_eq, beq_iff_eq, beq_eq_false_iff_ne, Bool.not_eq_true, Bool.not_eq_false, ne_eq, Decidable.not_not, baEq, decide_not, Prod.mk.injEq, and_true, true_and, Room, List.nil_append, Nat.zero_add, Int.not_lt, Int.not_le, Sh.good, Sh.fc, enc, List.forall_mem_cons, List.not_mem_nil, false_implies, implies_true, goodC, maxLen] at *
  all_goals grind [wrapId', lessen, szL, szPolicy])
def E37 : D.Env := E36.add 44 fszPolicy
theorem E37ok : EOk Try.prog E37 := E36ok.add k44_36
-- laws.toPolicy
theorem k55_37 : ftoPolicy.ok Try.prog 55 := Fct.of (S := ftoPolicy) (L := fun _ _ => none) (kp := [0,1,2,3]) E37ok Try.func55 (by kernel_rfl) (by kernel_rfl) (by
  rintro ⟨(x : SPolicy), _⟩ hp
  refine holds_of (X := .ob (ftoStringS.pre (x.scripts, ())) <|
 .lt (List ByteArray × PUnit) (ftoStringS.fn (x.scripts, ())) fun z2 =>
 .ob (ftoStringS.pre (x.styles, ())) <|
  .lt (List ByteArray × PUnit) (ftoStringS.fn (x.styles, ())) fun z3 =>
  .ob (ftoStringS.pre (x.images, ())) <|
   .lt (List ByteArray × PUnit) (ftoStringS.fn (x.images, ())) fun z4 =>
   .leaf (mkR ftoPolicy.rs (⟨x.set_, z2.fst, z3.fst, z4.fst, x.nonce⟩, ())) [] []) (by kernel_rfl) ?_
  refine ob_i ?_ fun o1 => lt_i (ob_i ?_ fun o2 => lt_i (ob_i ?_ fun o3 => lt_i (Fct.leafY ?_)))
  all_goals try simp only [decide_eq_true_eq, decide_eq_false_iff_not, Bool.not_eq_true', Bool.not_eq_false', bne_iff_ne, bne_eq_false_iff_eq, beq_iff_eq, beq_eq_false_iff_ne, baEq, Int.not_lt, Int.not_le, ne_eq, Decidable.not_not] at *
  all_goals try simp only [ftoPolicy, ftoStringS, baSz, List.size_toArray, List.length_cons, List.length_nil, Nat.reduceAdd, Int.toNat_zero, List.drop_zero, decide_eq_true_eq, decide_eq_false_iff_not, Bool.not_eq_true', Bool.not_eq_false', bne_iff_ne, bne_eq_false_iff_eq, beq_iff_eq, beq_eq_false_iff_ne, Bool.not_eq_true, Bool.not_eq_false, ne_eq, Decidable.not_not, baEq, decide_not, Prod.mk.injEq, and_true, true_and, Room, List.nil_append, Nat.zero_add, Int.not_lt, Int.not_le] at *
  all_goals first | trivial | rfl | grind [szL, szPolicy])
def E38 : D.Env := E37.add 55 ftoPolicy
theorem E38ok : EOk Try.prog E38 := E37ok.add k55_37
-- laws.eqPolicy
set_option maxHeartbeats 2000000 in
theorem k66_38 : feqPolicy.ok Try.prog 66 := Fct.of (S := feqPolicy) (L := fun _ _ => none) (kp := [0,1,2,3,4,9,15,21,27,32]) E38ok Try.func66 (by kernel_rfl) (by kernel_rfl) (by
  rintro ⟨(x : SPolicy), (y : SPolicy), _⟩ hp
  refine holds_of (X := .br (!x.set_ == y.set_)
 (.leaf (mkR feqPolicy.rs (false, ())) [] [])
 (.ob (feqStringS.pre (x.scripts, y.scripts, ())) <|
  .lt (Bool × PUnit) (feqStringS.fn (x.scripts, y.scripts, ())) fun z2 =>
  .br (!z2.fst)
   (.leaf (mkR feqPolicy.rs (false, ())) [] [])
   (.ob (feqStringS.pre (x.styles, y.styles, ())) <|
    .lt (Bool × PUnit) (feqStringS.fn (x.styles, y.styles, ())) fun z3 =>
    .br (!z3.fst)
     (.leaf (mkR feqPolicy.rs (false, ())) [] [])
     (.ob (feqStringS.pre (x.images, y.images, ())) <|
      .lt (Bool × PUnit) (feqStringS.fn (x.images, y.images, ())) fun z4 =>
      .br (!z4.fst)
       (.leaf (mkR feqPolicy.rs (false, ())) [] [])
       (.br (!x.nonce.toList == y.nonce.toList)
        (.leaf (mkR feqPolicy.rs (false, ())) [] [])
        (.leaf (mkR feqPolicy.rs (true, ())) [] [])))))) (by kernel_rfl) ?_
  refine br_i (fun h1 => Fct.leafY ?_) (fun h1 => ob_i ?_ fun o2 => lt_i (br_i (fun h3 => Fct.leafY ?_) (fun h3 => ob_i ?_ fun o4 => lt_i (br_i (fun h5 => Fct.leafY ?_) (fun h5 => ob_i ?_ fun o6 => lt_i (br_i (fun h7 => Fct.leafY ?_) (fun h7 => br_i (fun h8 => Fct.leafY ?_) (fun h8 => Fct.leafY ?_))))))))
  all_goals try simp only [decide_eq_true_eq, decide_eq_false_iff_not, Bool.not_eq_true', Bool.not_eq_false', bne_iff_ne, bne_eq_false_iff_eq, beq_iff_eq, beq_eq_false_iff_ne, baEq, Int.not_lt, Int.not_le, ne_eq, Decidable.not_not] at *
  all_goals try simp only [feqPolicy, feqStringS, baSz, List.size_toArray, List.length_cons, List.length_nil, Nat.reduceAdd, Int.toNat_zero, List.drop_zero, decide_eq_true_eq, decide_eq_false_iff_not, Bool.not_eq_true', Bool.not_eq_false', bne_iff_ne, bne_eq_false_iff_eq, beq_iff_eq, beq_eq_false_iff_ne, Bool.not_eq_true, Bool.not_eq_false, ne_eq, Decidable.not_not, baEq, decide_not, Prod.mk.injEq, and_true, true_and, Room, List.nil_append, Nat.zero_add, Int.not_lt, Int.not_le] at *
  all_goals first | trivial | (cases x; cases y; simp_all; done) | (simp only [szL, szPolicy] at *; omega) | grind [szL, szPolicy])
def E39 : D.Env := E38.add 66 feqPolicy
theorem E39ok : EOk Try.prog E39 := E38ok.add k66_38
-- laws.szSlot
set_option maxHeartbeats 2000000 in
theorem k112_39 : fszSlot.ok Try.prog 112 := Fct.of (S := fszSlot) (L := fun _ _ => none) (kp := [0,1,2,4,10,17,24]) E39ok Try.func112 (by kernel_rfl) (by kernel_rfl) (by
  rintro ⟨(x : SSlot), (n : Int), _⟩ hp
  refine holds_of (X := .ob (fszAddr.pre (x.to, n, ())) <|
 .lt (Int × PUnit) (fszAddr.fn (x.to, n, ())) fun z2 =>
 .br (decide (z2.fst < (0 : Int)))
  (.leaf (mkR fszSlot.rs ((-1 : Int), ())) [] [])
  (.br (decide (IntKind.i64.wrap (z2.fst - (↑x.digest.size : Int)) < (0 : Int)))
   (.leaf (mkR fszSlot.rs ((-1 : Int), ())) [] [])
   (.br (decide (IntKind.i64.wrap (IntKind.i64.wrap (z2.fst - (↑x.digest.size : Int)) - (↑x.body.size : Int)) < (0 : Int)))
    (.leaf (mkR fszSlot.rs ((-1 : Int), ())) [] [])
    (.leaf (mkR fszSlot.rs (IntKind.i64.wrap (IntKind.i64.wrap (z2.fst - (↑x.digest.size : Int)) - (↑x.body.size : Int)), ())) [] [])))) (by kernel_rfl) ?_
  refine ob_i ?_ fun o1 => lt_i (br_i (fun h2 => Fct.leafY ?_) (fun h2 => br_i (fun h3 => Fct.leafY ?_) (fun h3 => br_i (fun h4 => Fct.leafY ?_) (fun h4 => Fct.leafY ?_))))
  all_goals try simp only [decide_eq_true_eq, decide_eq_false_iff_not, Bool.not_eq_true', Bool.not_eq_false', bne_iff_ne, bne_eq_false_iff_eq, beq_iff_eq, beq_eq_false_iff_ne, baEq, Int.not_lt, Int.not_le, ne_eq, Decidable.not_not] at *
  all_goals try simp only [fszAddr, fszSlot, baSz, List.size_toArray, List.length_cons, List.length_nil, Nat.reduceAdd, Int.toNat_zero, List.drop_zero, decide_eq_true_eq, decide_eq_false_iff_not, Bool.not_eq_true', Bool.not_eq_false', bne_iff_ne, bne_eq_false_iff_eq, beq_iff_eq, beq_eq_false_iff_ne, Bool.not_eq_true, Bool.not_eq_false, ne_eq, Decidable.not_not, baEq, decide_not, Prod.mk.injEq, and_true, true_and, Room, List.nil_append, Nat.zero_add, Int.not_lt, Int.not_le, Sh.good, Sh.fc, enc, List.forall_mem_cons, List.not_mem_nil, false_implies, implies_true, goodC, maxLen] at *
  all_goals grind [wrapId', lessen, szAddr, szSlot])
def E40 : D.Env := E39.add 112 fszSlot
theorem E40ok : EOk Try.prog E40 := E39ok.add k112_39
-- laws.toSlot
theorem k118_40 : ftoSlot.ok Try.prog 118 := Fct.of (S := ftoSlot) (L := fun _ _ => none) (kp := [0,1,2,3]) E40ok Try.func118 (by kernel_rfl) (by kernel_rfl) (by
  rintro ⟨(x : SSlot), _⟩ hp
  refine holds_of (X := .ob (ftoAddr.pre (x.to, ())) <|
 .lt (SAddr × PUnit) (ftoAddr.fn (x.to, ())) fun z2 =>
 .leaf (mkR ftoSlot.rs (⟨x.mode, z2.fst, x.digest, x.node, x.done, x.code, x.body⟩, ())) [] []) (by kernel_rfl) ?_
  refine ob_i ?_ fun o1 => lt_i (Fct.leafY ?_)
  all_goals try simp only [decide_eq_true_eq, decide_eq_false_iff_not, Bool.not_eq_true', Bool.not_eq_false', bne_iff_ne, bne_eq_false_iff_eq, beq_iff_eq, beq_eq_false_iff_ne, baEq, Int.not_lt, Int.not_le, ne_eq, Decidable.not_not] at *
  all_goals try simp only [ftoAddr, ftoSlot, baSz, List.size_toArray, List.length_cons, List.length_nil, Nat.reduceAdd, Int.toNat_zero, List.drop_zero, decide_eq_true_eq, decide_eq_false_iff_not, Bool.not_eq_true', Bool.not_eq_false', bne_iff_ne, bne_eq_false_iff_eq, beq_iff_eq, beq_eq_false_iff_ne, Bool.not_eq_true, Bool.not_eq_false, ne_eq, Decidable.not_not, baEq, decide_not, Prod.mk.injEq, and_true, true_and, Room, List.nil_append, Nat.zero_add, Int.not_lt, Int.not_le] at *
  all_goals first | trivial | rfl | grind [szAddr, szSlot])
def E41 : D.Env := E40.add 118 ftoSlot
theorem E41ok : EOk Try.prog E41 := E40ok.add k118_40
-- laws.eqSlot
set_option maxHeartbeats 2000000 in
theorem k124_41 : feqSlot.ok Try.prog 124 := Fct.of (S := feqSlot) (L := fun _ _ => none) (kp := [0,1,2,3,4,9,15,20,25,30,35,40]) E41ok Try.func124 (by kernel_rfl) (by kernel_rfl) (by
  rintro ⟨(x : SSlot), (y : SSlot), _⟩ hp
  refine holds_of (X := .br (x.mode != y.mode)
 (.leaf (mkR feqSlot.rs (false, ())) [] [])
 (.ob (feqAddr.pre (x.to, y.to, ())) <|
  .lt (Bool × PUnit) (feqAddr.fn (x.to, y.to, ())) fun z2 =>
  .br (!z2.fst)
   (.leaf (mkR feqSlot.rs (false, ())) [] [])
   (.br (!x.digest.toList == y.digest.toList)
    (.leaf (mkR feqSlot.rs (false, ())) [] [])
    (.br (x.node != y.node)
     (.leaf (mkR feqSlot.rs (false, ())) [] [])
     (.br (!x.done == y.done)
      (.leaf (mkR feqSlot.rs (false, ())) [] [])
      (.br (x.code != y.code)
       (.leaf (mkR feqSlot.rs (false, ())) [] [])
       (.br (!x.body.toList == y.body.toList)
        (.leaf (mkR feqSlot.rs (false, ())) [] [])
        (.leaf (mkR feqSlot.rs (true, ())) [] [])))))))) (by kernel_rfl) ?_
  refine br_i (fun h1 => Fct.leafY ?_) (fun h1 => ob_i trivial fun _ => lt_i (br_i (fun h2 => Fct.leafY ?_) (fun h2 => br_i (fun h3 => Fct.leafY ?_) (fun h3 => br_i (fun h4 => Fct.leafY ?_) (fun h4 => br_i (fun h5 => Fct.leafY ?_) (fun h5 => br_i (fun h6 => Fct.leafY ?_) (fun h6 => br_i (fun h7 => Fct.leafY ?_) (fun h7 => Fct.leafY ?_))))))))
  all_goals try simp only [decide_eq_true_eq, decide_eq_false_iff_not, Bool.not_eq_true', Bool.not_eq_false', bne_iff_ne, bne_eq_false_iff_eq, beq_iff_eq, beq_eq_false_iff_ne, baEq, Int.not_lt, Int.not_le, ne_eq, Decidable.not_not] at *
  all_goals try simp only [feqAddr, feqSlot, baSz, List.size_toArray, List.length_cons, List.length_nil, Nat.reduceAdd, Int.toNat_zero, List.drop_zero, decide_eq_true_eq, decide_eq_false_iff_not, Bool.not_eq_true', Bool.not_eq_false', bne_iff_ne, bne_eq_false_iff_eq, beq_iff_eq, beq_eq_false_iff_ne, Bool.not_eq_true, Bool.not_eq_false, ne_eq, Decidable.not_not, baEq, decide_not, Prod.mk.injEq, and_true, true_and, Room, List.nil_append, Nat.zero_add, Int.not_lt, Int.not_le] at *
  all_goals first | trivial | (cases x; cases y; simp_all; done) | (simp only [szAddr, szSlot] at *; omega) | grind [szAddr, szSlot])
def E42 : D.Env := E41.add 124 feqSlot
theorem E42ok : EOk Try.prog E42 := E41ok.add k124_41
-- laws.szSlotS
set_option maxHeartbeats 2000000 in
theorem k48_42 : fszSlotS.ok Try.prog 48 := Fct.of (S := fszSlotS) (L := fun ⟨l, n, _⟩ => fun | 5 => some (LszS .slot szSlot l n) | _ => none) (kp := [0,1,4,5,11,15,25]) E42ok Try.func48 (by kernel_rfl) (by kernel_rfl) (by
  rintro ⟨(l : List SSlot), (n : Int), _⟩ hp
  refine holds_of (X := .br (decide (IntKind.i64.wrap (n - (↑l.length : Int)) < (0 : Int)))
 (.leaf (mkR fszSlotS.rs ((-1 : Int), ())) [] [])
 (lpx (LszS .slot szSlot l n) (IntKind.i64.wrap (n - (↑l.length : Int)), ((0 : Int), ())) fun (y2 : Int × Int × PUnit) bk2 =>
  .br (decide (y2.snd.fst < (↑l.length : Int)))
   (.ob ((0 : Int) ≤ y2.snd.fst ∧ y2.snd.fst < (↑l.length : Int)) <|
    .ob (fszSlot.pre (l.getD y2.snd.fst.toNat default, y2.fst, ())) <|
    .lt (Int × PUnit) (fszSlot.fn (l.getD y2.snd.fst.toNat default, y2.fst, ())) fun z2 =>
    .br (decide (z2.fst < (0 : Int)))
     (.leaf (mkR fszSlotS.rs ((-1 : Int), ())) [] [])
     (.ob (l = l) <|
      .ob (Value.bool (decide (IntKind.i64.wrap (n - (↑l.length : Int)) < (0 : Int))) =
  Value.bool (decide (IntKind.i64.wrap (n - (↑l.length : Int)) < (0 : Int)))) <|
      .ob (bk2 (z2.fst, (IntKind.i64.wrap (y2.snd.fst + (1 : Int)), ()))) <|
      .ok))
   (.leaf (mkR fszSlotS.rs (y2.fst, ())) [] []))) (by kernel_rfl) ?_
  refine br_i (fun h1 => Fct.leafY ?_) (fun h1 => lpx_i ?_ fun (y2 : Int × Int × PUnit) i2 => br_i (fun h3 => ob_i ?_ fun o4 => ob_i ?_ fun o5 => lt_i (br_i (fun h6 => Fct.leafY ?_) (fun h6 => ob_i rfl fun _ => ob_i rfl fun _ => ob_i ?_ fun o7 => trivial))) (fun h3 => Fct.leafY ?_))
  all_goals try simp only [decide_eq_true_eq, decide_eq_false_iff_not, Bool.not_eq_true', Bool.not_eq_false', bne_iff_ne, bne_eq_false_iff_eq, beq_iff_eq, beq_eq_false_iff_ne, baEq, Int.not_lt, Int.not_le, ne_eq, Decidable.not_not] at *
  all_goals try simp only [LszS, fszSlot, fszSlotS, baSz, List.size_toArray, List.length_cons, List.length_nil, Nat.reduceAdd, Int.toNat_zero, List.drop_zero, decide_eq_true_eq, decide_eq_false_iff_not, Bool.not_eq_true', Bool.not_eq_false', bne_iff_ne, bne_eq_false_iff_eq, beq_iff_eq, beq_eq_false_iff_ne, Bool.not_eq_true, Bool.not_eq_false, ne_eq, Decidable.not_not, baEq, decide_not, Prod.mk.injEq, and_true, true_and, Room, List.nil_append, Nat.zero_add, Int.not_lt, Int.not_le] at *
  · have := good_len hp.1; simp only [maxLen] at this; rw [wrapId (by omega)] at h1
    rw [lessenNeg (by simp only [szL]; omega)]
  · have := good_len hp.1; simp only [maxLen] at this
    rw [wrapId (by omega)] at h1 ⊢
    exact ⟨by omega, by omega, h1, by simp⟩
  · omega
  · exact ⟨good_getD hp.1 (by omega), by omega, by omega⟩
  · have hs := sum_take_le szSlot l (y2.2.1.toNat + 1)
    rw [sum_take szSlot (by omega)] at hs
    rw [lessen_lt (by omega)] at h6
    rw [lessenNeg (by simp only [szL]; omega)]
  · have hw : IntKind.i64.wrap (y2.2.1 + 1) = y2.2.1 + 1 := wrapId (by have := good_len hp.1; simp only [maxLen] at this; omega)
    have h7 : ¬ lessen y2.1 (szSlot (l.getD y2.2.1.toNat default)) < 0 := by omega
    rw [lessen_lt (by omega)] at h7
    rw [hw, toNat1 (by omega), sum_take szSlot (by omega), lessen_ge (by omega)]
    exact ⟨⟨by omega, by omega, by omega, by omega⟩, by omega⟩
  · have e : l.take y2.2.1.toNat = l := List.take_of_length_le (by omega)
    rw [e] at i2
    have hz : ((szL szSlot l : Nat) : Int) = l.length + (l.map szSlot).sum := by simp only [szL]; omega
    rw [lessen_ge (by omega)]
    show y2.1 = n - ((szL szSlot l : Nat) : Int)
    omega)
def E43 : D.Env := E42.add 48 fszSlotS
theorem E43ok : EOk Try.prog E43 := E42ok.add k48_42
-- laws.toSlotS
theorem k59_43 : ftoSlotS.ok Try.prog 59 := Fct.of (S := ftoSlotS) (L := fun ⟨l, _⟩ => fun | 3 => some (LtoS .slot l) | _ => none) (kp := [0,2,3,4,11]) E43ok Try.func59 (by kernel_rfl) (by kernel_rfl) (by
  rintro ⟨(l : List SSlot), _⟩ hp
  refine holds_of (X := .ob ((↑l.length : Int) = (↑l.length : Int) ∧
  (0 : Int) ≤ (↑l.length : Int) ∧
    (96 : Int) * (↑l.length : Int) ≤ (140737488355328 : Int) ∧ (↑l.length : Int) ≤ (140737488355328 : Int)) <|
 lpx (LtoS .slot l) ((0 : Int), (List.replicate (↑l.length : Int).toNat default, ())) fun (y2 : Int × List SSlot × PUnit) bk2 =>
 .br (decide (y2.fst < (↑l.length : Int)))
  (.ob ((0 : Int) ≤ y2.fst ∧ y2.fst < (↑l.length : Int)) <|
   .ob (ftoSlot.pre (l.getD y2.fst.toNat default, ())) <|
   .lt (SSlot × PUnit) (ftoSlot.fn (l.getD y2.fst.toNat default, ())) fun z2 =>
   .ob ((0 : Int) ≤ y2.fst ∧ y2.fst < (↑y2.snd.fst.length : Int)) <|
    .ob (y2.fst.toNat < y2.snd.fst.length) <|
    .lt (List SSlot) (y2.snd.fst.modify y2.fst.toNat fun z => z2.fst) fun z3 =>
    .ob (l = l) <|
     .ob (bk2 (IntKind.i64.wrap (y2.fst + (1 : Int)), (z3, ()))) <|
     .ok)
  (.leaf (mkR ftoSlotS.rs (y2.snd.fst, ())) [] [])) (by kernel_rfl) ?_
  refine ob_i ?_ fun o1 => lpx_i ?_ fun (y2 : Int × List SSlot × PUnit) i2 => br_i (fun h3 => ob_i ?_ fun o4 => ob_i ?_ fun o5 => lt_i (ob_i ?_ fun o6 => ob_i ?_ fun o7 => lt_i (ob_i rfl fun _ => ob_i ?_ fun o8 => trivial))) (fun h3 => Fct.leafY ?_)
  all_goals try simp only [decide_eq_true_eq, decide_eq_false_iff_not, Bool.not_eq_true', Bool.not_eq_false', bne_iff_ne, bne_eq_false_iff_eq, beq_iff_eq, beq_eq_false_iff_ne, baEq, Int.not_lt, Int.not_le, ne_eq, Decidable.not_not] at *
  all_goals try simp only [LtoS, ftoSlot, ftoSlotS, baSz, List.size_toArray, List.length_cons, List.length_nil, Nat.reduceAdd, Int.toNat_zero, List.drop_zero, decide_eq_true_eq, decide_eq_false_iff_not, Bool.not_eq_true', Bool.not_eq_false', bne_iff_ne, bne_eq_false_iff_eq, beq_iff_eq, beq_eq_false_iff_ne, Bool.not_eq_true, Bool.not_eq_false, ne_eq, Decidable.not_not, baEq, decide_not, Prod.mk.injEq, and_true, true_and, Room, List.nil_append, Nat.zero_add, Int.not_lt, Int.not_le] at *
  · have := szL_len szSlot l; omega
  · exact ⟨by omega, by omega, by simp⟩
  · omega
  · have hs := sum_take_le szSlot l (y2.1.toNat + 1)
    rw [sum_take szSlot (by omega)] at hs
    simp only [szL] at hp; omega
  · rw [i2.2.2]; simp; omega
  · rw [i2.2.2]; simp; omega
  · have hw : IntKind.i64.wrap (y2.1 + 1) = y2.1 + 1 := wrapId (by have := szL_len szSlot l; omega)
    rw [hw, toNat1 (by omega), i2.2.2]
    refine ⟨⟨by omega, by omega, ?_⟩, by omega⟩
    rw [show l.length - y2.1.toNat = (l.length - (y2.1.toNat + 1)) + 1 from by omega, List.replicate_succ, mod_at (by simp; omega), take_succ (by omega)]
    simp
  · have e : l.take y2.1.toNat = l := List.take_of_length_le (by omega)
    rw [i2.2.2, e]; simp; omega)
def E44 : D.Env := E43.add 59 ftoSlotS
theorem E44ok : EOk Try.prog E44 := E43ok.add k59_43
-- laws.eqSlotS
set_option maxHeartbeats 2000000 in
theorem k70_44 : feqSlotS.ok Try.prog 70 := Fct.of (S := feqSlotS) (L := fun ⟨l, m, _⟩ => fun | 4 => some (LeqS .slot l m) | _ => none) (kp := [0,1,4,5,10,14,26]) E44ok Try.func70 (by kernel_rfl) (by kernel_rfl) (by
  rintro ⟨(l : List SSlot), (m : List SSlot), _⟩ hp
  refine holds_of (X := .br ((↑l.length : Int) != (↑m.length : Int))
 (.leaf (mkR feqSlotS.rs (false, ())) [] [])
 (lpx (LeqS .slot l m) ((0 : Int), ()) fun (y2 : Int × PUnit) bk2 =>
  .br (decide (y2.fst < (↑l.length : Int)))
   (.ob ((0 : Int) ≤ y2.fst ∧ y2.fst < (↑l.length : Int)) <|
    .ob ((0 : Int) ≤ y2.fst ∧ y2.fst < (↑m.length : Int)) <|
    .ob (feqSlot.pre (l.getD y2.fst.toNat default, m.getD y2.fst.toNat default, ())) <|
    .lt (Bool × PUnit) (feqSlot.fn (l.getD y2.fst.toNat default, m.getD y2.fst.toNat default, ())) fun z2 =>
    .br (!z2.fst)
     (.leaf (mkR feqSlotS.rs (false, ())) [] [])
     (.ob (l = l) <|
      .ob (m = m) <|
      .ob (Value.bool ((↑l.length : Int) != (↑m.length : Int)) = Value.bool ((↑l.length : Int) != (↑m.length : Int))) <|
      .ob (bk2 (IntKind.i64.wrap (y2.fst + (1 : Int)), ())) <|
      .ok))
   (.leaf (mkR feqSlotS.rs (true, ())) [] []))) (by kernel_rfl) ?_
  refine br_i (fun h1 => Fct.leafY ?_) (fun h1 => lpx_i ?_ fun (y2 : Int × PUnit) i2 => br_i (fun h3 => ob_i ?_ fun o4 => ob_i ?_ fun o5 => ob_i trivial fun _ => lt_i (br_i (fun h6 => Fct.leafY ?_) (fun h6 => ob_i rfl fun _ => ob_i rfl fun _ => ob_i rfl fun _ => ob_i ?_ fun o7 => trivial))) (fun h3 => Fct.leafY ?_))
  all_goals try simp only [decide_eq_true_eq, decide_eq_false_iff_not, Bool.not_eq_true', Bool.not_eq_false', bne_iff_ne, bne_eq_false_iff_eq, beq_iff_eq, beq_eq_false_iff_ne, baEq, Int.not_lt, Int.not_le, ne_eq, Decidable.not_not] at *
  all_goals try simp only [LeqS, feqSlot, feqSlotS, baSz, List.size_toArray, List.length_cons, List.length_nil, Nat.reduceAdd, Int.toNat_zero, List.drop_zero, decide_eq_true_eq, decide_eq_false_iff_not, Bool.not_eq_true', Bool.not_eq_false', bne_iff_ne, bne_eq_false_iff_eq, beq_iff_eq, beq_eq_false_iff_ne, Bool.not_eq_true, Bool.not_eq_false, ne_eq, Decidable.not_not, baEq, decide_not, Prod.mk.injEq, and_true, true_and, Room, List.nil_append, Nat.zero_add, Int.not_lt, Int.not_le] at *
  · rw [decide_eq_false]; rintro rfl; omega
  · exact ⟨by omega, by omega, by simp⟩
  · omega
  · omega
  · rw [decide_eq_false]; rintro rfl; exact absurd rfl h6
  · have hw : IntKind.i64.wrap (y2.1 + 1) = y2.1 + 1 := wrapId (by omega)
    rw [hw, toNat1 (by omega)]
    refine ⟨⟨by omega, by omega, ?_⟩, by omega⟩
    rw [take_succ (by omega), take_succ (by omega), i2.2.2, h6]
  · have e : l.take y2.1.toNat = l := List.take_of_length_le (by omega)
    have e2 : m.take y2.1.toNat = m := List.take_of_length_le (by omega)
    rw [decide_eq_true]; rw [← e, ← e2, i2.2.2])
def E45 : D.Env := E44.add 70 feqSlotS
theorem E45ok : EOk Try.prog E45 := E44ok.add k70_44
-- laws.szModule
set_option maxHeartbeats 2000000 in
theorem k113_45 : fszModule.ok Try.prog 113 := Fct.of (S := fszModule) (L := fun _ _ => none) (kp := [0,1,2,4,10,17]) E45ok Try.func113 (by kernel_rfl) (by kernel_rfl) (by
  rintro ⟨(x : SModule), (n : Int), _⟩ hp
  refine holds_of (X := .ob (fszAddr.pre (x.to, n, ())) <|
 .lt (Int × PUnit) (fszAddr.fn (x.to, n, ())) fun z2 =>
 .br (decide (z2.fst < (0 : Int)))
  (.leaf (mkR fszModule.rs ((-1 : Int), ())) [] [])
  (.br (decide (IntKind.i64.wrap (z2.fst - (↑x.body.size : Int)) < (0 : Int)))
   (.leaf (mkR fszModule.rs ((-1 : Int), ())) [] [])
   (.leaf (mkR fszModule.rs (IntKind.i64.wrap (z2.fst - (↑x.body.size : Int)), ())) [] []))) (by kernel_rfl) ?_
  refine ob_i ?_ fun o1 => lt_i (br_i (fun h2 => Fct.leafY ?_) (fun h2 => br_i (fun h3 => Fct.leafY ?_) (fun h3 => Fct.leafY ?_)))
  all_goals try simp only [decide_eq_true_eq, decide_eq_false_iff_not, Bool.not_eq_true', Bool.not_eq_false', bne_iff_ne, bne_eq_false_iff_eq, beq_iff_eq, beq_eq_false_iff_ne, baEq, Int.not_lt, Int.not_le, ne_eq, Decidable.not_not] at *
  all_goals try simp only [fszAddr, fszModule, baSz, List.size_toArray, List.length_cons, List.length_nil, Nat.reduceAdd, Int.toNat_zero, List.drop_zero, decide_eq_true_eq, decide_eq_false_iff_not, Bool.not_eq_true', Bool.not_eq_false', bne_iff_ne, bne_eq_false_iff_eq, beq_iff_eq, beq_eq_false_iff_ne, Bool.not_eq_true, Bool.not_eq_false, ne_eq, Decidable.not_not, baEq, decide_not, Prod.mk.injEq, and_true, true_and, Room, List.nil_append, Nat.zero_add, Int.not_lt, Int.not_le, Sh.good, Sh.fc, enc, List.forall_mem_cons, List.not_mem_nil, false_implies, implies_true, goodC, maxLen] at *
  all_goals grind [wrapId', lessen, szAddr, szModule])
def E46 : D.Env := E45.add 113 fszModule
theorem E46ok : EOk Try.prog E46 := E45ok.add k113_45
-- laws.toModule
theorem k119_46 : ftoModule.ok Try.prog 119 := Fct.of (S := ftoModule) (L := fun _ _ => none) (kp := [0,1,2,3]) E46ok Try.func119 (by kernel_rfl) (by kernel_rfl) (by
  rintro ⟨(x : SModule), _⟩ hp
  refine holds_of (X := .ob (ftoAddr.pre (x.to, ())) <|
 .lt (SAddr × PUnit) (ftoAddr.fn (x.to, ())) fun z2 =>
 .leaf (mkR ftoModule.rs (⟨z2.fst, x.done, x.code, x.body⟩, ())) [] []) (by kernel_rfl) ?_
  refine ob_i ?_ fun o1 => lt_i (Fct.leafY ?_)
  all_goals try simp only [decide_eq_true_eq, decide_eq_false_iff_not, Bool.not_eq_true', Bool.not_eq_false', bne_iff_ne, bne_eq_false_iff_eq, beq_iff_eq, beq_eq_false_iff_ne, baEq, Int.not_lt, Int.not_le, ne_eq, Decidable.not_not] at *
  all_goals try simp only [ftoAddr, ftoModule, baSz, List.size_toArray, List.length_cons, List.length_nil, Nat.reduceAdd, Int.toNat_zero, List.drop_zero, decide_eq_true_eq, decide_eq_false_iff_not, Bool.not_eq_true', Bool.not_eq_false', bne_iff_ne, bne_eq_false_iff_eq, beq_iff_eq, beq_eq_false_iff_ne, Bool.not_eq_true, Bool.not_eq_false, ne_eq, Decidable.not_not, baEq, decide_not, Prod.mk.injEq, and_true, true_and, Room, List.nil_append, Nat.zero_add, Int.not_lt, Int.not_le] at *
  all_goals first | trivial | rfl | grind [szAddr, szModule])
def E47 : D.Env := E46.add 119 ftoModule
theorem E47ok : EOk Try.prog E47 := E46ok.add k119_46
-- laws.eqModule
set_option maxHeartbeats 2000000 in
theorem k125_47 : feqModule.ok Try.prog 125 := Fct.of (S := feqModule) (L := fun _ _ => none) (kp := [0,1,2,3,4,10,15,20,25]) E47ok Try.func125 (by kernel_rfl) (by kernel_rfl) (by
  rintro ⟨(x : SModule), (y : SModule), _⟩ hp
  refine holds_of (X := .ob (feqAddr.pre (x.to, y.to, ())) <|
 .lt (Bool × PUnit) (feqAddr.fn (x.to, y.to, ())) fun z2 =>
 .br (!z2.fst)
  (.leaf (mkR feqModule.rs (false, ())) [] [])
  (.br (!x.done == y.done)
   (.leaf (mkR feqModule.rs (false, ())) [] [])
   (.br (x.code != y.code)
    (.leaf (mkR feqModule.rs (false, ())) [] [])
    (.br (!x.body.toList == y.body.toList)
     (.leaf (mkR feqModule.rs (false, ())) [] [])
     (.leaf (mkR feqModule.rs (true, ())) [] []))))) (by kernel_rfl) ?_
  refine ob_i trivial fun _ => lt_i (br_i (fun h1 => Fct.leafY ?_) (fun h1 => br_i (fun h2 => Fct.leafY ?_) (fun h2 => br_i (fun h3 => Fct.leafY ?_) (fun h3 => br_i (fun h4 => Fct.leafY ?_) (fun h4 => Fct.leafY ?_)))))
  all_goals try simp only [decide_eq_true_eq, decide_eq_false_iff_not, Bool.not_eq_true', Bool.not_eq_false', bne_iff_ne, bne_eq_false_iff_eq, beq_iff_eq, beq_eq_false_iff_ne, baEq, Int.not_lt, Int.not_le, ne_eq, Decidable.not_not] at *
  all_goals try simp only [feqAddr, feqModule, baSz, List.size_toArray, List.length_cons, List.length_nil, Nat.reduceAdd, Int.toNat_zero, List.drop_zero, decide_eq_true_eq, decide_eq_false_iff_not, Bool.not_eq_true', Bool.not_eq_false', bne_iff_ne, bne_eq_false_iff_eq, beq_iff_eq, beq_eq_false_iff_ne, Bool.not_eq_true, Bool.not_eq_false, ne_eq, Decidable.not_not, baEq, decide_not, Prod.mk.injEq, and_true, true_and, Room, List.nil_append, Nat.zero_add, Int.not_lt, Int.not_le] at *
  all_goals first | trivial | (cases x; cases y; simp_all; done) | (simp only [szAddr, szModule] at *; omega) | grind [szAddr, szModule])
def E48 : D.Env := E47.add 125 feqModule
theorem E48ok : EOk Try.prog E48 := E47ok.add k125_47
-- laws.szModuleS
set_option maxHeartbeats 2000000 in
theorem k49_48 : fszModuleS.ok Try.prog 49 := Fct.of (S := fszModuleS) (L := fun ⟨l, n, _⟩ => fun | 5 => some (LszS .module szModule l n) | _ => none) (kp := [0,1,4,5,11,15,25]) E48ok Try.func49 (by kernel_rfl) (by kernel_rfl) (by
  rintro ⟨(l : List SModule), (n : Int), _⟩ hp
  refine holds_of (X := .br (decide (IntKind.i64.wrap (n - (↑l.length : Int)) < (0 : Int)))
 (.leaf (mkR fszModuleS.rs ((-1 : Int), ())) [] [])
 (lpx (LszS .module szModule l n) (IntKind.i64.wrap (n - (↑l.length : Int)), ((0 : Int), ())) fun (y2 : Int × Int × PUnit) bk2 =>
  .br (decide (y2.snd.fst < (↑l.length : Int)))
   (.ob ((0 : Int) ≤ y2.snd.fst ∧ y2.snd.fst < (↑l.length : Int)) <|
    .ob (fszModule.pre (l.getD y2.snd.fst.toNat default, y2.fst, ())) <|
    .lt (Int × PUnit) (fszModule.fn (l.getD y2.snd.fst.toNat default, y2.fst, ())) fun z2 =>
    .br (decide (z2.fst < (0 : Int)))
     (.leaf (mkR fszModuleS.rs ((-1 : Int), ())) [] [])
     (.ob (l = l) <|
      .ob (Value.bool (decide (IntKind.i64.wrap (n - (↑l.length : Int)) < (0 : Int))) =
  Value.bool (decide (IntKind.i64.wrap (n - (↑l.length : Int)) < (0 : Int)))) <|
      .ob (bk2 (z2.fst, (IntKind.i64.wrap (y2.snd.fst + (1 : Int)), ()))) <|
      .ok))
   (.leaf (mkR fszModuleS.rs (y2.fst, ())) [] []))) (by kernel_rfl) ?_
  refine br_i (fun h1 => Fct.leafY ?_) (fun h1 => lpx_i ?_ fun (y2 : Int × Int × PUnit) i2 => br_i (fun h3 => ob_i ?_ fun o4 => ob_i ?_ fun o5 => lt_i (br_i (fun h6 => Fct.leafY ?_) (fun h6 => ob_i rfl fun _ => ob_i rfl fun _ => ob_i ?_ fun o7 => trivial))) (fun h3 => Fct.leafY ?_))
  all_goals try simp only [decide_eq_true_eq, decide_eq_false_iff_not, Bool.not_eq_true', Bool.not_eq_false', bne_iff_ne, bne_eq_false_iff_eq, beq_iff_eq, beq_eq_false_iff_ne, baEq, Int.not_lt, Int.not_le, ne_eq, Decidable.not_not] at *
  all_goals try simp only [LszS, fszModule, fszModuleS, baSz, List.size_toArray, List.length_cons, List.length_nil, Nat.reduceAdd, Int.toNat_zero, List.drop_zero, decide_eq_true_eq, decide_eq_false_iff_not, Bool.not_eq_true', Bool.not_eq_false', bne_iff_ne, bne_eq_false_iff_eq, beq_iff_eq, beq_eq_false_iff_ne, Bool.not_eq_true, Bool.not_eq_false, ne_eq, Decidable.not_not, baEq, decide_not, Prod.mk.injEq, and_true, true_and, Room, List.nil_append, Nat.zero_add, Int.not_lt, Int.not_le] at *
  · have := good_len hp.1; simp only [maxLen] at this; rw [wrapId (by omega)] at h1
    rw [lessenNeg (by simp only [szL]; omega)]
  · have := good_len hp.1; simp only [maxLen] at this
    rw [wrapId (by omega)] at h1 ⊢
    exact ⟨by omega, by omega, h1, by simp⟩
  · omega
  · exact ⟨good_getD hp.1 (by omega), by omega, by omega⟩
  · have hs := sum_take_le szModule l (y2.2.1.toNat + 1)
    rw [sum_take szModule (by omega)] at hs
    rw [lessen_lt (by omega)] at h6
    rw [lessenNeg (by simp only [szL]; omega)]
  · have hw : IntKind.i64.wrap (y2.2.1 + 1) = y2.2.1 + 1 := wrapId (by have := good_len hp.1; simp only [maxLen] at this; omega)
    have h7 : ¬ lessen y2.1 (szModule (l.getD y2.2.1.toNat default)) < 0 := by omega
    rw [lessen_lt (by omega)] at h7
    rw [hw, toNat1 (by omega), sum_take szModule (by omega), lessen_ge (by omega)]
    exact ⟨⟨by omega, by omega, by omega, by omega⟩, by omega⟩
  · have e : l.take y2.2.1.toNat = l := List.take_of_length_le (by omega)
    rw [e] at i2
    have hz : ((szL szModule l : Nat) : Int) = l.length + (l.map szModule).sum := by simp only [szL]; omega
    rw [lessen_ge (by omega)]
    show y2.1 = n - ((szL szModule l : Nat) : Int)
    omega)
def E49 : D.Env := E48.add 49 fszModuleS
theorem E49ok : EOk Try.prog E49 := E48ok.add k49_48
-- laws.toModuleS
theorem k60_49 : ftoModuleS.ok Try.prog 60 := Fct.of (S := ftoModuleS) (L := fun ⟨l, _⟩ => fun | 3 => some (LtoS .module l) | _ => none) (kp := [0,2,3,4,11]) E49ok Try.func60 (by kernel_rfl) (by kernel_rfl) (by
  rintro ⟨(l : List SModule), _⟩ hp
  refine holds_of (X := .ob ((↑l.length : Int) = (↑l.length : Int) ∧
  (0 : Int) ≤ (↑l.length : Int) ∧
    (64 : Int) * (↑l.length : Int) ≤ (140737488355328 : Int) ∧ (↑l.length : Int) ≤ (140737488355328 : Int)) <|
 lpx (LtoS .module l) ((0 : Int), (List.replicate (↑l.length : Int).toNat default, ())) fun (y2 : Int × List SModule × PUnit) bk2 =>
 .br (decide (y2.fst < (↑l.length : Int)))
  (.ob ((0 : Int) ≤ y2.fst ∧ y2.fst < (↑l.length : Int)) <|
   .ob (ftoModule.pre (l.getD y2.fst.toNat default, ())) <|
   .lt (SModule × PUnit) (ftoModule.fn (l.getD y2.fst.toNat default, ())) fun z2 =>
   .ob ((0 : Int) ≤ y2.fst ∧ y2.fst < (↑y2.snd.fst.length : Int)) <|
    .ob (y2.fst.toNat < y2.snd.fst.length) <|
    .lt (List SModule) (y2.snd.fst.modify y2.fst.toNat fun z => z2.fst) fun z3 =>
    .ob (l = l) <|
     .ob (bk2 (IntKind.i64.wrap (y2.fst + (1 : Int)), (z3, ()))) <|
     .ok)
  (.leaf (mkR ftoModuleS.rs (y2.snd.fst, ())) [] [])) (by kernel_rfl) ?_
  refine ob_i ?_ fun o1 => lpx_i ?_ fun (y2 : Int × List SModule × PUnit) i2 => br_i (fun h3 => ob_i ?_ fun o4 => ob_i ?_ fun o5 => lt_i (ob_i ?_ fun o6 => ob_i ?_ fun o7 => lt_i (ob_i rfl fun _ => ob_i ?_ fun o8 => trivial))) (fun h3 => Fct.leafY ?_)
  all_goals try simp only [decide_eq_true_eq, decide_eq_false_iff_not, Bool.not_eq_true', Bool.not_eq_false', bne_iff_ne, bne_eq_false_iff_eq, beq_iff_eq, beq_eq_false_iff_ne, baEq, Int.not_lt, Int.not_le, ne_eq, Decidable.not_not] at *
  all_goals try simp only [LtoS, ftoModule, ftoModuleS, baSz, List.size_toArray, List.length_cons, List.length_nil, Nat.reduceAdd, Int.toNat_zero, List.drop_zero, decide_eq_true_eq, decide_eq_false_iff_not, Bool.not_eq_true', Bool.not_eq_false', bne_iff_ne, bne_eq_false_iff_eq, beq_iff_eq, beq_eq_false_iff_ne, Bool.not_eq_true, Bool.not_eq_false, ne_eq, Decidable.not_not, baEq, decide_not, Prod.mk.injEq, and_true, true_and, Room, List.nil_append, Nat.zero_add, Int.not_lt, Int.not_le] at *
  · have := szL_len szModule l; omega
  · exact ⟨by omega, by omega, by simp⟩
  · omega
  · have hs := sum_take_le szModule l (y2.1.toNat + 1)
    rw [sum_take szModule (by omega)] at hs
    simp only [szL] at hp; omega
  · rw [i2.2.2]; simp; omega
  · rw [i2.2.2]; simp; omega
  · have hw : IntKind.i64.wrap (y2.1 + 1) = y2.1 + 1 := wrapId (by have := szL_len szModule l; omega)
    rw [hw, toNat1 (by omega), i2.2.2]
    refine ⟨⟨by omega, by omega, ?_⟩, by omega⟩
    rw [show l.length - y2.1.toNat = (l.length - (y2.1.toNat + 1)) + 1 from by omega, List.replicate_succ, mod_at (by simp; omega), take_succ (by omega)]
    simp
  · have e : l.take y2.1.toNat = l := List.take_of_length_le (by omega)
    rw [i2.2.2, e]; simp; omega)
def E50 : D.Env := E49.add 60 ftoModuleS
theorem E50ok : EOk Try.prog E50 := E49ok.add k60_49
-- laws.eqModuleS
set_option maxHeartbeats 2000000 in
theorem k71_50 : feqModuleS.ok Try.prog 71 := Fct.of (S := feqModuleS) (L := fun ⟨l, m, _⟩ => fun | 4 => some (LeqS .module l m) | _ => none) (kp := [0,1,4,5,10,14,26]) E50ok Try.func71 (by kernel_rfl) (by kernel_rfl) (by
  rintro ⟨(l : List SModule), (m : List SModule), _⟩ hp
  refine holds_of (X := .br ((↑l.length : Int) != (↑m.length : Int))
 (.leaf (mkR feqModuleS.rs (false, ())) [] [])
 (lpx (LeqS .module l m) ((0 : Int), ()) fun (y2 : Int × PUnit) bk2 =>
  .br (decide (y2.fst < (↑l.length : Int)))
   (.ob ((0 : Int) ≤ y2.fst ∧ y2.fst < (↑l.length : Int)) <|
    .ob ((0 : Int) ≤ y2.fst ∧ y2.fst < (↑m.length : Int)) <|
    .ob (feqModule.pre (l.getD y2.fst.toNat default, m.getD y2.fst.toNat default, ())) <|
    .lt (Bool × PUnit) (feqModule.fn (l.getD y2.fst.toNat default, m.getD y2.fst.toNat default, ())) fun z2 =>
    .br (!z2.fst)
     (.leaf (mkR feqModuleS.rs (false, ())) [] [])
     (.ob (l = l) <|
      .ob (m = m) <|
      .ob (Value.bool ((↑l.length : Int) != (↑m.length : Int)) = Value.bool ((↑l.length : Int) != (↑m.length : Int))) <|
      .ob (bk2 (IntKind.i64.wrap (y2.fst + (1 : Int)), ())) <|
      .ok))
   (.leaf (mkR feqModuleS.rs (true, ())) [] []))) (by kernel_rfl) ?_
  refine br_i (fun h1 => Fct.leafY ?_) (fun h1 => lpx_i ?_ fun (y2 : Int × PUnit) i2 => br_i (fun h3 => ob_i ?_ fun o4 => ob_i ?_ fun o5 => ob_i trivial fun _ => lt_i (br_i (fun h6 => Fct.leafY ?_) (fun h6 => ob_i rfl fun _ => ob_i rfl fun _ => ob_i rfl fun _ => ob_i ?_ fun o7 => trivial))) (fun h3 => Fct.leafY ?_))
  all_goals try simp only [decide_eq_true_eq, decide_eq_false_iff_not, Bool.not_eq_true', Bool.not_eq_false', bne_iff_ne, bne_eq_false_iff_eq, beq_iff_eq, beq_eq_false_iff_ne, baEq, Int.not_lt, Int.not_le, ne_eq, Decidable.not_not] at *
  all_goals try simp only [LeqS, feqModule, feqModuleS, baSz, List.size_toArray, List.length_cons, List.length_nil, Nat.reduceAdd, Int.toNat_zero, List.drop_zero, decide_eq_true_eq, decide_eq_false_iff_not, Bool.not_eq_true', Bool.not_eq_false', bne_iff_ne, bne_eq_false_iff_eq, beq_iff_eq, beq_eq_false_iff_ne, Bool.not_eq_true, Bool.not_eq_false, ne_eq, Decidable.not_not, baEq, decide_not, Prod.mk.injEq, and_true, true_and, Room, List.nil_append, Nat.zero_add, Int.not_lt, Int.not_le] at *
  · rw [decide_eq_false]; rintro rfl; omega
  · exact ⟨by omega, by omega, by simp⟩
  · omega
  · omega
  · rw [decide_eq_false]; rintro rfl; exact absurd rfl h6
  · have hw : IntKind.i64.wrap (y2.1 + 1) = y2.1 + 1 := wrapId (by omega)
    rw [hw, toNat1 (by omega)]
    refine ⟨⟨by omega, by omega, ?_⟩, by omega⟩
    rw [take_succ (by omega), take_succ (by omega), i2.2.2, h6]
  · have e : l.take y2.1.toNat = l := List.take_of_length_le (by omega)
    have e2 : m.take y2.1.toNat = m := List.take_of_length_le (by omega)
    rw [decide_eq_true]; rw [← e, ← e2, i2.2.2])
def E51 : D.Env := E50.add 71 feqModuleS
theorem E51ok : EOk Try.prog E51 := E50ok.add k71_50
-- laws.szPage
set_option maxHeartbeats 2000000 in
theorem k10_51 : fszPage.ok Try.prog 10 := Fct.of (S := fszPage) (L := fun _ _ => none) (kp := [0,1,2,4,10,16,22,28,34,40,46,52,58,64]) E51ok Try.func10 (by kernel_rfl) (by kernel_rfl) (by
  rintro ⟨(x : SPage), (n : Int), _⟩ hp
  refine holds_of (X := .ob (fszAddr.pre (x.addr, n, ())) <|
 .lt (Int × PUnit) (fszAddr.fn (x.addr, n, ())) fun z2 =>
 .br (decide (z2.fst < (0 : Int)))
  (.leaf (mkR fszPage.rs ((-1 : Int), ())) [] [])
  (.ob (fszPolicy.pre (x.policy, z2.fst, ())) <|
   .lt (Int × PUnit) (fszPolicy.fn (x.policy, z2.fst, ())) fun z3 =>
   .br (decide (z3.fst < (0 : Int)))
    (.leaf (mkR fszPage.rs ((-1 : Int), ())) [] [])
    (.ob (fszTokenizer.pre (x.tok, z3.fst, ())) <|
     .lt (Int × PUnit) (fszTokenizer.fn (x.tok, z3.fst, ())) fun z4 =>
     .br (decide (z4.fst < (0 : Int)))
      (.leaf (mkR fszPage.rs ((-1 : Int), ())) [] [])
      (.ob (fszTokenS.pre (x.queue, z4.fst, ())) <|
       .lt (Int × PUnit) (fszTokenS.fn (x.queue, z4.fst, ())) fun z5 =>
       .br (decide (z5.fst < (0 : Int)))
        (.leaf (mkR fszPage.rs ((-1 : Int), ())) [] [])
        (.ob (fszBuilder.pre (x.builder, z5.fst, ())) <|
         .lt (Int × PUnit) (fszBuilder.fn (x.builder, z5.fst, ())) fun z6 =>
         .br (decide (z6.fst < (0 : Int)))
          (.leaf (mkR fszPage.rs ((-1 : Int), ())) [] [])
          (.ob (fszSlotS.pre (x.slots, z6.fst, ())) <|
           .lt (Int × PUnit) (fszSlotS.fn (x.slots, z6.fst, ())) fun z7 =>
           .br (decide (z7.fst < (0 : Int)))
            (.leaf (mkR fszPage.rs ((-1 : Int), ())) [] [])
            (.ob (fszModuleS.pre (x.mods, z7.fst, ())) <|
             .lt (Int × PUnit) (fszModuleS.fn (x.mods, z7.fst, ())) fun z8 =>
             .br (decide (z8.fst < (0 : Int)))
              (.leaf (mkR fszPage.rs ((-1 : Int), ())) [] [])
              (.ob (fszAddrS.pre (x.entries, z8.fst, ())) <|
               .lt (Int × PUnit) (fszAddrS.fn (x.entries, z8.fst, ())) fun z9 =>
               .br (decide (z9.fst < (0 : Int)))
                (.leaf (mkR fszPage.rs ((-1 : Int), ())) [] [])
                (.ob (fszAddrS.pre (x.ran, z9.fst, ())) <|
                 .lt (Int × PUnit) (fszAddrS.fn (x.ran, z9.fst, ())) fun z10 =>
                 .br (decide (z10.fst < (0 : Int)))
                  (.leaf (mkR fszPage.rs ((-1 : Int), ())) [] [])
                  (.ob (fszStringS.pre (x.log, z10.fst, ())) <|
                   .lt (Int × PUnit) (fszStringS.fn (x.log, z10.fst, ())) fun z11 =>
                   .br (decide (z11.fst < (0 : Int)))
                    (.leaf (mkR fszPage.rs ((-1 : Int), ())) [] [])
                    (.leaf (mkR fszPage.rs (z11.fst, ())) [] []))))))))))) (by kernel_rfl) ?_
  refine ob_i ?_ fun o1 => lt_i (br_i (fun h2 => Fct.leafY ?_) (fun h2 => ob_i ?_ fun o3 => lt_i (br_i (fun h4 => Fct.leafY ?_) (fun h4 => ob_i ?_ fun o5 => lt_i (br_i (fun h6 => Fct.leafY ?_) (fun h6 => ob_i ?_ fun o7 => lt_i (br_i (fun h8 => Fct.leafY ?_) (fun h8 => ob_i ?_ fun o9 => lt_i (br_i (fun h10 => Fct.leafY ?_) (fun h10 => ob_i ?_ fun o11 => lt_i (br_i (fun h12 => Fct.leafY ?_) (fun h12 => ob_i ?_ fun o13 => lt_i (br_i (fun h14 => Fct.leafY ?_) (fun h14 => ob_i ?_ fun o15 => lt_i (br_i (fun h16 => Fct.leafY ?_) (fun h16 => ob_i ?_ fun o17 => lt_i (br_i (fun h18 => Fct.leafY ?_) (fun h18 => ob_i ?_ fun o19 => lt_i (br_i (fun h20 => Fct.leafY ?_) (fun h20 => Fct.leafY ?_))))))))))))))))))))
  all_goals try simp only [decide_eq_true_eq, decide_eq_false_iff_not, Bool.not_eq_true', Bool.not_eq_false', bne_iff_ne, bne_eq_false_iff_eq, beq_iff_eq, beq_eq_false_iff_ne, baEq, Int.not_lt, Int.not_le, ne_eq, Decidable.not_not] at *
  all_goals try simp only [fszAddr, fszAddrS, fszBuilder, fszModuleS, fszPage, fszPolicy, fszSlotS, fszStringS, fszTokenS, fszTokenizer, baSz, List.size_toArray, List.length_cons, List.length_nil, Nat.reduceAdd, Int.toNat_zero, List.drop_zero, decide_eq_true_eq, decide_eq_false_iff_not, Bool.not_eq_true', Bool.not_eq_false', bne_iff_ne, bne_eq_false_iff_eq, beq_iff_eq, beq_eq_false_iff_ne, Bool.not_eq_true, Bool.not_eq_false, ne_eq, Decidable.not_not, baEq, decide_not, Prod.mk.injEq, and_true, true_and, Room, List.nil_append, Nat.zero_add, Int.not_lt, Int.not_le, Sh.good, Sh.fc, enc, List.forall_mem_cons, List.not_mem_nil, false_implies, implies_true, goodC, maxLen] at *
  all_goals grind [wrapId', lessen, szAddr, szBuilder, szL, szPage, szPolicy, szTokenizer])
def E52 : D.Env := E51.add 10 fszPage
theorem E52ok : EOk Try.prog E52 := E51ok.add k10_51
-- laws.toPage
theorem k13_52 : ftoPage.ok Try.prog 13 := Fct.of (S := ftoPage) (L := fun _ _ => none) (kp := [0,1,2,3]) E52ok Try.func13 (by kernel_rfl) (by kernel_rfl) (by
  rintro ⟨(x : SPage), _⟩ hp
  refine holds_of (X := .ob (ftoAddr.pre (x.addr, ())) <|
 .lt (SAddr × PUnit) (ftoAddr.fn (x.addr, ())) fun z2 =>
 .ob (ftoPolicy.pre (x.policy, ())) <|
  .lt (SPolicy × PUnit) (ftoPolicy.fn (x.policy, ())) fun z3 =>
  .ob (ftoTokenizer.pre (x.tok, ())) <|
   .lt (STokenizer × PUnit) (ftoTokenizer.fn (x.tok, ())) fun z4 =>
   .ob (ftoTokenS.pre (x.queue, ())) <|
    .lt (List SToken × PUnit) (ftoTokenS.fn (x.queue, ())) fun z5 =>
    .ob (ftoBuilder.pre (x.builder, ())) <|
     .lt (SBuilder × PUnit) (ftoBuilder.fn (x.builder, ())) fun z6 =>
     .ob (ftoSlotS.pre (x.slots, ())) <|
      .lt (List SSlot × PUnit) (ftoSlotS.fn (x.slots, ())) fun z7 =>
      .ob (ftoModuleS.pre (x.mods, ())) <|
       .lt (List SModule × PUnit) (ftoModuleS.fn (x.mods, ())) fun z8 =>
       .ob (ftoAddrS.pre (x.entries, ())) <|
        .lt (List SAddr × PUnit) (ftoAddrS.fn (x.entries, ())) fun z9 =>
        .ob (ftoAddrS.pre (x.ran, ())) <|
         .lt (List SAddr × PUnit) (ftoAddrS.fn (x.ran, ())) fun z10 =>
         .ob (ftoStringS.pre (x.log, ())) <|
          .lt (List ByteArray × PUnit) (ftoStringS.fn (x.log, ())) fun z11 =>
          .leaf (mkR ftoPage.rs (⟨z2.fst, z3.fst, z4.fst, z5.fst, x.ended, z6.fst, z7.fst, z8.fst, z9.fst, x.block, x.inline, x.deferred, x.entered, z10.fst, z11.fst, x.loaded⟩, ())) [] []) (by kernel_rfl) ?_
  refine ob_i ?_ fun o1 => lt_i (ob_i ?_ fun o2 => lt_i (ob_i ?_ fun o3 => lt_i (ob_i ?_ fun o4 => lt_i (ob_i ?_ fun o5 => lt_i (ob_i ?_ fun o6 => lt_i (ob_i ?_ fun o7 => lt_i (ob_i ?_ fun o8 => lt_i (ob_i ?_ fun o9 => lt_i (ob_i ?_ fun o10 => lt_i (Fct.leafY ?_))))))))))
  all_goals try simp only [decide_eq_true_eq, decide_eq_false_iff_not, Bool.not_eq_true', Bool.not_eq_false', bne_iff_ne, bne_eq_false_iff_eq, beq_iff_eq, beq_eq_false_iff_ne, baEq, Int.not_lt, Int.not_le, ne_eq, Decidable.not_not] at *
  all_goals try simp only [ftoAddr, ftoAddrS, ftoBuilder, ftoModuleS, ftoPage, ftoPolicy, ftoSlotS, ftoStringS, ftoTokenS, ftoTokenizer, baSz, List.size_toArray, List.length_cons, List.length_nil, Nat.reduceAdd, Int.toNat_zero, List.drop_zero, decide_eq_true_eq, decide_eq_false_iff_not, Bool.not_eq_true', Bool.not_eq_false', bne_iff_ne, bne_eq_false_iff_eq, beq_iff_eq, beq_eq_false_iff_ne, Bool.not_eq_true, Bool.not_eq_false, ne_eq, Decidable.not_not, baEq, decide_not, Prod.mk.injEq, and_true, true_and, Room, List.nil_append, Nat.zero_add, Int.not_lt, Int.not_le] at *
  all_goals first | trivial | rfl | grind [szAddr, szBuilder, szL, szPage, szPolicy, szTokenizer])
def E53 : D.Env := E52.add 13 ftoPage
theorem E53ok : EOk Try.prog E53 := E52ok.add k13_52
-- laws.eqPage
set_option maxHeartbeats 2000000 in
theorem k16_53 : feqPage.ok Try.prog 16 := Fct.of (S := feqPage) (L := fun _ _ => none) (kp := [0,1,2,3,4,10,16,22,28,33,39,45,51,57,62,67,72,77,83,89,94]) E53ok Try.func16 (by kernel_rfl) (by kernel_rfl) (by
  rintro ⟨(x : SPage), (y : SPage), _⟩ hp
  refine holds_of (X := .ob (feqAddr.pre (x.addr, y.addr, ())) <|
 .lt (Bool × PUnit) (feqAddr.fn (x.addr, y.addr, ())) fun z2 =>
 .br (!z2.fst)
  (.leaf (mkR feqPage.rs (false, ())) [] [])
  (.ob (feqPolicy.pre (x.policy, y.policy, ())) <|
   .lt (Bool × PUnit) (feqPolicy.fn (x.policy, y.policy, ())) fun z3 =>
   .br (!z3.fst)
    (.leaf (mkR feqPage.rs (false, ())) [] [])
    (.ob (feqTokenizer.pre (x.tok, y.tok, ())) <|
     .lt (Bool × PUnit) (feqTokenizer.fn (x.tok, y.tok, ())) fun z4 =>
     .br (!z4.fst)
      (.leaf (mkR feqPage.rs (false, ())) [] [])
      (.ob (feqTokenS.pre (x.queue, y.queue, ())) <|
       .lt (Bool × PUnit) (feqTokenS.fn (x.queue, y.queue, ())) fun z5 =>
       .br (!z5.fst)
        (.leaf (mkR feqPage.rs (false, ())) [] [])
        (.br (!x.ended == y.ended)
         (.leaf (mkR feqPage.rs (false, ())) [] [])
         (.ob (feqBuilder.pre (x.builder, y.builder, ())) <|
          .lt (Bool × PUnit) (feqBuilder.fn (x.builder, y.builder, ())) fun z6 =>
          .br (!z6.fst)
           (.leaf (mkR feqPage.rs (false, ())) [] [])
           (.ob (feqSlotS.pre (x.slots, y.slots, ())) <|
            .lt (Bool × PUnit) (feqSlotS.fn (x.slots, y.slots, ())) fun z7 =>
            .br (!z7.fst)
             (.leaf (mkR feqPage.rs (false, ())) [] [])
             (.ob (feqModuleS.pre (x.mods, y.mods, ())) <|
              .lt (Bool × PUnit) (feqModuleS.fn (x.mods, y.mods, ())) fun z8 =>
              .br (!z8.fst)
               (.leaf (mkR feqPage.rs (false, ())) [] [])
               (.ob (feqAddrS.pre (x.entries, y.entries, ())) <|
                .lt (Bool × PUnit) (feqAddrS.fn (x.entries, y.entries, ())) fun z9 =>
                .br (!z9.fst)
                 (.leaf (mkR feqPage.rs (false, ())) [] [])
                 (.br (x.block != y.block)
                  (.leaf (mkR feqPage.rs (false, ())) [] [])
                  (.br (x.inline != y.inline)
                   (.leaf (mkR feqPage.rs (false, ())) [] [])
                   (.br (x.deferred != y.deferred)
                    (.leaf (mkR feqPage.rs (false, ())) [] [])
                    (.br (x.entered != y.entered)
                     (.leaf (mkR feqPage.rs (false, ())) [] [])
                     (.ob (feqAddrS.pre (x.ran, y.ran, ())) <|
                      .lt (Bool × PUnit) (feqAddrS.fn (x.ran, y.ran, ())) fun z10 =>
                      .br (!z10.fst)
                       (.leaf (mkR feqPage.rs (false, ())) [] [])
                       (.ob (feqStringS.pre (x.log, y.log, ())) <|
                        .lt (Bool × PUnit) (feqStringS.fn (x.log, y.log, ())) fun z11 =>
                        .br (!z11.fst)
                         (.leaf (mkR feqPage.rs (false, ())) [] [])
                         (.br (!x.loaded == y.loaded)
                          (.leaf (mkR feqPage.rs (false, ())) [] [])
                          (.leaf (mkR feqPage.rs (true, ())) [] []))))))))))))))))) (by kernel_rfl) ?_
  refine ob_i trivial fun _ => lt_i (br_i (fun h1 => Fct.leafY ?_) (fun h1 => ob_i ?_ fun o2 => lt_i (br_i (fun h3 => Fct.leafY ?_) (fun h3 => ob_i trivial fun _ => lt_i (br_i (fun h4 => Fct.leafY ?_) (fun h4 => ob_i ?_ fun o5 => lt_i (br_i (fun h6 => Fct.leafY ?_) (fun h6 => br_i (fun h7 => Fct.leafY ?_) (fun h7 => ob_i ?_ fun o8 => lt_i (br_i (fun h9 => Fct.leafY ?_) (fun h9 => ob_i ?_ fun o10 => lt_i (br_i (fun h11 => Fct.leafY ?_) (fun h11 => ob_i ?_ fun o12 => lt_i (br_i (fun h13 => Fct.leafY ?_) (fun h13 => ob_i ?_ fun o14 => lt_i (br_i (fun h15 => Fct.leafY ?_) (fun h15 => br_i (fun h16 => Fct.leafY ?_) (fun h16 => br_i (fun h17 => Fct.leafY ?_) (fun h17 => br_i (fun h18 => Fct.leafY ?_) (fun h18 => br_i (fun h19 => Fct.leafY ?_) (fun h19 => ob_i ?_ fun o20 => lt_i (br_i (fun h21 => Fct.leafY ?_) (fun h21 => ob_i ?_ fun o22 => lt_i (br_i (fun h23 => Fct.leafY ?_) (fun h23 => br_i (fun h24 => Fct.leafY ?_) (fun h24 => Fct.leafY ?_))))))))))))))))))))))))))
  all_goals try simp only [decide_eq_true_eq, decide_eq_false_iff_not, Bool.not_eq_true', Bool.not_eq_false', bne_iff_ne, bne_eq_false_iff_eq, beq_iff_eq, beq_eq_false_iff_ne, baEq, Int.not_lt, Int.not_le, ne_eq, Decidable.not_not] at *
  all_goals try simp only [feqAddr, feqAddrS, feqBuilder, feqModuleS, feqPage, feqPolicy, feqSlotS, feqStringS, feqTokenS, feqTokenizer, baSz, List.size_toArray, List.length_cons, List.length_nil, Nat.reduceAdd, Int.toNat_zero, List.drop_zero, decide_eq_true_eq, decide_eq_false_iff_not, Bool.not_eq_true', Bool.not_eq_false', bne_iff_ne, bne_eq_false_iff_eq, beq_iff_eq, beq_eq_false_iff_ne, Bool.not_eq_true, Bool.not_eq_false, ne_eq, Decidable.not_not, baEq, decide_not, Prod.mk.injEq, and_true, true_and, Room, List.nil_append, Nat.zero_add, Int.not_lt, Int.not_le] at *
  all_goals first | trivial | (cases x; cases y; simp_all; done) | (simp only [szAddr, szBuilder, szL, szPage, szPolicy, szTokenizer] at *; omega) | grind [szAddr, szBuilder, szL, szPage, szPolicy, szTokenizer])
def E54 : D.Env := E53.add 16 feqPage
theorem E54ok : EOk Try.prog E54 := E53ok.add k16_53
-- laws.szVisit
set_option maxHeartbeats 2000000 in
theorem k143_54 : fszVisit.ok Try.prog 143 := Fct.of (S := fszVisit) (L := fun _ _ => none) (kp := [0,1,2,4,10,16]) E54ok Try.func143 (by kernel_rfl) (by kernel_rfl) (by
  rintro ⟨(x : SVisit), (n : Int), _⟩ hp
  refine holds_of (X := .ob (fszAddr.pre (x.addr, n, ())) <|
 .lt (Int × PUnit) (fszAddr.fn (x.addr, n, ())) fun z2 =>
 .br (decide (z2.fst < (0 : Int)))
  (.leaf (mkR fszVisit.rs ((-1 : Int), ())) [] [])
  (.ob (fszPage.pre (x.page, z2.fst, ())) <|
   .lt (Int × PUnit) (fszPage.fn (x.page, z2.fst, ())) fun z3 =>
   .br (decide (z3.fst < (0 : Int)))
    (.leaf (mkR fszVisit.rs ((-1 : Int), ())) [] [])
    (.leaf (mkR fszVisit.rs (z3.fst, ())) [] []))) (by kernel_rfl) ?_
  refine ob_i ?_ fun o1 => lt_i (br_i (fun h2 => Fct.leafY ?_) (fun h2 => ob_i ?_ fun o3 => lt_i (br_i (fun h4 => Fct.leafY ?_) (fun h4 => Fct.leafY ?_))))
  all_goals try simp only [decide_eq_true_eq, decide_eq_false_iff_not, Bool.not_eq_true', Bool.not_eq_false', bne_iff_ne, bne_eq_false_iff_eq, beq_iff_eq, beq_eq_false_iff_ne, baEq, Int.not_lt, Int.not_le, ne_eq, Decidable.not_not] at *
  all_goals try simp only [fszAddr, fszPage, fszVisit, baSz, List.size_toArray, List.length_cons, List.length_nil, Nat.reduceAdd, Int.toNat_zero, List.drop_zero, decide_eq_true_eq, decide_eq_false_iff_not, Bool.not_eq_true', Bool.not_eq_false', bne_iff_ne, bne_eq_false_iff_eq, beq_iff_eq, beq_eq_false_iff_ne, Bool.not_eq_true, Bool.not_eq_false, ne_eq, Decidable.not_not, baEq, decide_not, Prod.mk.injEq, and_true, true_and, Room, List.nil_append, Nat.zero_add, Int.not_lt, Int.not_le, Sh.good, Sh.fc, enc, List.forall_mem_cons, List.not_mem_nil, false_implies, implies_true, goodC, maxLen] at *
  all_goals grind [wrapId', lessen, szAddr, szPage, szVisit])
def E55 : D.Env := E54.add 143 fszVisit
theorem E55ok : EOk Try.prog E55 := E54ok.add k143_54
-- laws.toVisit
theorem k149_55 : ftoVisit.ok Try.prog 149 := Fct.of (S := ftoVisit) (L := fun _ _ => none) (kp := [0,1,2,3]) E55ok Try.func149 (by kernel_rfl) (by kernel_rfl) (by
  rintro ⟨(x : SVisit), _⟩ hp
  refine holds_of (X := .ob (ftoAddr.pre (x.addr, ())) <|
 .lt (SAddr × PUnit) (ftoAddr.fn (x.addr, ())) fun z2 =>
 .ob (ftoPage.pre (x.page, ())) <|
  .lt (SPage × PUnit) (ftoPage.fn (x.page, ())) fun z3 =>
  .leaf (mkR ftoVisit.rs (⟨z2.fst, z3.fst, x.kept⟩, ())) [] []) (by kernel_rfl) ?_
  refine ob_i ?_ fun o1 => lt_i (ob_i ?_ fun o2 => lt_i (Fct.leafY ?_))
  all_goals try simp only [decide_eq_true_eq, decide_eq_false_iff_not, Bool.not_eq_true', Bool.not_eq_false', bne_iff_ne, bne_eq_false_iff_eq, beq_iff_eq, beq_eq_false_iff_ne, baEq, Int.not_lt, Int.not_le, ne_eq, Decidable.not_not] at *
  all_goals try simp only [ftoAddr, ftoPage, ftoVisit, baSz, List.size_toArray, List.length_cons, List.length_nil, Nat.reduceAdd, Int.toNat_zero, List.drop_zero, decide_eq_true_eq, decide_eq_false_iff_not, Bool.not_eq_true', Bool.not_eq_false', bne_iff_ne, bne_eq_false_iff_eq, beq_iff_eq, beq_eq_false_iff_ne, Bool.not_eq_true, Bool.not_eq_false, ne_eq, Decidable.not_not, baEq, decide_not, Prod.mk.injEq, and_true, true_and, Room, List.nil_append, Nat.zero_add, Int.not_lt, Int.not_le] at *
  all_goals first | trivial | rfl | grind [szAddr, szPage, szVisit])
def E56 : D.Env := E55.add 149 ftoVisit
theorem E56ok : EOk Try.prog E56 := E55ok.add k149_55
-- laws.eqVisit
set_option maxHeartbeats 2000000 in
theorem k151_56 : feqVisit.ok Try.prog 151 := Fct.of (S := feqVisit) (L := fun _ _ => none) (kp := [0,1,2,3,4,10,16,21]) E56ok Try.func151 (by kernel_rfl) (by kernel_rfl) (by
  rintro ⟨(x : SVisit), (y : SVisit), _⟩ hp
  refine holds_of (X := .ob (feqAddr.pre (x.addr, y.addr, ())) <|
 .lt (Bool × PUnit) (feqAddr.fn (x.addr, y.addr, ())) fun z2 =>
 .br (!z2.fst)
  (.leaf (mkR feqVisit.rs (false, ())) [] [])
  (.ob (feqPage.pre (x.page, y.page, ())) <|
   .lt (Bool × PUnit) (feqPage.fn (x.page, y.page, ())) fun z3 =>
   .br (!z3.fst)
    (.leaf (mkR feqVisit.rs (false, ())) [] [])
    (.br (!x.kept == y.kept)
     (.leaf (mkR feqVisit.rs (false, ())) [] [])
     (.leaf (mkR feqVisit.rs (true, ())) [] [])))) (by kernel_rfl) ?_
  refine ob_i trivial fun _ => lt_i (br_i (fun h1 => Fct.leafY ?_) (fun h1 => ob_i ?_ fun o2 => lt_i (br_i (fun h3 => Fct.leafY ?_) (fun h3 => br_i (fun h4 => Fct.leafY ?_) (fun h4 => Fct.leafY ?_)))))
  all_goals try simp only [decide_eq_true_eq, decide_eq_false_iff_not, Bool.not_eq_true', Bool.not_eq_false', bne_iff_ne, bne_eq_false_iff_eq, beq_iff_eq, beq_eq_false_iff_ne, baEq, Int.not_lt, Int.not_le, ne_eq, Decidable.not_not] at *
  all_goals try simp only [feqAddr, feqPage, feqVisit, baSz, List.size_toArray, List.length_cons, List.length_nil, Nat.reduceAdd, Int.toNat_zero, List.drop_zero, decide_eq_true_eq, decide_eq_false_iff_not, Bool.not_eq_true', Bool.not_eq_false', bne_iff_ne, bne_eq_false_iff_eq, beq_iff_eq, beq_eq_false_iff_ne, Bool.not_eq_true, Bool.not_eq_false, ne_eq, Decidable.not_not, baEq, decide_not, Prod.mk.injEq, and_true, true_and, Room, List.nil_append, Nat.zero_add, Int.not_lt, Int.not_le] at *
  all_goals first | trivial | (cases x; cases y; simp_all; done) | (simp only [szAddr, szPage, szVisit] at *; omega) | grind [szAddr, szPage, szVisit])
def E57 : D.Env := E56.add 151 feqVisit
theorem E57ok : EOk Try.prog E57 := E56ok.add k151_56
-- laws.szVisitS
set_option maxHeartbeats 2000000 in
theorem k93_57 : fszVisitS.ok Try.prog 93 := Fct.of (S := fszVisitS) (L := fun ⟨l, n, _⟩ => fun | 5 => some (LszS .visit szVisit l n) | _ => none) (kp := [0,1,4,5,11,15,25]) E57ok Try.func93 (by kernel_rfl) (by kernel_rfl) (by
  rintro ⟨(l : List SVisit), (n : Int), _⟩ hp
  refine holds_of (X := .br (decide (IntKind.i64.wrap (n - (↑l.length : Int)) < (0 : Int)))
 (.leaf (mkR fszVisitS.rs ((-1 : Int), ())) [] [])
 (lpx (LszS .visit szVisit l n) (IntKind.i64.wrap (n - (↑l.length : Int)), ((0 : Int), ())) fun (y2 : Int × Int × PUnit) bk2 =>
  .br (decide (y2.snd.fst < (↑l.length : Int)))
   (.ob ((0 : Int) ≤ y2.snd.fst ∧ y2.snd.fst < (↑l.length : Int)) <|
    .ob (fszVisit.pre (l.getD y2.snd.fst.toNat default, y2.fst, ())) <|
    .lt (Int × PUnit) (fszVisit.fn (l.getD y2.snd.fst.toNat default, y2.fst, ())) fun z2 =>
    .br (decide (z2.fst < (0 : Int)))
     (.leaf (mkR fszVisitS.rs ((-1 : Int), ())) [] [])
     (.ob (l = l) <|
      .ob (Value.bool (decide (IntKind.i64.wrap (n - (↑l.length : Int)) < (0 : Int))) =
  Value.bool (decide (IntKind.i64.wrap (n - (↑l.length : Int)) < (0 : Int)))) <|
      .ob (bk2 (z2.fst, (IntKind.i64.wrap (y2.snd.fst + (1 : Int)), ()))) <|
      .ok))
   (.leaf (mkR fszVisitS.rs (y2.fst, ())) [] []))) (by kernel_rfl) ?_
  refine br_i (fun h1 => Fct.leafY ?_) (fun h1 => lpx_i ?_ fun (y2 : Int × Int × PUnit) i2 => br_i (fun h3 => ob_i ?_ fun o4 => ob_i ?_ fun o5 => lt_i (br_i (fun h6 => Fct.leafY ?_) (fun h6 => ob_i rfl fun _ => ob_i rfl fun _ => ob_i ?_ fun o7 => trivial))) (fun h3 => Fct.leafY ?_))
  all_goals try simp only [decide_eq_true_eq, decide_eq_false_iff_not, Bool.not_eq_true', Bool.not_eq_false', bne_iff_ne, bne_eq_false_iff_eq, beq_iff_eq, beq_eq_false_iff_ne, baEq, Int.not_lt, Int.not_le, ne_eq, Decidable.not_not] at *
  all_goals try simp only [LszS, fszVisit, fszVisitS, baSz, List.size_toArray, List.length_cons, List.length_nil, Nat.reduceAdd, Int.toNat_zero, List.drop_zero, decide_eq_true_eq, decide_eq_false_iff_not, Bool.not_eq_true', Bool.not_eq_false', bne_iff_ne, bne_eq_false_iff_eq, beq_iff_eq, beq_eq_false_iff_ne, Bool.not_eq_true, Bool.not_eq_false, ne_eq, Decidable.not_not, baEq, decide_not, Prod.mk.injEq, and_true, true_and, Room, List.nil_append, Nat.zero_add, Int.not_lt, Int.not_le] at *
  · have := good_len hp.1; simp only [maxLen] at this; rw [wrapId (by omega)] at h1
    rw [lessenNeg (by simp only [szL]; omega)]
  · have := good_len hp.1; simp only [maxLen] at this
    rw [wrapId (by omega)] at h1 ⊢
    exact ⟨by omega, by omega, h1, by simp⟩
  · omega
  · exact ⟨good_getD hp.1 (by omega), by omega, by omega⟩
  · have hs := sum_take_le szVisit l (y2.2.1.toNat + 1)
    rw [sum_take szVisit (by omega)] at hs
    rw [lessen_lt (by omega)] at h6
    rw [lessenNeg (by simp only [szL]; omega)]
  · have hw : IntKind.i64.wrap (y2.2.1 + 1) = y2.2.1 + 1 := wrapId (by have := good_len hp.1; simp only [maxLen] at this; omega)
    have h7 : ¬ lessen y2.1 (szVisit (l.getD y2.2.1.toNat default)) < 0 := by omega
    rw [lessen_lt (by omega)] at h7
    rw [hw, toNat1 (by omega), sum_take szVisit (by omega), lessen_ge (by omega)]
    exact ⟨⟨by omega, by omega, by omega, by omega⟩, by omega⟩
  · have e : l.take y2.2.1.toNat = l := List.take_of_length_le (by omega)
    rw [e] at i2
    have hz : ((szL szVisit l : Nat) : Int) = l.length + (l.map szVisit).sum := by simp only [szL]; omega
    rw [lessen_ge (by omega)]
    show y2.1 = n - ((szL szVisit l : Nat) : Int)
    omega)
def E58 : D.Env := E57.add 93 fszVisitS
theorem E58ok : EOk Try.prog E58 := E57ok.add k93_57
-- laws.toVisitS
theorem k95_58 : ftoVisitS.ok Try.prog 95 := Fct.of (S := ftoVisitS) (L := fun ⟨l, _⟩ => fun | 3 => some (LtoS .visit l) | _ => none) (kp := [0,2,3,4,11]) E58ok Try.func95 (by kernel_rfl) (by kernel_rfl) (by
  rintro ⟨(l : List SVisit), _⟩ hp
  refine holds_of (X := .ob ((↑l.length : Int) = (↑l.length : Int) ∧
  (0 : Int) ≤ (↑l.length : Int) ∧
    (424 : Int) * (↑l.length : Int) ≤ (140737488355328 : Int) ∧ (↑l.length : Int) ≤ (140737488355328 : Int)) <|
 lpx (LtoS .visit l) ((0 : Int), (List.replicate (↑l.length : Int).toNat default, ())) fun (y2 : Int × List SVisit × PUnit) bk2 =>
 .br (decide (y2.fst < (↑l.length : Int)))
  (.ob ((0 : Int) ≤ y2.fst ∧ y2.fst < (↑l.length : Int)) <|
   .ob (ftoVisit.pre (l.getD y2.fst.toNat default, ())) <|
   .lt (SVisit × PUnit) (ftoVisit.fn (l.getD y2.fst.toNat default, ())) fun z2 =>
   .ob ((0 : Int) ≤ y2.fst ∧ y2.fst < (↑y2.snd.fst.length : Int)) <|
    .ob (y2.fst.toNat < y2.snd.fst.length) <|
    .lt (List SVisit) (y2.snd.fst.modify y2.fst.toNat fun z => z2.fst) fun z3 =>
    .ob (l = l) <|
     .ob (bk2 (IntKind.i64.wrap (y2.fst + (1 : Int)), (z3, ()))) <|
     .ok)
  (.leaf (mkR ftoVisitS.rs (y2.snd.fst, ())) [] [])) (by kernel_rfl) ?_
  refine ob_i ?_ fun o1 => lpx_i ?_ fun (y2 : Int × List SVisit × PUnit) i2 => br_i (fun h3 => ob_i ?_ fun o4 => ob_i ?_ fun o5 => lt_i (ob_i ?_ fun o6 => ob_i ?_ fun o7 => lt_i (ob_i rfl fun _ => ob_i ?_ fun o8 => trivial))) (fun h3 => Fct.leafY ?_)
  all_goals try simp only [decide_eq_true_eq, decide_eq_false_iff_not, Bool.not_eq_true', Bool.not_eq_false', bne_iff_ne, bne_eq_false_iff_eq, beq_iff_eq, beq_eq_false_iff_ne, baEq, Int.not_lt, Int.not_le, ne_eq, Decidable.not_not] at *
  all_goals try simp only [LtoS, ftoVisit, ftoVisitS, baSz, List.size_toArray, List.length_cons, List.length_nil, Nat.reduceAdd, Int.toNat_zero, List.drop_zero, decide_eq_true_eq, decide_eq_false_iff_not, Bool.not_eq_true', Bool.not_eq_false', bne_iff_ne, bne_eq_false_iff_eq, beq_iff_eq, beq_eq_false_iff_ne, Bool.not_eq_true, Bool.not_eq_false, ne_eq, Decidable.not_not, baEq, decide_not, Prod.mk.injEq, and_true, true_and, Room, List.nil_append, Nat.zero_add, Int.not_lt, Int.not_le] at *
  · have := szL_len szVisit l; omega
  · exact ⟨by omega, by omega, by simp⟩
  · omega
  · have hs := sum_take_le szVisit l (y2.1.toNat + 1)
    rw [sum_take szVisit (by omega)] at hs
    simp only [szL] at hp; omega
  · rw [i2.2.2]; simp; omega
  · rw [i2.2.2]; simp; omega
  · have hw : IntKind.i64.wrap (y2.1 + 1) = y2.1 + 1 := wrapId (by have := szL_len szVisit l; omega)
    rw [hw, toNat1 (by omega), i2.2.2]
    refine ⟨⟨by omega, by omega, ?_⟩, by omega⟩
    rw [show l.length - y2.1.toNat = (l.length - (y2.1.toNat + 1)) + 1 from by omega, List.replicate_succ, mod_at (by simp; omega), take_succ (by omega)]
    simp
  · have e : l.take y2.1.toNat = l := List.take_of_length_le (by omega)
    rw [i2.2.2, e]; simp; omega)
def E59 : D.Env := E58.add 95 ftoVisitS
theorem E59ok : EOk Try.prog E59 := E58ok.add k95_58
-- laws.eqVisitS
set_option maxHeartbeats 2000000 in
theorem k98_59 : feqVisitS.ok Try.prog 98 := Fct.of (S := feqVisitS) (L := fun ⟨l, m, _⟩ => fun | 4 => some (LeqS .visit l m) | _ => none) (kp := [0,1,4,5,10,14,26]) E59ok Try.func98 (by kernel_rfl) (by kernel_rfl) (by
  rintro ⟨(l : List SVisit), (m : List SVisit), _⟩ hp
  refine holds_of (X := .br ((↑l.length : Int) != (↑m.length : Int))
 (.leaf (mkR feqVisitS.rs (false, ())) [] [])
 (lpx (LeqS .visit l m) ((0 : Int), ()) fun (y2 : Int × PUnit) bk2 =>
  .br (decide (y2.fst < (↑l.length : Int)))
   (.ob ((0 : Int) ≤ y2.fst ∧ y2.fst < (↑l.length : Int)) <|
    .ob ((0 : Int) ≤ y2.fst ∧ y2.fst < (↑m.length : Int)) <|
    .ob (feqVisit.pre (l.getD y2.fst.toNat default, m.getD y2.fst.toNat default, ())) <|
    .lt (Bool × PUnit) (feqVisit.fn (l.getD y2.fst.toNat default, m.getD y2.fst.toNat default, ())) fun z2 =>
    .br (!z2.fst)
     (.leaf (mkR feqVisitS.rs (false, ())) [] [])
     (.ob (l = l) <|
      .ob (m = m) <|
      .ob (Value.bool ((↑l.length : Int) != (↑m.length : Int)) = Value.bool ((↑l.length : Int) != (↑m.length : Int))) <|
      .ob (bk2 (IntKind.i64.wrap (y2.fst + (1 : Int)), ())) <|
      .ok))
   (.leaf (mkR feqVisitS.rs (true, ())) [] []))) (by kernel_rfl) ?_
  refine br_i (fun h1 => Fct.leafY ?_) (fun h1 => lpx_i ?_ fun (y2 : Int × PUnit) i2 => br_i (fun h3 => ob_i ?_ fun o4 => ob_i ?_ fun o5 => ob_i ?_ fun o6 => lt_i (br_i (fun h7 => Fct.leafY ?_) (fun h7 => ob_i rfl fun _ => ob_i rfl fun _ => ob_i rfl fun _ => ob_i ?_ fun o8 => trivial))) (fun h3 => Fct.leafY ?_))
  all_goals try simp only [decide_eq_true_eq, decide_eq_false_iff_not, Bool.not_eq_true', Bool.not_eq_false', bne_iff_ne, bne_eq_false_iff_eq, beq_iff_eq, beq_eq_false_iff_ne, baEq, Int.not_lt, Int.not_le, ne_eq, Decidable.not_not] at *
  all_goals try simp only [LeqS, feqVisit, feqVisitS, baSz, List.size_toArray, List.length_cons, List.length_nil, Nat.reduceAdd, Int.toNat_zero, List.drop_zero, decide_eq_true_eq, decide_eq_false_iff_not, Bool.not_eq_true', Bool.not_eq_false', bne_iff_ne, bne_eq_false_iff_eq, beq_iff_eq, beq_eq_false_iff_ne, Bool.not_eq_true, Bool.not_eq_false, ne_eq, Decidable.not_not, baEq, decide_not, Prod.mk.injEq, and_true, true_and, Room, List.nil_append, Nat.zero_add, Int.not_lt, Int.not_le] at *
  all_goals have hl := szL_len szVisit l
  · rw [decide_eq_false]; rintro rfl; omega
  · exact ⟨by omega, by omega, by simp⟩
  · omega
  · omega
  · have hs := szL_get szVisit (l := l) (i := y2.1.toNat) (by omega); omega
  · rw [decide_eq_false]; rintro rfl; first | exact absurd rfl h6 | exact absurd rfl h7
  · have hw : IntKind.i64.wrap (y2.1 + 1) = y2.1 + 1 := wrapId (by omega)
    rw [hw, toNat1 (by omega)]
    refine ⟨⟨by omega, by omega, ?_⟩, by omega⟩
    rw [take_succ (by omega), take_succ (by omega), i2.2.2]; first | rw [h6] | rw [h7]
  · have e : l.take y2.1.toNat = l := List.take_of_length_le (by omega)
    have e2 : m.take y2.1.toNat = m := List.take_of_length_le (by omega)
    rw [decide_eq_true]; rw [← e, ← e2, i2.2.2])
def E60 : D.Env := E59.add 98 feqVisitS
theorem E60ok : EOk Try.prog E60 := E59ok.add k98_59
-- laws.szTab
set_option maxHeartbeats 2000000 in
theorem k29_60 : fszTab.ok Try.prog 29 := Fct.of (S := fszTab) (L := fun _ _ => none) (kp := [0,1,2,4,10]) E60ok Try.func29 (by kernel_rfl) (by kernel_rfl) (by
  rintro ⟨(x : STab), (n : Int), _⟩ hp
  refine holds_of (X := .ob (fszVisitS.pre (x.visits, n, ())) <|
 .lt (Int × PUnit) (fszVisitS.fn (x.visits, n, ())) fun z2 =>
 .br (decide (z2.fst < (0 : Int)))
  (.leaf (mkR fszTab.rs ((-1 : Int), ())) [] [])
  (.leaf (mkR fszTab.rs (z2.fst, ())) [] [])) (by kernel_rfl) ?_
  refine ob_i ?_ fun o1 => lt_i (br_i (fun h2 => Fct.leafY ?_) (fun h2 => Fct.leafY ?_))
  all_goals try simp only [decide_eq_true_eq, decide_eq_false_iff_not, Bool.not_eq_true', Bool.not_eq_false', bne_iff_ne, bne_eq_false_iff_eq, beq_iff_eq, beq_eq_false_iff_ne, baEq, Int.not_lt, Int.not_le, ne_eq, Decidable.not_not] at *
  all_goals try simp only [fszTab, fszVisitS, baSz, List.size_toArray, List.length_cons, List.length_nil, Nat.reduceAdd, Int.toNat_zero, List.drop_zero, decide_eq_true_eq, decide_eq_false_iff_not, Bool.not_eq_true', Bool.not_eq_false', bne_iff_ne, bne_eq_false_iff_eq, beq_iff_eq, beq_eq_false_iff_ne, Bool.not_eq_true, Bool.not_eq_false, ne_eq, Decidable.not_not, baEq, decide_not, Prod.mk.injEq, and_true, true_and, Room, List.nil_append, Nat.zero_add, Int.not_lt, Int.not_le, Sh.good, Sh.fc, enc, List.forall_mem_cons, List.not_mem_nil, false_implies, implies_true, goodC, maxLen] at *
  all_goals grind [wrapId', lessen, szL, szTab])
def E61 : D.Env := E60.add 29 fszTab
theorem E61ok : EOk Try.prog E61 := E60ok.add k29_60
-- laws.toTab
theorem k31_61 : ftoTab.ok Try.prog 31 := Fct.of (S := ftoTab) (L := fun _ _ => none) (kp := [0,1,2,3]) E61ok Try.func31 (by kernel_rfl) (by kernel_rfl) (by
  rintro ⟨(x : STab), _⟩ hp
  refine holds_of (X := .ob (ftoVisitS.pre (x.visits, ())) <|
 .lt (List SVisit × PUnit) (ftoVisitS.fn (x.visits, ())) fun z2 =>
 .leaf (mkR ftoTab.rs (⟨z2.fst, x.at_⟩, ())) [] []) (by kernel_rfl) ?_
  refine ob_i ?_ fun o1 => lt_i (Fct.leafY ?_)
  all_goals try simp only [decide_eq_true_eq, decide_eq_false_iff_not, Bool.not_eq_true', Bool.not_eq_false', bne_iff_ne, bne_eq_false_iff_eq, beq_iff_eq, beq_eq_false_iff_ne, baEq, Int.not_lt, Int.not_le, ne_eq, Decidable.not_not] at *
  all_goals try simp only [ftoTab, ftoVisitS, baSz, List.size_toArray, List.length_cons, List.length_nil, Nat.reduceAdd, Int.toNat_zero, List.drop_zero, decide_eq_true_eq, decide_eq_false_iff_not, Bool.not_eq_true', Bool.not_eq_false', bne_iff_ne, bne_eq_false_iff_eq, beq_iff_eq, beq_eq_false_iff_ne, Bool.not_eq_true, Bool.not_eq_false, ne_eq, Decidable.not_not, baEq, decide_not, Prod.mk.injEq, and_true, true_and, Room, List.nil_append, Nat.zero_add, Int.not_lt, Int.not_le] at *
  all_goals first | trivial | rfl | grind [szL, szTab])
def E62 : D.Env := E61.add 31 ftoTab
theorem E62ok : EOk Try.prog E62 := E61ok.add k31_61
-- laws.eqTab
set_option maxHeartbeats 2000000 in
theorem k33_62 : feqTab.ok Try.prog 33 := Fct.of (S := feqTab) (L := fun _ _ => none) (kp := [0,1,2,3,4,10,15]) E62ok Try.func33 (by kernel_rfl) (by kernel_rfl) (by
  rintro ⟨(x : STab), (y : STab), _⟩ hp
  refine holds_of (X := .ob (feqVisitS.pre (x.visits, y.visits, ())) <|
 .lt (Bool × PUnit) (feqVisitS.fn (x.visits, y.visits, ())) fun z2 =>
 .br (!z2.fst)
  (.leaf (mkR feqTab.rs (false, ())) [] [])
  (.br (x.at_ != y.at_)
   (.leaf (mkR feqTab.rs (false, ())) [] [])
   (.leaf (mkR feqTab.rs (true, ())) [] []))) (by kernel_rfl) ?_
  refine ob_i ?_ fun o1 => lt_i (br_i (fun h2 => Fct.leafY ?_) (fun h2 => br_i (fun h3 => Fct.leafY ?_) (fun h3 => Fct.leafY ?_)))
  all_goals try simp only [decide_eq_true_eq, decide_eq_false_iff_not, Bool.not_eq_true', Bool.not_eq_false', bne_iff_ne, bne_eq_false_iff_eq, beq_iff_eq, beq_eq_false_iff_ne, baEq, Int.not_lt, Int.not_le, ne_eq, Decidable.not_not] at *
  all_goals try simp only [feqTab, feqVisitS, baSz, List.size_toArray, List.length_cons, List.length_nil, Nat.reduceAdd, Int.toNat_zero, List.drop_zero, decide_eq_true_eq, decide_eq_false_iff_not, Bool.not_eq_true', Bool.not_eq_false', bne_iff_ne, bne_eq_false_iff_eq, beq_iff_eq, beq_eq_false_iff_ne, Bool.not_eq_true, Bool.not_eq_false, ne_eq, Decidable.not_not, baEq, decide_not, Prod.mk.injEq, and_true, true_and, Room, List.nil_append, Nat.zero_add, Int.not_lt, Int.not_le] at *
  all_goals first | trivial | (cases x; cases y; simp_all; done) | (simp only [szL, szTab] at *; omega) | grind [szL, szTab])
def E63 : D.Env := E62.add 33 feqTab
theorem E63ok : EOk Try.prog E63 := E62ok.add k33_62
def isOwnGuess (s : SSent) : Bool := !s.guess || decide (s.to.host = s.top)
def fIsOwnGuess : Fct := ⟨[aE .sent], [rB], fun _ => True, fun x => (isOwnGuess x.1, ())⟩
def lSent : Fct := lawFS [.el .sent]
def countGuess : List SConn → Nat
  | [] => 0
  | c :: l => countGuess l + (if c.guess then 1 else 0)
theorem countGuess_app (l : List SConn) (c : SConn) : countGuess (l ++ [c]) = countGuess l + (if c.guess then 1 else 0) := by
  induction l with
  | nil => simp [countGuess]
  | cons d l ih => simp only [List.cons_append, countGuess, ih]; omega
theorem countGuess_take {l : List SConn} {i : Nat} (h : i < l.length) : countGuess (l.take (i + 1)) = countGuess (l.take i) + (if (l.getD i default).guess then 1 else 0) := by rw [take_succ h, countGuess_app]
theorem countGuess_le (l : List SConn) : countGuess l ≤ l.length := by
  induction l with
  | nil => simp [countGuess]
  | cons d l ih => simp only [countGuess, List.length_cons]; split <;> omega
def fCount : Fct := ⟨[aL .conn], [rI], fun x => Sh.good (.sl .conn) x.1, fun x => ((countGuess x.1 : Int), ())⟩
abbrev Lcount (n i : Nat) (l : List SConn) : LInv := ⟨[⟨.s, n, true, .el .int⟩, ⟨.s, i, true, .el .int⟩], fun _ (x : Int × Int × Unit) => 0 ≤ x.2.1 ∧ x.2.1 ≤ l.length ∧ x.1 = countGuess (l.take x.2.1.toNat), fun (x : Int × Int × Unit) => l.length - x.2.1.toNat⟩
def findConn (a : SAddr) : List SConn → Int → Int
  | [], _ => -1
  | c :: l, i => if c.to = a then i else findConn a l (i + 1)
theorem findConn_at {a : SAddr} {l : List SConn} {i : Nat} {z : Int} (h : i < l.length) : findConn a (l.drop i) z = if (l.getD i default).to = a then z else findConn a (l.drop (i + 1)) (z + 1) := by rw [drop_cons h]; rfl
theorem findConn_end {a : SAddr} {l : List SConn} {i : Nat} {z : Int} (h : l.length ≤ i) : findConn a (l.drop i) z = -1 := by rw [List.drop_of_length_le h]; rfl
theorem addrEq (x y : SAddr) : (x.host == y.host && (x.path == y.path && true)) = decide (x = y) := beqAddr x y
def fFind : Fct := ⟨[aL .conn, aE .addr], [rI], fun x => Sh.good (.sl .conn) x.1, fun x => (findConn x.2.1 x.1 0, ())⟩
abbrev Lfind (l : List SConn) (a : SAddr) : LInv := ⟨[⟨.s, 5, true, .el .int⟩, ⟨.b, 3, true, .el .addr⟩], fun _ (x : Int × SAddr × Unit) => 0 ≤ x.1 ∧ x.1 ≤ l.length ∧ x.2.1 = a ∧ findConn a l 0 = findConn a (l.drop x.1.toNat) x.1, fun (x : Int × SAddr × Unit) => l.length - x.1.toNat⟩
def fFind1 : Fct := ⟨[aE .conn, .p (.el .addr)], [rB], fun _ => True, fun x => (decide (x.1.to = x.2.1), ())⟩
def fIdxFind : Fct := ⟨[aL .conn, .c 0 [.el .addr]], [rI], fun x => Sh.good (.sl .conn) x.1, fun x => (findConn x.2.1.1 x.1 0, ())⟩
abbrev Lidx (l : List SConn) (F : List SConn → Int → Int) : LInv := ⟨[⟨.s, 8, true, .el .int⟩], fun _ (x : Int × Unit) => 0 ≤ x.1 ∧ x.1 ≤ l.length ∧ F l 0 = F (l.drop x.1.toNat) x.1, fun (x : Int × Unit) => l.length - x.1.toNat⟩
abbrev Lidxf (l : List SConn) (a : SAddr × Unit) : LInv := Lidx l (findConn a.1)
def firstDone : List SConn → Int → Int
  | [], _ => -1
  | c :: l, i => if c.left ≤ 0 then i else firstDone l (i + 1)
theorem firstDone_at {l : List SConn} {i : Nat} {z : Int} (h : i < l.length) : firstDone (l.drop i) z = if (l.getD i default).left ≤ 0 then z else firstDone (l.drop (i + 1)) (z + 1) := by rw [drop_cons h]; rfl
theorem firstDone_end {l : List SConn} {i : Nat} {z : Int} (h : l.length ≤ i) : firstDone (l.drop i) z = -1 := by rw [List.drop_of_length_le h]; rfl
def fFirst : Fct := ⟨[aL .conn], [rI], fun x => Sh.good (.sl .conn) x.1, fun x => (firstDone x.1 0, ())⟩
abbrev Lfirst (l : List SConn) : LInv := ⟨[⟨.s, 3, true, .el .int⟩], fun _ (x : Int × Unit) => 0 ≤ x.1 ∧ x.1 ≤ l.length ∧ firstDone l 0 = firstDone (l.drop x.1.toNat) x.1, fun (x : Int × Unit) => l.length - x.1.toNat⟩
def fFirst1 : Fct := ⟨[aE .conn], [rB], fun _ => True, fun x => (decide (x.1.left ≤ 0), ())⟩
def fIdxFirst : Fct := ⟨[aL .conn, .c 0 []], [rI], fun x => Sh.good (.sl .conn) x.1, fun x => (firstDone x.1 0, ())⟩
def lConnS : Fct := lawFS [.sl .conn]
def lConnSAddr : Fct := lawFS [.sl .conn, .el .addr]
def inRange (n lo hi : Int) : Bool := decide (lo ≤ n) && decide (n ≤ hi)
def fInRange : Fct := ⟨[aI, aI, aI], [rB], fun _ => True, fun (x : Int × Int × Int × Unit) => (inRange x.1 x.2.1 x.2.2.1, ())⟩
def fMax : Fct := ⟨[aI, aI], [rI], fun _ => True, fun (x : Int × Int × Unit) => (max x.1 x.2.1, ())⟩
def fCopyConns : Fct := ⟨[aL .conn], [rL .conn], fun (x : List SConn × Unit) => x.1.length ≤ 1048576, fun (x : List SConn × Unit) => (x.1, ())⟩
def moveOne (b : Int) (c : SConn) : SConn := { c with left := max 0 (IntKind.i64.wrap (c.left - b)) }
def moveConns (l : List SConn) (b : Int) : List SConn := if inRange b 0 1000 then l.map (moveOne b) else l
def fMove : Fct := ⟨[aL .conn, aI], [rL .conn], fun (x : List SConn × Int × Unit) => x.1.length ≤ 1048576, fun (x : List SConn × Int × Unit) => (moveConns x.1 x.2.1, ())⟩
abbrev L45 (l : List SConn) (b : Int) : LInv := ⟨[⟨.s, 6, true, .el .int⟩, ⟨.s, 5, true, .sl .conn⟩], fun _ (x : Int × List SConn × Unit) => 0 ≤ x.1 ∧ x.1 ≤ l.length ∧ x.2.1 = moveConns (l.take x.1.toNat) b ++ l.drop x.1.toNat, fun (x : Int × List SConn × Unit) => l.length - x.1.toNat⟩
theorem moveConns_len (l : List SConn) (b : Int) : (moveConns l b).length = l.length := by unfold moveConns; split <;> simp
theorem moveConns_nil (b : Int) : moveConns [] b = [] := by unfold moveConns; split <;> rfl
theorem moveConns_step {l : List SConn} {b : Int} {i : Nat} (hb : inRange b 0 1000 = true) (h : i < l.length) {g : SConn → SConn} (hg : g (l.getD i default) = moveOne b (l.getD i default)) : (moveConns (l.take i) b ++ l.drop i).modify i g = moveConns (l.take (i + 1)) b ++ l.drop (i + 1) := by
  rw [drop_cons h, mod_at (by rw [moveConns_len, List.length_take]; omega), take_succ h]
  simp only [moveConns, hb, if_true, List.map_append, List.map_cons, List.map_nil, List.append_assoc, List.cons_append, List.nil_append, hg]
theorem moveConns_out {l : List SConn} {b : Int} {i : Nat} (hb : inRange b 0 1000 = false) : moveConns (l.take i) b ++ l.drop i = moveConns l b := by
  simp [moveConns, hb]
abbrev L46 (l : List SConn) (b : Int) : LInv := ⟨[⟨.s, 15, true, .el .int⟩, ⟨.s, 5, true, .sl .conn⟩], fun _ (x : Int × List SConn × Unit) => 0 ≤ x.1 ∧ x.1 ≤ l.length ∧ x.2.1 = moveConns (l.take x.1.toNat) b ++ l.drop x.1.toNat, fun (x : Int × List SConn × Unit) => l.length - x.1.toNat⟩
def lMove : Fct := lawFS [.sl .conn, .el .int]
theorem mkConn_idem (x : SConn) (k : Int) : mkConn (mkConn x k).1 k = mkConn x k := rfl
def sizeResponse (x : SResponse) : Int := x.body.size + 20
def fSizeResponse : Fct := ⟨[aE .response], [rI], fun (x : SResponse × Unit) => x.1.body.size ≤ 1000000000000, fun (x : SResponse × Unit) => (sizeResponse x.1, ())⟩
def openConn (l : List SConn) (a : SAddr) (x : SResponse) (g : Bool) : List SConn × Bool := if (l.length : Int) ≥ 3 ∨ findConn a l 0 ≥ 0 then (l, false) else (l ++ [⟨a, sizeResponse x, g, x⟩], true)
def fOpen : Fct := ⟨[aL .conn, aE .addr, aE .response, aB], [rL .conn, rB], fun (x : List SConn × SAddr × SResponse × Bool × Unit) => x.1.length ≤ 1048576 ∧ Sh.good (.sl .conn) x.1 ∧ x.2.2.1.body.size ≤ 1048576, fun (x : List SConn × SAddr × SResponse × Bool × Unit) => ((openConn x.1 x.2.1 x.2.2.1 x.2.2.2.1).1, (openConn x.1 x.2.1 x.2.2.1 x.2.2.2.1).2, ())⟩
def lOpen : Fct := lawFS [.sl .conn, .el .addr, .el .response, .el .bool]
theorem openConn_len (l : List SConn) (a : SAddr) (x : SResponse) (g : Bool) : (openConn l a x g).1.length ≤ l.length + 1 := by unfold openConn; split <;> simp
def fIndex_addr : Fct := ⟨[.v (.sl .addr), .v (.el .addr)], [.el .int], fun (x_ : (List SAddr) × SAddr × Unit) => x_.1.length ≤ 1000000000000000000, fun (x_ : (List SAddr) × SAddr × Unit) => (fidx (fun c => decide (c = x_.2.1)) x_.1 0, ())⟩
def fContains_addr : Fct := ⟨[.v (.sl .addr), .v (.el .addr)], [.el .bool], fun (x_ : (List SAddr) × SAddr × Unit) => x_.1.length ≤ 1000000000000000000, fun (x_ : (List SAddr) × SAddr × Unit) => (x_.1.any fun c => decide (c = x_.2.1), ())⟩
def fHasAddr : Fct := ⟨[.v (.sl .addr), .v (.el .addr)], [.el .bool], fun (x_ : (List SAddr) × SAddr × Unit) => x_.1.length ≤ 1000000000000000000, fun (x_ : (List SAddr) × SAddr × Unit) => (x_.1.any fun c => decide (c = x_.2.1), ())⟩
def withoutAddrs (d : List SAddr) : List SRequest → List SRequest
  | [] => []
  | r :: l => if d.any (fun c => decide (c = r.to)) then withoutAddrs d l else r :: withoutAddrs d l
def fWithoutAddrs : Fct := ⟨[.v (.sl .request), .v (.sl .addr)], [.sl .request], fun (x_ : (List SRequest) × (List SAddr) × Unit) => x_.1.length ≤ 1048576 ∧ x_.2.1.length ≤ 1048576, fun (x_ : (List SRequest) × (List SAddr) × Unit) => (withoutAddrs x_.2.1 x_.1, ())⟩
theorem withoutAddrs_len (d : List SAddr) (l : List SRequest) : (withoutAddrs d l).length ≤ l.length := by
  induction l <;> grind [withoutAddrs]
def lWithoutAddrs : Fct := lawFS [.sl .request, .sl .addr]
def fIndex_str : Fct := ⟨[.v (.sl .str), .v (.el .str)], [.el .int], fun (x_ : (List ByteArray) × ByteArray × Unit) => x_.1.length ≤ 1000000000000000000, fun (x_ : (List ByteArray) × ByteArray × Unit) => (fidx (fun c => decide (c = x_.2.1)) x_.1 0, ())⟩
def fContains_str : Fct := ⟨[.v (.sl .str), .v (.el .str)], [.el .bool], fun (x_ : (List ByteArray) × ByteArray × Unit) => x_.1.length ≤ 1000000000000000000, fun (x_ : (List ByteArray) × ByteArray × Unit) => (x_.1.any fun c => decide (c = x_.2.1), ())⟩
def fHas9 : Fct := ⟨[.v (.sl .str), .v (.el .str)], [.el .bool], fun (x_ : (List ByteArray) × ByteArray × Unit) => x_.1.length ≤ 1000000000000000000, fun (x_ : (List ByteArray) × ByteArray × Unit) => (x_.1.any fun c => decide (c = x_.2.1), ())⟩
def fCountGuesses : Fct := ⟨[.v (.sl .sent)], [.el .int], fun (x_ : (List SSent) × Unit) => x_.1.length ≤ 1000000000000000000, fun (x_ : (List SSent) × Unit) => (countIf (fun s => s.guess) x_.1, ())⟩
def guessesSent (l : List SSent) (b : Int) : Int := if 0 ≤ b then countIf (fun s => s.guess) (l.drop b.toNat) else 0
def fGuessesSent : Fct := ⟨[.v (.el .net), .v (.el .int)], [.el .int], fun (x_ : SNet × Int × Unit) => x_.1.log.length ≤ 1048576, fun (x_ : SNet × Int × Unit) => (guessesSent x_.1.log x_.2.1, ())⟩
def fIsComplete : Fct := ⟨[.v (.el .page)], [.el .bool], fun (x_ : SPage × Unit) => True, fun (x_ : SPage × Unit) => (x_.1.loaded, ())⟩
def blockedOn (p : SPage) : SAddr × Bool := if 1 ≤ p.block ∧ p.block ≤ p.slots.length then ((p.slots.getD (p.block - 1).toNat default).to, true) else (default, false)
def fBlockedOn : Fct := ⟨[.v (.el .page)], [.el .addr, .el .bool], fun (x_ : SPage × Unit) => x_.1.slots.length ≤ 1048576 ∧ -9223372036854775808 ≤ x_.1.block ∧ x_.1.block ≤ 9223372036854775807, fun (x_ : SPage × Unit) => ((blockedOn x_.1).1, (blockedOn x_.1).2, ())⟩
def fRefusedUses : Fct := ⟨[.v (.el .page)], [.el .int], fun (x_ : SPage × Unit) => x_.1.slots.length ≤ 1048576 ∧ x_.1.mods.length ≤ 1048576, fun (x_ : SPage × Unit) => (countIf (fun s => s.done && decide (s.code ≠ 1)) x_.1.slots + countIf (fun s => s.done && decide (s.code ≠ 1)) x_.1.mods, ())⟩
def fNewTab : Fct := ⟨[], [rE .tab], fun _ => True, fun _ => (⟨[], -1⟩, ())⟩
def classOf (p : SPage) (r : SRequest) : Int := if (blockedOn p).2 = true ∧ (blockedOn p).1 = r.to then 0 else if r.kind = 3 then 1 else if r.kind = 2 then 2 else if r.kind = 5 then 3 else if r.kind = 4 then 4 else 5
def fClassOf : Fct := ⟨[.v (.el .page), .v (.el .request)], [.el .int], fun (x_ : SPage × SRequest × Unit) => x_.1.slots.length ≤ 1048576 ∧ -9223372036854775808 ≤ x_.1.block ∧ x_.1.block ≤ 9223372036854775807, fun (x_ : SPage × SRequest × Unit) => (classOf x_.1 x_.2.1, ())⟩
def presentAddr (t : STab) : SAddr × Bool := if 0 ≤ t.at_ ∧ t.at_ < t.visits.length then ((t.visits.getD t.at_.toNat default).addr, true) else (default, false)
def fPresentAddr : Fct := ⟨[.v (.el .tab)], [.el .addr, .el .bool], fun (x_ : STab × Unit) => x_.1.visits.length ≤ 1048576, fun (x_ : STab × Unit) => ((presentAddr x_.1).1, (presentAddr x_.1).2, ())⟩
def fHasPresent : Fct := ⟨[.v (.el .tab)], [.el .bool], fun (x_ : STab × Unit) => True, fun (x_ : STab × Unit) => (decide (0 ≤ x_.1.at_ ∧ x_.1.at_ < x_.1.visits.length), ())⟩
def fKeptCount : Fct := ⟨[.v (.el .tab)], [.el .int], fun (x_ : STab × Unit) => x_.1.visits.length ≤ 1048576, fun (x_ : STab × Unit) => (countIf (fun v => v.kept) x_.1.visits, ())⟩
def visitOk (v : SVisit) : Bool := !v.kept || decide (v.addr = v.page.addr)
def isTab (t : STab) : Bool := t.visits.all visitOk && decide (t.visits.length ≤ 6 ∧ ((t.visits.length = 0 ∧ t.at_ = -1) ∨ (0 ≤ t.at_ ∧ t.at_ < t.visits.length)))
def fIsTab : Fct := ⟨[.v (.el .tab)], [.el .bool], fun (x_ : STab × Unit) => x_.1.visits.length ≤ 1048576, fun (x_ : STab × Unit) => (isTab x_.1, ())⟩
def fHostsOf : Fct := ⟨[.v (.el .net)], [.sl .str], fun (x_ : SNet × Unit) => x_.1.log.length ≤ 1048576, fun (x_ : SNet × Unit) => (uniqBy (fun s => s.to.host) [] x_.1.log, ())⟩
def fSentTo : Fct := ⟨[.v (.el .net), .v (.el .str)], [.sl .sent], fun (x_ : SNet × ByteArray × Unit) => x_.1.log.length ≤ 1048576, fun (x_ : SNet × ByteArray × Unit) => (x_.1.log.filter (fun s => decide (s.to.host = x_.2.1)), ())⟩
def topsOf (n : SNet) (h : ByteArray) : List ByteArray := uniqBy (fun s => s.top) [] (n.log.filter (fun s => decide (s.to.host = h)))
theorem filter_len_ {α : Type} (p : α → Bool) (l : List α) : (l.filter p).length ≤ l.length := List.length_filter_le p l
def fTopsOf : Fct := ⟨[.v (.el .net), .v (.el .str)], [.sl .str], fun (x_ : SNet × ByteArray × Unit) => x_.1.log.length ≤ 1048576, fun (x_ : SNet × ByteArray × Unit) => (topsOf x_.1 x_.2.1, ())⟩
def lGuessesSent : Fct := lawFS [.el .net, .el .int]
def lPage : Fct := lawFS [.el .page]
def lPageReq : Fct := lawFS [.el .page, .el .request]
def lTab : Fct := lawFS [.el .tab]
def lNet : Fct := lawFS [.el .net]
theorem uniqHosts_len (n : SNet) : (uniqBy (fun s => s.to.host) [] n.log).length ≤ n.log.length := by simpa using uniqBy_len (fun (s : SSent) => s.to.host) n.log []
def lNetStr : Fct := lawFS [.el .net, .el .str]
theorem topsOf_len (n : SNet) (h : ByteArray) : (topsOf n h).length ≤ n.log.length := by
  have h1 := uniqBy_len (fun (s : SSent) => s.top) (n.log.filter (fun s => decide (s.to.host = h))) []
  have h2 := filter_len_ (fun (s : SSent) => decide (s.to.host = h)) n.log
  simp only [topsOf, List.length_nil] at *; omega
def fEqual_int : Fct := ⟨[.v (.sl .int), .v (.sl .int)], [.el .bool], fun (x_ : (List Int) × (List Int) × Unit) => x_.1.length ≤ 1000000000000000000, fun (x_ : (List Int) × (List Int) × Unit) => (decide (x_.1 = x_.2.1), ())⟩
abbrev W_slices_Equal_int_int_fEqual_int_4 (l : (List Int)) (m : (List Int)) : LInv := ⟨[⟨.s, 13, true, .el .int⟩], fun _ (x_ : Int × Unit) => 0 ≤ x_.1 ∧ x_.1 ≤ l.length ∧ l.length = m.length ∧ decide (l.drop x_.1.toNat = m.drop x_.1.toNat) = decide (l = m), fun (x_ : Int × Unit) => l.length - x_.1.toNat⟩
-- slices.Equal[[]int,int]
theorem k211_63 : fEqual_int.ok Try.prog 211 := Fct.of (S := fEqual_int) (L := fun ⟨l, m, _⟩ => fun | 4 => some (W_slices_Equal_int_int_fEqual_int_4 l m) | _ => none) (kp := [0,1,4,5,10,12,13,14,24]) E63ok Try.func211 (by kernel_rfl) (by kernel_rfl) (by
  rintro ⟨(l : List Int), (m : List Int), _⟩ hp
  refine holds_of (X := .br ((↑l.length : Int) != (↑m.length : Int))
 (.leaf (mkR fEqual_int.rs (false, ())) [] [])
 (lpx (W_slices_Equal_int_int_fEqual_int_4 l m) ((0 : Int), ()) fun (y2 : Int × PUnit) bk2 =>
  .br (decide (y2.fst < (↑l.length : Int)))
   (.ob ((0 : Int) ≤ y2.fst ∧ y2.fst < (↑l.length : Int)) <|
    .ob ((0 : Int) ≤ y2.fst ∧ y2.fst < (↑m.length : Int)) <|
    .br (l.getD y2.fst.toNat default != m.getD y2.fst.toNat default)
    (.leaf (mkR fEqual_int.rs (false, ())) [] [])
    (.ob (l = l) <|
     .ob (m = m) <|
     .ob (Value.bool ((↑l.length : Int) != (↑m.length : Int)) = Value.bool ((↑l.length : Int) != (↑m.length : Int))) <|
     .ob (Value.int IntKind.i64 (↑l.length : Int) = Value.int IntKind.i64 (↑l.length : Int)) <|
     .ob (bk2 (IntKind.i64.wrap (y2.fst + (1 : Int)), ())) <|
     .ok))
   (.leaf (mkR fEqual_int.rs (true, ())) [] []))) (by kernel_rfl) ?_
  refine br_i (fun h1 => Fct.leafY ?_) (fun h1 => lpx_i ?_ fun (y2 : Int × PUnit) i2 => br_i (fun h3 => ob_i ?_ fun o4 => ob_i ?_ fun o5 => br_i (fun h6 => Fct.leafY ?_) (fun h6 => ob_i rfl fun _ => ob_i rfl fun _ => ob_i rfl fun _ => ob_i rfl fun _ => ob_i ?_ fun o7 => trivial)) (fun h3 => Fct.leafY ?_))
  all_goals try simp only [beq_iff_eq] at *
  all_goals try simp only [decide_eq_true_eq, decide_eq_false_iff_not, Bool.not_eq_true', Bool.not_eq_false', bne_iff_ne, bne_eq_false_iff_eq, beq_iff_eq, beq_eq_false_iff_ne, baEq, Int.not_lt, Int.not_le, ne_eq, Decidable.not_not] at *
  all_goals try simp only [W_slices_Equal_int_int_fEqual_int_4, fEqual_int, baSz, List.size_toArray, List.length_cons, List.length_nil, Nat.reduceAdd, Int.toNat_zero, List.drop_zero, decide_eq_true_eq, decide_eq_false_iff_not, Bool.not_eq_true', Bool.not_eq_false', bne_iff_ne, bne_eq_false_iff_eq, beq_iff_eq, beq_eq_false_iff_ne, Bool.not_eq_true, Bool.not_eq_false, ne_eq, Decidable.not_not, baEq, decide_not, Prod.mk.injEq, and_true, true_and, Room, List.nil_append, Nat.zero_add, Int.not_lt, Int.not_le] at *
  all_goals try simp (disch := omega) only [wrapId', toNat1] at *
  all_goals try simp (disch := omega) only [if_pos, if_neg]
  all_goals first | trivial | omega | grind [wrapId', toNat1, drop_cons, drop_end, good_len, maxLen])
def E64 : D.Env := E63.add 211 fEqual_int
theorem E64ok : EOk Try.prog E64 := E63ok.add k211_63
def fEqual_str : Fct := ⟨[.v (.sl .str), .v (.sl .str)], [.el .bool], fun (x_ : (List ByteArray) × (List ByteArray) × Unit) => x_.1.length ≤ 1000000000000000000, fun (x_ : (List ByteArray) × (List ByteArray) × Unit) => (decide (x_.1 = x_.2.1), ())⟩
abbrev W_slices_Equal_string_string_fEqual_str_4 (l : (List ByteArray)) (m : (List ByteArray)) : LInv := ⟨[⟨.s, 13, true, .el .int⟩], fun _ (x_ : Int × Unit) => 0 ≤ x_.1 ∧ x_.1 ≤ l.length ∧ l.length = m.length ∧ decide (l.drop x_.1.toNat = m.drop x_.1.toNat) = decide (l = m), fun (x_ : Int × Unit) => l.length - x_.1.toNat⟩
-- slices.Equal[[]string,string]
theorem k184_64 : fEqual_str.ok Try.prog 184 := Fct.of (S := fEqual_str) (L := fun ⟨l, m, _⟩ => fun | 4 => some (W_slices_Equal_string_string_fEqual_str_4 l m) | _ => none) (kp := [0,1,4,5,10,12,13,14,24]) E64ok Try.func184 (by kernel_rfl) (by kernel_rfl) (by
  rintro ⟨(l : List ByteArray), (m : List ByteArray), _⟩ hp
  refine holds_of (X := .br ((↑l.length : Int) != (↑m.length : Int))
 (.leaf (mkR fEqual_str.rs (false, ())) [] [])
 (lpx (W_slices_Equal_string_string_fEqual_str_4 l m) ((0 : Int), ()) fun (y2 : Int × PUnit) bk2 =>
  .br (decide (y2.fst < (↑l.length : Int)))
   (.ob ((0 : Int) ≤ y2.fst ∧ y2.fst < (↑l.length : Int)) <|
    .ob ((0 : Int) ≤ y2.fst ∧ y2.fst < (↑m.length : Int)) <|
    .br (!(l.getD y2.fst.toNat default).toList == (m.getD y2.fst.toNat default).toList)
    (.leaf (mkR fEqual_str.rs (false, ())) [] [])
    (.ob (l = l) <|
     .ob (m = m) <|
     .ob (Value.bool ((↑l.length : Int) != (↑m.length : Int)) = Value.bool ((↑l.length : Int) != (↑m.length : Int))) <|
     .ob (Value.int IntKind.i64 (↑l.length : Int) = Value.int IntKind.i64 (↑l.length : Int)) <|
     .ob (bk2 (IntKind.i64.wrap (y2.fst + (1 : Int)), ())) <|
     .ok))
   (.leaf (mkR fEqual_str.rs (true, ())) [] []))) (by kernel_rfl) ?_
  refine br_i (fun h1 => Fct.leafY ?_) (fun h1 => lpx_i ?_ fun (y2 : Int × PUnit) i2 => br_i (fun h3 => ob_i ?_ fun o4 => ob_i ?_ fun o5 => br_i (fun h6 => Fct.leafY ?_) (fun h6 => ob_i rfl fun _ => ob_i rfl fun _ => ob_i rfl fun _ => ob_i rfl fun _ => ob_i ?_ fun o7 => trivial)) (fun h3 => Fct.leafY ?_))
  all_goals try simp only [baBeq, baEq] at *
  all_goals try simp only [decide_eq_true_eq, decide_eq_false_iff_not, Bool.not_eq_true', Bool.not_eq_false', bne_iff_ne, bne_eq_false_iff_eq, beq_iff_eq, beq_eq_false_iff_ne, baEq, Int.not_lt, Int.not_le, ne_eq, Decidable.not_not] at *
  all_goals try simp only [W_slices_Equal_string_string_fEqual_str_4, fEqual_str, baSz, List.size_toArray, List.length_cons, List.length_nil, Nat.reduceAdd, Int.toNat_zero, List.drop_zero, decide_eq_true_eq, decide_eq_false_iff_not, Bool.not_eq_true', Bool.not_eq_false', bne_iff_ne, bne_eq_false_iff_eq, beq_iff_eq, beq_eq_false_iff_ne, Bool.not_eq_true, Bool.not_eq_false, ne_eq, Decidable.not_not, baEq, decide_not, Prod.mk.injEq, and_true, true_and, Room, List.nil_append, Nat.zero_add, Int.not_lt, Int.not_le] at *
  all_goals try simp (disch := omega) only [wrapId', toNat1] at *
  all_goals try simp (disch := omega) only [if_pos, if_neg]
  all_goals first | trivial | omega | grind [wrapId', toNat1, drop_cons, drop_end, good_len, maxLen])
def E65 : D.Env := E64.add 184 fEqual_str
theorem E65ok : EOk Try.prog E65 := E64ok.add k184_64
def fEqual_attr : Fct := ⟨[.v (.sl .attr), .v (.sl .attr)], [.el .bool], fun (x_ : (List SAttr) × (List SAttr) × Unit) => x_.1.length ≤ 1000000000000000000, fun (x_ : (List SAttr) × (List SAttr) × Unit) => (decide (x_.1 = x_.2.1), ())⟩
abbrev W_slices_Equal_impl_Attr_impl_Attr_fEqual_attr_4 (l : (List SAttr)) (m : (List SAttr)) : LInv := ⟨[⟨.s, 13, true, .el .int⟩], fun _ (x_ : Int × Unit) => 0 ≤ x_.1 ∧ x_.1 ≤ l.length ∧ l.length = m.length ∧ decide (l.drop x_.1.toNat = m.drop x_.1.toNat) = decide (l = m), fun (x_ : Int × Unit) => l.length - x_.1.toNat⟩
-- slices.Equal[[]impl.Attr,impl.Attr]
theorem k208_65 : fEqual_attr.ok Try.prog 208 := Fct.of (S := fEqual_attr) (L := fun ⟨l, m, _⟩ => fun | 4 => some (W_slices_Equal_impl_Attr_impl_Attr_fEqual_attr_4 l m) | _ => none) (kp := [0,1,4,5,10,12,13,14,24]) E65ok Try.func208 (by kernel_rfl) (by kernel_rfl) (by
  rintro ⟨(l : List SAttr), (m : List SAttr), _⟩ hp
  refine holds_of (X := .br ((↑l.length : Int) != (↑m.length : Int))
 (.leaf (mkR fEqual_attr.rs (false, ())) [] [])
 (lpx (W_slices_Equal_impl_Attr_impl_Attr_fEqual_attr_4 l m) ((0 : Int), ()) fun (y2 : Int × PUnit) bk2 =>
  .br (decide (y2.fst < (↑l.length : Int)))
   (.ob ((0 : Int) ≤ y2.fst ∧ y2.fst < (↑l.length : Int)) <|
    .ob ((0 : Int) ≤ y2.fst ∧ y2.fst < (↑m.length : Int)) <|
    .br (!((l.getD y2.fst.toNat default).name == (m.getD y2.fst.toNat default).name &&
    ((l.getD y2.fst.toNat default).value == (m.getD y2.fst.toNat default).value && true)))
    (.leaf (mkR fEqual_attr.rs (false, ())) [] [])
    (.ob (l = l) <|
     .ob (m = m) <|
     .ob (Value.bool ((↑l.length : Int) != (↑m.length : Int)) = Value.bool ((↑l.length : Int) != (↑m.length : Int))) <|
     .ob (Value.int IntKind.i64 (↑l.length : Int) = Value.int IntKind.i64 (↑l.length : Int)) <|
     .ob (bk2 (IntKind.i64.wrap (y2.fst + (1 : Int)), ())) <|
     .ok))
   (.leaf (mkR fEqual_attr.rs (true, ())) [] []))) (by kernel_rfl) ?_
  refine br_i (fun h1 => Fct.leafY ?_) (fun h1 => lpx_i ?_ fun (y2 : Int × PUnit) i2 => br_i (fun h3 => ob_i ?_ fun o4 => ob_i ?_ fun o5 => br_i (fun h6 => Fct.leafY ?_) (fun h6 => ob_i rfl fun _ => ob_i rfl fun _ => ob_i rfl fun _ => ob_i rfl fun _ => ob_i ?_ fun o7 => trivial)) (fun h3 => Fct.leafY ?_))
  all_goals try simp only [beqAttr] at *
  all_goals try simp only [decide_eq_true_eq, decide_eq_false_iff_not, Bool.not_eq_true', Bool.not_eq_false', bne_iff_ne, bne_eq_false_iff_eq, beq_iff_eq, beq_eq_false_iff_ne, baEq, Int.not_lt, Int.not_le, ne_eq, Decidable.not_not] at *
  all_goals try simp only [W_slices_Equal_impl_Attr_impl_Attr_fEqual_attr_4, fEqual_attr, baSz, List.size_toArray, List.length_cons, List.length_nil, Nat.reduceAdd, Int.toNat_zero, List.drop_zero, decide_eq_true_eq, decide_eq_false_iff_not, Bool.not_eq_true', Bool.not_eq_false', bne_iff_ne, bne_eq_false_iff_eq, beq_iff_eq, beq_eq_false_iff_ne, Bool.not_eq_true, Bool.not_eq_false, ne_eq, Decidable.not_not, baEq, decide_not, Prod.mk.injEq, and_true, true_and, Room, List.nil_append, Nat.zero_add, Int.not_lt, Int.not_le] at *
  all_goals try simp (disch := omega) only [wrapId', toNat1] at *
  all_goals try simp (disch := omega) only [if_pos, if_neg]
  all_goals first | trivial | omega | grind [wrapId', toNat1, drop_cons, drop_end, good_len, maxLen])
def E66 : D.Env := E65.add 208 fEqual_attr
theorem E66ok : EOk Try.prog E66 := E65ok.add k208_65
def fEqual_addr : Fct := ⟨[.v (.sl .addr), .v (.sl .addr)], [.el .bool], fun (x_ : (List SAddr) × (List SAddr) × Unit) => x_.1.length ≤ 1000000000000000000, fun (x_ : (List SAddr) × (List SAddr) × Unit) => (decide (x_.1 = x_.2.1), ())⟩
abbrev W_slices_Equal_impl_Addr_impl_Addr_fEqual_addr_4 (l : (List SAddr)) (m : (List SAddr)) : LInv := ⟨[⟨.s, 13, true, .el .int⟩], fun _ (x_ : Int × Unit) => 0 ≤ x_.1 ∧ x_.1 ≤ l.length ∧ l.length = m.length ∧ decide (l.drop x_.1.toNat = m.drop x_.1.toNat) = decide (l = m), fun (x_ : Int × Unit) => l.length - x_.1.toNat⟩
-- slices.Equal[[]impl.Addr,impl.Addr]
theorem k83_66 : fEqual_addr.ok Try.prog 83 := Fct.of (S := fEqual_addr) (L := fun ⟨l, m, _⟩ => fun | 4 => some (W_slices_Equal_impl_Addr_impl_Addr_fEqual_addr_4 l m) | _ => none) (kp := [0,1,4,5,10,12,13,14,24]) E66ok Try.func83 (by kernel_rfl) (by kernel_rfl) (by
  rintro ⟨(l : List SAddr), (m : List SAddr), _⟩ hp
  refine holds_of (X := .br ((↑l.length : Int) != (↑m.length : Int))
 (.leaf (mkR fEqual_addr.rs (false, ())) [] [])
 (lpx (W_slices_Equal_impl_Addr_impl_Addr_fEqual_addr_4 l m) ((0 : Int), ()) fun (y2 : Int × PUnit) bk2 =>
  .br (decide (y2.fst < (↑l.length : Int)))
   (.ob ((0 : Int) ≤ y2.fst ∧ y2.fst < (↑l.length : Int)) <|
    .ob ((0 : Int) ≤ y2.fst ∧ y2.fst < (↑m.length : Int)) <|
    .br (!((l.getD y2.fst.toNat default).host == (m.getD y2.fst.toNat default).host &&
    ((l.getD y2.fst.toNat default).path == (m.getD y2.fst.toNat default).path && true)))
    (.leaf (mkR fEqual_addr.rs (false, ())) [] [])
    (.ob (l = l) <|
     .ob (m = m) <|
     .ob (Value.bool ((↑l.length : Int) != (↑m.length : Int)) = Value.bool ((↑l.length : Int) != (↑m.length : Int))) <|
     .ob (Value.int IntKind.i64 (↑l.length : Int) = Value.int IntKind.i64 (↑l.length : Int)) <|
     .ob (bk2 (IntKind.i64.wrap (y2.fst + (1 : Int)), ())) <|
     .ok))
   (.leaf (mkR fEqual_addr.rs (true, ())) [] []))) (by kernel_rfl) ?_
  refine br_i (fun h1 => Fct.leafY ?_) (fun h1 => lpx_i ?_ fun (y2 : Int × PUnit) i2 => br_i (fun h3 => ob_i ?_ fun o4 => ob_i ?_ fun o5 => br_i (fun h6 => Fct.leafY ?_) (fun h6 => ob_i rfl fun _ => ob_i rfl fun _ => ob_i rfl fun _ => ob_i rfl fun _ => ob_i ?_ fun o7 => trivial)) (fun h3 => Fct.leafY ?_))
  all_goals try simp only [beqAddr] at *
  all_goals try simp only [decide_eq_true_eq, decide_eq_false_iff_not, Bool.not_eq_true', Bool.not_eq_false', bne_iff_ne, bne_eq_false_iff_eq, beq_iff_eq, beq_eq_false_iff_ne, baEq, Int.not_lt, Int.not_le, ne_eq, Decidable.not_not] at *
  all_goals try simp only [W_slices_Equal_impl_Addr_impl_Addr_fEqual_addr_4, fEqual_addr, baSz, List.size_toArray, List.length_cons, List.length_nil, Nat.reduceAdd, Int.toNat_zero, List.drop_zero, decide_eq_true_eq, decide_eq_false_iff_not, Bool.not_eq_true', Bool.not_eq_false', bne_iff_ne, bne_eq_false_iff_eq, beq_iff_eq, beq_eq_false_iff_ne, Bool.not_eq_true, Bool.not_eq_false, ne_eq, Decidable.not_not, baEq, decide_not, Prod.mk.injEq, and_true, true_and, Room, List.nil_append, Nat.zero_add, Int.not_lt, Int.not_le] at *
  all_goals try simp (disch := omega) only [wrapId', toNat1] at *
  all_goals try simp (disch := omega) only [if_pos, if_neg]
  all_goals first | trivial | omega | grind [wrapId', toNat1, drop_cons, drop_end, good_len, maxLen])
def E67 : D.Env := E66.add 83 fEqual_addr
theorem E67ok : EOk Try.prog E67 := E66ok.add k83_66
abbrev W_spec_EqualInts_fEqual_int_4 (l : (List Int)) (m : (List Int)) : LInv := ⟨[⟨.s, 5, true, .el .int⟩], fun _ (x_ : Int × Unit) => 0 ≤ x_.1 ∧ x_.1 ≤ l.length ∧ l.length = m.length ∧ decide (l.drop x_.1.toNat = m.drop x_.1.toNat) = decide (l = m), fun (x_ : Int × Unit) => l.length - x_.1.toNat⟩
-- spec.EqualInts
theorem k175_67 : fEqual_int.ok Try.prog 175 := Fct.of (S := fEqual_int) (L := fun ⟨l, m, _⟩ => fun | 4 => some (W_spec_EqualInts_fEqual_int_4 l m) | _ => none) (kp := [0,1,4,5,10,14,25]) E67ok Try.func175 (by kernel_rfl) (by kernel_rfl) (by
  rintro ⟨(l : List Int), (m : List Int), _⟩ hp
  refine holds_of (X := .br ((↑l.length : Int) != (↑m.length : Int))
 (.leaf (mkR fEqual_int.rs (false, ())) [] [])
 (lpx (W_spec_EqualInts_fEqual_int_4 l m) ((0 : Int), ()) fun (y2 : Int × PUnit) bk2 =>
  .br (decide (y2.fst < (↑l.length : Int)))
   (.ob ((0 : Int) ≤ y2.fst ∧ y2.fst < (↑l.length : Int)) <|
    .ob ((0 : Int) ≤ y2.fst ∧ y2.fst < (↑m.length : Int)) <|
    .br (l.getD y2.fst.toNat default != m.getD y2.fst.toNat default)
    (.leaf (mkR fEqual_int.rs (false, ())) [] [])
    (.ob (l = l) <|
     .ob (m = m) <|
     .ob (Value.bool ((↑l.length : Int) != (↑m.length : Int)) = Value.bool ((↑l.length : Int) != (↑m.length : Int))) <|
     .ob (bk2 (IntKind.i64.wrap (y2.fst + (1 : Int)), ())) <|
     .ok))
   (.leaf (mkR fEqual_int.rs (true, ())) [] []))) (by kernel_rfl) ?_
  refine br_i (fun h1 => Fct.leafY ?_) (fun h1 => lpx_i ?_ fun (y2 : Int × PUnit) i2 => br_i (fun h3 => ob_i ?_ fun o4 => ob_i ?_ fun o5 => br_i (fun h6 => Fct.leafY ?_) (fun h6 => ob_i rfl fun _ => ob_i rfl fun _ => ob_i rfl fun _ => ob_i ?_ fun o7 => trivial)) (fun h3 => Fct.leafY ?_))
  all_goals try simp only [decide_eq_true_eq, decide_eq_false_iff_not, Bool.not_eq_true', Bool.not_eq_false', bne_iff_ne, bne_eq_false_iff_eq, beq_iff_eq, beq_eq_false_iff_ne, baEq, Int.not_lt, Int.not_le, ne_eq, Decidable.not_not] at *
  all_goals try simp only [W_spec_EqualInts_fEqual_int_4, fEqual_int, baSz, List.size_toArray, List.length_cons, List.length_nil, Nat.reduceAdd, Int.toNat_zero, List.drop_zero, decide_eq_true_eq, decide_eq_false_iff_not, Bool.not_eq_true', Bool.not_eq_false', bne_iff_ne, bne_eq_false_iff_eq, beq_iff_eq, beq_eq_false_iff_ne, Bool.not_eq_true, Bool.not_eq_false, ne_eq, Decidable.not_not, baEq, decide_not, Prod.mk.injEq, and_true, true_and, Room, List.nil_append, Nat.zero_add, Int.not_lt, Int.not_le] at *
  all_goals try simp (disch := omega) only [wrapId', toNat1] at *
  all_goals try simp (disch := omega) only [if_pos, if_neg]
  all_goals first | trivial | omega | grind [wrapId', toNat1, drop_cons, drop_end, good_len, maxLen])
def E68 : D.Env := E67.add 175 fEqual_int
theorem E68ok : EOk Try.prog E68 := E67ok.add k175_67
abbrev W_spec_l9Same_fEqual_str_4 (l : (List ByteArray)) (m : (List ByteArray)) : LInv := ⟨[⟨.s, 5, true, .el .int⟩], fun _ (x_ : Int × Unit) => 0 ≤ x_.1 ∧ x_.1 ≤ l.length ∧ l.length = m.length ∧ decide (l.drop x_.1.toNat = m.drop x_.1.toNat) = decide (l = m), fun (x_ : Int × Unit) => l.length - x_.1.toNat⟩
-- spec.l9Same
theorem k174_68 : fEqual_str.ok Try.prog 174 := Fct.of (S := fEqual_str) (L := fun ⟨l, m, _⟩ => fun | 4 => some (W_spec_l9Same_fEqual_str_4 l m) | _ => none) (kp := [0,1,4,5,10,14,25]) E68ok Try.func174 (by kernel_rfl) (by kernel_rfl) (by
  rintro ⟨(l : List ByteArray), (m : List ByteArray), _⟩ hp
  refine holds_of (X := .br ((↑l.length : Int) != (↑m.length : Int))
 (.leaf (mkR fEqual_str.rs (false, ())) [] [])
 (lpx (W_spec_l9Same_fEqual_str_4 l m) ((0 : Int), ()) fun (y2 : Int × PUnit) bk2 =>
  .br (decide (y2.fst < (↑l.length : Int)))
   (.ob ((0 : Int) ≤ y2.fst ∧ y2.fst < (↑l.length : Int)) <|
    .ob ((0 : Int) ≤ y2.fst ∧ y2.fst < (↑m.length : Int)) <|
    .br (!(l.getD y2.fst.toNat default).toList == (m.getD y2.fst.toNat default).toList)
    (.leaf (mkR fEqual_str.rs (false, ())) [] [])
    (.ob (l = l) <|
     .ob (m = m) <|
     .ob (Value.bool ((↑l.length : Int) != (↑m.length : Int)) = Value.bool ((↑l.length : Int) != (↑m.length : Int))) <|
     .ob (bk2 (IntKind.i64.wrap (y2.fst + (1 : Int)), ())) <|
     .ok))
   (.leaf (mkR fEqual_str.rs (true, ())) [] []))) (by kernel_rfl) ?_
  refine br_i (fun h1 => Fct.leafY ?_) (fun h1 => lpx_i ?_ fun (y2 : Int × PUnit) i2 => br_i (fun h3 => ob_i ?_ fun o4 => ob_i ?_ fun o5 => br_i (fun h6 => Fct.leafY ?_) (fun h6 => ob_i rfl fun _ => ob_i rfl fun _ => ob_i rfl fun _ => ob_i ?_ fun o7 => trivial)) (fun h3 => Fct.leafY ?_))
  all_goals try simp only [decide_eq_true_eq, decide_eq_false_iff_not, Bool.not_eq_true', Bool.not_eq_false', bne_iff_ne, bne_eq_false_iff_eq, beq_iff_eq, beq_eq_false_iff_ne, baEq, Int.not_lt, Int.not_le, ne_eq, Decidable.not_not] at *
  all_goals try simp only [W_spec_l9Same_fEqual_str_4, fEqual_str, baSz, List.size_toArray, List.length_cons, List.length_nil, Nat.reduceAdd, Int.toNat_zero, List.drop_zero, decide_eq_true_eq, decide_eq_false_iff_not, Bool.not_eq_true', Bool.not_eq_false', bne_iff_ne, bne_eq_false_iff_eq, beq_iff_eq, beq_eq_false_iff_ne, Bool.not_eq_true, Bool.not_eq_false, ne_eq, Decidable.not_not, baEq, decide_not, Prod.mk.injEq, and_true, true_and, Room, List.nil_append, Nat.zero_add, Int.not_lt, Int.not_le] at *
  all_goals try simp (disch := omega) only [wrapId', toNat1] at *
  all_goals try simp (disch := omega) only [if_pos, if_neg]
  all_goals first | trivial | omega | grind [wrapId', toNat1, drop_cons, drop_end, good_len, maxLen])
def E69 : D.Env := E68.add 174 fEqual_str
theorem E69ok : EOk Try.prog E69 := E68ok.add k174_68
-- spec.l15Texts
theorem k148_69 : fEqual_str.ok Try.prog 148 := Fct.of (S := fEqual_str) (L := fun _ _ => none) (kp := [0,1,4]) E69ok Try.func148 (by kernel_rfl) (by kernel_rfl) (by
  rintro ⟨(l : List ByteArray), (m : List ByteArray), _⟩ hp
  refine holds_of (X := .ob (fEqual_str.pre (l, m, ())) <|
 .lt (Bool × PUnit) (fEqual_str.fn (l, m, ())) fun z2 =>
 .leaf (mkR fEqual_str.rs (z2.fst, ())) [] []) (by kernel_rfl) ?_
  refine ob_i ?_ fun o1 => lt_i (Fct.leafY ?_)
  all_goals try simp only [decide_eq_true_eq, decide_eq_false_iff_not, Bool.not_eq_true', Bool.not_eq_false', bne_iff_ne, bne_eq_false_iff_eq, beq_iff_eq, beq_eq_false_iff_ne, baEq, Int.not_lt, Int.not_le, ne_eq, Decidable.not_not] at *
  all_goals try simp only [fEqual_str, baSz, List.size_toArray, List.length_cons, List.length_nil, Nat.reduceAdd, Int.toNat_zero, List.drop_zero, decide_eq_true_eq, decide_eq_false_iff_not, Bool.not_eq_true', Bool.not_eq_false', bne_iff_ne, bne_eq_false_iff_eq, beq_iff_eq, beq_eq_false_iff_ne, Bool.not_eq_true, Bool.not_eq_false, ne_eq, Decidable.not_not, baEq, decide_not, Prod.mk.injEq, and_true, true_and, Room, List.nil_append, Nat.zero_add, Int.not_lt, Int.not_le] at *
  all_goals try simp (disch := omega) only [wrapId', toNat1] at *
  all_goals try simp (disch := omega) only [if_pos, if_neg]
  all_goals first | trivial | omega | grind [wrapId', toNat1, drop_cons, drop_end, good_len, maxLen])
def E70 : D.Env := E69.add 148 fEqual_str
theorem E70ok : EOk Try.prog E70 := E69ok.add k148_69
abbrev W_spec_l15Addrs_fEqual_addr_4 (l : (List SAddr)) (m : (List SAddr)) : LInv := ⟨[⟨.s, 5, true, .el .int⟩], fun _ (x_ : Int × Unit) => 0 ≤ x_.1 ∧ x_.1 ≤ l.length ∧ l.length = m.length ∧ decide (l.drop x_.1.toNat = m.drop x_.1.toNat) = decide (l = m), fun (x_ : Int × Unit) => l.length - x_.1.toNat⟩
-- spec.l15Addrs
theorem k78_70 : fEqual_addr.ok Try.prog 78 := Fct.of (S := fEqual_addr) (L := fun ⟨l, m, _⟩ => fun | 4 => some (W_spec_l15Addrs_fEqual_addr_4 l m) | _ => none) (kp := [0,1,4,5,10,14,25]) E70ok Try.func78 (by kernel_rfl) (by kernel_rfl) (by
  rintro ⟨(l : List SAddr), (m : List SAddr), _⟩ hp
  refine holds_of (X := .br ((↑l.length : Int) != (↑m.length : Int))
 (.leaf (mkR fEqual_addr.rs (false, ())) [] [])
 (lpx (W_spec_l15Addrs_fEqual_addr_4 l m) ((0 : Int), ()) fun (y2 : Int × PUnit) bk2 =>
  .br (decide (y2.fst < (↑l.length : Int)))
   (.ob ((0 : Int) ≤ y2.fst ∧ y2.fst < (↑l.length : Int)) <|
    .ob ((0 : Int) ≤ y2.fst ∧ y2.fst < (↑m.length : Int)) <|
    .br (!((l.getD y2.fst.toNat default).host == (m.getD y2.fst.toNat default).host &&
    ((l.getD y2.fst.toNat default).path == (m.getD y2.fst.toNat default).path && true)))
    (.leaf (mkR fEqual_addr.rs (false, ())) [] [])
    (.ob (l = l) <|
     .ob (m = m) <|
     .ob (Value.bool ((↑l.length : Int) != (↑m.length : Int)) = Value.bool ((↑l.length : Int) != (↑m.length : Int))) <|
     .ob (bk2 (IntKind.i64.wrap (y2.fst + (1 : Int)), ())) <|
     .ok))
   (.leaf (mkR fEqual_addr.rs (true, ())) [] []))) (by kernel_rfl) ?_
  refine br_i (fun h1 => Fct.leafY ?_) (fun h1 => lpx_i ?_ fun (y2 : Int × PUnit) i2 => br_i (fun h3 => ob_i ?_ fun o4 => ob_i ?_ fun o5 => br_i (fun h6 => Fct.leafY ?_) (fun h6 => ob_i rfl fun _ => ob_i rfl fun _ => ob_i rfl fun _ => ob_i ?_ fun o7 => trivial)) (fun h3 => Fct.leafY ?_))
  all_goals try simp only [beqAddr] at *
  all_goals try simp only [decide_eq_true_eq, decide_eq_false_iff_not, Bool.not_eq_true', Bool.not_eq_false', bne_iff_ne, bne_eq_false_iff_eq, beq_iff_eq, beq_eq_false_iff_ne, baEq, Int.not_lt, Int.not_le, ne_eq, Decidable.not_not] at *
  all_goals try simp only [W_spec_l15Addrs_fEqual_addr_4, fEqual_addr, baSz, List.size_toArray, List.length_cons, List.length_nil, Nat.reduceAdd, Int.toNat_zero, List.drop_zero, decide_eq_true_eq, decide_eq_false_iff_not, Bool.not_eq_true', Bool.not_eq_false', bne_iff_ne, bne_eq_false_iff_eq, beq_iff_eq, beq_eq_false_iff_ne, Bool.not_eq_true, Bool.not_eq_false, ne_eq, Decidable.not_not, baEq, decide_not, Prod.mk.injEq, and_true, true_and, Room, List.nil_append, Nat.zero_add, Int.not_lt, Int.not_le] at *
  all_goals try simp (disch := omega) only [wrapId', toNat1] at *
  all_goals try simp (disch := omega) only [if_pos, if_neg]
  all_goals first | trivial | omega | grind [wrapId', toNat1, drop_cons, drop_end, good_len, maxLen])
def E71 : D.Env := E70.add 78 fEqual_addr
theorem E71ok : EOk Try.prog E71 := E70ok.add k78_70
theorem nodeEq (a b : SNode) : decide (a = b) = (decide (a.name = b.name) && (decide (a.text = b.text) && (decide (a.parent = b.parent) && decide (a.attrs = b.attrs)))) := by cases a; cases b; simp
theorem tokenEq (a b : SToken) : decide (a = b) = (decide (a.kind = b.kind) && (decide (a.name = b.name) && (decide (a.attrs = b.attrs) && decide (a.text = b.text)))) := by cases a; cases b; simp
def fEqNode : Fct := ⟨[.v (.el .node), .v (.el .node)], [.el .bool], fun (x_ : SNode × SNode × Unit) => x_.1.attrs.length ≤ 1000000000000000000, fun (x_ : SNode × SNode × Unit) => (decide (x_.1 = x_.2.1), ())⟩
abbrev W_spec_l6Same_fEqNode_4 (a : SNode) (b : SNode) : LInv := ⟨[⟨.s, 5, true, .el .int⟩, ⟨.b, 2, false, .el .node⟩, ⟨.b, 3, false, .el .node⟩], fun (z_ : Int × SNode × SNode × Unit) (x_ : Int × SNode × SNode × Unit) => ((0 ≤ x_.1 ∧ x_.1 ≤ a.attrs.length ∧ a.name = b.name ∧ a.text = b.text ∧ a.parent = b.parent ∧ a.attrs.length = b.attrs.length ∧ decide (a.attrs.drop x_.1.toNat = b.attrs.drop x_.1.toNat) = decide (a.attrs = b.attrs)) ∧ x_.2.1 = z_.2.1) ∧ x_.2.2.1 = z_.2.2.1, fun (x_ : Int × SNode × SNode × Unit) => a.attrs.length - x_.1.toNat⟩
-- spec.l6Same
theorem k176_71 : fEqNode.ok Try.prog 176 := Fct.of (S := fEqNode) (L := fun ⟨a, b, _⟩ => fun | 4 => some (W_spec_l6Same_fEqNode_4 a b) | _ => none) (kp := [0,1,2,3,4,5,33,38,51]) E71ok Try.func176 (by kernel_rfl) (by kernel_rfl) (by
  rintro ⟨(a : SNode), (b : SNode), _⟩ hp
  refine holds_of (X := .br (!a.name.toList == b.name.toList)
 (.leaf (mkR fEqNode.rs (false, ())) [] [])
 (.br (!a.text.toList == b.text.toList)
  (.leaf (mkR fEqNode.rs (false, ())) [] [])
  (.br (a.parent != b.parent)
   (.leaf (mkR fEqNode.rs (false, ())) [] [])
   (.br ((↑a.attrs.length : Int) != (↑b.attrs.length : Int))
    (.leaf (mkR fEqNode.rs (false, ())) [] [])
    (lpx (W_spec_l6Same_fEqNode_4 a b) ((0 : Int), (a, (b, ()))) fun (y5 : Int × SNode × SNode × PUnit) bk5 =>
     .br (decide (y5.fst < (↑y5.snd.fst.attrs.length : Int)))
      (.ob ((0 : Int) ≤ y5.fst ∧ y5.fst < (↑y5.snd.fst.attrs.length : Int)) <|
       .ob ((0 : Int) ≤ y5.fst ∧ y5.fst < (↑y5.snd.snd.fst.attrs.length : Int)) <|
       .br (!((y5.snd.fst.attrs.getD y5.fst.toNat default).name == (y5.snd.snd.fst.attrs.getD y5.fst.toNat default).name &&
    ((y5.snd.fst.attrs.getD y5.fst.toNat default).value == (y5.snd.snd.fst.attrs.getD y5.fst.toNat default).value &&
      true)))
       (.leaf (mkR fEqNode.rs (false, ())) [] [])
       (.ob (Value.string a.name = Value.string a.name) <|
        .ob (Value.string a.text = Value.string a.text) <|
        .ob (Value.int IntKind.i64 a.parent = Value.int IntKind.i64 a.parent) <|
        .ob (a.attrs = a.attrs) <|
        .ob (Value.string b.name = Value.string b.name) <|
        .ob (Value.string b.text = Value.string b.text) <|
        .ob (Value.int IntKind.i64 b.parent = Value.int IntKind.i64 b.parent) <|
        .ob (b.attrs = b.attrs) <|
        .ob (Value.bool ((↑a.attrs.length : Int) != (↑b.attrs.length : Int)) =
  Value.bool ((↑a.attrs.length : Int) != (↑b.attrs.length : Int))) <|
        .ob (bk5 (IntKind.i64.wrap (y5.fst + (1 : Int)), (y5.snd.fst, (y5.snd.snd.fst, ())))) <|
        .ok))
      (.leaf (mkR fEqNode.rs (true, ())) [] [])))))) (by kernel_rfl) ?_
  refine br_i (fun h1 => Fct.leafY ?_) (fun h1 => br_i (fun h2 => Fct.leafY ?_) (fun h2 => br_i (fun h3 => Fct.leafY ?_) (fun h3 => br_i (fun h4 => Fct.leafY ?_) (fun h4 => lpx_i ?_ fun (y5 : Int × SNode × SNode × PUnit) i5 => br_i (fun h6 => ob_i ?_ fun o7 => ob_i ?_ fun o8 => br_i (fun h9 => Fct.leafY ?_) (fun h9 => ob_i rfl fun _ => ob_i rfl fun _ => ob_i rfl fun _ => ob_i rfl fun _ => ob_i rfl fun _ => ob_i rfl fun _ => ob_i rfl fun _ => ob_i rfl fun _ => ob_i rfl fun _ => ob_i ?_ fun o10 => trivial)) (fun h6 => Fct.leafY ?_)))))
  all_goals try simp only [beqAttr] at *
  all_goals (cases a; cases b)
  all_goals try simp only [decide_eq_true_eq, decide_eq_false_iff_not, Bool.not_eq_true', Bool.not_eq_false', bne_iff_ne, bne_eq_false_iff_eq, beq_iff_eq, beq_eq_false_iff_ne, baEq, Int.not_lt, Int.not_le, ne_eq, Decidable.not_not] at *
  all_goals try simp only [W_spec_l6Same_fEqNode_4, fEqNode, baSz, List.size_toArray, List.length_cons, List.length_nil, Nat.reduceAdd, Int.toNat_zero, List.drop_zero, decide_eq_true_eq, decide_eq_false_iff_not, Bool.not_eq_true', Bool.not_eq_false', bne_iff_ne, bne_eq_false_iff_eq, beq_iff_eq, beq_eq_false_iff_ne, Bool.not_eq_true, Bool.not_eq_false, ne_eq, Decidable.not_not, baEq, decide_not, Prod.mk.injEq, and_true, true_and, Room, List.nil_append, Nat.zero_add, Int.not_lt, Int.not_le] at *
  all_goals try simp (disch := omega) only [wrapId', toNat1] at *
  all_goals try simp (disch := omega) only [if_pos, if_neg]
  all_goals first | trivial | omega | grind [wrapId', toNat1, drop_cons, drop_end, good_len, maxLen])
def E72 : D.Env := E71.add 176 fEqNode
theorem E72ok : EOk Try.prog E72 := E71ok.add k176_71
-- impl.equalNodes
theorem k210_72 : fEqNode.ok Try.prog 210 := Fct.of (S := fEqNode) (L := fun _ _ => none) (kp := [0,1,2,3,4]) E72ok Try.func210 (by kernel_rfl) (by kernel_rfl) (by
  rintro ⟨(a : SNode), (b : SNode), _⟩ hp
  refine holds_of (X := .br (a.name.toList == b.name.toList)
 (.br (a.text.toList == b.text.toList)
  (.br (a.parent == b.parent)
   (.ob (fEqual_attr.pre (a.attrs, b.attrs, ())) <|
    .lt (Bool × PUnit) (fEqual_attr.fn (a.attrs, b.attrs, ())) fun z2 =>
    .leaf (mkR fEqNode.rs (z2.fst, ())) [] [])
   (.leaf (mkR fEqNode.rs (false, ())) [] []))
  (.leaf (mkR fEqNode.rs (false, ())) [] []))
 (.leaf (mkR fEqNode.rs (false, ())) [] [])) (by kernel_rfl) ?_
  refine br_i (fun h1 => br_i (fun h2 => br_i (fun h3 => ob_i ?_ fun o4 => lt_i (Fct.leafY ?_)) (fun h3 => Fct.leafY ?_)) (fun h2 => Fct.leafY ?_)) (fun h1 => Fct.leafY ?_)
  all_goals (cases a; cases b)
  all_goals try simp only [decide_eq_true_eq, decide_eq_false_iff_not, Bool.not_eq_true', Bool.not_eq_false', bne_iff_ne, bne_eq_false_iff_eq, beq_iff_eq, beq_eq_false_iff_ne, baEq, Int.not_lt, Int.not_le, ne_eq, Decidable.not_not] at *
  all_goals try simp only [fEqNode, fEqual_attr, baSz, List.size_toArray, List.length_cons, List.length_nil, Nat.reduceAdd, Int.toNat_zero, List.drop_zero, decide_eq_true_eq, decide_eq_false_iff_not, Bool.not_eq_true', Bool.not_eq_false', bne_iff_ne, bne_eq_false_iff_eq, beq_iff_eq, beq_eq_false_iff_ne, Bool.not_eq_true, Bool.not_eq_false, ne_eq, Decidable.not_not, baEq, decide_not, Prod.mk.injEq, and_true, true_and, Room, List.nil_append, Nat.zero_add, Int.not_lt, Int.not_le, fEqual_attr] at *
  all_goals try simp (disch := omega) only [wrapId', toNat1] at *
  all_goals try simp (disch := omega) only [if_pos, if_neg]
  all_goals first | trivial | omega | grind [wrapId', toNat1, drop_cons, drop_end, good_len, maxLen, fEqual_attr])
def E73 : D.Env := E72.add 210 fEqNode
theorem E73ok : EOk Try.prog E73 := E72ok.add k210_72
def fEqToken : Fct := ⟨[.v (.el .token), .v (.el .token)], [.el .bool], fun (x_ : SToken × SToken × Unit) => x_.1.attrs.length ≤ 1000000000000000000, fun (x_ : SToken × SToken × Unit) => (decide (x_.1 = x_.2.1), ())⟩
-- impl.equalTokens
theorem k180_73 : fEqToken.ok Try.prog 180 := Fct.of (S := fEqToken) (L := fun _ _ => none) (kp := [0,1,2,3,4]) E73ok Try.func180 (by kernel_rfl) (by kernel_rfl) (by
  rintro ⟨(a : SToken), (b : SToken), _⟩ hp
  refine holds_of (X := .br (a.kind == b.kind)
 (.br (a.name.toList == b.name.toList)
  (.ob (fEqual_attr.pre (a.attrs, b.attrs, ())) <|
   .lt (Bool × PUnit) (fEqual_attr.fn (a.attrs, b.attrs, ())) fun z2 =>
   .br (z2.fst)
    (.leaf (mkR fEqToken.rs (a.text.toList == b.text.toList, ())) [] [])
    (.leaf (mkR fEqToken.rs (false, ())) [] []))
  (.leaf (mkR fEqToken.rs (false, ())) [] []))
 (.leaf (mkR fEqToken.rs (false, ())) [] [])) (by kernel_rfl) ?_
  refine br_i (fun h1 => br_i (fun h2 => ob_i ?_ fun o3 => lt_i (br_i (fun h4 => Fct.leafY ?_) (fun h4 => Fct.leafY ?_))) (fun h2 => Fct.leafY ?_)) (fun h1 => Fct.leafY ?_)
  all_goals (cases a; cases b)
  all_goals try simp only [decide_eq_true_eq, decide_eq_false_iff_not, Bool.not_eq_true', Bool.not_eq_false', bne_iff_ne, bne_eq_false_iff_eq, beq_iff_eq, beq_eq_false_iff_ne, baEq, Int.not_lt, Int.not_le, ne_eq, Decidable.not_not] at *
  all_goals try simp only [fEqToken, fEqual_attr, baSz, List.size_toArray, List.length_cons, List.length_nil, Nat.reduceAdd, Int.toNat_zero, List.drop_zero, decide_eq_true_eq, decide_eq_false_iff_not, Bool.not_eq_true', Bool.not_eq_false', bne_iff_ne, bne_eq_false_iff_eq, beq_iff_eq, beq_eq_false_iff_ne, Bool.not_eq_true, Bool.not_eq_false, ne_eq, Decidable.not_not, baEq, decide_not, Prod.mk.injEq, and_true, true_and, Room, List.nil_append, Nat.zero_add, Int.not_lt, Int.not_le, fEqual_attr] at *
  all_goals try simp (disch := omega) only [wrapId', toNat1] at *
  all_goals try simp (disch := omega) only [if_pos, if_neg]
  all_goals first | trivial | omega | grind [wrapId', toNat1, drop_cons, drop_end, good_len, maxLen, fEqual_attr])
def E74 : D.Env := E73.add 180 fEqToken
theorem E74ok : EOk Try.prog E74 := E73ok.add k180_73
def fEqualFunc_node : Fct := ⟨[aL .node, aL .node, .c 210 []], [rB], fun x => x.1.length ≤ 1000000000000000000 ∧ ∀ i, i < x.1.length → i < x.2.1.length → fEqNode.pre (x.1.getD i default, x.2.1.getD i default, ()), fun x => (decide (x.1 = x.2.1), ())⟩
abbrev W_slices_EqualFunc_impl_Node_impl_Node_impl_Node_impl_Node_fEqualFunc_node_4 (l : (List SNode)) (m : (List SNode)) (u : (Unit)) : LInv := ⟨[⟨.s, 17, true, .el .int⟩], fun _ (x_ : Int × Unit) => 0 ≤ x_.1 ∧ x_.1 ≤ l.length ∧ l.length = m.length ∧ decide (l.drop x_.1.toNat = m.drop x_.1.toNat) = decide (l = m), fun (x_ : Int × Unit) => l.length - x_.1.toNat⟩
-- slices.EqualFunc[[]impl.Node,[]impl.Node,impl.Node,impl.Node]
theorem k209_74 : fEqualFunc_node.ok Try.prog 209 := Fct.of (S := fEqualFunc_node) (L := fun ⟨l, m, u, _⟩ => fun | 4 => some (W_slices_EqualFunc_impl_Node_impl_Node_impl_Node_impl_Node_fEqualFunc_node_4 l m u) | _ => none) (kp := [0,1,2,6,7,8,9,14,15,16,17,18,30]) E74ok Try.func209 (by kernel_rfl) (by kernel_rfl) (by
  rintro ⟨(l : List SNode), (m : List SNode), (u : PUnit), _⟩ hp
  refine holds_of (X := .br ((↑l.length : Int) != (↑m.length : Int))
 (.leaf (mkR fEqualFunc_node.rs (false, ())) [] [])
 (lpx (W_slices_EqualFunc_impl_Node_impl_Node_impl_Node_impl_Node_fEqualFunc_node_4 l m u) ((0 : Int), ()) fun (y2 : Int × PUnit) bk2 =>
  .br (decide (y2.fst < (↑l.length : Int)))
   (.ob ((0 : Int) ≤ y2.fst ∧ y2.fst < (↑l.length : Int)) <|
    .ob ((0 : Int) ≤ y2.fst ∧ y2.fst < (↑m.length : Int)) <|
    .ob (fEqNode.pre (l.getD y2.fst.toNat default, m.getD y2.fst.toNat default, ())) <|
    .lt (Bool × PUnit) (fEqNode.fn (l.getD y2.fst.toNat default, m.getD y2.fst.toNat default, ())) fun z2 =>
    .br (!z2.fst)
     (.leaf (mkR fEqualFunc_node.rs (false, ())) [] [])
     (.ob (l = l) <|
      .ob (m = m) <|
      .ob (Value.bool ((↑l.length : Int) != (↑m.length : Int)) = Value.bool ((↑l.length : Int) != (↑m.length : Int))) <|
      .ob (l = l) <|
      .ob (Value.int IntKind.i64 (↑l.length : Int) = Value.int IntKind.i64 (↑l.length : Int)) <|
      .ob (bk2 (IntKind.i64.wrap (y2.fst + (1 : Int)), ())) <|
      .ok))
   (.leaf (mkR fEqualFunc_node.rs (true, ())) [] []))) (by kernel_rfl) ?_
  refine br_i (fun h1 => Fct.leafY ?_) (fun h1 => lpx_i ?_ fun (y2 : Int × PUnit) i2 => br_i (fun h3 => ob_i ?_ fun o4 => ob_i ?_ fun o5 => ob_i ?_ fun o6 => lt_i (br_i (fun h7 => Fct.leafY ?_) (fun h7 => ob_i rfl fun _ => ob_i rfl fun _ => ob_i rfl fun _ => ob_i rfl fun _ => ob_i rfl fun _ => ob_i ?_ fun o8 => trivial))) (fun h3 => Fct.leafY ?_))
  all_goals have hpl := hp.1
  all_goals have hpe := hp.2
  all_goals clear hp
  all_goals try simp only [fEqNode] at hpe
  all_goals try simp only [decide_eq_true_eq, decide_eq_false_iff_not, Bool.not_eq_true', Bool.not_eq_false', bne_iff_ne, bne_eq_false_iff_eq, beq_iff_eq, beq_eq_false_iff_ne, baEq, Int.not_lt, Int.not_le, ne_eq, Decidable.not_not] at *
  all_goals try simp only [W_slices_EqualFunc_impl_Node_impl_Node_impl_Node_impl_Node_fEqualFunc_node_4, fEqNode, fEqualFunc_node, baSz, List.size_toArray, List.length_cons, List.length_nil, Nat.reduceAdd, Int.toNat_zero, List.drop_zero, decide_eq_true_eq, decide_eq_false_iff_not, Bool.not_eq_true', Bool.not_eq_false', bne_iff_ne, bne_eq_false_iff_eq, beq_iff_eq, beq_eq_false_iff_ne, Bool.not_eq_true, Bool.not_eq_false, ne_eq, Decidable.not_not, baEq, decide_not, Prod.mk.injEq, and_true, true_and, Room, List.nil_append, Nat.zero_add, Int.not_lt, Int.not_le, fEqNode] at *
  all_goals try simp (disch := omega) only [wrapId', toNat1] at *
  all_goals try simp (disch := omega) only [if_pos, if_neg]
  all_goals first | trivial | omega | grind [wrapId', toNat1, drop_cons, drop_end, good_len, maxLen, fEqNode])
def E75 : D.Env := E74.add 209 fEqualFunc_node
theorem E75ok : EOk Try.prog E75 := E74ok.add k209_74
def fEqualFunc_token : Fct := ⟨[aL .token, aL .token, .c 180 []], [rB], fun x => x.1.length ≤ 1000000000000000000 ∧ ∀ i, i < x.1.length → i < x.2.1.length → fEqToken.pre (x.1.getD i default, x.2.1.getD i default, ()), fun x => (decide (x.1 = x.2.1), ())⟩
abbrev W_slices_EqualFunc_impl_Token_impl_Token_impl_Token_impl_Token_fEqualFunc_token_4 (l : (List SToken)) (m : (List SToken)) (u : (Unit)) : LInv := ⟨[⟨.s, 17, true, .el .int⟩], fun _ (x_ : Int × Unit) => 0 ≤ x_.1 ∧ x_.1 ≤ l.length ∧ l.length = m.length ∧ decide (l.drop x_.1.toNat = m.drop x_.1.toNat) = decide (l = m), fun (x_ : Int × Unit) => l.length - x_.1.toNat⟩
-- slices.EqualFunc[[]impl.Token,[]impl.Token,impl.Token,impl.Token]
theorem k179_75 : fEqualFunc_token.ok Try.prog 179 := Fct.of (S := fEqualFunc_token) (L := fun ⟨l, m, u, _⟩ => fun | 4 => some (W_slices_EqualFunc_impl_Token_impl_Token_impl_Token_impl_Token_fEqualFunc_token_4 l m u) | _ => none) (kp := [0,1,2,6,7,8,9,14,15,16,17,18,30]) E75ok Try.func179 (by kernel_rfl) (by kernel_rfl) (by
  rintro ⟨(l : List SToken), (m : List SToken), (u : PUnit), _⟩ hp
  refine holds_of (X := .br ((↑l.length : Int) != (↑m.length : Int))
 (.leaf (mkR fEqualFunc_token.rs (false, ())) [] [])
 (lpx (W_slices_EqualFunc_impl_Token_impl_Token_impl_Token_impl_Token_fEqualFunc_token_4 l m u) ((0 : Int), ()) fun (y2 : Int × PUnit) bk2 =>
  .br (decide (y2.fst < (↑l.length : Int)))
   (.ob ((0 : Int) ≤ y2.fst ∧ y2.fst < (↑l.length : Int)) <|
    .ob ((0 : Int) ≤ y2.fst ∧ y2.fst < (↑m.length : Int)) <|
    .ob (fEqToken.pre (l.getD y2.fst.toNat default, m.getD y2.fst.toNat default, ())) <|
    .lt (Bool × PUnit) (fEqToken.fn (l.getD y2.fst.toNat default, m.getD y2.fst.toNat default, ())) fun z2 =>
    .br (!z2.fst)
     (.leaf (mkR fEqualFunc_token.rs (false, ())) [] [])
     (.ob (l = l) <|
      .ob (m = m) <|
      .ob (Value.bool ((↑l.length : Int) != (↑m.length : Int)) = Value.bool ((↑l.length : Int) != (↑m.length : Int))) <|
      .ob (l = l) <|
      .ob (Value.int IntKind.i64 (↑l.length : Int) = Value.int IntKind.i64 (↑l.length : Int)) <|
      .ob (bk2 (IntKind.i64.wrap (y2.fst + (1 : Int)), ())) <|
      .ok))
   (.leaf (mkR fEqualFunc_token.rs (true, ())) [] []))) (by kernel_rfl) ?_
  refine br_i (fun h1 => Fct.leafY ?_) (fun h1 => lpx_i ?_ fun (y2 : Int × PUnit) i2 => br_i (fun h3 => ob_i ?_ fun o4 => ob_i ?_ fun o5 => ob_i ?_ fun o6 => lt_i (br_i (fun h7 => Fct.leafY ?_) (fun h7 => ob_i rfl fun _ => ob_i rfl fun _ => ob_i rfl fun _ => ob_i rfl fun _ => ob_i rfl fun _ => ob_i ?_ fun o8 => trivial))) (fun h3 => Fct.leafY ?_))
  all_goals have hpl := hp.1
  all_goals have hpe := hp.2
  all_goals clear hp
  all_goals try simp only [fEqToken] at hpe
  all_goals try simp only [decide_eq_true_eq, decide_eq_false_iff_not, Bool.not_eq_true', Bool.not_eq_false', bne_iff_ne, bne_eq_false_iff_eq, beq_iff_eq, beq_eq_false_iff_ne, baEq, Int.not_lt, Int.not_le, ne_eq, Decidable.not_not] at *
  all_goals try simp only [W_slices_EqualFunc_impl_Token_impl_Token_impl_Token_impl_Token_fEqualFunc_token_4, fEqToken, fEqualFunc_token, baSz, List.size_toArray, List.length_cons, List.length_nil, Nat.reduceAdd, Int.toNat_zero, List.drop_zero, decide_eq_true_eq, decide_eq_false_iff_not, Bool.not_eq_true', Bool.not_eq_false', bne_iff_ne, bne_eq_false_iff_eq, beq_iff_eq, beq_eq_false_iff_ne, Bool.not_eq_true, Bool.not_eq_false, ne_eq, Decidable.not_not, baEq, decide_not, Prod.mk.injEq, and_true, true_and, Room, List.nil_append, Nat.zero_add, Int.not_lt, Int.not_le, fEqToken] at *
  all_goals try simp (disch := omega) only [wrapId', toNat1] at *
  all_goals try simp (disch := omega) only [if_pos, if_neg]
  all_goals first | trivial | omega | grind [wrapId', toNat1, drop_cons, drop_end, good_len, maxLen, fEqToken])
def E76 : D.Env := E75.add 179 fEqualFunc_token
theorem E76ok : EOk Try.prog E76 := E75ok.add k179_75
def fEqBuilder : Fct := ⟨[.v (.el .builder), .v (.el .builder)], [.el .bool], fun (x_ : SBuilder × SBuilder × Unit) => szBuilder x_.1 ≤ 1099511627776, fun (x_ : SBuilder × SBuilder × Unit) => (decide (x_.1 = x_.2.1), ())⟩
theorem builderEq (a b : SBuilder) : decide (a = b) = (decide (a.nodes = b.nodes) && decide (a.open_ = b.open_)) := by cases a; cases b; simp
theorem szNode_get {l : List SNode} {i : Nat} (h : i < l.length) : (l.getD i default).attrs.length + l.length ≤ szL szNode l := by
  have := szL_get szNode h
  have h2 := szL_len szAttr (l.getD i default).attrs
  simp only [szNode] at this; omega
theorem szToken_get {l : List SToken} {i : Nat} (h : i < l.length) : (l.getD i default).attrs.length + l.length ≤ szL szToken l := by
  have := szL_get szToken h
  have h2 := szL_len szAttr (l.getD i default).attrs
  simp only [szToken] at this; omega
abbrev W_spec_EqualBuilders_fEqBuilder_4 (a : SBuilder) (b : SBuilder) : LInv := ⟨[⟨.s, 5, true, .el .int⟩, ⟨.b, 2, false, .el .builder⟩, ⟨.b, 3, false, .el .builder⟩], fun (z_ : Int × SBuilder × SBuilder × Unit) (x_ : Int × SBuilder × SBuilder × Unit) => ((0 ≤ x_.1 ∧ x_.1 ≤ a.nodes.length ∧ a.nodes.length = b.nodes.length ∧ a.open_ = b.open_ ∧ decide (a.nodes.drop x_.1.toNat = b.nodes.drop x_.1.toNat) = decide (a.nodes = b.nodes)) ∧ x_.2.1 = z_.2.1) ∧ x_.2.2.1 = z_.2.2.1, fun (x_ : Int × SBuilder × SBuilder × Unit) => a.nodes.length - x_.1.toNat⟩
-- spec.EqualBuilders
theorem k145_76 : fEqBuilder.ok Try.prog 145 := Fct.of (S := fEqBuilder) (L := fun ⟨a, b, _⟩ => fun | 4 => some (W_spec_EqualBuilders_fEqBuilder_4 a b) | _ => none) (kp := [0,1,2,3,4,5,20,25,39]) E76ok Try.func145 (by kernel_rfl) (by kernel_rfl) (by
  rintro ⟨(a : SBuilder), (b : SBuilder), _⟩ hp
  refine holds_of (X := .br ((↑a.nodes.length : Int) != (↑b.nodes.length : Int))
 (.leaf (mkR fEqBuilder.rs (false, ())) [] [])
 (.ob (fEqual_int.pre (a.open_, b.open_, ())) <|
  .lt (Bool × PUnit) (fEqual_int.fn (a.open_, b.open_, ())) fun z2 =>
  .br (!z2.fst)
   (.leaf (mkR fEqBuilder.rs (false, ())) [] [])
   (lpx (W_spec_EqualBuilders_fEqBuilder_4 a b) ((0 : Int), (a, (b, ()))) fun (y4 : Int × SBuilder × SBuilder × PUnit) bk4 =>
    .br (decide (y4.fst < (↑y4.snd.fst.nodes.length : Int)))
     (.ob ((0 : Int) ≤ y4.fst ∧ y4.fst < (↑y4.snd.fst.nodes.length : Int)) <|
      .ob ((0 : Int) ≤ y4.fst ∧ y4.fst < (↑y4.snd.snd.fst.nodes.length : Int)) <|
      .ob (fEqNode.pre (y4.snd.fst.nodes.getD y4.fst.toNat default, y4.snd.snd.fst.nodes.getD y4.fst.toNat default, ())) <|
      .lt (Bool × PUnit) (fEqNode.fn (y4.snd.fst.nodes.getD y4.fst.toNat default, y4.snd.snd.fst.nodes.getD y4.fst.toNat default, ())) fun z3 =>
      .br (!z3.fst)
       (.leaf (mkR fEqBuilder.rs (false, ())) [] [])
       (.ob (a.nodes = a.nodes) <|
        .ob (a.open_ = a.open_) <|
        .ob (b.nodes = b.nodes) <|
        .ob (b.open_ = b.open_) <|
        .ob ((Value.bool !z2.fst) = Value.bool !z2.fst) <|
        .ob (bk4 (IntKind.i64.wrap (y4.fst + (1 : Int)), (y4.snd.fst, (y4.snd.snd.fst, ())))) <|
        .ok))
     (.leaf (mkR fEqBuilder.rs (true, ())) [] [])))) (by kernel_rfl) ?_
  refine br_i (fun h1 => Fct.leafY ?_) (fun h1 => ob_i ?_ fun o2 => lt_i (br_i (fun h3 => Fct.leafY ?_) (fun h3 => lpx_i ?_ fun (y4 : Int × SBuilder × SBuilder × PUnit) i4 => br_i (fun h5 => ob_i ?_ fun o6 => ob_i ?_ fun o7 => ob_i ?_ fun o8 => lt_i (br_i (fun h9 => Fct.leafY ?_) (fun h9 => ob_i rfl fun _ => ob_i rfl fun _ => ob_i rfl fun _ => ob_i rfl fun _ => ob_i rfl fun _ => ob_i ?_ fun o10 => trivial))) (fun h5 => Fct.leafY ?_))))
  all_goals have hl := szL_len szNode a.nodes
  all_goals have hg : ∀ i, i < a.nodes.length → (a.nodes.getD i default).attrs.length ≤ szL szNode a.nodes := fun i h => by have := szNode_get h; omega
  all_goals simp only [fEqBuilder, szBuilder] at hp
  all_goals (cases a; cases b)
  all_goals try simp only [decide_eq_true_eq, decide_eq_false_iff_not, Bool.not_eq_true', Bool.not_eq_false', bne_iff_ne, bne_eq_false_iff_eq, beq_iff_eq, beq_eq_false_iff_ne, baEq, Int.not_lt, Int.not_le, ne_eq, Decidable.not_not] at *
  all_goals try simp only [W_spec_EqualBuilders_fEqBuilder_4, fEqBuilder, fEqNode, fEqual_int, baSz, List.size_toArray, List.length_cons, List.length_nil, Nat.reduceAdd, Int.toNat_zero, List.drop_zero, decide_eq_true_eq, decide_eq_false_iff_not, Bool.not_eq_true', Bool.not_eq_false', bne_iff_ne, bne_eq_false_iff_eq, beq_iff_eq, beq_eq_false_iff_ne, Bool.not_eq_true, Bool.not_eq_false, ne_eq, Decidable.not_not, baEq, decide_not, Prod.mk.injEq, and_true, true_and, Room, List.nil_append, Nat.zero_add, Int.not_lt, Int.not_le, fEqual_int, fEqNode] at *
  all_goals try simp (disch := omega) only [wrapId', toNat1] at *
  all_goals try simp (disch := omega) only [if_pos, if_neg]
  all_goals first | trivial | omega | grind [wrapId', toNat1, drop_cons, drop_end, good_len, maxLen, fEqual_int, fEqNode])
def E77 : D.Env := E76.add 145 fEqBuilder
theorem E77ok : EOk Try.prog E77 := E76ok.add k145_76
-- impl.EqualBuilders
theorem k181_77 : fEqBuilder.ok Try.prog 181 := Fct.of (S := fEqBuilder) (L := fun _ _ => none) (kp := [0,1,2,3,4]) E77ok Try.func181 (by kernel_rfl) (by kernel_rfl) (by
  rintro ⟨(a : SBuilder), (b : SBuilder), _⟩ hp
  refine holds_of (X := .ob (fEqualFunc_node.pre (a.nodes, b.nodes, (), ())) <|
 .lt (Bool × PUnit) (fEqualFunc_node.fn (a.nodes, b.nodes, (), ())) fun z2 =>
 .br (z2.fst)
  (.ob (fEqual_int.pre (a.open_, b.open_, ())) <|
   .lt (Bool × PUnit) (fEqual_int.fn (a.open_, b.open_, ())) fun z3 =>
   .leaf (mkR fEqBuilder.rs (z3.fst, ())) [] [])
  (.leaf (mkR fEqBuilder.rs (false, ())) [] [])) (by kernel_rfl) ?_
  refine ob_i ?_ fun o1 => lt_i (br_i (fun h2 => ob_i ?_ fun o3 => lt_i (Fct.leafY ?_)) (fun h2 => Fct.leafY ?_))
  all_goals have hl := szL_len szNode a.nodes
  all_goals have hg : ∀ i, i < a.nodes.length → (a.nodes.getD i default).attrs.length ≤ szL szNode a.nodes := fun i h => by have := szNode_get h; omega
  all_goals have hg2 : ∀ i, i < a.nodes.length → (a.nodes.getD i default).attrs.length ≤ 1000000000000000000 := fun i h => by have := hg i h; have hp2 : szBuilder a ≤ 1099511627776 := hp; simp only [szBuilder] at hp2; omega
  all_goals simp only [fEqBuilder, szBuilder] at hp
  all_goals (cases a; cases b)
  all_goals try simp only [decide_eq_true_eq, decide_eq_false_iff_not, Bool.not_eq_true', Bool.not_eq_false', bne_iff_ne, bne_eq_false_iff_eq, beq_iff_eq, beq_eq_false_iff_ne, baEq, Int.not_lt, Int.not_le, ne_eq, Decidable.not_not] at *
  all_goals try simp only [fEqBuilder, fEqualFunc_node, fEqual_int, baSz, List.size_toArray, List.length_cons, List.length_nil, Nat.reduceAdd, Int.toNat_zero, List.drop_zero, decide_eq_true_eq, decide_eq_false_iff_not, Bool.not_eq_true', Bool.not_eq_false', bne_iff_ne, bne_eq_false_iff_eq, beq_iff_eq, beq_eq_false_iff_ne, Bool.not_eq_true, Bool.not_eq_false, ne_eq, Decidable.not_not, baEq, decide_not, Prod.mk.injEq, and_true, true_and, Room, List.nil_append, Nat.zero_add, Int.not_lt, Int.not_le, fEqual_int, fEqNode, fEqualFunc_node] at *
  all_goals try simp (disch := omega) only [wrapId', toNat1] at *
  all_goals try simp (disch := omega) only [if_pos, if_neg]
  all_goals first | trivial | omega | grind [wrapId', toNat1, drop_cons, drop_end, good_len, maxLen, fEqual_int, fEqNode, fEqualFunc_node])
def E78 : D.Env := E77.add 181 fEqBuilder
theorem E78ok : EOk Try.prog E78 := E77ok.add k181_77
def fEqPolicy : Fct := ⟨[.v (.el .policy), .v (.el .policy)], [.el .bool], fun (x_ : SPolicy × SPolicy × Unit) => szPolicy x_.1 ≤ 1099511627776, fun (x_ : SPolicy × SPolicy × Unit) => (decide (x_.1 = x_.2.1), ())⟩
theorem policyEq (a b : SPolicy) : decide (a = b) = (decide (a.set_ = b.set_) && (decide (a.scripts = b.scripts) && (decide (a.styles = b.styles) && (decide (a.images = b.images) && decide (a.nonce = b.nonce))))) := by cases a; cases b; simp
-- spec.EqualPolicies
theorem k144_78 : fEqPolicy.ok Try.prog 144 := Fct.of (S := fEqPolicy) (L := fun _ _ => none) (kp := [0,1,2,3,4]) E78ok Try.func144 (by kernel_rfl) (by kernel_rfl) (by
  rintro ⟨(a : SPolicy), (b : SPolicy), _⟩ hp
  refine holds_of (X := .br (a.set_ == b.set_)
 (.ob (fEqual_str.pre (a.scripts, b.scripts, ())) <|
  .lt (Bool × PUnit) (fEqual_str.fn (a.scripts, b.scripts, ())) fun z2 =>
  .br (z2.fst)
   (.ob (fEqual_str.pre (a.styles, b.styles, ())) <|
    .lt (Bool × PUnit) (fEqual_str.fn (a.styles, b.styles, ())) fun z3 =>
    .br (z3.fst)
     (.ob (fEqual_str.pre (a.images, b.images, ())) <|
      .lt (Bool × PUnit) (fEqual_str.fn (a.images, b.images, ())) fun z4 =>
      .br (z4.fst)
       (.leaf (mkR fEqPolicy.rs (a.nonce.toList == b.nonce.toList, ())) [] [])
       (.leaf (mkR fEqPolicy.rs (false, ())) [] []))
     (.leaf (mkR fEqPolicy.rs (false, ())) [] []))
   (.leaf (mkR fEqPolicy.rs (false, ())) [] []))
 (.leaf (mkR fEqPolicy.rs (false, ())) [] [])) (by kernel_rfl) ?_
  refine br_i (fun h1 => ob_i ?_ fun o2 => lt_i (br_i (fun h3 => ob_i ?_ fun o4 => lt_i (br_i (fun h5 => ob_i ?_ fun o6 => lt_i (br_i (fun h7 => Fct.leafY ?_) (fun h7 => Fct.leafY ?_))) (fun h5 => Fct.leafY ?_))) (fun h3 => Fct.leafY ?_))) (fun h1 => Fct.leafY ?_)
  all_goals have hl1 := szL_len szString a.scripts
  all_goals have hl2 := szL_len szString a.styles
  all_goals have hl3 := szL_len szString a.images
  all_goals simp only [fEqPolicy, szPolicy] at hp
  all_goals (cases a; cases b)
  all_goals try simp only [decide_eq_true_eq, decide_eq_false_iff_not, Bool.not_eq_true', Bool.not_eq_false', bne_iff_ne, bne_eq_false_iff_eq, beq_iff_eq, beq_eq_false_iff_ne, baEq, Int.not_lt, Int.not_le, ne_eq, Decidable.not_not] at *
  all_goals try simp only [fEqPolicy, fEqual_str, baSz, List.size_toArray, List.length_cons, List.length_nil, Nat.reduceAdd, Int.toNat_zero, List.drop_zero, decide_eq_true_eq, decide_eq_false_iff_not, Bool.not_eq_true', Bool.not_eq_false', bne_iff_ne, bne_eq_false_iff_eq, beq_iff_eq, beq_eq_false_iff_ne, Bool.not_eq_true, Bool.not_eq_false, ne_eq, Decidable.not_not, baEq, decide_not, Prod.mk.injEq, and_true, true_and, Room, List.nil_append, Nat.zero_add, Int.not_lt, Int.not_le, fEqual_str] at *
  all_goals try simp (disch := omega) only [wrapId', toNat1] at *
  all_goals try simp (disch := omega) only [if_pos, if_neg]
  all_goals first | trivial | omega | grind [wrapId', toNat1, drop_cons, drop_end, good_len, maxLen, fEqual_str])
def E79 : D.Env := E78.add 144 fEqPolicy
theorem E79ok : EOk Try.prog E79 := E78ok.add k144_78
-- impl.EqualPolicies
theorem k178_79 : fEqPolicy.ok Try.prog 178 := Fct.of (S := fEqPolicy) (L := fun _ _ => none) (kp := [0,1,2,3,4]) E79ok Try.func178 (by kernel_rfl) (by kernel_rfl) (by
  rintro ⟨(a : SPolicy), (b : SPolicy), _⟩ hp
  refine holds_of (X := .br (a.set_ == b.set_)
 (.ob (fEqual_str.pre (a.scripts, b.scripts, ())) <|
  .lt (Bool × PUnit) (fEqual_str.fn (a.scripts, b.scripts, ())) fun z2 =>
  .br (z2.fst)
   (.ob (fEqual_str.pre (a.styles, b.styles, ())) <|
    .lt (Bool × PUnit) (fEqual_str.fn (a.styles, b.styles, ())) fun z3 =>
    .br (z3.fst)
     (.ob (fEqual_str.pre (a.images, b.images, ())) <|
      .lt (Bool × PUnit) (fEqual_str.fn (a.images, b.images, ())) fun z4 =>
      .br (z4.fst)
       (.leaf (mkR fEqPolicy.rs (a.nonce.toList == b.nonce.toList, ())) [] [])
       (.leaf (mkR fEqPolicy.rs (false, ())) [] []))
     (.leaf (mkR fEqPolicy.rs (false, ())) [] []))
   (.leaf (mkR fEqPolicy.rs (false, ())) [] []))
 (.leaf (mkR fEqPolicy.rs (false, ())) [] [])) (by kernel_rfl) ?_
  refine br_i (fun h1 => ob_i ?_ fun o2 => lt_i (br_i (fun h3 => ob_i ?_ fun o4 => lt_i (br_i (fun h5 => ob_i ?_ fun o6 => lt_i (br_i (fun h7 => Fct.leafY ?_) (fun h7 => Fct.leafY ?_))) (fun h5 => Fct.leafY ?_))) (fun h3 => Fct.leafY ?_))) (fun h1 => Fct.leafY ?_)
  all_goals have hl1 := szL_len szString a.scripts
  all_goals have hl2 := szL_len szString a.styles
  all_goals have hl3 := szL_len szString a.images
  all_goals simp only [fEqPolicy, szPolicy] at hp
  all_goals (cases a; cases b)
  all_goals try simp only [decide_eq_true_eq, decide_eq_false_iff_not, Bool.not_eq_true', Bool.not_eq_false', bne_iff_ne, bne_eq_false_iff_eq, beq_iff_eq, beq_eq_false_iff_ne, baEq, Int.not_lt, Int.not_le, ne_eq, Decidable.not_not] at *
  all_goals try simp only [fEqPolicy, fEqual_str, baSz, List.size_toArray, List.length_cons, List.length_nil, Nat.reduceAdd, Int.toNat_zero, List.drop_zero, decide_eq_true_eq, decide_eq_false_iff_not, Bool.not_eq_true', Bool.not_eq_false', bne_iff_ne, bne_eq_false_iff_eq, beq_iff_eq, beq_eq_false_iff_ne, Bool.not_eq_true, Bool.not_eq_false, ne_eq, Decidable.not_not, baEq, decide_not, Prod.mk.injEq, and_true, true_and, Room, List.nil_append, Nat.zero_add, Int.not_lt, Int.not_le, fEqual_str] at *
  all_goals try simp (disch := omega) only [wrapId', toNat1] at *
  all_goals try simp (disch := omega) only [if_pos, if_neg]
  all_goals first | trivial | omega | grind [wrapId', toNat1, drop_cons, drop_end, good_len, maxLen, fEqual_str])
def E80 : D.Env := E79.add 178 fEqPolicy
theorem E80ok : EOk Try.prog E80 := E79ok.add k178_79
def fmtAttrs : List SAttr → ByteArray → ByteArray
  | [], s => s
  | a :: l, s => fmtAttrs l (s ++ ⟨#[32]⟩ ++ a.name ++ ⟨#[61]⟩ ++ a.value)
def formatToken (t : SToken) : ByteArray := if t.kind = 1 then fmtAttrs t.attrs (⟨#[60]⟩ ++ t.name) ++ ⟨#[62]⟩ else if t.kind = 2 then ⟨#[60, 47]⟩ ++ t.name ++ ⟨#[62]⟩ else if t.kind = 3 then t.text else ⟨#[]⟩
theorem szAttr_get {l : List SAttr} {i : Nat} (h : i < l.length) : szL szAttr (l.drop i) = 1 + (l.getD i default).name.size + (l.getD i default).value.size + szL szAttr (l.drop (i + 1)) := by
  rw [drop_cons h]; simp only [szL, List.length_cons, List.map_cons, List.sum_cons, szAttr]; omega
def fFormatToken : Fct := ⟨[.v (.el .token)], [.el .str], fun (x_ : SToken × Unit) => szToken x_.1 ≤ 1099511627776, fun (x_ : SToken × Unit) => (formatToken x_.1, ())⟩
abbrev W_spec_FormatToken_fFormatToken_5 (t : SToken) : LInv := ⟨[⟨.s, 3, true, .el .str⟩, ⟨.s, 4, true, .el .int⟩, ⟨.b, 1, false, .el .token⟩], fun (z_ : ByteArray × Int × SToken × Unit) (x_ : ByteArray × Int × SToken × Unit) => (0 ≤ x_.2.1 ∧ x_.2.1 ≤ t.attrs.length ∧ x_.1.size + 2 * szL szAttr (t.attrs.drop x_.2.1.toNat) ≤ 1 + t.name.size + 2 * szL szAttr t.attrs ∧ fmtAttrs (t.attrs.drop x_.2.1.toNat) x_.1 = fmtAttrs t.attrs (⟨#[60]⟩ ++ t.name)) ∧ x_.2.2.1 = z_.2.2.1, fun (x_ : ByteArray × Int × SToken × Unit) => t.attrs.length - x_.2.1.toNat⟩
-- spec.FormatToken
theorem k177_80 : fFormatToken.ok Try.prog 177 := Fct.of (S := fFormatToken) (L := fun ⟨t, _⟩ => fun | 5 => some (W_spec_FormatToken_fFormatToken_5 t) | _ => none) (kp := [0,1,2,3,4,6,7,16,38,44]) E80ok Try.func177 (by kernel_rfl) (by kernel_rfl) (by
  rintro ⟨(t : SToken), _⟩ hp
  refine holds_of (X := .br (t.kind == (1 : Int))
 (.ob (sameSize { data := #[(60 : UInt8)] : ByteArray } t.name) <|
  lpx (W_spec_FormatToken_fFormatToken_5 t) ({ data := #[(60 : UInt8)] : ByteArray } ++ t.name, ((0 : Int), (t, ()))) fun (y3 : ByteArray × Int × SToken × PUnit) bk3 =>
  .br (decide (y3.snd.fst < (↑y3.snd.snd.fst.attrs.length : Int)))
   (.ob (sameSize y3.fst { data := #[(32 : UInt8)] : ByteArray }) <|
    .ob ((0 : Int) ≤ y3.snd.fst ∧ y3.snd.fst < (↑y3.snd.snd.fst.attrs.length : Int)) <|
    .ob (sameSize (y3.fst ++ { data := #[(32 : UInt8)] : ByteArray }) (y3.snd.snd.fst.attrs.getD y3.snd.fst.toNat default).name) <|
    .ob (sameSize
  (y3.fst ++ { data := #[(32 : UInt8)] : ByteArray } ++ (y3.snd.snd.fst.attrs.getD y3.snd.fst.toNat default).name)
  { data := #[(61 : UInt8)] : ByteArray }) <|
    .ob ((0 : Int) ≤ y3.snd.fst ∧ y3.snd.fst < (↑y3.snd.snd.fst.attrs.length : Int)) <|
    .ob (sameSize
  (y3.fst ++ { data := #[(32 : UInt8)] : ByteArray } ++ (y3.snd.snd.fst.attrs.getD y3.snd.fst.toNat default).name ++
    { data := #[(61 : UInt8)] : ByteArray })
  (y3.snd.snd.fst.attrs.getD y3.snd.fst.toNat default).value) <|
    .ob (Value.int IntKind.i64 t.kind = Value.int IntKind.i64 t.kind) <|
    .ob (Value.string t.name = Value.string t.name) <|
    .ob (t.attrs = t.attrs) <|
    .ob (Value.string t.text = Value.string t.text) <|
    .ob (Value.string { data := #[] : ByteArray } = Value.string { data := #[] : ByteArray }) <|
    .ob (Value.int IntKind.i64 t.kind = Value.int IntKind.i64 t.kind) <|
    .ob (Value.bool (t.kind == (1 : Int)) = Value.bool (t.kind == (1 : Int))) <|
    .ob (bk3 (y3.fst ++ { data := #[(32 : UInt8)] : ByteArray } ++ (y3.snd.snd.fst.attrs.getD y3.snd.fst.toNat default).name ++
    { data := #[(61 : UInt8)] : ByteArray } ++
  (y3.snd.snd.fst.attrs.getD y3.snd.fst.toNat default).value, (IntKind.i64.wrap (y3.snd.fst + (1 : Int)), (y3.snd.snd.fst, ())))) <|
    .ok)
   (.ob (sameSize y3.fst { data := #[(62 : UInt8)] : ByteArray }) <|
    .leaf (mkR fFormatToken.rs (y3.fst ++ { data := #[(62 : UInt8)] : ByteArray }, ())) [] []))
 (.br (t.kind == (2 : Int))
  (.ob (sameSize { data := #[(60 : UInt8), (47 : UInt8)] : ByteArray } t.name) <|
   .ob (sameSize ({ data := #[(60 : UInt8), (47 : UInt8)] : ByteArray } ++ t.name) { data := #[(62 : UInt8)] : ByteArray }) <|
   .leaf (mkR fFormatToken.rs ({ data := #[(60 : UInt8), (47 : UInt8)] : ByteArray } ++ t.name ++ { data := #[(62 : UInt8)] : ByteArray }, ())) [] [])
  (.br (t.kind == (3 : Int))
   (.leaf (mkR fFormatToken.rs (t.text, ())) [] [])
   (.leaf (mkR fFormatToken.rs ({ data := #[] : ByteArray }, ())) [] [])))) (by kernel_rfl) ?_
  refine br_i (fun h1 => ob_i ?_ fun o2 => lpx_i ?_ fun (y3 : ByteArray × Int × SToken × PUnit) i3 => br_i (fun h4 => ob_i ?_ fun o5 => ob_i ?_ fun o6 => ob_i ?_ fun o7 => ob_i ?_ fun o8 => ob_i ?_ fun o9 => ob_i ?_ fun o10 => ob_i rfl fun _ => ob_i rfl fun _ => ob_i rfl fun _ => ob_i rfl fun _ => ob_i rfl fun _ => ob_i rfl fun _ => ob_i rfl fun _ => ob_i ?_ fun o11 => trivial) (fun h4 => ob_i ?_ fun o12 => Fct.leafY ?_)) (fun h1 => br_i (fun h13 => ob_i ?_ fun o14 => ob_i ?_ fun o15 => Fct.leafY ?_) (fun h13 => br_i (fun h16 => Fct.leafY ?_) (fun h16 => Fct.leafY ?_)))
  all_goals have hl := szL_len szAttr t.attrs
  all_goals try simp only [decide_eq_true_eq, decide_eq_false_iff_not, Bool.not_eq_true', Bool.not_eq_false', bne_iff_ne, bne_eq_false_iff_eq, beq_iff_eq, beq_eq_false_iff_ne, baEq, Int.not_lt, Int.not_le, ne_eq, Decidable.not_not] at *
  all_goals try simp only [W_spec_FormatToken_fFormatToken_5, fFormatToken, baSz, List.size_toArray, List.length_cons, List.length_nil, Nat.reduceAdd, Int.toNat_zero, List.drop_zero, decide_eq_true_eq, decide_eq_false_iff_not, Bool.not_eq_true', Bool.not_eq_false', bne_iff_ne, bne_eq_false_iff_eq, beq_iff_eq, beq_eq_false_iff_ne, Bool.not_eq_true, Bool.not_eq_false, ne_eq, Decidable.not_not, baEq, decide_not, Prod.mk.injEq, and_true, true_and, Room, List.nil_append, Nat.zero_add, Int.not_lt, Int.not_le, formatToken, fmtAttrs, szToken, szAttr_get, ByteArray.size_append, sameSize] at *
  all_goals try simp (disch := omega) only [wrapId', toNat1] at *
  all_goals try simp (disch := omega) only [if_pos, if_neg]
  all_goals first | trivial | omega | grind [wrapId', toNat1, drop_cons, drop_end, good_len, maxLen, formatToken, fmtAttrs, szToken, szAttr_get, ByteArray.size_append, sameSize])
def E81 : D.Env := E80.add 177 fFormatToken
theorem E81ok : EOk Try.prog E81 := E80ok.add k177_80
def fEqTokens : Fct := ⟨[.v (.sl .token), .v (.sl .token)], [.el .bool], fun (x_ : (List SToken) × (List SToken) × Unit) => szL szToken x_.1 ≤ 1099511627776 ∧ szL szToken x_.2.1 ≤ 1099511627776, fun (x_ : (List SToken) × (List SToken) × Unit) => (decide (x_.1 = x_.2.1), ())⟩
def fEqLists : Fct := ⟨[.v (.el .page), .v (.el .page)], [.el .bool], fun (x_ : SPage × SPage × Unit) => x_.1.slots.length ≤ 2000000000000 ∧ x_.1.mods.length ≤ 2000000000000, fun (x_ : SPage × SPage × Unit) => (decide (x_.1.slots = x_.2.1.slots) && decide (x_.1.mods = x_.2.1.mods), ())⟩
abbrev W_spec_l15Lists_fEqLists_4 (a : SPage) (b : SPage) : LInv := ⟨[⟨.s, 5, true, .el .int⟩, ⟨.b, 2, false, .el .page⟩, ⟨.b, 3, false, .el .page⟩], fun (z_ : Int × SPage × SPage × Unit) (x_ : Int × SPage × SPage × Unit) => ((0 ≤ x_.1 ∧ x_.1 ≤ a.slots.length ∧ a.slots.length = b.slots.length ∧ a.mods.length = b.mods.length ∧ decide (a.slots.drop x_.1.toNat = b.slots.drop x_.1.toNat) = decide (a.slots = b.slots)) ∧ x_.2.1 = z_.2.1) ∧ x_.2.2.1 = z_.2.2.1, fun (x_ : Int × SPage × SPage × Unit) => a.slots.length - x_.1.toNat⟩
abbrev W_spec_l15Lists_fEqLists_9 (a : SPage) (b : SPage) : LInv := ⟨[⟨.s, 6, true, .el .int⟩, ⟨.b, 2, false, .el .page⟩, ⟨.b, 3, false, .el .page⟩], fun (z_ : Int × SPage × SPage × Unit) (x_ : Int × SPage × SPage × Unit) => ((0 ≤ x_.1 ∧ x_.1 ≤ a.mods.length ∧ a.slots = b.slots ∧ a.mods.length = b.mods.length ∧ decide (a.mods.drop x_.1.toNat = b.mods.drop x_.1.toNat) = decide (a.mods = b.mods)) ∧ x_.2.1 = z_.2.1) ∧ x_.2.2.1 = z_.2.2.1, fun (x_ : Int × SPage × SPage × Unit) => a.mods.length - x_.1.toNat⟩
-- spec.l15Lists
theorem k147_81 : fEqLists.ok Try.prog 147 := Fct.of (S := fEqLists) (L := fun ⟨a, b, _⟩ => fun | 4 => some (W_spec_l15Lists_fEqLists_4 a b) | 9 => some (W_spec_l15Lists_fEqLists_9 a b) | _ => none) (kp := [0,1,2,3,4,5,6,22,27,40,45,58]) E81ok Try.func147 (by kernel_rfl) (by kernel_rfl) (by
  rintro ⟨(a : SPage), (b : SPage), _⟩ hp
  refine holds_of (X := .br ((↑a.slots.length : Int) != (↑b.slots.length : Int))
 (.leaf (mkR fEqLists.rs (false, ())) [] [])
 (.br ((↑a.mods.length : Int) != (↑b.mods.length : Int))
  (.leaf (mkR fEqLists.rs (false, ())) [] [])
  (lpx (W_spec_l15Lists_fEqLists_4 a b) ((0 : Int), (a, (b, ()))) fun (y3 : Int × SPage × SPage × PUnit) bk3 =>
   .br (decide (y3.fst < (↑y3.snd.fst.slots.length : Int)))
    (.ob ((0 : Int) ≤ y3.fst ∧ y3.fst < (↑y3.snd.fst.slots.length : Int)) <|
     .ob ((0 : Int) ≤ y3.fst ∧ y3.fst < (↑y3.snd.snd.fst.slots.length : Int)) <|
     .br (!((y3.snd.fst.slots.getD y3.fst.toNat default).mode == (y3.snd.snd.fst.slots.getD y3.fst.toNat default).mode &&
    ((y3.snd.fst.slots.getD y3.fst.toNat default).to.host == (y3.snd.snd.fst.slots.getD y3.fst.toNat default).to.host &&
        ((y3.snd.fst.slots.getD y3.fst.toNat default).to.path ==
            (y3.snd.snd.fst.slots.getD y3.fst.toNat default).to.path &&
          true) &&
      ((y3.snd.fst.slots.getD y3.fst.toNat default).digest == (y3.snd.snd.fst.slots.getD y3.fst.toNat default).digest &&
        ((y3.snd.fst.slots.getD y3.fst.toNat default).node == (y3.snd.snd.fst.slots.getD y3.fst.toNat default).node &&
          ((y3.snd.fst.slots.getD y3.fst.toNat default).done == (y3.snd.snd.fst.slots.getD y3.fst.toNat default).done &&
            ((y3.snd.fst.slots.getD y3.fst.toNat default).code ==
                (y3.snd.snd.fst.slots.getD y3.fst.toNat default).code &&
              ((y3.snd.fst.slots.getD y3.fst.toNat default).body ==
                  (y3.snd.snd.fst.slots.getD y3.fst.toNat default).body &&
                true))))))))
     (.leaf (mkR fEqLists.rs (false, ())) [] [])
     (.ob (Value.string a.addr.host = Value.string a.addr.host) <|
      .ob (Value.string a.addr.path = Value.string a.addr.path) <|
      .ob (Value.bool a.policy.set_ = Value.bool a.policy.set_) <|
      .ob (a.policy.scripts = a.policy.scripts) <|
      .ob (a.policy.styles = a.policy.styles) <|
      .ob (a.policy.images = a.policy.images) <|
      .ob (Value.string a.policy.nonce = Value.string a.policy.nonce) <|
      .ob (Value.string a.tok.rest = Value.string a.tok.rest) <|
      .ob (a.queue = a.queue) <|
      .ob (Value.bool a.ended = Value.bool a.ended) <|
      .ob (a.builder.nodes = a.builder.nodes) <|
      .ob (a.builder.open_ = a.builder.open_) <|
      .ob (a.slots = a.slots) <|
      .ob (a.mods = a.mods) <|
      .ob (a.entries = a.entries) <|
      .ob (Value.int IntKind.i64 a.block = Value.int IntKind.i64 a.block) <|
      .ob (Value.int IntKind.i64 a.inline = Value.int IntKind.i64 a.inline) <|
      .ob (Value.int IntKind.i64 a.deferred = Value.int IntKind.i64 a.deferred) <|
      .ob (Value.int IntKind.i64 a.entered = Value.int IntKind.i64 a.entered) <|
      .ob (a.ran = a.ran) <|
      .ob (a.log = a.log) <|
      .ob (Value.bool a.loaded = Value.bool a.loaded) <|
      .ob (Value.string b.addr.host = Value.string b.addr.host) <|
      .ob (Value.string b.addr.path = Value.string b.addr.path) <|
      .ob (Value.bool b.policy.set_ = Value.bool b.policy.set_) <|
      .ob (b.policy.scripts = b.policy.scripts) <|
      .ob (b.policy.styles = b.policy.styles) <|
      .ob (b.policy.images = b.policy.images) <|
      .ob (Value.string b.policy.nonce = Value.string b.policy.nonce) <|
      .ob (Value.string b.tok.rest = Value.string b.tok.rest) <|
      .ob (b.queue = b.queue) <|
      .ob (Value.bool b.ended = Value.bool b.ended) <|
      .ob (b.builder.nodes = b.builder.nodes) <|
      .ob (b.builder.open_ = b.builder.open_) <|
      .ob (b.slots = b.slots) <|
      .ob (b.mods = b.mods) <|
      .ob (b.entries = b.entries) <|
      .ob (Value.int IntKind.i64 b.block = Value.int IntKind.i64 b.block) <|
      .ob (Value.int IntKind.i64 b.inline = Value.int IntKind.i64 b.inline) <|
      .ob (Value.int IntKind.i64 b.deferred = Value.int IntKind.i64 b.deferred) <|
      .ob (Value.int IntKind.i64 b.entered = Value.int IntKind.i64 b.entered) <|
      .ob (b.ran = b.ran) <|
      .ob (b.log = b.log) <|
      .ob (Value.bool b.loaded = Value.bool b.loaded) <|
      .ob (Value.bool ((↑a.mods.length : Int) != (↑b.mods.length : Int)) =
  Value.bool ((↑a.mods.length : Int) != (↑b.mods.length : Int))) <|
      .ob (bk3 (IntKind.i64.wrap (y3.fst + (1 : Int)), (y3.snd.fst, (y3.snd.snd.fst, ())))) <|
      .ok))
    (lpx (W_spec_l15Lists_fEqLists_9 a b) ((0 : Int), (y3.snd.fst, (y3.snd.snd.fst, ()))) fun (y9 : Int × SPage × SPage × PUnit) bk9 =>
     .br (decide (y9.fst < (↑y9.snd.fst.mods.length : Int)))
      (.ob ((0 : Int) ≤ y9.fst ∧ y9.fst < (↑y9.snd.fst.mods.length : Int)) <|
       .ob ((0 : Int) ≤ y9.fst ∧ y9.fst < (↑y9.snd.snd.fst.mods.length : Int)) <|
       .br (!((y9.snd.fst.mods.getD y9.fst.toNat default).to.host == (y9.snd.snd.fst.mods.getD y9.fst.toNat default).to.host &&
      ((y9.snd.fst.mods.getD y9.fst.toNat default).to.path == (y9.snd.snd.fst.mods.getD y9.fst.toNat default).to.path &&
        true) &&
    ((y9.snd.fst.mods.getD y9.fst.toNat default).done == (y9.snd.snd.fst.mods.getD y9.fst.toNat default).done &&
      ((y9.snd.fst.mods.getD y9.fst.toNat default).code == (y9.snd.snd.fst.mods.getD y9.fst.toNat default).code &&
        ((y9.snd.fst.mods.getD y9.fst.toNat default).body == (y9.snd.snd.fst.mods.getD y9.fst.toNat default).body &&
          true)))))
       (.leaf (mkR fEqLists.rs (false, ())) [] [])
       (.ob (Value.int IntKind.i64 y3.fst = Value.int IntKind.i64 y3.fst) <|
        .ob (Value.string a.addr.host = Value.string a.addr.host) <|
        .ob (Value.string a.addr.path = Value.string a.addr.path) <|
        .ob (Value.bool a.policy.set_ = Value.bool a.policy.set_) <|
        .ob (a.policy.scripts = a.policy.scripts) <|
        .ob (a.policy.styles = a.policy.styles) <|
        .ob (a.policy.images = a.policy.images) <|
        .ob (Value.string a.policy.nonce = Value.string a.policy.nonce) <|
        .ob (Value.string a.tok.rest = Value.string a.tok.rest) <|
        .ob (a.queue = a.queue) <|
        .ob (Value.bool a.ended = Value.bool a.ended) <|
        .ob (a.builder.nodes = a.builder.nodes) <|
        .ob (a.builder.open_ = a.builder.open_) <|
        .ob (a.slots = a.slots) <|
        .ob (a.mods = a.mods) <|
        .ob (a.entries = a.entries) <|
        .ob (Value.int IntKind.i64 a.block = Value.int IntKind.i64 a.block) <|
        .ob (Value.int IntKind.i64 a.inline = Value.int IntKind.i64 a.inline) <|
        .ob (Value.int IntKind.i64 a.deferred = Value.int IntKind.i64 a.deferred) <|
        .ob (Value.int IntKind.i64 a.entered = Value.int IntKind.i64 a.entered) <|
        .ob (a.ran = a.ran) <|
        .ob (a.log = a.log) <|
        .ob (Value.bool a.loaded = Value.bool a.loaded) <|
        .ob (Value.string b.addr.host = Value.string b.addr.host) <|
        .ob (Value.string b.addr.path = Value.string b.addr.path) <|
        .ob (Value.bool b.policy.set_ = Value.bool b.policy.set_) <|
        .ob (b.policy.scripts = b.policy.scripts) <|
        .ob (b.policy.styles = b.policy.styles) <|
        .ob (b.policy.images = b.policy.images) <|
        .ob (Value.string b.policy.nonce = Value.string b.policy.nonce) <|
        .ob (Value.string b.tok.rest = Value.string b.tok.rest) <|
        .ob (b.queue = b.queue) <|
        .ob (Value.bool b.ended = Value.bool b.ended) <|
        .ob (b.builder.nodes = b.builder.nodes) <|
        .ob (b.builder.open_ = b.builder.open_) <|
        .ob (b.slots = b.slots) <|
        .ob (b.mods = b.mods) <|
        .ob (b.entries = b.entries) <|
        .ob (Value.int IntKind.i64 b.block = Value.int IntKind.i64 b.block) <|
        .ob (Value.int IntKind.i64 b.inline = Value.int IntKind.i64 b.inline) <|
        .ob (Value.int IntKind.i64 b.deferred = Value.int IntKind.i64 b.deferred) <|
        .ob (Value.int IntKind.i64 b.entered = Value.int IntKind.i64 b.entered) <|
        .ob (b.ran = b.ran) <|
        .ob (b.log = b.log) <|
        .ob (Value.bool b.loaded = Value.bool b.loaded) <|
        .ob (Value.bool ((↑a.mods.length : Int) != (↑b.mods.length : Int)) =
  Value.bool ((↑a.mods.length : Int) != (↑b.mods.length : Int))) <|
        .ob (Value.bool (decide (y3.fst < (↑y3.snd.fst.slots.length : Int))) =
  Value.bool (decide (y3.fst < (↑y3.snd.fst.slots.length : Int)))) <|
        .ob (bk9 (IntKind.i64.wrap (y9.fst + (1 : Int)), (y9.snd.fst, (y9.snd.snd.fst, ())))) <|
        .ok))
      (.leaf (mkR fEqLists.rs (true, ())) [] []))))) (by kernel_rfl) ?_
  refine br_i (fun h1 => Fct.leafY ?_) (fun h1 => br_i (fun h2 => Fct.leafY ?_) (fun h2 => lpx_i ?_ fun (y3 : Int × SPage × SPage × PUnit) i3 => br_i (fun h4 => ob_i ?_ fun o5 => ob_i ?_ fun o6 => br_i (fun h7 => Fct.leafY ?_) (fun h7 => ob_i rfl fun _ => ob_i rfl fun _ => ob_i rfl fun _ => ob_i rfl fun _ => ob_i rfl fun _ => ob_i rfl fun _ => ob_i rfl fun _ => ob_i rfl fun _ => ob_i rfl fun _ => ob_i rfl fun _ => ob_i rfl fun _ => ob_i rfl fun _ => ob_i rfl fun _ => ob_i rfl fun _ => ob_i rfl fun _ => ob_i rfl fun _ => ob_i rfl fun _ => ob_i rfl fun _ => ob_i rfl fun _ => ob_i rfl fun _ => ob_i rfl fun _ => ob_i rfl fun _ => ob_i rfl fun _ => ob_i rfl fun _ => ob_i rfl fun _ => ob_i rfl fun _ => ob_i rfl fun _ => ob_i rfl fun _ => ob_i rfl fun _ => ob_i rfl fun _ => ob_i rfl fun _ => ob_i rfl fun _ => ob_i rfl fun _ => ob_i rfl fun _ => ob_i rfl fun _ => ob_i rfl fun _ => ob_i rfl fun _ => ob_i rfl fun _ => ob_i rfl fun _ => ob_i rfl fun _ => ob_i rfl fun _ => ob_i rfl fun _ => ob_i rfl fun _ => ob_i rfl fun _ => ob_i rfl fun _ => ob_i ?_ fun o8 => trivial)) (fun h4 => lpx_i ?_ fun (y9 : Int × SPage × SPage × PUnit) i9 => br_i (fun h10 => ob_i ?_ fun o11 => ob_i ?_ fun o12 => br_i (fun h13 => Fct.leafY ?_) (fun h13 => ob_i rfl fun _ => ob_i rfl fun _ => ob_i rfl fun _ => ob_i rfl fun _ => ob_i rfl fun _ => ob_i rfl fun _ => ob_i rfl fun _ => ob_i rfl fun _ => ob_i rfl fun _ => ob_i rfl fun _ => ob_i rfl fun _ => ob_i rfl fun _ => ob_i rfl fun _ => ob_i rfl fun _ => ob_i rfl fun _ => ob_i rfl fun _ => ob_i rfl fun _ => ob_i rfl fun _ => ob_i rfl fun _ => ob_i rfl fun _ => ob_i rfl fun _ => ob_i rfl fun _ => ob_i rfl fun _ => ob_i rfl fun _ => ob_i rfl fun _ => ob_i rfl fun _ => ob_i rfl fun _ => ob_i rfl fun _ => ob_i rfl fun _ => ob_i rfl fun _ => ob_i rfl fun _ => ob_i rfl fun _ => ob_i rfl fun _ => ob_i rfl fun _ => ob_i rfl fun _ => ob_i rfl fun _ => ob_i rfl fun _ => ob_i rfl fun _ => ob_i rfl fun _ => ob_i rfl fun _ => ob_i rfl fun _ => ob_i rfl fun _ => ob_i rfl fun _ => ob_i rfl fun _ => ob_i rfl fun _ => ob_i rfl fun _ => ob_i rfl fun _ => ob_i ?_ fun o14 => trivial)) (fun h10 => Fct.leafY ?_))))
  all_goals try simp only [beqSlot, beqModule] at *
  all_goals try simp only [decide_eq_true_eq, decide_eq_false_iff_not, Bool.not_eq_true', Bool.not_eq_false', bne_iff_ne, bne_eq_false_iff_eq, beq_iff_eq, beq_eq_false_iff_ne, baEq, Int.not_lt, Int.not_le, ne_eq, Decidable.not_not] at *
  all_goals try simp only [W_spec_l15Lists_fEqLists_4, W_spec_l15Lists_fEqLists_9, fEqLists, baSz, List.size_toArray, List.length_cons, List.length_nil, Nat.reduceAdd, Int.toNat_zero, List.drop_zero, decide_eq_true_eq, decide_eq_false_iff_not, Bool.not_eq_true', Bool.not_eq_false', bne_iff_ne, bne_eq_false_iff_eq, beq_iff_eq, beq_eq_false_iff_ne, Bool.not_eq_true, Bool.not_eq_false, ne_eq, Decidable.not_not, baEq, decide_not, Prod.mk.injEq, and_true, true_and, Room, List.nil_append, Nat.zero_add, Int.not_lt, Int.not_le] at *
  all_goals try simp (disch := omega) only [wrapId', toNat1] at *
  all_goals try simp (disch := omega) only [if_pos, if_neg]
  all_goals first | trivial | omega | grind [wrapId', toNat1, drop_cons, drop_end, good_len, maxLen])
def E82 : D.Env := E81.add 147 fEqLists
theorem E82ok : EOk Try.prog E82 := E81ok.add k147_81
abbrev W_spec_l15SameTokens_fEqTokens_4 (l : (List SToken)) (m : (List SToken)) : LInv := ⟨[⟨.s, 5, true, .el .int⟩], fun _ (x_ : Int × Unit) => 0 ≤ x_.1 ∧ x_.1 ≤ l.length ∧ l.length = m.length ∧ decide (l.drop x_.1.toNat = m.drop x_.1.toNat) = decide (l = m), fun (x_ : Int × Unit) => l.length - x_.1.toNat⟩
abbrev W_spec_l15SameTokens_fEqTokens_9 (l : (List SToken)) (m : (List SToken)) : LInv := ⟨[⟨.s, 6, true, .el .int⟩, ⟨.s, 5, true, .el .int⟩], fun (z_ : Int × Int × Unit) (x_ : Int × Int × Unit) => x_.2.1 = z_.2.1 ∧ 0 ≤ x_.2.1 ∧ x_.2.1 < l.length ∧ l.length = m.length ∧ decide (l.drop x_.2.1.toNat = m.drop x_.2.1.toNat) = decide (l = m) ∧ 0 ≤ x_.1 ∧ x_.1 ≤ (l.getD x_.2.1.toNat default).attrs.length ∧ (l.getD x_.2.1.toNat default).kind = (m.getD x_.2.1.toNat default).kind ∧ (l.getD x_.2.1.toNat default).name = (m.getD x_.2.1.toNat default).name ∧ (l.getD x_.2.1.toNat default).text = (m.getD x_.2.1.toNat default).text ∧ (l.getD x_.2.1.toNat default).attrs.length = (m.getD x_.2.1.toNat default).attrs.length ∧ decide ((l.getD x_.2.1.toNat default).attrs.drop x_.1.toNat = (m.getD x_.2.1.toNat default).attrs.drop x_.1.toNat) = decide ((l.getD x_.2.1.toNat default).attrs = (m.getD x_.2.1.toNat default).attrs), fun (x_ : Int × Int × Unit) => (l.getD x_.2.1.toNat default).attrs.length - x_.1.toNat⟩
-- spec.l15SameTokens
theorem k146_82 : fEqTokens.ok Try.prog 146 := Fct.of (S := fEqTokens) (L := fun ⟨l, m, _⟩ => fun | 4 => some (W_spec_l15SameTokens_fEqTokens_4 l m) | 9 => some (W_spec_l15SameTokens_fEqTokens_9 l m) | _ => none) (kp := [0,1,4,5,6,11,15,82,90,109]) E82ok Try.func146 (by kernel_rfl) (by kernel_rfl) (by
  rintro ⟨(l : List SToken), (m : List SToken), _⟩ hp
  refine holds_of (X := .br ((↑l.length : Int) != (↑m.length : Int))
 (.leaf (mkR fEqTokens.rs (false, ())) [] [])
 (lpx (W_spec_l15SameTokens_fEqTokens_4 l m) ((0 : Int), ()) fun (y2 : Int × PUnit) bk2 =>
  .br (decide (y2.fst < (↑l.length : Int)))
   (.ob ((0 : Int) ≤ y2.fst ∧ y2.fst < (↑l.length : Int)) <|
    .ob ((0 : Int) ≤ y2.fst ∧ y2.fst < (↑m.length : Int)) <|
    .br ((l.getD y2.fst.toNat default).kind != (m.getD y2.fst.toNat default).kind)
    (.leaf (mkR fEqTokens.rs (false, ())) [] [])
    (.ob ((0 : Int) ≤ y2.fst ∧ y2.fst < (↑l.length : Int)) <|
     .ob (fFormatToken.pre (l.getD y2.fst.toNat default, ())) <|
     .lt (ByteArray × PUnit) (fFormatToken.fn (l.getD y2.fst.toNat default, ())) fun z2 =>
     .ob ((0 : Int) ≤ y2.fst ∧ y2.fst < (↑m.length : Int)) <|
      .ob (fFormatToken.pre (m.getD y2.fst.toNat default, ())) <|
      .lt (ByteArray × PUnit) (fFormatToken.fn (m.getD y2.fst.toNat default, ())) fun z3 =>
      .br (!z2.fst.toList == z3.fst.toList)
       (.leaf (mkR fEqTokens.rs (false, ())) [] [])
       (.ob ((0 : Int) ≤ y2.fst ∧ y2.fst < (↑l.length : Int)) <|
        .ob ((0 : Int) ≤ y2.fst ∧ y2.fst < (↑m.length : Int)) <|
        .br (!(l.getD y2.fst.toNat default).name.toList == (m.getD y2.fst.toNat default).name.toList)
        (.leaf (mkR fEqTokens.rs (false, ())) [] [])
        (.ob ((0 : Int) ≤ y2.fst ∧ y2.fst < (↑l.length : Int)) <|
         .ob ((0 : Int) ≤ y2.fst ∧ y2.fst < (↑m.length : Int)) <|
         .br (!(l.getD y2.fst.toNat default).text.toList == (m.getD y2.fst.toNat default).text.toList)
         (.leaf (mkR fEqTokens.rs (false, ())) [] [])
         (.ob ((0 : Int) ≤ y2.fst ∧ y2.fst < (↑l.length : Int)) <|
          .ob ((0 : Int) ≤ y2.fst ∧ y2.fst < (↑m.length : Int)) <|
          .br ((↑(l.getD y2.fst.toNat default).attrs.length : Int) != (↑(m.getD y2.fst.toNat default).attrs.length : Int))
          (.leaf (mkR fEqTokens.rs (false, ())) [] [])
          (lpx (W_spec_l15SameTokens_fEqTokens_9 l m) ((0 : Int), (y2.fst, ())) fun (y21 : Int × Int × PUnit) bk21 =>
           .ob ((0 : Int) ≤ y21.snd.fst ∧ y21.snd.fst < (↑l.length : Int)) <|
            .br (decide (y21.fst < (↑(l.getD y21.snd.fst.toNat default).attrs.length : Int)))
            (.ob ((0 : Int) ≤ y21.snd.fst ∧ y21.snd.fst < (↑l.length : Int)) <|
             .ob ((0 : Int) ≤ y21.fst ∧ y21.fst < (↑(l.getD y21.snd.fst.toNat default).attrs.length : Int)) <|
             .ob ((0 : Int) ≤ y21.snd.fst ∧ y21.snd.fst < (↑m.length : Int)) <|
             .ob ((0 : Int) ≤ y21.fst ∧ y21.fst < (↑(m.getD y21.snd.fst.toNat default).attrs.length : Int)) <|
             .br (!(((l.getD y21.snd.fst.toNat default).attrs.getD y21.fst.toNat default).name ==
      ((m.getD y21.snd.fst.toNat default).attrs.getD y21.fst.toNat default).name &&
    (((l.getD y21.snd.fst.toNat default).attrs.getD y21.fst.toNat default).value ==
        ((m.getD y21.snd.fst.toNat default).attrs.getD y21.fst.toNat default).value &&
      true)))
             (.leaf (mkR fEqTokens.rs (false, ())) [] [])
             (.ob (l = l) <|
              .ob (m = m) <|
              .ob (Value.bool ((↑l.length : Int) != (↑m.length : Int)) = Value.bool ((↑l.length : Int) != (↑m.length : Int))) <|
              .ob (Value.bool (decide (y2.fst < (↑l.length : Int))) = Value.bool (decide (y2.fst < (↑l.length : Int)))) <|
              .ob (Value.bool
    ((↑(l.getD y2.fst.toNat default).attrs.length : Int) != (↑(m.getD y2.fst.toNat default).attrs.length : Int)) =
  Value.bool
    ((↑(l.getD y2.fst.toNat default).attrs.length : Int) != (↑(m.getD y2.fst.toNat default).attrs.length : Int))) <|
              .ob (bk21 (IntKind.i64.wrap (y21.fst + (1 : Int)), (y21.snd.fst, ()))) <|
              .ok))
            (.ob (l = l) <|
             .ob (m = m) <|
             .ob (Value.bool ((↑l.length : Int) != (↑m.length : Int)) = Value.bool ((↑l.length : Int) != (↑m.length : Int))) <|
             .ob (bk2 (IntKind.i64.wrap (y21.snd.fst + (1 : Int)), ())) <|
             .ok)))))))
   (.leaf (mkR fEqTokens.rs (true, ())) [] []))) (by kernel_rfl) ?_
  refine br_i (fun h1 => Fct.leafY ?_) (fun h1 => lpx_i ?_ fun (y2 : Int × PUnit) i2 => br_i (fun h3 => ob_i ?_ fun o4 => ob_i ?_ fun o5 => br_i (fun h6 => Fct.leafY ?_) (fun h6 => ob_i ?_ fun o7 => ob_i ?_ fun o8 => lt_i (ob_i ?_ fun o9 => ob_i ?_ fun o10 => lt_i (br_i (fun h11 => Fct.leafY ?_) (fun h11 => ob_i ?_ fun o12 => ob_i ?_ fun o13 => br_i (fun h14 => Fct.leafY ?_) (fun h14 => ob_i ?_ fun o15 => ob_i ?_ fun o16 => br_i (fun h17 => Fct.leafY ?_) (fun h17 => ob_i ?_ fun o18 => ob_i ?_ fun o19 => br_i (fun h20 => Fct.leafY ?_) (fun h20 => lpx_i ?_ fun (y21 : Int × Int × PUnit) i21 => ob_i ?_ fun o22 => br_i (fun h23 => ob_i ?_ fun o24 => ob_i ?_ fun o25 => ob_i ?_ fun o26 => ob_i ?_ fun o27 => br_i (fun h28 => Fct.leafY ?_) (fun h28 => ob_i rfl fun _ => ob_i rfl fun _ => ob_i rfl fun _ => ob_i rfl fun _ => ob_i rfl fun _ => ob_i ?_ fun o29 => trivial)) (fun h23 => ob_i rfl fun _ => ob_i rfl fun _ => ob_i rfl fun _ => ob_i ?_ fun o30 => trivial))))))))) (fun h3 => Fct.leafY ?_))
  all_goals try simp only [beqAttr] at *
  all_goals have hl := szL_len szToken l
  all_goals have hg : ∀ i, i < l.length → szToken (l.getD i default) ≤ 1099511627776 := fun i h => by have := szL_get szToken h; have hp2 : szL szToken l ≤ 1099511627776 := hp.1; omega
  all_goals have hg2 : ∀ i, i < m.length → szToken (m.getD i default) ≤ 1099511627776 := fun i h => by have := szL_get szToken h; have hp2 : szL szToken m ≤ 1099511627776 := hp.2; omega
  all_goals have hg3 : ∀ i, i < l.length → (l.getD i default).attrs.length ≤ 1099511627776 := fun i h => by have := szToken_get h; have hp2 : szL szToken l ≤ 1099511627776 := hp.1; omega
  all_goals have he : ∀ x y : SToken, x.kind = y.kind → x.name = y.name → x.text = y.text → x.attrs = y.attrs → x = y := fun x y h1 h2 h3 h4 => by cases x; cases y; simp_all
  all_goals try simp only [decide_eq_true_eq, decide_eq_false_iff_not, Bool.not_eq_true', Bool.not_eq_false', bne_iff_ne, bne_eq_false_iff_eq, beq_iff_eq, beq_eq_false_iff_ne, baEq, Int.not_lt, Int.not_le, ne_eq, Decidable.not_not] at *
  all_goals try simp only [W_spec_l15SameTokens_fEqTokens_4, W_spec_l15SameTokens_fEqTokens_9, fEqTokens, fFormatToken, baSz, List.size_toArray, List.length_cons, List.length_nil, Nat.reduceAdd, Int.toNat_zero, List.drop_zero, decide_eq_true_eq, decide_eq_false_iff_not, Bool.not_eq_true', Bool.not_eq_false', bne_iff_ne, bne_eq_false_iff_eq, beq_iff_eq, beq_eq_false_iff_ne, Bool.not_eq_true, Bool.not_eq_false, ne_eq, Decidable.not_not, baEq, decide_not, Prod.mk.injEq, and_true, true_and, Room, List.nil_append, Nat.zero_add, Int.not_lt, Int.not_le, fFormatToken] at *
  all_goals try simp (disch := omega) only [wrapId', toNat1] at *
  all_goals try simp (disch := omega) only [if_pos, if_neg]
  all_goals first | trivial | omega | grind [wrapId', toNat1, drop_cons, drop_end, good_len, maxLen, fFormatToken])
def E83 : D.Env := E82.add 146 fEqTokens
theorem E83ok : EOk Try.prog E83 := E82ok.add k146_82
def fEqual_slot : Fct := ⟨[.v (.sl .slot), .v (.sl .slot)], [.el .bool], fun (x_ : (List SSlot) × (List SSlot) × Unit) => x_.1.length ≤ 1000000000000000000, fun (x_ : (List SSlot) × (List SSlot) × Unit) => (decide (x_.1 = x_.2.1), ())⟩
abbrev W_slices_Equal_impl_Slot_impl_Slot_fEqual_slot_4 (l : (List SSlot)) (m : (List SSlot)) : LInv := ⟨[⟨.s, 13, true, .el .int⟩], fun _ (x_ : Int × Unit) => 0 ≤ x_.1 ∧ x_.1 ≤ l.length ∧ l.length = m.length ∧ decide (l.drop x_.1.toNat = m.drop x_.1.toNat) = decide (l = m), fun (x_ : Int × Unit) => l.length - x_.1.toNat⟩
-- slices.Equal[[]impl.Slot,impl.Slot]
theorem k182_83 : fEqual_slot.ok Try.prog 182 := Fct.of (S := fEqual_slot) (L := fun ⟨l, m, _⟩ => fun | 4 => some (W_slices_Equal_impl_Slot_impl_Slot_fEqual_slot_4 l m) | _ => none) (kp := [0,1,4,5,10,12,13,14,24]) E83ok Try.func182 (by kernel_rfl) (by kernel_rfl) (by
  rintro ⟨(l : List SSlot), (m : List SSlot), _⟩ hp
  refine holds_of (X := .br ((↑l.length : Int) != (↑m.length : Int))
 (.leaf (mkR fEqual_slot.rs (false, ())) [] [])
 (lpx (W_slices_Equal_impl_Slot_impl_Slot_fEqual_slot_4 l m) ((0 : Int), ()) fun (y2 : Int × PUnit) bk2 =>
  .br (decide (y2.fst < (↑l.length : Int)))
   (.ob ((0 : Int) ≤ y2.fst ∧ y2.fst < (↑l.length : Int)) <|
    .ob ((0 : Int) ≤ y2.fst ∧ y2.fst < (↑m.length : Int)) <|
    .br (!((l.getD y2.fst.toNat default).mode == (m.getD y2.fst.toNat default).mode &&
    ((l.getD y2.fst.toNat default).to.host == (m.getD y2.fst.toNat default).to.host &&
        ((l.getD y2.fst.toNat default).to.path == (m.getD y2.fst.toNat default).to.path && true) &&
      ((l.getD y2.fst.toNat default).digest == (m.getD y2.fst.toNat default).digest &&
        ((l.getD y2.fst.toNat default).node == (m.getD y2.fst.toNat default).node &&
          ((l.getD y2.fst.toNat default).done == (m.getD y2.fst.toNat default).done &&
            ((l.getD y2.fst.toNat default).code == (m.getD y2.fst.toNat default).code &&
              ((l.getD y2.fst.toNat default).body == (m.getD y2.fst.toNat default).body && true))))))))
    (.leaf (mkR fEqual_slot.rs (false, ())) [] [])
    (.ob (l = l) <|
     .ob (m = m) <|
     .ob (Value.bool ((↑l.length : Int) != (↑m.length : Int)) = Value.bool ((↑l.length : Int) != (↑m.length : Int))) <|
     .ob (Value.int IntKind.i64 (↑l.length : Int) = Value.int IntKind.i64 (↑l.length : Int)) <|
     .ob (bk2 (IntKind.i64.wrap (y2.fst + (1 : Int)), ())) <|
     .ok))
   (.leaf (mkR fEqual_slot.rs (true, ())) [] []))) (by kernel_rfl) ?_
  refine br_i (fun h1 => Fct.leafY ?_) (fun h1 => lpx_i ?_ fun (y2 : Int × PUnit) i2 => br_i (fun h3 => ob_i ?_ fun o4 => ob_i ?_ fun o5 => br_i (fun h6 => Fct.leafY ?_) (fun h6 => ob_i rfl fun _ => ob_i rfl fun _ => ob_i rfl fun _ => ob_i rfl fun _ => ob_i ?_ fun o7 => trivial)) (fun h3 => Fct.leafY ?_))
  all_goals try simp only [beqSlot] at *
  all_goals try simp only [decide_eq_true_eq, decide_eq_false_iff_not, Bool.not_eq_true', Bool.not_eq_false', bne_iff_ne, bne_eq_false_iff_eq, beq_iff_eq, beq_eq_false_iff_ne, baEq, Int.not_lt, Int.not_le, ne_eq, Decidable.not_not] at *
  all_goals try simp only [W_slices_Equal_impl_Slot_impl_Slot_fEqual_slot_4, fEqual_slot, baSz, List.size_toArray, List.length_cons, List.length_nil, Nat.reduceAdd, Int.toNat_zero, List.drop_zero, decide_eq_true_eq, decide_eq_false_iff_not, Bool.not_eq_true', Bool.not_eq_false', bne_iff_ne, bne_eq_false_iff_eq, beq_iff_eq, beq_eq_false_iff_ne, Bool.not_eq_true, Bool.not_eq_false, ne_eq, Decidable.not_not, baEq, decide_not, Prod.mk.injEq, and_true, true_and, Room, List.nil_append, Nat.zero_add, Int.not_lt, Int.not_le] at *
  all_goals try simp (disch := omega) only [wrapId', toNat1] at *
  all_goals try simp (disch := omega) only [if_pos, if_neg]
  all_goals first | trivial | omega | grind [wrapId', toNat1, drop_cons, drop_end, good_len, maxLen])
def E84 : D.Env := E83.add 182 fEqual_slot
theorem E84ok : EOk Try.prog E84 := E83ok.add k182_83
def fEqual_module : Fct := ⟨[.v (.sl .module), .v (.sl .module)], [.el .bool], fun (x_ : (List SModule) × (List SModule) × Unit) => x_.1.length ≤ 1000000000000000000, fun (x_ : (List SModule) × (List SModule) × Unit) => (decide (x_.1 = x_.2.1), ())⟩
abbrev W_slices_Equal_impl_Module_impl_Module_fEqual_module_4 (l : (List SModule)) (m : (List SModule)) : LInv := ⟨[⟨.s, 13, true, .el .int⟩], fun _ (x_ : Int × Unit) => 0 ≤ x_.1 ∧ x_.1 ≤ l.length ∧ l.length = m.length ∧ decide (l.drop x_.1.toNat = m.drop x_.1.toNat) = decide (l = m), fun (x_ : Int × Unit) => l.length - x_.1.toNat⟩
-- slices.Equal[[]impl.Module,impl.Module]
theorem k183_84 : fEqual_module.ok Try.prog 183 := Fct.of (S := fEqual_module) (L := fun ⟨l, m, _⟩ => fun | 4 => some (W_slices_Equal_impl_Module_impl_Module_fEqual_module_4 l m) | _ => none) (kp := [0,1,4,5,10,12,13,14,24]) E84ok Try.func183 (by kernel_rfl) (by kernel_rfl) (by
  rintro ⟨(l : List SModule), (m : List SModule), _⟩ hp
  refine holds_of (X := .br ((↑l.length : Int) != (↑m.length : Int))
 (.leaf (mkR fEqual_module.rs (false, ())) [] [])
 (lpx (W_slices_Equal_impl_Module_impl_Module_fEqual_module_4 l m) ((0 : Int), ()) fun (y2 : Int × PUnit) bk2 =>
  .br (decide (y2.fst < (↑l.length : Int)))
   (.ob ((0 : Int) ≤ y2.fst ∧ y2.fst < (↑l.length : Int)) <|
    .ob ((0 : Int) ≤ y2.fst ∧ y2.fst < (↑m.length : Int)) <|
    .br (!((l.getD y2.fst.toNat default).to.host == (m.getD y2.fst.toNat default).to.host &&
      ((l.getD y2.fst.toNat default).to.path == (m.getD y2.fst.toNat default).to.path && true) &&
    ((l.getD y2.fst.toNat default).done == (m.getD y2.fst.toNat default).done &&
      ((l.getD y2.fst.toNat default).code == (m.getD y2.fst.toNat default).code &&
        ((l.getD y2.fst.toNat default).body == (m.getD y2.fst.toNat default).body && true)))))
    (.leaf (mkR fEqual_module.rs (false, ())) [] [])
    (.ob (l = l) <|
     .ob (m = m) <|
     .ob (Value.bool ((↑l.length : Int) != (↑m.length : Int)) = Value.bool ((↑l.length : Int) != (↑m.length : Int))) <|
     .ob (Value.int IntKind.i64 (↑l.length : Int) = Value.int IntKind.i64 (↑l.length : Int)) <|
     .ob (bk2 (IntKind.i64.wrap (y2.fst + (1 : Int)), ())) <|
     .ok))
   (.leaf (mkR fEqual_module.rs (true, ())) [] []))) (by kernel_rfl) ?_
  refine br_i (fun h1 => Fct.leafY ?_) (fun h1 => lpx_i ?_ fun (y2 : Int × PUnit) i2 => br_i (fun h3 => ob_i ?_ fun o4 => ob_i ?_ fun o5 => br_i (fun h6 => Fct.leafY ?_) (fun h6 => ob_i rfl fun _ => ob_i rfl fun _ => ob_i rfl fun _ => ob_i rfl fun _ => ob_i ?_ fun o7 => trivial)) (fun h3 => Fct.leafY ?_))
  all_goals try simp only [beqModule] at *
  all_goals try simp only [decide_eq_true_eq, decide_eq_false_iff_not, Bool.not_eq_true', Bool.not_eq_false', bne_iff_ne, bne_eq_false_iff_eq, beq_iff_eq, beq_eq_false_iff_ne, baEq, Int.not_lt, Int.not_le, ne_eq, Decidable.not_not] at *
  all_goals try simp only [W_slices_Equal_impl_Module_impl_Module_fEqual_module_4, fEqual_module, baSz, List.size_toArray, List.length_cons, List.length_nil, Nat.reduceAdd, Int.toNat_zero, List.drop_zero, decide_eq_true_eq, decide_eq_false_iff_not, Bool.not_eq_true', Bool.not_eq_false', bne_iff_ne, bne_eq_false_iff_eq, beq_iff_eq, beq_eq_false_iff_ne, Bool.not_eq_true, Bool.not_eq_false, ne_eq, Decidable.not_not, baEq, decide_not, Prod.mk.injEq, and_true, true_and, Room, List.nil_append, Nat.zero_add, Int.not_lt, Int.not_le] at *
  all_goals try simp (disch := omega) only [wrapId', toNat1] at *
  all_goals try simp (disch := omega) only [if_pos, if_neg]
  all_goals first | trivial | omega | grind [wrapId', toNat1, drop_cons, drop_end, good_len, maxLen])
def E85 : D.Env := E84.add 183 fEqual_module
theorem E85ok : EOk Try.prog E85 := E84ok.add k183_84
def fEqPage : Fct := ⟨[.v (.el .page), .v (.el .page)], [.el .bool], fun (x_ : SPage × SPage × Unit) => szPage x_.1 ≤ 1099511627776 ∧ szPage x_.2.1 ≤ 1099511627776, fun (x_ : SPage × SPage × Unit) => (decide (x_.1 = x_.2.1), ())⟩
-- spec.EqualPages
theorem k94_85 : fEqPage.ok Try.prog 94 := Fct.of (S := fEqPage) (L := fun _ _ => none) (kp := [0,1,2,3,4,58]) E85ok Try.func94 (by kernel_rfl) (by kernel_rfl) (by
  rintro ⟨(a : SPage), (b : SPage), _⟩ hp
  refine holds_of (X := .br (!(a.addr.host == b.addr.host && (a.addr.path == b.addr.path && true)))
 (.leaf (mkR fEqPage.rs (false, ())) [] [])
 (.br (!(a.tok.rest == b.tok.rest && true))
  (.leaf (mkR fEqPage.rs (false, ())) [] [])
  (.br (!a.ended == b.ended)
   (.leaf (mkR fEqPage.rs (false, ())) [] [])
   (.br (a.block != b.block)
    (.leaf (mkR fEqPage.rs (false, ())) [] [])
    (.br (a.inline != b.inline)
     (.leaf (mkR fEqPage.rs (false, ())) [] [])
     (.br (a.deferred != b.deferred)
      (.leaf (mkR fEqPage.rs (false, ())) [] [])
      (.br (a.entered != b.entered)
       (.leaf (mkR fEqPage.rs (false, ())) [] [])
       (.br (!a.loaded == b.loaded)
        (.leaf (mkR fEqPage.rs (false, ())) [] [])
        (.ob (fEqPolicy.pre (a.policy, b.policy, ())) <|
         .lt (Bool × PUnit) (fEqPolicy.fn (a.policy, b.policy, ())) fun z2 =>
         .br (z2.fst)
          (.ob (fEqBuilder.pre (a.builder, b.builder, ())) <|
           .lt (Bool × PUnit) (fEqBuilder.fn (a.builder, b.builder, ())) fun z3 =>
           .br (z3.fst)
            (.ob (fEqTokens.pre (a.queue, b.queue, ())) <|
             .lt (Bool × PUnit) (fEqTokens.fn (a.queue, b.queue, ())) fun z4 =>
             .br (z4.fst)
              (.ob (fEqLists.pre (a, b, ())) <|
               .lt (Bool × PUnit) (fEqLists.fn (a, b, ())) fun z5 =>
               .br (z5.fst)
                (.ob (fEqual_addr.pre (a.entries, b.entries, ())) <|
                 .lt (Bool × PUnit) (fEqual_addr.fn (a.entries, b.entries, ())) fun z6 =>
                 .br (z6.fst)
                  (.ob (fEqual_addr.pre (a.ran, b.ran, ())) <|
                   .lt (Bool × PUnit) (fEqual_addr.fn (a.ran, b.ran, ())) fun z7 =>
                   .br (z7.fst)
                    (.ob (fEqual_str.pre (a.log, b.log, ())) <|
                     .lt (Bool × PUnit) (fEqual_str.fn (a.log, b.log, ())) fun z8 =>
                     .leaf (mkR fEqPage.rs (z8.fst, ())) [] [])
                    (.leaf (mkR fEqPage.rs (false, ())) [] []))
                  (.leaf (mkR fEqPage.rs (false, ())) [] []))
                (.leaf (mkR fEqPage.rs (false, ())) [] []))
              (.leaf (mkR fEqPage.rs (false, ())) [] []))
            (.leaf (mkR fEqPage.rs (false, ())) [] []))
          (.leaf (mkR fEqPage.rs (false, ())) [] [])))))))))) (by kernel_rfl) ?_
  refine br_i (fun h1 => Fct.leafY ?_) (fun h1 => br_i (fun h2 => Fct.leafY ?_) (fun h2 => br_i (fun h3 => Fct.leafY ?_) (fun h3 => br_i (fun h4 => Fct.leafY ?_) (fun h4 => br_i (fun h5 => Fct.leafY ?_) (fun h5 => br_i (fun h6 => Fct.leafY ?_) (fun h6 => br_i (fun h7 => Fct.leafY ?_) (fun h7 => br_i (fun h8 => Fct.leafY ?_) (fun h8 => ob_i ?_ fun o9 => lt_i (br_i (fun h10 => ob_i ?_ fun o11 => lt_i (br_i (fun h12 => ob_i ?_ fun o13 => lt_i (br_i (fun h14 => ob_i ?_ fun o15 => lt_i (br_i (fun h16 => ob_i ?_ fun o17 => lt_i (br_i (fun h18 => ob_i ?_ fun o19 => lt_i (br_i (fun h20 => ob_i ?_ fun o21 => lt_i (Fct.leafY ?_)) (fun h20 => Fct.leafY ?_))) (fun h18 => Fct.leafY ?_))) (fun h16 => Fct.leafY ?_))) (fun h14 => Fct.leafY ?_))) (fun h12 => Fct.leafY ?_))) (fun h10 => Fct.leafY ?_))))))))))
  all_goals have hl1 := szL_len szSlot a.slots
  all_goals have hl2 := szL_len szModule a.mods
  all_goals have hl3 := szL_len szAddr a.entries
  all_goals have hl4 := szL_len szAddr a.ran
  all_goals have hl5 := szL_len szString a.log
  all_goals have hl6 := szL_len szToken a.queue
  all_goals have hg : ∀ i, i < a.queue.length → (a.queue.getD i default).attrs.length ≤ szL szToken a.queue := fun i h => by have := szToken_get h; omega
  all_goals have hg2 : ∀ i, i < a.queue.length → (a.queue.getD i default).attrs.length ≤ 1000000000000000000 := fun i h => by have := hg i h; have hp2 : szPage a ≤ 1099511627776 := hp.1; simp only [szPage] at hp2; omega
  all_goals simp only [fEqPage, szPage] at hp
  all_goals try simp only [beqAddr, beqTokenizer] at *
  all_goals (cases a; cases b)
  all_goals try simp only [decide_eq_true_eq, decide_eq_false_iff_not, Bool.not_eq_true', Bool.not_eq_false', bne_iff_ne, bne_eq_false_iff_eq, beq_iff_eq, beq_eq_false_iff_ne, baEq, Int.not_lt, Int.not_le, ne_eq, Decidable.not_not] at *
  all_goals try simp only [fEqBuilder, fEqLists, fEqPage, fEqPolicy, fEqTokens, fEqual_addr, fEqual_str, baSz, List.size_toArray, List.length_cons, List.length_nil, Nat.reduceAdd, Int.toNat_zero, List.drop_zero, decide_eq_true_eq, decide_eq_false_iff_not, Bool.not_eq_true', Bool.not_eq_false', bne_iff_ne, bne_eq_false_iff_eq, beq_iff_eq, beq_eq_false_iff_ne, Bool.not_eq_true, Bool.not_eq_false, ne_eq, Decidable.not_not, baEq, decide_not, Prod.mk.injEq, and_true, true_and, Room, List.nil_append, Nat.zero_add, Int.not_lt, Int.not_le, fEqual_str, fEqual_addr, fEqual_slot, fEqual_module, fEqTokens, fEqLists, fEqPolicy, fEqBuilder, fEqualFunc_token, fEqToken] at *
  all_goals try simp (disch := omega) only [wrapId', toNat1] at *
  all_goals try simp (disch := omega) only [if_pos, if_neg]
  all_goals first | trivial | omega | grind [wrapId', toNat1, drop_cons, drop_end, good_len, maxLen, fEqual_str, fEqual_addr, fEqual_slot, fEqual_module, fEqTokens, fEqLists, fEqPolicy, fEqBuilder, fEqualFunc_token, fEqToken])
def E86 : D.Env := E85.add 94 fEqPage
theorem E86ok : EOk Try.prog E86 := E85ok.add k94_85
-- impl.EqualPages
theorem k150_86 : fEqPage.ok Try.prog 150 := Fct.of (S := fEqPage) (L := fun _ _ => none) (kp := [0,1,2,3,4]) E86ok Try.func150 (by kernel_rfl) (by kernel_rfl) (by
  rintro ⟨(a : SPage), (b : SPage), _⟩ hp
  refine holds_of (X := .br (a.addr.host == b.addr.host && (a.addr.path == b.addr.path && true))
 (.ob (fEqPolicy.pre (a.policy, b.policy, ())) <|
  .lt (Bool × PUnit) (fEqPolicy.fn (a.policy, b.policy, ())) fun z2 =>
  .br (z2.fst)
   (.br (a.tok.rest == b.tok.rest && true)
    (.ob (fEqualFunc_token.pre (a.queue, b.queue, (), ())) <|
     .lt (Bool × PUnit) (fEqualFunc_token.fn (a.queue, b.queue, (), ())) fun z3 =>
     .br (z3.fst)
      (.br (a.ended == b.ended)
       (.ob (fEqBuilder.pre (a.builder, b.builder, ())) <|
        .lt (Bool × PUnit) (fEqBuilder.fn (a.builder, b.builder, ())) fun z4 =>
        .br (z4.fst)
         (.ob (fEqual_slot.pre (a.slots, b.slots, ())) <|
          .lt (Bool × PUnit) (fEqual_slot.fn (a.slots, b.slots, ())) fun z5 =>
          .br (z5.fst)
           (.ob (fEqual_module.pre (a.mods, b.mods, ())) <|
            .lt (Bool × PUnit) (fEqual_module.fn (a.mods, b.mods, ())) fun z6 =>
            .br (z6.fst)
             (.ob (fEqual_addr.pre (a.entries, b.entries, ())) <|
              .lt (Bool × PUnit) (fEqual_addr.fn (a.entries, b.entries, ())) fun z7 =>
              .br (z7.fst)
               (.br (a.block == b.block)
                (.br (a.inline == b.inline)
                 (.br (a.deferred == b.deferred)
                  (.br (a.entered == b.entered)
                   (.ob (fEqual_addr.pre (a.ran, b.ran, ())) <|
                    .lt (Bool × PUnit) (fEqual_addr.fn (a.ran, b.ran, ())) fun z8 =>
                    .br (z8.fst)
                     (.ob (fEqual_str.pre (a.log, b.log, ())) <|
                      .lt (Bool × PUnit) (fEqual_str.fn (a.log, b.log, ())) fun z9 =>
                      .br (z9.fst)
                       (.leaf (mkR fEqPage.rs (a.loaded == b.loaded, ())) [] [])
                       (.leaf (mkR fEqPage.rs (false, ())) [] []))
                     (.leaf (mkR fEqPage.rs (false, ())) [] []))
                   (.leaf (mkR fEqPage.rs (false, ())) [] []))
                  (.leaf (mkR fEqPage.rs (false, ())) [] []))
                 (.leaf (mkR fEqPage.rs (false, ())) [] []))
                (.leaf (mkR fEqPage.rs (false, ())) [] []))
               (.leaf (mkR fEqPage.rs (false, ())) [] []))
             (.leaf (mkR fEqPage.rs (false, ())) [] []))
           (.leaf (mkR fEqPage.rs (false, ())) [] []))
         (.leaf (mkR fEqPage.rs (false, ())) [] []))
       (.leaf (mkR fEqPage.rs (false, ())) [] []))
      (.leaf (mkR fEqPage.rs (false, ())) [] []))
    (.leaf (mkR fEqPage.rs (false, ())) [] []))
   (.leaf (mkR fEqPage.rs (false, ())) [] []))
 (.leaf (mkR fEqPage.rs (false, ())) [] [])) (by kernel_rfl) ?_
  refine br_i (fun h1 => ob_i ?_ fun o2 => lt_i (br_i (fun h3 => br_i (fun h4 => ob_i ?_ fun o5 => lt_i (br_i (fun h6 => br_i (fun h7 => ob_i ?_ fun o8 => lt_i (br_i (fun h9 => ob_i ?_ fun o10 => lt_i (br_i (fun h11 => ob_i ?_ fun o12 => lt_i (br_i (fun h13 => ob_i ?_ fun o14 => lt_i (br_i (fun h15 => br_i (fun h16 => br_i (fun h17 => br_i (fun h18 => br_i (fun h19 => ob_i ?_ fun o20 => lt_i (br_i (fun h21 => ob_i ?_ fun o22 => lt_i (br_i (fun h23 => Fct.leafY ?_) (fun h23 => Fct.leafY ?_))) (fun h21 => Fct.leafY ?_))) (fun h19 => Fct.leafY ?_)) (fun h18 => Fct.leafY ?_)) (fun h17 => Fct.leafY ?_)) (fun h16 => Fct.leafY ?_)) (fun h15 => Fct.leafY ?_))) (fun h13 => Fct.leafY ?_))) (fun h11 => Fct.leafY ?_))) (fun h9 => Fct.leafY ?_))) (fun h7 => Fct.leafY ?_)) (fun h6 => Fct.leafY ?_))) (fun h4 => Fct.leafY ?_)) (fun h3 => Fct.leafY ?_))) (fun h1 => Fct.leafY ?_)
  all_goals have hl1 := szL_len szSlot a.slots
  all_goals have hl2 := szL_len szModule a.mods
  all_goals have hl3 := szL_len szAddr a.entries
  all_goals have hl4 := szL_len szAddr a.ran
  all_goals have hl5 := szL_len szString a.log
  all_goals have hl6 := szL_len szToken a.queue
  all_goals have hg : ∀ i, i < a.queue.length → (a.queue.getD i default).attrs.length ≤ szL szToken a.queue := fun i h => by have := szToken_get h; omega
  all_goals have hg2 : ∀ i, i < a.queue.length → (a.queue.getD i default).attrs.length ≤ 1000000000000000000 := fun i h => by have := hg i h; have hp2 : szPage a ≤ 1099511627776 := hp.1; simp only [szPage] at hp2; omega
  all_goals simp only [fEqPage, szPage] at hp
  all_goals try simp only [beqAddr, beqTokenizer] at *
  all_goals (cases a; cases b)
  all_goals try simp only [decide_eq_true_eq, decide_eq_false_iff_not, Bool.not_eq_true', Bool.not_eq_false', bne_iff_ne, bne_eq_false_iff_eq, beq_iff_eq, beq_eq_false_iff_ne, baEq, Int.not_lt, Int.not_le, ne_eq, Decidable.not_not] at *
  all_goals try simp only [fEqBuilder, fEqPage, fEqPolicy, fEqualFunc_token, fEqual_addr, fEqual_module, fEqual_slot, fEqual_str, baSz, List.size_toArray, List.length_cons, List.length_nil, Nat.reduceAdd, Int.toNat_zero, List.drop_zero, decide_eq_true_eq, decide_eq_false_iff_not, Bool.not_eq_true', Bool.not_eq_false', bne_iff_ne, bne_eq_false_iff_eq, beq_iff_eq, beq_eq_false_iff_ne, Bool.not_eq_true, Bool.not_eq_false, ne_eq, Decidable.not_not, baEq, decide_not, Prod.mk.injEq, and_true, true_and, Room, List.nil_append, Nat.zero_add, Int.not_lt, Int.not_le, fEqual_str, fEqual_addr, fEqual_slot, fEqual_module, fEqTokens, fEqLists, fEqPolicy, fEqBuilder, fEqualFunc_token, fEqToken] at *
  all_goals try simp (disch := omega) only [wrapId', toNat1] at *
  all_goals try simp (disch := omega) only [if_pos, if_neg]
  all_goals first | trivial | omega | grind [wrapId', toNat1, drop_cons, drop_end, good_len, maxLen, fEqual_str, fEqual_addr, fEqual_slot, fEqual_module, fEqTokens, fEqLists, fEqPolicy, fEqBuilder, fEqualFunc_token, fEqToken])
def E87 : D.Env := E86.add 150 fEqPage
theorem E87ok : EOk Try.prog E87 := E86ok.add k150_86
def fEqVisit : Fct := ⟨[.v (.el .visit), .v (.el .visit)], [.el .bool], fun (x_ : SVisit × SVisit × Unit) => szPage x_.1.page ≤ 1099511627776 ∧ szPage x_.2.1.page ≤ 1099511627776, fun (x_ : SVisit × SVisit × Unit) => (decide (x_.1 = x_.2.1), ())⟩
-- impl.equalVisits
theorem k97_87 : fEqVisit.ok Try.prog 97 := Fct.of (S := fEqVisit) (L := fun _ _ => none) (kp := [0,1,2,3,4]) E87ok Try.func97 (by kernel_rfl) (by kernel_rfl) (by
  rintro ⟨(a : SVisit), (b : SVisit), _⟩ hp
  refine holds_of (X := .br (a.addr.host == b.addr.host && (a.addr.path == b.addr.path && true))
 (.br (a.kept == b.kept)
  (.ob (fEqPage.pre (a.page, b.page, ())) <|
   .lt (Bool × PUnit) (fEqPage.fn (a.page, b.page, ())) fun z2 =>
   .leaf (mkR fEqVisit.rs (z2.fst, ())) [] [])
  (.leaf (mkR fEqVisit.rs (false, ())) [] []))
 (.leaf (mkR fEqVisit.rs (false, ())) [] [])) (by kernel_rfl) ?_
  refine br_i (fun h1 => br_i (fun h2 => ob_i ?_ fun o3 => lt_i (Fct.leafY ?_)) (fun h2 => Fct.leafY ?_)) (fun h1 => Fct.leafY ?_)
  all_goals try simp only [beqAddr] at *
  all_goals (cases a; cases b)
  all_goals try simp only [decide_eq_true_eq, decide_eq_false_iff_not, Bool.not_eq_true', Bool.not_eq_false', bne_iff_ne, bne_eq_false_iff_eq, beq_iff_eq, beq_eq_false_iff_ne, baEq, Int.not_lt, Int.not_le, ne_eq, Decidable.not_not] at *
  all_goals try simp only [fEqPage, fEqVisit, baSz, List.size_toArray, List.length_cons, List.length_nil, Nat.reduceAdd, Int.toNat_zero, List.drop_zero, decide_eq_true_eq, decide_eq_false_iff_not, Bool.not_eq_true', Bool.not_eq_false', bne_iff_ne, bne_eq_false_iff_eq, beq_iff_eq, beq_eq_false_iff_ne, Bool.not_eq_true, Bool.not_eq_false, ne_eq, Decidable.not_not, baEq, decide_not, Prod.mk.injEq, and_true, true_and, Room, List.nil_append, Nat.zero_add, Int.not_lt, Int.not_le, fEqPage] at *
  all_goals try simp (disch := omega) only [wrapId', toNat1] at *
  all_goals try simp (disch := omega) only [if_pos, if_neg]
  all_goals first | trivial | omega | grind [wrapId', toNat1, drop_cons, drop_end, good_len, maxLen, fEqPage])
def E88 : D.Env := E87.add 97 fEqVisit
theorem E88ok : EOk Try.prog E88 := E87ok.add k97_87
def fEqualFunc_visit : Fct := ⟨[aL .visit, aL .visit, .c 97 []], [rB], fun x => x.1.length ≤ 1000000000000000000 ∧ ∀ i, i < x.1.length → i < x.2.1.length → fEqVisit.pre (x.1.getD i default, x.2.1.getD i default, ()), fun x => (decide (x.1 = x.2.1), ())⟩
abbrev W_slices_EqualFunc_impl_Visit_impl_Visit_impl_Visit_impl_Visit_fEqualFunc_visit_4 (l : (List SVisit)) (m : (List SVisit)) (u : (Unit)) : LInv := ⟨[⟨.s, 17, true, .el .int⟩], fun _ (x_ : Int × Unit) => 0 ≤ x_.1 ∧ x_.1 ≤ l.length ∧ l.length = m.length ∧ decide (l.drop x_.1.toNat = m.drop x_.1.toNat) = decide (l = m), fun (x_ : Int × Unit) => l.length - x_.1.toNat⟩
-- slices.EqualFunc[[]impl.Visit,[]impl.Visit,impl.Visit,impl.Visit]
theorem k96_88 : fEqualFunc_visit.ok Try.prog 96 := Fct.of (S := fEqualFunc_visit) (L := fun ⟨l, m, u, _⟩ => fun | 4 => some (W_slices_EqualFunc_impl_Visit_impl_Visit_impl_Visit_impl_Visit_fEqualFunc_visit_4 l m u) | _ => none) (kp := [0,1,2,6,7,8,9,14,15,16,17,18,30]) E88ok Try.func96 (by kernel_rfl) (by kernel_rfl) (by
  rintro ⟨(l : List SVisit), (m : List SVisit), (u : PUnit), _⟩ hp
  refine holds_of (X := .br ((↑l.length : Int) != (↑m.length : Int))
 (.leaf (mkR fEqualFunc_visit.rs (false, ())) [] [])
 (lpx (W_slices_EqualFunc_impl_Visit_impl_Visit_impl_Visit_impl_Visit_fEqualFunc_visit_4 l m u) ((0 : Int), ()) fun (y2 : Int × PUnit) bk2 =>
  .br (decide (y2.fst < (↑l.length : Int)))
   (.ob ((0 : Int) ≤ y2.fst ∧ y2.fst < (↑l.length : Int)) <|
    .ob ((0 : Int) ≤ y2.fst ∧ y2.fst < (↑m.length : Int)) <|
    .ob (fEqVisit.pre (l.getD y2.fst.toNat default, m.getD y2.fst.toNat default, ())) <|
    .lt (Bool × PUnit) (fEqVisit.fn (l.getD y2.fst.toNat default, m.getD y2.fst.toNat default, ())) fun z2 =>
    .br (!z2.fst)
     (.leaf (mkR fEqualFunc_visit.rs (false, ())) [] [])
     (.ob (l = l) <|
      .ob (m = m) <|
      .ob (Value.bool ((↑l.length : Int) != (↑m.length : Int)) = Value.bool ((↑l.length : Int) != (↑m.length : Int))) <|
      .ob (l = l) <|
      .ob (Value.int IntKind.i64 (↑l.length : Int) = Value.int IntKind.i64 (↑l.length : Int)) <|
      .ob (bk2 (IntKind.i64.wrap (y2.fst + (1 : Int)), ())) <|
      .ok))
   (.leaf (mkR fEqualFunc_visit.rs (true, ())) [] []))) (by kernel_rfl) ?_
  refine br_i (fun h1 => Fct.leafY ?_) (fun h1 => lpx_i ?_ fun (y2 : Int × PUnit) i2 => br_i (fun h3 => ob_i ?_ fun o4 => ob_i ?_ fun o5 => ob_i ?_ fun o6 => lt_i (br_i (fun h7 => Fct.leafY ?_) (fun h7 => ob_i rfl fun _ => ob_i rfl fun _ => ob_i rfl fun _ => ob_i rfl fun _ => ob_i rfl fun _ => ob_i ?_ fun o8 => trivial))) (fun h3 => Fct.leafY ?_))
  all_goals have hpl := hp.1
  all_goals have hpe := hp.2
  all_goals clear hp
  all_goals try simp only [fEqVisit] at hpe
  all_goals try simp only [decide_eq_true_eq, decide_eq_false_iff_not, Bool.not_eq_true', Bool.not_eq_false', bne_iff_ne, bne_eq_false_iff_eq, beq_iff_eq, beq_eq_false_iff_ne, baEq, Int.not_lt, Int.not_le, ne_eq, Decidable.not_not] at *
  all_goals try simp only [W_slices_EqualFunc_impl_Visit_impl_Visit_impl_Visit_impl_Visit_fEqualFunc_visit_4, fEqVisit, fEqualFunc_visit, baSz, List.size_toArray, List.length_cons, List.length_nil, Nat.reduceAdd, Int.toNat_zero, List.drop_zero, decide_eq_true_eq, decide_eq_false_iff_not, Bool.not_eq_true', Bool.not_eq_false', bne_iff_ne, bne_eq_false_iff_eq, beq_iff_eq, beq_eq_false_iff_ne, Bool.not_eq_true, Bool.not_eq_false, ne_eq, Decidable.not_not, baEq, decide_not, Prod.mk.injEq, and_true, true_and, Room, List.nil_append, Nat.zero_add, Int.not_lt, Int.not_le, fEqVisit] at *
  all_goals try simp (disch := omega) only [wrapId', toNat1] at *
  all_goals try simp (disch := omega) only [if_pos, if_neg]
  all_goals first | trivial | omega | grind [wrapId', toNat1, drop_cons, drop_end, good_len, maxLen, fEqVisit])
def E89 : D.Env := E88.add 96 fEqualFunc_visit
theorem E89ok : EOk Try.prog E89 := E88ok.add k96_88
theorem szVisit_get {l : List SVisit} {i : Nat} (h : i < l.length) : szPage (l.getD i default).page + l.length ≤ szL szVisit l := by
  have := szL_get szVisit h
  simp only [szVisit] at this; omega
def fEqTab : Fct := ⟨[.v (.el .tab), .v (.el .tab)], [.el .bool], fun (x_ : STab × STab × Unit) => szTab x_.1 ≤ 1099511627776 ∧ szTab x_.2.1 ≤ 1099511627776, fun (x_ : STab × STab × Unit) => (decide (x_.1 = x_.2.1), ())⟩
abbrev W_spec_EqualTabs_fEqTab_4 (a : STab) (b : STab) : LInv := ⟨[⟨.s, 5, true, .el .int⟩, ⟨.b, 2, false, .el .tab⟩, ⟨.b, 3, false, .el .tab⟩], fun (z_ : Int × STab × STab × Unit) (x_ : Int × STab × STab × Unit) => ((0 ≤ x_.1 ∧ x_.1 ≤ a.visits.length ∧ a.at_ = b.at_ ∧ a.visits.length = b.visits.length ∧ decide (a.visits.drop x_.1.toNat = b.visits.drop x_.1.toNat) = decide (a.visits = b.visits)) ∧ x_.2.1 = z_.2.1) ∧ x_.2.2.1 = z_.2.2.1, fun (x_ : Int × STab × STab × Unit) => a.visits.length - x_.1.toNat⟩
-- spec.EqualTabs
theorem k30_89 : fEqTab.ok Try.prog 30 := Fct.of (S := fEqTab) (L := fun ⟨a, b, _⟩ => fun | 4 => some (W_spec_EqualTabs_fEqTab_4 a b) | _ => none) (kp := [0,1,2,3,4,5,19,24,70]) E89ok Try.func30 (by kernel_rfl) (by kernel_rfl) (by
  rintro ⟨(a : STab), (b : STab), _⟩ hp
  refine holds_of (X := .br (a.at_ != b.at_)
 (.leaf (mkR fEqTab.rs (false, ())) [] [])
 (.br ((↑a.visits.length : Int) != (↑b.visits.length : Int))
  (.leaf (mkR fEqTab.rs (false, ())) [] [])
  (lpx (W_spec_EqualTabs_fEqTab_4 a b) ((0 : Int), (a, (b, ()))) fun (y3 : Int × STab × STab × PUnit) bk3 =>
   .br (decide (y3.fst < (↑y3.snd.fst.visits.length : Int)))
    (.ob ((0 : Int) ≤ y3.fst ∧ y3.fst < (↑y3.snd.fst.visits.length : Int)) <|
     .ob ((0 : Int) ≤ y3.fst ∧ y3.fst < (↑y3.snd.snd.fst.visits.length : Int)) <|
     .br (!((y3.snd.fst.visits.getD y3.fst.toNat default).addr.host ==
      (y3.snd.snd.fst.visits.getD y3.fst.toNat default).addr.host &&
    ((y3.snd.fst.visits.getD y3.fst.toNat default).addr.path ==
        (y3.snd.snd.fst.visits.getD y3.fst.toNat default).addr.path &&
      true)))
     (.leaf (mkR fEqTab.rs (false, ())) [] [])
     (.ob ((0 : Int) ≤ y3.fst ∧ y3.fst < (↑y3.snd.fst.visits.length : Int)) <|
      .ob ((0 : Int) ≤ y3.fst ∧ y3.fst < (↑y3.snd.snd.fst.visits.length : Int)) <|
      .br (!(y3.snd.fst.visits.getD y3.fst.toNat default).kept == (y3.snd.snd.fst.visits.getD y3.fst.toNat default).kept)
      (.leaf (mkR fEqTab.rs (false, ())) [] [])
      (.ob ((0 : Int) ≤ y3.fst ∧ y3.fst < (↑y3.snd.fst.visits.length : Int)) <|
       .ob ((0 : Int) ≤ y3.fst ∧ y3.fst < (↑y3.snd.snd.fst.visits.length : Int)) <|
       .ob (fEqPage.pre
  ((y3.snd.fst.visits.getD y3.fst.toNat default).page, (y3.snd.snd.fst.visits.getD y3.fst.toNat default).page, ())) <|
       .lt (Bool × PUnit) (fEqPage.fn
  ((y3.snd.fst.visits.getD y3.fst.toNat default).page, (y3.snd.snd.fst.visits.getD y3.fst.toNat default).page, ())) fun z2 =>
       .br (!z2.fst)
        (.leaf (mkR fEqTab.rs (false, ())) [] [])
        (.ob (a.visits = a.visits) <|
         .ob (Value.int IntKind.i64 a.at_ = Value.int IntKind.i64 a.at_) <|
         .ob (b.visits = b.visits) <|
         .ob (Value.int IntKind.i64 b.at_ = Value.int IntKind.i64 b.at_) <|
         .ob (Value.bool ((↑a.visits.length : Int) != (↑b.visits.length : Int)) =
  Value.bool ((↑a.visits.length : Int) != (↑b.visits.length : Int))) <|
         .ob (bk3 (IntKind.i64.wrap (y3.fst + (1 : Int)), (y3.snd.fst, (y3.snd.snd.fst, ())))) <|
         .ok))))
    (.leaf (mkR fEqTab.rs (true, ())) [] [])))) (by kernel_rfl) ?_
  refine br_i (fun h1 => Fct.leafY ?_) (fun h1 => br_i (fun h2 => Fct.leafY ?_) (fun h2 => lpx_i ?_ fun (y3 : Int × STab × STab × PUnit) i3 => br_i (fun h4 => ob_i ?_ fun o5 => ob_i ?_ fun o6 => br_i (fun h7 => Fct.leafY ?_) (fun h7 => ob_i ?_ fun o8 => ob_i ?_ fun o9 => br_i (fun h10 => Fct.leafY ?_) (fun h10 => ob_i ?_ fun o11 => ob_i ?_ fun o12 => ob_i ?_ fun o13 => lt_i (br_i (fun h14 => Fct.leafY ?_) (fun h14 => ob_i rfl fun _ => ob_i rfl fun _ => ob_i rfl fun _ => ob_i rfl fun _ => ob_i rfl fun _ => ob_i ?_ fun o15 => trivial))))) (fun h4 => Fct.leafY ?_)))
  all_goals try simp only [beqAddr] at *
  all_goals have hl := szL_len szVisit a.visits
  all_goals have hga : ∀ i, i < a.visits.length → szPage (a.visits.getD i default).page ≤ 1099511627776 := fun i h => by have := szVisit_get h; have hp2 : szTab a ≤ 1099511627776 := hp.1; simp only [szTab] at hp2; omega
  all_goals have hgb : ∀ i, i < b.visits.length → szPage (b.visits.getD i default).page ≤ 1099511627776 := fun i h => by have := szVisit_get h; have hp2 : szTab b ≤ 1099511627776 := hp.2; simp only [szTab] at hp2; omega
  all_goals simp only [fEqTab, szTab] at hp
  all_goals have he : ∀ x y : SVisit, x.addr = y.addr → x.page = y.page → x.kept = y.kept → x = y := fun x y h1 h2 h3 => by cases x; cases y; simp_all
  all_goals (cases a; cases b)
  all_goals try simp only [decide_eq_true_eq, decide_eq_false_iff_not, Bool.not_eq_true', Bool.not_eq_false', bne_iff_ne, bne_eq_false_iff_eq, beq_iff_eq, beq_eq_false_iff_ne, baEq, Int.not_lt, Int.not_le, ne_eq, Decidable.not_not] at *
  all_goals try simp only [W_spec_EqualTabs_fEqTab_4, fEqPage, fEqTab, baSz, List.size_toArray, List.length_cons, List.length_nil, Nat.reduceAdd, Int.toNat_zero, List.drop_zero, decide_eq_true_eq, decide_eq_false_iff_not, Bool.not_eq_true', Bool.not_eq_false', bne_iff_ne, bne_eq_false_iff_eq, beq_iff_eq, beq_eq_false_iff_ne, Bool.not_eq_true, Bool.not_eq_false, ne_eq, Decidable.not_not, baEq, decide_not, Prod.mk.injEq, and_true, true_and, Room, List.nil_append, Nat.zero_add, Int.not_lt, Int.not_le, fEqPage, fEqualFunc_visit, fEqVisit] at *
  all_goals try simp (disch := omega) only [wrapId', toNat1] at *
  all_goals try simp (disch := omega) only [if_pos, if_neg]
  all_goals first | trivial | omega | grind [wrapId', toNat1, drop_cons, drop_end, good_len, maxLen, fEqPage, fEqualFunc_visit, fEqVisit])
def E90 : D.Env := E89.add 30 fEqTab
theorem E90ok : EOk Try.prog E90 := E89ok.add k30_89
-- impl.EqualTabs
theorem k32_90 : fEqTab.ok Try.prog 32 := Fct.of (S := fEqTab) (L := fun _ _ => none) (kp := [0,1,2,3,4]) E90ok Try.func32 (by kernel_rfl) (by kernel_rfl) (by
  rintro ⟨(a : STab), (b : STab), _⟩ hp
  refine holds_of (X := .br (a.at_ == b.at_)
 (.ob (fEqualFunc_visit.pre (a.visits, b.visits, (), ())) <|
  .lt (Bool × PUnit) (fEqualFunc_visit.fn (a.visits, b.visits, (), ())) fun z2 =>
  .leaf (mkR fEqTab.rs (z2.fst, ())) [] [])
 (.leaf (mkR fEqTab.rs (false, ())) [] [])) (by kernel_rfl) ?_
  refine br_i (fun h1 => ob_i ?_ fun o2 => lt_i (Fct.leafY ?_)) (fun h1 => Fct.leafY ?_)
  all_goals try simp only [beqAddr] at *
  all_goals have hl := szL_len szVisit a.visits
  all_goals have hga : ∀ i, i < a.visits.length → szPage (a.visits.getD i default).page ≤ 1099511627776 := fun i h => by have := szVisit_get h; have hp2 : szTab a ≤ 1099511627776 := hp.1; simp only [szTab] at hp2; omega
  all_goals have hgb : ∀ i, i < b.visits.length → szPage (b.visits.getD i default).page ≤ 1099511627776 := fun i h => by have := szVisit_get h; have hp2 : szTab b ≤ 1099511627776 := hp.2; simp only [szTab] at hp2; omega
  all_goals simp only [fEqTab, szTab] at hp
  all_goals have he : ∀ x y : SVisit, x.addr = y.addr → x.page = y.page → x.kept = y.kept → x = y := fun x y h1 h2 h3 => by cases x; cases y; simp_all
  all_goals (cases a; cases b)
  all_goals try simp only [decide_eq_true_eq, decide_eq_false_iff_not, Bool.not_eq_true', Bool.not_eq_false', bne_iff_ne, bne_eq_false_iff_eq, beq_iff_eq, beq_eq_false_iff_ne, baEq, Int.not_lt, Int.not_le, ne_eq, Decidable.not_not] at *
  all_goals try simp only [fEqTab, fEqualFunc_visit, baSz, List.size_toArray, List.length_cons, List.length_nil, Nat.reduceAdd, Int.toNat_zero, List.drop_zero, decide_eq_true_eq, decide_eq_false_iff_not, Bool.not_eq_true', Bool.not_eq_false', bne_iff_ne, bne_eq_false_iff_eq, beq_iff_eq, beq_eq_false_iff_ne, Bool.not_eq_true, Bool.not_eq_false, ne_eq, Decidable.not_not, baEq, decide_not, Prod.mk.injEq, and_true, true_and, Room, List.nil_append, Nat.zero_add, Int.not_lt, Int.not_le, fEqPage, fEqualFunc_visit, fEqVisit] at *
  all_goals try simp (disch := omega) only [wrapId', toNat1] at *
  all_goals try simp (disch := omega) only [if_pos, if_neg]
  all_goals first | trivial | omega | grind [wrapId', toNat1, drop_cons, drop_end, good_len, maxLen, fEqPage, fEqualFunc_visit, fEqVisit])
def E91 : D.Env := E90.add 32 fEqTab
theorem E91ok : EOk Try.prog E91 := E90ok.add k32_90
def lTab2 : Fct := lawFS [.el .tab, .el .tab]
-- laws.FnExactEqualTabs
set_option maxHeartbeats 2000000 in
theorem k6_91 : lTab2.ok Try.prog 6 := Fct.of (S := lTab2) (L := fun _ _ => none) (kp := [0,1,2,3,4,5,6,7,8,9,14,19,34,39,44]) E91ok Try.func6 (by kernel_rfl) (by kernel_rfl) (by
  rintro ⟨(a : STab), (b : STab), _⟩ hp
  refine holds_of (X := .ob (fszTab.pre (a, (1048576 : Int), ())) <|
 .lt (Int × PUnit) (fszTab.fn (a, (1048576 : Int), ())) fun z2 =>
 .br (decide (z2.fst < (0 : Int)))
  (.leaf (mkR lTab2.rs (true, ())) [] [])
  (.ob (fszTab.pre (b, z2.fst, ())) <|
   .lt (Int × PUnit) (fszTab.fn (b, z2.fst, ())) fun z3 =>
   .br (decide (z3.fst < (0 : Int)))
    (.leaf (mkR lTab2.rs (true, ())) [] [])
    (.ob (ftoTab.pre (a, ())) <|
     .lt (STab × PUnit) (ftoTab.fn (a, ())) fun z4 =>
     .ob (ftoTab.pre (b, ())) <|
      .lt (STab × PUnit) (ftoTab.fn (b, ())) fun z5 =>
      .ob (fEqTab.pre (z4.fst, z5.fst, ())) <|
       .lt (Bool × PUnit) (fEqTab.fn (z4.fst, z5.fst, ())) fun z6 =>
       .ob (ftoTab.pre (a, ())) <|
        .lt (STab × PUnit) (ftoTab.fn (a, ())) fun z7 =>
        .ob (ftoTab.pre (b, ())) <|
         .lt (STab × PUnit) (ftoTab.fn (b, ())) fun z8 =>
         .ob (fEqTab.pre (z7.fst, z8.fst, ())) <|
          .lt (Bool × PUnit) (fEqTab.fn (z7.fst, z8.fst, ())) fun z9 =>
          .br (!z9.fst == z6.fst)
           (.leaf (mkR lTab2.rs (false, ())) [] [])
           (.ob (ftoTab.pre (a, ())) <|
            .lt (STab × PUnit) (ftoTab.fn (a, ())) fun z10 =>
            .ob (feqTab.pre (z7.fst, z10.fst, ())) <|
             .lt (Bool × PUnit) (feqTab.fn (z7.fst, z10.fst, ())) fun z11 =>
             .br (!z11.fst)
              (.leaf (mkR lTab2.rs (false, ())) [] [])
              (.ob (ftoTab.pre (b, ())) <|
               .lt (STab × PUnit) (ftoTab.fn (b, ())) fun z12 =>
               .ob (feqTab.pre (z8.fst, z12.fst, ())) <|
                .lt (Bool × PUnit) (feqTab.fn (z8.fst, z12.fst, ())) fun z13 =>
                .br (!z13.fst)
                 (.leaf (mkR lTab2.rs (false, ())) [] [])
                 (.leaf (mkR lTab2.rs (true, ())) [] [])))))) (by kernel_rfl) ?_
  refine ob_i ?_ fun o1 => lt_e fun z2 ez2 => (br_i (fun h2 => Fct.leafY ?_) (fun h2 => ob_i ?_ fun o3 => lt_e fun z3 ez3 => (br_i (fun h4 => Fct.leafY ?_) (fun h4 => ob_i ?_ fun o5 => lt_e fun z4 ez4 => (ob_i ?_ fun o6 => lt_e fun z5 ez5 => (ob_i ?_ fun o7 => lt_e fun z6 ez6 => (ob_i ?_ fun o8 => lt_e fun z7 ez7 => (ob_i ?_ fun o9 => lt_e fun z8 ez8 => (ob_i ?_ fun o10 => lt_e fun z9 ez9 => (br_i (fun h11 => Fct.leafY ?_) (fun h11 => ob_i ?_ fun o12 => lt_e fun z10 ez10 => (ob_i ?_ fun o13 => lt_e fun z11 ez11 => (br_i (fun h14 => Fct.leafY ?_) (fun h14 => ob_i ?_ fun o15 => lt_e fun z12 ez12 => (ob_i ?_ fun o16 => lt_e fun z13 ez13 => (br_i (fun h17 => Fct.leafY ?_) (fun h17 => Fct.leafY ?_)))))))))))))))))
  all_goals have hg0 : Sh.good (.el .tab) a := hp.1
  all_goals have hg1 : Sh.good (.el .tab) b := hp.2.1
  all_goals clear hp
  all_goals subst_vars
  all_goals try simp only [decide_eq_true_eq, decide_eq_false_iff_not, Bool.not_eq_true', Bool.not_eq_false', bne_iff_ne, bne_eq_false_iff_eq, beq_iff_eq, beq_eq_false_iff_ne, baEq, Int.not_lt, Int.not_le, ne_eq, Decidable.not_not] at *
  all_goals try simp only [fEqTab, feqTab, fszTab, ftoTab, lTab2, baSz, List.size_toArray, List.length_cons, List.length_nil, Nat.reduceAdd, Int.toNat_zero, List.drop_zero, decide_eq_true_eq, decide_eq_false_iff_not, Bool.not_eq_true', Bool.not_eq_false', bne_iff_ne, bne_eq_false_iff_eq, beq_iff_eq, beq_eq_false_iff_ne, Bool.not_eq_true, Bool.not_eq_false, ne_eq, Decidable.not_not, baEq, decide_not, Prod.mk.injEq, and_true, true_and, Room, List.nil_append, Nat.zero_add, Int.not_lt, Int.not_le, decide_true] at *
  all_goals first | trivial | omega | grind [lessen, szTab])
def E92 : D.Env := E91.add 6 lTab2
theorem E92ok : EOk Try.prog E92 := E91ok.add k6_91
def pickReq (p : SPage) : List SRequest → Int → Int → Int → Int
  | [], _, best, _ => best
  | r :: l, i, best, bc => if best < 0 ∨ classOf p r < bc then pickReq p l (i + 1) i (classOf p r) else pickReq p l (i + 1) best bc
def fPickRequest : Fct := ⟨[.v (.el .page), .v (.sl .request)], [.el .int], fun (x_ : SPage × (List SRequest) × Unit) => x_.1.slots.length ≤ 1048576 ∧ (-9223372036854775808 ≤ x_.1.block ∧ x_.1.block ≤ 9223372036854775807) ∧ x_.2.1.length ≤ 1048576, fun (x_ : SPage × (List SRequest) × Unit) => (pickReq x_.1 x_.2.1 0 (-1) 0, ())⟩
def lPageReqs : Fct := lawFS [.el .page, .sl .request]
def fUnused : Fct := ⟨[.v (.sl .guess)], [.el .int], fun (x_ : (List SGuess) × Unit) => x_.1.length ≤ 1048576, fun (x_ : (List SGuess) × Unit) => (countIf (fun g => !g.used) x_.1, ())⟩
theorem countIf_not {α : Type} (p : α → Bool) (l : List α) : countIf (fun x => !p x) l + countIf p l = l.length := by
  induction l with
  | nil => simp [countIf]
  | cons x l ih => simp only [countIf, List.length_cons]; by_cases h : p x = true <;> simp [h] <;> omega
def fSaved : Fct := ⟨[.v (.el .loader)], [.el .int], fun (x_ : SLoader × Unit) => x_.1.guesses.length ≤ 1048576, fun (x_ : SLoader × Unit) => (countIf (fun g => g.used) x_.1.guesses, ())⟩
def sumIf {α : Type} (p : α → Bool) (f : α → Int) : List α → Int
  | [] => 0
  | x :: l => (if p x then f x else 0) + sumIf p f l
theorem sumIf_nn {α : Type} (p : α → Bool) (f : α → Int) (h : ∀ x, 0 ≤ f x) (l : List α) : 0 ≤ sumIf p f l := by
  induction l with
  | nil => simp [sumIf]
  | cons x l ih => simp only [sumIf]; have := h x; split <;> omega
def wasteOf (l : List SGuess) : Int := sumIf (fun g => !g.used) (fun g => g.response.body.size + 20) l
def connWaste (l : List SConn) : Int := sumIf (fun c => c.guess) (fun c => c.response.body.size + 20) l
theorem wasteOf_nn (l : List SGuess) : 0 ≤ sumIf (fun g : SGuess => !g.used) (fun g => (g.response.body.size : Int) + 20) l := sumIf_nn _ _ (fun _ => by omega) l
theorem connWaste_nn (l : List SConn) : 0 ≤ sumIf (fun c : SConn => c.guess) (fun c => (c.response.body.size : Int) + 20) l := sumIf_nn _ _ (fun _ => by omega) l
def fWasteOf : Fct := ⟨[.v (.sl .guess)], [.el .int], fun (x_ : (List SGuess) × Unit) => x_.1.length ≤ 1000000000000 ∧ wasteOf x_.1 ≤ 1000000000000, fun (x_ : (List SGuess) × Unit) => (wasteOf x_.1, ())⟩
def loaderWaste (l : SLoader) : Int := wasteOf l.guesses + connWaste l.conns
def fLoaderWaste : Fct := ⟨[.v (.el .loader)], [.el .int], fun (x_ : SLoader × Unit) => x_.1.guesses.length ≤ 1000000000000 ∧ x_.1.conns.length ≤ 1000000000000 ∧ loaderWaste x_.1 ≤ 1000000000000, fun (x_ : SLoader × Unit) => (loaderWaste x_.1, ())⟩
def fIsFinished : Fct := ⟨[.v (.el .loader)], [.el .bool], fun (x_ : SLoader × Unit) => True, fun (x_ : SLoader × Unit) => (x_.1.page.loaded && decide (x_.1.parts.length = 0), ())⟩
def lLoader : Fct := lawFS [.el .loader]
theorem guessSz (l : List SGuess) : wasteOf l ≤ 21 * szL szGuess l := by
  induction l with
  | nil => simp only [wasteOf, sumIf]; omega
  | cons g l ih => simp only [wasteOf, sumIf, szL, List.length_cons, List.map_cons, List.sum_cons, szGuess, szResponse] at *; split <;> omega
theorem connSz (l : List SConn) : connWaste l ≤ 21 * szL szConn l := by
  induction l with
  | nil => simp only [connWaste, sumIf]; omega
  | cons g l ih => simp only [connWaste, sumIf, szL, List.length_cons, List.map_cons, List.sum_cons, szConn, szResponse] at *; split <;> omega
theorem loaderSz (l : SLoader) : loaderWaste l ≤ 21 * szLoader l ∧ l.guesses.length ≤ szLoader l ∧ l.conns.length ≤ szLoader l ∧ l.parts.length ≤ szLoader l := by
  have h1 := guessSz l.guesses
  have h2 := connSz l.conns
  have h3 := szL_len szGuess l.guesses
  have h4 := szL_len szConn l.conns
  have h5 := szL_len szString l.parts
  simp only [loaderWaste, szLoader]; omega

section
open Go.ChangeShapes Go.WideShapes Go.ChangeAt Go.RowKit
theorem own : ownKnob Try.prog.godebug = none := by kernel_rfl
theorem types : ∀ e t, tyOf e = some t → e ∈ ([3, 4, 5, 9, 23, 26, 28, 33, 38, 43, 44, 45, 49, 54, 64, 67, 73, 76, 87, 92, 112, 115, 147, 155, 171, 176, 179, 184, 189, 192, 202, 206, 210, 224, 232, 236, 243, 245, 247, 249, 259, 262, 268, 273] : List TypeId) := by
  intro e t h
  unfold tyOf at h
  split at h <;> first | (simp; done) | cases h
theorem lifted (os : Os) (started : os.Started) (H : Type) (enc : TypeId × Value → H) :
    ReturnsInHanded {} Try.checked os 6 .any (Rows.fnExactEqualTabsSpec.pre6 enc Try.prog Try.f6 Rows.fnExactEqualTabsRow.domain false) (Rows.fnExactEqualTabsSpec.post enc Try.prog Try.f6 false true false false) := by
  refine returnsInHanded_of_change (C := Try.checked) own started (by kernel_rfl) Try.func6
    (ChangeSpec.witness6 (enc := enc) (C := Try.checked) false ⟨#[], #[.agg #[.slice none 0 0, .int .i64 0], .agg #[.slice none 0 0, .int .i64 0]], []⟩ 8 (by kernel_rfl) (by kernel_rfl) (by kernel_rfl) (by kernel_rfl)) ?_
  intro W base args ds gs before hval0 hW hcnd _
  have hval : ∀ (j : Nat) t v, Try.f6.params[j]? = some t → args[j]? = some v → Value.okWide Try.prog W .any base t v := hval0
  refine law_calls (show rowOk Try.prog Try.f6 tyOf [3, 4, 5, 9, 23, 26, 28, 33, 38, 43, 44, 45, 49, 54, 64, 67, 73, 76, 87, 92, 112, 115, 147, 155, 171, 176, 179, 184, 189, 192, 202, 206, 210, 224, 232, 236, 243, 245, 247, 249, 259, 262, 268, 273] [.el .tab, .el .tab] = true by kernel_rfl) types rfl Try.underlying4 rfl hW (fun xs h => ?_) hval k6_91
  · rw [Try.params6] at h
    match xs, (show xs.length = 2 from h) with
    | [x0, x1], _ => rfl
set_option maxHeartbeats 0 in
theorem closed : joinedFacts Try.prog 6 Try.f6 Rows.fnExactEqualTabsSpec Rows.fnExactEqualTabsRow = true := by
  unfold joinedFacts
  refine (and_i (and_i (and_i (and_i (and_i (and_i (and_i (and_i (and_i (and_i (and_i (and_i (and_i (and_i (and_i (and_i (and_i (and_i (and_i (and_i (and_i (and_i (and_i (and_i (and_i (and_i (and_i (and_i (and_i (and_i (and_i ?_ ?_) ?_) ?_) ?_) ?_) ?_) ?_) ?_) ?_) ?_) ?_) ?_) ?_) ?_) ?_) ?_) ?_) ?_) ?_) ?_) ?_) ?_) ?_) ?_) ?_) ?_) ?_) ?_) ?_) ?_) ?_)
  all_goals decide +kernel
theorem over : Rows.fnExactEqualTabsRow.holds Try.pinned (OpenSpec.ofChange Rows.fnExactEqualTabsSpec) :=
  OpenClaim.holds_of_wide 6 Try.f6 rfl rfl rfl rfl rfl rfl rfl ⟨rfl, rfl, rfl, rfl, rfl⟩ rfl rfl rfl rfl rfl (by kernel_rfl) Try.func6 closed
    (of_decide_eq_true (by kernel_rfl)) (by unfold Func.isWrapper; first | (rw [if_pos (by decide +kernel)]; kernel_rfl) | (rw [if_neg (by decide +kernel)]; exact ⟨rfl, rfl⟩))
    (fun os started H enc _ => lifted os started H enc)
theorem proved : Rows.FnExactEqualTabsSaid := over
end
end Go.Proofs.Ytdcpenhjenhjcaa.fnExactEqualTabs
