/-
  The program's TopsOf returns what the reference's returns, for all arguments: the law returns true. No condition.
-/
import Derived.Test.YtmpkhgpieioofaaVPt
import Derived.Test.YtmpkhgpieioofaaRows
import Derived.WalkKit
import Derived.ProofKit
import Derived.OpenShut
namespace Go.Proofs.Ytmpkhgpieioofaa.fnExactTopsOf
open Go.Proofs.Ytmpkhgpieioofaa
open Go.D
set_option maxRecDepth 100000
set_option linter.unusedVariables false
set_option linter.unusedSimpArgs false
def tyOf : TypeId → Option Ty
  | 3 => some .int
  | 4 => some .bool
  | 5 => some .u8
  | 9 => some .str
  | 25 => some .cache
  | 28 => some .net
  | 34 => some .cache
  | 37 => some .net
  | 55 => some .addr
  | 57 => some .policy
  | 59 => some .tokenizer
  | 63 => some .builder
  | 68 => some .page
  | 71 => some .addr
  | 72 => some .policy
  | 73 => some .tokenizer
  | 77 => some .builder
  | 82 => some .page
  | 92 => some .tab
  | 98 => some .request
  | 102 => some .request
  | 107 => some .tab
  | 119 => some .sent
  | 160 => some .slot
  | 162 => some .module
  | 167 => some .visit
  | 172 => some .server
  | 176 => some .sent
  | 179 => some .server
  | 196 => some .token
  | 200 => some .slot
  | 203 => some .module
  | 206 => some .token
  | 223 => some .visit
  | 228 => some .response
  | 230 => some .entry
  | 232 => some .response
  | 234 => some .entry
  | 252 => some .file
  | 256 => some .node
  | 259 => some .node
  | 266 => some .file
  | 281 => some .attr
  | 282 => some .attr
  | _ => none
def E0 : D.Env := D.Env.empty tyOf
theorem E0ok : EOk Try.prog E0 := EOk.empty _ _

-- laws.markText
set_option maxHeartbeats 2000000 in
theorem k75_0 : fmarkText.ok Try.prog 75 := Fct.of (S := fmarkText) (L := fun ⟨k, _⟩ => fun | 4 => some (LmTx k) | _ => none) (kp := [0,2,3,5,7]) E0ok Try.func75 (by kernel_rfl) (by kernel_rfl) (by
  rintro ⟨(k : Int), _⟩ hp
  refine holds_of (X := .br (decide (k ≤ (0 : Int)))
 (.leaf (mkR fmarkText.rs ({ data := #[(109 : UInt8), (48 : UInt8)] : ByteArray }, ())) [] [])
 (lpx (LmTx k) (k, ({ data := #[] : ByteArray }, ())) fun (y2 : Int × ByteArray × PUnit) bk2 =>
  .br (decide (y2.fst > (0 : Int)))
   (.ob ((10 : Int) ≠ (0 : Int)) <|
    .ob (True) <|
    .ob (sameSize
  (List.foldl (fun r n => r.push (UInt8.ofNat n.toNat)) ByteArray.empty
    [IntKind.u8.wrap (IntKind.i64.wrap ((48 : Int) + y2.fst.tmod (10 : Int)))])
  y2.snd.fst) <|
    .ob ((10 : Int) ≠ (0 : Int)) <|
    .ob (Value.string { data := #[] : ByteArray } = Value.string { data := #[] : ByteArray }) <|
    .ob (Value.bool (decide (k ≤ (0 : Int))) = Value.bool (decide (k ≤ (0 : Int)))) <|
    .ob (bk2 (IntKind.i64.wrap (y2.fst.tdiv (10 : Int)), (List.foldl (fun r n => r.push (UInt8.ofNat n.toNat)) ByteArray.empty
    [IntKind.u8.wrap (IntKind.i64.wrap ((48 : Int) + y2.fst.tmod (10 : Int)))] ++
  y2.snd.fst, ()))) <|
    .ok)
   (.ob (sameSize { data := #[(109 : UInt8)] : ByteArray } y2.snd.fst) <|
    .leaf (mkR fmarkText.rs ({ data := #[(109 : UInt8)] : ByteArray } ++ y2.snd.fst, ())) [] []))) (by kernel_rfl) ?_
  refine br_i (fun h1 => Fct.leafY ?_) (fun h1 => lpx_i ?_ fun (y2 : Int × ByteArray × PUnit) i2 => br_i (fun h3 => ob_i ?_ fun o4 => ob_i trivial fun _ => ob_i ?_ fun o5 => ob_i ?_ fun o6 => ob_i rfl fun _ => ob_i rfl fun _ => ob_i ?_ fun o7 => trivial) (fun h3 => ob_i ?_ fun o8 => Fct.leafY ?_))
  all_goals try rw [digByte (by first | exact i2.1 | (have := i2.1; omega))]
  all_goals try simp only [decide_eq_true_eq, decide_eq_false_iff_not, Bool.not_eq_true', Bool.not_eq_false', bne_iff_ne, bne_eq_false_iff_eq, beq_iff_eq, beq_eq_false_iff_ne, baEq, Int.not_lt, Int.not_le, ne_eq, Decidable.not_not] at *
  all_goals try simp only [LmTx, fmarkText, baSz, List.size_toArray, List.length_cons, List.length_nil, Nat.reduceAdd, Int.toNat_zero, List.drop_zero, decide_eq_true_eq, decide_eq_false_iff_not, Bool.not_eq_true', Bool.not_eq_false', bne_iff_ne, bne_eq_false_iff_eq, beq_iff_eq, beq_eq_false_iff_ne, Bool.not_eq_true, Bool.not_eq_false, ne_eq, Decidable.not_not, baEq, decide_not, Prod.mk.injEq, and_true, true_and, Room, List.nil_append, Nat.zero_add, Int.not_lt, Int.not_le] at *
  · simp [mtext, h1]
  · exact ⟨by omega, by omega, 64, rfl, Nat.lt_of_lt_of_le (show k.toNat < 10 ^ 19 by omega) (Nat.pow_le_pow_right (by decide) (by decide)), rfl⟩
  · decide
  · obtain ⟨i3, i4, f, i5, i6, i7⟩ := i2
    show (1 : Nat) + _ ≤ _
    omega
  · decide
  · obtain ⟨i3, i4, f, i5, i6, i7⟩ := i2
    have hd : IntKind.i64.wrap (y2.1.tdiv 10) = y2.1 / 10 := (tdiv10 i3).resolve_right (by omega)
    rw [hd]
    cases f with
    | zero => simp at i6; omega
    | succ f =>
      rw [digs_step (k := y2.1.toNat) (by omega)] at i7
      have i8 : y2.1.toNat < 10 * 10 ^ f := by rw [Nat.pow_succ] at i6; omega
      generalize 10 ^ f = p at i8
      refine ⟨⟨by omega, by omega, f, by rw [sz1]; omega, by omega, ?_⟩, by omega⟩
      rw [show (y2.1 / 10).toNat = y2.1.toNat / 10 by omega]
      exact i7
  · obtain ⟨i3, i4, f, i5, i6, i7⟩ := i2
    show (1 : Nat) + _ ≤ _
    omega
  · obtain ⟨i3, i4, f, i5, i6, i7⟩ := i2
    have h0 : y2.1.toNat = 0 := by omega
    rw [h0, digs_end] at i7
    rw [mtext, if_neg (by omega), i7])
def E1 : D.Env := E0.add 75 fmarkText
theorem E1ok : EOk Try.prog E1 := E0ok.add k75_0
-- laws.eqStringS
set_option maxHeartbeats 2000000 in
theorem k23_1 : feqStringS.ok Try.prog 23 := Fct.of (S := feqStringS) (L := fun ⟨l, m, _⟩ => fun | 4 => some (LeqS .str l m) | _ => none) (kp := [0,1,4,5,10,14,25]) E1ok Try.func23 (by kernel_rfl) (by kernel_rfl) (by
  rintro ⟨(l : List ByteArray), (m : List ByteArray), _⟩ hp
  refine holds_of (X := .br ((↑l.length : Int) != (↑m.length : Int))
 (.leaf (mkR feqStringS.rs (false, ())) [] [])
 (lpx (LeqS .str l m) ((0 : Int), ()) fun (y2 : Int × PUnit) bk2 =>
  .br (decide (y2.fst < (↑l.length : Int)))
   (.ob ((0 : Int) ≤ y2.fst ∧ y2.fst < (↑l.length : Int)) <|
    .ob ((0 : Int) ≤ y2.fst ∧ y2.fst < (↑m.length : Int)) <|
    .br (!(l.getD y2.fst.toNat default).toList == (m.getD y2.fst.toNat default).toList)
    (.leaf (mkR feqStringS.rs (false, ())) [] [])
    (.ob (l = l) <|
     .ob (m = m) <|
     .ob (Value.bool ((↑l.length : Int) != (↑m.length : Int)) = Value.bool ((↑l.length : Int) != (↑m.length : Int))) <|
     .ob (bk2 (IntKind.i64.wrap (y2.fst + (1 : Int)), ())) <|
     .ok))
   (.leaf (mkR feqStringS.rs (true, ())) [] []))) (by kernel_rfl) ?_
  refine br_i (fun h1 => Fct.leafY ?_) (fun h1 => lpx_i ?_ fun (y2 : Int × PUnit) i2 => br_i (fun h3 => ob_i ?_ fun o4 => ob_i ?_ fun o5 => br_i (fun h6 => Fct.leafY ?_) (fun h6 => ob_i rfl fun _ => ob_i rfl fun _ => ob_i rfl fun _ => ob_i ?_ fun o7 => trivial)) (fun h3 => Fct.leafY ?_))
  all_goals try simp only [decide_eq_true_eq, decide_eq_false_iff_not, Bool.not_eq_true', Bool.not_eq_false', bne_iff_ne, bne_eq_false_iff_eq, beq_iff_eq, beq_eq_false_iff_ne, baEq, Int.not_lt, Int.not_le, ne_eq, Decidable.not_not] at *
  all_goals try simp only [LeqS, feqStringS, baSz, List.size_toArray, List.length_cons, List.length_nil, Nat.reduceAdd, Int.toNat_zero, List.drop_zero, decide_eq_true_eq, decide_eq_false_iff_not, Bool.not_eq_true', Bool.not_eq_false', bne_iff_ne, bne_eq_false_iff_eq, beq_iff_eq, beq_eq_false_iff_ne, Bool.not_eq_true, Bool.not_eq_false, ne_eq, Decidable.not_not, baEq, decide_not, Prod.mk.injEq, and_true, true_and, Room, List.nil_append, Nat.zero_add, Int.not_lt, Int.not_le] at *
  · rw [decide_eq_false]; rintro rfl; omega
  · exact ⟨by omega, by omega, by simp⟩
  · omega
  · omega
  · rw [decide_eq_false]; rintro rfl; first | exact absurd rfl h5 | exact absurd rfl h6
  · have hw : IntKind.i64.wrap (y2.1 + 1) = y2.1 + 1 := wrapId (by omega)
    rw [hw, toNat1 (by omega)]
    refine ⟨⟨by omega, by omega, ?_⟩, by omega⟩
    rw [take_succ (by omega), take_succ (by omega), i2.2.2]; first | rw [h5] | rw [h6]
  · have e : l.take y2.1.toNat = l := List.take_of_length_le (by omega)
    have e2 : m.take y2.1.toNat = m := List.take_of_length_le (by omega)
    rw [decide_eq_true]; rw [← e, ← e2, i2.2.2])
def E2 : D.Env := E1.add 23 feqStringS
theorem E2ok : EOk Try.prog E2 := E1ok.add k23_1
-- laws.markStringS
set_option maxHeartbeats 2000000 in
theorem k26_2 : fmarkStringS.ok Try.prog 26 := MS.of (S := fmarkStringS) (L := fun l k => fun | 2 => some (LmkS .str mkString l k) | _ => none) (kp := [0,1,4,5,9]) (kl := [0]) E2ok Try.func26 (by kernel_rfl) (by kernel_rfl) (by
  rintro (l : List ByteArray) (k : Int) hp
  refine holds_of (X := lpx (LmkS .str mkString l k) (k, ((0 : Int), (l, ()))) fun (y1 : Int × Int × List ByteArray × PUnit) bk1 =>
 .br (decide (y1.snd.fst < (↑y1.snd.snd.fst.length : Int)))
  (.ob (fmarkText.pre (y1.fst, ())) <|
   .lt (ByteArray × PUnit) (fmarkText.fn (y1.fst, ())) fun z2 =>
   .ob ((0 : Int) ≤ y1.snd.fst ∧ y1.snd.fst < (↑y1.snd.snd.fst.length : Int)) <|
    .ob (y1.snd.fst.toNat < y1.snd.snd.fst.length) <|
    .lt (List ByteArray) (y1.snd.snd.fst.modify y1.snd.fst.toNat fun z => z2.fst) fun z3 =>
    .ob (Value.int IntKind.i64 (0 : Int) = Value.int IntKind.i64 (0 : Int)) <|
     .ob (bk1 (IntKind.i64.wrap (y1.fst + (1 : Int)), (IntKind.i64.wrap (y1.snd.fst + (1 : Int)), (z3, ())))) <|
     .ok)
  (.leaf (.one false [vi (y1.fst)]) [] [((0 : Nat), ⟨Ty.str, y1.snd.snd.fst⟩)])) (by kernel_rfl) ?_
  refine lpx_i ?_ fun (y1 : Int × Int × List ByteArray × PUnit) i1 => br_i (fun h2 => ob_i ?_ fun o3 => lt_i (ob_i ?_ fun o4 => ob_i ?_ fun o5 => lt_i (ob_i rfl fun _ => ob_i ?_ fun o6 => trivial))) (fun h2 => MS.leaf ?_)
  · exact ⟨by simp, by simp, by simp [markL], by simp [markL]⟩
  all_goals have hp1 : 0 ≤ k := hp.1
  all_goals have hp2 : (markL mkString l k).2 ≤ 4000000000000000000 := hp.2
  all_goals have i3 : 0 ≤ y1.2.1 ∧ y1.2.1 ≤ l.length ∧ y1.1 = (markL mkString (l.take y1.2.1.toNat) k).2 ∧ y1.2.2.1 = (markL mkString (l.take y1.2.1.toNat) k).1 ++ l.drop y1.2.1.toNat := i1
  all_goals have hcnt := markL_cnt (f := mkString) (fun x k => by simp only [mkString]; omega) l k
  all_goals have hx : y1.2.2.1.length = l.length := by rw [i3.2.2.2, List.length_append, markL_len, List.length_take, List.length_drop]; omega
  all_goals simp only [decide_eq_true_eq, decide_eq_false_iff_not, hx] at h2
  all_goals clear i1
  all_goals try have hlt : y1.2.1.toNat < l.length := by omega
  all_goals try have ht := markL_take (f := mkString) hlt k
  all_goals try have hle := (markL_take_le mkString_mono l (y1.2.1.toNat + 1) k).2
  all_goals try have hl0 := (markL_take_le mkString_mono l y1.2.1.toNat k).1
  all_goals try rw [ht] at hle
  all_goals try rw [← i3.2.2.1] at hle hl0 ht
  all_goals try simp only [mkString] at hle
  all_goals first | decide | (simp only [List.length_modify, hx]; omega) | (refine ⟨?_, ?_⟩ <;> (try simp (discharger := omega) only [wrapId']) <;> omega) | skip
  · clear o3 o4 o5
    simp (discharger := omega) only [wrapId', fmarkText]
    have hA : (markL mkString (l.take y1.2.1.toNat) k).1.length = y1.2.1.toNat := by rw [markL_len, List.length_take]; omega
    refine ⟨⟨by omega, by omega, ?_, ?_⟩, ?_⟩
    · rw [toNat1 (by omega), ht]
      first | done | (simp only [mkString]; done) | (simp only [mkString]; omega)
    · rw [toNat1 (by omega), ht, i3.2.2.2, drop_cons hlt]
      simp only [mod_at hA, mkString, Int.add_assoc, Int.reduceAdd, List.append_assoc, List.cons_append, List.nil_append]
    · omega
  · refine MS.leafL (t := .str) (fn := fun l k => markL mkString l k) ?_
    have e1 : l.take y1.2.1.toNat = l := List.take_of_length_le (by omega)
    have e2 : l.drop y1.2.1.toNat = [] := List.drop_of_length_le (by omega)
    rw [i3.2.2.2, i3.2.2.1, e1, e2, List.append_nil])
def E3 : D.Env := E2.addM 26 fmarkStringS
theorem E3ok : EOk Try.prog E3 := E2ok.addM k26_2
-- laws.heldStringS
set_option maxHeartbeats 2000000 in
theorem k27_3 : fheldStringS.ok Try.prog 27 := Fct.of (S := fheldStringS) (L := fun ⟨l, k, _⟩ => fun | 2 => some (LheS .str mkString l k) | _ => none) (kp := [0,1,4,5,9,18]) E3ok Try.func27 (by kernel_rfl) (by kernel_rfl) (by
  rintro ⟨(l : List ByteArray), (k : Int), _⟩ hp
  refine holds_of (X := lpx (LheS .str mkString l k) (k, ((0 : Int), ())) fun (y1 : Int × Int × PUnit) bk1 =>
 .br (decide (y1.snd.fst < (↑l.length : Int)))
  (.ob ((0 : Int) ≤ y1.snd.fst ∧ y1.snd.fst < (↑l.length : Int)) <|
   .ob (fmarkText.pre (y1.fst, ())) <|
   .lt (ByteArray × PUnit) (fmarkText.fn (y1.fst, ())) fun z2 =>
   .br (!(l.getD y1.snd.fst.toNat default).toList == z2.fst.toList)
    (.leaf (mkR fheldStringS.rs ((-1 : Int), ())) [] [])
    (.ob (l = l) <|
     .ob (bk1 (IntKind.i64.wrap (y1.fst + (1 : Int)), (IntKind.i64.wrap (y1.snd.fst + (1 : Int)), ()))) <|
     .ok))
  (.leaf (mkR fheldStringS.rs (y1.fst, ())) [] [])) (by kernel_rfl) ?_
  refine lpx_i ?_ fun (y1 : Int × Int × PUnit) i1 => br_i (fun h2 => ob_i ?_ fun o3 => ob_i ?_ fun o4 => lt_i (br_i (fun h5 => Fct.leafY ?_) (fun h5 => ob_i rfl fun _ => ob_i ?_ fun o6 => trivial))) (fun h2 => Fct.leafY ?_)
  · exact ⟨by simp, by simp, by simp [markL]⟩
  all_goals have hp1 : 0 ≤ k := hp.1
  all_goals have hp2 : (markL mkString l k).2 ≤ 4000000000000000000 := hp.2.1
  all_goals have hp3 : (markL mkString l k).1 = l := hp.2.2
  all_goals have i3 : 0 ≤ y1.2.1 ∧ y1.2.1 ≤ l.length ∧ y1.1 = (markL mkString (l.take y1.2.1.toNat) k).2 := i1
  all_goals have hcnt := markL_cnt (f := mkString) (fun x k => by simp only [mkString]; omega) l k
  all_goals simp only [decide_eq_true_eq, decide_eq_false_iff_not] at h2
  all_goals clear i1 hp
  all_goals try have hlt : y1.2.1.toNat < l.length := by omega
  all_goals try have ht := markL_take (f := mkString) hlt k
  all_goals try have hle := (markL_take_le mkString_mono l (y1.2.1.toNat + 1) k).2
  all_goals try have hl0 := (markL_take_le mkString_mono l y1.2.1.toNat k).1
  all_goals try have heq := markL_held hp3 hlt
  all_goals try rw [ht] at hle
  all_goals try rw [← i3.2.2] at hle hl0 ht heq
  all_goals try simp only [mkString] at hle heq
  all_goals first | decide | omega | (refine ⟨?_, ?_⟩ <;> (try simp (discharger := omega) only [wrapId']) <;> omega) | skip
  all_goals try (exfalso; clear ht; generalize l.getD y1.2.1.toNat default = c at *; subst heq; simp (discharger := omega) [wrapId', fmarkText, Int.add_assoc] at *; done)
  · simp (discharger := omega) only [wrapId']
    refine ⟨⟨by omega, by omega, ?_⟩, ?_⟩
    · rw [toNat1 (by omega), ht]
      first | done | (simp only [mkString]; done) | (simp only [mkString]; omega)
    · omega
  · have e1 : l.take y1.2.1.toNat = l := List.take_of_length_le (by omega)
    rw [e1] at i3
    show (y1.1, ()) = ((markL mkString l k).2, ())
    rw [i3.2.2])
def E4 : D.Env := E3.add 27 fheldStringS
theorem E4ok : EOk Try.prog E4 := E3ok.add k27_3
-- laws.szAddr
set_option maxHeartbeats 2000000 in
theorem k83_4 : fszAddr.ok Try.prog 83 := Fct.of (S := fszAddr) (L := fun _ _ => none) (kp := [0,1,2,4,11,18]) E4ok Try.func83 (by kernel_rfl) (by kernel_rfl) (by
  rintro ⟨(x : SAddr), (n : Int), _⟩ hp
  refine holds_of (X := .br (decide (IntKind.i64.wrap (n - (↑x.host.size : Int)) < (0 : Int)))
 (.leaf (mkR fszAddr.rs ((-1 : Int), ())) [] [])
 (.br (decide (IntKind.i64.wrap (IntKind.i64.wrap (n - (↑x.host.size : Int)) - (↑x.path.size : Int)) < (0 : Int)))
  (.leaf (mkR fszAddr.rs ((-1 : Int), ())) [] [])
  (.leaf (mkR fszAddr.rs (IntKind.i64.wrap (IntKind.i64.wrap (n - (↑x.host.size : Int)) - (↑x.path.size : Int)), ())) [] []))) (by kernel_rfl) ?_
  refine br_i (fun h1 => Fct.leafY ?_) (fun h1 => br_i (fun h2 => Fct.leafY ?_) (fun h2 => Fct.leafY ?_))
  all_goals try simp only [decide_eq_true_eq, decide_eq_false_iff_not, Bool.not_eq_true', Bool.not_eq_false', bne_iff_ne, bne_eq_false_iff_eq, beq_iff_eq, beq_eq_false_iff_ne, baEq, Int.not_lt, Int.not_le, ne_eq, Decidable.not_not] at *
  all_goals try simp only [fszAddr, baSz, List.size_toArray, List.length_cons, List.length_nil, Nat.reduceAdd, Int.toNat_zero, List.drop_zero, decide_eq_true_eq, decide_eq_false_iff_not, Bool.not_eq_true', Bool.not_eq_false', bne_iff_ne, bne_eq_false_iff_eq, beq_iff_eq, beq_eq_false_iff_ne, Bool.not_eq_true, Bool.not_eq_false, ne_eq, Decidable.not_not, baEq, decide_not, Prod.mk.injEq, and_true, true_and, Room, List.nil_append, Nat.zero_add, Int.not_lt, Int.not_le, Sh.good, Sh.fc, enc, List.forall_mem_cons, List.not_mem_nil, false_implies, implies_true, goodC, maxLen] at *
  all_goals grind [wrapId', lessen, szAddr])
def E5 : D.Env := E4.add 83 fszAddr
theorem E5ok : EOk Try.prog E5 := E4ok.add k83_4
-- laws.toAddr
theorem k93_5 : ftoAddr.ok Try.prog 93 := Fct.of (S := ftoAddr) (L := fun _ _ => none) (kp := [0,1,2,3]) E5ok Try.func93 (by kernel_rfl) (by kernel_rfl) (by
  rintro ⟨(x : SAddr), _⟩ hp
  refine holds_of (X := .leaf (mkR ftoAddr.rs (x, ())) [] []) (by kernel_rfl) ?_
  refine Fct.leafY ?_
  all_goals try simp only [decide_eq_true_eq, decide_eq_false_iff_not, Bool.not_eq_true', Bool.not_eq_false', bne_iff_ne, bne_eq_false_iff_eq, beq_iff_eq, beq_eq_false_iff_ne, baEq, Int.not_lt, Int.not_le, ne_eq, Decidable.not_not] at *
  all_goals try simp only [ftoAddr, baSz, List.size_toArray, List.length_cons, List.length_nil, Nat.reduceAdd, Int.toNat_zero, List.drop_zero, decide_eq_true_eq, decide_eq_false_iff_not, Bool.not_eq_true', Bool.not_eq_false', bne_iff_ne, bne_eq_false_iff_eq, beq_iff_eq, beq_eq_false_iff_ne, Bool.not_eq_true, Bool.not_eq_false, ne_eq, Decidable.not_not, baEq, decide_not, Prod.mk.injEq, and_true, true_and, Room, List.nil_append, Nat.zero_add, Int.not_lt, Int.not_le] at *
  all_goals first | trivial | rfl | grind [szAddr])
def E6 : D.Env := E5.add 93 ftoAddr
theorem E6ok : EOk Try.prog E6 := E5ok.add k93_5
-- laws.eqAddr
set_option maxHeartbeats 2000000 in
theorem k40_6 : feqAddr.ok Try.prog 40 := Fct.of (S := feqAddr) (L := fun _ _ => none) (kp := [0,1,2,3,4,9,14]) E6ok Try.func40 (by kernel_rfl) (by kernel_rfl) (by
  rintro ⟨(x : SAddr), (y : SAddr), _⟩ hp
  refine holds_of (X := .br (!x.host.toList == y.host.toList)
 (.leaf (mkR feqAddr.rs (false, ())) [] [])
 (.br (!x.path.toList == y.path.toList)
  (.leaf (mkR feqAddr.rs (false, ())) [] [])
  (.leaf (mkR feqAddr.rs (true, ())) [] []))) (by kernel_rfl) ?_
  refine br_i (fun h1 => Fct.leafY ?_) (fun h1 => br_i (fun h2 => Fct.leafY ?_) (fun h2 => Fct.leafY ?_))
  all_goals try simp only [decide_eq_true_eq, decide_eq_false_iff_not, Bool.not_eq_true', Bool.not_eq_false', bne_iff_ne, bne_eq_false_iff_eq, beq_iff_eq, beq_eq_false_iff_ne, baEq, Int.not_lt, Int.not_le, ne_eq, Decidable.not_not] at *
  all_goals try simp only [feqAddr, baSz, List.size_toArray, List.length_cons, List.length_nil, Nat.reduceAdd, Int.toNat_zero, List.drop_zero, decide_eq_true_eq, decide_eq_false_iff_not, Bool.not_eq_true', Bool.not_eq_false', bne_iff_ne, bne_eq_false_iff_eq, beq_iff_eq, beq_eq_false_iff_ne, Bool.not_eq_true, Bool.not_eq_false, ne_eq, Decidable.not_not, baEq, decide_not, Prod.mk.injEq, and_true, true_and, Room, List.nil_append, Nat.zero_add, Int.not_lt, Int.not_le] at *
  all_goals first | trivial | (cases x; cases y; simp_all; done) | (simp only [szAddr] at *; omega) | grind [szAddr])
def E7 : D.Env := E6.add 40 feqAddr
theorem E7ok : EOk Try.prog E7 := E6ok.add k40_6
-- laws.szResponse
set_option maxHeartbeats 2000000 in
theorem k184_7 : fszResponse.ok Try.prog 184 := Fct.of (S := fszResponse) (L := fun _ _ => none) (kp := [0,1,2,4,11,18]) E7ok Try.func184 (by kernel_rfl) (by kernel_rfl) (by
  rintro ⟨(x : SResponse), (n : Int), _⟩ hp
  refine holds_of (X := .br (decide (IntKind.i64.wrap (n - (↑x.body.size : Int)) < (0 : Int)))
 (.leaf (mkR fszResponse.rs ((-1 : Int), ())) [] [])
 (.br (decide (IntKind.i64.wrap (IntKind.i64.wrap (n - (↑x.body.size : Int)) - (↑x.policy.size : Int)) < (0 : Int)))
  (.leaf (mkR fszResponse.rs ((-1 : Int), ())) [] [])
  (.leaf (mkR fszResponse.rs (IntKind.i64.wrap (IntKind.i64.wrap (n - (↑x.body.size : Int)) - (↑x.policy.size : Int)), ())) [] []))) (by kernel_rfl) ?_
  refine br_i (fun h1 => Fct.leafY ?_) (fun h1 => br_i (fun h2 => Fct.leafY ?_) (fun h2 => Fct.leafY ?_))
  all_goals try simp only [decide_eq_true_eq, decide_eq_false_iff_not, Bool.not_eq_true', Bool.not_eq_false', bne_iff_ne, bne_eq_false_iff_eq, beq_iff_eq, beq_eq_false_iff_ne, baEq, Int.not_lt, Int.not_le, ne_eq, Decidable.not_not] at *
  all_goals try simp only [fszResponse, baSz, List.size_toArray, List.length_cons, List.length_nil, Nat.reduceAdd, Int.toNat_zero, List.drop_zero, decide_eq_true_eq, decide_eq_false_iff_not, Bool.not_eq_true', Bool.not_eq_false', bne_iff_ne, bne_eq_false_iff_eq, beq_iff_eq, beq_eq_false_iff_ne, Bool.not_eq_true, Bool.not_eq_false, ne_eq, Decidable.not_not, baEq, decide_not, Prod.mk.injEq, and_true, true_and, Room, List.nil_append, Nat.zero_add, Int.not_lt, Int.not_le, Sh.good, Sh.fc, enc, List.forall_mem_cons, List.not_mem_nil, false_implies, implies_true, goodC, maxLen] at *
  all_goals grind [wrapId', lessen, szResponse])
def E8 : D.Env := E7.add 184 fszResponse
theorem E8ok : EOk Try.prog E8 := E7ok.add k184_7
-- laws.toResponse
theorem k186_8 : ftoResponse.ok Try.prog 186 := Fct.of (S := ftoResponse) (L := fun _ _ => none) (kp := [0,1,2,3]) E8ok Try.func186 (by kernel_rfl) (by kernel_rfl) (by
  rintro ⟨(x : SResponse), _⟩ hp
  refine holds_of (X := .leaf (mkR ftoResponse.rs (x, ())) [] []) (by kernel_rfl) ?_
  refine Fct.leafY ?_
  all_goals try simp only [decide_eq_true_eq, decide_eq_false_iff_not, Bool.not_eq_true', Bool.not_eq_false', bne_iff_ne, bne_eq_false_iff_eq, beq_iff_eq, beq_eq_false_iff_ne, baEq, Int.not_lt, Int.not_le, ne_eq, Decidable.not_not] at *
  all_goals try simp only [ftoResponse, baSz, List.size_toArray, List.length_cons, List.length_nil, Nat.reduceAdd, Int.toNat_zero, List.drop_zero, decide_eq_true_eq, decide_eq_false_iff_not, Bool.not_eq_true', Bool.not_eq_false', bne_iff_ne, bne_eq_false_iff_eq, beq_iff_eq, beq_eq_false_iff_ne, Bool.not_eq_true, Bool.not_eq_false, ne_eq, Decidable.not_not, baEq, decide_not, Prod.mk.injEq, and_true, true_and, Room, List.nil_append, Nat.zero_add, Int.not_lt, Int.not_le] at *
  all_goals first | trivial | rfl | grind [szResponse])
def E9 : D.Env := E8.add 186 ftoResponse
theorem E9ok : EOk Try.prog E9 := E8ok.add k186_8
-- laws.eqResponse
set_option maxHeartbeats 2000000 in
theorem k188_9 : feqResponse.ok Try.prog 188 := Fct.of (S := feqResponse) (L := fun _ _ => none) (kp := [0,1,2,3,4,9,14,19,24,29,34]) E9ok Try.func188 (by kernel_rfl) (by kernel_rfl) (by
  rintro ⟨(x : SResponse), (y : SResponse), _⟩ hp
  refine holds_of (X := .br (x.status != y.status)
 (.leaf (mkR feqResponse.rs (false, ())) [] [])
 (.br (x.kind != y.kind)
  (.leaf (mkR feqResponse.rs (false, ())) [] [])
  (.br (!x.body.toList == y.body.toList)
   (.leaf (mkR feqResponse.rs (false, ())) [] [])
   (.br (x.age != y.age)
    (.leaf (mkR feqResponse.rs (false, ())) [] [])
    (.br (!x.shares == y.shares)
     (.leaf (mkR feqResponse.rs (false, ())) [] [])
     (.br (!x.policy.toList == y.policy.toList)
      (.leaf (mkR feqResponse.rs (false, ())) [] [])
      (.leaf (mkR feqResponse.rs (true, ())) [] []))))))) (by kernel_rfl) ?_
  refine br_i (fun h1 => Fct.leafY ?_) (fun h1 => br_i (fun h2 => Fct.leafY ?_) (fun h2 => br_i (fun h3 => Fct.leafY ?_) (fun h3 => br_i (fun h4 => Fct.leafY ?_) (fun h4 => br_i (fun h5 => Fct.leafY ?_) (fun h5 => br_i (fun h6 => Fct.leafY ?_) (fun h6 => Fct.leafY ?_))))))
  all_goals try simp only [decide_eq_true_eq, decide_eq_false_iff_not, Bool.not_eq_true', Bool.not_eq_false', bne_iff_ne, bne_eq_false_iff_eq, beq_iff_eq, beq_eq_false_iff_ne, baEq, Int.not_lt, Int.not_le, ne_eq, Decidable.not_not] at *
  all_goals try simp only [feqResponse, baSz, List.size_toArray, List.length_cons, List.length_nil, Nat.reduceAdd, Int.toNat_zero, List.drop_zero, decide_eq_true_eq, decide_eq_false_iff_not, Bool.not_eq_true', Bool.not_eq_false', bne_iff_ne, bne_eq_false_iff_eq, beq_iff_eq, beq_eq_false_iff_ne, Bool.not_eq_true, Bool.not_eq_false, ne_eq, Decidable.not_not, baEq, decide_not, Prod.mk.injEq, and_true, true_and, Room, List.nil_append, Nat.zero_add, Int.not_lt, Int.not_le] at *
  all_goals first | trivial | (cases x; cases y; simp_all; done) | (simp only [szResponse] at *; omega) | grind [szResponse])
def E10 : D.Env := E9.add 188 feqResponse
theorem E10ok : EOk Try.prog E10 := E9ok.add k188_9
-- laws.szFile
set_option maxHeartbeats 2000000 in
theorem k183_10 : fszFile.ok Try.prog 183 := Fct.of (S := fszFile) (L := fun _ _ => none) (kp := [0,1,2,4,11,17]) E10ok Try.func183 (by kernel_rfl) (by kernel_rfl) (by
  rintro ⟨(x : SFile), (n : Int), _⟩ hp
  refine holds_of (X := .br (decide (IntKind.i64.wrap (n - (↑x.path.size : Int)) < (0 : Int)))
 (.leaf (mkR fszFile.rs ((-1 : Int), ())) [] [])
 (.ob (fszResponse.pre (x.response, IntKind.i64.wrap (n - (↑x.path.size : Int)), ())) <|
  .lt (Int × PUnit) (fszResponse.fn (x.response, IntKind.i64.wrap (n - (↑x.path.size : Int)), ())) fun z2 =>
  .br (decide (z2.fst < (0 : Int)))
   (.leaf (mkR fszFile.rs ((-1 : Int), ())) [] [])
   (.leaf (mkR fszFile.rs (z2.fst, ())) [] []))) (by kernel_rfl) ?_
  refine br_i (fun h1 => Fct.leafY ?_) (fun h1 => ob_i ?_ fun o2 => lt_i (br_i (fun h3 => Fct.leafY ?_) (fun h3 => Fct.leafY ?_)))
  all_goals try simp only [decide_eq_true_eq, decide_eq_false_iff_not, Bool.not_eq_true', Bool.not_eq_false', bne_iff_ne, bne_eq_false_iff_eq, beq_iff_eq, beq_eq_false_iff_ne, baEq, Int.not_lt, Int.not_le, ne_eq, Decidable.not_not] at *
  all_goals try simp only [fszFile, fszResponse, baSz, List.size_toArray, List.length_cons, List.length_nil, Nat.reduceAdd, Int.toNat_zero, List.drop_zero, decide_eq_true_eq, decide_eq_false_iff_not, Bool.not_eq_true', Bool.not_eq_false', bne_iff_ne, bne_eq_false_iff_eq, beq_iff_eq, beq_eq_false_iff_ne, Bool.not_eq_true, Bool.not_eq_false, ne_eq, Decidable.not_not, baEq, decide_not, Prod.mk.injEq, and_true, true_and, Room, List.nil_append, Nat.zero_add, Int.not_lt, Int.not_le, Sh.good, Sh.fc, enc, List.forall_mem_cons, List.not_mem_nil, false_implies, implies_true, goodC, maxLen] at *
  all_goals grind [wrapId', lessen, szFile, szResponse])
def E11 : D.Env := E10.add 183 fszFile
theorem E11ok : EOk Try.prog E11 := E10ok.add k183_10
-- laws.toFile
theorem k185_11 : ftoFile.ok Try.prog 185 := Fct.of (S := ftoFile) (L := fun _ _ => none) (kp := [0,1,2,3]) E11ok Try.func185 (by kernel_rfl) (by kernel_rfl) (by
  rintro ⟨(x : SFile), _⟩ hp
  refine holds_of (X := .ob (ftoResponse.pre (x.response, ())) <|
 .lt (SResponse × PUnit) (ftoResponse.fn (x.response, ())) fun z2 =>
 .leaf (mkR ftoFile.rs (⟨x.path, z2.fst⟩, ())) [] []) (by kernel_rfl) ?_
  refine ob_i ?_ fun o1 => lt_i (Fct.leafY ?_)
  all_goals try simp only [decide_eq_true_eq, decide_eq_false_iff_not, Bool.not_eq_true', Bool.not_eq_false', bne_iff_ne, bne_eq_false_iff_eq, beq_iff_eq, beq_eq_false_iff_ne, baEq, Int.not_lt, Int.not_le, ne_eq, Decidable.not_not] at *
  all_goals try simp only [ftoFile, ftoResponse, baSz, List.size_toArray, List.length_cons, List.length_nil, Nat.reduceAdd, Int.toNat_zero, List.drop_zero, decide_eq_true_eq, decide_eq_false_iff_not, Bool.not_eq_true', Bool.not_eq_false', bne_iff_ne, bne_eq_false_iff_eq, beq_iff_eq, beq_eq_false_iff_ne, Bool.not_eq_true, Bool.not_eq_false, ne_eq, Decidable.not_not, baEq, decide_not, Prod.mk.injEq, and_true, true_and, Room, List.nil_append, Nat.zero_add, Int.not_lt, Int.not_le] at *
  all_goals first | trivial | rfl | grind [szFile, szResponse])
def E12 : D.Env := E11.add 185 ftoFile
theorem E12ok : EOk Try.prog E12 := E11ok.add k185_11
-- laws.eqFile
set_option maxHeartbeats 2000000 in
theorem k187_12 : feqFile.ok Try.prog 187 := Fct.of (S := feqFile) (L := fun _ _ => none) (kp := [0,1,2,3,4,9,15]) E12ok Try.func187 (by kernel_rfl) (by kernel_rfl) (by
  rintro ⟨(x : SFile), (y : SFile), _⟩ hp
  refine holds_of (X := .br (!x.path.toList == y.path.toList)
 (.leaf (mkR feqFile.rs (false, ())) [] [])
 (.ob (feqResponse.pre (x.response, y.response, ())) <|
  .lt (Bool × PUnit) (feqResponse.fn (x.response, y.response, ())) fun z2 =>
  .br (!z2.fst)
   (.leaf (mkR feqFile.rs (false, ())) [] [])
   (.leaf (mkR feqFile.rs (true, ())) [] []))) (by kernel_rfl) ?_
  refine br_i (fun h1 => Fct.leafY ?_) (fun h1 => ob_i trivial fun _ => lt_i (br_i (fun h2 => Fct.leafY ?_) (fun h2 => Fct.leafY ?_)))
  all_goals try simp only [decide_eq_true_eq, decide_eq_false_iff_not, Bool.not_eq_true', Bool.not_eq_false', bne_iff_ne, bne_eq_false_iff_eq, beq_iff_eq, beq_eq_false_iff_ne, baEq, Int.not_lt, Int.not_le, ne_eq, Decidable.not_not] at *
  all_goals try simp only [feqFile, feqResponse, baSz, List.size_toArray, List.length_cons, List.length_nil, Nat.reduceAdd, Int.toNat_zero, List.drop_zero, decide_eq_true_eq, decide_eq_false_iff_not, Bool.not_eq_true', Bool.not_eq_false', bne_iff_ne, bne_eq_false_iff_eq, beq_iff_eq, beq_eq_false_iff_ne, Bool.not_eq_true, Bool.not_eq_false, ne_eq, Decidable.not_not, baEq, decide_not, Prod.mk.injEq, and_true, true_and, Room, List.nil_append, Nat.zero_add, Int.not_lt, Int.not_le] at *
  all_goals first | trivial | (cases x; cases y; simp_all; done) | (simp only [szFile, szResponse] at *; omega) | grind [szFile, szResponse])
def E13 : D.Env := E12.add 187 feqFile
theorem E13ok : EOk Try.prog E13 := E12ok.add k187_12
-- laws.szFileS
set_option maxHeartbeats 2000000 in
theorem k158_13 : fszFileS.ok Try.prog 158 := Fct.of (S := fszFileS) (L := fun ⟨l, n, _⟩ => fun | 5 => some (LszS .file szFile l n) | _ => none) (kp := [0,1,4,5,11,15,25]) E13ok Try.func158 (by kernel_rfl) (by kernel_rfl) (by
  rintro ⟨(l : List SFile), (n : Int), _⟩ hp
  refine holds_of (X := .br (decide (IntKind.i64.wrap (n - (↑l.length : Int)) < (0 : Int)))
 (.leaf (mkR fszFileS.rs ((-1 : Int), ())) [] [])
 (lpx (LszS .file szFile l n) (IntKind.i64.wrap (n - (↑l.length : Int)), ((0 : Int), ())) fun (y2 : Int × Int × PUnit) bk2 =>
  .br (decide (y2.snd.fst < (↑l.length : Int)))
   (.ob ((0 : Int) ≤ y2.snd.fst ∧ y2.snd.fst < (↑l.length : Int)) <|
    .ob (fszFile.pre (l.getD y2.snd.fst.toNat default, y2.fst, ())) <|
    .lt (Int × PUnit) (fszFile.fn (l.getD y2.snd.fst.toNat default, y2.fst, ())) fun z2 =>
    .br (decide (z2.fst < (0 : Int)))
     (.leaf (mkR fszFileS.rs ((-1 : Int), ())) [] [])
     (.ob (l = l) <|
      .ob (Value.bool (decide (IntKind.i64.wrap (n - (↑l.length : Int)) < (0 : Int))) =
  Value.bool (decide (IntKind.i64.wrap (n - (↑l.length : Int)) < (0 : Int)))) <|
      .ob (bk2 (z2.fst, (IntKind.i64.wrap (y2.snd.fst + (1 : Int)), ()))) <|
      .ok))
   (.leaf (mkR fszFileS.rs (y2.fst, ())) [] []))) (by kernel_rfl) ?_
  refine br_i (fun h1 => Fct.leafY ?_) (fun h1 => lpx_i ?_ fun (y2 : Int × Int × PUnit) i2 => br_i (fun h3 => ob_i ?_ fun o4 => ob_i ?_ fun o5 => lt_i (br_i (fun h6 => Fct.leafY ?_) (fun h6 => ob_i rfl fun _ => ob_i rfl fun _ => ob_i ?_ fun o7 => trivial))) (fun h3 => Fct.leafY ?_))
  all_goals try simp only [decide_eq_true_eq, decide_eq_false_iff_not, Bool.not_eq_true', Bool.not_eq_false', bne_iff_ne, bne_eq_false_iff_eq, beq_iff_eq, beq_eq_false_iff_ne, baEq, Int.not_lt, Int.not_le, ne_eq, Decidable.not_not] at *
  all_goals try simp only [LszS, fszFile, fszFileS, baSz, List.size_toArray, List.length_cons, List.length_nil, Nat.reduceAdd, Int.toNat_zero, List.drop_zero, decide_eq_true_eq, decide_eq_false_iff_not, Bool.not_eq_true', Bool.not_eq_false', bne_iff_ne, bne_eq_false_iff_eq, beq_iff_eq, beq_eq_false_iff_ne, Bool.not_eq_true, Bool.not_eq_false, ne_eq, Decidable.not_not, baEq, decide_not, Prod.mk.injEq, and_true, true_and, Room, List.nil_append, Nat.zero_add, Int.not_lt, Int.not_le] at *
  · have := good_len hp.1; simp only [maxLen] at this; rw [wrapId (by omega)] at h1
    rw [lessenNeg (by simp only [szL]; omega)]
  · have := good_len hp.1; simp only [maxLen] at this
    rw [wrapId (by omega)] at h1 ⊢
    exact ⟨by omega, by omega, h1, by simp⟩
  · omega
  · exact ⟨good_getD hp.1 (by omega), by omega, by omega⟩
  · have hs := sum_take_le szFile l (y2.2.1.toNat + 1)
    rw [sum_take szFile (by omega)] at hs
    rw [lessen_lt (by omega)] at h6
    rw [lessenNeg (by simp only [szL]; omega)]
  · have hw : IntKind.i64.wrap (y2.2.1 + 1) = y2.2.1 + 1 := wrapId (by have := good_len hp.1; simp only [maxLen] at this; omega)
    have h7 : ¬ lessen y2.1 (szFile (l.getD y2.2.1.toNat default)) < 0 := by omega
    rw [lessen_lt (by omega)] at h7
    rw [hw, toNat1 (by omega), sum_take szFile (by omega), lessen_ge (by omega)]
    exact ⟨⟨by omega, by omega, by omega, by omega⟩, by omega⟩
  · have e : l.take y2.2.1.toNat = l := List.take_of_length_le (by omega)
    rw [e] at i2
    have hz : ((szL szFile l : Nat) : Int) = l.length + (l.map szFile).sum := by simp only [szL]; omega
    rw [lessen_ge (by omega)]
    show y2.1 = n - ((szL szFile l : Nat) : Int)
    omega)
def E14 : D.Env := E13.add 158 fszFileS
theorem E14ok : EOk Try.prog E14 := E13ok.add k158_13
-- laws.toFileS
theorem k160_14 : ftoFileS.ok Try.prog 160 := Fct.of (S := ftoFileS) (L := fun ⟨l, _⟩ => fun | 3 => some (LtoS .file l) | _ => none) (kp := [0,2,3,4,11]) E14ok Try.func160 (by kernel_rfl) (by kernel_rfl) (by
  rintro ⟨(l : List SFile), _⟩ hp
  refine holds_of (X := .ob ((↑l.length : Int) = (↑l.length : Int) ∧
  (0 : Int) ≤ (↑l.length : Int) ∧
    (80 : Int) * (↑l.length : Int) ≤ (140737488355328 : Int) ∧ (↑l.length : Int) ≤ (140737488355328 : Int)) <|
 lpx (LtoS .file l) ((0 : Int), (List.replicate (↑l.length : Int).toNat default, ())) fun (y2 : Int × List SFile × PUnit) bk2 =>
 .br (decide (y2.fst < (↑l.length : Int)))
  (.ob ((0 : Int) ≤ y2.fst ∧ y2.fst < (↑l.length : Int)) <|
   .ob (ftoFile.pre (l.getD y2.fst.toNat default, ())) <|
   .lt (SFile × PUnit) (ftoFile.fn (l.getD y2.fst.toNat default, ())) fun z2 =>
   .ob ((0 : Int) ≤ y2.fst ∧ y2.fst < (↑y2.snd.fst.length : Int)) <|
    .ob (y2.fst.toNat < y2.snd.fst.length) <|
    .lt (List SFile) (y2.snd.fst.modify y2.fst.toNat fun z => z2.fst) fun z3 =>
    .ob (l = l) <|
     .ob (bk2 (IntKind.i64.wrap (y2.fst + (1 : Int)), (z3, ()))) <|
     .ok)
  (.leaf (mkR ftoFileS.rs (y2.snd.fst, ())) [] [])) (by kernel_rfl) ?_
  refine ob_i ?_ fun o1 => lpx_i ?_ fun (y2 : Int × List SFile × PUnit) i2 => br_i (fun h3 => ob_i ?_ fun o4 => ob_i ?_ fun o5 => lt_i (ob_i ?_ fun o6 => ob_i ?_ fun o7 => lt_i (ob_i rfl fun _ => ob_i ?_ fun o8 => trivial))) (fun h3 => Fct.leafY ?_)
  all_goals try simp only [decide_eq_true_eq, decide_eq_false_iff_not, Bool.not_eq_true', Bool.not_eq_false', bne_iff_ne, bne_eq_false_iff_eq, beq_iff_eq, beq_eq_false_iff_ne, baEq, Int.not_lt, Int.not_le, ne_eq, Decidable.not_not] at *
  all_goals try simp only [LtoS, ftoFile, ftoFileS, baSz, List.size_toArray, List.length_cons, List.length_nil, Nat.reduceAdd, Int.toNat_zero, List.drop_zero, decide_eq_true_eq, decide_eq_false_iff_not, Bool.not_eq_true', Bool.not_eq_false', bne_iff_ne, bne_eq_false_iff_eq, beq_iff_eq, beq_eq_false_iff_ne, Bool.not_eq_true, Bool.not_eq_false, ne_eq, Decidable.not_not, baEq, decide_not, Prod.mk.injEq, and_true, true_and, Room, List.nil_append, Nat.zero_add, Int.not_lt, Int.not_le] at *
  · have := szL_len szFile l; omega
  · exact ⟨by omega, by omega, by simp⟩
  · omega
  · have hs := sum_take_le szFile l (y2.1.toNat + 1)
    rw [sum_take szFile (by omega)] at hs
    simp only [szL] at hp; omega
  · rw [i2.2.2]; simp; omega
  · rw [i2.2.2]; simp; omega
  · have hw : IntKind.i64.wrap (y2.1 + 1) = y2.1 + 1 := wrapId (by have := szL_len szFile l; omega)
    rw [hw, toNat1 (by omega), i2.2.2]
    refine ⟨⟨by omega, by omega, ?_⟩, by omega⟩
    rw [show l.length - y2.1.toNat = (l.length - (y2.1.toNat + 1)) + 1 from by omega, List.replicate_succ, mod_at (by simp; omega), take_succ (by omega)]
    simp
  · have e : l.take y2.1.toNat = l := List.take_of_length_le (by omega)
    rw [i2.2.2, e]; simp; omega)
def E15 : D.Env := E14.add 160 ftoFileS
theorem E15ok : EOk Try.prog E15 := E14ok.add k160_14
-- laws.eqFileS
set_option maxHeartbeats 2000000 in
theorem k162_15 : feqFileS.ok Try.prog 162 := Fct.of (S := feqFileS) (L := fun ⟨l, m, _⟩ => fun | 4 => some (LeqS .file l m) | _ => none) (kp := [0,1,4,5,10,14,26]) E15ok Try.func162 (by kernel_rfl) (by kernel_rfl) (by
  rintro ⟨(l : List SFile), (m : List SFile), _⟩ hp
  refine holds_of (X := .br ((↑l.length : Int) != (↑m.length : Int))
 (.leaf (mkR feqFileS.rs (false, ())) [] [])
 (lpx (LeqS .file l m) ((0 : Int), ()) fun (y2 : Int × PUnit) bk2 =>
  .br (decide (y2.fst < (↑l.length : Int)))
   (.ob ((0 : Int) ≤ y2.fst ∧ y2.fst < (↑l.length : Int)) <|
    .ob ((0 : Int) ≤ y2.fst ∧ y2.fst < (↑m.length : Int)) <|
    .ob (feqFile.pre (l.getD y2.fst.toNat default, m.getD y2.fst.toNat default, ())) <|
    .lt (Bool × PUnit) (feqFile.fn (l.getD y2.fst.toNat default, m.getD y2.fst.toNat default, ())) fun z2 =>
    .br (!z2.fst)
     (.leaf (mkR feqFileS.rs (false, ())) [] [])
     (.ob (l = l) <|
      .ob (m = m) <|
      .ob (Value.bool ((↑l.length : Int) != (↑m.length : Int)) = Value.bool ((↑l.length : Int) != (↑m.length : Int))) <|
      .ob (bk2 (IntKind.i64.wrap (y2.fst + (1 : Int)), ())) <|
      .ok))
   (.leaf (mkR feqFileS.rs (true, ())) [] []))) (by kernel_rfl) ?_
  refine br_i (fun h1 => Fct.leafY ?_) (fun h1 => lpx_i ?_ fun (y2 : Int × PUnit) i2 => br_i (fun h3 => ob_i ?_ fun o4 => ob_i ?_ fun o5 => ob_i trivial fun _ => lt_i (br_i (fun h6 => Fct.leafY ?_) (fun h6 => ob_i rfl fun _ => ob_i rfl fun _ => ob_i rfl fun _ => ob_i ?_ fun o7 => trivial))) (fun h3 => Fct.leafY ?_))
  all_goals try simp only [decide_eq_true_eq, decide_eq_false_iff_not, Bool.not_eq_true', Bool.not_eq_false', bne_iff_ne, bne_eq_false_iff_eq, beq_iff_eq, beq_eq_false_iff_ne, baEq, Int.not_lt, Int.not_le, ne_eq, Decidable.not_not] at *
  all_goals try simp only [LeqS, feqFile, feqFileS, baSz, List.size_toArray, List.length_cons, List.length_nil, Nat.reduceAdd, Int.toNat_zero, List.drop_zero, decide_eq_true_eq, decide_eq_false_iff_not, Bool.not_eq_true', Bool.not_eq_false', bne_iff_ne, bne_eq_false_iff_eq, beq_iff_eq, beq_eq_false_iff_ne, Bool.not_eq_true, Bool.not_eq_false, ne_eq, Decidable.not_not, baEq, decide_not, Prod.mk.injEq, and_true, true_and, Room, List.nil_append, Nat.zero_add, Int.not_lt, Int.not_le] at *
  · rw [decide_eq_false]; rintro rfl; omega
  · exact ⟨by omega, by omega, by simp⟩
  · omega
  · omega
  · rw [decide_eq_false]; rintro rfl; exact absurd rfl h6
  · have hw : IntKind.i64.wrap (y2.1 + 1) = y2.1 + 1 := wrapId (by omega)
    rw [hw, toNat1 (by omega)]
    refine ⟨⟨by omega, by omega, ?_⟩, by omega⟩
    rw [take_succ (by omega), take_succ (by omega), i2.2.2, h6]
  · have e : l.take y2.1.toNat = l := List.take_of_length_le (by omega)
    have e2 : m.take y2.1.toNat = m := List.take_of_length_le (by omega)
    rw [decide_eq_true]; rw [← e, ← e2, i2.2.2])
def E16 : D.Env := E15.add 162 feqFileS
theorem E16ok : EOk Try.prog E16 := E15ok.add k162_15
-- laws.markFileS
set_option maxHeartbeats 2000000 in
theorem k129_16 : fmarkFileS.ok Try.prog 129 := MS.of (S := fmarkFileS) (L := fun l k => fun | 2 => some (LmkS .file mkFile l k) | _ => none) (kp := [0,1,4,5,9]) (kl := [0]) E16ok Try.func129 (by kernel_rfl) (by kernel_rfl) (by
  rintro (l : List SFile) (k : Int) hp
  refine holds_of (X := lpx (LmkS .file mkFile l k) (k, ((0 : Int), (l, ()))) fun (y1 : Int × Int × List SFile × PUnit) bk1 =>
 .br (decide (y1.snd.fst < (↑y1.snd.snd.fst.length : Int)))
  (.ob (fmarkText.pre (y1.fst, ())) <|
   .lt (ByteArray × PUnit) (fmarkText.fn (y1.fst, ())) fun z2 =>
   .ob ((0 : Int) ≤ y1.snd.fst ∧ y1.snd.fst < (↑y1.snd.snd.fst.length : Int)) <|
    .ob (y1.snd.fst.toNat < y1.snd.snd.fst.length) <|
    .lt (List SFile) (y1.snd.snd.fst.modify y1.snd.fst.toNat fun z => { path := z2.fst, response := z.response : SFile }) fun z3 =>
    .ob ((0 : Int) ≤ y1.snd.fst ∧ y1.snd.fst < (↑z3.length : Int)) <|
     .ob (y1.snd.fst.toNat < z3.length) <|
     .lt (List SFile) (z3.modify y1.snd.fst.toNat fun z =>
  { path := z.path,
    response :=
      { status := IntKind.i64.wrap (y1.fst + (1 : Int)), kind := z.response.kind, body := z.response.body,
        age := z.response.age, shares := z.response.shares, policy := z.response.policy : SResponse } :
    SFile }) fun z4 =>
     .ob ((0 : Int) ≤ y1.snd.fst ∧ y1.snd.fst < (↑z4.length : Int)) <|
      .ob (y1.snd.fst.toNat < z4.length) <|
      .lt (List SFile) (z4.modify y1.snd.fst.toNat fun z =>
  { path := z.path,
    response :=
      { status := z.response.status, kind := IntKind.i64.wrap (IntKind.i64.wrap (y1.fst + (1 : Int)) + (1 : Int)),
        body := z.response.body, age := z.response.age, shares := z.response.shares, policy := z.response.policy :
        SResponse } :
    SFile }) fun z5 =>
      .ob (fmarkText.pre (IntKind.i64.wrap (IntKind.i64.wrap (IntKind.i64.wrap (y1.fst + (1 : Int)) + (1 : Int)) + (1 : Int)), ())) <|
       .lt (ByteArray × PUnit) (fmarkText.fn (IntKind.i64.wrap (IntKind.i64.wrap (IntKind.i64.wrap (y1.fst + (1 : Int)) + (1 : Int)) + (1 : Int)), ())) fun z6 =>
       .ob ((0 : Int) ≤ y1.snd.fst ∧ y1.snd.fst < (↑z5.length : Int)) <|
        .ob (y1.snd.fst.toNat < z5.length) <|
        .lt (List SFile) (z5.modify y1.snd.fst.toNat fun z =>
  { path := z.path,
    response :=
      { status := z.response.status, kind := z.response.kind, body := z6.fst, age := z.response.age,
        shares := z.response.shares, policy := z.response.policy : SResponse } :
    SFile }) fun z7 =>
        .ob ((0 : Int) ≤ y1.snd.fst ∧ y1.snd.fst < (↑z7.length : Int)) <|
         .ob (y1.snd.fst.toNat < z7.length) <|
         .lt (List SFile) (z7.modify y1.snd.fst.toNat fun z =>
  { path := z.path,
    response :=
      { status := z.response.status, kind := z.response.kind, body := z.response.body,
        age :=
          IntKind.i64.wrap
            (IntKind.i64.wrap (IntKind.i64.wrap (IntKind.i64.wrap (y1.fst + (1 : Int)) + (1 : Int)) + (1 : Int)) +
              (1 : Int)),
        shares := z.response.shares, policy := z.response.policy : SResponse } :
    SFile }) fun z8 =>
         .ob ((3 : Int) ≠ (0 : Int)) <|
          .ob ((0 : Int) ≤ y1.snd.fst ∧ y1.snd.fst < (↑z8.length : Int)) <|
          .ob (y1.snd.fst.toNat < z8.length) <|
          .lt (List SFile) (z8.modify y1.snd.fst.toNat fun z =>
  { path := z.path,
    response :=
      { status := z.response.status, kind := z.response.kind, body := z.response.body, age := z.response.age,
        shares :=
          (IntKind.i64.wrap
                  (IntKind.i64.wrap
                      (IntKind.i64.wrap
                          (IntKind.i64.wrap (IntKind.i64.wrap (y1.fst + (1 : Int)) + (1 : Int)) + (1 : Int)) +
                        (1 : Int)) +
                    (1 : Int))).tmod
              (3 : Int) ==
            (0 : Int),
        policy := z.response.policy : SResponse } :
    SFile }) fun z9 =>
          .ob (fmarkText.pre
  (IntKind.i64.wrap
      (IntKind.i64.wrap
          (IntKind.i64.wrap
              (IntKind.i64.wrap (IntKind.i64.wrap (IntKind.i64.wrap (y1.fst + (1 : Int)) + (1 : Int)) + (1 : Int)) +
                (1 : Int)) +
            (1 : Int)) +
        (1 : Int)),
    ())) <|
           .lt (ByteArray × PUnit) (fmarkText.fn
  (IntKind.i64.wrap
      (IntKind.i64.wrap
          (IntKind.i64.wrap
              (IntKind.i64.wrap (IntKind.i64.wrap (IntKind.i64.wrap (y1.fst + (1 : Int)) + (1 : Int)) + (1 : Int)) +
                (1 : Int)) +
            (1 : Int)) +
        (1 : Int)),
    ())) fun z10 =>
           .ob ((0 : Int) ≤ y1.snd.fst ∧ y1.snd.fst < (↑z9.length : Int)) <|
            .ob (y1.snd.fst.toNat < z9.length) <|
            .lt (List SFile) (z9.modify y1.snd.fst.toNat fun z =>
  { path := z.path,
    response :=
      { status := z.response.status, kind := z.response.kind, body := z.response.body, age := z.response.age,
        shares := z.response.shares, policy := z10.fst : SResponse } :
    SFile }) fun z11 =>
            .ob (Value.int IntKind.i64 (0 : Int) = Value.int IntKind.i64 (0 : Int)) <|
             .ob (bk1 (IntKind.i64.wrap
  (IntKind.i64.wrap
      (IntKind.i64.wrap
          (IntKind.i64.wrap
              (IntKind.i64.wrap (IntKind.i64.wrap (IntKind.i64.wrap (y1.fst + (1 : Int)) + (1 : Int)) + (1 : Int)) +
                (1 : Int)) +
            (1 : Int)) +
        (1 : Int)) +
    (1 : Int)), (IntKind.i64.wrap (y1.snd.fst + (1 : Int)), (z11, ())))) <|
             .ok)
  (.leaf (.one false [vi (y1.fst)]) [] [((0 : Nat), ⟨Ty.file, y1.snd.snd.fst⟩)])) (by kernel_rfl) ?_
  refine lpx_i ?_ fun (y1 : Int × Int × List SFile × PUnit) i1 => br_i (fun h2 => ob_i ?_ fun o3 => lt_i (ob_i ?_ fun o4 => ob_i ?_ fun o5 => lt_i (ob_i ?_ fun o6 => ob_i ?_ fun o7 => lt_i (ob_i ?_ fun o8 => ob_i ?_ fun o9 => lt_i (ob_i ?_ fun o10 => lt_i (ob_i ?_ fun o11 => ob_i ?_ fun o12 => lt_i (ob_i ?_ fun o13 => ob_i ?_ fun o14 => lt_i (ob_i ?_ fun o15 => ob_i ?_ fun o16 => ob_i ?_ fun o17 => lt_i (ob_i ?_ fun o18 => lt_i (ob_i ?_ fun o19 => ob_i ?_ fun o20 => lt_i (ob_i rfl fun _ => ob_i ?_ fun o21 => trivial))))))))))) (fun h2 => MS.leaf ?_)
  · exact ⟨by simp, by simp, by simp [markL], by simp [markL]⟩
  all_goals have hp1 : 0 ≤ k := hp.1
  all_goals have hp2 : (markL mkFile l k).2 ≤ 4000000000000000000 := hp.2
  all_goals have i3 : 0 ≤ y1.2.1 ∧ y1.2.1 ≤ l.length ∧ y1.1 = (markL mkFile (l.take y1.2.1.toNat) k).2 ∧ y1.2.2.1 = (markL mkFile (l.take y1.2.1.toNat) k).1 ++ l.drop y1.2.1.toNat := i1
  all_goals have hcnt := markL_cnt (f := mkFile) (fun x k => by simp only [mkFile]; omega) l k
  all_goals have hx : y1.2.2.1.length = l.length := by rw [i3.2.2.2, List.length_append, markL_len, List.length_take, List.length_drop]; omega
  all_goals simp only [decide_eq_true_eq, decide_eq_false_iff_not, hx] at h2
  all_goals clear i1
  all_goals try have hlt : y1.2.1.toNat < l.length := by omega
  all_goals try have ht := markL_take (f := mkFile) hlt k
  all_goals try have hle := (markL_take_le mkFile_mono l (y1.2.1.toNat + 1) k).2
  all_goals try have hl0 := (markL_take_le mkFile_mono l y1.2.1.toNat k).1
  all_goals try rw [ht] at hle
  all_goals try rw [← i3.2.2.1] at hle hl0 ht
  all_goals try simp only [mkFile] at hle
  all_goals first | decide | (simp only [List.length_modify, hx]; omega) | (refine ⟨?_, ?_⟩ <;> (try simp (discharger := omega) only [wrapId']) <;> omega) | skip
  · clear o3 o4 o5
    simp (discharger := omega) only [wrapId', fmarkText]
    have hA : (markL mkFile (l.take y1.2.1.toNat) k).1.length = y1.2.1.toNat := by rw [markL_len, List.length_take]; omega
    refine ⟨⟨by omega, by omega, ?_, ?_⟩, ?_⟩
    · rw [toNat1 (by omega), ht]
      first | done | (simp only [mkFile]; done) | (simp only [mkFile]; omega)
    · rw [toNat1 (by omega), ht, i3.2.2.2, drop_cons hlt]
      simp only [mod_at hA, mkFile, Int.add_assoc, Int.reduceAdd, List.append_assoc, List.cons_append, List.nil_append]
    · omega
  · refine MS.leafL (t := .file) (fn := fun l k => markL mkFile l k) ?_
    have e1 : l.take y1.2.1.toNat = l := List.take_of_length_le (by omega)
    have e2 : l.drop y1.2.1.toNat = [] := List.drop_of_length_le (by omega)
    rw [i3.2.2.2, i3.2.2.1, e1, e2, List.append_nil])
def E17 : D.Env := E16.addM 129 fmarkFileS
theorem E17ok : EOk Try.prog E17 := E16ok.addM k129_16
-- laws.szServer
set_option maxHeartbeats 2000000 in
theorem k117_17 : fszServer.ok Try.prog 117 := Fct.of (S := fszServer) (L := fun _ _ => none) (kp := [0,1,2,4,11,17]) E17ok Try.func117 (by kernel_rfl) (by kernel_rfl) (by
  rintro ⟨(x : SServer), (n : Int), _⟩ hp
  refine holds_of (X := .br (decide (IntKind.i64.wrap (n - (↑x.host.size : Int)) < (0 : Int)))
 (.leaf (mkR fszServer.rs ((-1 : Int), ())) [] [])
 (.ob (fszFileS.pre (x.files, IntKind.i64.wrap (n - (↑x.host.size : Int)), ())) <|
  .lt (Int × PUnit) (fszFileS.fn (x.files, IntKind.i64.wrap (n - (↑x.host.size : Int)), ())) fun z2 =>
  .br (decide (z2.fst < (0 : Int)))
   (.leaf (mkR fszServer.rs ((-1 : Int), ())) [] [])
   (.leaf (mkR fszServer.rs (z2.fst, ())) [] []))) (by kernel_rfl) ?_
  refine br_i (fun h1 => Fct.leafY ?_) (fun h1 => ob_i ?_ fun o2 => lt_i (br_i (fun h3 => Fct.leafY ?_) (fun h3 => Fct.leafY ?_)))
  all_goals try simp only [decide_eq_true_eq, decide_eq_false_iff_not, Bool.not_eq_true', Bool.not_eq_false', bne_iff_ne, bne_eq_false_iff_eq, beq_iff_eq, beq_eq_false_iff_ne, baEq, Int.not_lt, Int.not_le, ne_eq, Decidable.not_not] at *
  all_goals try simp only [fszFileS, fszServer, baSz, List.size_toArray, List.length_cons, List.length_nil, Nat.reduceAdd, Int.toNat_zero, List.drop_zero, decide_eq_true_eq, decide_eq_false_iff_not, Bool.not_eq_true', Bool.not_eq_false', bne_iff_ne, bne_eq_false_iff_eq, beq_iff_eq, beq_eq_false_iff_ne, Bool.not_eq_true, Bool.not_eq_false, ne_eq, Decidable.not_not, baEq, decide_not, Prod.mk.injEq, and_true, true_and, Room, List.nil_append, Nat.zero_add, Int.not_lt, Int.not_le, Sh.good, Sh.fc, enc, List.forall_mem_cons, List.not_mem_nil, false_implies, implies_true, goodC, maxLen] at *
  all_goals grind [wrapId', lessen, szL, szServer])
def E18 : D.Env := E17.add 117 fszServer
theorem E18ok : EOk Try.prog E18 := E17ok.add k117_17
-- laws.toServer
theorem k120_18 : ftoServer.ok Try.prog 120 := Fct.of (S := ftoServer) (L := fun _ _ => none) (kp := [0,1,2,3]) E18ok Try.func120 (by kernel_rfl) (by kernel_rfl) (by
  rintro ⟨(x : SServer), _⟩ hp
  refine holds_of (X := .ob (ftoFileS.pre (x.files, ())) <|
 .lt (List SFile × PUnit) (ftoFileS.fn (x.files, ())) fun z2 =>
 .leaf (mkR ftoServer.rs (⟨x.host, z2.fst⟩, ())) [] []) (by kernel_rfl) ?_
  refine ob_i ?_ fun o1 => lt_i (Fct.leafY ?_)
  all_goals try simp only [decide_eq_true_eq, decide_eq_false_iff_not, Bool.not_eq_true', Bool.not_eq_false', bne_iff_ne, bne_eq_false_iff_eq, beq_iff_eq, beq_eq_false_iff_ne, baEq, Int.not_lt, Int.not_le, ne_eq, Decidable.not_not] at *
  all_goals try simp only [ftoFileS, ftoServer, baSz, List.size_toArray, List.length_cons, List.length_nil, Nat.reduceAdd, Int.toNat_zero, List.drop_zero, decide_eq_true_eq, decide_eq_false_iff_not, Bool.not_eq_true', Bool.not_eq_false', bne_iff_ne, bne_eq_false_iff_eq, beq_iff_eq, beq_eq_false_iff_ne, Bool.not_eq_true, Bool.not_eq_false, ne_eq, Decidable.not_not, baEq, decide_not, Prod.mk.injEq, and_true, true_and, Room, List.nil_append, Nat.zero_add, Int.not_lt, Int.not_le] at *
  all_goals first | trivial | rfl | grind [szL, szServer])
def E19 : D.Env := E18.add 120 ftoServer
theorem E19ok : EOk Try.prog E19 := E18ok.add k120_18
-- laws.eqServer
set_option maxHeartbeats 2000000 in
theorem k123_19 : feqServer.ok Try.prog 123 := Fct.of (S := feqServer) (L := fun _ _ => none) (kp := [0,1,2,3,4,9,15]) E19ok Try.func123 (by kernel_rfl) (by kernel_rfl) (by
  rintro ⟨(x : SServer), (y : SServer), _⟩ hp
  refine holds_of (X := .br (!x.host.toList == y.host.toList)
 (.leaf (mkR feqServer.rs (false, ())) [] [])
 (.ob (feqFileS.pre (x.files, y.files, ())) <|
  .lt (Bool × PUnit) (feqFileS.fn (x.files, y.files, ())) fun z2 =>
  .br (!z2.fst)
   (.leaf (mkR feqServer.rs (false, ())) [] [])
   (.leaf (mkR feqServer.rs (true, ())) [] []))) (by kernel_rfl) ?_
  refine br_i (fun h1 => Fct.leafY ?_) (fun h1 => ob_i ?_ fun o2 => lt_i (br_i (fun h3 => Fct.leafY ?_) (fun h3 => Fct.leafY ?_)))
  all_goals try simp only [decide_eq_true_eq, decide_eq_false_iff_not, Bool.not_eq_true', Bool.not_eq_false', bne_iff_ne, bne_eq_false_iff_eq, beq_iff_eq, beq_eq_false_iff_ne, baEq, Int.not_lt, Int.not_le, ne_eq, Decidable.not_not] at *
  all_goals try simp only [feqFileS, feqServer, baSz, List.size_toArray, List.length_cons, List.length_nil, Nat.reduceAdd, Int.toNat_zero, List.drop_zero, decide_eq_true_eq, decide_eq_false_iff_not, Bool.not_eq_true', Bool.not_eq_false', bne_iff_ne, bne_eq_false_iff_eq, beq_iff_eq, beq_eq_false_iff_ne, Bool.not_eq_true, Bool.not_eq_false, ne_eq, Decidable.not_not, baEq, decide_not, Prod.mk.injEq, and_true, true_and, Room, List.nil_append, Nat.zero_add, Int.not_lt, Int.not_le] at *
  all_goals first | trivial | (cases x; cases y; simp_all; done) | (simp only [szL, szServer] at *; omega) | grind [szL, szServer])
def E20 : D.Env := E19.add 123 feqServer
theorem E20ok : EOk Try.prog E20 := E19ok.add k123_19
-- laws.szServerS
set_option maxHeartbeats 2000000 in
theorem k60_20 : fszServerS.ok Try.prog 60 := Fct.of (S := fszServerS) (L := fun ⟨l, n, _⟩ => fun | 5 => some (LszS .server szServer l n) | _ => none) (kp := [0,1,4,5,11,15,25]) E20ok Try.func60 (by kernel_rfl) (by kernel_rfl) (by
  rintro ⟨(l : List SServer), (n : Int), _⟩ hp
  refine holds_of (X := .br (decide (IntKind.i64.wrap (n - (↑l.length : Int)) < (0 : Int)))
 (.leaf (mkR fszServerS.rs ((-1 : Int), ())) [] [])
 (lpx (LszS .server szServer l n) (IntKind.i64.wrap (n - (↑l.length : Int)), ((0 : Int), ())) fun (y2 : Int × Int × PUnit) bk2 =>
  .br (decide (y2.snd.fst < (↑l.length : Int)))
   (.ob ((0 : Int) ≤ y2.snd.fst ∧ y2.snd.fst < (↑l.length : Int)) <|
    .ob (fszServer.pre (l.getD y2.snd.fst.toNat default, y2.fst, ())) <|
    .lt (Int × PUnit) (fszServer.fn (l.getD y2.snd.fst.toNat default, y2.fst, ())) fun z2 =>
    .br (decide (z2.fst < (0 : Int)))
     (.leaf (mkR fszServerS.rs ((-1 : Int), ())) [] [])
     (.ob (l = l) <|
      .ob (Value.bool (decide (IntKind.i64.wrap (n - (↑l.length : Int)) < (0 : Int))) =
  Value.bool (decide (IntKind.i64.wrap (n - (↑l.length : Int)) < (0 : Int)))) <|
      .ob (bk2 (z2.fst, (IntKind.i64.wrap (y2.snd.fst + (1 : Int)), ()))) <|
      .ok))
   (.leaf (mkR fszServerS.rs (y2.fst, ())) [] []))) (by kernel_rfl) ?_
  refine br_i (fun h1 => Fct.leafY ?_) (fun h1 => lpx_i ?_ fun (y2 : Int × Int × PUnit) i2 => br_i (fun h3 => ob_i ?_ fun o4 => ob_i ?_ fun o5 => lt_i (br_i (fun h6 => Fct.leafY ?_) (fun h6 => ob_i rfl fun _ => ob_i rfl fun _ => ob_i ?_ fun o7 => trivial))) (fun h3 => Fct.leafY ?_))
  all_goals try simp only [decide_eq_true_eq, decide_eq_false_iff_not, Bool.not_eq_true', Bool.not_eq_false', bne_iff_ne, bne_eq_false_iff_eq, beq_iff_eq, beq_eq_false_iff_ne, baEq, Int.not_lt, Int.not_le, ne_eq, Decidable.not_not] at *
  all_goals try simp only [LszS, fszServer, fszServerS, baSz, List.size_toArray, List.length_cons, List.length_nil, Nat.reduceAdd, Int.toNat_zero, List.drop_zero, decide_eq_true_eq, decide_eq_false_iff_not, Bool.not_eq_true', Bool.not_eq_false', bne_iff_ne, bne_eq_false_iff_eq, beq_iff_eq, beq_eq_false_iff_ne, Bool.not_eq_true, Bool.not_eq_false, ne_eq, Decidable.not_not, baEq, decide_not, Prod.mk.injEq, and_true, true_and, Room, List.nil_append, Nat.zero_add, Int.not_lt, Int.not_le] at *
  · have := good_len hp.1; simp only [maxLen] at this; rw [wrapId (by omega)] at h1
    rw [lessenNeg (by simp only [szL]; omega)]
  · have := good_len hp.1; simp only [maxLen] at this
    rw [wrapId (by omega)] at h1 ⊢
    exact ⟨by omega, by omega, h1, by simp⟩
  · omega
  · exact ⟨good_getD hp.1 (by omega), by omega, by omega⟩
  · have hs := sum_take_le szServer l (y2.2.1.toNat + 1)
    rw [sum_take szServer (by omega)] at hs
    rw [lessen_lt (by omega)] at h6
    rw [lessenNeg (by simp only [szL]; omega)]
  · have hw : IntKind.i64.wrap (y2.2.1 + 1) = y2.2.1 + 1 := wrapId (by have := good_len hp.1; simp only [maxLen] at this; omega)
    have h7 : ¬ lessen y2.1 (szServer (l.getD y2.2.1.toNat default)) < 0 := by omega
    rw [lessen_lt (by omega)] at h7
    rw [hw, toNat1 (by omega), sum_take szServer (by omega), lessen_ge (by omega)]
    exact ⟨⟨by omega, by omega, by omega, by omega⟩, by omega⟩
  · have e : l.take y2.2.1.toNat = l := List.take_of_length_le (by omega)
    rw [e] at i2
    have hz : ((szL szServer l : Nat) : Int) = l.length + (l.map szServer).sum := by simp only [szL]; omega
    rw [lessen_ge (by omega)]
    show y2.1 = n - ((szL szServer l : Nat) : Int)
    omega)
def E21 : D.Env := E20.add 60 fszServerS
theorem E21ok : EOk Try.prog E21 := E20ok.add k60_20
-- laws.toServerS
theorem k64_21 : ftoServerS.ok Try.prog 64 := Fct.of (S := ftoServerS) (L := fun ⟨l, _⟩ => fun | 3 => some (LtoS .server l) | _ => none) (kp := [0,2,3,4,11]) E21ok Try.func64 (by kernel_rfl) (by kernel_rfl) (by
  rintro ⟨(l : List SServer), _⟩ hp
  refine holds_of (X := .ob ((↑l.length : Int) = (↑l.length : Int) ∧
  (0 : Int) ≤ (↑l.length : Int) ∧
    (40 : Int) * (↑l.length : Int) ≤ (140737488355328 : Int) ∧ (↑l.length : Int) ≤ (140737488355328 : Int)) <|
 lpx (LtoS .server l) ((0 : Int), (List.replicate (↑l.length : Int).toNat default, ())) fun (y2 : Int × List SServer × PUnit) bk2 =>
 .br (decide (y2.fst < (↑l.length : Int)))
  (.ob ((0 : Int) ≤ y2.fst ∧ y2.fst < (↑l.length : Int)) <|
   .ob (ftoServer.pre (l.getD y2.fst.toNat default, ())) <|
   .lt (SServer × PUnit) (ftoServer.fn (l.getD y2.fst.toNat default, ())) fun z2 =>
   .ob ((0 : Int) ≤ y2.fst ∧ y2.fst < (↑y2.snd.fst.length : Int)) <|
    .ob (y2.fst.toNat < y2.snd.fst.length) <|
    .lt (List SServer) (y2.snd.fst.modify y2.fst.toNat fun z => z2.fst) fun z3 =>
    .ob (l = l) <|
     .ob (bk2 (IntKind.i64.wrap (y2.fst + (1 : Int)), (z3, ()))) <|
     .ok)
  (.leaf (mkR ftoServerS.rs (y2.snd.fst, ())) [] [])) (by kernel_rfl) ?_
  refine ob_i ?_ fun o1 => lpx_i ?_ fun (y2 : Int × List SServer × PUnit) i2 => br_i (fun h3 => ob_i ?_ fun o4 => ob_i ?_ fun o5 => lt_i (ob_i ?_ fun o6 => ob_i ?_ fun o7 => lt_i (ob_i rfl fun _ => ob_i ?_ fun o8 => trivial))) (fun h3 => Fct.leafY ?_)
  all_goals try simp only [decide_eq_true_eq, decide_eq_false_iff_not, Bool.not_eq_true', Bool.not_eq_false', bne_iff_ne, bne_eq_false_iff_eq, beq_iff_eq, beq_eq_false_iff_ne, baEq, Int.not_lt, Int.not_le, ne_eq, Decidable.not_not] at *
  all_goals try simp only [LtoS, ftoServer, ftoServerS, baSz, List.size_toArray, List.length_cons, List.length_nil, Nat.reduceAdd, Int.toNat_zero, List.drop_zero, decide_eq_true_eq, decide_eq_false_iff_not, Bool.not_eq_true', Bool.not_eq_false', bne_iff_ne, bne_eq_false_iff_eq, beq_iff_eq, beq_eq_false_iff_ne, Bool.not_eq_true, Bool.not_eq_false, ne_eq, Decidable.not_not, baEq, decide_not, Prod.mk.injEq, and_true, true_and, Room, List.nil_append, Nat.zero_add, Int.not_lt, Int.not_le] at *
  · have := szL_len szServer l; omega
  · exact ⟨by omega, by omega, by simp⟩
  · omega
  · have hs := sum_take_le szServer l (y2.1.toNat + 1)
    rw [sum_take szServer (by omega)] at hs
    simp only [szL] at hp; omega
  · rw [i2.2.2]; simp; omega
  · rw [i2.2.2]; simp; omega
  · have hw : IntKind.i64.wrap (y2.1 + 1) = y2.1 + 1 := wrapId (by have := szL_len szServer l; omega)
    rw [hw, toNat1 (by omega), i2.2.2]
    refine ⟨⟨by omega, by omega, ?_⟩, by omega⟩
    rw [show l.length - y2.1.toNat = (l.length - (y2.1.toNat + 1)) + 1 from by omega, List.replicate_succ, mod_at (by simp; omega), take_succ (by omega)]
    simp
  · have e : l.take y2.1.toNat = l := List.take_of_length_le (by omega)
    rw [i2.2.2, e]; simp; omega)
def E22 : D.Env := E21.add 64 ftoServerS
theorem E22ok : EOk Try.prog E22 := E21ok.add k64_21
-- laws.eqServerS
set_option maxHeartbeats 2000000 in
theorem k68_22 : feqServerS.ok Try.prog 68 := Fct.of (S := feqServerS) (L := fun ⟨l, m, _⟩ => fun | 4 => some (LeqS .server l m) | _ => none) (kp := [0,1,4,5,10,14,26]) E22ok Try.func68 (by kernel_rfl) (by kernel_rfl) (by
  rintro ⟨(l : List SServer), (m : List SServer), _⟩ hp
  refine holds_of (X := .br ((↑l.length : Int) != (↑m.length : Int))
 (.leaf (mkR feqServerS.rs (false, ())) [] [])
 (lpx (LeqS .server l m) ((0 : Int), ()) fun (y2 : Int × PUnit) bk2 =>
  .br (decide (y2.fst < (↑l.length : Int)))
   (.ob ((0 : Int) ≤ y2.fst ∧ y2.fst < (↑l.length : Int)) <|
    .ob ((0 : Int) ≤ y2.fst ∧ y2.fst < (↑m.length : Int)) <|
    .ob (feqServer.pre (l.getD y2.fst.toNat default, m.getD y2.fst.toNat default, ())) <|
    .lt (Bool × PUnit) (feqServer.fn (l.getD y2.fst.toNat default, m.getD y2.fst.toNat default, ())) fun z2 =>
    .br (!z2.fst)
     (.leaf (mkR feqServerS.rs (false, ())) [] [])
     (.ob (l = l) <|
      .ob (m = m) <|
      .ob (Value.bool ((↑l.length : Int) != (↑m.length : Int)) = Value.bool ((↑l.length : Int) != (↑m.length : Int))) <|
      .ob (bk2 (IntKind.i64.wrap (y2.fst + (1 : Int)), ())) <|
      .ok))
   (.leaf (mkR feqServerS.rs (true, ())) [] []))) (by kernel_rfl) ?_
  refine br_i (fun h1 => Fct.leafY ?_) (fun h1 => lpx_i ?_ fun (y2 : Int × PUnit) i2 => br_i (fun h3 => ob_i ?_ fun o4 => ob_i ?_ fun o5 => ob_i ?_ fun o6 => lt_i (br_i (fun h7 => Fct.leafY ?_) (fun h7 => ob_i rfl fun _ => ob_i rfl fun _ => ob_i rfl fun _ => ob_i ?_ fun o8 => trivial))) (fun h3 => Fct.leafY ?_))
  all_goals try simp only [decide_eq_true_eq, decide_eq_false_iff_not, Bool.not_eq_true', Bool.not_eq_false', bne_iff_ne, bne_eq_false_iff_eq, beq_iff_eq, beq_eq_false_iff_ne, baEq, Int.not_lt, Int.not_le, ne_eq, Decidable.not_not] at *
  all_goals try simp only [LeqS, feqServer, feqServerS, baSz, List.size_toArray, List.length_cons, List.length_nil, Nat.reduceAdd, Int.toNat_zero, List.drop_zero, decide_eq_true_eq, decide_eq_false_iff_not, Bool.not_eq_true', Bool.not_eq_false', bne_iff_ne, bne_eq_false_iff_eq, beq_iff_eq, beq_eq_false_iff_ne, Bool.not_eq_true, Bool.not_eq_false, ne_eq, Decidable.not_not, baEq, decide_not, Prod.mk.injEq, and_true, true_and, Room, List.nil_append, Nat.zero_add, Int.not_lt, Int.not_le] at *
  all_goals have hl := szL_len szServer l
  · rw [decide_eq_false]; rintro rfl; omega
  · exact ⟨by omega, by omega, by simp⟩
  · omega
  · omega
  · have hs := szL_get szServer (l := l) (i := y2.1.toNat) (by omega); omega
  · rw [decide_eq_false]; rintro rfl; first | exact absurd rfl h6 | exact absurd rfl h7
  · have hw : IntKind.i64.wrap (y2.1 + 1) = y2.1 + 1 := wrapId (by omega)
    rw [hw, toNat1 (by omega)]
    refine ⟨⟨by omega, by omega, ?_⟩, by omega⟩
    rw [take_succ (by omega), take_succ (by omega), i2.2.2]; first | rw [h6] | rw [h7]
  · have e : l.take y2.1.toNat = l := List.take_of_length_le (by omega)
    have e2 : m.take y2.1.toNat = m := List.take_of_length_le (by omega)
    rw [decide_eq_true]; rw [← e, ← e2, i2.2.2])
def E23 : D.Env := E22.add 68 feqServerS
theorem E23ok : EOk Try.prog E23 := E22ok.add k68_22
-- laws.markServerS
set_option maxHeartbeats 2000000 in
theorem k78_23 : fmarkServerS.ok Try.prog 78 := MS.of (S := fmarkServerS) (L := fun l k => fun | 2 => some (LmkS .server mkServer l k) | _ => none) (kp := [0,1,4,5,9]) (kl := [0]) E23ok Try.func78 (by kernel_rfl) (by kernel_rfl) (by
  rintro (l : List SServer) (k : Int) hp
  refine holds_of (X := lpx (LmkS .server mkServer l k) (k, ((0 : Int), (l, ()))) fun (y1 : Int × Int × List SServer × PUnit) bk1 =>
 .br (decide (y1.snd.fst < (↑y1.snd.snd.fst.length : Int)))
  (.ob (fmarkText.pre (y1.fst, ())) <|
   .lt (ByteArray × PUnit) (fmarkText.fn (y1.fst, ())) fun z2 =>
   .ob ((0 : Int) ≤ y1.snd.fst ∧ y1.snd.fst < (↑y1.snd.snd.fst.length : Int)) <|
    .ob (y1.snd.fst.toNat < y1.snd.snd.fst.length) <|
    .lt (List SServer) (y1.snd.snd.fst.modify y1.snd.fst.toNat fun z => { host := z2.fst, files := z.files : SServer }) fun z3 =>
    .ob ((0 : Int) ≤ y1.snd.fst ∧ y1.snd.fst < (↑z3.length : Int)) <|
     .ob (y1.snd.fst.toNat < z3.length) <|
     .ob (fmarkFileS.pre (z3.getD y1.snd.fst.toNat default).files (IntKind.i64.wrap (y1.fst + (1 : Int)))) <|
     .lt (List SFile × Int) (fmarkFileS.fn (z3.getD y1.snd.fst.toNat default).files (IntKind.i64.wrap (y1.fst + (1 : Int)))) fun z4 =>
     .lt (List SServer) (z3.modify y1.snd.fst.toNat fun z => { host := z.host, files := z4.fst : SServer }) fun z5 =>
      .ob (Value.int IntKind.i64 (0 : Int) = Value.int IntKind.i64 (0 : Int)) <|
       .ob (bk1 (z4.snd, (IntKind.i64.wrap (y1.snd.fst + (1 : Int)), (z5, ())))) <|
       .ok)
  (.leaf (.one false [vi (y1.fst)]) [] [((0 : Nat), ⟨Ty.server, y1.snd.snd.fst⟩)])) (by kernel_rfl) ?_
  refine lpx_i ?_ fun (y1 : Int × Int × List SServer × PUnit) i1 => br_i (fun h2 => ob_d ?_ <| lt_i (ob_d ?_ <| ob_d ?_ <| lt_i (ob_d ?_ <| ob_d ?_ <| ob_d ?_ <| lt_i (lt_i (ob_d rfl <| ob_d ?_ <| trivial))))) (fun h2 => MS.leaf ?_)
  · exact ⟨by simp, by simp, by simp [markL], by simp [markL]⟩
  all_goals have hp1 : 0 ≤ k := hp.1
  all_goals have hp2 : (markL mkServer l k).2 ≤ 4000000000000000000 := hp.2
  all_goals have i3 : 0 ≤ y1.2.1 ∧ y1.2.1 ≤ l.length ∧ y1.1 = (markL mkServer (l.take y1.2.1.toNat) k).2 ∧ y1.2.2.1 = (markL mkServer (l.take y1.2.1.toNat) k).1 ++ l.drop y1.2.1.toNat := i1
  all_goals have hcnt := markL_cnt (f := mkServer) mkServer_cnt l k
  all_goals have hx : y1.2.2.1.length = l.length := by rw [i3.2.2.2, List.length_append, markL_len, List.length_take, List.length_drop]; omega
  all_goals simp only [decide_eq_true_eq, decide_eq_false_iff_not, hx] at h2
  all_goals clear i1 hp
  all_goals try have hlt : y1.2.1.toNat < l.length := by omega
  all_goals try have ht := markL_take (f := mkServer) hlt k
  all_goals try have hle := (markL_take_le mkServer_mono l (y1.2.1.toNat + 1) k).2
  all_goals try have hl0 := (markL_take_le mkServer_mono l y1.2.1.toNat k).1
  all_goals try rw [ht] at hle
  all_goals try rw [← i3.2.2.1] at hle hl0 ht
  all_goals try have i4 : y1.2.2.1 = (markL mkServer (l.take y1.2.1.toNat) k).1 ++ l.getD y1.2.1.toNat default :: l.drop (y1.2.1.toNat + 1) := by rw [i3.2.2.2, drop_cons hlt]
  all_goals try have hA : (markL mkServer (l.take y1.2.1.toNat) k).1.length = y1.2.1.toNat := by rw [markL_len, List.length_take]; omega
  all_goals try simp only [mkServer] at hle
  all_goals try have m1 := mkFileS_mono (l.getD y1.2.1.toNat default).files (y1.1 + 1)
  all_goals try generalize hr1 : markL mkFile (l.getD y1.2.1.toNat default).files (y1.1 + 1) = r1 at *
  all_goals try simp (disch := omega) only [i4, mod_at hA, getD_at hA, fmarkText, fmarkFileS, wrapId', Int.add_assoc, Int.reduceAdd, hr1, List.length_append, List.length_cons, List.length_drop, hA]
  all_goals first | trivial | omega | (refine ⟨?_, ?_⟩ <;> omega) | skip
  · refine ⟨⟨by omega, by omega, ?_, ?_⟩, by omega⟩
    · rw [toNat1 (by omega), ht]
      simp only [mkServer, Int.add_assoc, Int.reduceAdd, hr1]
    · rw [toNat1 (by omega), ht]
      simp only [mkServer, Int.add_assoc, Int.reduceAdd, hr1, List.append_assoc, List.cons_append, List.nil_append]
  · refine MS.leafL (t := .server) (fn := fun l k => markL mkServer l k) ?_
    have e1 : l.take y1.2.1.toNat = l := List.take_of_length_le (by omega)
    have e2 : l.drop y1.2.1.toNat = [] := List.drop_of_length_le (by omega)
    rw [i3.2.2.2, i3.2.2.1, e1, e2, List.append_nil])
def E24 : D.Env := E23.addM 78 fmarkServerS
theorem E24ok : EOk Try.prog E24 := E23ok.addM k78_23
-- laws.szEntry
set_option maxHeartbeats 2000000 in
theorem k159_24 : fszEntry.ok Try.prog 159 := Fct.of (S := fszEntry) (L := fun _ _ => none) (kp := [0,1,2,4,11,17,23]) E24ok Try.func159 (by kernel_rfl) (by kernel_rfl) (by
  rintro ⟨(x : SEntry), (n : Int), _⟩ hp
  refine holds_of (X := .br (decide (IntKind.i64.wrap (n - (↑x.top.size : Int)) < (0 : Int)))
 (.leaf (mkR fszEntry.rs ((-1 : Int), ())) [] [])
 (.ob (fszAddr.pre (x.to, IntKind.i64.wrap (n - (↑x.top.size : Int)), ())) <|
  .lt (Int × PUnit) (fszAddr.fn (x.to, IntKind.i64.wrap (n - (↑x.top.size : Int)), ())) fun z2 =>
  .br (decide (z2.fst < (0 : Int)))
   (.leaf (mkR fszEntry.rs ((-1 : Int), ())) [] [])
   (.ob (fszResponse.pre (x.response, z2.fst, ())) <|
    .lt (Int × PUnit) (fszResponse.fn (x.response, z2.fst, ())) fun z3 =>
    .br (decide (z3.fst < (0 : Int)))
     (.leaf (mkR fszEntry.rs ((-1 : Int), ())) [] [])
     (.leaf (mkR fszEntry.rs (z3.fst, ())) [] [])))) (by kernel_rfl) ?_
  refine br_i (fun h1 => Fct.leafY ?_) (fun h1 => ob_i ?_ fun o2 => lt_i (br_i (fun h3 => Fct.leafY ?_) (fun h3 => ob_i ?_ fun o4 => lt_i (br_i (fun h5 => Fct.leafY ?_) (fun h5 => Fct.leafY ?_)))))
  all_goals try simp only [decide_eq_true_eq, decide_eq_false_iff_not, Bool.not_eq_true', Bool.not_eq_false', bne_iff_ne, bne_eq_false_iff_eq, beq_iff_eq, beq_eq_false_iff_ne, baEq, Int.not_lt, Int.not_le, ne_eq, Decidable.not_not] at *
  all_goals try simp only [fszAddr, fszEntry, fszResponse, baSz, List.size_toArray, List.length_cons, List.length_nil, Nat.reduceAdd, Int.toNat_zero, List.drop_zero, decide_eq_true_eq, decide_eq_false_iff_not, Bool.not_eq_true', Bool.not_eq_false', bne_iff_ne, bne_eq_false_iff_eq, beq_iff_eq, beq_eq_false_iff_ne, Bool.not_eq_true, Bool.not_eq_false, ne_eq, Decidable.not_not, baEq, decide_not, Prod.mk.injEq, and_true, true_and, Room, List.nil_append, Nat.zero_add, Int.not_lt, Int.not_le, Sh.good, Sh.fc, enc, List.forall_mem_cons, List.not_mem_nil, false_implies, implies_true, goodC, maxLen] at *
  all_goals grind [wrapId', lessen, szAddr, szEntry, szResponse])
def E25 : D.Env := E24.add 159 fszEntry
theorem E25ok : EOk Try.prog E25 := E24ok.add k159_24
-- laws.toEntry
theorem k161_25 : ftoEntry.ok Try.prog 161 := Fct.of (S := ftoEntry) (L := fun _ _ => none) (kp := [0,1,2,3]) E25ok Try.func161 (by kernel_rfl) (by kernel_rfl) (by
  rintro ⟨(x : SEntry), _⟩ hp
  refine holds_of (X := .ob (ftoAddr.pre (x.to, ())) <|
 .lt (SAddr × PUnit) (ftoAddr.fn (x.to, ())) fun z2 =>
 .ob (ftoResponse.pre (x.response, ())) <|
  .lt (SResponse × PUnit) (ftoResponse.fn (x.response, ())) fun z3 =>
  .leaf (mkR ftoEntry.rs (⟨x.top, z2.fst, z3.fst, x.until_⟩, ())) [] []) (by kernel_rfl) ?_
  refine ob_i ?_ fun o1 => lt_i (ob_i ?_ fun o2 => lt_i (Fct.leafY ?_))
  all_goals try simp only [decide_eq_true_eq, decide_eq_false_iff_not, Bool.not_eq_true', Bool.not_eq_false', bne_iff_ne, bne_eq_false_iff_eq, beq_iff_eq, beq_eq_false_iff_ne, baEq, Int.not_lt, Int.not_le, ne_eq, Decidable.not_not] at *
  all_goals try simp only [ftoAddr, ftoEntry, ftoResponse, baSz, List.size_toArray, List.length_cons, List.length_nil, Nat.reduceAdd, Int.toNat_zero, List.drop_zero, decide_eq_true_eq, decide_eq_false_iff_not, Bool.not_eq_true', Bool.not_eq_false', bne_iff_ne, bne_eq_false_iff_eq, beq_iff_eq, beq_eq_false_iff_ne, Bool.not_eq_true, Bool.not_eq_false, ne_eq, Decidable.not_not, baEq, decide_not, Prod.mk.injEq, and_true, true_and, Room, List.nil_append, Nat.zero_add, Int.not_lt, Int.not_le] at *
  all_goals first | trivial | rfl | grind [szAddr, szEntry, szResponse])
def E26 : D.Env := E25.add 161 ftoEntry
theorem E26ok : EOk Try.prog E26 := E25ok.add k161_25
-- laws.eqEntry
set_option maxHeartbeats 2000000 in
theorem k163_26 : feqEntry.ok Try.prog 163 := Fct.of (S := feqEntry) (L := fun _ _ => none) (kp := [0,1,2,3,4,9,15,21,26]) E26ok Try.func163 (by kernel_rfl) (by kernel_rfl) (by
  rintro ⟨(x : SEntry), (y : SEntry), _⟩ hp
  refine holds_of (X := .br (!x.top.toList == y.top.toList)
 (.leaf (mkR feqEntry.rs (false, ())) [] [])
 (.ob (feqAddr.pre (x.to, y.to, ())) <|
  .lt (Bool × PUnit) (feqAddr.fn (x.to, y.to, ())) fun z2 =>
  .br (!z2.fst)
   (.leaf (mkR feqEntry.rs (false, ())) [] [])
   (.ob (feqResponse.pre (x.response, y.response, ())) <|
    .lt (Bool × PUnit) (feqResponse.fn (x.response, y.response, ())) fun z3 =>
    .br (!z3.fst)
     (.leaf (mkR feqEntry.rs (false, ())) [] [])
     (.br (x.until_ != y.until_)
      (.leaf (mkR feqEntry.rs (false, ())) [] [])
      (.leaf (mkR feqEntry.rs (true, ())) [] []))))) (by kernel_rfl) ?_
  refine br_i (fun h1 => Fct.leafY ?_) (fun h1 => ob_i trivial fun _ => lt_i (br_i (fun h2 => Fct.leafY ?_) (fun h2 => ob_i trivial fun _ => lt_i (br_i (fun h3 => Fct.leafY ?_) (fun h3 => br_i (fun h4 => Fct.leafY ?_) (fun h4 => Fct.leafY ?_))))))
  all_goals try simp only [decide_eq_true_eq, decide_eq_false_iff_not, Bool.not_eq_true', Bool.not_eq_false', bne_iff_ne, bne_eq_false_iff_eq, beq_iff_eq, beq_eq_false_iff_ne, baEq, Int.not_lt, Int.not_le, ne_eq, Decidable.not_not] at *
  all_goals try simp only [feqAddr, feqEntry, feqResponse, baSz, List.size_toArray, List.length_cons, List.length_nil, Nat.reduceAdd, Int.toNat_zero, List.drop_zero, decide_eq_true_eq, decide_eq_false_iff_not, Bool.not_eq_true', Bool.not_eq_false', bne_iff_ne, bne_eq_false_iff_eq, beq_iff_eq, beq_eq_false_iff_ne, Bool.not_eq_true, Bool.not_eq_false, ne_eq, Decidable.not_not, baEq, decide_not, Prod.mk.injEq, and_true, true_and, Room, List.nil_append, Nat.zero_add, Int.not_lt, Int.not_le] at *
  all_goals first | trivial | (cases x; cases y; simp_all; done) | (simp only [szAddr, szEntry, szResponse] at *; omega) | grind [szAddr, szEntry, szResponse])
def E27 : D.Env := E26.add 163 feqEntry
theorem E27ok : EOk Try.prog E27 := E26ok.add k163_26
-- laws.szEntryS
set_option maxHeartbeats 2000000 in
theorem k118_27 : fszEntryS.ok Try.prog 118 := Fct.of (S := fszEntryS) (L := fun ⟨l, n, _⟩ => fun | 5 => some (LszS .entry szEntry l n) | _ => none) (kp := [0,1,4,5,11,15,25]) E27ok Try.func118 (by kernel_rfl) (by kernel_rfl) (by
  rintro ⟨(l : List SEntry), (n : Int), _⟩ hp
  refine holds_of (X := .br (decide (IntKind.i64.wrap (n - (↑l.length : Int)) < (0 : Int)))
 (.leaf (mkR fszEntryS.rs ((-1 : Int), ())) [] [])
 (lpx (LszS .entry szEntry l n) (IntKind.i64.wrap (n - (↑l.length : Int)), ((0 : Int), ())) fun (y2 : Int × Int × PUnit) bk2 =>
  .br (decide (y2.snd.fst < (↑l.length : Int)))
   (.ob ((0 : Int) ≤ y2.snd.fst ∧ y2.snd.fst < (↑l.length : Int)) <|
    .ob (fszEntry.pre (l.getD y2.snd.fst.toNat default, y2.fst, ())) <|
    .lt (Int × PUnit) (fszEntry.fn (l.getD y2.snd.fst.toNat default, y2.fst, ())) fun z2 =>
    .br (decide (z2.fst < (0 : Int)))
     (.leaf (mkR fszEntryS.rs ((-1 : Int), ())) [] [])
     (.ob (l = l) <|
      .ob (Value.bool (decide (IntKind.i64.wrap (n - (↑l.length : Int)) < (0 : Int))) =
  Value.bool (decide (IntKind.i64.wrap (n - (↑l.length : Int)) < (0 : Int)))) <|
      .ob (bk2 (z2.fst, (IntKind.i64.wrap (y2.snd.fst + (1 : Int)), ()))) <|
      .ok))
   (.leaf (mkR fszEntryS.rs (y2.fst, ())) [] []))) (by kernel_rfl) ?_
  refine br_i (fun h1 => Fct.leafY ?_) (fun h1 => lpx_i ?_ fun (y2 : Int × Int × PUnit) i2 => br_i (fun h3 => ob_i ?_ fun o4 => ob_i ?_ fun o5 => lt_i (br_i (fun h6 => Fct.leafY ?_) (fun h6 => ob_i rfl fun _ => ob_i rfl fun _ => ob_i ?_ fun o7 => trivial))) (fun h3 => Fct.leafY ?_))
  all_goals try simp only [decide_eq_true_eq, decide_eq_false_iff_not, Bool.not_eq_true', Bool.not_eq_false', bne_iff_ne, bne_eq_false_iff_eq, beq_iff_eq, beq_eq_false_iff_ne, baEq, Int.not_lt, Int.not_le, ne_eq, Decidable.not_not] at *
  all_goals try simp only [LszS, fszEntry, fszEntryS, baSz, List.size_toArray, List.length_cons, List.length_nil, Nat.reduceAdd, Int.toNat_zero, List.drop_zero, decide_eq_true_eq, decide_eq_false_iff_not, Bool.not_eq_true', Bool.not_eq_false', bne_iff_ne, bne_eq_false_iff_eq, beq_iff_eq, beq_eq_false_iff_ne, Bool.not_eq_true, Bool.not_eq_false, ne_eq, Decidable.not_not, baEq, decide_not, Prod.mk.injEq, and_true, true_and, Room, List.nil_append, Nat.zero_add, Int.not_lt, Int.not_le] at *
  · have := good_len hp.1; simp only [maxLen] at this; rw [wrapId (by omega)] at h1
    rw [lessenNeg (by simp only [szL]; omega)]
  · have := good_len hp.1; simp only [maxLen] at this
    rw [wrapId (by omega)] at h1 ⊢
    exact ⟨by omega, by omega, h1, by simp⟩
  · omega
  · exact ⟨good_getD hp.1 (by omega), by omega, by omega⟩
  · have hs := sum_take_le szEntry l (y2.2.1.toNat + 1)
    rw [sum_take szEntry (by omega)] at hs
    rw [lessen_lt (by omega)] at h6
    rw [lessenNeg (by simp only [szL]; omega)]
  · have hw : IntKind.i64.wrap (y2.2.1 + 1) = y2.2.1 + 1 := wrapId (by have := good_len hp.1; simp only [maxLen] at this; omega)
    have h7 : ¬ lessen y2.1 (szEntry (l.getD y2.2.1.toNat default)) < 0 := by omega
    rw [lessen_lt (by omega)] at h7
    rw [hw, toNat1 (by omega), sum_take szEntry (by omega), lessen_ge (by omega)]
    exact ⟨⟨by omega, by omega, by omega, by omega⟩, by omega⟩
  · have e : l.take y2.2.1.toNat = l := List.take_of_length_le (by omega)
    rw [e] at i2
    have hz : ((szL szEntry l : Nat) : Int) = l.length + (l.map szEntry).sum := by simp only [szL]; omega
    rw [lessen_ge (by omega)]
    show y2.1 = n - ((szL szEntry l : Nat) : Int)
    omega)
def E28 : D.Env := E27.add 118 fszEntryS
theorem E28ok : EOk Try.prog E28 := E27ok.add k118_27
-- laws.toEntryS
theorem k121_28 : ftoEntryS.ok Try.prog 121 := Fct.of (S := ftoEntryS) (L := fun ⟨l, _⟩ => fun | 3 => some (LtoS .entry l) | _ => none) (kp := [0,2,3,4,11]) E28ok Try.func121 (by kernel_rfl) (by kernel_rfl) (by
  rintro ⟨(l : List SEntry), _⟩ hp
  refine holds_of (X := .ob ((↑l.length : Int) = (↑l.length : Int) ∧
  (0 : Int) ≤ (↑l.length : Int) ∧
    (120 : Int) * (↑l.length : Int) ≤ (140737488355328 : Int) ∧ (↑l.length : Int) ≤ (140737488355328 : Int)) <|
 lpx (LtoS .entry l) ((0 : Int), (List.replicate (↑l.length : Int).toNat default, ())) fun (y2 : Int × List SEntry × PUnit) bk2 =>
 .br (decide (y2.fst < (↑l.length : Int)))
  (.ob ((0 : Int) ≤ y2.fst ∧ y2.fst < (↑l.length : Int)) <|
   .ob (ftoEntry.pre (l.getD y2.fst.toNat default, ())) <|
   .lt (SEntry × PUnit) (ftoEntry.fn (l.getD y2.fst.toNat default, ())) fun z2 =>
   .ob ((0 : Int) ≤ y2.fst ∧ y2.fst < (↑y2.snd.fst.length : Int)) <|
    .ob (y2.fst.toNat < y2.snd.fst.length) <|
    .lt (List SEntry) (y2.snd.fst.modify y2.fst.toNat fun z => z2.fst) fun z3 =>
    .ob (l = l) <|
     .ob (bk2 (IntKind.i64.wrap (y2.fst + (1 : Int)), (z3, ()))) <|
     .ok)
  (.leaf (mkR ftoEntryS.rs (y2.snd.fst, ())) [] [])) (by kernel_rfl) ?_
  refine ob_i ?_ fun o1 => lpx_i ?_ fun (y2 : Int × List SEntry × PUnit) i2 => br_i (fun h3 => ob_i ?_ fun o4 => ob_i ?_ fun o5 => lt_i (ob_i ?_ fun o6 => ob_i ?_ fun o7 => lt_i (ob_i rfl fun _ => ob_i ?_ fun o8 => trivial))) (fun h3 => Fct.leafY ?_)
  all_goals try simp only [decide_eq_true_eq, decide_eq_false_iff_not, Bool.not_eq_true', Bool.not_eq_false', bne_iff_ne, bne_eq_false_iff_eq, beq_iff_eq, beq_eq_false_iff_ne, baEq, Int.not_lt, Int.not_le, ne_eq, Decidable.not_not] at *
  all_goals try simp only [LtoS, ftoEntry, ftoEntryS, baSz, List.size_toArray, List.length_cons, List.length_nil, Nat.reduceAdd, Int.toNat_zero, List.drop_zero, decide_eq_true_eq, decide_eq_false_iff_not, Bool.not_eq_true', Bool.not_eq_false', bne_iff_ne, bne_eq_false_iff_eq, beq_iff_eq, beq_eq_false_iff_ne, Bool.not_eq_true, Bool.not_eq_false, ne_eq, Decidable.not_not, baEq, decide_not, Prod.mk.injEq, and_true, true_and, Room, List.nil_append, Nat.zero_add, Int.not_lt, Int.not_le] at *
  · have := szL_len szEntry l; omega
  · exact ⟨by omega, by omega, by simp⟩
  · omega
  · have hs := sum_take_le szEntry l (y2.1.toNat + 1)
    rw [sum_take szEntry (by omega)] at hs
    simp only [szL] at hp; omega
  · rw [i2.2.2]; simp; omega
  · rw [i2.2.2]; simp; omega
  · have hw : IntKind.i64.wrap (y2.1 + 1) = y2.1 + 1 := wrapId (by have := szL_len szEntry l; omega)
    rw [hw, toNat1 (by omega), i2.2.2]
    refine ⟨⟨by omega, by omega, ?_⟩, by omega⟩
    rw [show l.length - y2.1.toNat = (l.length - (y2.1.toNat + 1)) + 1 from by omega, List.replicate_succ, mod_at (by simp; omega), take_succ (by omega)]
    simp
  · have e : l.take y2.1.toNat = l := List.take_of_length_le (by omega)
    rw [i2.2.2, e]; simp; omega)
def E29 : D.Env := E28.add 121 ftoEntryS
theorem E29ok : EOk Try.prog E29 := E28ok.add k121_28
-- laws.eqEntryS
set_option maxHeartbeats 2000000 in
theorem k124_29 : feqEntryS.ok Try.prog 124 := Fct.of (S := feqEntryS) (L := fun ⟨l, m, _⟩ => fun | 4 => some (LeqS .entry l m) | _ => none) (kp := [0,1,4,5,10,14,26]) E29ok Try.func124 (by kernel_rfl) (by kernel_rfl) (by
  rintro ⟨(l : List SEntry), (m : List SEntry), _⟩ hp
  refine holds_of (X := .br ((↑l.length : Int) != (↑m.length : Int))
 (.leaf (mkR feqEntryS.rs (false, ())) [] [])
 (lpx (LeqS .entry l m) ((0 : Int), ()) fun (y2 : Int × PUnit) bk2 =>
  .br (decide (y2.fst < (↑l.length : Int)))
   (.ob ((0 : Int) ≤ y2.fst ∧ y2.fst < (↑l.length : Int)) <|
    .ob ((0 : Int) ≤ y2.fst ∧ y2.fst < (↑m.length : Int)) <|
    .ob (feqEntry.pre (l.getD y2.fst.toNat default, m.getD y2.fst.toNat default, ())) <|
    .lt (Bool × PUnit) (feqEntry.fn (l.getD y2.fst.toNat default, m.getD y2.fst.toNat default, ())) fun z2 =>
    .br (!z2.fst)
     (.leaf (mkR feqEntryS.rs (false, ())) [] [])
     (.ob (l = l) <|
      .ob (m = m) <|
      .ob (Value.bool ((↑l.length : Int) != (↑m.length : Int)) = Value.bool ((↑l.length : Int) != (↑m.length : Int))) <|
      .ob (bk2 (IntKind.i64.wrap (y2.fst + (1 : Int)), ())) <|
      .ok))
   (.leaf (mkR feqEntryS.rs (true, ())) [] []))) (by kernel_rfl) ?_
  refine br_i (fun h1 => Fct.leafY ?_) (fun h1 => lpx_i ?_ fun (y2 : Int × PUnit) i2 => br_i (fun h3 => ob_i ?_ fun o4 => ob_i ?_ fun o5 => ob_i trivial fun _ => lt_i (br_i (fun h6 => Fct.leafY ?_) (fun h6 => ob_i rfl fun _ => ob_i rfl fun _ => ob_i rfl fun _ => ob_i ?_ fun o7 => trivial))) (fun h3 => Fct.leafY ?_))
  all_goals try simp only [decide_eq_true_eq, decide_eq_false_iff_not, Bool.not_eq_true', Bool.not_eq_false', bne_iff_ne, bne_eq_false_iff_eq, beq_iff_eq, beq_eq_false_iff_ne, baEq, Int.not_lt, Int.not_le, ne_eq, Decidable.not_not] at *
  all_goals try simp only [LeqS, feqEntry, feqEntryS, baSz, List.size_toArray, List.length_cons, List.length_nil, Nat.reduceAdd, Int.toNat_zero, List.drop_zero, decide_eq_true_eq, decide_eq_false_iff_not, Bool.not_eq_true', Bool.not_eq_false', bne_iff_ne, bne_eq_false_iff_eq, beq_iff_eq, beq_eq_false_iff_ne, Bool.not_eq_true, Bool.not_eq_false, ne_eq, Decidable.not_not, baEq, decide_not, Prod.mk.injEq, and_true, true_and, Room, List.nil_append, Nat.zero_add, Int.not_lt, Int.not_le] at *
  · rw [decide_eq_false]; rintro rfl; omega
  · exact ⟨by omega, by omega, by simp⟩
  · omega
  · omega
  · rw [decide_eq_false]; rintro rfl; exact absurd rfl h6
  · have hw : IntKind.i64.wrap (y2.1 + 1) = y2.1 + 1 := wrapId (by omega)
    rw [hw, toNat1 (by omega)]
    refine ⟨⟨by omega, by omega, ?_⟩, by omega⟩
    rw [take_succ (by omega), take_succ (by omega), i2.2.2, h6]
  · have e : l.take y2.1.toNat = l := List.take_of_length_le (by omega)
    have e2 : m.take y2.1.toNat = m := List.take_of_length_le (by omega)
    rw [decide_eq_true]; rw [← e, ← e2, i2.2.2])
def E30 : D.Env := E29.add 124 feqEntryS
theorem E30ok : EOk Try.prog E30 := E29ok.add k124_29
-- laws.markEntryS
set_option maxHeartbeats 2000000 in
theorem k130_30 : fmarkEntryS.ok Try.prog 130 := MS.of (S := fmarkEntryS) (L := fun l k => fun | 2 => some (LmkS .entry mkEntry l k) | _ => none) (kp := [0,1,4,5,9]) (kl := [0]) E30ok Try.func130 (by kernel_rfl) (by kernel_rfl) (by
  rintro (l : List SEntry) (k : Int) hp
  refine holds_of (X := lpx (LmkS .entry mkEntry l k) (k, ((0 : Int), (l, ()))) fun (y1 : Int × Int × List SEntry × PUnit) bk1 =>
 .br (decide (y1.snd.fst < (↑y1.snd.snd.fst.length : Int)))
  (.ob (fmarkText.pre (y1.fst, ())) <|
   .lt (ByteArray × PUnit) (fmarkText.fn (y1.fst, ())) fun z2 =>
   .ob ((0 : Int) ≤ y1.snd.fst ∧ y1.snd.fst < (↑y1.snd.snd.fst.length : Int)) <|
    .ob (y1.snd.fst.toNat < y1.snd.snd.fst.length) <|
    .lt (List SEntry) (y1.snd.snd.fst.modify y1.snd.fst.toNat fun z =>
  { top := z2.fst, to := z.to, response := z.response, until_ := z.until_ : SEntry }) fun z3 =>
    .ob (fmarkText.pre (IntKind.i64.wrap (y1.fst + (1 : Int)), ())) <|
     .lt (ByteArray × PUnit) (fmarkText.fn (IntKind.i64.wrap (y1.fst + (1 : Int)), ())) fun z4 =>
     .ob ((0 : Int) ≤ y1.snd.fst ∧ y1.snd.fst < (↑z3.length : Int)) <|
      .ob (y1.snd.fst.toNat < z3.length) <|
      .lt (List SEntry) (z3.modify y1.snd.fst.toNat fun z =>
  { top := z.top, to := { host := z4.fst, path := z.to.path : SAddr }, response := z.response, until_ := z.until_ :
    SEntry }) fun z5 =>
      .ob (fmarkText.pre (IntKind.i64.wrap (IntKind.i64.wrap (y1.fst + (1 : Int)) + (1 : Int)), ())) <|
       .lt (ByteArray × PUnit) (fmarkText.fn (IntKind.i64.wrap (IntKind.i64.wrap (y1.fst + (1 : Int)) + (1 : Int)), ())) fun z6 =>
       .ob ((0 : Int) ≤ y1.snd.fst ∧ y1.snd.fst < (↑z5.length : Int)) <|
        .ob (y1.snd.fst.toNat < z5.length) <|
        .lt (List SEntry) (z5.modify y1.snd.fst.toNat fun z =>
  { top := z.top, to := { host := z.to.host, path := z6.fst : SAddr }, response := z.response, until_ := z.until_ :
    SEntry }) fun z7 =>
        .ob ((0 : Int) ≤ y1.snd.fst ∧ y1.snd.fst < (↑z7.length : Int)) <|
         .ob (y1.snd.fst.toNat < z7.length) <|
         .lt (List SEntry) (z7.modify y1.snd.fst.toNat fun z =>
  { top := z.top, to := z.to,
    response :=
      { status := IntKind.i64.wrap (IntKind.i64.wrap (IntKind.i64.wrap (y1.fst + (1 : Int)) + (1 : Int)) + (1 : Int)),
        kind := z.response.kind, body := z.response.body, age := z.response.age, shares := z.response.shares,
        policy := z.response.policy : SResponse },
    until_ := z.until_ : SEntry }) fun z8 =>
         .ob ((0 : Int) ≤ y1.snd.fst ∧ y1.snd.fst < (↑z8.length : Int)) <|
          .ob (y1.snd.fst.toNat < z8.length) <|
          .lt (List SEntry) (z8.modify y1.snd.fst.toNat fun z =>
  { top := z.top, to := z.to,
    response :=
      { status := z.response.status,
        kind :=
          IntKind.i64.wrap
            (IntKind.i64.wrap (IntKind.i64.wrap (IntKind.i64.wrap (y1.fst + (1 : Int)) + (1 : Int)) + (1 : Int)) +
              (1 : Int)),
        body := z.response.body, age := z.response.age, shares := z.response.shares, policy := z.response.policy :
        SResponse },
    until_ := z.until_ : SEntry }) fun z9 =>
          .ob (fmarkText.pre
  (IntKind.i64.wrap
      (IntKind.i64.wrap
          (IntKind.i64.wrap (IntKind.i64.wrap (IntKind.i64.wrap (y1.fst + (1 : Int)) + (1 : Int)) + (1 : Int)) +
            (1 : Int)) +
        (1 : Int)),
    ())) <|
           .lt (ByteArray × PUnit) (fmarkText.fn
  (IntKind.i64.wrap
      (IntKind.i64.wrap
          (IntKind.i64.wrap (IntKind.i64.wrap (IntKind.i64.wrap (y1.fst + (1 : Int)) + (1 : Int)) + (1 : Int)) +
            (1 : Int)) +
        (1 : Int)),
    ())) fun z10 =>
           .ob ((0 : Int) ≤ y1.snd.fst ∧ y1.snd.fst < (↑z9.length : Int)) <|
            .ob (y1.snd.fst.toNat < z9.length) <|
            .lt (List SEntry) (z9.modify y1.snd.fst.toNat fun z =>
  { top := z.top, to := z.to,
    response :=
      { status := z.response.status, kind := z.response.kind, body := z10.fst, age := z.response.age,
        shares := z.response.shares, policy := z.response.policy : SResponse },
    until_ := z.until_ : SEntry }) fun z11 =>
            .ob ((0 : Int) ≤ y1.snd.fst ∧ y1.snd.fst < (↑z11.length : Int)) <|
             .ob (y1.snd.fst.toNat < z11.length) <|
             .lt (List SEntry) (z11.modify y1.snd.fst.toNat fun z =>
  { top := z.top, to := z.to,
    response :=
      { status := z.response.status, kind := z.response.kind, body := z.response.body,
        age :=
          IntKind.i64.wrap
            (IntKind.i64.wrap
                (IntKind.i64.wrap
                    (IntKind.i64.wrap
                        (IntKind.i64.wrap (IntKind.i64.wrap (y1.fst + (1 : Int)) + (1 : Int)) + (1 : Int)) +
                      (1 : Int)) +
                  (1 : Int)) +
              (1 : Int)),
        shares := z.response.shares, policy := z.response.policy : SResponse },
    until_ := z.until_ : SEntry }) fun z12 =>
             .ob ((3 : Int) ≠ (0 : Int)) <|
              .ob ((0 : Int) ≤ y1.snd.fst ∧ y1.snd.fst < (↑z12.length : Int)) <|
              .ob (y1.snd.fst.toNat < z12.length) <|
              .lt (List SEntry) (z12.modify y1.snd.fst.toNat fun z =>
  { top := z.top, to := z.to,
    response :=
      { status := z.response.status, kind := z.response.kind, body := z.response.body, age := z.response.age,
        shares :=
          (IntKind.i64.wrap
                  (IntKind.i64.wrap
                      (IntKind.i64.wrap
                          (IntKind.i64.wrap
                              (IntKind.i64.wrap
                                  (IntKind.i64.wrap (IntKind.i64.wrap (y1.fst + (1 : Int)) + (1 : Int)) + (1 : Int)) +
                                (1 : Int)) +
                            (1 : Int)) +
                        (1 : Int)) +
                    (1 : Int))).tmod
              (3 : Int) ==
            (0 : Int),
        policy := z.response.policy : SResponse },
    until_ := z.until_ : SEntry }) fun z13 =>
              .ob (fmarkText.pre
  (IntKind.i64.wrap
      (IntKind.i64.wrap
          (IntKind.i64.wrap
              (IntKind.i64.wrap
                  (IntKind.i64.wrap
                      (IntKind.i64.wrap
                          (IntKind.i64.wrap (IntKind.i64.wrap (y1.fst + (1 : Int)) + (1 : Int)) + (1 : Int)) +
                        (1 : Int)) +
                    (1 : Int)) +
                (1 : Int)) +
            (1 : Int)) +
        (1 : Int)),
    ())) <|
               .lt (ByteArray × PUnit) (fmarkText.fn
  (IntKind.i64.wrap
      (IntKind.i64.wrap
          (IntKind.i64.wrap
              (IntKind.i64.wrap
                  (IntKind.i64.wrap
                      (IntKind.i64.wrap
                          (IntKind.i64.wrap (IntKind.i64.wrap (y1.fst + (1 : Int)) + (1 : Int)) + (1 : Int)) +
                        (1 : Int)) +
                    (1 : Int)) +
                (1 : Int)) +
            (1 : Int)) +
        (1 : Int)),
    ())) fun z14 =>
               .ob ((0 : Int) ≤ y1.snd.fst ∧ y1.snd.fst < (↑z13.length : Int)) <|
                .ob (y1.snd.fst.toNat < z13.length) <|
                .lt (List SEntry) (z13.modify y1.snd.fst.toNat fun z =>
  { top := z.top, to := z.to,
    response :=
      { status := z.response.status, kind := z.response.kind, body := z.response.body, age := z.response.age,
        shares := z.response.shares, policy := z14.fst : SResponse },
    until_ := z.until_ : SEntry }) fun z15 =>
                .ob ((0 : Int) ≤ y1.snd.fst ∧ y1.snd.fst < (↑z15.length : Int)) <|
                 .ob (y1.snd.fst.toNat < z15.length) <|
                 .lt (List SEntry) (z15.modify y1.snd.fst.toNat fun z =>
  { top := z.top, to := z.to, response := z.response,
    until_ :=
      IntKind.i64.wrap
        (IntKind.i64.wrap
            (IntKind.i64.wrap
                (IntKind.i64.wrap
                    (IntKind.i64.wrap
                        (IntKind.i64.wrap
                            (IntKind.i64.wrap
                                (IntKind.i64.wrap (IntKind.i64.wrap (y1.fst + (1 : Int)) + (1 : Int)) + (1 : Int)) +
                              (1 : Int)) +
                          (1 : Int)) +
                      (1 : Int)) +
                  (1 : Int)) +
              (1 : Int)) +
          (1 : Int)) :
    SEntry }) fun z16 =>
                 .ob (Value.int IntKind.i64 (0 : Int) = Value.int IntKind.i64 (0 : Int)) <|
                  .ob (bk1 (IntKind.i64.wrap
  (IntKind.i64.wrap
      (IntKind.i64.wrap
          (IntKind.i64.wrap
              (IntKind.i64.wrap
                  (IntKind.i64.wrap
                      (IntKind.i64.wrap
                          (IntKind.i64.wrap
                              (IntKind.i64.wrap (IntKind.i64.wrap (y1.fst + (1 : Int)) + (1 : Int)) + (1 : Int)) +
                            (1 : Int)) +
                        (1 : Int)) +
                    (1 : Int)) +
                (1 : Int)) +
            (1 : Int)) +
        (1 : Int)) +
    (1 : Int)), (IntKind.i64.wrap (y1.snd.fst + (1 : Int)), (z16, ())))) <|
                  .ok)
  (.leaf (.one false [vi (y1.fst)]) [] [((0 : Nat), ⟨Ty.entry, y1.snd.snd.fst⟩)])) (by kernel_rfl) ?_
  refine lpx_i ?_ fun (y1 : Int × Int × List SEntry × PUnit) i1 => br_i (fun h2 => ob_i ?_ fun o3 => lt_i (ob_i ?_ fun o4 => ob_i ?_ fun o5 => lt_i (ob_i ?_ fun o6 => lt_i (ob_i ?_ fun o7 => ob_i ?_ fun o8 => lt_i (ob_i ?_ fun o9 => lt_i (ob_i ?_ fun o10 => ob_i ?_ fun o11 => lt_i (ob_i ?_ fun o12 => ob_i ?_ fun o13 => lt_i (ob_i ?_ fun o14 => ob_i ?_ fun o15 => lt_i (ob_i ?_ fun o16 => lt_i (ob_i ?_ fun o17 => ob_i ?_ fun o18 => lt_i (ob_i ?_ fun o19 => ob_i ?_ fun o20 => lt_i (ob_i ?_ fun o21 => ob_i ?_ fun o22 => ob_i ?_ fun o23 => lt_i (ob_i ?_ fun o24 => lt_i (ob_i ?_ fun o25 => ob_i ?_ fun o26 => lt_i (ob_i ?_ fun o27 => ob_i ?_ fun o28 => lt_i (ob_i rfl fun _ => ob_i ?_ fun o29 => trivial)))))))))))))))) (fun h2 => MS.leaf ?_)
  · exact ⟨by simp, by simp, by simp [markL], by simp [markL]⟩
  all_goals have hp1 : 0 ≤ k := hp.1
  all_goals have hp2 : (markL mkEntry l k).2 ≤ 4000000000000000000 := hp.2
  all_goals have i3 : 0 ≤ y1.2.1 ∧ y1.2.1 ≤ l.length ∧ y1.1 = (markL mkEntry (l.take y1.2.1.toNat) k).2 ∧ y1.2.2.1 = (markL mkEntry (l.take y1.2.1.toNat) k).1 ++ l.drop y1.2.1.toNat := i1
  all_goals have hcnt := markL_cnt (f := mkEntry) (fun x k => by simp only [mkEntry]; omega) l k
  all_goals have hx : y1.2.2.1.length = l.length := by rw [i3.2.2.2, List.length_append, markL_len, List.length_take, List.length_drop]; omega
  all_goals simp only [decide_eq_true_eq, decide_eq_false_iff_not, hx] at h2
  all_goals clear i1
  all_goals try have hlt : y1.2.1.toNat < l.length := by omega
  all_goals try have ht := markL_take (f := mkEntry) hlt k
  all_goals try have hle := (markL_take_le mkEntry_mono l (y1.2.1.toNat + 1) k).2
  all_goals try have hl0 := (markL_take_le mkEntry_mono l y1.2.1.toNat k).1
  all_goals try rw [ht] at hle
  all_goals try rw [← i3.2.2.1] at hle hl0 ht
  all_goals try simp only [mkEntry] at hle
  all_goals first | decide | (simp only [List.length_modify, hx]; omega) | (refine ⟨?_, ?_⟩ <;> (try simp (discharger := omega) only [wrapId']) <;> omega) | skip
  · clear o3 o4 o5
    simp (discharger := omega) only [wrapId', fmarkText]
    have hA : (markL mkEntry (l.take y1.2.1.toNat) k).1.length = y1.2.1.toNat := by rw [markL_len, List.length_take]; omega
    refine ⟨⟨by omega, by omega, ?_, ?_⟩, ?_⟩
    · rw [toNat1 (by omega), ht]
      first | done | (simp only [mkEntry]; done) | (simp only [mkEntry]; omega)
    · rw [toNat1 (by omega), ht, i3.2.2.2, drop_cons hlt]
      simp only [mod_at hA, mkEntry, Int.add_assoc, Int.reduceAdd, List.append_assoc, List.cons_append, List.nil_append]
    · omega
  · refine MS.leafL (t := .entry) (fn := fun l k => markL mkEntry l k) ?_
    have e1 : l.take y1.2.1.toNat = l := List.take_of_length_le (by omega)
    have e2 : l.drop y1.2.1.toNat = [] := List.drop_of_length_le (by omega)
    rw [i3.2.2.2, i3.2.2.1, e1, e2, List.append_nil])
def E31 : D.Env := E30.addM 130 fmarkEntryS
theorem E31ok : EOk Try.prog E31 := E30ok.addM k130_30
-- laws.szCache
set_option maxHeartbeats 2000000 in
theorem k61_31 : fszCache.ok Try.prog 61 := Fct.of (S := fszCache) (L := fun _ _ => none) (kp := [0,1,2,4,10]) E31ok Try.func61 (by kernel_rfl) (by kernel_rfl) (by
  rintro ⟨(x : SCache), (n : Int), _⟩ hp
  refine holds_of (X := .ob (fszEntryS.pre (x.entries, n, ())) <|
 .lt (Int × PUnit) (fszEntryS.fn (x.entries, n, ())) fun z2 =>
 .br (decide (z2.fst < (0 : Int)))
  (.leaf (mkR fszCache.rs ((-1 : Int), ())) [] [])
  (.leaf (mkR fszCache.rs (z2.fst, ())) [] [])) (by kernel_rfl) ?_
  refine ob_i ?_ fun o1 => lt_i (br_i (fun h2 => Fct.leafY ?_) (fun h2 => Fct.leafY ?_))
  all_goals try simp only [decide_eq_true_eq, decide_eq_false_iff_not, Bool.not_eq_true', Bool.not_eq_false', bne_iff_ne, bne_eq_false_iff_eq, beq_iff_eq, beq_eq_false_iff_ne, baEq, Int.not_lt, Int.not_le, ne_eq, Decidable.not_not] at *
  all_goals try simp only [fszCache, fszEntryS, baSz, List.size_toArray, List.length_cons, List.length_nil, Nat.reduceAdd, Int.toNat_zero, List.drop_zero, decide_eq_true_eq, decide_eq_false_iff_not, Bool.not_eq_true', Bool.not_eq_false', bne_iff_ne, bne_eq_false_iff_eq, beq_iff_eq, beq_eq_false_iff_ne, Bool.not_eq_true, Bool.not_eq_false, ne_eq, Decidable.not_not, baEq, decide_not, Prod.mk.injEq, and_true, true_and, Room, List.nil_append, Nat.zero_add, Int.not_lt, Int.not_le, Sh.good, Sh.fc, enc, List.forall_mem_cons, List.not_mem_nil, false_implies, implies_true, goodC, maxLen] at *
  all_goals grind [wrapId', lessen, szCache, szL])
def E32 : D.Env := E31.add 61 fszCache
theorem E32ok : EOk Try.prog E32 := E31ok.add k61_31
-- laws.toCache
theorem k65_32 : ftoCache.ok Try.prog 65 := Fct.of (S := ftoCache) (L := fun _ _ => none) (kp := [0,1,2,3]) E32ok Try.func65 (by kernel_rfl) (by kernel_rfl) (by
  rintro ⟨(x : SCache), _⟩ hp
  refine holds_of (X := .ob (ftoEntryS.pre (x.entries, ())) <|
 .lt (List SEntry × PUnit) (ftoEntryS.fn (x.entries, ())) fun z2 =>
 .leaf (mkR ftoCache.rs (⟨z2.fst⟩, ())) [] []) (by kernel_rfl) ?_
  refine ob_i ?_ fun o1 => lt_i (Fct.leafY ?_)
  all_goals try simp only [decide_eq_true_eq, decide_eq_false_iff_not, Bool.not_eq_true', Bool.not_eq_false', bne_iff_ne, bne_eq_false_iff_eq, beq_iff_eq, beq_eq_false_iff_ne, baEq, Int.not_lt, Int.not_le, ne_eq, Decidable.not_not] at *
  all_goals try simp only [ftoCache, ftoEntryS, baSz, List.size_toArray, List.length_cons, List.length_nil, Nat.reduceAdd, Int.toNat_zero, List.drop_zero, decide_eq_true_eq, decide_eq_false_iff_not, Bool.not_eq_true', Bool.not_eq_false', bne_iff_ne, bne_eq_false_iff_eq, beq_iff_eq, beq_eq_false_iff_ne, Bool.not_eq_true, Bool.not_eq_false, ne_eq, Decidable.not_not, baEq, decide_not, Prod.mk.injEq, and_true, true_and, Room, List.nil_append, Nat.zero_add, Int.not_lt, Int.not_le] at *
  all_goals first | trivial | rfl | grind [szCache, szL])
def E33 : D.Env := E32.add 65 ftoCache
theorem E33ok : EOk Try.prog E33 := E32ok.add k65_32
-- laws.eqCache
set_option maxHeartbeats 2000000 in
theorem k69_33 : feqCache.ok Try.prog 69 := Fct.of (S := feqCache) (L := fun _ _ => none) (kp := [0,1,2,3,4,10]) E33ok Try.func69 (by kernel_rfl) (by kernel_rfl) (by
  rintro ⟨(x : SCache), (y : SCache), _⟩ hp
  refine holds_of (X := .ob (feqEntryS.pre (x.entries, y.entries, ())) <|
 .lt (Bool × PUnit) (feqEntryS.fn (x.entries, y.entries, ())) fun z2 =>
 .br (!z2.fst)
  (.leaf (mkR feqCache.rs (false, ())) [] [])
  (.leaf (mkR feqCache.rs (true, ())) [] [])) (by kernel_rfl) ?_
  refine ob_i ?_ fun o1 => lt_i (br_i (fun h2 => Fct.leafY ?_) (fun h2 => Fct.leafY ?_))
  all_goals try simp only [decide_eq_true_eq, decide_eq_false_iff_not, Bool.not_eq_true', Bool.not_eq_false', bne_iff_ne, bne_eq_false_iff_eq, beq_iff_eq, beq_eq_false_iff_ne, baEq, Int.not_lt, Int.not_le, ne_eq, Decidable.not_not] at *
  all_goals try simp only [feqCache, feqEntryS, baSz, List.size_toArray, List.length_cons, List.length_nil, Nat.reduceAdd, Int.toNat_zero, List.drop_zero, decide_eq_true_eq, decide_eq_false_iff_not, Bool.not_eq_true', Bool.not_eq_false', bne_iff_ne, bne_eq_false_iff_eq, beq_iff_eq, beq_eq_false_iff_ne, Bool.not_eq_true, Bool.not_eq_false, ne_eq, Decidable.not_not, baEq, decide_not, Prod.mk.injEq, and_true, true_and, Room, List.nil_append, Nat.zero_add, Int.not_lt, Int.not_le] at *
  all_goals first | trivial | (cases x; cases y; simp_all; done) | (simp only [szCache, szL] at *; omega) | grind [szCache, szL])
def E34 : D.Env := E33.add 69 feqCache
theorem E34ok : EOk Try.prog E34 := E33ok.add k69_33
-- laws.markCache
set_option maxHeartbeats 2000000 in
theorem k79_34 : fmarkCache.ok Try.prog 79 := MS.of (S := fmarkCache) (L := fun _ _ _ => none) (kp := [0,1,2,4]) (kl := [0]) E34ok Try.func79 (by kernel_rfl) (by kernel_rfl) (by
  rintro (x : SCache) (k : Int) hp
  refine holds_of (X := .ob (fmarkEntryS.pre x.entries k) <|
 .lt (List SEntry × Int) (fmarkEntryS.fn x.entries k) fun z2 =>
 .leaf (.one false [vi (z2.snd)]) [] [((0 : Nat), ⟨Ty.entry, z2.fst⟩)]) (by kernel_rfl) ?_
  refine ob_d ?_ <| lt_i (MS.leaf ?_)
  all_goals have hp1 : 0 ≤ k := hp.1
  all_goals have hp2 : (mvCache x k).2 ≤ 4000000000000000000 := hp.2
  all_goals clear hp
  all_goals simp only [mvCache] at hp2
  all_goals try have m1 := mkEntryS_mono x.entries (k)
  all_goals try generalize hr1 : markL mkEntry x.entries (k) = r1 at *
  all_goals simp (disch := omega) only [fmarkEntryS, fmarkText, hr1]
  all_goals first | trivial | omega | (refine ⟨?_, ?_⟩ <;> omega) | skip
  refine MS.leaf ?_
  simp only [fmarkCache, mvCache, hr1]
  exact ⟨⟨rfl, rfl, trivial⟩, trivial, rfl⟩)
def E35 : D.Env := E34.addM 79 fmarkCache
theorem E35ok : EOk Try.prog E35 := E34ok.addM k79_34
-- laws.szSent
set_option maxHeartbeats 2000000 in
theorem k119_35 : fszSent.ok Try.prog 119 := Fct.of (S := fszSent) (L := fun _ _ => none) (kp := [0,1,2,4,11,17]) E35ok Try.func119 (by kernel_rfl) (by kernel_rfl) (by
  rintro ⟨(x : SSent), (n : Int), _⟩ hp
  refine holds_of (X := .br (decide (IntKind.i64.wrap (n - (↑x.top.size : Int)) < (0 : Int)))
 (.leaf (mkR fszSent.rs ((-1 : Int), ())) [] [])
 (.ob (fszAddr.pre (x.to, IntKind.i64.wrap (n - (↑x.top.size : Int)), ())) <|
  .lt (Int × PUnit) (fszAddr.fn (x.to, IntKind.i64.wrap (n - (↑x.top.size : Int)), ())) fun z2 =>
  .br (decide (z2.fst < (0 : Int)))
   (.leaf (mkR fszSent.rs ((-1 : Int), ())) [] [])
   (.leaf (mkR fszSent.rs (z2.fst, ())) [] []))) (by kernel_rfl) ?_
  refine br_i (fun h1 => Fct.leafY ?_) (fun h1 => ob_i ?_ fun o2 => lt_i (br_i (fun h3 => Fct.leafY ?_) (fun h3 => Fct.leafY ?_)))
  all_goals try simp only [decide_eq_true_eq, decide_eq_false_iff_not, Bool.not_eq_true', Bool.not_eq_false', bne_iff_ne, bne_eq_false_iff_eq, beq_iff_eq, beq_eq_false_iff_ne, baEq, Int.not_lt, Int.not_le, ne_eq, Decidable.not_not] at *
  all_goals try simp only [fszAddr, fszSent, baSz, List.size_toArray, List.length_cons, List.length_nil, Nat.reduceAdd, Int.toNat_zero, List.drop_zero, decide_eq_true_eq, decide_eq_false_iff_not, Bool.not_eq_true', Bool.not_eq_false', bne_iff_ne, bne_eq_false_iff_eq, beq_iff_eq, beq_eq_false_iff_ne, Bool.not_eq_true, Bool.not_eq_false, ne_eq, Decidable.not_not, baEq, decide_not, Prod.mk.injEq, and_true, true_and, Room, List.nil_append, Nat.zero_add, Int.not_lt, Int.not_le, Sh.good, Sh.fc, enc, List.forall_mem_cons, List.not_mem_nil, false_implies, implies_true, goodC, maxLen] at *
  all_goals grind [wrapId', lessen, szAddr, szSent])
def E36 : D.Env := E35.add 119 fszSent
theorem E36ok : EOk Try.prog E36 := E35ok.add k119_35
-- laws.toSent
theorem k122_36 : ftoSent.ok Try.prog 122 := Fct.of (S := ftoSent) (L := fun _ _ => none) (kp := [0,1,2,3]) E36ok Try.func122 (by kernel_rfl) (by kernel_rfl) (by
  rintro ⟨(x : SSent), _⟩ hp
  refine holds_of (X := .ob (ftoAddr.pre (x.to, ())) <|
 .lt (SAddr × PUnit) (ftoAddr.fn (x.to, ())) fun z2 =>
 .leaf (mkR ftoSent.rs (⟨x.top, z2.fst, x.guess⟩, ())) [] []) (by kernel_rfl) ?_
  refine ob_i ?_ fun o1 => lt_i (Fct.leafY ?_)
  all_goals try simp only [decide_eq_true_eq, decide_eq_false_iff_not, Bool.not_eq_true', Bool.not_eq_false', bne_iff_ne, bne_eq_false_iff_eq, beq_iff_eq, beq_eq_false_iff_ne, baEq, Int.not_lt, Int.not_le, ne_eq, Decidable.not_not] at *
  all_goals try simp only [ftoAddr, ftoSent, baSz, List.size_toArray, List.length_cons, List.length_nil, Nat.reduceAdd, Int.toNat_zero, List.drop_zero, decide_eq_true_eq, decide_eq_false_iff_not, Bool.not_eq_true', Bool.not_eq_false', bne_iff_ne, bne_eq_false_iff_eq, beq_iff_eq, beq_eq_false_iff_ne, Bool.not_eq_true, Bool.not_eq_false, ne_eq, Decidable.not_not, baEq, decide_not, Prod.mk.injEq, and_true, true_and, Room, List.nil_append, Nat.zero_add, Int.not_lt, Int.not_le] at *
  all_goals first | trivial | rfl | grind [szAddr, szSent])
def E37 : D.Env := E36.add 122 ftoSent
theorem E37ok : EOk Try.prog E37 := E36ok.add k122_36
-- laws.eqSent
set_option maxHeartbeats 2000000 in
theorem k125_37 : feqSent.ok Try.prog 125 := Fct.of (S := feqSent) (L := fun _ _ => none) (kp := [0,1,2,3,4,9,15,20]) E37ok Try.func125 (by kernel_rfl) (by kernel_rfl) (by
  rintro ⟨(x : SSent), (y : SSent), _⟩ hp
  refine holds_of (X := .br (!x.top.toList == y.top.toList)
 (.leaf (mkR feqSent.rs (false, ())) [] [])
 (.ob (feqAddr.pre (x.to, y.to, ())) <|
  .lt (Bool × PUnit) (feqAddr.fn (x.to, y.to, ())) fun z2 =>
  .br (!z2.fst)
   (.leaf (mkR feqSent.rs (false, ())) [] [])
   (.br (!x.guess == y.guess)
    (.leaf (mkR feqSent.rs (false, ())) [] [])
    (.leaf (mkR feqSent.rs (true, ())) [] [])))) (by kernel_rfl) ?_
  refine br_i (fun h1 => Fct.leafY ?_) (fun h1 => ob_i trivial fun _ => lt_i (br_i (fun h2 => Fct.leafY ?_) (fun h2 => br_i (fun h3 => Fct.leafY ?_) (fun h3 => Fct.leafY ?_))))
  all_goals try simp only [decide_eq_true_eq, decide_eq_false_iff_not, Bool.not_eq_true', Bool.not_eq_false', bne_iff_ne, bne_eq_false_iff_eq, beq_iff_eq, beq_eq_false_iff_ne, baEq, Int.not_lt, Int.not_le, ne_eq, Decidable.not_not] at *
  all_goals try simp only [feqAddr, feqSent, baSz, List.size_toArray, List.length_cons, List.length_nil, Nat.reduceAdd, Int.toNat_zero, List.drop_zero, decide_eq_true_eq, decide_eq_false_iff_not, Bool.not_eq_true', Bool.not_eq_false', bne_iff_ne, bne_eq_false_iff_eq, beq_iff_eq, beq_eq_false_iff_ne, Bool.not_eq_true, Bool.not_eq_false, ne_eq, Decidable.not_not, baEq, decide_not, Prod.mk.injEq, and_true, true_and, Room, List.nil_append, Nat.zero_add, Int.not_lt, Int.not_le] at *
  all_goals first | trivial | (cases x; cases y; simp_all; done) | (simp only [szAddr, szSent] at *; omega) | grind [szAddr, szSent])
def E38 : D.Env := E37.add 125 feqSent
theorem E38ok : EOk Try.prog E38 := E37ok.add k125_37
-- laws.szSentS
set_option maxHeartbeats 2000000 in
theorem k62_38 : fszSentS.ok Try.prog 62 := Fct.of (S := fszSentS) (L := fun ⟨l, n, _⟩ => fun | 5 => some (LszS .sent szSent l n) | _ => none) (kp := [0,1,4,5,11,15,25]) E38ok Try.func62 (by kernel_rfl) (by kernel_rfl) (by
  rintro ⟨(l : List SSent), (n : Int), _⟩ hp
  refine holds_of (X := .br (decide (IntKind.i64.wrap (n - (↑l.length : Int)) < (0 : Int)))
 (.leaf (mkR fszSentS.rs ((-1 : Int), ())) [] [])
 (lpx (LszS .sent szSent l n) (IntKind.i64.wrap (n - (↑l.length : Int)), ((0 : Int), ())) fun (y2 : Int × Int × PUnit) bk2 =>
  .br (decide (y2.snd.fst < (↑l.length : Int)))
   (.ob ((0 : Int) ≤ y2.snd.fst ∧ y2.snd.fst < (↑l.length : Int)) <|
    .ob (fszSent.pre (l.getD y2.snd.fst.toNat default, y2.fst, ())) <|
    .lt (Int × PUnit) (fszSent.fn (l.getD y2.snd.fst.toNat default, y2.fst, ())) fun z2 =>
    .br (decide (z2.fst < (0 : Int)))
     (.leaf (mkR fszSentS.rs ((-1 : Int), ())) [] [])
     (.ob (l = l) <|
      .ob (Value.bool (decide (IntKind.i64.wrap (n - (↑l.length : Int)) < (0 : Int))) =
  Value.bool (decide (IntKind.i64.wrap (n - (↑l.length : Int)) < (0 : Int)))) <|
      .ob (bk2 (z2.fst, (IntKind.i64.wrap (y2.snd.fst + (1 : Int)), ()))) <|
      .ok))
   (.leaf (mkR fszSentS.rs (y2.fst, ())) [] []))) (by kernel_rfl) ?_
  refine br_i (fun h1 => Fct.leafY ?_) (fun h1 => lpx_i ?_ fun (y2 : Int × Int × PUnit) i2 => br_i (fun h3 => ob_i ?_ fun o4 => ob_i ?_ fun o5 => lt_i (br_i (fun h6 => Fct.leafY ?_) (fun h6 => ob_i rfl fun _ => ob_i rfl fun _ => ob_i ?_ fun o7 => trivial))) (fun h3 => Fct.leafY ?_))
  all_goals try simp only [decide_eq_true_eq, decide_eq_false_iff_not, Bool.not_eq_true', Bool.not_eq_false', bne_iff_ne, bne_eq_false_iff_eq, beq_iff_eq, beq_eq_false_iff_ne, baEq, Int.not_lt, Int.not_le, ne_eq, Decidable.not_not] at *
  all_goals try simp only [LszS, fszSent, fszSentS, baSz, List.size_toArray, List.length_cons, List.length_nil, Nat.reduceAdd, Int.toNat_zero, List.drop_zero, decide_eq_true_eq, decide_eq_false_iff_not, Bool.not_eq_true', Bool.not_eq_false', bne_iff_ne, bne_eq_false_iff_eq, beq_iff_eq, beq_eq_false_iff_ne, Bool.not_eq_true, Bool.not_eq_false, ne_eq, Decidable.not_not, baEq, decide_not, Prod.mk.injEq, and_true, true_and, Room, List.nil_append, Nat.zero_add, Int.not_lt, Int.not_le] at *
  · have := good_len hp.1; simp only [maxLen] at this; rw [wrapId (by omega)] at h1
    rw [lessenNeg (by simp only [szL]; omega)]
  · have := good_len hp.1; simp only [maxLen] at this
    rw [wrapId (by omega)] at h1 ⊢
    exact ⟨by omega, by omega, h1, by simp⟩
  · omega
  · exact ⟨good_getD hp.1 (by omega), by omega, by omega⟩
  · have hs := sum_take_le szSent l (y2.2.1.toNat + 1)
    rw [sum_take szSent (by omega)] at hs
    rw [lessen_lt (by omega)] at h6
    rw [lessenNeg (by simp only [szL]; omega)]
  · have hw : IntKind.i64.wrap (y2.2.1 + 1) = y2.2.1 + 1 := wrapId (by have := good_len hp.1; simp only [maxLen] at this; omega)
    have h7 : ¬ lessen y2.1 (szSent (l.getD y2.2.1.toNat default)) < 0 := by omega
    rw [lessen_lt (by omega)] at h7
    rw [hw, toNat1 (by omega), sum_take szSent (by omega), lessen_ge (by omega)]
    exact ⟨⟨by omega, by omega, by omega, by omega⟩, by omega⟩
  · have e : l.take y2.2.1.toNat = l := List.take_of_length_le (by omega)
    rw [e] at i2
    have hz : ((szL szSent l : Nat) : Int) = l.length + (l.map szSent).sum := by simp only [szL]; omega
    rw [lessen_ge (by omega)]
    show y2.1 = n - ((szL szSent l : Nat) : Int)
    omega)
def E39 : D.Env := E38.add 62 fszSentS
theorem E39ok : EOk Try.prog E39 := E38ok.add k62_38
-- laws.toSentS
theorem k66_39 : ftoSentS.ok Try.prog 66 := Fct.of (S := ftoSentS) (L := fun ⟨l, _⟩ => fun | 3 => some (LtoS .sent l) | _ => none) (kp := [0,2,3,4,11]) E39ok Try.func66 (by kernel_rfl) (by kernel_rfl) (by
  rintro ⟨(l : List SSent), _⟩ hp
  refine holds_of (X := .ob ((↑l.length : Int) = (↑l.length : Int) ∧
  (0 : Int) ≤ (↑l.length : Int) ∧
    (56 : Int) * (↑l.length : Int) ≤ (140737488355328 : Int) ∧ (↑l.length : Int) ≤ (140737488355328 : Int)) <|
 lpx (LtoS .sent l) ((0 : Int), (List.replicate (↑l.length : Int).toNat default, ())) fun (y2 : Int × List SSent × PUnit) bk2 =>
 .br (decide (y2.fst < (↑l.length : Int)))
  (.ob ((0 : Int) ≤ y2.fst ∧ y2.fst < (↑l.length : Int)) <|
   .ob (ftoSent.pre (l.getD y2.fst.toNat default, ())) <|
   .lt (SSent × PUnit) (ftoSent.fn (l.getD y2.fst.toNat default, ())) fun z2 =>
   .ob ((0 : Int) ≤ y2.fst ∧ y2.fst < (↑y2.snd.fst.length : Int)) <|
    .ob (y2.fst.toNat < y2.snd.fst.length) <|
    .lt (List SSent) (y2.snd.fst.modify y2.fst.toNat fun z => z2.fst) fun z3 =>
    .ob (l = l) <|
     .ob (bk2 (IntKind.i64.wrap (y2.fst + (1 : Int)), (z3, ()))) <|
     .ok)
  (.leaf (mkR ftoSentS.rs (y2.snd.fst, ())) [] [])) (by kernel_rfl) ?_
  refine ob_i ?_ fun o1 => lpx_i ?_ fun (y2 : Int × List SSent × PUnit) i2 => br_i (fun h3 => ob_i ?_ fun o4 => ob_i ?_ fun o5 => lt_i (ob_i ?_ fun o6 => ob_i ?_ fun o7 => lt_i (ob_i rfl fun _ => ob_i ?_ fun o8 => trivial))) (fun h3 => Fct.leafY ?_)
  all_goals try simp only [decide_eq_true_eq, decide_eq_false_iff_not, Bool.not_eq_true', Bool.not_eq_false', bne_iff_ne, bne_eq_false_iff_eq, beq_iff_eq, beq_eq_false_iff_ne, baEq, Int.not_lt, Int.not_le, ne_eq, Decidable.not_not] at *
  all_goals try simp only [LtoS, ftoSent, ftoSentS, baSz, List.size_toArray, List.length_cons, List.length_nil, Nat.reduceAdd, Int.toNat_zero, List.drop_zero, decide_eq_true_eq, decide_eq_false_iff_not, Bool.not_eq_true', Bool.not_eq_false', bne_iff_ne, bne_eq_false_iff_eq, beq_iff_eq, beq_eq_false_iff_ne, Bool.not_eq_true, Bool.not_eq_false, ne_eq, Decidable.not_not, baEq, decide_not, Prod.mk.injEq, and_true, true_and, Room, List.nil_append, Nat.zero_add, Int.not_lt, Int.not_le] at *
  · have := szL_len szSent l; omega
  · exact ⟨by omega, by omega, by simp⟩
  · omega
  · have hs := sum_take_le szSent l (y2.1.toNat + 1)
    rw [sum_take szSent (by omega)] at hs
    simp only [szL] at hp; omega
  · rw [i2.2.2]; simp; omega
  · rw [i2.2.2]; simp; omega
  · have hw : IntKind.i64.wrap (y2.1 + 1) = y2.1 + 1 := wrapId (by have := szL_len szSent l; omega)
    rw [hw, toNat1 (by omega), i2.2.2]
    refine ⟨⟨by omega, by omega, ?_⟩, by omega⟩
    rw [show l.length - y2.1.toNat = (l.length - (y2.1.toNat + 1)) + 1 from by omega, List.replicate_succ, mod_at (by simp; omega), take_succ (by omega)]
    simp
  · have e : l.take y2.1.toNat = l := List.take_of_length_le (by omega)
    rw [i2.2.2, e]; simp; omega)
def E40 : D.Env := E39.add 66 ftoSentS
theorem E40ok : EOk Try.prog E40 := E39ok.add k66_39
-- laws.eqSentS
set_option maxHeartbeats 2000000 in
theorem k70_40 : feqSentS.ok Try.prog 70 := Fct.of (S := feqSentS) (L := fun ⟨l, m, _⟩ => fun | 4 => some (LeqS .sent l m) | _ => none) (kp := [0,1,4,5,10,14,26]) E40ok Try.func70 (by kernel_rfl) (by kernel_rfl) (by
  rintro ⟨(l : List SSent), (m : List SSent), _⟩ hp
  refine holds_of (X := .br ((↑l.length : Int) != (↑m.length : Int))
 (.leaf (mkR feqSentS.rs (false, ())) [] [])
 (lpx (LeqS .sent l m) ((0 : Int), ()) fun (y2 : Int × PUnit) bk2 =>
  .br (decide (y2.fst < (↑l.length : Int)))
   (.ob ((0 : Int) ≤ y2.fst ∧ y2.fst < (↑l.length : Int)) <|
    .ob ((0 : Int) ≤ y2.fst ∧ y2.fst < (↑m.length : Int)) <|
    .ob (feqSent.pre (l.getD y2.fst.toNat default, m.getD y2.fst.toNat default, ())) <|
    .lt (Bool × PUnit) (feqSent.fn (l.getD y2.fst.toNat default, m.getD y2.fst.toNat default, ())) fun z2 =>
    .br (!z2.fst)
     (.leaf (mkR feqSentS.rs (false, ())) [] [])
     (.ob (l = l) <|
      .ob (m = m) <|
      .ob (Value.bool ((↑l.length : Int) != (↑m.length : Int)) = Value.bool ((↑l.length : Int) != (↑m.length : Int))) <|
      .ob (bk2 (IntKind.i64.wrap (y2.fst + (1 : Int)), ())) <|
      .ok))
   (.leaf (mkR feqSentS.rs (true, ())) [] []))) (by kernel_rfl) ?_
  refine br_i (fun h1 => Fct.leafY ?_) (fun h1 => lpx_i ?_ fun (y2 : Int × PUnit) i2 => br_i (fun h3 => ob_i ?_ fun o4 => ob_i ?_ fun o5 => ob_i trivial fun _ => lt_i (br_i (fun h6 => Fct.leafY ?_) (fun h6 => ob_i rfl fun _ => ob_i rfl fun _ => ob_i rfl fun _ => ob_i ?_ fun o7 => trivial))) (fun h3 => Fct.leafY ?_))
  all_goals try simp only [decide_eq_true_eq, decide_eq_false_iff_not, Bool.not_eq_true', Bool.not_eq_false', bne_iff_ne, bne_eq_false_iff_eq, beq_iff_eq, beq_eq_false_iff_ne, baEq, Int.not_lt, Int.not_le, ne_eq, Decidable.not_not] at *
  all_goals try simp only [LeqS, feqSent, feqSentS, baSz, List.size_toArray, List.length_cons, List.length_nil, Nat.reduceAdd, Int.toNat_zero, List.drop_zero, decide_eq_true_eq, decide_eq_false_iff_not, Bool.not_eq_true', Bool.not_eq_false', bne_iff_ne, bne_eq_false_iff_eq, beq_iff_eq, beq_eq_false_iff_ne, Bool.not_eq_true, Bool.not_eq_false, ne_eq, Decidable.not_not, baEq, decide_not, Prod.mk.injEq, and_true, true_and, Room, List.nil_append, Nat.zero_add, Int.not_lt, Int.not_le] at *
  · rw [decide_eq_false]; rintro rfl; omega
  · exact ⟨by omega, by omega, by simp⟩
  · omega
  · omega
  · rw [decide_eq_false]; rintro rfl; exact absurd rfl h6
  · have hw : IntKind.i64.wrap (y2.1 + 1) = y2.1 + 1 := wrapId (by omega)
    rw [hw, toNat1 (by omega)]
    refine ⟨⟨by omega, by omega, ?_⟩, by omega⟩
    rw [take_succ (by omega), take_succ (by omega), i2.2.2, h6]
  · have e : l.take y2.1.toNat = l := List.take_of_length_le (by omega)
    have e2 : m.take y2.1.toNat = m := List.take_of_length_le (by omega)
    rw [decide_eq_true]; rw [← e, ← e2, i2.2.2])
def E41 : D.Env := E40.add 70 feqSentS
theorem E41ok : EOk Try.prog E41 := E40ok.add k70_40
-- laws.markSentS
set_option maxHeartbeats 2000000 in
theorem k80_41 : fmarkSentS.ok Try.prog 80 := MS.of (S := fmarkSentS) (L := fun l k => fun | 2 => some (LmkS .sent mkSent l k) | _ => none) (kp := [0,1,4,5,9]) (kl := [0]) E41ok Try.func80 (by kernel_rfl) (by kernel_rfl) (by
  rintro (l : List SSent) (k : Int) hp
  refine holds_of (X := lpx (LmkS .sent mkSent l k) (k, ((0 : Int), (l, ()))) fun (y1 : Int × Int × List SSent × PUnit) bk1 =>
 .br (decide (y1.snd.fst < (↑y1.snd.snd.fst.length : Int)))
  (.ob (fmarkText.pre (y1.fst, ())) <|
   .lt (ByteArray × PUnit) (fmarkText.fn (y1.fst, ())) fun z2 =>
   .ob ((0 : Int) ≤ y1.snd.fst ∧ y1.snd.fst < (↑y1.snd.snd.fst.length : Int)) <|
    .ob (y1.snd.fst.toNat < y1.snd.snd.fst.length) <|
    .lt (List SSent) (y1.snd.snd.fst.modify y1.snd.fst.toNat fun z => { top := z2.fst, to := z.to, guess := z.guess : SSent }) fun z3 =>
    .ob (fmarkText.pre (IntKind.i64.wrap (y1.fst + (1 : Int)), ())) <|
     .lt (ByteArray × PUnit) (fmarkText.fn (IntKind.i64.wrap (y1.fst + (1 : Int)), ())) fun z4 =>
     .ob ((0 : Int) ≤ y1.snd.fst ∧ y1.snd.fst < (↑z3.length : Int)) <|
      .ob (y1.snd.fst.toNat < z3.length) <|
      .lt (List SSent) (z3.modify y1.snd.fst.toNat fun z =>
  { top := z.top, to := { host := z4.fst, path := z.to.path : SAddr }, guess := z.guess : SSent }) fun z5 =>
      .ob (fmarkText.pre (IntKind.i64.wrap (IntKind.i64.wrap (y1.fst + (1 : Int)) + (1 : Int)), ())) <|
       .lt (ByteArray × PUnit) (fmarkText.fn (IntKind.i64.wrap (IntKind.i64.wrap (y1.fst + (1 : Int)) + (1 : Int)), ())) fun z6 =>
       .ob ((0 : Int) ≤ y1.snd.fst ∧ y1.snd.fst < (↑z5.length : Int)) <|
        .ob (y1.snd.fst.toNat < z5.length) <|
        .lt (List SSent) (z5.modify y1.snd.fst.toNat fun z =>
  { top := z.top, to := { host := z.to.host, path := z6.fst : SAddr }, guess := z.guess : SSent }) fun z7 =>
        .ob ((3 : Int) ≠ (0 : Int)) <|
         .ob ((0 : Int) ≤ y1.snd.fst ∧ y1.snd.fst < (↑z7.length : Int)) <|
         .ob (y1.snd.fst.toNat < z7.length) <|
         .lt (List SSent) (z7.modify y1.snd.fst.toNat fun z =>
  { top := z.top, to := z.to,
    guess :=
      (IntKind.i64.wrap (IntKind.i64.wrap (IntKind.i64.wrap (y1.fst + (1 : Int)) + (1 : Int)) + (1 : Int))).tmod
          (3 : Int) ==
        (0 : Int) :
    SSent }) fun z8 =>
         .ob (Value.int IntKind.i64 (0 : Int) = Value.int IntKind.i64 (0 : Int)) <|
          .ob (bk1 (IntKind.i64.wrap
  (IntKind.i64.wrap (IntKind.i64.wrap (IntKind.i64.wrap (y1.fst + (1 : Int)) + (1 : Int)) + (1 : Int)) + (1 : Int)), (IntKind.i64.wrap (y1.snd.fst + (1 : Int)), (z8, ())))) <|
          .ok)
  (.leaf (.one false [vi (y1.fst)]) [] [((0 : Nat), ⟨Ty.sent, y1.snd.snd.fst⟩)])) (by kernel_rfl) ?_
  refine lpx_i ?_ fun (y1 : Int × Int × List SSent × PUnit) i1 => br_i (fun h2 => ob_i ?_ fun o3 => lt_i (ob_i ?_ fun o4 => ob_i ?_ fun o5 => lt_i (ob_i ?_ fun o6 => lt_i (ob_i ?_ fun o7 => ob_i ?_ fun o8 => lt_i (ob_i ?_ fun o9 => lt_i (ob_i ?_ fun o10 => ob_i ?_ fun o11 => lt_i (ob_i ?_ fun o12 => ob_i ?_ fun o13 => ob_i ?_ fun o14 => lt_i (ob_i rfl fun _ => ob_i ?_ fun o15 => trivial)))))))) (fun h2 => MS.leaf ?_)
  · exact ⟨by simp, by simp, by simp [markL], by simp [markL]⟩
  all_goals have hp1 : 0 ≤ k := hp.1
  all_goals have hp2 : (markL mkSent l k).2 ≤ 4000000000000000000 := hp.2
  all_goals have i3 : 0 ≤ y1.2.1 ∧ y1.2.1 ≤ l.length ∧ y1.1 = (markL mkSent (l.take y1.2.1.toNat) k).2 ∧ y1.2.2.1 = (markL mkSent (l.take y1.2.1.toNat) k).1 ++ l.drop y1.2.1.toNat := i1
  all_goals have hcnt := markL_cnt (f := mkSent) (fun x k => by simp only [mkSent]; omega) l k
  all_goals have hx : y1.2.2.1.length = l.length := by rw [i3.2.2.2, List.length_append, markL_len, List.length_take, List.length_drop]; omega
  all_goals simp only [decide_eq_true_eq, decide_eq_false_iff_not, hx] at h2
  all_goals clear i1
  all_goals try have hlt : y1.2.1.toNat < l.length := by omega
  all_goals try have ht := markL_take (f := mkSent) hlt k
  all_goals try have hle := (markL_take_le mkSent_mono l (y1.2.1.toNat + 1) k).2
  all_goals try have hl0 := (markL_take_le mkSent_mono l y1.2.1.toNat k).1
  all_goals try rw [ht] at hle
  all_goals try rw [← i3.2.2.1] at hle hl0 ht
  all_goals try simp only [mkSent] at hle
  all_goals first | decide | (simp only [List.length_modify, hx]; omega) | (refine ⟨?_, ?_⟩ <;> (try simp (discharger := omega) only [wrapId']) <;> omega) | skip
  · clear o3 o4 o5
    simp (discharger := omega) only [wrapId', fmarkText]
    have hA : (markL mkSent (l.take y1.2.1.toNat) k).1.length = y1.2.1.toNat := by rw [markL_len, List.length_take]; omega
    refine ⟨⟨by omega, by omega, ?_, ?_⟩, ?_⟩
    · rw [toNat1 (by omega), ht]
      first | done | (simp only [mkSent]; done) | (simp only [mkSent]; omega)
    · rw [toNat1 (by omega), ht, i3.2.2.2, drop_cons hlt]
      simp only [mod_at hA, mkSent, Int.add_assoc, Int.reduceAdd, List.append_assoc, List.cons_append, List.nil_append]
    · omega
  · refine MS.leafL (t := .sent) (fn := fun l k => markL mkSent l k) ?_
    have e1 : l.take y1.2.1.toNat = l := List.take_of_length_le (by omega)
    have e2 : l.drop y1.2.1.toNat = [] := List.drop_of_length_le (by omega)
    rw [i3.2.2.2, i3.2.2.1, e1, e2, List.append_nil])
def E42 : D.Env := E41.addM 80 fmarkSentS
theorem E42ok : EOk Try.prog E42 := E41ok.addM k80_41
-- laws.szNet
set_option maxHeartbeats 2000000 in
theorem k15_42 : fszNet.ok Try.prog 15 := Fct.of (S := fszNet) (L := fun _ _ => none) (kp := [0,1,2,4,10,16,22]) E42ok Try.func15 (by kernel_rfl) (by kernel_rfl) (by
  rintro ⟨(x : SNet), (n : Int), _⟩ hp
  refine holds_of (X := .ob (fszServerS.pre (x.servers, n, ())) <|
 .lt (Int × PUnit) (fszServerS.fn (x.servers, n, ())) fun z2 =>
 .br (decide (z2.fst < (0 : Int)))
  (.leaf (mkR fszNet.rs ((-1 : Int), ())) [] [])
  (.ob (fszCache.pre (x.cache, z2.fst, ())) <|
   .lt (Int × PUnit) (fszCache.fn (x.cache, z2.fst, ())) fun z3 =>
   .br (decide (z3.fst < (0 : Int)))
    (.leaf (mkR fszNet.rs ((-1 : Int), ())) [] [])
    (.ob (fszSentS.pre (x.log, z3.fst, ())) <|
     .lt (Int × PUnit) (fszSentS.fn (x.log, z3.fst, ())) fun z4 =>
     .br (decide (z4.fst < (0 : Int)))
      (.leaf (mkR fszNet.rs ((-1 : Int), ())) [] [])
      (.leaf (mkR fszNet.rs (z4.fst, ())) [] [])))) (by kernel_rfl) ?_
  refine ob_i ?_ fun o1 => lt_i (br_i (fun h2 => Fct.leafY ?_) (fun h2 => ob_i ?_ fun o3 => lt_i (br_i (fun h4 => Fct.leafY ?_) (fun h4 => ob_i ?_ fun o5 => lt_i (br_i (fun h6 => Fct.leafY ?_) (fun h6 => Fct.leafY ?_))))))
  all_goals try simp only [decide_eq_true_eq, decide_eq_false_iff_not, Bool.not_eq_true', Bool.not_eq_false', bne_iff_ne, bne_eq_false_iff_eq, beq_iff_eq, beq_eq_false_iff_ne, baEq, Int.not_lt, Int.not_le, ne_eq, Decidable.not_not] at *
  all_goals try simp only [fszCache, fszNet, fszSentS, fszServerS, baSz, List.size_toArray, List.length_cons, List.length_nil, Nat.reduceAdd, Int.toNat_zero, List.drop_zero, decide_eq_true_eq, decide_eq_false_iff_not, Bool.not_eq_true', Bool.not_eq_false', bne_iff_ne, bne_eq_false_iff_eq, beq_iff_eq, beq_eq_false_iff_ne, Bool.not_eq_true, Bool.not_eq_false, ne_eq, Decidable.not_not, baEq, decide_not, Prod.mk.injEq, and_true, true_and, Room, List.nil_append, Nat.zero_add, Int.not_lt, Int.not_le, Sh.good, Sh.fc, enc, List.forall_mem_cons, List.not_mem_nil, false_implies, implies_true, goodC, maxLen] at *
  all_goals grind [wrapId', lessen, szCache, szL, szNet])
def E43 : D.Env := E42.add 15 fszNet
theorem E43ok : EOk Try.prog E43 := E42ok.add k15_42
-- laws.toNet
theorem k17_43 : ftoNet.ok Try.prog 17 := Fct.of (S := ftoNet) (L := fun _ _ => none) (kp := [0,1,2,3]) E43ok Try.func17 (by kernel_rfl) (by kernel_rfl) (by
  rintro ⟨(x : SNet), _⟩ hp
  refine holds_of (X := .ob (ftoServerS.pre (x.servers, ())) <|
 .lt (List SServer × PUnit) (ftoServerS.fn (x.servers, ())) fun z2 =>
 .ob (ftoCache.pre (x.cache, ())) <|
  .lt (SCache × PUnit) (ftoCache.fn (x.cache, ())) fun z3 =>
  .ob (ftoSentS.pre (x.log, ())) <|
   .lt (List SSent × PUnit) (ftoSentS.fn (x.log, ())) fun z4 =>
   .leaf (mkR ftoNet.rs (⟨z2.fst, z3.fst, z4.fst, x.now⟩, ())) [] []) (by kernel_rfl) ?_
  refine ob_i ?_ fun o1 => lt_i (ob_i ?_ fun o2 => lt_i (ob_i ?_ fun o3 => lt_i (Fct.leafY ?_)))
  all_goals try simp only [decide_eq_true_eq, decide_eq_false_iff_not, Bool.not_eq_true', Bool.not_eq_false', bne_iff_ne, bne_eq_false_iff_eq, beq_iff_eq, beq_eq_false_iff_ne, baEq, Int.not_lt, Int.not_le, ne_eq, Decidable.not_not] at *
  all_goals try simp only [ftoCache, ftoNet, ftoSentS, ftoServerS, baSz, List.size_toArray, List.length_cons, List.length_nil, Nat.reduceAdd, Int.toNat_zero, List.drop_zero, decide_eq_true_eq, decide_eq_false_iff_not, Bool.not_eq_true', Bool.not_eq_false', bne_iff_ne, bne_eq_false_iff_eq, beq_iff_eq, beq_eq_false_iff_ne, Bool.not_eq_true, Bool.not_eq_false, ne_eq, Decidable.not_not, baEq, decide_not, Prod.mk.injEq, and_true, true_and, Room, List.nil_append, Nat.zero_add, Int.not_lt, Int.not_le] at *
  all_goals first | trivial | rfl | grind [szCache, szL, szNet])
def E44 : D.Env := E43.add 17 ftoNet
theorem E44ok : EOk Try.prog E44 := E43ok.add k17_43
-- laws.eqNet
set_option maxHeartbeats 2000000 in
theorem k19_44 : feqNet.ok Try.prog 19 := Fct.of (S := feqNet) (L := fun _ _ => none) (kp := [0,1,2,3,4,10,16,22,27]) E44ok Try.func19 (by kernel_rfl) (by kernel_rfl) (by
  rintro ⟨(x : SNet), (y : SNet), _⟩ hp
  refine holds_of (X := .ob (feqServerS.pre (x.servers, y.servers, ())) <|
 .lt (Bool × PUnit) (feqServerS.fn (x.servers, y.servers, ())) fun z2 =>
 .br (!z2.fst)
  (.leaf (mkR feqNet.rs (false, ())) [] [])
  (.ob (feqCache.pre (x.cache, y.cache, ())) <|
   .lt (Bool × PUnit) (feqCache.fn (x.cache, y.cache, ())) fun z3 =>
   .br (!z3.fst)
    (.leaf (mkR feqNet.rs (false, ())) [] [])
    (.ob (feqSentS.pre (x.log, y.log, ())) <|
     .lt (Bool × PUnit) (feqSentS.fn (x.log, y.log, ())) fun z4 =>
     .br (!z4.fst)
      (.leaf (mkR feqNet.rs (false, ())) [] [])
      (.br (x.now != y.now)
       (.leaf (mkR feqNet.rs (false, ())) [] [])
       (.leaf (mkR feqNet.rs (true, ())) [] []))))) (by kernel_rfl) ?_
  refine ob_i ?_ fun o1 => lt_i (br_i (fun h2 => Fct.leafY ?_) (fun h2 => ob_i ?_ fun o3 => lt_i (br_i (fun h4 => Fct.leafY ?_) (fun h4 => ob_i ?_ fun o5 => lt_i (br_i (fun h6 => Fct.leafY ?_) (fun h6 => br_i (fun h7 => Fct.leafY ?_) (fun h7 => Fct.leafY ?_)))))))
  all_goals try simp only [decide_eq_true_eq, decide_eq_false_iff_not, Bool.not_eq_true', Bool.not_eq_false', bne_iff_ne, bne_eq_false_iff_eq, beq_iff_eq, beq_eq_false_iff_ne, baEq, Int.not_lt, Int.not_le, ne_eq, Decidable.not_not] at *
  all_goals try simp only [feqCache, feqNet, feqSentS, feqServerS, baSz, List.size_toArray, List.length_cons, List.length_nil, Nat.reduceAdd, Int.toNat_zero, List.drop_zero, decide_eq_true_eq, decide_eq_false_iff_not, Bool.not_eq_true', Bool.not_eq_false', bne_iff_ne, bne_eq_false_iff_eq, beq_iff_eq, beq_eq_false_iff_ne, Bool.not_eq_true, Bool.not_eq_false, ne_eq, Decidable.not_not, baEq, decide_not, Prod.mk.injEq, and_true, true_and, Room, List.nil_append, Nat.zero_add, Int.not_lt, Int.not_le] at *
  all_goals first | trivial | (cases x; cases y; simp_all; done) | (simp only [szCache, szL, szNet] at *; omega) | grind [szCache, szL, szNet])
def E45 : D.Env := E44.add 19 feqNet
theorem E45ok : EOk Try.prog E45 := E44ok.add k19_44
-- laws.markNet
set_option maxHeartbeats 2000000 in
theorem k30_45 : fmarkNet.ok Try.prog 30 := MS.of (S := fmarkNet) (L := fun _ _ _ => none) (kp := [0,1,2,4]) (kl := [0,1,2]) E45ok Try.func30 (by kernel_rfl) (by kernel_rfl) (by
  rintro (x : SNet) (k : Int) hp
  refine holds_of (X := .ob (fmarkServerS.pre x.servers k) <|
 .lt (List SServer × Int) (fmarkServerS.fn x.servers k) fun z2 =>
 .ob (fmarkCache.pre x.cache z2.snd) <|
  .lt (SCache × Int) (fmarkCache.fn x.cache z2.snd) fun z3 =>
  .ob (fmarkSentS.pre x.log z3.snd) <|
   .lt (List SSent × Int) (fmarkSentS.fn x.log z3.snd) fun z4 =>
   .leaf (.one false [vi (z4.snd)]) [] [((0 : Nat), ⟨Ty.server, z2.fst⟩), ((1 : Nat), ⟨Ty.entry, z3.fst.entries⟩), ((2 : Nat), ⟨Ty.sent, z4.fst⟩)]) (by kernel_rfl) ?_
  refine ob_d ?_ <| lt_i (ob_d ?_ <| lt_i (ob_d ?_ <| lt_i (MS.leaf ?_)))
  all_goals have hp1 : 0 ≤ k := hp.1
  all_goals have hp2 : (mvNet x k).2 ≤ 4000000000000000000 := hp.2
  all_goals clear hp
  all_goals simp only [mvNet] at hp2
  all_goals try have m1 := mkServerS_mono x.servers (k)
  all_goals try generalize hr1 : markL mkServer x.servers (k) = r1 at *
  all_goals try have m2 := mkEntryS_mono x.cache.entries (r1.2)
  all_goals try generalize hr2 : markL mkEntry x.cache.entries (r1.2) = r2 at *
  all_goals try have m3 := mkSentS_mono x.log (r2.2)
  all_goals try generalize hr3 : markL mkSent x.log (r2.2) = r3 at *
  all_goals simp (disch := omega) only [fmarkEntryS, fmarkSentS, fmarkServerS, fmarkCache, mvCache, hr1, hr2, hr3]
  all_goals first | trivial | omega | (refine ⟨?_, ?_⟩ <;> omega) | skip
  refine MS.leaf ?_
  simp only [fmarkNet, mvNet, hr1, hr2, hr3]
  exact ⟨⟨rfl, rfl, trivial⟩, trivial, rfl⟩)
def E46 : D.Env := E45.addM 30 fmarkNet
theorem E46ok : EOk Try.prog E46 := E45ok.addM k30_45
def isOwnGuess (s : SSent) : Bool := !s.guess || decide (s.to.host = s.top)
def fIsOwnGuess : Fct := ⟨[aE .sent], [rB], fun _ => True, fun x => (isOwnGuess x.1, ())⟩
def lSent : Fct := lawFS [.el .sent]
def countGuess : List SConn → Nat
  | [] => 0
  | c :: l => countGuess l + (if c.guess then 1 else 0)
theorem countGuess_app (l : List SConn) (c : SConn) : countGuess (l ++ [c]) = countGuess l + (if c.guess then 1 else 0) := by
  induction l with
  | nil => simp [countGuess]
  | cons d l ih => simp only [List.cons_append, countGuess, ih]; omega
theorem countGuess_take {l : List SConn} {i : Nat} (h : i < l.length) : countGuess (l.take (i + 1)) = countGuess (l.take i) + (if (l.getD i default).guess then 1 else 0) := by rw [take_succ h, countGuess_app]
theorem countGuess_le (l : List SConn) : countGuess l ≤ l.length := by
  induction l with
  | nil => simp [countGuess]
  | cons d l ih => simp only [countGuess, List.length_cons]; split <;> omega
def fCount : Fct := ⟨[aL .conn], [rI], fun x => Sh.good (.sl .conn) x.1, fun x => ((countGuess x.1 : Int), ())⟩
abbrev Lcount (n i : Nat) (l : List SConn) : LInv := ⟨[⟨.s, n, true, .el .int⟩, ⟨.s, i, true, .el .int⟩], fun _ (x : Int × Int × Unit) => 0 ≤ x.2.1 ∧ x.2.1 ≤ l.length ∧ x.1 = countGuess (l.take x.2.1.toNat), fun (x : Int × Int × Unit) => l.length - x.2.1.toNat⟩
def findConn (a : SAddr) : List SConn → Int → Int
  | [], _ => -1
  | c :: l, i => if c.to = a then i else findConn a l (i + 1)
theorem findConn_at {a : SAddr} {l : List SConn} {i : Nat} {z : Int} (h : i < l.length) : findConn a (l.drop i) z = if (l.getD i default).to = a then z else findConn a (l.drop (i + 1)) (z + 1) := by rw [drop_cons h]; rfl
theorem findConn_end {a : SAddr} {l : List SConn} {i : Nat} {z : Int} (h : l.length ≤ i) : findConn a (l.drop i) z = -1 := by rw [List.drop_of_length_le h]; rfl
theorem addrEq (x y : SAddr) : (x.host == y.host && (x.path == y.path && true)) = decide (x = y) := beqAddr x y
def fFind : Fct := ⟨[aL .conn, aE .addr], [rI], fun x => Sh.good (.sl .conn) x.1, fun x => (findConn x.2.1 x.1 0, ())⟩
abbrev Lfind (l : List SConn) (a : SAddr) : LInv := ⟨[⟨.s, 5, true, .el .int⟩, ⟨.b, 3, true, .el .addr⟩], fun _ (x : Int × SAddr × Unit) => 0 ≤ x.1 ∧ x.1 ≤ l.length ∧ x.2.1 = a ∧ findConn a l 0 = findConn a (l.drop x.1.toNat) x.1, fun (x : Int × SAddr × Unit) => l.length - x.1.toNat⟩
def fFind1 : Fct := ⟨[aE .conn, .p (.el .addr)], [rB], fun _ => True, fun x => (decide (x.1.to = x.2.1), ())⟩
def fIdxFind : Fct := ⟨[aL .conn, .c 0 [.el .addr]], [rI], fun x => Sh.good (.sl .conn) x.1, fun x => (findConn x.2.1.1 x.1 0, ())⟩
abbrev Lidx (l : List SConn) (F : List SConn → Int → Int) : LInv := ⟨[⟨.s, 8, true, .el .int⟩], fun _ (x : Int × Unit) => 0 ≤ x.1 ∧ x.1 ≤ l.length ∧ F l 0 = F (l.drop x.1.toNat) x.1, fun (x : Int × Unit) => l.length - x.1.toNat⟩
abbrev Lidxf (l : List SConn) (a : SAddr × Unit) : LInv := Lidx l (findConn a.1)
def firstDone : List SConn → Int → Int
  | [], _ => -1
  | c :: l, i => if c.left ≤ 0 then i else firstDone l (i + 1)
theorem firstDone_at {l : List SConn} {i : Nat} {z : Int} (h : i < l.length) : firstDone (l.drop i) z = if (l.getD i default).left ≤ 0 then z else firstDone (l.drop (i + 1)) (z + 1) := by rw [drop_cons h]; rfl
theorem firstDone_end {l : List SConn} {i : Nat} {z : Int} (h : l.length ≤ i) : firstDone (l.drop i) z = -1 := by rw [List.drop_of_length_le h]; rfl
def fFirst : Fct := ⟨[aL .conn], [rI], fun x => Sh.good (.sl .conn) x.1, fun x => (firstDone x.1 0, ())⟩
abbrev Lfirst (l : List SConn) : LInv := ⟨[⟨.s, 3, true, .el .int⟩], fun _ (x : Int × Unit) => 0 ≤ x.1 ∧ x.1 ≤ l.length ∧ firstDone l 0 = firstDone (l.drop x.1.toNat) x.1, fun (x : Int × Unit) => l.length - x.1.toNat⟩
def fFirst1 : Fct := ⟨[aE .conn], [rB], fun _ => True, fun x => (decide (x.1.left ≤ 0), ())⟩
def fIdxFirst : Fct := ⟨[aL .conn, .c 0 []], [rI], fun x => Sh.good (.sl .conn) x.1, fun x => (firstDone x.1 0, ())⟩
def lConnS : Fct := lawFS [.sl .conn]
def lConnSAddr : Fct := lawFS [.sl .conn, .el .addr]
def inRange (n lo hi : Int) : Bool := decide (lo ≤ n) && decide (n ≤ hi)
def fInRange : Fct := ⟨[aI, aI, aI], [rB], fun _ => True, fun (x : Int × Int × Int × Unit) => (inRange x.1 x.2.1 x.2.2.1, ())⟩
def fMax : Fct := ⟨[aI, aI], [rI], fun _ => True, fun (x : Int × Int × Unit) => (max x.1 x.2.1, ())⟩
def fCopyConns : Fct := ⟨[aL .conn], [rL .conn], fun (x : List SConn × Unit) => x.1.length ≤ 1048576, fun (x : List SConn × Unit) => (x.1, ())⟩
def moveOne (b : Int) (c : SConn) : SConn := { c with left := max 0 (IntKind.i64.wrap (c.left - b)) }
def moveConns (l : List SConn) (b : Int) : List SConn := if inRange b 0 1000 then l.map (moveOne b) else l
def fMove : Fct := ⟨[aL .conn, aI], [rL .conn], fun (x : List SConn × Int × Unit) => x.1.length ≤ 1048576, fun (x : List SConn × Int × Unit) => (moveConns x.1 x.2.1, ())⟩
abbrev L45 (l : List SConn) (b : Int) : LInv := ⟨[⟨.s, 6, true, .el .int⟩, ⟨.s, 5, true, .sl .conn⟩], fun _ (x : Int × List SConn × Unit) => 0 ≤ x.1 ∧ x.1 ≤ l.length ∧ x.2.1 = moveConns (l.take x.1.toNat) b ++ l.drop x.1.toNat, fun (x : Int × List SConn × Unit) => l.length - x.1.toNat⟩
theorem moveConns_len (l : List SConn) (b : Int) : (moveConns l b).length = l.length := by unfold moveConns; split <;> simp
theorem moveConns_nil (b : Int) : moveConns [] b = [] := by unfold moveConns; split <;> rfl
theorem moveConns_step {l : List SConn} {b : Int} {i : Nat} (hb : inRange b 0 1000 = true) (h : i < l.length) {g : SConn → SConn} (hg : g (l.getD i default) = moveOne b (l.getD i default)) : (moveConns (l.take i) b ++ l.drop i).modify i g = moveConns (l.take (i + 1)) b ++ l.drop (i + 1) := by
  rw [drop_cons h, mod_at (by rw [moveConns_len, List.length_take]; omega), take_succ h]
  simp only [moveConns, hb, if_true, List.map_append, List.map_cons, List.map_nil, List.append_assoc, List.cons_append, List.nil_append, hg]
theorem moveConns_out {l : List SConn} {b : Int} {i : Nat} (hb : inRange b 0 1000 = false) : moveConns (l.take i) b ++ l.drop i = moveConns l b := by
  simp [moveConns, hb]
abbrev L46 (l : List SConn) (b : Int) : LInv := ⟨[⟨.s, 15, true, .el .int⟩, ⟨.s, 5, true, .sl .conn⟩], fun _ (x : Int × List SConn × Unit) => 0 ≤ x.1 ∧ x.1 ≤ l.length ∧ x.2.1 = moveConns (l.take x.1.toNat) b ++ l.drop x.1.toNat, fun (x : Int × List SConn × Unit) => l.length - x.1.toNat⟩
def lMove : Fct := lawFS [.sl .conn, .el .int]
theorem mkConn_idem (x : SConn) (k : Int) : mkConn (mkConn x k).1 k = mkConn x k := rfl
def sizeResponse (x : SResponse) : Int := x.body.size + 20
def fSizeResponse : Fct := ⟨[aE .response], [rI], fun (x : SResponse × Unit) => x.1.body.size ≤ 1000000000000, fun (x : SResponse × Unit) => (sizeResponse x.1, ())⟩
def openConn (l : List SConn) (a : SAddr) (x : SResponse) (g : Bool) : List SConn × Bool := if (l.length : Int) ≥ 3 ∨ findConn a l 0 ≥ 0 then (l, false) else (l ++ [⟨a, sizeResponse x, g, x⟩], true)
def fOpen : Fct := ⟨[aL .conn, aE .addr, aE .response, aB], [rL .conn, rB], fun (x : List SConn × SAddr × SResponse × Bool × Unit) => x.1.length ≤ 1048576 ∧ Sh.good (.sl .conn) x.1 ∧ x.2.2.1.body.size ≤ 1048576, fun (x : List SConn × SAddr × SResponse × Bool × Unit) => ((openConn x.1 x.2.1 x.2.2.1 x.2.2.2.1).1, (openConn x.1 x.2.1 x.2.2.1 x.2.2.2.1).2, ())⟩
def lOpen : Fct := lawFS [.sl .conn, .el .addr, .el .response, .el .bool]
theorem openConn_len (l : List SConn) (a : SAddr) (x : SResponse) (g : Bool) : (openConn l a x g).1.length ≤ l.length + 1 := by unfold openConn; split <;> simp
def fIndex_addr : Fct := ⟨[.v (.sl .addr), .v (.el .addr)], [.el .int], fun (x_ : (List SAddr) × SAddr × Unit) => x_.1.length ≤ 1000000000000000000, fun (x_ : (List SAddr) × SAddr × Unit) => (fidx (fun c => decide (c = x_.2.1)) x_.1 0, ())⟩
def fContains_addr : Fct := ⟨[.v (.sl .addr), .v (.el .addr)], [.el .bool], fun (x_ : (List SAddr) × SAddr × Unit) => x_.1.length ≤ 1000000000000000000, fun (x_ : (List SAddr) × SAddr × Unit) => (x_.1.any fun c => decide (c = x_.2.1), ())⟩
def fHasAddr : Fct := ⟨[.v (.sl .addr), .v (.el .addr)], [.el .bool], fun (x_ : (List SAddr) × SAddr × Unit) => x_.1.length ≤ 1000000000000000000, fun (x_ : (List SAddr) × SAddr × Unit) => (x_.1.any fun c => decide (c = x_.2.1), ())⟩
def withoutAddrs (d : List SAddr) : List SRequest → List SRequest
  | [] => []
  | r :: l => if d.any (fun c => decide (c = r.to)) then withoutAddrs d l else r :: withoutAddrs d l
def fWithoutAddrs : Fct := ⟨[.v (.sl .request), .v (.sl .addr)], [.sl .request], fun (x_ : (List SRequest) × (List SAddr) × Unit) => x_.1.length ≤ 1048576 ∧ x_.2.1.length ≤ 1048576, fun (x_ : (List SRequest) × (List SAddr) × Unit) => (withoutAddrs x_.2.1 x_.1, ())⟩
theorem withoutAddrs_len (d : List SAddr) (l : List SRequest) : (withoutAddrs d l).length ≤ l.length := by
  induction l <;> grind [withoutAddrs]
def lWithoutAddrs : Fct := lawFS [.sl .request, .sl .addr]
def fIndex_str : Fct := ⟨[.v (.sl .str), .v (.el .str)], [.el .int], fun (x_ : (List ByteArray) × ByteArray × Unit) => x_.1.length ≤ 1000000000000000000, fun (x_ : (List ByteArray) × ByteArray × Unit) => (fidx (fun c => decide (c = x_.2.1)) x_.1 0, ())⟩
abbrev W_slices_Index_string_string_fIndex_str_2 (l : (List ByteArray)) (a : ByteArray) : LInv := ⟨[⟨.s, 8, true, .el .int⟩], fun _ (x_ : Int × Unit) => 0 ≤ x_.1 ∧ x_.1 ≤ l.length ∧ fidx (fun c => decide (c = a)) l 0 = fidx (fun c => decide (c = a)) (l.drop x_.1.toNat) x_.1, fun (x_ : Int × Unit) => l.length - x_.1.toNat⟩
-- slices.Index[[]string,string]
theorem k128_46 : fIndex_str.ok Try.prog 128 := Fct.of (S := fIndex_str) (L := fun ⟨l, a, _⟩ => fun | 2 => some (W_slices_Index_string_string_fIndex_str_2 l a) | _ => none) (kp := [0,1,4,5,7,8,9,16]) E46ok Try.func128 (by kernel_rfl) (by kernel_rfl) (by
  rintro ⟨(l : List ByteArray), (a : ByteArray), _⟩ hp
  refine holds_of (X := lpx (W_slices_Index_string_string_fIndex_str_2 l a) ((0 : Int), ()) fun (y1 : Int × PUnit) bk1 =>
 .br (decide (y1.fst < (↑l.length : Int)))
  (.ob ((0 : Int) ≤ y1.fst ∧ y1.fst < (↑l.length : Int)) <|
   .br (a.toList == (l.getD y1.fst.toNat default).toList)
   (.leaf (mkR fIndex_str.rs (y1.fst, ())) [] [])
   (.ob (l = l) <|
    .ob (Value.string a = Value.string a) <|
    .ob (Value.int IntKind.i64 (↑l.length : Int) = Value.int IntKind.i64 (↑l.length : Int)) <|
    .ob (bk1 (IntKind.i64.wrap (y1.fst + (1 : Int)), ())) <|
    .ok))
  (.leaf (mkR fIndex_str.rs ((-1 : Int), ())) [] [])) (by kernel_rfl) ?_
  refine lpx_i ?_ fun (y1 : Int × PUnit) i1 => br_i (fun h2 => ob_i ?_ fun o3 => br_i (fun h4 => Fct.leafY ?_) (fun h4 => ob_i rfl fun _ => ob_i rfl fun _ => ob_i rfl fun _ => ob_i ?_ fun o5 => trivial)) (fun h2 => Fct.leafY ?_)
  all_goals try simp only [baBeq, baEq] at *
  all_goals try simp only [decide_eq_true_eq, decide_eq_false_iff_not, Bool.not_eq_true', Bool.not_eq_false', bne_iff_ne, bne_eq_false_iff_eq, beq_iff_eq, beq_eq_false_iff_ne, baEq, Int.not_lt, Int.not_le, ne_eq, Decidable.not_not] at *
  all_goals try simp only [W_slices_Index_string_string_fIndex_str_2, fIndex_str, baSz, List.size_toArray, List.length_cons, List.length_nil, Nat.reduceAdd, Int.toNat_zero, List.drop_zero, decide_eq_true_eq, decide_eq_false_iff_not, Bool.not_eq_true', Bool.not_eq_false', bne_iff_ne, bne_eq_false_iff_eq, beq_iff_eq, beq_eq_false_iff_ne, Bool.not_eq_true, Bool.not_eq_false, ne_eq, Decidable.not_not, baEq, decide_not, Prod.mk.injEq, and_true, true_and, Room, List.nil_append, Nat.zero_add, Int.not_lt, Int.not_le, fidx] at *
  all_goals try simp (disch := omega) only [wrapId', toNat1] at *
  all_goals try simp (disch := omega) only [if_pos, if_neg]
  all_goals first | trivial | omega | grind [wrapId', toNat1, drop_cons, drop_end, good_len, maxLen, fidx])
def E47 : D.Env := E46.add 128 fIndex_str
theorem E47ok : EOk Try.prog E47 := E46ok.add k128_46
def fContains_str : Fct := ⟨[.v (.sl .str), .v (.el .str)], [.el .bool], fun (x_ : (List ByteArray) × ByteArray × Unit) => x_.1.length ≤ 1000000000000000000, fun (x_ : (List ByteArray) × ByteArray × Unit) => (x_.1.any fun c => decide (c = x_.2.1), ())⟩
-- slices.Contains[[]string,string]
theorem k77_47 : fContains_str.ok Try.prog 77 := Fct.of (S := fContains_str) (L := fun _ _ => none) (kp := [0,1,4]) E47ok Try.func77 (by kernel_rfl) (by kernel_rfl) (by
  rintro ⟨(l : List ByteArray), (a : ByteArray), _⟩ hp
  refine holds_of (X := .ob (fIndex_str.pre (l, a, ())) <|
 .lt (Int × PUnit) (fIndex_str.fn (l, a, ())) fun z2 =>
 .leaf (mkR fContains_str.rs (decide (z2.fst ≥ (0 : Int)), ())) [] []) (by kernel_rfl) ?_
  refine ob_i ?_ fun o1 => lt_i (Fct.leafY ?_)
  all_goals try simp only [decide_eq_true_eq, decide_eq_false_iff_not, Bool.not_eq_true', Bool.not_eq_false', bne_iff_ne, bne_eq_false_iff_eq, beq_iff_eq, beq_eq_false_iff_ne, baEq, Int.not_lt, Int.not_le, ne_eq, Decidable.not_not] at *
  all_goals try simp only [fContains_str, fIndex_str, baSz, List.size_toArray, List.length_cons, List.length_nil, Nat.reduceAdd, Int.toNat_zero, List.drop_zero, decide_eq_true_eq, decide_eq_false_iff_not, Bool.not_eq_true', Bool.not_eq_false', bne_iff_ne, bne_eq_false_iff_eq, beq_iff_eq, beq_eq_false_iff_ne, Bool.not_eq_true, Bool.not_eq_false, ne_eq, Decidable.not_not, baEq, decide_not, Prod.mk.injEq, and_true, true_and, Room, List.nil_append, Nat.zero_add, Int.not_lt, Int.not_le] at *
  all_goals first | trivial | omega | (rw [Bool.eq_iff_iff]; exact decide_eq_true_iff.trans (fidx_ge _ _ _ (by omega))))
def E48 : D.Env := E47.add 77 fContains_str
theorem E48ok : EOk Try.prog E48 := E47ok.add k77_47
def fHas9 : Fct := ⟨[.v (.sl .str), .v (.el .str)], [.el .bool], fun (x_ : (List ByteArray) × ByteArray × Unit) => x_.1.length ≤ 1000000000000000000, fun (x_ : (List ByteArray) × ByteArray × Unit) => (x_.1.any fun c => decide (c = x_.2.1), ())⟩
abbrev W_spec_l9Has_fHas9_2 (l : (List ByteArray)) (s : ByteArray) : LInv := ⟨[⟨.s, 5, true, .el .int⟩], fun _ (x_ : Int × Unit) => 0 ≤ x_.1 ∧ x_.1 ≤ l.length ∧ l.any (fun c => decide (c = s)) = (l.drop x_.1.toNat).any (fun c => decide (c = s)), fun (x_ : Int × Unit) => l.length - x_.1.toNat⟩
-- spec.l9Has
theorem k76_48 : fHas9.ok Try.prog 76 := Fct.of (S := fHas9) (L := fun ⟨l, s, _⟩ => fun | 2 => some (W_spec_l9Has_fHas9_2 l s) | _ => none) (kp := [0,1,4,5,9,17]) E48ok Try.func76 (by kernel_rfl) (by kernel_rfl) (by
  rintro ⟨(l : List ByteArray), (s : ByteArray), _⟩ hp
  refine holds_of (X := lpx (W_spec_l9Has_fHas9_2 l s) ((0 : Int), ()) fun (y1 : Int × PUnit) bk1 =>
 .br (decide (y1.fst < (↑l.length : Int)))
  (.ob ((0 : Int) ≤ y1.fst ∧ y1.fst < (↑l.length : Int)) <|
   .br ((l.getD y1.fst.toNat default).toList == s.toList)
   (.leaf (mkR fHas9.rs (true, ())) [] [])
   (.ob (l = l) <|
    .ob (Value.string s = Value.string s) <|
    .ob (bk1 (IntKind.i64.wrap (y1.fst + (1 : Int)), ())) <|
    .ok))
  (.leaf (mkR fHas9.rs (false, ())) [] [])) (by kernel_rfl) ?_
  refine lpx_i ?_ fun (y1 : Int × PUnit) i1 => br_i (fun h2 => ob_i ?_ fun o3 => br_i (fun h4 => Fct.leafY ?_) (fun h4 => ob_i rfl fun _ => ob_i rfl fun _ => ob_i ?_ fun o5 => trivial)) (fun h2 => Fct.leafY ?_)
  all_goals try simp only [decide_eq_true_eq, decide_eq_false_iff_not, Bool.not_eq_true', Bool.not_eq_false', bne_iff_ne, bne_eq_false_iff_eq, beq_iff_eq, beq_eq_false_iff_ne, baEq, Int.not_lt, Int.not_le, ne_eq, Decidable.not_not] at *
  all_goals try simp only [W_spec_l9Has_fHas9_2, fHas9, baSz, List.size_toArray, List.length_cons, List.length_nil, Nat.reduceAdd, Int.toNat_zero, List.drop_zero, decide_eq_true_eq, decide_eq_false_iff_not, Bool.not_eq_true', Bool.not_eq_false', bne_iff_ne, bne_eq_false_iff_eq, beq_iff_eq, beq_eq_false_iff_ne, Bool.not_eq_true, Bool.not_eq_false, ne_eq, Decidable.not_not, baEq, decide_not, Prod.mk.injEq, and_true, true_and, Room, List.nil_append, Nat.zero_add, Int.not_lt, Int.not_le] at *
  all_goals try simp (disch := omega) only [wrapId', toNat1] at *
  all_goals try simp (disch := omega) only [if_pos, if_neg]
  all_goals first | trivial | omega | grind [wrapId', toNat1, drop_cons, drop_end, good_len, maxLen])
def E49 : D.Env := E48.add 76 fHas9
theorem E49ok : EOk Try.prog E49 := E48ok.add k76_48
def fCountGuesses : Fct := ⟨[.v (.sl .sent)], [.el .int], fun (x_ : (List SSent) × Unit) => x_.1.length ≤ 1000000000000000000, fun (x_ : (List SSent) × Unit) => (countIf (fun s => s.guess) x_.1, ())⟩
def guessesSent (l : List SSent) (b : Int) : Int := if 0 ≤ b then countIf (fun s => s.guess) (l.drop b.toNat) else 0
def fGuessesSent : Fct := ⟨[.v (.el .net), .v (.el .int)], [.el .int], fun (x_ : SNet × Int × Unit) => x_.1.log.length ≤ 1048576, fun (x_ : SNet × Int × Unit) => (guessesSent x_.1.log x_.2.1, ())⟩
def fIsComplete : Fct := ⟨[.v (.el .page)], [.el .bool], fun (x_ : SPage × Unit) => True, fun (x_ : SPage × Unit) => (x_.1.loaded, ())⟩
def blockedOn (p : SPage) : SAddr × Bool := if 1 ≤ p.block ∧ p.block ≤ p.slots.length then ((p.slots.getD (p.block - 1).toNat default).to, true) else (default, false)
def fBlockedOn : Fct := ⟨[.v (.el .page)], [.el .addr, .el .bool], fun (x_ : SPage × Unit) => x_.1.slots.length ≤ 1048576 ∧ -9223372036854775808 ≤ x_.1.block ∧ x_.1.block ≤ 9223372036854775807, fun (x_ : SPage × Unit) => ((blockedOn x_.1).1, (blockedOn x_.1).2, ())⟩
def fRefusedUses : Fct := ⟨[.v (.el .page)], [.el .int], fun (x_ : SPage × Unit) => x_.1.slots.length ≤ 1048576 ∧ x_.1.mods.length ≤ 1048576, fun (x_ : SPage × Unit) => (countIf (fun s => s.done && decide (s.code ≠ 1)) x_.1.slots + countIf (fun s => s.done && decide (s.code ≠ 1)) x_.1.mods, ())⟩
def fNewTab : Fct := ⟨[], [rE .tab], fun _ => True, fun _ => (⟨[], -1⟩, ())⟩
def classOf (p : SPage) (r : SRequest) : Int := if (blockedOn p).2 = true ∧ (blockedOn p).1 = r.to then 0 else if r.kind = 3 then 1 else if r.kind = 2 then 2 else if r.kind = 5 then 3 else if r.kind = 4 then 4 else 5
def fClassOf : Fct := ⟨[.v (.el .page), .v (.el .request)], [.el .int], fun (x_ : SPage × SRequest × Unit) => x_.1.slots.length ≤ 1048576 ∧ -9223372036854775808 ≤ x_.1.block ∧ x_.1.block ≤ 9223372036854775807, fun (x_ : SPage × SRequest × Unit) => (classOf x_.1 x_.2.1, ())⟩
def presentAddr (t : STab) : SAddr × Bool := if 0 ≤ t.at_ ∧ t.at_ < t.visits.length then ((t.visits.getD t.at_.toNat default).addr, true) else (default, false)
def fPresentAddr : Fct := ⟨[.v (.el .tab)], [.el .addr, .el .bool], fun (x_ : STab × Unit) => x_.1.visits.length ≤ 1048576, fun (x_ : STab × Unit) => ((presentAddr x_.1).1, (presentAddr x_.1).2, ())⟩
def fHasPresent : Fct := ⟨[.v (.el .tab)], [.el .bool], fun (x_ : STab × Unit) => True, fun (x_ : STab × Unit) => (decide (0 ≤ x_.1.at_ ∧ x_.1.at_ < x_.1.visits.length), ())⟩
def fKeptCount : Fct := ⟨[.v (.el .tab)], [.el .int], fun (x_ : STab × Unit) => x_.1.visits.length ≤ 1048576, fun (x_ : STab × Unit) => (countIf (fun v => v.kept) x_.1.visits, ())⟩
def visitOk (v : SVisit) : Bool := !v.kept || decide (v.addr = v.page.addr)
def isTab (t : STab) : Bool := t.visits.all visitOk && decide (t.visits.length ≤ 6 ∧ ((t.visits.length = 0 ∧ t.at_ = -1) ∨ (0 ≤ t.at_ ∧ t.at_ < t.visits.length)))
def fIsTab : Fct := ⟨[.v (.el .tab)], [.el .bool], fun (x_ : STab × Unit) => x_.1.visits.length ≤ 1048576, fun (x_ : STab × Unit) => (isTab x_.1, ())⟩
def fHostsOf : Fct := ⟨[.v (.el .net)], [.sl .str], fun (x_ : SNet × Unit) => x_.1.log.length ≤ 1048576, fun (x_ : SNet × Unit) => (uniqBy (fun s => s.to.host) [] x_.1.log, ())⟩
def fSentTo : Fct := ⟨[.v (.el .net), .v (.el .str)], [.sl .sent], fun (x_ : SNet × ByteArray × Unit) => x_.1.log.length ≤ 1048576, fun (x_ : SNet × ByteArray × Unit) => (x_.1.log.filter (fun s => decide (s.to.host = x_.2.1)), ())⟩
abbrev W_spec_SentTo_fSentTo_3 (n : SNet) (h : ByteArray) : LInv := ⟨[⟨.s, 5, true, .sl .sent⟩, ⟨.s, 6, true, .el .int⟩, ⟨.b, 2, false, .el .net⟩], fun (z_ : (List SSent) × Int × SNet × Unit) (x_ : (List SSent) × Int × SNet × Unit) => (0 ≤ x_.2.1 ∧ x_.2.1 ≤ n.log.length ∧ x_.1.length ≤ x_.2.1 ∧ x_.1 ++ (n.log.drop x_.2.1.toNat).filter (fun s => decide (s.to.host = h)) = n.log.filter (fun s => decide (s.to.host = h))) ∧ x_.2.2.1 = z_.2.2.1, fun (x_ : (List SSent) × Int × SNet × Unit) => n.log.length - x_.2.1.toNat⟩
-- spec.SentTo
theorem k81_49 : fSentTo.ok Try.prog 81 := Fct.of (S := fSentTo) (L := fun ⟨n, h, _⟩ => fun | 3 => some (W_spec_SentTo_fSentTo_3 n h) | _ => none) (kp := [0,1,2,4,5,6,12,23]) E49ok Try.func81 (by kernel_rfl) (by kernel_rfl) (by
  rintro ⟨(n : SNet), (h : ByteArray), _⟩ hp
  refine holds_of (X := lpx (W_spec_SentTo_fSentTo_3 n h) ([], ((0 : Int), (n, ()))) fun (y1 : List SSent × Int × SNet × PUnit) bk1 =>
 .br (decide (y1.snd.fst < (↑y1.snd.snd.fst.log.length : Int)))
  (.ob ((0 : Int) ≤ y1.snd.fst ∧ y1.snd.fst < (↑y1.snd.snd.fst.log.length : Int)) <|
   .br ((y1.snd.snd.fst.log.getD y1.snd.fst.toNat default).to.host.toList == h.toList)
   (.ob ((0 : Int) ≤ y1.snd.fst ∧ y1.snd.fst < (↑y1.snd.snd.fst.log.length : Int)) <|
    .ob (True) <|
    .ob (Room (y1.fst.length + [y1.snd.snd.fst.log.getD y1.snd.fst.toNat default].length) (56 : Nat)) <|
    .ob (n.servers = n.servers) <|
    .ob (n.cache.entries = n.cache.entries) <|
    .ob (n.log = n.log) <|
    .ob (Value.int IntKind.i64 n.now = Value.int IntKind.i64 n.now) <|
    .ob (Value.string h = Value.string h) <|
    .ob (bk1 (y1.fst ++ [y1.snd.snd.fst.log.getD y1.snd.fst.toNat default], (IntKind.i64.wrap (y1.snd.fst + (1 : Int)), (y1.snd.snd.fst, ())))) <|
    .ok)
   (.ob (n.servers = n.servers) <|
    .ob (n.cache.entries = n.cache.entries) <|
    .ob (n.log = n.log) <|
    .ob (Value.int IntKind.i64 n.now = Value.int IntKind.i64 n.now) <|
    .ob (Value.string h = Value.string h) <|
    .ob (bk1 (y1.fst, (IntKind.i64.wrap (y1.snd.fst + (1 : Int)), (y1.snd.snd.fst, ())))) <|
    .ok))
  (.leaf (mkR fSentTo.rs (y1.fst, ())) [] [])) (by kernel_rfl) ?_
  refine lpx_i ?_ fun (y1 : List SSent × Int × SNet × PUnit) i1 => br_i (fun h2 => ob_i ?_ fun o3 => br_i (fun h4 => ob_i ?_ fun o5 => ob_i trivial fun _ => ob_i ?_ fun o6 => ob_i rfl fun _ => ob_i rfl fun _ => ob_i rfl fun _ => ob_i rfl fun _ => ob_i rfl fun _ => ob_i ?_ fun o7 => trivial) (fun h4 => ob_i rfl fun _ => ob_i rfl fun _ => ob_i rfl fun _ => ob_i rfl fun _ => ob_i rfl fun _ => ob_i ?_ fun o8 => trivial)) (fun h2 => Fct.leafY ?_)
  all_goals try simp only [decide_eq_true_eq, decide_eq_false_iff_not, Bool.not_eq_true', Bool.not_eq_false', bne_iff_ne, bne_eq_false_iff_eq, beq_iff_eq, beq_eq_false_iff_ne, baEq, Int.not_lt, Int.not_le, ne_eq, Decidable.not_not] at *
  all_goals try simp only [W_spec_SentTo_fSentTo_3, fSentTo, baSz, List.size_toArray, List.length_cons, List.length_nil, Nat.reduceAdd, Int.toNat_zero, List.drop_zero, decide_eq_true_eq, decide_eq_false_iff_not, Bool.not_eq_true', Bool.not_eq_false', bne_iff_ne, bne_eq_false_iff_eq, beq_iff_eq, beq_eq_false_iff_ne, Bool.not_eq_true, Bool.not_eq_false, ne_eq, Decidable.not_not, baEq, decide_not, Prod.mk.injEq, and_true, true_and, Room, List.nil_append, Nat.zero_add, Int.not_lt, Int.not_le] at *
  all_goals try simp (disch := omega) only [wrapId', toNat1] at *
  all_goals try simp (disch := omega) only [if_pos, if_neg]
  all_goals first | trivial | omega | grind [wrapId', toNat1, drop_cons, drop_end, good_len, maxLen])
def E50 : D.Env := E49.add 81 fSentTo
theorem E50ok : EOk Try.prog E50 := E49ok.add k81_49
abbrev W_impl_SentTo_fSentTo_3 (n : SNet) (h : ByteArray) : LInv := ⟨[⟨.s, 5, true, .sl .sent⟩, ⟨.s, 12, true, .el .int⟩], fun _ (x_ : (List SSent) × Int × Unit) => 0 ≤ x_.2.1 ∧ x_.2.1 ≤ n.log.length ∧ x_.1.length ≤ x_.2.1 ∧ x_.1 ++ (n.log.drop x_.2.1.toNat).filter (fun s => decide (s.to.host = h)) = n.log.filter (fun s => decide (s.to.host = h)), fun (x_ : (List SSent) × Int × Unit) => n.log.length - x_.2.1.toNat⟩
-- impl.SentTo
theorem k82_50 : fSentTo.ok Try.prog 82 := Fct.of (S := fSentTo) (L := fun ⟨n, h, _⟩ => fun | 3 => some (W_impl_SentTo_fSentTo_3 n h) | _ => none) (kp := [0,1,2,4,5,7,10,11,12,13,20]) E50ok Try.func82 (by kernel_rfl) (by kernel_rfl) (by
  rintro ⟨(n : SNet), (h : ByteArray), _⟩ hp
  refine holds_of (X := lpx (W_impl_SentTo_fSentTo_3 n h) ([], ((0 : Int), ())) fun (y1 : List SSent × Int × PUnit) bk1 =>
 .br (decide (y1.snd.fst < (↑n.log.length : Int)))
  (.ob ((0 : Int) ≤ y1.snd.fst ∧ y1.snd.fst < (↑n.log.length : Int)) <|
   .br ((n.log.getD y1.snd.fst.toNat default).to.host.toList == h.toList)
   (.ob (True) <|
    .ob (Room (y1.fst.length + [n.log.getD y1.snd.fst.toNat default].length) (56 : Nat)) <|
    .ob (n.servers = n.servers) <|
    .ob (n.cache.entries = n.cache.entries) <|
    .ob (n.log = n.log) <|
    .ob (Value.int IntKind.i64 n.now = Value.int IntKind.i64 n.now) <|
    .ob (Value.string h = Value.string h) <|
    .ob (n.log = n.log) <|
    .ob (Value.int IntKind.i64 (↑n.log.length : Int) = Value.int IntKind.i64 (↑n.log.length : Int)) <|
    .ob (bk1 (y1.fst ++ [n.log.getD y1.snd.fst.toNat default], (IntKind.i64.wrap (y1.snd.fst + (1 : Int)), ()))) <|
    .ok)
   (.ob (n.servers = n.servers) <|
    .ob (n.cache.entries = n.cache.entries) <|
    .ob (n.log = n.log) <|
    .ob (Value.int IntKind.i64 n.now = Value.int IntKind.i64 n.now) <|
    .ob (Value.string h = Value.string h) <|
    .ob (n.log = n.log) <|
    .ob (Value.int IntKind.i64 (↑n.log.length : Int) = Value.int IntKind.i64 (↑n.log.length : Int)) <|
    .ob (bk1 (y1.fst, (IntKind.i64.wrap (y1.snd.fst + (1 : Int)), ()))) <|
    .ok))
  (.leaf (mkR fSentTo.rs (y1.fst, ())) [] [])) (by kernel_rfl) ?_
  refine lpx_i ?_ fun (y1 : List SSent × Int × PUnit) i1 => br_i (fun h2 => ob_i ?_ fun o3 => br_i (fun h4 => ob_i trivial fun _ => ob_i ?_ fun o5 => ob_i rfl fun _ => ob_i rfl fun _ => ob_i rfl fun _ => ob_i rfl fun _ => ob_i rfl fun _ => ob_i rfl fun _ => ob_i rfl fun _ => ob_i ?_ fun o6 => trivial) (fun h4 => ob_i rfl fun _ => ob_i rfl fun _ => ob_i rfl fun _ => ob_i rfl fun _ => ob_i rfl fun _ => ob_i rfl fun _ => ob_i rfl fun _ => ob_i ?_ fun o7 => trivial)) (fun h2 => Fct.leafY ?_)
  all_goals try simp only [decide_eq_true_eq, decide_eq_false_iff_not, Bool.not_eq_true', Bool.not_eq_false', bne_iff_ne, bne_eq_false_iff_eq, beq_iff_eq, beq_eq_false_iff_ne, baEq, Int.not_lt, Int.not_le, ne_eq, Decidable.not_not] at *
  all_goals try simp only [W_impl_SentTo_fSentTo_3, fSentTo, baSz, List.size_toArray, List.length_cons, List.length_nil, Nat.reduceAdd, Int.toNat_zero, List.drop_zero, decide_eq_true_eq, decide_eq_false_iff_not, Bool.not_eq_true', Bool.not_eq_false', bne_iff_ne, bne_eq_false_iff_eq, beq_iff_eq, beq_eq_false_iff_ne, Bool.not_eq_true, Bool.not_eq_false, ne_eq, Decidable.not_not, baEq, decide_not, Prod.mk.injEq, and_true, true_and, Room, List.nil_append, Nat.zero_add, Int.not_lt, Int.not_le] at *
  all_goals try simp (disch := omega) only [wrapId', toNat1] at *
  all_goals try simp (disch := omega) only [if_pos, if_neg]
  all_goals first | trivial | omega | grind [wrapId', toNat1, drop_cons, drop_end, good_len, maxLen])
def E51 : D.Env := E50.add 82 fSentTo
theorem E51ok : EOk Try.prog E51 := E50ok.add k82_50
def topsOf (n : SNet) (h : ByteArray) : List ByteArray := uniqBy (fun s => s.top) [] (n.log.filter (fun s => decide (s.to.host = h)))
theorem filter_len_ {α : Type} (p : α → Bool) (l : List α) : (l.filter p).length ≤ l.length := List.length_filter_le p l
def fTopsOf : Fct := ⟨[.v (.el .net), .v (.el .str)], [.sl .str], fun (x_ : SNet × ByteArray × Unit) => x_.1.log.length ≤ 1048576, fun (x_ : SNet × ByteArray × Unit) => (topsOf x_.1 x_.2.1, ())⟩
abbrev W_spec_TopsOf_fTopsOf_4 (n : SNet) (h : ByteArray) : LInv := ⟨[⟨.s, 5, true, .sl .str⟩, ⟨.s, 7, true, .el .int⟩, ⟨.s, 6, true, .sl .sent⟩], fun _ (x_ : (List ByteArray) × Int × (List SSent) × Unit) => 0 ≤ x_.2.1 ∧ x_.2.2.1 = n.log.filter (fun s => decide (s.to.host = h)) ∧ x_.2.1 ≤ x_.2.2.1.length ∧ x_.1.length ≤ x_.2.1 ∧ uniqBy (fun s => s.top) x_.1 (x_.2.2.1.drop x_.2.1.toNat) = topsOf n h, fun (x_ : (List ByteArray) × Int × (List SSent) × Unit) => (n.log.filter (fun s => decide (s.to.host = h))).length - x_.2.1.toNat⟩
-- spec.TopsOf
theorem k31_51 : fTopsOf.ok Try.prog 31 := Fct.of (S := fTopsOf) (L := fun ⟨n, h, _⟩ => fun | 4 => some (W_spec_TopsOf_fTopsOf_4 n h) | _ => none) (kp := [0,1,2,4,5,6,7,15,25]) E51ok Try.func31 (by kernel_rfl) (by kernel_rfl) (by
  rintro ⟨(n : SNet), (h : ByteArray), _⟩ hp
  refine holds_of (X := .ob (fSentTo.pre (n, h, ())) <|
 .lt (List SSent × PUnit) (fSentTo.fn (n, h, ())) fun z2 =>
 lpx (W_spec_TopsOf_fTopsOf_4 n h) ([], ((0 : Int), (z2.fst, ()))) fun (y2 : List ByteArray × Int × List SSent × PUnit) bk2 =>
  .br (decide (y2.snd.fst < (↑y2.snd.snd.fst.length : Int)))
   (.ob ((0 : Int) ≤ y2.snd.fst ∧ y2.snd.fst < (↑y2.snd.snd.fst.length : Int)) <|
    .ob (y2.snd.fst.toNat < y2.snd.snd.fst.length) <|
    .ob (fHas9.pre (y2.fst, (y2.snd.snd.fst.getD y2.snd.fst.toNat default).top, ())) <|
    .lt (Bool × PUnit) (fHas9.fn (y2.fst, (y2.snd.snd.fst.getD y2.snd.fst.toNat default).top, ())) fun z3 =>
    .br (!z3.fst)
     (.ob ((0 : Int) ≤ y2.snd.fst ∧ y2.snd.fst < (↑y2.snd.snd.fst.length : Int)) <|
      .ob (y2.snd.fst.toNat < y2.snd.snd.fst.length) <|
      .ob (True) <|
      .ob (Room (y2.fst.length + [(y2.snd.snd.fst.getD y2.snd.fst.toNat default).top].length) (16 : Nat)) <|
      .ob (n.servers = n.servers) <|
      .ob (n.cache.entries = n.cache.entries) <|
      .ob (n.log = n.log) <|
      .ob (Value.int IntKind.i64 n.now = Value.int IntKind.i64 n.now) <|
      .ob (Value.string h = Value.string h) <|
      .ob (bk2 (y2.fst ++ [(y2.snd.snd.fst.getD y2.snd.fst.toNat default).top], (IntKind.i64.wrap (y2.snd.fst + (1 : Int)), (y2.snd.snd.fst, ())))) <|
      .ok)
     (.ob (n.servers = n.servers) <|
      .ob (n.cache.entries = n.cache.entries) <|
      .ob (n.log = n.log) <|
      .ob (Value.int IntKind.i64 n.now = Value.int IntKind.i64 n.now) <|
      .ob (Value.string h = Value.string h) <|
      .ob (bk2 (y2.fst, (IntKind.i64.wrap (y2.snd.fst + (1 : Int)), (y2.snd.snd.fst, ())))) <|
      .ok))
   (.leaf (mkR fTopsOf.rs (y2.fst, ())) [] [])) (by kernel_rfl) ?_
  refine ob_i ?_ fun o1 => lt_i (lpx_i ?_ fun (y2 : List ByteArray × Int × List SSent × PUnit) i2 => br_i (fun h3 => ob_i ?_ fun o4 => ob_i ?_ fun o5 => ob_i ?_ fun o6 => lt_i (br_i (fun h7 => ob_i ?_ fun o8 => ob_i ?_ fun o9 => ob_i trivial fun _ => ob_i ?_ fun o10 => ob_i rfl fun _ => ob_i rfl fun _ => ob_i rfl fun _ => ob_i rfl fun _ => ob_i rfl fun _ => ob_i ?_ fun o11 => trivial) (fun h7 => ob_i rfl fun _ => ob_i rfl fun _ => ob_i rfl fun _ => ob_i rfl fun _ => ob_i rfl fun _ => ob_i ?_ fun o12 => trivial))) (fun h3 => Fct.leafY ?_))
  all_goals have hfl := filter_len_ (fun (s : SSent) => decide (s.to.host = h)) n.log
  all_goals try simp only [decide_eq_true_eq, decide_eq_false_iff_not, Bool.not_eq_true', Bool.not_eq_false', bne_iff_ne, bne_eq_false_iff_eq, beq_iff_eq, beq_eq_false_iff_ne, baEq, Int.not_lt, Int.not_le, ne_eq, Decidable.not_not] at *
  all_goals try simp only [W_spec_TopsOf_fTopsOf_4, fHas9, fSentTo, fTopsOf, baSz, List.size_toArray, List.length_cons, List.length_nil, Nat.reduceAdd, Int.toNat_zero, List.drop_zero, decide_eq_true_eq, decide_eq_false_iff_not, Bool.not_eq_true', Bool.not_eq_false', bne_iff_ne, bne_eq_false_iff_eq, beq_iff_eq, beq_eq_false_iff_ne, Bool.not_eq_true, Bool.not_eq_false, ne_eq, Decidable.not_not, baEq, decide_not, Prod.mk.injEq, and_true, true_and, Room, List.nil_append, Nat.zero_add, Int.not_lt, Int.not_le, topsOf, uniqBy, fHas9, fContains_str, fSentTo] at *
  all_goals try simp (disch := omega) only [wrapId', toNat1] at *
  all_goals try simp (disch := omega) only [if_pos, if_neg]
  all_goals first | trivial | omega | grind [wrapId', toNat1, drop_cons, drop_end, good_len, maxLen, topsOf, uniqBy, fHas9, fContains_str, fSentTo])
def E52 : D.Env := E51.add 31 fTopsOf
theorem E52ok : EOk Try.prog E52 := E51ok.add k31_51
abbrev W_impl_TopsOf_fTopsOf_3 (n : SNet) (h : ByteArray) : LInv := ⟨[⟨.s, 5, true, .sl .str⟩, ⟨.s, 13, true, .el .int⟩, ⟨.s, 11, true, .sl .sent⟩], fun _ (x_ : (List ByteArray) × Int × (List SSent) × Unit) => 0 ≤ x_.2.1 ∧ x_.2.2.1 = n.log.filter (fun s => decide (s.to.host = h)) ∧ x_.2.1 ≤ x_.2.2.1.length ∧ x_.1.length ≤ x_.2.1 ∧ uniqBy (fun s => s.top) x_.1 (x_.2.2.1.drop x_.2.1.toNat) = topsOf n h, fun (x_ : (List ByteArray) × Int × (List SSent) × Unit) => (n.log.filter (fun s => decide (s.to.host = h))).length - x_.2.1.toNat⟩
-- impl.TopsOf
theorem k32_52 : fTopsOf.ok Try.prog 32 := Fct.of (S := fTopsOf) (L := fun ⟨n, h, _⟩ => fun | 3 => some (W_impl_TopsOf_fTopsOf_3 n h) | _ => none) (kp := [0,1,2,4,5,7,11,12,13,14,21]) E52ok Try.func32 (by kernel_rfl) (by kernel_rfl) (by
  rintro ⟨(n : SNet), (h : ByteArray), _⟩ hp
  refine holds_of (X := .ob (fSentTo.pre (n, h, ())) <|
 .lt (List SSent × PUnit) (fSentTo.fn (n, h, ())) fun z2 =>
 lpx (W_impl_TopsOf_fTopsOf_3 n h) ([], ((0 : Int), (z2.fst, ()))) fun (y2 : List ByteArray × Int × List SSent × PUnit) bk2 =>
  .br (decide (y2.snd.fst < (↑z2.fst.length : Int)))
   (.ob ((0 : Int) ≤ y2.snd.fst ∧ y2.snd.fst < (↑y2.snd.snd.fst.length : Int)) <|
    .ob (y2.snd.fst.toNat < y2.snd.snd.fst.length) <|
    .ob (fContains_str.pre (y2.fst, (y2.snd.snd.fst.getD y2.snd.fst.toNat default).top, ())) <|
    .lt (Bool × PUnit) (fContains_str.fn (y2.fst, (y2.snd.snd.fst.getD y2.snd.fst.toNat default).top, ())) fun z3 =>
    .br (!z3.fst)
     (.ob (True) <|
      .ob (Room (y2.fst.length + [(y2.snd.snd.fst.getD y2.snd.fst.toNat default).top].length) (16 : Nat)) <|
      .ob (n.servers = n.servers) <|
      .ob (n.cache.entries = n.cache.entries) <|
      .ob (n.log = n.log) <|
      .ob (Value.int IntKind.i64 n.now = Value.int IntKind.i64 n.now) <|
      .ob (Value.string h = Value.string h) <|
      .ob (Value.int IntKind.i64 (↑z2.fst.length : Int) = Value.int IntKind.i64 (↑z2.fst.length : Int)) <|
      .ob (bk2 (y2.fst ++ [(y2.snd.snd.fst.getD y2.snd.fst.toNat default).top], (IntKind.i64.wrap (y2.snd.fst + (1 : Int)), (y2.snd.snd.fst, ())))) <|
      .ok)
     (.ob (n.servers = n.servers) <|
      .ob (n.cache.entries = n.cache.entries) <|
      .ob (n.log = n.log) <|
      .ob (Value.int IntKind.i64 n.now = Value.int IntKind.i64 n.now) <|
      .ob (Value.string h = Value.string h) <|
      .ob (Value.int IntKind.i64 (↑z2.fst.length : Int) = Value.int IntKind.i64 (↑z2.fst.length : Int)) <|
      .ob (bk2 (y2.fst, (IntKind.i64.wrap (y2.snd.fst + (1 : Int)), (y2.snd.snd.fst, ())))) <|
      .ok))
   (.leaf (mkR fTopsOf.rs (y2.fst, ())) [] [])) (by kernel_rfl) ?_
  refine ob_i ?_ fun o1 => lt_i (lpx_i ?_ fun (y2 : List ByteArray × Int × List SSent × PUnit) i2 => br_i (fun h3 => ob_i ?_ fun o4 => ob_i ?_ fun o5 => ob_i ?_ fun o6 => lt_i (br_i (fun h7 => ob_i trivial fun _ => ob_i ?_ fun o8 => ob_i rfl fun _ => ob_i rfl fun _ => ob_i rfl fun _ => ob_i rfl fun _ => ob_i rfl fun _ => ob_i rfl fun _ => ob_i ?_ fun o9 => trivial) (fun h7 => ob_i rfl fun _ => ob_i rfl fun _ => ob_i rfl fun _ => ob_i rfl fun _ => ob_i rfl fun _ => ob_i rfl fun _ => ob_i ?_ fun o10 => trivial))) (fun h3 => Fct.leafY ?_))
  all_goals have hfl := filter_len_ (fun (s : SSent) => decide (s.to.host = h)) n.log
  all_goals try simp only [decide_eq_true_eq, decide_eq_false_iff_not, Bool.not_eq_true', Bool.not_eq_false', bne_iff_ne, bne_eq_false_iff_eq, beq_iff_eq, beq_eq_false_iff_ne, baEq, Int.not_lt, Int.not_le, ne_eq, Decidable.not_not] at *
  all_goals try simp only [W_impl_TopsOf_fTopsOf_3, fContains_str, fSentTo, fTopsOf, baSz, List.size_toArray, List.length_cons, List.length_nil, Nat.reduceAdd, Int.toNat_zero, List.drop_zero, decide_eq_true_eq, decide_eq_false_iff_not, Bool.not_eq_true', Bool.not_eq_false', bne_iff_ne, bne_eq_false_iff_eq, beq_iff_eq, beq_eq_false_iff_ne, Bool.not_eq_true, Bool.not_eq_false, ne_eq, Decidable.not_not, baEq, decide_not, Prod.mk.injEq, and_true, true_and, Room, List.nil_append, Nat.zero_add, Int.not_lt, Int.not_le, topsOf, uniqBy, fHas9, fContains_str, fSentTo] at *
  all_goals try simp (disch := omega) only [wrapId', toNat1] at *
  all_goals try simp (disch := omega) only [if_pos, if_neg]
  all_goals first | trivial | omega | grind [wrapId', toNat1, drop_cons, drop_end, good_len, maxLen, topsOf, uniqBy, fHas9, fContains_str, fSentTo])
def E53 : D.Env := E52.add 32 fTopsOf
theorem E53ok : EOk Try.prog E53 := E52ok.add k32_52
def lGuessesSent : Fct := lawFS [.el .net, .el .int]
def lPage : Fct := lawFS [.el .page]
def lPageReq : Fct := lawFS [.el .page, .el .request]
def lTab : Fct := lawFS [.el .tab]
def lNet : Fct := lawFS [.el .net]
theorem uniqHosts_len (n : SNet) : (uniqBy (fun s => s.to.host) [] n.log).length ≤ n.log.length := by simpa using uniqBy_len (fun (s : SSent) => s.to.host) n.log []
def lNetStr : Fct := lawFS [.el .net, .el .str]
theorem topsOf_len (n : SNet) (h : ByteArray) : (topsOf n h).length ≤ n.log.length := by
  have h1 := uniqBy_len (fun (s : SSent) => s.top) (n.log.filter (fun s => decide (s.to.host = h))) []
  have h2 := filter_len_ (fun (s : SSent) => decide (s.to.host = h)) n.log
  simp only [topsOf, List.length_nil] at *; omega
-- laws.FnExactTopsOf
set_option maxHeartbeats 2000000 in
theorem k6_53 : lNetStr.ok Try.prog 6 := Fct.of (S := lNetStr) (L := fun _ _ => none) (kp := [0,1,2,4,5,6,7,8,9,10,11,12,15,20,33,38,49,57,60,68,73,76]) E53ok Try.func6 (by kernel_rfl) (by kernel_rfl) (by
  rintro ⟨(n : SNet), (h : ByteArray), _⟩ hp
  refine holds_of (X := .br (decide ((↑(ByteArray.size h) : Int) > (1048576 : Int)))
 (.leaf (mkR lNetStr.rs (true, ())) [] [])
 (.ob (fszNet.pre (n, (1048576 : Int), ())) <|
  .lt (Int × PUnit) (fszNet.fn (n, (1048576 : Int), ())) fun z2 =>
  .br (decide (z2.fst < (0 : Int)))
   (.leaf (mkR lNetStr.rs (true, ())) [] [])
   (.ob (ftoNet.pre (n, ())) <|
    .lt (SNet × PUnit) (ftoNet.fn (n, ())) fun z3 =>
    .ob (fTopsOf.pre (z3.fst, h, ())) <|
     .lt (List ByteArray × PUnit) (fTopsOf.fn (z3.fst, h, ())) fun z4 =>
     .ob (ftoNet.pre (n, ())) <|
      .lt (SNet × PUnit) (ftoNet.fn (n, ())) fun z5 =>
      .ob (fTopsOf.pre (z5.fst, h, ())) <|
       .lt (List ByteArray × PUnit) (fTopsOf.fn (z5.fst, h, ())) fun z6 =>
       .ob (feqStringS.pre (z6.fst, z4.fst, ())) <|
        .lt (Bool × PUnit) (feqStringS.fn (z6.fst, z4.fst, ())) fun z7 =>
        .br (!z7.fst)
         (.leaf (mkR lNetStr.rs (false, ())) [] [])
         (.ob (ftoNet.pre (n, ())) <|
          .lt (SNet × PUnit) (ftoNet.fn (n, ())) fun z8 =>
          .ob (feqNet.pre (z5.fst, z8.fst, ())) <|
           .lt (Bool × PUnit) (feqNet.fn (z5.fst, z8.fst, ())) fun z9 =>
           .br (!z9.fst)
            (.leaf (mkR lNetStr.rs (false, ())) [] [])
            (.ob (fmarkNet.pre z5.fst (1 : Int)) <|
             .lt (SNet × Int) (fmarkNet.fn z5.fst (1 : Int)) fun z10 =>
             .br (decide (z10.snd < (0 : Int)))
              (.leaf (mkR lNetStr.rs (false, ())) [] [])
              (.ob (feqStringS.pre (z6.fst, z4.fst, ())) <|
               .lt (Bool × PUnit) (feqStringS.fn (z6.fst, z4.fst, ())) fun z11 =>
               .br (!z11.fst)
                (.leaf (mkR lNetStr.rs (false, ())) [] [])
                (.ob (fmarkStringS.pre z6.fst (1 : Int)) <|
                 .lt (List ByteArray × Int) (fmarkStringS.fn z6.fst (1 : Int)) fun z12 =>
                 .ob (fheldStringS.pre (z12.fst, (1 : Int), ())) <|
                  .lt (Int × PUnit) (fheldStringS.fn (z12.fst, (1 : Int), ())) fun z13 =>
                  .br (decide (z13.fst < (0 : Int)))
                   (.leaf (mkR lNetStr.rs (false, ())) [] [])
                   (.br (z13.fst != z12.snd)
                    (.leaf (mkR lNetStr.rs (false, ())) [] [])
                    (.ob (ftoNet.pre (n, ())) <|
                     .lt (SNet × PUnit) (ftoNet.fn (n, ())) fun z14 =>
                     .ob (fTopsOf.pre (z14.fst, h, ())) <|
                      .lt (List ByteArray × PUnit) (fTopsOf.fn (z14.fst, h, ())) fun z15 =>
                      .ob (feqStringS.pre (z15.fst, z4.fst, ())) <|
                       .lt (Bool × PUnit) (feqStringS.fn (z15.fst, z4.fst, ())) fun z16 =>
                       .br (!z16.fst)
                        (.leaf (mkR lNetStr.rs (false, ())) [] [])
                        (.ob (fheldStringS.pre (z12.fst, (1 : Int), ())) <|
                         .lt (Int × PUnit) (fheldStringS.fn (z12.fst, (1 : Int), ())) fun z17 =>
                         .br (decide (z17.fst < (0 : Int)))
                          (.leaf (mkR lNetStr.rs (false, ())) [] [])
                          (.br (z17.fst != z12.snd)
                           (.leaf (mkR lNetStr.rs (false, ())) [] [])
                           (.leaf (mkR lNetStr.rs (true, ())) [] [])))))))))))) (by kernel_rfl) ?_
  refine br_i (fun h1 => Fct.leafY ?_) (fun h1 => ob_i ?_ fun o2 => lt_e fun z2 ez2 => (br_i (fun h3 => Fct.leafY ?_) (fun h3 => ob_i ?_ fun o4 => lt_e fun z3 ez3 => (ob_i ?_ fun o5 => lt_e fun z4 ez4 => (ob_i ?_ fun o6 => lt_e fun z5 ez5 => (ob_i ?_ fun o7 => lt_e fun z6 ez6 => (ob_i ?_ fun o8 => lt_e fun z7 ez7 => (br_i (fun h9 => Fct.leafY ?_) (fun h9 => ob_i ?_ fun o10 => lt_e fun z8 ez8 => (ob_i ?_ fun o11 => lt_e fun z9 ez9 => (br_i (fun h12 => Fct.leafY ?_) (fun h12 => ob_i ?_ fun o13 => lt_e fun z10 ez10 => (br_i (fun h14 => Fct.leafY ?_) (fun h14 => ob_i ?_ fun o15 => lt_e fun z11 ez11 => (br_i (fun h16 => Fct.leafY ?_) (fun h16 => ob_i ?_ fun o17 => lt_e fun z12 ez12 => (ob_i ?_ fun o18 => lt_e fun z13 ez13 => (br_i (fun h19 => Fct.leafY ?_) (fun h19 => br_i (fun h20 => Fct.leafY ?_) (fun h20 => ob_i ?_ fun o21 => lt_e fun z14 ez14 => (ob_i ?_ fun o22 => lt_e fun z15 ez15 => (ob_i ?_ fun o23 => lt_e fun z16 ez16 => (br_i (fun h24 => Fct.leafY ?_) (fun h24 => ob_i ?_ fun o25 => lt_e fun z17 ez17 => (br_i (fun h26 => Fct.leafY ?_) (fun h26 => br_i (fun h27 => Fct.leafY ?_) (fun h27 => Fct.leafY ?_)))))))))))))))))))))))))))
  all_goals have hg0 : Sh.good (.el .net) n := hp.1
  all_goals have hg1 : Sh.good (.el .str) h := hp.2.1
  all_goals clear hp
  all_goals try have hbd0 := mvNet_bd z5.fst (1 : Int)
  all_goals subst_vars
  all_goals try simp only [decide_eq_true_eq, decide_eq_false_iff_not, Bool.not_eq_true', Bool.not_eq_false', bne_iff_ne, bne_eq_false_iff_eq, beq_iff_eq, beq_eq_false_iff_ne, baEq, Int.not_lt, Int.not_le, ne_eq, Decidable.not_not] at *
  all_goals try simp only [fTopsOf, feqNet, feqStringS, fheldStringS, fmarkNet, fmarkStringS, fszNet, ftoNet, lNetStr, baSz, List.size_toArray, List.length_cons, List.length_nil, Nat.reduceAdd, Int.toNat_zero, List.drop_zero, decide_eq_true_eq, decide_eq_false_iff_not, Bool.not_eq_true', Bool.not_eq_false', bne_iff_ne, bne_eq_false_iff_eq, beq_iff_eq, beq_eq_false_iff_ne, Bool.not_eq_true, Bool.not_eq_false, ne_eq, Decidable.not_not, baEq, decide_not, Prod.mk.injEq, and_true, true_and, Room, List.nil_append, Nat.zero_add, Int.not_lt, Int.not_le, decide_true] at *
  all_goals try simp only [mkStringS_idem, mkStringS_ub] at *
  all_goals first | trivial | omega | grind [lessen, szNet, szL, topsOf_len])
def E54 : D.Env := E53.add 6 lNetStr
theorem E54ok : EOk Try.prog E54 := E53ok.add k6_53

section
open Go.ChangeShapes Go.WideShapes Go.ChangeAt Go.RowKit
theorem own : ownKnob Try.prog.godebug = none := by kernel_rfl
theorem types : ∀ e t, tyOf e = some t → e ∈ ([3, 4, 5, 9, 25, 28, 34, 37, 55, 57, 59, 63, 68, 71, 72, 73, 77, 82, 92, 98, 102, 107, 119, 160, 162, 167, 172, 176, 179, 196, 200, 203, 206, 223, 228, 230, 232, 234, 252, 256, 259, 266, 281, 282] : List TypeId) := by
  intro e t h
  unfold tyOf at h
  split at h <;> first | (simp; done) | cases h
theorem lifted (os : Os) (started : os.Started) (H : Type) (enc : TypeId × Value → H) :
    ReturnsInHanded {} Try.checked os 6 .any (Rows.fnExactTopsOfSpec.pre6 enc Try.prog Try.f6 Rows.fnExactTopsOfRow.domain false) (Rows.fnExactTopsOfSpec.post enc Try.prog Try.f6 false true false false) := by
  refine returnsInHanded_of_change (C := Try.checked) own started (by kernel_rfl) Try.func6
    (ChangeSpec.witness6 (enc := enc) (C := Try.checked) false ⟨#[], #[.agg #[.slice none 0 0, .slice none 0 0, .slice none 0 0, .int .i64 0], .string ⟨#[]⟩], []⟩ 8 (by kernel_rfl) (by kernel_rfl) (by kernel_rfl) (by kernel_rfl)) ?_
  intro W base args ds gs before hval0 hW hcnd _
  have hval : ∀ (j : Nat) t v, Try.f6.params[j]? = some t → args[j]? = some v → Value.okWide Try.prog W .any base t v := hval0
  refine law_calls (show rowOk Try.prog Try.f6 tyOf [3, 4, 5, 9, 25, 28, 34, 37, 55, 57, 59, 63, 68, 71, 72, 73, 77, 82, 92, 98, 102, 107, 119, 160, 162, 167, 172, 176, 179, 196, 200, 203, 206, 223, 228, 230, 232, 234, 252, 256, 259, 266, 281, 282] [.el .net, .el .str] = true by kernel_rfl) types rfl Try.underlying4 rfl hW (fun xs h => ?_) hval k6_53
  · rw [Try.params6] at h
    match xs, (show xs.length = 2 from h) with
    | [x0, x1], _ => rfl
set_option maxHeartbeats 0 in
theorem closed : joinedFacts Try.prog 6 Try.f6 Rows.fnExactTopsOfSpec Rows.fnExactTopsOfRow = true := by
  unfold joinedFacts
  refine (and_i (and_i (and_i (and_i (and_i (and_i (and_i (and_i (and_i (and_i (and_i (and_i (and_i (and_i (and_i (and_i (and_i (and_i (and_i (and_i (and_i (and_i (and_i (and_i (and_i (and_i (and_i (and_i (and_i (and_i (and_i ?_ ?_) ?_) ?_) ?_) ?_) ?_) ?_) ?_) ?_) ?_) ?_) ?_) ?_) ?_) ?_) ?_) ?_) ?_) ?_) ?_) ?_) ?_) ?_) ?_) ?_) ?_) ?_) ?_) ?_) ?_) ?_)
  all_goals decide +kernel
theorem over : Rows.fnExactTopsOfRow.holds Try.pinned (OpenSpec.ofChange Rows.fnExactTopsOfSpec) :=
  OpenClaim.holds_of_wide 6 Try.f6 rfl rfl rfl rfl rfl rfl rfl ⟨rfl, rfl, rfl, rfl, rfl⟩ rfl rfl rfl rfl rfl (by kernel_rfl) Try.func6 closed
    (of_decide_eq_true (by kernel_rfl)) (by unfold Func.isWrapper; first | (rw [if_pos (by decide +kernel)]; kernel_rfl) | (rw [if_neg (by decide +kernel)]; exact ⟨rfl, rfl⟩))
    (fun os started H enc _ => lifted os started H enc)
theorem proved : Rows.FnExactTopsOfSaid := over
end
end Go.Proofs.Ytmpkhgpieioofaa.fnExactTopsOf
