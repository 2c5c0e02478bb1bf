/-
  The program's CutText returns what the reference's returns, for all arguments: the law returns true. No condition.
-/
import Derived.Test.YtkadnfkdgljfoaaVPt
import Derived.Test.YtkadnfkdgljfoaaVSc
import Derived.Test.YtkadnfkdgljfoaaRows
import Derived.WalkKit
import Derived.ProofKit
import Derived.OpenShut
import Derived.Test.YtkadnfkdgljfoaaVEf
namespace Go.Proofs.Ytkadnfkdgljfoaa.fnExactCutText
open Go.Proofs.Ytkadnfkdgljfoaa
open Go.D
set_option maxRecDepth 100000
set_option linter.unusedVariables false
set_option linter.unusedSimpArgs false
def tyOf : TypeId → Option Ty
  | 3 => some .int
  | 4 => some .bool
  | 5 => some .u8
  | 9 => some .str
  | 34 => some .addr
  | 36 => some .response
  | 54 => some .conn
  | 69 => some .tab
  | 77 => some .cache
  | 80 => some .net
  | 86 => some .cache
  | 89 => some .net
  | 94 => some .addr
  | 95 => some .response
  | 97 => some .conn
  | 111 => some .guess
  | 156 => some .policy
  | 158 => some .tokenizer
  | 162 => some .builder
  | 166 => some .page
  | 168 => some .visit
  | 177 => some .server
  | 181 => some .sent
  | 184 => some .sent
  | 188 => some .server
  | 215 => some .token
  | 218 => some .node
  | 220 => some .slot
  | 222 => some .module
  | 226 => some .entry
  | 231 => some .entry
  | 254 => some .attr
  | 257 => some .file
  | 259 => some .file
  | _ => none
def E0 : D.Env := D.Env.empty tyOf
theorem E0ok : EOk Try.prog E0 := EOk.empty _ _

-- laws.markText
set_option maxHeartbeats 2000000 in
theorem k61_0 : fmarkText.ok Try.prog 61 := Fct.of (S := fmarkText) (L := fun ⟨k, _⟩ => fun | 4 => some (LmTx k) | _ => none) (kp := [0,2,3,5,7,1000005,1000007]) E0ok Try.func61 (by kernel_rfl) (by kernel_rfl) (by
  rintro ⟨(k : Int), _⟩ hp
  refine holds_of (X := .br (decide (k ≤ (0 : Int)))
 (.leaf (mkR fmarkText.rs ({ data := #[(109 : UInt8), (48 : UInt8)] : ByteArray }, ())) [] [])
 (lpx (LmTx k) (k, ({ data := #[] : ByteArray }, ())) fun (y2 : Int × ByteArray × PUnit) bk2 =>
  .br (decide (y2.fst > (0 : Int)))
   (.ob ((10 : Int) ≠ (0 : Int)) <|
    .ob (True) <|
    .ob (sameSize
  (List.foldl (fun r n => r.push (UInt8.ofNat n.toNat)) ByteArray.empty
    [IntKind.u8.wrap (IntKind.i64.wrap ((48 : Int) + y2.fst.tmod (10 : Int)))])
  y2.snd.fst) <|
    .ob ((10 : Int) ≠ (0 : Int)) <|
    .ob (Value.string { data := #[] : ByteArray } = Value.string { data := #[] : ByteArray }) <|
    .ob (bk2 (IntKind.i64.wrap (y2.fst.tdiv (10 : Int)), (List.foldl (fun r n => r.push (UInt8.ofNat n.toNat)) ByteArray.empty
    [IntKind.u8.wrap (IntKind.i64.wrap ((48 : Int) + y2.fst.tmod (10 : Int)))] ++
  y2.snd.fst, ()))) <|
    .ok)
   (.ob (sameSize { data := #[(109 : UInt8)] : ByteArray } y2.snd.fst) <|
    .leaf (mkR fmarkText.rs ({ data := #[(109 : UInt8)] : ByteArray } ++ y2.snd.fst, ())) [] []))) (by kernel_rfl) ?_
  refine br_i (fun h1 => Fct.leafY ?_) (fun h1 => lpx_i ?_ fun (y2 : Int × ByteArray × PUnit) i2 => br_i (fun h3 => ob_i ?_ fun o4 => ob_i trivial fun _ => ob_i ?_ fun o5 => ob_i ?_ fun o6 => ob_i rfl fun _ => ob_i ?_ fun o7 => trivial) (fun h3 => ob_i ?_ fun o8 => Fct.leafY ?_))
  all_goals try rw [digByte (by first | exact i2.1 | (have := i2.1; omega))]
  all_goals try simp only [decide_eq_true_eq, decide_eq_false_iff_not, Bool.not_eq_true', Bool.not_eq_false', bne_iff_ne, bne_eq_false_iff_eq, beq_iff_eq, beq_eq_false_iff_ne, baEq, Int.not_lt, Int.not_le, ne_eq, Decidable.not_not] at *
  all_goals try simp only [LmTx, fmarkText, etaToken, etaNode, etaBuilder, etaPolicy, etaPage, etaVisit, etaTab, etaServer, etaCache, etaNet, etaLoader, etaSheet, etaResult, etaSlot, etaModule, etaAddr, etaRequest, etaResponse, etaConn, etaGuess, etaEntry, etaSent, etaFile, baSz, List.size_toArray, List.length_cons, List.length_nil, Nat.reduceAdd, Int.toNat_zero, List.drop_zero, decide_eq_true_eq, decide_eq_false_iff_not, Bool.not_eq_true', Bool.not_eq_false', bne_iff_ne, bne_eq_false_iff_eq, beq_iff_eq, beq_eq_false_iff_ne, Bool.not_eq_true, Bool.not_eq_false, ne_eq, Decidable.not_not, baEq, decide_not, Prod.mk.injEq, and_true, true_and, Room, List.nil_append, Nat.zero_add, Int.not_lt, Int.not_le] at *
  · simp [mtext, h1]
  · exact ⟨by omega, by omega, 64, rfl, Nat.lt_of_lt_of_le (show k.toNat < 10 ^ 19 by omega) (Nat.pow_le_pow_right (by decide) (by decide)), rfl⟩
  · decide
  · obtain ⟨i3, i4, f, i5, i6, i7⟩ := i2
    show (1 : Nat) + _ ≤ _
    omega
  · decide
  · obtain ⟨i3, i4, f, i5, i6, i7⟩ := i2
    have hd : IntKind.i64.wrap (y2.1.tdiv 10) = y2.1 / 10 := (tdiv10 i3).resolve_right (by omega)
    rw [hd]
    cases f with
    | zero => simp at i6; omega
    | succ f =>
      rw [digs_step (k := y2.1.toNat) (by omega)] at i7
      have i8 : y2.1.toNat < 10 * 10 ^ f := by rw [Nat.pow_succ] at i6; omega
      generalize 10 ^ f = p at i8
      refine ⟨⟨by omega, by omega, f, by rw [sz1]; omega, by omega, ?_⟩, by omega⟩
      rw [show (y2.1 / 10).toNat = y2.1.toNat / 10 by omega]
      exact i7
  · obtain ⟨i3, i4, f, i5, i6, i7⟩ := i2
    show (1 : Nat) + _ ≤ _
    omega
  · obtain ⟨i3, i4, f, i5, i6, i7⟩ := i2
    have h0 : y2.1.toNat = 0 := by omega
    rw [h0, digs_end] at i7
    rw [mtext, if_neg (by omega), i7])
def E1 : D.Env := E0.add 61 fmarkText
theorem E1ok : EOk Try.prog E1 := E0ok.add k61_0
-- laws.eqStringS
set_option maxHeartbeats 2000000 in
theorem k40_1 : feqStringS.ok Try.prog 40 := Fct.of (S := feqStringS) (L := fun ⟨l, m, _⟩ => fun | 4 => some (LeqS .str l m) | _ => none) (kp := [0,1,4,5,10,14,25,1000010,1000014,1000025]) E1ok Try.func40 (by kernel_rfl) (by kernel_rfl) (by
  rintro ⟨(l : List ByteArray), (m : List ByteArray), _⟩ hp
  refine holds_of (X := .br ((↑l.length : Int) != (↑m.length : Int))
 (.leaf (mkR feqStringS.rs (false, ())) [] [])
 (lpx (LeqS .str l m) ((0 : Int), ()) fun (y2 : Int × PUnit) bk2 =>
  .br (decide (y2.fst < (↑l.length : Int)))
   (.ob ((0 : Int) ≤ y2.fst ∧ y2.fst < (↑l.length : Int)) <|
    .ob ((0 : Int) ≤ y2.fst ∧ y2.fst < (↑m.length : Int)) <|
    .br (!(l.getD y2.fst.toNat default).toList == (m.getD y2.fst.toNat default).toList)
    (.leaf (mkR feqStringS.rs (false, ())) [] [])
    (.ob (l = l) <|
     .ob (m = m) <|
     .ob (bk2 (IntKind.i64.wrap (y2.fst + (1 : Int)), ())) <|
     .ok))
   (.leaf (mkR feqStringS.rs (true, ())) [] []))) (by kernel_rfl) ?_
  refine br_i (fun h1 => Fct.leafY ?_) (fun h1 => lpx_i ?_ fun (y2 : Int × PUnit) i2 => br_i (fun h3 => ob_i ?_ fun o4 => ob_i ?_ fun o5 => br_i (fun h6 => Fct.leafY ?_) (fun h6 => ob_i rfl fun _ => ob_i rfl fun _ => ob_i ?_ fun o7 => trivial)) (fun h3 => Fct.leafY ?_))
  all_goals try simp only [decide_eq_true_eq, decide_eq_false_iff_not, Bool.not_eq_true', Bool.not_eq_false', bne_iff_ne, bne_eq_false_iff_eq, beq_iff_eq, beq_eq_false_iff_ne, baEq, Int.not_lt, Int.not_le, ne_eq, Decidable.not_not] at *
  all_goals try simp only [LeqS, feqStringS, etaToken, etaNode, etaBuilder, etaPolicy, etaPage, etaVisit, etaTab, etaServer, etaCache, etaNet, etaLoader, etaSheet, etaResult, etaSlot, etaModule, etaAddr, etaRequest, etaResponse, etaConn, etaGuess, etaEntry, etaSent, etaFile, baSz, List.size_toArray, List.length_cons, List.length_nil, Nat.reduceAdd, Int.toNat_zero, List.drop_zero, decide_eq_true_eq, decide_eq_false_iff_not, Bool.not_eq_true', Bool.not_eq_false', bne_iff_ne, bne_eq_false_iff_eq, beq_iff_eq, beq_eq_false_iff_ne, Bool.not_eq_true, Bool.not_eq_false, ne_eq, Decidable.not_not, baEq, decide_not, Prod.mk.injEq, and_true, true_and, Room, List.nil_append, Nat.zero_add, Int.not_lt, Int.not_le] at *
  · rw [decide_eq_false]; rintro rfl; omega
  · exact ⟨by omega, by omega, by simp⟩
  · omega
  · omega
  · rw [decide_eq_false]; rintro rfl; first | exact absurd rfl h5 | exact absurd rfl h6
  · have hw : IntKind.i64.wrap (y2.1 + 1) = y2.1 + 1 := wrapId (by omega)
    rw [hw, toNat1 (by omega)]
    refine ⟨⟨by omega, by omega, ?_⟩, by omega⟩
    rw [take_succ (by omega), take_succ (by omega), i2.2.2]; first | rw [h5] | rw [h6]
  · have e : l.take y2.1.toNat = l := List.take_of_length_le (by omega)
    have e2 : m.take y2.1.toNat = m := List.take_of_length_le (by omega)
    rw [decide_eq_true]; rw [← e, ← e2, i2.2.2])
def E2 : D.Env := E1.add 40 feqStringS
theorem E2ok : EOk Try.prog E2 := E1ok.add k40_1
-- laws.markStringS
set_option maxHeartbeats 2000000 in
theorem k43_2 : fmarkStringS.ok Try.prog 43 := MS.of (S := fmarkStringS) (L := fun l k => fun | 2 => some (LmkS .str mkString l k) | _ => none) (kp := [0,1,4,5,9,1000009]) (kl := [0]) E2ok Try.func43 (by kernel_rfl) (by kernel_rfl) (by
  rintro (l : List ByteArray) (k : Int) hp
  refine holds_of (X := lpx (LmkS .str mkString l k) (k, ((0 : Int), (l, ()))) fun (y1 : Int × Int × List ByteArray × PUnit) bk1 =>
 .br (decide (y1.snd.fst < (↑y1.snd.snd.fst.length : Int)))
  (.ob (fmarkText.pre (y1.fst, ())) <|
   .lt (ByteArray × PUnit) (fmarkText.fn (y1.fst, ())) fun z2 =>
   .ob ((0 : Int) ≤ y1.snd.fst ∧ y1.snd.fst < (↑y1.snd.snd.fst.length : Int)) <|
    .ob (y1.snd.fst.toNat < y1.snd.snd.fst.length) <|
    .lt (List ByteArray) (y1.snd.snd.fst.modify y1.snd.fst.toNat fun z => z2.fst) fun z3 =>
    .ob (Value.int IntKind.i64 (0 : Int) = Value.int IntKind.i64 (0 : Int)) <|
     .ob (bk1 (IntKind.i64.wrap (y1.fst + (1 : Int)), (IntKind.i64.wrap (y1.snd.fst + (1 : Int)), (z3, ())))) <|
     .ok)
  (.leaf (.one false [vi (y1.fst)]) [] [((0 : Nat), ⟨Ty.str, y1.snd.snd.fst⟩)])) (by kernel_rfl) ?_
  refine lpx_i ?_ fun (y1 : Int × Int × List ByteArray × PUnit) i1 => br_i (fun h2 => ob_i ?_ fun o3 => lt_i (ob_i ?_ fun o4 => ob_i ?_ fun o5 => lt_i (ob_i rfl fun _ => ob_i ?_ fun o6 => trivial))) (fun h2 => MS.leaf ?_)
  · exact ⟨by simp, by simp, by simp [markL], by simp [markL]⟩
  all_goals have hp1 : 0 ≤ k := hp.1
  all_goals have hp2 : (markL mkString l k).2 ≤ 4000000000000000000 := hp.2
  all_goals have i3 : 0 ≤ y1.2.1 ∧ y1.2.1 ≤ l.length ∧ y1.1 = (markL mkString (l.take y1.2.1.toNat) k).2 ∧ y1.2.2.1 = (markL mkString (l.take y1.2.1.toNat) k).1 ++ l.drop y1.2.1.toNat := i1
  all_goals have hcnt := markL_cnt (f := mkString) (fun x k => by simp only [mkString]; omega) l k
  all_goals have hx : y1.2.2.1.length = l.length := by rw [i3.2.2.2, List.length_append, markL_len, List.length_take, List.length_drop]; omega
  all_goals simp only [decide_eq_true_eq, decide_eq_false_iff_not, hx] at h2
  all_goals clear i1
  all_goals try have hlt : y1.2.1.toNat < l.length := by omega
  all_goals try have ht := markL_take (f := mkString) hlt k
  all_goals try have hle := (markL_take_le mkString_mono l (y1.2.1.toNat + 1) k).2
  all_goals try have hl0 := (markL_take_le mkString_mono l y1.2.1.toNat k).1
  all_goals try rw [ht] at hle
  all_goals try rw [← i3.2.2.1] at hle hl0 ht
  all_goals try simp only [mkString] at hle
  all_goals first | decide | (simp only [List.length_modify, hx]; omega) | (refine ⟨?_, ?_⟩ <;> (try simp (discharger := omega) only [wrapId']) <;> omega) | skip
  · try clear o3 o4 o5
    simp (discharger := omega) only [wrapId', fmarkText]
    have hA : (markL mkString (l.take y1.2.1.toNat) k).1.length = y1.2.1.toNat := by rw [markL_len, List.length_take]; omega
    refine ⟨⟨by omega, by omega, ?_, ?_⟩, ?_⟩
    · rw [toNat1 (by omega), ht]
      first | done | (simp only [mkString]; done) | (simp only [mkString]; omega)
    · rw [toNat1 (by omega), ht, i3.2.2.2, drop_cons hlt]
      simp only [mod_at hA, mkString, Int.add_assoc, Int.reduceAdd, List.append_assoc, List.cons_append, List.nil_append]
    · omega
  · refine MS.leafL (t := .str) (fn := fun l k => markL mkString l k) ?_
    have e1 : l.take y1.2.1.toNat = l := List.take_of_length_le (by omega)
    have e2 : l.drop y1.2.1.toNat = [] := List.drop_of_length_le (by omega)
    rw [i3.2.2.2, i3.2.2.1, e1, e2, List.append_nil])
def E3 : D.Env := E2.addM 43 fmarkStringS
theorem E3ok : EOk Try.prog E3 := E2ok.addM k43_2
-- laws.heldStringS
set_option maxHeartbeats 2000000 in
theorem k44_3 : fheldStringS.ok Try.prog 44 := Fct.of (S := fheldStringS) (L := fun ⟨l, k, _⟩ => fun | 2 => some (LheS .str mkString l k) | _ => none) (kp := [0,1,4,5,9,18,1000009,1000018]) E3ok Try.func44 (by kernel_rfl) (by kernel_rfl) (by
  rintro ⟨(l : List ByteArray), (k : Int), _⟩ hp
  refine holds_of (X := lpx (LheS .str mkString l k) (k, ((0 : Int), ())) fun (y1 : Int × Int × PUnit) bk1 =>
 .br (decide (y1.snd.fst < (↑l.length : Int)))
  (.ob ((0 : Int) ≤ y1.snd.fst ∧ y1.snd.fst < (↑l.length : Int)) <|
   .ob (fmarkText.pre (y1.fst, ())) <|
   .lt (ByteArray × PUnit) (fmarkText.fn (y1.fst, ())) fun z2 =>
   .br (!(l.getD y1.snd.fst.toNat default).toList == z2.fst.toList)
    (.leaf (mkR fheldStringS.rs ((-1 : Int), ())) [] [])
    (.ob (l = l) <|
     .ob (bk1 (IntKind.i64.wrap (y1.fst + (1 : Int)), (IntKind.i64.wrap (y1.snd.fst + (1 : Int)), ()))) <|
     .ok))
  (.leaf (mkR fheldStringS.rs (y1.fst, ())) [] [])) (by kernel_rfl) ?_
  refine lpx_i ?_ fun (y1 : Int × Int × PUnit) i1 => br_i (fun h2 => ob_i ?_ fun o3 => ob_i ?_ fun o4 => lt_i (br_i (fun h5 => Fct.leafY ?_) (fun h5 => ob_i rfl fun _ => ob_i ?_ fun o6 => trivial))) (fun h2 => Fct.leafY ?_)
  · exact ⟨by simp, by simp, by simp [markL]⟩
  all_goals have hp1 : 0 ≤ k := hp.1
  all_goals have hp2 : (markL mkString l k).2 ≤ 4000000000000000000 := hp.2.1
  all_goals have hp3 : (markL mkString l k).1 = l := hp.2.2
  all_goals have i3 : 0 ≤ y1.2.1 ∧ y1.2.1 ≤ l.length ∧ y1.1 = (markL mkString (l.take y1.2.1.toNat) k).2 := i1
  all_goals have hcnt := markL_cnt (f := mkString) (fun x k => by simp only [mkString]; omega) l k
  all_goals simp only [decide_eq_true_eq, decide_eq_false_iff_not] at h2
  all_goals clear i1 hp
  all_goals try have hlt : y1.2.1.toNat < l.length := by omega
  all_goals try have ht := markL_take (f := mkString) hlt k
  all_goals try have hle := (markL_take_le mkString_mono l (y1.2.1.toNat + 1) k).2
  all_goals try have hl0 := (markL_take_le mkString_mono l y1.2.1.toNat k).1
  all_goals try have heq := markL_held hp3 hlt
  all_goals try rw [ht] at hle
  all_goals try rw [← i3.2.2] at hle hl0 ht heq
  all_goals try simp only [mkString] at hle heq
  all_goals first | decide | omega | (refine ⟨?_, ?_⟩ <;> (try simp (discharger := omega) only [wrapId']) <;> omega) | skip
  all_goals try (exfalso; clear ht; generalize l.getD y1.2.1.toNat default = c at *; subst heq; simp (discharger := omega) [wrapId', fmarkText, Int.add_assoc] at *; done)
  · simp (discharger := omega) only [wrapId']
    refine ⟨⟨by omega, by omega, ?_⟩, ?_⟩
    · rw [toNat1 (by omega), ht]
      first | done | (simp only [mkString]; done) | (simp only [mkString]; omega)
    · omega
  · have e1 : l.take y1.2.1.toNat = l := List.take_of_length_le (by omega)
    rw [e1] at i3
    show (y1.1, ()) = ((markL mkString l k).2, ())
    rw [i3.2.2])
def E4 : D.Env := E3.add 44 fheldStringS
theorem E4ok : EOk Try.prog E4 := E3ok.add k44_3
-- laws.toIntS
theorem k38_4 : ftoIntS.ok Try.prog 38 := Fct.of (S := ftoIntS) (L := fun ⟨l, _⟩ => fun | 3 => some (LtoS .int l) | _ => none) (kp := [0,2,3,4,11,1000011]) E4ok Try.func38 (by kernel_rfl) (by kernel_rfl) (by
  rintro ⟨(l : List Int), _⟩ hp
  refine holds_of (X := .ob ((↑l.length : Int) = (↑l.length : Int) ∧
  (0 : Int) ≤ (↑l.length : Int) ∧
    (8 : Int) * (↑l.length : Int) ≤ (140737488355328 : Int) ∧ (↑l.length : Int) ≤ (140737488355328 : Int)) <|
 lpx (LtoS .int l) ((0 : Int), (List.replicate (↑l.length : Int).toNat (0 : Int), ())) fun (y2 : Int × List Int × PUnit) bk2 =>
 .br (decide (y2.fst < (↑l.length : Int)))
  (.ob ((0 : Int) ≤ y2.fst ∧ y2.fst < (↑l.length : Int)) <|
   .ob ((0 : Int) ≤ y2.fst ∧ y2.fst < (↑y2.snd.fst.length : Int)) <|
   .ob (y2.fst.toNat < y2.snd.fst.length) <|
   .lt (List Int) (y2.snd.fst.modify y2.fst.toNat fun z => l.getD y2.fst.toNat default) fun z2 =>
   .ob (l = l) <|
    .ob (bk2 (IntKind.i64.wrap (y2.fst + (1 : Int)), (z2, ()))) <|
    .ok)
  (.leaf (mkR ftoIntS.rs (y2.snd.fst, ())) [] [])) (by kernel_rfl) ?_
  refine ob_i ?_ fun o1 => lpx_i ?_ fun (y2 : Int × List Int × PUnit) i2 => br_i (fun h3 => ob_i ?_ fun o4 => ob_i ?_ fun o5 => ob_i ?_ fun o6 => lt_i (ob_i rfl fun _ => ob_i ?_ fun o7 => trivial)) (fun h3 => Fct.leafY ?_)
  all_goals try simp only [decide_eq_true_eq, decide_eq_false_iff_not, Bool.not_eq_true', Bool.not_eq_false', bne_iff_ne, bne_eq_false_iff_eq, beq_iff_eq, beq_eq_false_iff_ne, baEq, Int.not_lt, Int.not_le, ne_eq, Decidable.not_not] at *
  all_goals try simp only [LtoS, ftoIntS, etaToken, etaNode, etaBuilder, etaPolicy, etaPage, etaVisit, etaTab, etaServer, etaCache, etaNet, etaLoader, etaSheet, etaResult, etaSlot, etaModule, etaAddr, etaRequest, etaResponse, etaConn, etaGuess, etaEntry, etaSent, etaFile, baSz, List.size_toArray, List.length_cons, List.length_nil, Nat.reduceAdd, Int.toNat_zero, List.drop_zero, decide_eq_true_eq, decide_eq_false_iff_not, Bool.not_eq_true', Bool.not_eq_false', bne_iff_ne, bne_eq_false_iff_eq, beq_iff_eq, beq_eq_false_iff_ne, Bool.not_eq_true, Bool.not_eq_false, ne_eq, Decidable.not_not, baEq, decide_not, Prod.mk.injEq, and_true, true_and, Room, List.nil_append, Nat.zero_add, Int.not_lt, Int.not_le] at *
  all_goals try have hsz : l.length ≤ 1048576 := by first | exact hp | (have := szL_len szString l; exact Nat.le_trans this hp)
  all_goals clear hp
  all_goals try rw [i2.2.2]
  all_goals first | omega | (refine ⟨by omega, by omega, ?_⟩; simp; done) | (refine ⟨by omega, by omega, ?_⟩; simp; exact .inr rfl) | (simp; omega) | skip
  · rw [wrapId (by omega), toNat1 (by omega)]
    refine ⟨⟨by omega, by omega, ?_⟩, by omega⟩
    rw [show l.length - y2.1.toNat = (l.length - (y2.1.toNat + 1)) + 1 from by omega, List.replicate_succ, mod_at (by simp; omega), take_succ (by omega)]
    simp
  · have e : l.take y2.1.toNat = l := List.take_of_length_le (by omega)
    rw [e]; simp; omega)
def E5 : D.Env := E4.add 38 ftoIntS
theorem E5ok : EOk Try.prog E5 := E4ok.add k38_4
-- laws.eqIntS
set_option maxHeartbeats 2000000 in
theorem k41_5 : feqIntS.ok Try.prog 41 := Fct.of (S := feqIntS) (L := fun ⟨l, m, _⟩ => fun | 4 => some (LeqS .int l m) | _ => none) (kp := [0,1,4,5,10,14,25,1000010,1000014,1000025]) E5ok Try.func41 (by kernel_rfl) (by kernel_rfl) (by
  rintro ⟨(l : List Int), (m : List Int), _⟩ hp
  refine holds_of (X := .br ((↑l.length : Int) != (↑m.length : Int))
 (.leaf (mkR feqIntS.rs (false, ())) [] [])
 (lpx (LeqS .int l m) ((0 : Int), ()) fun (y2 : Int × PUnit) bk2 =>
  .br (decide (y2.fst < (↑l.length : Int)))
   (.ob ((0 : Int) ≤ y2.fst ∧ y2.fst < (↑l.length : Int)) <|
    .ob ((0 : Int) ≤ y2.fst ∧ y2.fst < (↑m.length : Int)) <|
    .br (l.getD y2.fst.toNat default != m.getD y2.fst.toNat default)
    (.leaf (mkR feqIntS.rs (false, ())) [] [])
    (.ob (l = l) <|
     .ob (m = m) <|
     .ob (bk2 (IntKind.i64.wrap (y2.fst + (1 : Int)), ())) <|
     .ok))
   (.leaf (mkR feqIntS.rs (true, ())) [] []))) (by kernel_rfl) ?_
  refine br_i (fun h1 => Fct.leafY ?_) (fun h1 => lpx_i ?_ fun (y2 : Int × PUnit) i2 => br_i (fun h3 => ob_i ?_ fun o4 => ob_i ?_ fun o5 => br_i (fun h6 => Fct.leafY ?_) (fun h6 => ob_i rfl fun _ => ob_i rfl fun _ => ob_i ?_ fun o7 => trivial)) (fun h3 => Fct.leafY ?_))
  all_goals try simp only [decide_eq_true_eq, decide_eq_false_iff_not, Bool.not_eq_true', Bool.not_eq_false', bne_iff_ne, bne_eq_false_iff_eq, beq_iff_eq, beq_eq_false_iff_ne, baEq, Int.not_lt, Int.not_le, ne_eq, Decidable.not_not] at *
  all_goals try simp only [LeqS, feqIntS, etaToken, etaNode, etaBuilder, etaPolicy, etaPage, etaVisit, etaTab, etaServer, etaCache, etaNet, etaLoader, etaSheet, etaResult, etaSlot, etaModule, etaAddr, etaRequest, etaResponse, etaConn, etaGuess, etaEntry, etaSent, etaFile, baSz, List.size_toArray, List.length_cons, List.length_nil, Nat.reduceAdd, Int.toNat_zero, List.drop_zero, decide_eq_true_eq, decide_eq_false_iff_not, Bool.not_eq_true', Bool.not_eq_false', bne_iff_ne, bne_eq_false_iff_eq, beq_iff_eq, beq_eq_false_iff_ne, Bool.not_eq_true, Bool.not_eq_false, ne_eq, Decidable.not_not, baEq, decide_not, Prod.mk.injEq, and_true, true_and, Room, List.nil_append, Nat.zero_add, Int.not_lt, Int.not_le] at *
  · rw [decide_eq_false]; rintro rfl; omega
  · exact ⟨by omega, by omega, by simp⟩
  · omega
  · omega
  · rw [decide_eq_false]; rintro rfl; first | exact absurd rfl h5 | exact absurd rfl h6
  · have hw : IntKind.i64.wrap (y2.1 + 1) = y2.1 + 1 := wrapId (by omega)
    rw [hw, toNat1 (by omega)]
    refine ⟨⟨by omega, by omega, ?_⟩, by omega⟩
    rw [take_succ (by omega), take_succ (by omega), i2.2.2]; first | rw [h5] | rw [h6]
  · have e : l.take y2.1.toNat = l := List.take_of_length_le (by omega)
    have e2 : m.take y2.1.toNat = m := List.take_of_length_le (by omega)
    rw [decide_eq_true]; rw [← e, ← e2, i2.2.2])
def E6 : D.Env := E5.add 41 feqIntS
theorem E6ok : EOk Try.prog E6 := E5ok.add k41_5
-- laws.markIntS
set_option maxHeartbeats 2000000 in
theorem k42_6 : fmarkIntS.ok Try.prog 42 := MS.of (S := fmarkIntS) (L := fun l k => fun | 2 => some (LmkS .int mkInt l k) | _ => none) (kp := [0,1,4,5,9,1000009]) (kl := [0]) E6ok Try.func42 (by kernel_rfl) (by kernel_rfl) (by
  rintro (l : List Int) (k : Int) hp
  refine holds_of (X := lpx (LmkS .int mkInt l k) (k, ((0 : Int), (l, ()))) fun (y1 : Int × Int × List Int × PUnit) bk1 =>
 .br (decide (y1.snd.fst < (↑y1.snd.snd.fst.length : Int)))
  (.ob ((0 : Int) ≤ y1.snd.fst ∧ y1.snd.fst < (↑y1.snd.snd.fst.length : Int)) <|
   .ob (y1.snd.fst.toNat < y1.snd.snd.fst.length) <|
   .lt (List Int) (y1.snd.snd.fst.modify y1.snd.fst.toNat fun z => y1.fst) fun z2 =>
   .ob (Value.int IntKind.i64 (0 : Int) = Value.int IntKind.i64 (0 : Int)) <|
    .ob (bk1 (IntKind.i64.wrap (y1.fst + (1 : Int)), (IntKind.i64.wrap (y1.snd.fst + (1 : Int)), (z2, ())))) <|
    .ok)
  (.leaf (.one false [vi (y1.fst)]) [] [((0 : Nat), ⟨Ty.int, y1.snd.snd.fst⟩)])) (by kernel_rfl) ?_
  refine lpx_i ?_ fun (y1 : Int × Int × List Int × PUnit) i1 => br_i (fun h2 => ob_i ?_ fun o3 => ob_i ?_ fun o4 => lt_i (ob_i rfl fun _ => ob_i ?_ fun o5 => trivial)) (fun h2 => MS.leaf ?_)
  · exact ⟨by simp, by simp, by simp [markL], by simp [markL]⟩
  all_goals have hp1 : 0 ≤ k := hp.1
  all_goals have hp2 : (markL mkInt l k).2 ≤ 4000000000000000000 := hp.2
  all_goals have i3 : 0 ≤ y1.2.1 ∧ y1.2.1 ≤ l.length ∧ y1.1 = (markL mkInt (l.take y1.2.1.toNat) k).2 ∧ y1.2.2.1 = (markL mkInt (l.take y1.2.1.toNat) k).1 ++ l.drop y1.2.1.toNat := i1
  all_goals have hcnt := markL_cnt (f := mkInt) (fun x k => by simp only [mkInt]; omega) l k
  all_goals have hx : y1.2.2.1.length = l.length := by rw [i3.2.2.2, List.length_append, markL_len, List.length_take, List.length_drop]; omega
  all_goals simp only [decide_eq_true_eq, decide_eq_false_iff_not, hx] at h2
  all_goals clear i1
  all_goals try have hlt : y1.2.1.toNat < l.length := by omega
  all_goals try have ht := markL_take (f := mkInt) hlt k
  all_goals try have hle := (markL_take_le mkInt_mono l (y1.2.1.toNat + 1) k).2
  all_goals try have hl0 := (markL_take_le mkInt_mono l y1.2.1.toNat k).1
  all_goals try rw [ht] at hle
  all_goals try rw [← i3.2.2.1] at hle hl0 ht
  all_goals try simp only [mkInt] at hle
  all_goals first | decide | (simp only [List.length_modify, hx]; omega) | (refine ⟨?_, ?_⟩ <;> (try simp (discharger := omega) only [wrapId']) <;> omega) | skip
  · try clear o3 o4 o5
    simp (discharger := omega) only [wrapId', fmarkText]
    have hA : (markL mkInt (l.take y1.2.1.toNat) k).1.length = y1.2.1.toNat := by rw [markL_len, List.length_take]; omega
    refine ⟨⟨by omega, by omega, ?_, ?_⟩, ?_⟩
    · rw [toNat1 (by omega), ht]
      first | done | (simp only [mkInt]; done) | (simp only [mkInt]; omega)
    · rw [toNat1 (by omega), ht, i3.2.2.2, drop_cons hlt]
      simp only [mod_at hA, mkInt, Int.add_assoc, Int.reduceAdd, List.append_assoc, List.cons_append, List.nil_append]
    · omega
  · refine MS.leafL (t := .int) (fn := fun l k => markL mkInt l k) ?_
    have e1 : l.take y1.2.1.toNat = l := List.take_of_length_le (by omega)
    have e2 : l.drop y1.2.1.toNat = [] := List.drop_of_length_le (by omega)
    rw [i3.2.2.2, i3.2.2.1, e1, e2, List.append_nil])
def E7 : D.Env := E6.addM 42 fmarkIntS
theorem E7ok : EOk Try.prog E7 := E6ok.addM k42_6
def inRange (n lo hi : Int) : Bool := decide (lo ≤ n) && decide (n ≤ hi)
def fInRange : Fct := ⟨[aI, aI, aI], [rB], fun _ => True, fun (x : Int × Int × Int × Unit) => (inRange x.1 x.2.1 x.2.2.1, ())⟩
-- impl.InRange
theorem k80_7 : fInRange.ok Try.prog 80 := Fct.of (S := fInRange) (L := fun _ _ => none) (kp := [0,1,2,6]) E7ok Try.func80 (by kernel_rfl) (by kernel_rfl) (by
  rintro ⟨(n : Int), (lo : Int), (hi : Int), _⟩ hp
  refine holds_of (X := .br (decide (lo ≤ n))
 (.leaf (mkR fInRange.rs (decide (n ≤ hi), ())) [] [])
 (.leaf (mkR fInRange.rs (false, ())) [] [])) (by kernel_rfl) ?_
  refine br_i (fun h1 => Fct.leafY ?_) (fun h1 => Fct.leafY ?_)
  all_goals try simp only [decide_eq_true_eq, decide_eq_false_iff_not, Bool.not_eq_true', Bool.not_eq_false', bne_iff_ne, bne_eq_false_iff_eq, beq_iff_eq, beq_eq_false_iff_ne, baEq, Int.not_lt, Int.not_le, ne_eq, Decidable.not_not] at *
  all_goals try simp only [fInRange, etaToken, etaNode, etaBuilder, etaPolicy, etaPage, etaVisit, etaTab, etaServer, etaCache, etaNet, etaLoader, etaSheet, etaResult, etaSlot, etaModule, etaAddr, etaRequest, etaResponse, etaConn, etaGuess, etaEntry, etaSent, etaFile, baSz, List.size_toArray, List.length_cons, List.length_nil, Nat.reduceAdd, Int.toNat_zero, List.drop_zero, decide_eq_true_eq, decide_eq_false_iff_not, Bool.not_eq_true', Bool.not_eq_false', bne_iff_ne, bne_eq_false_iff_eq, beq_iff_eq, beq_eq_false_iff_ne, Bool.not_eq_true, Bool.not_eq_false, ne_eq, Decidable.not_not, baEq, decide_not, Prod.mk.injEq, and_true, true_and, Room, List.nil_append, Nat.zero_add, Int.not_lt, Int.not_le, inRange] at *
  all_goals first | trivial | (simp_all; done) | (simp_all; omega) | grind)
def E8 : D.Env := E7.add 80 fInRange
theorem E8ok : EOk Try.prog E8 := E7ok.add k80_7
def fMin : Fct := ⟨[aI, aI], [rI], fun _ => True, fun (x : Int × Int × Unit) => (min x.1 x.2.1, ())⟩
-- spec.Min
theorem k82_8 : fMin.ok Try.prog 82 := Fct.of (S := fMin) (L := fun _ _ => none) (kp := [0,1,4,7,1000007]) E8ok Try.func82 (by kernel_rfl) (by kernel_rfl) (by
  rintro ⟨(a : Int), (b : Int), _⟩ hp
  refine holds_of (X := .br (decide (b < a))
 (.leaf (mkR fMin.rs (b, ())) [] [])
 (.leaf (mkR fMin.rs (a, ())) [] [])) (by kernel_rfl) ?_
  refine br_i (fun h1 => Fct.leafY ?_) (fun h1 => Fct.leafY ?_)
  all_goals try simp only [decide_eq_true_eq, decide_eq_false_iff_not, Bool.not_eq_true', Bool.not_eq_false', bne_iff_ne, bne_eq_false_iff_eq, beq_iff_eq, beq_eq_false_iff_ne, baEq, Int.not_lt, Int.not_le, ne_eq, Decidable.not_not] at *
  all_goals try simp only [fMin, etaToken, etaNode, etaBuilder, etaPolicy, etaPage, etaVisit, etaTab, etaServer, etaCache, etaNet, etaLoader, etaSheet, etaResult, etaSlot, etaModule, etaAddr, etaRequest, etaResponse, etaConn, etaGuess, etaEntry, etaSent, etaFile, baSz, List.size_toArray, List.length_cons, List.length_nil, Nat.reduceAdd, Int.toNat_zero, List.drop_zero, decide_eq_true_eq, decide_eq_false_iff_not, Bool.not_eq_true', Bool.not_eq_false', bne_iff_ne, bne_eq_false_iff_eq, beq_iff_eq, beq_eq_false_iff_ne, Bool.not_eq_true, Bool.not_eq_false, ne_eq, Decidable.not_not, baEq, decide_not, Prod.mk.injEq, and_true, true_and, Room, List.nil_append, Nat.zero_add, Int.not_lt, Int.not_le] at *
  all_goals first | trivial | omega | (simp_all; done) | (simp_all; omega) | grind)
def E9 : D.Env := E8.add 82 fMin
theorem E9ok : EOk Try.prog E9 := E8ok.add k82_8
def hasI (l : List Int) (i : Int) : Bool := l.any fun c => decide (c = i)
def isCut (cs : List Int) (i : Int) : Bool := hasI (cs.take 7) i
def pieces (s : ByteArray) : List Int → Int → List ByteArray
  | [], a => [s.extract a.toNat s.size]
  | n :: l, a => s.extract a.toNat n.toNat :: pieces s l n
def cutGo (s : ByteArray) (cs : List Int) : Nat → Int → Int → List ByteArray
  | 0, _, a => [s.extract a.toNat s.size]
  | f + 1, i, a => if isCut cs i then s.extract a.toNat i.toNat :: cutGo s cs f (i + 1) i else cutGo s cs f (i + 1) a
def cutText (s : ByteArray) (cs : List Int) : List ByteArray := cutGo s cs (s.size - 1) 1 0
def rngs (n : Int) : List Int → List Int
  | [] => []
  | x :: l => if inRange x 1 n then x :: rngs n l else rngs n l
theorem rngs_eq (n : Int) : ∀ l, rngs n l = l.filter fun x => inRange x 1 n
  | [] => rfl
  | x :: l => by rw [rngs, rngs_eq n l, List.filter_cons]
theorem rngs_at {n : Int} {l : List Int} {i : Nat} (h : i < l.length) : rngs n (l.drop i) = if inRange (l.getD i default) 1 n then l.getD i default :: rngs n (l.drop (i + 1)) else rngs n (l.drop (i + 1)) := by rw [drop_cons h]; rfl
theorem rngs_end {n : Int} {l : List Int} {i : Nat} (h : l.length ≤ i) : rngs n (l.drop i) = [] := by rw [List.drop_of_length_le h]; rfl
def cutAts (s : ByteArray) (cs : List Int) : List Int := rngs (s.size - 1) (cs.take 7)
theorem cutGo_pieces (s : ByteArray) (cs : List Int) : ∀ (f : Nat) (i a : Int) (l : List Int), l.Pairwise (· < ·) → (∀ x, x ∈ l ↔ (i ≤ x ∧ x < i + f ∧ isCut cs x = true)) → cutGo s cs f i a = pieces s l a := by
  intro f
  induction f with
  | zero =>
    intro i a l _ hm
    cases l with
    | nil => rfl
    | cons x l => have := (hm x).1 List.mem_cons_self; omega
  | succ f ih =>
    intro i a l hp hm
    simp only [cutGo]
    split
    · rename_i hc
      have hi : i ∈ l := (hm i).2 ⟨by omega, by omega, hc⟩
      cases l with
      | nil => cases hi
      | cons x l =>
        have hp' := List.pairwise_cons.1 hp
        have hx : x = i := by
          rcases List.mem_cons.1 hi with e | h
          · exact e.symm
          · have h1 := hp'.1 i h
            have h2 := ((hm x).1 List.mem_cons_self).1
            omega
        subst hx
        rw [pieces, ih (x + 1) x l hp'.2 fun y => ?_]
        constructor
        · intro hy
          obtain ⟨h1, h2, h3⟩ := (hm y).1 (List.mem_cons_of_mem _ hy)
          have := hp'.1 y hy
          exact ⟨by omega, by omega, h3⟩
        · rintro ⟨h1, h2, h3⟩
          rcases List.mem_cons.1 ((hm y).2 ⟨by omega, by omega, h3⟩) with e | h
          · omega
          · exact h
    · rename_i hc
      refine ih (i + 1) a l hp fun y => ?_
      rw [hm y]
      constructor
      · rintro ⟨h1, h2, h3⟩
        have : y ≠ i := fun e => hc (e ▸ h3)
        exact ⟨by omega, by omega, h3⟩
      · rintro ⟨h1, h2, h3⟩
        exact ⟨by omega, by omega, h3⟩
theorem cutText_pieces (s : ByteArray) (cs : List Int) : cutText s cs = pieces s (dedupA (sortI (cutAts s cs))) 0 := by
  refine cutGo_pieces s cs _ _ _ _ (dedup_pw (le := fun a b => a ≤ b) (fun a b h1 h2 => by omega) (fun a b c h1 h2 => by omega) (sortI_sorted _)) fun x => ?_
  rw [dedupA_mem, sortI_mem, cutAts, rngs_eq, List.mem_filter, isCut, hasI, List.any_eq_true]
  simp only [inRange, Bool.and_eq_true, decide_eq_true_eq]
  constructor
  · rintro ⟨h1, h2, h3⟩; exact ⟨by omega, by omega, x, h1, rfl⟩
  · rintro ⟨h1, h2, c, h3, rfl⟩; exact ⟨h3, by omega, by omega⟩
def fSortI : GS := ⟨[.k (.sl .int)], [], fun (x_ : (List Int) × Unit) => x_.1.length < 4611686018427387904, fun (x_ : (List Int) × Unit) => ((()), (sortI x_.1, ()))⟩
def laysSortI_r : Go.Shelf.Ren := ⟨fun | 0 => 0 | 1 => 1 | 2 => 2 | 106 => 198 | 109 => 169 | 110 => 138 | 125 => 117 | 128 => 158 | 129 => 159 | 189 => 83 | 213 => 216 | 215 => 187 | 216 => 155 | 257 => 116 | 265 => 223 | 294 => 149 | 295 => 150 | 296 => 151 | 297 => 152 | 298 => 153 | 299 => 154 | 300 => 156 | 301 => 157 | 328 => 182 | 329 => 183 | 330 => 184 | 331 => 185 | 332 => 186 | 343 => 203 | 347 => 226 | 348 => 227 | 349 => 228 | 350 => 229 | 351 => 230 | 352 => 231 | 353 => 232 | 354 => 233 | 355 => 234 | 356 => 235 | 357 => 236 | 358 => 237 | 359 => 238 | 360 => 239 | 361 => 240 | 366 => 241 | _ => 0, fun | 0 => 0 | 1 => 1 | 2 => 2 | 3 => 3 | 4 => 4 | 5 => 5 | 6 => 6 | 7 => 7 | 8 => 8 | 9 => 9 | 10 => 10 | 11 => 11 | 12 => 12 | 13 => 13 | 14 => 14 | 15 => 15 | 16 => 16 | 17 => 17 | 18 => 18 | 19 => 19 | 20 => 20 | 21 => 21 | 27 => 262 | 28 => 58 | 30 => 64 | 31 => 59 | 32 => 233 | 33 => 182 | 34 => 63 | 35 => 122 | 37 => 30 | 43 => 121 | 46 => 153 | 47 => 152 | 51 => 209 | 52 => 208 | 53 => 211 | 54 => 210 | 80 => 284 | 81 => 290 | 83 => 103 | 101 => 62 | 104 => 265 | 111 => 246 | 112 => 204 | 127 => 294 | 131 => 206 | 134 => 151 | 164 => 299 | 181 => 199 | 182 => 200 | 183 => 201 | 184 => 202 | 185 => 203 | 186 => 205 | 187 => 207 | 218 => 240 | 219 => 241 | 220 => 242 | 221 => 243 | 222 => 244 | 223 => 245 | 228 => 266 | 229 => 267 | 230 => 268 | 238 => 285 | 239 => 286 | 240 => 287 | 241 => 288 | 242 => 289 | 243 => 291 | 244 => 292 | 245 => 293 | 246 => 295 | 247 => 296 | 248 => 297 | 249 => 298 | _ => 0, fun | 1 => 0 | _ => 0⟩
theorem laysSortI : Go.Proofs.Lays.n189 Try.prog laysSortI_r where
  mixed := by kernel_rfl
  f125 := by kernel_rfl
  f128 := by kernel_rfl
  f129 := by kernel_rfl
  f189 := by kernel_rfl
  f215 := by kernel_rfl
  f216 := by kernel_rfl
  f257 := by kernel_rfl
  f294 := by kernel_rfl
  f295 := by kernel_rfl
  f296 := by kernel_rfl
  f297 := by kernel_rfl
  f298 := by kernel_rfl
  f299 := by kernel_rfl
  f300 := by kernel_rfl
  f301 := by kernel_rfl
  f328 := by kernel_rfl
  f329 := by kernel_rfl
  f330 := by kernel_rfl
  f331 := by kernel_rfl
  f332 := by kernel_rfl
  f343 := by kernel_rfl
  t0 := by kernel_rfl
  a0 := fun _ => by kernel_rfl
  z0 := fun _ => by kernel_rfl
  v0 := fun _ => by kernel_rfl
  t3 := by kernel_rfl
  a3 := fun _ => by kernel_rfl
  z3 := fun _ => by kernel_rfl
  v3 := fun _ => by kernel_rfl
  t4 := by kernel_rfl
  a4 := fun _ => by kernel_rfl
  z4 := fun _ => by kernel_rfl
  v4 := fun _ => by kernel_rfl
  t5 := by kernel_rfl
  a5 := fun _ => by kernel_rfl
  z5 := fun _ => by kernel_rfl
  v5 := fun _ => by kernel_rfl
  t9 := by kernel_rfl
  a9 := fun _ => by kernel_rfl
  z9 := fun _ => by kernel_rfl
  v9 := fun _ => by kernel_rfl
  t28 := by kernel_rfl
  a28 := fun _ => by kernel_rfl
  z28 := fun _ => by kernel_rfl
  v28 := fun _ => by kernel_rfl
  t46 := by kernel_rfl
  a46 := fun _ => by kernel_rfl
  z46 := fun _ => by kernel_rfl
  v46 := fun _ => by kernel_rfl
  t51 := by kernel_rfl
  a51 := fun _ => by kernel_rfl
  z51 := fun _ => by kernel_rfl
  v51 := fun _ => by kernel_rfl
  t53 := by kernel_rfl
  a53 := fun _ => by kernel_rfl
  z53 := fun _ => by kernel_rfl
  v53 := fun _ => by kernel_rfl
  t131 := by kernel_rfl
  a131 := fun _ => by kernel_rfl
  z131 := fun _ => by kernel_rfl
  v131 := fun _ => by kernel_rfl
  t182 := by kernel_rfl
  a182 := fun _ => by kernel_rfl
  z182 := fun _ => by kernel_rfl
  v182 := fun _ => by kernel_rfl
  t183 := by kernel_rfl
  a183 := fun _ => by kernel_rfl
  z183 := fun _ => by kernel_rfl
  v183 := fun _ => by kernel_rfl
  t218 := by kernel_rfl
  a218 := fun _ => by kernel_rfl
  z218 := fun _ => by kernel_rfl
  v218 := fun _ => by kernel_rfl
  t222 := by kernel_rfl
  a222 := fun _ => by kernel_rfl
  z222 := fun _ => by kernel_rfl
  v222 := fun _ => by kernel_rfl
  t228 := by kernel_rfl
  a228 := fun _ => by kernel_rfl
  z228 := fun _ => by kernel_rfl
  v228 := fun _ => by kernel_rfl
  t229 := by kernel_rfl
  a229 := fun _ => by kernel_rfl
  z229 := fun _ => by kernel_rfl
  v229 := fun _ => by kernel_rfl
-- slices.Sort[[]int,int]
theorem k83_9 : fSortI.ok Try.prog 83 :=
  sortInts_ok laysSortI rfl
def E10 : D.Env := E9.addG 83 fSortI
theorem E10ok : EOk Try.prog E10 := E9ok.addG k83_9
def fCompactI : GS := ⟨[.g (.sl .int)], [.sl .int], fun (x_ : (List Int) × Unit) => x_.1.length ≤ 1000000000000, fun (x_ : (List Int) × Unit) => ((dedupA x_.1, ()), (()))⟩
abbrev W_slices_Compact_int_int_fCompactI_4 (s : (List Int)) : LInv := ⟨[⟨.s, 3, true, .el .int⟩, ⟨.t, 0, true, .sl .int⟩], fun _ (x_ : Int × (List Int) × Unit) => 1 ≤ x_.1 ∧ x_.1 ≤ s.length ∧ x_.2.1 = s ∧ dedupA (s.take x_.1.toNat) = s.take x_.1.toNat, fun (x_ : Int × (List Int) × Unit) => s.length - x_.1.toNat⟩
abbrev W_slices_Compact_int_int_fCompactI_9 (s : (List Int)) : LInv := ⟨[⟨.s, 3, true, .el .int⟩, ⟨.s, 5, true, .el .int⟩, ⟨.t, 0, true, .sl .int⟩], fun (z_ : Int × Int × (List Int) × Unit) (x_ : Int × Int × (List Int) × Unit) => CompInv s x_.2.2.1 z_.1 x_.1 x_.2.1, fun (x_ : Int × Int × (List Int) × Unit) => s.length - x_.2.1.toNat⟩
-- slices.Compact[[]int,int]
set_option maxHeartbeats 2000000 in
theorem k84_10 : fCompactI.ok Try.prog 84 := GS.of (S := fCompactI) (L := fun ⟨s, _⟩ => fun | 4 => some (W_slices_Compact_int_int_fCompactI_4 s) | 9 => some (W_slices_Compact_int_int_fCompactI_9 s) | _ => none) (kp := [0,2,3,4,5,8,13,25,32,44,1000008,1000013,1000025,1000032,1000044]) E10ok Try.func84 (by kernel_rfl) (by kernel_rfl) (by
  rintro ⟨(s : List Int), _⟩ hp
  refine holds_of (X := .br (decide ((↑s.length : Int) < (2 : Int)))
 (GS.out fCompactI ((s, ()), (())))
 (lpx (W_slices_Compact_int_int_fCompactI_4 s) ((1 : Int), (s, ())) fun (y2 : Int × List Int × PUnit) bk2 =>
  .br (decide (y2.fst < (↑y2.snd.fst.length : Int)))
   (.ob ((0 : Int) ≤ y2.fst ∧ y2.fst < (↑y2.snd.fst.length : Int)) <|
    .ob (y2.fst.toNat < y2.snd.fst.length) <|
    .ob ((0 : Int) ≤ IntKind.i64.wrap (y2.fst - (1 : Int)) ∧ IntKind.i64.wrap (y2.fst - (1 : Int)) < (↑y2.snd.fst.length : Int)) <|
    .ob ((IntKind.i64.wrap (y2.fst - (1 : Int))).toNat < y2.snd.fst.length) <|
    .br (y2.snd.fst.getD y2.fst.toNat default == y2.snd.fst.getD (IntKind.i64.wrap (y2.fst - (1 : Int))).toNat default)
    (.ob ((0 : Int) ≤ y2.fst ∧ y2.fst ≤ (↑y2.snd.fst.length : Int)) <|
     lpx (W_slices_Compact_int_int_fCompactI_9 s) (y2.fst, ((1 : Int), (y2.snd.fst, ()))) fun (y10 : Int × Int × List Int × PUnit) bk10 =>
     .br (decide (y10.snd.fst < (↑(y2.snd.fst.length - y2.fst.toNat) : Int)))
      (.ob ((0 : Int) ≤ y10.snd.fst ∧ y10.snd.fst < (↑(y2.snd.fst.length - y2.fst.toNat) : Int)) <|
       .ob (y2.fst.toNat + y10.snd.fst.toNat < y10.snd.snd.fst.length) <|
       .ob ((0 : Int) ≤ IntKind.i64.wrap (y10.snd.fst - (1 : Int)) ∧
  IntKind.i64.wrap (y10.snd.fst - (1 : Int)) < (↑(y2.snd.fst.length - y2.fst.toNat) : Int)) <|
       .ob (y2.fst.toNat + (IntKind.i64.wrap (y10.snd.fst - (1 : Int))).toNat < y10.snd.snd.fst.length) <|
       .br (y10.snd.snd.fst.getD (y2.fst.toNat + y10.snd.fst.toNat) default !=
  y10.snd.snd.fst.getD (y2.fst.toNat + (IntKind.i64.wrap (y10.snd.fst - (1 : Int))).toNat) default)
       (.ob ((0 : Int) ≤ y10.snd.fst ∧ y10.snd.fst < (↑(y2.snd.fst.length - y2.fst.toNat) : Int)) <|
        .ob (y2.fst.toNat + y10.snd.fst.toNat < y10.snd.snd.fst.length) <|
        .ob ((0 : Int) ≤ y10.fst ∧ y10.fst < (↑y10.snd.snd.fst.length : Int)) <|
        .ob (y10.fst.toNat < y10.snd.snd.fst.length) <|
        .lt (List Int) (y10.snd.snd.fst.modify y10.fst.toNat fun z => y10.snd.snd.fst.getD (y2.fst.toNat + y10.snd.fst.toNat) default) fun z2 =>
        .ob (y2.fst.toNat = y2.fst.toNat) <|
         .ob (y2.snd.fst.length - y2.fst.toNat = y2.snd.fst.length - y2.fst.toNat) <|
         .ob (bk10 (IntKind.i64.wrap (y10.fst + (1 : Int)), (IntKind.i64.wrap (y10.snd.fst + (1 : Int)), (z2, ())))) <|
         .ok)
       (.ob (y2.fst.toNat = y2.fst.toNat) <|
        .ob (y2.snd.fst.length - y2.fst.toNat = y2.snd.fst.length - y2.fst.toNat) <|
        .ob (bk10 (y10.fst, (IntKind.i64.wrap (y10.snd.fst + (1 : Int)), (y10.snd.snd.fst, ())))) <|
        .ok))
      (.ob ((0 : Int) ≤ y10.fst ∧ y10.fst ≤ (↑y10.snd.snd.fst.length : Int)) <|
       .ob (y10.fst.toNat + (y10.snd.snd.fst.length - y10.fst.toNat) ≤ y10.snd.snd.fst.length) <|
       .ob ((0 : Int) ≤ y10.fst ∧
  y10.fst ≤
    (↑(put3 y10.snd.snd.fst y10.fst.toNat (List.replicate (y10.snd.snd.fst.length - y10.fst.toNat) (0 : Int))).length :
      Int)) <|
       .ob ((0 : Nat) + (y10.fst.toNat - (0 : Nat)) ≤
  (put3 y10.snd.snd.fst y10.fst.toNat (List.replicate (y10.snd.snd.fst.length - y10.fst.toNat) (0 : Int))).length) <|
       GS.out fCompactI ((cut (put3 y10.snd.snd.fst y10.fst.toNat (List.replicate (y10.snd.snd.fst.length - y10.fst.toNat) (0 : Int))) (0 : Nat)
  (y10.fst.toNat - (0 : Nat)), ()), (()))))
    (.ob (bk2 (IntKind.i64.wrap (y2.fst + (1 : Int)), (y2.snd.fst, ()))) <|
     .ok))
   (GS.out fCompactI ((y2.snd.fst, ()), (()))))) (by kernel_rfl) ?_
  refine br_i (fun h1 => GS.leafY ?_) (fun h1 => lpx_i ?_ fun (y2 : Int × List Int × PUnit) i2 => br_i (fun h3 => ob_i ?_ fun o4 => ob_i ?_ fun o5 => ob_i ?_ fun o6 => ob_i ?_ fun o7 => br_i (fun h8 => ob_i ?_ fun o9 => lpx_i ?_ fun (y10 : Int × Int × List Int × PUnit) i10 => br_i (fun h11 => ob_i ?_ fun o12 => ob_i ?_ fun o13 => ob_i ?_ fun o14 => ob_i ?_ fun o15 => br_i (fun h16 => ob_i ?_ fun o17 => ob_i ?_ fun o18 => ob_i ?_ fun o19 => ob_i ?_ fun o20 => lt_i (ob_i rfl fun _ => ob_i rfl fun _ => ob_i ?_ fun o21 => trivial)) (fun h16 => ob_i rfl fun _ => ob_i rfl fun _ => ob_i ?_ fun o22 => trivial)) (fun h11 => ob_i ?_ fun o23 => ob_i ?_ fun o24 => ob_i ?_ fun o25 => ob_i ?_ fun o26 => GS.leafY ?_)) (fun h8 => ob_i ?_ fun o27 => trivial)) (fun h3 => GS.leafY ?_))
  all_goals try have cI := i10
  all_goals try (obtain ⟨c1, c2, c3, c4, c5, c6, c7, c8⟩ := cI; clear c7 c8)
  all_goals try (obtain ⟨d1, d2, d3, d4⟩ := i2; simp only [d3] at *)
  all_goals try simp only [decide_eq_true_eq, decide_eq_false_iff_not, Bool.not_eq_true', Bool.not_eq_false', bne_iff_ne, bne_eq_false_iff_eq, beq_iff_eq, beq_eq_false_iff_ne, baEq, Int.not_lt, Int.not_le, ne_eq, Decidable.not_not] at *
  all_goals try simp only [W_slices_Compact_int_int_fCompactI_4, W_slices_Compact_int_int_fCompactI_9, fCompactI, etaToken, etaNode, etaBuilder, etaPolicy, etaPage, etaVisit, etaTab, etaServer, etaCache, etaNet, etaLoader, etaSheet, etaResult, etaSlot, etaModule, etaAddr, etaRequest, etaResponse, etaConn, etaGuess, etaEntry, etaSent, etaFile, baSz, List.size_toArray, List.length_cons, List.length_nil, Nat.reduceAdd, Int.toNat_zero, List.drop_zero, decide_eq_true_eq, decide_eq_false_iff_not, Bool.not_eq_true', Bool.not_eq_false', bne_iff_ne, bne_eq_false_iff_eq, beq_iff_eq, beq_eq_false_iff_ne, Bool.not_eq_true, Bool.not_eq_false, ne_eq, Decidable.not_not, baEq, decide_not, Prod.mk.injEq, and_true, true_and, Room, List.nil_append, Nat.zero_add, Int.not_lt, Int.not_le] at *
  all_goals try simp (disch := omega) only [wrapId'] at *
  all_goals try simp only [put3_length, List.length_replicate] at *
  all_goals first | trivial | omega | skip
  · exact (dedupA_one _ (by omega)).symm
  · exact ⟨by omega, by omega, dedupA_one _ (by simp; omega)⟩
  · exact comp_entry d1 (by omega) d4 h8
  · exact ⟨comp_put i10 (by omega) h16, by omega⟩
  · exact ⟨comp_skip i10 (by omega) h16, by omega⟩
  · exact comp_end i10 (by omega) _
  · exact ⟨⟨by omega, by omega, comp_next d1 (by omega) d4 h8⟩, by omega⟩
  · rw [List.take_of_length_le (by omega)] at d4
    exact d4.symm)
def E11 : D.Env := E10.addG 84 fCompactI
theorem E11ok : EOk Try.prog E11 := E10ok.addG k84_10
def fCutText : Fct := ⟨[.v (.el .str), .v (.sl .int)], [.sl .str], fun (x_ : ByteArray × (List Int) × Unit) => x_.1.size ≤ 1048576 ∧ x_.2.1.length ≤ 1048576, fun (x_ : ByteArray × (List Int) × Unit) => (cutText x_.1 x_.2.1, ())⟩
theorem cutAts_len (s : ByteArray) (cs : List Int) : (cutAts s cs).length ≤ 7 := by
  have h1 := List.length_filter_le (fun n => inRange n 1 (s.size - 1)) (cs.take 7)
  rw [← rngs_eq] at h1
  have h2 : (cs.take 7).length ≤ 7 := by rw [List.length_take]; omega
  unfold cutAts; omega
def cutPos (s : ByteArray) (cs : List Int) : List Int := dedupA (sortI (cutAts s cs))
theorem cutPos_mem {s : ByteArray} {cs : List Int} {x : Int} (h : x ∈ cutPos s cs) : 1 ≤ x ∧ x ≤ s.size - 1 := by
  rw [cutPos, dedupA_mem, sortI_mem, cutAts, rngs_eq, List.mem_filter] at h
  simpa [inRange] using h.2
theorem cutPos_lt (s : ByteArray) (cs : List Int) : (cutPos s cs).Pairwise (· < ·) := dedup_pw (le := fun a b => a ≤ b) (fun a b h1 h2 => by omega) (fun a b c h1 h2 => by omega) (sortI_sorted _)
theorem cutPos_len (s : ByteArray) (cs : List Int) : (cutPos s cs).length ≤ 7 := by
  have h1 := dedupA_len (sortI (cutAts s cs))
  have h2 := sortI_len (cutAts s cs)
  have h3 := cutAts_len s cs
  unfold cutPos; omega
theorem pieces_at {s : ByteArray} {l : List Int} {i : Nat} {a : Int} (h : i < l.length) : pieces s (l.drop i) a = s.extract a.toNat (l.getD i default).toNat :: pieces s (l.drop (i + 1)) (l.getD i default) := by rw [drop_cons h]; rfl
theorem pieces_end {s : ByteArray} {l : List Int} {i : Nat} {a : Int} (h : l.length ≤ i) : pieces s (l.drop i) a = [s.extract a.toNat s.size] := by rw [List.drop_of_length_le h]; rfl
structure CutInv (s : ByteArray) (cs : List Int) (l : List Int) (j : Nat) (a : Int) : Prop where
  e : l = cutPos s cs
  h : ∀ x ∈ l.drop j, a ≤ x
  a0 : 0 ≤ a
  a1 : a ≤ s.size
theorem CutInv.get {s : ByteArray} {cs l : List Int} {j : Nat} {a : Int} (h : CutInv s cs l j a) (hj : j < l.length) : a ≤ l.getD j default ∧ l.getD j default ≤ s.size ∧ CutInv s cs l (j + 1) (l.getD j default) := by
  obtain ⟨e, h, a0, a1⟩ := h
  have hm : l.getD j default ∈ l := by rw [getD_lt hj]; exact List.getElem_mem hj
  have hb : 1 ≤ l.getD j default ∧ l.getD j default ≤ s.size - 1 := cutPos_mem (by rw [← e]; exact hm)
  have hp := cutPos_lt s cs
  rw [← e, ← List.take_append_drop j l, List.pairwise_append, drop_cons hj] at hp
  refine ⟨h _ (by rw [drop_cons hj]; exact List.mem_cons_self), by omega, e, fun x hx => ?_, by omega, by omega⟩
  exact Int.le_of_lt ((List.pairwise_cons.1 hp.2.1).1 x hx)
theorem CutInv.zero (s : ByteArray) (cs : List Int) : CutInv s cs (cutPos s cs) 0 0 := ⟨rfl, fun x hx => by have := cutPos_mem (by simpa using hx); omega, by omega, by omega⟩
theorem any_step {l : List Int} {k : Nat} {i : Int} (h : k < l.length) : hasI (l.take (k + 1)) i = (hasI (l.take k) i || decide (l.getD k default = i)) := by
  rw [take_succ h]; simp [hasI]
theorem cutGo_step {s : ByteArray} {cs : List Int} {f : Nat} {i a : Int} (h : 0 < f) : cutGo s cs f i a = if isCut cs i then s.extract a.toNat i.toNat :: cutGo s cs (f - 1) (i + 1) i else cutGo s cs (f - 1) (i + 1) a := by
  obtain ⟨n, rfl⟩ : ∃ n, f = n + 1 := ⟨f - 1, by omega⟩
  rfl
theorem isCut_min (cs : List Int) (i : Int) : hasI (cs.take (min cs.length 7)) i = isCut cs i := by
  unfold isCut
  congr 1
  rcases Nat.le_total cs.length 7 with h | h
  · rw [Nat.min_eq_left h, List.take_length, List.take_of_length_le h]
  · rw [Nat.min_eq_right h]
theorem hasI_zero (l : List Int) (i : Int) : hasI (l.take 0) i = false := by simp [hasI]
theorem here_end {cs : List Int} {i k : Int} (h1 : min (cs.length : Int) 7 ≤ k) (h2 : k ≤ cs.length) (h3 : k ≤ 7) : hasI (cs.take k.toNat) i = isCut cs i := by
  rw [← isCut_min]; congr 2; omega
theorem cutGo_end {s : ByteArray} {cs : List Int} {f : Nat} {i a : Int} (h : f = 0) : cutGo s cs f i a = [s.extract a.toNat s.size] := by subst h; rfl
theorem take7 (cs : List Int) : cut cs 0 ((if (7 : Int) < cs.length then (7 : Int) else cs.length).toNat - 0) = cs.take 7 := by
  simp only [cut, List.drop_zero]
  split
  · rfl
  · rw [List.take_of_length_le (by omega), List.take_of_length_le (by omega)]
abbrev W_spec_CutText_fCutText_5 (s : ByteArray) (cs : (List Int)) : LInv := ⟨[⟨.s, 5, true, .sl .str⟩, ⟨.s, 6, true, .el .int⟩, ⟨.s, 8, true, .el .int⟩], fun _ (x_ : (List ByteArray) × Int × Int × Unit) => 1 ≤ x_.2.2.1 ∧ (x_.2.2.1 ≤ s.size ∨ x_.2.2.1 = 1) ∧ 0 ≤ x_.2.1 ∧ x_.2.1 < x_.2.2.1 ∧ x_.2.1 ≤ s.size ∧ x_.1.length ≤ x_.2.2.1 ∧ x_.1 ++ cutGo s cs (s.size - x_.2.2.1.toNat) x_.2.2.1 x_.2.1 = cutText s cs, fun (x_ : (List ByteArray) × Int × Int × Unit) => s.size - x_.2.2.1.toNat⟩
abbrev W_spec_CutText_fCutText_9 (s : ByteArray) (cs : (List Int)) : LInv := ⟨[⟨.s, 9, true, .el .bool⟩, ⟨.s, 10, true, .el .int⟩, ⟨.s, 5, true, .sl .str⟩, ⟨.s, 6, true, .el .int⟩, ⟨.s, 8, true, .el .int⟩], fun (z_ : Bool × Int × (List ByteArray) × Int × Int × Unit) (x_ : Bool × Int × (List ByteArray) × Int × Int × Unit) => x_.2.2.1 = z_.2.2.1 ∧ x_.2.2.2.1 = z_.2.2.2.1 ∧ x_.2.2.2.2.1 = z_.2.2.2.2.1 ∧ 0 ≤ x_.2.1 ∧ x_.2.1 ≤ cs.length ∧ x_.2.1 ≤ 7 ∧ x_.1 = hasI (cs.take x_.2.1.toNat) x_.2.2.2.2.1, fun (x_ : Bool × Int × (List ByteArray) × Int × Int × Unit) => 7 - x_.2.1.toNat⟩
-- spec.CutText
theorem k37_11 : fCutText.ok Try.prog 37 := Fct.of (S := fCutText) (L := fun ⟨s, cs, _⟩ => fun | 5 => some (W_spec_CutText_fCutText_5 s cs) | 9 => some (W_spec_CutText_fCutText_9 s cs) | _ => none) (kp := [0,1,4,5,6,7,8,9,10,18,23,35,1000018,1000023,1000035]) E11ok Try.func37 (by kernel_rfl) (by kernel_rfl) (by
  rintro ⟨(s : ByteArray), (cs : List Int), _⟩ hp
  refine holds_of (X := .ob (fMin.pre ((↑cs.length : Int), (7 : Int), ())) <|
 .lt (Int × PUnit) (fMin.fn ((↑cs.length : Int), (7 : Int), ())) fun z2 =>
 lpx (W_spec_CutText_fCutText_5 s cs) ([], ((0 : Int), ((1 : Int), ()))) fun (y1 : List ByteArray × Int × Int × PUnit) bk1 =>
  .br (decide (y1.snd.snd.fst < (↑s.size : Int)))
   (lpx (W_spec_CutText_fCutText_9 s cs) (false, ((0 : Int), (y1.fst, (y1.snd.fst, (y1.snd.snd.fst, ()))))) fun (y3 : Bool × Int × List ByteArray × Int × Int × PUnit) bk3 =>
    .br (decide (y3.snd.fst < z2.fst))
     (.br (y3.fst)
      (.ob (Value.string s = Value.string s) <|
       .ob (cs = cs) <|
       .ob (Value.int IntKind.i64 z2.fst = Value.int IntKind.i64 z2.fst) <|
       .ob (bk3 (true, (IntKind.i64.wrap (y3.snd.fst + (1 : Int)), (y3.snd.snd.fst, (y3.snd.snd.snd.fst, (y3.snd.snd.snd.snd.fst, ())))))) <|
       .ok)
      (.ob ((0 : Int) ≤ y3.snd.fst ∧ y3.snd.fst < (↑cs.length : Int)) <|
       .ob (Value.string s = Value.string s) <|
       .ob (cs = cs) <|
       .ob (Value.int IntKind.i64 z2.fst = Value.int IntKind.i64 z2.fst) <|
       .ob (bk3 (cs.getD y3.snd.fst.toNat default == y3.snd.snd.snd.snd.fst, (IntKind.i64.wrap (y3.snd.fst + (1 : Int)), (y3.snd.snd.fst, (y3.snd.snd.snd.fst, (y3.snd.snd.snd.snd.fst, ())))))) <|
       .ok))
     (.br (y3.fst)
      (.ob ((0 : Int) ≤ y3.snd.snd.snd.fst ∧ y3.snd.snd.snd.fst ≤ y3.snd.snd.snd.snd.fst ∧ y3.snd.snd.snd.snd.fst ≤ (↑s.size : Int)) <|
       .ob (True) <|
       .ob (Room (y3.snd.snd.fst.length + [s.extract y3.snd.snd.snd.fst.toNat y3.snd.snd.snd.snd.fst.toNat].length) (16 : Nat)) <|
       .ob (Value.string s = Value.string s) <|
       .ob (cs = cs) <|
       .ob (Value.int IntKind.i64 z2.fst = Value.int IntKind.i64 z2.fst) <|
       .ob (bk1 (y3.snd.snd.fst ++ [s.extract y3.snd.snd.snd.fst.toNat y3.snd.snd.snd.snd.fst.toNat], (y3.snd.snd.snd.snd.fst, (IntKind.i64.wrap (y3.snd.snd.snd.snd.fst + (1 : Int)), ())))) <|
       .ok)
      (.ob (Value.string s = Value.string s) <|
       .ob (cs = cs) <|
       .ob (Value.int IntKind.i64 z2.fst = Value.int IntKind.i64 z2.fst) <|
       .ob (bk1 (y3.snd.snd.fst, (y3.snd.snd.snd.fst, (IntKind.i64.wrap (y3.snd.snd.snd.snd.fst + (1 : Int)), ())))) <|
       .ok)))
   (.ob ((0 : Int) ≤ y1.snd.fst ∧ y1.snd.fst ≤ (↑s.size : Int)) <|
    .ob (True) <|
    .ob (Room (y1.fst.length + [s.extract y1.snd.fst.toNat s.size].length) (16 : Nat)) <|
    .leaf (mkR fCutText.rs (y1.fst ++ [s.extract y1.snd.fst.toNat s.size], ())) [] [])) (by kernel_rfl) ?_
  refine ob_i trivial fun _ => lt_i (lpx_i ?_ fun (y1 : List ByteArray × Int × Int × PUnit) i1 => br_i (fun h2 => lpx_i ?_ fun (y3 : Bool × Int × List ByteArray × Int × Int × PUnit) i3 => br_i (fun h4 => br_i (fun h5 => ob_i rfl fun _ => ob_i rfl fun _ => ob_i rfl fun _ => ob_i ?_ fun o6 => trivial) (fun h5 => ob_i ?_ fun o7 => ob_i rfl fun _ => ob_i rfl fun _ => ob_i rfl fun _ => ob_i ?_ fun o8 => trivial)) (fun h4 => br_i (fun h9 => ob_i ?_ fun o10 => ob_i trivial fun _ => ob_i ?_ fun o11 => ob_i rfl fun _ => ob_i rfl fun _ => ob_i rfl fun _ => ob_i ?_ fun o12 => trivial) (fun h9 => ob_i rfl fun _ => ob_i rfl fun _ => ob_i rfl fun _ => ob_i ?_ fun o13 => trivial))) (fun h2 => ob_i ?_ fun o14 => ob_i trivial fun _ => ob_i ?_ fun o15 => Fct.leafY ?_))
  all_goals try simp only [decide_eq_true_eq, decide_eq_false_iff_not, Bool.not_eq_true', Bool.not_eq_false', bne_iff_ne, bne_eq_false_iff_eq, beq_iff_eq, beq_eq_false_iff_ne, baEq, Int.not_lt, Int.not_le, ne_eq, Decidable.not_not] at *
  all_goals try simp only [W_spec_CutText_fCutText_5, W_spec_CutText_fCutText_9, fCutText, fMin, etaToken, etaNode, etaBuilder, etaPolicy, etaPage, etaVisit, etaTab, etaServer, etaCache, etaNet, etaLoader, etaSheet, etaResult, etaSlot, etaModule, etaAddr, etaRequest, etaResponse, etaConn, etaGuess, etaEntry, etaSent, etaFile, baSz, List.size_toArray, List.length_cons, List.length_nil, Nat.reduceAdd, Int.toNat_zero, List.drop_zero, decide_eq_true_eq, decide_eq_false_iff_not, Bool.not_eq_true', Bool.not_eq_false', bne_iff_ne, bne_eq_false_iff_eq, beq_iff_eq, beq_eq_false_iff_ne, Bool.not_eq_true, Bool.not_eq_false, ne_eq, Decidable.not_not, baEq, decide_not, Prod.mk.injEq, and_true, true_and, Room, List.nil_append, Nat.zero_add, Int.not_lt, Int.not_le, cutText, fMin, cutGo_step, cutGo_end, any_step, here_end, hasI_zero] at *
  all_goals try simp (disch := omega) only [wrapId', toNat1] at *
  all_goals try simp (disch := omega) only [if_pos, if_neg]
  all_goals first | trivial | omega | grind [wrapId', toNat1, good_len, maxLen, cutText, fMin, cutGo_step, cutGo_end, any_step, here_end, hasI_zero])
def E12 : D.Env := E11.add 37 fCutText
theorem E12ok : EOk Try.prog E12 := E11ok.add k37_11
abbrev W_impl_CutText_fCutText_3 (s : ByteArray) (cs : (List Int)) : LInv := ⟨[⟨.s, 5, true, .sl .int⟩, ⟨.s, 19, true, .el .int⟩], fun _ (x_ : (List Int) × Int × Unit) => 0 ≤ x_.2.1 ∧ x_.2.1 ≤ (cs.take 7).length ∧ x_.1.length ≤ x_.2.1 ∧ x_.1 ++ rngs (s.size - 1) ((cs.take 7).drop x_.2.1.toNat) = cutAts s cs, fun (x_ : (List Int) × Int × Unit) => 7 - x_.2.1.toNat⟩
abbrev W_impl_CutText_fCutText_12 (s : ByteArray) (cs : (List Int)) : LInv := ⟨[⟨.s, 8, true, .sl .str⟩, ⟨.s, 9, true, .el .int⟩, ⟨.s, 39, true, .el .int⟩, ⟨.s, 37, true, .sl .int⟩], fun _ (x_ : (List ByteArray) × Int × Int × (List Int) × Unit) => CutInv s cs x_.2.2.2.1 x_.2.2.1.toNat x_.2.1 ∧ 0 ≤ x_.2.2.1 ∧ x_.2.2.1 ≤ x_.2.2.2.1.length ∧ x_.1.length ≤ x_.2.2.1 ∧ x_.1 ++ pieces s (x_.2.2.2.1.drop x_.2.2.1.toNat) x_.2.1 = cutText s cs, fun (x_ : (List ByteArray) × Int × Int × (List Int) × Unit) => (cutPos s cs).length - x_.2.2.1.toNat⟩
-- impl.CutText
set_option maxHeartbeats 2000000 in
theorem k39_12 : fCutText.ok Try.prog 39 := Fct.of (S := fCutText) (L := fun ⟨s, cs, _⟩ => fun | 3 => some (W_impl_CutText_fCutText_3 s cs) | 12 => some (W_impl_CutText_fCutText_12 s cs) | _ => none) (kp := [0,1,4,5,7,8,9,11,17,18,19,20,27,37,38,39,40,1000020,1000027,1000040]) E12ok Try.func39 (by kernel_rfl) (by kernel_rfl) (by
  rintro ⟨(s : ByteArray), (cs : List Int), _⟩ hp
  refine holds_of (X := .ob (((0 : Int) ≤ if (7 : Int) < (↑cs.length : Int) then (7 : Int) else (↑cs.length : Int)) ∧
  (if (7 : Int) < (↑cs.length : Int) then (7 : Int) else (↑cs.length : Int)) ≤ (↑cs.length : Int)) <|
 lpx (W_impl_CutText_fCutText_3 s cs) ([], ((0 : Int), ())) fun (y2 : List Int × Int × PUnit) bk2 =>
 .br (decide
  (y2.snd.fst <
    (↑(cut cs (0 : Nat)
            ((if (7 : Int) < (↑cs.length : Int) then (7 : Int) else (↑cs.length : Int)).toNat - (0 : Nat))).length :
      Int)))
  (.ob ((0 : Int) ≤ y2.snd.fst ∧
  y2.snd.fst <
    (↑(cut cs (0 : Nat)
            ((if (7 : Int) < (↑cs.length : Int) then (7 : Int) else (↑cs.length : Int)).toNat - (0 : Nat))).length :
      Int)) <|
   .ob (fInRange.pre
  ((cut cs (0 : Nat)
          ((if (7 : Int) < (↑cs.length : Int) then (7 : Int) else (↑cs.length : Int)).toNat - (0 : Nat))).getD
      y2.snd.fst.toNat default,
    (1 : Int), IntKind.i64.wrap ((↑s.size : Int) - (1 : Int)), ())) <|
   .lt (Bool × PUnit) (fInRange.fn
  ((cut cs (0 : Nat)
          ((if (7 : Int) < (↑cs.length : Int) then (7 : Int) else (↑cs.length : Int)).toNat - (0 : Nat))).getD
      y2.snd.fst.toNat default,
    (1 : Int), IntKind.i64.wrap ((↑s.size : Int) - (1 : Int)), ())) fun z2 =>
   .br (z2.fst)
    (.ob (True) <|
     .ob (Room
  (y2.fst.length +
    [(cut cs (0 : Nat)
              ((if (7 : Int) < (↑cs.length : Int) then (7 : Int) else (↑cs.length : Int)).toNat - (0 : Nat))).getD
          y2.snd.fst.toNat default].length)
  (8 : Nat)) <|
     .ob (Value.string s = Value.string s) <|
     .ob (cs = cs) <|
     .ob (cut cs (0 : Nat) ((if (7 : Int) < (↑cs.length : Int) then (7 : Int) else (↑cs.length : Int)).toNat - (0 : Nat)) =
  cut cs (0 : Nat) ((if (7 : Int) < (↑cs.length : Int) then (7 : Int) else (↑cs.length : Int)).toNat - (0 : Nat))) <|
     .ob (Value.int IntKind.i64
    (↑(cut cs (0 : Nat)
            ((if (7 : Int) < (↑cs.length : Int) then (7 : Int) else (↑cs.length : Int)).toNat - (0 : Nat))).length :
      Int) =
  Value.int IntKind.i64
    (↑(cut cs (0 : Nat)
            ((if (7 : Int) < (↑cs.length : Int) then (7 : Int) else (↑cs.length : Int)).toNat - (0 : Nat))).length :
      Int)) <|
     .ob (bk2 (y2.fst ++
  [(cut cs (0 : Nat)
          ((if (7 : Int) < (↑cs.length : Int) then (7 : Int) else (↑cs.length : Int)).toNat - (0 : Nat))).getD
      y2.snd.fst.toNat default], (IntKind.i64.wrap (y2.snd.fst + (1 : Int)), ()))) <|
     .ok)
    (.ob (Value.string s = Value.string s) <|
     .ob (cs = cs) <|
     .ob (cut cs (0 : Nat) ((if (7 : Int) < (↑cs.length : Int) then (7 : Int) else (↑cs.length : Int)).toNat - (0 : Nat)) =
  cut cs (0 : Nat) ((if (7 : Int) < (↑cs.length : Int) then (7 : Int) else (↑cs.length : Int)).toNat - (0 : Nat))) <|
     .ob (Value.int IntKind.i64
    (↑(cut cs (0 : Nat)
            ((if (7 : Int) < (↑cs.length : Int) then (7 : Int) else (↑cs.length : Int)).toNat - (0 : Nat))).length :
      Int) =
  Value.int IntKind.i64
    (↑(cut cs (0 : Nat)
            ((if (7 : Int) < (↑cs.length : Int) then (7 : Int) else (↑cs.length : Int)).toNat - (0 : Nat))).length :
      Int)) <|
     .ob (bk2 (y2.fst, (IntKind.i64.wrap (y2.snd.fst + (1 : Int)), ()))) <|
     .ok))
  (.ob (fSortI.pre (y2.fst, ())) <|
   .lt (PUnit × List Int × PUnit) (fSortI.fn (y2.fst, ())) fun z3 =>
   .ob (fCompactI.pre (z3.snd.fst, ())) <|
    .lt ((List Int × PUnit) × PUnit) (fCompactI.fn (z3.snd.fst, ())) fun z4 =>
    lpx (W_impl_CutText_fCutText_12 s cs) ([], ((0 : Int), ((0 : Int), (z4.fst.fst, ())))) fun (y11 : List ByteArray × Int × Int × List Int × PUnit) bk11 =>
     .br (decide (y11.snd.snd.fst < (↑z4.fst.fst.length : Int)))
      (.ob ((0 : Int) ≤ y11.snd.snd.fst ∧ y11.snd.snd.fst < (↑y11.snd.snd.snd.fst.length : Int)) <|
       .ob (y11.snd.snd.fst.toNat < y11.snd.snd.snd.fst.length) <|
       .ob ((0 : Int) ≤ y11.snd.fst ∧
  y11.snd.fst ≤ y11.snd.snd.snd.fst.getD y11.snd.snd.fst.toNat default ∧
    y11.snd.snd.snd.fst.getD y11.snd.snd.fst.toNat default ≤ (↑s.size : Int)) <|
       .ob (True) <|
       .ob (Room
  (y11.fst.length + [s.extract y11.snd.fst.toNat (y11.snd.snd.snd.fst.getD y11.snd.snd.fst.toNat default).toNat].length)
  (16 : Nat)) <|
       .ob (Value.int IntKind.i64 y2.snd.fst = Value.int IntKind.i64 y2.snd.fst) <|
       .ob (Value.string s = Value.string s) <|
       .ob (cs = cs) <|
       .ob (cut cs (0 : Nat) ((if (7 : Int) < (↑cs.length : Int) then (7 : Int) else (↑cs.length : Int)).toNat - (0 : Nat)) =
  cut cs (0 : Nat) ((if (7 : Int) < (↑cs.length : Int) then (7 : Int) else (↑cs.length : Int)).toNat - (0 : Nat))) <|
       .ob (Value.int IntKind.i64
    (↑(cut cs (0 : Nat)
            ((if (7 : Int) < (↑cs.length : Int) then (7 : Int) else (↑cs.length : Int)).toNat - (0 : Nat))).length :
      Int) =
  Value.int IntKind.i64
    (↑(cut cs (0 : Nat)
            ((if (7 : Int) < (↑cs.length : Int) then (7 : Int) else (↑cs.length : Int)).toNat - (0 : Nat))).length :
      Int)) <|
       .ob (Value.int IntKind.i64 (↑z4.fst.fst.length : Int) = Value.int IntKind.i64 (↑z4.fst.fst.length : Int)) <|
       .ob (bk11 (y11.fst ++ [s.extract y11.snd.fst.toNat (y11.snd.snd.snd.fst.getD y11.snd.snd.fst.toNat default).toNat], (y11.snd.snd.snd.fst.getD y11.snd.snd.fst.toNat default, (IntKind.i64.wrap (y11.snd.snd.fst + (1 : Int)), (y11.snd.snd.snd.fst, ()))))) <|
       .ok)
      (.ob ((0 : Int) ≤ y11.snd.fst ∧ y11.snd.fst ≤ (↑s.size : Int)) <|
       .ob (True) <|
       .ob (Room (y11.fst.length + [s.extract y11.snd.fst.toNat s.size].length) (16 : Nat)) <|
       .leaf (mkR fCutText.rs (y11.fst ++ [s.extract y11.snd.fst.toNat s.size], ())) [] []))) (by kernel_rfl) ?_
  refine ob_i ?_ fun o1 => lpx_i ?_ fun (y2 : List Int × Int × PUnit) i2 => br_i (fun h3 => ob_i ?_ fun o4 => ob_i trivial fun _ => lt_i (br_i (fun h5 => ob_i trivial fun _ => ob_i ?_ fun o6 => ob_i rfl fun _ => ob_i rfl fun _ => ob_i rfl fun _ => ob_i rfl fun _ => ob_i ?_ fun o7 => trivial) (fun h5 => ob_i rfl fun _ => ob_i rfl fun _ => ob_i rfl fun _ => ob_i rfl fun _ => ob_i ?_ fun o8 => trivial))) (fun h3 => ob_i ?_ fun o9 => lt_i (ob_i ?_ fun o10 => lt_i (lpx_i ?_ fun (y11 : List ByteArray × Int × Int × List Int × PUnit) i11 => br_i (fun h12 => ob_i ?_ fun o13 => ob_i ?_ fun o14 => ob_i ?_ fun o15 => ob_i trivial fun _ => ob_i ?_ fun o16 => ob_i rfl fun _ => ob_i rfl fun _ => ob_i rfl fun _ => ob_i rfl fun _ => ob_i rfl fun _ => ob_i rfl fun _ => ob_i ?_ fun o17 => trivial) (fun h12 => ob_i ?_ fun o18 => ob_i trivial fun _ => ob_i ?_ fun o19 => Fct.leafY ?_))))
  all_goals try simp only [take7] at *
  all_goals have hl7 := List.length_take (i := 7) (l := cs)
  all_goals have hp1 := cutAts_len s cs
  all_goals have hp2 := sortI_len (cutAts s cs)
  all_goals have hp3 := cutPos_len s cs
  all_goals have hp6 := cutText_pieces s cs
  all_goals try simp only [decide_eq_true_eq, decide_eq_false_iff_not, Bool.not_eq_true', Bool.not_eq_false', bne_iff_ne, bne_eq_false_iff_eq, beq_iff_eq, beq_eq_false_iff_ne, baEq, Int.not_lt, Int.not_le, ne_eq, Decidable.not_not] at *
  all_goals try simp only [W_impl_CutText_fCutText_12, W_impl_CutText_fCutText_3, fCompactI, fCutText, fInRange, fSortI, etaToken, etaNode, etaBuilder, etaPolicy, etaPage, etaVisit, etaTab, etaServer, etaCache, etaNet, etaLoader, etaSheet, etaResult, etaSlot, etaModule, etaAddr, etaRequest, etaResponse, etaConn, etaGuess, etaEntry, etaSent, etaFile, baSz, List.size_toArray, List.length_cons, List.length_nil, Nat.reduceAdd, Int.toNat_zero, List.drop_zero, decide_eq_true_eq, decide_eq_false_iff_not, Bool.not_eq_true', Bool.not_eq_false', bne_iff_ne, bne_eq_false_iff_eq, beq_iff_eq, beq_eq_false_iff_ne, Bool.not_eq_true, Bool.not_eq_false, ne_eq, Decidable.not_not, baEq, decide_not, Prod.mk.injEq, and_true, true_and, Room, List.nil_append, Nat.zero_add, Int.not_lt, Int.not_le, fInRange, fSortI, fCompactI] at *
  all_goals try simp (disch := omega) only [wrapId', toNat1] at *
  all_goals try simp (disch := omega) only [if_pos, if_neg]
  all_goals try (have q2 : y2.1 = cutAts s cs := by have h := i2.2.2.2; rw [rngs_end (by omega), List.append_nil] at h; exact h)
  all_goals try (simp only [q2, show dedupA (sortI (cutAts s cs)) = cutPos s cs from rfl] at *)
  all_goals try (have ce := i11.1.e; simp only [ce] at *)
  all_goals try clear hp6
  all_goals try simp (disch := omega) only [wrapId', toNat1] at *
  all_goals first | omega | skip
  all_goals try (by_cases hj : y11.2.2.1.toNat < (cutPos s cs).length; (obtain ⟨g1, g2, g3⟩ := CutInv.get i11.1 hj))
  all_goals try (have g4 := i11.1.a0; have g5 := i11.1.a1)
  all_goals first | omega | skip
  all_goals first | exact ⟨CutInv.zero s cs, by omega, by omega, by omega, (cutText_pieces s cs).symm⟩ | grind [cutAts, rngs_at, pieces_at, pieces_end])
def E13 : D.Env := E12.add 39 fCutText
theorem E13ok : EOk Try.prog E13 := E12ok.add k39_12
theorem pieces_len (s : ByteArray) : ∀ (l : List Int) (a : Int), (pieces s l a).length = l.length + 1
  | [], _ => rfl
  | x :: l, a => by rw [pieces, List.length_cons, pieces_len s l x, List.length_cons]
theorem cutText_len (s : ByteArray) (cs : List Int) : (cutText s cs).length ≤ 8 := by
  have := cutPos_len s cs
  rw [cutText_pieces, pieces_len]; unfold cutPos at this; omega
def lStrInts : Fct := lawFS [.el .str, .sl .int]
-- laws.FnExactCutText
set_option maxHeartbeats 2000000 in
theorem k6_13 : lStrInts.ok Try.prog 6 := Fct.of (S := lStrInts) (L := fun _ _ => none) (kp := [0,1,4,5,6,7,8,9,10,11,14,17,30,35,46,54,57,65,70,73,1000014,1000017,1000030,1000035,1000046,1000054,1000057,1000065,1000070,1000073]) E13ok Try.func6 (by kernel_rfl) (by kernel_rfl) (by
  rintro ⟨(s : ByteArray), (cs : List Int), _⟩ hp
  refine holds_of (X := .br (decide ((↑(ByteArray.size s) : Int) > (1048576 : Int)))
 (.leaf (mkR lStrInts.rs (true, ())) [] [])
 (.br (decide ((↑(List.length cs) : Int) > (1048576 : Int)))
  (.leaf (mkR lStrInts.rs (true, ())) [] [])
  (.ob (ftoIntS.pre (cs, ())) <|
   .lt (List Int × PUnit) (ftoIntS.fn (cs, ())) fun z2 =>
   .ob (fCutText.pre (s, z2.fst, ())) <|
    .lt (List ByteArray × PUnit) (fCutText.fn (s, z2.fst, ())) fun z3 =>
    .ob (ftoIntS.pre (cs, ())) <|
     .lt (List Int × PUnit) (ftoIntS.fn (cs, ())) fun z4 =>
     .ob (fCutText.pre (s, z4.fst, ())) <|
      .lt (List ByteArray × PUnit) (fCutText.fn (s, z4.fst, ())) fun z5 =>
      .ob (feqStringS.pre (z5.fst, z3.fst, ())) <|
       .lt (Bool × PUnit) (feqStringS.fn (z5.fst, z3.fst, ())) fun z6 =>
       .br (!z6.fst)
        (.leaf (mkR lStrInts.rs (false, ())) [] [])
        (.ob (ftoIntS.pre (cs, ())) <|
         .lt (List Int × PUnit) (ftoIntS.fn (cs, ())) fun z7 =>
         .ob (feqIntS.pre (z4.fst, z7.fst, ())) <|
          .lt (Bool × PUnit) (feqIntS.fn (z4.fst, z7.fst, ())) fun z8 =>
          .br (!z8.fst)
           (.leaf (mkR lStrInts.rs (false, ())) [] [])
           (.ob (fmarkIntS.pre z4.fst (1 : Int)) <|
            .lt (List Int × Int) (fmarkIntS.fn z4.fst (1 : Int)) fun z9 =>
            .br (decide (z9.snd < (0 : Int)))
             (.leaf (mkR lStrInts.rs (false, ())) [] [])
             (.ob (feqStringS.pre (z5.fst, z3.fst, ())) <|
              .lt (Bool × PUnit) (feqStringS.fn (z5.fst, z3.fst, ())) fun z10 =>
              .br (!z10.fst)
               (.leaf (mkR lStrInts.rs (false, ())) [] [])
               (.ob (fmarkStringS.pre z5.fst (1 : Int)) <|
                .lt (List ByteArray × Int) (fmarkStringS.fn z5.fst (1 : Int)) fun z11 =>
                .ob (fheldStringS.pre (z11.fst, (1 : Int), ())) <|
                 .lt (Int × PUnit) (fheldStringS.fn (z11.fst, (1 : Int), ())) fun z12 =>
                 .br (decide (z12.fst < (0 : Int)))
                  (.leaf (mkR lStrInts.rs (false, ())) [] [])
                  (.br (z12.fst != z11.snd)
                   (.leaf (mkR lStrInts.rs (false, ())) [] [])
                   (.ob (ftoIntS.pre (cs, ())) <|
                    .lt (List Int × PUnit) (ftoIntS.fn (cs, ())) fun z13 =>
                    .ob (fCutText.pre (s, z13.fst, ())) <|
                     .lt (List ByteArray × PUnit) (fCutText.fn (s, z13.fst, ())) fun z14 =>
                     .ob (feqStringS.pre (z14.fst, z3.fst, ())) <|
                      .lt (Bool × PUnit) (feqStringS.fn (z14.fst, z3.fst, ())) fun z15 =>
                      .br (!z15.fst)
                       (.leaf (mkR lStrInts.rs (false, ())) [] [])
                       (.ob (fheldStringS.pre (z11.fst, (1 : Int), ())) <|
                        .lt (Int × PUnit) (fheldStringS.fn (z11.fst, (1 : Int), ())) fun z16 =>
                        .br (decide (z16.fst < (0 : Int)))
                         (.leaf (mkR lStrInts.rs (false, ())) [] [])
                         (.br (z16.fst != z11.snd)
                          (.leaf (mkR lStrInts.rs (false, ())) [] [])
                          (.leaf (mkR lStrInts.rs (true, ())) [] [])))))))))))) (by kernel_rfl) ?_
  refine br_i (fun h1 => Fct.leafY ?_) (fun h1 => br_i (fun h2 => Fct.leafY ?_) (fun h2 => ob_i ?_ fun o3 => lt_e fun z2 ez2 => (ob_i ?_ fun o4 => lt_e fun z3 ez3 => (ob_i ?_ fun o5 => lt_e fun z4 ez4 => (ob_i ?_ fun o6 => lt_e fun z5 ez5 => (ob_i ?_ fun o7 => lt_e fun z6 ez6 => (br_i (fun h8 => Fct.leafY ?_) (fun h8 => ob_i ?_ fun o9 => lt_e fun z7 ez7 => (ob_i ?_ fun o10 => lt_e fun z8 ez8 => (br_i (fun h11 => Fct.leafY ?_) (fun h11 => ob_i ?_ fun o12 => lt_e fun z9 ez9 => (br_i (fun h13 => Fct.leafY ?_) (fun h13 => ob_i ?_ fun o14 => lt_e fun z10 ez10 => (br_i (fun h15 => Fct.leafY ?_) (fun h15 => ob_i ?_ fun o16 => lt_e fun z11 ez11 => (ob_i ?_ fun o17 => lt_e fun z12 ez12 => (br_i (fun h18 => Fct.leafY ?_) (fun h18 => br_i (fun h19 => Fct.leafY ?_) (fun h19 => ob_i ?_ fun o20 => lt_e fun z13 ez13 => (ob_i ?_ fun o21 => lt_e fun z14 ez14 => (ob_i ?_ fun o22 => lt_e fun z15 ez15 => (br_i (fun h23 => Fct.leafY ?_) (fun h23 => ob_i ?_ fun o24 => lt_e fun z16 ez16 => (br_i (fun h25 => Fct.leafY ?_) (fun h25 => br_i (fun h26 => Fct.leafY ?_) (fun h26 => Fct.leafY ?_))))))))))))))))))))))))))
  all_goals have hg0 : Sh.good (.el .str) s := hp.1
  all_goals have hg1 : Sh.good (.sl .int) cs := hp.2.1
  all_goals clear hp
  all_goals subst_vars
  all_goals try simp only [decide_eq_true_eq, decide_eq_false_iff_not, Bool.not_eq_true', Bool.not_eq_false', bne_iff_ne, bne_eq_false_iff_eq, beq_iff_eq, beq_eq_false_iff_ne, baEq, Int.not_lt, Int.not_le, ne_eq, Decidable.not_not] at *
  all_goals try simp only [fCutText, feqIntS, feqStringS, fheldStringS, fmarkIntS, fmarkStringS, ftoIntS, lStrInts, etaToken, etaNode, etaBuilder, etaPolicy, etaPage, etaVisit, etaTab, etaServer, etaCache, etaNet, etaLoader, etaSheet, etaResult, etaSlot, etaModule, etaAddr, etaRequest, etaResponse, etaConn, etaGuess, etaEntry, etaSent, etaFile, baSz, List.size_toArray, List.length_cons, List.length_nil, Nat.reduceAdd, Int.toNat_zero, List.drop_zero, decide_eq_true_eq, decide_eq_false_iff_not, Bool.not_eq_true', Bool.not_eq_false', bne_iff_ne, bne_eq_false_iff_eq, beq_iff_eq, beq_eq_false_iff_ne, Bool.not_eq_true, Bool.not_eq_false, ne_eq, Decidable.not_not, baEq, decide_not, Prod.mk.injEq, and_true, true_and, Room, List.nil_append, Nat.zero_add, Int.not_lt, Int.not_le, decide_true] at *
  all_goals try simp only [mkIntS_idem, mkIntS_ub, mkStringS_idem, mkStringS_ub] at *
  all_goals first | trivial | omega | grind [lessen, cutText_len])
def E14 : D.Env := E13.add 6 lStrInts
theorem E14ok : EOk Try.prog E14 := E13ok.add k6_13

section
open Go.ChangeShapes Go.WideShapes Go.ChangeAt Go.RowKit
theorem own : ownKnob Try.prog.godebug = none := by kernel_rfl
theorem types : ∀ e t, tyOf e = some t → e ∈ ([3, 4, 5, 9, 34, 36, 54, 69, 77, 80, 86, 89, 94, 95, 97, 111, 156, 158, 162, 166, 168, 177, 181, 184, 188, 215, 218, 220, 222, 226, 231, 254, 257, 259] : List TypeId) := by
  intro e t h
  unfold tyOf at h
  split at h <;> first | (simp; done) | cases h
theorem lifted (os : Os) (started : os.Started) (H : Type) (enc : TypeId × Value → H) :
    ReturnsInHanded {} Try.checked os 6 .any (Rows.fnExactCutTextSpec.pre6 enc Try.prog Try.f6 Rows.fnExactCutTextRow.domain false) (Rows.fnExactCutTextSpec.post enc Try.prog Try.f6 false true false false) := by
  refine handed_sh (C := Try.checked) own started (by kernel_rfl) Try.func6
    (ChangeSpec.witness6 (enc := enc) (C := Try.checked) false ⟨#[], #[.string ⟨#[]⟩, .slice none 0 0], []⟩ 8 (by kernel_rfl) (by kernel_rfl) (by kernel_rfl) (by kernel_rfl)) ?_
  intro W base args ds gs before hval0 hW hsh
  have hval : ∀ (j : Nat) t v, Try.f6.params[j]? = some t → args[j]? = some v → Value.okWide Try.prog W .any base t v := hval0
  refine law_calls (show rowOk Try.prog Try.f6 tyOf [3, 4, 5, 9, 34, 36, 54, 69, 77, 80, 86, 89, 94, 95, 97, 111, 156, 158, 162, 166, 168, 177, 181, 184, 188, 215, 218, 220, 222, 226, 231, 254, 257, 259] [.el .str, .sl .int] = true by kernel_rfl) types rfl Try.underlying4 rfl hW (fun xs h => ?_) hval hsh k6_13
  · rw [Try.params6] at h
    match xs, (show xs.length = 2 from h) with
    | [x0, x1], _ => rfl
set_option maxHeartbeats 0 in
theorem closed : joinedFacts Try.prog 6 Try.f6 Rows.fnExactCutTextSpec Rows.fnExactCutTextRow = true := by
  unfold joinedFacts
  refine (and_i (and_i (and_i (and_i (and_i (and_i (and_i (and_i (and_i (and_i (and_i (and_i (and_i (and_i (and_i (and_i (and_i (and_i (and_i (and_i (and_i (and_i (and_i (and_i (and_i (and_i (and_i (and_i (and_i (and_i (and_i ?_ ?_) ?_) ?_) ?_) ?_) ?_) ?_) ?_) ?_) ?_) ?_) ?_) ?_) ?_) ?_) ?_) ?_) ?_) ?_) ?_) ?_) ?_) ?_) ?_) ?_) ?_) ?_) ?_) ?_) ?_) ?_)
  all_goals decide +kernel
theorem over : Rows.fnExactCutTextRow.holds Try.pinned (OpenSpec.ofChange Rows.fnExactCutTextSpec) :=
  OpenClaim.holds_of_wide 6 Try.f6 rfl rfl rfl rfl rfl rfl rfl ⟨rfl, rfl, rfl, rfl, rfl⟩ rfl rfl rfl rfl rfl (by kernel_rfl) Try.func6 closed
    (of_decide_eq_true (by kernel_rfl)) (by unfold Func.isWrapper; first | (rw [if_pos (by decide +kernel)]; kernel_rfl) | (rw [if_neg (by decide +kernel)]; exact ⟨rfl, rfl⟩))
    (fun os started H enc _ => lifted os started H enc)
theorem proved : Rows.FnExactCutTextSaid := over
end
end Go.Proofs.Ytkadnfkdgljfoaa.fnExactCutText
