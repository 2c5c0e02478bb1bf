/-
  The program's NewTab returns what the reference's returns, for all arguments: the law returns true. No condition.
-/
import Derived.Test.YtkadnfkdgljfoaaVPt
import Derived.Test.YtkadnfkdgljfoaaRows
import Derived.WalkKit
import Derived.ProofKit
import Derived.OpenShut
import Derived.Test.YtkadnfkdgljfoaaVEf
namespace Go.Proofs.Ytkadnfkdgljfoaa.fnExactNewTab
open Go.Proofs.Ytkadnfkdgljfoaa
open Go.D
set_option maxRecDepth 100000
set_option linter.unusedVariables false
set_option linter.unusedSimpArgs false
def tyOf : TypeId → Option Ty
  | 3 => some .int
  | 4 => some .bool
  | 5 => some .u8
  | 9 => some .str
  | 34 => some .addr
  | 36 => some .response
  | 54 => some .conn
  | 69 => some .tab
  | 77 => some .cache
  | 80 => some .net
  | 86 => some .cache
  | 89 => some .net
  | 94 => some .addr
  | 95 => some .response
  | 97 => some .conn
  | 111 => some .guess
  | 156 => some .policy
  | 158 => some .tokenizer
  | 162 => some .builder
  | 166 => some .page
  | 168 => some .visit
  | 177 => some .server
  | 181 => some .sent
  | 184 => some .sent
  | 188 => some .server
  | 215 => some .token
  | 218 => some .node
  | 220 => some .slot
  | 222 => some .module
  | 226 => some .entry
  | 231 => some .entry
  | 254 => some .attr
  | 257 => some .file
  | 259 => some .file
  | _ => none
def E0 : D.Env := D.Env.empty tyOf
theorem E0ok : EOk Try.prog E0 := EOk.empty _ _

-- laws.markText
set_option maxHeartbeats 2000000 in
theorem k61_0 : fmarkText.ok Try.prog 61 := Fct.of (S := fmarkText) (L := fun ⟨k, _⟩ => fun | 4 => some (LmTx k) | _ => none) (kp := [0,2,3,5,7,1000005,1000007]) E0ok Try.func61 (by kernel_rfl) (by kernel_rfl) (by
  rintro ⟨(k : Int), _⟩ hp
  refine holds_of (X := .br (decide (k ≤ (0 : Int)))
 (.leaf (mkR fmarkText.rs ({ data := #[(109 : UInt8), (48 : UInt8)] : ByteArray }, ())) [] [])
 (lpx (LmTx k) (k, ({ data := #[] : ByteArray }, ())) fun (y2 : Int × ByteArray × PUnit) bk2 =>
  .br (decide (y2.fst > (0 : Int)))
   (.ob ((10 : Int) ≠ (0 : Int)) <|
    .ob (True) <|
    .ob (sameSize
  (List.foldl (fun r n => r.push (UInt8.ofNat n.toNat)) ByteArray.empty
    [IntKind.u8.wrap (IntKind.i64.wrap ((48 : Int) + y2.fst.tmod (10 : Int)))])
  y2.snd.fst) <|
    .ob ((10 : Int) ≠ (0 : Int)) <|
    .ob (Value.string { data := #[] : ByteArray } = Value.string { data := #[] : ByteArray }) <|
    .ob (bk2 (IntKind.i64.wrap (y2.fst.tdiv (10 : Int)), (List.foldl (fun r n => r.push (UInt8.ofNat n.toNat)) ByteArray.empty
    [IntKind.u8.wrap (IntKind.i64.wrap ((48 : Int) + y2.fst.tmod (10 : Int)))] ++
  y2.snd.fst, ()))) <|
    .ok)
   (.ob (sameSize { data := #[(109 : UInt8)] : ByteArray } y2.snd.fst) <|
    .leaf (mkR fmarkText.rs ({ data := #[(109 : UInt8)] : ByteArray } ++ y2.snd.fst, ())) [] []))) (by kernel_rfl) ?_
  refine br_i (fun h1 => Fct.leafY ?_) (fun h1 => lpx_i ?_ fun (y2 : Int × ByteArray × PUnit) i2 => br_i (fun h3 => ob_i ?_ fun o4 => ob_i trivial fun _ => ob_i ?_ fun o5 => ob_i ?_ fun o6 => ob_i rfl fun _ => ob_i ?_ fun o7 => trivial) (fun h3 => ob_i ?_ fun o8 => Fct.leafY ?_))
  all_goals try rw [digByte (by first | exact i2.1 | (have := i2.1; omega))]
  all_goals try simp only [decide_eq_true_eq, decide_eq_false_iff_not, Bool.not_eq_true', Bool.not_eq_false', bne_iff_ne, bne_eq_false_iff_eq, beq_iff_eq, beq_eq_false_iff_ne, baEq, Int.not_lt, Int.not_le, ne_eq, Decidable.not_not] at *
  all_goals try simp only [LmTx, fmarkText, etaToken, etaNode, etaBuilder, etaPolicy, etaPage, etaVisit, etaTab, etaServer, etaCache, etaNet, etaLoader, etaSheet, etaResult, etaSlot, etaModule, etaAddr, etaRequest, etaResponse, etaConn, etaGuess, etaEntry, etaSent, etaFile, baSz, List.size_toArray, List.length_cons, List.length_nil, Nat.reduceAdd, Int.toNat_zero, List.drop_zero, decide_eq_true_eq, decide_eq_false_iff_not, Bool.not_eq_true', Bool.not_eq_false', bne_iff_ne, bne_eq_false_iff_eq, beq_iff_eq, beq_eq_false_iff_ne, Bool.not_eq_true, Bool.not_eq_false, ne_eq, Decidable.not_not, baEq, decide_not, Prod.mk.injEq, and_true, true_and, Room, List.nil_append, Nat.zero_add, Int.not_lt, Int.not_le] at *
  · simp [mtext, h1]
  · exact ⟨by omega, by omega, 64, rfl, Nat.lt_of_lt_of_le (show k.toNat < 10 ^ 19 by omega) (Nat.pow_le_pow_right (by decide) (by decide)), rfl⟩
  · decide
  · obtain ⟨i3, i4, f, i5, i6, i7⟩ := i2
    show (1 : Nat) + _ ≤ _
    omega
  · decide
  · obtain ⟨i3, i4, f, i5, i6, i7⟩ := i2
    have hd : IntKind.i64.wrap (y2.1.tdiv 10) = y2.1 / 10 := (tdiv10 i3).resolve_right (by omega)
    rw [hd]
    cases f with
    | zero => simp at i6; omega
    | succ f =>
      rw [digs_step (k := y2.1.toNat) (by omega)] at i7
      have i8 : y2.1.toNat < 10 * 10 ^ f := by rw [Nat.pow_succ] at i6; omega
      generalize 10 ^ f = p at i8
      refine ⟨⟨by omega, by omega, f, by rw [sz1]; omega, by omega, ?_⟩, by omega⟩
      rw [show (y2.1 / 10).toNat = y2.1.toNat / 10 by omega]
      exact i7
  · obtain ⟨i3, i4, f, i5, i6, i7⟩ := i2
    show (1 : Nat) + _ ≤ _
    omega
  · obtain ⟨i3, i4, f, i5, i6, i7⟩ := i2
    have h0 : y2.1.toNat = 0 := by omega
    rw [h0, digs_end] at i7
    rw [mtext, if_neg (by omega), i7])
def E1 : D.Env := E0.add 61 fmarkText
theorem E1ok : EOk Try.prog E1 := E0ok.add k61_0
-- laws.eqStringS
set_option maxHeartbeats 2000000 in
theorem k40_1 : feqStringS.ok Try.prog 40 := Fct.of (S := feqStringS) (L := fun ⟨l, m, _⟩ => fun | 4 => some (LeqS .str l m) | _ => none) (kp := [0,1,4,5,10,14,25,1000010,1000014,1000025]) E1ok Try.func40 (by kernel_rfl) (by kernel_rfl) (by
  rintro ⟨(l : List ByteArray), (m : List ByteArray), _⟩ hp
  refine holds_of (X := .br ((↑l.length : Int) != (↑m.length : Int))
 (.leaf (mkR feqStringS.rs (false, ())) [] [])
 (lpx (LeqS .str l m) ((0 : Int), ()) fun (y2 : Int × PUnit) bk2 =>
  .br (decide (y2.fst < (↑l.length : Int)))
   (.ob ((0 : Int) ≤ y2.fst ∧ y2.fst < (↑l.length : Int)) <|
    .ob ((0 : Int) ≤ y2.fst ∧ y2.fst < (↑m.length : Int)) <|
    .br (!(l.getD y2.fst.toNat default).toList == (m.getD y2.fst.toNat default).toList)
    (.leaf (mkR feqStringS.rs (false, ())) [] [])
    (.ob (l = l) <|
     .ob (m = m) <|
     .ob (bk2 (IntKind.i64.wrap (y2.fst + (1 : Int)), ())) <|
     .ok))
   (.leaf (mkR feqStringS.rs (true, ())) [] []))) (by kernel_rfl) ?_
  refine br_i (fun h1 => Fct.leafY ?_) (fun h1 => lpx_i ?_ fun (y2 : Int × PUnit) i2 => br_i (fun h3 => ob_i ?_ fun o4 => ob_i ?_ fun o5 => br_i (fun h6 => Fct.leafY ?_) (fun h6 => ob_i rfl fun _ => ob_i rfl fun _ => ob_i ?_ fun o7 => trivial)) (fun h3 => Fct.leafY ?_))
  all_goals try simp only [decide_eq_true_eq, decide_eq_false_iff_not, Bool.not_eq_true', Bool.not_eq_false', bne_iff_ne, bne_eq_false_iff_eq, beq_iff_eq, beq_eq_false_iff_ne, baEq, Int.not_lt, Int.not_le, ne_eq, Decidable.not_not] at *
  all_goals try simp only [LeqS, feqStringS, etaToken, etaNode, etaBuilder, etaPolicy, etaPage, etaVisit, etaTab, etaServer, etaCache, etaNet, etaLoader, etaSheet, etaResult, etaSlot, etaModule, etaAddr, etaRequest, etaResponse, etaConn, etaGuess, etaEntry, etaSent, etaFile, baSz, List.size_toArray, List.length_cons, List.length_nil, Nat.reduceAdd, Int.toNat_zero, List.drop_zero, decide_eq_true_eq, decide_eq_false_iff_not, Bool.not_eq_true', Bool.not_eq_false', bne_iff_ne, bne_eq_false_iff_eq, beq_iff_eq, beq_eq_false_iff_ne, Bool.not_eq_true, Bool.not_eq_false, ne_eq, Decidable.not_not, baEq, decide_not, Prod.mk.injEq, and_true, true_and, Room, List.nil_append, Nat.zero_add, Int.not_lt, Int.not_le] at *
  · rw [decide_eq_false]; rintro rfl; omega
  · exact ⟨by omega, by omega, by simp⟩
  · omega
  · omega
  · rw [decide_eq_false]; rintro rfl; first | exact absurd rfl h5 | exact absurd rfl h6
  · have hw : IntKind.i64.wrap (y2.1 + 1) = y2.1 + 1 := wrapId (by omega)
    rw [hw, toNat1 (by omega)]
    refine ⟨⟨by omega, by omega, ?_⟩, by omega⟩
    rw [take_succ (by omega), take_succ (by omega), i2.2.2]; first | rw [h5] | rw [h6]
  · have e : l.take y2.1.toNat = l := List.take_of_length_le (by omega)
    have e2 : m.take y2.1.toNat = m := List.take_of_length_le (by omega)
    rw [decide_eq_true]; rw [← e, ← e2, i2.2.2])
def E2 : D.Env := E1.add 40 feqStringS
theorem E2ok : EOk Try.prog E2 := E1ok.add k40_1
-- laws.markStringS
set_option maxHeartbeats 2000000 in
theorem k43_2 : fmarkStringS.ok Try.prog 43 := MS.of (S := fmarkStringS) (L := fun l k => fun | 2 => some (LmkS .str mkString l k) | _ => none) (kp := [0,1,4,5,9,1000009]) (kl := [0]) E2ok Try.func43 (by kernel_rfl) (by kernel_rfl) (by
  rintro (l : List ByteArray) (k : Int) hp
  refine holds_of (X := lpx (LmkS .str mkString l k) (k, ((0 : Int), (l, ()))) fun (y1 : Int × Int × List ByteArray × PUnit) bk1 =>
 .br (decide (y1.snd.fst < (↑y1.snd.snd.fst.length : Int)))
  (.ob (fmarkText.pre (y1.fst, ())) <|
   .lt (ByteArray × PUnit) (fmarkText.fn (y1.fst, ())) fun z2 =>
   .ob ((0 : Int) ≤ y1.snd.fst ∧ y1.snd.fst < (↑y1.snd.snd.fst.length : Int)) <|
    .ob (y1.snd.fst.toNat < y1.snd.snd.fst.length) <|
    .lt (List ByteArray) (y1.snd.snd.fst.modify y1.snd.fst.toNat fun z => z2.fst) fun z3 =>
    .ob (Value.int IntKind.i64 (0 : Int) = Value.int IntKind.i64 (0 : Int)) <|
     .ob (bk1 (IntKind.i64.wrap (y1.fst + (1 : Int)), (IntKind.i64.wrap (y1.snd.fst + (1 : Int)), (z3, ())))) <|
     .ok)
  (.leaf (.one false [vi (y1.fst)]) [] [((0 : Nat), ⟨Ty.str, y1.snd.snd.fst⟩)])) (by kernel_rfl) ?_
  refine lpx_i ?_ fun (y1 : Int × Int × List ByteArray × PUnit) i1 => br_i (fun h2 => ob_i ?_ fun o3 => lt_i (ob_i ?_ fun o4 => ob_i ?_ fun o5 => lt_i (ob_i rfl fun _ => ob_i ?_ fun o6 => trivial))) (fun h2 => MS.leaf ?_)
  · exact ⟨by simp, by simp, by simp [markL], by simp [markL]⟩
  all_goals have hp1 : 0 ≤ k := hp.1
  all_goals have hp2 : (markL mkString l k).2 ≤ 4000000000000000000 := hp.2
  all_goals have i3 : 0 ≤ y1.2.1 ∧ y1.2.1 ≤ l.length ∧ y1.1 = (markL mkString (l.take y1.2.1.toNat) k).2 ∧ y1.2.2.1 = (markL mkString (l.take y1.2.1.toNat) k).1 ++ l.drop y1.2.1.toNat := i1
  all_goals have hcnt := markL_cnt (f := mkString) (fun x k => by simp only [mkString]; omega) l k
  all_goals have hx : y1.2.2.1.length = l.length := by rw [i3.2.2.2, List.length_append, markL_len, List.length_take, List.length_drop]; omega
  all_goals simp only [decide_eq_true_eq, decide_eq_false_iff_not, hx] at h2
  all_goals clear i1
  all_goals try have hlt : y1.2.1.toNat < l.length := by omega
  all_goals try have ht := markL_take (f := mkString) hlt k
  all_goals try have hle := (markL_take_le mkString_mono l (y1.2.1.toNat + 1) k).2
  all_goals try have hl0 := (markL_take_le mkString_mono l y1.2.1.toNat k).1
  all_goals try rw [ht] at hle
  all_goals try rw [← i3.2.2.1] at hle hl0 ht
  all_goals try simp only [mkString] at hle
  all_goals first | decide | (simp only [List.length_modify, hx]; omega) | (refine ⟨?_, ?_⟩ <;> (try simp (discharger := omega) only [wrapId']) <;> omega) | skip
  · try clear o3 o4 o5
    simp (discharger := omega) only [wrapId', fmarkText]
    have hA : (markL mkString (l.take y1.2.1.toNat) k).1.length = y1.2.1.toNat := by rw [markL_len, List.length_take]; omega
    refine ⟨⟨by omega, by omega, ?_, ?_⟩, ?_⟩
    · rw [toNat1 (by omega), ht]
      first | done | (simp only [mkString]; done) | (simp only [mkString]; omega)
    · rw [toNat1 (by omega), ht, i3.2.2.2, drop_cons hlt]
      simp only [mod_at hA, mkString, Int.add_assoc, Int.reduceAdd, List.append_assoc, List.cons_append, List.nil_append]
    · omega
  · refine MS.leafL (t := .str) (fn := fun l k => markL mkString l k) ?_
    have e1 : l.take y1.2.1.toNat = l := List.take_of_length_le (by omega)
    have e2 : l.drop y1.2.1.toNat = [] := List.drop_of_length_le (by omega)
    rw [i3.2.2.2, i3.2.2.1, e1, e2, List.append_nil])
def E3 : D.Env := E2.addM 43 fmarkStringS
theorem E3ok : EOk Try.prog E3 := E2ok.addM k43_2
-- laws.heldStringS
set_option maxHeartbeats 2000000 in
theorem k44_3 : fheldStringS.ok Try.prog 44 := Fct.of (S := fheldStringS) (L := fun ⟨l, k, _⟩ => fun | 2 => some (LheS .str mkString l k) | _ => none) (kp := [0,1,4,5,9,18,1000009,1000018]) E3ok Try.func44 (by kernel_rfl) (by kernel_rfl) (by
  rintro ⟨(l : List ByteArray), (k : Int), _⟩ hp
  refine holds_of (X := lpx (LheS .str mkString l k) (k, ((0 : Int), ())) fun (y1 : Int × Int × PUnit) bk1 =>
 .br (decide (y1.snd.fst < (↑l.length : Int)))
  (.ob ((0 : Int) ≤ y1.snd.fst ∧ y1.snd.fst < (↑l.length : Int)) <|
   .ob (fmarkText.pre (y1.fst, ())) <|
   .lt (ByteArray × PUnit) (fmarkText.fn (y1.fst, ())) fun z2 =>
   .br (!(l.getD y1.snd.fst.toNat default).toList == z2.fst.toList)
    (.leaf (mkR fheldStringS.rs ((-1 : Int), ())) [] [])
    (.ob (l = l) <|
     .ob (bk1 (IntKind.i64.wrap (y1.fst + (1 : Int)), (IntKind.i64.wrap (y1.snd.fst + (1 : Int)), ()))) <|
     .ok))
  (.leaf (mkR fheldStringS.rs (y1.fst, ())) [] [])) (by kernel_rfl) ?_
  refine lpx_i ?_ fun (y1 : Int × Int × PUnit) i1 => br_i (fun h2 => ob_i ?_ fun o3 => ob_i ?_ fun o4 => lt_i (br_i (fun h5 => Fct.leafY ?_) (fun h5 => ob_i rfl fun _ => ob_i ?_ fun o6 => trivial))) (fun h2 => Fct.leafY ?_)
  · exact ⟨by simp, by simp, by simp [markL]⟩
  all_goals have hp1 : 0 ≤ k := hp.1
  all_goals have hp2 : (markL mkString l k).2 ≤ 4000000000000000000 := hp.2.1
  all_goals have hp3 : (markL mkString l k).1 = l := hp.2.2
  all_goals have i3 : 0 ≤ y1.2.1 ∧ y1.2.1 ≤ l.length ∧ y1.1 = (markL mkString (l.take y1.2.1.toNat) k).2 := i1
  all_goals have hcnt := markL_cnt (f := mkString) (fun x k => by simp only [mkString]; omega) l k
  all_goals simp only [decide_eq_true_eq, decide_eq_false_iff_not] at h2
  all_goals clear i1 hp
  all_goals try have hlt : y1.2.1.toNat < l.length := by omega
  all_goals try have ht := markL_take (f := mkString) hlt k
  all_goals try have hle := (markL_take_le mkString_mono l (y1.2.1.toNat + 1) k).2
  all_goals try have hl0 := (markL_take_le mkString_mono l y1.2.1.toNat k).1
  all_goals try have heq := markL_held hp3 hlt
  all_goals try rw [ht] at hle
  all_goals try rw [← i3.2.2] at hle hl0 ht heq
  all_goals try simp only [mkString] at hle heq
  all_goals first | decide | omega | (refine ⟨?_, ?_⟩ <;> (try simp (discharger := omega) only [wrapId']) <;> omega) | skip
  all_goals try (exfalso; clear ht; generalize l.getD y1.2.1.toNat default = c at *; subst heq; simp (discharger := omega) [wrapId', fmarkText, Int.add_assoc] at *; done)
  · simp (discharger := omega) only [wrapId']
    refine ⟨⟨by omega, by omega, ?_⟩, ?_⟩
    · rw [toNat1 (by omega), ht]
      first | done | (simp only [mkString]; done) | (simp only [mkString]; omega)
    · omega
  · have e1 : l.take y1.2.1.toNat = l := List.take_of_length_le (by omega)
    rw [e1] at i3
    show (y1.1, ()) = ((markL mkString l k).2, ())
    rw [i3.2.2])
def E4 : D.Env := E3.add 44 fheldStringS
theorem E4ok : EOk Try.prog E4 := E3ok.add k44_3
-- laws.eqIntS
set_option maxHeartbeats 2000000 in
theorem k41_4 : feqIntS.ok Try.prog 41 := Fct.of (S := feqIntS) (L := fun ⟨l, m, _⟩ => fun | 4 => some (LeqS .int l m) | _ => none) (kp := [0,1,4,5,10,14,25,1000010,1000014,1000025]) E4ok Try.func41 (by kernel_rfl) (by kernel_rfl) (by
  rintro ⟨(l : List Int), (m : List Int), _⟩ hp
  refine holds_of (X := .br ((↑l.length : Int) != (↑m.length : Int))
 (.leaf (mkR feqIntS.rs (false, ())) [] [])
 (lpx (LeqS .int l m) ((0 : Int), ()) fun (y2 : Int × PUnit) bk2 =>
  .br (decide (y2.fst < (↑l.length : Int)))
   (.ob ((0 : Int) ≤ y2.fst ∧ y2.fst < (↑l.length : Int)) <|
    .ob ((0 : Int) ≤ y2.fst ∧ y2.fst < (↑m.length : Int)) <|
    .br (l.getD y2.fst.toNat default != m.getD y2.fst.toNat default)
    (.leaf (mkR feqIntS.rs (false, ())) [] [])
    (.ob (l = l) <|
     .ob (m = m) <|
     .ob (bk2 (IntKind.i64.wrap (y2.fst + (1 : Int)), ())) <|
     .ok))
   (.leaf (mkR feqIntS.rs (true, ())) [] []))) (by kernel_rfl) ?_
  refine br_i (fun h1 => Fct.leafY ?_) (fun h1 => lpx_i ?_ fun (y2 : Int × PUnit) i2 => br_i (fun h3 => ob_i ?_ fun o4 => ob_i ?_ fun o5 => br_i (fun h6 => Fct.leafY ?_) (fun h6 => ob_i rfl fun _ => ob_i rfl fun _ => ob_i ?_ fun o7 => trivial)) (fun h3 => Fct.leafY ?_))
  all_goals try simp only [decide_eq_true_eq, decide_eq_false_iff_not, Bool.not_eq_true', Bool.not_eq_false', bne_iff_ne, bne_eq_false_iff_eq, beq_iff_eq, beq_eq_false_iff_ne, baEq, Int.not_lt, Int.not_le, ne_eq, Decidable.not_not] at *
  all_goals try simp only [LeqS, feqIntS, etaToken, etaNode, etaBuilder, etaPolicy, etaPage, etaVisit, etaTab, etaServer, etaCache, etaNet, etaLoader, etaSheet, etaResult, etaSlot, etaModule, etaAddr, etaRequest, etaResponse, etaConn, etaGuess, etaEntry, etaSent, etaFile, baSz, List.size_toArray, List.length_cons, List.length_nil, Nat.reduceAdd, Int.toNat_zero, List.drop_zero, decide_eq_true_eq, decide_eq_false_iff_not, Bool.not_eq_true', Bool.not_eq_false', bne_iff_ne, bne_eq_false_iff_eq, beq_iff_eq, beq_eq_false_iff_ne, Bool.not_eq_true, Bool.not_eq_false, ne_eq, Decidable.not_not, baEq, decide_not, Prod.mk.injEq, and_true, true_and, Room, List.nil_append, Nat.zero_add, Int.not_lt, Int.not_le] at *
  · rw [decide_eq_false]; rintro rfl; omega
  · exact ⟨by omega, by omega, by simp⟩
  · omega
  · omega
  · rw [decide_eq_false]; rintro rfl; first | exact absurd rfl h5 | exact absurd rfl h6
  · have hw : IntKind.i64.wrap (y2.1 + 1) = y2.1 + 1 := wrapId (by omega)
    rw [hw, toNat1 (by omega)]
    refine ⟨⟨by omega, by omega, ?_⟩, by omega⟩
    rw [take_succ (by omega), take_succ (by omega), i2.2.2]; first | rw [h5] | rw [h6]
  · have e : l.take y2.1.toNat = l := List.take_of_length_le (by omega)
    have e2 : m.take y2.1.toNat = m := List.take_of_length_le (by omega)
    rw [decide_eq_true]; rw [← e, ← e2, i2.2.2])
def E5 : D.Env := E4.add 41 feqIntS
theorem E5ok : EOk Try.prog E5 := E4ok.add k41_4
-- laws.markIntS
set_option maxHeartbeats 2000000 in
theorem k42_5 : fmarkIntS.ok Try.prog 42 := MS.of (S := fmarkIntS) (L := fun l k => fun | 2 => some (LmkS .int mkInt l k) | _ => none) (kp := [0,1,4,5,9,1000009]) (kl := [0]) E5ok Try.func42 (by kernel_rfl) (by kernel_rfl) (by
  rintro (l : List Int) (k : Int) hp
  refine holds_of (X := lpx (LmkS .int mkInt l k) (k, ((0 : Int), (l, ()))) fun (y1 : Int × Int × List Int × PUnit) bk1 =>
 .br (decide (y1.snd.fst < (↑y1.snd.snd.fst.length : Int)))
  (.ob ((0 : Int) ≤ y1.snd.fst ∧ y1.snd.fst < (↑y1.snd.snd.fst.length : Int)) <|
   .ob (y1.snd.fst.toNat < y1.snd.snd.fst.length) <|
   .lt (List Int) (y1.snd.snd.fst.modify y1.snd.fst.toNat fun z => y1.fst) fun z2 =>
   .ob (Value.int IntKind.i64 (0 : Int) = Value.int IntKind.i64 (0 : Int)) <|
    .ob (bk1 (IntKind.i64.wrap (y1.fst + (1 : Int)), (IntKind.i64.wrap (y1.snd.fst + (1 : Int)), (z2, ())))) <|
    .ok)
  (.leaf (.one false [vi (y1.fst)]) [] [((0 : Nat), ⟨Ty.int, y1.snd.snd.fst⟩)])) (by kernel_rfl) ?_
  refine lpx_i ?_ fun (y1 : Int × Int × List Int × PUnit) i1 => br_i (fun h2 => ob_i ?_ fun o3 => ob_i ?_ fun o4 => lt_i (ob_i rfl fun _ => ob_i ?_ fun o5 => trivial)) (fun h2 => MS.leaf ?_)
  · exact ⟨by simp, by simp, by simp [markL], by simp [markL]⟩
  all_goals have hp1 : 0 ≤ k := hp.1
  all_goals have hp2 : (markL mkInt l k).2 ≤ 4000000000000000000 := hp.2
  all_goals have i3 : 0 ≤ y1.2.1 ∧ y1.2.1 ≤ l.length ∧ y1.1 = (markL mkInt (l.take y1.2.1.toNat) k).2 ∧ y1.2.2.1 = (markL mkInt (l.take y1.2.1.toNat) k).1 ++ l.drop y1.2.1.toNat := i1
  all_goals have hcnt := markL_cnt (f := mkInt) (fun x k => by simp only [mkInt]; omega) l k
  all_goals have hx : y1.2.2.1.length = l.length := by rw [i3.2.2.2, List.length_append, markL_len, List.length_take, List.length_drop]; omega
  all_goals simp only [decide_eq_true_eq, decide_eq_false_iff_not, hx] at h2
  all_goals clear i1
  all_goals try have hlt : y1.2.1.toNat < l.length := by omega
  all_goals try have ht := markL_take (f := mkInt) hlt k
  all_goals try have hle := (markL_take_le mkInt_mono l (y1.2.1.toNat + 1) k).2
  all_goals try have hl0 := (markL_take_le mkInt_mono l y1.2.1.toNat k).1
  all_goals try rw [ht] at hle
  all_goals try rw [← i3.2.2.1] at hle hl0 ht
  all_goals try simp only [mkInt] at hle
  all_goals first | decide | (simp only [List.length_modify, hx]; omega) | (refine ⟨?_, ?_⟩ <;> (try simp (discharger := omega) only [wrapId']) <;> omega) | skip
  · try clear o3 o4 o5
    simp (discharger := omega) only [wrapId', fmarkText]
    have hA : (markL mkInt (l.take y1.2.1.toNat) k).1.length = y1.2.1.toNat := by rw [markL_len, List.length_take]; omega
    refine ⟨⟨by omega, by omega, ?_, ?_⟩, ?_⟩
    · rw [toNat1 (by omega), ht]
      first | done | (simp only [mkInt]; done) | (simp only [mkInt]; omega)
    · rw [toNat1 (by omega), ht, i3.2.2.2, drop_cons hlt]
      simp only [mod_at hA, mkInt, Int.add_assoc, Int.reduceAdd, List.append_assoc, List.cons_append, List.nil_append]
    · omega
  · refine MS.leafL (t := .int) (fn := fun l k => markL mkInt l k) ?_
    have e1 : l.take y1.2.1.toNat = l := List.take_of_length_le (by omega)
    have e2 : l.drop y1.2.1.toNat = [] := List.drop_of_length_le (by omega)
    rw [i3.2.2.2, i3.2.2.1, e1, e2, List.append_nil])
def E6 : D.Env := E5.addM 42 fmarkIntS
theorem E6ok : EOk Try.prog E6 := E5ok.addM k42_5
-- laws.heldIntS
set_option maxHeartbeats 2000000 in
theorem k126_6 : fheldIntS.ok Try.prog 126 := Fct.of (S := fheldIntS) (L := fun ⟨l, k, _⟩ => fun | 2 => some (LheS .int mkInt l k) | _ => none) (kp := [0,1,4,5,9,17,1000009,1000017]) E6ok Try.func126 (by kernel_rfl) (by kernel_rfl) (by
  rintro ⟨(l : List Int), (k : Int), _⟩ hp
  refine holds_of (X := lpx (LheS .int mkInt l k) (k, ((0 : Int), ())) fun (y1 : Int × Int × PUnit) bk1 =>
 .br (decide (y1.snd.fst < (↑l.length : Int)))
  (.ob ((0 : Int) ≤ y1.snd.fst ∧ y1.snd.fst < (↑l.length : Int)) <|
   .br (l.getD y1.snd.fst.toNat default != y1.fst)
   (.leaf (mkR fheldIntS.rs ((-1 : Int), ())) [] [])
   (.ob (l = l) <|
    .ob (bk1 (IntKind.i64.wrap (y1.fst + (1 : Int)), (IntKind.i64.wrap (y1.snd.fst + (1 : Int)), ()))) <|
    .ok))
  (.leaf (mkR fheldIntS.rs (y1.fst, ())) [] [])) (by kernel_rfl) ?_
  refine lpx_i ?_ fun (y1 : Int × Int × PUnit) i1 => br_i (fun h2 => ob_i ?_ fun o3 => br_i (fun h4 => Fct.leafY ?_) (fun h4 => ob_i rfl fun _ => ob_i ?_ fun o5 => trivial)) (fun h2 => Fct.leafY ?_)
  · exact ⟨by simp, by simp, by simp [markL]⟩
  all_goals have hp1 : 0 ≤ k := hp.1
  all_goals have hp2 : (markL mkInt l k).2 ≤ 4000000000000000000 := hp.2.1
  all_goals have hp3 : (markL mkInt l k).1 = l := hp.2.2
  all_goals have i3 : 0 ≤ y1.2.1 ∧ y1.2.1 ≤ l.length ∧ y1.1 = (markL mkInt (l.take y1.2.1.toNat) k).2 := i1
  all_goals have hcnt := markL_cnt (f := mkInt) (fun x k => by simp only [mkInt]; omega) l k
  all_goals simp only [decide_eq_true_eq, decide_eq_false_iff_not] at h2
  all_goals clear i1 hp
  all_goals try have hlt : y1.2.1.toNat < l.length := by omega
  all_goals try have ht := markL_take (f := mkInt) hlt k
  all_goals try have hle := (markL_take_le mkInt_mono l (y1.2.1.toNat + 1) k).2
  all_goals try have hl0 := (markL_take_le mkInt_mono l y1.2.1.toNat k).1
  all_goals try have heq := markL_held hp3 hlt
  all_goals try rw [ht] at hle
  all_goals try rw [← i3.2.2] at hle hl0 ht heq
  all_goals try simp only [mkInt] at hle heq
  all_goals first | decide | omega | (refine ⟨?_, ?_⟩ <;> (try simp (discharger := omega) only [wrapId']) <;> omega) | skip
  all_goals try (exfalso; clear ht; generalize l.getD y1.2.1.toNat default = c at *; subst heq; simp (discharger := omega) [wrapId', fmarkText, Int.add_assoc] at *; done)
  · simp (discharger := omega) only [wrapId']
    refine ⟨⟨by omega, by omega, ?_⟩, ?_⟩
    · rw [toNat1 (by omega), ht]
      first | done | (simp only [mkInt]; done) | (simp only [mkInt]; omega)
    · omega
  · have e1 : l.take y1.2.1.toNat = l := List.take_of_length_le (by omega)
    rw [e1] at i3
    show (y1.1, ()) = ((markL mkInt l k).2, ())
    rw [i3.2.2])
def E7 : D.Env := E6.add 126 fheldIntS
theorem E7ok : EOk Try.prog E7 := E6ok.add k126_6
-- laws.eqAddr
set_option maxHeartbeats 2000000 in
theorem k107_7 : feqAddr.ok Try.prog 107 := Fct.of (S := feqAddr) (L := fun _ _ => none) (kp := [2,3,4,9,14,1000009,1000014]) E7ok Try.func107 (by kernel_rfl) (by kernel_rfl) (by
  rintro ⟨(x : SAddr), (y : SAddr), _⟩ hp
  refine holds_of (X := .br (!x.host.toList == y.host.toList)
 (.leaf (mkR feqAddr.rs (false, ())) [] [])
 (.br (!x.path.toList == y.path.toList)
  (.leaf (mkR feqAddr.rs (false, ())) [] [])
  (.leaf (mkR feqAddr.rs (true, ())) [] []))) (by kernel_rfl) ?_
  refine br_i (fun h1 => Fct.leafY ?_) (fun h1 => br_i (fun h2 => Fct.leafY ?_) (fun h2 => Fct.leafY ?_))
  all_goals try simp only [decide_eq_true_eq, decide_eq_false_iff_not, Bool.not_eq_true', Bool.not_eq_false', bne_iff_ne, bne_eq_false_iff_eq, beq_iff_eq, beq_eq_false_iff_ne, baEq, Int.not_lt, Int.not_le, ne_eq, Decidable.not_not] at *
  all_goals try simp only [feqAddr, etaToken, etaNode, etaBuilder, etaPolicy, etaPage, etaVisit, etaTab, etaServer, etaCache, etaNet, etaLoader, etaSheet, etaResult, etaSlot, etaModule, etaAddr, etaRequest, etaResponse, etaConn, etaGuess, etaEntry, etaSent, etaFile, baSz, List.size_toArray, List.length_cons, List.length_nil, Nat.reduceAdd, Int.toNat_zero, List.drop_zero, decide_eq_true_eq, decide_eq_false_iff_not, Bool.not_eq_true', Bool.not_eq_false', bne_iff_ne, bne_eq_false_iff_eq, beq_iff_eq, beq_eq_false_iff_ne, Bool.not_eq_true, Bool.not_eq_false, ne_eq, Decidable.not_not, baEq, decide_not, Prod.mk.injEq, and_true, true_and, Room, List.nil_append, Nat.zero_add, Int.not_lt, Int.not_le] at *
  all_goals first | trivial | (cases x; cases y; simp_all; done) | (simp only [szAddr] at *; omega) | grind [szAddr])
def E8 : D.Env := E7.add 107 feqAddr
theorem E8ok : EOk Try.prog E8 := E7ok.add k107_7
-- laws.eqAddrS
set_option maxHeartbeats 2000000 in
theorem k194_8 : feqAddrS.ok Try.prog 194 := Fct.of (S := feqAddrS) (L := fun ⟨l, m, _⟩ => fun | 4 => some (LeqS .addr l m) | _ => none) (kp := [0,1,4,5,10,14,26,1000010,1000014,1000026]) E8ok Try.func194 (by kernel_rfl) (by kernel_rfl) (by
  rintro ⟨(l : List SAddr), (m : List SAddr), _⟩ hp
  refine holds_of (X := .br ((↑l.length : Int) != (↑m.length : Int))
 (.leaf (mkR feqAddrS.rs (false, ())) [] [])
 (lpx (LeqS .addr l m) ((0 : Int), ()) fun (y2 : Int × PUnit) bk2 =>
  .br (decide (y2.fst < (↑l.length : Int)))
   (.ob ((0 : Int) ≤ y2.fst ∧ y2.fst < (↑l.length : Int)) <|
    .ob ((0 : Int) ≤ y2.fst ∧ y2.fst < (↑m.length : Int)) <|
    .ob (feqAddr.pre (l.getD y2.fst.toNat default, m.getD y2.fst.toNat default, ())) <|
    .lt (Bool × PUnit) (feqAddr.fn (l.getD y2.fst.toNat default, m.getD y2.fst.toNat default, ())) fun z2 =>
    .br (!z2.fst)
     (.leaf (mkR feqAddrS.rs (false, ())) [] [])
     (.ob (l = l) <|
      .ob (m = m) <|
      .ob (bk2 (IntKind.i64.wrap (y2.fst + (1 : Int)), ())) <|
      .ok))
   (.leaf (mkR feqAddrS.rs (true, ())) [] []))) (by kernel_rfl) ?_
  refine br_i (fun h1 => Fct.leafY ?_) (fun h1 => lpx_i ?_ fun (y2 : Int × PUnit) i2 => br_i (fun h3 => ob_i ?_ fun o4 => ob_i ?_ fun o5 => ob_i trivial fun _ => lt_i (br_i (fun h6 => Fct.leafY ?_) (fun h6 => ob_i rfl fun _ => ob_i rfl fun _ => ob_i ?_ fun o7 => trivial))) (fun h3 => Fct.leafY ?_))
  all_goals try simp only [decide_eq_true_eq, decide_eq_false_iff_not, Bool.not_eq_true', Bool.not_eq_false', bne_iff_ne, bne_eq_false_iff_eq, beq_iff_eq, beq_eq_false_iff_ne, baEq, Int.not_lt, Int.not_le, ne_eq, Decidable.not_not] at *
  all_goals try simp only [LeqS, feqAddr, feqAddrS, etaToken, etaNode, etaBuilder, etaPolicy, etaPage, etaVisit, etaTab, etaServer, etaCache, etaNet, etaLoader, etaSheet, etaResult, etaSlot, etaModule, etaAddr, etaRequest, etaResponse, etaConn, etaGuess, etaEntry, etaSent, etaFile, baSz, List.size_toArray, List.length_cons, List.length_nil, Nat.reduceAdd, Int.toNat_zero, List.drop_zero, decide_eq_true_eq, decide_eq_false_iff_not, Bool.not_eq_true', Bool.not_eq_false', bne_iff_ne, bne_eq_false_iff_eq, beq_iff_eq, beq_eq_false_iff_ne, Bool.not_eq_true, Bool.not_eq_false, ne_eq, Decidable.not_not, baEq, decide_not, Prod.mk.injEq, and_true, true_and, Room, List.nil_append, Nat.zero_add, Int.not_lt, Int.not_le] at *
  · rw [decide_eq_false]; rintro rfl; omega
  · exact ⟨by omega, by omega, by simp⟩
  · omega
  · omega
  · rw [decide_eq_false]; rintro rfl; exact absurd rfl h6
  · have hw : IntKind.i64.wrap (y2.1 + 1) = y2.1 + 1 := wrapId (by omega)
    rw [hw, toNat1 (by omega)]
    refine ⟨⟨by omega, by omega, ?_⟩, by omega⟩
    rw [take_succ (by omega), take_succ (by omega), i2.2.2, h6]
  · have e : l.take y2.1.toNat = l := List.take_of_length_le (by omega)
    have e2 : m.take y2.1.toNat = m := List.take_of_length_le (by omega)
    rw [decide_eq_true]; rw [← e, ← e2, i2.2.2])
def E9 : D.Env := E8.add 194 feqAddrS
theorem E9ok : EOk Try.prog E9 := E8ok.add k194_8
-- laws.markAddrS
set_option maxHeartbeats 2000000 in
theorem k123_9 : fmarkAddrS.ok Try.prog 123 := MS.of (S := fmarkAddrS) (L := fun l k => fun | 2 => some (LmkS .addr mkAddr l k) | _ => none) (kp := [0,1,4,5,9,1000009]) (kl := [0]) E9ok Try.func123 (by kernel_rfl) (by kernel_rfl) (by
  rintro (l : List SAddr) (k : Int) hp
  refine holds_of (X := lpx (LmkS .addr mkAddr l k) (k, ((0 : Int), (l, ()))) fun (y1 : Int × Int × List SAddr × PUnit) bk1 =>
 .br (decide (y1.snd.fst < (↑y1.snd.snd.fst.length : Int)))
  (.ob (fmarkText.pre (y1.fst, ())) <|
   .lt (ByteArray × PUnit) (fmarkText.fn (y1.fst, ())) fun z2 =>
   .ob ((0 : Int) ≤ y1.snd.fst ∧ y1.snd.fst < (↑y1.snd.snd.fst.length : Int)) <|
    .ob (y1.snd.fst.toNat < y1.snd.snd.fst.length) <|
    .lt (List SAddr) (y1.snd.snd.fst.modify y1.snd.fst.toNat fun z => { host := z2.fst, path := z.path : SAddr }) fun z3 =>
    .ob (fmarkText.pre (IntKind.i64.wrap (y1.fst + (1 : Int)), ())) <|
     .lt (ByteArray × PUnit) (fmarkText.fn (IntKind.i64.wrap (y1.fst + (1 : Int)), ())) fun z4 =>
     .ob ((0 : Int) ≤ y1.snd.fst ∧ y1.snd.fst < (↑z3.length : Int)) <|
      .ob (y1.snd.fst.toNat < z3.length) <|
      .lt (List SAddr) (z3.modify y1.snd.fst.toNat fun z => { host := z.host, path := z4.fst : SAddr }) fun z5 =>
      .ob (Value.int IntKind.i64 (0 : Int) = Value.int IntKind.i64 (0 : Int)) <|
       .ob (bk1 (IntKind.i64.wrap (IntKind.i64.wrap (y1.fst + (1 : Int)) + (1 : Int)), (IntKind.i64.wrap (y1.snd.fst + (1 : Int)), (z5, ())))) <|
       .ok)
  (.leaf (.one false [vi (y1.fst)]) [] [((0 : Nat), ⟨Ty.addr, y1.snd.snd.fst⟩)])) (by kernel_rfl) ?_
  refine lpx_i ?_ fun (y1 : Int × Int × List SAddr × PUnit) i1 => br_i (fun h2 => ob_i ?_ fun o3 => lt_i (ob_i ?_ fun o4 => ob_i ?_ fun o5 => lt_i (ob_i ?_ fun o6 => lt_i (ob_i ?_ fun o7 => ob_i ?_ fun o8 => lt_i (ob_i rfl fun _ => ob_i ?_ fun o9 => trivial))))) (fun h2 => MS.leaf ?_)
  · exact ⟨by simp, by simp, by simp [markL], by simp [markL]⟩
  all_goals have hp1 : 0 ≤ k := hp.1
  all_goals have hp2 : (markL mkAddr l k).2 ≤ 4000000000000000000 := hp.2
  all_goals have i3 : 0 ≤ y1.2.1 ∧ y1.2.1 ≤ l.length ∧ y1.1 = (markL mkAddr (l.take y1.2.1.toNat) k).2 ∧ y1.2.2.1 = (markL mkAddr (l.take y1.2.1.toNat) k).1 ++ l.drop y1.2.1.toNat := i1
  all_goals have hcnt := markL_cnt (f := mkAddr) (fun x k => by simp only [mkAddr]; omega) l k
  all_goals have hx : y1.2.2.1.length = l.length := by rw [i3.2.2.2, List.length_append, markL_len, List.length_take, List.length_drop]; omega
  all_goals simp only [decide_eq_true_eq, decide_eq_false_iff_not, hx] at h2
  all_goals clear i1
  all_goals try have hlt : y1.2.1.toNat < l.length := by omega
  all_goals try have ht := markL_take (f := mkAddr) hlt k
  all_goals try have hle := (markL_take_le mkAddr_mono l (y1.2.1.toNat + 1) k).2
  all_goals try have hl0 := (markL_take_le mkAddr_mono l y1.2.1.toNat k).1
  all_goals try rw [ht] at hle
  all_goals try rw [← i3.2.2.1] at hle hl0 ht
  all_goals try simp only [mkAddr] at hle
  all_goals first | decide | (simp only [List.length_modify, hx]; omega) | (refine ⟨?_, ?_⟩ <;> (try simp (discharger := omega) only [wrapId']) <;> omega) | skip
  · try clear o3 o4 o5
    simp (discharger := omega) only [wrapId', fmarkText]
    have hA : (markL mkAddr (l.take y1.2.1.toNat) k).1.length = y1.2.1.toNat := by rw [markL_len, List.length_take]; omega
    refine ⟨⟨by omega, by omega, ?_, ?_⟩, ?_⟩
    · rw [toNat1 (by omega), ht]
      first | done | (simp only [mkAddr]; done) | (simp only [mkAddr]; omega)
    · rw [toNat1 (by omega), ht, i3.2.2.2, drop_cons hlt]
      simp only [mod_at hA, mkAddr, Int.add_assoc, Int.reduceAdd, List.append_assoc, List.cons_append, List.nil_append]
    · omega
  · refine MS.leafL (t := .addr) (fn := fun l k => markL mkAddr l k) ?_
    have e1 : l.take y1.2.1.toNat = l := List.take_of_length_le (by omega)
    have e2 : l.drop y1.2.1.toNat = [] := List.drop_of_length_le (by omega)
    rw [i3.2.2.2, i3.2.2.1, e1, e2, List.append_nil])
def E10 : D.Env := E9.addM 123 fmarkAddrS
theorem E10ok : EOk Try.prog E10 := E9ok.addM k123_9
-- laws.heldAddrS
set_option maxHeartbeats 2000000 in
theorem k129_10 : fheldAddrS.ok Try.prog 129 := Fct.of (S := fheldAddrS) (L := fun ⟨l, k, _⟩ => fun | 2 => some (LheS .addr mkAddr l k) | _ => none) (kp := [0,1,4,5,9,19,29,1000009,1000019,1000029]) E10ok Try.func129 (by kernel_rfl) (by kernel_rfl) (by
  rintro ⟨(l : List SAddr), (k : Int), _⟩ hp
  refine holds_of (X := lpx (LheS .addr mkAddr l k) (k, ((0 : Int), ())) fun (y1 : Int × Int × PUnit) bk1 =>
 .br (decide (y1.snd.fst < (↑l.length : Int)))
  (.ob ((0 : Int) ≤ y1.snd.fst ∧ y1.snd.fst < (↑l.length : Int)) <|
   .ob (fmarkText.pre (y1.fst, ())) <|
   .lt (ByteArray × PUnit) (fmarkText.fn (y1.fst, ())) fun z2 =>
   .br (!(l.getD y1.snd.fst.toNat default).host.toList == z2.fst.toList)
    (.leaf (mkR fheldAddrS.rs ((-1 : Int), ())) [] [])
    (.ob ((0 : Int) ≤ y1.snd.fst ∧ y1.snd.fst < (↑l.length : Int)) <|
     .ob (fmarkText.pre (IntKind.i64.wrap (y1.fst + (1 : Int)), ())) <|
     .lt (ByteArray × PUnit) (fmarkText.fn (IntKind.i64.wrap (y1.fst + (1 : Int)), ())) fun z3 =>
     .br (!(l.getD y1.snd.fst.toNat default).path.toList == z3.fst.toList)
      (.leaf (mkR fheldAddrS.rs ((-1 : Int), ())) [] [])
      (.ob (l = l) <|
       .ob (bk1 (IntKind.i64.wrap (IntKind.i64.wrap (y1.fst + (1 : Int)) + (1 : Int)), (IntKind.i64.wrap (y1.snd.fst + (1 : Int)), ()))) <|
       .ok)))
  (.leaf (mkR fheldAddrS.rs (y1.fst, ())) [] [])) (by kernel_rfl) ?_
  refine lpx_i ?_ fun (y1 : Int × Int × PUnit) i1 => br_i (fun h2 => ob_i ?_ fun o3 => ob_i ?_ fun o4 => lt_i (br_i (fun h5 => Fct.leafY ?_) (fun h5 => ob_i ?_ fun o6 => ob_i ?_ fun o7 => lt_i (br_i (fun h8 => Fct.leafY ?_) (fun h8 => ob_i rfl fun _ => ob_i ?_ fun o9 => trivial))))) (fun h2 => Fct.leafY ?_)
  · exact ⟨by simp, by simp, by simp [markL]⟩
  all_goals have hp1 : 0 ≤ k := hp.1
  all_goals have hp2 : (markL mkAddr l k).2 ≤ 4000000000000000000 := hp.2.1
  all_goals have hp3 : (markL mkAddr l k).1 = l := hp.2.2
  all_goals have i3 : 0 ≤ y1.2.1 ∧ y1.2.1 ≤ l.length ∧ y1.1 = (markL mkAddr (l.take y1.2.1.toNat) k).2 := i1
  all_goals have hcnt := markL_cnt (f := mkAddr) (fun x k => by simp only [mkAddr]; omega) l k
  all_goals simp only [decide_eq_true_eq, decide_eq_false_iff_not] at h2
  all_goals clear i1 hp
  all_goals try have hlt : y1.2.1.toNat < l.length := by omega
  all_goals try have ht := markL_take (f := mkAddr) hlt k
  all_goals try have hle := (markL_take_le mkAddr_mono l (y1.2.1.toNat + 1) k).2
  all_goals try have hl0 := (markL_take_le mkAddr_mono l y1.2.1.toNat k).1
  all_goals try have heq := markL_held hp3 hlt
  all_goals try rw [ht] at hle
  all_goals try rw [← i3.2.2] at hle hl0 ht heq
  all_goals try simp only [mkAddr] at hle heq
  all_goals first | decide | omega | (refine ⟨?_, ?_⟩ <;> (try simp (discharger := omega) only [wrapId']) <;> omega) | skip
  all_goals try (exfalso; clear ht; generalize l.getD y1.2.1.toNat default = c at *; subst heq; simp (discharger := omega) [wrapId', fmarkText, Int.add_assoc] at *; done)
  · simp (discharger := omega) only [wrapId']
    refine ⟨⟨by omega, by omega, ?_⟩, ?_⟩
    · rw [toNat1 (by omega), ht]
      first | done | (simp only [mkAddr]; done) | (simp only [mkAddr]; omega)
    · omega
  · have e1 : l.take y1.2.1.toNat = l := List.take_of_length_le (by omega)
    rw [e1] at i3
    show (y1.1, ()) = ((markL mkAddr l k).2, ())
    rw [i3.2.2])
def E11 : D.Env := E10.add 129 fheldAddrS
theorem E11ok : EOk Try.prog E11 := E10ok.add k129_10
-- laws.eqAttr
set_option maxHeartbeats 2000000 in
theorem k224_11 : feqAttr.ok Try.prog 224 := Fct.of (S := feqAttr) (L := fun _ _ => none) (kp := [2,3,4,9,14,1000009,1000014]) E11ok Try.func224 (by kernel_rfl) (by kernel_rfl) (by
  rintro ⟨(x : SAttr), (y : SAttr), _⟩ hp
  refine holds_of (X := .br (!x.name.toList == y.name.toList)
 (.leaf (mkR feqAttr.rs (false, ())) [] [])
 (.br (!x.value.toList == y.value.toList)
  (.leaf (mkR feqAttr.rs (false, ())) [] [])
  (.leaf (mkR feqAttr.rs (true, ())) [] []))) (by kernel_rfl) ?_
  refine br_i (fun h1 => Fct.leafY ?_) (fun h1 => br_i (fun h2 => Fct.leafY ?_) (fun h2 => Fct.leafY ?_))
  all_goals try simp only [decide_eq_true_eq, decide_eq_false_iff_not, Bool.not_eq_true', Bool.not_eq_false', bne_iff_ne, bne_eq_false_iff_eq, beq_iff_eq, beq_eq_false_iff_ne, baEq, Int.not_lt, Int.not_le, ne_eq, Decidable.not_not] at *
  all_goals try simp only [feqAttr, etaToken, etaNode, etaBuilder, etaPolicy, etaPage, etaVisit, etaTab, etaServer, etaCache, etaNet, etaLoader, etaSheet, etaResult, etaSlot, etaModule, etaAddr, etaRequest, etaResponse, etaConn, etaGuess, etaEntry, etaSent, etaFile, baSz, List.size_toArray, List.length_cons, List.length_nil, Nat.reduceAdd, Int.toNat_zero, List.drop_zero, decide_eq_true_eq, decide_eq_false_iff_not, Bool.not_eq_true', Bool.not_eq_false', bne_iff_ne, bne_eq_false_iff_eq, beq_iff_eq, beq_eq_false_iff_ne, Bool.not_eq_true, Bool.not_eq_false, ne_eq, Decidable.not_not, baEq, decide_not, Prod.mk.injEq, and_true, true_and, Room, List.nil_append, Nat.zero_add, Int.not_lt, Int.not_le] at *
  all_goals first | trivial | (cases x; cases y; simp_all; done) | (simp only [szAttr] at *; omega) | grind [szAttr])
def E12 : D.Env := E11.add 224 feqAttr
theorem E12ok : EOk Try.prog E12 := E11ok.add k224_11
-- laws.eqAttrS
set_option maxHeartbeats 2000000 in
theorem k218_12 : feqAttrS.ok Try.prog 218 := Fct.of (S := feqAttrS) (L := fun ⟨l, m, _⟩ => fun | 4 => some (LeqS .attr l m) | _ => none) (kp := [0,1,4,5,10,14,26,1000010,1000014,1000026]) E12ok Try.func218 (by kernel_rfl) (by kernel_rfl) (by
  rintro ⟨(l : List SAttr), (m : List SAttr), _⟩ hp
  refine holds_of (X := .br ((↑l.length : Int) != (↑m.length : Int))
 (.leaf (mkR feqAttrS.rs (false, ())) [] [])
 (lpx (LeqS .attr l m) ((0 : Int), ()) fun (y2 : Int × PUnit) bk2 =>
  .br (decide (y2.fst < (↑l.length : Int)))
   (.ob ((0 : Int) ≤ y2.fst ∧ y2.fst < (↑l.length : Int)) <|
    .ob ((0 : Int) ≤ y2.fst ∧ y2.fst < (↑m.length : Int)) <|
    .ob (feqAttr.pre (l.getD y2.fst.toNat default, m.getD y2.fst.toNat default, ())) <|
    .lt (Bool × PUnit) (feqAttr.fn (l.getD y2.fst.toNat default, m.getD y2.fst.toNat default, ())) fun z2 =>
    .br (!z2.fst)
     (.leaf (mkR feqAttrS.rs (false, ())) [] [])
     (.ob (l = l) <|
      .ob (m = m) <|
      .ob (bk2 (IntKind.i64.wrap (y2.fst + (1 : Int)), ())) <|
      .ok))
   (.leaf (mkR feqAttrS.rs (true, ())) [] []))) (by kernel_rfl) ?_
  refine br_i (fun h1 => Fct.leafY ?_) (fun h1 => lpx_i ?_ fun (y2 : Int × PUnit) i2 => br_i (fun h3 => ob_i ?_ fun o4 => ob_i ?_ fun o5 => ob_i trivial fun _ => lt_i (br_i (fun h6 => Fct.leafY ?_) (fun h6 => ob_i rfl fun _ => ob_i rfl fun _ => ob_i ?_ fun o7 => trivial))) (fun h3 => Fct.leafY ?_))
  all_goals try simp only [decide_eq_true_eq, decide_eq_false_iff_not, Bool.not_eq_true', Bool.not_eq_false', bne_iff_ne, bne_eq_false_iff_eq, beq_iff_eq, beq_eq_false_iff_ne, baEq, Int.not_lt, Int.not_le, ne_eq, Decidable.not_not] at *
  all_goals try simp only [LeqS, feqAttr, feqAttrS, etaToken, etaNode, etaBuilder, etaPolicy, etaPage, etaVisit, etaTab, etaServer, etaCache, etaNet, etaLoader, etaSheet, etaResult, etaSlot, etaModule, etaAddr, etaRequest, etaResponse, etaConn, etaGuess, etaEntry, etaSent, etaFile, baSz, List.size_toArray, List.length_cons, List.length_nil, Nat.reduceAdd, Int.toNat_zero, List.drop_zero, decide_eq_true_eq, decide_eq_false_iff_not, Bool.not_eq_true', Bool.not_eq_false', bne_iff_ne, bne_eq_false_iff_eq, beq_iff_eq, beq_eq_false_iff_ne, Bool.not_eq_true, Bool.not_eq_false, ne_eq, Decidable.not_not, baEq, decide_not, Prod.mk.injEq, and_true, true_and, Room, List.nil_append, Nat.zero_add, Int.not_lt, Int.not_le] at *
  · rw [decide_eq_false]; rintro rfl; omega
  · exact ⟨by omega, by omega, by simp⟩
  · omega
  · omega
  · rw [decide_eq_false]; rintro rfl; exact absurd rfl h6
  · have hw : IntKind.i64.wrap (y2.1 + 1) = y2.1 + 1 := wrapId (by omega)
    rw [hw, toNat1 (by omega)]
    refine ⟨⟨by omega, by omega, ?_⟩, by omega⟩
    rw [take_succ (by omega), take_succ (by omega), i2.2.2, h6]
  · have e : l.take y2.1.toNat = l := List.take_of_length_le (by omega)
    have e2 : m.take y2.1.toNat = m := List.take_of_length_le (by omega)
    rw [decide_eq_true]; rw [← e, ← e2, i2.2.2])
def E13 : D.Env := E12.add 218 feqAttrS
theorem E13ok : EOk Try.prog E13 := E12ok.add k218_12
-- laws.markAttrS
set_option maxHeartbeats 2000000 in
theorem k161_13 : fmarkAttrS.ok Try.prog 161 := MS.of (S := fmarkAttrS) (L := fun l k => fun | 2 => some (LmkS .attr mkAttr l k) | _ => none) (kp := [0,1,4,5,9,1000009]) (kl := [0]) E13ok Try.func161 (by kernel_rfl) (by kernel_rfl) (by
  rintro (l : List SAttr) (k : Int) hp
  refine holds_of (X := lpx (LmkS .attr mkAttr l k) (k, ((0 : Int), (l, ()))) fun (y1 : Int × Int × List SAttr × PUnit) bk1 =>
 .br (decide (y1.snd.fst < (↑y1.snd.snd.fst.length : Int)))
  (.ob (fmarkText.pre (y1.fst, ())) <|
   .lt (ByteArray × PUnit) (fmarkText.fn (y1.fst, ())) fun z2 =>
   .ob ((0 : Int) ≤ y1.snd.fst ∧ y1.snd.fst < (↑y1.snd.snd.fst.length : Int)) <|
    .ob (y1.snd.fst.toNat < y1.snd.snd.fst.length) <|
    .lt (List SAttr) (y1.snd.snd.fst.modify y1.snd.fst.toNat fun z => { name := z2.fst, value := z.value : SAttr }) fun z3 =>
    .ob (fmarkText.pre (IntKind.i64.wrap (y1.fst + (1 : Int)), ())) <|
     .lt (ByteArray × PUnit) (fmarkText.fn (IntKind.i64.wrap (y1.fst + (1 : Int)), ())) fun z4 =>
     .ob ((0 : Int) ≤ y1.snd.fst ∧ y1.snd.fst < (↑z3.length : Int)) <|
      .ob (y1.snd.fst.toNat < z3.length) <|
      .lt (List SAttr) (z3.modify y1.snd.fst.toNat fun z => { name := z.name, value := z4.fst : SAttr }) fun z5 =>
      .ob (Value.int IntKind.i64 (0 : Int) = Value.int IntKind.i64 (0 : Int)) <|
       .ob (bk1 (IntKind.i64.wrap (IntKind.i64.wrap (y1.fst + (1 : Int)) + (1 : Int)), (IntKind.i64.wrap (y1.snd.fst + (1 : Int)), (z5, ())))) <|
       .ok)
  (.leaf (.one false [vi (y1.fst)]) [] [((0 : Nat), ⟨Ty.attr, y1.snd.snd.fst⟩)])) (by kernel_rfl) ?_
  refine lpx_i ?_ fun (y1 : Int × Int × List SAttr × PUnit) i1 => br_i (fun h2 => ob_i ?_ fun o3 => lt_i (ob_i ?_ fun o4 => ob_i ?_ fun o5 => lt_i (ob_i ?_ fun o6 => lt_i (ob_i ?_ fun o7 => ob_i ?_ fun o8 => lt_i (ob_i rfl fun _ => ob_i ?_ fun o9 => trivial))))) (fun h2 => MS.leaf ?_)
  · exact ⟨by simp, by simp, by simp [markL], by simp [markL]⟩
  all_goals have hp1 : 0 ≤ k := hp.1
  all_goals have hp2 : (markL mkAttr l k).2 ≤ 4000000000000000000 := hp.2
  all_goals have i3 : 0 ≤ y1.2.1 ∧ y1.2.1 ≤ l.length ∧ y1.1 = (markL mkAttr (l.take y1.2.1.toNat) k).2 ∧ y1.2.2.1 = (markL mkAttr (l.take y1.2.1.toNat) k).1 ++ l.drop y1.2.1.toNat := i1
  all_goals have hcnt := markL_cnt (f := mkAttr) (fun x k => by simp only [mkAttr]; omega) l k
  all_goals have hx : y1.2.2.1.length = l.length := by rw [i3.2.2.2, List.length_append, markL_len, List.length_take, List.length_drop]; omega
  all_goals simp only [decide_eq_true_eq, decide_eq_false_iff_not, hx] at h2
  all_goals clear i1
  all_goals try have hlt : y1.2.1.toNat < l.length := by omega
  all_goals try have ht := markL_take (f := mkAttr) hlt k
  all_goals try have hle := (markL_take_le mkAttr_mono l (y1.2.1.toNat + 1) k).2
  all_goals try have hl0 := (markL_take_le mkAttr_mono l y1.2.1.toNat k).1
  all_goals try rw [ht] at hle
  all_goals try rw [← i3.2.2.1] at hle hl0 ht
  all_goals try simp only [mkAttr] at hle
  all_goals first | decide | (simp only [List.length_modify, hx]; omega) | (refine ⟨?_, ?_⟩ <;> (try simp (discharger := omega) only [wrapId']) <;> omega) | skip
  · try clear o3 o4 o5
    simp (discharger := omega) only [wrapId', fmarkText]
    have hA : (markL mkAttr (l.take y1.2.1.toNat) k).1.length = y1.2.1.toNat := by rw [markL_len, List.length_take]; omega
    refine ⟨⟨by omega, by omega, ?_, ?_⟩, ?_⟩
    · rw [toNat1 (by omega), ht]
      first | done | (simp only [mkAttr]; done) | (simp only [mkAttr]; omega)
    · rw [toNat1 (by omega), ht, i3.2.2.2, drop_cons hlt]
      simp only [mod_at hA, mkAttr, Int.add_assoc, Int.reduceAdd, List.append_assoc, List.cons_append, List.nil_append]
    · omega
  · refine MS.leafL (t := .attr) (fn := fun l k => markL mkAttr l k) ?_
    have e1 : l.take y1.2.1.toNat = l := List.take_of_length_le (by omega)
    have e2 : l.drop y1.2.1.toNat = [] := List.drop_of_length_le (by omega)
    rw [i3.2.2.2, i3.2.2.1, e1, e2, List.append_nil])
def E14 : D.Env := E13.addM 161 fmarkAttrS
theorem E14ok : EOk Try.prog E14 := E13ok.addM k161_13
-- laws.heldAttrS
set_option maxHeartbeats 2000000 in
theorem k162_14 : fheldAttrS.ok Try.prog 162 := Fct.of (S := fheldAttrS) (L := fun ⟨l, k, _⟩ => fun | 2 => some (LheS .attr mkAttr l k) | _ => none) (kp := [0,1,4,5,9,19,29,1000009,1000019,1000029]) E14ok Try.func162 (by kernel_rfl) (by kernel_rfl) (by
  rintro ⟨(l : List SAttr), (k : Int), _⟩ hp
  refine holds_of (X := lpx (LheS .attr mkAttr l k) (k, ((0 : Int), ())) fun (y1 : Int × Int × PUnit) bk1 =>
 .br (decide (y1.snd.fst < (↑l.length : Int)))
  (.ob ((0 : Int) ≤ y1.snd.fst ∧ y1.snd.fst < (↑l.length : Int)) <|
   .ob (fmarkText.pre (y1.fst, ())) <|
   .lt (ByteArray × PUnit) (fmarkText.fn (y1.fst, ())) fun z2 =>
   .br (!(l.getD y1.snd.fst.toNat default).name.toList == z2.fst.toList)
    (.leaf (mkR fheldAttrS.rs ((-1 : Int), ())) [] [])
    (.ob ((0 : Int) ≤ y1.snd.fst ∧ y1.snd.fst < (↑l.length : Int)) <|
     .ob (fmarkText.pre (IntKind.i64.wrap (y1.fst + (1 : Int)), ())) <|
     .lt (ByteArray × PUnit) (fmarkText.fn (IntKind.i64.wrap (y1.fst + (1 : Int)), ())) fun z3 =>
     .br (!(l.getD y1.snd.fst.toNat default).value.toList == z3.fst.toList)
      (.leaf (mkR fheldAttrS.rs ((-1 : Int), ())) [] [])
      (.ob (l = l) <|
       .ob (bk1 (IntKind.i64.wrap (IntKind.i64.wrap (y1.fst + (1 : Int)) + (1 : Int)), (IntKind.i64.wrap (y1.snd.fst + (1 : Int)), ()))) <|
       .ok)))
  (.leaf (mkR fheldAttrS.rs (y1.fst, ())) [] [])) (by kernel_rfl) ?_
  refine lpx_i ?_ fun (y1 : Int × Int × PUnit) i1 => br_i (fun h2 => ob_i ?_ fun o3 => ob_i ?_ fun o4 => lt_i (br_i (fun h5 => Fct.leafY ?_) (fun h5 => ob_i ?_ fun o6 => ob_i ?_ fun o7 => lt_i (br_i (fun h8 => Fct.leafY ?_) (fun h8 => ob_i rfl fun _ => ob_i ?_ fun o9 => trivial))))) (fun h2 => Fct.leafY ?_)
  · exact ⟨by simp, by simp, by simp [markL]⟩
  all_goals have hp1 : 0 ≤ k := hp.1
  all_goals have hp2 : (markL mkAttr l k).2 ≤ 4000000000000000000 := hp.2.1
  all_goals have hp3 : (markL mkAttr l k).1 = l := hp.2.2
  all_goals have i3 : 0 ≤ y1.2.1 ∧ y1.2.1 ≤ l.length ∧ y1.1 = (markL mkAttr (l.take y1.2.1.toNat) k).2 := i1
  all_goals have hcnt := markL_cnt (f := mkAttr) (fun x k => by simp only [mkAttr]; omega) l k
  all_goals simp only [decide_eq_true_eq, decide_eq_false_iff_not] at h2
  all_goals clear i1 hp
  all_goals try have hlt : y1.2.1.toNat < l.length := by omega
  all_goals try have ht := markL_take (f := mkAttr) hlt k
  all_goals try have hle := (markL_take_le mkAttr_mono l (y1.2.1.toNat + 1) k).2
  all_goals try have hl0 := (markL_take_le mkAttr_mono l y1.2.1.toNat k).1
  all_goals try have heq := markL_held hp3 hlt
  all_goals try rw [ht] at hle
  all_goals try rw [← i3.2.2] at hle hl0 ht heq
  all_goals try simp only [mkAttr] at hle heq
  all_goals first | decide | omega | (refine ⟨?_, ?_⟩ <;> (try simp (discharger := omega) only [wrapId']) <;> omega) | skip
  all_goals try (exfalso; clear ht; generalize l.getD y1.2.1.toNat default = c at *; subst heq; simp (discharger := omega) [wrapId', fmarkText, Int.add_assoc] at *; done)
  · simp (discharger := omega) only [wrapId']
    refine ⟨⟨by omega, by omega, ?_⟩, ?_⟩
    · rw [toNat1 (by omega), ht]
      first | done | (simp only [mkAttr]; done) | (simp only [mkAttr]; omega)
    · omega
  · have e1 : l.take y1.2.1.toNat = l := List.take_of_length_le (by omega)
    rw [e1] at i3
    show (y1.1, ()) = ((markL mkAttr l k).2, ())
    rw [i3.2.2])
def E15 : D.Env := E14.add 162 fheldAttrS
theorem E15ok : EOk Try.prog E15 := E14ok.add k162_14
-- laws.eqToken
set_option maxHeartbeats 2000000 in
theorem k204_15 : feqToken.ok Try.prog 204 := Fct.of (S := feqToken) (L := fun _ _ => none) (kp := [2,3,4,9,14,20,25,1000009,1000014,1000020,1000025]) E15ok Try.func204 (by kernel_rfl) (by kernel_rfl) (by
  rintro ⟨(x : SToken), (y : SToken), _⟩ hp
  refine holds_of (X := .br (x.kind != y.kind)
 (.leaf (mkR feqToken.rs (false, ())) [] [])
 (.br (!x.name.toList == y.name.toList)
  (.leaf (mkR feqToken.rs (false, ())) [] [])
  (.ob (feqAttrS.pre (x.attrs, y.attrs, ())) <|
   .lt (Bool × PUnit) (feqAttrS.fn (x.attrs, y.attrs, ())) fun z2 =>
   .br (!z2.fst)
    (.leaf (mkR feqToken.rs (false, ())) [] [])
    (.br (!x.text.toList == y.text.toList)
     (.leaf (mkR feqToken.rs (false, ())) [] [])
     (.leaf (mkR feqToken.rs (true, ())) [] []))))) (by kernel_rfl) ?_
  refine br_i (fun h1 => Fct.leafY ?_) (fun h1 => br_i (fun h2 => Fct.leafY ?_) (fun h2 => ob_i ?_ fun o3 => lt_i (br_i (fun h4 => Fct.leafY ?_) (fun h4 => br_i (fun h5 => Fct.leafY ?_) (fun h5 => Fct.leafY ?_)))))
  all_goals try simp only [decide_eq_true_eq, decide_eq_false_iff_not, Bool.not_eq_true', Bool.not_eq_false', bne_iff_ne, bne_eq_false_iff_eq, beq_iff_eq, beq_eq_false_iff_ne, baEq, Int.not_lt, Int.not_le, ne_eq, Decidable.not_not] at *
  all_goals try simp only [feqAttrS, feqToken, etaToken, etaNode, etaBuilder, etaPolicy, etaPage, etaVisit, etaTab, etaServer, etaCache, etaNet, etaLoader, etaSheet, etaResult, etaSlot, etaModule, etaAddr, etaRequest, etaResponse, etaConn, etaGuess, etaEntry, etaSent, etaFile, baSz, List.size_toArray, List.length_cons, List.length_nil, Nat.reduceAdd, Int.toNat_zero, List.drop_zero, decide_eq_true_eq, decide_eq_false_iff_not, Bool.not_eq_true', Bool.not_eq_false', bne_iff_ne, bne_eq_false_iff_eq, beq_iff_eq, beq_eq_false_iff_ne, Bool.not_eq_true, Bool.not_eq_false, ne_eq, Decidable.not_not, baEq, decide_not, Prod.mk.injEq, and_true, true_and, Room, List.nil_append, Nat.zero_add, Int.not_lt, Int.not_le] at *
  all_goals first | trivial | (cases x; cases y; simp_all; done) | (simp only [szL, szToken] at *; omega) | grind [szL, szToken])
def E16 : D.Env := E15.add 204 feqToken
theorem E16ok : EOk Try.prog E16 := E15ok.add k204_15
-- laws.eqTokenS
set_option maxHeartbeats 2000000 in
theorem k190_16 : feqTokenS.ok Try.prog 190 := Fct.of (S := feqTokenS) (L := fun ⟨l, m, _⟩ => fun | 4 => some (LeqS .token l m) | _ => none) (kp := [0,1,4,5,10,14,26,1000010,1000014,1000026]) E16ok Try.func190 (by kernel_rfl) (by kernel_rfl) (by
  rintro ⟨(l : List SToken), (m : List SToken), _⟩ hp
  refine holds_of (X := .br ((↑l.length : Int) != (↑m.length : Int))
 (.leaf (mkR feqTokenS.rs (false, ())) [] [])
 (lpx (LeqS .token l m) ((0 : Int), ()) fun (y2 : Int × PUnit) bk2 =>
  .br (decide (y2.fst < (↑l.length : Int)))
   (.ob ((0 : Int) ≤ y2.fst ∧ y2.fst < (↑l.length : Int)) <|
    .ob ((0 : Int) ≤ y2.fst ∧ y2.fst < (↑m.length : Int)) <|
    .ob (feqToken.pre (l.getD y2.fst.toNat default, m.getD y2.fst.toNat default, ())) <|
    .lt (Bool × PUnit) (feqToken.fn (l.getD y2.fst.toNat default, m.getD y2.fst.toNat default, ())) fun z2 =>
    .br (!z2.fst)
     (.leaf (mkR feqTokenS.rs (false, ())) [] [])
     (.ob (l = l) <|
      .ob (m = m) <|
      .ob (bk2 (IntKind.i64.wrap (y2.fst + (1 : Int)), ())) <|
      .ok))
   (.leaf (mkR feqTokenS.rs (true, ())) [] []))) (by kernel_rfl) ?_
  refine br_i (fun h1 => Fct.leafY ?_) (fun h1 => lpx_i ?_ fun (y2 : Int × PUnit) i2 => br_i (fun h3 => ob_i ?_ fun o4 => ob_i ?_ fun o5 => ob_i ?_ fun o6 => lt_i (br_i (fun h7 => Fct.leafY ?_) (fun h7 => ob_i rfl fun _ => ob_i rfl fun _ => ob_i ?_ fun o8 => trivial))) (fun h3 => Fct.leafY ?_))
  all_goals try simp only [decide_eq_true_eq, decide_eq_false_iff_not, Bool.not_eq_true', Bool.not_eq_false', bne_iff_ne, bne_eq_false_iff_eq, beq_iff_eq, beq_eq_false_iff_ne, baEq, Int.not_lt, Int.not_le, ne_eq, Decidable.not_not] at *
  all_goals try simp only [LeqS, feqToken, feqTokenS, etaToken, etaNode, etaBuilder, etaPolicy, etaPage, etaVisit, etaTab, etaServer, etaCache, etaNet, etaLoader, etaSheet, etaResult, etaSlot, etaModule, etaAddr, etaRequest, etaResponse, etaConn, etaGuess, etaEntry, etaSent, etaFile, baSz, List.size_toArray, List.length_cons, List.length_nil, Nat.reduceAdd, Int.toNat_zero, List.drop_zero, decide_eq_true_eq, decide_eq_false_iff_not, Bool.not_eq_true', Bool.not_eq_false', bne_iff_ne, bne_eq_false_iff_eq, beq_iff_eq, beq_eq_false_iff_ne, Bool.not_eq_true, Bool.not_eq_false, ne_eq, Decidable.not_not, baEq, decide_not, Prod.mk.injEq, and_true, true_and, Room, List.nil_append, Nat.zero_add, Int.not_lt, Int.not_le] at *
  all_goals have hl := szL_len szToken l
  · rw [decide_eq_false]; rintro rfl; omega
  · exact ⟨by omega, by omega, by simp⟩
  · omega
  · omega
  · have hs := szL_get szToken (l := l) (i := y2.1.toNat) (by omega); omega
  · rw [decide_eq_false]; rintro rfl; first | exact absurd rfl h6 | exact absurd rfl h7
  · have hw : IntKind.i64.wrap (y2.1 + 1) = y2.1 + 1 := wrapId (by omega)
    rw [hw, toNat1 (by omega)]
    refine ⟨⟨by omega, by omega, ?_⟩, by omega⟩
    rw [take_succ (by omega), take_succ (by omega), i2.2.2]; first | rw [h6] | rw [h7]
  · have e : l.take y2.1.toNat = l := List.take_of_length_le (by omega)
    have e2 : m.take y2.1.toNat = m := List.take_of_length_le (by omega)
    rw [decide_eq_true]; rw [← e, ← e2, i2.2.2])
def E17 : D.Env := E16.add 190 feqTokenS
theorem E17ok : EOk Try.prog E17 := E16ok.add k190_16
-- laws.markTokenS
set_option maxHeartbeats 2000000 in
theorem k119_17 : fmarkTokenS.ok Try.prog 119 := MS.of (S := fmarkTokenS) (L := fun l k => fun | 2 => some (LmkS .token mkToken l k) | _ => none) (kp := [0,1,4,5,9,1000009]) (kl := [0]) E17ok Try.func119 (by kernel_rfl) (by kernel_rfl) (by
  rintro (l : List SToken) (k : Int) hp
  refine holds_of (X := lpx (LmkS .token mkToken l k) (k, ((0 : Int), (l, ()))) fun (y1 : Int × Int × List SToken × PUnit) bk1 =>
 .br (decide (y1.snd.fst < (↑y1.snd.snd.fst.length : Int)))
  (.ob ((0 : Int) ≤ y1.snd.fst ∧ y1.snd.fst < (↑y1.snd.snd.fst.length : Int)) <|
   .ob (y1.snd.fst.toNat < y1.snd.snd.fst.length) <|
   .lt (List SToken) (y1.snd.snd.fst.modify y1.snd.fst.toNat fun z =>
  { kind := y1.fst, name := z.name, attrs := z.attrs, text := z.text : SToken }) fun z2 =>
   .ob (fmarkText.pre (IntKind.i64.wrap (y1.fst + (1 : Int)), ())) <|
    .lt (ByteArray × PUnit) (fmarkText.fn (IntKind.i64.wrap (y1.fst + (1 : Int)), ())) fun z3 =>
    .ob ((0 : Int) ≤ y1.snd.fst ∧ y1.snd.fst < (↑z2.length : Int)) <|
     .ob (y1.snd.fst.toNat < z2.length) <|
     .lt (List SToken) (z2.modify y1.snd.fst.toNat fun z => { kind := z.kind, name := z3.fst, attrs := z.attrs, text := z.text : SToken }) fun z4 =>
     .ob ((0 : Int) ≤ y1.snd.fst ∧ y1.snd.fst < (↑z4.length : Int)) <|
      .ob (y1.snd.fst.toNat < z4.length) <|
      .ob (fmarkAttrS.pre (z4.getD y1.snd.fst.toNat default).attrs
  (IntKind.i64.wrap (IntKind.i64.wrap (y1.fst + (1 : Int)) + (1 : Int)))) <|
      .lt (List SAttr × Int) (fmarkAttrS.fn (z4.getD y1.snd.fst.toNat default).attrs
  (IntKind.i64.wrap (IntKind.i64.wrap (y1.fst + (1 : Int)) + (1 : Int)))) fun z5 =>
      .lt (List SToken) (z4.modify y1.snd.fst.toNat fun z => { kind := z.kind, name := z.name, attrs := z5.fst, text := z.text : SToken }) fun z6 =>
       .ob (fmarkText.pre (z5.snd, ())) <|
        .lt (ByteArray × PUnit) (fmarkText.fn (z5.snd, ())) fun z7 =>
        .ob ((0 : Int) ≤ y1.snd.fst ∧ y1.snd.fst < (↑z6.length : Int)) <|
         .ob (y1.snd.fst.toNat < z6.length) <|
         .lt (List SToken) (z6.modify y1.snd.fst.toNat fun z => { kind := z.kind, name := z.name, attrs := z.attrs, text := z7.fst : SToken }) fun z8 =>
         .ob (Value.int IntKind.i64 (0 : Int) = Value.int IntKind.i64 (0 : Int)) <|
          .ob (bk1 (IntKind.i64.wrap (z5.snd + (1 : Int)), (IntKind.i64.wrap (y1.snd.fst + (1 : Int)), (z8, ())))) <|
          .ok)
  (.leaf (.one false [vi (y1.fst)]) [] [((0 : Nat), ⟨Ty.token, y1.snd.snd.fst⟩)])) (by kernel_rfl) ?_
  refine lpx_i ?_ fun (y1 : Int × Int × List SToken × PUnit) i1 => br_i (fun h2 => ob_d ?_ <| ob_d ?_ <| lt_i (ob_d ?_ <| lt_i (ob_d ?_ <| ob_d ?_ <| lt_i (ob_d ?_ <| ob_d ?_ <| ob_d ?_ <| lt_i (lt_i (ob_d ?_ <| lt_i (ob_d ?_ <| ob_d ?_ <| lt_i (ob_d rfl <| ob_d ?_ <| trivial)))))))) (fun h2 => MS.leaf ?_)
  · exact ⟨by simp, by simp, by simp [markL], by simp [markL]⟩
  all_goals have hp1 : 0 ≤ k := hp.1
  all_goals have hp2 : (markL mkToken l k).2 ≤ 4000000000000000000 := hp.2
  all_goals have i3 : 0 ≤ y1.2.1 ∧ y1.2.1 ≤ l.length ∧ y1.1 = (markL mkToken (l.take y1.2.1.toNat) k).2 ∧ y1.2.2.1 = (markL mkToken (l.take y1.2.1.toNat) k).1 ++ l.drop y1.2.1.toNat := i1
  all_goals have hcnt := markL_cnt (f := mkToken) mkToken_cnt l k
  all_goals have hx : y1.2.2.1.length = l.length := by rw [i3.2.2.2, List.length_append, markL_len, List.length_take, List.length_drop]; omega
  all_goals simp only [decide_eq_true_eq, decide_eq_false_iff_not, hx] at h2
  all_goals clear i1 hp
  all_goals try have hlt : y1.2.1.toNat < l.length := by omega
  all_goals try have ht := markL_take (f := mkToken) hlt k
  all_goals try have hle := (markL_take_le mkToken_mono l (y1.2.1.toNat + 1) k).2
  all_goals try have hl0 := (markL_take_le mkToken_mono l y1.2.1.toNat k).1
  all_goals try rw [ht] at hle
  all_goals try rw [← i3.2.2.1] at hle hl0 ht
  all_goals try have i4 : y1.2.2.1 = (markL mkToken (l.take y1.2.1.toNat) k).1 ++ l.getD y1.2.1.toNat default :: l.drop (y1.2.1.toNat + 1) := by rw [i3.2.2.2, drop_cons hlt]
  all_goals try have hA : (markL mkToken (l.take y1.2.1.toNat) k).1.length = y1.2.1.toNat := by rw [markL_len, List.length_take]; omega
  all_goals try simp only [mkToken] at hle
  all_goals try have m1 := mkAttrS_mono (l.getD y1.2.1.toNat default).attrs (y1.1 + 2)
  all_goals try generalize hr1 : markL mkAttr (l.getD y1.2.1.toNat default).attrs (y1.1 + 2) = r1 at *
  all_goals try simp (disch := omega) only [i4, mod_at hA, getD_at hA, fmarkText, fmarkAttrS, wrapId', Int.add_assoc, Int.reduceAdd, hr1, List.length_append, List.length_cons, List.length_drop, hA]
  all_goals first | trivial | omega | (refine ⟨?_, ?_⟩ <;> omega) | skip
  · refine ⟨⟨by omega, by omega, ?_, ?_⟩, by omega⟩
    · rw [toNat1 (by omega), ht]
      simp only [mkToken, Int.add_assoc, Int.reduceAdd, hr1]
    · rw [toNat1 (by omega), ht]
      simp only [mkToken, Int.add_assoc, Int.reduceAdd, hr1, List.append_assoc, List.cons_append, List.nil_append]
  · refine MS.leafL (t := .token) (fn := fun l k => markL mkToken l k) ?_
    have e1 : l.take y1.2.1.toNat = l := List.take_of_length_le (by omega)
    have e2 : l.drop y1.2.1.toNat = [] := List.drop_of_length_le (by omega)
    rw [i3.2.2.2, i3.2.2.1, e1, e2, List.append_nil])
def E18 : D.Env := E17.addM 119 fmarkTokenS
theorem E18ok : EOk Try.prog E18 := E17ok.addM k119_17
-- laws.heldTokenS
set_option maxHeartbeats 2000000 in
theorem k124_18 : fheldTokenS.ok Try.prog 124 := Fct.of (S := fheldTokenS) (L := fun ⟨l, k, _⟩ => fun | 2 => some (LheS .token mkToken l k) | _ => none) (kp := [0,1,4,5,9,18,28,39,47,1000009,1000018,1000028,1000039,1000047]) E18ok Try.func124 (by kernel_rfl) (by kernel_rfl) (by
  rintro ⟨(l : List SToken), (k : Int), _⟩ hp
  refine holds_of (X := lpx (LheS .token mkToken l k) (k, ((0 : Int), ())) fun (y1 : Int × Int × PUnit) bk1 =>
 .br (decide (y1.snd.fst < (↑l.length : Int)))
  (.ob ((0 : Int) ≤ y1.snd.fst ∧ y1.snd.fst < (↑l.length : Int)) <|
   .br ((l.getD y1.snd.fst.toNat default).kind != y1.fst)
   (.leaf (mkR fheldTokenS.rs ((-1 : Int), ())) [] [])
   (.ob ((0 : Int) ≤ y1.snd.fst ∧ y1.snd.fst < (↑l.length : Int)) <|
    .ob (fmarkText.pre (IntKind.i64.wrap (y1.fst + (1 : Int)), ())) <|
    .lt (ByteArray × PUnit) (fmarkText.fn (IntKind.i64.wrap (y1.fst + (1 : Int)), ())) fun z2 =>
    .br (!(l.getD y1.snd.fst.toNat default).name.toList == z2.fst.toList)
     (.leaf (mkR fheldTokenS.rs ((-1 : Int), ())) [] [])
     (.ob ((0 : Int) ≤ y1.snd.fst ∧ y1.snd.fst < (↑l.length : Int)) <|
      .ob (fheldAttrS.pre
  ((l.getD y1.snd.fst.toNat default).attrs, IntKind.i64.wrap (IntKind.i64.wrap (y1.fst + (1 : Int)) + (1 : Int)), ())) <|
      .lt (Int × PUnit) (fheldAttrS.fn
  ((l.getD y1.snd.fst.toNat default).attrs, IntKind.i64.wrap (IntKind.i64.wrap (y1.fst + (1 : Int)) + (1 : Int)), ())) fun z3 =>
      .br (decide (z3.fst < (0 : Int)))
       (.leaf (mkR fheldTokenS.rs ((-1 : Int), ())) [] [])
       (.ob ((0 : Int) ≤ y1.snd.fst ∧ y1.snd.fst < (↑l.length : Int)) <|
        .ob (fmarkText.pre (z3.fst, ())) <|
        .lt (ByteArray × PUnit) (fmarkText.fn (z3.fst, ())) fun z4 =>
        .br (!(l.getD y1.snd.fst.toNat default).text.toList == z4.fst.toList)
         (.leaf (mkR fheldTokenS.rs ((-1 : Int), ())) [] [])
         (.ob (l = l) <|
          .ob (bk1 (IntKind.i64.wrap (z3.fst + (1 : Int)), (IntKind.i64.wrap (y1.snd.fst + (1 : Int)), ()))) <|
          .ok)))))
  (.leaf (mkR fheldTokenS.rs (y1.fst, ())) [] [])) (by kernel_rfl) ?_
  refine lpx_i ?_ fun (y1 : Int × Int × PUnit) i1 => br_i (fun h2 => ob_d ?_ <| br_i (fun h4 => Fct.leafY ?_) (fun h4 => ob_d ?_ <| ob_d ?_ <| lt_i (br_i (fun h7 => Fct.leafY ?_) (fun h7 => ob_d ?_ <| ob_d ?_ <| lt_i (br_i (fun h10 => Fct.leafY ?_) (fun h10 => ob_d ?_ <| ob_d ?_ <| lt_i (br_i (fun h13 => Fct.leafY ?_) (fun h13 => ob_d rfl <| ob_d ?_ <| trivial)))))))) (fun h2 => Fct.leafY ?_)
  · exact ⟨by simp, by simp, by simp [markL]⟩
  all_goals have hp1 : 0 ≤ k := hp.1
  all_goals have hp2 : (markL mkToken l k).2 ≤ 4000000000000000000 := hp.2.1
  all_goals have hp3 : (markL mkToken l k).1 = l := hp.2.2
  all_goals have i3 : 0 ≤ y1.2.1 ∧ y1.2.1 ≤ l.length ∧ y1.1 = (markL mkToken (l.take y1.2.1.toNat) k).2 := i1
  all_goals have hcnt := markL_cnt (f := mkToken) mkToken_cnt l k
  all_goals simp only [decide_eq_true_eq, decide_eq_false_iff_not] at h2
  all_goals clear i1 hp
  all_goals try have hlt : y1.2.1.toNat < l.length := by omega
  all_goals try have ht := markL_take (f := mkToken) hlt k
  all_goals try have hle := (markL_take_le mkToken_mono l (y1.2.1.toNat + 1) k).2
  all_goals try have hl0 := (markL_take_le mkToken_mono l y1.2.1.toNat k).1
  all_goals try have heq := markL_held hp3 hlt
  all_goals try rw [ht] at hle
  all_goals try rw [← i3.2.2] at hle hl0 ht heq
  all_goals try have q1 := congrArg (fun z : SToken => z.kind) heq
  all_goals try have q2 := congrArg (fun z : SToken => z.name) heq
  all_goals try have q3 := congrArg (fun z : SToken => z.attrs) heq
  all_goals try have q4 := congrArg (fun z : SToken => z.text) heq
  all_goals obtain ⟨E, hE⟩ : ∃ E, E = (mkToken (l.getD y1.2.1.toNat default) y1.1).2 := ⟨_, rfl⟩
  all_goals have hE2 := hE
  all_goals try simp only [mkToken] at hle hE2 q1 q2 q3 q4
  all_goals try clear heq
  all_goals try have m1 := mkAttrS_mono (l.getD y1.2.1.toNat default).attrs (y1.1 + 2)
  all_goals try generalize hr1 : markL mkAttr (l.getD y1.2.1.toNat default).attrs (y1.1 + 2) = r1 at *
  all_goals try simp (disch := omega) only [fmarkText, fheldAttrS, wrapId', Int.add_assoc, Int.reduceAdd, hr1, decide_eq_true_eq, decide_eq_false_iff_not, Bool.not_eq_true', Bool.not_eq_false', bne_iff_ne, bne_eq_false_iff_eq, beq_iff_eq, beq_eq_false_iff_ne, baEq, Int.not_lt, ne_eq, Decidable.not_not, decide_not] at *
  all_goals first | trivial | omega | (exfalso; omega) | (refine ⟨?_, ?_⟩ <;> omega) | (refine ⟨?_, ?_, ?_⟩ <;> first | omega | assumption) | (exfalso; simp_all; done) | skip
  · refine ⟨⟨by omega, by omega, ?_⟩, by omega⟩
    rw [toNat1 (by omega), ht]
    show _ = (mkToken (l.getD y1.2.1.toNat default) y1.1).2
    rw [← hE]
    omega
  · have e1 : l.take y1.2.1.toNat = l := List.take_of_length_le (by omega)
    rw [e1] at i3
    show (y1.1, ()) = ((markL mkToken l k).2, ())
    rw [i3.2.2])
def E19 : D.Env := E18.add 124 fheldTokenS
theorem E19ok : EOk Try.prog E19 := E18ok.add k124_18
-- laws.eqTokenizer
set_option maxHeartbeats 2000000 in
theorem k189_19 : feqTokenizer.ok Try.prog 189 := Fct.of (S := feqTokenizer) (L := fun _ _ => none) (kp := [2,3,4,9,1000009]) E19ok Try.func189 (by kernel_rfl) (by kernel_rfl) (by
  rintro ⟨(x : STokenizer), (y : STokenizer), _⟩ hp
  refine holds_of (X := .br (!x.rest.toList == y.rest.toList)
 (.leaf (mkR feqTokenizer.rs (false, ())) [] [])
 (.leaf (mkR feqTokenizer.rs (true, ())) [] [])) (by kernel_rfl) ?_
  refine br_i (fun h1 => Fct.leafY ?_) (fun h1 => Fct.leafY ?_)
  all_goals try simp only [decide_eq_true_eq, decide_eq_false_iff_not, Bool.not_eq_true', Bool.not_eq_false', bne_iff_ne, bne_eq_false_iff_eq, beq_iff_eq, beq_eq_false_iff_ne, baEq, Int.not_lt, Int.not_le, ne_eq, Decidable.not_not] at *
  all_goals try simp only [feqTokenizer, etaToken, etaNode, etaBuilder, etaPolicy, etaPage, etaVisit, etaTab, etaServer, etaCache, etaNet, etaLoader, etaSheet, etaResult, etaSlot, etaModule, etaAddr, etaRequest, etaResponse, etaConn, etaGuess, etaEntry, etaSent, etaFile, baSz, List.size_toArray, List.length_cons, List.length_nil, Nat.reduceAdd, Int.toNat_zero, List.drop_zero, decide_eq_true_eq, decide_eq_false_iff_not, Bool.not_eq_true', Bool.not_eq_false', bne_iff_ne, bne_eq_false_iff_eq, beq_iff_eq, beq_eq_false_iff_ne, Bool.not_eq_true, Bool.not_eq_false, ne_eq, Decidable.not_not, baEq, decide_not, Prod.mk.injEq, and_true, true_and, Room, List.nil_append, Nat.zero_add, Int.not_lt, Int.not_le] at *
  all_goals first | trivial | (cases x; cases y; simp_all; done) | (simp only [szTokenizer] at *; omega) | grind [szTokenizer])
def E20 : D.Env := E19.add 189 feqTokenizer
theorem E20ok : EOk Try.prog E20 := E19ok.add k189_19
-- laws.eqNode
set_option maxHeartbeats 2000000 in
theorem k219_20 : feqNode.ok Try.prog 219 := Fct.of (S := feqNode) (L := fun _ _ => none) (kp := [2,3,4,9,14,19,25,1000009,1000014,1000019,1000025]) E20ok Try.func219 (by kernel_rfl) (by kernel_rfl) (by
  rintro ⟨(x : SNode), (y : SNode), _⟩ hp
  refine holds_of (X := .br (!x.name.toList == y.name.toList)
 (.leaf (mkR feqNode.rs (false, ())) [] [])
 (.br (!x.text.toList == y.text.toList)
  (.leaf (mkR feqNode.rs (false, ())) [] [])
  (.br (x.parent != y.parent)
   (.leaf (mkR feqNode.rs (false, ())) [] [])
   (.ob (feqAttrS.pre (x.attrs, y.attrs, ())) <|
    .lt (Bool × PUnit) (feqAttrS.fn (x.attrs, y.attrs, ())) fun z2 =>
    .br (!z2.fst)
     (.leaf (mkR feqNode.rs (false, ())) [] [])
     (.leaf (mkR feqNode.rs (true, ())) [] []))))) (by kernel_rfl) ?_
  refine br_i (fun h1 => Fct.leafY ?_) (fun h1 => br_i (fun h2 => Fct.leafY ?_) (fun h2 => br_i (fun h3 => Fct.leafY ?_) (fun h3 => ob_i ?_ fun o4 => lt_i (br_i (fun h5 => Fct.leafY ?_) (fun h5 => Fct.leafY ?_)))))
  all_goals try simp only [decide_eq_true_eq, decide_eq_false_iff_not, Bool.not_eq_true', Bool.not_eq_false', bne_iff_ne, bne_eq_false_iff_eq, beq_iff_eq, beq_eq_false_iff_ne, baEq, Int.not_lt, Int.not_le, ne_eq, Decidable.not_not] at *
  all_goals try simp only [feqAttrS, feqNode, etaToken, etaNode, etaBuilder, etaPolicy, etaPage, etaVisit, etaTab, etaServer, etaCache, etaNet, etaLoader, etaSheet, etaResult, etaSlot, etaModule, etaAddr, etaRequest, etaResponse, etaConn, etaGuess, etaEntry, etaSent, etaFile, baSz, List.size_toArray, List.length_cons, List.length_nil, Nat.reduceAdd, Int.toNat_zero, List.drop_zero, decide_eq_true_eq, decide_eq_false_iff_not, Bool.not_eq_true', Bool.not_eq_false', bne_iff_ne, bne_eq_false_iff_eq, beq_iff_eq, beq_eq_false_iff_ne, Bool.not_eq_true, Bool.not_eq_false, ne_eq, Decidable.not_not, baEq, decide_not, Prod.mk.injEq, and_true, true_and, Room, List.nil_append, Nat.zero_add, Int.not_lt, Int.not_le] at *
  all_goals first | trivial | (cases x; cases y; simp_all; done) | (simp only [szL, szNode] at *; omega) | grind [szL, szNode])
def E21 : D.Env := E20.add 219 feqNode
theorem E21ok : EOk Try.prog E21 := E20ok.add k219_20
-- laws.eqNodeS
set_option maxHeartbeats 2000000 in
theorem k205_21 : feqNodeS.ok Try.prog 205 := Fct.of (S := feqNodeS) (L := fun ⟨l, m, _⟩ => fun | 4 => some (LeqS .node l m) | _ => none) (kp := [0,1,4,5,10,14,26,1000010,1000014,1000026]) E21ok Try.func205 (by kernel_rfl) (by kernel_rfl) (by
  rintro ⟨(l : List SNode), (m : List SNode), _⟩ hp
  refine holds_of (X := .br ((↑l.length : Int) != (↑m.length : Int))
 (.leaf (mkR feqNodeS.rs (false, ())) [] [])
 (lpx (LeqS .node l m) ((0 : Int), ()) fun (y2 : Int × PUnit) bk2 =>
  .br (decide (y2.fst < (↑l.length : Int)))
   (.ob ((0 : Int) ≤ y2.fst ∧ y2.fst < (↑l.length : Int)) <|
    .ob ((0 : Int) ≤ y2.fst ∧ y2.fst < (↑m.length : Int)) <|
    .ob (feqNode.pre (l.getD y2.fst.toNat default, m.getD y2.fst.toNat default, ())) <|
    .lt (Bool × PUnit) (feqNode.fn (l.getD y2.fst.toNat default, m.getD y2.fst.toNat default, ())) fun z2 =>
    .br (!z2.fst)
     (.leaf (mkR feqNodeS.rs (false, ())) [] [])
     (.ob (l = l) <|
      .ob (m = m) <|
      .ob (bk2 (IntKind.i64.wrap (y2.fst + (1 : Int)), ())) <|
      .ok))
   (.leaf (mkR feqNodeS.rs (true, ())) [] []))) (by kernel_rfl) ?_
  refine br_i (fun h1 => Fct.leafY ?_) (fun h1 => lpx_i ?_ fun (y2 : Int × PUnit) i2 => br_i (fun h3 => ob_i ?_ fun o4 => ob_i ?_ fun o5 => ob_i ?_ fun o6 => lt_i (br_i (fun h7 => Fct.leafY ?_) (fun h7 => ob_i rfl fun _ => ob_i rfl fun _ => ob_i ?_ fun o8 => trivial))) (fun h3 => Fct.leafY ?_))
  all_goals try simp only [decide_eq_true_eq, decide_eq_false_iff_not, Bool.not_eq_true', Bool.not_eq_false', bne_iff_ne, bne_eq_false_iff_eq, beq_iff_eq, beq_eq_false_iff_ne, baEq, Int.not_lt, Int.not_le, ne_eq, Decidable.not_not] at *
  all_goals try simp only [LeqS, feqNode, feqNodeS, etaToken, etaNode, etaBuilder, etaPolicy, etaPage, etaVisit, etaTab, etaServer, etaCache, etaNet, etaLoader, etaSheet, etaResult, etaSlot, etaModule, etaAddr, etaRequest, etaResponse, etaConn, etaGuess, etaEntry, etaSent, etaFile, baSz, List.size_toArray, List.length_cons, List.length_nil, Nat.reduceAdd, Int.toNat_zero, List.drop_zero, decide_eq_true_eq, decide_eq_false_iff_not, Bool.not_eq_true', Bool.not_eq_false', bne_iff_ne, bne_eq_false_iff_eq, beq_iff_eq, beq_eq_false_iff_ne, Bool.not_eq_true, Bool.not_eq_false, ne_eq, Decidable.not_not, baEq, decide_not, Prod.mk.injEq, and_true, true_and, Room, List.nil_append, Nat.zero_add, Int.not_lt, Int.not_le] at *
  all_goals have hl := szL_len szNode l
  · rw [decide_eq_false]; rintro rfl; omega
  · exact ⟨by omega, by omega, by simp⟩
  · omega
  · omega
  · have hs := szL_get szNode (l := l) (i := y2.1.toNat) (by omega); omega
  · rw [decide_eq_false]; rintro rfl; first | exact absurd rfl h6 | exact absurd rfl h7
  · have hw : IntKind.i64.wrap (y2.1 + 1) = y2.1 + 1 := wrapId (by omega)
    rw [hw, toNat1 (by omega)]
    refine ⟨⟨by omega, by omega, ?_⟩, by omega⟩
    rw [take_succ (by omega), take_succ (by omega), i2.2.2]; first | rw [h6] | rw [h7]
  · have e : l.take y2.1.toNat = l := List.take_of_length_le (by omega)
    have e2 : m.take y2.1.toNat = m := List.take_of_length_le (by omega)
    rw [decide_eq_true]; rw [← e, ← e2, i2.2.2])
def E22 : D.Env := E21.add 205 feqNodeS
theorem E22ok : EOk Try.prog E22 := E21ok.add k205_21
-- laws.markNodeS
set_option maxHeartbeats 2000000 in
theorem k120_22 : fmarkNodeS.ok Try.prog 120 := MS.of (S := fmarkNodeS) (L := fun l k => fun | 2 => some (LmkS .node mkNode l k) | _ => none) (kp := [0,1,4,5,9,1000009]) (kl := [0]) E22ok Try.func120 (by kernel_rfl) (by kernel_rfl) (by
  rintro (l : List SNode) (k : Int) hp
  refine holds_of (X := lpx (LmkS .node mkNode l k) (k, ((0 : Int), (l, ()))) fun (y1 : Int × Int × List SNode × PUnit) bk1 =>
 .br (decide (y1.snd.fst < (↑y1.snd.snd.fst.length : Int)))
  (.ob (fmarkText.pre (y1.fst, ())) <|
   .lt (ByteArray × PUnit) (fmarkText.fn (y1.fst, ())) fun z2 =>
   .ob ((0 : Int) ≤ y1.snd.fst ∧ y1.snd.fst < (↑y1.snd.snd.fst.length : Int)) <|
    .ob (y1.snd.fst.toNat < y1.snd.snd.fst.length) <|
    .lt (List SNode) (y1.snd.snd.fst.modify y1.snd.fst.toNat fun z =>
  { name := z2.fst, text := z.text, parent := z.parent, attrs := z.attrs : SNode }) fun z3 =>
    .ob (fmarkText.pre (IntKind.i64.wrap (y1.fst + (1 : Int)), ())) <|
     .lt (ByteArray × PUnit) (fmarkText.fn (IntKind.i64.wrap (y1.fst + (1 : Int)), ())) fun z4 =>
     .ob ((0 : Int) ≤ y1.snd.fst ∧ y1.snd.fst < (↑z3.length : Int)) <|
      .ob (y1.snd.fst.toNat < z3.length) <|
      .lt (List SNode) (z3.modify y1.snd.fst.toNat fun z => { name := z.name, text := z4.fst, parent := z.parent, attrs := z.attrs : SNode }) fun z5 =>
      .ob ((0 : Int) ≤ y1.snd.fst ∧ y1.snd.fst < (↑z5.length : Int)) <|
       .ob (y1.snd.fst.toNat < z5.length) <|
       .lt (List SNode) (z5.modify y1.snd.fst.toNat fun z =>
  { name := z.name, text := z.text, parent := IntKind.i64.wrap (IntKind.i64.wrap (y1.fst + (1 : Int)) + (1 : Int)),
    attrs := z.attrs : SNode }) fun z6 =>
       .ob ((0 : Int) ≤ y1.snd.fst ∧ y1.snd.fst < (↑z6.length : Int)) <|
        .ob (y1.snd.fst.toNat < z6.length) <|
        .ob (fmarkAttrS.pre (z6.getD y1.snd.fst.toNat default).attrs
  (IntKind.i64.wrap (IntKind.i64.wrap (IntKind.i64.wrap (y1.fst + (1 : Int)) + (1 : Int)) + (1 : Int)))) <|
        .lt (List SAttr × Int) (fmarkAttrS.fn (z6.getD y1.snd.fst.toNat default).attrs
  (IntKind.i64.wrap (IntKind.i64.wrap (IntKind.i64.wrap (y1.fst + (1 : Int)) + (1 : Int)) + (1 : Int)))) fun z7 =>
        .lt (List SNode) (z6.modify y1.snd.fst.toNat fun z => { name := z.name, text := z.text, parent := z.parent, attrs := z7.fst : SNode }) fun z8 =>
         .ob (Value.int IntKind.i64 (0 : Int) = Value.int IntKind.i64 (0 : Int)) <|
          .ob (bk1 (z7.snd, (IntKind.i64.wrap (y1.snd.fst + (1 : Int)), (z8, ())))) <|
          .ok)
  (.leaf (.one false [vi (y1.fst)]) [] [((0 : Nat), ⟨Ty.node, y1.snd.snd.fst⟩)])) (by kernel_rfl) ?_
  refine lpx_i ?_ fun (y1 : Int × Int × List SNode × PUnit) i1 => br_i (fun h2 => ob_d ?_ <| lt_i (ob_d ?_ <| ob_d ?_ <| lt_i (ob_d ?_ <| lt_i (ob_d ?_ <| ob_d ?_ <| lt_i (ob_d ?_ <| ob_d ?_ <| lt_i (ob_d ?_ <| ob_d ?_ <| ob_d ?_ <| lt_i (lt_i (ob_d rfl <| ob_d ?_ <| trivial)))))))) (fun h2 => MS.leaf ?_)
  · exact ⟨by simp, by simp, by simp [markL], by simp [markL]⟩
  all_goals have hp1 : 0 ≤ k := hp.1
  all_goals have hp2 : (markL mkNode l k).2 ≤ 4000000000000000000 := hp.2
  all_goals have i3 : 0 ≤ y1.2.1 ∧ y1.2.1 ≤ l.length ∧ y1.1 = (markL mkNode (l.take y1.2.1.toNat) k).2 ∧ y1.2.2.1 = (markL mkNode (l.take y1.2.1.toNat) k).1 ++ l.drop y1.2.1.toNat := i1
  all_goals have hcnt := markL_cnt (f := mkNode) mkNode_cnt l k
  all_goals have hx : y1.2.2.1.length = l.length := by rw [i3.2.2.2, List.length_append, markL_len, List.length_take, List.length_drop]; omega
  all_goals simp only [decide_eq_true_eq, decide_eq_false_iff_not, hx] at h2
  all_goals clear i1 hp
  all_goals try have hlt : y1.2.1.toNat < l.length := by omega
  all_goals try have ht := markL_take (f := mkNode) hlt k
  all_goals try have hle := (markL_take_le mkNode_mono l (y1.2.1.toNat + 1) k).2
  all_goals try have hl0 := (markL_take_le mkNode_mono l y1.2.1.toNat k).1
  all_goals try rw [ht] at hle
  all_goals try rw [← i3.2.2.1] at hle hl0 ht
  all_goals try have i4 : y1.2.2.1 = (markL mkNode (l.take y1.2.1.toNat) k).1 ++ l.getD y1.2.1.toNat default :: l.drop (y1.2.1.toNat + 1) := by rw [i3.2.2.2, drop_cons hlt]
  all_goals try have hA : (markL mkNode (l.take y1.2.1.toNat) k).1.length = y1.2.1.toNat := by rw [markL_len, List.length_take]; omega
  all_goals try simp only [mkNode] at hle
  all_goals try have m1 := mkAttrS_mono (l.getD y1.2.1.toNat default).attrs (y1.1 + 3)
  all_goals try generalize hr1 : markL mkAttr (l.getD y1.2.1.toNat default).attrs (y1.1 + 3) = r1 at *
  all_goals try simp (disch := omega) only [i4, mod_at hA, getD_at hA, fmarkText, fmarkAttrS, wrapId', Int.add_assoc, Int.reduceAdd, hr1, List.length_append, List.length_cons, List.length_drop, hA]
  all_goals first | trivial | omega | (refine ⟨?_, ?_⟩ <;> omega) | skip
  · refine ⟨⟨by omega, by omega, ?_, ?_⟩, by omega⟩
    · rw [toNat1 (by omega), ht]
      simp only [mkNode, Int.add_assoc, Int.reduceAdd, hr1]
    · rw [toNat1 (by omega), ht]
      simp only [mkNode, Int.add_assoc, Int.reduceAdd, hr1, List.append_assoc, List.cons_append, List.nil_append]
  · refine MS.leafL (t := .node) (fn := fun l k => markL mkNode l k) ?_
    have e1 : l.take y1.2.1.toNat = l := List.take_of_length_le (by omega)
    have e2 : l.drop y1.2.1.toNat = [] := List.drop_of_length_le (by omega)
    rw [i3.2.2.2, i3.2.2.1, e1, e2, List.append_nil])
def E23 : D.Env := E22.addM 120 fmarkNodeS
theorem E23ok : EOk Try.prog E23 := E22ok.addM k120_22
-- laws.heldNodeS
set_option maxHeartbeats 2000000 in
theorem k125_23 : fheldNodeS.ok Try.prog 125 := Fct.of (S := fheldNodeS) (L := fun ⟨l, k, _⟩ => fun | 2 => some (LheS .node mkNode l k) | _ => none) (kp := [0,1,4,5,9,19,29,38,49,1000009,1000019,1000029,1000038,1000049]) E23ok Try.func125 (by kernel_rfl) (by kernel_rfl) (by
  rintro ⟨(l : List SNode), (k : Int), _⟩ hp
  refine holds_of (X := lpx (LheS .node mkNode l k) (k, ((0 : Int), ())) fun (y1 : Int × Int × PUnit) bk1 =>
 .br (decide (y1.snd.fst < (↑l.length : Int)))
  (.ob ((0 : Int) ≤ y1.snd.fst ∧ y1.snd.fst < (↑l.length : Int)) <|
   .ob (fmarkText.pre (y1.fst, ())) <|
   .lt (ByteArray × PUnit) (fmarkText.fn (y1.fst, ())) fun z2 =>
   .br (!(l.getD y1.snd.fst.toNat default).name.toList == z2.fst.toList)
    (.leaf (mkR fheldNodeS.rs ((-1 : Int), ())) [] [])
    (.ob ((0 : Int) ≤ y1.snd.fst ∧ y1.snd.fst < (↑l.length : Int)) <|
     .ob (fmarkText.pre (IntKind.i64.wrap (y1.fst + (1 : Int)), ())) <|
     .lt (ByteArray × PUnit) (fmarkText.fn (IntKind.i64.wrap (y1.fst + (1 : Int)), ())) fun z3 =>
     .br (!(l.getD y1.snd.fst.toNat default).text.toList == z3.fst.toList)
      (.leaf (mkR fheldNodeS.rs ((-1 : Int), ())) [] [])
      (.ob ((0 : Int) ≤ y1.snd.fst ∧ y1.snd.fst < (↑l.length : Int)) <|
       .br ((l.getD y1.snd.fst.toNat default).parent != IntKind.i64.wrap (IntKind.i64.wrap (y1.fst + (1 : Int)) + (1 : Int)))
       (.leaf (mkR fheldNodeS.rs ((-1 : Int), ())) [] [])
       (.ob ((0 : Int) ≤ y1.snd.fst ∧ y1.snd.fst < (↑l.length : Int)) <|
        .ob (fheldAttrS.pre
  ((l.getD y1.snd.fst.toNat default).attrs,
    IntKind.i64.wrap (IntKind.i64.wrap (IntKind.i64.wrap (y1.fst + (1 : Int)) + (1 : Int)) + (1 : Int)), ())) <|
        .lt (Int × PUnit) (fheldAttrS.fn
  ((l.getD y1.snd.fst.toNat default).attrs,
    IntKind.i64.wrap (IntKind.i64.wrap (IntKind.i64.wrap (y1.fst + (1 : Int)) + (1 : Int)) + (1 : Int)), ())) fun z4 =>
        .br (decide (z4.fst < (0 : Int)))
         (.leaf (mkR fheldNodeS.rs ((-1 : Int), ())) [] [])
         (.ob (l = l) <|
          .ob (bk1 (z4.fst, (IntKind.i64.wrap (y1.snd.fst + (1 : Int)), ()))) <|
          .ok)))))
  (.leaf (mkR fheldNodeS.rs (y1.fst, ())) [] [])) (by kernel_rfl) ?_
  refine lpx_i ?_ fun (y1 : Int × Int × PUnit) i1 => br_i (fun h2 => ob_d ?_ <| ob_d ?_ <| lt_i (br_i (fun h5 => Fct.leafY ?_) (fun h5 => ob_d ?_ <| ob_d ?_ <| lt_i (br_i (fun h8 => Fct.leafY ?_) (fun h8 => ob_d ?_ <| br_i (fun h10 => Fct.leafY ?_) (fun h10 => ob_d ?_ <| ob_d ?_ <| lt_i (br_i (fun h13 => Fct.leafY ?_) (fun h13 => ob_d rfl <| ob_d ?_ <| trivial)))))))) (fun h2 => Fct.leafY ?_)
  · exact ⟨by simp, by simp, by simp [markL]⟩
  all_goals have hp1 : 0 ≤ k := hp.1
  all_goals have hp2 : (markL mkNode l k).2 ≤ 4000000000000000000 := hp.2.1
  all_goals have hp3 : (markL mkNode l k).1 = l := hp.2.2
  all_goals have i3 : 0 ≤ y1.2.1 ∧ y1.2.1 ≤ l.length ∧ y1.1 = (markL mkNode (l.take y1.2.1.toNat) k).2 := i1
  all_goals have hcnt := markL_cnt (f := mkNode) mkNode_cnt l k
  all_goals simp only [decide_eq_true_eq, decide_eq_false_iff_not] at h2
  all_goals clear i1 hp
  all_goals try have hlt : y1.2.1.toNat < l.length := by omega
  all_goals try have ht := markL_take (f := mkNode) hlt k
  all_goals try have hle := (markL_take_le mkNode_mono l (y1.2.1.toNat + 1) k).2
  all_goals try have hl0 := (markL_take_le mkNode_mono l y1.2.1.toNat k).1
  all_goals try have heq := markL_held hp3 hlt
  all_goals try rw [ht] at hle
  all_goals try rw [← i3.2.2] at hle hl0 ht heq
  all_goals try have q1 := congrArg (fun z : SNode => z.name) heq
  all_goals try have q2 := congrArg (fun z : SNode => z.text) heq
  all_goals try have q3 := congrArg (fun z : SNode => z.parent) heq
  all_goals try have q4 := congrArg (fun z : SNode => z.attrs) heq
  all_goals obtain ⟨E, hE⟩ : ∃ E, E = (mkNode (l.getD y1.2.1.toNat default) y1.1).2 := ⟨_, rfl⟩
  all_goals have hE2 := hE
  all_goals try simp only [mkNode] at hle hE2 q1 q2 q3 q4
  all_goals try clear heq
  all_goals try have m1 := mkAttrS_mono (l.getD y1.2.1.toNat default).attrs (y1.1 + 3)
  all_goals try generalize hr1 : markL mkAttr (l.getD y1.2.1.toNat default).attrs (y1.1 + 3) = r1 at *
  all_goals try simp (disch := omega) only [fmarkText, fheldAttrS, wrapId', Int.add_assoc, Int.reduceAdd, hr1, decide_eq_true_eq, decide_eq_false_iff_not, Bool.not_eq_true', Bool.not_eq_false', bne_iff_ne, bne_eq_false_iff_eq, beq_iff_eq, beq_eq_false_iff_ne, baEq, Int.not_lt, ne_eq, Decidable.not_not, decide_not] at *
  all_goals first | trivial | omega | (exfalso; omega) | (refine ⟨?_, ?_⟩ <;> omega) | (refine ⟨?_, ?_, ?_⟩ <;> first | omega | assumption) | (exfalso; simp_all; done) | skip
  · refine ⟨⟨by omega, by omega, ?_⟩, by omega⟩
    rw [toNat1 (by omega), ht]
    show _ = (mkNode (l.getD y1.2.1.toNat default) y1.1).2
    rw [← hE]
    omega
  · have e1 : l.take y1.2.1.toNat = l := List.take_of_length_le (by omega)
    rw [e1] at i3
    show (y1.1, ()) = ((markL mkNode l k).2, ())
    rw [i3.2.2])
def E24 : D.Env := E23.add 125 fheldNodeS
theorem E24ok : EOk Try.prog E24 := E23ok.add k125_23
-- laws.eqBuilder
set_option maxHeartbeats 2000000 in
theorem k191_24 : feqBuilder.ok Try.prog 191 := Fct.of (S := feqBuilder) (L := fun _ _ => none) (kp := [2,3,4,10,16,1000010,1000016]) E24ok Try.func191 (by kernel_rfl) (by kernel_rfl) (by
  rintro ⟨(x : SBuilder), (y : SBuilder), _⟩ hp
  refine holds_of (X := .ob (feqNodeS.pre (x.nodes, y.nodes, ())) <|
 .lt (Bool × PUnit) (feqNodeS.fn (x.nodes, y.nodes, ())) fun z2 =>
 .br (!z2.fst)
  (.leaf (mkR feqBuilder.rs (false, ())) [] [])
  (.ob (feqIntS.pre (x.open_, y.open_, ())) <|
   .lt (Bool × PUnit) (feqIntS.fn (x.open_, y.open_, ())) fun z3 =>
   .br (!z3.fst)
    (.leaf (mkR feqBuilder.rs (false, ())) [] [])
    (.leaf (mkR feqBuilder.rs (true, ())) [] []))) (by kernel_rfl) ?_
  refine ob_i ?_ fun o1 => lt_i (br_i (fun h2 => Fct.leafY ?_) (fun h2 => ob_i ?_ fun o3 => lt_i (br_i (fun h4 => Fct.leafY ?_) (fun h4 => Fct.leafY ?_))))
  all_goals try simp only [decide_eq_true_eq, decide_eq_false_iff_not, Bool.not_eq_true', Bool.not_eq_false', bne_iff_ne, bne_eq_false_iff_eq, beq_iff_eq, beq_eq_false_iff_ne, baEq, Int.not_lt, Int.not_le, ne_eq, Decidable.not_not] at *
  all_goals try simp only [feqBuilder, feqIntS, feqNodeS, etaToken, etaNode, etaBuilder, etaPolicy, etaPage, etaVisit, etaTab, etaServer, etaCache, etaNet, etaLoader, etaSheet, etaResult, etaSlot, etaModule, etaAddr, etaRequest, etaResponse, etaConn, etaGuess, etaEntry, etaSent, etaFile, baSz, List.size_toArray, List.length_cons, List.length_nil, Nat.reduceAdd, Int.toNat_zero, List.drop_zero, decide_eq_true_eq, decide_eq_false_iff_not, Bool.not_eq_true', Bool.not_eq_false', bne_iff_ne, bne_eq_false_iff_eq, beq_iff_eq, beq_eq_false_iff_ne, Bool.not_eq_true, Bool.not_eq_false, ne_eq, Decidable.not_not, baEq, decide_not, Prod.mk.injEq, and_true, true_and, Room, List.nil_append, Nat.zero_add, Int.not_lt, Int.not_le] at *
  all_goals first | trivial | (cases x; cases y; simp_all; done) | (simp only [szBuilder, szL] at *; omega) | grind [szBuilder, szL])
def E25 : D.Env := E24.add 191 feqBuilder
theorem E25ok : EOk Try.prog E25 := E24ok.add k191_24
-- laws.eqPolicy
set_option maxHeartbeats 2000000 in
theorem k188_25 : feqPolicy.ok Try.prog 188 := Fct.of (S := feqPolicy) (L := fun _ _ => none) (kp := [2,3,4,9,15,21,27,32,1000009,1000015,1000021,1000027,1000032]) E25ok Try.func188 (by kernel_rfl) (by kernel_rfl) (by
  rintro ⟨(x : SPolicy), (y : SPolicy), _⟩ hp
  refine holds_of (X := .br (!x.set_ == y.set_)
 (.leaf (mkR feqPolicy.rs (false, ())) [] [])
 (.ob (feqStringS.pre (x.scripts, y.scripts, ())) <|
  .lt (Bool × PUnit) (feqStringS.fn (x.scripts, y.scripts, ())) fun z2 =>
  .br (!z2.fst)
   (.leaf (mkR feqPolicy.rs (false, ())) [] [])
   (.ob (feqStringS.pre (x.styles, y.styles, ())) <|
    .lt (Bool × PUnit) (feqStringS.fn (x.styles, y.styles, ())) fun z3 =>
    .br (!z3.fst)
     (.leaf (mkR feqPolicy.rs (false, ())) [] [])
     (.ob (feqStringS.pre (x.images, y.images, ())) <|
      .lt (Bool × PUnit) (feqStringS.fn (x.images, y.images, ())) fun z4 =>
      .br (!z4.fst)
       (.leaf (mkR feqPolicy.rs (false, ())) [] [])
       (.br (!x.nonce.toList == y.nonce.toList)
        (.leaf (mkR feqPolicy.rs (false, ())) [] [])
        (.leaf (mkR feqPolicy.rs (true, ())) [] [])))))) (by kernel_rfl) ?_
  refine br_i (fun h1 => Fct.leafY ?_) (fun h1 => ob_i ?_ fun o2 => lt_i (br_i (fun h3 => Fct.leafY ?_) (fun h3 => ob_i ?_ fun o4 => lt_i (br_i (fun h5 => Fct.leafY ?_) (fun h5 => ob_i ?_ fun o6 => lt_i (br_i (fun h7 => Fct.leafY ?_) (fun h7 => br_i (fun h8 => Fct.leafY ?_) (fun h8 => Fct.leafY ?_))))))))
  all_goals try simp only [decide_eq_true_eq, decide_eq_false_iff_not, Bool.not_eq_true', Bool.not_eq_false', bne_iff_ne, bne_eq_false_iff_eq, beq_iff_eq, beq_eq_false_iff_ne, baEq, Int.not_lt, Int.not_le, ne_eq, Decidable.not_not] at *
  all_goals try simp only [feqPolicy, feqStringS, etaToken, etaNode, etaBuilder, etaPolicy, etaPage, etaVisit, etaTab, etaServer, etaCache, etaNet, etaLoader, etaSheet, etaResult, etaSlot, etaModule, etaAddr, etaRequest, etaResponse, etaConn, etaGuess, etaEntry, etaSent, etaFile, baSz, List.size_toArray, List.length_cons, List.length_nil, Nat.reduceAdd, Int.toNat_zero, List.drop_zero, decide_eq_true_eq, decide_eq_false_iff_not, Bool.not_eq_true', Bool.not_eq_false', bne_iff_ne, bne_eq_false_iff_eq, beq_iff_eq, beq_eq_false_iff_ne, Bool.not_eq_true, Bool.not_eq_false, ne_eq, Decidable.not_not, baEq, decide_not, Prod.mk.injEq, and_true, true_and, Room, List.nil_append, Nat.zero_add, Int.not_lt, Int.not_le] at *
  all_goals first | trivial | (cases x; cases y; simp_all; done) | (simp only [szL, szPolicy] at *; omega) | grind [szL, szPolicy])
def E26 : D.Env := E25.add 188 feqPolicy
theorem E26ok : EOk Try.prog E26 := E25ok.add k188_25
-- laws.eqSlot
set_option maxHeartbeats 2000000 in
theorem k206_26 : feqSlot.ok Try.prog 206 := Fct.of (S := feqSlot) (L := fun _ _ => none) (kp := [2,3,4,9,15,20,25,30,35,40,1000009,1000015,1000020,1000025,1000030,1000035,1000040]) E26ok Try.func206 (by kernel_rfl) (by kernel_rfl) (by
  rintro ⟨(x : SSlot), (y : SSlot), _⟩ hp
  refine holds_of (X := .br (x.mode != y.mode)
 (.leaf (mkR feqSlot.rs (false, ())) [] [])
 (.ob (feqAddr.pre (x.to, y.to, ())) <|
  .lt (Bool × PUnit) (feqAddr.fn (x.to, y.to, ())) fun z2 =>
  .br (!z2.fst)
   (.leaf (mkR feqSlot.rs (false, ())) [] [])
   (.br (!x.digest.toList == y.digest.toList)
    (.leaf (mkR feqSlot.rs (false, ())) [] [])
    (.br (x.node != y.node)
     (.leaf (mkR feqSlot.rs (false, ())) [] [])
     (.br (!x.done == y.done)
      (.leaf (mkR feqSlot.rs (false, ())) [] [])
      (.br (x.code != y.code)
       (.leaf (mkR feqSlot.rs (false, ())) [] [])
       (.br (!x.body.toList == y.body.toList)
        (.leaf (mkR feqSlot.rs (false, ())) [] [])
        (.leaf (mkR feqSlot.rs (true, ())) [] [])))))))) (by kernel_rfl) ?_
  refine br_i (fun h1 => Fct.leafY ?_) (fun h1 => ob_i trivial fun _ => lt_i (br_i (fun h2 => Fct.leafY ?_) (fun h2 => br_i (fun h3 => Fct.leafY ?_) (fun h3 => br_i (fun h4 => Fct.leafY ?_) (fun h4 => br_i (fun h5 => Fct.leafY ?_) (fun h5 => br_i (fun h6 => Fct.leafY ?_) (fun h6 => br_i (fun h7 => Fct.leafY ?_) (fun h7 => Fct.leafY ?_))))))))
  all_goals try simp only [decide_eq_true_eq, decide_eq_false_iff_not, Bool.not_eq_true', Bool.not_eq_false', bne_iff_ne, bne_eq_false_iff_eq, beq_iff_eq, beq_eq_false_iff_ne, baEq, Int.not_lt, Int.not_le, ne_eq, Decidable.not_not] at *
  all_goals try simp only [feqAddr, feqSlot, etaToken, etaNode, etaBuilder, etaPolicy, etaPage, etaVisit, etaTab, etaServer, etaCache, etaNet, etaLoader, etaSheet, etaResult, etaSlot, etaModule, etaAddr, etaRequest, etaResponse, etaConn, etaGuess, etaEntry, etaSent, etaFile, baSz, List.size_toArray, List.length_cons, List.length_nil, Nat.reduceAdd, Int.toNat_zero, List.drop_zero, decide_eq_true_eq, decide_eq_false_iff_not, Bool.not_eq_true', Bool.not_eq_false', bne_iff_ne, bne_eq_false_iff_eq, beq_iff_eq, beq_eq_false_iff_ne, Bool.not_eq_true, Bool.not_eq_false, ne_eq, Decidable.not_not, baEq, decide_not, Prod.mk.injEq, and_true, true_and, Room, List.nil_append, Nat.zero_add, Int.not_lt, Int.not_le] at *
  all_goals first | trivial | (cases x; cases y; simp_all; done) | (simp only [szAddr, szSlot] at *; omega) | grind [szAddr, szSlot])
def E27 : D.Env := E26.add 206 feqSlot
theorem E27ok : EOk Try.prog E27 := E26ok.add k206_26
-- laws.eqSlotS
set_option maxHeartbeats 2000000 in
theorem k192_27 : feqSlotS.ok Try.prog 192 := Fct.of (S := feqSlotS) (L := fun ⟨l, m, _⟩ => fun | 4 => some (LeqS .slot l m) | _ => none) (kp := [0,1,4,5,10,14,26,1000010,1000014,1000026]) E27ok Try.func192 (by kernel_rfl) (by kernel_rfl) (by
  rintro ⟨(l : List SSlot), (m : List SSlot), _⟩ hp
  refine holds_of (X := .br ((↑l.length : Int) != (↑m.length : Int))
 (.leaf (mkR feqSlotS.rs (false, ())) [] [])
 (lpx (LeqS .slot l m) ((0 : Int), ()) fun (y2 : Int × PUnit) bk2 =>
  .br (decide (y2.fst < (↑l.length : Int)))
   (.ob ((0 : Int) ≤ y2.fst ∧ y2.fst < (↑l.length : Int)) <|
    .ob ((0 : Int) ≤ y2.fst ∧ y2.fst < (↑m.length : Int)) <|
    .ob (feqSlot.pre (l.getD y2.fst.toNat default, m.getD y2.fst.toNat default, ())) <|
    .lt (Bool × PUnit) (feqSlot.fn (l.getD y2.fst.toNat default, m.getD y2.fst.toNat default, ())) fun z2 =>
    .br (!z2.fst)
     (.leaf (mkR feqSlotS.rs (false, ())) [] [])
     (.ob (l = l) <|
      .ob (m = m) <|
      .ob (bk2 (IntKind.i64.wrap (y2.fst + (1 : Int)), ())) <|
      .ok))
   (.leaf (mkR feqSlotS.rs (true, ())) [] []))) (by kernel_rfl) ?_
  refine br_i (fun h1 => Fct.leafY ?_) (fun h1 => lpx_i ?_ fun (y2 : Int × PUnit) i2 => br_i (fun h3 => ob_i ?_ fun o4 => ob_i ?_ fun o5 => ob_i trivial fun _ => lt_i (br_i (fun h6 => Fct.leafY ?_) (fun h6 => ob_i rfl fun _ => ob_i rfl fun _ => ob_i ?_ fun o7 => trivial))) (fun h3 => Fct.leafY ?_))
  all_goals try simp only [decide_eq_true_eq, decide_eq_false_iff_not, Bool.not_eq_true', Bool.not_eq_false', bne_iff_ne, bne_eq_false_iff_eq, beq_iff_eq, beq_eq_false_iff_ne, baEq, Int.not_lt, Int.not_le, ne_eq, Decidable.not_not] at *
  all_goals try simp only [LeqS, feqSlot, feqSlotS, etaToken, etaNode, etaBuilder, etaPolicy, etaPage, etaVisit, etaTab, etaServer, etaCache, etaNet, etaLoader, etaSheet, etaResult, etaSlot, etaModule, etaAddr, etaRequest, etaResponse, etaConn, etaGuess, etaEntry, etaSent, etaFile, baSz, List.size_toArray, List.length_cons, List.length_nil, Nat.reduceAdd, Int.toNat_zero, List.drop_zero, decide_eq_true_eq, decide_eq_false_iff_not, Bool.not_eq_true', Bool.not_eq_false', bne_iff_ne, bne_eq_false_iff_eq, beq_iff_eq, beq_eq_false_iff_ne, Bool.not_eq_true, Bool.not_eq_false, ne_eq, Decidable.not_not, baEq, decide_not, Prod.mk.injEq, and_true, true_and, Room, List.nil_append, Nat.zero_add, Int.not_lt, Int.not_le] at *
  · rw [decide_eq_false]; rintro rfl; omega
  · exact ⟨by omega, by omega, by simp⟩
  · omega
  · omega
  · rw [decide_eq_false]; rintro rfl; exact absurd rfl h6
  · have hw : IntKind.i64.wrap (y2.1 + 1) = y2.1 + 1 := wrapId (by omega)
    rw [hw, toNat1 (by omega)]
    refine ⟨⟨by omega, by omega, ?_⟩, by omega⟩
    rw [take_succ (by omega), take_succ (by omega), i2.2.2, h6]
  · have e : l.take y2.1.toNat = l := List.take_of_length_le (by omega)
    have e2 : m.take y2.1.toNat = m := List.take_of_length_le (by omega)
    rw [decide_eq_true]; rw [← e, ← e2, i2.2.2])
def E28 : D.Env := E27.add 192 feqSlotS
theorem E28ok : EOk Try.prog E28 := E27ok.add k192_27
-- laws.markSlotS
set_option maxHeartbeats 2000000 in
theorem k121_28 : fmarkSlotS.ok Try.prog 121 := MS.of (S := fmarkSlotS) (L := fun l k => fun | 2 => some (LmkS .slot mkSlot l k) | _ => none) (kp := [0,1,4,5,9,1000009]) (kl := [0]) E28ok Try.func121 (by kernel_rfl) (by kernel_rfl) (by
  rintro (l : List SSlot) (k : Int) hp
  refine holds_of (X := lpx (LmkS .slot mkSlot l k) (k, ((0 : Int), (l, ()))) fun (y1 : Int × Int × List SSlot × PUnit) bk1 =>
 .br (decide (y1.snd.fst < (↑y1.snd.snd.fst.length : Int)))
  (.ob ((0 : Int) ≤ y1.snd.fst ∧ y1.snd.fst < (↑y1.snd.snd.fst.length : Int)) <|
   .ob (y1.snd.fst.toNat < y1.snd.snd.fst.length) <|
   .lt (List SSlot) (y1.snd.snd.fst.modify y1.snd.fst.toNat fun z =>
  { mode := y1.fst, to := z.to, digest := z.digest, node := z.node, done := z.done, code := z.code, body := z.body :
    SSlot }) fun z2 =>
   .ob (fmarkText.pre (IntKind.i64.wrap (y1.fst + (1 : Int)), ())) <|
    .lt (ByteArray × PUnit) (fmarkText.fn (IntKind.i64.wrap (y1.fst + (1 : Int)), ())) fun z3 =>
    .ob ((0 : Int) ≤ y1.snd.fst ∧ y1.snd.fst < (↑z2.length : Int)) <|
     .ob (y1.snd.fst.toNat < z2.length) <|
     .lt (List SSlot) (z2.modify y1.snd.fst.toNat fun z =>
  { mode := z.mode, to := { host := z3.fst, path := z.to.path : SAddr }, digest := z.digest, node := z.node,
    done := z.done, code := z.code, body := z.body : SSlot }) fun z4 =>
     .ob (fmarkText.pre (IntKind.i64.wrap (IntKind.i64.wrap (y1.fst + (1 : Int)) + (1 : Int)), ())) <|
      .lt (ByteArray × PUnit) (fmarkText.fn (IntKind.i64.wrap (IntKind.i64.wrap (y1.fst + (1 : Int)) + (1 : Int)), ())) fun z5 =>
      .ob ((0 : Int) ≤ y1.snd.fst ∧ y1.snd.fst < (↑z4.length : Int)) <|
       .ob (y1.snd.fst.toNat < z4.length) <|
       .lt (List SSlot) (z4.modify y1.snd.fst.toNat fun z =>
  { mode := z.mode, to := { host := z.to.host, path := z5.fst : SAddr }, digest := z.digest, node := z.node,
    done := z.done, code := z.code, body := z.body : SSlot }) fun z6 =>
       .ob (fmarkText.pre (IntKind.i64.wrap (IntKind.i64.wrap (IntKind.i64.wrap (y1.fst + (1 : Int)) + (1 : Int)) + (1 : Int)), ())) <|
        .lt (ByteArray × PUnit) (fmarkText.fn (IntKind.i64.wrap (IntKind.i64.wrap (IntKind.i64.wrap (y1.fst + (1 : Int)) + (1 : Int)) + (1 : Int)), ())) fun z7 =>
        .ob ((0 : Int) ≤ y1.snd.fst ∧ y1.snd.fst < (↑z6.length : Int)) <|
         .ob (y1.snd.fst.toNat < z6.length) <|
         .lt (List SSlot) (z6.modify y1.snd.fst.toNat fun z =>
  { mode := z.mode, to := z.to, digest := z7.fst, node := z.node, done := z.done, code := z.code, body := z.body :
    SSlot }) fun z8 =>
         .ob ((0 : Int) ≤ y1.snd.fst ∧ y1.snd.fst < (↑z8.length : Int)) <|
          .ob (y1.snd.fst.toNat < z8.length) <|
          .lt (List SSlot) (z8.modify y1.snd.fst.toNat fun z =>
  { mode := z.mode, to := z.to, digest := z.digest,
    node :=
      IntKind.i64.wrap
        (IntKind.i64.wrap (IntKind.i64.wrap (IntKind.i64.wrap (y1.fst + (1 : Int)) + (1 : Int)) + (1 : Int)) +
          (1 : Int)),
    done := z.done, code := z.code, body := z.body : SSlot }) fun z9 =>
          .ob ((3 : Int) ≠ (0 : Int)) <|
           .ob ((0 : Int) ≤ y1.snd.fst ∧ y1.snd.fst < (↑z9.length : Int)) <|
           .ob (y1.snd.fst.toNat < z9.length) <|
           .lt (List SSlot) (z9.modify y1.snd.fst.toNat fun z =>
  { mode := z.mode, to := z.to, digest := z.digest, node := z.node,
    done :=
      (IntKind.i64.wrap
              (IntKind.i64.wrap
                  (IntKind.i64.wrap (IntKind.i64.wrap (IntKind.i64.wrap (y1.fst + (1 : Int)) + (1 : Int)) + (1 : Int)) +
                    (1 : Int)) +
                (1 : Int))).tmod
          (3 : Int) ==
        (0 : Int),
    code := z.code, body := z.body : SSlot }) fun z10 =>
           .ob ((0 : Int) ≤ y1.snd.fst ∧ y1.snd.fst < (↑z10.length : Int)) <|
            .ob (y1.snd.fst.toNat < z10.length) <|
            .lt (List SSlot) (z10.modify y1.snd.fst.toNat fun z =>
  { mode := z.mode, to := z.to, digest := z.digest, node := z.node, done := z.done,
    code :=
      IntKind.i64.wrap
        (IntKind.i64.wrap
            (IntKind.i64.wrap
                (IntKind.i64.wrap (IntKind.i64.wrap (IntKind.i64.wrap (y1.fst + (1 : Int)) + (1 : Int)) + (1 : Int)) +
                  (1 : Int)) +
              (1 : Int)) +
          (1 : Int)),
    body := z.body : SSlot }) fun z11 =>
            .ob (fmarkText.pre
  (IntKind.i64.wrap
      (IntKind.i64.wrap
          (IntKind.i64.wrap
              (IntKind.i64.wrap
                  (IntKind.i64.wrap (IntKind.i64.wrap (IntKind.i64.wrap (y1.fst + (1 : Int)) + (1 : Int)) + (1 : Int)) +
                    (1 : Int)) +
                (1 : Int)) +
            (1 : Int)) +
        (1 : Int)),
    ())) <|
             .lt (ByteArray × PUnit) (fmarkText.fn
  (IntKind.i64.wrap
      (IntKind.i64.wrap
          (IntKind.i64.wrap
              (IntKind.i64.wrap
                  (IntKind.i64.wrap (IntKind.i64.wrap (IntKind.i64.wrap (y1.fst + (1 : Int)) + (1 : Int)) + (1 : Int)) +
                    (1 : Int)) +
                (1 : Int)) +
            (1 : Int)) +
        (1 : Int)),
    ())) fun z12 =>
             .ob ((0 : Int) ≤ y1.snd.fst ∧ y1.snd.fst < (↑z11.length : Int)) <|
              .ob (y1.snd.fst.toNat < z11.length) <|
              .lt (List SSlot) (z11.modify y1.snd.fst.toNat fun z =>
  { mode := z.mode, to := z.to, digest := z.digest, node := z.node, done := z.done, code := z.code, body := z12.fst :
    SSlot }) fun z13 =>
              .ob (Value.int IntKind.i64 (0 : Int) = Value.int IntKind.i64 (0 : Int)) <|
               .ob (bk1 (IntKind.i64.wrap
  (IntKind.i64.wrap
      (IntKind.i64.wrap
          (IntKind.i64.wrap
              (IntKind.i64.wrap
                  (IntKind.i64.wrap (IntKind.i64.wrap (IntKind.i64.wrap (y1.fst + (1 : Int)) + (1 : Int)) + (1 : Int)) +
                    (1 : Int)) +
                (1 : Int)) +
            (1 : Int)) +
        (1 : Int)) +
    (1 : Int)), (IntKind.i64.wrap (y1.snd.fst + (1 : Int)), (z13, ())))) <|
               .ok)
  (.leaf (.one false [vi (y1.fst)]) [] [((0 : Nat), ⟨Ty.slot, y1.snd.snd.fst⟩)])) (by kernel_rfl) ?_
  refine lpx_i ?_ fun (y1 : Int × Int × List SSlot × PUnit) i1 => br_i (fun h2 => ob_i ?_ fun o3 => ob_i ?_ fun o4 => lt_i (ob_i ?_ fun o5 => lt_i (ob_i ?_ fun o6 => ob_i ?_ fun o7 => lt_i (ob_i ?_ fun o8 => lt_i (ob_i ?_ fun o9 => ob_i ?_ fun o10 => lt_i (ob_i ?_ fun o11 => lt_i (ob_i ?_ fun o12 => ob_i ?_ fun o13 => lt_i (ob_i ?_ fun o14 => ob_i ?_ fun o15 => lt_i (ob_i ?_ fun o16 => ob_i ?_ fun o17 => ob_i ?_ fun o18 => lt_i (ob_i ?_ fun o19 => ob_i ?_ fun o20 => lt_i (ob_i ?_ fun o21 => lt_i (ob_i ?_ fun o22 => ob_i ?_ fun o23 => lt_i (ob_i rfl fun _ => ob_i ?_ fun o24 => trivial))))))))))))) (fun h2 => MS.leaf ?_)
  · exact ⟨by simp, by simp, by simp [markL], by simp [markL]⟩
  all_goals have hp1 : 0 ≤ k := hp.1
  all_goals have hp2 : (markL mkSlot l k).2 ≤ 4000000000000000000 := hp.2
  all_goals have i3 : 0 ≤ y1.2.1 ∧ y1.2.1 ≤ l.length ∧ y1.1 = (markL mkSlot (l.take y1.2.1.toNat) k).2 ∧ y1.2.2.1 = (markL mkSlot (l.take y1.2.1.toNat) k).1 ++ l.drop y1.2.1.toNat := i1
  all_goals have hcnt := markL_cnt (f := mkSlot) (fun x k => by simp only [mkSlot]; omega) l k
  all_goals have hx : y1.2.2.1.length = l.length := by rw [i3.2.2.2, List.length_append, markL_len, List.length_take, List.length_drop]; omega
  all_goals simp only [decide_eq_true_eq, decide_eq_false_iff_not, hx] at h2
  all_goals clear i1
  all_goals try have hlt : y1.2.1.toNat < l.length := by omega
  all_goals try have ht := markL_take (f := mkSlot) hlt k
  all_goals try have hle := (markL_take_le mkSlot_mono l (y1.2.1.toNat + 1) k).2
  all_goals try have hl0 := (markL_take_le mkSlot_mono l y1.2.1.toNat k).1
  all_goals try rw [ht] at hle
  all_goals try rw [← i3.2.2.1] at hle hl0 ht
  all_goals try simp only [mkSlot] at hle
  all_goals first | decide | (simp only [List.length_modify, hx]; omega) | (refine ⟨?_, ?_⟩ <;> (try simp (discharger := omega) only [wrapId']) <;> omega) | skip
  · try clear o3 o4 o5
    simp (discharger := omega) only [wrapId', fmarkText]
    have hA : (markL mkSlot (l.take y1.2.1.toNat) k).1.length = y1.2.1.toNat := by rw [markL_len, List.length_take]; omega
    refine ⟨⟨by omega, by omega, ?_, ?_⟩, ?_⟩
    · rw [toNat1 (by omega), ht]
      first | done | (simp only [mkSlot]; done) | (simp only [mkSlot]; omega)
    · rw [toNat1 (by omega), ht, i3.2.2.2, drop_cons hlt]
      simp only [mod_at hA, mkSlot, Int.add_assoc, Int.reduceAdd, List.append_assoc, List.cons_append, List.nil_append]
    · omega
  · refine MS.leafL (t := .slot) (fn := fun l k => markL mkSlot l k) ?_
    have e1 : l.take y1.2.1.toNat = l := List.take_of_length_le (by omega)
    have e2 : l.drop y1.2.1.toNat = [] := List.drop_of_length_le (by omega)
    rw [i3.2.2.2, i3.2.2.1, e1, e2, List.append_nil])
def E29 : D.Env := E28.addM 121 fmarkSlotS
theorem E29ok : EOk Try.prog E29 := E28ok.addM k121_28
-- laws.heldSlotS
set_option maxHeartbeats 2000000 in
theorem k127_29 : fheldSlotS.ok Try.prog 127 := Fct.of (S := fheldSlotS) (L := fun ⟨l, k, _⟩ => fun | 2 => some (LheS .slot mkSlot l k) | _ => none) (kp := [0,1,4,5,9,18,29,40,50,59,70,79,89,1000009,1000018,1000029,1000040,1000050,1000059,1000070,1000079,1000089]) E29ok Try.func127 (by kernel_rfl) (by kernel_rfl) (by
  rintro ⟨(l : List SSlot), (k : Int), _⟩ hp
  refine holds_of (X := lpx (LheS .slot mkSlot l k) (k, ((0 : Int), ())) fun (y1 : Int × Int × PUnit) bk1 =>
 .br (decide (y1.snd.fst < (↑l.length : Int)))
  (.ob ((0 : Int) ≤ y1.snd.fst ∧ y1.snd.fst < (↑l.length : Int)) <|
   .br ((l.getD y1.snd.fst.toNat default).mode != y1.fst)
   (.leaf (mkR fheldSlotS.rs ((-1 : Int), ())) [] [])
   (.ob ((0 : Int) ≤ y1.snd.fst ∧ y1.snd.fst < (↑l.length : Int)) <|
    .ob (fmarkText.pre (IntKind.i64.wrap (y1.fst + (1 : Int)), ())) <|
    .lt (ByteArray × PUnit) (fmarkText.fn (IntKind.i64.wrap (y1.fst + (1 : Int)), ())) fun z2 =>
    .br (!(l.getD y1.snd.fst.toNat default).to.host.toList == z2.fst.toList)
     (.leaf (mkR fheldSlotS.rs ((-1 : Int), ())) [] [])
     (.ob ((0 : Int) ≤ y1.snd.fst ∧ y1.snd.fst < (↑l.length : Int)) <|
      .ob (fmarkText.pre (IntKind.i64.wrap (IntKind.i64.wrap (y1.fst + (1 : Int)) + (1 : Int)), ())) <|
      .lt (ByteArray × PUnit) (fmarkText.fn (IntKind.i64.wrap (IntKind.i64.wrap (y1.fst + (1 : Int)) + (1 : Int)), ())) fun z3 =>
      .br (!(l.getD y1.snd.fst.toNat default).to.path.toList == z3.fst.toList)
       (.leaf (mkR fheldSlotS.rs ((-1 : Int), ())) [] [])
       (.ob ((0 : Int) ≤ y1.snd.fst ∧ y1.snd.fst < (↑l.length : Int)) <|
        .ob (fmarkText.pre (IntKind.i64.wrap (IntKind.i64.wrap (IntKind.i64.wrap (y1.fst + (1 : Int)) + (1 : Int)) + (1 : Int)), ())) <|
        .lt (ByteArray × PUnit) (fmarkText.fn (IntKind.i64.wrap (IntKind.i64.wrap (IntKind.i64.wrap (y1.fst + (1 : Int)) + (1 : Int)) + (1 : Int)), ())) fun z4 =>
        .br (!(l.getD y1.snd.fst.toNat default).digest.toList == z4.fst.toList)
         (.leaf (mkR fheldSlotS.rs ((-1 : Int), ())) [] [])
         (.ob ((0 : Int) ≤ y1.snd.fst ∧ y1.snd.fst < (↑l.length : Int)) <|
          .br ((l.getD y1.snd.fst.toNat default).node !=
  IntKind.i64.wrap
    (IntKind.i64.wrap (IntKind.i64.wrap (IntKind.i64.wrap (y1.fst + (1 : Int)) + (1 : Int)) + (1 : Int)) + (1 : Int)))
          (.leaf (mkR fheldSlotS.rs ((-1 : Int), ())) [] [])
          (.ob ((0 : Int) ≤ y1.snd.fst ∧ y1.snd.fst < (↑l.length : Int)) <|
           .ob ((3 : Int) ≠ (0 : Int)) <|
           .br (!(l.getD y1.snd.fst.toNat default).done ==
    ((IntKind.i64.wrap
            (IntKind.i64.wrap
                (IntKind.i64.wrap (IntKind.i64.wrap (IntKind.i64.wrap (y1.fst + (1 : Int)) + (1 : Int)) + (1 : Int)) +
                  (1 : Int)) +
              (1 : Int))).tmod
        (3 : Int) ==
      (0 : Int)))
           (.leaf (mkR fheldSlotS.rs ((-1 : Int), ())) [] [])
           (.ob ((0 : Int) ≤ y1.snd.fst ∧ y1.snd.fst < (↑l.length : Int)) <|
            .br ((l.getD y1.snd.fst.toNat default).code !=
  IntKind.i64.wrap
    (IntKind.i64.wrap
        (IntKind.i64.wrap
            (IntKind.i64.wrap (IntKind.i64.wrap (IntKind.i64.wrap (y1.fst + (1 : Int)) + (1 : Int)) + (1 : Int)) +
              (1 : Int)) +
          (1 : Int)) +
      (1 : Int)))
            (.leaf (mkR fheldSlotS.rs ((-1 : Int), ())) [] [])
            (.ob ((0 : Int) ≤ y1.snd.fst ∧ y1.snd.fst < (↑l.length : Int)) <|
             .ob (fmarkText.pre
  (IntKind.i64.wrap
      (IntKind.i64.wrap
          (IntKind.i64.wrap
              (IntKind.i64.wrap
                  (IntKind.i64.wrap (IntKind.i64.wrap (IntKind.i64.wrap (y1.fst + (1 : Int)) + (1 : Int)) + (1 : Int)) +
                    (1 : Int)) +
                (1 : Int)) +
            (1 : Int)) +
        (1 : Int)),
    ())) <|
             .lt (ByteArray × PUnit) (fmarkText.fn
  (IntKind.i64.wrap
      (IntKind.i64.wrap
          (IntKind.i64.wrap
              (IntKind.i64.wrap
                  (IntKind.i64.wrap (IntKind.i64.wrap (IntKind.i64.wrap (y1.fst + (1 : Int)) + (1 : Int)) + (1 : Int)) +
                    (1 : Int)) +
                (1 : Int)) +
            (1 : Int)) +
        (1 : Int)),
    ())) fun z5 =>
             .br (!(l.getD y1.snd.fst.toNat default).body.toList == z5.fst.toList)
              (.leaf (mkR fheldSlotS.rs ((-1 : Int), ())) [] [])
              (.ob (l = l) <|
               .ob (bk1 (IntKind.i64.wrap
  (IntKind.i64.wrap
      (IntKind.i64.wrap
          (IntKind.i64.wrap
              (IntKind.i64.wrap
                  (IntKind.i64.wrap (IntKind.i64.wrap (IntKind.i64.wrap (y1.fst + (1 : Int)) + (1 : Int)) + (1 : Int)) +
                    (1 : Int)) +
                (1 : Int)) +
            (1 : Int)) +
        (1 : Int)) +
    (1 : Int)), (IntKind.i64.wrap (y1.snd.fst + (1 : Int)), ()))) <|
               .ok)))))))))
  (.leaf (mkR fheldSlotS.rs (y1.fst, ())) [] [])) (by kernel_rfl) ?_
  refine lpx_i ?_ fun (y1 : Int × Int × PUnit) i1 => br_i (fun h2 => ob_i ?_ fun o3 => br_i (fun h4 => Fct.leafY ?_) (fun h4 => ob_i ?_ fun o5 => ob_i ?_ fun o6 => lt_i (br_i (fun h7 => Fct.leafY ?_) (fun h7 => ob_i ?_ fun o8 => ob_i ?_ fun o9 => lt_i (br_i (fun h10 => Fct.leafY ?_) (fun h10 => ob_i ?_ fun o11 => ob_i ?_ fun o12 => lt_i (br_i (fun h13 => Fct.leafY ?_) (fun h13 => ob_i ?_ fun o14 => br_i (fun h15 => Fct.leafY ?_) (fun h15 => ob_i ?_ fun o16 => ob_i ?_ fun o17 => br_i (fun h18 => Fct.leafY ?_) (fun h18 => ob_i ?_ fun o19 => br_i (fun h20 => Fct.leafY ?_) (fun h20 => ob_i ?_ fun o21 => ob_i ?_ fun o22 => lt_i (br_i (fun h23 => Fct.leafY ?_) (fun h23 => ob_i rfl fun _ => ob_i ?_ fun o24 => trivial))))))))))))) (fun h2 => Fct.leafY ?_)
  · exact ⟨by simp, by simp, by simp [markL]⟩
  all_goals have hp1 : 0 ≤ k := hp.1
  all_goals have hp2 : (markL mkSlot l k).2 ≤ 4000000000000000000 := hp.2.1
  all_goals have hp3 : (markL mkSlot l k).1 = l := hp.2.2
  all_goals have i3 : 0 ≤ y1.2.1 ∧ y1.2.1 ≤ l.length ∧ y1.1 = (markL mkSlot (l.take y1.2.1.toNat) k).2 := i1
  all_goals have hcnt := markL_cnt (f := mkSlot) (fun x k => by simp only [mkSlot]; omega) l k
  all_goals simp only [decide_eq_true_eq, decide_eq_false_iff_not] at h2
  all_goals clear i1 hp
  all_goals try have hlt : y1.2.1.toNat < l.length := by omega
  all_goals try have ht := markL_take (f := mkSlot) hlt k
  all_goals try have hle := (markL_take_le mkSlot_mono l (y1.2.1.toNat + 1) k).2
  all_goals try have hl0 := (markL_take_le mkSlot_mono l y1.2.1.toNat k).1
  all_goals try have heq := markL_held hp3 hlt
  all_goals try rw [ht] at hle
  all_goals try rw [← i3.2.2] at hle hl0 ht heq
  all_goals try simp only [mkSlot] at hle heq
  all_goals first | decide | omega | (refine ⟨?_, ?_⟩ <;> (try simp (discharger := omega) only [wrapId']) <;> omega) | skip
  all_goals try (exfalso; clear ht; generalize l.getD y1.2.1.toNat default = c at *; subst heq; simp (discharger := omega) [wrapId', fmarkText, Int.add_assoc] at *; done)
  · simp (discharger := omega) only [wrapId']
    refine ⟨⟨by omega, by omega, ?_⟩, ?_⟩
    · rw [toNat1 (by omega), ht]
      first | done | (simp only [mkSlot]; done) | (simp only [mkSlot]; omega)
    · omega
  · have e1 : l.take y1.2.1.toNat = l := List.take_of_length_le (by omega)
    rw [e1] at i3
    show (y1.1, ()) = ((markL mkSlot l k).2, ())
    rw [i3.2.2])
def E30 : D.Env := E29.add 127 fheldSlotS
theorem E30ok : EOk Try.prog E30 := E29ok.add k127_29
-- laws.eqModule
set_option maxHeartbeats 2000000 in
theorem k207_30 : feqModule.ok Try.prog 207 := Fct.of (S := feqModule) (L := fun _ _ => none) (kp := [2,3,4,10,15,20,25,1000010,1000015,1000020,1000025]) E30ok Try.func207 (by kernel_rfl) (by kernel_rfl) (by
  rintro ⟨(x : SModule), (y : SModule), _⟩ hp
  refine holds_of (X := .ob (feqAddr.pre (x.to, y.to, ())) <|
 .lt (Bool × PUnit) (feqAddr.fn (x.to, y.to, ())) fun z2 =>
 .br (!z2.fst)
  (.leaf (mkR feqModule.rs (false, ())) [] [])
  (.br (!x.done == y.done)
   (.leaf (mkR feqModule.rs (false, ())) [] [])
   (.br (x.code != y.code)
    (.leaf (mkR feqModule.rs (false, ())) [] [])
    (.br (!x.body.toList == y.body.toList)
     (.leaf (mkR feqModule.rs (false, ())) [] [])
     (.leaf (mkR feqModule.rs (true, ())) [] []))))) (by kernel_rfl) ?_
  refine ob_i trivial fun _ => lt_i (br_i (fun h1 => Fct.leafY ?_) (fun h1 => br_i (fun h2 => Fct.leafY ?_) (fun h2 => br_i (fun h3 => Fct.leafY ?_) (fun h3 => br_i (fun h4 => Fct.leafY ?_) (fun h4 => Fct.leafY ?_)))))
  all_goals try simp only [decide_eq_true_eq, decide_eq_false_iff_not, Bool.not_eq_true', Bool.not_eq_false', bne_iff_ne, bne_eq_false_iff_eq, beq_iff_eq, beq_eq_false_iff_ne, baEq, Int.not_lt, Int.not_le, ne_eq, Decidable.not_not] at *
  all_goals try simp only [feqAddr, feqModule, etaToken, etaNode, etaBuilder, etaPolicy, etaPage, etaVisit, etaTab, etaServer, etaCache, etaNet, etaLoader, etaSheet, etaResult, etaSlot, etaModule, etaAddr, etaRequest, etaResponse, etaConn, etaGuess, etaEntry, etaSent, etaFile, baSz, List.size_toArray, List.length_cons, List.length_nil, Nat.reduceAdd, Int.toNat_zero, List.drop_zero, decide_eq_true_eq, decide_eq_false_iff_not, Bool.not_eq_true', Bool.not_eq_false', bne_iff_ne, bne_eq_false_iff_eq, beq_iff_eq, beq_eq_false_iff_ne, Bool.not_eq_true, Bool.not_eq_false, ne_eq, Decidable.not_not, baEq, decide_not, Prod.mk.injEq, and_true, true_and, Room, List.nil_append, Nat.zero_add, Int.not_lt, Int.not_le] at *
  all_goals first | trivial | (cases x; cases y; simp_all; done) | (simp only [szAddr, szModule] at *; omega) | grind [szAddr, szModule])
def E31 : D.Env := E30.add 207 feqModule
theorem E31ok : EOk Try.prog E31 := E30ok.add k207_30
-- laws.eqModuleS
set_option maxHeartbeats 2000000 in
theorem k193_31 : feqModuleS.ok Try.prog 193 := Fct.of (S := feqModuleS) (L := fun ⟨l, m, _⟩ => fun | 4 => some (LeqS .module l m) | _ => none) (kp := [0,1,4,5,10,14,26,1000010,1000014,1000026]) E31ok Try.func193 (by kernel_rfl) (by kernel_rfl) (by
  rintro ⟨(l : List SModule), (m : List SModule), _⟩ hp
  refine holds_of (X := .br ((↑l.length : Int) != (↑m.length : Int))
 (.leaf (mkR feqModuleS.rs (false, ())) [] [])
 (lpx (LeqS .module l m) ((0 : Int), ()) fun (y2 : Int × PUnit) bk2 =>
  .br (decide (y2.fst < (↑l.length : Int)))
   (.ob ((0 : Int) ≤ y2.fst ∧ y2.fst < (↑l.length : Int)) <|
    .ob ((0 : Int) ≤ y2.fst ∧ y2.fst < (↑m.length : Int)) <|
    .ob (feqModule.pre (l.getD y2.fst.toNat default, m.getD y2.fst.toNat default, ())) <|
    .lt (Bool × PUnit) (feqModule.fn (l.getD y2.fst.toNat default, m.getD y2.fst.toNat default, ())) fun z2 =>
    .br (!z2.fst)
     (.leaf (mkR feqModuleS.rs (false, ())) [] [])
     (.ob (l = l) <|
      .ob (m = m) <|
      .ob (bk2 (IntKind.i64.wrap (y2.fst + (1 : Int)), ())) <|
      .ok))
   (.leaf (mkR feqModuleS.rs (true, ())) [] []))) (by kernel_rfl) ?_
  refine br_i (fun h1 => Fct.leafY ?_) (fun h1 => lpx_i ?_ fun (y2 : Int × PUnit) i2 => br_i (fun h3 => ob_i ?_ fun o4 => ob_i ?_ fun o5 => ob_i trivial fun _ => lt_i (br_i (fun h6 => Fct.leafY ?_) (fun h6 => ob_i rfl fun _ => ob_i rfl fun _ => ob_i ?_ fun o7 => trivial))) (fun h3 => Fct.leafY ?_))
  all_goals try simp only [decide_eq_true_eq, decide_eq_false_iff_not, Bool.not_eq_true', Bool.not_eq_false', bne_iff_ne, bne_eq_false_iff_eq, beq_iff_eq, beq_eq_false_iff_ne, baEq, Int.not_lt, Int.not_le, ne_eq, Decidable.not_not] at *
  all_goals try simp only [LeqS, feqModule, feqModuleS, etaToken, etaNode, etaBuilder, etaPolicy, etaPage, etaVisit, etaTab, etaServer, etaCache, etaNet, etaLoader, etaSheet, etaResult, etaSlot, etaModule, etaAddr, etaRequest, etaResponse, etaConn, etaGuess, etaEntry, etaSent, etaFile, baSz, List.size_toArray, List.length_cons, List.length_nil, Nat.reduceAdd, Int.toNat_zero, List.drop_zero, decide_eq_true_eq, decide_eq_false_iff_not, Bool.not_eq_true', Bool.not_eq_false', bne_iff_ne, bne_eq_false_iff_eq, beq_iff_eq, beq_eq_false_iff_ne, Bool.not_eq_true, Bool.not_eq_false, ne_eq, Decidable.not_not, baEq, decide_not, Prod.mk.injEq, and_true, true_and, Room, List.nil_append, Nat.zero_add, Int.not_lt, Int.not_le] at *
  · rw [decide_eq_false]; rintro rfl; omega
  · exact ⟨by omega, by omega, by simp⟩
  · omega
  · omega
  · rw [decide_eq_false]; rintro rfl; exact absurd rfl h6
  · have hw : IntKind.i64.wrap (y2.1 + 1) = y2.1 + 1 := wrapId (by omega)
    rw [hw, toNat1 (by omega)]
    refine ⟨⟨by omega, by omega, ?_⟩, by omega⟩
    rw [take_succ (by omega), take_succ (by omega), i2.2.2, h6]
  · have e : l.take y2.1.toNat = l := List.take_of_length_le (by omega)
    have e2 : m.take y2.1.toNat = m := List.take_of_length_le (by omega)
    rw [decide_eq_true]; rw [← e, ← e2, i2.2.2])
def E32 : D.Env := E31.add 193 feqModuleS
theorem E32ok : EOk Try.prog E32 := E31ok.add k193_31
-- laws.markModuleS
set_option maxHeartbeats 2000000 in
theorem k122_32 : fmarkModuleS.ok Try.prog 122 := MS.of (S := fmarkModuleS) (L := fun l k => fun | 2 => some (LmkS .module mkModule l k) | _ => none) (kp := [0,1,4,5,9,1000009]) (kl := [0]) E32ok Try.func122 (by kernel_rfl) (by kernel_rfl) (by
  rintro (l : List SModule) (k : Int) hp
  refine holds_of (X := lpx (LmkS .module mkModule l k) (k, ((0 : Int), (l, ()))) fun (y1 : Int × Int × List SModule × PUnit) bk1 =>
 .br (decide (y1.snd.fst < (↑y1.snd.snd.fst.length : Int)))
  (.ob (fmarkText.pre (y1.fst, ())) <|
   .lt (ByteArray × PUnit) (fmarkText.fn (y1.fst, ())) fun z2 =>
   .ob ((0 : Int) ≤ y1.snd.fst ∧ y1.snd.fst < (↑y1.snd.snd.fst.length : Int)) <|
    .ob (y1.snd.fst.toNat < y1.snd.snd.fst.length) <|
    .lt (List SModule) (y1.snd.snd.fst.modify y1.snd.fst.toNat fun z =>
  { to := { host := z2.fst, path := z.to.path : SAddr }, done := z.done, code := z.code, body := z.body : SModule }) fun z3 =>
    .ob (fmarkText.pre (IntKind.i64.wrap (y1.fst + (1 : Int)), ())) <|
     .lt (ByteArray × PUnit) (fmarkText.fn (IntKind.i64.wrap (y1.fst + (1 : Int)), ())) fun z4 =>
     .ob ((0 : Int) ≤ y1.snd.fst ∧ y1.snd.fst < (↑z3.length : Int)) <|
      .ob (y1.snd.fst.toNat < z3.length) <|
      .lt (List SModule) (z3.modify y1.snd.fst.toNat fun z =>
  { to := { host := z.to.host, path := z4.fst : SAddr }, done := z.done, code := z.code, body := z.body : SModule }) fun z5 =>
      .ob ((3 : Int) ≠ (0 : Int)) <|
       .ob ((0 : Int) ≤ y1.snd.fst ∧ y1.snd.fst < (↑z5.length : Int)) <|
       .ob (y1.snd.fst.toNat < z5.length) <|
       .lt (List SModule) (z5.modify y1.snd.fst.toNat fun z =>
  { to := z.to,
    done := (IntKind.i64.wrap (IntKind.i64.wrap (y1.fst + (1 : Int)) + (1 : Int))).tmod (3 : Int) == (0 : Int),
    code := z.code, body := z.body : SModule }) fun z6 =>
       .ob ((0 : Int) ≤ y1.snd.fst ∧ y1.snd.fst < (↑z6.length : Int)) <|
        .ob (y1.snd.fst.toNat < z6.length) <|
        .lt (List SModule) (z6.modify y1.snd.fst.toNat fun z =>
  { to := z.to, done := z.done,
    code := IntKind.i64.wrap (IntKind.i64.wrap (IntKind.i64.wrap (y1.fst + (1 : Int)) + (1 : Int)) + (1 : Int)),
    body := z.body : SModule }) fun z7 =>
        .ob (fmarkText.pre
  (IntKind.i64.wrap
      (IntKind.i64.wrap (IntKind.i64.wrap (IntKind.i64.wrap (y1.fst + (1 : Int)) + (1 : Int)) + (1 : Int)) + (1 : Int)),
    ())) <|
         .lt (ByteArray × PUnit) (fmarkText.fn
  (IntKind.i64.wrap
      (IntKind.i64.wrap (IntKind.i64.wrap (IntKind.i64.wrap (y1.fst + (1 : Int)) + (1 : Int)) + (1 : Int)) + (1 : Int)),
    ())) fun z8 =>
         .ob ((0 : Int) ≤ y1.snd.fst ∧ y1.snd.fst < (↑z7.length : Int)) <|
          .ob (y1.snd.fst.toNat < z7.length) <|
          .lt (List SModule) (z7.modify y1.snd.fst.toNat fun z => { to := z.to, done := z.done, code := z.code, body := z8.fst : SModule }) fun z9 =>
          .ob (Value.int IntKind.i64 (0 : Int) = Value.int IntKind.i64 (0 : Int)) <|
           .ob (bk1 (IntKind.i64.wrap
  (IntKind.i64.wrap
      (IntKind.i64.wrap (IntKind.i64.wrap (IntKind.i64.wrap (y1.fst + (1 : Int)) + (1 : Int)) + (1 : Int)) +
        (1 : Int)) +
    (1 : Int)), (IntKind.i64.wrap (y1.snd.fst + (1 : Int)), (z9, ())))) <|
           .ok)
  (.leaf (.one false [vi (y1.fst)]) [] [((0 : Nat), ⟨Ty.module, y1.snd.snd.fst⟩)])) (by kernel_rfl) ?_
  refine lpx_i ?_ fun (y1 : Int × Int × List SModule × PUnit) i1 => br_i (fun h2 => ob_i ?_ fun o3 => lt_i (ob_i ?_ fun o4 => ob_i ?_ fun o5 => lt_i (ob_i ?_ fun o6 => lt_i (ob_i ?_ fun o7 => ob_i ?_ fun o8 => lt_i (ob_i ?_ fun o9 => ob_i ?_ fun o10 => ob_i ?_ fun o11 => lt_i (ob_i ?_ fun o12 => ob_i ?_ fun o13 => lt_i (ob_i ?_ fun o14 => lt_i (ob_i ?_ fun o15 => ob_i ?_ fun o16 => lt_i (ob_i rfl fun _ => ob_i ?_ fun o17 => trivial))))))))) (fun h2 => MS.leaf ?_)
  · exact ⟨by simp, by simp, by simp [markL], by simp [markL]⟩
  all_goals have hp1 : 0 ≤ k := hp.1
  all_goals have hp2 : (markL mkModule l k).2 ≤ 4000000000000000000 := hp.2
  all_goals have i3 : 0 ≤ y1.2.1 ∧ y1.2.1 ≤ l.length ∧ y1.1 = (markL mkModule (l.take y1.2.1.toNat) k).2 ∧ y1.2.2.1 = (markL mkModule (l.take y1.2.1.toNat) k).1 ++ l.drop y1.2.1.toNat := i1
  all_goals have hcnt := markL_cnt (f := mkModule) (fun x k => by simp only [mkModule]; omega) l k
  all_goals have hx : y1.2.2.1.length = l.length := by rw [i3.2.2.2, List.length_append, markL_len, List.length_take, List.length_drop]; omega
  all_goals simp only [decide_eq_true_eq, decide_eq_false_iff_not, hx] at h2
  all_goals clear i1
  all_goals try have hlt : y1.2.1.toNat < l.length := by omega
  all_goals try have ht := markL_take (f := mkModule) hlt k
  all_goals try have hle := (markL_take_le mkModule_mono l (y1.2.1.toNat + 1) k).2
  all_goals try have hl0 := (markL_take_le mkModule_mono l y1.2.1.toNat k).1
  all_goals try rw [ht] at hle
  all_goals try rw [← i3.2.2.1] at hle hl0 ht
  all_goals try simp only [mkModule] at hle
  all_goals first | decide | (simp only [List.length_modify, hx]; omega) | (refine ⟨?_, ?_⟩ <;> (try simp (discharger := omega) only [wrapId']) <;> omega) | skip
  · try clear o3 o4 o5
    simp (discharger := omega) only [wrapId', fmarkText]
    have hA : (markL mkModule (l.take y1.2.1.toNat) k).1.length = y1.2.1.toNat := by rw [markL_len, List.length_take]; omega
    refine ⟨⟨by omega, by omega, ?_, ?_⟩, ?_⟩
    · rw [toNat1 (by omega), ht]
      first | done | (simp only [mkModule]; done) | (simp only [mkModule]; omega)
    · rw [toNat1 (by omega), ht, i3.2.2.2, drop_cons hlt]
      simp only [mod_at hA, mkModule, Int.add_assoc, Int.reduceAdd, List.append_assoc, List.cons_append, List.nil_append]
    · omega
  · refine MS.leafL (t := .module) (fn := fun l k => markL mkModule l k) ?_
    have e1 : l.take y1.2.1.toNat = l := List.take_of_length_le (by omega)
    have e2 : l.drop y1.2.1.toNat = [] := List.drop_of_length_le (by omega)
    rw [i3.2.2.2, i3.2.2.1, e1, e2, List.append_nil])
def E33 : D.Env := E32.addM 122 fmarkModuleS
theorem E33ok : EOk Try.prog E33 := E32ok.addM k122_32
-- laws.heldModuleS
set_option maxHeartbeats 2000000 in
theorem k128_33 : fheldModuleS.ok Try.prog 128 := Fct.of (S := fheldModuleS) (L := fun ⟨l, k, _⟩ => fun | 2 => some (LheS .module mkModule l k) | _ => none) (kp := [0,1,4,5,9,20,31,42,51,61,1000009,1000020,1000031,1000042,1000051,1000061]) E33ok Try.func128 (by kernel_rfl) (by kernel_rfl) (by
  rintro ⟨(l : List SModule), (k : Int), _⟩ hp
  refine holds_of (X := lpx (LheS .module mkModule l k) (k, ((0 : Int), ())) fun (y1 : Int × Int × PUnit) bk1 =>
 .br (decide (y1.snd.fst < (↑l.length : Int)))
  (.ob ((0 : Int) ≤ y1.snd.fst ∧ y1.snd.fst < (↑l.length : Int)) <|
   .ob (fmarkText.pre (y1.fst, ())) <|
   .lt (ByteArray × PUnit) (fmarkText.fn (y1.fst, ())) fun z2 =>
   .br (!(l.getD y1.snd.fst.toNat default).to.host.toList == z2.fst.toList)
    (.leaf (mkR fheldModuleS.rs ((-1 : Int), ())) [] [])
    (.ob ((0 : Int) ≤ y1.snd.fst ∧ y1.snd.fst < (↑l.length : Int)) <|
     .ob (fmarkText.pre (IntKind.i64.wrap (y1.fst + (1 : Int)), ())) <|
     .lt (ByteArray × PUnit) (fmarkText.fn (IntKind.i64.wrap (y1.fst + (1 : Int)), ())) fun z3 =>
     .br (!(l.getD y1.snd.fst.toNat default).to.path.toList == z3.fst.toList)
      (.leaf (mkR fheldModuleS.rs ((-1 : Int), ())) [] [])
      (.ob ((0 : Int) ≤ y1.snd.fst ∧ y1.snd.fst < (↑l.length : Int)) <|
       .ob ((3 : Int) ≠ (0 : Int)) <|
       .br (!(l.getD y1.snd.fst.toNat default).done ==
    ((IntKind.i64.wrap (IntKind.i64.wrap (y1.fst + (1 : Int)) + (1 : Int))).tmod (3 : Int) == (0 : Int)))
       (.leaf (mkR fheldModuleS.rs ((-1 : Int), ())) [] [])
       (.ob ((0 : Int) ≤ y1.snd.fst ∧ y1.snd.fst < (↑l.length : Int)) <|
        .br ((l.getD y1.snd.fst.toNat default).code !=
  IntKind.i64.wrap (IntKind.i64.wrap (IntKind.i64.wrap (y1.fst + (1 : Int)) + (1 : Int)) + (1 : Int)))
        (.leaf (mkR fheldModuleS.rs ((-1 : Int), ())) [] [])
        (.ob ((0 : Int) ≤ y1.snd.fst ∧ y1.snd.fst < (↑l.length : Int)) <|
         .ob (fmarkText.pre
  (IntKind.i64.wrap
      (IntKind.i64.wrap (IntKind.i64.wrap (IntKind.i64.wrap (y1.fst + (1 : Int)) + (1 : Int)) + (1 : Int)) + (1 : Int)),
    ())) <|
         .lt (ByteArray × PUnit) (fmarkText.fn
  (IntKind.i64.wrap
      (IntKind.i64.wrap (IntKind.i64.wrap (IntKind.i64.wrap (y1.fst + (1 : Int)) + (1 : Int)) + (1 : Int)) + (1 : Int)),
    ())) fun z4 =>
         .br (!(l.getD y1.snd.fst.toNat default).body.toList == z4.fst.toList)
          (.leaf (mkR fheldModuleS.rs ((-1 : Int), ())) [] [])
          (.ob (l = l) <|
           .ob (bk1 (IntKind.i64.wrap
  (IntKind.i64.wrap
      (IntKind.i64.wrap (IntKind.i64.wrap (IntKind.i64.wrap (y1.fst + (1 : Int)) + (1 : Int)) + (1 : Int)) +
        (1 : Int)) +
    (1 : Int)), (IntKind.i64.wrap (y1.snd.fst + (1 : Int)), ()))) <|
           .ok))))))
  (.leaf (mkR fheldModuleS.rs (y1.fst, ())) [] [])) (by kernel_rfl) ?_
  refine lpx_i ?_ fun (y1 : Int × Int × PUnit) i1 => br_i (fun h2 => ob_i ?_ fun o3 => ob_i ?_ fun o4 => lt_i (br_i (fun h5 => Fct.leafY ?_) (fun h5 => ob_i ?_ fun o6 => ob_i ?_ fun o7 => lt_i (br_i (fun h8 => Fct.leafY ?_) (fun h8 => ob_i ?_ fun o9 => ob_i ?_ fun o10 => br_i (fun h11 => Fct.leafY ?_) (fun h11 => ob_i ?_ fun o12 => br_i (fun h13 => Fct.leafY ?_) (fun h13 => ob_i ?_ fun o14 => ob_i ?_ fun o15 => lt_i (br_i (fun h16 => Fct.leafY ?_) (fun h16 => ob_i rfl fun _ => ob_i ?_ fun o17 => trivial))))))))) (fun h2 => Fct.leafY ?_)
  · exact ⟨by simp, by simp, by simp [markL]⟩
  all_goals have hp1 : 0 ≤ k := hp.1
  all_goals have hp2 : (markL mkModule l k).2 ≤ 4000000000000000000 := hp.2.1
  all_goals have hp3 : (markL mkModule l k).1 = l := hp.2.2
  all_goals have i3 : 0 ≤ y1.2.1 ∧ y1.2.1 ≤ l.length ∧ y1.1 = (markL mkModule (l.take y1.2.1.toNat) k).2 := i1
  all_goals have hcnt := markL_cnt (f := mkModule) (fun x k => by simp only [mkModule]; omega) l k
  all_goals simp only [decide_eq_true_eq, decide_eq_false_iff_not] at h2
  all_goals clear i1 hp
  all_goals try have hlt : y1.2.1.toNat < l.length := by omega
  all_goals try have ht := markL_take (f := mkModule) hlt k
  all_goals try have hle := (markL_take_le mkModule_mono l (y1.2.1.toNat + 1) k).2
  all_goals try have hl0 := (markL_take_le mkModule_mono l y1.2.1.toNat k).1
  all_goals try have heq := markL_held hp3 hlt
  all_goals try rw [ht] at hle
  all_goals try rw [← i3.2.2] at hle hl0 ht heq
  all_goals try simp only [mkModule] at hle heq
  all_goals first | decide | omega | (refine ⟨?_, ?_⟩ <;> (try simp (discharger := omega) only [wrapId']) <;> omega) | skip
  all_goals try (exfalso; clear ht; generalize l.getD y1.2.1.toNat default = c at *; subst heq; simp (discharger := omega) [wrapId', fmarkText, Int.add_assoc] at *; done)
  · simp (discharger := omega) only [wrapId']
    refine ⟨⟨by omega, by omega, ?_⟩, ?_⟩
    · rw [toNat1 (by omega), ht]
      first | done | (simp only [mkModule]; done) | (simp only [mkModule]; omega)
    · omega
  · have e1 : l.take y1.2.1.toNat = l := List.take_of_length_le (by omega)
    rw [e1] at i3
    show (y1.1, ()) = ((markL mkModule l k).2, ())
    rw [i3.2.2])
def E34 : D.Env := E33.add 128 fheldModuleS
theorem E34ok : EOk Try.prog E34 := E33ok.add k128_33
-- laws.eqPage
set_option maxHeartbeats 2000000 in
theorem k160_34 : feqPage.ok Try.prog 160 := Fct.of (S := feqPage) (L := fun _ _ => none) (kp := [2,3,4,10,16,22,28,33,39,45,51,57,62,67,72,77,83,89,94,1000010,1000016,1000022,1000028,1000033,1000039,1000045,1000051,1000057,1000062,1000067,1000072,1000077,1000083,1000089,1000094]) E34ok Try.func160 (by kernel_rfl) (by kernel_rfl) (by
  rintro ⟨(x : SPage), (y : SPage), _⟩ hp
  refine holds_of (X := .ob (feqAddr.pre (x.addr, y.addr, ())) <|
 .lt (Bool × PUnit) (feqAddr.fn (x.addr, y.addr, ())) fun z2 =>
 .br (!z2.fst)
  (.leaf (mkR feqPage.rs (false, ())) [] [])
  (.ob (feqPolicy.pre (x.policy, y.policy, ())) <|
   .lt (Bool × PUnit) (feqPolicy.fn (x.policy, y.policy, ())) fun z3 =>
   .br (!z3.fst)
    (.leaf (mkR feqPage.rs (false, ())) [] [])
    (.ob (feqTokenizer.pre (x.tok, y.tok, ())) <|
     .lt (Bool × PUnit) (feqTokenizer.fn (x.tok, y.tok, ())) fun z4 =>
     .br (!z4.fst)
      (.leaf (mkR feqPage.rs (false, ())) [] [])
      (.ob (feqTokenS.pre (x.queue, y.queue, ())) <|
       .lt (Bool × PUnit) (feqTokenS.fn (x.queue, y.queue, ())) fun z5 =>
       .br (!z5.fst)
        (.leaf (mkR feqPage.rs (false, ())) [] [])
        (.br (!x.ended == y.ended)
         (.leaf (mkR feqPage.rs (false, ())) [] [])
         (.ob (feqBuilder.pre (x.builder, y.builder, ())) <|
          .lt (Bool × PUnit) (feqBuilder.fn (x.builder, y.builder, ())) fun z6 =>
          .br (!z6.fst)
           (.leaf (mkR feqPage.rs (false, ())) [] [])
           (.ob (feqSlotS.pre (x.slots, y.slots, ())) <|
            .lt (Bool × PUnit) (feqSlotS.fn (x.slots, y.slots, ())) fun z7 =>
            .br (!z7.fst)
             (.leaf (mkR feqPage.rs (false, ())) [] [])
             (.ob (feqModuleS.pre (x.mods, y.mods, ())) <|
              .lt (Bool × PUnit) (feqModuleS.fn (x.mods, y.mods, ())) fun z8 =>
              .br (!z8.fst)
               (.leaf (mkR feqPage.rs (false, ())) [] [])
               (.ob (feqAddrS.pre (x.entries, y.entries, ())) <|
                .lt (Bool × PUnit) (feqAddrS.fn (x.entries, y.entries, ())) fun z9 =>
                .br (!z9.fst)
                 (.leaf (mkR feqPage.rs (false, ())) [] [])
                 (.br (x.block != y.block)
                  (.leaf (mkR feqPage.rs (false, ())) [] [])
                  (.br (x.inline != y.inline)
                   (.leaf (mkR feqPage.rs (false, ())) [] [])
                   (.br (x.deferred != y.deferred)
                    (.leaf (mkR feqPage.rs (false, ())) [] [])
                    (.br (x.entered != y.entered)
                     (.leaf (mkR feqPage.rs (false, ())) [] [])
                     (.ob (feqAddrS.pre (x.ran, y.ran, ())) <|
                      .lt (Bool × PUnit) (feqAddrS.fn (x.ran, y.ran, ())) fun z10 =>
                      .br (!z10.fst)
                       (.leaf (mkR feqPage.rs (false, ())) [] [])
                       (.ob (feqStringS.pre (x.log, y.log, ())) <|
                        .lt (Bool × PUnit) (feqStringS.fn (x.log, y.log, ())) fun z11 =>
                        .br (!z11.fst)
                         (.leaf (mkR feqPage.rs (false, ())) [] [])
                         (.br (!x.loaded == y.loaded)
                          (.leaf (mkR feqPage.rs (false, ())) [] [])
                          (.leaf (mkR feqPage.rs (true, ())) [] []))))))))))))))))) (by kernel_rfl) ?_
  refine ob_i trivial fun _ => lt_i (br_i (fun h1 => Fct.leafY ?_) (fun h1 => ob_i ?_ fun o2 => lt_i (br_i (fun h3 => Fct.leafY ?_) (fun h3 => ob_i trivial fun _ => lt_i (br_i (fun h4 => Fct.leafY ?_) (fun h4 => ob_i ?_ fun o5 => lt_i (br_i (fun h6 => Fct.leafY ?_) (fun h6 => br_i (fun h7 => Fct.leafY ?_) (fun h7 => ob_i ?_ fun o8 => lt_i (br_i (fun h9 => Fct.leafY ?_) (fun h9 => ob_i ?_ fun o10 => lt_i (br_i (fun h11 => Fct.leafY ?_) (fun h11 => ob_i ?_ fun o12 => lt_i (br_i (fun h13 => Fct.leafY ?_) (fun h13 => ob_i ?_ fun o14 => lt_i (br_i (fun h15 => Fct.leafY ?_) (fun h15 => br_i (fun h16 => Fct.leafY ?_) (fun h16 => br_i (fun h17 => Fct.leafY ?_) (fun h17 => br_i (fun h18 => Fct.leafY ?_) (fun h18 => br_i (fun h19 => Fct.leafY ?_) (fun h19 => ob_i ?_ fun o20 => lt_i (br_i (fun h21 => Fct.leafY ?_) (fun h21 => ob_i ?_ fun o22 => lt_i (br_i (fun h23 => Fct.leafY ?_) (fun h23 => br_i (fun h24 => Fct.leafY ?_) (fun h24 => Fct.leafY ?_))))))))))))))))))))))))))
  all_goals try simp only [decide_eq_true_eq, decide_eq_false_iff_not, Bool.not_eq_true', Bool.not_eq_false', bne_iff_ne, bne_eq_false_iff_eq, beq_iff_eq, beq_eq_false_iff_ne, baEq, Int.not_lt, Int.not_le, ne_eq, Decidable.not_not] at *
  all_goals try simp only [feqAddr, feqAddrS, feqBuilder, feqModuleS, feqPage, feqPolicy, feqSlotS, feqStringS, feqTokenS, feqTokenizer, etaToken, etaNode, etaBuilder, etaPolicy, etaPage, etaVisit, etaTab, etaServer, etaCache, etaNet, etaLoader, etaSheet, etaResult, etaSlot, etaModule, etaAddr, etaRequest, etaResponse, etaConn, etaGuess, etaEntry, etaSent, etaFile, baSz, List.size_toArray, List.length_cons, List.length_nil, Nat.reduceAdd, Int.toNat_zero, List.drop_zero, decide_eq_true_eq, decide_eq_false_iff_not, Bool.not_eq_true', Bool.not_eq_false', bne_iff_ne, bne_eq_false_iff_eq, beq_iff_eq, beq_eq_false_iff_ne, Bool.not_eq_true, Bool.not_eq_false, ne_eq, Decidable.not_not, baEq, decide_not, Prod.mk.injEq, and_true, true_and, Room, List.nil_append, Nat.zero_add, Int.not_lt, Int.not_le] at *
  all_goals first | trivial | (cases x; cases y; simp_all; done) | (simp only [szAddr, szBuilder, szL, szPage, szPolicy, szTokenizer] at *; omega) | grind [szAddr, szBuilder, szL, szPage, szPolicy, szTokenizer])
def E35 : D.Env := E34.add 160 feqPage
theorem E35ok : EOk Try.prog E35 := E34ok.add k160_34
-- laws.eqVisit
set_option maxHeartbeats 2000000 in
theorem k118_35 : feqVisit.ok Try.prog 118 := Fct.of (S := feqVisit) (L := fun _ _ => none) (kp := [2,3,4,10,16,21,1000010,1000016,1000021]) E35ok Try.func118 (by kernel_rfl) (by kernel_rfl) (by
  rintro ⟨(x : SVisit), (y : SVisit), _⟩ hp
  refine holds_of (X := .ob (feqAddr.pre (x.addr, y.addr, ())) <|
 .lt (Bool × PUnit) (feqAddr.fn (x.addr, y.addr, ())) fun z2 =>
 .br (!z2.fst)
  (.leaf (mkR feqVisit.rs (false, ())) [] [])
  (.ob (feqPage.pre (x.page, y.page, ())) <|
   .lt (Bool × PUnit) (feqPage.fn (x.page, y.page, ())) fun z3 =>
   .br (!z3.fst)
    (.leaf (mkR feqVisit.rs (false, ())) [] [])
    (.br (!x.kept == y.kept)
     (.leaf (mkR feqVisit.rs (false, ())) [] [])
     (.leaf (mkR feqVisit.rs (true, ())) [] [])))) (by kernel_rfl) ?_
  refine ob_i trivial fun _ => lt_i (br_i (fun h1 => Fct.leafY ?_) (fun h1 => ob_i ?_ fun o2 => lt_i (br_i (fun h3 => Fct.leafY ?_) (fun h3 => br_i (fun h4 => Fct.leafY ?_) (fun h4 => Fct.leafY ?_)))))
  all_goals try simp only [decide_eq_true_eq, decide_eq_false_iff_not, Bool.not_eq_true', Bool.not_eq_false', bne_iff_ne, bne_eq_false_iff_eq, beq_iff_eq, beq_eq_false_iff_ne, baEq, Int.not_lt, Int.not_le, ne_eq, Decidable.not_not] at *
  all_goals try simp only [feqAddr, feqPage, feqVisit, etaToken, etaNode, etaBuilder, etaPolicy, etaPage, etaVisit, etaTab, etaServer, etaCache, etaNet, etaLoader, etaSheet, etaResult, etaSlot, etaModule, etaAddr, etaRequest, etaResponse, etaConn, etaGuess, etaEntry, etaSent, etaFile, baSz, List.size_toArray, List.length_cons, List.length_nil, Nat.reduceAdd, Int.toNat_zero, List.drop_zero, decide_eq_true_eq, decide_eq_false_iff_not, Bool.not_eq_true', Bool.not_eq_false', bne_iff_ne, bne_eq_false_iff_eq, beq_iff_eq, beq_eq_false_iff_ne, Bool.not_eq_true, Bool.not_eq_false, ne_eq, Decidable.not_not, baEq, decide_not, Prod.mk.injEq, and_true, true_and, Room, List.nil_append, Nat.zero_add, Int.not_lt, Int.not_le] at *
  all_goals first | trivial | (cases x; cases y; simp_all; done) | (simp only [szAddr, szPage, szVisit] at *; omega) | grind [szAddr, szPage, szVisit])
def E36 : D.Env := E35.add 118 feqVisit
theorem E36ok : EOk Try.prog E36 := E35ok.add k118_35
-- laws.eqVisitS
set_option maxHeartbeats 2000000 in
theorem k85_36 : feqVisitS.ok Try.prog 85 := Fct.of (S := feqVisitS) (L := fun ⟨l, m, _⟩ => fun | 4 => some (LeqS .visit l m) | _ => none) (kp := [0,1,4,5,10,14,26,1000010,1000014,1000026]) E36ok Try.func85 (by kernel_rfl) (by kernel_rfl) (by
  rintro ⟨(l : List SVisit), (m : List SVisit), _⟩ hp
  refine holds_of (X := .br ((↑l.length : Int) != (↑m.length : Int))
 (.leaf (mkR feqVisitS.rs (false, ())) [] [])
 (lpx (LeqS .visit l m) ((0 : Int), ()) fun (y2 : Int × PUnit) bk2 =>
  .br (decide (y2.fst < (↑l.length : Int)))
   (.ob ((0 : Int) ≤ y2.fst ∧ y2.fst < (↑l.length : Int)) <|
    .ob ((0 : Int) ≤ y2.fst ∧ y2.fst < (↑m.length : Int)) <|
    .ob (feqVisit.pre (l.getD y2.fst.toNat default, m.getD y2.fst.toNat default, ())) <|
    .lt (Bool × PUnit) (feqVisit.fn (l.getD y2.fst.toNat default, m.getD y2.fst.toNat default, ())) fun z2 =>
    .br (!z2.fst)
     (.leaf (mkR feqVisitS.rs (false, ())) [] [])
     (.ob (l = l) <|
      .ob (m = m) <|
      .ob (bk2 (IntKind.i64.wrap (y2.fst + (1 : Int)), ())) <|
      .ok))
   (.leaf (mkR feqVisitS.rs (true, ())) [] []))) (by kernel_rfl) ?_
  refine br_i (fun h1 => Fct.leafY ?_) (fun h1 => lpx_i ?_ fun (y2 : Int × PUnit) i2 => br_i (fun h3 => ob_i ?_ fun o4 => ob_i ?_ fun o5 => ob_i ?_ fun o6 => lt_i (br_i (fun h7 => Fct.leafY ?_) (fun h7 => ob_i rfl fun _ => ob_i rfl fun _ => ob_i ?_ fun o8 => trivial))) (fun h3 => Fct.leafY ?_))
  all_goals try simp only [decide_eq_true_eq, decide_eq_false_iff_not, Bool.not_eq_true', Bool.not_eq_false', bne_iff_ne, bne_eq_false_iff_eq, beq_iff_eq, beq_eq_false_iff_ne, baEq, Int.not_lt, Int.not_le, ne_eq, Decidable.not_not] at *
  all_goals try simp only [LeqS, feqVisit, feqVisitS, etaToken, etaNode, etaBuilder, etaPolicy, etaPage, etaVisit, etaTab, etaServer, etaCache, etaNet, etaLoader, etaSheet, etaResult, etaSlot, etaModule, etaAddr, etaRequest, etaResponse, etaConn, etaGuess, etaEntry, etaSent, etaFile, baSz, List.size_toArray, List.length_cons, List.length_nil, Nat.reduceAdd, Int.toNat_zero, List.drop_zero, decide_eq_true_eq, decide_eq_false_iff_not, Bool.not_eq_true', Bool.not_eq_false', bne_iff_ne, bne_eq_false_iff_eq, beq_iff_eq, beq_eq_false_iff_ne, Bool.not_eq_true, Bool.not_eq_false, ne_eq, Decidable.not_not, baEq, decide_not, Prod.mk.injEq, and_true, true_and, Room, List.nil_append, Nat.zero_add, Int.not_lt, Int.not_le] at *
  all_goals have hl := szL_len szVisit l
  · rw [decide_eq_false]; rintro rfl; omega
  · exact ⟨by omega, by omega, by simp⟩
  · omega
  · omega
  · have hs := szL_get szVisit (l := l) (i := y2.1.toNat) (by omega); omega
  · rw [decide_eq_false]; rintro rfl; first | exact absurd rfl h6 | exact absurd rfl h7
  · have hw : IntKind.i64.wrap (y2.1 + 1) = y2.1 + 1 := wrapId (by omega)
    rw [hw, toNat1 (by omega)]
    refine ⟨⟨by omega, by omega, ?_⟩, by omega⟩
    rw [take_succ (by omega), take_succ (by omega), i2.2.2]; first | rw [h6] | rw [h7]
  · have e : l.take y2.1.toNat = l := List.take_of_length_le (by omega)
    have e2 : m.take y2.1.toNat = m := List.take_of_length_le (by omega)
    rw [decide_eq_true]; rw [← e, ← e2, i2.2.2])
def E37 : D.Env := E36.add 85 feqVisitS
theorem E37ok : EOk Try.prog E37 := E36ok.add k85_36
-- laws.markVisitS
set_option maxHeartbeats 0 in
theorem k86_37 : fmarkVisitS.ok Try.prog 86 := MS.of (S := fmarkVisitS) (L := fun l k => fun | 2 => some (LmkS .visit mkVisit l k) | _ => none) (kp := [0,1,4,5,9,1000009]) (kl := [0]) E37ok Try.func86 (by kernel_rfl) (by kernel_rfl) (by
  rintro (l : List SVisit) (k : Int) hp
  refine holds_of (X := lpx (LmkS .visit mkVisit l k) (k, ((0 : Int), (l, ()))) fun (y1 : Int × Int × List SVisit × PUnit) bk1 =>
 .br (decide (y1.snd.fst < (↑y1.snd.snd.fst.length : Int)))
  (.ob (fmarkText.pre (y1.fst, ())) <|
   .lt (ByteArray × PUnit) (fmarkText.fn (y1.fst, ())) fun z2 =>
   .ob ((0 : Int) ≤ y1.snd.fst ∧ y1.snd.fst < (↑y1.snd.snd.fst.length : Int)) <|
    .ob (y1.snd.fst.toNat < y1.snd.snd.fst.length) <|
    .lt (List SVisit) (y1.snd.snd.fst.modify y1.snd.fst.toNat fun z =>
  { addr := { host := z2.fst, path := z.addr.path : SAddr }, page := z.page, kept := z.kept : SVisit }) fun z3 =>
    .ob (fmarkText.pre (IntKind.i64.wrap (y1.fst + (1 : Int)), ())) <|
     .lt (ByteArray × PUnit) (fmarkText.fn (IntKind.i64.wrap (y1.fst + (1 : Int)), ())) fun z4 =>
     .ob ((0 : Int) ≤ y1.snd.fst ∧ y1.snd.fst < (↑z3.length : Int)) <|
      .ob (y1.snd.fst.toNat < z3.length) <|
      .lt (List SVisit) (z3.modify y1.snd.fst.toNat fun z =>
  { addr := { host := z.addr.host, path := z4.fst : SAddr }, page := z.page, kept := z.kept : SVisit }) fun z5 =>
      .ob (fmarkText.pre (IntKind.i64.wrap (IntKind.i64.wrap (y1.fst + (1 : Int)) + (1 : Int)), ())) <|
       .lt (ByteArray × PUnit) (fmarkText.fn (IntKind.i64.wrap (IntKind.i64.wrap (y1.fst + (1 : Int)) + (1 : Int)), ())) fun z6 =>
       .ob ((0 : Int) ≤ y1.snd.fst ∧ y1.snd.fst < (↑z5.length : Int)) <|
        .ob (y1.snd.fst.toNat < z5.length) <|
        .lt (List SVisit) (z5.modify y1.snd.fst.toNat fun z =>
  { addr := z.addr,
    page :=
      { addr := { host := z6.fst, path := z.page.addr.path : SAddr }, policy := z.page.policy, tok := z.page.tok,
        queue := z.page.queue, ended := z.page.ended, builder := z.page.builder, slots := z.page.slots,
        mods := z.page.mods, entries := z.page.entries, block := z.page.block, inline := z.page.inline,
        deferred := z.page.deferred, entered := z.page.entered, ran := z.page.ran, log := z.page.log,
        loaded := z.page.loaded : SPage },
    kept := z.kept : SVisit }) fun z7 =>
        .ob (fmarkText.pre (IntKind.i64.wrap (IntKind.i64.wrap (IntKind.i64.wrap (y1.fst + (1 : Int)) + (1 : Int)) + (1 : Int)), ())) <|
         .lt (ByteArray × PUnit) (fmarkText.fn (IntKind.i64.wrap (IntKind.i64.wrap (IntKind.i64.wrap (y1.fst + (1 : Int)) + (1 : Int)) + (1 : Int)), ())) fun z8 =>
         .ob ((0 : Int) ≤ y1.snd.fst ∧ y1.snd.fst < (↑z7.length : Int)) <|
          .ob (y1.snd.fst.toNat < z7.length) <|
          .lt (List SVisit) (z7.modify y1.snd.fst.toNat fun z =>
  { addr := z.addr,
    page :=
      { addr := { host := z.page.addr.host, path := z8.fst : SAddr }, policy := z.page.policy, tok := z.page.tok,
        queue := z.page.queue, ended := z.page.ended, builder := z.page.builder, slots := z.page.slots,
        mods := z.page.mods, entries := z.page.entries, block := z.page.block, inline := z.page.inline,
        deferred := z.page.deferred, entered := z.page.entered, ran := z.page.ran, log := z.page.log,
        loaded := z.page.loaded : SPage },
    kept := z.kept : SVisit }) fun z9 =>
          .ob ((3 : Int) ≠ (0 : Int)) <|
           .ob ((0 : Int) ≤ y1.snd.fst ∧ y1.snd.fst < (↑z9.length : Int)) <|
           .ob (y1.snd.fst.toNat < z9.length) <|
           .lt (List SVisit) (z9.modify y1.snd.fst.toNat fun z =>
  { addr := z.addr,
    page :=
      { addr := z.page.addr,
        policy :=
          {
            set_ :=
              (IntKind.i64.wrap
                      (IntKind.i64.wrap
                          (IntKind.i64.wrap (IntKind.i64.wrap (y1.fst + (1 : Int)) + (1 : Int)) + (1 : Int)) +
                        (1 : Int))).tmod
                  (3 : Int) ==
                (0 : Int),
            scripts := z.page.policy.scripts, styles := z.page.policy.styles, images := z.page.policy.images,
            nonce := z.page.policy.nonce : SPolicy },
        tok := z.page.tok, queue := z.page.queue, ended := z.page.ended, builder := z.page.builder,
        slots := z.page.slots, mods := z.page.mods, entries := z.page.entries, block := z.page.block,
        inline := z.page.inline, deferred := z.page.deferred, entered := z.page.entered, ran := z.page.ran,
        log := z.page.log, loaded := z.page.loaded : SPage },
    kept := z.kept : SVisit }) fun z10 =>
           .ob ((0 : Int) ≤ y1.snd.fst ∧ y1.snd.fst < (↑z10.length : Int)) <|
            .ob (y1.snd.fst.toNat < z10.length) <|
            .ob (fmarkStringS.pre (z10.getD y1.snd.fst.toNat default).page.policy.scripts
  (IntKind.i64.wrap
    (IntKind.i64.wrap
        (IntKind.i64.wrap (IntKind.i64.wrap (IntKind.i64.wrap (y1.fst + (1 : Int)) + (1 : Int)) + (1 : Int)) +
          (1 : Int)) +
      (1 : Int)))) <|
            .lt (List ByteArray × Int) (fmarkStringS.fn (z10.getD y1.snd.fst.toNat default).page.policy.scripts
  (IntKind.i64.wrap
    (IntKind.i64.wrap
        (IntKind.i64.wrap (IntKind.i64.wrap (IntKind.i64.wrap (y1.fst + (1 : Int)) + (1 : Int)) + (1 : Int)) +
          (1 : Int)) +
      (1 : Int)))) fun z11 =>
            .lt (List SVisit) (z10.modify y1.snd.fst.toNat fun z =>
  { addr := z.addr,
    page :=
      { addr := z.page.addr,
        policy :=
          { set_ := z.page.policy.set_, scripts := z11.fst, styles := z.page.policy.styles,
            images := z.page.policy.images, nonce := z.page.policy.nonce : SPolicy },
        tok := z.page.tok, queue := z.page.queue, ended := z.page.ended, builder := z.page.builder,
        slots := z.page.slots, mods := z.page.mods, entries := z.page.entries, block := z.page.block,
        inline := z.page.inline, deferred := z.page.deferred, entered := z.page.entered, ran := z.page.ran,
        log := z.page.log, loaded := z.page.loaded : SPage },
    kept := z.kept : SVisit }) fun z12 =>
             .ob ((0 : Int) ≤ y1.snd.fst ∧ y1.snd.fst < (↑z12.length : Int)) <|
              .ob (y1.snd.fst.toNat < z12.length) <|
              .ob (fmarkStringS.pre (z12.getD y1.snd.fst.toNat default).page.policy.styles z11.snd) <|
              .lt (List ByteArray × Int) (fmarkStringS.fn (z12.getD y1.snd.fst.toNat default).page.policy.styles z11.snd) fun z13 =>
              .lt (List SVisit) (z12.modify y1.snd.fst.toNat fun z =>
  { addr := z.addr,
    page :=
      { addr := z.page.addr,
        policy :=
          { set_ := z.page.policy.set_, scripts := z.page.policy.scripts, styles := z13.fst,
            images := z.page.policy.images, nonce := z.page.policy.nonce : SPolicy },
        tok := z.page.tok, queue := z.page.queue, ended := z.page.ended, builder := z.page.builder,
        slots := z.page.slots, mods := z.page.mods, entries := z.page.entries, block := z.page.block,
        inline := z.page.inline, deferred := z.page.deferred, entered := z.page.entered, ran := z.page.ran,
        log := z.page.log, loaded := z.page.loaded : SPage },
    kept := z.kept : SVisit }) fun z14 =>
               .ob ((0 : Int) ≤ y1.snd.fst ∧ y1.snd.fst < (↑z14.length : Int)) <|
                .ob (y1.snd.fst.toNat < z14.length) <|
                .ob (fmarkStringS.pre (z14.getD y1.snd.fst.toNat default).page.policy.images z13.snd) <|
                .lt (List ByteArray × Int) (fmarkStringS.fn (z14.getD y1.snd.fst.toNat default).page.policy.images z13.snd) fun z15 =>
                .lt (List SVisit) (z14.modify y1.snd.fst.toNat fun z =>
  { addr := z.addr,
    page :=
      { addr := z.page.addr,
        policy :=
          { set_ := z.page.policy.set_, scripts := z.page.policy.scripts, styles := z.page.policy.styles,
            images := z15.fst, nonce := z.page.policy.nonce : SPolicy },
        tok := z.page.tok, queue := z.page.queue, ended := z.page.ended, builder := z.page.builder,
        slots := z.page.slots, mods := z.page.mods, entries := z.page.entries, block := z.page.block,
        inline := z.page.inline, deferred := z.page.deferred, entered := z.page.entered, ran := z.page.ran,
        log := z.page.log, loaded := z.page.loaded : SPage },
    kept := z.kept : SVisit }) fun z16 =>
                 .ob (fmarkText.pre (z15.snd, ())) <|
                  .lt (ByteArray × PUnit) (fmarkText.fn (z15.snd, ())) fun z17 =>
                  .ob ((0 : Int) ≤ y1.snd.fst ∧ y1.snd.fst < (↑z16.length : Int)) <|
                   .ob (y1.snd.fst.toNat < z16.length) <|
                   .lt (List SVisit) (z16.modify y1.snd.fst.toNat fun z =>
  { addr := z.addr,
    page :=
      { addr := z.page.addr,
        policy :=
          { set_ := z.page.policy.set_, scripts := z.page.policy.scripts, styles := z.page.policy.styles,
            images := z.page.policy.images, nonce := z17.fst : SPolicy },
        tok := z.page.tok, queue := z.page.queue, ended := z.page.ended, builder := z.page.builder,
        slots := z.page.slots, mods := z.page.mods, entries := z.page.entries, block := z.page.block,
        inline := z.page.inline, deferred := z.page.deferred, entered := z.page.entered, ran := z.page.ran,
        log := z.page.log, loaded := z.page.loaded : SPage },
    kept := z.kept : SVisit }) fun z18 =>
                   .ob (fmarkText.pre (IntKind.i64.wrap (z15.snd + (1 : Int)), ())) <|
                    .lt (ByteArray × PUnit) (fmarkText.fn (IntKind.i64.wrap (z15.snd + (1 : Int)), ())) fun z19 =>
                    .ob ((0 : Int) ≤ y1.snd.fst ∧ y1.snd.fst < (↑z18.length : Int)) <|
                     .ob (y1.snd.fst.toNat < z18.length) <|
                     .lt (List SVisit) (z18.modify y1.snd.fst.toNat fun z =>
  { addr := z.addr,
    page :=
      { addr := z.page.addr, policy := z.page.policy, tok := { rest := z19.fst : STokenizer }, queue := z.page.queue,
        ended := z.page.ended, builder := z.page.builder, slots := z.page.slots, mods := z.page.mods,
        entries := z.page.entries, block := z.page.block, inline := z.page.inline, deferred := z.page.deferred,
        entered := z.page.entered, ran := z.page.ran, log := z.page.log, loaded := z.page.loaded : SPage },
    kept := z.kept : SVisit }) fun z20 =>
                     .ob ((0 : Int) ≤ y1.snd.fst ∧ y1.snd.fst < (↑z20.length : Int)) <|
                      .ob (y1.snd.fst.toNat < z20.length) <|
                      .ob (fmarkTokenS.pre (z20.getD y1.snd.fst.toNat default).page.queue
  (IntKind.i64.wrap (IntKind.i64.wrap (z15.snd + (1 : Int)) + (1 : Int)))) <|
                      .lt (List SToken × Int) (fmarkTokenS.fn (z20.getD y1.snd.fst.toNat default).page.queue
  (IntKind.i64.wrap (IntKind.i64.wrap (z15.snd + (1 : Int)) + (1 : Int)))) fun z21 =>
                      .lt (List SVisit) (z20.modify y1.snd.fst.toNat fun z =>
  { addr := z.addr,
    page :=
      { addr := z.page.addr, policy := z.page.policy, tok := z.page.tok, queue := z21.fst, ended := z.page.ended,
        builder := z.page.builder, slots := z.page.slots, mods := z.page.mods, entries := z.page.entries,
        block := z.page.block, inline := z.page.inline, deferred := z.page.deferred, entered := z.page.entered,
        ran := z.page.ran, log := z.page.log, loaded := z.page.loaded : SPage },
    kept := z.kept : SVisit }) fun z22 =>
                       .ob ((3 : Int) ≠ (0 : Int)) <|
                        .ob ((0 : Int) ≤ y1.snd.fst ∧ y1.snd.fst < (↑z22.length : Int)) <|
                        .ob (y1.snd.fst.toNat < z22.length) <|
                        .lt (List SVisit) (z22.modify y1.snd.fst.toNat fun z =>
  { addr := z.addr,
    page :=
      { addr := z.page.addr, policy := z.page.policy, tok := z.page.tok, queue := z.page.queue,
        ended := z21.snd.tmod (3 : Int) == (0 : Int), builder := z.page.builder, slots := z.page.slots,
        mods := z.page.mods, entries := z.page.entries, block := z.page.block, inline := z.page.inline,
        deferred := z.page.deferred, entered := z.page.entered, ran := z.page.ran, log := z.page.log,
        loaded := z.page.loaded : SPage },
    kept := z.kept : SVisit }) fun z23 =>
                        .ob ((0 : Int) ≤ y1.snd.fst ∧ y1.snd.fst < (↑z23.length : Int)) <|
                         .ob (y1.snd.fst.toNat < z23.length) <|
                         .ob (fmarkNodeS.pre (z23.getD y1.snd.fst.toNat default).page.builder.nodes (IntKind.i64.wrap (z21.snd + (1 : Int)))) <|
                         .lt (List SNode × Int) (fmarkNodeS.fn (z23.getD y1.snd.fst.toNat default).page.builder.nodes (IntKind.i64.wrap (z21.snd + (1 : Int)))) fun z24 =>
                         .lt (List SVisit) (z23.modify y1.snd.fst.toNat fun z =>
  { addr := z.addr,
    page :=
      { addr := z.page.addr, policy := z.page.policy, tok := z.page.tok, queue := z.page.queue, ended := z.page.ended,
        builder := { nodes := z24.fst, open_ := z.page.builder.open_ : SBuilder }, slots := z.page.slots,
        mods := z.page.mods, entries := z.page.entries, block := z.page.block, inline := z.page.inline,
        deferred := z.page.deferred, entered := z.page.entered, ran := z.page.ran, log := z.page.log,
        loaded := z.page.loaded : SPage },
    kept := z.kept : SVisit }) fun z25 =>
                          .ob ((0 : Int) ≤ y1.snd.fst ∧ y1.snd.fst < (↑z25.length : Int)) <|
                           .ob (y1.snd.fst.toNat < z25.length) <|
                           .ob (fmarkIntS.pre (z25.getD y1.snd.fst.toNat default).page.builder.open_ z24.snd) <|
                           .lt (List Int × Int) (fmarkIntS.fn (z25.getD y1.snd.fst.toNat default).page.builder.open_ z24.snd) fun z26 =>
                           .lt (List SVisit) (z25.modify y1.snd.fst.toNat fun z =>
  { addr := z.addr,
    page :=
      { addr := z.page.addr, policy := z.page.policy, tok := z.page.tok, queue := z.page.queue, ended := z.page.ended,
        builder := { nodes := z.page.builder.nodes, open_ := z26.fst : SBuilder }, slots := z.page.slots,
        mods := z.page.mods, entries := z.page.entries, block := z.page.block, inline := z.page.inline,
        deferred := z.page.deferred, entered := z.page.entered, ran := z.page.ran, log := z.page.log,
        loaded := z.page.loaded : SPage },
    kept := z.kept : SVisit }) fun z27 =>
                            .ob ((0 : Int) ≤ y1.snd.fst ∧ y1.snd.fst < (↑z27.length : Int)) <|
                             .ob (y1.snd.fst.toNat < z27.length) <|
                             .ob (fmarkSlotS.pre (z27.getD y1.snd.fst.toNat default).page.slots z26.snd) <|
                             .lt (List SSlot × Int) (fmarkSlotS.fn (z27.getD y1.snd.fst.toNat default).page.slots z26.snd) fun z28 =>
                             .lt (List SVisit) (z27.modify y1.snd.fst.toNat fun z =>
  { addr := z.addr,
    page :=
      { addr := z.page.addr, policy := z.page.policy, tok := z.page.tok, queue := z.page.queue, ended := z.page.ended,
        builder := z.page.builder, slots := z28.fst, mods := z.page.mods, entries := z.page.entries,
        block := z.page.block, inline := z.page.inline, deferred := z.page.deferred, entered := z.page.entered,
        ran := z.page.ran, log := z.page.log, loaded := z.page.loaded : SPage },
    kept := z.kept : SVisit }) fun z29 =>
                              .ob ((0 : Int) ≤ y1.snd.fst ∧ y1.snd.fst < (↑z29.length : Int)) <|
                               .ob (y1.snd.fst.toNat < z29.length) <|
                               .ob (fmarkModuleS.pre (z29.getD y1.snd.fst.toNat default).page.mods z28.snd) <|
                               .lt (List SModule × Int) (fmarkModuleS.fn (z29.getD y1.snd.fst.toNat default).page.mods z28.snd) fun z30 =>
                               .lt (List SVisit) (z29.modify y1.snd.fst.toNat fun z =>
  { addr := z.addr,
    page :=
      { addr := z.page.addr, policy := z.page.policy, tok := z.page.tok, queue := z.page.queue, ended := z.page.ended,
        builder := z.page.builder, slots := z.page.slots, mods := z30.fst, entries := z.page.entries,
        block := z.page.block, inline := z.page.inline, deferred := z.page.deferred, entered := z.page.entered,
        ran := z.page.ran, log := z.page.log, loaded := z.page.loaded : SPage },
    kept := z.kept : SVisit }) fun z31 =>
                                .ob ((0 : Int) ≤ y1.snd.fst ∧ y1.snd.fst < (↑z31.length : Int)) <|
                                 .ob (y1.snd.fst.toNat < z31.length) <|
                                 .ob (fmarkAddrS.pre (z31.getD y1.snd.fst.toNat default).page.entries z30.snd) <|
                                 .lt (List SAddr × Int) (fmarkAddrS.fn (z31.getD y1.snd.fst.toNat default).page.entries z30.snd) fun z32 =>
                                 .lt (List SVisit) (z31.modify y1.snd.fst.toNat fun z =>
  { addr := z.addr,
    page :=
      { addr := z.page.addr, policy := z.page.policy, tok := z.page.tok, queue := z.page.queue, ended := z.page.ended,
        builder := z.page.builder, slots := z.page.slots, mods := z.page.mods, entries := z32.fst,
        block := z.page.block, inline := z.page.inline, deferred := z.page.deferred, entered := z.page.entered,
        ran := z.page.ran, log := z.page.log, loaded := z.page.loaded : SPage },
    kept := z.kept : SVisit }) fun z33 =>
                                  .ob ((0 : Int) ≤ y1.snd.fst ∧ y1.snd.fst < (↑z33.length : Int)) <|
                                   .ob (y1.snd.fst.toNat < z33.length) <|
                                   .lt (List SVisit) (z33.modify y1.snd.fst.toNat fun z =>
  { addr := z.addr,
    page :=
      { addr := z.page.addr, policy := z.page.policy, tok := z.page.tok, queue := z.page.queue, ended := z.page.ended,
        builder := z.page.builder, slots := z.page.slots, mods := z.page.mods, entries := z.page.entries,
        block := z32.snd, inline := z.page.inline, deferred := z.page.deferred, entered := z.page.entered,
        ran := z.page.ran, log := z.page.log, loaded := z.page.loaded : SPage },
    kept := z.kept : SVisit }) fun z34 =>
                                   .ob ((0 : Int) ≤ y1.snd.fst ∧ y1.snd.fst < (↑z34.length : Int)) <|
                                    .ob (y1.snd.fst.toNat < z34.length) <|
                                    .lt (List SVisit) (z34.modify y1.snd.fst.toNat fun z =>
  { addr := z.addr,
    page :=
      { addr := z.page.addr, policy := z.page.policy, tok := z.page.tok, queue := z.page.queue, ended := z.page.ended,
        builder := z.page.builder, slots := z.page.slots, mods := z.page.mods, entries := z.page.entries,
        block := z.page.block, inline := IntKind.i64.wrap (z32.snd + (1 : Int)), deferred := z.page.deferred,
        entered := z.page.entered, ran := z.page.ran, log := z.page.log, loaded := z.page.loaded : SPage },
    kept := z.kept : SVisit }) fun z35 =>
                                    .ob ((0 : Int) ≤ y1.snd.fst ∧ y1.snd.fst < (↑z35.length : Int)) <|
                                     .ob (y1.snd.fst.toNat < z35.length) <|
                                     .lt (List SVisit) (z35.modify y1.snd.fst.toNat fun z =>
  { addr := z.addr,
    page :=
      { addr := z.page.addr, policy := z.page.policy, tok := z.page.tok, queue := z.page.queue, ended := z.page.ended,
        builder := z.page.builder, slots := z.page.slots, mods := z.page.mods, entries := z.page.entries,
        block := z.page.block, inline := z.page.inline,
        deferred := IntKind.i64.wrap (IntKind.i64.wrap (z32.snd + (1 : Int)) + (1 : Int)), entered := z.page.entered,
        ran := z.page.ran, log := z.page.log, loaded := z.page.loaded : SPage },
    kept := z.kept : SVisit }) fun z36 =>
                                     .ob ((0 : Int) ≤ y1.snd.fst ∧ y1.snd.fst < (↑z36.length : Int)) <|
                                      .ob (y1.snd.fst.toNat < z36.length) <|
                                      .lt (List SVisit) (z36.modify y1.snd.fst.toNat fun z =>
  { addr := z.addr,
    page :=
      { addr := z.page.addr, policy := z.page.policy, tok := z.page.tok, queue := z.page.queue, ended := z.page.ended,
        builder := z.page.builder, slots := z.page.slots, mods := z.page.mods, entries := z.page.entries,
        block := z.page.block, inline := z.page.inline, deferred := z.page.deferred,
        entered := IntKind.i64.wrap (IntKind.i64.wrap (IntKind.i64.wrap (z32.snd + (1 : Int)) + (1 : Int)) + (1 : Int)),
        ran := z.page.ran, log := z.page.log, loaded := z.page.loaded : SPage },
    kept := z.kept : SVisit }) fun z37 =>
                                      .ob ((0 : Int) ≤ y1.snd.fst ∧ y1.snd.fst < (↑z37.length : Int)) <|
                                       .ob (y1.snd.fst.toNat < z37.length) <|
                                       .ob (fmarkAddrS.pre (z37.getD y1.snd.fst.toNat default).page.ran
  (IntKind.i64.wrap
    (IntKind.i64.wrap (IntKind.i64.wrap (IntKind.i64.wrap (z32.snd + (1 : Int)) + (1 : Int)) + (1 : Int)) + (1 : Int)))) <|
                                       .lt (List SAddr × Int) (fmarkAddrS.fn (z37.getD y1.snd.fst.toNat default).page.ran
  (IntKind.i64.wrap
    (IntKind.i64.wrap (IntKind.i64.wrap (IntKind.i64.wrap (z32.snd + (1 : Int)) + (1 : Int)) + (1 : Int)) + (1 : Int)))) fun z38 =>
                                       .lt (List SVisit) (z37.modify y1.snd.fst.toNat fun z =>
  { addr := z.addr,
    page :=
      { addr := z.page.addr, policy := z.page.policy, tok := z.page.tok, queue := z.page.queue, ended := z.page.ended,
        builder := z.page.builder, slots := z.page.slots, mods := z.page.mods, entries := z.page.entries,
        block := z.page.block, inline := z.page.inline, deferred := z.page.deferred, entered := z.page.entered,
        ran := z38.fst, log := z.page.log, loaded := z.page.loaded : SPage },
    kept := z.kept : SVisit }) fun z39 =>
                                        .ob ((0 : Int) ≤ y1.snd.fst ∧ y1.snd.fst < (↑z39.length : Int)) <|
                                         .ob (y1.snd.fst.toNat < z39.length) <|
                                         .ob (fmarkStringS.pre (z39.getD y1.snd.fst.toNat default).page.log z38.snd) <|
                                         .lt (List ByteArray × Int) (fmarkStringS.fn (z39.getD y1.snd.fst.toNat default).page.log z38.snd) fun z40 =>
                                         .lt (List SVisit) (z39.modify y1.snd.fst.toNat fun z =>
  { addr := z.addr,
    page :=
      { addr := z.page.addr, policy := z.page.policy, tok := z.page.tok, queue := z.page.queue, ended := z.page.ended,
        builder := z.page.builder, slots := z.page.slots, mods := z.page.mods, entries := z.page.entries,
        block := z.page.block, inline := z.page.inline, deferred := z.page.deferred, entered := z.page.entered,
        ran := z.page.ran, log := z40.fst, loaded := z.page.loaded : SPage },
    kept := z.kept : SVisit }) fun z41 =>
                                          .ob ((3 : Int) ≠ (0 : Int)) <|
                                           .ob ((0 : Int) ≤ y1.snd.fst ∧ y1.snd.fst < (↑z41.length : Int)) <|
                                           .ob (y1.snd.fst.toNat < z41.length) <|
                                           .lt (List SVisit) (z41.modify y1.snd.fst.toNat fun z =>
  { addr := z.addr,
    page :=
      { addr := z.page.addr, policy := z.page.policy, tok := z.page.tok, queue := z.page.queue, ended := z.page.ended,
        builder := z.page.builder, slots := z.page.slots, mods := z.page.mods, entries := z.page.entries,
        block := z.page.block, inline := z.page.inline, deferred := z.page.deferred, entered := z.page.entered,
        ran := z.page.ran, log := z.page.log, loaded := z40.snd.tmod (3 : Int) == (0 : Int) : SPage },
    kept := z.kept : SVisit }) fun z42 =>
                                           .ob ((3 : Int) ≠ (0 : Int)) <|
                                            .ob ((0 : Int) ≤ y1.snd.fst ∧ y1.snd.fst < (↑z42.length : Int)) <|
                                            .ob (y1.snd.fst.toNat < z42.length) <|
                                            .lt (List SVisit) (z42.modify y1.snd.fst.toNat fun z =>
  { addr := z.addr, page := z.page, kept := (IntKind.i64.wrap (z40.snd + (1 : Int))).tmod (3 : Int) == (0 : Int) :
    SVisit }) fun z43 =>
                                            .ob (Value.int IntKind.i64 (0 : Int) = Value.int IntKind.i64 (0 : Int)) <|
                                             .ob (bk1 (IntKind.i64.wrap (IntKind.i64.wrap (z40.snd + (1 : Int)) + (1 : Int)), (IntKind.i64.wrap (y1.snd.fst + (1 : Int)), (z43, ())))) <|
                                             .ok)
  (.leaf (.one false [vi (y1.fst)]) [] [((0 : Nat), ⟨Ty.visit, y1.snd.snd.fst⟩)])) (by kernel_rfl) ?_
  refine lpx_i ?_ fun (y1 : Int × Int × List SVisit × PUnit) i1 => ?_
  · exact ⟨by simp, by simp, by simp [markL], by simp [markL]⟩
  have hp1 : 0 ≤ k := hp.1
  have hp2 : (markL mkVisit l k).2 ≤ 4000000000000000000 := hp.2
  have i3 : 0 ≤ y1.2.1 ∧ y1.2.1 ≤ l.length ∧ y1.1 = (markL mkVisit (l.take y1.2.1.toNat) k).2 ∧ y1.2.2.1 = (markL mkVisit (l.take y1.2.1.toNat) k).1 ++ l.drop y1.2.1.toNat := i1
  have hcnt := markL_cnt (f := mkVisit) mkVisit_cnt l k
  have hx : y1.2.2.1.length = l.length := by rw [i3.2.2.2, List.length_append, markL_len, List.length_take, List.length_drop]; omega
  refine br_i (fun h2 => ?_) (fun h2 => ?_)
  · simp only [decide_eq_true_eq, decide_eq_false_iff_not, hx] at h2
    clear i1 hp
    have hlt : y1.2.1.toNat < l.length := by omega
    have ht := markL_take (f := mkVisit) hlt k
    have hle := (markL_take_le mkVisit_mono l (y1.2.1.toNat + 1) k).2
    have hl0 := (markL_take_le mkVisit_mono l y1.2.1.toNat k).1
    rw [ht] at hle
    rw [← i3.2.2.1] at hle hl0 ht
    have i4 : y1.2.2.1 = (markL mkVisit (l.take y1.2.1.toNat) k).1 ++ l.getD y1.2.1.toNat default :: l.drop (y1.2.1.toNat + 1) := by rw [i3.2.2.2, drop_cons hlt]
    have hA : (markL mkVisit (l.take y1.2.1.toNat) k).1.length = y1.2.1.toNat := by rw [markL_len, List.length_take]; omega
    simp only [mkVisit] at hle
    have m1 := mkStringS_mono (l.getD y1.2.1.toNat default).page.policy.scripts (y1.1 + 5)
    generalize hr1 : markL mkString (l.getD y1.2.1.toNat default).page.policy.scripts (y1.1 + 5) = r1 at *
    have m2 := mkStringS_mono (l.getD y1.2.1.toNat default).page.policy.styles (r1.2)
    generalize hr2 : markL mkString (l.getD y1.2.1.toNat default).page.policy.styles (r1.2) = r2 at *
    have m3 := mkStringS_mono (l.getD y1.2.1.toNat default).page.policy.images (r2.2)
    generalize hr3 : markL mkString (l.getD y1.2.1.toNat default).page.policy.images (r2.2) = r3 at *
    have m4 := mkTokenS_mono (l.getD y1.2.1.toNat default).page.queue (r3.2 + 2)
    generalize hr4 : markL mkToken (l.getD y1.2.1.toNat default).page.queue (r3.2 + 2) = r4 at *
    have m5 := mkNodeS_mono (l.getD y1.2.1.toNat default).page.builder.nodes (r4.2 + 1)
    generalize hr5 : markL mkNode (l.getD y1.2.1.toNat default).page.builder.nodes (r4.2 + 1) = r5 at *
    have m6 := mkIntS_mono (l.getD y1.2.1.toNat default).page.builder.open_ (r5.2)
    generalize hr6 : markL mkInt (l.getD y1.2.1.toNat default).page.builder.open_ (r5.2) = r6 at *
    have m7 := mkSlotS_mono (l.getD y1.2.1.toNat default).page.slots (r6.2)
    generalize hr7 : markL mkSlot (l.getD y1.2.1.toNat default).page.slots (r6.2) = r7 at *
    have m8 := mkModuleS_mono (l.getD y1.2.1.toNat default).page.mods (r7.2)
    generalize hr8 : markL mkModule (l.getD y1.2.1.toNat default).page.mods (r7.2) = r8 at *
    have m9 := mkAddrS_mono (l.getD y1.2.1.toNat default).page.entries (r8.2)
    generalize hr9 : markL mkAddr (l.getD y1.2.1.toNat default).page.entries (r8.2) = r9 at *
    have m10 := mkAddrS_mono (l.getD y1.2.1.toNat default).page.ran (r9.2 + 4)
    generalize hr10 : markL mkAddr (l.getD y1.2.1.toNat default).page.ran (r9.2 + 4) = r10 at *
    have m11 := mkStringS_mono (l.getD y1.2.1.toNat default).page.log (r10.2)
    generalize hr11 : markL mkString (l.getD y1.2.1.toNat default).page.log (r10.2) = r11 at *
    repeat first
      | ((fail_if_success with_reducible refine ob_d ?_ ?_); refine lt_e fun z e => ?_; simp (disch := omega) only [i4, mod_at hA, getD_at hA, fmarkText, fmarkAddrS, fmarkIntS, fmarkModuleS, fmarkNodeS, fmarkSlotS, fmarkStringS, fmarkTokenS, wrapId', Int.add_assoc, Int.reduceAdd, hr1, hr2, hr3, hr4, hr5, hr6, hr7, hr8, hr9, hr10, hr11, List.length_append, List.length_cons, List.length_drop, hA] at e; subst e)
      | ((with_reducible refine ob_d ?_ ?_); · first | trivial | omega | (refine ⟨?_, ?_⟩ <;> omega) | (simp (disch := omega) only [i4, mod_at hA, getD_at hA, fmarkText, fmarkAddrS, fmarkIntS, fmarkModuleS, fmarkNodeS, fmarkSlotS, fmarkStringS, fmarkTokenS, wrapId', Int.add_assoc, Int.reduceAdd, hr1, hr2, hr3, hr4, hr5, hr6, hr7, hr8, hr9, hr10, hr11, List.length_append, List.length_cons, List.length_drop, hA]; first | done | trivial | omega | (refine ⟨?_, ?_⟩ <;> omega)))
    refine ob_d ?_ trivial
    simp (disch := omega) only [i4, mod_at hA, getD_at hA, fmarkText, fmarkAddrS, fmarkIntS, fmarkModuleS, fmarkNodeS, fmarkSlotS, fmarkStringS, fmarkTokenS, wrapId', Int.add_assoc, Int.reduceAdd, hr1, hr2, hr3, hr4, hr5, hr6, hr7, hr8, hr9, hr10, hr11, List.length_append, List.length_cons, List.length_drop, hA]
    refine ⟨⟨by omega, by omega, ?_, ?_⟩, by omega⟩
    · rw [toNat1 (by omega), ht]
      simp only [mkVisit, Int.add_assoc, Int.reduceAdd, hr1, hr2, hr3, hr4, hr5, hr6, hr7, hr8, hr9, hr10, hr11]
    · rw [toNat1 (by omega), ht]
      simp only [mkVisit, Int.add_assoc, Int.reduceAdd, hr1, hr2, hr3, hr4, hr5, hr6, hr7, hr8, hr9, hr10, hr11, List.append_assoc, List.cons_append, List.nil_append]
  · simp only [decide_eq_false_iff_not, hx] at h2
    refine MS.leafL (t := .visit) (fn := fun l k => markL mkVisit l k) ?_
    have e1 : l.take y1.2.1.toNat = l := List.take_of_length_le (by omega)
    have e2 : l.drop y1.2.1.toNat = [] := List.drop_of_length_le (by omega)
    rw [i3.2.2.2, i3.2.2.1, e1, e2, List.append_nil])
def E38 : D.Env := E37.addM 86 fmarkVisitS
theorem E38ok : EOk Try.prog E38 := E37ok.addM k86_37
-- laws.heldVisitS
set_option maxHeartbeats 0 in
theorem k87_38 : fheldVisitS.ok Try.prog 87 := Fct.of (S := fheldVisitS) (L := fun ⟨l, k, _⟩ => fun | 2 => some (LheS .visit mkVisit l k) | _ => none) (kp := [0,1,4,5,9,20,31,43,55,68,81,92,103,113,125,137,147,160,171,181,191,201,209,219,229,239,251,261,271,282,1000009,1000020,1000031,1000043,1000055,1000068,1000081,1000092,1000103,1000113,1000125,1000137,1000147,1000160,1000171,1000181,1000191,1000201,1000209,1000219,1000229,1000239,1000251,1000261,1000271,1000282]) E38ok Try.func87 (by kernel_rfl) (by kernel_rfl) (by
  rintro ⟨(l : List SVisit), (k : Int), _⟩ hp
  refine holds_of (X := lpx (LheS .visit mkVisit l k) (k, ((0 : Int), ())) fun (y1 : Int × Int × PUnit) bk1 =>
 .br (decide (y1.snd.fst < (↑l.length : Int)))
  (.ob ((0 : Int) ≤ y1.snd.fst ∧ y1.snd.fst < (↑l.length : Int)) <|
   .ob (fmarkText.pre (y1.fst, ())) <|
   .lt (ByteArray × PUnit) (fmarkText.fn (y1.fst, ())) fun z2 =>
   .br (!(l.getD y1.snd.fst.toNat default).addr.host.toList == z2.fst.toList)
    (.leaf (mkR fheldVisitS.rs ((-1 : Int), ())) [] [])
    (.ob ((0 : Int) ≤ y1.snd.fst ∧ y1.snd.fst < (↑l.length : Int)) <|
     .ob (fmarkText.pre (IntKind.i64.wrap (y1.fst + (1 : Int)), ())) <|
     .lt (ByteArray × PUnit) (fmarkText.fn (IntKind.i64.wrap (y1.fst + (1 : Int)), ())) fun z3 =>
     .br (!(l.getD y1.snd.fst.toNat default).addr.path.toList == z3.fst.toList)
      (.leaf (mkR fheldVisitS.rs ((-1 : Int), ())) [] [])
      (.ob ((0 : Int) ≤ y1.snd.fst ∧ y1.snd.fst < (↑l.length : Int)) <|
       .ob (fmarkText.pre (IntKind.i64.wrap (IntKind.i64.wrap (y1.fst + (1 : Int)) + (1 : Int)), ())) <|
       .lt (ByteArray × PUnit) (fmarkText.fn (IntKind.i64.wrap (IntKind.i64.wrap (y1.fst + (1 : Int)) + (1 : Int)), ())) fun z4 =>
       .br (!(l.getD y1.snd.fst.toNat default).page.addr.host.toList == z4.fst.toList)
        (.leaf (mkR fheldVisitS.rs ((-1 : Int), ())) [] [])
        (.ob ((0 : Int) ≤ y1.snd.fst ∧ y1.snd.fst < (↑l.length : Int)) <|
         .ob (fmarkText.pre (IntKind.i64.wrap (IntKind.i64.wrap (IntKind.i64.wrap (y1.fst + (1 : Int)) + (1 : Int)) + (1 : Int)), ())) <|
         .lt (ByteArray × PUnit) (fmarkText.fn (IntKind.i64.wrap (IntKind.i64.wrap (IntKind.i64.wrap (y1.fst + (1 : Int)) + (1 : Int)) + (1 : Int)), ())) fun z5 =>
         .br (!(l.getD y1.snd.fst.toNat default).page.addr.path.toList == z5.fst.toList)
          (.leaf (mkR fheldVisitS.rs ((-1 : Int), ())) [] [])
          (.ob ((0 : Int) ≤ y1.snd.fst ∧ y1.snd.fst < (↑l.length : Int)) <|
           .ob ((3 : Int) ≠ (0 : Int)) <|
           .br (!(l.getD y1.snd.fst.toNat default).page.policy.set_ ==
    ((IntKind.i64.wrap
            (IntKind.i64.wrap (IntKind.i64.wrap (IntKind.i64.wrap (y1.fst + (1 : Int)) + (1 : Int)) + (1 : Int)) +
              (1 : Int))).tmod
        (3 : Int) ==
      (0 : Int)))
           (.leaf (mkR fheldVisitS.rs ((-1 : Int), ())) [] [])
           (.ob ((0 : Int) ≤ y1.snd.fst ∧ y1.snd.fst < (↑l.length : Int)) <|
            .ob (fheldStringS.pre
  ((l.getD y1.snd.fst.toNat default).page.policy.scripts,
    IntKind.i64.wrap
      (IntKind.i64.wrap
          (IntKind.i64.wrap (IntKind.i64.wrap (IntKind.i64.wrap (y1.fst + (1 : Int)) + (1 : Int)) + (1 : Int)) +
            (1 : Int)) +
        (1 : Int)),
    ())) <|
            .lt (Int × PUnit) (fheldStringS.fn
  ((l.getD y1.snd.fst.toNat default).page.policy.scripts,
    IntKind.i64.wrap
      (IntKind.i64.wrap
          (IntKind.i64.wrap (IntKind.i64.wrap (IntKind.i64.wrap (y1.fst + (1 : Int)) + (1 : Int)) + (1 : Int)) +
            (1 : Int)) +
        (1 : Int)),
    ())) fun z6 =>
            .br (decide (z6.fst < (0 : Int)))
             (.leaf (mkR fheldVisitS.rs ((-1 : Int), ())) [] [])
             (.ob ((0 : Int) ≤ y1.snd.fst ∧ y1.snd.fst < (↑l.length : Int)) <|
              .ob (fheldStringS.pre ((l.getD y1.snd.fst.toNat default).page.policy.styles, z6.fst, ())) <|
              .lt (Int × PUnit) (fheldStringS.fn ((l.getD y1.snd.fst.toNat default).page.policy.styles, z6.fst, ())) fun z7 =>
              .br (decide (z7.fst < (0 : Int)))
               (.leaf (mkR fheldVisitS.rs ((-1 : Int), ())) [] [])
               (.ob ((0 : Int) ≤ y1.snd.fst ∧ y1.snd.fst < (↑l.length : Int)) <|
                .ob (fheldStringS.pre ((l.getD y1.snd.fst.toNat default).page.policy.images, z7.fst, ())) <|
                .lt (Int × PUnit) (fheldStringS.fn ((l.getD y1.snd.fst.toNat default).page.policy.images, z7.fst, ())) fun z8 =>
                .br (decide (z8.fst < (0 : Int)))
                 (.leaf (mkR fheldVisitS.rs ((-1 : Int), ())) [] [])
                 (.ob ((0 : Int) ≤ y1.snd.fst ∧ y1.snd.fst < (↑l.length : Int)) <|
                  .ob (fmarkText.pre (z8.fst, ())) <|
                  .lt (ByteArray × PUnit) (fmarkText.fn (z8.fst, ())) fun z9 =>
                  .br (!(l.getD y1.snd.fst.toNat default).page.policy.nonce.toList == z9.fst.toList)
                   (.leaf (mkR fheldVisitS.rs ((-1 : Int), ())) [] [])
                   (.ob ((0 : Int) ≤ y1.snd.fst ∧ y1.snd.fst < (↑l.length : Int)) <|
                    .ob (fmarkText.pre (IntKind.i64.wrap (z8.fst + (1 : Int)), ())) <|
                    .lt (ByteArray × PUnit) (fmarkText.fn (IntKind.i64.wrap (z8.fst + (1 : Int)), ())) fun z10 =>
                    .br (!(l.getD y1.snd.fst.toNat default).page.tok.rest.toList == z10.fst.toList)
                     (.leaf (mkR fheldVisitS.rs ((-1 : Int), ())) [] [])
                     (.ob ((0 : Int) ≤ y1.snd.fst ∧ y1.snd.fst < (↑l.length : Int)) <|
                      .ob (fheldTokenS.pre
  ((l.getD y1.snd.fst.toNat default).page.queue, IntKind.i64.wrap (IntKind.i64.wrap (z8.fst + (1 : Int)) + (1 : Int)),
    ())) <|
                      .lt (Int × PUnit) (fheldTokenS.fn
  ((l.getD y1.snd.fst.toNat default).page.queue, IntKind.i64.wrap (IntKind.i64.wrap (z8.fst + (1 : Int)) + (1 : Int)),
    ())) fun z11 =>
                      .br (decide (z11.fst < (0 : Int)))
                       (.leaf (mkR fheldVisitS.rs ((-1 : Int), ())) [] [])
                       (.ob ((0 : Int) ≤ y1.snd.fst ∧ y1.snd.fst < (↑l.length : Int)) <|
                        .ob ((3 : Int) ≠ (0 : Int)) <|
                        .br (!(l.getD y1.snd.fst.toNat default).page.ended == (z11.fst.tmod (3 : Int) == (0 : Int)))
                        (.leaf (mkR fheldVisitS.rs ((-1 : Int), ())) [] [])
                        (.ob ((0 : Int) ≤ y1.snd.fst ∧ y1.snd.fst < (↑l.length : Int)) <|
                         .ob (fheldNodeS.pre ((l.getD y1.snd.fst.toNat default).page.builder.nodes, IntKind.i64.wrap (z11.fst + (1 : Int)), ())) <|
                         .lt (Int × PUnit) (fheldNodeS.fn ((l.getD y1.snd.fst.toNat default).page.builder.nodes, IntKind.i64.wrap (z11.fst + (1 : Int)), ())) fun z12 =>
                         .br (decide (z12.fst < (0 : Int)))
                          (.leaf (mkR fheldVisitS.rs ((-1 : Int), ())) [] [])
                          (.ob ((0 : Int) ≤ y1.snd.fst ∧ y1.snd.fst < (↑l.length : Int)) <|
                           .ob (fheldIntS.pre ((l.getD y1.snd.fst.toNat default).page.builder.open_, z12.fst, ())) <|
                           .lt (Int × PUnit) (fheldIntS.fn ((l.getD y1.snd.fst.toNat default).page.builder.open_, z12.fst, ())) fun z13 =>
                           .br (decide (z13.fst < (0 : Int)))
                            (.leaf (mkR fheldVisitS.rs ((-1 : Int), ())) [] [])
                            (.ob ((0 : Int) ≤ y1.snd.fst ∧ y1.snd.fst < (↑l.length : Int)) <|
                             .ob (fheldSlotS.pre ((l.getD y1.snd.fst.toNat default).page.slots, z13.fst, ())) <|
                             .lt (Int × PUnit) (fheldSlotS.fn ((l.getD y1.snd.fst.toNat default).page.slots, z13.fst, ())) fun z14 =>
                             .br (decide (z14.fst < (0 : Int)))
                              (.leaf (mkR fheldVisitS.rs ((-1 : Int), ())) [] [])
                              (.ob ((0 : Int) ≤ y1.snd.fst ∧ y1.snd.fst < (↑l.length : Int)) <|
                               .ob (fheldModuleS.pre ((l.getD y1.snd.fst.toNat default).page.mods, z14.fst, ())) <|
                               .lt (Int × PUnit) (fheldModuleS.fn ((l.getD y1.snd.fst.toNat default).page.mods, z14.fst, ())) fun z15 =>
                               .br (decide (z15.fst < (0 : Int)))
                                (.leaf (mkR fheldVisitS.rs ((-1 : Int), ())) [] [])
                                (.ob ((0 : Int) ≤ y1.snd.fst ∧ y1.snd.fst < (↑l.length : Int)) <|
                                 .ob (fheldAddrS.pre ((l.getD y1.snd.fst.toNat default).page.entries, z15.fst, ())) <|
                                 .lt (Int × PUnit) (fheldAddrS.fn ((l.getD y1.snd.fst.toNat default).page.entries, z15.fst, ())) fun z16 =>
                                 .br (decide (z16.fst < (0 : Int)))
                                  (.leaf (mkR fheldVisitS.rs ((-1 : Int), ())) [] [])
                                  (.ob ((0 : Int) ≤ y1.snd.fst ∧ y1.snd.fst < (↑l.length : Int)) <|
                                   .br ((l.getD y1.snd.fst.toNat default).page.block != z16.fst)
                                   (.leaf (mkR fheldVisitS.rs ((-1 : Int), ())) [] [])
                                   (.ob ((0 : Int) ≤ y1.snd.fst ∧ y1.snd.fst < (↑l.length : Int)) <|
                                    .br ((l.getD y1.snd.fst.toNat default).page.inline != IntKind.i64.wrap (z16.fst + (1 : Int)))
                                    (.leaf (mkR fheldVisitS.rs ((-1 : Int), ())) [] [])
                                    (.ob ((0 : Int) ≤ y1.snd.fst ∧ y1.snd.fst < (↑l.length : Int)) <|
                                     .br ((l.getD y1.snd.fst.toNat default).page.deferred != IntKind.i64.wrap (IntKind.i64.wrap (z16.fst + (1 : Int)) + (1 : Int)))
                                     (.leaf (mkR fheldVisitS.rs ((-1 : Int), ())) [] [])
                                     (.ob ((0 : Int) ≤ y1.snd.fst ∧ y1.snd.fst < (↑l.length : Int)) <|
                                      .br ((l.getD y1.snd.fst.toNat default).page.entered !=
  IntKind.i64.wrap (IntKind.i64.wrap (IntKind.i64.wrap (z16.fst + (1 : Int)) + (1 : Int)) + (1 : Int)))
                                      (.leaf (mkR fheldVisitS.rs ((-1 : Int), ())) [] [])
                                      (.ob ((0 : Int) ≤ y1.snd.fst ∧ y1.snd.fst < (↑l.length : Int)) <|
                                       .ob (fheldAddrS.pre
  ((l.getD y1.snd.fst.toNat default).page.ran,
    IntKind.i64.wrap
      (IntKind.i64.wrap (IntKind.i64.wrap (IntKind.i64.wrap (z16.fst + (1 : Int)) + (1 : Int)) + (1 : Int)) +
        (1 : Int)),
    ())) <|
                                       .lt (Int × PUnit) (fheldAddrS.fn
  ((l.getD y1.snd.fst.toNat default).page.ran,
    IntKind.i64.wrap
      (IntKind.i64.wrap (IntKind.i64.wrap (IntKind.i64.wrap (z16.fst + (1 : Int)) + (1 : Int)) + (1 : Int)) +
        (1 : Int)),
    ())) fun z17 =>
                                       .br (decide (z17.fst < (0 : Int)))
                                        (.leaf (mkR fheldVisitS.rs ((-1 : Int), ())) [] [])
                                        (.ob ((0 : Int) ≤ y1.snd.fst ∧ y1.snd.fst < (↑l.length : Int)) <|
                                         .ob (fheldStringS.pre ((l.getD y1.snd.fst.toNat default).page.log, z17.fst, ())) <|
                                         .lt (Int × PUnit) (fheldStringS.fn ((l.getD y1.snd.fst.toNat default).page.log, z17.fst, ())) fun z18 =>
                                         .br (decide (z18.fst < (0 : Int)))
                                          (.leaf (mkR fheldVisitS.rs ((-1 : Int), ())) [] [])
                                          (.ob ((0 : Int) ≤ y1.snd.fst ∧ y1.snd.fst < (↑l.length : Int)) <|
                                           .ob ((3 : Int) ≠ (0 : Int)) <|
                                           .br (!(l.getD y1.snd.fst.toNat default).page.loaded == (z18.fst.tmod (3 : Int) == (0 : Int)))
                                           (.leaf (mkR fheldVisitS.rs ((-1 : Int), ())) [] [])
                                           (.ob ((0 : Int) ≤ y1.snd.fst ∧ y1.snd.fst < (↑l.length : Int)) <|
                                            .ob ((3 : Int) ≠ (0 : Int)) <|
                                            .br (!(l.getD y1.snd.fst.toNat default).kept == ((IntKind.i64.wrap (z18.fst + (1 : Int))).tmod (3 : Int) == (0 : Int)))
                                            (.leaf (mkR fheldVisitS.rs ((-1 : Int), ())) [] [])
                                            (.ob (l = l) <|
                                             .ob (bk1 (IntKind.i64.wrap (IntKind.i64.wrap (z18.fst + (1 : Int)) + (1 : Int)), (IntKind.i64.wrap (y1.snd.fst + (1 : Int)), ()))) <|
                                             .ok))))))))))))))))))))))))))
  (.leaf (mkR fheldVisitS.rs (y1.fst, ())) [] [])) (by kernel_rfl) ?_
  refine lpx_i ?_ fun (y1 : Int × Int × PUnit) i1 => ?_
  · exact ⟨by simp, by simp, by simp [markL]⟩
  have hp1 : 0 ≤ k := hp.1
  have hp2 : (markL mkVisit l k).2 ≤ 4000000000000000000 := hp.2.1
  have hp3 : (markL mkVisit l k).1 = l := hp.2.2
  have i3 : 0 ≤ y1.2.1 ∧ y1.2.1 ≤ l.length ∧ y1.1 = (markL mkVisit (l.take y1.2.1.toNat) k).2 := i1
  have hcnt := markL_cnt (f := mkVisit) mkVisit_cnt l k
  refine br_i (fun h2 => ?_) (fun h2 => ?_)
  · simp only [decide_eq_true_eq, decide_eq_false_iff_not] at h2
    clear i1 hp
    have hlt : y1.2.1.toNat < l.length := by omega
    have ht := markL_take (f := mkVisit) hlt k
    have hle := (markL_take_le mkVisit_mono l (y1.2.1.toNat + 1) k).2
    have hl0 := (markL_take_le mkVisit_mono l y1.2.1.toNat k).1
    have heq := markL_held hp3 hlt
    rw [ht] at hle
    rw [← i3.2.2] at hle hl0 ht heq
    have q1 := congrArg (fun z : SVisit => z.addr.host) heq
    have q2 := congrArg (fun z : SVisit => z.addr.path) heq
    have q3 := congrArg (fun z : SVisit => z.page.addr.host) heq
    have q4 := congrArg (fun z : SVisit => z.page.addr.path) heq
    have q5 := congrArg (fun z : SVisit => z.page.policy.set_) heq
    have q6 := congrArg (fun z : SVisit => z.page.policy.scripts) heq
    have q7 := congrArg (fun z : SVisit => z.page.policy.styles) heq
    have q8 := congrArg (fun z : SVisit => z.page.policy.images) heq
    have q9 := congrArg (fun z : SVisit => z.page.policy.nonce) heq
    have q10 := congrArg (fun z : SVisit => z.page.tok.rest) heq
    have q11 := congrArg (fun z : SVisit => z.page.queue) heq
    have q12 := congrArg (fun z : SVisit => z.page.ended) heq
    have q13 := congrArg (fun z : SVisit => z.page.builder.nodes) heq
    have q14 := congrArg (fun z : SVisit => z.page.builder.open_) heq
    have q15 := congrArg (fun z : SVisit => z.page.slots) heq
    have q16 := congrArg (fun z : SVisit => z.page.mods) heq
    have q17 := congrArg (fun z : SVisit => z.page.entries) heq
    have q18 := congrArg (fun z : SVisit => z.page.block) heq
    have q19 := congrArg (fun z : SVisit => z.page.inline) heq
    have q20 := congrArg (fun z : SVisit => z.page.deferred) heq
    have q21 := congrArg (fun z : SVisit => z.page.entered) heq
    have q22 := congrArg (fun z : SVisit => z.page.ran) heq
    have q23 := congrArg (fun z : SVisit => z.page.log) heq
    have q24 := congrArg (fun z : SVisit => z.page.loaded) heq
    have q25 := congrArg (fun z : SVisit => z.kept) heq
    obtain ⟨E, hE⟩ : ∃ E, E = (mkVisit (l.getD y1.2.1.toNat default) y1.1).2 := ⟨_, rfl⟩
    have hE2 := hE
    simp only [mkVisit] at hle hE2 q1 q2 q3 q4 q5 q6 q7 q8 q9 q10 q11 q12 q13 q14 q15 q16 q17 q18 q19 q20 q21 q22 q23 q24 q25
    clear heq
    have m1 := mkStringS_mono (l.getD y1.2.1.toNat default).page.policy.scripts (y1.1 + 5)
    generalize hr1 : markL mkString (l.getD y1.2.1.toNat default).page.policy.scripts (y1.1 + 5) = r1 at *
    have m2 := mkStringS_mono (l.getD y1.2.1.toNat default).page.policy.styles (r1.2)
    generalize hr2 : markL mkString (l.getD y1.2.1.toNat default).page.policy.styles (r1.2) = r2 at *
    have m3 := mkStringS_mono (l.getD y1.2.1.toNat default).page.policy.images (r2.2)
    generalize hr3 : markL mkString (l.getD y1.2.1.toNat default).page.policy.images (r2.2) = r3 at *
    have m4 := mkTokenS_mono (l.getD y1.2.1.toNat default).page.queue (r3.2 + 2)
    generalize hr4 : markL mkToken (l.getD y1.2.1.toNat default).page.queue (r3.2 + 2) = r4 at *
    have m5 := mkNodeS_mono (l.getD y1.2.1.toNat default).page.builder.nodes (r4.2 + 1)
    generalize hr5 : markL mkNode (l.getD y1.2.1.toNat default).page.builder.nodes (r4.2 + 1) = r5 at *
    have m6 := mkIntS_mono (l.getD y1.2.1.toNat default).page.builder.open_ (r5.2)
    generalize hr6 : markL mkInt (l.getD y1.2.1.toNat default).page.builder.open_ (r5.2) = r6 at *
    have m7 := mkSlotS_mono (l.getD y1.2.1.toNat default).page.slots (r6.2)
    generalize hr7 : markL mkSlot (l.getD y1.2.1.toNat default).page.slots (r6.2) = r7 at *
    have m8 := mkModuleS_mono (l.getD y1.2.1.toNat default).page.mods (r7.2)
    generalize hr8 : markL mkModule (l.getD y1.2.1.toNat default).page.mods (r7.2) = r8 at *
    have m9 := mkAddrS_mono (l.getD y1.2.1.toNat default).page.entries (r8.2)
    generalize hr9 : markL mkAddr (l.getD y1.2.1.toNat default).page.entries (r8.2) = r9 at *
    have m10 := mkAddrS_mono (l.getD y1.2.1.toNat default).page.ran (r9.2 + 4)
    generalize hr10 : markL mkAddr (l.getD y1.2.1.toNat default).page.ran (r9.2 + 4) = r10 at *
    have m11 := mkStringS_mono (l.getD y1.2.1.toNat default).page.log (r10.2)
    generalize hr11 : markL mkString (l.getD y1.2.1.toNat default).page.log (r10.2) = r11 at *
    try simp only [Int.add_assoc, Int.reduceAdd, hr1, hr2, hr3, hr4, hr5, hr6, hr7, hr8, hr9, hr10, hr11] at hle hE2 q1 q2 q3 q4 q5 q6 q7 q8 q9 q10 q11 q12 q13 q14 q15 q16 q17 q18 q19 q20 q21 q22 q23 q24 q25
    repeat first
      | ((with_reducible refine br_i (fun h => ?_) (fun h => ?_)); (· exfalso; simp (disch := omega) only [fmarkText, fheldAddrS, fheldIntS, fheldModuleS, fheldNodeS, fheldSlotS, fheldStringS, fheldTokenS, wrapId', Int.add_assoc, Int.reduceAdd, hr1, hr2, hr3, hr4, hr5, hr6, hr7, hr8, hr9, hr10, hr11, decide_eq_true_eq, decide_eq_false_iff_not, Bool.not_eq_true', Bool.not_eq_false', bne_iff_ne, bne_eq_false_iff_eq, beq_iff_eq, beq_eq_false_iff_ne, baEq, Int.not_lt, ne_eq, Decidable.not_not, decide_not] at h; first | omega | (exact h (by first | assumption | (symm; assumption))) | (simp_all; done)); clear h)
      | ((with_reducible refine ob_d ?_ ?_); · first | trivial | omega | (refine ⟨?_, ?_⟩ <;> omega) | (simp (disch := omega) only [fmarkText, fheldAddrS, fheldIntS, fheldModuleS, fheldNodeS, fheldSlotS, fheldStringS, fheldTokenS, wrapId', Int.add_assoc, Int.reduceAdd, hr1, hr2, hr3, hr4, hr5, hr6, hr7, hr8, hr9, hr10, hr11, decide_eq_true_eq, decide_eq_false_iff_not, Bool.not_eq_true', Bool.not_eq_false', bne_iff_ne, bne_eq_false_iff_eq, beq_iff_eq, beq_eq_false_iff_ne, baEq, Int.not_lt, ne_eq, Decidable.not_not, decide_not]; first | done | trivial | omega | (refine ⟨?_, ?_⟩ <;> omega) | (refine ⟨?_, ?_, ?_⟩ <;> first | omega | assumption | (symm; assumption))))
      | ((fail_if_success with_reducible refine ob_d ?_ ?_); (fail_if_success with_reducible refine br_i ?_ ?_); refine lt_e fun z e => ?_; simp (disch := omega) only [fmarkText, fheldAddrS, fheldIntS, fheldModuleS, fheldNodeS, fheldSlotS, fheldStringS, fheldTokenS, wrapId', Int.add_assoc, Int.reduceAdd, hr1, hr2, hr3, hr4, hr5, hr6, hr7, hr8, hr9, hr10, hr11, decide_eq_true_eq, decide_eq_false_iff_not, Bool.not_eq_true', Bool.not_eq_false', bne_iff_ne, bne_eq_false_iff_eq, beq_iff_eq, beq_eq_false_iff_ne, baEq, Int.not_lt, ne_eq, Decidable.not_not, decide_not] at e; subst e)
    refine ob_d ?_ trivial
    simp (disch := omega) only [fmarkText, fheldAddrS, fheldIntS, fheldModuleS, fheldNodeS, fheldSlotS, fheldStringS, fheldTokenS, wrapId', Int.add_assoc, Int.reduceAdd, hr1, hr2, hr3, hr4, hr5, hr6, hr7, hr8, hr9, hr10, hr11, decide_eq_true_eq, decide_eq_false_iff_not, Bool.not_eq_true', Bool.not_eq_false', bne_iff_ne, bne_eq_false_iff_eq, beq_iff_eq, beq_eq_false_iff_ne, baEq, Int.not_lt, ne_eq, Decidable.not_not, decide_not]
    refine ⟨⟨by omega, by omega, ?_⟩, by omega⟩
    rw [toNat1 (by omega), ht]
    show _ = (mkVisit (l.getD y1.2.1.toNat default) y1.1).2
    rw [← hE]
    omega
  · simp only [decide_eq_true_eq, decide_eq_false_iff_not] at h2
    have e1 : l.take y1.2.1.toNat = l := List.take_of_length_le (by omega)
    rw [e1] at i3
    refine Fct.leafY ?_
    show (y1.1, ()) = ((markL mkVisit l k).2, ())
    rw [i3.2.2])
def E39 : D.Env := E38.add 87 fheldVisitS
theorem E39ok : EOk Try.prog E39 := E38ok.add k87_38
-- laws.eqTab
set_option maxHeartbeats 2000000 in
theorem k47_39 : feqTab.ok Try.prog 47 := Fct.of (S := feqTab) (L := fun _ _ => none) (kp := [2,3,4,10,15,1000010,1000015]) E39ok Try.func47 (by kernel_rfl) (by kernel_rfl) (by
  rintro ⟨(x : STab), (y : STab), _⟩ hp
  refine holds_of (X := .ob (feqVisitS.pre (x.visits, y.visits, ())) <|
 .lt (Bool × PUnit) (feqVisitS.fn (x.visits, y.visits, ())) fun z2 =>
 .br (!z2.fst)
  (.leaf (mkR feqTab.rs (false, ())) [] [])
  (.br (x.at_ != y.at_)
   (.leaf (mkR feqTab.rs (false, ())) [] [])
   (.leaf (mkR feqTab.rs (true, ())) [] []))) (by kernel_rfl) ?_
  refine ob_i ?_ fun o1 => lt_i (br_i (fun h2 => Fct.leafY ?_) (fun h2 => br_i (fun h3 => Fct.leafY ?_) (fun h3 => Fct.leafY ?_)))
  all_goals try simp only [decide_eq_true_eq, decide_eq_false_iff_not, Bool.not_eq_true', Bool.not_eq_false', bne_iff_ne, bne_eq_false_iff_eq, beq_iff_eq, beq_eq_false_iff_ne, baEq, Int.not_lt, Int.not_le, ne_eq, Decidable.not_not] at *
  all_goals try simp only [feqTab, feqVisitS, etaToken, etaNode, etaBuilder, etaPolicy, etaPage, etaVisit, etaTab, etaServer, etaCache, etaNet, etaLoader, etaSheet, etaResult, etaSlot, etaModule, etaAddr, etaRequest, etaResponse, etaConn, etaGuess, etaEntry, etaSent, etaFile, baSz, List.size_toArray, List.length_cons, List.length_nil, Nat.reduceAdd, Int.toNat_zero, List.drop_zero, decide_eq_true_eq, decide_eq_false_iff_not, Bool.not_eq_true', Bool.not_eq_false', bne_iff_ne, bne_eq_false_iff_eq, beq_iff_eq, beq_eq_false_iff_ne, Bool.not_eq_true, Bool.not_eq_false, ne_eq, Decidable.not_not, baEq, decide_not, Prod.mk.injEq, and_true, true_and, Room, List.nil_append, Nat.zero_add, Int.not_lt, Int.not_le] at *
  all_goals first | trivial | (cases x; cases y; simp_all; done) | (simp only [szL, szTab] at *; omega) | grind [szL, szTab])
def E40 : D.Env := E39.add 47 feqTab
theorem E40ok : EOk Try.prog E40 := E39ok.add k47_39
-- laws.markTab
set_option maxHeartbeats 2000000 in
theorem k48_40 : fmarkTab.ok Try.prog 48 := MS.of (S := fmarkTab) (L := fun _ _ _ => none) (kp := [1,2,4]) (kl := [0]) E40ok Try.func48 (by kernel_rfl) (by kernel_rfl) (by
  rintro (x : STab) (k : Int) hp
  refine holds_of (X := .ob (fmarkVisitS.pre x.visits k) <|
 .lt (List SVisit × Int) (fmarkVisitS.fn x.visits k) fun z2 =>
 .leaf (.one false [vi (z2.snd)]) [] [((0 : Nat), ⟨Ty.visit, z2.fst⟩)]) (by kernel_rfl) ?_
  refine ob_d ?_ <| lt_i (MS.leaf ?_)
  all_goals have hp1 : 0 ≤ k := hp.1
  all_goals have hp2 : (mvTab x k).2 ≤ 4000000000000000000 := hp.2
  all_goals clear hp
  all_goals simp only [mvTab] at hp2
  all_goals try have m1 := mkVisitS_mono x.visits (k)
  all_goals try generalize hr1 : markL mkVisit x.visits (k) = r1 at *
  all_goals simp (disch := omega) only [fmarkVisitS, fmarkText, hr1]
  all_goals first | trivial | omega | (refine ⟨?_, ?_⟩ <;> omega) | skip
  refine MS.leaf ?_
  simp only [fmarkTab, mvTab, hr1]
  exact ⟨⟨rfl, rfl, trivial⟩, trivial, rfl⟩)
def E41 : D.Env := E40.addM 48 fmarkTab
theorem E41ok : EOk Try.prog E41 := E40ok.addM k48_40
-- laws.heldTab
set_option maxHeartbeats 2000000 in
theorem k49_41 : fheldTab.ok Try.prog 49 := Fct.of (S := fheldTab) (L := fun _ _ => none) (kp := [1,2,4,10,1000010]) E41ok Try.func49 (by kernel_rfl) (by kernel_rfl) (by
  rintro ⟨(x : STab), (k : Int), _⟩ hp
  refine holds_of (X := .ob (fheldVisitS.pre (x.visits, k, ())) <|
 .lt (Int × PUnit) (fheldVisitS.fn (x.visits, k, ())) fun z2 =>
 .br (decide (z2.fst < (0 : Int)))
  (.leaf (mkR fheldTab.rs ((-1 : Int), ())) [] [])
  (.leaf (mkR fheldTab.rs (z2.fst, ())) [] [])) (by kernel_rfl) ?_
  refine ob_d ?_ <| lt_i (br_i (fun h2 => Fct.leafY ?_) (fun h2 => Fct.leafY ?_))
  all_goals have hp1 : 0 ≤ k := hp.1
  all_goals have hp2 : (mvTab x k).2 ≤ 4000000000000000000 := hp.2.1
  all_goals have heq : (mvTab x k).1 = x := hp.2.2
  all_goals clear hp
  all_goals try have q1 := congrArg (fun z : STab => z.visits) heq
  all_goals obtain ⟨E, hE⟩ : ∃ E, E = (mvTab x k).2 := ⟨_, rfl⟩
  all_goals have hE2 := hE
  all_goals simp only [mvTab] at hp2 hE2 q1
  all_goals clear heq
  all_goals try have m1 := mkVisitS_mono x.visits (k)
  all_goals try generalize hr1 : markL mkVisit x.visits (k) = r1 at *
  all_goals simp (disch := omega) only [fheldVisitS, fmarkText, hr1, decide_eq_true_eq, decide_eq_false_iff_not, Int.not_lt] at *
  all_goals try simp only [q1]
  all_goals first | trivial | omega | (exfalso; omega) | (refine ⟨?_, ?_, ?_⟩ <;> first | omega | assumption) | skip
  all_goals first | (show (_, ()) = ((mvTab x k).2, ()); rw [← hE, Prod.mk.injEq]; exact ⟨by omega, rfl⟩) | skip)
def E42 : D.Env := E41.add 49 fheldTab
theorem E42ok : EOk Try.prog E42 := E41ok.add k49_41
def fNewTab : Fct := ⟨[], [rE .tab], fun _ => True, fun _ => (⟨[], -1⟩, ())⟩
-- spec.NewTab
theorem k45_42 : fNewTab.ok Try.prog 45 := Fct.of (S := fNewTab) (L := fun _ _ => none) (kp := [0]) E42ok Try.func45 (by kernel_rfl) (by kernel_rfl) (by
  rintro ⟨_⟩ hp
  refine holds_of (X := .leaf (.one true [.nl, vi ((-1 : Int))]) [] []) (by kernel_rfl) ?_
  refine Fct.leafZ (⟨[], (-1 : Int)⟩, ()) (by repeat' first | exact rfl | exact trivial | refine And.intro ?_ ?_) ?_
  all_goals try simp only [decide_eq_true_eq, decide_eq_false_iff_not, Bool.not_eq_true', Bool.not_eq_false', bne_iff_ne, bne_eq_false_iff_eq, beq_iff_eq, beq_eq_false_iff_ne, baEq, Int.not_lt, Int.not_le, ne_eq, Decidable.not_not] at *
  all_goals try simp only [fNewTab, etaToken, etaNode, etaBuilder, etaPolicy, etaPage, etaVisit, etaTab, etaServer, etaCache, etaNet, etaLoader, etaSheet, etaResult, etaSlot, etaModule, etaAddr, etaRequest, etaResponse, etaConn, etaGuess, etaEntry, etaSent, etaFile, baSz, List.size_toArray, List.length_cons, List.length_nil, Nat.reduceAdd, Int.toNat_zero, List.drop_zero, decide_eq_true_eq, decide_eq_false_iff_not, Bool.not_eq_true', Bool.not_eq_false', bne_iff_ne, bne_eq_false_iff_eq, beq_iff_eq, beq_eq_false_iff_ne, Bool.not_eq_true, Bool.not_eq_false, ne_eq, Decidable.not_not, baEq, decide_not, Prod.mk.injEq, and_true, true_and, Room, List.nil_append, Nat.zero_add, Int.not_lt, Int.not_le] at *
  all_goals first | trivial | omega | (simp_all; done) | (simp_all; omega) | grind)
def E43 : D.Env := E42.add 45 fNewTab
theorem E43ok : EOk Try.prog E43 := E42ok.add k45_42
-- impl.NewTab
theorem k46_43 : fNewTab.ok Try.prog 46 := Fct.of (S := fNewTab) (L := fun _ _ => none) (kp := [0]) E43ok Try.func46 (by kernel_rfl) (by kernel_rfl) (by
  rintro ⟨_⟩ hp
  refine holds_of (X := .leaf (.one true [.nl, vi ((-1 : Int))]) [] []) (by kernel_rfl) ?_
  refine Fct.leafZ (⟨[], (-1 : Int)⟩, ()) (by repeat' first | exact rfl | exact trivial | refine And.intro ?_ ?_) ?_
  all_goals try simp only [decide_eq_true_eq, decide_eq_false_iff_not, Bool.not_eq_true', Bool.not_eq_false', bne_iff_ne, bne_eq_false_iff_eq, beq_iff_eq, beq_eq_false_iff_ne, baEq, Int.not_lt, Int.not_le, ne_eq, Decidable.not_not] at *
  all_goals try simp only [fNewTab, etaToken, etaNode, etaBuilder, etaPolicy, etaPage, etaVisit, etaTab, etaServer, etaCache, etaNet, etaLoader, etaSheet, etaResult, etaSlot, etaModule, etaAddr, etaRequest, etaResponse, etaConn, etaGuess, etaEntry, etaSent, etaFile, baSz, List.size_toArray, List.length_cons, List.length_nil, Nat.reduceAdd, Int.toNat_zero, List.drop_zero, decide_eq_true_eq, decide_eq_false_iff_not, Bool.not_eq_true', Bool.not_eq_false', bne_iff_ne, bne_eq_false_iff_eq, beq_iff_eq, beq_eq_false_iff_ne, Bool.not_eq_true, Bool.not_eq_false, ne_eq, Decidable.not_not, baEq, decide_not, Prod.mk.injEq, and_true, true_and, Room, List.nil_append, Nat.zero_add, Int.not_lt, Int.not_le] at *
  all_goals first | trivial | omega | (simp_all; done) | (simp_all; omega) | grind)
def E44 : D.Env := E43.add 46 fNewTab
theorem E44ok : EOk Try.prog E44 := E43ok.add k46_43
def lNewTab : Fct := lawFS []
-- laws.FnExactNewTab
set_option maxHeartbeats 2000000 in
theorem k7_44 : lNewTab.ok Try.prog 7 := Fct.of (S := lNewTab) (L := fun _ _ => none) (kp := [0,1,2,3,4,5,11,19,22,27,32,35,1000011,1000019,1000022,1000027,1000032,1000035]) E44ok Try.func7 (by kernel_rfl) (by kernel_rfl) (by
  rintro ⟨_⟩ hp
  refine holds_of (X := .ob (fNewTab.pre ()) <|
 .lt (STab × PUnit) (fNewTab.fn ()) fun z2 =>
 .ob (fNewTab.pre ()) <|
  .lt (STab × PUnit) (fNewTab.fn ()) fun z3 =>
  .ob (feqTab.pre (z3.fst, z2.fst, ())) <|
   .lt (Bool × PUnit) (feqTab.fn (z3.fst, z2.fst, ())) fun z4 =>
   .br (!z4.fst)
    (.leaf (mkR lNewTab.rs (false, ())) [] [])
    (.ob (fmarkTab.pre z3.fst (1 : Int)) <|
     .lt (STab × Int) (fmarkTab.fn z3.fst (1 : Int)) fun z5 =>
     .ob (fheldTab.pre ({ visits := z5.fst.visits, at_ := z3.fst.at_ : STab }, (1 : Int), ())) <|
      .lt (Int × PUnit) (fheldTab.fn ({ visits := z5.fst.visits, at_ := z3.fst.at_ : STab }, (1 : Int), ())) fun z6 =>
      .br (decide (z6.fst < (0 : Int)))
       (.leaf (mkR lNewTab.rs (false, ())) [] [])
       (.br (z6.fst != z5.snd)
        (.leaf (mkR lNewTab.rs (false, ())) [] [])
        (.ob (fNewTab.pre ()) <|
         .lt (STab × PUnit) (fNewTab.fn ()) fun z7 =>
         .ob (feqTab.pre (z7.fst, z2.fst, ())) <|
          .lt (Bool × PUnit) (feqTab.fn (z7.fst, z2.fst, ())) fun z8 =>
          .br (!z8.fst)
           (.leaf (mkR lNewTab.rs (false, ())) [] [])
           (.ob (fheldTab.pre ({ visits := z5.fst.visits, at_ := z3.fst.at_ : STab }, (1 : Int), ())) <|
            .lt (Int × PUnit) (fheldTab.fn ({ visits := z5.fst.visits, at_ := z3.fst.at_ : STab }, (1 : Int), ())) fun z9 =>
            .br (decide (z9.fst < (0 : Int)))
             (.leaf (mkR lNewTab.rs (false, ())) [] [])
             (.br (z9.fst != z5.snd)
              (.leaf (mkR lNewTab.rs (false, ())) [] [])
              (.leaf (mkR lNewTab.rs (true, ())) [] []))))))) (by kernel_rfl) ?_
  refine ob_i trivial fun _ => lt_e fun z2 ez2 => (ob_i trivial fun _ => lt_e fun z3 ez3 => (ob_i ?_ fun o1 => lt_e fun z4 ez4 => (br_i (fun h2 => Fct.leafY ?_) (fun h2 => ob_i ?_ fun o3 => lt_e fun z5 ez5 => (ob_i ?_ fun o4 => lt_e fun z6 ez6 => (br_i (fun h5 => Fct.leafY ?_) (fun h5 => br_i (fun h6 => Fct.leafY ?_) (fun h6 => ob_i trivial fun _ => lt_e fun z7 ez7 => (ob_i ?_ fun o7 => lt_e fun z8 ez8 => (br_i (fun h8 => Fct.leafY ?_) (fun h8 => ob_i ?_ fun o9 => lt_e fun z9 ez9 => (br_i (fun h10 => Fct.leafY ?_) (fun h10 => br_i (fun h11 => Fct.leafY ?_) (fun h11 => Fct.leafY ?_))))))))))))))
  all_goals clear hp
  all_goals try have hbd0 := mvTab_bd z3.fst (1 : Int)
  all_goals subst_vars
  all_goals try simp only [decide_eq_true_eq, decide_eq_false_iff_not, Bool.not_eq_true', Bool.not_eq_false', bne_iff_ne, bne_eq_false_iff_eq, beq_iff_eq, beq_eq_false_iff_ne, baEq, Int.not_lt, Int.not_le, ne_eq, Decidable.not_not] at *
  all_goals try simp only [fNewTab, feqTab, fheldTab, fmarkTab, lNewTab, etaToken, etaNode, etaBuilder, etaPolicy, etaPage, etaVisit, etaTab, etaServer, etaCache, etaNet, etaLoader, etaSheet, etaResult, etaSlot, etaModule, etaAddr, etaRequest, etaResponse, etaConn, etaGuess, etaEntry, etaSent, etaFile, baSz, List.size_toArray, List.length_cons, List.length_nil, Nat.reduceAdd, Int.toNat_zero, List.drop_zero, decide_eq_true_eq, decide_eq_false_iff_not, Bool.not_eq_true', Bool.not_eq_false', bne_iff_ne, bne_eq_false_iff_eq, beq_iff_eq, beq_eq_false_iff_ne, Bool.not_eq_true, Bool.not_eq_false, ne_eq, Decidable.not_not, baEq, decide_not, Prod.mk.injEq, and_true, true_and, Room, List.nil_append, Nat.zero_add, Int.not_lt, Int.not_le, decide_true] at *
  all_goals try simp only [mvTab_re] at *
  all_goals first | trivial | omega | grind [lessen])
def E45 : D.Env := E44.add 7 lNewTab
theorem E45ok : EOk Try.prog E45 := E44ok.add k7_44

section
open Go.ChangeShapes Go.WideShapes Go.ChangeAt Go.RowKit
theorem own : ownKnob Try.prog.godebug = none := by kernel_rfl
theorem types : ∀ e t, tyOf e = some t → e ∈ ([3, 4, 5, 9, 34, 36, 54, 69, 77, 80, 86, 89, 94, 95, 97, 111, 156, 158, 162, 166, 168, 177, 181, 184, 188, 215, 218, 220, 222, 226, 231, 254, 257, 259] : List TypeId) := by
  intro e t h
  unfold tyOf at h
  split at h <;> first | (simp; done) | cases h
theorem lifted (os : Os) (started : os.Started) (H : Type) (enc : TypeId × Value → H) :
    ReturnsInHanded {} Try.checked os 7 .any (Rows.fnExactNewTabSpec.pre6 enc Try.prog Try.f7 Rows.fnExactNewTabRow.domain false) (Rows.fnExactNewTabSpec.post enc Try.prog Try.f7 false true false false) := by
  refine handed_sh (C := Try.checked) own started (by kernel_rfl) Try.func7
    (ChangeSpec.witness6 (enc := enc) (C := Try.checked) false ⟨#[], #[], []⟩ 8 (by kernel_rfl) (by kernel_rfl) (by kernel_rfl) (by kernel_rfl)) ?_
  intro W base args ds gs before hval0 hW hsh
  have hval : ∀ (j : Nat) t v, Try.f7.params[j]? = some t → args[j]? = some v → Value.okWide Try.prog W .any base t v := hval0
  refine law_calls (show rowOk Try.prog Try.f7 tyOf [3, 4, 5, 9, 34, 36, 54, 69, 77, 80, 86, 89, 94, 95, 97, 111, 156, 158, 162, 166, 168, 177, 181, 184, 188, 215, 218, 220, 222, 226, 231, 254, 257, 259] [] = true by kernel_rfl) types rfl Try.underlying4 rfl hW (fun xs h => ?_) hval hsh k7_44
  · rw [Try.params7] at h
    obtain rfl : xs = [] := List.length_eq_zero_iff.1 h
    rfl
set_option maxHeartbeats 0 in
theorem closed : joinedFacts Try.prog 7 Try.f7 Rows.fnExactNewTabSpec Rows.fnExactNewTabRow = true := by
  unfold joinedFacts
  refine (and_i (and_i (and_i (and_i (and_i (and_i (and_i (and_i (and_i (and_i (and_i (and_i (and_i (and_i (and_i (and_i (and_i (and_i (and_i (and_i (and_i (and_i (and_i (and_i (and_i (and_i (and_i (and_i (and_i (and_i (and_i ?_ ?_) ?_) ?_) ?_) ?_) ?_) ?_) ?_) ?_) ?_) ?_) ?_) ?_) ?_) ?_) ?_) ?_) ?_) ?_) ?_) ?_) ?_) ?_) ?_) ?_) ?_) ?_) ?_) ?_) ?_) ?_)
  all_goals decide +kernel
theorem over : Rows.fnExactNewTabRow.holds Try.pinned (OpenSpec.ofChange Rows.fnExactNewTabSpec) :=
  OpenClaim.holds_of_wide 7 Try.f7 rfl rfl rfl rfl rfl rfl rfl ⟨rfl, rfl, rfl, rfl, rfl⟩ rfl rfl rfl rfl rfl (by kernel_rfl) Try.func7 closed
    (of_decide_eq_true (by kernel_rfl)) (by unfold Func.isWrapper; first | (rw [if_pos (by decide +kernel)]; kernel_rfl) | (rw [if_neg (by decide +kernel)]; exact ⟨rfl, rfl⟩))
    (fun os started H enc _ => lifted os started H enc)
theorem proved : Rows.FnExactNewTabSaid := over
end
end Go.Proofs.Ytkadnfkdgljfoaa.fnExactNewTab
