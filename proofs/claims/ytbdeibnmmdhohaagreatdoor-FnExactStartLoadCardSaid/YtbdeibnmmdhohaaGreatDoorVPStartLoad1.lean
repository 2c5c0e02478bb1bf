/-
  Contracts of functions that the law of FnExactStartLoad reaches, part 1.
-/
import Derived.Test.YtbdeibnmmdhohaaGreatDoorVLe
import Derived.Test.YtbdeibnmmdhohaaGreatDoorRows
import Derived.Test.YtbdeibnmmdhohaaGreatDoorCards
import Derived.Test.YtbdeibnmmdhohaaGreatDoorTie
import Derived.LaidMore
import Derived.Lay
import Derived.SevenTiedAt
import Derived.WalkKit
import Derived.ProofKit
import Derived.OpenShut
namespace Go.Proofs.YtbdeibnmmdhohaaGreatDoor.fnExactStartLoad
open Go.Proofs.YtbdeibnmmdhohaaGreatDoor
open Go.D
set_option maxRecDepth 100000
set_option linter.unusedVariables false
set_option linter.unusedSimpArgs false
def tyOf : TypeId → Option Ty
  | 3 => some .int
  | 4 => some .bool
  | 5 => some .u8
  | 9 => some .str
  | 25 => some .cache
  | 28 => some .net
  | 30 => some .addr
  | 37 => some .cache
  | 40 => some .net
  | 41 => some .addr
  | 44 => some .policy
  | 46 => some .tokenizer
  | 50 => some .builder
  | 55 => some .page
  | 59 => some .loader
  | 76 => some .response
  | 102 => some .server
  | 106 => some .sent
  | 114 => some .sent
  | 123 => some .server
  | 139 => some .conn
  | 142 => some .guess
  | 157 => some .response
  | 159 => some .entry
  | 164 => some .entry
  | 168 => some .file
  | 174 => some .node
  | 188 => some .token
  | 192 => some .slot
  | 195 => some .module
  | 204 => some .file
  | 235 => some .attr
  | _ => none
def E0 : D.Env := D.Env.empty tyOf
theorem E0ok : EOk Tryz.prog E0 := EOk.empty _ _
set_option maxHeartbeats 2000000 in
theorem k90_0 : fmarkText.ok Tryz.prog 90 := Fct.of (S := fmarkText) (L := fun ⟨k, _⟩ => fun | 4 => some (LmTx k) | _ => none) (kp := [0,2,3,5,7,1000005,1000007]) E0ok Tryz.func90 (by kernel_rfl) (by kernel_rfl) (by
  rintro ⟨(k : Int), _⟩ hp
  refine holds_of (X := .br (decide (k ≤ (0 : Int)))
 (.leaf (mkR fmarkText.rs ({ data := #[(109 : UInt8), (48 : UInt8)] : ByteArray }, ())) [] [])
 (lpx (LmTx k) (k, ({ data := #[] : ByteArray }, ())) fun (y2 : Int × ByteArray × PUnit) bk2 =>
  .br (decide (y2.fst > (0 : Int)))
   (.ob ((10 : Int) ≠ (0 : Int)) <|
    .ob (True) <|
    .ob (sameSize
  (List.foldl (fun r n => r.push (UInt8.ofNat n.toNat)) ByteArray.empty
    [IntKind.u8.wrap (IntKind.i64.wrap ((48 : Int) + y2.fst.tmod (10 : Int)))])
  y2.snd.fst) <|
    .ob ((10 : Int) ≠ (0 : Int)) <|
    .ob (Value.string { data := #[] : ByteArray } = Value.string { data := #[] : ByteArray }) <|
    .ob (bk2 (IntKind.i64.wrap (y2.fst.tdiv (10 : Int)), (List.foldl (fun r n => r.push (UInt8.ofNat n.toNat)) ByteArray.empty
    [IntKind.u8.wrap (IntKind.i64.wrap ((48 : Int) + y2.fst.tmod (10 : Int)))] ++
  y2.snd.fst, ()))) <|
    .ok)
   (.ob (sameSize { data := #[(109 : UInt8)] : ByteArray } y2.snd.fst) <|
    .leaf (mkR fmarkText.rs ({ data := #[(109 : UInt8)] : ByteArray } ++ y2.snd.fst, ())) [] []))) (by kernel_rfl) ?_
  refine br_i (fun h1 => Fct.leafY ?_) (fun h1 => lpx_i ?_ fun (y2 : Int × ByteArray × PUnit) i2 => br_i (fun h3 => ob_i ?_ fun o4 => ob_i trivial fun _ => ob_i ?_ fun o5 => ob_i ?_ fun o6 => ob_i rfl fun _ => ob_i ?_ fun o7 => trivial) (fun h3 => ob_i ?_ fun o8 => Fct.leafY ?_))
  all_goals try rw [digByte (by first | exact i2.1 | (have := i2.1; omega))]
  all_goals try simp only [std1, ne_eq] at *
  all_goals try simp only [LmTx, fmarkText, etaS, std1, std2, Nat.reduceAdd, ne_eq] at *
  · simp [mtext, h1]
  · exact ⟨by omega, by omega, 64, rfl, Nat.lt_of_lt_of_le (show k.toNat < 10 ^ 19 by omega) (Nat.pow_le_pow_right (by decide) (by decide)), rfl⟩
  · decide
  · obtain ⟨i3, i4, f, i5, i6, i7⟩ := i2
    show (1 : Nat) + _ ≤ _
    omega
  · decide
  · obtain ⟨i3, i4, f, i5, i6, i7⟩ := i2
    have hd : IntKind.i64.wrap (y2.1.tdiv 10) = y2.1 / 10 := (tdiv10 i3).resolve_right (by omega)
    rw [hd]
    cases f with
    | zero => simp at i6; omega
    | succ f =>
      rw [digs_step (k := y2.1.toNat) (by omega)] at i7
      have i8 : y2.1.toNat < 10 * 10 ^ f := by rw [Nat.pow_succ] at i6; omega
      generalize 10 ^ f = p at i8
      refine ⟨⟨by omega, by omega, f, by rw [sz1]; omega, by omega, ?_⟩, by omega⟩
      rw [show (y2.1 / 10).toNat = y2.1.toNat / 10 by omega]
      exact i7
  · obtain ⟨i3, i4, f, i5, i6, i7⟩ := i2
    show (1 : Nat) + _ ≤ _
    omega
  · obtain ⟨i3, i4, f, i5, i6, i7⟩ := i2
    have h0 : y2.1.toNat = 0 := by omega
    rw [h0, digs_end] at i7
    rw [mtext, if_neg (by omega), i7])
def E1 : D.Env := E0.add 90 fmarkText
theorem E1ok : EOk Tryz.prog E1 := E0ok.add k90_0
set_option maxHeartbeats 2000000 in
theorem k31_1 : feqStringS.ok Tryz.prog 31 := Fct.of (S := feqStringS) (L := fun ⟨l, m, _⟩ => fun | 4 => some (LeqS .str l m) | _ => none) (kp := [0,1,4,5,10,14,25,1000010,1000014,1000025]) E1ok Tryz.func31 (by kernel_rfl) (by kernel_rfl) (by
  rintro ⟨(l : List ByteArray), (m : List ByteArray), _⟩ hp
  refine holds_of (X := .br ((↑l.length : Int) != (↑m.length : Int))
 (.leaf (mkR feqStringS.rs (false, ())) [] [])
 (lpx (LeqS .str l m) ((0 : Int), ()) fun (y2 : Int × PUnit) bk2 =>
  .br (decide (y2.fst < (↑l.length : Int)))
   (.ob ((0 : Int) ≤ y2.fst ∧ y2.fst < (↑l.length : Int)) <|
    .ob ((0 : Int) ≤ y2.fst ∧ y2.fst < (↑m.length : Int)) <|
    .br (!(l.getD y2.fst.toNat default).toList == (m.getD y2.fst.toNat default).toList)
    (.leaf (mkR feqStringS.rs (false, ())) [] [])
    (.ob (l = l) <|
     .ob (m = m) <|
     .ob (bk2 (IntKind.i64.wrap (y2.fst + (1 : Int)), ())) <|
     .ok))
   (.leaf (mkR feqStringS.rs (true, ())) [] []))) (by kernel_rfl) ?_
  refine br_i (fun h1 => Fct.leafY ?_) (fun h1 => lpx_i ?_ fun (y2 : Int × PUnit) i2 => br_i (fun h3 => ob_i ?_ fun o4 => ob_i ?_ fun o5 => br_i (fun h6 => Fct.leafY ?_) (fun h6 => ob_i rfl fun _ => ob_i rfl fun _ => ob_i ?_ fun o7 => trivial)) (fun h3 => Fct.leafY ?_))
  all_goals try simp only [std1, ne_eq] at *
  all_goals try simp only [LeqS, feqStringS, etaS, std1, std2, Nat.reduceAdd, ne_eq] at *
  · rw [decide_eq_false]; rintro rfl; omega
  · exact ⟨by omega, by omega, by simp⟩
  · omega
  · omega
  · rw [decide_eq_false]; rintro rfl; first | exact absurd rfl h5 | exact absurd rfl h6
  · have hw : IntKind.i64.wrap (y2.1 + 1) = y2.1 + 1 := wrapId (by omega)
    rw [hw, toNat1 (by omega)]
    refine ⟨⟨by omega, by omega, ?_⟩, by omega⟩
    rw [take_succ (by omega), take_succ (by omega), i2.2.2]; first | rw [h5] | rw [h6]
  · have e : l.take y2.1.toNat = l := List.take_of_length_le (by omega)
    have e2 : m.take y2.1.toNat = m := List.take_of_length_le (by omega)
    rw [decide_eq_true]; rw [← e, ← e2, i2.2.2])
def E2 : D.Env := E1.add 31 feqStringS
theorem E2ok : EOk Tryz.prog E2 := E1ok.add k31_1
set_option maxHeartbeats 2000000 in
theorem k41_2 : fmarkStringS.ok Tryz.prog 41 := MS.of (S := fmarkStringS) (L := fun l k => fun | 2 => some (LmkS .str mkString l k) | _ => none) (kp := [0,1,4,5,9,1000009]) (kl := [0]) E2ok Tryz.func41 (by kernel_rfl) (by kernel_rfl) (by
  rintro (l : List ByteArray) (k : Int) hp
  refine holds_of (X := lpx (LmkS .str mkString l k) (k, ((0 : Int), (l, ()))) fun (y1 : Int × Int × List ByteArray × PUnit) bk1 =>
 .br (decide (y1.snd.fst < (↑y1.snd.snd.fst.length : Int)))
  (.ob (fmarkText.pre (y1.fst, ())) <|
   .lt (ByteArray × PUnit) (fmarkText.fn (y1.fst, ())) fun z2 =>
   .ob ((0 : Int) ≤ y1.snd.fst ∧ y1.snd.fst < (↑y1.snd.snd.fst.length : Int)) <|
    .ob (y1.snd.fst.toNat < y1.snd.snd.fst.length) <|
    .lt (List ByteArray) (y1.snd.snd.fst.modify y1.snd.fst.toNat fun z => z2.fst) fun z3 =>
    .ob (Value.int IntKind.i64 (0 : Int) = Value.int IntKind.i64 (0 : Int)) <|
     .ob (bk1 (IntKind.i64.wrap (y1.fst + (1 : Int)), (IntKind.i64.wrap (y1.snd.fst + (1 : Int)), (z3, ())))) <|
     .ok)
  (.leaf (.one false [vi (y1.fst)]) [] [((0 : Nat), ⟨Ty.str, y1.snd.snd.fst⟩)])) (by kernel_rfl) ?_
  refine lpx_i ?_ fun (y1 : Int × Int × List ByteArray × PUnit) i1 => br_i (fun h2 => ob_i ?_ fun o3 => lt_i (ob_i ?_ fun o4 => ob_i ?_ fun o5 => lt_i (ob_i rfl fun _ => ob_i ?_ fun o6 => trivial))) (fun h2 => MS.leaf ?_)
  · exact ⟨by simp, by simp, by simp [markL], by simp [markL]⟩
  all_goals have hp1 : 0 ≤ k := hp.1
  all_goals have hp2 : (markL mkString l k).2 ≤ 4000000000000000000 := hp.2
  all_goals have i3 : 0 ≤ y1.2.1 ∧ y1.2.1 ≤ l.length ∧ y1.1 = (markL mkString (l.take y1.2.1.toNat) k).2 ∧ y1.2.2.1 = (markL mkString (l.take y1.2.1.toNat) k).1 ++ l.drop y1.2.1.toNat := i1
  all_goals have hcnt := markL_cnt (f := mkString) (fun x k => by simp only [mkString]; omega) l k
  all_goals have hx : y1.2.2.1.length = l.length := by rw [i3.2.2.2, List.length_append, markL_len, List.length_take, List.length_drop]; omega
  all_goals simp only [decide_eq_true_eq, decide_eq_false_iff_not, hx] at h2
  all_goals clear i1
  all_goals try have hlt : y1.2.1.toNat < l.length := by omega
  all_goals try have ht := markL_take (f := mkString) hlt k
  all_goals try have hle := (markL_take_le mkString_mono l (y1.2.1.toNat + 1) k).2
  all_goals try have hl0 := (markL_take_le mkString_mono l y1.2.1.toNat k).1
  all_goals try rw [ht] at hle
  all_goals try rw [← i3.2.2.1] at hle hl0 ht
  all_goals try simp only [mkString] at hle
  all_goals first | decide | (simp only [List.length_modify, hx]; omega) | (refine ⟨?_, ?_⟩ <;> (try simp (discharger := omega) only [wrapId']) <;> omega) | skip
  · try clear o3 o4 o5
    simp (discharger := omega) only [wrapId', fmarkText]
    have hA : (markL mkString (l.take y1.2.1.toNat) k).1.length = y1.2.1.toNat := by rw [markL_len, List.length_take]; omega
    refine ⟨⟨by omega, by omega, ?_, ?_⟩, ?_⟩
    · rw [toNat1 (by omega), ht]
      first | done | (simp only [mkString]; done) | (simp only [mkString]; omega)
    · rw [toNat1 (by omega), ht, i3.2.2.2, drop_cons hlt]
      simp only [mod_at hA, mkString, Int.add_assoc, Int.reduceAdd, List.append_assoc, List.cons_append, List.nil_append]
    · omega
  · refine MS.leafL (t := .str) (fn := fun l k => markL mkString l k) ?_
    have e1 : l.take y1.2.1.toNat = l := List.take_of_length_le (by omega)
    have e2 : l.drop y1.2.1.toNat = [] := List.drop_of_length_le (by omega)
    rw [i3.2.2.2, i3.2.2.1, e1, e2, List.append_nil])
def E3 : D.Env := E2.addM 41 fmarkStringS
theorem E3ok : EOk Tryz.prog E3 := E2ok.addM k41_2
set_option maxHeartbeats 2000000 in
theorem k46_3 : fheldStringS.ok Tryz.prog 46 := Fct.of (S := fheldStringS) (L := fun ⟨l, k, _⟩ => fun | 2 => some (LheS .str mkString l k) | _ => none) (kp := [0,1,4,5,9,18,1000009,1000018]) E3ok Tryz.func46 (by kernel_rfl) (by kernel_rfl) (by
  rintro ⟨(l : List ByteArray), (k : Int), _⟩ hp
  refine holds_of (X := lpx (LheS .str mkString l k) (k, ((0 : Int), ())) fun (y1 : Int × Int × PUnit) bk1 =>
 .br (decide (y1.snd.fst < (↑l.length : Int)))
  (.ob ((0 : Int) ≤ y1.snd.fst ∧ y1.snd.fst < (↑l.length : Int)) <|
   .ob (fmarkText.pre (y1.fst, ())) <|
   .lt (ByteArray × PUnit) (fmarkText.fn (y1.fst, ())) fun z2 =>
   .br (!(l.getD y1.snd.fst.toNat default).toList == z2.fst.toList)
    (.leaf (mkR fheldStringS.rs ((-1 : Int), ())) [] [])
    (.ob (l = l) <|
     .ob (bk1 (IntKind.i64.wrap (y1.fst + (1 : Int)), (IntKind.i64.wrap (y1.snd.fst + (1 : Int)), ()))) <|
     .ok))
  (.leaf (mkR fheldStringS.rs (y1.fst, ())) [] [])) (by kernel_rfl) ?_
  refine lpx_i ?_ fun (y1 : Int × Int × PUnit) i1 => br_i (fun h2 => ob_i ?_ fun o3 => ob_i ?_ fun o4 => lt_i (br_i (fun h5 => Fct.leafY ?_) (fun h5 => ob_i rfl fun _ => ob_i ?_ fun o6 => trivial))) (fun h2 => Fct.leafY ?_)
  · exact ⟨by simp, by simp, by simp [markL]⟩
  all_goals have hp1 : 0 ≤ k := hp.1
  all_goals have hp2 : (markL mkString l k).2 ≤ 4000000000000000000 := hp.2.1
  all_goals have hp3 : (markL mkString l k).1 = l := hp.2.2
  all_goals have i3 : 0 ≤ y1.2.1 ∧ y1.2.1 ≤ l.length ∧ y1.1 = (markL mkString (l.take y1.2.1.toNat) k).2 := i1
  all_goals have hcnt := markL_cnt (f := mkString) (fun x k => by simp only [mkString]; omega) l k
  all_goals simp only [decide_eq_true_eq, decide_eq_false_iff_not] at h2
  all_goals clear i1 hp
  all_goals try have hlt : y1.2.1.toNat < l.length := by omega
  all_goals try have ht := markL_take (f := mkString) hlt k
  all_goals try have hle := (markL_take_le mkString_mono l (y1.2.1.toNat + 1) k).2
  all_goals try have hl0 := (markL_take_le mkString_mono l y1.2.1.toNat k).1
  all_goals try have heq := markL_held hp3 hlt
  all_goals try rw [ht] at hle
  all_goals try rw [← i3.2.2] at hle hl0 ht heq
  all_goals try simp only [mkString] at hle heq
  all_goals first | decide | omega | (refine ⟨?_, ?_⟩ <;> (try simp (discharger := omega) only [wrapId']) <;> omega) | skip
  all_goals try (exfalso; clear ht; generalize l.getD y1.2.1.toNat default = c at *; subst heq; simp (discharger := omega) [wrapId', fmarkText, Int.add_assoc] at *; done)
  · simp (discharger := omega) only [wrapId']
    refine ⟨⟨by omega, by omega, ?_⟩, ?_⟩
    · rw [toNat1 (by omega), ht]
      first | done | (simp only [mkString]; done) | (simp only [mkString]; omega)
    · omega
  · have e1 : l.take y1.2.1.toNat = l := List.take_of_length_le (by omega)
    rw [e1] at i3
    show (y1.1, ()) = ((markL mkString l k).2, ())
    rw [i3.2.2])
def E4 : D.Env := E3.add 46 fheldStringS
theorem E4ok : EOk Tryz.prog E4 := E3ok.add k46_3
theorem k9_4 : ftoIntS.ok Tryz.prog 9 := Fct.of (S := ftoIntS) (L := fun ⟨l, _⟩ => fun | 3 => some (LtoS .int l) | _ => none) (kp := [0,2,3,4,11,1000011]) E4ok Tryz.func9 (by kernel_rfl) (by kernel_rfl) (by
  rintro ⟨(l : List Int), _⟩ hp
  refine holds_of (X := .ob ((↑l.length : Int) = (↑l.length : Int) ∧
  (0 : Int) ≤ (↑l.length : Int) ∧
    (8 : Int) * (↑l.length : Int) ≤ (140737488355328 : Int) ∧ (↑l.length : Int) ≤ (140737488355328 : Int)) <|
 lpx (LtoS .int l) ((0 : Int), (List.replicate (↑l.length : Int).toNat (0 : Int), ())) fun (y2 : Int × List Int × PUnit) bk2 =>
 .br (decide (y2.fst < (↑l.length : Int)))
  (.ob ((0 : Int) ≤ y2.fst ∧ y2.fst < (↑l.length : Int)) <|
   .ob ((0 : Int) ≤ y2.fst ∧ y2.fst < (↑y2.snd.fst.length : Int)) <|
   .ob (y2.fst.toNat < y2.snd.fst.length) <|
   .lt (List Int) (y2.snd.fst.modify y2.fst.toNat fun z => l.getD y2.fst.toNat default) fun z2 =>
   .ob (l = l) <|
    .ob (bk2 (IntKind.i64.wrap (y2.fst + (1 : Int)), (z2, ()))) <|
    .ok)
  (.leaf (mkR ftoIntS.rs (y2.snd.fst, ())) [] [])) (by kernel_rfl) ?_
  refine ob_i ?_ fun o1 => lpx_i ?_ fun (y2 : Int × List Int × PUnit) i2 => br_i (fun h3 => ob_i ?_ fun o4 => ob_i ?_ fun o5 => ob_i ?_ fun o6 => lt_i (ob_i rfl fun _ => ob_i ?_ fun o7 => trivial)) (fun h3 => Fct.leafY ?_)
  all_goals try simp only [std1, ne_eq] at *
  all_goals try simp only [LtoS, ftoIntS, etaS, std1, std2, Nat.reduceAdd, ne_eq] at *
  all_goals try have hsz : l.length ≤ 1048576 := by first | exact hp | (have := szL_len szString l; exact Nat.le_trans this hp)
  all_goals clear hp
  all_goals try rw [i2.2.2]
  all_goals first | omega | (refine ⟨by omega, by omega, ?_⟩; simp; done) | (refine ⟨by omega, by omega, ?_⟩; simp; exact .inr rfl) | (simp; omega) | skip
  · rw [wrapId (by omega), toNat1 (by omega)]
    refine ⟨⟨by omega, by omega, ?_⟩, by omega⟩
    rw [show l.length - y2.1.toNat = (l.length - (y2.1.toNat + 1)) + 1 from by omega, List.replicate_succ, mod_at (by simp; omega), take_succ (by omega)]
    simp
  · have e : l.take y2.1.toNat = l := List.take_of_length_le (by omega)
    rw [e]; simp; omega)
def E5 : D.Env := E4.add 9 ftoIntS
theorem E5ok : EOk Tryz.prog E5 := E4ok.add k9_4
set_option maxHeartbeats 2000000 in
theorem k13_5 : feqIntS.ok Tryz.prog 13 := Fct.of (S := feqIntS) (L := fun ⟨l, m, _⟩ => fun | 4 => some (LeqS .int l m) | _ => none) (kp := [0,1,4,5,10,14,25,1000010,1000014,1000025]) E5ok Tryz.func13 (by kernel_rfl) (by kernel_rfl) (by
  rintro ⟨(l : List Int), (m : List Int), _⟩ hp
  refine holds_of (X := .br ((↑l.length : Int) != (↑m.length : Int))
 (.leaf (mkR feqIntS.rs (false, ())) [] [])
 (lpx (LeqS .int l m) ((0 : Int), ()) fun (y2 : Int × PUnit) bk2 =>
  .br (decide (y2.fst < (↑l.length : Int)))
   (.ob ((0 : Int) ≤ y2.fst ∧ y2.fst < (↑l.length : Int)) <|
    .ob ((0 : Int) ≤ y2.fst ∧ y2.fst < (↑m.length : Int)) <|
    .br (l.getD y2.fst.toNat default != m.getD y2.fst.toNat default)
    (.leaf (mkR feqIntS.rs (false, ())) [] [])
    (.ob (l = l) <|
     .ob (m = m) <|
     .ob (bk2 (IntKind.i64.wrap (y2.fst + (1 : Int)), ())) <|
     .ok))
   (.leaf (mkR feqIntS.rs (true, ())) [] []))) (by kernel_rfl) ?_
  refine br_i (fun h1 => Fct.leafY ?_) (fun h1 => lpx_i ?_ fun (y2 : Int × PUnit) i2 => br_i (fun h3 => ob_i ?_ fun o4 => ob_i ?_ fun o5 => br_i (fun h6 => Fct.leafY ?_) (fun h6 => ob_i rfl fun _ => ob_i rfl fun _ => ob_i ?_ fun o7 => trivial)) (fun h3 => Fct.leafY ?_))
  all_goals try simp only [std1, ne_eq] at *
  all_goals try simp only [LeqS, feqIntS, etaS, std1, std2, Nat.reduceAdd, ne_eq] at *
  · rw [decide_eq_false]; rintro rfl; omega
  · exact ⟨by omega, by omega, by simp⟩
  · omega
  · omega
  · rw [decide_eq_false]; rintro rfl; first | exact absurd rfl h5 | exact absurd rfl h6
  · have hw : IntKind.i64.wrap (y2.1 + 1) = y2.1 + 1 := wrapId (by omega)
    rw [hw, toNat1 (by omega)]
    refine ⟨⟨by omega, by omega, ?_⟩, by omega⟩
    rw [take_succ (by omega), take_succ (by omega), i2.2.2]; first | rw [h5] | rw [h6]
  · have e : l.take y2.1.toNat = l := List.take_of_length_le (by omega)
    have e2 : m.take y2.1.toNat = m := List.take_of_length_le (by omega)
    rw [decide_eq_true]; rw [← e, ← e2, i2.2.2])
def E6 : D.Env := E5.add 13 feqIntS
theorem E6ok : EOk Tryz.prog E6 := E5ok.add k13_5
set_option maxHeartbeats 2000000 in
theorem k15_6 : fmarkIntS.ok Tryz.prog 15 := MS.of (S := fmarkIntS) (L := fun l k => fun | 2 => some (LmkS .int mkInt l k) | _ => none) (kp := [0,1,4,5,9,1000009]) (kl := [0]) E6ok Tryz.func15 (by kernel_rfl) (by kernel_rfl) (by
  rintro (l : List Int) (k : Int) hp
  refine holds_of (X := lpx (LmkS .int mkInt l k) (k, ((0 : Int), (l, ()))) fun (y1 : Int × Int × List Int × PUnit) bk1 =>
 .br (decide (y1.snd.fst < (↑y1.snd.snd.fst.length : Int)))
  (.ob ((0 : Int) ≤ y1.snd.fst ∧ y1.snd.fst < (↑y1.snd.snd.fst.length : Int)) <|
   .ob (y1.snd.fst.toNat < y1.snd.snd.fst.length) <|
   .lt (List Int) (y1.snd.snd.fst.modify y1.snd.fst.toNat fun z => y1.fst) fun z2 =>
   .ob (Value.int IntKind.i64 (0 : Int) = Value.int IntKind.i64 (0 : Int)) <|
    .ob (bk1 (IntKind.i64.wrap (y1.fst + (1 : Int)), (IntKind.i64.wrap (y1.snd.fst + (1 : Int)), (z2, ())))) <|
    .ok)
  (.leaf (.one false [vi (y1.fst)]) [] [((0 : Nat), ⟨Ty.int, y1.snd.snd.fst⟩)])) (by kernel_rfl) ?_
  refine lpx_i ?_ fun (y1 : Int × Int × List Int × PUnit) i1 => br_i (fun h2 => ob_i ?_ fun o3 => ob_i ?_ fun o4 => lt_i (ob_i rfl fun _ => ob_i ?_ fun o5 => trivial)) (fun h2 => MS.leaf ?_)
  · exact ⟨by simp, by simp, by simp [markL], by simp [markL]⟩
  all_goals have hp1 : 0 ≤ k := hp.1
  all_goals have hp2 : (markL mkInt l k).2 ≤ 4000000000000000000 := hp.2
  all_goals have i3 : 0 ≤ y1.2.1 ∧ y1.2.1 ≤ l.length ∧ y1.1 = (markL mkInt (l.take y1.2.1.toNat) k).2 ∧ y1.2.2.1 = (markL mkInt (l.take y1.2.1.toNat) k).1 ++ l.drop y1.2.1.toNat := i1
  all_goals have hcnt := markL_cnt (f := mkInt) (fun x k => by simp only [mkInt]; omega) l k
  all_goals have hx : y1.2.2.1.length = l.length := by rw [i3.2.2.2, List.length_append, markL_len, List.length_take, List.length_drop]; omega
  all_goals simp only [decide_eq_true_eq, decide_eq_false_iff_not, hx] at h2
  all_goals clear i1
  all_goals try have hlt : y1.2.1.toNat < l.length := by omega
  all_goals try have ht := markL_take (f := mkInt) hlt k
  all_goals try have hle := (markL_take_le mkInt_mono l (y1.2.1.toNat + 1) k).2
  all_goals try have hl0 := (markL_take_le mkInt_mono l y1.2.1.toNat k).1
  all_goals try rw [ht] at hle
  all_goals try rw [← i3.2.2.1] at hle hl0 ht
  all_goals try simp only [mkInt] at hle
  all_goals first | decide | (simp only [List.length_modify, hx]; omega) | (refine ⟨?_, ?_⟩ <;> (try simp (discharger := omega) only [wrapId']) <;> omega) | skip
  · try clear o3 o4 o5
    simp (discharger := omega) only [wrapId', fmarkText]
    have hA : (markL mkInt (l.take y1.2.1.toNat) k).1.length = y1.2.1.toNat := by rw [markL_len, List.length_take]; omega
    refine ⟨⟨by omega, by omega, ?_, ?_⟩, ?_⟩
    · rw [toNat1 (by omega), ht]
      first | done | (simp only [mkInt]; done) | (simp only [mkInt]; omega)
    · rw [toNat1 (by omega), ht, i3.2.2.2, drop_cons hlt]
      simp only [mod_at hA, mkInt, Int.add_assoc, Int.reduceAdd, List.append_assoc, List.cons_append, List.nil_append]
    · omega
  · refine MS.leafL (t := .int) (fn := fun l k => markL mkInt l k) ?_
    have e1 : l.take y1.2.1.toNat = l := List.take_of_length_le (by omega)
    have e2 : l.drop y1.2.1.toNat = [] := List.drop_of_length_le (by omega)
    rw [i3.2.2.2, i3.2.2.1, e1, e2, List.append_nil])
def E7 : D.Env := E6.addM 15 fmarkIntS
theorem E7ok : EOk Tryz.prog E7 := E6ok.addM k15_6
set_option maxHeartbeats 2000000 in
theorem k148_7 : fheldIntS.ok Tryz.prog 148 := Fct.of (S := fheldIntS) (L := fun ⟨l, k, _⟩ => fun | 2 => some (LheS .int mkInt l k) | _ => none) (kp := [0,1,4,5,9,17,1000009,1000017]) E7ok Tryz.func148 (by kernel_rfl) (by kernel_rfl) (by
  rintro ⟨(l : List Int), (k : Int), _⟩ hp
  refine holds_of (X := lpx (LheS .int mkInt l k) (k, ((0 : Int), ())) fun (y1 : Int × Int × PUnit) bk1 =>
 .br (decide (y1.snd.fst < (↑l.length : Int)))
  (.ob ((0 : Int) ≤ y1.snd.fst ∧ y1.snd.fst < (↑l.length : Int)) <|
   .br (l.getD y1.snd.fst.toNat default != y1.fst)
   (.leaf (mkR fheldIntS.rs ((-1 : Int), ())) [] [])
   (.ob (l = l) <|
    .ob (bk1 (IntKind.i64.wrap (y1.fst + (1 : Int)), (IntKind.i64.wrap (y1.snd.fst + (1 : Int)), ()))) <|
    .ok))
  (.leaf (mkR fheldIntS.rs (y1.fst, ())) [] [])) (by kernel_rfl) ?_
  refine lpx_i ?_ fun (y1 : Int × Int × PUnit) i1 => br_i (fun h2 => ob_i ?_ fun o3 => br_i (fun h4 => Fct.leafY ?_) (fun h4 => ob_i rfl fun _ => ob_i ?_ fun o5 => trivial)) (fun h2 => Fct.leafY ?_)
  · exact ⟨by simp, by simp, by simp [markL]⟩
  all_goals have hp1 : 0 ≤ k := hp.1
  all_goals have hp2 : (markL mkInt l k).2 ≤ 4000000000000000000 := hp.2.1
  all_goals have hp3 : (markL mkInt l k).1 = l := hp.2.2
  all_goals have i3 : 0 ≤ y1.2.1 ∧ y1.2.1 ≤ l.length ∧ y1.1 = (markL mkInt (l.take y1.2.1.toNat) k).2 := i1
  all_goals have hcnt := markL_cnt (f := mkInt) (fun x k => by simp only [mkInt]; omega) l k
  all_goals simp only [decide_eq_true_eq, decide_eq_false_iff_not] at h2
  all_goals clear i1 hp
  all_goals try have hlt : y1.2.1.toNat < l.length := by omega
  all_goals try have ht := markL_take (f := mkInt) hlt k
  all_goals try have hle := (markL_take_le mkInt_mono l (y1.2.1.toNat + 1) k).2
  all_goals try have hl0 := (markL_take_le mkInt_mono l y1.2.1.toNat k).1
  all_goals try have heq := markL_held hp3 hlt
  all_goals try rw [ht] at hle
  all_goals try rw [← i3.2.2] at hle hl0 ht heq
  all_goals try simp only [mkInt] at hle heq
  all_goals first | decide | omega | (refine ⟨?_, ?_⟩ <;> (try simp (discharger := omega) only [wrapId']) <;> omega) | skip
  all_goals try (exfalso; clear ht; generalize l.getD y1.2.1.toNat default = c at *; subst heq; simp (discharger := omega) [wrapId', fmarkText, Int.add_assoc] at *; done)
  · simp (discharger := omega) only [wrapId']
    refine ⟨⟨by omega, by omega, ?_⟩, ?_⟩
    · rw [toNat1 (by omega), ht]
      first | done | (simp only [mkInt]; done) | (simp only [mkInt]; omega)
    · omega
  · have e1 : l.take y1.2.1.toNat = l := List.take_of_length_le (by omega)
    rw [e1] at i3
    show (y1.1, ()) = ((markL mkInt l k).2, ())
    rw [i3.2.2])
def E8 : D.Env := E7.add 148 fheldIntS
theorem E8ok : EOk Tryz.prog E8 := E7ok.add k148_7
set_option maxHeartbeats 2000000 in
theorem k5_8 : fszAddr.ok Tryz.prog 5 := Fct.of (S := fszAddr) (L := fun _ _ => none) (kp := [1,2,4,11,18,1000011,1000018]) E8ok Tryz.func5 (by kernel_rfl) (by kernel_rfl) (by
  rintro ⟨(x : SAddr), (n : Int), _⟩ hp
  refine holds_of (X := .br (decide (IntKind.i64.wrap (n - (↑x.host.size : Int)) < (0 : Int)))
 (.leaf (mkR fszAddr.rs ((-1 : Int), ())) [] [])
 (.br (decide (IntKind.i64.wrap (IntKind.i64.wrap (n - (↑x.host.size : Int)) - (↑x.path.size : Int)) < (0 : Int)))
  (.leaf (mkR fszAddr.rs ((-1 : Int), ())) [] [])
  (.leaf (mkR fszAddr.rs (IntKind.i64.wrap (IntKind.i64.wrap (n - (↑x.host.size : Int)) - (↑x.path.size : Int)), ())) [] []))) (by kernel_rfl) ?_
  refine br_i (fun h1 => Fct.leafY ?_) (fun h1 => br_i (fun h2 => Fct.leafY ?_) (fun h2 => Fct.leafY ?_))
  all_goals try simp only [std1, ne_eq] at *
  all_goals try simp only [fszAddr, etaS, std1, std2, Nat.reduceAdd, ne_eq, Sh.good, Sh.fc, enc, List.forall_mem_cons, List.not_mem_nil, false_implies, implies_true, goodC, maxLen] at *
  all_goals grind [wrapId', lessen, szAddr])
def E9 : D.Env := E8.add 5 fszAddr
theorem E9ok : EOk Tryz.prog E9 := E8ok.add k5_8
theorem k8_9 : ftoAddr.ok Tryz.prog 8 := Fct.of (S := ftoAddr) (L := fun _ _ => none) (kp := [1,2,3]) E9ok Tryz.func8 (by kernel_rfl) (by kernel_rfl) (by
  rintro ⟨(x : SAddr), _⟩ hp
  refine holds_of (X := .leaf (mkR ftoAddr.rs (x, ())) [] []) (by kernel_rfl) ?_
  refine Fct.leafY ?_
  all_goals try simp only [std1, ne_eq] at *
  all_goals try simp only [ftoAddr, etaS, std1, std2, Nat.reduceAdd, ne_eq] at *
  all_goals first | trivial | rfl | grind [szAddr])
def E10 : D.Env := E9.add 8 ftoAddr
theorem E10ok : EOk Tryz.prog E10 := E9ok.add k8_9
set_option maxHeartbeats 2000000 in
theorem k77_10 : feqAddr.ok Tryz.prog 77 := Fct.of (S := feqAddr) (L := fun _ _ => none) (kp := [2,3,4,9,14,1000009,1000014]) E10ok Tryz.func77 (by kernel_rfl) (by kernel_rfl) (by
  rintro ⟨(x : SAddr), (y : SAddr), _⟩ hp
  refine holds_of (X := .br (!x.host.toList == y.host.toList)
 (.leaf (mkR feqAddr.rs (false, ())) [] [])
 (.br (!x.path.toList == y.path.toList)
  (.leaf (mkR feqAddr.rs (false, ())) [] [])
  (.leaf (mkR feqAddr.rs (true, ())) [] []))) (by kernel_rfl) ?_
  refine br_i (fun h1 => Fct.leafY ?_) (fun h1 => br_i (fun h2 => Fct.leafY ?_) (fun h2 => Fct.leafY ?_))
  all_goals try simp only [std1, ne_eq] at *
  all_goals try simp only [feqAddr, etaS, std1, std2, Nat.reduceAdd, ne_eq] at *
  all_goals first | trivial | (cases x; cases y; simp_all; done) | (simp only [szAddr] at *; omega) | grind [szAddr])
def E11 : D.Env := E10.add 77 feqAddr
theorem E11ok : EOk Tryz.prog E11 := E10ok.add k77_10
set_option maxHeartbeats 2000000 in
theorem k84_11 : feqAddrS.ok Tryz.prog 84 := Fct.of (S := feqAddrS) (L := fun ⟨l, m, _⟩ => fun | 4 => some (LeqS .addr l m) | _ => none) (kp := [0,1,4,5,10,14,26,1000010,1000014,1000026]) E11ok Tryz.func84 (by kernel_rfl) (by kernel_rfl) (by
  rintro ⟨(l : List SAddr), (m : List SAddr), _⟩ hp
  refine holds_of (X := .br ((↑l.length : Int) != (↑m.length : Int))
 (.leaf (mkR feqAddrS.rs (false, ())) [] [])
 (lpx (LeqS .addr l m) ((0 : Int), ()) fun (y2 : Int × PUnit) bk2 =>
  .br (decide (y2.fst < (↑l.length : Int)))
   (.ob ((0 : Int) ≤ y2.fst ∧ y2.fst < (↑l.length : Int)) <|
    .ob ((0 : Int) ≤ y2.fst ∧ y2.fst < (↑m.length : Int)) <|
    .ob (feqAddr.pre (l.getD y2.fst.toNat default, m.getD y2.fst.toNat default, ())) <|
    .lt (Bool × PUnit) (feqAddr.fn (l.getD y2.fst.toNat default, m.getD y2.fst.toNat default, ())) fun z2 =>
    .br (!z2.fst)
     (.leaf (mkR feqAddrS.rs (false, ())) [] [])
     (.ob (l = l) <|
      .ob (m = m) <|
      .ob (bk2 (IntKind.i64.wrap (y2.fst + (1 : Int)), ())) <|
      .ok))
   (.leaf (mkR feqAddrS.rs (true, ())) [] []))) (by kernel_rfl) ?_
  refine br_i (fun h1 => Fct.leafY ?_) (fun h1 => lpx_i ?_ fun (y2 : Int × PUnit) i2 => br_i (fun h3 => ob_i ?_ fun o4 => ob_i ?_ fun o5 => ob_i trivial fun _ => lt_i (br_i (fun h6 => Fct.leafY ?_) (fun h6 => ob_i rfl fun _ => ob_i rfl fun _ => ob_i ?_ fun o7 => trivial))) (fun h3 => Fct.leafY ?_))
  all_goals try simp only [std1, ne_eq] at *
  all_goals try simp only [LeqS, feqAddr, feqAddrS, etaS, std1, std2, Nat.reduceAdd, ne_eq] at *
  · rw [decide_eq_false]; rintro rfl; omega
  · exact ⟨by omega, by omega, by simp⟩
  · omega
  · omega
  · rw [decide_eq_false]; rintro rfl; exact absurd rfl h6
  · have hw : IntKind.i64.wrap (y2.1 + 1) = y2.1 + 1 := wrapId (by omega)
    rw [hw, toNat1 (by omega)]
    refine ⟨⟨by omega, by omega, ?_⟩, by omega⟩
    rw [take_succ (by omega), take_succ (by omega), i2.2.2, h6]
  · have e : l.take y2.1.toNat = l := List.take_of_length_le (by omega)
    have e2 : m.take y2.1.toNat = m := List.take_of_length_le (by omega)
    rw [decide_eq_true]; rw [← e, ← e2, i2.2.2])
def E12 : D.Env := E11.add 84 feqAddrS
theorem E12ok : EOk Tryz.prog E12 := E11ok.add k84_11
set_option maxHeartbeats 2000000 in
theorem k98_12 : fmarkAddrS.ok Tryz.prog 98 := MS.of (S := fmarkAddrS) (L := fun l k => fun | 2 => some (LmkS .addr mkAddr l k) | _ => none) (kp := [0,1,4,5,9,1000009]) (kl := [0]) E12ok Tryz.func98 (by kernel_rfl) (by kernel_rfl) (by
  rintro (l : List SAddr) (k : Int) hp
  refine holds_of (X := lpx (LmkS .addr mkAddr l k) (k, ((0 : Int), (l, ()))) fun (y1 : Int × Int × List SAddr × PUnit) bk1 =>
 .br (decide (y1.snd.fst < (↑y1.snd.snd.fst.length : Int)))
  (.ob (fmarkText.pre (y1.fst, ())) <|
   .lt (ByteArray × PUnit) (fmarkText.fn (y1.fst, ())) fun z2 =>
   .ob ((0 : Int) ≤ y1.snd.fst ∧ y1.snd.fst < (↑y1.snd.snd.fst.length : Int)) <|
    .ob (y1.snd.fst.toNat < y1.snd.snd.fst.length) <|
    .lt (List SAddr) (y1.snd.snd.fst.modify y1.snd.fst.toNat fun z => { host := z2.fst, path := z.path : SAddr }) fun z3 =>
    .ob (fmarkText.pre (IntKind.i64.wrap (y1.fst + (1 : Int)), ())) <|
     .lt (ByteArray × PUnit) (fmarkText.fn (IntKind.i64.wrap (y1.fst + (1 : Int)), ())) fun z4 =>
     .ob ((0 : Int) ≤ y1.snd.fst ∧ y1.snd.fst < (↑z3.length : Int)) <|
      .ob (y1.snd.fst.toNat < z3.length) <|
      .lt (List SAddr) (z3.modify y1.snd.fst.toNat fun z => { host := z.host, path := z4.fst : SAddr }) fun z5 =>
      .ob (Value.int IntKind.i64 (0 : Int) = Value.int IntKind.i64 (0 : Int)) <|
       .ob (bk1 (IntKind.i64.wrap (IntKind.i64.wrap (y1.fst + (1 : Int)) + (1 : Int)), (IntKind.i64.wrap (y1.snd.fst + (1 : Int)), (z5, ())))) <|
       .ok)
  (.leaf (.one false [vi (y1.fst)]) [] [((0 : Nat), ⟨Ty.addr, y1.snd.snd.fst⟩)])) (by kernel_rfl) ?_
  refine lpx_i ?_ fun (y1 : Int × Int × List SAddr × PUnit) i1 => br_i (fun h2 => ob_i ?_ fun o3 => lt_i (ob_i ?_ fun o4 => ob_i ?_ fun o5 => lt_i (ob_i ?_ fun o6 => lt_i (ob_i ?_ fun o7 => ob_i ?_ fun o8 => lt_i (ob_i rfl fun _ => ob_i ?_ fun o9 => trivial))))) (fun h2 => MS.leaf ?_)
  · exact ⟨by simp, by simp, by simp [markL], by simp [markL]⟩
  all_goals have hp1 : 0 ≤ k := hp.1
  all_goals have hp2 : (markL mkAddr l k).2 ≤ 4000000000000000000 := hp.2
  all_goals have i3 : 0 ≤ y1.2.1 ∧ y1.2.1 ≤ l.length ∧ y1.1 = (markL mkAddr (l.take y1.2.1.toNat) k).2 ∧ y1.2.2.1 = (markL mkAddr (l.take y1.2.1.toNat) k).1 ++ l.drop y1.2.1.toNat := i1
  all_goals have hcnt := markL_cnt (f := mkAddr) (fun x k => by simp only [mkAddr]; omega) l k
  all_goals have hx : y1.2.2.1.length = l.length := by rw [i3.2.2.2, List.length_append, markL_len, List.length_take, List.length_drop]; omega
  all_goals simp only [decide_eq_true_eq, decide_eq_false_iff_not, hx] at h2
  all_goals clear i1
  all_goals try have hlt : y1.2.1.toNat < l.length := by omega
  all_goals try have ht := markL_take (f := mkAddr) hlt k
  all_goals try have hle := (markL_take_le mkAddr_mono l (y1.2.1.toNat + 1) k).2
  all_goals try have hl0 := (markL_take_le mkAddr_mono l y1.2.1.toNat k).1
  all_goals try rw [ht] at hle
  all_goals try rw [← i3.2.2.1] at hle hl0 ht
  all_goals try simp only [mkAddr] at hle
  all_goals first | decide | (simp only [List.length_modify, hx]; omega) | (refine ⟨?_, ?_⟩ <;> (try simp (discharger := omega) only [wrapId']) <;> omega) | skip
  · try clear o3 o4 o5
    simp (discharger := omega) only [wrapId', fmarkText]
    have hA : (markL mkAddr (l.take y1.2.1.toNat) k).1.length = y1.2.1.toNat := by rw [markL_len, List.length_take]; omega
    refine ⟨⟨by omega, by omega, ?_, ?_⟩, ?_⟩
    · rw [toNat1 (by omega), ht]
      first | done | (simp only [mkAddr]; done) | (simp only [mkAddr]; omega)
    · rw [toNat1 (by omega), ht, i3.2.2.2, drop_cons hlt]
      simp only [mod_at hA, mkAddr, Int.add_assoc, Int.reduceAdd, List.append_assoc, List.cons_append, List.nil_append]
    · omega
  · refine MS.leafL (t := .addr) (fn := fun l k => markL mkAddr l k) ?_
    have e1 : l.take y1.2.1.toNat = l := List.take_of_length_le (by omega)
    have e2 : l.drop y1.2.1.toNat = [] := List.drop_of_length_le (by omega)
    rw [i3.2.2.2, i3.2.2.1, e1, e2, List.append_nil])
def E13 : D.Env := E12.addM 98 fmarkAddrS
theorem E13ok : EOk Tryz.prog E13 := E12ok.addM k98_12
set_option maxHeartbeats 2000000 in
theorem k107_13 : fheldAddrS.ok Tryz.prog 107 := Fct.of (S := fheldAddrS) (L := fun ⟨l, k, _⟩ => fun | 2 => some (LheS .addr mkAddr l k) | _ => none) (kp := [0,1,4,5,9,19,29,1000009,1000019,1000029]) E13ok Tryz.func107 (by kernel_rfl) (by kernel_rfl) (by
  rintro ⟨(l : List SAddr), (k : Int), _⟩ hp
  refine holds_of (X := lpx (LheS .addr mkAddr l k) (k, ((0 : Int), ())) fun (y1 : Int × Int × PUnit) bk1 =>
 .br (decide (y1.snd.fst < (↑l.length : Int)))
  (.ob ((0 : Int) ≤ y1.snd.fst ∧ y1.snd.fst < (↑l.length : Int)) <|
   .ob (fmarkText.pre (y1.fst, ())) <|
   .lt (ByteArray × PUnit) (fmarkText.fn (y1.fst, ())) fun z2 =>
   .br (!(l.getD y1.snd.fst.toNat default).host.toList == z2.fst.toList)
    (.leaf (mkR fheldAddrS.rs ((-1 : Int), ())) [] [])
    (.ob ((0 : Int) ≤ y1.snd.fst ∧ y1.snd.fst < (↑l.length : Int)) <|
     .ob (fmarkText.pre (IntKind.i64.wrap (y1.fst + (1 : Int)), ())) <|
     .lt (ByteArray × PUnit) (fmarkText.fn (IntKind.i64.wrap (y1.fst + (1 : Int)), ())) fun z3 =>
     .br (!(l.getD y1.snd.fst.toNat default).path.toList == z3.fst.toList)
      (.leaf (mkR fheldAddrS.rs ((-1 : Int), ())) [] [])
      (.ob (l = l) <|
       .ob (bk1 (IntKind.i64.wrap (IntKind.i64.wrap (y1.fst + (1 : Int)) + (1 : Int)), (IntKind.i64.wrap (y1.snd.fst + (1 : Int)), ()))) <|
       .ok)))
  (.leaf (mkR fheldAddrS.rs (y1.fst, ())) [] [])) (by kernel_rfl) ?_
  refine lpx_i ?_ fun (y1 : Int × Int × PUnit) i1 => br_i (fun h2 => ob_i ?_ fun o3 => ob_i ?_ fun o4 => lt_i (br_i (fun h5 => Fct.leafY ?_) (fun h5 => ob_i ?_ fun o6 => ob_i ?_ fun o7 => lt_i (br_i (fun h8 => Fct.leafY ?_) (fun h8 => ob_i rfl fun _ => ob_i ?_ fun o9 => trivial))))) (fun h2 => Fct.leafY ?_)
  · exact ⟨by simp, by simp, by simp [markL]⟩
  all_goals have hp1 : 0 ≤ k := hp.1
  all_goals have hp2 : (markL mkAddr l k).2 ≤ 4000000000000000000 := hp.2.1
  all_goals have hp3 : (markL mkAddr l k).1 = l := hp.2.2
  all_goals have i3 : 0 ≤ y1.2.1 ∧ y1.2.1 ≤ l.length ∧ y1.1 = (markL mkAddr (l.take y1.2.1.toNat) k).2 := i1
  all_goals have hcnt := markL_cnt (f := mkAddr) (fun x k => by simp only [mkAddr]; omega) l k
  all_goals simp only [decide_eq_true_eq, decide_eq_false_iff_not] at h2
  all_goals clear i1 hp
  all_goals try have hlt : y1.2.1.toNat < l.length := by omega
  all_goals try have ht := markL_take (f := mkAddr) hlt k
  all_goals try have hle := (markL_take_le mkAddr_mono l (y1.2.1.toNat + 1) k).2
  all_goals try have hl0 := (markL_take_le mkAddr_mono l y1.2.1.toNat k).1
  all_goals try have heq := markL_held hp3 hlt
  all_goals try rw [ht] at hle
  all_goals try rw [← i3.2.2] at hle hl0 ht heq
  all_goals try simp only [mkAddr] at hle heq
  all_goals first | decide | omega | (refine ⟨?_, ?_⟩ <;> (try simp (discharger := omega) only [wrapId']) <;> omega) | skip
  all_goals try (exfalso; clear ht; generalize l.getD y1.2.1.toNat default = c at *; subst heq; simp (discharger := omega) [wrapId', fmarkText, Int.add_assoc] at *; done)
  · simp (discharger := omega) only [wrapId']
    refine ⟨⟨by omega, by omega, ?_⟩, ?_⟩
    · rw [toNat1 (by omega), ht]
      first | done | (simp only [mkAddr]; done) | (simp only [mkAddr]; omega)
    · omega
  · have e1 : l.take y1.2.1.toNat = l := List.take_of_length_le (by omega)
    rw [e1] at i3
    show (y1.1, ()) = ((markL mkAddr l k).2, ())
    rw [i3.2.2])
def E14 : D.Env := E13.add 107 fheldAddrS
theorem E14ok : EOk Tryz.prog E14 := E13ok.add k107_13
set_option maxHeartbeats 2000000 in
theorem k199_14 : feqAttr.ok Tryz.prog 199 := Fct.of (S := feqAttr) (L := fun _ _ => none) (kp := [2,3,4,9,14,1000009,1000014]) E14ok Tryz.func199 (by kernel_rfl) (by kernel_rfl) (by
  rintro ⟨(x : SAttr), (y : SAttr), _⟩ hp
  refine holds_of (X := .br (!x.name.toList == y.name.toList)
 (.leaf (mkR feqAttr.rs (false, ())) [] [])
 (.br (!x.value.toList == y.value.toList)
  (.leaf (mkR feqAttr.rs (false, ())) [] [])
  (.leaf (mkR feqAttr.rs (true, ())) [] []))) (by kernel_rfl) ?_
  refine br_i (fun h1 => Fct.leafY ?_) (fun h1 => br_i (fun h2 => Fct.leafY ?_) (fun h2 => Fct.leafY ?_))
  all_goals try simp only [std1, ne_eq] at *
  all_goals try simp only [feqAttr, etaS, std1, std2, Nat.reduceAdd, ne_eq] at *
  all_goals first | trivial | (cases x; cases y; simp_all; done) | (simp only [szAttr] at *; omega) | grind [szAttr])
def E15 : D.Env := E14.add 199 feqAttr
theorem E15ok : EOk Tryz.prog E15 := E14ok.add k199_14
set_option maxHeartbeats 2000000 in
theorem k178_15 : feqAttrS.ok Tryz.prog 178 := Fct.of (S := feqAttrS) (L := fun ⟨l, m, _⟩ => fun | 4 => some (LeqS .attr l m) | _ => none) (kp := [0,1,4,5,10,14,26,1000010,1000014,1000026]) E15ok Tryz.func178 (by kernel_rfl) (by kernel_rfl) (by
  rintro ⟨(l : List SAttr), (m : List SAttr), _⟩ hp
  refine holds_of (X := .br ((↑l.length : Int) != (↑m.length : Int))
 (.leaf (mkR feqAttrS.rs (false, ())) [] [])
 (lpx (LeqS .attr l m) ((0 : Int), ()) fun (y2 : Int × PUnit) bk2 =>
  .br (decide (y2.fst < (↑l.length : Int)))
   (.ob ((0 : Int) ≤ y2.fst ∧ y2.fst < (↑l.length : Int)) <|
    .ob ((0 : Int) ≤ y2.fst ∧ y2.fst < (↑m.length : Int)) <|
    .ob (feqAttr.pre (l.getD y2.fst.toNat default, m.getD y2.fst.toNat default, ())) <|
    .lt (Bool × PUnit) (feqAttr.fn (l.getD y2.fst.toNat default, m.getD y2.fst.toNat default, ())) fun z2 =>
    .br (!z2.fst)
     (.leaf (mkR feqAttrS.rs (false, ())) [] [])
     (.ob (l = l) <|
      .ob (m = m) <|
      .ob (bk2 (IntKind.i64.wrap (y2.fst + (1 : Int)), ())) <|
      .ok))
   (.leaf (mkR feqAttrS.rs (true, ())) [] []))) (by kernel_rfl) ?_
  refine br_i (fun h1 => Fct.leafY ?_) (fun h1 => lpx_i ?_ fun (y2 : Int × PUnit) i2 => br_i (fun h3 => ob_i ?_ fun o4 => ob_i ?_ fun o5 => ob_i trivial fun _ => lt_i (br_i (fun h6 => Fct.leafY ?_) (fun h6 => ob_i rfl fun _ => ob_i rfl fun _ => ob_i ?_ fun o7 => trivial))) (fun h3 => Fct.leafY ?_))
  all_goals try simp only [std1, ne_eq] at *
  all_goals try simp only [LeqS, feqAttr, feqAttrS, etaS, std1, std2, Nat.reduceAdd, ne_eq] at *
  · rw [decide_eq_false]; rintro rfl; omega
  · exact ⟨by omega, by omega, by simp⟩
  · omega
  · omega
  · rw [decide_eq_false]; rintro rfl; exact absurd rfl h6
  · have hw : IntKind.i64.wrap (y2.1 + 1) = y2.1 + 1 := wrapId (by omega)
    rw [hw, toNat1 (by omega)]
    refine ⟨⟨by omega, by omega, ?_⟩, by omega⟩
    rw [take_succ (by omega), take_succ (by omega), i2.2.2, h6]
  · have e : l.take y2.1.toNat = l := List.take_of_length_le (by omega)
    have e2 : m.take y2.1.toNat = m := List.take_of_length_le (by omega)
    rw [decide_eq_true]; rw [← e, ← e2, i2.2.2])
def E16 : D.Env := E15.add 178 feqAttrS
theorem E16ok : EOk Tryz.prog E16 := E15ok.add k178_15
set_option maxHeartbeats 2000000 in
theorem k142_16 : fmarkAttrS.ok Tryz.prog 142 := MS.of (S := fmarkAttrS) (L := fun l k => fun | 2 => some (LmkS .attr mkAttr l k) | _ => none) (kp := [0,1,4,5,9,1000009]) (kl := [0]) E16ok Tryz.func142 (by kernel_rfl) (by kernel_rfl) (by
  rintro (l : List SAttr) (k : Int) hp
  refine holds_of (X := lpx (LmkS .attr mkAttr l k) (k, ((0 : Int), (l, ()))) fun (y1 : Int × Int × List SAttr × PUnit) bk1 =>
 .br (decide (y1.snd.fst < (↑y1.snd.snd.fst.length : Int)))
  (.ob (fmarkText.pre (y1.fst, ())) <|
   .lt (ByteArray × PUnit) (fmarkText.fn (y1.fst, ())) fun z2 =>
   .ob ((0 : Int) ≤ y1.snd.fst ∧ y1.snd.fst < (↑y1.snd.snd.fst.length : Int)) <|
    .ob (y1.snd.fst.toNat < y1.snd.snd.fst.length) <|
    .lt (List SAttr) (y1.snd.snd.fst.modify y1.snd.fst.toNat fun z => { name := z2.fst, value := z.value : SAttr }) fun z3 =>
    .ob (fmarkText.pre (IntKind.i64.wrap (y1.fst + (1 : Int)), ())) <|
     .lt (ByteArray × PUnit) (fmarkText.fn (IntKind.i64.wrap (y1.fst + (1 : Int)), ())) fun z4 =>
     .ob ((0 : Int) ≤ y1.snd.fst ∧ y1.snd.fst < (↑z3.length : Int)) <|
      .ob (y1.snd.fst.toNat < z3.length) <|
      .lt (List SAttr) (z3.modify y1.snd.fst.toNat fun z => { name := z.name, value := z4.fst : SAttr }) fun z5 =>
      .ob (Value.int IntKind.i64 (0 : Int) = Value.int IntKind.i64 (0 : Int)) <|
       .ob (bk1 (IntKind.i64.wrap (IntKind.i64.wrap (y1.fst + (1 : Int)) + (1 : Int)), (IntKind.i64.wrap (y1.snd.fst + (1 : Int)), (z5, ())))) <|
       .ok)
  (.leaf (.one false [vi (y1.fst)]) [] [((0 : Nat), ⟨Ty.attr, y1.snd.snd.fst⟩)])) (by kernel_rfl) ?_
  refine lpx_i ?_ fun (y1 : Int × Int × List SAttr × PUnit) i1 => br_i (fun h2 => ob_i ?_ fun o3 => lt_i (ob_i ?_ fun o4 => ob_i ?_ fun o5 => lt_i (ob_i ?_ fun o6 => lt_i (ob_i ?_ fun o7 => ob_i ?_ fun o8 => lt_i (ob_i rfl fun _ => ob_i ?_ fun o9 => trivial))))) (fun h2 => MS.leaf ?_)
  · exact ⟨by simp, by simp, by simp [markL], by simp [markL]⟩
  all_goals have hp1 : 0 ≤ k := hp.1
  all_goals have hp2 : (markL mkAttr l k).2 ≤ 4000000000000000000 := hp.2
  all_goals have i3 : 0 ≤ y1.2.1 ∧ y1.2.1 ≤ l.length ∧ y1.1 = (markL mkAttr (l.take y1.2.1.toNat) k).2 ∧ y1.2.2.1 = (markL mkAttr (l.take y1.2.1.toNat) k).1 ++ l.drop y1.2.1.toNat := i1
  all_goals have hcnt := markL_cnt (f := mkAttr) (fun x k => by simp only [mkAttr]; omega) l k
  all_goals have hx : y1.2.2.1.length = l.length := by rw [i3.2.2.2, List.length_append, markL_len, List.length_take, List.length_drop]; omega
  all_goals simp only [decide_eq_true_eq, decide_eq_false_iff_not, hx] at h2
  all_goals clear i1
  all_goals try have hlt : y1.2.1.toNat < l.length := by omega
  all_goals try have ht := markL_take (f := mkAttr) hlt k
  all_goals try have hle := (markL_take_le mkAttr_mono l (y1.2.1.toNat + 1) k).2
  all_goals try have hl0 := (markL_take_le mkAttr_mono l y1.2.1.toNat k).1
  all_goals try rw [ht] at hle
  all_goals try rw [← i3.2.2.1] at hle hl0 ht
  all_goals try simp only [mkAttr] at hle
  all_goals first | decide | (simp only [List.length_modify, hx]; omega) | (refine ⟨?_, ?_⟩ <;> (try simp (discharger := omega) only [wrapId']) <;> omega) | skip
  · try clear o3 o4 o5
    simp (discharger := omega) only [wrapId', fmarkText]
    have hA : (markL mkAttr (l.take y1.2.1.toNat) k).1.length = y1.2.1.toNat := by rw [markL_len, List.length_take]; omega
    refine ⟨⟨by omega, by omega, ?_, ?_⟩, ?_⟩
    · rw [toNat1 (by omega), ht]
      first | done | (simp only [mkAttr]; done) | (simp only [mkAttr]; omega)
    · rw [toNat1 (by omega), ht, i3.2.2.2, drop_cons hlt]
      simp only [mod_at hA, mkAttr, Int.add_assoc, Int.reduceAdd, List.append_assoc, List.cons_append, List.nil_append]
    · omega
  · refine MS.leafL (t := .attr) (fn := fun l k => markL mkAttr l k) ?_
    have e1 : l.take y1.2.1.toNat = l := List.take_of_length_le (by omega)
    have e2 : l.drop y1.2.1.toNat = [] := List.drop_of_length_le (by omega)
    rw [i3.2.2.2, i3.2.2.1, e1, e2, List.append_nil])
def E17 : D.Env := E16.addM 142 fmarkAttrS
theorem E17ok : EOk Tryz.prog E17 := E16ok.addM k142_16
set_option maxHeartbeats 2000000 in
theorem k146_17 : fheldAttrS.ok Tryz.prog 146 := Fct.of (S := fheldAttrS) (L := fun ⟨l, k, _⟩ => fun | 2 => some (LheS .attr mkAttr l k) | _ => none) (kp := [0,1,4,5,9,19,29,1000009,1000019,1000029]) E17ok Tryz.func146 (by kernel_rfl) (by kernel_rfl) (by
  rintro ⟨(l : List SAttr), (k : Int), _⟩ hp
  refine holds_of (X := lpx (LheS .attr mkAttr l k) (k, ((0 : Int), ())) fun (y1 : Int × Int × PUnit) bk1 =>
 .br (decide (y1.snd.fst < (↑l.length : Int)))
  (.ob ((0 : Int) ≤ y1.snd.fst ∧ y1.snd.fst < (↑l.length : Int)) <|
   .ob (fmarkText.pre (y1.fst, ())) <|
   .lt (ByteArray × PUnit) (fmarkText.fn (y1.fst, ())) fun z2 =>
   .br (!(l.getD y1.snd.fst.toNat default).name.toList == z2.fst.toList)
    (.leaf (mkR fheldAttrS.rs ((-1 : Int), ())) [] [])
    (.ob ((0 : Int) ≤ y1.snd.fst ∧ y1.snd.fst < (↑l.length : Int)) <|
     .ob (fmarkText.pre (IntKind.i64.wrap (y1.fst + (1 : Int)), ())) <|
     .lt (ByteArray × PUnit) (fmarkText.fn (IntKind.i64.wrap (y1.fst + (1 : Int)), ())) fun z3 =>
     .br (!(l.getD y1.snd.fst.toNat default).value.toList == z3.fst.toList)
      (.leaf (mkR fheldAttrS.rs ((-1 : Int), ())) [] [])
      (.ob (l = l) <|
       .ob (bk1 (IntKind.i64.wrap (IntKind.i64.wrap (y1.fst + (1 : Int)) + (1 : Int)), (IntKind.i64.wrap (y1.snd.fst + (1 : Int)), ()))) <|
       .ok)))
  (.leaf (mkR fheldAttrS.rs (y1.fst, ())) [] [])) (by kernel_rfl) ?_
  refine lpx_i ?_ fun (y1 : Int × Int × PUnit) i1 => br_i (fun h2 => ob_i ?_ fun o3 => ob_i ?_ fun o4 => lt_i (br_i (fun h5 => Fct.leafY ?_) (fun h5 => ob_i ?_ fun o6 => ob_i ?_ fun o7 => lt_i (br_i (fun h8 => Fct.leafY ?_) (fun h8 => ob_i rfl fun _ => ob_i ?_ fun o9 => trivial))))) (fun h2 => Fct.leafY ?_)
  · exact ⟨by simp, by simp, by simp [markL]⟩
  all_goals have hp1 : 0 ≤ k := hp.1
  all_goals have hp2 : (markL mkAttr l k).2 ≤ 4000000000000000000 := hp.2.1
  all_goals have hp3 : (markL mkAttr l k).1 = l := hp.2.2
  all_goals have i3 : 0 ≤ y1.2.1 ∧ y1.2.1 ≤ l.length ∧ y1.1 = (markL mkAttr (l.take y1.2.1.toNat) k).2 := i1
  all_goals have hcnt := markL_cnt (f := mkAttr) (fun x k => by simp only [mkAttr]; omega) l k
  all_goals simp only [decide_eq_true_eq, decide_eq_false_iff_not] at h2
  all_goals clear i1 hp
  all_goals try have hlt : y1.2.1.toNat < l.length := by omega
  all_goals try have ht := markL_take (f := mkAttr) hlt k
  all_goals try have hle := (markL_take_le mkAttr_mono l (y1.2.1.toNat + 1) k).2
  all_goals try have hl0 := (markL_take_le mkAttr_mono l y1.2.1.toNat k).1
  all_goals try have heq := markL_held hp3 hlt
  all_goals try rw [ht] at hle
  all_goals try rw [← i3.2.2] at hle hl0 ht heq
  all_goals try simp only [mkAttr] at hle heq
  all_goals first | decide | omega | (refine ⟨?_, ?_⟩ <;> (try simp (discharger := omega) only [wrapId']) <;> omega) | skip
  all_goals try (exfalso; clear ht; generalize l.getD y1.2.1.toNat default = c at *; subst heq; simp (discharger := omega) [wrapId', fmarkText, Int.add_assoc] at *; done)
  · simp (discharger := omega) only [wrapId']
    refine ⟨⟨by omega, by omega, ?_⟩, ?_⟩
    · rw [toNat1 (by omega), ht]
      first | done | (simp only [mkAttr]; done) | (simp only [mkAttr]; omega)
    · omega
  · have e1 : l.take y1.2.1.toNat = l := List.take_of_length_le (by omega)
    rw [e1] at i3
    show (y1.1, ()) = ((markL mkAttr l k).2, ())
    rw [i3.2.2])
def E18 : D.Env := E17.add 146 fheldAttrS
theorem E18ok : EOk Tryz.prog E18 := E17ok.add k146_17
set_option maxHeartbeats 2000000 in
theorem k135_18 : feqToken.ok Tryz.prog 135 := Fct.of (S := feqToken) (L := fun _ _ => none) (kp := [2,3,4,9,14,20,25,1000009,1000014,1000020,1000025]) E18ok Tryz.func135 (by kernel_rfl) (by kernel_rfl) (by
  rintro ⟨(x : SToken), (y : SToken), _⟩ hp
  refine holds_of (X := .br (x.kind != y.kind)
 (.leaf (mkR feqToken.rs (false, ())) [] [])
 (.br (!x.name.toList == y.name.toList)
  (.leaf (mkR feqToken.rs (false, ())) [] [])
  (.ob (feqAttrS.pre (x.attrs, y.attrs, ())) <|
   .lt (Bool × PUnit) (feqAttrS.fn (x.attrs, y.attrs, ())) fun z2 =>
   .br (!z2.fst)
    (.leaf (mkR feqToken.rs (false, ())) [] [])
    (.br (!x.text.toList == y.text.toList)
     (.leaf (mkR feqToken.rs (false, ())) [] [])
     (.leaf (mkR feqToken.rs (true, ())) [] []))))) (by kernel_rfl) ?_
  refine br_i (fun h1 => Fct.leafY ?_) (fun h1 => br_i (fun h2 => Fct.leafY ?_) (fun h2 => ob_i ?_ fun o3 => lt_i (br_i (fun h4 => Fct.leafY ?_) (fun h4 => br_i (fun h5 => Fct.leafY ?_) (fun h5 => Fct.leafY ?_)))))
  all_goals try simp only [std1, ne_eq] at *
  all_goals try simp only [feqAttrS, feqToken, etaS, std1, std2, Nat.reduceAdd, ne_eq] at *
  all_goals first | trivial | (cases x; cases y; simp_all; done) | (simp only [szL, szToken] at *; omega) | grind [szL, szToken])
def E19 : D.Env := E18.add 135 feqToken
theorem E19ok : EOk Tryz.prog E19 := E18ok.add k135_18
set_option maxHeartbeats 2000000 in
theorem k80_19 : feqTokenS.ok Tryz.prog 80 := Fct.of (S := feqTokenS) (L := fun ⟨l, m, _⟩ => fun | 4 => some (LeqS .token l m) | _ => none) (kp := [0,1,4,5,10,14,26,1000010,1000014,1000026]) E19ok Tryz.func80 (by kernel_rfl) (by kernel_rfl) (by
  rintro ⟨(l : List SToken), (m : List SToken), _⟩ hp
  refine holds_of (X := .br ((↑l.length : Int) != (↑m.length : Int))
 (.leaf (mkR feqTokenS.rs (false, ())) [] [])
 (lpx (LeqS .token l m) ((0 : Int), ()) fun (y2 : Int × PUnit) bk2 =>
  .br (decide (y2.fst < (↑l.length : Int)))
   (.ob ((0 : Int) ≤ y2.fst ∧ y2.fst < (↑l.length : Int)) <|
    .ob ((0 : Int) ≤ y2.fst ∧ y2.fst < (↑m.length : Int)) <|
    .ob (feqToken.pre (l.getD y2.fst.toNat default, m.getD y2.fst.toNat default, ())) <|
    .lt (Bool × PUnit) (feqToken.fn (l.getD y2.fst.toNat default, m.getD y2.fst.toNat default, ())) fun z2 =>
    .br (!z2.fst)
     (.leaf (mkR feqTokenS.rs (false, ())) [] [])
     (.ob (l = l) <|
      .ob (m = m) <|
      .ob (bk2 (IntKind.i64.wrap (y2.fst + (1 : Int)), ())) <|
      .ok))
   (.leaf (mkR feqTokenS.rs (true, ())) [] []))) (by kernel_rfl) ?_
  refine br_i (fun h1 => Fct.leafY ?_) (fun h1 => lpx_i ?_ fun (y2 : Int × PUnit) i2 => br_i (fun h3 => ob_i ?_ fun o4 => ob_i ?_ fun o5 => ob_i ?_ fun o6 => lt_i (br_i (fun h7 => Fct.leafY ?_) (fun h7 => ob_i rfl fun _ => ob_i rfl fun _ => ob_i ?_ fun o8 => trivial))) (fun h3 => Fct.leafY ?_))
  all_goals try simp only [std1, ne_eq] at *
  all_goals try simp only [LeqS, feqToken, feqTokenS, etaS, std1, std2, Nat.reduceAdd, ne_eq] at *
  all_goals have hl := szL_len szToken l
  · rw [decide_eq_false]; rintro rfl; omega
  · exact ⟨by omega, by omega, by simp⟩
  · omega
  · omega
  · have hs := szL_get szToken (l := l) (i := y2.1.toNat) (by omega); omega
  · rw [decide_eq_false]; rintro rfl; first | exact absurd rfl h6 | exact absurd rfl h7
  · have hw : IntKind.i64.wrap (y2.1 + 1) = y2.1 + 1 := wrapId (by omega)
    rw [hw, toNat1 (by omega)]
    refine ⟨⟨by omega, by omega, ?_⟩, by omega⟩
    rw [take_succ (by omega), take_succ (by omega), i2.2.2]; first | rw [h6] | rw [h7]
  · have e : l.take y2.1.toNat = l := List.take_of_length_le (by omega)
    have e2 : m.take y2.1.toNat = m := List.take_of_length_le (by omega)
    rw [decide_eq_true]; rw [← e, ← e2, i2.2.2])
def E20 : D.Env := E19.add 80 feqTokenS
theorem E20ok : EOk Tryz.prog E20 := E19ok.add k80_19
set_option maxHeartbeats 2000000 in
theorem k94_20 : fmarkTokenS.ok Tryz.prog 94 := MS.of (S := fmarkTokenS) (L := fun l k => fun | 2 => some (LmkS .token mkToken l k) | _ => none) (kp := [0,1,4,5,9,1000009]) (kl := [0]) E20ok Tryz.func94 (by kernel_rfl) (by kernel_rfl) (by
  rintro (l : List SToken) (k : Int) hp
  refine holds_of (X := lpx (LmkS .token mkToken l k) (k, ((0 : Int), (l, ()))) fun (y1 : Int × Int × List SToken × PUnit) bk1 =>
 .br (decide (y1.snd.fst < (↑y1.snd.snd.fst.length : Int)))
  (.ob ((0 : Int) ≤ y1.snd.fst ∧ y1.snd.fst < (↑y1.snd.snd.fst.length : Int)) <|
   .ob (y1.snd.fst.toNat < y1.snd.snd.fst.length) <|
   .lt (List SToken) (y1.snd.snd.fst.modify y1.snd.fst.toNat fun z =>
  { kind := y1.fst, name := z.name, attrs := z.attrs, text := z.text : SToken }) fun z2 =>
   .ob (fmarkText.pre (IntKind.i64.wrap (y1.fst + (1 : Int)), ())) <|
    .lt (ByteArray × PUnit) (fmarkText.fn (IntKind.i64.wrap (y1.fst + (1 : Int)), ())) fun z3 =>
    .ob ((0 : Int) ≤ y1.snd.fst ∧ y1.snd.fst < (↑z2.length : Int)) <|
     .ob (y1.snd.fst.toNat < z2.length) <|
     .lt (List SToken) (z2.modify y1.snd.fst.toNat fun z => { kind := z.kind, name := z3.fst, attrs := z.attrs, text := z.text : SToken }) fun z4 =>
     .ob ((0 : Int) ≤ y1.snd.fst ∧ y1.snd.fst < (↑z4.length : Int)) <|
      .ob (y1.snd.fst.toNat < z4.length) <|
      .ob (fmarkAttrS.pre (z4.getD y1.snd.fst.toNat default).attrs
  (IntKind.i64.wrap (IntKind.i64.wrap (y1.fst + (1 : Int)) + (1 : Int)))) <|
      .lt (List SAttr × Int) (fmarkAttrS.fn (z4.getD y1.snd.fst.toNat default).attrs
  (IntKind.i64.wrap (IntKind.i64.wrap (y1.fst + (1 : Int)) + (1 : Int)))) fun z5 =>
      .lt (List SToken) (z4.modify y1.snd.fst.toNat fun z => { kind := z.kind, name := z.name, attrs := z5.fst, text := z.text : SToken }) fun z6 =>
       .ob (fmarkText.pre (z5.snd, ())) <|
        .lt (ByteArray × PUnit) (fmarkText.fn (z5.snd, ())) fun z7 =>
        .ob ((0 : Int) ≤ y1.snd.fst ∧ y1.snd.fst < (↑z6.length : Int)) <|
         .ob (y1.snd.fst.toNat < z6.length) <|
         .lt (List SToken) (z6.modify y1.snd.fst.toNat fun z => { kind := z.kind, name := z.name, attrs := z.attrs, text := z7.fst : SToken }) fun z8 =>
         .ob (Value.int IntKind.i64 (0 : Int) = Value.int IntKind.i64 (0 : Int)) <|
          .ob (bk1 (IntKind.i64.wrap (z5.snd + (1 : Int)), (IntKind.i64.wrap (y1.snd.fst + (1 : Int)), (z8, ())))) <|
          .ok)
  (.leaf (.one false [vi (y1.fst)]) [] [((0 : Nat), ⟨Ty.token, y1.snd.snd.fst⟩)])) (by kernel_rfl) ?_
  refine lpx_i ?_ fun (y1 : Int × Int × List SToken × PUnit) i1 => br_i (fun h2 => ob_d ?_ <| ob_d ?_ <| lt_i (ob_d ?_ <| lt_i (ob_d ?_ <| ob_d ?_ <| lt_i (ob_d ?_ <| ob_d ?_ <| ob_d ?_ <| lt_i (lt_i (ob_d ?_ <| lt_i (ob_d ?_ <| ob_d ?_ <| lt_i (ob_d rfl <| ob_d ?_ <| trivial)))))))) (fun h2 => MS.leaf ?_)
  · exact ⟨by simp, by simp, by simp [markL], by simp [markL]⟩
  all_goals have hp1 : 0 ≤ k := hp.1
  all_goals have hp2 : (markL mkToken l k).2 ≤ 4000000000000000000 := hp.2
  all_goals have i3 : 0 ≤ y1.2.1 ∧ y1.2.1 ≤ l.length ∧ y1.1 = (markL mkToken (l.take y1.2.1.toNat) k).2 ∧ y1.2.2.1 = (markL mkToken (l.take y1.2.1.toNat) k).1 ++ l.drop y1.2.1.toNat := i1
  all_goals have hcnt := markL_cnt (f := mkToken) mkToken_cnt l k
  all_goals have hx : y1.2.2.1.length = l.length := by rw [i3.2.2.2, List.length_append, markL_len, List.length_take, List.length_drop]; omega
  all_goals simp only [decide_eq_true_eq, decide_eq_false_iff_not, hx] at h2
  all_goals clear i1 hp
  all_goals try have hlt : y1.2.1.toNat < l.length := by omega
  all_goals try have ht := markL_take (f := mkToken) hlt k
  all_goals try have hle := (markL_take_le mkToken_mono l (y1.2.1.toNat + 1) k).2
  all_goals try have hl0 := (markL_take_le mkToken_mono l y1.2.1.toNat k).1
  all_goals try rw [ht] at hle
  all_goals try rw [← i3.2.2.1] at hle hl0 ht
  all_goals try have i4 : y1.2.2.1 = (markL mkToken (l.take y1.2.1.toNat) k).1 ++ l.getD y1.2.1.toNat default :: l.drop (y1.2.1.toNat + 1) := by rw [i3.2.2.2, drop_cons hlt]
  all_goals try have hA : (markL mkToken (l.take y1.2.1.toNat) k).1.length = y1.2.1.toNat := by rw [markL_len, List.length_take]; omega
  all_goals try simp only [mkToken] at hle
  all_goals try have m1 := mkAttrS_mono (l.getD y1.2.1.toNat default).attrs (y1.1 + 2)
  all_goals try generalize hr1 : markL mkAttr (l.getD y1.2.1.toNat default).attrs (y1.1 + 2) = r1 at *
  all_goals try simp (disch := omega) only [i4, mod_at hA, getD_at hA, fmarkText, fmarkAttrS, wrapId', Int.add_assoc, Int.reduceAdd, hr1, List.length_append, List.length_cons, List.length_drop, hA]
  all_goals first | trivial | omega | (refine ⟨?_, ?_⟩ <;> omega) | skip
  · refine ⟨⟨by omega, by omega, ?_, ?_⟩, by omega⟩
    · rw [toNat1 (by omega), ht]
      simp only [mkToken, Int.add_assoc, Int.reduceAdd, hr1]
    · rw [toNat1 (by omega), ht]
      simp only [mkToken, Int.add_assoc, Int.reduceAdd, hr1, List.append_assoc, List.cons_append, List.nil_append]
  · refine MS.leafL (t := .token) (fn := fun l k => markL mkToken l k) ?_
    have e1 : l.take y1.2.1.toNat = l := List.take_of_length_le (by omega)
    have e2 : l.drop y1.2.1.toNat = [] := List.drop_of_length_le (by omega)
    rw [i3.2.2.2, i3.2.2.1, e1, e2, List.append_nil])
def E21 : D.Env := E20.addM 94 fmarkTokenS
theorem E21ok : EOk Tryz.prog E21 := E20ok.addM k94_20
set_option maxHeartbeats 2000000 in
theorem k103_21 : fheldTokenS.ok Tryz.prog 103 := Fct.of (S := fheldTokenS) (L := fun ⟨l, k, _⟩ => fun | 2 => some (LheS .token mkToken l k) | _ => none) (kp := [0,1,4,5,9,18,28,39,47,1000009,1000018,1000028,1000039,1000047]) E21ok Tryz.func103 (by kernel_rfl) (by kernel_rfl) (by
  rintro ⟨(l : List SToken), (k : Int), _⟩ hp
  refine holds_of (X := lpx (LheS .token mkToken l k) (k, ((0 : Int), ())) fun (y1 : Int × Int × PUnit) bk1 =>
 .br (decide (y1.snd.fst < (↑l.length : Int)))
  (.ob ((0 : Int) ≤ y1.snd.fst ∧ y1.snd.fst < (↑l.length : Int)) <|
   .br ((l.getD y1.snd.fst.toNat default).kind != y1.fst)
   (.leaf (mkR fheldTokenS.rs ((-1 : Int), ())) [] [])
   (.ob ((0 : Int) ≤ y1.snd.fst ∧ y1.snd.fst < (↑l.length : Int)) <|
    .ob (fmarkText.pre (IntKind.i64.wrap (y1.fst + (1 : Int)), ())) <|
    .lt (ByteArray × PUnit) (fmarkText.fn (IntKind.i64.wrap (y1.fst + (1 : Int)), ())) fun z2 =>
    .br (!(l.getD y1.snd.fst.toNat default).name.toList == z2.fst.toList)
     (.leaf (mkR fheldTokenS.rs ((-1 : Int), ())) [] [])
     (.ob ((0 : Int) ≤ y1.snd.fst ∧ y1.snd.fst < (↑l.length : Int)) <|
      .ob (fheldAttrS.pre
  ((l.getD y1.snd.fst.toNat default).attrs, IntKind.i64.wrap (IntKind.i64.wrap (y1.fst + (1 : Int)) + (1 : Int)), ())) <|
      .lt (Int × PUnit) (fheldAttrS.fn
  ((l.getD y1.snd.fst.toNat default).attrs, IntKind.i64.wrap (IntKind.i64.wrap (y1.fst + (1 : Int)) + (1 : Int)), ())) fun z3 =>
      .br (decide (z3.fst < (0 : Int)))
       (.leaf (mkR fheldTokenS.rs ((-1 : Int), ())) [] [])
       (.ob ((0 : Int) ≤ y1.snd.fst ∧ y1.snd.fst < (↑l.length : Int)) <|
        .ob (fmarkText.pre (z3.fst, ())) <|
        .lt (ByteArray × PUnit) (fmarkText.fn (z3.fst, ())) fun z4 =>
        .br (!(l.getD y1.snd.fst.toNat default).text.toList == z4.fst.toList)
         (.leaf (mkR fheldTokenS.rs ((-1 : Int), ())) [] [])
         (.ob (l = l) <|
          .ob (bk1 (IntKind.i64.wrap (z3.fst + (1 : Int)), (IntKind.i64.wrap (y1.snd.fst + (1 : Int)), ()))) <|
          .ok)))))
  (.leaf (mkR fheldTokenS.rs (y1.fst, ())) [] [])) (by kernel_rfl) ?_
  refine lpx_i ?_ fun (y1 : Int × Int × PUnit) i1 => br_i (fun h2 => ob_d ?_ <| br_i (fun h4 => Fct.leafY ?_) (fun h4 => ob_d ?_ <| ob_d ?_ <| lt_i (br_i (fun h7 => Fct.leafY ?_) (fun h7 => ob_d ?_ <| ob_d ?_ <| lt_i (br_i (fun h10 => Fct.leafY ?_) (fun h10 => ob_d ?_ <| ob_d ?_ <| lt_i (br_i (fun h13 => Fct.leafY ?_) (fun h13 => ob_d rfl <| ob_d ?_ <| trivial)))))))) (fun h2 => Fct.leafY ?_)
  · exact ⟨by simp, by simp, by simp [markL]⟩
  all_goals have hp1 : 0 ≤ k := hp.1
  all_goals have hp2 : (markL mkToken l k).2 ≤ 4000000000000000000 := hp.2.1
  all_goals have hp3 : (markL mkToken l k).1 = l := hp.2.2
  all_goals have i3 : 0 ≤ y1.2.1 ∧ y1.2.1 ≤ l.length ∧ y1.1 = (markL mkToken (l.take y1.2.1.toNat) k).2 := i1
  all_goals have hcnt := markL_cnt (f := mkToken) mkToken_cnt l k
  all_goals simp only [decide_eq_true_eq, decide_eq_false_iff_not] at h2
  all_goals clear i1 hp
  all_goals try have hlt : y1.2.1.toNat < l.length := by omega
  all_goals try have ht := markL_take (f := mkToken) hlt k
  all_goals try have hle := (markL_take_le mkToken_mono l (y1.2.1.toNat + 1) k).2
  all_goals try have hl0 := (markL_take_le mkToken_mono l y1.2.1.toNat k).1
  all_goals try have heq := markL_held hp3 hlt
  all_goals try rw [ht] at hle
  all_goals try rw [← i3.2.2] at hle hl0 ht heq
  all_goals try have q1 := congrArg (fun z : SToken => z.kind) heq
  all_goals try have q2 := congrArg (fun z : SToken => z.name) heq
  all_goals try have q3 := congrArg (fun z : SToken => z.attrs) heq
  all_goals try have q4 := congrArg (fun z : SToken => z.text) heq
  all_goals obtain ⟨E, hE⟩ : ∃ E, E = (mkToken (l.getD y1.2.1.toNat default) y1.1).2 := ⟨_, rfl⟩
  all_goals have hE2 := hE
  all_goals try simp only [mkToken] at hle hE2 q1 q2 q3 q4
  all_goals try clear heq
  all_goals try have m1 := mkAttrS_mono (l.getD y1.2.1.toNat default).attrs (y1.1 + 2)
  all_goals try generalize hr1 : markL mkAttr (l.getD y1.2.1.toNat default).attrs (y1.1 + 2) = r1 at *
  all_goals try simp (disch := omega) only [fmarkText, fheldAttrS, wrapId', Int.add_assoc, Int.reduceAdd, hr1, decide_eq_true_eq, decide_eq_false_iff_not, Bool.not_eq_true', Bool.not_eq_false', bne_iff_ne, bne_eq_false_iff_eq, beq_iff_eq, beq_eq_false_iff_ne, baEq, Int.not_lt, ne_eq, Decidable.not_not, decide_not] at *
  all_goals first | trivial | omega | (exfalso; omega) | (refine ⟨?_, ?_⟩ <;> omega) | (refine ⟨?_, ?_, ?_⟩ <;> first | omega | assumption) | (exfalso; simp_all; done) | skip
  · refine ⟨⟨by omega, by omega, ?_⟩, by omega⟩
    rw [toNat1 (by omega), ht]
    show _ = (mkToken (l.getD y1.2.1.toNat default) y1.1).2
    rw [← hE]
    omega
  · have e1 : l.take y1.2.1.toNat = l := List.take_of_length_le (by omega)
    rw [e1] at i3
    show (y1.1, ()) = ((markL mkToken l k).2, ())
    rw [i3.2.2])
def E22 : D.Env := E21.add 103 fheldTokenS
theorem E22ok : EOk Tryz.prog E22 := E21ok.add k103_21
set_option maxHeartbeats 2000000 in
theorem k79_22 : feqTokenizer.ok Tryz.prog 79 := Fct.of (S := feqTokenizer) (L := fun _ _ => none) (kp := [2,3,4,9,1000009]) E22ok Tryz.func79 (by kernel_rfl) (by kernel_rfl) (by
  rintro ⟨(x : STokenizer), (y : STokenizer), _⟩ hp
  refine holds_of (X := .br (!x.rest.toList == y.rest.toList)
 (.leaf (mkR feqTokenizer.rs (false, ())) [] [])
 (.leaf (mkR feqTokenizer.rs (true, ())) [] [])) (by kernel_rfl) ?_
  refine br_i (fun h1 => Fct.leafY ?_) (fun h1 => Fct.leafY ?_)
  all_goals try simp only [std1, ne_eq] at *
  all_goals try simp only [feqTokenizer, etaS, std1, std2, Nat.reduceAdd, ne_eq] at *
  all_goals first | trivial | (cases x; cases y; simp_all; done) | (simp only [szTokenizer] at *; omega) | grind [szTokenizer])
def E23 : D.Env := E22.add 79 feqTokenizer
theorem E23ok : EOk Tryz.prog E23 := E22ok.add k79_22
set_option maxHeartbeats 2000000 in
theorem k179_23 : feqNode.ok Tryz.prog 179 := Fct.of (S := feqNode) (L := fun _ _ => none) (kp := [2,3,4,9,14,19,25,1000009,1000014,1000019,1000025]) E23ok Tryz.func179 (by kernel_rfl) (by kernel_rfl) (by
  rintro ⟨(x : SNode), (y : SNode), _⟩ hp
  refine holds_of (X := .br (!x.name.toList == y.name.toList)
 (.leaf (mkR feqNode.rs (false, ())) [] [])
 (.br (!x.text.toList == y.text.toList)
  (.leaf (mkR feqNode.rs (false, ())) [] [])
  (.br (x.parent != y.parent)
   (.leaf (mkR feqNode.rs (false, ())) [] [])
   (.ob (feqAttrS.pre (x.attrs, y.attrs, ())) <|
    .lt (Bool × PUnit) (feqAttrS.fn (x.attrs, y.attrs, ())) fun z2 =>
    .br (!z2.fst)
     (.leaf (mkR feqNode.rs (false, ())) [] [])
     (.leaf (mkR feqNode.rs (true, ())) [] []))))) (by kernel_rfl) ?_
  refine br_i (fun h1 => Fct.leafY ?_) (fun h1 => br_i (fun h2 => Fct.leafY ?_) (fun h2 => br_i (fun h3 => Fct.leafY ?_) (fun h3 => ob_i ?_ fun o4 => lt_i (br_i (fun h5 => Fct.leafY ?_) (fun h5 => Fct.leafY ?_)))))
  all_goals try simp only [std1, ne_eq] at *
  all_goals try simp only [feqAttrS, feqNode, etaS, std1, std2, Nat.reduceAdd, ne_eq] at *
  all_goals first | trivial | (cases x; cases y; simp_all; done) | (simp only [szL, szNode] at *; omega) | grind [szL, szNode])
def E24 : D.Env := E23.add 179 feqNode
theorem E24ok : EOk Tryz.prog E24 := E23ok.add k179_23
set_option maxHeartbeats 2000000 in
theorem k136_24 : feqNodeS.ok Tryz.prog 136 := Fct.of (S := feqNodeS) (L := fun ⟨l, m, _⟩ => fun | 4 => some (LeqS .node l m) | _ => none) (kp := [0,1,4,5,10,14,26,1000010,1000014,1000026]) E24ok Tryz.func136 (by kernel_rfl) (by kernel_rfl) (by
  rintro ⟨(l : List SNode), (m : List SNode), _⟩ hp
  refine holds_of (X := .br ((↑l.length : Int) != (↑m.length : Int))
 (.leaf (mkR feqNodeS.rs (false, ())) [] [])
 (lpx (LeqS .node l m) ((0 : Int), ()) fun (y2 : Int × PUnit) bk2 =>
  .br (decide (y2.fst < (↑l.length : Int)))
   (.ob ((0 : Int) ≤ y2.fst ∧ y2.fst < (↑l.length : Int)) <|
    .ob ((0 : Int) ≤ y2.fst ∧ y2.fst < (↑m.length : Int)) <|
    .ob (feqNode.pre (l.getD y2.fst.toNat default, m.getD y2.fst.toNat default, ())) <|
    .lt (Bool × PUnit) (feqNode.fn (l.getD y2.fst.toNat default, m.getD y2.fst.toNat default, ())) fun z2 =>
    .br (!z2.fst)
     (.leaf (mkR feqNodeS.rs (false, ())) [] [])
     (.ob (l = l) <|
      .ob (m = m) <|
      .ob (bk2 (IntKind.i64.wrap (y2.fst + (1 : Int)), ())) <|
      .ok))
   (.leaf (mkR feqNodeS.rs (true, ())) [] []))) (by kernel_rfl) ?_
  refine br_i (fun h1 => Fct.leafY ?_) (fun h1 => lpx_i ?_ fun (y2 : Int × PUnit) i2 => br_i (fun h3 => ob_i ?_ fun o4 => ob_i ?_ fun o5 => ob_i ?_ fun o6 => lt_i (br_i (fun h7 => Fct.leafY ?_) (fun h7 => ob_i rfl fun _ => ob_i rfl fun _ => ob_i ?_ fun o8 => trivial))) (fun h3 => Fct.leafY ?_))
  all_goals try simp only [std1, ne_eq] at *
  all_goals try simp only [LeqS, feqNode, feqNodeS, etaS, std1, std2, Nat.reduceAdd, ne_eq] at *
  all_goals have hl := szL_len szNode l
  · rw [decide_eq_false]; rintro rfl; omega
  · exact ⟨by omega, by omega, by simp⟩
  · omega
  · omega
  · have hs := szL_get szNode (l := l) (i := y2.1.toNat) (by omega); omega
  · rw [decide_eq_false]; rintro rfl; first | exact absurd rfl h6 | exact absurd rfl h7
  · have hw : IntKind.i64.wrap (y2.1 + 1) = y2.1 + 1 := wrapId (by omega)
    rw [hw, toNat1 (by omega)]
    refine ⟨⟨by omega, by omega, ?_⟩, by omega⟩
    rw [take_succ (by omega), take_succ (by omega), i2.2.2]; first | rw [h6] | rw [h7]
  · have e : l.take y2.1.toNat = l := List.take_of_length_le (by omega)
    have e2 : m.take y2.1.toNat = m := List.take_of_length_le (by omega)
    rw [decide_eq_true]; rw [← e, ← e2, i2.2.2])
def E25 : D.Env := E24.add 136 feqNodeS
theorem E25ok : EOk Tryz.prog E25 := E24ok.add k136_24
set_option maxHeartbeats 2000000 in
theorem k143_25 : fmarkNodeS.ok Tryz.prog 143 := MS.of (S := fmarkNodeS) (L := fun l k => fun | 2 => some (LmkS .node mkNode l k) | _ => none) (kp := [0,1,4,5,9,1000009]) (kl := [0]) E25ok Tryz.func143 (by kernel_rfl) (by kernel_rfl) (by
  rintro (l : List SNode) (k : Int) hp
  refine holds_of (X := lpx (LmkS .node mkNode l k) (k, ((0 : Int), (l, ()))) fun (y1 : Int × Int × List SNode × PUnit) bk1 =>
 .br (decide (y1.snd.fst < (↑y1.snd.snd.fst.length : Int)))
  (.ob (fmarkText.pre (y1.fst, ())) <|
   .lt (ByteArray × PUnit) (fmarkText.fn (y1.fst, ())) fun z2 =>
   .ob ((0 : Int) ≤ y1.snd.fst ∧ y1.snd.fst < (↑y1.snd.snd.fst.length : Int)) <|
    .ob (y1.snd.fst.toNat < y1.snd.snd.fst.length) <|
    .lt (List SNode) (y1.snd.snd.fst.modify y1.snd.fst.toNat fun z =>
  { name := z2.fst, text := z.text, parent := z.parent, attrs := z.attrs : SNode }) fun z3 =>
    .ob (fmarkText.pre (IntKind.i64.wrap (y1.fst + (1 : Int)), ())) <|
     .lt (ByteArray × PUnit) (fmarkText.fn (IntKind.i64.wrap (y1.fst + (1 : Int)), ())) fun z4 =>
     .ob ((0 : Int) ≤ y1.snd.fst ∧ y1.snd.fst < (↑z3.length : Int)) <|
      .ob (y1.snd.fst.toNat < z3.length) <|
      .lt (List SNode) (z3.modify y1.snd.fst.toNat fun z => { name := z.name, text := z4.fst, parent := z.parent, attrs := z.attrs : SNode }) fun z5 =>
      .ob ((0 : Int) ≤ y1.snd.fst ∧ y1.snd.fst < (↑z5.length : Int)) <|
       .ob (y1.snd.fst.toNat < z5.length) <|
       .lt (List SNode) (z5.modify y1.snd.fst.toNat fun z =>
  { name := z.name, text := z.text, parent := IntKind.i64.wrap (IntKind.i64.wrap (y1.fst + (1 : Int)) + (1 : Int)),
    attrs := z.attrs : SNode }) fun z6 =>
       .ob ((0 : Int) ≤ y1.snd.fst ∧ y1.snd.fst < (↑z6.length : Int)) <|
        .ob (y1.snd.fst.toNat < z6.length) <|
        .ob (fmarkAttrS.pre (z6.getD y1.snd.fst.toNat default).attrs
  (IntKind.i64.wrap (IntKind.i64.wrap (IntKind.i64.wrap (y1.fst + (1 : Int)) + (1 : Int)) + (1 : Int)))) <|
        .lt (List SAttr × Int) (fmarkAttrS.fn (z6.getD y1.snd.fst.toNat default).attrs
  (IntKind.i64.wrap (IntKind.i64.wrap (IntKind.i64.wrap (y1.fst + (1 : Int)) + (1 : Int)) + (1 : Int)))) fun z7 =>
        .lt (List SNode) (z6.modify y1.snd.fst.toNat fun z => { name := z.name, text := z.text, parent := z.parent, attrs := z7.fst : SNode }) fun z8 =>
         .ob (Value.int IntKind.i64 (0 : Int) = Value.int IntKind.i64 (0 : Int)) <|
          .ob (bk1 (z7.snd, (IntKind.i64.wrap (y1.snd.fst + (1 : Int)), (z8, ())))) <|
          .ok)
  (.leaf (.one false [vi (y1.fst)]) [] [((0 : Nat), ⟨Ty.node, y1.snd.snd.fst⟩)])) (by kernel_rfl) ?_
  refine lpx_i ?_ fun (y1 : Int × Int × List SNode × PUnit) i1 => br_i (fun h2 => ob_d ?_ <| lt_i (ob_d ?_ <| ob_d ?_ <| lt_i (ob_d ?_ <| lt_i (ob_d ?_ <| ob_d ?_ <| lt_i (ob_d ?_ <| ob_d ?_ <| lt_i (ob_d ?_ <| ob_d ?_ <| ob_d ?_ <| lt_i (lt_i (ob_d rfl <| ob_d ?_ <| trivial)))))))) (fun h2 => MS.leaf ?_)
  · exact ⟨by simp, by simp, by simp [markL], by simp [markL]⟩
  all_goals have hp1 : 0 ≤ k := hp.1
  all_goals have hp2 : (markL mkNode l k).2 ≤ 4000000000000000000 := hp.2
  all_goals have i3 : 0 ≤ y1.2.1 ∧ y1.2.1 ≤ l.length ∧ y1.1 = (markL mkNode (l.take y1.2.1.toNat) k).2 ∧ y1.2.2.1 = (markL mkNode (l.take y1.2.1.toNat) k).1 ++ l.drop y1.2.1.toNat := i1
  all_goals have hcnt := markL_cnt (f := mkNode) mkNode_cnt l k
  all_goals have hx : y1.2.2.1.length = l.length := by rw [i3.2.2.2, List.length_append, markL_len, List.length_take, List.length_drop]; omega
  all_goals simp only [decide_eq_true_eq, decide_eq_false_iff_not, hx] at h2
  all_goals clear i1 hp
  all_goals try have hlt : y1.2.1.toNat < l.length := by omega
  all_goals try have ht := markL_take (f := mkNode) hlt k
  all_goals try have hle := (markL_take_le mkNode_mono l (y1.2.1.toNat + 1) k).2
  all_goals try have hl0 := (markL_take_le mkNode_mono l y1.2.1.toNat k).1
  all_goals try rw [ht] at hle
  all_goals try rw [← i3.2.2.1] at hle hl0 ht
  all_goals try have i4 : y1.2.2.1 = (markL mkNode (l.take y1.2.1.toNat) k).1 ++ l.getD y1.2.1.toNat default :: l.drop (y1.2.1.toNat + 1) := by rw [i3.2.2.2, drop_cons hlt]
  all_goals try have hA : (markL mkNode (l.take y1.2.1.toNat) k).1.length = y1.2.1.toNat := by rw [markL_len, List.length_take]; omega
  all_goals try simp only [mkNode] at hle
  all_goals try have m1 := mkAttrS_mono (l.getD y1.2.1.toNat default).attrs (y1.1 + 3)
  all_goals try generalize hr1 : markL mkAttr (l.getD y1.2.1.toNat default).attrs (y1.1 + 3) = r1 at *
  all_goals try simp (disch := omega) only [i4, mod_at hA, getD_at hA, fmarkText, fmarkAttrS, wrapId', Int.add_assoc, Int.reduceAdd, hr1, List.length_append, List.length_cons, List.length_drop, hA]
  all_goals first | trivial | omega | (refine ⟨?_, ?_⟩ <;> omega) | skip
  · refine ⟨⟨by omega, by omega, ?_, ?_⟩, by omega⟩
    · rw [toNat1 (by omega), ht]
      simp only [mkNode, Int.add_assoc, Int.reduceAdd, hr1]
    · rw [toNat1 (by omega), ht]
      simp only [mkNode, Int.add_assoc, Int.reduceAdd, hr1, List.append_assoc, List.cons_append, List.nil_append]
  · refine MS.leafL (t := .node) (fn := fun l k => markL mkNode l k) ?_
    have e1 : l.take y1.2.1.toNat = l := List.take_of_length_le (by omega)
    have e2 : l.drop y1.2.1.toNat = [] := List.drop_of_length_le (by omega)
    rw [i3.2.2.2, i3.2.2.1, e1, e2, List.append_nil])
def E26 : D.Env := E25.addM 143 fmarkNodeS
theorem E26ok : EOk Tryz.prog E26 := E25ok.addM k143_25
set_option maxHeartbeats 2000000 in
theorem k147_26 : fheldNodeS.ok Tryz.prog 147 := Fct.of (S := fheldNodeS) (L := fun ⟨l, k, _⟩ => fun | 2 => some (LheS .node mkNode l k) | _ => none) (kp := [0,1,4,5,9,19,29,38,49,1000009,1000019,1000029,1000038,1000049]) E26ok Tryz.func147 (by kernel_rfl) (by kernel_rfl) (by
  rintro ⟨(l : List SNode), (k : Int), _⟩ hp
  refine holds_of (X := lpx (LheS .node mkNode l k) (k, ((0 : Int), ())) fun (y1 : Int × Int × PUnit) bk1 =>
 .br (decide (y1.snd.fst < (↑l.length : Int)))
  (.ob ((0 : Int) ≤ y1.snd.fst ∧ y1.snd.fst < (↑l.length : Int)) <|
   .ob (fmarkText.pre (y1.fst, ())) <|
   .lt (ByteArray × PUnit) (fmarkText.fn (y1.fst, ())) fun z2 =>
   .br (!(l.getD y1.snd.fst.toNat default).name.toList == z2.fst.toList)
    (.leaf (mkR fheldNodeS.rs ((-1 : Int), ())) [] [])
    (.ob ((0 : Int) ≤ y1.snd.fst ∧ y1.snd.fst < (↑l.length : Int)) <|
     .ob (fmarkText.pre (IntKind.i64.wrap (y1.fst + (1 : Int)), ())) <|
     .lt (ByteArray × PUnit) (fmarkText.fn (IntKind.i64.wrap (y1.fst + (1 : Int)), ())) fun z3 =>
     .br (!(l.getD y1.snd.fst.toNat default).text.toList == z3.fst.toList)
      (.leaf (mkR fheldNodeS.rs ((-1 : Int), ())) [] [])
      (.ob ((0 : Int) ≤ y1.snd.fst ∧ y1.snd.fst < (↑l.length : Int)) <|
       .br ((l.getD y1.snd.fst.toNat default).parent != IntKind.i64.wrap (IntKind.i64.wrap (y1.fst + (1 : Int)) + (1 : Int)))
       (.leaf (mkR fheldNodeS.rs ((-1 : Int), ())) [] [])
       (.ob ((0 : Int) ≤ y1.snd.fst ∧ y1.snd.fst < (↑l.length : Int)) <|
        .ob (fheldAttrS.pre
  ((l.getD y1.snd.fst.toNat default).attrs,
    IntKind.i64.wrap (IntKind.i64.wrap (IntKind.i64.wrap (y1.fst + (1 : Int)) + (1 : Int)) + (1 : Int)), ())) <|
        .lt (Int × PUnit) (fheldAttrS.fn
  ((l.getD y1.snd.fst.toNat default).attrs,
    IntKind.i64.wrap (IntKind.i64.wrap (IntKind.i64.wrap (y1.fst + (1 : Int)) + (1 : Int)) + (1 : Int)), ())) fun z4 =>
        .br (decide (z4.fst < (0 : Int)))
         (.leaf (mkR fheldNodeS.rs ((-1 : Int), ())) [] [])
         (.ob (l = l) <|
          .ob (bk1 (z4.fst, (IntKind.i64.wrap (y1.snd.fst + (1 : Int)), ()))) <|
          .ok)))))
  (.leaf (mkR fheldNodeS.rs (y1.fst, ())) [] [])) (by kernel_rfl) ?_
  refine lpx_i ?_ fun (y1 : Int × Int × PUnit) i1 => br_i (fun h2 => ob_d ?_ <| ob_d ?_ <| lt_i (br_i (fun h5 => Fct.leafY ?_) (fun h5 => ob_d ?_ <| ob_d ?_ <| lt_i (br_i (fun h8 => Fct.leafY ?_) (fun h8 => ob_d ?_ <| br_i (fun h10 => Fct.leafY ?_) (fun h10 => ob_d ?_ <| ob_d ?_ <| lt_i (br_i (fun h13 => Fct.leafY ?_) (fun h13 => ob_d rfl <| ob_d ?_ <| trivial)))))))) (fun h2 => Fct.leafY ?_)
  · exact ⟨by simp, by simp, by simp [markL]⟩
  all_goals have hp1 : 0 ≤ k := hp.1
  all_goals have hp2 : (markL mkNode l k).2 ≤ 4000000000000000000 := hp.2.1
  all_goals have hp3 : (markL mkNode l k).1 = l := hp.2.2
  all_goals have i3 : 0 ≤ y1.2.1 ∧ y1.2.1 ≤ l.length ∧ y1.1 = (markL mkNode (l.take y1.2.1.toNat) k).2 := i1
  all_goals have hcnt := markL_cnt (f := mkNode) mkNode_cnt l k
  all_goals simp only [decide_eq_true_eq, decide_eq_false_iff_not] at h2
  all_goals clear i1 hp
  all_goals try have hlt : y1.2.1.toNat < l.length := by omega
  all_goals try have ht := markL_take (f := mkNode) hlt k
  all_goals try have hle := (markL_take_le mkNode_mono l (y1.2.1.toNat + 1) k).2
  all_goals try have hl0 := (markL_take_le mkNode_mono l y1.2.1.toNat k).1
  all_goals try have heq := markL_held hp3 hlt
  all_goals try rw [ht] at hle
  all_goals try rw [← i3.2.2] at hle hl0 ht heq
  all_goals try have q1 := congrArg (fun z : SNode => z.name) heq
  all_goals try have q2 := congrArg (fun z : SNode => z.text) heq
  all_goals try have q3 := congrArg (fun z : SNode => z.parent) heq
  all_goals try have q4 := congrArg (fun z : SNode => z.attrs) heq
  all_goals obtain ⟨E, hE⟩ : ∃ E, E = (mkNode (l.getD y1.2.1.toNat default) y1.1).2 := ⟨_, rfl⟩
  all_goals have hE2 := hE
  all_goals try simp only [mkNode] at hle hE2 q1 q2 q3 q4
  all_goals try clear heq
  all_goals try have m1 := mkAttrS_mono (l.getD y1.2.1.toNat default).attrs (y1.1 + 3)
  all_goals try generalize hr1 : markL mkAttr (l.getD y1.2.1.toNat default).attrs (y1.1 + 3) = r1 at *
  all_goals try simp (disch := omega) only [fmarkText, fheldAttrS, wrapId', Int.add_assoc, Int.reduceAdd, hr1, decide_eq_true_eq, decide_eq_false_iff_not, Bool.not_eq_true', Bool.not_eq_false', bne_iff_ne, bne_eq_false_iff_eq, beq_iff_eq, beq_eq_false_iff_ne, baEq, Int.not_lt, ne_eq, Decidable.not_not, decide_not] at *
  all_goals first | trivial | omega | (exfalso; omega) | (refine ⟨?_, ?_⟩ <;> omega) | (refine ⟨?_, ?_, ?_⟩ <;> first | omega | assumption) | (exfalso; simp_all; done) | skip
  · refine ⟨⟨by omega, by omega, ?_⟩, by omega⟩
    rw [toNat1 (by omega), ht]
    show _ = (mkNode (l.getD y1.2.1.toNat default) y1.1).2
    rw [← hE]
    omega
  · have e1 : l.take y1.2.1.toNat = l := List.take_of_length_le (by omega)
    rw [e1] at i3
    show (y1.1, ()) = ((markL mkNode l k).2, ())
    rw [i3.2.2])
def E27 : D.Env := E26.add 147 fheldNodeS
theorem E27ok : EOk Tryz.prog E27 := E26ok.add k147_26
set_option maxHeartbeats 2000000 in
theorem k81_27 : feqBuilder.ok Tryz.prog 81 := Fct.of (S := feqBuilder) (L := fun _ _ => none) (kp := [2,3,4,10,16,1000010,1000016]) E27ok Tryz.func81 (by kernel_rfl) (by kernel_rfl) (by
  rintro ⟨(x : SBuilder), (y : SBuilder), _⟩ hp
  refine holds_of (X := .ob (feqNodeS.pre (x.nodes, y.nodes, ())) <|
 .lt (Bool × PUnit) (feqNodeS.fn (x.nodes, y.nodes, ())) fun z2 =>
 .br (!z2.fst)
  (.leaf (mkR feqBuilder.rs (false, ())) [] [])
  (.ob (feqIntS.pre (x.open_, y.open_, ())) <|
   .lt (Bool × PUnit) (feqIntS.fn (x.open_, y.open_, ())) fun z3 =>
   .br (!z3.fst)
    (.leaf (mkR feqBuilder.rs (false, ())) [] [])
    (.leaf (mkR feqBuilder.rs (true, ())) [] []))) (by kernel_rfl) ?_
  refine ob_i ?_ fun o1 => lt_i (br_i (fun h2 => Fct.leafY ?_) (fun h2 => ob_i ?_ fun o3 => lt_i (br_i (fun h4 => Fct.leafY ?_) (fun h4 => Fct.leafY ?_))))
  all_goals try simp only [std1, ne_eq] at *
  all_goals try simp only [feqBuilder, feqIntS, feqNodeS, etaS, std1, std2, Nat.reduceAdd, ne_eq] at *
  all_goals first | trivial | (cases x; cases y; simp_all; done) | (simp only [szBuilder, szL] at *; omega) | grind [szBuilder, szL])
def E28 : D.Env := E27.add 81 feqBuilder
theorem E28ok : EOk Tryz.prog E28 := E27ok.add k81_27
set_option maxHeartbeats 2000000 in
theorem k95_28 : fmarkBuilder.ok Tryz.prog 95 := MS.of (S := fmarkBuilder) (L := fun _ _ _ => none) (kp := [1,2,4]) (kl := [0,1]) E28ok Tryz.func95 (by kernel_rfl) (by kernel_rfl) (by
  rintro (x : SBuilder) (k : Int) hp
  refine holds_of (X := .ob (fmarkNodeS.pre x.nodes k) <|
 .lt (List SNode × Int) (fmarkNodeS.fn x.nodes k) fun z2 =>
 .ob (fmarkIntS.pre x.open_ z2.snd) <|
  .lt (List Int × Int) (fmarkIntS.fn x.open_ z2.snd) fun z3 =>
  .leaf (.one false [vi (z3.snd)]) [] [((0 : Nat), ⟨Ty.node, z2.fst⟩), ((1 : Nat), ⟨Ty.int, z3.fst⟩)]) (by kernel_rfl) ?_
  refine ob_d ?_ <| lt_i (ob_d ?_ <| lt_i (MS.leaf ?_))
  all_goals have hp1 : 0 ≤ k := hp.1
  all_goals have hp2 : (mvBuilder x k).2 ≤ 4000000000000000000 := hp.2
  all_goals clear hp
  all_goals simp only [mvBuilder] at hp2
  all_goals try have m1 := mkNodeS_mono x.nodes (k)
  all_goals try generalize hr1 : markL mkNode x.nodes (k) = r1 at *
  all_goals try have m2 := mkIntS_mono x.open_ (r1.2)
  all_goals try generalize hr2 : markL mkInt x.open_ (r1.2) = r2 at *
  all_goals simp (disch := omega) only [fmarkIntS, fmarkNodeS, fmarkText, hr1, hr2]
  all_goals first | trivial | omega | (refine ⟨?_, ?_⟩ <;> omega) | skip
  refine MS.leaf ?_
  simp only [fmarkBuilder, mvBuilder, hr1, hr2]
  exact ⟨⟨rfl, rfl, trivial⟩, trivial, rfl⟩)
def E29 : D.Env := E28.addM 95 fmarkBuilder
theorem E29ok : EOk Tryz.prog E29 := E28ok.addM k95_28
set_option maxHeartbeats 2000000 in
theorem k104_29 : fheldBuilder.ok Tryz.prog 104 := Fct.of (S := fheldBuilder) (L := fun _ _ => none) (kp := [1,2,4,10,16,1000010,1000016]) E29ok Tryz.func104 (by kernel_rfl) (by kernel_rfl) (by
  rintro ⟨(x : SBuilder), (k : Int), _⟩ hp
  refine holds_of (X := .ob (fheldNodeS.pre (x.nodes, k, ())) <|
 .lt (Int × PUnit) (fheldNodeS.fn (x.nodes, k, ())) fun z2 =>
 .br (decide (z2.fst < (0 : Int)))
  (.leaf (mkR fheldBuilder.rs ((-1 : Int), ())) [] [])
  (.ob (fheldIntS.pre (x.open_, z2.fst, ())) <|
   .lt (Int × PUnit) (fheldIntS.fn (x.open_, z2.fst, ())) fun z3 =>
   .br (decide (z3.fst < (0 : Int)))
    (.leaf (mkR fheldBuilder.rs ((-1 : Int), ())) [] [])
    (.leaf (mkR fheldBuilder.rs (z3.fst, ())) [] []))) (by kernel_rfl) ?_
  refine ob_d ?_ <| lt_i (br_i (fun h2 => Fct.leafY ?_) (fun h2 => ob_d ?_ <| lt_i (br_i (fun h4 => Fct.leafY ?_) (fun h4 => Fct.leafY ?_))))
  all_goals have hp1 : 0 ≤ k := hp.1
  all_goals have hp2 : (mvBuilder x k).2 ≤ 4000000000000000000 := hp.2.1
  all_goals have heq : (mvBuilder x k).1 = x := hp.2.2
  all_goals clear hp
  all_goals try have q1 := congrArg (fun z : SBuilder => z.nodes) heq
  all_goals try have q2 := congrArg (fun z : SBuilder => z.open_) heq
  all_goals obtain ⟨E, hE⟩ : ∃ E, E = (mvBuilder x k).2 := ⟨_, rfl⟩
  all_goals have hE2 := hE
  all_goals simp only [mvBuilder] at hp2 hE2 q1 q2
  all_goals clear heq
  all_goals try have m1 := mkNodeS_mono x.nodes (k)
  all_goals try generalize hr1 : markL mkNode x.nodes (k) = r1 at *
  all_goals try have m2 := mkIntS_mono x.open_ (r1.2)
  all_goals try generalize hr2 : markL mkInt x.open_ (r1.2) = r2 at *
  all_goals simp (disch := omega) only [fheldIntS, fheldNodeS, fmarkText, hr1, hr2, decide_eq_true_eq, decide_eq_false_iff_not, Int.not_lt] at *
  all_goals try simp only [q1, q2]
  all_goals first | trivial | omega | (exfalso; omega) | (refine ⟨?_, ?_, ?_⟩ <;> first | omega | assumption) | skip
  all_goals first | (show (_, ()) = ((mvBuilder x k).2, ()); rw [← hE, Prod.mk.injEq]; exact ⟨by omega, rfl⟩) | skip)
def E30 : D.Env := E29.add 104 fheldBuilder
theorem E30ok : EOk Tryz.prog E30 := E29ok.add k104_29
set_option maxHeartbeats 2000000 in
theorem k78_30 : feqPolicy.ok Tryz.prog 78 := Fct.of (S := feqPolicy) (L := fun _ _ => none) (kp := [2,3,4,9,15,21,27,32,1000009,1000015,1000021,1000027,1000032]) E30ok Tryz.func78 (by kernel_rfl) (by kernel_rfl) (by
  rintro ⟨(x : SPolicy), (y : SPolicy), _⟩ hp
  refine holds_of (X := .br (!x.set_ == y.set_)
 (.leaf (mkR feqPolicy.rs (false, ())) [] [])
 (.ob (feqStringS.pre (x.scripts, y.scripts, ())) <|
  .lt (Bool × PUnit) (feqStringS.fn (x.scripts, y.scripts, ())) fun z2 =>
  .br (!z2.fst)
   (.leaf (mkR feqPolicy.rs (false, ())) [] [])
   (.ob (feqStringS.pre (x.styles, y.styles, ())) <|
    .lt (Bool × PUnit) (feqStringS.fn (x.styles, y.styles, ())) fun z3 =>
    .br (!z3.fst)
     (.leaf (mkR feqPolicy.rs (false, ())) [] [])
     (.ob (feqStringS.pre (x.images, y.images, ())) <|
      .lt (Bool × PUnit) (feqStringS.fn (x.images, y.images, ())) fun z4 =>
      .br (!z4.fst)
       (.leaf (mkR feqPolicy.rs (false, ())) [] [])
       (.br (!x.nonce.toList == y.nonce.toList)
        (.leaf (mkR feqPolicy.rs (false, ())) [] [])
        (.leaf (mkR feqPolicy.rs (true, ())) [] [])))))) (by kernel_rfl) ?_
  refine br_i (fun h1 => Fct.leafY ?_) (fun h1 => ob_i ?_ fun o2 => lt_i (br_i (fun h3 => Fct.leafY ?_) (fun h3 => ob_i ?_ fun o4 => lt_i (br_i (fun h5 => Fct.leafY ?_) (fun h5 => ob_i ?_ fun o6 => lt_i (br_i (fun h7 => Fct.leafY ?_) (fun h7 => br_i (fun h8 => Fct.leafY ?_) (fun h8 => Fct.leafY ?_))))))))
  all_goals try simp only [std1, ne_eq] at *
  all_goals try simp only [feqPolicy, feqStringS, etaS, std1, std2, Nat.reduceAdd, ne_eq] at *
  all_goals first | trivial | (cases x; cases y; simp_all; done) | (simp only [szL, szPolicy] at *; omega) | grind [szL, szPolicy])
def E31 : D.Env := E30.add 78 feqPolicy
theorem E31ok : EOk Tryz.prog E31 := E30ok.add k78_30
set_option maxHeartbeats 2000000 in
theorem k93_31 : fmarkPolicy.ok Tryz.prog 93 := MS.of (S := fmarkPolicy) (L := fun _ _ _ => none) (kp := [1,2,4]) (kl := [1,2,3]) E31ok Tryz.func93 (by kernel_rfl) (by kernel_rfl) (by
  rintro (x : SPolicy) (k : Int) hp
  refine holds_of (X := .ob (fmarkStringS.pre x.scripts k) <|
 .lt (List ByteArray × Int) (fmarkStringS.fn x.scripts k) fun z2 =>
 .ob (fmarkStringS.pre x.styles z2.snd) <|
  .lt (List ByteArray × Int) (fmarkStringS.fn x.styles z2.snd) fun z3 =>
  .ob (fmarkStringS.pre x.images z3.snd) <|
   .lt (List ByteArray × Int) (fmarkStringS.fn x.images z3.snd) fun z4 =>
   .leaf (.one false [vi (z4.snd)]) [] [((1 : Nat), ⟨Ty.str, z2.fst⟩), ((2 : Nat), ⟨Ty.str, z3.fst⟩), ((3 : Nat), ⟨Ty.str, z4.fst⟩)]) (by kernel_rfl) ?_
  refine ob_d ?_ <| lt_i (ob_d ?_ <| lt_i (ob_d ?_ <| lt_i (MS.leaf ?_)))
  all_goals have hp1 : 0 ≤ k := hp.1
  all_goals have hp2 : (mvPolicy x k).2 ≤ 4000000000000000000 := hp.2
  all_goals clear hp
  all_goals simp only [mvPolicy] at hp2
  all_goals try have m1 := mkStringS_mono x.scripts (k)
  all_goals try generalize hr1 : markL mkString x.scripts (k) = r1 at *
  all_goals try have m2 := mkStringS_mono x.styles (r1.2)
  all_goals try generalize hr2 : markL mkString x.styles (r1.2) = r2 at *
  all_goals try have m3 := mkStringS_mono x.images (r2.2)
  all_goals try generalize hr3 : markL mkString x.images (r2.2) = r3 at *
  all_goals simp (disch := omega) only [fmarkStringS, fmarkText, hr1, hr2, hr3]
  all_goals first | trivial | omega | (refine ⟨?_, ?_⟩ <;> omega) | skip
  refine MS.leaf ?_
  simp only [fmarkPolicy, mvPolicy, hr1, hr2, hr3]
  exact ⟨⟨rfl, rfl, trivial⟩, trivial, rfl⟩)
def E32 : D.Env := E31.addM 93 fmarkPolicy
theorem E32ok : EOk Tryz.prog E32 := E31ok.addM k93_31
set_option maxHeartbeats 2000000 in
theorem k102_32 : fheldPolicy.ok Tryz.prog 102 := Fct.of (S := fheldPolicy) (L := fun _ _ => none) (kp := [1,2,4,10,16,22,1000010,1000016,1000022]) E32ok Tryz.func102 (by kernel_rfl) (by kernel_rfl) (by
  rintro ⟨(x : SPolicy), (k : Int), _⟩ hp
  refine holds_of (X := .ob (fheldStringS.pre (x.scripts, k, ())) <|
 .lt (Int × PUnit) (fheldStringS.fn (x.scripts, k, ())) fun z2 =>
 .br (decide (z2.fst < (0 : Int)))
  (.leaf (mkR fheldPolicy.rs ((-1 : Int), ())) [] [])
  (.ob (fheldStringS.pre (x.styles, z2.fst, ())) <|
   .lt (Int × PUnit) (fheldStringS.fn (x.styles, z2.fst, ())) fun z3 =>
   .br (decide (z3.fst < (0 : Int)))
    (.leaf (mkR fheldPolicy.rs ((-1 : Int), ())) [] [])
    (.ob (fheldStringS.pre (x.images, z3.fst, ())) <|
     .lt (Int × PUnit) (fheldStringS.fn (x.images, z3.fst, ())) fun z4 =>
     .br (decide (z4.fst < (0 : Int)))
      (.leaf (mkR fheldPolicy.rs ((-1 : Int), ())) [] [])
      (.leaf (mkR fheldPolicy.rs (z4.fst, ())) [] [])))) (by kernel_rfl) ?_
  refine ob_d ?_ <| lt_i (br_i (fun h2 => Fct.leafY ?_) (fun h2 => ob_d ?_ <| lt_i (br_i (fun h4 => Fct.leafY ?_) (fun h4 => ob_d ?_ <| lt_i (br_i (fun h6 => Fct.leafY ?_) (fun h6 => Fct.leafY ?_))))))
  all_goals have hp1 : 0 ≤ k := hp.1
  all_goals have hp2 : (mvPolicy x k).2 ≤ 4000000000000000000 := hp.2.1
  all_goals have heq : (mvPolicy x k).1 = x := hp.2.2
  all_goals clear hp
  all_goals try have q1 := congrArg (fun z : SPolicy => z.scripts) heq
  all_goals try have q2 := congrArg (fun z : SPolicy => z.styles) heq
  all_goals try have q3 := congrArg (fun z : SPolicy => z.images) heq
  all_goals obtain ⟨E, hE⟩ : ∃ E, E = (mvPolicy x k).2 := ⟨_, rfl⟩
  all_goals have hE2 := hE
  all_goals simp only [mvPolicy] at hp2 hE2 q1 q2 q3
  all_goals clear heq
  all_goals try have m1 := mkStringS_mono x.scripts (k)
  all_goals try generalize hr1 : markL mkString x.scripts (k) = r1 at *
  all_goals try have m2 := mkStringS_mono x.styles (r1.2)
  all_goals try generalize hr2 : markL mkString x.styles (r1.2) = r2 at *
  all_goals try have m3 := mkStringS_mono x.images (r2.2)
  all_goals try generalize hr3 : markL mkString x.images (r2.2) = r3 at *
  all_goals simp (disch := omega) only [fheldStringS, fmarkText, hr1, hr2, hr3, decide_eq_true_eq, decide_eq_false_iff_not, Int.not_lt] at *
  all_goals try simp only [q1, q2, q3]
  all_goals first | trivial | omega | (exfalso; omega) | (refine ⟨?_, ?_, ?_⟩ <;> first | omega | assumption) | skip
  all_goals first | (show (_, ()) = ((mvPolicy x k).2, ()); rw [← hE, Prod.mk.injEq]; exact ⟨by omega, rfl⟩) | skip)
def E33 : D.Env := E32.add 102 fheldPolicy
theorem E33ok : EOk Tryz.prog E33 := E32ok.add k102_32
set_option maxHeartbeats 2000000 in
theorem k150_33 : fszResponse.ok Tryz.prog 150 := Fct.of (S := fszResponse) (L := fun _ _ => none) (kp := [1,2,4,11,18,1000011,1000018]) E33ok Tryz.func150 (by kernel_rfl) (by kernel_rfl) (by
  rintro ⟨(x : SResponse), (n : Int), _⟩ hp
  refine holds_of (X := .br (decide (IntKind.i64.wrap (n - (↑x.body.size : Int)) < (0 : Int)))
 (.leaf (mkR fszResponse.rs ((-1 : Int), ())) [] [])
 (.br (decide (IntKind.i64.wrap (IntKind.i64.wrap (n - (↑x.body.size : Int)) - (↑x.policy.size : Int)) < (0 : Int)))
  (.leaf (mkR fszResponse.rs ((-1 : Int), ())) [] [])
  (.leaf (mkR fszResponse.rs (IntKind.i64.wrap (IntKind.i64.wrap (n - (↑x.body.size : Int)) - (↑x.policy.size : Int)), ())) [] []))) (by kernel_rfl) ?_
  refine br_i (fun h1 => Fct.leafY ?_) (fun h1 => br_i (fun h2 => Fct.leafY ?_) (fun h2 => Fct.leafY ?_))
  all_goals try simp only [std1, ne_eq] at *
  all_goals try simp only [fszResponse, etaS, std1, std2, Nat.reduceAdd, ne_eq, Sh.good, Sh.fc, enc, List.forall_mem_cons, List.not_mem_nil, false_implies, implies_true, goodC, maxLen] at *
  all_goals grind [wrapId', lessen, szResponse])
def E34 : D.Env := E33.add 150 fszResponse
theorem E34ok : EOk Tryz.prog E34 := E33ok.add k150_33
theorem k156_34 : ftoResponse.ok Tryz.prog 156 := Fct.of (S := ftoResponse) (L := fun _ _ => none) (kp := [1,2,3]) E34ok Tryz.func156 (by kernel_rfl) (by kernel_rfl) (by
  rintro ⟨(x : SResponse), _⟩ hp
  refine holds_of (X := .leaf (mkR ftoResponse.rs (x, ())) [] []) (by kernel_rfl) ?_
  refine Fct.leafY ?_
  all_goals try simp only [std1, ne_eq] at *
  all_goals try simp only [ftoResponse, etaS, std1, std2, Nat.reduceAdd, ne_eq] at *
  all_goals first | trivial | rfl | grind [szResponse])
def E35 : D.Env := E34.add 156 ftoResponse
theorem E35ok : EOk Tryz.prog E35 := E34ok.add k156_34
set_option maxHeartbeats 2000000 in
theorem k139_35 : feqResponse.ok Tryz.prog 139 := Fct.of (S := feqResponse) (L := fun _ _ => none) (kp := [2,3,4,9,14,19,24,29,34,1000009,1000014,1000019,1000024,1000029,1000034]) E35ok Tryz.func139 (by kernel_rfl) (by kernel_rfl) (by
  rintro ⟨(x : SResponse), (y : SResponse), _⟩ hp
  refine holds_of (X := .br (x.status != y.status)
 (.leaf (mkR feqResponse.rs (false, ())) [] [])
 (.br (x.kind != y.kind)
  (.leaf (mkR feqResponse.rs (false, ())) [] [])
  (.br (!x.body.toList == y.body.toList)
   (.leaf (mkR feqResponse.rs (false, ())) [] [])
   (.br (x.age != y.age)
    (.leaf (mkR feqResponse.rs (false, ())) [] [])
    (.br (!x.shares == y.shares)
     (.leaf (mkR feqResponse.rs (false, ())) [] [])
     (.br (!x.policy.toList == y.policy.toList)
      (.leaf (mkR feqResponse.rs (false, ())) [] [])
      (.leaf (mkR feqResponse.rs (true, ())) [] []))))))) (by kernel_rfl) ?_
  refine br_i (fun h1 => Fct.leafY ?_) (fun h1 => br_i (fun h2 => Fct.leafY ?_) (fun h2 => br_i (fun h3 => Fct.leafY ?_) (fun h3 => br_i (fun h4 => Fct.leafY ?_) (fun h4 => br_i (fun h5 => Fct.leafY ?_) (fun h5 => br_i (fun h6 => Fct.leafY ?_) (fun h6 => Fct.leafY ?_))))))
  all_goals try simp only [std1, ne_eq] at *
  all_goals try simp only [feqResponse, etaS, std1, std2, Nat.reduceAdd, ne_eq] at *
  all_goals first | trivial | (cases x; cases y; simp_all; done) | (simp only [szResponse] at *; omega) | grind [szResponse])
def E36 : D.Env := E35.add 139 feqResponse
theorem E36ok : EOk Tryz.prog E36 := E35ok.add k139_35
set_option maxHeartbeats 2000000 in
theorem k149_36 : fszFile.ok Tryz.prog 149 := Fct.of (S := fszFile) (L := fun _ _ => none) (kp := [1,2,4,11,17,1000011,1000017]) E36ok Tryz.func149 (by kernel_rfl) (by kernel_rfl) (by
  rintro ⟨(x : SFile), (n : Int), _⟩ hp
  refine holds_of (X := .br (decide (IntKind.i64.wrap (n - (↑x.path.size : Int)) < (0 : Int)))
 (.leaf (mkR fszFile.rs ((-1 : Int), ())) [] [])
 (.ob (fszResponse.pre (x.response, IntKind.i64.wrap (n - (↑x.path.size : Int)), ())) <|
  .lt (Int × PUnit) (fszResponse.fn (x.response, IntKind.i64.wrap (n - (↑x.path.size : Int)), ())) fun z2 =>
  .br (decide (z2.fst < (0 : Int)))
   (.leaf (mkR fszFile.rs ((-1 : Int), ())) [] [])
   (.leaf (mkR fszFile.rs (z2.fst, ())) [] []))) (by kernel_rfl) ?_
  refine br_i (fun h1 => Fct.leafY ?_) (fun h1 => ob_i ?_ fun o2 => lt_i (br_i (fun h3 => Fct.leafY ?_) (fun h3 => Fct.leafY ?_)))
  all_goals try simp only [std1, ne_eq] at *
  all_goals try simp only [fszFile, fszResponse, etaS, std1, std2, Nat.reduceAdd, ne_eq, Sh.good, Sh.fc, enc, List.forall_mem_cons, List.not_mem_nil, false_implies, implies_true, goodC, maxLen] at *
  all_goals grind [wrapId', lessen, szFile, szResponse])
def E37 : D.Env := E36.add 149 fszFile
theorem E37ok : EOk Tryz.prog E37 := E36ok.add k149_36
theorem k155_37 : ftoFile.ok Tryz.prog 155 := Fct.of (S := ftoFile) (L := fun _ _ => none) (kp := [1,2,3]) E37ok Tryz.func155 (by kernel_rfl) (by kernel_rfl) (by
  rintro ⟨(x : SFile), _⟩ hp
  refine holds_of (X := .ob (ftoResponse.pre (x.response, ())) <|
 .lt (SResponse × PUnit) (ftoResponse.fn (x.response, ())) fun z2 =>
 .leaf (mkR ftoFile.rs (⟨x.path, z2.fst⟩, ())) [] []) (by kernel_rfl) ?_
  refine ob_i ?_ fun o1 => lt_i (Fct.leafY ?_)
  all_goals try simp only [std1, ne_eq] at *
  all_goals try simp only [ftoFile, ftoResponse, etaS, std1, std2, Nat.reduceAdd, ne_eq] at *
  all_goals first | trivial | rfl | grind [szFile, szResponse])
def E38 : D.Env := E37.add 155 ftoFile
theorem E38ok : EOk Tryz.prog E38 := E37ok.add k155_37
set_option maxHeartbeats 2000000 in
theorem k180_38 : feqFile.ok Tryz.prog 180 := Fct.of (S := feqFile) (L := fun _ _ => none) (kp := [2,3,4,9,15,1000009,1000015]) E38ok Tryz.func180 (by kernel_rfl) (by kernel_rfl) (by
  rintro ⟨(x : SFile), (y : SFile), _⟩ hp
  refine holds_of (X := .br (!x.path.toList == y.path.toList)
 (.leaf (mkR feqFile.rs (false, ())) [] [])
 (.ob (feqResponse.pre (x.response, y.response, ())) <|
  .lt (Bool × PUnit) (feqResponse.fn (x.response, y.response, ())) fun z2 =>
  .br (!z2.fst)
   (.leaf (mkR feqFile.rs (false, ())) [] [])
   (.leaf (mkR feqFile.rs (true, ())) [] []))) (by kernel_rfl) ?_
  refine br_i (fun h1 => Fct.leafY ?_) (fun h1 => ob_i trivial fun _ => lt_i (br_i (fun h2 => Fct.leafY ?_) (fun h2 => Fct.leafY ?_)))
  all_goals try simp only [std1, ne_eq] at *
  all_goals try simp only [feqFile, feqResponse, etaS, std1, std2, Nat.reduceAdd, ne_eq] at *
  all_goals first | trivial | (cases x; cases y; simp_all; done) | (simp only [szFile, szResponse] at *; omega) | grind [szFile, szResponse])
def E39 : D.Env := E38.add 180 feqFile
theorem E39ok : EOk Tryz.prog E39 := E38ok.add k180_38
set_option maxHeartbeats 2000000 in
theorem k108_39 : fszFileS.ok Tryz.prog 108 := Fct.of (S := fszFileS) (L := fun ⟨l, n, _⟩ => fun | 5 => some (LszS .file szFile l n) | _ => none) (kp := [0,1,4,5,11,15,25,1000011,1000015,1000025]) E39ok Tryz.func108 (by kernel_rfl) (by kernel_rfl) (by
  rintro ⟨(l : List SFile), (n : Int), _⟩ hp
  refine holds_of (X := .br (decide (IntKind.i64.wrap (n - (↑l.length : Int)) < (0 : Int)))
 (.leaf (mkR fszFileS.rs ((-1 : Int), ())) [] [])
 (lpx (LszS .file szFile l n) (IntKind.i64.wrap (n - (↑l.length : Int)), ((0 : Int), ())) fun (y2 : Int × Int × PUnit) bk2 =>
  .br (decide (y2.snd.fst < (↑l.length : Int)))
   (.ob ((0 : Int) ≤ y2.snd.fst ∧ y2.snd.fst < (↑l.length : Int)) <|
    .ob (fszFile.pre (l.getD y2.snd.fst.toNat default, y2.fst, ())) <|
    .lt (Int × PUnit) (fszFile.fn (l.getD y2.snd.fst.toNat default, y2.fst, ())) fun z2 =>
    .br (decide (z2.fst < (0 : Int)))
     (.leaf (mkR fszFileS.rs ((-1 : Int), ())) [] [])
     (.ob (l = l) <|
      .ob (bk2 (z2.fst, (IntKind.i64.wrap (y2.snd.fst + (1 : Int)), ()))) <|
      .ok))
   (.leaf (mkR fszFileS.rs (y2.fst, ())) [] []))) (by kernel_rfl) ?_
  refine br_i (fun h1 => Fct.leafY ?_) (fun h1 => lpx_i ?_ fun (y2 : Int × Int × PUnit) i2 => br_i (fun h3 => ob_i ?_ fun o4 => ob_i ?_ fun o5 => lt_i (br_i (fun h6 => Fct.leafY ?_) (fun h6 => ob_i rfl fun _ => ob_i ?_ fun o7 => trivial))) (fun h3 => Fct.leafY ?_))
  all_goals try simp only [std1, ne_eq] at *
  all_goals try simp only [LszS, fszFile, fszFileS, etaS, std1, std2, Nat.reduceAdd, ne_eq] at *
  · have := good_len hp.1; simp only [maxLen] at this; rw [wrapId (by omega)] at h1
    rw [lessenNeg (by simp only [szL]; omega)]
  · have := good_len hp.1; simp only [maxLen] at this
    rw [wrapId (by omega)] at h1 ⊢
    exact ⟨by omega, by omega, h1, by simp⟩
  · omega
  · exact ⟨good_getD hp.1 (by omega), by omega, by omega⟩
  · have hs := sum_take_le szFile l (y2.2.1.toNat + 1)
    rw [sum_take szFile (by omega)] at hs
    rw [lessen_lt (by omega)] at h6
    rw [lessenNeg (by simp only [szL]; omega)]
  · have hw : IntKind.i64.wrap (y2.2.1 + 1) = y2.2.1 + 1 := wrapId (by have := good_len hp.1; simp only [maxLen] at this; omega)
    have h7 : ¬ lessen y2.1 (szFile (l.getD y2.2.1.toNat default)) < 0 := by omega
    rw [lessen_lt (by omega)] at h7
    rw [hw, toNat1 (by omega), sum_take szFile (by omega), lessen_ge (by omega)]
    exact ⟨⟨by omega, by omega, by omega, by omega⟩, by omega⟩
  · have e : l.take y2.2.1.toNat = l := List.take_of_length_le (by omega)
    rw [e] at i2
    have hz : ((szL szFile l : Nat) : Int) = l.length + (l.map szFile).sum := by simp only [szL]; omega
    rw [lessen_ge (by omega)]
    show y2.1 = n - ((szL szFile l : Nat) : Int)
    omega)
def E40 : D.Env := E39.add 108 fszFileS
theorem E40ok : EOk Tryz.prog E40 := E39ok.add k108_39
theorem k119_40 : ftoFileS.ok Tryz.prog 119 := Fct.of (S := ftoFileS) (L := fun ⟨l, _⟩ => fun | 3 => some (LtoS .file l) | _ => none) (kp := [0,2,3,4,11,1000011]) E40ok Tryz.func119 (by kernel_rfl) (by kernel_rfl) (by
  rintro ⟨(l : List SFile), _⟩ hp
  refine holds_of (X := .ob ((↑l.length : Int) = (↑l.length : Int) ∧
  (0 : Int) ≤ (↑l.length : Int) ∧
    (80 : Int) * (↑l.length : Int) ≤ (140737488355328 : Int) ∧ (↑l.length : Int) ≤ (140737488355328 : Int)) <|
 lpx (LtoS .file l) ((0 : Int), (List.replicate (↑l.length : Int).toNat default, ())) fun (y2 : Int × List SFile × PUnit) bk2 =>
 .br (decide (y2.fst < (↑l.length : Int)))
  (.ob ((0 : Int) ≤ y2.fst ∧ y2.fst < (↑l.length : Int)) <|
   .ob (ftoFile.pre (l.getD y2.fst.toNat default, ())) <|
   .lt (SFile × PUnit) (ftoFile.fn (l.getD y2.fst.toNat default, ())) fun z2 =>
   .ob ((0 : Int) ≤ y2.fst ∧ y2.fst < (↑y2.snd.fst.length : Int)) <|
    .ob (y2.fst.toNat < y2.snd.fst.length) <|
    .lt (List SFile) (y2.snd.fst.modify y2.fst.toNat fun z => z2.fst) fun z3 =>
    .ob (l = l) <|
     .ob (bk2 (IntKind.i64.wrap (y2.fst + (1 : Int)), (z3, ()))) <|
     .ok)
  (.leaf (mkR ftoFileS.rs (y2.snd.fst, ())) [] [])) (by kernel_rfl) ?_
  refine ob_i ?_ fun o1 => lpx_i ?_ fun (y2 : Int × List SFile × PUnit) i2 => br_i (fun h3 => ob_i ?_ fun o4 => ob_i ?_ fun o5 => lt_i (ob_i ?_ fun o6 => ob_i ?_ fun o7 => lt_i (ob_i rfl fun _ => ob_i ?_ fun o8 => trivial))) (fun h3 => Fct.leafY ?_)
  all_goals try simp only [std1, ne_eq] at *
  all_goals try simp only [LtoS, ftoFile, ftoFileS, etaS, std1, std2, Nat.reduceAdd, ne_eq] at *
  · have := szL_len szFile l; omega
  · exact ⟨by omega, by omega, by simp⟩
  · omega
  · have hs := sum_take_le szFile l (y2.1.toNat + 1)
    rw [sum_take szFile (by omega)] at hs
    simp only [szL] at hp; omega
  · rw [i2.2.2]; simp; omega
  · rw [i2.2.2]; simp; omega
  · have hw : IntKind.i64.wrap (y2.1 + 1) = y2.1 + 1 := wrapId (by have := szL_len szFile l; omega)
    rw [hw, toNat1 (by omega), i2.2.2]
    refine ⟨⟨by omega, by omega, ?_⟩, by omega⟩
    rw [show l.length - y2.1.toNat = (l.length - (y2.1.toNat + 1)) + 1 from by omega, List.replicate_succ, mod_at (by simp; omega), take_succ (by omega)]
    simp
  · have e : l.take y2.1.toNat = l := List.take_of_length_le (by omega)
    rw [i2.2.2, e]; simp; omega)
def E41 : D.Env := E40.add 119 ftoFileS
theorem E41ok : EOk Tryz.prog E41 := E40ok.add k119_40
set_option maxHeartbeats 2000000 in
theorem k140_41 : feqFileS.ok Tryz.prog 140 := Fct.of (S := feqFileS) (L := fun ⟨l, m, _⟩ => fun | 4 => some (LeqS .file l m) | _ => none) (kp := [0,1,4,5,10,14,26,1000010,1000014,1000026]) E41ok Tryz.func140 (by kernel_rfl) (by kernel_rfl) (by
  rintro ⟨(l : List SFile), (m : List SFile), _⟩ hp
  refine holds_of (X := .br ((↑l.length : Int) != (↑m.length : Int))
 (.leaf (mkR feqFileS.rs (false, ())) [] [])
 (lpx (LeqS .file l m) ((0 : Int), ()) fun (y2 : Int × PUnit) bk2 =>
  .br (decide (y2.fst < (↑l.length : Int)))
   (.ob ((0 : Int) ≤ y2.fst ∧ y2.fst < (↑l.length : Int)) <|
    .ob ((0 : Int) ≤ y2.fst ∧ y2.fst < (↑m.length : Int)) <|
    .ob (feqFile.pre (l.getD y2.fst.toNat default, m.getD y2.fst.toNat default, ())) <|
    .lt (Bool × PUnit) (feqFile.fn (l.getD y2.fst.toNat default, m.getD y2.fst.toNat default, ())) fun z2 =>
    .br (!z2.fst)
     (.leaf (mkR feqFileS.rs (false, ())) [] [])
     (.ob (l = l) <|
      .ob (m = m) <|
      .ob (bk2 (IntKind.i64.wrap (y2.fst + (1 : Int)), ())) <|
      .ok))
   (.leaf (mkR feqFileS.rs (true, ())) [] []))) (by kernel_rfl) ?_
  refine br_i (fun h1 => Fct.leafY ?_) (fun h1 => lpx_i ?_ fun (y2 : Int × PUnit) i2 => br_i (fun h3 => ob_i ?_ fun o4 => ob_i ?_ fun o5 => ob_i trivial fun _ => lt_i (br_i (fun h6 => Fct.leafY ?_) (fun h6 => ob_i rfl fun _ => ob_i rfl fun _ => ob_i ?_ fun o7 => trivial))) (fun h3 => Fct.leafY ?_))
  all_goals try simp only [std1, ne_eq] at *
  all_goals try simp only [LeqS, feqFile, feqFileS, etaS, std1, std2, Nat.reduceAdd, ne_eq] at *
  · rw [decide_eq_false]; rintro rfl; omega
  · exact ⟨by omega, by omega, by simp⟩
  · omega
  · omega
  · rw [decide_eq_false]; rintro rfl; exact absurd rfl h6
  · have hw : IntKind.i64.wrap (y2.1 + 1) = y2.1 + 1 := wrapId (by omega)
    rw [hw, toNat1 (by omega)]
    refine ⟨⟨by omega, by omega, ?_⟩, by omega⟩
    rw [take_succ (by omega), take_succ (by omega), i2.2.2, h6]
  · have e : l.take y2.1.toNat = l := List.take_of_length_le (by omega)
    have e2 : m.take y2.1.toNat = m := List.take_of_length_le (by omega)
    rw [decide_eq_true]; rw [← e, ← e2, i2.2.2])
def E42 : D.Env := E41.add 140 feqFileS
theorem E42ok : EOk Tryz.prog E42 := E41ok.add k140_41
set_option maxHeartbeats 2000000 in
theorem k91_42 : fmarkFileS.ok Tryz.prog 91 := MS.of (S := fmarkFileS) (L := fun l k => fun | 2 => some (LmkS .file mkFile l k) | _ => none) (kp := [0,1,4,5,9,1000009]) (kl := [0]) E42ok Tryz.func91 (by kernel_rfl) (by kernel_rfl) (by
  rintro (l : List SFile) (k : Int) hp
  refine holds_of (X := lpx (LmkS .file mkFile l k) (k, ((0 : Int), (l, ()))) fun (y1 : Int × Int × List SFile × PUnit) bk1 =>
 .br (decide (y1.snd.fst < (↑y1.snd.snd.fst.length : Int)))
  (.ob (fmarkText.pre (y1.fst, ())) <|
   .lt (ByteArray × PUnit) (fmarkText.fn (y1.fst, ())) fun z2 =>
   .ob ((0 : Int) ≤ y1.snd.fst ∧ y1.snd.fst < (↑y1.snd.snd.fst.length : Int)) <|
    .ob (y1.snd.fst.toNat < y1.snd.snd.fst.length) <|
    .lt (List SFile) (y1.snd.snd.fst.modify y1.snd.fst.toNat fun z => { path := z2.fst, response := z.response : SFile }) fun z3 =>
    .ob ((0 : Int) ≤ y1.snd.fst ∧ y1.snd.fst < (↑z3.length : Int)) <|
     .ob (y1.snd.fst.toNat < z3.length) <|
     .lt (List SFile) (z3.modify y1.snd.fst.toNat fun z =>
  { path := z.path,
    response :=
      { status := IntKind.i64.wrap (y1.fst + (1 : Int)), kind := z.response.kind, body := z.response.body,
        age := z.response.age, shares := z.response.shares, policy := z.response.policy : SResponse } :
    SFile }) fun z4 =>
     .ob ((0 : Int) ≤ y1.snd.fst ∧ y1.snd.fst < (↑z4.length : Int)) <|
      .ob (y1.snd.fst.toNat < z4.length) <|
      .lt (List SFile) (z4.modify y1.snd.fst.toNat fun z =>
  { path := z.path,
    response :=
      { status := z.response.status, kind := IntKind.i64.wrap (IntKind.i64.wrap (y1.fst + (1 : Int)) + (1 : Int)),
        body := z.response.body, age := z.response.age, shares := z.response.shares, policy := z.response.policy :
        SResponse } :
    SFile }) fun z5 =>
      .ob (fmarkText.pre (IntKind.i64.wrap (IntKind.i64.wrap (IntKind.i64.wrap (y1.fst + (1 : Int)) + (1 : Int)) + (1 : Int)), ())) <|
       .lt (ByteArray × PUnit) (fmarkText.fn (IntKind.i64.wrap (IntKind.i64.wrap (IntKind.i64.wrap (y1.fst + (1 : Int)) + (1 : Int)) + (1 : Int)), ())) fun z6 =>
       .ob ((0 : Int) ≤ y1.snd.fst ∧ y1.snd.fst < (↑z5.length : Int)) <|
        .ob (y1.snd.fst.toNat < z5.length) <|
        .lt (List SFile) (z5.modify y1.snd.fst.toNat fun z =>
  { path := z.path,
    response :=
      { status := z.response.status, kind := z.response.kind, body := z6.fst, age := z.response.age,
        shares := z.response.shares, policy := z.response.policy : SResponse } :
    SFile }) fun z7 =>
        .ob ((0 : Int) ≤ y1.snd.fst ∧ y1.snd.fst < (↑z7.length : Int)) <|
         .ob (y1.snd.fst.toNat < z7.length) <|
         .lt (List SFile) (z7.modify y1.snd.fst.toNat fun z =>
  { path := z.path,
    response :=
      { status := z.response.status, kind := z.response.kind, body := z.response.body,
        age :=
          IntKind.i64.wrap
            (IntKind.i64.wrap (IntKind.i64.wrap (IntKind.i64.wrap (y1.fst + (1 : Int)) + (1 : Int)) + (1 : Int)) +
              (1 : Int)),
        shares := z.response.shares, policy := z.response.policy : SResponse } :
    SFile }) fun z8 =>
         .ob ((3 : Int) ≠ (0 : Int)) <|
          .ob ((0 : Int) ≤ y1.snd.fst ∧ y1.snd.fst < (↑z8.length : Int)) <|
          .ob (y1.snd.fst.toNat < z8.length) <|
          .lt (List SFile) (z8.modify y1.snd.fst.toNat fun z =>
  { path := z.path,
    response :=
      { status := z.response.status, kind := z.response.kind, body := z.response.body, age := z.response.age,
        shares :=
          (IntKind.i64.wrap
                  (IntKind.i64.wrap
                      (IntKind.i64.wrap
                          (IntKind.i64.wrap (IntKind.i64.wrap (y1.fst + (1 : Int)) + (1 : Int)) + (1 : Int)) +
                        (1 : Int)) +
                    (1 : Int))).tmod
              (3 : Int) ==
            (0 : Int),
        policy := z.response.policy : SResponse } :
    SFile }) fun z9 =>
          .ob (fmarkText.pre
  (IntKind.i64.wrap
      (IntKind.i64.wrap
          (IntKind.i64.wrap
              (IntKind.i64.wrap (IntKind.i64.wrap (IntKind.i64.wrap (y1.fst + (1 : Int)) + (1 : Int)) + (1 : Int)) +
                (1 : Int)) +
            (1 : Int)) +
        (1 : Int)),
    ())) <|
           .lt (ByteArray × PUnit) (fmarkText.fn
  (IntKind.i64.wrap
      (IntKind.i64.wrap
          (IntKind.i64.wrap
              (IntKind.i64.wrap (IntKind.i64.wrap (IntKind.i64.wrap (y1.fst + (1 : Int)) + (1 : Int)) + (1 : Int)) +
                (1 : Int)) +
            (1 : Int)) +
        (1 : Int)),
    ())) fun z10 =>
           .ob ((0 : Int) ≤ y1.snd.fst ∧ y1.snd.fst < (↑z9.length : Int)) <|
            .ob (y1.snd.fst.toNat < z9.length) <|
            .lt (List SFile) (z9.modify y1.snd.fst.toNat fun z =>
  { path := z.path,
    response :=
      { status := z.response.status, kind := z.response.kind, body := z.response.body, age := z.response.age,
        shares := z.response.shares, policy := z10.fst : SResponse } :
    SFile }) fun z11 =>
            .ob (Value.int IntKind.i64 (0 : Int) = Value.int IntKind.i64 (0 : Int)) <|
             .ob (bk1 (IntKind.i64.wrap
  (IntKind.i64.wrap
      (IntKind.i64.wrap
          (IntKind.i64.wrap
              (IntKind.i64.wrap (IntKind.i64.wrap (IntKind.i64.wrap (y1.fst + (1 : Int)) + (1 : Int)) + (1 : Int)) +
                (1 : Int)) +
            (1 : Int)) +
        (1 : Int)) +
    (1 : Int)), (IntKind.i64.wrap (y1.snd.fst + (1 : Int)), (z11, ())))) <|
             .ok)
  (.leaf (.one false [vi (y1.fst)]) [] [((0 : Nat), ⟨Ty.file, y1.snd.snd.fst⟩)])) (by kernel_rfl) ?_
  refine lpx_i ?_ fun (y1 : Int × Int × List SFile × PUnit) i1 => br_i (fun h2 => ob_i ?_ fun o3 => lt_i (ob_i ?_ fun o4 => ob_i ?_ fun o5 => lt_i (ob_i ?_ fun o6 => ob_i ?_ fun o7 => lt_i (ob_i ?_ fun o8 => ob_i ?_ fun o9 => lt_i (ob_i ?_ fun o10 => lt_i (ob_i ?_ fun o11 => ob_i ?_ fun o12 => lt_i (ob_i ?_ fun o13 => ob_i ?_ fun o14 => lt_i (ob_i ?_ fun o15 => ob_i ?_ fun o16 => ob_i ?_ fun o17 => lt_i (ob_i ?_ fun o18 => lt_i (ob_i ?_ fun o19 => ob_i ?_ fun o20 => lt_i (ob_i rfl fun _ => ob_i ?_ fun o21 => trivial))))))))))) (fun h2 => MS.leaf ?_)
  · exact ⟨by simp, by simp, by simp [markL], by simp [markL]⟩
  all_goals have hp1 : 0 ≤ k := hp.1
  all_goals have hp2 : (markL mkFile l k).2 ≤ 4000000000000000000 := hp.2
  all_goals have i3 : 0 ≤ y1.2.1 ∧ y1.2.1 ≤ l.length ∧ y1.1 = (markL mkFile (l.take y1.2.1.toNat) k).2 ∧ y1.2.2.1 = (markL mkFile (l.take y1.2.1.toNat) k).1 ++ l.drop y1.2.1.toNat := i1
  all_goals have hcnt := markL_cnt (f := mkFile) (fun x k => by simp only [mkFile]; omega) l k
  all_goals have hx : y1.2.2.1.length = l.length := by rw [i3.2.2.2, List.length_append, markL_len, List.length_take, List.length_drop]; omega
  all_goals simp only [decide_eq_true_eq, decide_eq_false_iff_not, hx] at h2
  all_goals clear i1
  all_goals try have hlt : y1.2.1.toNat < l.length := by omega
  all_goals try have ht := markL_take (f := mkFile) hlt k
  all_goals try have hle := (markL_take_le mkFile_mono l (y1.2.1.toNat + 1) k).2
  all_goals try have hl0 := (markL_take_le mkFile_mono l y1.2.1.toNat k).1
  all_goals try rw [ht] at hle
  all_goals try rw [← i3.2.2.1] at hle hl0 ht
  all_goals try simp only [mkFile] at hle
  all_goals first | decide | (simp only [List.length_modify, hx]; omega) | (refine ⟨?_, ?_⟩ <;> (try simp (discharger := omega) only [wrapId']) <;> omega) | skip
  · try clear o3 o4 o5
    simp (discharger := omega) only [wrapId', fmarkText]
    have hA : (markL mkFile (l.take y1.2.1.toNat) k).1.length = y1.2.1.toNat := by rw [markL_len, List.length_take]; omega
    refine ⟨⟨by omega, by omega, ?_, ?_⟩, ?_⟩
    · rw [toNat1 (by omega), ht]
      first | done | (simp only [mkFile]; done) | (simp only [mkFile]; omega)
    · rw [toNat1 (by omega), ht, i3.2.2.2, drop_cons hlt]
      simp only [mod_at hA, mkFile, Int.add_assoc, Int.reduceAdd, List.append_assoc, List.cons_append, List.nil_append]
    · omega
  · refine MS.leafL (t := .file) (fn := fun l k => markL mkFile l k) ?_
    have e1 : l.take y1.2.1.toNat = l := List.take_of_length_le (by omega)
    have e2 : l.drop y1.2.1.toNat = [] := List.drop_of_length_le (by omega)
    rw [i3.2.2.2, i3.2.2.1, e1, e2, List.append_nil])
def E43 : D.Env := E42.addM 91 fmarkFileS
theorem E43ok : EOk Tryz.prog E43 := E42ok.addM k91_42
set_option maxHeartbeats 2000000 in
theorem k144_43 : fheldFileS.ok Tryz.prog 144 := Fct.of (S := fheldFileS) (L := fun ⟨l, k, _⟩ => fun | 2 => some (LheS .file mkFile l k) | _ => none) (kp := [0,1,4,5,9,19,29,39,50,60,72,83,1000009,1000019,1000029,1000039,1000050,1000060,1000072,1000083]) E43ok Tryz.func144 (by kernel_rfl) (by kernel_rfl) (by
  rintro ⟨(l : List SFile), (k : Int), _⟩ hp
  refine holds_of (X := lpx (LheS .file mkFile l k) (k, ((0 : Int), ())) fun (y1 : Int × Int × PUnit) bk1 =>
 .br (decide (y1.snd.fst < (↑l.length : Int)))
  (.ob ((0 : Int) ≤ y1.snd.fst ∧ y1.snd.fst < (↑l.length : Int)) <|
   .ob (fmarkText.pre (y1.fst, ())) <|
   .lt (ByteArray × PUnit) (fmarkText.fn (y1.fst, ())) fun z2 =>
   .br (!(l.getD y1.snd.fst.toNat default).path.toList == z2.fst.toList)
    (.leaf (mkR fheldFileS.rs ((-1 : Int), ())) [] [])
    (.ob ((0 : Int) ≤ y1.snd.fst ∧ y1.snd.fst < (↑l.length : Int)) <|
     .br ((l.getD y1.snd.fst.toNat default).response.status != IntKind.i64.wrap (y1.fst + (1 : Int)))
     (.leaf (mkR fheldFileS.rs ((-1 : Int), ())) [] [])
     (.ob ((0 : Int) ≤ y1.snd.fst ∧ y1.snd.fst < (↑l.length : Int)) <|
      .br ((l.getD y1.snd.fst.toNat default).response.kind != IntKind.i64.wrap (IntKind.i64.wrap (y1.fst + (1 : Int)) + (1 : Int)))
      (.leaf (mkR fheldFileS.rs ((-1 : Int), ())) [] [])
      (.ob ((0 : Int) ≤ y1.snd.fst ∧ y1.snd.fst < (↑l.length : Int)) <|
       .ob (fmarkText.pre (IntKind.i64.wrap (IntKind.i64.wrap (IntKind.i64.wrap (y1.fst + (1 : Int)) + (1 : Int)) + (1 : Int)), ())) <|
       .lt (ByteArray × PUnit) (fmarkText.fn (IntKind.i64.wrap (IntKind.i64.wrap (IntKind.i64.wrap (y1.fst + (1 : Int)) + (1 : Int)) + (1 : Int)), ())) fun z3 =>
       .br (!(l.getD y1.snd.fst.toNat default).response.body.toList == z3.fst.toList)
        (.leaf (mkR fheldFileS.rs ((-1 : Int), ())) [] [])
        (.ob ((0 : Int) ≤ y1.snd.fst ∧ y1.snd.fst < (↑l.length : Int)) <|
         .br ((l.getD y1.snd.fst.toNat default).response.age != IntKind.i64.wrap (IntKind.i64.wrap (IntKind.i64.wrap (IntKind.i64.wrap (y1.fst + (1 : Int)) + (1 : Int)) + (1 : Int)) + (1 : Int)))
         (.leaf (mkR fheldFileS.rs ((-1 : Int), ())) [] [])
         (.ob ((0 : Int) ≤ y1.snd.fst ∧ y1.snd.fst < (↑l.length : Int)) <|
          .ob ((3 : Int) ≠ (0 : Int)) <|
          .br (!(l.getD y1.snd.fst.toNat default).response.shares == ((IntKind.i64.wrap (IntKind.i64.wrap (IntKind.i64.wrap (IntKind.i64.wrap (IntKind.i64.wrap (y1.fst + (1 : Int)) + (1 : Int)) + (1 : Int)) + (1 : Int)) + (1 : Int))).tmod (3 : Int) == (0 : Int)))
          (.leaf (mkR fheldFileS.rs ((-1 : Int), ())) [] [])
          (.ob ((0 : Int) ≤ y1.snd.fst ∧ y1.snd.fst < (↑l.length : Int)) <|
           .ob (fmarkText.pre (IntKind.i64.wrap (IntKind.i64.wrap (IntKind.i64.wrap (IntKind.i64.wrap (IntKind.i64.wrap (IntKind.i64.wrap (y1.fst + (1 : Int)) + (1 : Int)) + (1 : Int)) + (1 : Int)) + (1 : Int)) + (1 : Int)), ())) <|
           .lt (ByteArray × PUnit) (fmarkText.fn (IntKind.i64.wrap (IntKind.i64.wrap (IntKind.i64.wrap (IntKind.i64.wrap (IntKind.i64.wrap (IntKind.i64.wrap (y1.fst + (1 : Int)) + (1 : Int)) + (1 : Int)) + (1 : Int)) + (1 : Int)) + (1 : Int)), ())) fun z4 =>
           .br (!(l.getD y1.snd.fst.toNat default).response.policy.toList == z4.fst.toList)
            (.leaf (mkR fheldFileS.rs ((-1 : Int), ())) [] [])
            (.ob (l = l) <|
             .ob (bk1 (IntKind.i64.wrap (IntKind.i64.wrap (IntKind.i64.wrap (IntKind.i64.wrap (IntKind.i64.wrap (IntKind.i64.wrap (IntKind.i64.wrap (y1.fst + (1 : Int)) + (1 : Int)) + (1 : Int)) + (1 : Int)) + (1 : Int)) + (1 : Int)) + (1 : Int)), (IntKind.i64.wrap (y1.snd.fst + (1 : Int)), ()))) <|
             .ok))))))))
  (.leaf (mkR fheldFileS.rs (y1.fst, ())) [] [])) (by kernel_rfl) ?_
  refine lpx_i ?_ fun (y1 : Int × Int × PUnit) i1 => br_i (fun h2 => ob_i ?_ fun o3 => ob_i ?_ fun o4 => lt_i (br_i (fun h5 => Fct.leafY ?_) (fun h5 => ob_i ?_ fun o6 => br_i (fun h7 => Fct.leafY ?_) (fun h7 => ob_i ?_ fun o8 => br_i (fun h9 => Fct.leafY ?_) (fun h9 => ob_i ?_ fun o10 => ob_i ?_ fun o11 => lt_i (br_i (fun h12 => Fct.leafY ?_) (fun h12 => ob_i ?_ fun o13 => br_i (fun h14 => Fct.leafY ?_) (fun h14 => ob_i ?_ fun o15 => ob_i ?_ fun o16 => br_i (fun h17 => Fct.leafY ?_) (fun h17 => ob_i ?_ fun o18 => ob_i ?_ fun o19 => lt_i (br_i (fun h20 => Fct.leafY ?_) (fun h20 => ob_i rfl fun _ => ob_i ?_ fun o21 => trivial))))))))))) (fun h2 => Fct.leafY ?_)
  · exact ⟨by simp, by simp, by simp [markL]⟩
  all_goals have hp1 : 0 ≤ k := hp.1
  all_goals have hp2 : (markL mkFile l k).2 ≤ 4000000000000000000 := hp.2.1
  all_goals have hp3 : (markL mkFile l k).1 = l := hp.2.2
  all_goals have i3 : 0 ≤ y1.2.1 ∧ y1.2.1 ≤ l.length ∧ y1.1 = (markL mkFile (l.take y1.2.1.toNat) k).2 := i1
  all_goals have hcnt := markL_cnt (f := mkFile) (fun x k => by simp only [mkFile]; omega) l k
  all_goals simp only [decide_eq_true_eq, decide_eq_false_iff_not] at h2
  all_goals clear i1 hp
  all_goals try have hlt : y1.2.1.toNat < l.length := by omega
  all_goals try have ht := markL_take (f := mkFile) hlt k
  all_goals try have hle := (markL_take_le mkFile_mono l (y1.2.1.toNat + 1) k).2
  all_goals try have hl0 := (markL_take_le mkFile_mono l y1.2.1.toNat k).1
  all_goals try have heq := markL_held hp3 hlt
  all_goals try rw [ht] at hle
  all_goals try rw [← i3.2.2] at hle hl0 ht heq
  all_goals try simp only [mkFile] at hle heq
  all_goals first | decide | omega | (refine ⟨?_, ?_⟩ <;> (try simp (discharger := omega) only [wrapId']) <;> omega) | skip
  all_goals try (exfalso; clear ht; generalize l.getD y1.2.1.toNat default = c at *; subst heq; simp (discharger := omega) [wrapId', fmarkText, Int.add_assoc] at *; done)
  · simp (discharger := omega) only [wrapId']
    refine ⟨⟨by omega, by omega, ?_⟩, ?_⟩
    · rw [toNat1 (by omega), ht]
      first | done | (simp only [mkFile]; done) | (simp only [mkFile]; omega)
    · omega
  · have e1 : l.take y1.2.1.toNat = l := List.take_of_length_le (by omega)
    rw [e1] at i3
    show (y1.1, ()) = ((markL mkFile l k).2, ())
    rw [i3.2.2])
def E44 : D.Env := E43.add 144 fheldFileS
theorem E44ok : EOk Tryz.prog E44 := E43ok.add k144_43
set_option maxHeartbeats 2000000 in
theorem k49_44 : fszServer.ok Tryz.prog 49 := Fct.of (S := fszServer) (L := fun _ _ => none) (kp := [1,2,4,11,17,1000011,1000017]) E44ok Tryz.func49 (by kernel_rfl) (by kernel_rfl) (by
  rintro ⟨(x : SServer), (n : Int), _⟩ hp
  refine holds_of (X := .br (decide (IntKind.i64.wrap (n - (↑x.host.size : Int)) < (0 : Int)))
 (.leaf (mkR fszServer.rs ((-1 : Int), ())) [] [])
 (.ob (fszFileS.pre (x.files, IntKind.i64.wrap (n - (↑x.host.size : Int)), ())) <|
  .lt (Int × PUnit) (fszFileS.fn (x.files, IntKind.i64.wrap (n - (↑x.host.size : Int)), ())) fun z2 =>
  .br (decide (z2.fst < (0 : Int)))
   (.leaf (mkR fszServer.rs ((-1 : Int), ())) [] [])
   (.leaf (mkR fszServer.rs (z2.fst, ())) [] []))) (by kernel_rfl) ?_
  refine br_i (fun h1 => Fct.leafY ?_) (fun h1 => ob_i ?_ fun o2 => lt_i (br_i (fun h3 => Fct.leafY ?_) (fun h3 => Fct.leafY ?_)))
  all_goals try simp only [std1, ne_eq] at *
  all_goals try simp only [fszFileS, fszServer, etaS, std1, std2, Nat.reduceAdd, ne_eq, Sh.good, Sh.fc, enc, List.forall_mem_cons, List.not_mem_nil, false_implies, implies_true, goodC, maxLen] at *
  all_goals grind [wrapId', lessen, szL, szServer])
def E45 : D.Env := E44.add 49 fszServer
theorem E45ok : EOk Tryz.prog E45 := E44ok.add k49_44
theorem k62_45 : ftoServer.ok Tryz.prog 62 := Fct.of (S := ftoServer) (L := fun _ _ => none) (kp := [1,2,3]) E45ok Tryz.func62 (by kernel_rfl) (by kernel_rfl) (by
  rintro ⟨(x : SServer), _⟩ hp
  refine holds_of (X := .ob (ftoFileS.pre (x.files, ())) <|
 .lt (List SFile × PUnit) (ftoFileS.fn (x.files, ())) fun z2 =>
 .leaf (mkR ftoServer.rs (⟨x.host, z2.fst⟩, ())) [] []) (by kernel_rfl) ?_
  refine ob_i ?_ fun o1 => lt_i (Fct.leafY ?_)
  all_goals try simp only [std1, ne_eq] at *
  all_goals try simp only [ftoFileS, ftoServer, etaS, std1, std2, Nat.reduceAdd, ne_eq] at *
  all_goals first | trivial | rfl | grind [szL, szServer])
def E46 : D.Env := E45.add 62 ftoServer
theorem E46ok : EOk Tryz.prog E46 := E45ok.add k62_45
set_option maxHeartbeats 2000000 in
theorem k87_46 : feqServer.ok Tryz.prog 87 := Fct.of (S := feqServer) (L := fun _ _ => none) (kp := [2,3,4,9,15,1000009,1000015]) E46ok Tryz.func87 (by kernel_rfl) (by kernel_rfl) (by
  rintro ⟨(x : SServer), (y : SServer), _⟩ hp
  refine holds_of (X := .br (!x.host.toList == y.host.toList)
 (.leaf (mkR feqServer.rs (false, ())) [] [])
 (.ob (feqFileS.pre (x.files, y.files, ())) <|
  .lt (Bool × PUnit) (feqFileS.fn (x.files, y.files, ())) fun z2 =>
  .br (!z2.fst)
   (.leaf (mkR feqServer.rs (false, ())) [] [])
   (.leaf (mkR feqServer.rs (true, ())) [] []))) (by kernel_rfl) ?_
  refine br_i (fun h1 => Fct.leafY ?_) (fun h1 => ob_i ?_ fun o2 => lt_i (br_i (fun h3 => Fct.leafY ?_) (fun h3 => Fct.leafY ?_)))
  all_goals try simp only [std1, ne_eq] at *
  all_goals try simp only [feqFileS, feqServer, etaS, std1, std2, Nat.reduceAdd, ne_eq] at *
  all_goals first | trivial | (cases x; cases y; simp_all; done) | (simp only [szL, szServer] at *; omega) | grind [szL, szServer])
def E47 : D.Env := E46.add 87 feqServer
theorem E47ok : EOk Tryz.prog E47 := E46ok.add k87_46
set_option maxHeartbeats 2000000 in
theorem k18_47 : fszServerS.ok Tryz.prog 18 := Fct.of (S := fszServerS) (L := fun ⟨l, n, _⟩ => fun | 5 => some (LszS .server szServer l n) | _ => none) (kp := [0,1,4,5,11,15,25,1000011,1000015,1000025]) E47ok Tryz.func18 (by kernel_rfl) (by kernel_rfl) (by
  rintro ⟨(l : List SServer), (n : Int), _⟩ hp
  refine holds_of (X := .br (decide (IntKind.i64.wrap (n - (↑l.length : Int)) < (0 : Int)))
 (.leaf (mkR fszServerS.rs ((-1 : Int), ())) [] [])
 (lpx (LszS .server szServer l n) (IntKind.i64.wrap (n - (↑l.length : Int)), ((0 : Int), ())) fun (y2 : Int × Int × PUnit) bk2 =>
  .br (decide (y2.snd.fst < (↑l.length : Int)))
   (.ob ((0 : Int) ≤ y2.snd.fst ∧ y2.snd.fst < (↑l.length : Int)) <|
    .ob (fszServer.pre (l.getD y2.snd.fst.toNat default, y2.fst, ())) <|
    .lt (Int × PUnit) (fszServer.fn (l.getD y2.snd.fst.toNat default, y2.fst, ())) fun z2 =>
    .br (decide (z2.fst < (0 : Int)))
     (.leaf (mkR fszServerS.rs ((-1 : Int), ())) [] [])
     (.ob (l = l) <|
      .ob (bk2 (z2.fst, (IntKind.i64.wrap (y2.snd.fst + (1 : Int)), ()))) <|
      .ok))
   (.leaf (mkR fszServerS.rs (y2.fst, ())) [] []))) (by kernel_rfl) ?_
  refine br_i (fun h1 => Fct.leafY ?_) (fun h1 => lpx_i ?_ fun (y2 : Int × Int × PUnit) i2 => br_i (fun h3 => ob_i ?_ fun o4 => ob_i ?_ fun o5 => lt_i (br_i (fun h6 => Fct.leafY ?_) (fun h6 => ob_i rfl fun _ => ob_i ?_ fun o7 => trivial))) (fun h3 => Fct.leafY ?_))
  all_goals try simp only [std1, ne_eq] at *
  all_goals try simp only [LszS, fszServer, fszServerS, etaS, std1, std2, Nat.reduceAdd, ne_eq] at *
  · have := good_len hp.1; simp only [maxLen] at this; rw [wrapId (by omega)] at h1
    rw [lessenNeg (by simp only [szL]; omega)]
  · have := good_len hp.1; simp only [maxLen] at this
    rw [wrapId (by omega)] at h1 ⊢
    exact ⟨by omega, by omega, h1, by simp⟩
  · omega
  · exact ⟨good_getD hp.1 (by omega), by omega, by omega⟩
  · have hs := sum_take_le szServer l (y2.2.1.toNat + 1)
    rw [sum_take szServer (by omega)] at hs
    rw [lessen_lt (by omega)] at h6
    rw [lessenNeg (by simp only [szL]; omega)]
  · have hw : IntKind.i64.wrap (y2.2.1 + 1) = y2.2.1 + 1 := wrapId (by have := good_len hp.1; simp only [maxLen] at this; omega)
    have h7 : ¬ lessen y2.1 (szServer (l.getD y2.2.1.toNat default)) < 0 := by omega
    rw [lessen_lt (by omega)] at h7
    rw [hw, toNat1 (by omega), sum_take szServer (by omega), lessen_ge (by omega)]
    exact ⟨⟨by omega, by omega, by omega, by omega⟩, by omega⟩
  · have e : l.take y2.2.1.toNat = l := List.take_of_length_le (by omega)
    rw [e] at i2
    have hz : ((szL szServer l : Nat) : Int) = l.length + (l.map szServer).sum := by simp only [szL]; omega
    rw [lessen_ge (by omega)]
    show y2.1 = n - ((szL szServer l : Nat) : Int)
    omega)
def E48 : D.Env := E47.add 18 fszServerS
theorem E48ok : EOk Tryz.prog E48 := E47ok.add k18_47
theorem k24_48 : ftoServerS.ok Tryz.prog 24 := Fct.of (S := ftoServerS) (L := fun ⟨l, _⟩ => fun | 3 => some (LtoS .server l) | _ => none) (kp := [0,2,3,4,11,1000011]) E48ok Tryz.func24 (by kernel_rfl) (by kernel_rfl) (by
  rintro ⟨(l : List SServer), _⟩ hp
  refine holds_of (X := .ob ((↑l.length : Int) = (↑l.length : Int) ∧
  (0 : Int) ≤ (↑l.length : Int) ∧
    (40 : Int) * (↑l.length : Int) ≤ (140737488355328 : Int) ∧ (↑l.length : Int) ≤ (140737488355328 : Int)) <|
 lpx (LtoS .server l) ((0 : Int), (List.replicate (↑l.length : Int).toNat default, ())) fun (y2 : Int × List SServer × PUnit) bk2 =>
 .br (decide (y2.fst < (↑l.length : Int)))
  (.ob ((0 : Int) ≤ y2.fst ∧ y2.fst < (↑l.length : Int)) <|
   .ob (ftoServer.pre (l.getD y2.fst.toNat default, ())) <|
   .lt (SServer × PUnit) (ftoServer.fn (l.getD y2.fst.toNat default, ())) fun z2 =>
   .ob ((0 : Int) ≤ y2.fst ∧ y2.fst < (↑y2.snd.fst.length : Int)) <|
    .ob (y2.fst.toNat < y2.snd.fst.length) <|
    .lt (List SServer) (y2.snd.fst.modify y2.fst.toNat fun z => z2.fst) fun z3 =>
    .ob (l = l) <|
     .ob (bk2 (IntKind.i64.wrap (y2.fst + (1 : Int)), (z3, ()))) <|
     .ok)
  (.leaf (mkR ftoServerS.rs (y2.snd.fst, ())) [] [])) (by kernel_rfl) ?_
  refine ob_i ?_ fun o1 => lpx_i ?_ fun (y2 : Int × List SServer × PUnit) i2 => br_i (fun h3 => ob_i ?_ fun o4 => ob_i ?_ fun o5 => lt_i (ob_i ?_ fun o6 => ob_i ?_ fun o7 => lt_i (ob_i rfl fun _ => ob_i ?_ fun o8 => trivial))) (fun h3 => Fct.leafY ?_)
  all_goals try simp only [std1, ne_eq] at *
  all_goals try simp only [LtoS, ftoServer, ftoServerS, etaS, std1, std2, Nat.reduceAdd, ne_eq] at *
  · have := szL_len szServer l; omega
  · exact ⟨by omega, by omega, by simp⟩
  · omega
  · have hs := sum_take_le szServer l (y2.1.toNat + 1)
    rw [sum_take szServer (by omega)] at hs
    simp only [szL] at hp; omega
  · rw [i2.2.2]; simp; omega
  · rw [i2.2.2]; simp; omega
  · have hw : IntKind.i64.wrap (y2.1 + 1) = y2.1 + 1 := wrapId (by have := szL_len szServer l; omega)
    rw [hw, toNat1 (by omega), i2.2.2]
    refine ⟨⟨by omega, by omega, ?_⟩, by omega⟩
    rw [show l.length - y2.1.toNat = (l.length - (y2.1.toNat + 1)) + 1 from by omega, List.replicate_succ, mod_at (by simp; omega), take_succ (by omega)]
    simp
  · have e : l.take y2.1.toNat = l := List.take_of_length_le (by omega)
    rw [i2.2.2, e]; simp; omega)
def E49 : D.Env := E48.add 24 ftoServerS
theorem E49ok : EOk Tryz.prog E49 := E48ok.add k24_48
set_option maxHeartbeats 2000000 in
theorem k34_49 : feqServerS.ok Tryz.prog 34 := Fct.of (S := feqServerS) (L := fun ⟨l, m, _⟩ => fun | 4 => some (LeqS .server l m) | _ => none) (kp := [0,1,4,5,10,14,26,1000010,1000014,1000026]) E49ok Tryz.func34 (by kernel_rfl) (by kernel_rfl) (by
  rintro ⟨(l : List SServer), (m : List SServer), _⟩ hp
  refine holds_of (X := .br ((↑l.length : Int) != (↑m.length : Int))
 (.leaf (mkR feqServerS.rs (false, ())) [] [])
 (lpx (LeqS .server l m) ((0 : Int), ()) fun (y2 : Int × PUnit) bk2 =>
  .br (decide (y2.fst < (↑l.length : Int)))
   (.ob ((0 : Int) ≤ y2.fst ∧ y2.fst < (↑l.length : Int)) <|
    .ob ((0 : Int) ≤ y2.fst ∧ y2.fst < (↑m.length : Int)) <|
    .ob (feqServer.pre (l.getD y2.fst.toNat default, m.getD y2.fst.toNat default, ())) <|
    .lt (Bool × PUnit) (feqServer.fn (l.getD y2.fst.toNat default, m.getD y2.fst.toNat default, ())) fun z2 =>
    .br (!z2.fst)
     (.leaf (mkR feqServerS.rs (false, ())) [] [])
     (.ob (l = l) <|
      .ob (m = m) <|
      .ob (bk2 (IntKind.i64.wrap (y2.fst + (1 : Int)), ())) <|
      .ok))
   (.leaf (mkR feqServerS.rs (true, ())) [] []))) (by kernel_rfl) ?_
  refine br_i (fun h1 => Fct.leafY ?_) (fun h1 => lpx_i ?_ fun (y2 : Int × PUnit) i2 => br_i (fun h3 => ob_i ?_ fun o4 => ob_i ?_ fun o5 => ob_i ?_ fun o6 => lt_i (br_i (fun h7 => Fct.leafY ?_) (fun h7 => ob_i rfl fun _ => ob_i rfl fun _ => ob_i ?_ fun o8 => trivial))) (fun h3 => Fct.leafY ?_))
  all_goals try simp only [std1, ne_eq] at *
  all_goals try simp only [LeqS, feqServer, feqServerS, etaS, std1, std2, Nat.reduceAdd, ne_eq] at *
  all_goals have hl := szL_len szServer l
  · rw [decide_eq_false]; rintro rfl; omega
  · exact ⟨by omega, by omega, by simp⟩
  · omega
  · omega
  · have hs := szL_get szServer (l := l) (i := y2.1.toNat) (by omega); omega
  · rw [decide_eq_false]; rintro rfl; first | exact absurd rfl h6 | exact absurd rfl h7
  · have hw : IntKind.i64.wrap (y2.1 + 1) = y2.1 + 1 := wrapId (by omega)
    rw [hw, toNat1 (by omega)]
    refine ⟨⟨by omega, by omega, ?_⟩, by omega⟩
    rw [take_succ (by omega), take_succ (by omega), i2.2.2]; first | rw [h6] | rw [h7]
  · have e : l.take y2.1.toNat = l := List.take_of_length_le (by omega)
    have e2 : m.take y2.1.toNat = m := List.take_of_length_le (by omega)
    rw [decide_eq_true]; rw [← e, ← e2, i2.2.2])
def E50 : D.Env := E49.add 34 feqServerS
theorem E50ok : EOk Tryz.prog E50 := E49ok.add k34_49
set_option maxHeartbeats 2000000 in
theorem k37_50 : fmarkServerS.ok Tryz.prog 37 := MS.of (S := fmarkServerS) (L := fun l k => fun | 2 => some (LmkS .server mkServer l k) | _ => none) (kp := [0,1,4,5,9,1000009]) (kl := [0]) E50ok Tryz.func37 (by kernel_rfl) (by kernel_rfl) (by
  rintro (l : List SServer) (k : Int) hp
  refine holds_of (X := lpx (LmkS .server mkServer l k) (k, ((0 : Int), (l, ()))) fun (y1 : Int × Int × List SServer × PUnit) bk1 =>
 .br (decide (y1.snd.fst < (↑y1.snd.snd.fst.length : Int)))
  (.ob (fmarkText.pre (y1.fst, ())) <|
   .lt (ByteArray × PUnit) (fmarkText.fn (y1.fst, ())) fun z2 =>
   .ob ((0 : Int) ≤ y1.snd.fst ∧ y1.snd.fst < (↑y1.snd.snd.fst.length : Int)) <|
    .ob (y1.snd.fst.toNat < y1.snd.snd.fst.length) <|
    .lt (List SServer) (y1.snd.snd.fst.modify y1.snd.fst.toNat fun z => { host := z2.fst, files := z.files : SServer }) fun z3 =>
    .ob ((0 : Int) ≤ y1.snd.fst ∧ y1.snd.fst < (↑z3.length : Int)) <|
     .ob (y1.snd.fst.toNat < z3.length) <|
     .ob (fmarkFileS.pre (z3.getD y1.snd.fst.toNat default).files (IntKind.i64.wrap (y1.fst + (1 : Int)))) <|
     .lt (List SFile × Int) (fmarkFileS.fn (z3.getD y1.snd.fst.toNat default).files (IntKind.i64.wrap (y1.fst + (1 : Int)))) fun z4 =>
     .lt (List SServer) (z3.modify y1.snd.fst.toNat fun z => { host := z.host, files := z4.fst : SServer }) fun z5 =>
      .ob (Value.int IntKind.i64 (0 : Int) = Value.int IntKind.i64 (0 : Int)) <|
       .ob (bk1 (z4.snd, (IntKind.i64.wrap (y1.snd.fst + (1 : Int)), (z5, ())))) <|
       .ok)
  (.leaf (.one false [vi (y1.fst)]) [] [((0 : Nat), ⟨Ty.server, y1.snd.snd.fst⟩)])) (by kernel_rfl) ?_
  refine lpx_i ?_ fun (y1 : Int × Int × List SServer × PUnit) i1 => br_i (fun h2 => ob_d ?_ <| lt_i (ob_d ?_ <| ob_d ?_ <| lt_i (ob_d ?_ <| ob_d ?_ <| ob_d ?_ <| lt_i (lt_i (ob_d rfl <| ob_d ?_ <| trivial))))) (fun h2 => MS.leaf ?_)
  · exact ⟨by simp, by simp, by simp [markL], by simp [markL]⟩
  all_goals have hp1 : 0 ≤ k := hp.1
  all_goals have hp2 : (markL mkServer l k).2 ≤ 4000000000000000000 := hp.2
  all_goals have i3 : 0 ≤ y1.2.1 ∧ y1.2.1 ≤ l.length ∧ y1.1 = (markL mkServer (l.take y1.2.1.toNat) k).2 ∧ y1.2.2.1 = (markL mkServer (l.take y1.2.1.toNat) k).1 ++ l.drop y1.2.1.toNat := i1
  all_goals have hcnt := markL_cnt (f := mkServer) mkServer_cnt l k
  all_goals have hx : y1.2.2.1.length = l.length := by rw [i3.2.2.2, List.length_append, markL_len, List.length_take, List.length_drop]; omega
  all_goals simp only [decide_eq_true_eq, decide_eq_false_iff_not, hx] at h2
  all_goals clear i1 hp
  all_goals try have hlt : y1.2.1.toNat < l.length := by omega
  all_goals try have ht := markL_take (f := mkServer) hlt k
  all_goals try have hle := (markL_take_le mkServer_mono l (y1.2.1.toNat + 1) k).2
  all_goals try have hl0 := (markL_take_le mkServer_mono l y1.2.1.toNat k).1
  all_goals try rw [ht] at hle
  all_goals try rw [← i3.2.2.1] at hle hl0 ht
  all_goals try have i4 : y1.2.2.1 = (markL mkServer (l.take y1.2.1.toNat) k).1 ++ l.getD y1.2.1.toNat default :: l.drop (y1.2.1.toNat + 1) := by rw [i3.2.2.2, drop_cons hlt]
  all_goals try have hA : (markL mkServer (l.take y1.2.1.toNat) k).1.length = y1.2.1.toNat := by rw [markL_len, List.length_take]; omega
  all_goals try simp only [mkServer] at hle
  all_goals try have m1 := mkFileS_mono (l.getD y1.2.1.toNat default).files (y1.1 + 1)
  all_goals try generalize hr1 : markL mkFile (l.getD y1.2.1.toNat default).files (y1.1 + 1) = r1 at *
  all_goals try simp (disch := omega) only [i4, mod_at hA, getD_at hA, fmarkText, fmarkFileS, wrapId', Int.add_assoc, Int.reduceAdd, hr1, List.length_append, List.length_cons, List.length_drop, hA]
  all_goals first | trivial | omega | (refine ⟨?_, ?_⟩ <;> omega) | skip
  · refine ⟨⟨by omega, by omega, ?_, ?_⟩, by omega⟩
    · rw [toNat1 (by omega), ht]
      simp only [mkServer, Int.add_assoc, Int.reduceAdd, hr1]
    · rw [toNat1 (by omega), ht]
      simp only [mkServer, Int.add_assoc, Int.reduceAdd, hr1, List.append_assoc, List.cons_append, List.nil_append]
  · refine MS.leafL (t := .server) (fn := fun l k => markL mkServer l k) ?_
    have e1 : l.take y1.2.1.toNat = l := List.take_of_length_le (by omega)
    have e2 : l.drop y1.2.1.toNat = [] := List.drop_of_length_le (by omega)
    rw [i3.2.2.2, i3.2.2.1, e1, e2, List.append_nil])
def E51 : D.Env := E50.addM 37 fmarkServerS
theorem E51ok : EOk Tryz.prog E51 := E50ok.addM k37_50
set_option maxHeartbeats 2000000 in
theorem k99_51 : fheldServerS.ok Tryz.prog 99 := Fct.of (S := fheldServerS) (L := fun ⟨l, k, _⟩ => fun | 2 => some (LheS .server mkServer l k) | _ => none) (kp := [0,1,4,5,9,19,30,1000009,1000019,1000030]) E51ok Tryz.func99 (by kernel_rfl) (by kernel_rfl) (by
  rintro ⟨(l : List SServer), (k : Int), _⟩ hp
  refine holds_of (X := lpx (LheS .server mkServer l k) (k, ((0 : Int), ())) fun (y1 : Int × Int × PUnit) bk1 =>
 .br (decide (y1.snd.fst < (↑l.length : Int)))
  (.ob ((0 : Int) ≤ y1.snd.fst ∧ y1.snd.fst < (↑l.length : Int)) <|
   .ob (fmarkText.pre (y1.fst, ())) <|
   .lt (ByteArray × PUnit) (fmarkText.fn (y1.fst, ())) fun z2 =>
   .br (!(l.getD y1.snd.fst.toNat default).host.toList == z2.fst.toList)
    (.leaf (mkR fheldServerS.rs ((-1 : Int), ())) [] [])
    (.ob ((0 : Int) ≤ y1.snd.fst ∧ y1.snd.fst < (↑l.length : Int)) <|
     .ob (fheldFileS.pre ((l.getD y1.snd.fst.toNat default).files, IntKind.i64.wrap (y1.fst + (1 : Int)), ())) <|
     .lt (Int × PUnit) (fheldFileS.fn ((l.getD y1.snd.fst.toNat default).files, IntKind.i64.wrap (y1.fst + (1 : Int)), ())) fun z3 =>
     .br (decide (z3.fst < (0 : Int)))
      (.leaf (mkR fheldServerS.rs ((-1 : Int), ())) [] [])
      (.ob (l = l) <|
       .ob (bk1 (z3.fst, (IntKind.i64.wrap (y1.snd.fst + (1 : Int)), ()))) <|
       .ok)))
  (.leaf (mkR fheldServerS.rs (y1.fst, ())) [] [])) (by kernel_rfl) ?_
  refine lpx_i ?_ fun (y1 : Int × Int × PUnit) i1 => br_i (fun h2 => ob_d ?_ <| ob_d ?_ <| lt_i (br_i (fun h5 => Fct.leafY ?_) (fun h5 => ob_d ?_ <| ob_d ?_ <| lt_i (br_i (fun h8 => Fct.leafY ?_) (fun h8 => ob_d rfl <| ob_d ?_ <| trivial))))) (fun h2 => Fct.leafY ?_)
  · exact ⟨by simp, by simp, by simp [markL]⟩
  all_goals have hp1 : 0 ≤ k := hp.1
  all_goals have hp2 : (markL mkServer l k).2 ≤ 4000000000000000000 := hp.2.1
  all_goals have hp3 : (markL mkServer l k).1 = l := hp.2.2
  all_goals have i3 : 0 ≤ y1.2.1 ∧ y1.2.1 ≤ l.length ∧ y1.1 = (markL mkServer (l.take y1.2.1.toNat) k).2 := i1
  all_goals have hcnt := markL_cnt (f := mkServer) mkServer_cnt l k
  all_goals simp only [decide_eq_true_eq, decide_eq_false_iff_not] at h2
  all_goals clear i1 hp
  all_goals try have hlt : y1.2.1.toNat < l.length := by omega
  all_goals try have ht := markL_take (f := mkServer) hlt k
  all_goals try have hle := (markL_take_le mkServer_mono l (y1.2.1.toNat + 1) k).2
  all_goals try have hl0 := (markL_take_le mkServer_mono l y1.2.1.toNat k).1
  all_goals try have heq := markL_held hp3 hlt
  all_goals try rw [ht] at hle
  all_goals try rw [← i3.2.2] at hle hl0 ht heq
  all_goals try have q1 := congrArg (fun z : SServer => z.host) heq
  all_goals try have q2 := congrArg (fun z : SServer => z.files) heq
  all_goals obtain ⟨E, hE⟩ : ∃ E, E = (mkServer (l.getD y1.2.1.toNat default) y1.1).2 := ⟨_, rfl⟩
  all_goals have hE2 := hE
  all_goals try simp only [mkServer] at hle hE2 q1 q2
  all_goals try clear heq
  all_goals try have m1 := mkFileS_mono (l.getD y1.2.1.toNat default).files (y1.1 + 1)
  all_goals try generalize hr1 : markL mkFile (l.getD y1.2.1.toNat default).files (y1.1 + 1) = r1 at *
  all_goals try simp (disch := omega) only [fmarkText, fheldFileS, wrapId', Int.add_assoc, Int.reduceAdd, hr1, decide_eq_true_eq, decide_eq_false_iff_not, Bool.not_eq_true', Bool.not_eq_false', bne_iff_ne, bne_eq_false_iff_eq, beq_iff_eq, beq_eq_false_iff_ne, baEq, Int.not_lt, ne_eq, Decidable.not_not, decide_not] at *
  all_goals first | trivial | omega | (exfalso; omega) | (refine ⟨?_, ?_⟩ <;> omega) | (refine ⟨?_, ?_, ?_⟩ <;> first | omega | assumption) | (exfalso; simp_all; done) | skip
  · refine ⟨⟨by omega, by omega, ?_⟩, by omega⟩
    rw [toNat1 (by omega), ht]
    show _ = (mkServer (l.getD y1.2.1.toNat default) y1.1).2
    rw [← hE]
    omega
  · have e1 : l.take y1.2.1.toNat = l := List.take_of_length_le (by omega)
    rw [e1] at i3
    show (y1.1, ()) = ((markL mkServer l k).2, ())
    rw [i3.2.2])
def E52 : D.Env := E51.add 99 fheldServerS
theorem E52ok : EOk Tryz.prog E52 := E51ok.add k99_51
set_option maxHeartbeats 2000000 in
theorem k109_52 : fszEntry.ok Tryz.prog 109 := Fct.of (S := fszEntry) (L := fun _ _ => none) (kp := [1,2,4,11,17,23,1000011,1000017,1000023]) E52ok Tryz.func109 (by kernel_rfl) (by kernel_rfl) (by
  rintro ⟨(x : SEntry), (n : Int), _⟩ hp
  refine holds_of (X := .br (decide (IntKind.i64.wrap (n - (↑x.top.size : Int)) < (0 : Int)))
 (.leaf (mkR fszEntry.rs ((-1 : Int), ())) [] [])
 (.ob (fszAddr.pre (x.to, IntKind.i64.wrap (n - (↑x.top.size : Int)), ())) <|
  .lt (Int × PUnit) (fszAddr.fn (x.to, IntKind.i64.wrap (n - (↑x.top.size : Int)), ())) fun z2 =>
  .br (decide (z2.fst < (0 : Int)))
   (.leaf (mkR fszEntry.rs ((-1 : Int), ())) [] [])
   (.ob (fszResponse.pre (x.response, z2.fst, ())) <|
    .lt (Int × PUnit) (fszResponse.fn (x.response, z2.fst, ())) fun z3 =>
    .br (decide (z3.fst < (0 : Int)))
     (.leaf (mkR fszEntry.rs ((-1 : Int), ())) [] [])
     (.leaf (mkR fszEntry.rs (z3.fst, ())) [] [])))) (by kernel_rfl) ?_
  refine br_i (fun h1 => Fct.leafY ?_) (fun h1 => ob_i ?_ fun o2 => lt_i (br_i (fun h3 => Fct.leafY ?_) (fun h3 => ob_i ?_ fun o4 => lt_i (br_i (fun h5 => Fct.leafY ?_) (fun h5 => Fct.leafY ?_)))))
  all_goals try simp only [std1, ne_eq] at *
  all_goals try simp only [fszAddr, fszEntry, fszResponse, etaS, std1, std2, Nat.reduceAdd, ne_eq, Sh.good, Sh.fc, enc, List.forall_mem_cons, List.not_mem_nil, false_implies, implies_true, goodC, maxLen] at *
  all_goals grind [wrapId', lessen, szAddr, szEntry, szResponse])
def E53 : D.Env := E52.add 109 fszEntry
theorem E53ok : EOk Tryz.prog E53 := E52ok.add k109_52
theorem k120_53 : ftoEntry.ok Tryz.prog 120 := Fct.of (S := ftoEntry) (L := fun _ _ => none) (kp := [1,2,3]) E53ok Tryz.func120 (by kernel_rfl) (by kernel_rfl) (by
  rintro ⟨(x : SEntry), _⟩ hp
  refine holds_of (X := .ob (ftoAddr.pre (x.to, ())) <|
 .lt (SAddr × PUnit) (ftoAddr.fn (x.to, ())) fun z2 =>
 .ob (ftoResponse.pre (x.response, ())) <|
  .lt (SResponse × PUnit) (ftoResponse.fn (x.response, ())) fun z3 =>
  .leaf (mkR ftoEntry.rs (⟨x.top, z2.fst, z3.fst, x.until_⟩, ())) [] []) (by kernel_rfl) ?_
  refine ob_i ?_ fun o1 => lt_i (ob_i ?_ fun o2 => lt_i (Fct.leafY ?_))
  all_goals try simp only [std1, ne_eq] at *
  all_goals try simp only [ftoAddr, ftoEntry, ftoResponse, etaS, std1, std2, Nat.reduceAdd, ne_eq] at *
  all_goals first | trivial | rfl | grind [szAddr, szEntry, szResponse])
def E54 : D.Env := E53.add 120 ftoEntry
theorem E54ok : EOk Tryz.prog E54 := E53ok.add k120_53
set_option maxHeartbeats 2000000 in
theorem k141_54 : feqEntry.ok Tryz.prog 141 := Fct.of (S := feqEntry) (L := fun _ _ => none) (kp := [2,3,4,9,15,21,26,1000009,1000015,1000021,1000026]) E54ok Tryz.func141 (by kernel_rfl) (by kernel_rfl) (by
  rintro ⟨(x : SEntry), (y : SEntry), _⟩ hp
  refine holds_of (X := .br (!x.top.toList == y.top.toList)
 (.leaf (mkR feqEntry.rs (false, ())) [] [])
 (.ob (feqAddr.pre (x.to, y.to, ())) <|
  .lt (Bool × PUnit) (feqAddr.fn (x.to, y.to, ())) fun z2 =>
  .br (!z2.fst)
   (.leaf (mkR feqEntry.rs (false, ())) [] [])
   (.ob (feqResponse.pre (x.response, y.response, ())) <|
    .lt (Bool × PUnit) (feqResponse.fn (x.response, y.response, ())) fun z3 =>
    .br (!z3.fst)
     (.leaf (mkR feqEntry.rs (false, ())) [] [])
     (.br (x.until_ != y.until_)
      (.leaf (mkR feqEntry.rs (false, ())) [] [])
      (.leaf (mkR feqEntry.rs (true, ())) [] []))))) (by kernel_rfl) ?_
  refine br_i (fun h1 => Fct.leafY ?_) (fun h1 => ob_i trivial fun _ => lt_i (br_i (fun h2 => Fct.leafY ?_) (fun h2 => ob_i trivial fun _ => lt_i (br_i (fun h3 => Fct.leafY ?_) (fun h3 => br_i (fun h4 => Fct.leafY ?_) (fun h4 => Fct.leafY ?_))))))
  all_goals try simp only [std1, ne_eq] at *
  all_goals try simp only [feqAddr, feqEntry, feqResponse, etaS, std1, std2, Nat.reduceAdd, ne_eq] at *
  all_goals first | trivial | (cases x; cases y; simp_all; done) | (simp only [szAddr, szEntry, szResponse] at *; omega) | grind [szAddr, szEntry, szResponse])
def E55 : D.Env := E54.add 141 feqEntry
theorem E55ok : EOk Tryz.prog E55 := E54ok.add k141_54
set_option maxHeartbeats 2000000 in
theorem k50_55 : fszEntryS.ok Tryz.prog 50 := Fct.of (S := fszEntryS) (L := fun ⟨l, n, _⟩ => fun | 5 => some (LszS .entry szEntry l n) | _ => none) (kp := [0,1,4,5,11,15,25,1000011,1000015,1000025]) E55ok Tryz.func50 (by kernel_rfl) (by kernel_rfl) (by
  rintro ⟨(l : List SEntry), (n : Int), _⟩ hp
  refine holds_of (X := .br (decide (IntKind.i64.wrap (n - (↑l.length : Int)) < (0 : Int)))
 (.leaf (mkR fszEntryS.rs ((-1 : Int), ())) [] [])
 (lpx (LszS .entry szEntry l n) (IntKind.i64.wrap (n - (↑l.length : Int)), ((0 : Int), ())) fun (y2 : Int × Int × PUnit) bk2 =>
  .br (decide (y2.snd.fst < (↑l.length : Int)))
   (.ob ((0 : Int) ≤ y2.snd.fst ∧ y2.snd.fst < (↑l.length : Int)) <|
    .ob (fszEntry.pre (l.getD y2.snd.fst.toNat default, y2.fst, ())) <|
    .lt (Int × PUnit) (fszEntry.fn (l.getD y2.snd.fst.toNat default, y2.fst, ())) fun z2 =>
    .br (decide (z2.fst < (0 : Int)))
     (.leaf (mkR fszEntryS.rs ((-1 : Int), ())) [] [])
     (.ob (l = l) <|
      .ob (bk2 (z2.fst, (IntKind.i64.wrap (y2.snd.fst + (1 : Int)), ()))) <|
      .ok))
   (.leaf (mkR fszEntryS.rs (y2.fst, ())) [] []))) (by kernel_rfl) ?_
  refine br_i (fun h1 => Fct.leafY ?_) (fun h1 => lpx_i ?_ fun (y2 : Int × Int × PUnit) i2 => br_i (fun h3 => ob_i ?_ fun o4 => ob_i ?_ fun o5 => lt_i (br_i (fun h6 => Fct.leafY ?_) (fun h6 => ob_i rfl fun _ => ob_i ?_ fun o7 => trivial))) (fun h3 => Fct.leafY ?_))
  all_goals try simp only [std1, ne_eq] at *
  all_goals try simp only [LszS, fszEntry, fszEntryS, etaS, std1, std2, Nat.reduceAdd, ne_eq] at *
  · have := good_len hp.1; simp only [maxLen] at this; rw [wrapId (by omega)] at h1
    rw [lessenNeg (by simp only [szL]; omega)]
  · have := good_len hp.1; simp only [maxLen] at this
    rw [wrapId (by omega)] at h1 ⊢
    exact ⟨by omega, by omega, h1, by simp⟩
  · omega
  · exact ⟨good_getD hp.1 (by omega), by omega, by omega⟩
  · have hs := sum_take_le szEntry l (y2.2.1.toNat + 1)
    rw [sum_take szEntry (by omega)] at hs
    rw [lessen_lt (by omega)] at h6
    rw [lessenNeg (by simp only [szL]; omega)]
  · have hw : IntKind.i64.wrap (y2.2.1 + 1) = y2.2.1 + 1 := wrapId (by have := good_len hp.1; simp only [maxLen] at this; omega)
    have h7 : ¬ lessen y2.1 (szEntry (l.getD y2.2.1.toNat default)) < 0 := by omega
    rw [lessen_lt (by omega)] at h7
    rw [hw, toNat1 (by omega), sum_take szEntry (by omega), lessen_ge (by omega)]
    exact ⟨⟨by omega, by omega, by omega, by omega⟩, by omega⟩
  · have e : l.take y2.2.1.toNat = l := List.take_of_length_le (by omega)
    rw [e] at i2
    have hz : ((szL szEntry l : Nat) : Int) = l.length + (l.map szEntry).sum := by simp only [szL]; omega
    rw [lessen_ge (by omega)]
    show y2.1 = n - ((szL szEntry l : Nat) : Int)
    omega)
def E56 : D.Env := E55.add 50 fszEntryS
theorem E56ok : EOk Tryz.prog E56 := E55ok.add k50_55
theorem k63_56 : ftoEntryS.ok Tryz.prog 63 := Fct.of (S := ftoEntryS) (L := fun ⟨l, _⟩ => fun | 3 => some (LtoS .entry l) | _ => none) (kp := [0,2,3,4,11,1000011]) E56ok Tryz.func63 (by kernel_rfl) (by kernel_rfl) (by
  rintro ⟨(l : List SEntry), _⟩ hp
  refine holds_of (X := .ob ((↑l.length : Int) = (↑l.length : Int) ∧
  (0 : Int) ≤ (↑l.length : Int) ∧
    (120 : Int) * (↑l.length : Int) ≤ (140737488355328 : Int) ∧ (↑l.length : Int) ≤ (140737488355328 : Int)) <|
 lpx (LtoS .entry l) ((0 : Int), (List.replicate (↑l.length : Int).toNat default, ())) fun (y2 : Int × List SEntry × PUnit) bk2 =>
 .br (decide (y2.fst < (↑l.length : Int)))
  (.ob ((0 : Int) ≤ y2.fst ∧ y2.fst < (↑l.length : Int)) <|
   .ob (ftoEntry.pre (l.getD y2.fst.toNat default, ())) <|
   .lt (SEntry × PUnit) (ftoEntry.fn (l.getD y2.fst.toNat default, ())) fun z2 =>
   .ob ((0 : Int) ≤ y2.fst ∧ y2.fst < (↑y2.snd.fst.length : Int)) <|
    .ob (y2.fst.toNat < y2.snd.fst.length) <|
    .lt (List SEntry) (y2.snd.fst.modify y2.fst.toNat fun z => z2.fst) fun z3 =>
    .ob (l = l) <|
     .ob (bk2 (IntKind.i64.wrap (y2.fst + (1 : Int)), (z3, ()))) <|
     .ok)
  (.leaf (mkR ftoEntryS.rs (y2.snd.fst, ())) [] [])) (by kernel_rfl) ?_
  refine ob_i ?_ fun o1 => lpx_i ?_ fun (y2 : Int × List SEntry × PUnit) i2 => br_i (fun h3 => ob_i ?_ fun o4 => ob_i ?_ fun o5 => lt_i (ob_i ?_ fun o6 => ob_i ?_ fun o7 => lt_i (ob_i rfl fun _ => ob_i ?_ fun o8 => trivial))) (fun h3 => Fct.leafY ?_)
  all_goals try simp only [std1, ne_eq] at *
  all_goals try simp only [LtoS, ftoEntry, ftoEntryS, etaS, std1, std2, Nat.reduceAdd, ne_eq] at *
  · have := szL_len szEntry l; omega
  · exact ⟨by omega, by omega, by simp⟩
  · omega
  · have hs := sum_take_le szEntry l (y2.1.toNat + 1)
    rw [sum_take szEntry (by omega)] at hs
    simp only [szL] at hp; omega
  · rw [i2.2.2]; simp; omega
  · rw [i2.2.2]; simp; omega
  · have hw : IntKind.i64.wrap (y2.1 + 1) = y2.1 + 1 := wrapId (by have := szL_len szEntry l; omega)
    rw [hw, toNat1 (by omega), i2.2.2]
    refine ⟨⟨by omega, by omega, ?_⟩, by omega⟩
    rw [show l.length - y2.1.toNat = (l.length - (y2.1.toNat + 1)) + 1 from by omega, List.replicate_succ, mod_at (by simp; omega), take_succ (by omega)]
    simp
  · have e : l.take y2.1.toNat = l := List.take_of_length_le (by omega)
    rw [i2.2.2, e]; simp; omega)
def E57 : D.Env := E56.add 63 ftoEntryS
theorem E57ok : EOk Tryz.prog E57 := E56ok.add k63_56
set_option maxHeartbeats 2000000 in
theorem k88_57 : feqEntryS.ok Tryz.prog 88 := Fct.of (S := feqEntryS) (L := fun ⟨l, m, _⟩ => fun | 4 => some (LeqS .entry l m) | _ => none) (kp := [0,1,4,5,10,14,26,1000010,1000014,1000026]) E57ok Tryz.func88 (by kernel_rfl) (by kernel_rfl) (by
  rintro ⟨(l : List SEntry), (m : List SEntry), _⟩ hp
  refine holds_of (X := .br ((↑l.length : Int) != (↑m.length : Int))
 (.leaf (mkR feqEntryS.rs (false, ())) [] [])
 (lpx (LeqS .entry l m) ((0 : Int), ()) fun (y2 : Int × PUnit) bk2 =>
  .br (decide (y2.fst < (↑l.length : Int)))
   (.ob ((0 : Int) ≤ y2.fst ∧ y2.fst < (↑l.length : Int)) <|
    .ob ((0 : Int) ≤ y2.fst ∧ y2.fst < (↑m.length : Int)) <|
    .ob (feqEntry.pre (l.getD y2.fst.toNat default, m.getD y2.fst.toNat default, ())) <|
    .lt (Bool × PUnit) (feqEntry.fn (l.getD y2.fst.toNat default, m.getD y2.fst.toNat default, ())) fun z2 =>
    .br (!z2.fst)
     (.leaf (mkR feqEntryS.rs (false, ())) [] [])
     (.ob (l = l) <|
      .ob (m = m) <|
      .ob (bk2 (IntKind.i64.wrap (y2.fst + (1 : Int)), ())) <|
      .ok))
   (.leaf (mkR feqEntryS.rs (true, ())) [] []))) (by kernel_rfl) ?_
  refine br_i (fun h1 => Fct.leafY ?_) (fun h1 => lpx_i ?_ fun (y2 : Int × PUnit) i2 => br_i (fun h3 => ob_i ?_ fun o4 => ob_i ?_ fun o5 => ob_i trivial fun _ => lt_i (br_i (fun h6 => Fct.leafY ?_) (fun h6 => ob_i rfl fun _ => ob_i rfl fun _ => ob_i ?_ fun o7 => trivial))) (fun h3 => Fct.leafY ?_))
  all_goals try simp only [std1, ne_eq] at *
  all_goals try simp only [LeqS, feqEntry, feqEntryS, etaS, std1, std2, Nat.reduceAdd, ne_eq] at *
  · rw [decide_eq_false]; rintro rfl; omega
  · exact ⟨by omega, by omega, by simp⟩
  · omega
  · omega
  · rw [decide_eq_false]; rintro rfl; exact absurd rfl h6
  · have hw : IntKind.i64.wrap (y2.1 + 1) = y2.1 + 1 := wrapId (by omega)
    rw [hw, toNat1 (by omega)]
    refine ⟨⟨by omega, by omega, ?_⟩, by omega⟩
    rw [take_succ (by omega), take_succ (by omega), i2.2.2, h6]
  · have e : l.take y2.1.toNat = l := List.take_of_length_le (by omega)
    have e2 : m.take y2.1.toNat = m := List.take_of_length_le (by omega)
    rw [decide_eq_true]; rw [← e, ← e2, i2.2.2])
def E58 : D.Env := E57.add 88 feqEntryS
theorem E58ok : EOk Tryz.prog E58 := E57ok.add k88_57
set_option maxHeartbeats 2000000 in
theorem k92_58 : fmarkEntryS.ok Tryz.prog 92 := MS.of (S := fmarkEntryS) (L := fun l k => fun | 2 => some (LmkS .entry mkEntry l k) | _ => none) (kp := [0,1,4,5,9,1000009]) (kl := [0]) E58ok Tryz.func92 (by kernel_rfl) (by kernel_rfl) (by
  rintro (l : List SEntry) (k : Int) hp
  refine holds_of (X := lpx (LmkS .entry mkEntry l k) (k, ((0 : Int), (l, ()))) fun (y1 : Int × Int × List SEntry × PUnit) bk1 =>
 .br (decide (y1.snd.fst < (↑y1.snd.snd.fst.length : Int)))
  (.ob (fmarkText.pre (y1.fst, ())) <|
   .lt (ByteArray × PUnit) (fmarkText.fn (y1.fst, ())) fun z2 =>
   .ob ((0 : Int) ≤ y1.snd.fst ∧ y1.snd.fst < (↑y1.snd.snd.fst.length : Int)) <|
    .ob (y1.snd.fst.toNat < y1.snd.snd.fst.length) <|
    .lt (List SEntry) (y1.snd.snd.fst.modify y1.snd.fst.toNat fun z =>
  { top := z2.fst, to := z.to, response := z.response, until_ := z.until_ : SEntry }) fun z3 =>
    .ob (fmarkText.pre (IntKind.i64.wrap (y1.fst + (1 : Int)), ())) <|
     .lt (ByteArray × PUnit) (fmarkText.fn (IntKind.i64.wrap (y1.fst + (1 : Int)), ())) fun z4 =>
     .ob ((0 : Int) ≤ y1.snd.fst ∧ y1.snd.fst < (↑z3.length : Int)) <|
      .ob (y1.snd.fst.toNat < z3.length) <|
      .lt (List SEntry) (z3.modify y1.snd.fst.toNat fun z =>
  { top := z.top, to := { host := z4.fst, path := z.to.path : SAddr }, response := z.response, until_ := z.until_ :
    SEntry }) fun z5 =>
      .ob (fmarkText.pre (IntKind.i64.wrap (IntKind.i64.wrap (y1.fst + (1 : Int)) + (1 : Int)), ())) <|
       .lt (ByteArray × PUnit) (fmarkText.fn (IntKind.i64.wrap (IntKind.i64.wrap (y1.fst + (1 : Int)) + (1 : Int)), ())) fun z6 =>
       .ob ((0 : Int) ≤ y1.snd.fst ∧ y1.snd.fst < (↑z5.length : Int)) <|
        .ob (y1.snd.fst.toNat < z5.length) <|
        .lt (List SEntry) (z5.modify y1.snd.fst.toNat fun z =>
  { top := z.top, to := { host := z.to.host, path := z6.fst : SAddr }, response := z.response, until_ := z.until_ :
    SEntry }) fun z7 =>
        .ob ((0 : Int) ≤ y1.snd.fst ∧ y1.snd.fst < (↑z7.length : Int)) <|
         .ob (y1.snd.fst.toNat < z7.length) <|
         .lt (List SEntry) (z7.modify y1.snd.fst.toNat fun z =>
  { top := z.top, to := z.to,
    response :=
      { status := IntKind.i64.wrap (IntKind.i64.wrap (IntKind.i64.wrap (y1.fst + (1 : Int)) + (1 : Int)) + (1 : Int)),
        kind := z.response.kind, body := z.response.body, age := z.response.age, shares := z.response.shares,
        policy := z.response.policy : SResponse },
    until_ := z.until_ : SEntry }) fun z8 =>
         .ob ((0 : Int) ≤ y1.snd.fst ∧ y1.snd.fst < (↑z8.length : Int)) <|
          .ob (y1.snd.fst.toNat < z8.length) <|
          .lt (List SEntry) (z8.modify y1.snd.fst.toNat fun z =>
  { top := z.top, to := z.to,
    response :=
      { status := z.response.status,
        kind :=
          IntKind.i64.wrap
            (IntKind.i64.wrap (IntKind.i64.wrap (IntKind.i64.wrap (y1.fst + (1 : Int)) + (1 : Int)) + (1 : Int)) +
              (1 : Int)),
        body := z.response.body, age := z.response.age, shares := z.response.shares, policy := z.response.policy :
        SResponse },
    until_ := z.until_ : SEntry }) fun z9 =>
          .ob (fmarkText.pre
  (IntKind.i64.wrap
      (IntKind.i64.wrap
          (IntKind.i64.wrap (IntKind.i64.wrap (IntKind.i64.wrap (y1.fst + (1 : Int)) + (1 : Int)) + (1 : Int)) +
            (1 : Int)) +
        (1 : Int)),
    ())) <|
           .lt (ByteArray × PUnit) (fmarkText.fn
  (IntKind.i64.wrap
      (IntKind.i64.wrap
          (IntKind.i64.wrap (IntKind.i64.wrap (IntKind.i64.wrap (y1.fst + (1 : Int)) + (1 : Int)) + (1 : Int)) +
            (1 : Int)) +
        (1 : Int)),
    ())) fun z10 =>
           .ob ((0 : Int) ≤ y1.snd.fst ∧ y1.snd.fst < (↑z9.length : Int)) <|
            .ob (y1.snd.fst.toNat < z9.length) <|
            .lt (List SEntry) (z9.modify y1.snd.fst.toNat fun z =>
  { top := z.top, to := z.to,
    response :=
      { status := z.response.status, kind := z.response.kind, body := z10.fst, age := z.response.age,
        shares := z.response.shares, policy := z.response.policy : SResponse },
    until_ := z.until_ : SEntry }) fun z11 =>
            .ob ((0 : Int) ≤ y1.snd.fst ∧ y1.snd.fst < (↑z11.length : Int)) <|
             .ob (y1.snd.fst.toNat < z11.length) <|
             .lt (List SEntry) (z11.modify y1.snd.fst.toNat fun z =>
  { top := z.top, to := z.to,
    response :=
      { status := z.response.status, kind := z.response.kind, body := z.response.body,
        age :=
          IntKind.i64.wrap
            (IntKind.i64.wrap
                (IntKind.i64.wrap
                    (IntKind.i64.wrap
                        (IntKind.i64.wrap (IntKind.i64.wrap (y1.fst + (1 : Int)) + (1 : Int)) + (1 : Int)) +
                      (1 : Int)) +
                  (1 : Int)) +
              (1 : Int)),
        shares := z.response.shares, policy := z.response.policy : SResponse },
    until_ := z.until_ : SEntry }) fun z12 =>
             .ob ((3 : Int) ≠ (0 : Int)) <|
              .ob ((0 : Int) ≤ y1.snd.fst ∧ y1.snd.fst < (↑z12.length : Int)) <|
              .ob (y1.snd.fst.toNat < z12.length) <|
              .lt (List SEntry) (z12.modify y1.snd.fst.toNat fun z =>
  { top := z.top, to := z.to,
    response :=
      { status := z.response.status, kind := z.response.kind, body := z.response.body, age := z.response.age,
        shares :=
          (IntKind.i64.wrap
                  (IntKind.i64.wrap
                      (IntKind.i64.wrap
                          (IntKind.i64.wrap
                              (IntKind.i64.wrap
                                  (IntKind.i64.wrap (IntKind.i64.wrap (y1.fst + (1 : Int)) + (1 : Int)) + (1 : Int)) +
                                (1 : Int)) +
                            (1 : Int)) +
                        (1 : Int)) +
                    (1 : Int))).tmod
              (3 : Int) ==
            (0 : Int),
        policy := z.response.policy : SResponse },
    until_ := z.until_ : SEntry }) fun z13 =>
              .ob (fmarkText.pre
  (IntKind.i64.wrap
      (IntKind.i64.wrap
          (IntKind.i64.wrap
              (IntKind.i64.wrap
                  (IntKind.i64.wrap
                      (IntKind.i64.wrap
                          (IntKind.i64.wrap (IntKind.i64.wrap (y1.fst + (1 : Int)) + (1 : Int)) + (1 : Int)) +
                        (1 : Int)) +
                    (1 : Int)) +
                (1 : Int)) +
            (1 : Int)) +
        (1 : Int)),
    ())) <|
               .lt (ByteArray × PUnit) (fmarkText.fn
  (IntKind.i64.wrap
      (IntKind.i64.wrap
          (IntKind.i64.wrap
              (IntKind.i64.wrap
                  (IntKind.i64.wrap
                      (IntKind.i64.wrap
                          (IntKind.i64.wrap (IntKind.i64.wrap (y1.fst + (1 : Int)) + (1 : Int)) + (1 : Int)) +
                        (1 : Int)) +
                    (1 : Int)) +
                (1 : Int)) +
            (1 : Int)) +
        (1 : Int)),
    ())) fun z14 =>
               .ob ((0 : Int) ≤ y1.snd.fst ∧ y1.snd.fst < (↑z13.length : Int)) <|
                .ob (y1.snd.fst.toNat < z13.length) <|
                .lt (List SEntry) (z13.modify y1.snd.fst.toNat fun z =>
  { top := z.top, to := z.to,
    response :=
      { status := z.response.status, kind := z.response.kind, body := z.response.body, age := z.response.age,
        shares := z.response.shares, policy := z14.fst : SResponse },
    until_ := z.until_ : SEntry }) fun z15 =>
                .ob ((0 : Int) ≤ y1.snd.fst ∧ y1.snd.fst < (↑z15.length : Int)) <|
                 .ob (y1.snd.fst.toNat < z15.length) <|
                 .lt (List SEntry) (z15.modify y1.snd.fst.toNat fun z =>
  { top := z.top, to := z.to, response := z.response,
    until_ :=
      IntKind.i64.wrap
        (IntKind.i64.wrap
            (IntKind.i64.wrap
                (IntKind.i64.wrap
                    (IntKind.i64.wrap
                        (IntKind.i64.wrap
                            (IntKind.i64.wrap
                                (IntKind.i64.wrap (IntKind.i64.wrap (y1.fst + (1 : Int)) + (1 : Int)) + (1 : Int)) +
                              (1 : Int)) +
                          (1 : Int)) +
                      (1 : Int)) +
                  (1 : Int)) +
              (1 : Int)) +
          (1 : Int)) :
    SEntry }) fun z16 =>
                 .ob (Value.int IntKind.i64 (0 : Int) = Value.int IntKind.i64 (0 : Int)) <|
                  .ob (bk1 (IntKind.i64.wrap
  (IntKind.i64.wrap
      (IntKind.i64.wrap
          (IntKind.i64.wrap
              (IntKind.i64.wrap
                  (IntKind.i64.wrap
                      (IntKind.i64.wrap
                          (IntKind.i64.wrap
                              (IntKind.i64.wrap (IntKind.i64.wrap (y1.fst + (1 : Int)) + (1 : Int)) + (1 : Int)) +
                            (1 : Int)) +
                        (1 : Int)) +
                    (1 : Int)) +
                (1 : Int)) +
            (1 : Int)) +
        (1 : Int)) +
    (1 : Int)), (IntKind.i64.wrap (y1.snd.fst + (1 : Int)), (z16, ())))) <|
                  .ok)
  (.leaf (.one false [vi (y1.fst)]) [] [((0 : Nat), ⟨Ty.entry, y1.snd.snd.fst⟩)])) (by kernel_rfl) ?_
  refine lpx_i ?_ fun (y1 : Int × Int × List SEntry × PUnit) i1 => br_i (fun h2 => ob_i ?_ fun o3 => lt_i (ob_i ?_ fun o4 => ob_i ?_ fun o5 => lt_i (ob_i ?_ fun o6 => lt_i (ob_i ?_ fun o7 => ob_i ?_ fun o8 => lt_i (ob_i ?_ fun o9 => lt_i (ob_i ?_ fun o10 => ob_i ?_ fun o11 => lt_i (ob_i ?_ fun o12 => ob_i ?_ fun o13 => lt_i (ob_i ?_ fun o14 => ob_i ?_ fun o15 => lt_i (ob_i ?_ fun o16 => lt_i (ob_i ?_ fun o17 => ob_i ?_ fun o18 => lt_i (ob_i ?_ fun o19 => ob_i ?_ fun o20 => lt_i (ob_i ?_ fun o21 => ob_i ?_ fun o22 => ob_i ?_ fun o23 => lt_i (ob_i ?_ fun o24 => lt_i (ob_i ?_ fun o25 => ob_i ?_ fun o26 => lt_i (ob_i ?_ fun o27 => ob_i ?_ fun o28 => lt_i (ob_i rfl fun _ => ob_i ?_ fun o29 => trivial)))))))))))))))) (fun h2 => MS.leaf ?_)
  · exact ⟨by simp, by simp, by simp [markL], by simp [markL]⟩
  all_goals have hp1 : 0 ≤ k := hp.1
  all_goals have hp2 : (markL mkEntry l k).2 ≤ 4000000000000000000 := hp.2
  all_goals have i3 : 0 ≤ y1.2.1 ∧ y1.2.1 ≤ l.length ∧ y1.1 = (markL mkEntry (l.take y1.2.1.toNat) k).2 ∧ y1.2.2.1 = (markL mkEntry (l.take y1.2.1.toNat) k).1 ++ l.drop y1.2.1.toNat := i1
  all_goals have hcnt := markL_cnt (f := mkEntry) (fun x k => by simp only [mkEntry]; omega) l k
  all_goals have hx : y1.2.2.1.length = l.length := by rw [i3.2.2.2, List.length_append, markL_len, List.length_take, List.length_drop]; omega
  all_goals simp only [decide_eq_true_eq, decide_eq_false_iff_not, hx] at h2
  all_goals clear i1
  all_goals try have hlt : y1.2.1.toNat < l.length := by omega
  all_goals try have ht := markL_take (f := mkEntry) hlt k
  all_goals try have hle := (markL_take_le mkEntry_mono l (y1.2.1.toNat + 1) k).2
  all_goals try have hl0 := (markL_take_le mkEntry_mono l y1.2.1.toNat k).1
  all_goals try rw [ht] at hle
  all_goals try rw [← i3.2.2.1] at hle hl0 ht
  all_goals try simp only [mkEntry] at hle
  all_goals first | decide | (simp only [List.length_modify, hx]; omega) | (refine ⟨?_, ?_⟩ <;> (try simp (discharger := omega) only [wrapId']) <;> omega) | skip
  · try clear o3 o4 o5
    simp (discharger := omega) only [wrapId', fmarkText]
    have hA : (markL mkEntry (l.take y1.2.1.toNat) k).1.length = y1.2.1.toNat := by rw [markL_len, List.length_take]; omega
    refine ⟨⟨by omega, by omega, ?_, ?_⟩, ?_⟩
    · rw [toNat1 (by omega), ht]
      first | done | (simp only [mkEntry]; done) | (simp only [mkEntry]; omega)
    · rw [toNat1 (by omega), ht, i3.2.2.2, drop_cons hlt]
      simp only [mod_at hA, mkEntry, Int.add_assoc, Int.reduceAdd, List.append_assoc, List.cons_append, List.nil_append]
    · omega
  · refine MS.leafL (t := .entry) (fn := fun l k => markL mkEntry l k) ?_
    have e1 : l.take y1.2.1.toNat = l := List.take_of_length_le (by omega)
    have e2 : l.drop y1.2.1.toNat = [] := List.drop_of_length_le (by omega)
    rw [i3.2.2.2, i3.2.2.1, e1, e2, List.append_nil])
def E59 : D.Env := E58.addM 92 fmarkEntryS
theorem E59ok : EOk Tryz.prog E59 := E58ok.addM k92_58
set_option maxHeartbeats 2000000 in
theorem k145_59 : fheldEntryS.ok Tryz.prog 145 := Fct.of (S := fheldEntryS) (L := fun ⟨l, k, _⟩ => fun | 2 => some (LheS .entry mkEntry l k) | _ => none) (kp := [0,1,4,5,9,19,30,41,51,61,72,82,94,105,114,1000009,1000019,1000030,1000041,1000051,1000061,1000072,1000082,1000094,1000105,1000114]) E59ok Tryz.func145 (by kernel_rfl) (by kernel_rfl) (by
  rintro ⟨(l : List SEntry), (k : Int), _⟩ hp
  refine holds_of (X := lpx (LheS .entry mkEntry l k) (k, ((0 : Int), ())) fun (y1 : Int × Int × PUnit) bk1 =>
 .br (decide (y1.snd.fst < (↑l.length : Int)))
  (.ob ((0 : Int) ≤ y1.snd.fst ∧ y1.snd.fst < (↑l.length : Int)) <|
   .ob (fmarkText.pre (y1.fst, ())) <|
   .lt (ByteArray × PUnit) (fmarkText.fn (y1.fst, ())) fun z2 =>
   .br (!(l.getD y1.snd.fst.toNat default).top.toList == z2.fst.toList)
    (.leaf (mkR fheldEntryS.rs ((-1 : Int), ())) [] [])
    (.ob ((0 : Int) ≤ y1.snd.fst ∧ y1.snd.fst < (↑l.length : Int)) <|
     .ob (fmarkText.pre (IntKind.i64.wrap (y1.fst + (1 : Int)), ())) <|
     .lt (ByteArray × PUnit) (fmarkText.fn (IntKind.i64.wrap (y1.fst + (1 : Int)), ())) fun z3 =>
     .br (!(l.getD y1.snd.fst.toNat default).to.host.toList == z3.fst.toList)
      (.leaf (mkR fheldEntryS.rs ((-1 : Int), ())) [] [])
      (.ob ((0 : Int) ≤ y1.snd.fst ∧ y1.snd.fst < (↑l.length : Int)) <|
       .ob (fmarkText.pre (IntKind.i64.wrap (IntKind.i64.wrap (y1.fst + (1 : Int)) + (1 : Int)), ())) <|
       .lt (ByteArray × PUnit) (fmarkText.fn (IntKind.i64.wrap (IntKind.i64.wrap (y1.fst + (1 : Int)) + (1 : Int)), ())) fun z4 =>
       .br (!(l.getD y1.snd.fst.toNat default).to.path.toList == z4.fst.toList)
        (.leaf (mkR fheldEntryS.rs ((-1 : Int), ())) [] [])
        (.ob ((0 : Int) ≤ y1.snd.fst ∧ y1.snd.fst < (↑l.length : Int)) <|
         .br ((l.getD y1.snd.fst.toNat default).response.status != IntKind.i64.wrap (IntKind.i64.wrap (IntKind.i64.wrap (y1.fst + (1 : Int)) + (1 : Int)) + (1 : Int)))
         (.leaf (mkR fheldEntryS.rs ((-1 : Int), ())) [] [])
         (.ob ((0 : Int) ≤ y1.snd.fst ∧ y1.snd.fst < (↑l.length : Int)) <|
          .br ((l.getD y1.snd.fst.toNat default).response.kind != IntKind.i64.wrap (IntKind.i64.wrap (IntKind.i64.wrap (IntKind.i64.wrap (y1.fst + (1 : Int)) + (1 : Int)) + (1 : Int)) + (1 : Int)))
          (.leaf (mkR fheldEntryS.rs ((-1 : Int), ())) [] [])
          (.ob ((0 : Int) ≤ y1.snd.fst ∧ y1.snd.fst < (↑l.length : Int)) <|
           .ob (fmarkText.pre (IntKind.i64.wrap (IntKind.i64.wrap (IntKind.i64.wrap (IntKind.i64.wrap (IntKind.i64.wrap (y1.fst + (1 : Int)) + (1 : Int)) + (1 : Int)) + (1 : Int)) + (1 : Int)), ())) <|
           .lt (ByteArray × PUnit) (fmarkText.fn (IntKind.i64.wrap (IntKind.i64.wrap (IntKind.i64.wrap (IntKind.i64.wrap (IntKind.i64.wrap (y1.fst + (1 : Int)) + (1 : Int)) + (1 : Int)) + (1 : Int)) + (1 : Int)), ())) fun z5 =>
           .br (!(l.getD y1.snd.fst.toNat default).response.body.toList == z5.fst.toList)
            (.leaf (mkR fheldEntryS.rs ((-1 : Int), ())) [] [])
            (.ob ((0 : Int) ≤ y1.snd.fst ∧ y1.snd.fst < (↑l.length : Int)) <|
             .br ((l.getD y1.snd.fst.toNat default).response.age != IntKind.i64.wrap (IntKind.i64.wrap (IntKind.i64.wrap (IntKind.i64.wrap (IntKind.i64.wrap (IntKind.i64.wrap (y1.fst + (1 : Int)) + (1 : Int)) + (1 : Int)) + (1 : Int)) + (1 : Int)) + (1 : Int)))
             (.leaf (mkR fheldEntryS.rs ((-1 : Int), ())) [] [])
             (.ob ((0 : Int) ≤ y1.snd.fst ∧ y1.snd.fst < (↑l.length : Int)) <|
              .ob ((3 : Int) ≠ (0 : Int)) <|
              .br (!(l.getD y1.snd.fst.toNat default).response.shares == ((IntKind.i64.wrap (IntKind.i64.wrap (IntKind.i64.wrap (IntKind.i64.wrap (IntKind.i64.wrap (IntKind.i64.wrap (IntKind.i64.wrap (y1.fst + (1 : Int)) + (1 : Int)) + (1 : Int)) + (1 : Int)) + (1 : Int)) + (1 : Int)) + (1 : Int))).tmod (3 : Int) == (0 : Int)))
              (.leaf (mkR fheldEntryS.rs ((-1 : Int), ())) [] [])
              (.ob ((0 : Int) ≤ y1.snd.fst ∧ y1.snd.fst < (↑l.length : Int)) <|
               .ob (fmarkText.pre (IntKind.i64.wrap (IntKind.i64.wrap (IntKind.i64.wrap (IntKind.i64.wrap (IntKind.i64.wrap (IntKind.i64.wrap (IntKind.i64.wrap (IntKind.i64.wrap (y1.fst + (1 : Int)) + (1 : Int)) + (1 : Int)) + (1 : Int)) + (1 : Int)) + (1 : Int)) + (1 : Int)) + (1 : Int)), ())) <|
               .lt (ByteArray × PUnit) (fmarkText.fn (IntKind.i64.wrap (IntKind.i64.wrap (IntKind.i64.wrap (IntKind.i64.wrap (IntKind.i64.wrap (IntKind.i64.wrap (IntKind.i64.wrap (IntKind.i64.wrap (y1.fst + (1 : Int)) + (1 : Int)) + (1 : Int)) + (1 : Int)) + (1 : Int)) + (1 : Int)) + (1 : Int)) + (1 : Int)), ())) fun z6 =>
               .br (!(l.getD y1.snd.fst.toNat default).response.policy.toList == z6.fst.toList)
                (.leaf (mkR fheldEntryS.rs ((-1 : Int), ())) [] [])
                (.ob ((0 : Int) ≤ y1.snd.fst ∧ y1.snd.fst < (↑l.length : Int)) <|
                 .br ((l.getD y1.snd.fst.toNat default).until_ != IntKind.i64.wrap (IntKind.i64.wrap (IntKind.i64.wrap (IntKind.i64.wrap (IntKind.i64.wrap (IntKind.i64.wrap (IntKind.i64.wrap (IntKind.i64.wrap (IntKind.i64.wrap (y1.fst + (1 : Int)) + (1 : Int)) + (1 : Int)) + (1 : Int)) + (1 : Int)) + (1 : Int)) + (1 : Int)) + (1 : Int)) + (1 : Int)))
                 (.leaf (mkR fheldEntryS.rs ((-1 : Int), ())) [] [])
                 (.ob (l = l) <|
                  .ob (bk1 (IntKind.i64.wrap (IntKind.i64.wrap (IntKind.i64.wrap (IntKind.i64.wrap (IntKind.i64.wrap (IntKind.i64.wrap (IntKind.i64.wrap (IntKind.i64.wrap (IntKind.i64.wrap (IntKind.i64.wrap (y1.fst + (1 : Int)) + (1 : Int)) + (1 : Int)) + (1 : Int)) + (1 : Int)) + (1 : Int)) + (1 : Int)) + (1 : Int)) + (1 : Int)) + (1 : Int)), (IntKind.i64.wrap (y1.snd.fst + (1 : Int)), ()))) <|
                  .ok)))))))))))
  (.leaf (mkR fheldEntryS.rs (y1.fst, ())) [] [])) (by kernel_rfl) ?_
  refine lpx_i ?_ fun (y1 : Int × Int × PUnit) i1 => br_i (fun h2 => ob_i ?_ fun o3 => ob_i ?_ fun o4 => lt_i (br_i (fun h5 => Fct.leafY ?_) (fun h5 => ob_i ?_ fun o6 => ob_i ?_ fun o7 => lt_i (br_i (fun h8 => Fct.leafY ?_) (fun h8 => ob_i ?_ fun o9 => ob_i ?_ fun o10 => lt_i (br_i (fun h11 => Fct.leafY ?_) (fun h11 => ob_i ?_ fun o12 => br_i (fun h13 => Fct.leafY ?_) (fun h13 => ob_i ?_ fun o14 => br_i (fun h15 => Fct.leafY ?_) (fun h15 => ob_i ?_ fun o16 => ob_i ?_ fun o17 => lt_i (br_i (fun h18 => Fct.leafY ?_) (fun h18 => ob_i ?_ fun o19 => br_i (fun h20 => Fct.leafY ?_) (fun h20 => ob_i ?_ fun o21 => ob_i ?_ fun o22 => br_i (fun h23 => Fct.leafY ?_) (fun h23 => ob_i ?_ fun o24 => ob_i ?_ fun o25 => lt_i (br_i (fun h26 => Fct.leafY ?_) (fun h26 => ob_i ?_ fun o27 => br_i (fun h28 => Fct.leafY ?_) (fun h28 => ob_i rfl fun _ => ob_i ?_ fun o29 => trivial)))))))))))))))) (fun h2 => Fct.leafY ?_)
  · exact ⟨by simp, by simp, by simp [markL]⟩
  all_goals have hp1 : 0 ≤ k := hp.1
  all_goals have hp2 : (markL mkEntry l k).2 ≤ 4000000000000000000 := hp.2.1
  all_goals have hp3 : (markL mkEntry l k).1 = l := hp.2.2
  all_goals have i3 : 0 ≤ y1.2.1 ∧ y1.2.1 ≤ l.length ∧ y1.1 = (markL mkEntry (l.take y1.2.1.toNat) k).2 := i1
  all_goals have hcnt := markL_cnt (f := mkEntry) (fun x k => by simp only [mkEntry]; omega) l k
  all_goals simp only [decide_eq_true_eq, decide_eq_false_iff_not] at h2
  all_goals clear i1 hp
  all_goals try have hlt : y1.2.1.toNat < l.length := by omega
  all_goals try have ht := markL_take (f := mkEntry) hlt k
  all_goals try have hle := (markL_take_le mkEntry_mono l (y1.2.1.toNat + 1) k).2
  all_goals try have hl0 := (markL_take_le mkEntry_mono l y1.2.1.toNat k).1
  all_goals try have heq := markL_held hp3 hlt
  all_goals try rw [ht] at hle
  all_goals try rw [← i3.2.2] at hle hl0 ht heq
  all_goals try simp only [mkEntry] at hle heq
  all_goals first | decide | omega | (refine ⟨?_, ?_⟩ <;> (try simp (discharger := omega) only [wrapId']) <;> omega) | skip
  all_goals try (exfalso; clear ht; generalize l.getD y1.2.1.toNat default = c at *; subst heq; simp (discharger := omega) [wrapId', fmarkText, Int.add_assoc] at *; done)
  · simp (discharger := omega) only [wrapId']
    refine ⟨⟨by omega, by omega, ?_⟩, ?_⟩
    · rw [toNat1 (by omega), ht]
      first | done | (simp only [mkEntry]; done) | (simp only [mkEntry]; omega)
    · omega
  · have e1 : l.take y1.2.1.toNat = l := List.take_of_length_le (by omega)
    rw [e1] at i3
    show (y1.1, ()) = ((markL mkEntry l k).2, ())
    rw [i3.2.2])
def E60 : D.Env := E59.add 145 fheldEntryS
theorem E60ok : EOk Tryz.prog E60 := E59ok.add k145_59
set_option maxHeartbeats 2000000 in
theorem k19_60 : fszCache.ok Tryz.prog 19 := Fct.of (S := fszCache) (L := fun _ _ => none) (kp := [1,2,4,10,1000010]) E60ok Tryz.func19 (by kernel_rfl) (by kernel_rfl) (by
  rintro ⟨(x : SCache), (n : Int), _⟩ hp
  refine holds_of (X := .ob (fszEntryS.pre (x.entries, n, ())) <|
 .lt (Int × PUnit) (fszEntryS.fn (x.entries, n, ())) fun z2 =>
 .br (decide (z2.fst < (0 : Int)))
  (.leaf (mkR fszCache.rs ((-1 : Int), ())) [] [])
  (.leaf (mkR fszCache.rs (z2.fst, ())) [] [])) (by kernel_rfl) ?_
  refine ob_i ?_ fun o1 => lt_i (br_i (fun h2 => Fct.leafY ?_) (fun h2 => Fct.leafY ?_))
  all_goals try simp only [std1, ne_eq] at *
  all_goals try simp only [fszCache, fszEntryS, etaS, std1, std2, Nat.reduceAdd, ne_eq, Sh.good, Sh.fc, enc, List.forall_mem_cons, List.not_mem_nil, false_implies, implies_true, goodC, maxLen] at *
  all_goals grind [wrapId', lessen, szCache, szL])
def E61 : D.Env := E60.add 19 fszCache
theorem E61ok : EOk Tryz.prog E61 := E60ok.add k19_60
theorem k25_61 : ftoCache.ok Tryz.prog 25 := Fct.of (S := ftoCache) (L := fun _ _ => none) (kp := [1,2,3]) E61ok Tryz.func25 (by kernel_rfl) (by kernel_rfl) (by
  rintro ⟨(x : SCache), _⟩ hp
  refine holds_of (X := .ob (ftoEntryS.pre (x.entries, ())) <|
 .lt (List SEntry × PUnit) (ftoEntryS.fn (x.entries, ())) fun z2 =>
 .leaf (mkR ftoCache.rs (⟨z2.fst⟩, ())) [] []) (by kernel_rfl) ?_
  refine ob_i ?_ fun o1 => lt_i (Fct.leafY ?_)
  all_goals try simp only [std1, ne_eq] at *
  all_goals try simp only [ftoCache, ftoEntryS, etaS, std1, std2, Nat.reduceAdd, ne_eq] at *
  all_goals first | trivial | rfl | grind [szCache, szL])
def E62 : D.Env := E61.add 25 ftoCache
theorem E62ok : EOk Tryz.prog E62 := E61ok.add k25_61
set_option maxHeartbeats 2000000 in
theorem k35_62 : feqCache.ok Tryz.prog 35 := Fct.of (S := feqCache) (L := fun _ _ => none) (kp := [2,3,4,10,1000010]) E62ok Tryz.func35 (by kernel_rfl) (by kernel_rfl) (by
  rintro ⟨(x : SCache), (y : SCache), _⟩ hp
  refine holds_of (X := .ob (feqEntryS.pre (x.entries, y.entries, ())) <|
 .lt (Bool × PUnit) (feqEntryS.fn (x.entries, y.entries, ())) fun z2 =>
 .br (!z2.fst)
  (.leaf (mkR feqCache.rs (false, ())) [] [])
  (.leaf (mkR feqCache.rs (true, ())) [] [])) (by kernel_rfl) ?_
  refine ob_i ?_ fun o1 => lt_i (br_i (fun h2 => Fct.leafY ?_) (fun h2 => Fct.leafY ?_))
  all_goals try simp only [std1, ne_eq] at *
  all_goals try simp only [feqCache, feqEntryS, etaS, std1, std2, Nat.reduceAdd, ne_eq] at *
  all_goals first | trivial | (cases x; cases y; simp_all; done) | (simp only [szCache, szL] at *; omega) | grind [szCache, szL])
def E63 : D.Env := E62.add 35 feqCache
theorem E63ok : EOk Tryz.prog E63 := E62ok.add k35_62
set_option maxHeartbeats 2000000 in
theorem k38_63 : fmarkCache.ok Tryz.prog 38 := MS.of (S := fmarkCache) (L := fun _ _ _ => none) (kp := [1,2,4]) (kl := [0]) E63ok Tryz.func38 (by kernel_rfl) (by kernel_rfl) (by
  rintro (x : SCache) (k : Int) hp
  refine holds_of (X := .ob (fmarkEntryS.pre x.entries k) <|
 .lt (List SEntry × Int) (fmarkEntryS.fn x.entries k) fun z2 =>
 .leaf (.one false [vi (z2.snd)]) [] [((0 : Nat), ⟨Ty.entry, z2.fst⟩)]) (by kernel_rfl) ?_
  refine ob_d ?_ <| lt_i (MS.leaf ?_)
  all_goals have hp1 : 0 ≤ k := hp.1
  all_goals have hp2 : (mvCache x k).2 ≤ 4000000000000000000 := hp.2
  all_goals clear hp
  all_goals simp only [mvCache] at hp2
  all_goals try have m1 := mkEntryS_mono x.entries (k)
  all_goals try generalize hr1 : markL mkEntry x.entries (k) = r1 at *
  all_goals simp (disch := omega) only [fmarkEntryS, fmarkText, hr1]
  all_goals first | trivial | omega | (refine ⟨?_, ?_⟩ <;> omega) | skip
  refine MS.leaf ?_
  simp only [fmarkCache, mvCache, hr1]
  exact ⟨⟨rfl, rfl, trivial⟩, trivial, rfl⟩)
def E64 : D.Env := E63.addM 38 fmarkCache
theorem E64ok : EOk Tryz.prog E64 := E63ok.addM k38_63
set_option maxHeartbeats 2000000 in
theorem k100_64 : fheldCache.ok Tryz.prog 100 := Fct.of (S := fheldCache) (L := fun _ _ => none) (kp := [1,2,4,10,1000010]) E64ok Tryz.func100 (by kernel_rfl) (by kernel_rfl) (by
  rintro ⟨(x : SCache), (k : Int), _⟩ hp
  refine holds_of (X := .ob (fheldEntryS.pre (x.entries, k, ())) <|
 .lt (Int × PUnit) (fheldEntryS.fn (x.entries, k, ())) fun z2 =>
 .br (decide (z2.fst < (0 : Int)))
  (.leaf (mkR fheldCache.rs ((-1 : Int), ())) [] [])
  (.leaf (mkR fheldCache.rs (z2.fst, ())) [] [])) (by kernel_rfl) ?_
  refine ob_d ?_ <| lt_i (br_i (fun h2 => Fct.leafY ?_) (fun h2 => Fct.leafY ?_))
  all_goals have hp1 : 0 ≤ k := hp.1
  all_goals have hp2 : (mvCache x k).2 ≤ 4000000000000000000 := hp.2.1
  all_goals have heq : (mvCache x k).1 = x := hp.2.2
  all_goals clear hp
  all_goals try have q1 := congrArg (fun z : SCache => z.entries) heq
  all_goals obtain ⟨E, hE⟩ : ∃ E, E = (mvCache x k).2 := ⟨_, rfl⟩
  all_goals have hE2 := hE
  all_goals simp only [mvCache] at hp2 hE2 q1
  all_goals clear heq
  all_goals try have m1 := mkEntryS_mono x.entries (k)
  all_goals try generalize hr1 : markL mkEntry x.entries (k) = r1 at *
  all_goals simp (disch := omega) only [fheldEntryS, fmarkText, hr1, decide_eq_true_eq, decide_eq_false_iff_not, Int.not_lt] at *
  all_goals try simp only [q1]
  all_goals first | trivial | omega | (exfalso; omega) | (refine ⟨?_, ?_, ?_⟩ <;> first | omega | assumption) | skip
  all_goals first | (show (_, ()) = ((mvCache x k).2, ()); rw [← hE, Prod.mk.injEq]; exact ⟨by omega, rfl⟩) | skip)
def E65 : D.Env := E64.add 100 fheldCache
theorem E65ok : EOk Tryz.prog E65 := E64ok.add k100_64
set_option maxHeartbeats 2000000 in
theorem k51_65 : fszSent.ok Tryz.prog 51 := Fct.of (S := fszSent) (L := fun _ _ => none) (kp := [1,2,4,11,17,1000011,1000017]) E65ok Tryz.func51 (by kernel_rfl) (by kernel_rfl) (by
  rintro ⟨(x : SSent), (n : Int), _⟩ hp
  refine holds_of (X := .br (decide (IntKind.i64.wrap (n - (↑x.top.size : Int)) < (0 : Int)))
 (.leaf (mkR fszSent.rs ((-1 : Int), ())) [] [])
 (.ob (fszAddr.pre (x.to, IntKind.i64.wrap (n - (↑x.top.size : Int)), ())) <|
  .lt (Int × PUnit) (fszAddr.fn (x.to, IntKind.i64.wrap (n - (↑x.top.size : Int)), ())) fun z2 =>
  .br (decide (z2.fst < (0 : Int)))
   (.leaf (mkR fszSent.rs ((-1 : Int), ())) [] [])
   (.leaf (mkR fszSent.rs (z2.fst, ())) [] []))) (by kernel_rfl) ?_
  refine br_i (fun h1 => Fct.leafY ?_) (fun h1 => ob_i ?_ fun o2 => lt_i (br_i (fun h3 => Fct.leafY ?_) (fun h3 => Fct.leafY ?_)))
  all_goals try simp only [std1, ne_eq] at *
  all_goals try simp only [fszAddr, fszSent, etaS, std1, std2, Nat.reduceAdd, ne_eq, Sh.good, Sh.fc, enc, List.forall_mem_cons, List.not_mem_nil, false_implies, implies_true, goodC, maxLen] at *
  all_goals grind [wrapId', lessen, szAddr, szSent])
def E66 : D.Env := E65.add 51 fszSent
theorem E66ok : EOk Tryz.prog E66 := E65ok.add k51_65
theorem k64_66 : ftoSent.ok Tryz.prog 64 := Fct.of (S := ftoSent) (L := fun _ _ => none) (kp := [1,2,3]) E66ok Tryz.func64 (by kernel_rfl) (by kernel_rfl) (by
  rintro ⟨(x : SSent), _⟩ hp
  refine holds_of (X := .ob (ftoAddr.pre (x.to, ())) <|
 .lt (SAddr × PUnit) (ftoAddr.fn (x.to, ())) fun z2 =>
 .leaf (mkR ftoSent.rs (⟨x.top, z2.fst, x.guess⟩, ())) [] []) (by kernel_rfl) ?_
  refine ob_i ?_ fun o1 => lt_i (Fct.leafY ?_)
  all_goals try simp only [std1, ne_eq] at *
  all_goals try simp only [ftoAddr, ftoSent, etaS, std1, std2, Nat.reduceAdd, ne_eq] at *
  all_goals first | trivial | rfl | grind [szAddr, szSent])
def E67 : D.Env := E66.add 64 ftoSent
theorem E67ok : EOk Tryz.prog E67 := E66ok.add k64_66
set_option maxHeartbeats 2000000 in
theorem k89_67 : feqSent.ok Tryz.prog 89 := Fct.of (S := feqSent) (L := fun _ _ => none) (kp := [2,3,4,9,15,20,1000009,1000015,1000020]) E67ok Tryz.func89 (by kernel_rfl) (by kernel_rfl) (by
  rintro ⟨(x : SSent), (y : SSent), _⟩ hp
  refine holds_of (X := .br (!x.top.toList == y.top.toList)
 (.leaf (mkR feqSent.rs (false, ())) [] [])
 (.ob (feqAddr.pre (x.to, y.to, ())) <|
  .lt (Bool × PUnit) (feqAddr.fn (x.to, y.to, ())) fun z2 =>
  .br (!z2.fst)
   (.leaf (mkR feqSent.rs (false, ())) [] [])
   (.br (!x.guess == y.guess)
    (.leaf (mkR feqSent.rs (false, ())) [] [])
    (.leaf (mkR feqSent.rs (true, ())) [] [])))) (by kernel_rfl) ?_
  refine br_i (fun h1 => Fct.leafY ?_) (fun h1 => ob_i trivial fun _ => lt_i (br_i (fun h2 => Fct.leafY ?_) (fun h2 => br_i (fun h3 => Fct.leafY ?_) (fun h3 => Fct.leafY ?_))))
  all_goals try simp only [std1, ne_eq] at *
  all_goals try simp only [feqAddr, feqSent, etaS, std1, std2, Nat.reduceAdd, ne_eq] at *
  all_goals first | trivial | (cases x; cases y; simp_all; done) | (simp only [szAddr, szSent] at *; omega) | grind [szAddr, szSent])
def E68 : D.Env := E67.add 89 feqSent
theorem E68ok : EOk Tryz.prog E68 := E67ok.add k89_67
set_option maxHeartbeats 2000000 in
theorem k20_68 : fszSentS.ok Tryz.prog 20 := Fct.of (S := fszSentS) (L := fun ⟨l, n, _⟩ => fun | 5 => some (LszS .sent szSent l n) | _ => none) (kp := [0,1,4,5,11,15,25,1000011,1000015,1000025]) E68ok Tryz.func20 (by kernel_rfl) (by kernel_rfl) (by
  rintro ⟨(l : List SSent), (n : Int), _⟩ hp
  refine holds_of (X := .br (decide (IntKind.i64.wrap (n - (↑l.length : Int)) < (0 : Int)))
 (.leaf (mkR fszSentS.rs ((-1 : Int), ())) [] [])
 (lpx (LszS .sent szSent l n) (IntKind.i64.wrap (n - (↑l.length : Int)), ((0 : Int), ())) fun (y2 : Int × Int × PUnit) bk2 =>
  .br (decide (y2.snd.fst < (↑l.length : Int)))
   (.ob ((0 : Int) ≤ y2.snd.fst ∧ y2.snd.fst < (↑l.length : Int)) <|
    .ob (fszSent.pre (l.getD y2.snd.fst.toNat default, y2.fst, ())) <|
    .lt (Int × PUnit) (fszSent.fn (l.getD y2.snd.fst.toNat default, y2.fst, ())) fun z2 =>
    .br (decide (z2.fst < (0 : Int)))
     (.leaf (mkR fszSentS.rs ((-1 : Int), ())) [] [])
     (.ob (l = l) <|
      .ob (bk2 (z2.fst, (IntKind.i64.wrap (y2.snd.fst + (1 : Int)), ()))) <|
      .ok))
   (.leaf (mkR fszSentS.rs (y2.fst, ())) [] []))) (by kernel_rfl) ?_
  refine br_i (fun h1 => Fct.leafY ?_) (fun h1 => lpx_i ?_ fun (y2 : Int × Int × PUnit) i2 => br_i (fun h3 => ob_i ?_ fun o4 => ob_i ?_ fun o5 => lt_i (br_i (fun h6 => Fct.leafY ?_) (fun h6 => ob_i rfl fun _ => ob_i ?_ fun o7 => trivial))) (fun h3 => Fct.leafY ?_))
  all_goals try simp only [std1, ne_eq] at *
  all_goals try simp only [LszS, fszSent, fszSentS, etaS, std1, std2, Nat.reduceAdd, ne_eq] at *
  · have := good_len hp.1; simp only [maxLen] at this; rw [wrapId (by omega)] at h1
    rw [lessenNeg (by simp only [szL]; omega)]
  · have := good_len hp.1; simp only [maxLen] at this
    rw [wrapId (by omega)] at h1 ⊢
    exact ⟨by omega, by omega, h1, by simp⟩
  · omega
  · exact ⟨good_getD hp.1 (by omega), by omega, by omega⟩
  · have hs := sum_take_le szSent l (y2.2.1.toNat + 1)
    rw [sum_take szSent (by omega)] at hs
    rw [lessen_lt (by omega)] at h6
    rw [lessenNeg (by simp only [szL]; omega)]
  · have hw : IntKind.i64.wrap (y2.2.1 + 1) = y2.2.1 + 1 := wrapId (by have := good_len hp.1; simp only [maxLen] at this; omega)
    have h7 : ¬ lessen y2.1 (szSent (l.getD y2.2.1.toNat default)) < 0 := by omega
    rw [lessen_lt (by omega)] at h7
    rw [hw, toNat1 (by omega), sum_take szSent (by omega), lessen_ge (by omega)]
    exact ⟨⟨by omega, by omega, by omega, by omega⟩, by omega⟩
  · have e : l.take y2.2.1.toNat = l := List.take_of_length_le (by omega)
    rw [e] at i2
    have hz : ((szL szSent l : Nat) : Int) = l.length + (l.map szSent).sum := by simp only [szL]; omega
    rw [lessen_ge (by omega)]
    show y2.1 = n - ((szL szSent l : Nat) : Int)
    omega)
def E69 : D.Env := E68.add 20 fszSentS
theorem E69ok : EOk Tryz.prog E69 := E68ok.add k20_68
theorem k26_69 : ftoSentS.ok Tryz.prog 26 := Fct.of (S := ftoSentS) (L := fun ⟨l, _⟩ => fun | 3 => some (LtoS .sent l) | _ => none) (kp := [0,2,3,4,11,1000011]) E69ok Tryz.func26 (by kernel_rfl) (by kernel_rfl) (by
  rintro ⟨(l : List SSent), _⟩ hp
  refine holds_of (X := .ob ((↑l.length : Int) = (↑l.length : Int) ∧
  (0 : Int) ≤ (↑l.length : Int) ∧
    (56 : Int) * (↑l.length : Int) ≤ (140737488355328 : Int) ∧ (↑l.length : Int) ≤ (140737488355328 : Int)) <|
 lpx (LtoS .sent l) ((0 : Int), (List.replicate (↑l.length : Int).toNat default, ())) fun (y2 : Int × List SSent × PUnit) bk2 =>
 .br (decide (y2.fst < (↑l.length : Int)))
  (.ob ((0 : Int) ≤ y2.fst ∧ y2.fst < (↑l.length : Int)) <|
   .ob (ftoSent.pre (l.getD y2.fst.toNat default, ())) <|
   .lt (SSent × PUnit) (ftoSent.fn (l.getD y2.fst.toNat default, ())) fun z2 =>
   .ob ((0 : Int) ≤ y2.fst ∧ y2.fst < (↑y2.snd.fst.length : Int)) <|
    .ob (y2.fst.toNat < y2.snd.fst.length) <|
    .lt (List SSent) (y2.snd.fst.modify y2.fst.toNat fun z => z2.fst) fun z3 =>
    .ob (l = l) <|
     .ob (bk2 (IntKind.i64.wrap (y2.fst + (1 : Int)), (z3, ()))) <|
     .ok)
  (.leaf (mkR ftoSentS.rs (y2.snd.fst, ())) [] [])) (by kernel_rfl) ?_
  refine ob_i ?_ fun o1 => lpx_i ?_ fun (y2 : Int × List SSent × PUnit) i2 => br_i (fun h3 => ob_i ?_ fun o4 => ob_i ?_ fun o5 => lt_i (ob_i ?_ fun o6 => ob_i ?_ fun o7 => lt_i (ob_i rfl fun _ => ob_i ?_ fun o8 => trivial))) (fun h3 => Fct.leafY ?_)
  all_goals try simp only [std1, ne_eq] at *
  all_goals try simp only [LtoS, ftoSent, ftoSentS, etaS, std1, std2, Nat.reduceAdd, ne_eq] at *
  · have := szL_len szSent l; omega
  · exact ⟨by omega, by omega, by simp⟩
  · omega
  · have hs := sum_take_le szSent l (y2.1.toNat + 1)
    rw [sum_take szSent (by omega)] at hs
    simp only [szL] at hp; omega
  · rw [i2.2.2]; simp; omega
  · rw [i2.2.2]; simp; omega
  · have hw : IntKind.i64.wrap (y2.1 + 1) = y2.1 + 1 := wrapId (by have := szL_len szSent l; omega)
    rw [hw, toNat1 (by omega), i2.2.2]
    refine ⟨⟨by omega, by omega, ?_⟩, by omega⟩
    rw [show l.length - y2.1.toNat = (l.length - (y2.1.toNat + 1)) + 1 from by omega, List.replicate_succ, mod_at (by simp; omega), take_succ (by omega)]
    simp
  · have e : l.take y2.1.toNat = l := List.take_of_length_le (by omega)
    rw [i2.2.2, e]; simp; omega)
def E70 : D.Env := E69.add 26 ftoSentS
theorem E70ok : EOk Tryz.prog E70 := E69ok.add k26_69
set_option maxHeartbeats 2000000 in
theorem k36_70 : feqSentS.ok Tryz.prog 36 := Fct.of (S := feqSentS) (L := fun ⟨l, m, _⟩ => fun | 4 => some (LeqS .sent l m) | _ => none) (kp := [0,1,4,5,10,14,26,1000010,1000014,1000026]) E70ok Tryz.func36 (by kernel_rfl) (by kernel_rfl) (by
  rintro ⟨(l : List SSent), (m : List SSent), _⟩ hp
  refine holds_of (X := .br ((↑l.length : Int) != (↑m.length : Int))
 (.leaf (mkR feqSentS.rs (false, ())) [] [])
 (lpx (LeqS .sent l m) ((0 : Int), ()) fun (y2 : Int × PUnit) bk2 =>
  .br (decide (y2.fst < (↑l.length : Int)))
   (.ob ((0 : Int) ≤ y2.fst ∧ y2.fst < (↑l.length : Int)) <|
    .ob ((0 : Int) ≤ y2.fst ∧ y2.fst < (↑m.length : Int)) <|
    .ob (feqSent.pre (l.getD y2.fst.toNat default, m.getD y2.fst.toNat default, ())) <|
    .lt (Bool × PUnit) (feqSent.fn (l.getD y2.fst.toNat default, m.getD y2.fst.toNat default, ())) fun z2 =>
    .br (!z2.fst)
     (.leaf (mkR feqSentS.rs (false, ())) [] [])
     (.ob (l = l) <|
      .ob (m = m) <|
      .ob (bk2 (IntKind.i64.wrap (y2.fst + (1 : Int)), ())) <|
      .ok))
   (.leaf (mkR feqSentS.rs (true, ())) [] []))) (by kernel_rfl) ?_
  refine br_i (fun h1 => Fct.leafY ?_) (fun h1 => lpx_i ?_ fun (y2 : Int × PUnit) i2 => br_i (fun h3 => ob_i ?_ fun o4 => ob_i ?_ fun o5 => ob_i trivial fun _ => lt_i (br_i (fun h6 => Fct.leafY ?_) (fun h6 => ob_i rfl fun _ => ob_i rfl fun _ => ob_i ?_ fun o7 => trivial))) (fun h3 => Fct.leafY ?_))
  all_goals try simp only [std1, ne_eq] at *
  all_goals try simp only [LeqS, feqSent, feqSentS, etaS, std1, std2, Nat.reduceAdd, ne_eq] at *
  · rw [decide_eq_false]; rintro rfl; omega
  · exact ⟨by omega, by omega, by simp⟩
  · omega
  · omega
  · rw [decide_eq_false]; rintro rfl; exact absurd rfl h6
  · have hw : IntKind.i64.wrap (y2.1 + 1) = y2.1 + 1 := wrapId (by omega)
    rw [hw, toNat1 (by omega)]
    refine ⟨⟨by omega, by omega, ?_⟩, by omega⟩
    rw [take_succ (by omega), take_succ (by omega), i2.2.2, h6]
  · have e : l.take y2.1.toNat = l := List.take_of_length_le (by omega)
    have e2 : m.take y2.1.toNat = m := List.take_of_length_le (by omega)
    rw [decide_eq_true]; rw [← e, ← e2, i2.2.2])
def E71 : D.Env := E70.add 36 feqSentS
theorem E71ok : EOk Tryz.prog E71 := E70ok.add k36_70
set_option maxHeartbeats 2000000 in
theorem k39_71 : fmarkSentS.ok Tryz.prog 39 := MS.of (S := fmarkSentS) (L := fun l k => fun | 2 => some (LmkS .sent mkSent l k) | _ => none) (kp := [0,1,4,5,9,1000009]) (kl := [0]) E71ok Tryz.func39 (by kernel_rfl) (by kernel_rfl) (by
  rintro (l : List SSent) (k : Int) hp
  refine holds_of (X := lpx (LmkS .sent mkSent l k) (k, ((0 : Int), (l, ()))) fun (y1 : Int × Int × List SSent × PUnit) bk1 =>
 .br (decide (y1.snd.fst < (↑y1.snd.snd.fst.length : Int)))
  (.ob (fmarkText.pre (y1.fst, ())) <|
   .lt (ByteArray × PUnit) (fmarkText.fn (y1.fst, ())) fun z2 =>
   .ob ((0 : Int) ≤ y1.snd.fst ∧ y1.snd.fst < (↑y1.snd.snd.fst.length : Int)) <|
    .ob (y1.snd.fst.toNat < y1.snd.snd.fst.length) <|
    .lt (List SSent) (y1.snd.snd.fst.modify y1.snd.fst.toNat fun z => { top := z2.fst, to := z.to, guess := z.guess : SSent }) fun z3 =>
    .ob (fmarkText.pre (IntKind.i64.wrap (y1.fst + (1 : Int)), ())) <|
     .lt (ByteArray × PUnit) (fmarkText.fn (IntKind.i64.wrap (y1.fst + (1 : Int)), ())) fun z4 =>
     .ob ((0 : Int) ≤ y1.snd.fst ∧ y1.snd.fst < (↑z3.length : Int)) <|
      .ob (y1.snd.fst.toNat < z3.length) <|
      .lt (List SSent) (z3.modify y1.snd.fst.toNat fun z =>
  { top := z.top, to := { host := z4.fst, path := z.to.path : SAddr }, guess := z.guess : SSent }) fun z5 =>
      .ob (fmarkText.pre (IntKind.i64.wrap (IntKind.i64.wrap (y1.fst + (1 : Int)) + (1 : Int)), ())) <|
       .lt (ByteArray × PUnit) (fmarkText.fn (IntKind.i64.wrap (IntKind.i64.wrap (y1.fst + (1 : Int)) + (1 : Int)), ())) fun z6 =>
       .ob ((0 : Int) ≤ y1.snd.fst ∧ y1.snd.fst < (↑z5.length : Int)) <|
        .ob (y1.snd.fst.toNat < z5.length) <|
        .lt (List SSent) (z5.modify y1.snd.fst.toNat fun z =>
  { top := z.top, to := { host := z.to.host, path := z6.fst : SAddr }, guess := z.guess : SSent }) fun z7 =>
        .ob ((3 : Int) ≠ (0 : Int)) <|
         .ob ((0 : Int) ≤ y1.snd.fst ∧ y1.snd.fst < (↑z7.length : Int)) <|
         .ob (y1.snd.fst.toNat < z7.length) <|
         .lt (List SSent) (z7.modify y1.snd.fst.toNat fun z =>
  { top := z.top, to := z.to,
    guess :=
      (IntKind.i64.wrap (IntKind.i64.wrap (IntKind.i64.wrap (y1.fst + (1 : Int)) + (1 : Int)) + (1 : Int))).tmod
          (3 : Int) ==
        (0 : Int) :
    SSent }) fun z8 =>
         .ob (Value.int IntKind.i64 (0 : Int) = Value.int IntKind.i64 (0 : Int)) <|
          .ob (bk1 (IntKind.i64.wrap
  (IntKind.i64.wrap (IntKind.i64.wrap (IntKind.i64.wrap (y1.fst + (1 : Int)) + (1 : Int)) + (1 : Int)) + (1 : Int)), (IntKind.i64.wrap (y1.snd.fst + (1 : Int)), (z8, ())))) <|
          .ok)
  (.leaf (.one false [vi (y1.fst)]) [] [((0 : Nat), ⟨Ty.sent, y1.snd.snd.fst⟩)])) (by kernel_rfl) ?_
  refine lpx_i ?_ fun (y1 : Int × Int × List SSent × PUnit) i1 => br_i (fun h2 => ob_i ?_ fun o3 => lt_i (ob_i ?_ fun o4 => ob_i ?_ fun o5 => lt_i (ob_i ?_ fun o6 => lt_i (ob_i ?_ fun o7 => ob_i ?_ fun o8 => lt_i (ob_i ?_ fun o9 => lt_i (ob_i ?_ fun o10 => ob_i ?_ fun o11 => lt_i (ob_i ?_ fun o12 => ob_i ?_ fun o13 => ob_i ?_ fun o14 => lt_i (ob_i rfl fun _ => ob_i ?_ fun o15 => trivial)))))))) (fun h2 => MS.leaf ?_)
  · exact ⟨by simp, by simp, by simp [markL], by simp [markL]⟩
  all_goals have hp1 : 0 ≤ k := hp.1
  all_goals have hp2 : (markL mkSent l k).2 ≤ 4000000000000000000 := hp.2
  all_goals have i3 : 0 ≤ y1.2.1 ∧ y1.2.1 ≤ l.length ∧ y1.1 = (markL mkSent (l.take y1.2.1.toNat) k).2 ∧ y1.2.2.1 = (markL mkSent (l.take y1.2.1.toNat) k).1 ++ l.drop y1.2.1.toNat := i1
  all_goals have hcnt := markL_cnt (f := mkSent) (fun x k => by simp only [mkSent]; omega) l k
  all_goals have hx : y1.2.2.1.length = l.length := by rw [i3.2.2.2, List.length_append, markL_len, List.length_take, List.length_drop]; omega
  all_goals simp only [decide_eq_true_eq, decide_eq_false_iff_not, hx] at h2
  all_goals clear i1
  all_goals try have hlt : y1.2.1.toNat < l.length := by omega
  all_goals try have ht := markL_take (f := mkSent) hlt k
  all_goals try have hle := (markL_take_le mkSent_mono l (y1.2.1.toNat + 1) k).2
  all_goals try have hl0 := (markL_take_le mkSent_mono l y1.2.1.toNat k).1
  all_goals try rw [ht] at hle
  all_goals try rw [← i3.2.2.1] at hle hl0 ht
  all_goals try simp only [mkSent] at hle
  all_goals first | decide | (simp only [List.length_modify, hx]; omega) | (refine ⟨?_, ?_⟩ <;> (try simp (discharger := omega) only [wrapId']) <;> omega) | skip
  · try clear o3 o4 o5
    simp (discharger := omega) only [wrapId', fmarkText]
    have hA : (markL mkSent (l.take y1.2.1.toNat) k).1.length = y1.2.1.toNat := by rw [markL_len, List.length_take]; omega
    refine ⟨⟨by omega, by omega, ?_, ?_⟩, ?_⟩
    · rw [toNat1 (by omega), ht]
      first | done | (simp only [mkSent]; done) | (simp only [mkSent]; omega)
    · rw [toNat1 (by omega), ht, i3.2.2.2, drop_cons hlt]
      simp only [mod_at hA, mkSent, Int.add_assoc, Int.reduceAdd, List.append_assoc, List.cons_append, List.nil_append]
    · omega
  · refine MS.leafL (t := .sent) (fn := fun l k => markL mkSent l k) ?_
    have e1 : l.take y1.2.1.toNat = l := List.take_of_length_le (by omega)
    have e2 : l.drop y1.2.1.toNat = [] := List.drop_of_length_le (by omega)
    rw [i3.2.2.2, i3.2.2.1, e1, e2, List.append_nil])
def E72 : D.Env := E71.addM 39 fmarkSentS
theorem E72ok : EOk Tryz.prog E72 := E71ok.addM k39_71
set_option maxHeartbeats 2000000 in
theorem k101_72 : fheldSentS.ok Tryz.prog 101 := Fct.of (S := fheldSentS) (L := fun ⟨l, k, _⟩ => fun | 2 => some (LheS .sent mkSent l k) | _ => none) (kp := [0,1,4,5,9,19,30,41,52,1000009,1000019,1000030,1000041,1000052]) E72ok Tryz.func101 (by kernel_rfl) (by kernel_rfl) (by
  rintro ⟨(l : List SSent), (k : Int), _⟩ hp
  refine holds_of (X := lpx (LheS .sent mkSent l k) (k, ((0 : Int), ())) fun (y1 : Int × Int × PUnit) bk1 =>
 .br (decide (y1.snd.fst < (↑l.length : Int)))
  (.ob ((0 : Int) ≤ y1.snd.fst ∧ y1.snd.fst < (↑l.length : Int)) <|
   .ob (fmarkText.pre (y1.fst, ())) <|
   .lt (ByteArray × PUnit) (fmarkText.fn (y1.fst, ())) fun z2 =>
   .br (!(l.getD y1.snd.fst.toNat default).top.toList == z2.fst.toList)
    (.leaf (mkR fheldSentS.rs ((-1 : Int), ())) [] [])
    (.ob ((0 : Int) ≤ y1.snd.fst ∧ y1.snd.fst < (↑l.length : Int)) <|
     .ob (fmarkText.pre (IntKind.i64.wrap (y1.fst + (1 : Int)), ())) <|
     .lt (ByteArray × PUnit) (fmarkText.fn (IntKind.i64.wrap (y1.fst + (1 : Int)), ())) fun z3 =>
     .br (!(l.getD y1.snd.fst.toNat default).to.host.toList == z3.fst.toList)
      (.leaf (mkR fheldSentS.rs ((-1 : Int), ())) [] [])
      (.ob ((0 : Int) ≤ y1.snd.fst ∧ y1.snd.fst < (↑l.length : Int)) <|
       .ob (fmarkText.pre (IntKind.i64.wrap (IntKind.i64.wrap (y1.fst + (1 : Int)) + (1 : Int)), ())) <|
       .lt (ByteArray × PUnit) (fmarkText.fn (IntKind.i64.wrap (IntKind.i64.wrap (y1.fst + (1 : Int)) + (1 : Int)), ())) fun z4 =>
       .br (!(l.getD y1.snd.fst.toNat default).to.path.toList == z4.fst.toList)
        (.leaf (mkR fheldSentS.rs ((-1 : Int), ())) [] [])
        (.ob ((0 : Int) ≤ y1.snd.fst ∧ y1.snd.fst < (↑l.length : Int)) <|
         .ob ((3 : Int) ≠ (0 : Int)) <|
         .br (!(l.getD y1.snd.fst.toNat default).guess == ((IntKind.i64.wrap (IntKind.i64.wrap (IntKind.i64.wrap (y1.fst + (1 : Int)) + (1 : Int)) + (1 : Int))).tmod (3 : Int) == (0 : Int)))
         (.leaf (mkR fheldSentS.rs ((-1 : Int), ())) [] [])
         (.ob (l = l) <|
          .ob (bk1 (IntKind.i64.wrap (IntKind.i64.wrap (IntKind.i64.wrap (IntKind.i64.wrap (y1.fst + (1 : Int)) + (1 : Int)) + (1 : Int)) + (1 : Int)), (IntKind.i64.wrap (y1.snd.fst + (1 : Int)), ()))) <|
          .ok)))))
  (.leaf (mkR fheldSentS.rs (y1.fst, ())) [] [])) (by kernel_rfl) ?_
  refine lpx_i ?_ fun (y1 : Int × Int × PUnit) i1 => br_i (fun h2 => ob_i ?_ fun o3 => ob_i ?_ fun o4 => lt_i (br_i (fun h5 => Fct.leafY ?_) (fun h5 => ob_i ?_ fun o6 => ob_i ?_ fun o7 => lt_i (br_i (fun h8 => Fct.leafY ?_) (fun h8 => ob_i ?_ fun o9 => ob_i ?_ fun o10 => lt_i (br_i (fun h11 => Fct.leafY ?_) (fun h11 => ob_i ?_ fun o12 => ob_i ?_ fun o13 => br_i (fun h14 => Fct.leafY ?_) (fun h14 => ob_i rfl fun _ => ob_i ?_ fun o15 => trivial)))))))) (fun h2 => Fct.leafY ?_)
  · exact ⟨by simp, by simp, by simp [markL]⟩
  all_goals have hp1 : 0 ≤ k := hp.1
  all_goals have hp2 : (markL mkSent l k).2 ≤ 4000000000000000000 := hp.2.1
  all_goals have hp3 : (markL mkSent l k).1 = l := hp.2.2
  all_goals have i3 : 0 ≤ y1.2.1 ∧ y1.2.1 ≤ l.length ∧ y1.1 = (markL mkSent (l.take y1.2.1.toNat) k).2 := i1
  all_goals have hcnt := markL_cnt (f := mkSent) (fun x k => by simp only [mkSent]; omega) l k
  all_goals simp only [decide_eq_true_eq, decide_eq_false_iff_not] at h2
  all_goals clear i1 hp
  all_goals try have hlt : y1.2.1.toNat < l.length := by omega
  all_goals try have ht := markL_take (f := mkSent) hlt k
  all_goals try have hle := (markL_take_le mkSent_mono l (y1.2.1.toNat + 1) k).2
  all_goals try have hl0 := (markL_take_le mkSent_mono l y1.2.1.toNat k).1
  all_goals try have heq := markL_held hp3 hlt
  all_goals try rw [ht] at hle
  all_goals try rw [← i3.2.2] at hle hl0 ht heq
  all_goals try simp only [mkSent] at hle heq
  all_goals first | decide | omega | (refine ⟨?_, ?_⟩ <;> (try simp (discharger := omega) only [wrapId']) <;> omega) | skip
  all_goals try (exfalso; clear ht; generalize l.getD y1.2.1.toNat default = c at *; subst heq; simp (discharger := omega) [wrapId', fmarkText, Int.add_assoc] at *; done)
  · simp (discharger := omega) only [wrapId']
    refine ⟨⟨by omega, by omega, ?_⟩, ?_⟩
    · rw [toNat1 (by omega), ht]
      first | done | (simp only [mkSent]; done) | (simp only [mkSent]; omega)
    · omega
  · have e1 : l.take y1.2.1.toNat = l := List.take_of_length_le (by omega)
    rw [e1] at i3
    show (y1.1, ()) = ((markL mkSent l k).2, ())
    rw [i3.2.2])
def E73 : D.Env := E72.add 101 fheldSentS
theorem E73ok : EOk Tryz.prog E73 := E72ok.add k101_72
set_option maxHeartbeats 2000000 in
theorem k4_73 : fszNet.ok Tryz.prog 4 := Fct.of (S := fszNet) (L := fun _ _ => none) (kp := [1,2,4,10,16,22,1000010,1000016,1000022]) E73ok Tryz.func4 (by kernel_rfl) (by kernel_rfl) (by
  rintro ⟨(x : SNet), (n : Int), _⟩ hp
  refine holds_of (X := .ob (fszServerS.pre (x.servers, n, ())) <|
 .lt (Int × PUnit) (fszServerS.fn (x.servers, n, ())) fun z2 =>
 .br (decide (z2.fst < (0 : Int)))
  (.leaf (mkR fszNet.rs ((-1 : Int), ())) [] [])
  (.ob (fszCache.pre (x.cache, z2.fst, ())) <|
   .lt (Int × PUnit) (fszCache.fn (x.cache, z2.fst, ())) fun z3 =>
   .br (decide (z3.fst < (0 : Int)))
    (.leaf (mkR fszNet.rs ((-1 : Int), ())) [] [])
    (.ob (fszSentS.pre (x.log, z3.fst, ())) <|
     .lt (Int × PUnit) (fszSentS.fn (x.log, z3.fst, ())) fun z4 =>
     .br (decide (z4.fst < (0 : Int)))
      (.leaf (mkR fszNet.rs ((-1 : Int), ())) [] [])
      (.leaf (mkR fszNet.rs (z4.fst, ())) [] [])))) (by kernel_rfl) ?_
  refine ob_i ?_ fun o1 => lt_i (br_i (fun h2 => Fct.leafY ?_) (fun h2 => ob_i ?_ fun o3 => lt_i (br_i (fun h4 => Fct.leafY ?_) (fun h4 => ob_i ?_ fun o5 => lt_i (br_i (fun h6 => Fct.leafY ?_) (fun h6 => Fct.leafY ?_))))))
  all_goals try simp only [std1, ne_eq] at *
  all_goals try simp only [fszCache, fszNet, fszSentS, fszServerS, etaS, std1, std2, Nat.reduceAdd, ne_eq, Sh.good, Sh.fc, enc, List.forall_mem_cons, List.not_mem_nil, false_implies, implies_true, goodC, maxLen] at *
  all_goals grind [wrapId', lessen, szCache, szL, szNet])
def E74 : D.Env := E73.add 4 fszNet
theorem E74ok : EOk Tryz.prog E74 := E73ok.add k4_73
theorem k7_74 : ftoNet.ok Tryz.prog 7 := Fct.of (S := ftoNet) (L := fun _ _ => none) (kp := [1,2,3]) E74ok Tryz.func7 (by kernel_rfl) (by kernel_rfl) (by
  rintro ⟨(x : SNet), _⟩ hp
  refine holds_of (X := .ob (ftoServerS.pre (x.servers, ())) <|
 .lt (List SServer × PUnit) (ftoServerS.fn (x.servers, ())) fun z2 =>
 .ob (ftoCache.pre (x.cache, ())) <|
  .lt (SCache × PUnit) (ftoCache.fn (x.cache, ())) fun z3 =>
  .ob (ftoSentS.pre (x.log, ())) <|
   .lt (List SSent × PUnit) (ftoSentS.fn (x.log, ())) fun z4 =>
   .leaf (mkR ftoNet.rs (⟨z2.fst, z3.fst, z4.fst, x.now⟩, ())) [] []) (by kernel_rfl) ?_
  refine ob_i ?_ fun o1 => lt_i (ob_i ?_ fun o2 => lt_i (ob_i ?_ fun o3 => lt_i (Fct.leafY ?_)))
  all_goals try simp only [std1, ne_eq] at *
  all_goals try simp only [ftoCache, ftoNet, ftoSentS, ftoServerS, etaS, std1, std2, Nat.reduceAdd, ne_eq] at *
  all_goals first | trivial | rfl | grind [szCache, szL, szNet])
def E75 : D.Env := E74.add 7 ftoNet
theorem E75ok : EOk Tryz.prog E75 := E74ok.add k7_74
set_option maxHeartbeats 2000000 in
theorem k12_75 : feqNet.ok Tryz.prog 12 := Fct.of (S := feqNet) (L := fun _ _ => none) (kp := [2,3,4,10,16,22,27,1000010,1000016,1000022,1000027]) E75ok Tryz.func12 (by kernel_rfl) (by kernel_rfl) (by
  rintro ⟨(x : SNet), (y : SNet), _⟩ hp
  refine holds_of (X := .ob (feqServerS.pre (x.servers, y.servers, ())) <|
 .lt (Bool × PUnit) (feqServerS.fn (x.servers, y.servers, ())) fun z2 =>
 .br (!z2.fst)
  (.leaf (mkR feqNet.rs (false, ())) [] [])
  (.ob (feqCache.pre (x.cache, y.cache, ())) <|
   .lt (Bool × PUnit) (feqCache.fn (x.cache, y.cache, ())) fun z3 =>
   .br (!z3.fst)
    (.leaf (mkR feqNet.rs (false, ())) [] [])
    (.ob (feqSentS.pre (x.log, y.log, ())) <|
     .lt (Bool × PUnit) (feqSentS.fn (x.log, y.log, ())) fun z4 =>
     .br (!z4.fst)
      (.leaf (mkR feqNet.rs (false, ())) [] [])
      (.br (x.now != y.now)
       (.leaf (mkR feqNet.rs (false, ())) [] [])
       (.leaf (mkR feqNet.rs (true, ())) [] []))))) (by kernel_rfl) ?_
  refine ob_i ?_ fun o1 => lt_i (br_i (fun h2 => Fct.leafY ?_) (fun h2 => ob_i ?_ fun o3 => lt_i (br_i (fun h4 => Fct.leafY ?_) (fun h4 => ob_i ?_ fun o5 => lt_i (br_i (fun h6 => Fct.leafY ?_) (fun h6 => br_i (fun h7 => Fct.leafY ?_) (fun h7 => Fct.leafY ?_)))))))
  all_goals try simp only [std1, ne_eq] at *
  all_goals try simp only [feqCache, feqNet, feqSentS, feqServerS, etaS, std1, std2, Nat.reduceAdd, ne_eq] at *
  all_goals first | trivial | (cases x; cases y; simp_all; done) | (simp only [szCache, szL, szNet] at *; omega) | grind [szCache, szL, szNet])
def E76 : D.Env := E75.add 12 feqNet
theorem E76ok : EOk Tryz.prog E76 := E75ok.add k12_75
set_option maxHeartbeats 2000000 in
theorem k14_76 : fmarkNet.ok Tryz.prog 14 := MS.of (S := fmarkNet) (L := fun _ _ _ => none) (kp := [1,2,4]) (kl := [0,1,2]) E76ok Tryz.func14 (by kernel_rfl) (by kernel_rfl) (by
  rintro (x : SNet) (k : Int) hp
  refine holds_of (X := .ob (fmarkServerS.pre x.servers k) <|
 .lt (List SServer × Int) (fmarkServerS.fn x.servers k) fun z2 =>
 .ob (fmarkCache.pre x.cache z2.snd) <|
  .lt (SCache × Int) (fmarkCache.fn x.cache z2.snd) fun z3 =>
  .ob (fmarkSentS.pre x.log z3.snd) <|
   .lt (List SSent × Int) (fmarkSentS.fn x.log z3.snd) fun z4 =>
   .leaf (.one false [vi (z4.snd)]) [] [((0 : Nat), ⟨Ty.server, z2.fst⟩), ((1 : Nat), ⟨Ty.entry, z3.fst.entries⟩), ((2 : Nat), ⟨Ty.sent, z4.fst⟩)]) (by kernel_rfl) ?_
  refine ob_d ?_ <| lt_i (ob_d ?_ <| lt_i (ob_d ?_ <| lt_i (MS.leaf ?_)))
  all_goals have hp1 : 0 ≤ k := hp.1
  all_goals have hp2 : (mvNet x k).2 ≤ 4000000000000000000 := hp.2
  all_goals clear hp
  all_goals simp only [mvNet] at hp2
  all_goals try have m1 := mkServerS_mono x.servers (k)
  all_goals try generalize hr1 : markL mkServer x.servers (k) = r1 at *
  all_goals try have m2 := mkEntryS_mono x.cache.entries (r1.2)
  all_goals try generalize hr2 : markL mkEntry x.cache.entries (r1.2) = r2 at *
  all_goals try have m3 := mkSentS_mono x.log (r2.2)
  all_goals try generalize hr3 : markL mkSent x.log (r2.2) = r3 at *
  all_goals simp (disch := omega) only [fmarkEntryS, fmarkSentS, fmarkServerS, fmarkCache, mvCache, hr1, hr2, hr3]
  all_goals first | trivial | omega | (refine ⟨?_, ?_⟩ <;> omega) | skip
  refine MS.leaf ?_
  simp only [fmarkNet, mvNet, hr1, hr2, hr3]
  exact ⟨⟨rfl, rfl, trivial⟩, trivial, rfl⟩)
def E77 : D.Env := E76.addM 14 fmarkNet
theorem E77ok : EOk Tryz.prog E77 := E76ok.addM k14_76
set_option maxHeartbeats 2000000 in
theorem k44_77 : fheldNet.ok Tryz.prog 44 := Fct.of (S := fheldNet) (L := fun _ _ => none) (kp := [1,2,4,10,16,22,1000010,1000016,1000022]) E77ok Tryz.func44 (by kernel_rfl) (by kernel_rfl) (by
  rintro ⟨(x : SNet), (k : Int), _⟩ hp
  refine holds_of (X := .ob (fheldServerS.pre (x.servers, k, ())) <|
 .lt (Int × PUnit) (fheldServerS.fn (x.servers, k, ())) fun z2 =>
 .br (decide (z2.fst < (0 : Int)))
  (.leaf (mkR fheldNet.rs ((-1 : Int), ())) [] [])
  (.ob (fheldCache.pre (x.cache, z2.fst, ())) <|
   .lt (Int × PUnit) (fheldCache.fn (x.cache, z2.fst, ())) fun z3 =>
   .br (decide (z3.fst < (0 : Int)))
    (.leaf (mkR fheldNet.rs ((-1 : Int), ())) [] [])
    (.ob (fheldSentS.pre (x.log, z3.fst, ())) <|
     .lt (Int × PUnit) (fheldSentS.fn (x.log, z3.fst, ())) fun z4 =>
     .br (decide (z4.fst < (0 : Int)))
      (.leaf (mkR fheldNet.rs ((-1 : Int), ())) [] [])
      (.leaf (mkR fheldNet.rs (z4.fst, ())) [] [])))) (by kernel_rfl) ?_
  refine ob_d ?_ <| lt_i (br_i (fun h2 => Fct.leafY ?_) (fun h2 => ob_d ?_ <| lt_i (br_i (fun h4 => Fct.leafY ?_) (fun h4 => ob_d ?_ <| lt_i (br_i (fun h6 => Fct.leafY ?_) (fun h6 => Fct.leafY ?_))))))
  all_goals have hp1 : 0 ≤ k := hp.1
  all_goals have hp2 : (mvNet x k).2 ≤ 4000000000000000000 := hp.2.1
  all_goals have heq : (mvNet x k).1 = x := hp.2.2
  all_goals clear hp
  all_goals try have q1 := congrArg (fun z : SNet => z.servers) heq
  all_goals try have q2 := congrArg (fun z : SNet => z.cache.entries) heq
  all_goals try have q3 := congrArg (fun z : SNet => z.log) heq
  all_goals obtain ⟨E, hE⟩ : ∃ E, E = (mvNet x k).2 := ⟨_, rfl⟩
  all_goals have hE2 := hE
  all_goals simp only [mvNet] at hp2 hE2 q1 q2 q3
  all_goals clear heq
  all_goals try have m1 := mkServerS_mono x.servers (k)
  all_goals try generalize hr1 : markL mkServer x.servers (k) = r1 at *
  all_goals try have m2 := mkEntryS_mono x.cache.entries (r1.2)
  all_goals try generalize hr2 : markL mkEntry x.cache.entries (r1.2) = r2 at *
  all_goals try have m3 := mkSentS_mono x.log (r2.2)
  all_goals try generalize hr3 : markL mkSent x.log (r2.2) = r3 at *
  all_goals simp (disch := omega) only [fheldEntryS, fheldSentS, fheldServerS, fheldCache, mvCache, hr1, hr2, hr3, decide_eq_true_eq, decide_eq_false_iff_not, Int.not_lt] at *
  all_goals try simp only [q1, q2, q3]
  all_goals first | trivial | omega | (exfalso; omega) | (refine ⟨?_, ?_, ?_⟩ <;> first | omega | assumption) | skip
  all_goals first | (show (_, ()) = ((mvNet x k).2, ()); rw [← hE, Prod.mk.injEq]; exact ⟨by omega, rfl⟩) | skip)
def E78 : D.Env := E77.add 44 fheldNet
theorem E78ok : EOk Tryz.prog E78 := E77ok.add k44_77
set_option maxHeartbeats 2000000 in
theorem k137_78 : feqSlot.ok Tryz.prog 137 := Fct.of (S := feqSlot) (L := fun _ _ => none) (kp := [2,3,4,9,15,20,25,30,35,40,1000009,1000015,1000020,1000025,1000030,1000035,1000040]) E78ok Tryz.func137 (by kernel_rfl) (by kernel_rfl) (by
  rintro ⟨(x : SSlot), (y : SSlot), _⟩ hp
  refine holds_of (X := .br (x.mode != y.mode)
 (.leaf (mkR feqSlot.rs (false, ())) [] [])
 (.ob (feqAddr.pre (x.to, y.to, ())) <|
  .lt (Bool × PUnit) (feqAddr.fn (x.to, y.to, ())) fun z2 =>
  .br (!z2.fst)
   (.leaf (mkR feqSlot.rs (false, ())) [] [])
   (.br (!x.digest.toList == y.digest.toList)
    (.leaf (mkR feqSlot.rs (false, ())) [] [])
    (.br (x.node != y.node)
     (.leaf (mkR feqSlot.rs (false, ())) [] [])
     (.br (!x.done == y.done)
      (.leaf (mkR feqSlot.rs (false, ())) [] [])
      (.br (x.code != y.code)
       (.leaf (mkR feqSlot.rs (false, ())) [] [])
       (.br (!x.body.toList == y.body.toList)
        (.leaf (mkR feqSlot.rs (false, ())) [] [])
        (.leaf (mkR feqSlot.rs (true, ())) [] [])))))))) (by kernel_rfl) ?_
  refine br_i (fun h1 => Fct.leafY ?_) (fun h1 => ob_i trivial fun _ => lt_i (br_i (fun h2 => Fct.leafY ?_) (fun h2 => br_i (fun h3 => Fct.leafY ?_) (fun h3 => br_i (fun h4 => Fct.leafY ?_) (fun h4 => br_i (fun h5 => Fct.leafY ?_) (fun h5 => br_i (fun h6 => Fct.leafY ?_) (fun h6 => br_i (fun h7 => Fct.leafY ?_) (fun h7 => Fct.leafY ?_))))))))
  all_goals try simp only [std1, ne_eq] at *
  all_goals try simp only [feqAddr, feqSlot, etaS, std1, std2, Nat.reduceAdd, ne_eq] at *
  all_goals first | trivial | (cases x; cases y; simp_all; done) | (simp only [szAddr, szSlot] at *; omega) | grind [szAddr, szSlot])
def E79 : D.Env := E78.add 137 feqSlot
theorem E79ok : EOk Tryz.prog E79 := E78ok.add k137_78
set_option maxHeartbeats 2000000 in
theorem k82_79 : feqSlotS.ok Tryz.prog 82 := Fct.of (S := feqSlotS) (L := fun ⟨l, m, _⟩ => fun | 4 => some (LeqS .slot l m) | _ => none) (kp := [0,1,4,5,10,14,26,1000010,1000014,1000026]) E79ok Tryz.func82 (by kernel_rfl) (by kernel_rfl) (by
  rintro ⟨(l : List SSlot), (m : List SSlot), _⟩ hp
  refine holds_of (X := .br ((↑l.length : Int) != (↑m.length : Int))
 (.leaf (mkR feqSlotS.rs (false, ())) [] [])
 (lpx (LeqS .slot l m) ((0 : Int), ()) fun (y2 : Int × PUnit) bk2 =>
  .br (decide (y2.fst < (↑l.length : Int)))
   (.ob ((0 : Int) ≤ y2.fst ∧ y2.fst < (↑l.length : Int)) <|
    .ob ((0 : Int) ≤ y2.fst ∧ y2.fst < (↑m.length : Int)) <|
    .ob (feqSlot.pre (l.getD y2.fst.toNat default, m.getD y2.fst.toNat default, ())) <|
    .lt (Bool × PUnit) (feqSlot.fn (l.getD y2.fst.toNat default, m.getD y2.fst.toNat default, ())) fun z2 =>
    .br (!z2.fst)
     (.leaf (mkR feqSlotS.rs (false, ())) [] [])
     (.ob (l = l) <|
      .ob (m = m) <|
      .ob (bk2 (IntKind.i64.wrap (y2.fst + (1 : Int)), ())) <|
      .ok))
   (.leaf (mkR feqSlotS.rs (true, ())) [] []))) (by kernel_rfl) ?_
  refine br_i (fun h1 => Fct.leafY ?_) (fun h1 => lpx_i ?_ fun (y2 : Int × PUnit) i2 => br_i (fun h3 => ob_i ?_ fun o4 => ob_i ?_ fun o5 => ob_i trivial fun _ => lt_i (br_i (fun h6 => Fct.leafY ?_) (fun h6 => ob_i rfl fun _ => ob_i rfl fun _ => ob_i ?_ fun o7 => trivial))) (fun h3 => Fct.leafY ?_))
  all_goals try simp only [std1, ne_eq] at *
  all_goals try simp only [LeqS, feqSlot, feqSlotS, etaS, std1, std2, Nat.reduceAdd, ne_eq] at *
  · rw [decide_eq_false]; rintro rfl; omega
  · exact ⟨by omega, by omega, by simp⟩
  · omega
  · omega
  · rw [decide_eq_false]; rintro rfl; exact absurd rfl h6
  · have hw : IntKind.i64.wrap (y2.1 + 1) = y2.1 + 1 := wrapId (by omega)
    rw [hw, toNat1 (by omega)]
    refine ⟨⟨by omega, by omega, ?_⟩, by omega⟩
    rw [take_succ (by omega), take_succ (by omega), i2.2.2, h6]
  · have e : l.take y2.1.toNat = l := List.take_of_length_le (by omega)
    have e2 : m.take y2.1.toNat = m := List.take_of_length_le (by omega)
    rw [decide_eq_true]; rw [← e, ← e2, i2.2.2])
def E80 : D.Env := E79.add 82 feqSlotS
theorem E80ok : EOk Tryz.prog E80 := E79ok.add k82_79
set_option maxHeartbeats 2000000 in
theorem k96_80 : fmarkSlotS.ok Tryz.prog 96 := MS.of (S := fmarkSlotS) (L := fun l k => fun | 2 => some (LmkS .slot mkSlot l k) | _ => none) (kp := [0,1,4,5,9,1000009]) (kl := [0]) E80ok Tryz.func96 (by kernel_rfl) (by kernel_rfl) (by
  rintro (l : List SSlot) (k : Int) hp
  refine holds_of (X := lpx (LmkS .slot mkSlot l k) (k, ((0 : Int), (l, ()))) fun (y1 : Int × Int × List SSlot × PUnit) bk1 =>
 .br (decide (y1.snd.fst < (↑y1.snd.snd.fst.length : Int)))
  (.ob ((0 : Int) ≤ y1.snd.fst ∧ y1.snd.fst < (↑y1.snd.snd.fst.length : Int)) <|
   .ob (y1.snd.fst.toNat < y1.snd.snd.fst.length) <|
   .lt (List SSlot) (y1.snd.snd.fst.modify y1.snd.fst.toNat fun z =>
  { mode := y1.fst, to := z.to, digest := z.digest, node := z.node, done := z.done, code := z.code, body := z.body :
    SSlot }) fun z2 =>
   .ob (fmarkText.pre (IntKind.i64.wrap (y1.fst + (1 : Int)), ())) <|
    .lt (ByteArray × PUnit) (fmarkText.fn (IntKind.i64.wrap (y1.fst + (1 : Int)), ())) fun z3 =>
    .ob ((0 : Int) ≤ y1.snd.fst ∧ y1.snd.fst < (↑z2.length : Int)) <|
     .ob (y1.snd.fst.toNat < z2.length) <|
     .lt (List SSlot) (z2.modify y1.snd.fst.toNat fun z =>
  { mode := z.mode, to := { host := z3.fst, path := z.to.path : SAddr }, digest := z.digest, node := z.node,
    done := z.done, code := z.code, body := z.body : SSlot }) fun z4 =>
     .ob (fmarkText.pre (IntKind.i64.wrap (IntKind.i64.wrap (y1.fst + (1 : Int)) + (1 : Int)), ())) <|
      .lt (ByteArray × PUnit) (fmarkText.fn (IntKind.i64.wrap (IntKind.i64.wrap (y1.fst + (1 : Int)) + (1 : Int)), ())) fun z5 =>
      .ob ((0 : Int) ≤ y1.snd.fst ∧ y1.snd.fst < (↑z4.length : Int)) <|
       .ob (y1.snd.fst.toNat < z4.length) <|
       .lt (List SSlot) (z4.modify y1.snd.fst.toNat fun z =>
  { mode := z.mode, to := { host := z.to.host, path := z5.fst : SAddr }, digest := z.digest, node := z.node,
    done := z.done, code := z.code, body := z.body : SSlot }) fun z6 =>
       .ob (fmarkText.pre (IntKind.i64.wrap (IntKind.i64.wrap (IntKind.i64.wrap (y1.fst + (1 : Int)) + (1 : Int)) + (1 : Int)), ())) <|
        .lt (ByteArray × PUnit) (fmarkText.fn (IntKind.i64.wrap (IntKind.i64.wrap (IntKind.i64.wrap (y1.fst + (1 : Int)) + (1 : Int)) + (1 : Int)), ())) fun z7 =>
        .ob ((0 : Int) ≤ y1.snd.fst ∧ y1.snd.fst < (↑z6.length : Int)) <|
         .ob (y1.snd.fst.toNat < z6.length) <|
         .lt (List SSlot) (z6.modify y1.snd.fst.toNat fun z =>
  { mode := z.mode, to := z.to, digest := z7.fst, node := z.node, done := z.done, code := z.code, body := z.body :
    SSlot }) fun z8 =>
         .ob ((0 : Int) ≤ y1.snd.fst ∧ y1.snd.fst < (↑z8.length : Int)) <|
          .ob (y1.snd.fst.toNat < z8.length) <|
          .lt (List SSlot) (z8.modify y1.snd.fst.toNat fun z =>
  { mode := z.mode, to := z.to, digest := z.digest,
    node :=
      IntKind.i64.wrap
        (IntKind.i64.wrap (IntKind.i64.wrap (IntKind.i64.wrap (y1.fst + (1 : Int)) + (1 : Int)) + (1 : Int)) +
          (1 : Int)),
    done := z.done, code := z.code, body := z.body : SSlot }) fun z9 =>
          .ob ((3 : Int) ≠ (0 : Int)) <|
           .ob ((0 : Int) ≤ y1.snd.fst ∧ y1.snd.fst < (↑z9.length : Int)) <|
           .ob (y1.snd.fst.toNat < z9.length) <|
           .lt (List SSlot) (z9.modify y1.snd.fst.toNat fun z =>
  { mode := z.mode, to := z.to, digest := z.digest, node := z.node,
    done :=
      (IntKind.i64.wrap
              (IntKind.i64.wrap
                  (IntKind.i64.wrap (IntKind.i64.wrap (IntKind.i64.wrap (y1.fst + (1 : Int)) + (1 : Int)) + (1 : Int)) +
                    (1 : Int)) +
                (1 : Int))).tmod
          (3 : Int) ==
        (0 : Int),
    code := z.code, body := z.body : SSlot }) fun z10 =>
           .ob ((0 : Int) ≤ y1.snd.fst ∧ y1.snd.fst < (↑z10.length : Int)) <|
            .ob (y1.snd.fst.toNat < z10.length) <|
            .lt (List SSlot) (z10.modify y1.snd.fst.toNat fun z =>
  { mode := z.mode, to := z.to, digest := z.digest, node := z.node, done := z.done,
    code :=
      IntKind.i64.wrap
        (IntKind.i64.wrap
            (IntKind.i64.wrap
                (IntKind.i64.wrap (IntKind.i64.wrap (IntKind.i64.wrap (y1.fst + (1 : Int)) + (1 : Int)) + (1 : Int)) +
                  (1 : Int)) +
              (1 : Int)) +
          (1 : Int)),
    body := z.body : SSlot }) fun z11 =>
            .ob (fmarkText.pre
  (IntKind.i64.wrap
      (IntKind.i64.wrap
          (IntKind.i64.wrap
              (IntKind.i64.wrap
                  (IntKind.i64.wrap (IntKind.i64.wrap (IntKind.i64.wrap (y1.fst + (1 : Int)) + (1 : Int)) + (1 : Int)) +
                    (1 : Int)) +
                (1 : Int)) +
            (1 : Int)) +
        (1 : Int)),
    ())) <|
             .lt (ByteArray × PUnit) (fmarkText.fn
  (IntKind.i64.wrap
      (IntKind.i64.wrap
          (IntKind.i64.wrap
              (IntKind.i64.wrap
                  (IntKind.i64.wrap (IntKind.i64.wrap (IntKind.i64.wrap (y1.fst + (1 : Int)) + (1 : Int)) + (1 : Int)) +
                    (1 : Int)) +
                (1 : Int)) +
            (1 : Int)) +
        (1 : Int)),
    ())) fun z12 =>
             .ob ((0 : Int) ≤ y1.snd.fst ∧ y1.snd.fst < (↑z11.length : Int)) <|
              .ob (y1.snd.fst.toNat < z11.length) <|
              .lt (List SSlot) (z11.modify y1.snd.fst.toNat fun z =>
  { mode := z.mode, to := z.to, digest := z.digest, node := z.node, done := z.done, code := z.code, body := z12.fst :
    SSlot }) fun z13 =>
              .ob (Value.int IntKind.i64 (0 : Int) = Value.int IntKind.i64 (0 : Int)) <|
               .ob (bk1 (IntKind.i64.wrap
  (IntKind.i64.wrap
      (IntKind.i64.wrap
          (IntKind.i64.wrap
              (IntKind.i64.wrap
                  (IntKind.i64.wrap (IntKind.i64.wrap (IntKind.i64.wrap (y1.fst + (1 : Int)) + (1 : Int)) + (1 : Int)) +
                    (1 : Int)) +
                (1 : Int)) +
            (1 : Int)) +
        (1 : Int)) +
    (1 : Int)), (IntKind.i64.wrap (y1.snd.fst + (1 : Int)), (z13, ())))) <|
               .ok)
  (.leaf (.one false [vi (y1.fst)]) [] [((0 : Nat), ⟨Ty.slot, y1.snd.snd.fst⟩)])) (by kernel_rfl) ?_
  refine lpx_i ?_ fun (y1 : Int × Int × List SSlot × PUnit) i1 => br_i (fun h2 => ob_i ?_ fun o3 => ob_i ?_ fun o4 => lt_i (ob_i ?_ fun o5 => lt_i (ob_i ?_ fun o6 => ob_i ?_ fun o7 => lt_i (ob_i ?_ fun o8 => lt_i (ob_i ?_ fun o9 => ob_i ?_ fun o10 => lt_i (ob_i ?_ fun o11 => lt_i (ob_i ?_ fun o12 => ob_i ?_ fun o13 => lt_i (ob_i ?_ fun o14 => ob_i ?_ fun o15 => lt_i (ob_i ?_ fun o16 => ob_i ?_ fun o17 => ob_i ?_ fun o18 => lt_i (ob_i ?_ fun o19 => ob_i ?_ fun o20 => lt_i (ob_i ?_ fun o21 => lt_i (ob_i ?_ fun o22 => ob_i ?_ fun o23 => lt_i (ob_i rfl fun _ => ob_i ?_ fun o24 => trivial))))))))))))) (fun h2 => MS.leaf ?_)
  · exact ⟨by simp, by simp, by simp [markL], by simp [markL]⟩
  all_goals have hp1 : 0 ≤ k := hp.1
  all_goals have hp2 : (markL mkSlot l k).2 ≤ 4000000000000000000 := hp.2
  all_goals have i3 : 0 ≤ y1.2.1 ∧ y1.2.1 ≤ l.length ∧ y1.1 = (markL mkSlot (l.take y1.2.1.toNat) k).2 ∧ y1.2.2.1 = (markL mkSlot (l.take y1.2.1.toNat) k).1 ++ l.drop y1.2.1.toNat := i1
  all_goals have hcnt := markL_cnt (f := mkSlot) (fun x k => by simp only [mkSlot]; omega) l k
  all_goals have hx : y1.2.2.1.length = l.length := by rw [i3.2.2.2, List.length_append, markL_len, List.length_take, List.length_drop]; omega
  all_goals simp only [decide_eq_true_eq, decide_eq_false_iff_not, hx] at h2
  all_goals clear i1
  all_goals try have hlt : y1.2.1.toNat < l.length := by omega
  all_goals try have ht := markL_take (f := mkSlot) hlt k
  all_goals try have hle := (markL_take_le mkSlot_mono l (y1.2.1.toNat + 1) k).2
  all_goals try have hl0 := (markL_take_le mkSlot_mono l y1.2.1.toNat k).1
  all_goals try rw [ht] at hle
  all_goals try rw [← i3.2.2.1] at hle hl0 ht
  all_goals try simp only [mkSlot] at hle
  all_goals first | decide | (simp only [List.length_modify, hx]; omega) | (refine ⟨?_, ?_⟩ <;> (try simp (discharger := omega) only [wrapId']) <;> omega) | skip
  · try clear o3 o4 o5
    simp (discharger := omega) only [wrapId', fmarkText]
    have hA : (markL mkSlot (l.take y1.2.1.toNat) k).1.length = y1.2.1.toNat := by rw [markL_len, List.length_take]; omega
    refine ⟨⟨by omega, by omega, ?_, ?_⟩, ?_⟩
    · rw [toNat1 (by omega), ht]
      first | done | (simp only [mkSlot]; done) | (simp only [mkSlot]; omega)
    · rw [toNat1 (by omega), ht, i3.2.2.2, drop_cons hlt]
      simp only [mod_at hA, mkSlot, Int.add_assoc, Int.reduceAdd, List.append_assoc, List.cons_append, List.nil_append]
    · omega
  · refine MS.leafL (t := .slot) (fn := fun l k => markL mkSlot l k) ?_
    have e1 : l.take y1.2.1.toNat = l := List.take_of_length_le (by omega)
    have e2 : l.drop y1.2.1.toNat = [] := List.drop_of_length_le (by omega)
    rw [i3.2.2.2, i3.2.2.1, e1, e2, List.append_nil])
def E81 : D.Env := E80.addM 96 fmarkSlotS
theorem E81ok : EOk Tryz.prog E81 := E80ok.addM k96_80
set_option maxHeartbeats 2000000 in
theorem k105_81 : fheldSlotS.ok Tryz.prog 105 := Fct.of (S := fheldSlotS) (L := fun ⟨l, k, _⟩ => fun | 2 => some (LheS .slot mkSlot l k) | _ => none) (kp := [0,1,4,5,9,18,29,40,50,59,70,79,89,1000009,1000018,1000029,1000040,1000050,1000059,1000070,1000079,1000089]) E81ok Tryz.func105 (by kernel_rfl) (by kernel_rfl) (by
  rintro ⟨(l : List SSlot), (k : Int), _⟩ hp
  refine holds_of (X := lpx (LheS .slot mkSlot l k) (k, ((0 : Int), ())) fun (y1 : Int × Int × PUnit) bk1 =>
 .br (decide (y1.snd.fst < (↑l.length : Int)))
  (.ob ((0 : Int) ≤ y1.snd.fst ∧ y1.snd.fst < (↑l.length : Int)) <|
   .br ((l.getD y1.snd.fst.toNat default).mode != y1.fst)
   (.leaf (mkR fheldSlotS.rs ((-1 : Int), ())) [] [])
   (.ob ((0 : Int) ≤ y1.snd.fst ∧ y1.snd.fst < (↑l.length : Int)) <|
    .ob (fmarkText.pre (IntKind.i64.wrap (y1.fst + (1 : Int)), ())) <|
    .lt (ByteArray × PUnit) (fmarkText.fn (IntKind.i64.wrap (y1.fst + (1 : Int)), ())) fun z2 =>
    .br (!(l.getD y1.snd.fst.toNat default).to.host.toList == z2.fst.toList)
     (.leaf (mkR fheldSlotS.rs ((-1 : Int), ())) [] [])
     (.ob ((0 : Int) ≤ y1.snd.fst ∧ y1.snd.fst < (↑l.length : Int)) <|
      .ob (fmarkText.pre (IntKind.i64.wrap (IntKind.i64.wrap (y1.fst + (1 : Int)) + (1 : Int)), ())) <|
      .lt (ByteArray × PUnit) (fmarkText.fn (IntKind.i64.wrap (IntKind.i64.wrap (y1.fst + (1 : Int)) + (1 : Int)), ())) fun z3 =>
      .br (!(l.getD y1.snd.fst.toNat default).to.path.toList == z3.fst.toList)
       (.leaf (mkR fheldSlotS.rs ((-1 : Int), ())) [] [])
       (.ob ((0 : Int) ≤ y1.snd.fst ∧ y1.snd.fst < (↑l.length : Int)) <|
        .ob (fmarkText.pre (IntKind.i64.wrap (IntKind.i64.wrap (IntKind.i64.wrap (y1.fst + (1 : Int)) + (1 : Int)) + (1 : Int)), ())) <|
        .lt (ByteArray × PUnit) (fmarkText.fn (IntKind.i64.wrap (IntKind.i64.wrap (IntKind.i64.wrap (y1.fst + (1 : Int)) + (1 : Int)) + (1 : Int)), ())) fun z4 =>
        .br (!(l.getD y1.snd.fst.toNat default).digest.toList == z4.fst.toList)
         (.leaf (mkR fheldSlotS.rs ((-1 : Int), ())) [] [])
         (.ob ((0 : Int) ≤ y1.snd.fst ∧ y1.snd.fst < (↑l.length : Int)) <|
          .br ((l.getD y1.snd.fst.toNat default).node !=
  IntKind.i64.wrap
    (IntKind.i64.wrap (IntKind.i64.wrap (IntKind.i64.wrap (y1.fst + (1 : Int)) + (1 : Int)) + (1 : Int)) + (1 : Int)))
          (.leaf (mkR fheldSlotS.rs ((-1 : Int), ())) [] [])
          (.ob ((0 : Int) ≤ y1.snd.fst ∧ y1.snd.fst < (↑l.length : Int)) <|
           .ob ((3 : Int) ≠ (0 : Int)) <|
           .br (!(l.getD y1.snd.fst.toNat default).done ==
    ((IntKind.i64.wrap
            (IntKind.i64.wrap
                (IntKind.i64.wrap (IntKind.i64.wrap (IntKind.i64.wrap (y1.fst + (1 : Int)) + (1 : Int)) + (1 : Int)) +
                  (1 : Int)) +
              (1 : Int))).tmod
        (3 : Int) ==
      (0 : Int)))
           (.leaf (mkR fheldSlotS.rs ((-1 : Int), ())) [] [])
           (.ob ((0 : Int) ≤ y1.snd.fst ∧ y1.snd.fst < (↑l.length : Int)) <|
            .br ((l.getD y1.snd.fst.toNat default).code !=
  IntKind.i64.wrap
    (IntKind.i64.wrap
        (IntKind.i64.wrap
            (IntKind.i64.wrap (IntKind.i64.wrap (IntKind.i64.wrap (y1.fst + (1 : Int)) + (1 : Int)) + (1 : Int)) +
              (1 : Int)) +
          (1 : Int)) +
      (1 : Int)))
            (.leaf (mkR fheldSlotS.rs ((-1 : Int), ())) [] [])
            (.ob ((0 : Int) ≤ y1.snd.fst ∧ y1.snd.fst < (↑l.length : Int)) <|
             .ob (fmarkText.pre
  (IntKind.i64.wrap
      (IntKind.i64.wrap
          (IntKind.i64.wrap
              (IntKind.i64.wrap
                  (IntKind.i64.wrap (IntKind.i64.wrap (IntKind.i64.wrap (y1.fst + (1 : Int)) + (1 : Int)) + (1 : Int)) +
                    (1 : Int)) +
                (1 : Int)) +
            (1 : Int)) +
        (1 : Int)),
    ())) <|
             .lt (ByteArray × PUnit) (fmarkText.fn
  (IntKind.i64.wrap
      (IntKind.i64.wrap
          (IntKind.i64.wrap
              (IntKind.i64.wrap
                  (IntKind.i64.wrap (IntKind.i64.wrap (IntKind.i64.wrap (y1.fst + (1 : Int)) + (1 : Int)) + (1 : Int)) +
                    (1 : Int)) +
                (1 : Int)) +
            (1 : Int)) +
        (1 : Int)),
    ())) fun z5 =>
             .br (!(l.getD y1.snd.fst.toNat default).body.toList == z5.fst.toList)
              (.leaf (mkR fheldSlotS.rs ((-1 : Int), ())) [] [])
              (.ob (l = l) <|
               .ob (bk1 (IntKind.i64.wrap
  (IntKind.i64.wrap
      (IntKind.i64.wrap
          (IntKind.i64.wrap
              (IntKind.i64.wrap
                  (IntKind.i64.wrap (IntKind.i64.wrap (IntKind.i64.wrap (y1.fst + (1 : Int)) + (1 : Int)) + (1 : Int)) +
                    (1 : Int)) +
                (1 : Int)) +
            (1 : Int)) +
        (1 : Int)) +
    (1 : Int)), (IntKind.i64.wrap (y1.snd.fst + (1 : Int)), ()))) <|
               .ok)))))))))
  (.leaf (mkR fheldSlotS.rs (y1.fst, ())) [] [])) (by kernel_rfl) ?_
  refine lpx_i ?_ fun (y1 : Int × Int × PUnit) i1 => br_i (fun h2 => ob_i ?_ fun o3 => br_i (fun h4 => Fct.leafY ?_) (fun h4 => ob_i ?_ fun o5 => ob_i ?_ fun o6 => lt_i (br_i (fun h7 => Fct.leafY ?_) (fun h7 => ob_i ?_ fun o8 => ob_i ?_ fun o9 => lt_i (br_i (fun h10 => Fct.leafY ?_) (fun h10 => ob_i ?_ fun o11 => ob_i ?_ fun o12 => lt_i (br_i (fun h13 => Fct.leafY ?_) (fun h13 => ob_i ?_ fun o14 => br_i (fun h15 => Fct.leafY ?_) (fun h15 => ob_i ?_ fun o16 => ob_i ?_ fun o17 => br_i (fun h18 => Fct.leafY ?_) (fun h18 => ob_i ?_ fun o19 => br_i (fun h20 => Fct.leafY ?_) (fun h20 => ob_i ?_ fun o21 => ob_i ?_ fun o22 => lt_i (br_i (fun h23 => Fct.leafY ?_) (fun h23 => ob_i rfl fun _ => ob_i ?_ fun o24 => trivial))))))))))))) (fun h2 => Fct.leafY ?_)
  · exact ⟨by simp, by simp, by simp [markL]⟩
  all_goals have hp1 : 0 ≤ k := hp.1
  all_goals have hp2 : (markL mkSlot l k).2 ≤ 4000000000000000000 := hp.2.1
  all_goals have hp3 : (markL mkSlot l k).1 = l := hp.2.2
  all_goals have i3 : 0 ≤ y1.2.1 ∧ y1.2.1 ≤ l.length ∧ y1.1 = (markL mkSlot (l.take y1.2.1.toNat) k).2 := i1
  all_goals have hcnt := markL_cnt (f := mkSlot) (fun x k => by simp only [mkSlot]; omega) l k
  all_goals simp only [decide_eq_true_eq, decide_eq_false_iff_not] at h2
  all_goals clear i1 hp
  all_goals try have hlt : y1.2.1.toNat < l.length := by omega
  all_goals try have ht := markL_take (f := mkSlot) hlt k
  all_goals try have hle := (markL_take_le mkSlot_mono l (y1.2.1.toNat + 1) k).2
  all_goals try have hl0 := (markL_take_le mkSlot_mono l y1.2.1.toNat k).1
  all_goals try have heq := markL_held hp3 hlt
  all_goals try rw [ht] at hle
  all_goals try rw [← i3.2.2] at hle hl0 ht heq
  all_goals try simp only [mkSlot] at hle heq
  all_goals first | decide | omega | (refine ⟨?_, ?_⟩ <;> (try simp (discharger := omega) only [wrapId']) <;> omega) | skip
  all_goals try (exfalso; clear ht; generalize l.getD y1.2.1.toNat default = c at *; subst heq; simp (discharger := omega) [wrapId', fmarkText, Int.add_assoc] at *; done)
  · simp (discharger := omega) only [wrapId']
    refine ⟨⟨by omega, by omega, ?_⟩, ?_⟩
    · rw [toNat1 (by omega), ht]
      first | done | (simp only [mkSlot]; done) | (simp only [mkSlot]; omega)
    · omega
  · have e1 : l.take y1.2.1.toNat = l := List.take_of_length_le (by omega)
    rw [e1] at i3
    show (y1.1, ()) = ((markL mkSlot l k).2, ())
    rw [i3.2.2])
def E82 : D.Env := E81.add 105 fheldSlotS
theorem E82ok : EOk Tryz.prog E82 := E81ok.add k105_81
set_option maxHeartbeats 2000000 in
theorem k138_82 : feqModule.ok Tryz.prog 138 := Fct.of (S := feqModule) (L := fun _ _ => none) (kp := [2,3,4,10,15,20,25,1000010,1000015,1000020,1000025]) E82ok Tryz.func138 (by kernel_rfl) (by kernel_rfl) (by
  rintro ⟨(x : SModule), (y : SModule), _⟩ hp
  refine holds_of (X := .ob (feqAddr.pre (x.to, y.to, ())) <|
 .lt (Bool × PUnit) (feqAddr.fn (x.to, y.to, ())) fun z2 =>
 .br (!z2.fst)
  (.leaf (mkR feqModule.rs (false, ())) [] [])
  (.br (!x.done == y.done)
   (.leaf (mkR feqModule.rs (false, ())) [] [])
   (.br (x.code != y.code)
    (.leaf (mkR feqModule.rs (false, ())) [] [])
    (.br (!x.body.toList == y.body.toList)
     (.leaf (mkR feqModule.rs (false, ())) [] [])
     (.leaf (mkR feqModule.rs (true, ())) [] []))))) (by kernel_rfl) ?_
  refine ob_i trivial fun _ => lt_i (br_i (fun h1 => Fct.leafY ?_) (fun h1 => br_i (fun h2 => Fct.leafY ?_) (fun h2 => br_i (fun h3 => Fct.leafY ?_) (fun h3 => br_i (fun h4 => Fct.leafY ?_) (fun h4 => Fct.leafY ?_)))))
  all_goals try simp only [std1, ne_eq] at *
  all_goals try simp only [feqAddr, feqModule, etaS, std1, std2, Nat.reduceAdd, ne_eq] at *
  all_goals first | trivial | (cases x; cases y; simp_all; done) | (simp only [szAddr, szModule] at *; omega) | grind [szAddr, szModule])
def E83 : D.Env := E82.add 138 feqModule
theorem E83ok : EOk Tryz.prog E83 := E82ok.add k138_82
set_option maxHeartbeats 2000000 in
theorem k83_83 : feqModuleS.ok Tryz.prog 83 := Fct.of (S := feqModuleS) (L := fun ⟨l, m, _⟩ => fun | 4 => some (LeqS .module l m) | _ => none) (kp := [0,1,4,5,10,14,26,1000010,1000014,1000026]) E83ok Tryz.func83 (by kernel_rfl) (by kernel_rfl) (by
  rintro ⟨(l : List SModule), (m : List SModule), _⟩ hp
  refine holds_of (X := .br ((↑l.length : Int) != (↑m.length : Int))
 (.leaf (mkR feqModuleS.rs (false, ())) [] [])
 (lpx (LeqS .module l m) ((0 : Int), ()) fun (y2 : Int × PUnit) bk2 =>
  .br (decide (y2.fst < (↑l.length : Int)))
   (.ob ((0 : Int) ≤ y2.fst ∧ y2.fst < (↑l.length : Int)) <|
    .ob ((0 : Int) ≤ y2.fst ∧ y2.fst < (↑m.length : Int)) <|
    .ob (feqModule.pre (l.getD y2.fst.toNat default, m.getD y2.fst.toNat default, ())) <|
    .lt (Bool × PUnit) (feqModule.fn (l.getD y2.fst.toNat default, m.getD y2.fst.toNat default, ())) fun z2 =>
    .br (!z2.fst)
     (.leaf (mkR feqModuleS.rs (false, ())) [] [])
     (.ob (l = l) <|
      .ob (m = m) <|
      .ob (bk2 (IntKind.i64.wrap (y2.fst + (1 : Int)), ())) <|
      .ok))
   (.leaf (mkR feqModuleS.rs (true, ())) [] []))) (by kernel_rfl) ?_
  refine br_i (fun h1 => Fct.leafY ?_) (fun h1 => lpx_i ?_ fun (y2 : Int × PUnit) i2 => br_i (fun h3 => ob_i ?_ fun o4 => ob_i ?_ fun o5 => ob_i trivial fun _ => lt_i (br_i (fun h6 => Fct.leafY ?_) (fun h6 => ob_i rfl fun _ => ob_i rfl fun _ => ob_i ?_ fun o7 => trivial))) (fun h3 => Fct.leafY ?_))
  all_goals try simp only [std1, ne_eq] at *
  all_goals try simp only [LeqS, feqModule, feqModuleS, etaS, std1, std2, Nat.reduceAdd, ne_eq] at *
  · rw [decide_eq_false]; rintro rfl; omega
  · exact ⟨by omega, by omega, by simp⟩
  · omega
  · omega
  · rw [decide_eq_false]; rintro rfl; exact absurd rfl h6
  · have hw : IntKind.i64.wrap (y2.1 + 1) = y2.1 + 1 := wrapId (by omega)
    rw [hw, toNat1 (by omega)]
    refine ⟨⟨by omega, by omega, ?_⟩, by omega⟩
    rw [take_succ (by omega), take_succ (by omega), i2.2.2, h6]
  · have e : l.take y2.1.toNat = l := List.take_of_length_le (by omega)
    have e2 : m.take y2.1.toNat = m := List.take_of_length_le (by omega)
    rw [decide_eq_true]; rw [← e, ← e2, i2.2.2])
def E84 : D.Env := E83.add 83 feqModuleS
theorem E84ok : EOk Tryz.prog E84 := E83ok.add k83_83
set_option maxHeartbeats 2000000 in
theorem k97_84 : fmarkModuleS.ok Tryz.prog 97 := MS.of (S := fmarkModuleS) (L := fun l k => fun | 2 => some (LmkS .module mkModule l k) | _ => none) (kp := [0,1,4,5,9,1000009]) (kl := [0]) E84ok Tryz.func97 (by kernel_rfl) (by kernel_rfl) (by
  rintro (l : List SModule) (k : Int) hp
  refine holds_of (X := lpx (LmkS .module mkModule l k) (k, ((0 : Int), (l, ()))) fun (y1 : Int × Int × List SModule × PUnit) bk1 =>
 .br (decide (y1.snd.fst < (↑y1.snd.snd.fst.length : Int)))
  (.ob (fmarkText.pre (y1.fst, ())) <|
   .lt (ByteArray × PUnit) (fmarkText.fn (y1.fst, ())) fun z2 =>
   .ob ((0 : Int) ≤ y1.snd.fst ∧ y1.snd.fst < (↑y1.snd.snd.fst.length : Int)) <|
    .ob (y1.snd.fst.toNat < y1.snd.snd.fst.length) <|
    .lt (List SModule) (y1.snd.snd.fst.modify y1.snd.fst.toNat fun z =>
  { to := { host := z2.fst, path := z.to.path : SAddr }, done := z.done, code := z.code, body := z.body : SModule }) fun z3 =>
    .ob (fmarkText.pre (IntKind.i64.wrap (y1.fst + (1 : Int)), ())) <|
     .lt (ByteArray × PUnit) (fmarkText.fn (IntKind.i64.wrap (y1.fst + (1 : Int)), ())) fun z4 =>
     .ob ((0 : Int) ≤ y1.snd.fst ∧ y1.snd.fst < (↑z3.length : Int)) <|
      .ob (y1.snd.fst.toNat < z3.length) <|
      .lt (List SModule) (z3.modify y1.snd.fst.toNat fun z =>
  { to := { host := z.to.host, path := z4.fst : SAddr }, done := z.done, code := z.code, body := z.body : SModule }) fun z5 =>
      .ob ((3 : Int) ≠ (0 : Int)) <|
       .ob ((0 : Int) ≤ y1.snd.fst ∧ y1.snd.fst < (↑z5.length : Int)) <|
       .ob (y1.snd.fst.toNat < z5.length) <|
       .lt (List SModule) (z5.modify y1.snd.fst.toNat fun z =>
  { to := z.to,
    done := (IntKind.i64.wrap (IntKind.i64.wrap (y1.fst + (1 : Int)) + (1 : Int))).tmod (3 : Int) == (0 : Int),
    code := z.code, body := z.body : SModule }) fun z6 =>
       .ob ((0 : Int) ≤ y1.snd.fst ∧ y1.snd.fst < (↑z6.length : Int)) <|
        .ob (y1.snd.fst.toNat < z6.length) <|
        .lt (List SModule) (z6.modify y1.snd.fst.toNat fun z =>
  { to := z.to, done := z.done,
    code := IntKind.i64.wrap (IntKind.i64.wrap (IntKind.i64.wrap (y1.fst + (1 : Int)) + (1 : Int)) + (1 : Int)),
    body := z.body : SModule }) fun z7 =>
        .ob (fmarkText.pre
  (IntKind.i64.wrap
      (IntKind.i64.wrap (IntKind.i64.wrap (IntKind.i64.wrap (y1.fst + (1 : Int)) + (1 : Int)) + (1 : Int)) + (1 : Int)),
    ())) <|
         .lt (ByteArray × PUnit) (fmarkText.fn
  (IntKind.i64.wrap
      (IntKind.i64.wrap (IntKind.i64.wrap (IntKind.i64.wrap (y1.fst + (1 : Int)) + (1 : Int)) + (1 : Int)) + (1 : Int)),
    ())) fun z8 =>
         .ob ((0 : Int) ≤ y1.snd.fst ∧ y1.snd.fst < (↑z7.length : Int)) <|
          .ob (y1.snd.fst.toNat < z7.length) <|
          .lt (List SModule) (z7.modify y1.snd.fst.toNat fun z => { to := z.to, done := z.done, code := z.code, body := z8.fst : SModule }) fun z9 =>
          .ob (Value.int IntKind.i64 (0 : Int) = Value.int IntKind.i64 (0 : Int)) <|
           .ob (bk1 (IntKind.i64.wrap
  (IntKind.i64.wrap
      (IntKind.i64.wrap (IntKind.i64.wrap (IntKind.i64.wrap (y1.fst + (1 : Int)) + (1 : Int)) + (1 : Int)) +
        (1 : Int)) +
    (1 : Int)), (IntKind.i64.wrap (y1.snd.fst + (1 : Int)), (z9, ())))) <|
           .ok)
  (.leaf (.one false [vi (y1.fst)]) [] [((0 : Nat), ⟨Ty.module, y1.snd.snd.fst⟩)])) (by kernel_rfl) ?_
  refine lpx_i ?_ fun (y1 : Int × Int × List SModule × PUnit) i1 => br_i (fun h2 => ob_i ?_ fun o3 => lt_i (ob_i ?_ fun o4 => ob_i ?_ fun o5 => lt_i (ob_i ?_ fun o6 => lt_i (ob_i ?_ fun o7 => ob_i ?_ fun o8 => lt_i (ob_i ?_ fun o9 => ob_i ?_ fun o10 => ob_i ?_ fun o11 => lt_i (ob_i ?_ fun o12 => ob_i ?_ fun o13 => lt_i (ob_i ?_ fun o14 => lt_i (ob_i ?_ fun o15 => ob_i ?_ fun o16 => lt_i (ob_i rfl fun _ => ob_i ?_ fun o17 => trivial))))))))) (fun h2 => MS.leaf ?_)
  · exact ⟨by simp, by simp, by simp [markL], by simp [markL]⟩
  all_goals have hp1 : 0 ≤ k := hp.1
  all_goals have hp2 : (markL mkModule l k).2 ≤ 4000000000000000000 := hp.2
  all_goals have i3 : 0 ≤ y1.2.1 ∧ y1.2.1 ≤ l.length ∧ y1.1 = (markL mkModule (l.take y1.2.1.toNat) k).2 ∧ y1.2.2.1 = (markL mkModule (l.take y1.2.1.toNat) k).1 ++ l.drop y1.2.1.toNat := i1
  all_goals have hcnt := markL_cnt (f := mkModule) (fun x k => by simp only [mkModule]; omega) l k
  all_goals have hx : y1.2.2.1.length = l.length := by rw [i3.2.2.2, List.length_append, markL_len, List.length_take, List.length_drop]; omega
  all_goals simp only [decide_eq_true_eq, decide_eq_false_iff_not, hx] at h2
  all_goals clear i1
  all_goals try have hlt : y1.2.1.toNat < l.length := by omega
  all_goals try have ht := markL_take (f := mkModule) hlt k
  all_goals try have hle := (markL_take_le mkModule_mono l (y1.2.1.toNat + 1) k).2
  all_goals try have hl0 := (markL_take_le mkModule_mono l y1.2.1.toNat k).1
  all_goals try rw [ht] at hle
  all_goals try rw [← i3.2.2.1] at hle hl0 ht
  all_goals try simp only [mkModule] at hle
  all_goals first | decide | (simp only [List.length_modify, hx]; omega) | (refine ⟨?_, ?_⟩ <;> (try simp (discharger := omega) only [wrapId']) <;> omega) | skip
  · try clear o3 o4 o5
    simp (discharger := omega) only [wrapId', fmarkText]
    have hA : (markL mkModule (l.take y1.2.1.toNat) k).1.length = y1.2.1.toNat := by rw [markL_len, List.length_take]; omega
    refine ⟨⟨by omega, by omega, ?_, ?_⟩, ?_⟩
    · rw [toNat1 (by omega), ht]
      first | done | (simp only [mkModule]; done) | (simp only [mkModule]; omega)
    · rw [toNat1 (by omega), ht, i3.2.2.2, drop_cons hlt]
      simp only [mod_at hA, mkModule, Int.add_assoc, Int.reduceAdd, List.append_assoc, List.cons_append, List.nil_append]
    · omega
  · refine MS.leafL (t := .module) (fn := fun l k => markL mkModule l k) ?_
    have e1 : l.take y1.2.1.toNat = l := List.take_of_length_le (by omega)
    have e2 : l.drop y1.2.1.toNat = [] := List.drop_of_length_le (by omega)
    rw [i3.2.2.2, i3.2.2.1, e1, e2, List.append_nil])
def E85 : D.Env := E84.addM 97 fmarkModuleS
theorem E85ok : EOk Tryz.prog E85 := E84ok.addM k97_84
end Go.Proofs.YtbdeibnmmdhohaaGreatDoor.fnExactStartLoad
