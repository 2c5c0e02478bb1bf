/-
  Contracts of functions that the law of FnExactGuessNext reaches, part 1.
-/
import Derived.Test.YtccooffhmjgjfaaGreatDoorVLe
import Derived.Test.YtccooffhmjgjfaaGreatDoorRows
import Derived.Test.YtccooffhmjgjfaaGreatDoorCards
import Derived.Test.YtccooffhmjgjfaaGreatDoorTie
import Derived.LaidMore
import Derived.Lay
import Derived.SevenTiedAt
import Derived.WalkKit
import Derived.ProofKit
import Derived.OpenShut
namespace Go.Proofs.YtccooffhmjgjfaaGreatDoor.fnExactGuessNext
open Go.Proofs.YtccooffhmjgjfaaGreatDoor
open Go.D
set_option maxRecDepth 100000
set_option maxHeartbeats 2000000
set_option linter.unusedVariables false
set_option linter.unusedSimpArgs false
def tyOf : TypeId → Option Ty
  | 3 => some .int
  | 4 => some .bool
  | 5 => some .u8
  | 9 => some .str
  | 25 => some .cache
  | 28 => some .net
  | 30 => some .addr
  | 33 => some .policy
  | 35 => some .tokenizer
  | 40 => some .builder
  | 45 => some .page
  | 49 => some .loader
  | 54 => some .cache
  | 57 => some .net
  | 58 => some .addr
  | 59 => some .policy
  | 60 => some .tokenizer
  | 64 => some .builder
  | 69 => some .page
  | 73 => some .loader
  | 92 => some .response
  | 123 => some .response
  | 125 => some .conn
  | 128 => some .guess
  | 132 => some .guess
  | 134 => some .conn
  | 138 => some .request
  | 149 => some .sent
  | 197 => some .server
  | 201 => some .sent
  | 205 => some .token
  | 210 => some .slot
  | 213 => some .module
  | 224 => some .token
  | 227 => some .slot
  | 231 => some .entry
  | 236 => some .server
  | 238 => some .file
  | 249 => some .module
  | 273 => some .entry
  | 277 => some .node
  | 280 => some .node
  | 309 => some .attr
  | 312 => some .file
  | 314 => some .attr
  | _ => none
def E0 : D.Env := D.Env.empty tyOf
theorem E0ok : EOk Tryz.prog E0 := EOk.empty _ _
theorem k132_0 : fmarkText.ok Tryz.prog 132 := Fct.of (S := fmarkText) (L := fun ⟨k, _⟩ => fun | 4 => some (LmTx k) | _ => none) (kp := [0,2,3,5,7,1000005,1000007]) E0ok Tryz.func132 (by kernel_rfl) (by kernel_rfl) (by
  rintro ⟨(k : Int), _⟩ hp
  refine ho (.br (decide (k ≤ 0)) (.lf fmarkText ((⟨#[109, 48]⟩ : ByteArray), ())) (lpx (LmTx k) (k, ((⟨#[]⟩ : ByteArray), ())) fun (y2 : Int × ByteArray × PUnit) bk2 => .br (decide (y2.1 > 0)) (.ob ((10 : Int) ≠ (0 : Int)) <| .ob (True) <| .ob (sameSize (List.foldl (fun r n => r.push (UInt8.ofNat n.toNat)) ByteArray.empty [IntKind.u8.wrap (wr ((48 : Int) + y2.1.tmod (10 : Int)))]) y2.2.1) <| .ob ((10 : Int) ≠ (0 : Int)) <| .ob (Value.string (⟨#[]⟩ : ByteArray) = Value.string (⟨#[]⟩ : ByteArray)) <| .ob (bk2 (wr (y2.1.tdiv (10 : Int)), (List.foldl (fun r n => r.push (UInt8.ofNat n.toNat)) ByteArray.empty [IntKind.u8.wrap (wr ((48 : Int) + y2.1.tmod (10 : Int)))] ++ y2.2.1, ()))) <| .ok) (.ob (sameSize (⟨#[109]⟩ : ByteArray) y2.2.1) <| .lf fmarkText ((⟨#[109]⟩ : ByteArray) ++ y2.2.1, ())))) ?_
  refine br_i (fun h1 => lfY ?_) (fun h1 => lpx_i ?_ fun (y2 : Int × ByteArray × PUnit) i2 => br_i (fun h3 => ob_i ?_ fun o4 => ob_i trivial fun _ => ob_i ?_ fun o5 => ob_i ?_ fun o6 => ob_i rfl fun _ => ob_i ?_ fun o7 => trivial) (fun h3 => ob_i ?_ fun o8 => lfY ?_))
  all_goals try simp only [stdW] at *
  all_goals
   try rw [digByte (by first | exact i2.1 | (have := i2.1; omega))]
   try simp only [LmTx, fmarkText, std, Nat.reduceAdd] at *
  · simp [mtext, h1]
  · exact ⟨by omega, by omega, 64, rfl, Nat.lt_of_lt_of_le (show k.toNat < 10 ^ 19 by omega) (Nat.pow_le_pow_right (by decide) (by decide)), rfl⟩
  · decide
  · obtain ⟨i3, i4, f, i5, i6, i7⟩ := i2
    show (1 : Nat) + _ ≤ _
    omega
  · decide
  · obtain ⟨i3, i4, f, i5, i6, i7⟩ := i2
    have hd : IntKind.i64.wrap (y2.1.tdiv 10) = y2.1 / 10 := (tdiv10 i3).resolve_right (by omega)
    rw [hd]
    cases f with
    | zero => simp at i6; omega
    | succ f =>
      rw [digs_step (k := y2.1.toNat) (by omega)] at i7
      have i8 : y2.1.toNat < 10 * 10 ^ f := by rw [Nat.pow_succ] at i6; omega
      generalize 10 ^ f = p at i8
      refine ⟨⟨by omega, by omega, f, by rw [sz1]; omega, by omega, ?_⟩, by omega⟩
      rw [show (y2.1 / 10).toNat = y2.1.toNat / 10 by omega]
      exact i7
  · obtain ⟨i3, i4, f, i5, i6, i7⟩ := i2
    show (1 : Nat) + _ ≤ _
    omega
  · obtain ⟨i3, i4, f, i5, i6, i7⟩ := i2
    have h0 : y2.1.toNat = 0 := by omega
    rw [h0, digs_end] at i7
    rw [mtext, if_neg (by omega), i7])
def E1 := E0.add 132 fmarkText
theorem E1ok : EOk Tryz.prog E1 := E0ok.add k132_0
theorem k13_1 : fszStringS.ok Tryz.prog 13 := Fct.of (S := fszStringS) (L := fun ⟨l, n, _⟩ => fun | 5 => some (LszS .str szString l n) | _ => none) (kp := [0,1,4,5,11,15,26,1000011,1000015,1000026]) E1ok Tryz.func13 (by kernel_rfl) (by kernel_rfl) (by
  rintro ⟨(l : List ByteArray), (n : Int), _⟩ hp
  refine ho (.br (decide (wr (n - (↑l.length : Int)) < 0)) (.lf fszStringS ((-1 : Int), ())) (lpx (LszS .str szString l n) (wr (n - (↑l.length : Int)), ((0 : Int), ())) fun (y2 : Int × Int × PUnit) bk2 => .br (decide (y2.2.1 < (↑l.length : Int))) (.ob (inB y2.2.1 l.length) <| .br (decide (wr (y2.1 - (↑(l.getD y2.2.1.toNat default).size : Int)) < 0)) (.lf fszStringS ((-1 : Int), ())) (.ob (l = l) <| .ob (bk2 (wr (y2.1 - (↑(l.getD y2.2.1.toNat default).size : Int)), (w1 y2.2.1, ()))) <| .ok)) (.lf fszStringS (y2.1, ())))) ?_
  refine br_i (fun h1 => lfY ?_) (fun h1 => lpx_i ?_ fun (y2 : Int × Int × PUnit) i2 => br_i (fun h3 => ob_i ?_ fun o4 => br_i (fun h5 => lfY ?_) (fun h5 => ob_i rfl fun _ => ob_i ?_ fun o6 => trivial)) (fun h3 => lfY ?_))
  all_goals try simp only [LszS, fszStringS, std, Nat.reduceAdd] at *
  all_goals have hgl := good_len hp.1
  all_goals simp only [maxLen] at hgl
  · rw [wrapId (by omega)] at h1
    rw [lessenNeg (by simp only [szL]; omega)]
  · rw [wrapId (by omega)] at h1 ⊢
    exact ⟨by omega, by omega, h1, by simp⟩
  all_goals
   have hg : y2.2.1.toNat < l.length → (l.getD y2.2.1.toNat default).size ≤ 9223372036854775807 := fun h => (good_getD hp.1 h) _ (List.Mem.head _)
   have hs := sum_take_le szString l (y2.2.1.toNat + 1)
   have hs2 : y2.2.1.toNat < l.length → ((l.take (y2.2.1.toNat + 1)).map szString).sum = ((l.take y2.2.1.toNat).map szString).sum + (l.getD y2.2.1.toNat default).size := fun h => sum_take szString h
  · omega
  · have hlt : y2.2.1.toNat < l.length := by omega
    have a1 := hg hlt; have a2 := hs2 hlt
    rw [wrapId (by omega)] at h5
    rw [lessenNeg (by simp only [szL]; omega)]
  · have hlt : y2.2.1.toNat < l.length := by omega
    have a1 := hg hlt; have a2 := hs2 hlt
    rw [wrapId (n := y2.1 - _) (by omega)] at h5 ⊢
    rw [wrapId (by omega), toNat1 (by omega), a2]
    exact ⟨⟨by omega, by omega, by omega, by omega⟩, by omega⟩
  · have e : l.take y2.2.1.toNat = l := List.take_of_length_le (by omega)
    rw [e] at i2
    have hz : ((szL szString l : Nat) : Int) = l.length + (l.map szString).sum := by simp only [szL]; omega
    rw [lessen_ge (by omega)]
    show y2.1 = n - ((szL szString l : Nat) : Int)
    omega)
def E2 := E1.add 13 fszStringS
theorem E2ok : EOk Tryz.prog E2 := E1ok.add k13_1
theorem k26_2 : ftoStringS.ok Tryz.prog 26 := Fct.of (S := ftoStringS) (L := fun ⟨l, _⟩ => fun | 3 => some (LtoS .str l) | _ => none) (kp := [0,2,3,4,11,1000011]) E2ok Tryz.func26 (by kernel_rfl) (by kernel_rfl) (by
  rintro ⟨(l : List ByteArray), _⟩ hp
  refine ho (.ob ((↑l.length : Int) = (↑l.length : Int) ∧ (0 : Int) ≤ (↑l.length : Int) ∧ (16 : Int) * (↑l.length : Int) ≤ 140737488355328 ∧ (↑l.length : Int) ≤ 140737488355328) <| lpx (LtoS .str l) ((0 : Int), (List.replicate (↑l.length : Int).toNat (⟨#[]⟩ : ByteArray), ())) fun (y2 : Int × List ByteArray × PUnit) bk2 => .br (decide (y2.1 < (↑l.length : Int))) (.ob (inB y2.1 l.length) <| .ob (inB y2.1 y2.2.1.length) <| .ob (y2.1.toNat < y2.2.1.length) <| .lt (List ByteArray) (y2.2.1.modify y2.1.toNat fun z => l.getD y2.1.toNat default) fun z2 => .ob (l = l) <| .ob (bk2 (w1 y2.1, (z2, ()))) <| .ok) (.lf ftoStringS (y2.2.1, ()))) ?_
  refine ob_i ?_ fun o1 => lpx_i ?_ fun (y2 : Int × List ByteArray × PUnit) i2 => br_i (fun h3 => ob_i ?_ fun o4 => ob_i ?_ fun o5 => ob_i ?_ fun o6 => lt_i (ob_i rfl fun _ => ob_i ?_ fun o7 => trivial)) (fun h3 => lfY ?_)
  all_goals
   try simp only [LtoS, ftoStringS, std, Nat.reduceAdd] at *
   try have hsz : l.length ≤ 1048576 := by first | exact hp | (have := szL_len szString l; exact Nat.le_trans this hp)
  all_goals
   clear hp
   try rw [i2.2.2]
  all_goals first | omega | (refine ⟨by omega, by omega, ?_⟩; simp; done) | (refine ⟨by omega, by omega, ?_⟩; simp; exact .inr rfl) | (simp; omega) | skip
  · rw [wrapId (by omega), toNat1 (by omega)]
    refine ⟨⟨by omega, by omega, ?_⟩, by omega⟩
    rw [show l.length - y2.1.toNat = (l.length - (y2.1.toNat + 1)) + 1 from by omega, List.replicate_succ, mod_at (by simp; omega), take_succ (by omega)]
    simp
  · have e : l.take y2.1.toNat = l := List.take_of_length_le (by omega)
    rw [e]; simp; omega)
def E3 := E2.add 26 ftoStringS
theorem E3ok : EOk Tryz.prog E3 := E2ok.add k26_2
theorem k39_3 : feqStringS.ok Tryz.prog 39 := Fct.of (S := feqStringS) (L := fun ⟨l, m, _⟩ => fun | 4 => some (LeqS .str l m) | _ => none) (kp := [0,1,4,5,10,14,25,1000010,1000014,1000025]) E3ok Tryz.func39 (by kernel_rfl) (by kernel_rfl) (by
  rintro ⟨(l : List ByteArray), (m : List ByteArray), _⟩ hp
  refine ho (.br ((↑l.length : Int) != (↑m.length : Int)) (.lf feqStringS (false, ())) (lpx (LeqS .str l m) ((0 : Int), ()) fun (y2 : Int × PUnit) bk2 => .br (decide (y2.1 < (↑l.length : Int))) (.ob (inB y2.1 l.length) <| .ob (inB y2.1 m.length) <| .br (!(l.getD y2.1.toNat default).toList == (m.getD y2.1.toNat default).toList) (.lf feqStringS (false, ())) (.ob (l = l) <| .ob (m = m) <| .ob (bk2 (w1 y2.1, ())) <| .ok)) (.lf feqStringS (true, ())))) ?_
  refine br_i (fun h1 => lfY ?_) (fun h1 => lpx_i ?_ fun (y2 : Int × PUnit) i2 => br_i (fun h3 => ob_i ?_ fun o4 => ob_i ?_ fun o5 => br_i (fun h6 => lfY ?_) (fun h6 => ob_i rfl fun _ => ob_i rfl fun _ => ob_i ?_ fun o7 => trivial)) (fun h3 => lfY ?_))
  all_goals try simp only [LeqS, feqStringS, std, Nat.reduceAdd] at *
  · rw [decide_eq_false]; rintro rfl; omega
  · exact ⟨by omega, by omega, by simp⟩
  · omega
  · omega
  · rw [decide_eq_false]; rintro rfl; first | exact absurd rfl h5 | exact absurd rfl h6
  · have hw : IntKind.i64.wrap (y2.1 + 1) = y2.1 + 1 := wrapId (by omega)
    rw [hw, toNat1 (by omega)]
    refine ⟨⟨by omega, by omega, ?_⟩, by omega⟩
    rw [take_succ (by omega), take_succ (by omega), i2.2.2]; first | rw [h5] | rw [h6]
  · have e : l.take y2.1.toNat = l := List.take_of_length_le (by omega)
    have e2 : m.take y2.1.toNat = m := List.take_of_length_le (by omega)
    rw [decide_eq_true]; rw [← e, ← e2, i2.2.2])
def E4 := E3.add 39 feqStringS
theorem E4ok : EOk Tryz.prog E4 := E3ok.add k39_3
theorem k44_4 : fmarkStringS.ok Tryz.prog 44 := MS.of (S := fmarkStringS) (L := fun l k => fun | 2 => some (LmkS .str mkString l k) | _ => none) (kp := [0,1,4,5,9,1000009]) (kl := [0]) E4ok Tryz.func44 (by kernel_rfl) (by kernel_rfl) (by
  rintro (l : List ByteArray) (k : Int) hp
  refine ho (lpx (LmkS .str mkString l k) (k, ((0 : Int), (l, ()))) fun (y1 : Int × Int × List ByteArray × PUnit) bk1 => .br (decide (y1.2.1 < (↑y1.2.2.1.length : Int))) (.cl fmarkText (y1.1, ()) fun z2 => .ob (inB y1.2.1 y1.2.2.1.length) <| .ob (y1.2.1.toNat < y1.2.2.1.length) <| .lt (List ByteArray) (y1.2.2.1.modify y1.2.1.toNat fun z => z2.1) fun z3 => .ob (Value.int IntKind.i64 0 = Value.int IntKind.i64 (0 : Int)) <| .ob (bk1 (w1 y1.1, (w1 y1.2.1, (z3, ())))) <| .ok) (.leaf (.one false [vi (y1.1)]) [] [(0, ⟨Ty.str, y1.2.2.1⟩)])) ?_
  refine lpx_i ?_ fun (y1 : Int × Int × List ByteArray × PUnit) i1 => br_i (fun h2 => cl_i ?_ fun o3 => (ob_i ?_ fun o4 => ob_i ?_ fun o5 => lt_i (ob_i rfl fun _ => ob_i ?_ fun o6 => trivial))) (fun h2 => MS.leaf ?_)
  all_goals try simp only [stdW] at *
  · exact ⟨by simp, by simp, by simp [markL], by simp [markL]⟩
  all_goals
   have hp1 : 0 ≤ k := hp.1
   have hp2 : (markL mkString l k).2 ≤ 4000000000000000000 := hp.2
   have i3 : 0 ≤ y1.2.1 ∧ y1.2.1 ≤ l.length ∧ y1.1 = (markL mkString (l.take y1.2.1.toNat) k).2 ∧ y1.2.2.1 = (markL mkString (l.take y1.2.1.toNat) k).1 ++ l.drop y1.2.1.toNat := i1
   have hcnt := markL_cnt (f := mkString) (fun x k => by simp only [mkString]; omega) l k
   have hx : y1.2.2.1.length = l.length := by rw [i3.2.2.2, List.length_append, markL_len, List.length_take, List.length_drop]; omega
  all_goals simp only [decide_eq_true_eq, decide_eq_false_iff_not, hx] at h2
  all_goals
   clear i1
   try have hlt : y1.2.1.toNat < l.length := by omega
   try have ht := markL_take (f := mkString) hlt k
   try have hle := (markL_take_le mkString_mono l (y1.2.1.toNat + 1) k).2
   try have hl0 := (markL_take_le mkString_mono l y1.2.1.toNat k).1
   try rw [ht] at hle
   try rw [← i3.2.2.1] at hle hl0 ht
   try simp only [mkString] at hle
  all_goals first | decide | (simp only [List.length_modify, hx]; omega) | (refine ⟨?_, ?_⟩ <;> (try simp (discharger := omega) only [wrapId']) <;> omega) | skip
  · try clear o3 o4 o5
    simp (discharger := omega) only [wrapId', fmarkText]
    have hA : (markL mkString (l.take y1.2.1.toNat) k).1.length = y1.2.1.toNat := by rw [markL_len, List.length_take]; omega
    refine ⟨⟨by omega, by omega, ?_, ?_⟩, ?_⟩
    · rw [toNat1 (by omega), ht]
      first | done | (simp only [mkString]; done) | (simp only [mkString]; omega)
    · rw [toNat1 (by omega), ht, i3.2.2.2, drop_cons hlt]
      simp only [mod_at hA, mkString, Int.add_assoc, Int.reduceAdd, List.append_assoc, List.cons_append, List.nil_append]
    · omega
  · refine MS.leafL (t := .str) (fn := fun l k => markL mkString l k) ?_
    have e1 : l.take y1.2.1.toNat = l := List.take_of_length_le (by omega)
    have e2 : l.drop y1.2.1.toNat = [] := List.drop_of_length_le (by omega)
    rw [i3.2.2.2, i3.2.2.1, e1, e2, List.append_nil])
def E5 := E4.addM 44 fmarkStringS
theorem E5ok : EOk Tryz.prog E5 := E4ok.addM k44_4
theorem k49_5 : fheldStringS.ok Tryz.prog 49 := Fct.of (S := fheldStringS) (L := fun ⟨l, k, _⟩ => fun | 2 => some (LheS .str mkString l k) | _ => none) (kp := [0,1,4,5,9,18,1000009,1000018]) E5ok Tryz.func49 (by kernel_rfl) (by kernel_rfl) (by
  rintro ⟨(l : List ByteArray), (k : Int), _⟩ hp
  refine ho (lpx (LheS .str mkString l k) (k, ((0 : Int), ())) fun (y1 : Int × Int × PUnit) bk1 => .br (decide (y1.2.1 < (↑l.length : Int))) (.ob (inB y1.2.1 l.length) <| .cl fmarkText (y1.1, ()) fun z2 => .br (!(l.getD y1.2.1.toNat default).toList == z2.1.toList) (.lf fheldStringS ((-1 : Int), ())) (.ob (l = l) <| .ob (bk1 (w1 y1.1, (w1 y1.2.1, ()))) <| .ok)) (.lf fheldStringS (y1.1, ()))) ?_
  refine lpx_i ?_ fun (y1 : Int × Int × PUnit) i1 => br_i (fun h2 => ob_i ?_ fun o3 => cl_i ?_ fun o4 => (br_i (fun h5 => lfY ?_) (fun h5 => ob_i rfl fun _ => ob_i ?_ fun o6 => trivial))) (fun h2 => lfY ?_)
  all_goals try simp only [stdW] at *
  · exact ⟨by simp, by simp, by simp [markL]⟩
  all_goals
   have hp1 : 0 ≤ k := hp.1
   have hp2 : (markL mkString l k).2 ≤ 4000000000000000000 := hp.2.1
   have hp3 : (markL mkString l k).1 = l := hp.2.2
   have i3 : 0 ≤ y1.2.1 ∧ y1.2.1 ≤ l.length ∧ y1.1 = (markL mkString (l.take y1.2.1.toNat) k).2 := i1
   have hcnt := markL_cnt (f := mkString) (fun x k => by simp only [mkString]; omega) l k
  all_goals simp only [decide_eq_true_eq, decide_eq_false_iff_not] at h2
  all_goals
   clear i1 hp
   try have hlt : y1.2.1.toNat < l.length := by omega
   try have ht := markL_take (f := mkString) hlt k
   try have hle := (markL_take_le mkString_mono l (y1.2.1.toNat + 1) k).2
   try have hl0 := (markL_take_le mkString_mono l y1.2.1.toNat k).1
   try have heq := markL_held hp3 hlt
   try rw [ht] at hle
   try rw [← i3.2.2] at hle hl0 ht heq
   try simp only [mkString] at hle heq
  all_goals first | decide | omega | (refine ⟨?_, ?_⟩ <;> (try simp (discharger := omega) only [wrapId']) <;> omega) | skip
  all_goals try (exfalso; clear ht; generalize l.getD y1.2.1.toNat default = c at *; subst heq; simp (discharger := omega) [wrapId', fmarkText, Int.add_assoc] at *; done)
  · simp (discharger := omega) only [wrapId']
    refine ⟨⟨by omega, by omega, ?_⟩, ?_⟩
    · rw [toNat1 (by omega), ht]
      first | done | (simp only [mkString]; done) | (simp only [mkString]; omega)
    · omega
  · have e1 : l.take y1.2.1.toNat = l := List.take_of_length_le (by omega)
    rw [e1] at i3
    show (y1.1, ()) = ((markL mkString l k).2, ())
    rw [i3.2.2])
def E6 := E5.add 49 fheldStringS
theorem E6ok : EOk Tryz.prog E6 := E5ok.add k49_5
theorem k147_6 : fszIntS.ok Tryz.prog 147 := Fct.o [0,1,4,10,1000010] E6ok Tryz.func147 (by
  rintro ⟨(l : List Int), (n : Int), _⟩ hp
  refine ho (.br (decide (wr (n - (↑(List.length l) : Int)) < 0)) (.lf fszIntS ((-1 : Int), ())) (.lf fszIntS (wr (n - (↑(List.length l) : Int)), ()))) ?_
  refine br_i (fun h1 => lfY ?_) (fun h1 => lfY ?_)
  all_goals try simp only [fszIntS, std, Nat.reduceAdd, Sh.good, Sh.fc, enc, List.forall_mem_cons, List.not_mem_nil, false_implies, implies_true, goodC, maxLen] at *
  all_goals grind [wrapId', lessen])
def E7 := E6.add 147 fszIntS
theorem E7ok : EOk Tryz.prog E7 := E6ok.add k147_6
theorem k170_7 : ftoIntS.ok Tryz.prog 170 := Fct.of (S := ftoIntS) (L := fun ⟨l, _⟩ => fun | 3 => some (LtoS .int l) | _ => none) (kp := [0,2,3,4,11,1000011]) E7ok Tryz.func170 (by kernel_rfl) (by kernel_rfl) (by
  rintro ⟨(l : List Int), _⟩ hp
  refine ho (.ob ((↑l.length : Int) = (↑l.length : Int) ∧ (0 : Int) ≤ (↑l.length : Int) ∧ (8 : Int) * (↑l.length : Int) ≤ 140737488355328 ∧ (↑l.length : Int) ≤ 140737488355328) <| lpx (LtoS .int l) ((0 : Int), (List.replicate (↑l.length : Int).toNat (0 : Int), ())) fun (y2 : Int × List Int × PUnit) bk2 => .br (decide (y2.1 < (↑l.length : Int))) (.ob (inB y2.1 l.length) <| .ob (inB y2.1 y2.2.1.length) <| .ob (y2.1.toNat < y2.2.1.length) <| .lt (List Int) (y2.2.1.modify y2.1.toNat fun z => l.getD y2.1.toNat default) fun z2 => .ob (l = l) <| .ob (bk2 (w1 y2.1, (z2, ()))) <| .ok) (.lf ftoIntS (y2.2.1, ()))) ?_
  refine ob_i ?_ fun o1 => lpx_i ?_ fun (y2 : Int × List Int × PUnit) i2 => br_i (fun h3 => ob_i ?_ fun o4 => ob_i ?_ fun o5 => ob_i ?_ fun o6 => lt_i (ob_i rfl fun _ => ob_i ?_ fun o7 => trivial)) (fun h3 => lfY ?_)
  all_goals
   try simp only [LtoS, ftoIntS, std, Nat.reduceAdd] at *
   try have hsz : l.length ≤ 1048576 := by first | exact hp | (have := szL_len szString l; exact Nat.le_trans this hp)
  all_goals
   clear hp
   try rw [i2.2.2]
  all_goals first | omega | (refine ⟨by omega, by omega, ?_⟩; simp; done) | (refine ⟨by omega, by omega, ?_⟩; simp; exact .inr rfl) | (simp; omega) | skip
  · rw [wrapId (by omega), toNat1 (by omega)]
    refine ⟨⟨by omega, by omega, ?_⟩, by omega⟩
    rw [show l.length - y2.1.toNat = (l.length - (y2.1.toNat + 1)) + 1 from by omega, List.replicate_succ, mod_at (by simp; omega), take_succ (by omega)]
    simp
  · have e : l.take y2.1.toNat = l := List.take_of_length_le (by omega)
    rw [e]; simp; omega)
def E8 := E7.add 170 ftoIntS
theorem E8ok : EOk Tryz.prog E8 := E7ok.add k170_7
theorem k198_8 : feqIntS.ok Tryz.prog 198 := Fct.of (S := feqIntS) (L := fun ⟨l, m, _⟩ => fun | 4 => some (LeqS .int l m) | _ => none) (kp := [0,1,4,5,10,14,25,1000010,1000014,1000025]) E8ok Tryz.func198 (by kernel_rfl) (by kernel_rfl) (by
  rintro ⟨(l : List Int), (m : List Int), _⟩ hp
  refine ho (.br ((↑l.length : Int) != (↑m.length : Int)) (.lf feqIntS (false, ())) (lpx (LeqS .int l m) ((0 : Int), ()) fun (y2 : Int × PUnit) bk2 => .br (decide (y2.1 < (↑l.length : Int))) (.ob (inB y2.1 l.length) <| .ob (inB y2.1 m.length) <| .br (l.getD y2.1.toNat default != m.getD y2.1.toNat default) (.lf feqIntS (false, ())) (.ob (l = l) <| .ob (m = m) <| .ob (bk2 (w1 y2.1, ())) <| .ok)) (.lf feqIntS (true, ())))) ?_
  refine br_i (fun h1 => lfY ?_) (fun h1 => lpx_i ?_ fun (y2 : Int × PUnit) i2 => br_i (fun h3 => ob_i ?_ fun o4 => ob_i ?_ fun o5 => br_i (fun h6 => lfY ?_) (fun h6 => ob_i rfl fun _ => ob_i rfl fun _ => ob_i ?_ fun o7 => trivial)) (fun h3 => lfY ?_))
  all_goals try simp only [LeqS, feqIntS, std, Nat.reduceAdd] at *
  · rw [decide_eq_false]; rintro rfl; omega
  · exact ⟨by omega, by omega, by simp⟩
  · omega
  · omega
  · rw [decide_eq_false]; rintro rfl; first | exact absurd rfl h5 | exact absurd rfl h6
  · have hw : IntKind.i64.wrap (y2.1 + 1) = y2.1 + 1 := wrapId (by omega)
    rw [hw, toNat1 (by omega)]
    refine ⟨⟨by omega, by omega, ?_⟩, by omega⟩
    rw [take_succ (by omega), take_succ (by omega), i2.2.2]; first | rw [h5] | rw [h6]
  · have e : l.take y2.1.toNat = l := List.take_of_length_le (by omega)
    have e2 : m.take y2.1.toNat = m := List.take_of_length_le (by omega)
    rw [decide_eq_true]; rw [← e, ← e2, i2.2.2])
def E9 := E8.add 198 feqIntS
theorem E9ok : EOk Tryz.prog E9 := E8ok.add k198_8
theorem k206_9 : fmarkIntS.ok Tryz.prog 206 := MS.of (S := fmarkIntS) (L := fun l k => fun | 2 => some (LmkS .int mkInt l k) | _ => none) (kp := [0,1,4,5,9,1000009]) (kl := [0]) E9ok Tryz.func206 (by kernel_rfl) (by kernel_rfl) (by
  rintro (l : List Int) (k : Int) hp
  refine ho (lpx (LmkS .int mkInt l k) (k, ((0 : Int), (l, ()))) fun (y1 : Int × Int × List Int × PUnit) bk1 => .br (decide (y1.2.1 < (↑y1.2.2.1.length : Int))) (.ob (inB y1.2.1 y1.2.2.1.length) <| .ob (y1.2.1.toNat < y1.2.2.1.length) <| .lt (List Int) (y1.2.2.1.modify y1.2.1.toNat fun z => y1.1) fun z2 => .ob (Value.int IntKind.i64 0 = Value.int IntKind.i64 (0 : Int)) <| .ob (bk1 (w1 y1.1, (w1 y1.2.1, (z2, ())))) <| .ok) (.leaf (.one false [vi (y1.1)]) [] [(0, ⟨Ty.int, y1.2.2.1⟩)])) ?_
  refine lpx_i ?_ fun (y1 : Int × Int × List Int × PUnit) i1 => br_i (fun h2 => ob_i ?_ fun o3 => ob_i ?_ fun o4 => lt_i (ob_i rfl fun _ => ob_i ?_ fun o5 => trivial)) (fun h2 => MS.leaf ?_)
  all_goals try simp only [stdW] at *
  · exact ⟨by simp, by simp, by simp [markL], by simp [markL]⟩
  all_goals
   have hp1 : 0 ≤ k := hp.1
   have hp2 : (markL mkInt l k).2 ≤ 4000000000000000000 := hp.2
   have i3 : 0 ≤ y1.2.1 ∧ y1.2.1 ≤ l.length ∧ y1.1 = (markL mkInt (l.take y1.2.1.toNat) k).2 ∧ y1.2.2.1 = (markL mkInt (l.take y1.2.1.toNat) k).1 ++ l.drop y1.2.1.toNat := i1
   have hcnt := markL_cnt (f := mkInt) (fun x k => by simp only [mkInt]; omega) l k
   have hx : y1.2.2.1.length = l.length := by rw [i3.2.2.2, List.length_append, markL_len, List.length_take, List.length_drop]; omega
  all_goals simp only [decide_eq_true_eq, decide_eq_false_iff_not, hx] at h2
  all_goals
   clear i1
   try have hlt : y1.2.1.toNat < l.length := by omega
   try have ht := markL_take (f := mkInt) hlt k
   try have hle := (markL_take_le mkInt_mono l (y1.2.1.toNat + 1) k).2
   try have hl0 := (markL_take_le mkInt_mono l y1.2.1.toNat k).1
   try rw [ht] at hle
   try rw [← i3.2.2.1] at hle hl0 ht
   try simp only [mkInt] at hle
  all_goals first | decide | (simp only [List.length_modify, hx]; omega) | (refine ⟨?_, ?_⟩ <;> (try simp (discharger := omega) only [wrapId']) <;> omega) | skip
  · try clear o3 o4 o5
    simp (discharger := omega) only [wrapId', fmarkText]
    have hA : (markL mkInt (l.take y1.2.1.toNat) k).1.length = y1.2.1.toNat := by rw [markL_len, List.length_take]; omega
    refine ⟨⟨by omega, by omega, ?_, ?_⟩, ?_⟩
    · rw [toNat1 (by omega), ht]
      first | done | (simp only [mkInt]; done) | (simp only [mkInt]; omega)
    · rw [toNat1 (by omega), ht, i3.2.2.2, drop_cons hlt]
      simp only [mod_at hA, mkInt, Int.add_assoc, Int.reduceAdd, List.append_assoc, List.cons_append, List.nil_append]
    · omega
  · refine MS.leafL (t := .int) (fn := fun l k => markL mkInt l k) ?_
    have e1 : l.take y1.2.1.toNat = l := List.take_of_length_le (by omega)
    have e2 : l.drop y1.2.1.toNat = [] := List.drop_of_length_le (by omega)
    rw [i3.2.2.2, i3.2.2.1, e1, e2, List.append_nil])
def E10 := E9.addM 206 fmarkIntS
theorem E10ok : EOk Tryz.prog E10 := E9ok.addM k206_9
theorem k211_10 : fheldIntS.ok Tryz.prog 211 := Fct.of (S := fheldIntS) (L := fun ⟨l, k, _⟩ => fun | 2 => some (LheS .int mkInt l k) | _ => none) (kp := [0,1,4,5,9,17,1000009,1000017]) E10ok Tryz.func211 (by kernel_rfl) (by kernel_rfl) (by
  rintro ⟨(l : List Int), (k : Int), _⟩ hp
  refine ho (lpx (LheS .int mkInt l k) (k, ((0 : Int), ())) fun (y1 : Int × Int × PUnit) bk1 => .br (decide (y1.2.1 < (↑l.length : Int))) (.ob (inB y1.2.1 l.length) <| .br (l.getD y1.2.1.toNat default != y1.1) (.lf fheldIntS ((-1 : Int), ())) (.ob (l = l) <| .ob (bk1 (w1 y1.1, (w1 y1.2.1, ()))) <| .ok)) (.lf fheldIntS (y1.1, ()))) ?_
  refine lpx_i ?_ fun (y1 : Int × Int × PUnit) i1 => br_i (fun h2 => ob_i ?_ fun o3 => br_i (fun h4 => lfY ?_) (fun h4 => ob_i rfl fun _ => ob_i ?_ fun o5 => trivial)) (fun h2 => lfY ?_)
  all_goals try simp only [stdW] at *
  · exact ⟨by simp, by simp, by simp [markL]⟩
  all_goals
   have hp1 : 0 ≤ k := hp.1
   have hp2 : (markL mkInt l k).2 ≤ 4000000000000000000 := hp.2.1
   have hp3 : (markL mkInt l k).1 = l := hp.2.2
   have i3 : 0 ≤ y1.2.1 ∧ y1.2.1 ≤ l.length ∧ y1.1 = (markL mkInt (l.take y1.2.1.toNat) k).2 := i1
   have hcnt := markL_cnt (f := mkInt) (fun x k => by simp only [mkInt]; omega) l k
  all_goals simp only [decide_eq_true_eq, decide_eq_false_iff_not] at h2
  all_goals
   clear i1 hp
   try have hlt : y1.2.1.toNat < l.length := by omega
   try have ht := markL_take (f := mkInt) hlt k
   try have hle := (markL_take_le mkInt_mono l (y1.2.1.toNat + 1) k).2
   try have hl0 := (markL_take_le mkInt_mono l y1.2.1.toNat k).1
   try have heq := markL_held hp3 hlt
   try rw [ht] at hle
   try rw [← i3.2.2] at hle hl0 ht heq
   try simp only [mkInt] at hle heq
  all_goals first | decide | omega | (refine ⟨?_, ?_⟩ <;> (try simp (discharger := omega) only [wrapId']) <;> omega) | skip
  all_goals try (exfalso; clear ht; generalize l.getD y1.2.1.toNat default = c at *; subst heq; simp (discharger := omega) [wrapId', fmarkText, Int.add_assoc] at *; done)
  · simp (discharger := omega) only [wrapId']
    refine ⟨⟨by omega, by omega, ?_⟩, ?_⟩
    · rw [toNat1 (by omega), ht]
      first | done | (simp only [mkInt]; done) | (simp only [mkInt]; omega)
    · omega
  · have e1 : l.take y1.2.1.toNat = l := List.take_of_length_le (by omega)
    rw [e1] at i3
    show (y1.1, ()) = ((markL mkInt l k).2, ())
    rw [i3.2.2])
def E11 := E10.add 211 fheldIntS
theorem E11ok : EOk Tryz.prog E11 := E10ok.add k211_10
theorem k55_11 : fszAddr.ok Tryz.prog 55 := Fct.o [1,2,4,11,18,1000011,1000018] E11ok Tryz.func55 (by
  rintro ⟨(x : SAddr), (n : Int), _⟩ hp
  refine ho (.br (decide (wr (n - (↑x.host.size : Int)) < 0)) (.lf fszAddr ((-1 : Int), ())) (.br (decide (wr (wr (n - (↑x.host.size : Int)) - (↑x.path.size : Int)) < 0)) (.lf fszAddr ((-1 : Int), ())) (.lf fszAddr (wr (wr (n - (↑x.host.size : Int)) - (↑x.path.size : Int)), ())))) ?_
  refine br_i (fun h1 => lfY ?_) (fun h1 => br_i (fun h2 => lfY ?_) (fun h2 => lfY ?_))
  all_goals try simp only [fszAddr, std, Nat.reduceAdd, Sh.good, Sh.fc, enc, List.forall_mem_cons, List.not_mem_nil, false_implies, implies_true, goodC, maxLen] at *
  all_goals grind [wrapId', lessen, szAddr])
def E12 := E11.add 55 fszAddr
theorem E12ok : EOk Tryz.prog E12 := E11ok.add k55_11
theorem k81_12 : ftoAddr.ok Tryz.prog 81 := Fct.o [1,2,3] E12ok Tryz.func81 (by
  rintro ⟨(x : SAddr), _⟩ hp
  refine ho (.lf ftoAddr (x, ())) ?_
  refine lfY ?_
  all_goals try simp only [ftoAddr, std, Nat.reduceAdd] at *
  all_goals first | trivial | rfl | grind [szAddr])
def E13 := E12.add 81 ftoAddr
theorem E13ok : EOk Tryz.prog E13 := E12ok.add k81_12
theorem k113_13 : feqAddr.ok Tryz.prog 113 := Fct.o [2,3,4,9,14,1000009,1000014] E13ok Tryz.func113 (by
  rintro ⟨(x : SAddr), (y : SAddr), _⟩ hp
  refine ho (.br (!x.host.toList == y.host.toList) (.lf feqAddr (false, ())) (.br (!x.path.toList == y.path.toList) (.lf feqAddr (false, ())) (.lf feqAddr (true, ())))) ?_
  refine br_i (fun h1 => lfY ?_) (fun h1 => br_i (fun h2 => lfY ?_) (fun h2 => lfY ?_))
  all_goals try simp only [feqAddr, std, Nat.reduceAdd] at *
  all_goals first | trivial | (cases x; cases y; simp_all; done) | (simp only [szAddr] at *; omega) | grind [szAddr])
def E14 := E13.add 113 feqAddr
theorem E14ok : EOk Tryz.prog E14 := E13ok.add k113_13
theorem k62_14 : fszAddrS.ok Tryz.prog 62 := Fct.of (S := fszAddrS) (L := fun ⟨l, n, _⟩ => fun | 5 => some (LszS .addr szAddr l n) | _ => none) (kp := [0,1,4,5,11,15,25,1000011,1000015,1000025]) E14ok Tryz.func62 (by kernel_rfl) (by kernel_rfl) (by
  rintro ⟨(l : List SAddr), (n : Int), _⟩ hp
  refine ho (.br (decide (wr (n - (↑l.length : Int)) < 0)) (.lf fszAddrS ((-1 : Int), ())) (lpx (LszS .addr szAddr l n) (wr (n - (↑l.length : Int)), ((0 : Int), ())) fun (y2 : Int × Int × PUnit) bk2 => .br (decide (y2.2.1 < (↑l.length : Int))) (.ob (inB y2.2.1 l.length) <| .cl fszAddr (l.getD y2.2.1.toNat default, y2.1, ()) fun z2 => .br (decide (z2.1 < 0)) (.lf fszAddrS ((-1 : Int), ())) (.ob (l = l) <| .ob (bk2 (z2.1, (w1 y2.2.1, ()))) <| .ok)) (.lf fszAddrS (y2.1, ())))) ?_
  refine br_i (fun h1 => lfY ?_) (fun h1 => lpx_i ?_ fun (y2 : Int × Int × PUnit) i2 => br_i (fun h3 => ob_i ?_ fun o4 => cl_i ?_ fun o5 => (br_i (fun h6 => lfY ?_) (fun h6 => ob_i rfl fun _ => ob_i ?_ fun o7 => trivial))) (fun h3 => lfY ?_))
  all_goals
   try simp only [std0] at *
   try simp only [LszS, fszAddr, fszAddrS, std, Nat.reduceAdd] at *
  · have := good_len hp.1; simp only [maxLen] at this; rw [wrapId (by omega)] at h1
    rw [lessenNeg (by simp only [szL]; omega)]
  · have := good_len hp.1; simp only [maxLen] at this
    rw [wrapId (by omega)] at h1 ⊢
    exact ⟨by omega, by omega, h1, by simp⟩
  · omega
  · exact ⟨good_getD hp.1 (by omega), by omega, by omega⟩
  · have hs := sum_take_le szAddr l (y2.2.1.toNat + 1)
    rw [sum_take szAddr (by omega)] at hs
    rw [lessen_lt (by omega)] at h6
    rw [lessenNeg (by simp only [szL]; omega)]
  · have hw : IntKind.i64.wrap (y2.2.1 + 1) = y2.2.1 + 1 := wrapId (by have := good_len hp.1; simp only [maxLen] at this; omega)
    have h7 : ¬ lessen y2.1 (szAddr (l.getD y2.2.1.toNat default)) < 0 := by omega
    rw [lessen_lt (by omega)] at h7
    rw [hw, toNat1 (by omega), sum_take szAddr (by omega), lessen_ge (by omega)]
    exact ⟨⟨by omega, by omega, by omega, by omega⟩, by omega⟩
  · have e : l.take y2.2.1.toNat = l := List.take_of_length_le (by omega)
    rw [e] at i2
    have hz : ((szL szAddr l : Nat) : Int) = l.length + (l.map szAddr).sum := by simp only [szL]; omega
    rw [lessen_ge (by omega)]
    show y2.1 = n - ((szL szAddr l : Nat) : Int)
    omega)
def E15 := E14.add 62 fszAddrS
theorem E15ok : EOk Tryz.prog E15 := E14ok.add k62_14
theorem k88_15 : ftoAddrS.ok Tryz.prog 88 := Fct.of (S := ftoAddrS) (L := fun ⟨l, _⟩ => fun | 3 => some (LtoS .addr l) | _ => none) (kp := [0,2,3,4,11,1000011]) E15ok Tryz.func88 (by kernel_rfl) (by kernel_rfl) (by
  rintro ⟨(l : List SAddr), _⟩ hp
  refine ho (.ob ((↑l.length : Int) = (↑l.length : Int) ∧ (0 : Int) ≤ (↑l.length : Int) ∧ (32 : Int) * (↑l.length : Int) ≤ 140737488355328 ∧ (↑l.length : Int) ≤ 140737488355328) <| lpx (LtoS .addr l) ((0 : Int), (List.replicate (↑l.length : Int).toNat default, ())) fun (y2 : Int × List SAddr × PUnit) bk2 => .br (decide (y2.1 < (↑l.length : Int))) (.ob (inB y2.1 l.length) <| .cl ftoAddr (l.getD y2.1.toNat default, ()) fun z2 => .ob (inB y2.1 y2.2.1.length) <| .ob (y2.1.toNat < y2.2.1.length) <| .lt (List SAddr) (y2.2.1.modify y2.1.toNat fun z => z2.1) fun z3 => .ob (l = l) <| .ob (bk2 (w1 y2.1, (z3, ()))) <| .ok) (.lf ftoAddrS (y2.2.1, ()))) ?_
  refine ob_i ?_ fun o1 => lpx_i ?_ fun (y2 : Int × List SAddr × PUnit) i2 => br_i (fun h3 => ob_i ?_ fun o4 => cl_i ?_ fun o5 => (ob_i ?_ fun o6 => ob_i ?_ fun o7 => lt_i (ob_i rfl fun _ => ob_i ?_ fun o8 => trivial))) (fun h3 => lfY ?_)
  all_goals try simp only [LtoS, ftoAddr, ftoAddrS, std, Nat.reduceAdd] at *
  · have := szL_len szAddr l; omega
  · exact ⟨by omega, by omega, by simp⟩
  · omega
  · have hs := sum_take_le szAddr l (y2.1.toNat + 1)
    rw [sum_take szAddr (by omega)] at hs
    simp only [szL] at hp; omega
  · rw [i2.2.2]; simp; omega
  · rw [i2.2.2]; simp; omega
  · have hw : IntKind.i64.wrap (y2.1 + 1) = y2.1 + 1 := wrapId (by have := szL_len szAddr l; omega)
    rw [hw, toNat1 (by omega), i2.2.2]
    refine ⟨⟨by omega, by omega, ?_⟩, by omega⟩
    rw [show l.length - y2.1.toNat = (l.length - (y2.1.toNat + 1)) + 1 from by omega, List.replicate_succ, mod_at (by simp; omega), take_succ (by omega)]
    simp
  · have e : l.take y2.1.toNat = l := List.take_of_length_le (by omega)
    rw [i2.2.2, e]; simp; omega)
def E16 := E15.add 88 ftoAddrS
theorem E16ok : EOk Tryz.prog E16 := E15ok.add k88_15
theorem k120_16 : feqAddrS.ok Tryz.prog 120 := Fct.of (S := feqAddrS) (L := fun ⟨l, m, _⟩ => fun | 4 => some (LeqS .addr l m) | _ => none) (kp := [0,1,4,5,10,14,26,1000010,1000014,1000026]) E16ok Tryz.func120 (by kernel_rfl) (by kernel_rfl) (by
  rintro ⟨(l : List SAddr), (m : List SAddr), _⟩ hp
  refine ho (.br ((↑l.length : Int) != (↑m.length : Int)) (.lf feqAddrS (false, ())) (lpx (LeqS .addr l m) ((0 : Int), ()) fun (y2 : Int × PUnit) bk2 => .br (decide (y2.1 < (↑l.length : Int))) (.ob (inB y2.1 l.length) <| .ob (inB y2.1 m.length) <| .cl feqAddr (l.getD y2.1.toNat default, m.getD y2.1.toNat default, ()) fun z2 => .br (!z2.1) (.lf feqAddrS (false, ())) (.ob (l = l) <| .ob (m = m) <| .ob (bk2 (w1 y2.1, ())) <| .ok)) (.lf feqAddrS (true, ())))) ?_
  refine br_i (fun h1 => lfY ?_) (fun h1 => lpx_i ?_ fun (y2 : Int × PUnit) i2 => br_i (fun h3 => ob_i ?_ fun o4 => ob_i ?_ fun o5 => cl_i trivial fun _ => (br_i (fun h6 => lfY ?_) (fun h6 => ob_i rfl fun _ => ob_i rfl fun _ => ob_i ?_ fun o7 => trivial))) (fun h3 => lfY ?_))
  all_goals try simp only [LeqS, feqAddr, feqAddrS, std, Nat.reduceAdd] at *
  · rw [decide_eq_false]; rintro rfl; omega
  · exact ⟨by omega, by omega, by simp⟩
  · omega
  · omega
  · rw [decide_eq_false]; rintro rfl; exact absurd rfl h6
  · have hw : IntKind.i64.wrap (y2.1 + 1) = y2.1 + 1 := wrapId (by omega)
    rw [hw, toNat1 (by omega)]
    refine ⟨⟨by omega, by omega, ?_⟩, by omega⟩
    rw [take_succ (by omega), take_succ (by omega), i2.2.2, h6]
  · have e : l.take y2.1.toNat = l := List.take_of_length_le (by omega)
    have e2 : m.take y2.1.toNat = m := List.take_of_length_le (by omega)
    rw [decide_eq_true]; rw [← e, ← e2, i2.2.2])
def E17 := E16.add 120 feqAddrS
theorem E17ok : EOk Tryz.prog E17 := E16ok.add k120_16
theorem k131_17 : fmarkAddrS.ok Tryz.prog 131 := MS.of (S := fmarkAddrS) (L := fun l k => fun | 2 => some (LmkS .addr mkAddr l k) | _ => none) (kp := [0,1,4,5,9,1000009]) (kl := [0]) E17ok Tryz.func131 (by kernel_rfl) (by kernel_rfl) (by
  rintro (l : List SAddr) (k : Int) hp
  refine ho (lpx (LmkS .addr mkAddr l k) (k, ((0 : Int), (l, ()))) fun (y1 : Int × Int × List SAddr × PUnit) bk1 => .br (decide (y1.2.1 < (↑y1.2.2.1.length : Int))) (.cl fmarkText (y1.1, ()) fun z2 => .ob (inB y1.2.1 y1.2.2.1.length) <| .ob (y1.2.1.toNat < y1.2.2.1.length) <| .lt (List SAddr) (y1.2.2.1.modify y1.2.1.toNat fun z => (⟨z2.1, z.path⟩ : SAddr)) fun z3 => .cl fmarkText (w1 y1.1, ()) fun z4 => .ob (inB y1.2.1 z3.length) <| .ob (y1.2.1.toNat < z3.length) <| .lt (List SAddr) (z3.modify y1.2.1.toNat fun z => (⟨z.host, z4.1⟩ : SAddr)) fun z5 => .ob (Value.int IntKind.i64 0 = Value.int IntKind.i64 (0 : Int)) <| .ob (bk1 (w1 (w1 y1.1), (w1 y1.2.1, (z5, ())))) <| .ok) (.leaf (.one false [vi (y1.1)]) [] [(0, ⟨Ty.addr, y1.2.2.1⟩)])) ?_
  refine lpx_i ?_ fun (y1 : Int × Int × List SAddr × PUnit) i1 => br_i (fun h2 => cl_i ?_ fun o3 => (ob_i ?_ fun o4 => ob_i ?_ fun o5 => lt_i (cl_i ?_ fun o6 => (ob_i ?_ fun o7 => ob_i ?_ fun o8 => lt_i (ob_i rfl fun _ => ob_i ?_ fun o9 => trivial))))) (fun h2 => MS.leaf ?_)
  all_goals try simp only [stdW] at *
  · exact ⟨by simp, by simp, by simp [markL], by simp [markL]⟩
  all_goals
   have hp1 : 0 ≤ k := hp.1
   have hp2 : (markL mkAddr l k).2 ≤ 4000000000000000000 := hp.2
   have i3 : 0 ≤ y1.2.1 ∧ y1.2.1 ≤ l.length ∧ y1.1 = (markL mkAddr (l.take y1.2.1.toNat) k).2 ∧ y1.2.2.1 = (markL mkAddr (l.take y1.2.1.toNat) k).1 ++ l.drop y1.2.1.toNat := i1
   have hcnt := markL_cnt (f := mkAddr) (fun x k => by simp only [mkAddr]; omega) l k
   have hx : y1.2.2.1.length = l.length := by rw [i3.2.2.2, List.length_append, markL_len, List.length_take, List.length_drop]; omega
  all_goals simp only [decide_eq_true_eq, decide_eq_false_iff_not, hx] at h2
  all_goals
   clear i1
   try have hlt : y1.2.1.toNat < l.length := by omega
   try have ht := markL_take (f := mkAddr) hlt k
   try have hle := (markL_take_le mkAddr_mono l (y1.2.1.toNat + 1) k).2
   try have hl0 := (markL_take_le mkAddr_mono l y1.2.1.toNat k).1
   try rw [ht] at hle
   try rw [← i3.2.2.1] at hle hl0 ht
   try simp only [mkAddr] at hle
  all_goals first | decide | (simp only [List.length_modify, hx]; omega) | (refine ⟨?_, ?_⟩ <;> (try simp (discharger := omega) only [wrapId']) <;> omega) | skip
  · try clear o3 o4 o5
    simp (discharger := omega) only [wrapId', fmarkText]
    have hA : (markL mkAddr (l.take y1.2.1.toNat) k).1.length = y1.2.1.toNat := by rw [markL_len, List.length_take]; omega
    refine ⟨⟨by omega, by omega, ?_, ?_⟩, ?_⟩
    · rw [toNat1 (by omega), ht]
      first | done | (simp only [mkAddr]; done) | (simp only [mkAddr]; omega)
    · rw [toNat1 (by omega), ht, i3.2.2.2, drop_cons hlt]
      simp only [mod_at hA, mkAddr, Int.add_assoc, Int.reduceAdd, List.append_assoc, List.cons_append, List.nil_append]
    · omega
  · refine MS.leafL (t := .addr) (fn := fun l k => markL mkAddr l k) ?_
    have e1 : l.take y1.2.1.toNat = l := List.take_of_length_le (by omega)
    have e2 : l.drop y1.2.1.toNat = [] := List.drop_of_length_le (by omega)
    rw [i3.2.2.2, i3.2.2.1, e1, e2, List.append_nil])
def E18 := E17.addM 131 fmarkAddrS
theorem E18ok : EOk Tryz.prog E18 := E17ok.addM k131_17
theorem k141_18 : fheldAddrS.ok Tryz.prog 141 := Fct.of (S := fheldAddrS) (L := fun ⟨l, k, _⟩ => fun | 2 => some (LheS .addr mkAddr l k) | _ => none) (kp := [0,1,4,5,9,19,29,1000009,1000019,1000029]) E18ok Tryz.func141 (by kernel_rfl) (by kernel_rfl) (by
  rintro ⟨(l : List SAddr), (k : Int), _⟩ hp
  refine ho (lpx (LheS .addr mkAddr l k) (k, ((0 : Int), ())) fun (y1 : Int × Int × PUnit) bk1 => .br (decide (y1.2.1 < (↑l.length : Int))) (.ob (inB y1.2.1 l.length) <| .cl fmarkText (y1.1, ()) fun z2 => .br (!(l.getD y1.2.1.toNat default).host.toList == z2.1.toList) (.lf fheldAddrS ((-1 : Int), ())) (.ob (inB y1.2.1 l.length) <| .cl fmarkText (w1 y1.1, ()) fun z3 => .br (!(l.getD y1.2.1.toNat default).path.toList == z3.1.toList) (.lf fheldAddrS ((-1 : Int), ())) (.ob (l = l) <| .ob (bk1 (w1 (w1 y1.1), (w1 y1.2.1, ()))) <| .ok))) (.lf fheldAddrS (y1.1, ()))) ?_
  refine lpx_i ?_ fun (y1 : Int × Int × PUnit) i1 => br_i (fun h2 => ob_i ?_ fun o3 => cl_i ?_ fun o4 => (br_i (fun h5 => lfY ?_) (fun h5 => ob_i ?_ fun o6 => cl_i ?_ fun o7 => (br_i (fun h8 => lfY ?_) (fun h8 => ob_i rfl fun _ => ob_i ?_ fun o9 => trivial))))) (fun h2 => lfY ?_)
  all_goals try simp only [stdW] at *
  · exact ⟨by simp, by simp, by simp [markL]⟩
  all_goals
   have hp1 : 0 ≤ k := hp.1
   have hp2 : (markL mkAddr l k).2 ≤ 4000000000000000000 := hp.2.1
   have hp3 : (markL mkAddr l k).1 = l := hp.2.2
   have i3 : 0 ≤ y1.2.1 ∧ y1.2.1 ≤ l.length ∧ y1.1 = (markL mkAddr (l.take y1.2.1.toNat) k).2 := i1
   have hcnt := markL_cnt (f := mkAddr) (fun x k => by simp only [mkAddr]; omega) l k
  all_goals simp only [decide_eq_true_eq, decide_eq_false_iff_not] at h2
  all_goals
   clear i1 hp
   try have hlt : y1.2.1.toNat < l.length := by omega
   try have ht := markL_take (f := mkAddr) hlt k
   try have hle := (markL_take_le mkAddr_mono l (y1.2.1.toNat + 1) k).2
   try have hl0 := (markL_take_le mkAddr_mono l y1.2.1.toNat k).1
   try have heq := markL_held hp3 hlt
   try rw [ht] at hle
   try rw [← i3.2.2] at hle hl0 ht heq
   try simp only [mkAddr] at hle heq
  all_goals first | decide | omega | (refine ⟨?_, ?_⟩ <;> (try simp (discharger := omega) only [wrapId']) <;> omega) | skip
  all_goals try (exfalso; clear ht; generalize l.getD y1.2.1.toNat default = c at *; subst heq; simp (discharger := omega) [wrapId', fmarkText, Int.add_assoc] at *; done)
  · simp (discharger := omega) only [wrapId']
    refine ⟨⟨by omega, by omega, ?_⟩, ?_⟩
    · rw [toNat1 (by omega), ht]
      first | done | (simp only [mkAddr]; done) | (simp only [mkAddr]; omega)
    · omega
  · have e1 : l.take y1.2.1.toNat = l := List.take_of_length_le (by omega)
    rw [e1] at i3
    show (y1.1, ()) = ((markL mkAddr l k).2, ())
    rw [i3.2.2])
def E19 := E18.add 141 fheldAddrS
theorem E19ok : EOk Tryz.prog E19 := E18ok.add k141_18
theorem k251_19 : fszAttr.ok Tryz.prog 251 := Fct.o [1,2,4,11,18,1000011,1000018] E19ok Tryz.func251 (by
  rintro ⟨(x : SAttr), (n : Int), _⟩ hp
  refine ho (.br (decide (wr (n - (↑x.name.size : Int)) < 0)) (.lf fszAttr ((-1 : Int), ())) (.br (decide (wr (wr (n - (↑x.name.size : Int)) - (↑x.value.size : Int)) < 0)) (.lf fszAttr ((-1 : Int), ())) (.lf fszAttr (wr (wr (n - (↑x.name.size : Int)) - (↑x.value.size : Int)), ())))) ?_
  refine br_i (fun h1 => lfY ?_) (fun h1 => br_i (fun h2 => lfY ?_) (fun h2 => lfY ?_))
  all_goals try simp only [fszAttr, std, Nat.reduceAdd, Sh.good, Sh.fc, enc, List.forall_mem_cons, List.not_mem_nil, false_implies, implies_true, goodC, maxLen] at *
  all_goals grind [wrapId', lessen, szAttr])
def E20 := E19.add 251 fszAttr
theorem E20ok : EOk Tryz.prog E20 := E19ok.add k251_19
theorem k255_20 : ftoAttr.ok Tryz.prog 255 := Fct.o [1,2,3] E20ok Tryz.func255 (by
  rintro ⟨(x : SAttr), _⟩ hp
  refine ho (.lf ftoAttr (x, ())) ?_
  refine lfY ?_
  all_goals try simp only [ftoAttr, std, Nat.reduceAdd] at *
  all_goals first | trivial | rfl | grind [szAttr])
def E21 := E20.add 255 ftoAttr
theorem E21ok : EOk Tryz.prog E21 := E20ok.add k255_20
theorem k265_21 : feqAttr.ok Tryz.prog 265 := Fct.o [2,3,4,9,14,1000009,1000014] E21ok Tryz.func265 (by
  rintro ⟨(x : SAttr), (y : SAttr), _⟩ hp
  refine ho (.br (!x.name.toList == y.name.toList) (.lf feqAttr (false, ())) (.br (!x.value.toList == y.value.toList) (.lf feqAttr (false, ())) (.lf feqAttr (true, ())))) ?_
  refine br_i (fun h1 => lfY ?_) (fun h1 => br_i (fun h2 => lfY ?_) (fun h2 => lfY ?_))
  all_goals try simp only [feqAttr, std, Nat.reduceAdd] at *
  all_goals first | trivial | (cases x; cases y; simp_all; done) | (simp only [szAttr] at *; omega) | grind [szAttr])
def E22 := E21.add 265 feqAttr
theorem E22ok : EOk Tryz.prog E22 := E21ok.add k265_21
theorem k214_22 : fszAttrS.ok Tryz.prog 214 := Fct.of (S := fszAttrS) (L := fun ⟨l, n, _⟩ => fun | 5 => some (LszS .attr szAttr l n) | _ => none) (kp := [0,1,4,5,11,15,25,1000011,1000015,1000025]) E22ok Tryz.func214 (by kernel_rfl) (by kernel_rfl) (by
  rintro ⟨(l : List SAttr), (n : Int), _⟩ hp
  refine ho (.br (decide (wr (n - (↑l.length : Int)) < 0)) (.lf fszAttrS ((-1 : Int), ())) (lpx (LszS .attr szAttr l n) (wr (n - (↑l.length : Int)), ((0 : Int), ())) fun (y2 : Int × Int × PUnit) bk2 => .br (decide (y2.2.1 < (↑l.length : Int))) (.ob (inB y2.2.1 l.length) <| .cl fszAttr (l.getD y2.2.1.toNat default, y2.1, ()) fun z2 => .br (decide (z2.1 < 0)) (.lf fszAttrS ((-1 : Int), ())) (.ob (l = l) <| .ob (bk2 (z2.1, (w1 y2.2.1, ()))) <| .ok)) (.lf fszAttrS (y2.1, ())))) ?_
  refine br_i (fun h1 => lfY ?_) (fun h1 => lpx_i ?_ fun (y2 : Int × Int × PUnit) i2 => br_i (fun h3 => ob_i ?_ fun o4 => cl_i ?_ fun o5 => (br_i (fun h6 => lfY ?_) (fun h6 => ob_i rfl fun _ => ob_i ?_ fun o7 => trivial))) (fun h3 => lfY ?_))
  all_goals
   try simp only [std0] at *
   try simp only [LszS, fszAttr, fszAttrS, std, Nat.reduceAdd] at *
  · have := good_len hp.1; simp only [maxLen] at this; rw [wrapId (by omega)] at h1
    rw [lessenNeg (by simp only [szL]; omega)]
  · have := good_len hp.1; simp only [maxLen] at this
    rw [wrapId (by omega)] at h1 ⊢
    exact ⟨by omega, by omega, h1, by simp⟩
  · omega
  · exact ⟨good_getD hp.1 (by omega), by omega, by omega⟩
  · have hs := sum_take_le szAttr l (y2.2.1.toNat + 1)
    rw [sum_take szAttr (by omega)] at hs
    rw [lessen_lt (by omega)] at h6
    rw [lessenNeg (by simp only [szL]; omega)]
  · have hw : IntKind.i64.wrap (y2.2.1 + 1) = y2.2.1 + 1 := wrapId (by have := good_len hp.1; simp only [maxLen] at this; omega)
    have h7 : ¬ lessen y2.1 (szAttr (l.getD y2.2.1.toNat default)) < 0 := by omega
    rw [lessen_lt (by omega)] at h7
    rw [hw, toNat1 (by omega), sum_take szAttr (by omega), lessen_ge (by omega)]
    exact ⟨⟨by omega, by omega, by omega, by omega⟩, by omega⟩
  · have e : l.take y2.2.1.toNat = l := List.take_of_length_le (by omega)
    rw [e] at i2
    have hz : ((szL szAttr l : Nat) : Int) = l.length + (l.map szAttr).sum := by simp only [szL]; omega
    rw [lessen_ge (by omega)]
    show y2.1 = n - ((szL szAttr l : Nat) : Int)
    omega)
def E23 := E22.add 214 fszAttrS
theorem E23ok : EOk Tryz.prog E23 := E22ok.add k214_22
theorem k227_23 : ftoAttrS.ok Tryz.prog 227 := Fct.of (S := ftoAttrS) (L := fun ⟨l, _⟩ => fun | 3 => some (LtoS .attr l) | _ => none) (kp := [0,2,3,4,11,1000011]) E23ok Tryz.func227 (by kernel_rfl) (by kernel_rfl) (by
  rintro ⟨(l : List SAttr), _⟩ hp
  refine ho (.ob ((↑l.length : Int) = (↑l.length : Int) ∧ (0 : Int) ≤ (↑l.length : Int) ∧ (32 : Int) * (↑l.length : Int) ≤ 140737488355328 ∧ (↑l.length : Int) ≤ 140737488355328) <| lpx (LtoS .attr l) ((0 : Int), (List.replicate (↑l.length : Int).toNat default, ())) fun (y2 : Int × List SAttr × PUnit) bk2 => .br (decide (y2.1 < (↑l.length : Int))) (.ob (inB y2.1 l.length) <| .cl ftoAttr (l.getD y2.1.toNat default, ()) fun z2 => .ob (inB y2.1 y2.2.1.length) <| .ob (y2.1.toNat < y2.2.1.length) <| .lt (List SAttr) (y2.2.1.modify y2.1.toNat fun z => z2.1) fun z3 => .ob (l = l) <| .ob (bk2 (w1 y2.1, (z3, ()))) <| .ok) (.lf ftoAttrS (y2.2.1, ()))) ?_
  refine ob_i ?_ fun o1 => lpx_i ?_ fun (y2 : Int × List SAttr × PUnit) i2 => br_i (fun h3 => ob_i ?_ fun o4 => cl_i ?_ fun o5 => (ob_i ?_ fun o6 => ob_i ?_ fun o7 => lt_i (ob_i rfl fun _ => ob_i ?_ fun o8 => trivial))) (fun h3 => lfY ?_)
  all_goals try simp only [LtoS, ftoAttr, ftoAttrS, std, Nat.reduceAdd] at *
  · have := szL_len szAttr l; omega
  · exact ⟨by omega, by omega, by simp⟩
  · omega
  · have hs := sum_take_le szAttr l (y2.1.toNat + 1)
    rw [sum_take szAttr (by omega)] at hs
    simp only [szL] at hp; omega
  · rw [i2.2.2]; simp; omega
  · rw [i2.2.2]; simp; omega
  · have hw : IntKind.i64.wrap (y2.1 + 1) = y2.1 + 1 := wrapId (by have := szL_len szAttr l; omega)
    rw [hw, toNat1 (by omega), i2.2.2]
    refine ⟨⟨by omega, by omega, ?_⟩, by omega⟩
    rw [show l.length - y2.1.toNat = (l.length - (y2.1.toNat + 1)) + 1 from by omega, List.replicate_succ, mod_at (by simp; omega), take_succ (by omega)]
    simp
  · have e : l.take y2.1.toNat = l := List.take_of_length_le (by omega)
    rw [i2.2.2, e]; simp; omega)
def E24 := E23.add 227 ftoAttrS
theorem E24ok : EOk Tryz.prog E24 := E23ok.add k227_23
theorem k248_24 : feqAttrS.ok Tryz.prog 248 := Fct.of (S := feqAttrS) (L := fun ⟨l, m, _⟩ => fun | 4 => some (LeqS .attr l m) | _ => none) (kp := [0,1,4,5,10,14,26,1000010,1000014,1000026]) E24ok Tryz.func248 (by kernel_rfl) (by kernel_rfl) (by
  rintro ⟨(l : List SAttr), (m : List SAttr), _⟩ hp
  refine ho (.br ((↑l.length : Int) != (↑m.length : Int)) (.lf feqAttrS (false, ())) (lpx (LeqS .attr l m) ((0 : Int), ()) fun (y2 : Int × PUnit) bk2 => .br (decide (y2.1 < (↑l.length : Int))) (.ob (inB y2.1 l.length) <| .ob (inB y2.1 m.length) <| .cl feqAttr (l.getD y2.1.toNat default, m.getD y2.1.toNat default, ()) fun z2 => .br (!z2.1) (.lf feqAttrS (false, ())) (.ob (l = l) <| .ob (m = m) <| .ob (bk2 (w1 y2.1, ())) <| .ok)) (.lf feqAttrS (true, ())))) ?_
  refine br_i (fun h1 => lfY ?_) (fun h1 => lpx_i ?_ fun (y2 : Int × PUnit) i2 => br_i (fun h3 => ob_i ?_ fun o4 => ob_i ?_ fun o5 => cl_i trivial fun _ => (br_i (fun h6 => lfY ?_) (fun h6 => ob_i rfl fun _ => ob_i rfl fun _ => ob_i ?_ fun o7 => trivial))) (fun h3 => lfY ?_))
  all_goals try simp only [LeqS, feqAttr, feqAttrS, std, Nat.reduceAdd] at *
  · rw [decide_eq_false]; rintro rfl; omega
  · exact ⟨by omega, by omega, by simp⟩
  · omega
  · omega
  · rw [decide_eq_false]; rintro rfl; exact absurd rfl h6
  · have hw : IntKind.i64.wrap (y2.1 + 1) = y2.1 + 1 := wrapId (by omega)
    rw [hw, toNat1 (by omega)]
    refine ⟨⟨by omega, by omega, ?_⟩, by omega⟩
    rw [take_succ (by omega), take_succ (by omega), i2.2.2, h6]
  · have e : l.take y2.1.toNat = l := List.take_of_length_le (by omega)
    have e2 : m.take y2.1.toNat = m := List.take_of_length_le (by omega)
    rw [decide_eq_true]; rw [← e, ← e2, i2.2.2])
def E25 := E24.add 248 feqAttrS
theorem E25ok : EOk Tryz.prog E25 := E24ok.add k248_24
theorem k204_25 : fmarkAttrS.ok Tryz.prog 204 := MS.of (S := fmarkAttrS) (L := fun l k => fun | 2 => some (LmkS .attr mkAttr l k) | _ => none) (kp := [0,1,4,5,9,1000009]) (kl := [0]) E25ok Tryz.func204 (by kernel_rfl) (by kernel_rfl) (by
  rintro (l : List SAttr) (k : Int) hp
  refine ho (lpx (LmkS .attr mkAttr l k) (k, ((0 : Int), (l, ()))) fun (y1 : Int × Int × List SAttr × PUnit) bk1 => .br (decide (y1.2.1 < (↑y1.2.2.1.length : Int))) (.cl fmarkText (y1.1, ()) fun z2 => .ob (inB y1.2.1 y1.2.2.1.length) <| .ob (y1.2.1.toNat < y1.2.2.1.length) <| .lt (List SAttr) (y1.2.2.1.modify y1.2.1.toNat fun z => (⟨z2.1, z.value⟩ : SAttr)) fun z3 => .cl fmarkText (w1 y1.1, ()) fun z4 => .ob (inB y1.2.1 z3.length) <| .ob (y1.2.1.toNat < z3.length) <| .lt (List SAttr) (z3.modify y1.2.1.toNat fun z => (⟨z.name, z4.1⟩ : SAttr)) fun z5 => .ob (Value.int IntKind.i64 0 = Value.int IntKind.i64 (0 : Int)) <| .ob (bk1 (w1 (w1 y1.1), (w1 y1.2.1, (z5, ())))) <| .ok) (.leaf (.one false [vi (y1.1)]) [] [(0, ⟨Ty.attr, y1.2.2.1⟩)])) ?_
  refine lpx_i ?_ fun (y1 : Int × Int × List SAttr × PUnit) i1 => br_i (fun h2 => cl_i ?_ fun o3 => (ob_i ?_ fun o4 => ob_i ?_ fun o5 => lt_i (cl_i ?_ fun o6 => (ob_i ?_ fun o7 => ob_i ?_ fun o8 => lt_i (ob_i rfl fun _ => ob_i ?_ fun o9 => trivial))))) (fun h2 => MS.leaf ?_)
  all_goals try simp only [stdW] at *
  · exact ⟨by simp, by simp, by simp [markL], by simp [markL]⟩
  all_goals
   have hp1 : 0 ≤ k := hp.1
   have hp2 : (markL mkAttr l k).2 ≤ 4000000000000000000 := hp.2
   have i3 : 0 ≤ y1.2.1 ∧ y1.2.1 ≤ l.length ∧ y1.1 = (markL mkAttr (l.take y1.2.1.toNat) k).2 ∧ y1.2.2.1 = (markL mkAttr (l.take y1.2.1.toNat) k).1 ++ l.drop y1.2.1.toNat := i1
   have hcnt := markL_cnt (f := mkAttr) (fun x k => by simp only [mkAttr]; omega) l k
   have hx : y1.2.2.1.length = l.length := by rw [i3.2.2.2, List.length_append, markL_len, List.length_take, List.length_drop]; omega
  all_goals simp only [decide_eq_true_eq, decide_eq_false_iff_not, hx] at h2
  all_goals
   clear i1
   try have hlt : y1.2.1.toNat < l.length := by omega
   try have ht := markL_take (f := mkAttr) hlt k
   try have hle := (markL_take_le mkAttr_mono l (y1.2.1.toNat + 1) k).2
   try have hl0 := (markL_take_le mkAttr_mono l y1.2.1.toNat k).1
   try rw [ht] at hle
   try rw [← i3.2.2.1] at hle hl0 ht
   try simp only [mkAttr] at hle
  all_goals first | decide | (simp only [List.length_modify, hx]; omega) | (refine ⟨?_, ?_⟩ <;> (try simp (discharger := omega) only [wrapId']) <;> omega) | skip
  · try clear o3 o4 o5
    simp (discharger := omega) only [wrapId', fmarkText]
    have hA : (markL mkAttr (l.take y1.2.1.toNat) k).1.length = y1.2.1.toNat := by rw [markL_len, List.length_take]; omega
    refine ⟨⟨by omega, by omega, ?_, ?_⟩, ?_⟩
    · rw [toNat1 (by omega), ht]
      first | done | (simp only [mkAttr]; done) | (simp only [mkAttr]; omega)
    · rw [toNat1 (by omega), ht, i3.2.2.2, drop_cons hlt]
      simp only [mod_at hA, mkAttr, Int.add_assoc, Int.reduceAdd, List.append_assoc, List.cons_append, List.nil_append]
    · omega
  · refine MS.leafL (t := .attr) (fn := fun l k => markL mkAttr l k) ?_
    have e1 : l.take y1.2.1.toNat = l := List.take_of_length_le (by omega)
    have e2 : l.drop y1.2.1.toNat = [] := List.drop_of_length_le (by omega)
    rw [i3.2.2.2, i3.2.2.1, e1, e2, List.append_nil])
def E26 := E25.addM 204 fmarkAttrS
theorem E26ok : EOk Tryz.prog E26 := E25ok.addM k204_25
theorem k209_26 : fheldAttrS.ok Tryz.prog 209 := Fct.of (S := fheldAttrS) (L := fun ⟨l, k, _⟩ => fun | 2 => some (LheS .attr mkAttr l k) | _ => none) (kp := [0,1,4,5,9,19,29,1000009,1000019,1000029]) E26ok Tryz.func209 (by kernel_rfl) (by kernel_rfl) (by
  rintro ⟨(l : List SAttr), (k : Int), _⟩ hp
  refine ho (lpx (LheS .attr mkAttr l k) (k, ((0 : Int), ())) fun (y1 : Int × Int × PUnit) bk1 => .br (decide (y1.2.1 < (↑l.length : Int))) (.ob (inB y1.2.1 l.length) <| .cl fmarkText (y1.1, ()) fun z2 => .br (!(l.getD y1.2.1.toNat default).name.toList == z2.1.toList) (.lf fheldAttrS ((-1 : Int), ())) (.ob (inB y1.2.1 l.length) <| .cl fmarkText (w1 y1.1, ()) fun z3 => .br (!(l.getD y1.2.1.toNat default).value.toList == z3.1.toList) (.lf fheldAttrS ((-1 : Int), ())) (.ob (l = l) <| .ob (bk1 (w1 (w1 y1.1), (w1 y1.2.1, ()))) <| .ok))) (.lf fheldAttrS (y1.1, ()))) ?_
  refine lpx_i ?_ fun (y1 : Int × Int × PUnit) i1 => br_i (fun h2 => ob_i ?_ fun o3 => cl_i ?_ fun o4 => (br_i (fun h5 => lfY ?_) (fun h5 => ob_i ?_ fun o6 => cl_i ?_ fun o7 => (br_i (fun h8 => lfY ?_) (fun h8 => ob_i rfl fun _ => ob_i ?_ fun o9 => trivial))))) (fun h2 => lfY ?_)
  all_goals try simp only [stdW] at *
  · exact ⟨by simp, by simp, by simp [markL]⟩
  all_goals
   have hp1 : 0 ≤ k := hp.1
   have hp2 : (markL mkAttr l k).2 ≤ 4000000000000000000 := hp.2.1
   have hp3 : (markL mkAttr l k).1 = l := hp.2.2
   have i3 : 0 ≤ y1.2.1 ∧ y1.2.1 ≤ l.length ∧ y1.1 = (markL mkAttr (l.take y1.2.1.toNat) k).2 := i1
   have hcnt := markL_cnt (f := mkAttr) (fun x k => by simp only [mkAttr]; omega) l k
  all_goals simp only [decide_eq_true_eq, decide_eq_false_iff_not] at h2
  all_goals
   clear i1 hp
   try have hlt : y1.2.1.toNat < l.length := by omega
   try have ht := markL_take (f := mkAttr) hlt k
   try have hle := (markL_take_le mkAttr_mono l (y1.2.1.toNat + 1) k).2
   try have hl0 := (markL_take_le mkAttr_mono l y1.2.1.toNat k).1
   try have heq := markL_held hp3 hlt
   try rw [ht] at hle
   try rw [← i3.2.2] at hle hl0 ht heq
   try simp only [mkAttr] at hle heq
  all_goals first | decide | omega | (refine ⟨?_, ?_⟩ <;> (try simp (discharger := omega) only [wrapId']) <;> omega) | skip
  all_goals try (exfalso; clear ht; generalize l.getD y1.2.1.toNat default = c at *; subst heq; simp (discharger := omega) [wrapId', fmarkText, Int.add_assoc] at *; done)
  · simp (discharger := omega) only [wrapId']
    refine ⟨⟨by omega, by omega, ?_⟩, ?_⟩
    · rw [toNat1 (by omega), ht]
      first | done | (simp only [mkAttr]; done) | (simp only [mkAttr]; omega)
    · omega
  · have e1 : l.take y1.2.1.toNat = l := List.take_of_length_le (by omega)
    rw [e1] at i3
    show (y1.1, ()) = ((markL mkAttr l k).2, ())
    rw [i3.2.2])
def E27 := E26.add 209 fheldAttrS
theorem E27ok : EOk Tryz.prog E27 := E26ok.add k209_26
theorem k145_27 : fszToken.ok Tryz.prog 145 := Fct.o [1,2,4,11,17,24,1000011,1000017,1000024] E27ok Tryz.func145 (by
  rintro ⟨(x : SToken), (n : Int), _⟩ hp
  refine ho (.br (decide (wr (n - (↑x.name.size : Int)) < 0)) (.lf fszToken ((-1 : Int), ())) (.cl fszAttrS (x.attrs, wr (n - (↑x.name.size : Int)), ()) fun z2 => .br (decide (z2.1 < 0)) (.lf fszToken ((-1 : Int), ())) (.br (decide (wr (z2.1 - (↑x.text.size : Int)) < 0)) (.lf fszToken ((-1 : Int), ())) (.lf fszToken (wr (z2.1 - (↑x.text.size : Int)), ()))))) ?_
  refine br_i (fun h1 => lfY ?_) (fun h1 => cl_i ?_ fun o2 => (br_i (fun h3 => lfY ?_) (fun h3 => br_i (fun h4 => lfY ?_) (fun h4 => lfY ?_))))
  all_goals try simp only [fszAttrS, fszToken, std, Nat.reduceAdd, Sh.good, Sh.fc, enc, List.forall_mem_cons, List.not_mem_nil, false_implies, implies_true, goodC, maxLen] at *
  all_goals grind [wrapId', lessen, szL, szToken])
def E28 := E27.add 145 fszToken
theorem E28ok : EOk Tryz.prog E28 := E27ok.add k145_27
theorem k168_28 : ftoToken.ok Tryz.prog 168 := Fct.o [1,2,3] E28ok Tryz.func168 (by
  rintro ⟨(x : SToken), _⟩ hp
  refine ho (.cl ftoAttrS (x.attrs, ()) fun z2 => .lf ftoToken (⟨x.kind, x.name, z2.1, x.text⟩, ())) ?_
  refine cl_i ?_ fun o1 => (lfY ?_)
  all_goals try simp only [ftoAttrS, ftoToken, std, Nat.reduceAdd] at *
  all_goals first | trivial | rfl | grind [szL, szToken])
def E29 := E28.add 168 ftoToken
theorem E29ok : EOk Tryz.prog E29 := E28ok.add k168_28
theorem k196_29 : feqToken.ok Tryz.prog 196 := Fct.o [2,3,4,9,14,20,25,1000009,1000014,1000020,1000025] E29ok Tryz.func196 (by
  rintro ⟨(x : SToken), (y : SToken), _⟩ hp
  refine ho (.br (x.kind != y.kind) (.lf feqToken (false, ())) (.br (!x.name.toList == y.name.toList) (.lf feqToken (false, ())) (.cl feqAttrS (x.attrs, y.attrs, ()) fun z2 => .br (!z2.1) (.lf feqToken (false, ())) (.br (!x.text.toList == y.text.toList) (.lf feqToken (false, ())) (.lf feqToken (true, ())))))) ?_
  refine br_i (fun h1 => lfY ?_) (fun h1 => br_i (fun h2 => lfY ?_) (fun h2 => cl_i ?_ fun o3 => (br_i (fun h4 => lfY ?_) (fun h4 => br_i (fun h5 => lfY ?_) (fun h5 => lfY ?_)))))
  all_goals try simp only [feqAttrS, feqToken, std, Nat.reduceAdd] at *
  all_goals first | trivial | (cases x; cases y; simp_all; done) | (simp only [szL, szToken] at *; omega) | grind [szL, szToken])
def E30 := E29.add 196 feqToken
theorem E30ok : EOk Tryz.prog E30 := E29ok.add k196_29
theorem k58_30 : fszTokenS.ok Tryz.prog 58 := Fct.of (S := fszTokenS) (L := fun ⟨l, n, _⟩ => fun | 5 => some (LszS .token szToken l n) | _ => none) (kp := [0,1,4,5,11,15,25,1000011,1000015,1000025]) E30ok Tryz.func58 (by kernel_rfl) (by kernel_rfl) (by
  rintro ⟨(l : List SToken), (n : Int), _⟩ hp
  refine ho (.br (decide (wr (n - (↑l.length : Int)) < 0)) (.lf fszTokenS ((-1 : Int), ())) (lpx (LszS .token szToken l n) (wr (n - (↑l.length : Int)), ((0 : Int), ())) fun (y2 : Int × Int × PUnit) bk2 => .br (decide (y2.2.1 < (↑l.length : Int))) (.ob (inB y2.2.1 l.length) <| .cl fszToken (l.getD y2.2.1.toNat default, y2.1, ()) fun z2 => .br (decide (z2.1 < 0)) (.lf fszTokenS ((-1 : Int), ())) (.ob (l = l) <| .ob (bk2 (z2.1, (w1 y2.2.1, ()))) <| .ok)) (.lf fszTokenS (y2.1, ())))) ?_
  refine br_i (fun h1 => lfY ?_) (fun h1 => lpx_i ?_ fun (y2 : Int × Int × PUnit) i2 => br_i (fun h3 => ob_i ?_ fun o4 => cl_i ?_ fun o5 => (br_i (fun h6 => lfY ?_) (fun h6 => ob_i rfl fun _ => ob_i ?_ fun o7 => trivial))) (fun h3 => lfY ?_))
  all_goals
   try simp only [std0] at *
   try simp only [LszS, fszToken, fszTokenS, std, Nat.reduceAdd] at *
  · have := good_len hp.1; simp only [maxLen] at this; rw [wrapId (by omega)] at h1
    rw [lessenNeg (by simp only [szL]; omega)]
  · have := good_len hp.1; simp only [maxLen] at this
    rw [wrapId (by omega)] at h1 ⊢
    exact ⟨by omega, by omega, h1, by simp⟩
  · omega
  · exact ⟨good_getD hp.1 (by omega), by omega, by omega⟩
  · have hs := sum_take_le szToken l (y2.2.1.toNat + 1)
    rw [sum_take szToken (by omega)] at hs
    rw [lessen_lt (by omega)] at h6
    rw [lessenNeg (by simp only [szL]; omega)]
  · have hw : IntKind.i64.wrap (y2.2.1 + 1) = y2.2.1 + 1 := wrapId (by have := good_len hp.1; simp only [maxLen] at this; omega)
    have h7 : ¬ lessen y2.1 (szToken (l.getD y2.2.1.toNat default)) < 0 := by omega
    rw [lessen_lt (by omega)] at h7
    rw [hw, toNat1 (by omega), sum_take szToken (by omega), lessen_ge (by omega)]
    exact ⟨⟨by omega, by omega, by omega, by omega⟩, by omega⟩
  · have e : l.take y2.2.1.toNat = l := List.take_of_length_le (by omega)
    rw [e] at i2
    have hz : ((szL szToken l : Nat) : Int) = l.length + (l.map szToken).sum := by simp only [szL]; omega
    rw [lessen_ge (by omega)]
    show y2.1 = n - ((szL szToken l : Nat) : Int)
    omega)
def E31 := E30.add 58 fszTokenS
theorem E31ok : EOk Tryz.prog E31 := E30ok.add k58_30
theorem k84_31 : ftoTokenS.ok Tryz.prog 84 := Fct.of (S := ftoTokenS) (L := fun ⟨l, _⟩ => fun | 3 => some (LtoS .token l) | _ => none) (kp := [0,2,3,4,11,1000011]) E31ok Tryz.func84 (by kernel_rfl) (by kernel_rfl) (by
  rintro ⟨(l : List SToken), _⟩ hp
  refine ho (.ob ((↑l.length : Int) = (↑l.length : Int) ∧ (0 : Int) ≤ (↑l.length : Int) ∧ (64 : Int) * (↑l.length : Int) ≤ 140737488355328 ∧ (↑l.length : Int) ≤ 140737488355328) <| lpx (LtoS .token l) ((0 : Int), (List.replicate (↑l.length : Int).toNat default, ())) fun (y2 : Int × List SToken × PUnit) bk2 => .br (decide (y2.1 < (↑l.length : Int))) (.ob (inB y2.1 l.length) <| .cl ftoToken (l.getD y2.1.toNat default, ()) fun z2 => .ob (inB y2.1 y2.2.1.length) <| .ob (y2.1.toNat < y2.2.1.length) <| .lt (List SToken) (y2.2.1.modify y2.1.toNat fun z => z2.1) fun z3 => .ob (l = l) <| .ob (bk2 (w1 y2.1, (z3, ()))) <| .ok) (.lf ftoTokenS (y2.2.1, ()))) ?_
  refine ob_i ?_ fun o1 => lpx_i ?_ fun (y2 : Int × List SToken × PUnit) i2 => br_i (fun h3 => ob_i ?_ fun o4 => cl_i ?_ fun o5 => (ob_i ?_ fun o6 => ob_i ?_ fun o7 => lt_i (ob_i rfl fun _ => ob_i ?_ fun o8 => trivial))) (fun h3 => lfY ?_)
  all_goals try simp only [LtoS, ftoToken, ftoTokenS, std, Nat.reduceAdd] at *
  · have := szL_len szToken l; omega
  · exact ⟨by omega, by omega, by simp⟩
  · omega
  · have hs := sum_take_le szToken l (y2.1.toNat + 1)
    rw [sum_take szToken (by omega)] at hs
    simp only [szL] at hp; omega
  · rw [i2.2.2]; simp; omega
  · rw [i2.2.2]; simp; omega
  · have hw : IntKind.i64.wrap (y2.1 + 1) = y2.1 + 1 := wrapId (by have := szL_len szToken l; omega)
    rw [hw, toNat1 (by omega), i2.2.2]
    refine ⟨⟨by omega, by omega, ?_⟩, by omega⟩
    rw [show l.length - y2.1.toNat = (l.length - (y2.1.toNat + 1)) + 1 from by omega, List.replicate_succ, mod_at (by simp; omega), take_succ (by omega)]
    simp
  · have e : l.take y2.1.toNat = l := List.take_of_length_le (by omega)
    rw [i2.2.2, e]; simp; omega)
def E32 := E31.add 84 ftoTokenS
theorem E32ok : EOk Tryz.prog E32 := E31ok.add k84_31
theorem k116_32 : feqTokenS.ok Tryz.prog 116 := Fct.of (S := feqTokenS) (L := fun ⟨l, m, _⟩ => fun | 4 => some (LeqS .token l m) | _ => none) (kp := [0,1,4,5,10,14,26,1000010,1000014,1000026]) E32ok Tryz.func116 (by kernel_rfl) (by kernel_rfl) (by
  rintro ⟨(l : List SToken), (m : List SToken), _⟩ hp
  refine ho (.br ((↑l.length : Int) != (↑m.length : Int)) (.lf feqTokenS (false, ())) (lpx (LeqS .token l m) ((0 : Int), ()) fun (y2 : Int × PUnit) bk2 => .br (decide (y2.1 < (↑l.length : Int))) (.ob (inB y2.1 l.length) <| .ob (inB y2.1 m.length) <| .cl feqToken (l.getD y2.1.toNat default, m.getD y2.1.toNat default, ()) fun z2 => .br (!z2.1) (.lf feqTokenS (false, ())) (.ob (l = l) <| .ob (m = m) <| .ob (bk2 (w1 y2.1, ())) <| .ok)) (.lf feqTokenS (true, ())))) ?_
  refine br_i (fun h1 => lfY ?_) (fun h1 => lpx_i ?_ fun (y2 : Int × PUnit) i2 => br_i (fun h3 => ob_i ?_ fun o4 => ob_i ?_ fun o5 => cl_i ?_ fun o6 => (br_i (fun h7 => lfY ?_) (fun h7 => ob_i rfl fun _ => ob_i rfl fun _ => ob_i ?_ fun o8 => trivial))) (fun h3 => lfY ?_))
  all_goals try simp only [LeqS, feqToken, feqTokenS, std, Nat.reduceAdd] at *
  all_goals have hl := szL_len szToken l
  · rw [decide_eq_false]; rintro rfl; omega
  · exact ⟨by omega, by omega, by simp⟩
  · omega
  · omega
  · have hs := szL_get szToken (l := l) (i := y2.1.toNat) (by omega); omega
  · rw [decide_eq_false]; rintro rfl; first | exact absurd rfl h6 | exact absurd rfl h7
  · have hw : IntKind.i64.wrap (y2.1 + 1) = y2.1 + 1 := wrapId (by omega)
    rw [hw, toNat1 (by omega)]
    refine ⟨⟨by omega, by omega, ?_⟩, by omega⟩
    rw [take_succ (by omega), take_succ (by omega), i2.2.2]; first | rw [h6] | rw [h7]
  · have e : l.take y2.1.toNat = l := List.take_of_length_le (by omega)
    have e2 : m.take y2.1.toNat = m := List.take_of_length_le (by omega)
    rw [decide_eq_true]; rw [← e, ← e2, i2.2.2])
def E33 := E32.add 116 feqTokenS
theorem E33ok : EOk Tryz.prog E33 := E32ok.add k116_32
theorem k127_33 : fmarkTokenS.ok Tryz.prog 127 := MS.of (S := fmarkTokenS) (L := fun l k => fun | 2 => some (LmkS .token mkToken l k) | _ => none) (kp := [0,1,4,5,9,1000009]) (kl := [0]) E33ok Tryz.func127 (by kernel_rfl) (by kernel_rfl) (by
  rintro (l : List SToken) (k : Int) hp
  refine ho (lpx (LmkS .token mkToken l k) (k, ((0 : Int), (l, ()))) fun (y1 : Int × Int × List SToken × PUnit) bk1 => .br (decide (y1.2.1 < (↑y1.2.2.1.length : Int))) (.ob (inB y1.2.1 y1.2.2.1.length) <| .ob (y1.2.1.toNat < y1.2.2.1.length) <| .lt (List SToken) (y1.2.2.1.modify y1.2.1.toNat fun z => (⟨y1.1, z.name, z.attrs, z.text⟩ : SToken)) fun z2 => .cl fmarkText (w1 y1.1, ()) fun z3 => .ob (inB y1.2.1 z2.length) <| .ob (y1.2.1.toNat < z2.length) <| .lt (List SToken) (z2.modify y1.2.1.toNat fun z => (⟨z.kind, z3.1, z.attrs, z.text⟩ : SToken)) fun z4 => .ob (inB y1.2.1 z4.length) <| .ob (y1.2.1.toNat < z4.length) <| .ob (fmarkAttrS.pre (z4.getD y1.2.1.toNat default).attrs (w1 (w1 y1.1))) <| .lt _ (fmarkAttrS.fn (z4.getD y1.2.1.toNat default).attrs (w1 (w1 y1.1))) fun z5 => .lt (List SToken) (z4.modify y1.2.1.toNat fun z => (⟨z.kind, z.name, z5.1, z.text⟩ : SToken)) fun z6 => .cl fmarkText (z5.2, ()) fun z7 => .ob (inB y1.2.1 z6.length) <| .ob (y1.2.1.toNat < z6.length) <| .lt (List SToken) (z6.modify y1.2.1.toNat fun z => (⟨z.kind, z.name, z.attrs, z7.1⟩ : SToken)) fun z8 => .ob (Value.int IntKind.i64 0 = Value.int IntKind.i64 (0 : Int)) <| .ob (bk1 (w1 z5.2, (w1 y1.2.1, (z8, ())))) <| .ok) (.leaf (.one false [vi (y1.1)]) [] [(0, ⟨Ty.token, y1.2.2.1⟩)])) ?_
  refine lpx_i ?_ fun (y1 : Int × Int × List SToken × PUnit) i1 => br_i (fun h2 => ob_d ?_ <| ob_d ?_ <| lt_i (cl_i ?_ fun o5 => (ob_d ?_ <| ob_d ?_ <| lt_i (ob_d ?_ <| ob_d ?_ <| ob_d ?_ <| lt_i (lt_i (cl_i ?_ fun o11 => (ob_d ?_ <| ob_d ?_ <| lt_i (ob_d rfl <| ob_d ?_ <| trivial)))))))) (fun h2 => MS.leaf ?_)
  all_goals try simp only [stdW] at *
  · exact ⟨by simp, by simp, by simp [markL], by simp [markL]⟩
  all_goals
   have hp1 : 0 ≤ k := hp.1
   have hp2 : (markL mkToken l k).2 ≤ 4000000000000000000 := hp.2
   have i3 : 0 ≤ y1.2.1 ∧ y1.2.1 ≤ l.length ∧ y1.1 = (markL mkToken (l.take y1.2.1.toNat) k).2 ∧ y1.2.2.1 = (markL mkToken (l.take y1.2.1.toNat) k).1 ++ l.drop y1.2.1.toNat := i1
   have hcnt := markL_cnt (f := mkToken) mkToken_cnt l k
   have hx : y1.2.2.1.length = l.length := by rw [i3.2.2.2, List.length_append, markL_len, List.length_take, List.length_drop]; omega
  all_goals simp only [decide_eq_true_eq, decide_eq_false_iff_not, hx] at h2
  all_goals
   clear i1 hp
   try have hlt : y1.2.1.toNat < l.length := by omega
   try have ht := markL_take (f := mkToken) hlt k
   try have hle := (markL_take_le mkToken_mono l (y1.2.1.toNat + 1) k).2
   try have hl0 := (markL_take_le mkToken_mono l y1.2.1.toNat k).1
   try rw [ht] at hle
   try rw [← i3.2.2.1] at hle hl0 ht
   try have i4 : y1.2.2.1 = (markL mkToken (l.take y1.2.1.toNat) k).1 ++ l.getD y1.2.1.toNat default :: l.drop (y1.2.1.toNat + 1) := by rw [i3.2.2.2, drop_cons hlt]
   try have hA : (markL mkToken (l.take y1.2.1.toNat) k).1.length = y1.2.1.toNat := by rw [markL_len, List.length_take]; omega
   try simp only [mkToken] at hle
   try have m1 := mkAttrS_mono (l.getD y1.2.1.toNat default).attrs (y1.1 + 2)
   try generalize hr1 : markL mkAttr (l.getD y1.2.1.toNat default).attrs (y1.1 + 2) = r1 at *
   try simp (disch := omega) only [i4, mod_at hA, getD_at hA, fmarkText, fmarkAttrS, wrapId', Int.add_assoc, Int.reduceAdd, hr1, List.length_append, List.length_cons, List.length_drop, hA]
  all_goals first | trivial | omega | (refine ⟨?_, ?_⟩ <;> omega) | skip
  · refine ⟨⟨by omega, by omega, ?_, ?_⟩, by omega⟩
    · rw [toNat1 (by omega), ht]
      simp only [mkToken, Int.add_assoc, Int.reduceAdd, hr1]
    · rw [toNat1 (by omega), ht]
      simp only [mkToken, Int.add_assoc, Int.reduceAdd, hr1, List.append_assoc, List.cons_append, List.nil_append]
  · refine MS.leafL (t := .token) (fn := fun l k => markL mkToken l k) ?_
    have e1 : l.take y1.2.1.toNat = l := List.take_of_length_le (by omega)
    have e2 : l.drop y1.2.1.toNat = [] := List.drop_of_length_le (by omega)
    rw [i3.2.2.2, i3.2.2.1, e1, e2, List.append_nil])
def E34 := E33.addM 127 fmarkTokenS
theorem E34ok : EOk Tryz.prog E34 := E33ok.addM k127_33
theorem k137_34 : fheldTokenS.ok Tryz.prog 137 := Fct.of (S := fheldTokenS) (L := fun ⟨l, k, _⟩ => fun | 2 => some (LheS .token mkToken l k) | _ => none) (kp := [0,1,4,5,9,18,28,39,47,1000009,1000018,1000028,1000039,1000047]) E34ok Tryz.func137 (by kernel_rfl) (by kernel_rfl) (by
  rintro ⟨(l : List SToken), (k : Int), _⟩ hp
  refine ho (lpx (LheS .token mkToken l k) (k, ((0 : Int), ())) fun (y1 : Int × Int × PUnit) bk1 =>
 .br (decide (y1.snd.fst < (↑l.length : Int)))
  (.ob ((0 : Int) ≤ y1.snd.fst ∧ y1.snd.fst < (↑l.length : Int)) <|
   .br ((l.getD y1.snd.fst.toNat default).kind != y1.fst)
   (.leaf (mkR fheldTokenS.rs ((-1 : Int), ())) [] [])
   (.ob ((0 : Int) ≤ y1.snd.fst ∧ y1.snd.fst < (↑l.length : Int)) <|
    .ob (fmarkText.pre (IntKind.i64.wrap (y1.fst + (1 : Int)), ())) <|
    .lt (ByteArray × PUnit) (fmarkText.fn (IntKind.i64.wrap (y1.fst + (1 : Int)), ())) fun z2 =>
    .br (!(l.getD y1.snd.fst.toNat default).name.toList == z2.fst.toList)
     (.leaf (mkR fheldTokenS.rs ((-1 : Int), ())) [] [])
     (.ob ((0 : Int) ≤ y1.snd.fst ∧ y1.snd.fst < (↑l.length : Int)) <|
      .ob (fheldAttrS.pre
  ((l.getD y1.snd.fst.toNat default).attrs, IntKind.i64.wrap (IntKind.i64.wrap (y1.fst + (1 : Int)) + (1 : Int)), ())) <|
      .lt (Int × PUnit) (fheldAttrS.fn
  ((l.getD y1.snd.fst.toNat default).attrs, IntKind.i64.wrap (IntKind.i64.wrap (y1.fst + (1 : Int)) + (1 : Int)), ())) fun z3 =>
      .br (decide (z3.fst < (0 : Int)))
       (.leaf (mkR fheldTokenS.rs ((-1 : Int), ())) [] [])
       (.ob ((0 : Int) ≤ y1.snd.fst ∧ y1.snd.fst < (↑l.length : Int)) <|
        .ob (fmarkText.pre (z3.fst, ())) <|
        .lt (ByteArray × PUnit) (fmarkText.fn (z3.fst, ())) fun z4 =>
        .br (!(l.getD y1.snd.fst.toNat default).text.toList == z4.fst.toList)
         (.leaf (mkR fheldTokenS.rs ((-1 : Int), ())) [] [])
         (.ob (l = l) <|
          .ob (bk1 (IntKind.i64.wrap (z3.fst + (1 : Int)), (IntKind.i64.wrap (y1.snd.fst + (1 : Int)), ()))) <|
          .ok)))))
  (.leaf (mkR fheldTokenS.rs (y1.fst, ())) [] [])) ?_
  refine lpx_i ?_ fun (y1 : Int × Int × PUnit) i1 => br_i (fun h2 => ob_d ?_ <| br_i (fun h4 => Fct.leafY ?_) (fun h4 => ob_d ?_ <| ob_d ?_ <| lt_i (br_i (fun h7 => Fct.leafY ?_) (fun h7 => ob_d ?_ <| ob_d ?_ <| lt_i (br_i (fun h10 => Fct.leafY ?_) (fun h10 => ob_d ?_ <| ob_d ?_ <| lt_i (br_i (fun h13 => Fct.leafY ?_) (fun h13 => ob_d rfl <| ob_d ?_ <| trivial)))))))) (fun h2 => Fct.leafY ?_)
  · exact ⟨by simp, by simp, by simp [markL]⟩
  all_goals
   have hp1 : 0 ≤ k := hp.1
   have hp2 : (markL mkToken l k).2 ≤ 4000000000000000000 := hp.2.1
   have hp3 : (markL mkToken l k).1 = l := hp.2.2
   have i3 : 0 ≤ y1.2.1 ∧ y1.2.1 ≤ l.length ∧ y1.1 = (markL mkToken (l.take y1.2.1.toNat) k).2 := i1
   have hcnt := markL_cnt (f := mkToken) mkToken_cnt l k
  all_goals simp only [decide_eq_true_eq, decide_eq_false_iff_not] at h2
  all_goals
   clear i1 hp
   try have hlt : y1.2.1.toNat < l.length := by omega
   try have ht := markL_take (f := mkToken) hlt k
   try have hle := (markL_take_le mkToken_mono l (y1.2.1.toNat + 1) k).2
   try have hl0 := (markL_take_le mkToken_mono l y1.2.1.toNat k).1
   try have heq := markL_held hp3 hlt
   try rw [ht] at hle
   try rw [← i3.2.2] at hle hl0 ht heq
   try have q1 := congrArg (fun z : SToken => z.kind) heq
   try have q2 := congrArg (fun z : SToken => z.name) heq
   try have q3 := congrArg (fun z : SToken => z.attrs) heq
   try have q4 := congrArg (fun z : SToken => z.text) heq
  all_goals obtain ⟨E, hE⟩ : ∃ E, E = (mkToken (l.getD y1.2.1.toNat default) y1.1).2 := ⟨_, rfl⟩
  all_goals
   have hE2 := hE
   try simp only [mkToken] at hle hE2 q1 q2 q3 q4
   try clear heq
   try have m1 := mkAttrS_mono (l.getD y1.2.1.toNat default).attrs (y1.1 + 2)
   try generalize hr1 : markL mkAttr (l.getD y1.2.1.toNat default).attrs (y1.1 + 2) = r1 at *
   try simp (disch := omega) only [fmarkText, fheldAttrS, wrapId', Int.add_assoc, Int.reduceAdd, hr1, decide_eq_true_eq, decide_eq_false_iff_not, Bool.not_eq_true', Bool.not_eq_false', bne_iff_ne, bne_eq_false_iff_eq, beq_iff_eq, beq_eq_false_iff_ne, baEq, Int.not_lt, ne_eq, Decidable.not_not, decide_not] at *
  all_goals first | trivial | omega | (exfalso; omega) | (refine ⟨?_, ?_⟩ <;> omega) | (refine ⟨?_, ?_, ?_⟩ <;> first | omega | assumption) | (exfalso; simp_all; done) | skip
  · refine ⟨⟨by omega, by omega, ?_⟩, by omega⟩
    rw [toNat1 (by omega), ht]
    show _ = (mkToken (l.getD y1.2.1.toNat default) y1.1).2
    rw [← hE]
    omega
  · have e1 : l.take y1.2.1.toNat = l := List.take_of_length_le (by omega)
    rw [e1] at i3
    show (y1.1, ()) = ((markL mkToken l k).2, ())
    rw [i3.2.2])
def E35 := E34.add 137 fheldTokenS
theorem E35ok : EOk Tryz.prog E35 := E34ok.add k137_34
theorem k57_35 : fszTokenizer.ok Tryz.prog 57 := Fct.o [1,2,4,11,1000011] E35ok Tryz.func57 (by
  rintro ⟨(x : STokenizer), (n : Int), _⟩ hp
  refine ho (.br (decide (wr (n - (↑x.rest.size : Int)) < 0)) (.lf fszTokenizer ((-1 : Int), ())) (.lf fszTokenizer (wr (n - (↑x.rest.size : Int)), ()))) ?_
  refine br_i (fun h1 => lfY ?_) (fun h1 => lfY ?_)
  all_goals try simp only [fszTokenizer, std, Nat.reduceAdd, Sh.good, Sh.fc, enc, List.forall_mem_cons, List.not_mem_nil, false_implies, implies_true, goodC, maxLen] at *
  all_goals grind [wrapId', lessen, szTokenizer])
def E36 := E35.add 57 fszTokenizer
theorem E36ok : EOk Tryz.prog E36 := E35ok.add k57_35
theorem k83_36 : ftoTokenizer.ok Tryz.prog 83 := Fct.o [1,2,3] E36ok Tryz.func83 (by
  rintro ⟨(x : STokenizer), _⟩ hp
  refine ho (.lf ftoTokenizer (x, ())) ?_
  refine lfY ?_
  all_goals try simp only [ftoTokenizer, std, Nat.reduceAdd] at *
  all_goals first | trivial | rfl | grind [szTokenizer])
def E37 := E36.add 83 ftoTokenizer
theorem E37ok : EOk Tryz.prog E37 := E36ok.add k83_36
theorem k115_37 : feqTokenizer.ok Tryz.prog 115 := Fct.o [2,3,4,9,1000009] E37ok Tryz.func115 (by
  rintro ⟨(x : STokenizer), (y : STokenizer), _⟩ hp
  refine ho (.br (!x.rest.toList == y.rest.toList) (.lf feqTokenizer (false, ())) (.lf feqTokenizer (true, ()))) ?_
  refine br_i (fun h1 => lfY ?_) (fun h1 => lfY ?_)
  all_goals try simp only [feqTokenizer, std, Nat.reduceAdd] at *
  all_goals first | trivial | (cases x; cases y; simp_all; done) | (simp only [szTokenizer] at *; omega) | grind [szTokenizer])
def E38 := E37.add 115 feqTokenizer
theorem E38ok : EOk Tryz.prog E38 := E37ok.add k115_37
theorem k215_38 : fszNode.ok Tryz.prog 215 := Fct.o [1,2,4,11,18,24,1000011,1000018,1000024] E38ok Tryz.func215 (by
  rintro ⟨(x : SNode), (n : Int), _⟩ hp
  refine ho (.br (decide (wr (n - (↑x.name.size : Int)) < 0)) (.lf fszNode ((-1 : Int), ())) (.br (decide (wr (wr (n - (↑x.name.size : Int)) - (↑x.text.size : Int)) < 0)) (.lf fszNode ((-1 : Int), ())) (.cl fszAttrS (x.attrs, wr (wr (n - (↑x.name.size : Int)) - (↑x.text.size : Int)), ()) fun z2 => .br (decide (z2.1 < 0)) (.lf fszNode ((-1 : Int), ())) (.lf fszNode (z2.1, ()))))) ?_
  refine br_i (fun h1 => lfY ?_) (fun h1 => br_i (fun h2 => lfY ?_) (fun h2 => cl_i ?_ fun o3 => (br_i (fun h4 => lfY ?_) (fun h4 => lfY ?_))))
  all_goals try simp only [fszAttrS, fszNode, std, Nat.reduceAdd, Sh.good, Sh.fc, enc, List.forall_mem_cons, List.not_mem_nil, false_implies, implies_true, goodC, maxLen] at *
  all_goals grind [wrapId', lessen, szL, szNode])
def E39 := E38.add 215 fszNode
theorem E39ok : EOk Tryz.prog E39 := E38ok.add k215_38
theorem k228_39 : ftoNode.ok Tryz.prog 228 := Fct.o [1,2,3] E39ok Tryz.func228 (by
  rintro ⟨(x : SNode), _⟩ hp
  refine ho (.cl ftoAttrS (x.attrs, ()) fun z2 => .lf ftoNode (⟨x.name, x.text, x.parent, z2.1⟩, ())) ?_
  refine cl_i ?_ fun o1 => (lfY ?_)
  all_goals try simp only [ftoAttrS, ftoNode, std, Nat.reduceAdd] at *
  all_goals first | trivial | rfl | grind [szL, szNode])
def E40 := E39.add 228 ftoNode
theorem E40ok : EOk Tryz.prog E40 := E39ok.add k228_39
theorem k249_40 : feqNode.ok Tryz.prog 249 := Fct.o [2,3,4,9,14,19,25,1000009,1000014,1000019,1000025] E40ok Tryz.func249 (by
  rintro ⟨(x : SNode), (y : SNode), _⟩ hp
  refine ho (.br (!x.name.toList == y.name.toList) (.lf feqNode (false, ())) (.br (!x.text.toList == y.text.toList) (.lf feqNode (false, ())) (.br (x.parent != y.parent) (.lf feqNode (false, ())) (.cl feqAttrS (x.attrs, y.attrs, ()) fun z2 => .br (!z2.1) (.lf feqNode (false, ())) (.lf feqNode (true, ())))))) ?_
  refine br_i (fun h1 => lfY ?_) (fun h1 => br_i (fun h2 => lfY ?_) (fun h2 => br_i (fun h3 => lfY ?_) (fun h3 => cl_i ?_ fun o4 => (br_i (fun h5 => lfY ?_) (fun h5 => lfY ?_)))))
  all_goals try simp only [feqAttrS, feqNode, std, Nat.reduceAdd] at *
  all_goals first | trivial | (cases x; cases y; simp_all; done) | (simp only [szL, szNode] at *; omega) | grind [szL, szNode])
def E41 := E40.add 249 feqNode
theorem E41ok : EOk Tryz.prog E41 := E40ok.add k249_40
theorem k146_41 : fszNodeS.ok Tryz.prog 146 := Fct.of (S := fszNodeS) (L := fun ⟨l, n, _⟩ => fun | 5 => some (LszS .node szNode l n) | _ => none) (kp := [0,1,4,5,11,15,25,1000011,1000015,1000025]) E41ok Tryz.func146 (by kernel_rfl) (by kernel_rfl) (by
  rintro ⟨(l : List SNode), (n : Int), _⟩ hp
  refine ho (.br (decide (wr (n - (↑l.length : Int)) < 0)) (.lf fszNodeS ((-1 : Int), ())) (lpx (LszS .node szNode l n) (wr (n - (↑l.length : Int)), ((0 : Int), ())) fun (y2 : Int × Int × PUnit) bk2 => .br (decide (y2.2.1 < (↑l.length : Int))) (.ob (inB y2.2.1 l.length) <| .cl fszNode (l.getD y2.2.1.toNat default, y2.1, ()) fun z2 => .br (decide (z2.1 < 0)) (.lf fszNodeS ((-1 : Int), ())) (.ob (l = l) <| .ob (bk2 (z2.1, (w1 y2.2.1, ()))) <| .ok)) (.lf fszNodeS (y2.1, ())))) ?_
  refine br_i (fun h1 => lfY ?_) (fun h1 => lpx_i ?_ fun (y2 : Int × Int × PUnit) i2 => br_i (fun h3 => ob_i ?_ fun o4 => cl_i ?_ fun o5 => (br_i (fun h6 => lfY ?_) (fun h6 => ob_i rfl fun _ => ob_i ?_ fun o7 => trivial))) (fun h3 => lfY ?_))
  all_goals
   try simp only [std0] at *
   try simp only [LszS, fszNode, fszNodeS, std, Nat.reduceAdd] at *
  · have := good_len hp.1; simp only [maxLen] at this; rw [wrapId (by omega)] at h1
    rw [lessenNeg (by simp only [szL]; omega)]
  · have := good_len hp.1; simp only [maxLen] at this
    rw [wrapId (by omega)] at h1 ⊢
    exact ⟨by omega, by omega, h1, by simp⟩
  · omega
  · exact ⟨good_getD hp.1 (by omega), by omega, by omega⟩
  · have hs := sum_take_le szNode l (y2.2.1.toNat + 1)
    rw [sum_take szNode (by omega)] at hs
    rw [lessen_lt (by omega)] at h6
    rw [lessenNeg (by simp only [szL]; omega)]
  · have hw : IntKind.i64.wrap (y2.2.1 + 1) = y2.2.1 + 1 := wrapId (by have := good_len hp.1; simp only [maxLen] at this; omega)
    have h7 : ¬ lessen y2.1 (szNode (l.getD y2.2.1.toNat default)) < 0 := by omega
    rw [lessen_lt (by omega)] at h7
    rw [hw, toNat1 (by omega), sum_take szNode (by omega), lessen_ge (by omega)]
    exact ⟨⟨by omega, by omega, by omega, by omega⟩, by omega⟩
  · have e : l.take y2.2.1.toNat = l := List.take_of_length_le (by omega)
    rw [e] at i2
    have hz : ((szL szNode l : Nat) : Int) = l.length + (l.map szNode).sum := by simp only [szL]; omega
    rw [lessen_ge (by omega)]
    show y2.1 = n - ((szL szNode l : Nat) : Int)
    omega)
def E42 := E41.add 146 fszNodeS
theorem E42ok : EOk Tryz.prog E42 := E41ok.add k146_41
theorem k169_42 : ftoNodeS.ok Tryz.prog 169 := Fct.of (S := ftoNodeS) (L := fun ⟨l, _⟩ => fun | 3 => some (LtoS .node l) | _ => none) (kp := [0,2,3,4,11,1000011]) E42ok Tryz.func169 (by kernel_rfl) (by kernel_rfl) (by
  rintro ⟨(l : List SNode), _⟩ hp
  refine ho (.ob ((↑l.length : Int) = (↑l.length : Int) ∧ (0 : Int) ≤ (↑l.length : Int) ∧ (64 : Int) * (↑l.length : Int) ≤ 140737488355328 ∧ (↑l.length : Int) ≤ 140737488355328) <| lpx (LtoS .node l) ((0 : Int), (List.replicate (↑l.length : Int).toNat default, ())) fun (y2 : Int × List SNode × PUnit) bk2 => .br (decide (y2.1 < (↑l.length : Int))) (.ob (inB y2.1 l.length) <| .cl ftoNode (l.getD y2.1.toNat default, ()) fun z2 => .ob (inB y2.1 y2.2.1.length) <| .ob (y2.1.toNat < y2.2.1.length) <| .lt (List SNode) (y2.2.1.modify y2.1.toNat fun z => z2.1) fun z3 => .ob (l = l) <| .ob (bk2 (w1 y2.1, (z3, ()))) <| .ok) (.lf ftoNodeS (y2.2.1, ()))) ?_
  refine ob_i ?_ fun o1 => lpx_i ?_ fun (y2 : Int × List SNode × PUnit) i2 => br_i (fun h3 => ob_i ?_ fun o4 => cl_i ?_ fun o5 => (ob_i ?_ fun o6 => ob_i ?_ fun o7 => lt_i (ob_i rfl fun _ => ob_i ?_ fun o8 => trivial))) (fun h3 => lfY ?_)
  all_goals try simp only [LtoS, ftoNode, ftoNodeS, std, Nat.reduceAdd] at *
  · have := szL_len szNode l; omega
  · exact ⟨by omega, by omega, by simp⟩
  · omega
  · have hs := sum_take_le szNode l (y2.1.toNat + 1)
    rw [sum_take szNode (by omega)] at hs
    simp only [szL] at hp; omega
  · rw [i2.2.2]; simp; omega
  · rw [i2.2.2]; simp; omega
  · have hw : IntKind.i64.wrap (y2.1 + 1) = y2.1 + 1 := wrapId (by have := szL_len szNode l; omega)
    rw [hw, toNat1 (by omega), i2.2.2]
    refine ⟨⟨by omega, by omega, ?_⟩, by omega⟩
    rw [show l.length - y2.1.toNat = (l.length - (y2.1.toNat + 1)) + 1 from by omega, List.replicate_succ, mod_at (by simp; omega), take_succ (by omega)]
    simp
  · have e : l.take y2.1.toNat = l := List.take_of_length_le (by omega)
    rw [i2.2.2, e]; simp; omega)
def E43 := E42.add 169 ftoNodeS
theorem E43ok : EOk Tryz.prog E43 := E42ok.add k169_42
theorem k197_43 : feqNodeS.ok Tryz.prog 197 := Fct.of (S := feqNodeS) (L := fun ⟨l, m, _⟩ => fun | 4 => some (LeqS .node l m) | _ => none) (kp := [0,1,4,5,10,14,26,1000010,1000014,1000026]) E43ok Tryz.func197 (by kernel_rfl) (by kernel_rfl) (by
  rintro ⟨(l : List SNode), (m : List SNode), _⟩ hp
  refine ho (.br ((↑l.length : Int) != (↑m.length : Int)) (.lf feqNodeS (false, ())) (lpx (LeqS .node l m) ((0 : Int), ()) fun (y2 : Int × PUnit) bk2 => .br (decide (y2.1 < (↑l.length : Int))) (.ob (inB y2.1 l.length) <| .ob (inB y2.1 m.length) <| .cl feqNode (l.getD y2.1.toNat default, m.getD y2.1.toNat default, ()) fun z2 => .br (!z2.1) (.lf feqNodeS (false, ())) (.ob (l = l) <| .ob (m = m) <| .ob (bk2 (w1 y2.1, ())) <| .ok)) (.lf feqNodeS (true, ())))) ?_
  refine br_i (fun h1 => lfY ?_) (fun h1 => lpx_i ?_ fun (y2 : Int × PUnit) i2 => br_i (fun h3 => ob_i ?_ fun o4 => ob_i ?_ fun o5 => cl_i ?_ fun o6 => (br_i (fun h7 => lfY ?_) (fun h7 => ob_i rfl fun _ => ob_i rfl fun _ => ob_i ?_ fun o8 => trivial))) (fun h3 => lfY ?_))
  all_goals try simp only [LeqS, feqNode, feqNodeS, std, Nat.reduceAdd] at *
  all_goals have hl := szL_len szNode l
  · rw [decide_eq_false]; rintro rfl; omega
  · exact ⟨by omega, by omega, by simp⟩
  · omega
  · omega
  · have hs := szL_get szNode (l := l) (i := y2.1.toNat) (by omega); omega
  · rw [decide_eq_false]; rintro rfl; first | exact absurd rfl h6 | exact absurd rfl h7
  · have hw : IntKind.i64.wrap (y2.1 + 1) = y2.1 + 1 := wrapId (by omega)
    rw [hw, toNat1 (by omega)]
    refine ⟨⟨by omega, by omega, ?_⟩, by omega⟩
    rw [take_succ (by omega), take_succ (by omega), i2.2.2]; first | rw [h6] | rw [h7]
  · have e : l.take y2.1.toNat = l := List.take_of_length_le (by omega)
    have e2 : m.take y2.1.toNat = m := List.take_of_length_le (by omega)
    rw [decide_eq_true]; rw [← e, ← e2, i2.2.2])
def E44 := E43.add 197 feqNodeS
theorem E44ok : EOk Tryz.prog E44 := E43ok.add k197_43
theorem k205_44 : fmarkNodeS.ok Tryz.prog 205 := MS.of (S := fmarkNodeS) (L := fun l k => fun | 2 => some (LmkS .node mkNode l k) | _ => none) (kp := [0,1,4,5,9,1000009]) (kl := [0]) E44ok Tryz.func205 (by kernel_rfl) (by kernel_rfl) (by
  rintro (l : List SNode) (k : Int) hp
  refine ho (lpx (LmkS .node mkNode l k) (k, ((0 : Int), (l, ()))) fun (y1 : Int × Int × List SNode × PUnit) bk1 => .br (decide (y1.2.1 < (↑y1.2.2.1.length : Int))) (.cl fmarkText (y1.1, ()) fun z2 => .ob (inB y1.2.1 y1.2.2.1.length) <| .ob (y1.2.1.toNat < y1.2.2.1.length) <| .lt (List SNode) (y1.2.2.1.modify y1.2.1.toNat fun z => (⟨z2.1, z.text, z.parent, z.attrs⟩ : SNode)) fun z3 => .cl fmarkText (w1 y1.1, ()) fun z4 => .ob (inB y1.2.1 z3.length) <| .ob (y1.2.1.toNat < z3.length) <| .lt (List SNode) (z3.modify y1.2.1.toNat fun z => (⟨z.name, z4.1, z.parent, z.attrs⟩ : SNode)) fun z5 => .ob (inB y1.2.1 z5.length) <| .ob (y1.2.1.toNat < z5.length) <| .lt (List SNode) (z5.modify y1.2.1.toNat fun z => (⟨z.name, z.text, w1 (w1 y1.1), z.attrs⟩ : SNode)) fun z6 => .ob (inB y1.2.1 z6.length) <| .ob (y1.2.1.toNat < z6.length) <| .ob (fmarkAttrS.pre (z6.getD y1.2.1.toNat default).attrs (w1 (w1 (w1 y1.1)))) <| .lt _ (fmarkAttrS.fn (z6.getD y1.2.1.toNat default).attrs (w1 (w1 (w1 y1.1)))) fun z7 => .lt (List SNode) (z6.modify y1.2.1.toNat fun z => (⟨z.name, z.text, z.parent, z7.1⟩ : SNode)) fun z8 => .ob (Value.int IntKind.i64 0 = Value.int IntKind.i64 (0 : Int)) <| .ob (bk1 (z7.2, (w1 y1.2.1, (z8, ())))) <| .ok) (.leaf (.one false [vi (y1.1)]) [] [(0, ⟨Ty.node, y1.2.2.1⟩)])) ?_
  refine lpx_i ?_ fun (y1 : Int × Int × List SNode × PUnit) i1 => br_i (fun h2 => cl_i ?_ fun o3 => (ob_d ?_ <| ob_d ?_ <| lt_i (cl_i ?_ fun o6 => (ob_d ?_ <| ob_d ?_ <| lt_i (ob_d ?_ <| ob_d ?_ <| lt_i (ob_d ?_ <| ob_d ?_ <| ob_d ?_ <| lt_i (lt_i (ob_d rfl <| ob_d ?_ <| trivial)))))))) (fun h2 => MS.leaf ?_)
  all_goals try simp only [stdW] at *
  · exact ⟨by simp, by simp, by simp [markL], by simp [markL]⟩
  all_goals
   have hp1 : 0 ≤ k := hp.1
   have hp2 : (markL mkNode l k).2 ≤ 4000000000000000000 := hp.2
   have i3 : 0 ≤ y1.2.1 ∧ y1.2.1 ≤ l.length ∧ y1.1 = (markL mkNode (l.take y1.2.1.toNat) k).2 ∧ y1.2.2.1 = (markL mkNode (l.take y1.2.1.toNat) k).1 ++ l.drop y1.2.1.toNat := i1
   have hcnt := markL_cnt (f := mkNode) mkNode_cnt l k
   have hx : y1.2.2.1.length = l.length := by rw [i3.2.2.2, List.length_append, markL_len, List.length_take, List.length_drop]; omega
  all_goals simp only [decide_eq_true_eq, decide_eq_false_iff_not, hx] at h2
  all_goals
   clear i1 hp
   try have hlt : y1.2.1.toNat < l.length := by omega
   try have ht := markL_take (f := mkNode) hlt k
   try have hle := (markL_take_le mkNode_mono l (y1.2.1.toNat + 1) k).2
   try have hl0 := (markL_take_le mkNode_mono l y1.2.1.toNat k).1
   try rw [ht] at hle
   try rw [← i3.2.2.1] at hle hl0 ht
   try have i4 : y1.2.2.1 = (markL mkNode (l.take y1.2.1.toNat) k).1 ++ l.getD y1.2.1.toNat default :: l.drop (y1.2.1.toNat + 1) := by rw [i3.2.2.2, drop_cons hlt]
   try have hA : (markL mkNode (l.take y1.2.1.toNat) k).1.length = y1.2.1.toNat := by rw [markL_len, List.length_take]; omega
   try simp only [mkNode] at hle
   try have m1 := mkAttrS_mono (l.getD y1.2.1.toNat default).attrs (y1.1 + 3)
   try generalize hr1 : markL mkAttr (l.getD y1.2.1.toNat default).attrs (y1.1 + 3) = r1 at *
   try simp (disch := omega) only [i4, mod_at hA, getD_at hA, fmarkText, fmarkAttrS, wrapId', Int.add_assoc, Int.reduceAdd, hr1, List.length_append, List.length_cons, List.length_drop, hA]
  all_goals first | trivial | omega | (refine ⟨?_, ?_⟩ <;> omega) | skip
  · refine ⟨⟨by omega, by omega, ?_, ?_⟩, by omega⟩
    · rw [toNat1 (by omega), ht]
      simp only [mkNode, Int.add_assoc, Int.reduceAdd, hr1]
    · rw [toNat1 (by omega), ht]
      simp only [mkNode, Int.add_assoc, Int.reduceAdd, hr1, List.append_assoc, List.cons_append, List.nil_append]
  · refine MS.leafL (t := .node) (fn := fun l k => markL mkNode l k) ?_
    have e1 : l.take y1.2.1.toNat = l := List.take_of_length_le (by omega)
    have e2 : l.drop y1.2.1.toNat = [] := List.drop_of_length_le (by omega)
    rw [i3.2.2.2, i3.2.2.1, e1, e2, List.append_nil])
def E45 := E44.addM 205 fmarkNodeS
theorem E45ok : EOk Tryz.prog E45 := E44ok.addM k205_44
theorem k210_45 : fheldNodeS.ok Tryz.prog 210 := Fct.of (S := fheldNodeS) (L := fun ⟨l, k, _⟩ => fun | 2 => some (LheS .node mkNode l k) | _ => none) (kp := [0,1,4,5,9,19,29,38,49,1000009,1000019,1000029,1000038,1000049]) E45ok Tryz.func210 (by kernel_rfl) (by kernel_rfl) (by
  rintro ⟨(l : List SNode), (k : Int), _⟩ hp
  refine ho (lpx (LheS .node mkNode l k) (k, ((0 : Int), ())) fun (y1 : Int × Int × PUnit) bk1 =>
 .br (decide (y1.snd.fst < (↑l.length : Int)))
  (.ob ((0 : Int) ≤ y1.snd.fst ∧ y1.snd.fst < (↑l.length : Int)) <|
   .ob (fmarkText.pre (y1.fst, ())) <|
   .lt (ByteArray × PUnit) (fmarkText.fn (y1.fst, ())) fun z2 =>
   .br (!(l.getD y1.snd.fst.toNat default).name.toList == z2.fst.toList)
    (.leaf (mkR fheldNodeS.rs ((-1 : Int), ())) [] [])
    (.ob ((0 : Int) ≤ y1.snd.fst ∧ y1.snd.fst < (↑l.length : Int)) <|
     .ob (fmarkText.pre (IntKind.i64.wrap (y1.fst + (1 : Int)), ())) <|
     .lt (ByteArray × PUnit) (fmarkText.fn (IntKind.i64.wrap (y1.fst + (1 : Int)), ())) fun z3 =>
     .br (!(l.getD y1.snd.fst.toNat default).text.toList == z3.fst.toList)
      (.leaf (mkR fheldNodeS.rs ((-1 : Int), ())) [] [])
      (.ob ((0 : Int) ≤ y1.snd.fst ∧ y1.snd.fst < (↑l.length : Int)) <|
       .br ((l.getD y1.snd.fst.toNat default).parent != IntKind.i64.wrap (IntKind.i64.wrap (y1.fst + (1 : Int)) + (1 : Int)))
       (.leaf (mkR fheldNodeS.rs ((-1 : Int), ())) [] [])
       (.ob ((0 : Int) ≤ y1.snd.fst ∧ y1.snd.fst < (↑l.length : Int)) <|
        .ob (fheldAttrS.pre
  ((l.getD y1.snd.fst.toNat default).attrs,
    IntKind.i64.wrap (IntKind.i64.wrap (IntKind.i64.wrap (y1.fst + (1 : Int)) + (1 : Int)) + (1 : Int)), ())) <|
        .lt (Int × PUnit) (fheldAttrS.fn
  ((l.getD y1.snd.fst.toNat default).attrs,
    IntKind.i64.wrap (IntKind.i64.wrap (IntKind.i64.wrap (y1.fst + (1 : Int)) + (1 : Int)) + (1 : Int)), ())) fun z4 =>
        .br (decide (z4.fst < (0 : Int)))
         (.leaf (mkR fheldNodeS.rs ((-1 : Int), ())) [] [])
         (.ob (l = l) <|
          .ob (bk1 (z4.fst, (IntKind.i64.wrap (y1.snd.fst + (1 : Int)), ()))) <|
          .ok)))))
  (.leaf (mkR fheldNodeS.rs (y1.fst, ())) [] [])) ?_
  refine lpx_i ?_ fun (y1 : Int × Int × PUnit) i1 => br_i (fun h2 => ob_d ?_ <| ob_d ?_ <| lt_i (br_i (fun h5 => Fct.leafY ?_) (fun h5 => ob_d ?_ <| ob_d ?_ <| lt_i (br_i (fun h8 => Fct.leafY ?_) (fun h8 => ob_d ?_ <| br_i (fun h10 => Fct.leafY ?_) (fun h10 => ob_d ?_ <| ob_d ?_ <| lt_i (br_i (fun h13 => Fct.leafY ?_) (fun h13 => ob_d rfl <| ob_d ?_ <| trivial)))))))) (fun h2 => Fct.leafY ?_)
  · exact ⟨by simp, by simp, by simp [markL]⟩
  all_goals
   have hp1 : 0 ≤ k := hp.1
   have hp2 : (markL mkNode l k).2 ≤ 4000000000000000000 := hp.2.1
   have hp3 : (markL mkNode l k).1 = l := hp.2.2
   have i3 : 0 ≤ y1.2.1 ∧ y1.2.1 ≤ l.length ∧ y1.1 = (markL mkNode (l.take y1.2.1.toNat) k).2 := i1
   have hcnt := markL_cnt (f := mkNode) mkNode_cnt l k
  all_goals simp only [decide_eq_true_eq, decide_eq_false_iff_not] at h2
  all_goals
   clear i1 hp
   try have hlt : y1.2.1.toNat < l.length := by omega
   try have ht := markL_take (f := mkNode) hlt k
   try have hle := (markL_take_le mkNode_mono l (y1.2.1.toNat + 1) k).2
   try have hl0 := (markL_take_le mkNode_mono l y1.2.1.toNat k).1
   try have heq := markL_held hp3 hlt
   try rw [ht] at hle
   try rw [← i3.2.2] at hle hl0 ht heq
   try have q1 := congrArg (fun z : SNode => z.name) heq
   try have q2 := congrArg (fun z : SNode => z.text) heq
   try have q3 := congrArg (fun z : SNode => z.parent) heq
   try have q4 := congrArg (fun z : SNode => z.attrs) heq
  all_goals obtain ⟨E, hE⟩ : ∃ E, E = (mkNode (l.getD y1.2.1.toNat default) y1.1).2 := ⟨_, rfl⟩
  all_goals
   have hE2 := hE
   try simp only [mkNode] at hle hE2 q1 q2 q3 q4
   try clear heq
   try have m1 := mkAttrS_mono (l.getD y1.2.1.toNat default).attrs (y1.1 + 3)
   try generalize hr1 : markL mkAttr (l.getD y1.2.1.toNat default).attrs (y1.1 + 3) = r1 at *
   try simp (disch := omega) only [fmarkText, fheldAttrS, wrapId', Int.add_assoc, Int.reduceAdd, hr1, decide_eq_true_eq, decide_eq_false_iff_not, Bool.not_eq_true', Bool.not_eq_false', bne_iff_ne, bne_eq_false_iff_eq, beq_iff_eq, beq_eq_false_iff_ne, baEq, Int.not_lt, ne_eq, Decidable.not_not, decide_not] at *
  all_goals first | trivial | omega | (exfalso; omega) | (refine ⟨?_, ?_⟩ <;> omega) | (refine ⟨?_, ?_, ?_⟩ <;> first | omega | assumption) | (exfalso; simp_all; done) | skip
  · refine ⟨⟨by omega, by omega, ?_⟩, by omega⟩
    rw [toNat1 (by omega), ht]
    show _ = (mkNode (l.getD y1.2.1.toNat default) y1.1).2
    rw [← hE]
    omega
  · have e1 : l.take y1.2.1.toNat = l := List.take_of_length_le (by omega)
    rw [e1] at i3
    show (y1.1, ()) = ((markL mkNode l k).2, ())
    rw [i3.2.2])
def E46 := E45.add 210 fheldNodeS
theorem E46ok : EOk Tryz.prog E46 := E45ok.add k210_45
theorem k59_46 : fszBuilder.ok Tryz.prog 59 := Fct.o [1,2,4,10,16,1000010,1000016] E46ok Tryz.func59 (by
  rintro ⟨(x : SBuilder), (n : Int), _⟩ hp
  refine ho (.cl fszNodeS (x.nodes, n, ()) fun z2 => .br (decide (z2.1 < 0)) (.lf fszBuilder ((-1 : Int), ())) (.cl fszIntS (x.open_, z2.1, ()) fun z3 => .br (decide (z3.1 < 0)) (.lf fszBuilder ((-1 : Int), ())) (.lf fszBuilder (z3.1, ())))) ?_
  refine cl_i ?_ fun o1 => (br_i (fun h2 => lfY ?_) (fun h2 => cl_i ?_ fun o3 => (br_i (fun h4 => lfY ?_) (fun h4 => lfY ?_))))
  all_goals try simp only [fszBuilder, fszIntS, fszNodeS, std, Nat.reduceAdd, Sh.good, Sh.fc, enc, List.forall_mem_cons, List.not_mem_nil, false_implies, implies_true, goodC, maxLen] at *
  all_goals grind [wrapId', lessen, szBuilder, szL])
def E47 := E46.add 59 fszBuilder
theorem E47ok : EOk Tryz.prog E47 := E46ok.add k59_46
theorem k85_47 : ftoBuilder.ok Tryz.prog 85 := Fct.o [1,2,3] E47ok Tryz.func85 (by
  rintro ⟨(x : SBuilder), _⟩ hp
  refine ho (.cl ftoNodeS (x.nodes, ()) fun z2 => .cl ftoIntS (x.open_, ()) fun z3 => .lf ftoBuilder (⟨z2.1, z3.1⟩, ())) ?_
  refine cl_i ?_ fun o1 => (cl_i ?_ fun o2 => (lfY ?_))
  all_goals try simp only [ftoBuilder, ftoIntS, ftoNodeS, std, Nat.reduceAdd] at *
  all_goals first | trivial | rfl | grind [szBuilder, szL])
def E48 := E47.add 85 ftoBuilder
theorem E48ok : EOk Tryz.prog E48 := E47ok.add k85_47
theorem k117_48 : feqBuilder.ok Tryz.prog 117 := Fct.o [2,3,4,10,16,1000010,1000016] E48ok Tryz.func117 (by
  rintro ⟨(x : SBuilder), (y : SBuilder), _⟩ hp
  refine ho (.cl feqNodeS (x.nodes, y.nodes, ()) fun z2 => .br (!z2.1) (.lf feqBuilder (false, ())) (.cl feqIntS (x.open_, y.open_, ()) fun z3 => .br (!z3.1) (.lf feqBuilder (false, ())) (.lf feqBuilder (true, ())))) ?_
  refine cl_i ?_ fun o1 => (br_i (fun h2 => lfY ?_) (fun h2 => cl_i ?_ fun o3 => (br_i (fun h4 => lfY ?_) (fun h4 => lfY ?_))))
  all_goals try simp only [feqBuilder, feqIntS, feqNodeS, std, Nat.reduceAdd] at *
  all_goals first | trivial | (cases x; cases y; simp_all; done) | (simp only [szBuilder, szL] at *; omega) | grind [szBuilder, szL])
def E49 := E48.add 117 feqBuilder
theorem E49ok : EOk Tryz.prog E49 := E48ok.add k117_48
theorem k128_49 : fmarkBuilder.ok Tryz.prog 128 := MS.of (S := fmarkBuilder) (L := fun _ _ _ => none) (kp := [1,2,4]) (kl := [0,1]) E49ok Tryz.func128 (by kernel_rfl) (by kernel_rfl) (by
  rintro (x : SBuilder) (k : Int) hp
  refine ho (.ob (fmarkNodeS.pre x.nodes k) <| .lt _ (fmarkNodeS.fn x.nodes k) fun z2 => .ob (fmarkIntS.pre x.open_ z2.2) <| .lt _ (fmarkIntS.fn x.open_ z2.2) fun z3 => .leaf (.one false [vi (z3.2)]) [] [(0, ⟨Ty.node, z2.1⟩), (1, ⟨Ty.int, z3.1⟩)]) ?_
  refine ob_d ?_ <| lt_i (ob_d ?_ <| lt_i (MS.leaf ?_))
  all_goals
   have hp1 : 0 ≤ k := hp.1
   have hp2 : (mvBuilder x k).2 ≤ 4000000000000000000 := hp.2
   clear hp
  all_goals simp only [mvBuilder] at hp2
  all_goals
   try have m1 := mkNodeS_mono x.nodes (k)
   try generalize hr1 : markL mkNode x.nodes (k) = r1 at *
   try have m2 := mkIntS_mono x.open_ (r1.2)
   try generalize hr2 : markL mkInt x.open_ (r1.2) = r2 at *
  all_goals simp (disch := omega) only [fmarkIntS, fmarkNodeS, fmarkText, hr1, hr2]
  all_goals first | trivial | omega | (refine ⟨?_, ?_⟩ <;> omega) | skip
  refine MS.leaf ?_
  simp only [fmarkBuilder, mvBuilder, hr1, hr2]
  exact ⟨⟨rfl, rfl, trivial⟩, trivial, rfl⟩)
def E50 := E49.addM 128 fmarkBuilder
theorem E50ok : EOk Tryz.prog E50 := E49ok.addM k128_49
theorem k138_50 : fheldBuilder.ok Tryz.prog 138 := Fct.o [1,2,4,10,16,1000010,1000016] E50ok Tryz.func138 (by
  rintro ⟨(x : SBuilder), (k : Int), _⟩ hp
  refine ho (.ob (fheldNodeS.pre (x.nodes, k, ())) <|
 .lt (Int × PUnit) (fheldNodeS.fn (x.nodes, k, ())) fun z2 =>
 .br (decide (z2.fst < (0 : Int)))
  (.leaf (mkR fheldBuilder.rs ((-1 : Int), ())) [] [])
  (.ob (fheldIntS.pre (x.open_, z2.fst, ())) <|
   .lt (Int × PUnit) (fheldIntS.fn (x.open_, z2.fst, ())) fun z3 =>
   .br (decide (z3.fst < (0 : Int)))
    (.leaf (mkR fheldBuilder.rs ((-1 : Int), ())) [] [])
    (.leaf (mkR fheldBuilder.rs (z3.fst, ())) [] []))) ?_
  refine ob_d ?_ <| lt_i (br_i (fun h2 => Fct.leafY ?_) (fun h2 => ob_d ?_ <| lt_i (br_i (fun h4 => Fct.leafY ?_) (fun h4 => Fct.leafY ?_))))
  all_goals
   have hp1 : 0 ≤ k := hp.1
   have hp2 : (mvBuilder x k).2 ≤ 4000000000000000000 := hp.2.1
   have heq : (mvBuilder x k).1 = x := hp.2.2
   clear hp
   try have q1 := congrArg (fun z : SBuilder => z.nodes) heq
   try have q2 := congrArg (fun z : SBuilder => z.open_) heq
  all_goals obtain ⟨E, hE⟩ : ∃ E, E = (mvBuilder x k).2 := ⟨_, rfl⟩
  all_goals have hE2 := hE
  all_goals simp only [mvBuilder] at hp2 hE2 q1 q2
  all_goals
   clear heq
   try have m1 := mkNodeS_mono x.nodes (k)
   try generalize hr1 : markL mkNode x.nodes (k) = r1 at *
   try have m2 := mkIntS_mono x.open_ (r1.2)
   try generalize hr2 : markL mkInt x.open_ (r1.2) = r2 at *
  all_goals simp (disch := omega) only [fheldIntS, fheldNodeS, fmarkText, hr1, hr2, decide_eq_true_eq, decide_eq_false_iff_not, Int.not_lt] at *
  all_goals try simp only [q1, q2]
  all_goals first | trivial | omega | (exfalso; omega) | (refine ⟨?_, ?_, ?_⟩ <;> first | omega | assumption) | skip
  all_goals first | (show (_, ()) = ((mvBuilder x k).2, ()); rw [← hE, Prod.mk.injEq]; exact ⟨by omega, rfl⟩) | skip)
def E51 := E50.add 138 fheldBuilder
theorem E51ok : EOk Tryz.prog E51 := E50ok.add k138_50
theorem k56_51 : fszPolicy.ok Tryz.prog 56 := Fct.o [1,2,4,10,16,22,29,1000010,1000016,1000022,1000029] E51ok Tryz.func56 (by
  rintro ⟨(x : SPolicy), (n : Int), _⟩ hp
  refine ho (.cl fszStringS (x.scripts, n, ()) fun z2 => .br (decide (z2.1 < 0)) (.lf fszPolicy ((-1 : Int), ())) (.cl fszStringS (x.styles, z2.1, ()) fun z3 => .br (decide (z3.1 < 0)) (.lf fszPolicy ((-1 : Int), ())) (.cl fszStringS (x.images, z3.1, ()) fun z4 => .br (decide (z4.1 < 0)) (.lf fszPolicy ((-1 : Int), ())) (.br (decide (wr (z4.1 - (↑x.nonce.size : Int)) < 0)) (.lf fszPolicy ((-1 : Int), ())) (.lf fszPolicy (wr (z4.1 - (↑x.nonce.size : Int)), ())))))) ?_
  refine cl_i ?_ fun o1 => (br_i (fun h2 => lfY ?_) (fun h2 => cl_i ?_ fun o3 => (br_i (fun h4 => lfY ?_) (fun h4 => cl_i ?_ fun o5 => (br_i (fun h6 => lfY ?_) (fun h6 => br_i (fun h7 => lfY ?_) (fun h7 => lfY ?_)))))))
  all_goals try simp only [fszPolicy, fszStringS, std, Nat.reduceAdd, Sh.good, Sh.fc, enc, List.forall_mem_cons, List.not_mem_nil, false_implies, implies_true, goodC, maxLen] at *
  all_goals grind [wrapId', lessen, szL, szPolicy])
def E52 := E51.add 56 fszPolicy
theorem E52ok : EOk Tryz.prog E52 := E51ok.add k56_51
theorem k82_52 : ftoPolicy.ok Tryz.prog 82 := Fct.o [1,2,3] E52ok Tryz.func82 (by
  rintro ⟨(x : SPolicy), _⟩ hp
  refine ho (.cl ftoStringS (x.scripts, ()) fun z2 => .cl ftoStringS (x.styles, ()) fun z3 => .cl ftoStringS (x.images, ()) fun z4 => .lf ftoPolicy (⟨x.set_, z2.1, z3.1, z4.1, x.nonce⟩, ())) ?_
  refine cl_i ?_ fun o1 => (cl_i ?_ fun o2 => (cl_i ?_ fun o3 => (lfY ?_)))
  all_goals try simp only [ftoPolicy, ftoStringS, std, Nat.reduceAdd] at *
  all_goals first | trivial | rfl | grind [szL, szPolicy])
def E53 := E52.add 82 ftoPolicy
theorem E53ok : EOk Tryz.prog E53 := E52ok.add k82_52
theorem k114_53 : feqPolicy.ok Tryz.prog 114 := Fct.o [2,3,4,9,15,21,27,32,1000009,1000015,1000021,1000027,1000032] E53ok Tryz.func114 (by
  rintro ⟨(x : SPolicy), (y : SPolicy), _⟩ hp
  refine ho (.br (!x.set_ == y.set_) (.lf feqPolicy (false, ())) (.cl feqStringS (x.scripts, y.scripts, ()) fun z2 => .br (!z2.1) (.lf feqPolicy (false, ())) (.cl feqStringS (x.styles, y.styles, ()) fun z3 => .br (!z3.1) (.lf feqPolicy (false, ())) (.cl feqStringS (x.images, y.images, ()) fun z4 => .br (!z4.1) (.lf feqPolicy (false, ())) (.br (!x.nonce.toList == y.nonce.toList) (.lf feqPolicy (false, ())) (.lf feqPolicy (true, ()))))))) ?_
  refine br_i (fun h1 => lfY ?_) (fun h1 => cl_i ?_ fun o2 => (br_i (fun h3 => lfY ?_) (fun h3 => cl_i ?_ fun o4 => (br_i (fun h5 => lfY ?_) (fun h5 => cl_i ?_ fun o6 => (br_i (fun h7 => lfY ?_) (fun h7 => br_i (fun h8 => lfY ?_) (fun h8 => lfY ?_))))))))
  all_goals try simp only [feqPolicy, feqStringS, std, Nat.reduceAdd] at *
  all_goals first | trivial | (cases x; cases y; simp_all; done) | (simp only [szL, szPolicy] at *; omega) | grind [szL, szPolicy])
def E54 := E53.add 114 feqPolicy
theorem E54ok : EOk Tryz.prog E54 := E53ok.add k114_53
theorem k126_54 : fmarkPolicy.ok Tryz.prog 126 := MS.of (S := fmarkPolicy) (L := fun _ _ _ => none) (kp := [1,2,4]) (kl := [1,2,3]) E54ok Tryz.func126 (by kernel_rfl) (by kernel_rfl) (by
  rintro (x : SPolicy) (k : Int) hp
  refine ho (.ob (fmarkStringS.pre x.scripts k) <| .lt _ (fmarkStringS.fn x.scripts k) fun z2 => .ob (fmarkStringS.pre x.styles z2.2) <| .lt _ (fmarkStringS.fn x.styles z2.2) fun z3 => .ob (fmarkStringS.pre x.images z3.2) <| .lt _ (fmarkStringS.fn x.images z3.2) fun z4 => .leaf (.one false [vi (z4.2)]) [] [(1, ⟨Ty.str, z2.1⟩), (2, ⟨Ty.str, z3.1⟩), (3, ⟨Ty.str, z4.1⟩)]) ?_
  refine ob_d ?_ <| lt_i (ob_d ?_ <| lt_i (ob_d ?_ <| lt_i (MS.leaf ?_)))
  all_goals
   have hp1 : 0 ≤ k := hp.1
   have hp2 : (mvPolicy x k).2 ≤ 4000000000000000000 := hp.2
   clear hp
  all_goals simp only [mvPolicy] at hp2
  all_goals
   try have m1 := mkStringS_mono x.scripts (k)
   try generalize hr1 : markL mkString x.scripts (k) = r1 at *
   try have m2 := mkStringS_mono x.styles (r1.2)
   try generalize hr2 : markL mkString x.styles (r1.2) = r2 at *
   try have m3 := mkStringS_mono x.images (r2.2)
   try generalize hr3 : markL mkString x.images (r2.2) = r3 at *
  all_goals simp (disch := omega) only [fmarkStringS, fmarkText, hr1, hr2, hr3]
  all_goals first | trivial | omega | (refine ⟨?_, ?_⟩ <;> omega) | skip
  refine MS.leaf ?_
  simp only [fmarkPolicy, mvPolicy, hr1, hr2, hr3]
  exact ⟨⟨rfl, rfl, trivial⟩, trivial, rfl⟩)
def E55 := E54.addM 126 fmarkPolicy
theorem E55ok : EOk Tryz.prog E55 := E54ok.addM k126_54
theorem k136_55 : fheldPolicy.ok Tryz.prog 136 := Fct.o [1,2,4,10,16,22,1000010,1000016,1000022] E55ok Tryz.func136 (by
  rintro ⟨(x : SPolicy), (k : Int), _⟩ hp
  refine ho (.ob (fheldStringS.pre (x.scripts, k, ())) <|
 .lt (Int × PUnit) (fheldStringS.fn (x.scripts, k, ())) fun z2 =>
 .br (decide (z2.fst < (0 : Int)))
  (.leaf (mkR fheldPolicy.rs ((-1 : Int), ())) [] [])
  (.ob (fheldStringS.pre (x.styles, z2.fst, ())) <|
   .lt (Int × PUnit) (fheldStringS.fn (x.styles, z2.fst, ())) fun z3 =>
   .br (decide (z3.fst < (0 : Int)))
    (.leaf (mkR fheldPolicy.rs ((-1 : Int), ())) [] [])
    (.ob (fheldStringS.pre (x.images, z3.fst, ())) <|
     .lt (Int × PUnit) (fheldStringS.fn (x.images, z3.fst, ())) fun z4 =>
     .br (decide (z4.fst < (0 : Int)))
      (.leaf (mkR fheldPolicy.rs ((-1 : Int), ())) [] [])
      (.leaf (mkR fheldPolicy.rs (z4.fst, ())) [] [])))) ?_
  refine ob_d ?_ <| lt_i (br_i (fun h2 => Fct.leafY ?_) (fun h2 => ob_d ?_ <| lt_i (br_i (fun h4 => Fct.leafY ?_) (fun h4 => ob_d ?_ <| lt_i (br_i (fun h6 => Fct.leafY ?_) (fun h6 => Fct.leafY ?_))))))
  all_goals
   have hp1 : 0 ≤ k := hp.1
   have hp2 : (mvPolicy x k).2 ≤ 4000000000000000000 := hp.2.1
   have heq : (mvPolicy x k).1 = x := hp.2.2
   clear hp
   try have q1 := congrArg (fun z : SPolicy => z.scripts) heq
   try have q2 := congrArg (fun z : SPolicy => z.styles) heq
   try have q3 := congrArg (fun z : SPolicy => z.images) heq
  all_goals obtain ⟨E, hE⟩ : ∃ E, E = (mvPolicy x k).2 := ⟨_, rfl⟩
  all_goals have hE2 := hE
  all_goals simp only [mvPolicy] at hp2 hE2 q1 q2 q3
  all_goals
   clear heq
   try have m1 := mkStringS_mono x.scripts (k)
   try generalize hr1 : markL mkString x.scripts (k) = r1 at *
   try have m2 := mkStringS_mono x.styles (r1.2)
   try generalize hr2 : markL mkString x.styles (r1.2) = r2 at *
   try have m3 := mkStringS_mono x.images (r2.2)
   try generalize hr3 : markL mkString x.images (r2.2) = r3 at *
  all_goals simp (disch := omega) only [fheldStringS, fmarkText, hr1, hr2, hr3, decide_eq_true_eq, decide_eq_false_iff_not, Int.not_lt] at *
  all_goals try simp only [q1, q2, q3]
  all_goals first | trivial | omega | (exfalso; omega) | (refine ⟨?_, ?_, ?_⟩ <;> first | omega | assumption) | skip
  all_goals first | (show (_, ()) = ((mvPolicy x k).2, ()); rw [← hE, Prod.mk.injEq]; exact ⟨by omega, rfl⟩) | skip)
def E56 := E55.add 136 fheldPolicy
theorem E56ok : EOk Tryz.prog E56 := E55ok.add k136_55
theorem k150_56 : fszResponse.ok Tryz.prog 150 := Fct.o [1,2,4,11,18,1000011,1000018] E56ok Tryz.func150 (by
  rintro ⟨(x : SResponse), (n : Int), _⟩ hp
  refine ho (.br (decide (wr (n - (↑x.body.size : Int)) < 0)) (.lf fszResponse ((-1 : Int), ())) (.br (decide (wr (wr (n - (↑x.body.size : Int)) - (↑x.policy.size : Int)) < 0)) (.lf fszResponse ((-1 : Int), ())) (.lf fszResponse (wr (wr (n - (↑x.body.size : Int)) - (↑x.policy.size : Int)), ())))) ?_
  refine br_i (fun h1 => lfY ?_) (fun h1 => br_i (fun h2 => lfY ?_) (fun h2 => lfY ?_))
  all_goals try simp only [fszResponse, std, Nat.reduceAdd, Sh.good, Sh.fc, enc, List.forall_mem_cons, List.not_mem_nil, false_implies, implies_true, goodC, maxLen] at *
  all_goals grind [wrapId', lessen, szResponse])
def E57 := E56.add 150 fszResponse
theorem E57ok : EOk Tryz.prog E57 := E56ok.add k150_56
theorem k173_57 : ftoResponse.ok Tryz.prog 173 := Fct.o [1,2,3] E57ok Tryz.func173 (by
  rintro ⟨(x : SResponse), _⟩ hp
  refine ho (.lf ftoResponse (x, ())) ?_
  refine lfY ?_
  all_goals try simp only [ftoResponse, std, Nat.reduceAdd] at *
  all_goals first | trivial | rfl | grind [szResponse])
def E58 := E57.add 173 ftoResponse
theorem E58ok : EOk Tryz.prog E58 := E57ok.add k173_57
theorem k201_58 : feqResponse.ok Tryz.prog 201 := Fct.o [2,3,4,9,14,19,24,29,34,1000009,1000014,1000019,1000024,1000029,1000034] E58ok Tryz.func201 (by
  rintro ⟨(x : SResponse), (y : SResponse), _⟩ hp
  refine ho (.br (x.status != y.status) (.lf feqResponse (false, ())) (.br (x.kind != y.kind) (.lf feqResponse (false, ())) (.br (!x.body.toList == y.body.toList) (.lf feqResponse (false, ())) (.br (x.age != y.age) (.lf feqResponse (false, ())) (.br (!x.shares == y.shares) (.lf feqResponse (false, ())) (.br (!x.policy.toList == y.policy.toList) (.lf feqResponse (false, ())) (.lf feqResponse (true, ())))))))) ?_
  refine br_i (fun h1 => lfY ?_) (fun h1 => br_i (fun h2 => lfY ?_) (fun h2 => br_i (fun h3 => lfY ?_) (fun h3 => br_i (fun h4 => lfY ?_) (fun h4 => br_i (fun h5 => lfY ?_) (fun h5 => br_i (fun h6 => lfY ?_) (fun h6 => lfY ?_))))))
  all_goals try simp only [feqResponse, std, Nat.reduceAdd] at *
  all_goals first | trivial | (cases x; cases y; simp_all; done) | (simp only [szResponse] at *; omega) | grind [szResponse])
def E59 := E58.add 201 feqResponse
theorem E59ok : EOk Tryz.prog E59 := E58ok.add k201_58
theorem k250_59 : fszFile.ok Tryz.prog 250 := Fct.o [1,2,4,11,17,1000011,1000017] E59ok Tryz.func250 (by
  rintro ⟨(x : SFile), (n : Int), _⟩ hp
  refine ho (.br (decide (wr (n - (↑x.path.size : Int)) < 0)) (.lf fszFile ((-1 : Int), ())) (.cl fszResponse (x.response, wr (n - (↑x.path.size : Int)), ()) fun z2 => .br (decide (z2.1 < 0)) (.lf fszFile ((-1 : Int), ())) (.lf fszFile (z2.1, ())))) ?_
  refine br_i (fun h1 => lfY ?_) (fun h1 => cl_i ?_ fun o2 => (br_i (fun h3 => lfY ?_) (fun h3 => lfY ?_)))
  all_goals try simp only [fszFile, fszResponse, std, Nat.reduceAdd, Sh.good, Sh.fc, enc, List.forall_mem_cons, List.not_mem_nil, false_implies, implies_true, goodC, maxLen] at *
  all_goals grind [wrapId', lessen, szFile, szResponse])
def E60 := E59.add 250 fszFile
theorem E60ok : EOk Tryz.prog E60 := E59ok.add k250_59
theorem k254_60 : ftoFile.ok Tryz.prog 254 := Fct.o [1,2,3] E60ok Tryz.func254 (by
  rintro ⟨(x : SFile), _⟩ hp
  refine ho (.cl ftoResponse (x.response, ()) fun z2 => .lf ftoFile (⟨x.path, z2.1⟩, ())) ?_
  refine cl_i ?_ fun o1 => (lfY ?_)
  all_goals try simp only [ftoFile, ftoResponse, std, Nat.reduceAdd] at *
  all_goals first | trivial | rfl | grind [szFile, szResponse])
def E61 := E60.add 254 ftoFile
theorem E61ok : EOk Tryz.prog E61 := E60ok.add k254_60
theorem k264_61 : feqFile.ok Tryz.prog 264 := Fct.o [2,3,4,9,15,1000009,1000015] E61ok Tryz.func264 (by
  rintro ⟨(x : SFile), (y : SFile), _⟩ hp
  refine ho (.br (!x.path.toList == y.path.toList) (.lf feqFile (false, ())) (.cl feqResponse (x.response, y.response, ()) fun z2 => .br (!z2.1) (.lf feqFile (false, ())) (.lf feqFile (true, ())))) ?_
  refine br_i (fun h1 => lfY ?_) (fun h1 => cl_i trivial fun _ => (br_i (fun h2 => lfY ?_) (fun h2 => lfY ?_)))
  all_goals try simp only [feqFile, feqResponse, std, Nat.reduceAdd] at *
  all_goals first | trivial | (cases x; cases y; simp_all; done) | (simp only [szFile, szResponse] at *; omega) | grind [szFile, szResponse])
def E62 := E61.add 264 feqFile
theorem E62ok : EOk Tryz.prog E62 := E61ok.add k264_61
theorem k212_62 : fszFileS.ok Tryz.prog 212 := Fct.of (S := fszFileS) (L := fun ⟨l, n, _⟩ => fun | 5 => some (LszS .file szFile l n) | _ => none) (kp := [0,1,4,5,11,15,25,1000011,1000015,1000025]) E62ok Tryz.func212 (by kernel_rfl) (by kernel_rfl) (by
  rintro ⟨(l : List SFile), (n : Int), _⟩ hp
  refine ho (.br (decide (wr (n - (↑l.length : Int)) < 0)) (.lf fszFileS ((-1 : Int), ())) (lpx (LszS .file szFile l n) (wr (n - (↑l.length : Int)), ((0 : Int), ())) fun (y2 : Int × Int × PUnit) bk2 => .br (decide (y2.2.1 < (↑l.length : Int))) (.ob (inB y2.2.1 l.length) <| .cl fszFile (l.getD y2.2.1.toNat default, y2.1, ()) fun z2 => .br (decide (z2.1 < 0)) (.lf fszFileS ((-1 : Int), ())) (.ob (l = l) <| .ob (bk2 (z2.1, (w1 y2.2.1, ()))) <| .ok)) (.lf fszFileS (y2.1, ())))) ?_
  refine br_i (fun h1 => lfY ?_) (fun h1 => lpx_i ?_ fun (y2 : Int × Int × PUnit) i2 => br_i (fun h3 => ob_i ?_ fun o4 => cl_i ?_ fun o5 => (br_i (fun h6 => lfY ?_) (fun h6 => ob_i rfl fun _ => ob_i ?_ fun o7 => trivial))) (fun h3 => lfY ?_))
  all_goals
   try simp only [std0] at *
   try simp only [LszS, fszFile, fszFileS, std, Nat.reduceAdd] at *
  · have := good_len hp.1; simp only [maxLen] at this; rw [wrapId (by omega)] at h1
    rw [lessenNeg (by simp only [szL]; omega)]
  · have := good_len hp.1; simp only [maxLen] at this
    rw [wrapId (by omega)] at h1 ⊢
    exact ⟨by omega, by omega, h1, by simp⟩
  · omega
  · exact ⟨good_getD hp.1 (by omega), by omega, by omega⟩
  · have hs := sum_take_le szFile l (y2.2.1.toNat + 1)
    rw [sum_take szFile (by omega)] at hs
    rw [lessen_lt (by omega)] at h6
    rw [lessenNeg (by simp only [szL]; omega)]
  · have hw : IntKind.i64.wrap (y2.2.1 + 1) = y2.2.1 + 1 := wrapId (by have := good_len hp.1; simp only [maxLen] at this; omega)
    have h7 : ¬ lessen y2.1 (szFile (l.getD y2.2.1.toNat default)) < 0 := by omega
    rw [lessen_lt (by omega)] at h7
    rw [hw, toNat1 (by omega), sum_take szFile (by omega), lessen_ge (by omega)]
    exact ⟨⟨by omega, by omega, by omega, by omega⟩, by omega⟩
  · have e : l.take y2.2.1.toNat = l := List.take_of_length_le (by omega)
    rw [e] at i2
    have hz : ((szL szFile l : Nat) : Int) = l.length + (l.map szFile).sum := by simp only [szL]; omega
    rw [lessen_ge (by omega)]
    show y2.1 = n - ((szL szFile l : Nat) : Int)
    omega)
def E63 := E62.add 212 fszFileS
theorem E63ok : EOk Tryz.prog E63 := E62ok.add k212_62
theorem k225_63 : ftoFileS.ok Tryz.prog 225 := Fct.of (S := ftoFileS) (L := fun ⟨l, _⟩ => fun | 3 => some (LtoS .file l) | _ => none) (kp := [0,2,3,4,11,1000011]) E63ok Tryz.func225 (by kernel_rfl) (by kernel_rfl) (by
  rintro ⟨(l : List SFile), _⟩ hp
  refine ho (.ob ((↑l.length : Int) = (↑l.length : Int) ∧ (0 : Int) ≤ (↑l.length : Int) ∧ (80 : Int) * (↑l.length : Int) ≤ 140737488355328 ∧ (↑l.length : Int) ≤ 140737488355328) <| lpx (LtoS .file l) ((0 : Int), (List.replicate (↑l.length : Int).toNat default, ())) fun (y2 : Int × List SFile × PUnit) bk2 => .br (decide (y2.1 < (↑l.length : Int))) (.ob (inB y2.1 l.length) <| .cl ftoFile (l.getD y2.1.toNat default, ()) fun z2 => .ob (inB y2.1 y2.2.1.length) <| .ob (y2.1.toNat < y2.2.1.length) <| .lt (List SFile) (y2.2.1.modify y2.1.toNat fun z => z2.1) fun z3 => .ob (l = l) <| .ob (bk2 (w1 y2.1, (z3, ()))) <| .ok) (.lf ftoFileS (y2.2.1, ()))) ?_
  refine ob_i ?_ fun o1 => lpx_i ?_ fun (y2 : Int × List SFile × PUnit) i2 => br_i (fun h3 => ob_i ?_ fun o4 => cl_i ?_ fun o5 => (ob_i ?_ fun o6 => ob_i ?_ fun o7 => lt_i (ob_i rfl fun _ => ob_i ?_ fun o8 => trivial))) (fun h3 => lfY ?_)
  all_goals try simp only [LtoS, ftoFile, ftoFileS, std, Nat.reduceAdd] at *
  · have := szL_len szFile l; omega
  · exact ⟨by omega, by omega, by simp⟩
  · omega
  · have hs := sum_take_le szFile l (y2.1.toNat + 1)
    rw [sum_take szFile (by omega)] at hs
    simp only [szL] at hp; omega
  · rw [i2.2.2]; simp; omega
  · rw [i2.2.2]; simp; omega
  · have hw : IntKind.i64.wrap (y2.1 + 1) = y2.1 + 1 := wrapId (by have := szL_len szFile l; omega)
    rw [hw, toNat1 (by omega), i2.2.2]
    refine ⟨⟨by omega, by omega, ?_⟩, by omega⟩
    rw [show l.length - y2.1.toNat = (l.length - (y2.1.toNat + 1)) + 1 from by omega, List.replicate_succ, mod_at (by simp; omega), take_succ (by omega)]
    simp
  · have e : l.take y2.1.toNat = l := List.take_of_length_le (by omega)
    rw [i2.2.2, e]; simp; omega)
def E64 := E63.add 225 ftoFileS
theorem E64ok : EOk Tryz.prog E64 := E63ok.add k225_63
theorem k246_64 : feqFileS.ok Tryz.prog 246 := Fct.of (S := feqFileS) (L := fun ⟨l, m, _⟩ => fun | 4 => some (LeqS .file l m) | _ => none) (kp := [0,1,4,5,10,14,26,1000010,1000014,1000026]) E64ok Tryz.func246 (by kernel_rfl) (by kernel_rfl) (by
  rintro ⟨(l : List SFile), (m : List SFile), _⟩ hp
  refine ho (.br ((↑l.length : Int) != (↑m.length : Int)) (.lf feqFileS (false, ())) (lpx (LeqS .file l m) ((0 : Int), ()) fun (y2 : Int × PUnit) bk2 => .br (decide (y2.1 < (↑l.length : Int))) (.ob (inB y2.1 l.length) <| .ob (inB y2.1 m.length) <| .cl feqFile (l.getD y2.1.toNat default, m.getD y2.1.toNat default, ()) fun z2 => .br (!z2.1) (.lf feqFileS (false, ())) (.ob (l = l) <| .ob (m = m) <| .ob (bk2 (w1 y2.1, ())) <| .ok)) (.lf feqFileS (true, ())))) ?_
  refine br_i (fun h1 => lfY ?_) (fun h1 => lpx_i ?_ fun (y2 : Int × PUnit) i2 => br_i (fun h3 => ob_i ?_ fun o4 => ob_i ?_ fun o5 => cl_i trivial fun _ => (br_i (fun h6 => lfY ?_) (fun h6 => ob_i rfl fun _ => ob_i rfl fun _ => ob_i ?_ fun o7 => trivial))) (fun h3 => lfY ?_))
  all_goals try simp only [LeqS, feqFile, feqFileS, std, Nat.reduceAdd] at *
  · rw [decide_eq_false]; rintro rfl; omega
  · exact ⟨by omega, by omega, by simp⟩
  · omega
  · omega
  · rw [decide_eq_false]; rintro rfl; exact absurd rfl h6
  · have hw : IntKind.i64.wrap (y2.1 + 1) = y2.1 + 1 := wrapId (by omega)
    rw [hw, toNat1 (by omega)]
    refine ⟨⟨by omega, by omega, ?_⟩, by omega⟩
    rw [take_succ (by omega), take_succ (by omega), i2.2.2, h6]
  · have e : l.take y2.1.toNat = l := List.take_of_length_le (by omega)
    have e2 : m.take y2.1.toNat = m := List.take_of_length_le (by omega)
    rw [decide_eq_true]; rw [← e, ← e2, i2.2.2])
def E65 := E64.add 246 feqFileS
theorem E65ok : EOk Tryz.prog E65 := E64ok.add k246_64
theorem k202_65 : fmarkFileS.ok Tryz.prog 202 := MS.of (S := fmarkFileS) (L := fun l k => fun | 2 => some (LmkS .file mkFile l k) | _ => none) (kp := [0,1,4,5,9,1000009]) (kl := [0]) E65ok Tryz.func202 (by kernel_rfl) (by kernel_rfl) (by
  rintro (l : List SFile) (k : Int) hp
  refine ho (lpx (LmkS .file mkFile l k) (k, ((0 : Int), (l, ()))) fun (y1 : Int × Int × List SFile × PUnit) bk1 => .br (decide (y1.2.1 < (↑y1.2.2.1.length : Int))) (.cl fmarkText (y1.1, ()) fun z2 => .ob (inB y1.2.1 y1.2.2.1.length) <| .ob (y1.2.1.toNat < y1.2.2.1.length) <| .lt (List SFile) (y1.2.2.1.modify y1.2.1.toNat fun z => (⟨z2.1, z.response⟩ : SFile)) fun z3 => .ob (inB y1.2.1 z3.length) <| .ob (y1.2.1.toNat < z3.length) <| .lt (List SFile) (z3.modify y1.2.1.toNat fun z => (⟨z.path, (⟨w1 y1.1, z.response.kind, z.response.body, z.response.age, z.response.shares, z.response.policy⟩ : SResponse)⟩ : SFile)) fun z4 => .ob (inB y1.2.1 z4.length) <| .ob (y1.2.1.toNat < z4.length) <| .lt (List SFile) (z4.modify y1.2.1.toNat fun z => (⟨z.path, (⟨z.response.status, w1 (w1 y1.1), z.response.body, z.response.age, z.response.shares, z.response.policy⟩ : SResponse)⟩ : SFile)) fun z5 => .cl fmarkText (w1 (w1 (w1 y1.1)), ()) fun z6 => .ob (inB y1.2.1 z5.length) <| .ob (y1.2.1.toNat < z5.length) <| .lt (List SFile) (z5.modify y1.2.1.toNat fun z => (⟨z.path, (⟨z.response.status, z.response.kind, z6.1, z.response.age, z.response.shares, z.response.policy⟩ : SResponse)⟩ : SFile)) fun z7 => .ob (inB y1.2.1 z7.length) <| .ob (y1.2.1.toNat < z7.length) <| .lt (List SFile) (z7.modify y1.2.1.toNat fun z => (⟨z.path, (⟨z.response.status, z.response.kind, z.response.body, w1 (w1 (w1 (w1 y1.1))), z.response.shares, z.response.policy⟩ : SResponse)⟩ : SFile)) fun z8 => .ob ((3 : Int) ≠ (0 : Int)) <| .ob (inB y1.2.1 z8.length) <| .ob (y1.2.1.toNat < z8.length) <| .lt (List SFile) (z8.modify y1.2.1.toNat fun z => (⟨z.path, (⟨z.response.status, z.response.kind, z.response.body, z.response.age, (w1 (w1 (w1 (w1 (w1 y1.1))))).tmod (3 : Int) == (0 : Int), z.response.policy⟩ : SResponse)⟩ : SFile)) fun z9 => .cl fmarkText (w1 (w1 (w1 (w1 (w1 (w1 y1.1))))), ()) fun z10 => .ob (inB y1.2.1 z9.length) <| .ob (y1.2.1.toNat < z9.length) <| .lt (List SFile) (z9.modify y1.2.1.toNat fun z => (⟨z.path, (⟨z.response.status, z.response.kind, z.response.body, z.response.age, z.response.shares, z10.1⟩ : SResponse)⟩ : SFile)) fun z11 => .ob (Value.int IntKind.i64 0 = Value.int IntKind.i64 (0 : Int)) <| .ob (bk1 (w1 (w1 (w1 (w1 (w1 (w1 (w1 y1.1)))))), (w1 y1.2.1, (z11, ())))) <| .ok) (.leaf (.one false [vi (y1.1)]) [] [(0, ⟨Ty.file, y1.2.2.1⟩)])) ?_
  refine lpx_i ?_ fun (y1 : Int × Int × List SFile × PUnit) i1 => br_i (fun h2 => cl_i ?_ fun o3 => (ob_i ?_ fun o4 => ob_i ?_ fun o5 => lt_i (ob_i ?_ fun o6 => ob_i ?_ fun o7 => lt_i (ob_i ?_ fun o8 => ob_i ?_ fun o9 => lt_i (cl_i ?_ fun o10 => (ob_i ?_ fun o11 => ob_i ?_ fun o12 => lt_i (ob_i ?_ fun o13 => ob_i ?_ fun o14 => lt_i (ob_i ?_ fun o15 => ob_i ?_ fun o16 => ob_i ?_ fun o17 => lt_i (cl_i ?_ fun o18 => (ob_i ?_ fun o19 => ob_i ?_ fun o20 => lt_i (ob_i rfl fun _ => ob_i ?_ fun o21 => trivial))))))))))) (fun h2 => MS.leaf ?_)
  all_goals try simp only [stdW] at *
  · exact ⟨by simp, by simp, by simp [markL], by simp [markL]⟩
  all_goals
   have hp1 : 0 ≤ k := hp.1
   have hp2 : (markL mkFile l k).2 ≤ 4000000000000000000 := hp.2
   have i3 : 0 ≤ y1.2.1 ∧ y1.2.1 ≤ l.length ∧ y1.1 = (markL mkFile (l.take y1.2.1.toNat) k).2 ∧ y1.2.2.1 = (markL mkFile (l.take y1.2.1.toNat) k).1 ++ l.drop y1.2.1.toNat := i1
   have hcnt := markL_cnt (f := mkFile) (fun x k => by simp only [mkFile]; omega) l k
   have hx : y1.2.2.1.length = l.length := by rw [i3.2.2.2, List.length_append, markL_len, List.length_take, List.length_drop]; omega
  all_goals simp only [decide_eq_true_eq, decide_eq_false_iff_not, hx] at h2
  all_goals
   clear i1
   try have hlt : y1.2.1.toNat < l.length := by omega
   try have ht := markL_take (f := mkFile) hlt k
   try have hle := (markL_take_le mkFile_mono l (y1.2.1.toNat + 1) k).2
   try have hl0 := (markL_take_le mkFile_mono l y1.2.1.toNat k).1
   try rw [ht] at hle
   try rw [← i3.2.2.1] at hle hl0 ht
   try simp only [mkFile] at hle
  all_goals first | decide | (simp only [List.length_modify, hx]; omega) | (refine ⟨?_, ?_⟩ <;> (try simp (discharger := omega) only [wrapId']) <;> omega) | skip
  · try clear o3 o4 o5
    simp (discharger := omega) only [wrapId', fmarkText]
    have hA : (markL mkFile (l.take y1.2.1.toNat) k).1.length = y1.2.1.toNat := by rw [markL_len, List.length_take]; omega
    refine ⟨⟨by omega, by omega, ?_, ?_⟩, ?_⟩
    · rw [toNat1 (by omega), ht]
      first | done | (simp only [mkFile]; done) | (simp only [mkFile]; omega)
    · rw [toNat1 (by omega), ht, i3.2.2.2, drop_cons hlt]
      simp only [mod_at hA, mkFile, Int.add_assoc, Int.reduceAdd, List.append_assoc, List.cons_append, List.nil_append]
    · omega
  · refine MS.leafL (t := .file) (fn := fun l k => markL mkFile l k) ?_
    have e1 : l.take y1.2.1.toNat = l := List.take_of_length_le (by omega)
    have e2 : l.drop y1.2.1.toNat = [] := List.drop_of_length_le (by omega)
    rw [i3.2.2.2, i3.2.2.1, e1, e2, List.append_nil])
def E66 := E65.addM 202 fmarkFileS
theorem E66ok : EOk Tryz.prog E66 := E65ok.addM k202_65
theorem k207_66 : fheldFileS.ok Tryz.prog 207 := Fct.of (S := fheldFileS) (L := fun ⟨l, k, _⟩ => fun | 2 => some (LheS .file mkFile l k) | _ => none) (kp := [0,1,4,5,9,19,29,39,50,60,72,83,1000009,1000019,1000029,1000039,1000050,1000060,1000072,1000083]) E66ok Tryz.func207 (by kernel_rfl) (by kernel_rfl) (by
  rintro ⟨(l : List SFile), (k : Int), _⟩ hp
  refine ho (lpx (LheS .file mkFile l k) (k, ((0 : Int), ())) fun (y1 : Int × Int × PUnit) bk1 => .br (decide (y1.2.1 < (↑l.length : Int))) (.ob (inB y1.2.1 l.length) <| .cl fmarkText (y1.1, ()) fun z2 => .br (!(l.getD y1.2.1.toNat default).path.toList == z2.1.toList) (.lf fheldFileS ((-1 : Int), ())) (.ob (inB y1.2.1 l.length) <| .br ((l.getD y1.2.1.toNat default).response.status != w1 y1.1) (.lf fheldFileS ((-1 : Int), ())) (.ob (inB y1.2.1 l.length) <| .br ((l.getD y1.2.1.toNat default).response.kind != w1 (w1 y1.1)) (.lf fheldFileS ((-1 : Int), ())) (.ob (inB y1.2.1 l.length) <| .cl fmarkText (w1 (w1 (w1 y1.1)), ()) fun z3 => .br (!(l.getD y1.2.1.toNat default).response.body.toList == z3.1.toList) (.lf fheldFileS ((-1 : Int), ())) (.ob (inB y1.2.1 l.length) <| .br ((l.getD y1.2.1.toNat default).response.age != w1 (w1 (w1 (w1 y1.1)))) (.lf fheldFileS ((-1 : Int), ())) (.ob (inB y1.2.1 l.length) <| .ob ((3 : Int) ≠ (0 : Int)) <| .br (!(l.getD y1.2.1.toNat default).response.shares == ((w1 (w1 (w1 (w1 (w1 y1.1))))).tmod (3 : Int) == (0 : Int))) (.lf fheldFileS ((-1 : Int), ())) (.ob (inB y1.2.1 l.length) <| .cl fmarkText (w1 (w1 (w1 (w1 (w1 (w1 y1.1))))), ()) fun z4 => .br (!(l.getD y1.2.1.toNat default).response.policy.toList == z4.1.toList) (.lf fheldFileS ((-1 : Int), ())) (.ob (l = l) <| .ob (bk1 (w1 (w1 (w1 (w1 (w1 (w1 (w1 y1.1)))))), (w1 y1.2.1, ()))) <| .ok)))))))) (.lf fheldFileS (y1.1, ()))) ?_
  refine lpx_i ?_ fun (y1 : Int × Int × PUnit) i1 => br_i (fun h2 => ob_i ?_ fun o3 => cl_i ?_ fun o4 => (br_i (fun h5 => lfY ?_) (fun h5 => ob_i ?_ fun o6 => br_i (fun h7 => lfY ?_) (fun h7 => ob_i ?_ fun o8 => br_i (fun h9 => lfY ?_) (fun h9 => ob_i ?_ fun o10 => cl_i ?_ fun o11 => (br_i (fun h12 => lfY ?_) (fun h12 => ob_i ?_ fun o13 => br_i (fun h14 => lfY ?_) (fun h14 => ob_i ?_ fun o15 => ob_i ?_ fun o16 => br_i (fun h17 => lfY ?_) (fun h17 => ob_i ?_ fun o18 => cl_i ?_ fun o19 => (br_i (fun h20 => lfY ?_) (fun h20 => ob_i rfl fun _ => ob_i ?_ fun o21 => trivial))))))))))) (fun h2 => lfY ?_)
  all_goals try simp only [stdW] at *
  · exact ⟨by simp, by simp, by simp [markL]⟩
  all_goals
   have hp1 : 0 ≤ k := hp.1
   have hp2 : (markL mkFile l k).2 ≤ 4000000000000000000 := hp.2.1
   have hp3 : (markL mkFile l k).1 = l := hp.2.2
   have i3 : 0 ≤ y1.2.1 ∧ y1.2.1 ≤ l.length ∧ y1.1 = (markL mkFile (l.take y1.2.1.toNat) k).2 := i1
   have hcnt := markL_cnt (f := mkFile) (fun x k => by simp only [mkFile]; omega) l k
  all_goals simp only [decide_eq_true_eq, decide_eq_false_iff_not] at h2
  all_goals
   clear i1 hp
   try have hlt : y1.2.1.toNat < l.length := by omega
   try have ht := markL_take (f := mkFile) hlt k
   try have hle := (markL_take_le mkFile_mono l (y1.2.1.toNat + 1) k).2
   try have hl0 := (markL_take_le mkFile_mono l y1.2.1.toNat k).1
   try have heq := markL_held hp3 hlt
   try rw [ht] at hle
   try rw [← i3.2.2] at hle hl0 ht heq
   try simp only [mkFile] at hle heq
  all_goals first | decide | omega | (refine ⟨?_, ?_⟩ <;> (try simp (discharger := omega) only [wrapId']) <;> omega) | skip
  all_goals try (exfalso; clear ht; generalize l.getD y1.2.1.toNat default = c at *; subst heq; simp (discharger := omega) [wrapId', fmarkText, Int.add_assoc] at *; done)
  · simp (discharger := omega) only [wrapId']
    refine ⟨⟨by omega, by omega, ?_⟩, ?_⟩
    · rw [toNat1 (by omega), ht]
      first | done | (simp only [mkFile]; done) | (simp only [mkFile]; omega)
    · omega
  · have e1 : l.take y1.2.1.toNat = l := List.take_of_length_le (by omega)
    rw [e1] at i3
    show (y1.1, ()) = ((markL mkFile l k).2, ())
    rw [i3.2.2])
def E67 := E66.add 207 fheldFileS
theorem E67ok : EOk Tryz.prog E67 := E66ok.add k207_66
theorem k142_67 : fszServer.ok Tryz.prog 142 := Fct.o [1,2,4,11,17,1000011,1000017] E67ok Tryz.func142 (by
  rintro ⟨(x : SServer), (n : Int), _⟩ hp
  refine ho (.br (decide (wr (n - (↑x.host.size : Int)) < 0)) (.lf fszServer ((-1 : Int), ())) (.cl fszFileS (x.files, wr (n - (↑x.host.size : Int)), ()) fun z2 => .br (decide (z2.1 < 0)) (.lf fszServer ((-1 : Int), ())) (.lf fszServer (z2.1, ())))) ?_
  refine br_i (fun h1 => lfY ?_) (fun h1 => cl_i ?_ fun o2 => (br_i (fun h3 => lfY ?_) (fun h3 => lfY ?_)))
  all_goals try simp only [fszFileS, fszServer, std, Nat.reduceAdd, Sh.good, Sh.fc, enc, List.forall_mem_cons, List.not_mem_nil, false_implies, implies_true, goodC, maxLen] at *
  all_goals grind [wrapId', lessen, szL, szServer])
def E68 := E67.add 142 fszServer
theorem E68ok : EOk Tryz.prog E68 := E67ok.add k142_67
theorem k165_68 : ftoServer.ok Tryz.prog 165 := Fct.o [1,2,3] E68ok Tryz.func165 (by
  rintro ⟨(x : SServer), _⟩ hp
  refine ho (.cl ftoFileS (x.files, ()) fun z2 => .lf ftoServer (⟨x.host, z2.1⟩, ())) ?_
  refine cl_i ?_ fun o1 => (lfY ?_)
  all_goals try simp only [ftoFileS, ftoServer, std, Nat.reduceAdd] at *
  all_goals first | trivial | rfl | grind [szL, szServer])
def E69 := E68.add 165 ftoServer
theorem E69ok : EOk Tryz.prog E69 := E68ok.add k165_68
theorem k193_69 : feqServer.ok Tryz.prog 193 := Fct.o [2,3,4,9,15,1000009,1000015] E69ok Tryz.func193 (by
  rintro ⟨(x : SServer), (y : SServer), _⟩ hp
  refine ho (.br (!x.host.toList == y.host.toList) (.lf feqServer (false, ())) (.cl feqFileS (x.files, y.files, ()) fun z2 => .br (!z2.1) (.lf feqServer (false, ())) (.lf feqServer (true, ())))) ?_
  refine br_i (fun h1 => lfY ?_) (fun h1 => cl_i ?_ fun o2 => (br_i (fun h3 => lfY ?_) (fun h3 => lfY ?_)))
  all_goals try simp only [feqFileS, feqServer, std, Nat.reduceAdd] at *
  all_goals first | trivial | (cases x; cases y; simp_all; done) | (simp only [szL, szServer] at *; omega) | grind [szL, szServer])
def E70 := E69.add 193 feqServer
theorem E70ok : EOk Tryz.prog E70 := E69ok.add k193_69
theorem k52_70 : fszServerS.ok Tryz.prog 52 := Fct.of (S := fszServerS) (L := fun ⟨l, n, _⟩ => fun | 5 => some (LszS .server szServer l n) | _ => none) (kp := [0,1,4,5,11,15,25,1000011,1000015,1000025]) E70ok Tryz.func52 (by kernel_rfl) (by kernel_rfl) (by
  rintro ⟨(l : List SServer), (n : Int), _⟩ hp
  refine ho (.br (decide (wr (n - (↑l.length : Int)) < 0)) (.lf fszServerS ((-1 : Int), ())) (lpx (LszS .server szServer l n) (wr (n - (↑l.length : Int)), ((0 : Int), ())) fun (y2 : Int × Int × PUnit) bk2 => .br (decide (y2.2.1 < (↑l.length : Int))) (.ob (inB y2.2.1 l.length) <| .cl fszServer (l.getD y2.2.1.toNat default, y2.1, ()) fun z2 => .br (decide (z2.1 < 0)) (.lf fszServerS ((-1 : Int), ())) (.ob (l = l) <| .ob (bk2 (z2.1, (w1 y2.2.1, ()))) <| .ok)) (.lf fszServerS (y2.1, ())))) ?_
  refine br_i (fun h1 => lfY ?_) (fun h1 => lpx_i ?_ fun (y2 : Int × Int × PUnit) i2 => br_i (fun h3 => ob_i ?_ fun o4 => cl_i ?_ fun o5 => (br_i (fun h6 => lfY ?_) (fun h6 => ob_i rfl fun _ => ob_i ?_ fun o7 => trivial))) (fun h3 => lfY ?_))
  all_goals
   try simp only [std0] at *
   try simp only [LszS, fszServer, fszServerS, std, Nat.reduceAdd] at *
  · have := good_len hp.1; simp only [maxLen] at this; rw [wrapId (by omega)] at h1
    rw [lessenNeg (by simp only [szL]; omega)]
  · have := good_len hp.1; simp only [maxLen] at this
    rw [wrapId (by omega)] at h1 ⊢
    exact ⟨by omega, by omega, h1, by simp⟩
  · omega
  · exact ⟨good_getD hp.1 (by omega), by omega, by omega⟩
  · have hs := sum_take_le szServer l (y2.2.1.toNat + 1)
    rw [sum_take szServer (by omega)] at hs
    rw [lessen_lt (by omega)] at h6
    rw [lessenNeg (by simp only [szL]; omega)]
  · have hw : IntKind.i64.wrap (y2.2.1 + 1) = y2.2.1 + 1 := wrapId (by have := good_len hp.1; simp only [maxLen] at this; omega)
    have h7 : ¬ lessen y2.1 (szServer (l.getD y2.2.1.toNat default)) < 0 := by omega
    rw [lessen_lt (by omega)] at h7
    rw [hw, toNat1 (by omega), sum_take szServer (by omega), lessen_ge (by omega)]
    exact ⟨⟨by omega, by omega, by omega, by omega⟩, by omega⟩
  · have e : l.take y2.2.1.toNat = l := List.take_of_length_le (by omega)
    rw [e] at i2
    have hz : ((szL szServer l : Nat) : Int) = l.length + (l.map szServer).sum := by simp only [szL]; omega
    rw [lessen_ge (by omega)]
    show y2.1 = n - ((szL szServer l : Nat) : Int)
    omega)
def E71 := E70.add 52 fszServerS
theorem E71ok : EOk Tryz.prog E71 := E70ok.add k52_70
theorem k78_71 : ftoServerS.ok Tryz.prog 78 := Fct.of (S := ftoServerS) (L := fun ⟨l, _⟩ => fun | 3 => some (LtoS .server l) | _ => none) (kp := [0,2,3,4,11,1000011]) E71ok Tryz.func78 (by kernel_rfl) (by kernel_rfl) (by
  rintro ⟨(l : List SServer), _⟩ hp
  refine ho (.ob ((↑l.length : Int) = (↑l.length : Int) ∧ (0 : Int) ≤ (↑l.length : Int) ∧ (40 : Int) * (↑l.length : Int) ≤ 140737488355328 ∧ (↑l.length : Int) ≤ 140737488355328) <| lpx (LtoS .server l) ((0 : Int), (List.replicate (↑l.length : Int).toNat default, ())) fun (y2 : Int × List SServer × PUnit) bk2 => .br (decide (y2.1 < (↑l.length : Int))) (.ob (inB y2.1 l.length) <| .cl ftoServer (l.getD y2.1.toNat default, ()) fun z2 => .ob (inB y2.1 y2.2.1.length) <| .ob (y2.1.toNat < y2.2.1.length) <| .lt (List SServer) (y2.2.1.modify y2.1.toNat fun z => z2.1) fun z3 => .ob (l = l) <| .ob (bk2 (w1 y2.1, (z3, ()))) <| .ok) (.lf ftoServerS (y2.2.1, ()))) ?_
  refine ob_i ?_ fun o1 => lpx_i ?_ fun (y2 : Int × List SServer × PUnit) i2 => br_i (fun h3 => ob_i ?_ fun o4 => cl_i ?_ fun o5 => (ob_i ?_ fun o6 => ob_i ?_ fun o7 => lt_i (ob_i rfl fun _ => ob_i ?_ fun o8 => trivial))) (fun h3 => lfY ?_)
  all_goals try simp only [LtoS, ftoServer, ftoServerS, std, Nat.reduceAdd] at *
  · have := szL_len szServer l; omega
  · exact ⟨by omega, by omega, by simp⟩
  · omega
  · have hs := sum_take_le szServer l (y2.1.toNat + 1)
    rw [sum_take szServer (by omega)] at hs
    simp only [szL] at hp; omega
  · rw [i2.2.2]; simp; omega
  · rw [i2.2.2]; simp; omega
  · have hw : IntKind.i64.wrap (y2.1 + 1) = y2.1 + 1 := wrapId (by have := szL_len szServer l; omega)
    rw [hw, toNat1 (by omega), i2.2.2]
    refine ⟨⟨by omega, by omega, ?_⟩, by omega⟩
    rw [show l.length - y2.1.toNat = (l.length - (y2.1.toNat + 1)) + 1 from by omega, List.replicate_succ, mod_at (by simp; omega), take_succ (by omega)]
    simp
  · have e : l.take y2.1.toNat = l := List.take_of_length_le (by omega)
    rw [i2.2.2, e]; simp; omega)
def E72 := E71.add 78 ftoServerS
theorem E72ok : EOk Tryz.prog E72 := E71ok.add k78_71
theorem k110_72 : feqServerS.ok Tryz.prog 110 := Fct.of (S := feqServerS) (L := fun ⟨l, m, _⟩ => fun | 4 => some (LeqS .server l m) | _ => none) (kp := [0,1,4,5,10,14,26,1000010,1000014,1000026]) E72ok Tryz.func110 (by kernel_rfl) (by kernel_rfl) (by
  rintro ⟨(l : List SServer), (m : List SServer), _⟩ hp
  refine ho (.br ((↑l.length : Int) != (↑m.length : Int)) (.lf feqServerS (false, ())) (lpx (LeqS .server l m) ((0 : Int), ()) fun (y2 : Int × PUnit) bk2 => .br (decide (y2.1 < (↑l.length : Int))) (.ob (inB y2.1 l.length) <| .ob (inB y2.1 m.length) <| .cl feqServer (l.getD y2.1.toNat default, m.getD y2.1.toNat default, ()) fun z2 => .br (!z2.1) (.lf feqServerS (false, ())) (.ob (l = l) <| .ob (m = m) <| .ob (bk2 (w1 y2.1, ())) <| .ok)) (.lf feqServerS (true, ())))) ?_
  refine br_i (fun h1 => lfY ?_) (fun h1 => lpx_i ?_ fun (y2 : Int × PUnit) i2 => br_i (fun h3 => ob_i ?_ fun o4 => ob_i ?_ fun o5 => cl_i ?_ fun o6 => (br_i (fun h7 => lfY ?_) (fun h7 => ob_i rfl fun _ => ob_i rfl fun _ => ob_i ?_ fun o8 => trivial))) (fun h3 => lfY ?_))
  all_goals try simp only [LeqS, feqServer, feqServerS, std, Nat.reduceAdd] at *
  all_goals have hl := szL_len szServer l
  · rw [decide_eq_false]; rintro rfl; omega
  · exact ⟨by omega, by omega, by simp⟩
  · omega
  · omega
  · have hs := szL_get szServer (l := l) (i := y2.1.toNat) (by omega); omega
  · rw [decide_eq_false]; rintro rfl; first | exact absurd rfl h6 | exact absurd rfl h7
  · have hw : IntKind.i64.wrap (y2.1 + 1) = y2.1 + 1 := wrapId (by omega)
    rw [hw, toNat1 (by omega)]
    refine ⟨⟨by omega, by omega, ?_⟩, by omega⟩
    rw [take_succ (by omega), take_succ (by omega), i2.2.2]; first | rw [h6] | rw [h7]
  · have e : l.take y2.1.toNat = l := List.take_of_length_le (by omega)
    have e2 : m.take y2.1.toNat = m := List.take_of_length_le (by omega)
    rw [decide_eq_true]; rw [← e, ← e2, i2.2.2])
def E73 := E72.add 110 feqServerS
theorem E73ok : EOk Tryz.prog E73 := E72ok.add k110_72
theorem k123_73 : fmarkServerS.ok Tryz.prog 123 := MS.of (S := fmarkServerS) (L := fun l k => fun | 2 => some (LmkS .server mkServer l k) | _ => none) (kp := [0,1,4,5,9,1000009]) (kl := [0]) E73ok Tryz.func123 (by kernel_rfl) (by kernel_rfl) (by
  rintro (l : List SServer) (k : Int) hp
  refine ho (lpx (LmkS .server mkServer l k) (k, ((0 : Int), (l, ()))) fun (y1 : Int × Int × List SServer × PUnit) bk1 => .br (decide (y1.2.1 < (↑y1.2.2.1.length : Int))) (.cl fmarkText (y1.1, ()) fun z2 => .ob (inB y1.2.1 y1.2.2.1.length) <| .ob (y1.2.1.toNat < y1.2.2.1.length) <| .lt (List SServer) (y1.2.2.1.modify y1.2.1.toNat fun z => (⟨z2.1, z.files⟩ : SServer)) fun z3 => .ob (inB y1.2.1 z3.length) <| .ob (y1.2.1.toNat < z3.length) <| .ob (fmarkFileS.pre (z3.getD y1.2.1.toNat default).files (w1 y1.1)) <| .lt _ (fmarkFileS.fn (z3.getD y1.2.1.toNat default).files (w1 y1.1)) fun z4 => .lt (List SServer) (z3.modify y1.2.1.toNat fun z => (⟨z.host, z4.1⟩ : SServer)) fun z5 => .ob (Value.int IntKind.i64 0 = Value.int IntKind.i64 (0 : Int)) <| .ob (bk1 (z4.2, (w1 y1.2.1, (z5, ())))) <| .ok) (.leaf (.one false [vi (y1.1)]) [] [(0, ⟨Ty.server, y1.2.2.1⟩)])) ?_
  refine lpx_i ?_ fun (y1 : Int × Int × List SServer × PUnit) i1 => br_i (fun h2 => cl_i ?_ fun o3 => (ob_d ?_ <| ob_d ?_ <| lt_i (ob_d ?_ <| ob_d ?_ <| ob_d ?_ <| lt_i (lt_i (ob_d rfl <| ob_d ?_ <| trivial))))) (fun h2 => MS.leaf ?_)
  all_goals try simp only [stdW] at *
  · exact ⟨by simp, by simp, by simp [markL], by simp [markL]⟩
  all_goals
   have hp1 : 0 ≤ k := hp.1
   have hp2 : (markL mkServer l k).2 ≤ 4000000000000000000 := hp.2
   have i3 : 0 ≤ y1.2.1 ∧ y1.2.1 ≤ l.length ∧ y1.1 = (markL mkServer (l.take y1.2.1.toNat) k).2 ∧ y1.2.2.1 = (markL mkServer (l.take y1.2.1.toNat) k).1 ++ l.drop y1.2.1.toNat := i1
   have hcnt := markL_cnt (f := mkServer) mkServer_cnt l k
   have hx : y1.2.2.1.length = l.length := by rw [i3.2.2.2, List.length_append, markL_len, List.length_take, List.length_drop]; omega
  all_goals simp only [decide_eq_true_eq, decide_eq_false_iff_not, hx] at h2
  all_goals
   clear i1 hp
   try have hlt : y1.2.1.toNat < l.length := by omega
   try have ht := markL_take (f := mkServer) hlt k
   try have hle := (markL_take_le mkServer_mono l (y1.2.1.toNat + 1) k).2
   try have hl0 := (markL_take_le mkServer_mono l y1.2.1.toNat k).1
   try rw [ht] at hle
   try rw [← i3.2.2.1] at hle hl0 ht
   try have i4 : y1.2.2.1 = (markL mkServer (l.take y1.2.1.toNat) k).1 ++ l.getD y1.2.1.toNat default :: l.drop (y1.2.1.toNat + 1) := by rw [i3.2.2.2, drop_cons hlt]
   try have hA : (markL mkServer (l.take y1.2.1.toNat) k).1.length = y1.2.1.toNat := by rw [markL_len, List.length_take]; omega
   try simp only [mkServer] at hle
   try have m1 := mkFileS_mono (l.getD y1.2.1.toNat default).files (y1.1 + 1)
   try generalize hr1 : markL mkFile (l.getD y1.2.1.toNat default).files (y1.1 + 1) = r1 at *
   try simp (disch := omega) only [i4, mod_at hA, getD_at hA, fmarkText, fmarkFileS, wrapId', Int.add_assoc, Int.reduceAdd, hr1, List.length_append, List.length_cons, List.length_drop, hA]
  all_goals first | trivial | omega | (refine ⟨?_, ?_⟩ <;> omega) | skip
  · refine ⟨⟨by omega, by omega, ?_, ?_⟩, by omega⟩
    · rw [toNat1 (by omega), ht]
      simp only [mkServer, Int.add_assoc, Int.reduceAdd, hr1]
    · rw [toNat1 (by omega), ht]
      simp only [mkServer, Int.add_assoc, Int.reduceAdd, hr1, List.append_assoc, List.cons_append, List.nil_append]
  · refine MS.leafL (t := .server) (fn := fun l k => markL mkServer l k) ?_
    have e1 : l.take y1.2.1.toNat = l := List.take_of_length_le (by omega)
    have e2 : l.drop y1.2.1.toNat = [] := List.drop_of_length_le (by omega)
    rw [i3.2.2.2, i3.2.2.1, e1, e2, List.append_nil])
def E74 := E73.addM 123 fmarkServerS
theorem E74ok : EOk Tryz.prog E74 := E73ok.addM k123_73
theorem k133_74 : fheldServerS.ok Tryz.prog 133 := Fct.of (S := fheldServerS) (L := fun ⟨l, k, _⟩ => fun | 2 => some (LheS .server mkServer l k) | _ => none) (kp := [0,1,4,5,9,19,30,1000009,1000019,1000030]) E74ok Tryz.func133 (by kernel_rfl) (by kernel_rfl) (by
  rintro ⟨(l : List SServer), (k : Int), _⟩ hp
  refine ho (lpx (LheS .server mkServer l k) (k, ((0 : Int), ())) fun (y1 : Int × Int × PUnit) bk1 =>
 .br (decide (y1.snd.fst < (↑l.length : Int)))
  (.ob ((0 : Int) ≤ y1.snd.fst ∧ y1.snd.fst < (↑l.length : Int)) <|
   .ob (fmarkText.pre (y1.fst, ())) <|
   .lt (ByteArray × PUnit) (fmarkText.fn (y1.fst, ())) fun z2 =>
   .br (!(l.getD y1.snd.fst.toNat default).host.toList == z2.fst.toList)
    (.leaf (mkR fheldServerS.rs ((-1 : Int), ())) [] [])
    (.ob ((0 : Int) ≤ y1.snd.fst ∧ y1.snd.fst < (↑l.length : Int)) <|
     .ob (fheldFileS.pre ((l.getD y1.snd.fst.toNat default).files, IntKind.i64.wrap (y1.fst + (1 : Int)), ())) <|
     .lt (Int × PUnit) (fheldFileS.fn ((l.getD y1.snd.fst.toNat default).files, IntKind.i64.wrap (y1.fst + (1 : Int)), ())) fun z3 =>
     .br (decide (z3.fst < (0 : Int)))
      (.leaf (mkR fheldServerS.rs ((-1 : Int), ())) [] [])
      (.ob (l = l) <|
       .ob (bk1 (z3.fst, (IntKind.i64.wrap (y1.snd.fst + (1 : Int)), ()))) <|
       .ok)))
  (.leaf (mkR fheldServerS.rs (y1.fst, ())) [] [])) ?_
  refine lpx_i ?_ fun (y1 : Int × Int × PUnit) i1 => br_i (fun h2 => ob_d ?_ <| ob_d ?_ <| lt_i (br_i (fun h5 => Fct.leafY ?_) (fun h5 => ob_d ?_ <| ob_d ?_ <| lt_i (br_i (fun h8 => Fct.leafY ?_) (fun h8 => ob_d rfl <| ob_d ?_ <| trivial))))) (fun h2 => Fct.leafY ?_)
  · exact ⟨by simp, by simp, by simp [markL]⟩
  all_goals
   have hp1 : 0 ≤ k := hp.1
   have hp2 : (markL mkServer l k).2 ≤ 4000000000000000000 := hp.2.1
   have hp3 : (markL mkServer l k).1 = l := hp.2.2
   have i3 : 0 ≤ y1.2.1 ∧ y1.2.1 ≤ l.length ∧ y1.1 = (markL mkServer (l.take y1.2.1.toNat) k).2 := i1
   have hcnt := markL_cnt (f := mkServer) mkServer_cnt l k
  all_goals simp only [decide_eq_true_eq, decide_eq_false_iff_not] at h2
  all_goals
   clear i1 hp
   try have hlt : y1.2.1.toNat < l.length := by omega
   try have ht := markL_take (f := mkServer) hlt k
   try have hle := (markL_take_le mkServer_mono l (y1.2.1.toNat + 1) k).2
   try have hl0 := (markL_take_le mkServer_mono l y1.2.1.toNat k).1
   try have heq := markL_held hp3 hlt
   try rw [ht] at hle
   try rw [← i3.2.2] at hle hl0 ht heq
   try have q1 := congrArg (fun z : SServer => z.host) heq
   try have q2 := congrArg (fun z : SServer => z.files) heq
  all_goals obtain ⟨E, hE⟩ : ∃ E, E = (mkServer (l.getD y1.2.1.toNat default) y1.1).2 := ⟨_, rfl⟩
  all_goals
   have hE2 := hE
   try simp only [mkServer] at hle hE2 q1 q2
   try clear heq
   try have m1 := mkFileS_mono (l.getD y1.2.1.toNat default).files (y1.1 + 1)
   try generalize hr1 : markL mkFile (l.getD y1.2.1.toNat default).files (y1.1 + 1) = r1 at *
   try simp (disch := omega) only [fmarkText, fheldFileS, wrapId', Int.add_assoc, Int.reduceAdd, hr1, decide_eq_true_eq, decide_eq_false_iff_not, Bool.not_eq_true', Bool.not_eq_false', bne_iff_ne, bne_eq_false_iff_eq, beq_iff_eq, beq_eq_false_iff_ne, baEq, Int.not_lt, ne_eq, Decidable.not_not, decide_not] at *
  all_goals first | trivial | omega | (exfalso; omega) | (refine ⟨?_, ?_⟩ <;> omega) | (refine ⟨?_, ?_, ?_⟩ <;> first | omega | assumption) | (exfalso; simp_all; done) | skip
  · refine ⟨⟨by omega, by omega, ?_⟩, by omega⟩
    rw [toNat1 (by omega), ht]
    show _ = (mkServer (l.getD y1.2.1.toNat default) y1.1).2
    rw [← hE]
    omega
  · have e1 : l.take y1.2.1.toNat = l := List.take_of_length_le (by omega)
    rw [e1] at i3
    show (y1.1, ()) = ((markL mkServer l k).2, ())
    rw [i3.2.2])
def E75 := E74.add 133 fheldServerS
theorem E75ok : EOk Tryz.prog E75 := E74ok.add k133_74
theorem k213_75 : fszEntry.ok Tryz.prog 213 := Fct.o [1,2,4,11,17,23,1000011,1000017,1000023] E75ok Tryz.func213 (by
  rintro ⟨(x : SEntry), (n : Int), _⟩ hp
  refine ho (.br (decide (wr (n - (↑x.top.size : Int)) < 0)) (.lf fszEntry ((-1 : Int), ())) (.cl fszAddr (x.to, wr (n - (↑x.top.size : Int)), ()) fun z2 => .br (decide (z2.1 < 0)) (.lf fszEntry ((-1 : Int), ())) (.cl fszResponse (x.response, z2.1, ()) fun z3 => .br (decide (z3.1 < 0)) (.lf fszEntry ((-1 : Int), ())) (.lf fszEntry (z3.1, ()))))) ?_
  refine br_i (fun h1 => lfY ?_) (fun h1 => cl_i ?_ fun o2 => (br_i (fun h3 => lfY ?_) (fun h3 => cl_i ?_ fun o4 => (br_i (fun h5 => lfY ?_) (fun h5 => lfY ?_)))))
  all_goals try simp only [fszAddr, fszEntry, fszResponse, std, Nat.reduceAdd, Sh.good, Sh.fc, enc, List.forall_mem_cons, List.not_mem_nil, false_implies, implies_true, goodC, maxLen] at *
  all_goals grind [wrapId', lessen, szAddr, szEntry, szResponse])
def E76 := E75.add 213 fszEntry
theorem E76ok : EOk Tryz.prog E76 := E75ok.add k213_75
theorem k226_76 : ftoEntry.ok Tryz.prog 226 := Fct.o [1,2,3] E76ok Tryz.func226 (by
  rintro ⟨(x : SEntry), _⟩ hp
  refine ho (.cl ftoAddr (x.to, ()) fun z2 => .cl ftoResponse (x.response, ()) fun z3 => .lf ftoEntry (⟨x.top, z2.1, z3.1, x.until_⟩, ())) ?_
  refine cl_i ?_ fun o1 => (cl_i ?_ fun o2 => (lfY ?_))
  all_goals try simp only [ftoAddr, ftoEntry, ftoResponse, std, Nat.reduceAdd] at *
  all_goals first | trivial | rfl | grind [szAddr, szEntry, szResponse])
def E77 := E76.add 226 ftoEntry
theorem E77ok : EOk Tryz.prog E77 := E76ok.add k226_76
theorem k247_77 : feqEntry.ok Tryz.prog 247 := Fct.o [2,3,4,9,15,21,26,1000009,1000015,1000021,1000026] E77ok Tryz.func247 (by
  rintro ⟨(x : SEntry), (y : SEntry), _⟩ hp
  refine ho (.br (!x.top.toList == y.top.toList) (.lf feqEntry (false, ())) (.cl feqAddr (x.to, y.to, ()) fun z2 => .br (!z2.1) (.lf feqEntry (false, ())) (.cl feqResponse (x.response, y.response, ()) fun z3 => .br (!z3.1) (.lf feqEntry (false, ())) (.br (x.until_ != y.until_) (.lf feqEntry (false, ())) (.lf feqEntry (true, ())))))) ?_
  refine br_i (fun h1 => lfY ?_) (fun h1 => cl_i trivial fun _ => (br_i (fun h2 => lfY ?_) (fun h2 => cl_i trivial fun _ => (br_i (fun h3 => lfY ?_) (fun h3 => br_i (fun h4 => lfY ?_) (fun h4 => lfY ?_))))))
  all_goals try simp only [feqAddr, feqEntry, feqResponse, std, Nat.reduceAdd] at *
  all_goals first | trivial | (cases x; cases y; simp_all; done) | (simp only [szAddr, szEntry, szResponse] at *; omega) | grind [szAddr, szEntry, szResponse])
def E78 := E77.add 247 feqEntry
theorem E78ok : EOk Tryz.prog E78 := E77ok.add k247_77
theorem k143_78 : fszEntryS.ok Tryz.prog 143 := Fct.of (S := fszEntryS) (L := fun ⟨l, n, _⟩ => fun | 5 => some (LszS .entry szEntry l n) | _ => none) (kp := [0,1,4,5,11,15,25,1000011,1000015,1000025]) E78ok Tryz.func143 (by kernel_rfl) (by kernel_rfl) (by
  rintro ⟨(l : List SEntry), (n : Int), _⟩ hp
  refine ho (.br (decide (wr (n - (↑l.length : Int)) < 0)) (.lf fszEntryS ((-1 : Int), ())) (lpx (LszS .entry szEntry l n) (wr (n - (↑l.length : Int)), ((0 : Int), ())) fun (y2 : Int × Int × PUnit) bk2 => .br (decide (y2.2.1 < (↑l.length : Int))) (.ob (inB y2.2.1 l.length) <| .cl fszEntry (l.getD y2.2.1.toNat default, y2.1, ()) fun z2 => .br (decide (z2.1 < 0)) (.lf fszEntryS ((-1 : Int), ())) (.ob (l = l) <| .ob (bk2 (z2.1, (w1 y2.2.1, ()))) <| .ok)) (.lf fszEntryS (y2.1, ())))) ?_
  refine br_i (fun h1 => lfY ?_) (fun h1 => lpx_i ?_ fun (y2 : Int × Int × PUnit) i2 => br_i (fun h3 => ob_i ?_ fun o4 => cl_i ?_ fun o5 => (br_i (fun h6 => lfY ?_) (fun h6 => ob_i rfl fun _ => ob_i ?_ fun o7 => trivial))) (fun h3 => lfY ?_))
  all_goals
   try simp only [std0] at *
   try simp only [LszS, fszEntry, fszEntryS, std, Nat.reduceAdd] at *
  · have := good_len hp.1; simp only [maxLen] at this; rw [wrapId (by omega)] at h1
    rw [lessenNeg (by simp only [szL]; omega)]
  · have := good_len hp.1; simp only [maxLen] at this
    rw [wrapId (by omega)] at h1 ⊢
    exact ⟨by omega, by omega, h1, by simp⟩
  · omega
  · exact ⟨good_getD hp.1 (by omega), by omega, by omega⟩
  · have hs := sum_take_le szEntry l (y2.2.1.toNat + 1)
    rw [sum_take szEntry (by omega)] at hs
    rw [lessen_lt (by omega)] at h6
    rw [lessenNeg (by simp only [szL]; omega)]
  · have hw : IntKind.i64.wrap (y2.2.1 + 1) = y2.2.1 + 1 := wrapId (by have := good_len hp.1; simp only [maxLen] at this; omega)
    have h7 : ¬ lessen y2.1 (szEntry (l.getD y2.2.1.toNat default)) < 0 := by omega
    rw [lessen_lt (by omega)] at h7
    rw [hw, toNat1 (by omega), sum_take szEntry (by omega), lessen_ge (by omega)]
    exact ⟨⟨by omega, by omega, by omega, by omega⟩, by omega⟩
  · have e : l.take y2.2.1.toNat = l := List.take_of_length_le (by omega)
    rw [e] at i2
    have hz : ((szL szEntry l : Nat) : Int) = l.length + (l.map szEntry).sum := by simp only [szL]; omega
    rw [lessen_ge (by omega)]
    show y2.1 = n - ((szL szEntry l : Nat) : Int)
    omega)
def E79 := E78.add 143 fszEntryS
theorem E79ok : EOk Tryz.prog E79 := E78ok.add k143_78
theorem k166_79 : ftoEntryS.ok Tryz.prog 166 := Fct.of (S := ftoEntryS) (L := fun ⟨l, _⟩ => fun | 3 => some (LtoS .entry l) | _ => none) (kp := [0,2,3,4,11,1000011]) E79ok Tryz.func166 (by kernel_rfl) (by kernel_rfl) (by
  rintro ⟨(l : List SEntry), _⟩ hp
  refine ho (.ob ((↑l.length : Int) = (↑l.length : Int) ∧ (0 : Int) ≤ (↑l.length : Int) ∧ (120 : Int) * (↑l.length : Int) ≤ 140737488355328 ∧ (↑l.length : Int) ≤ 140737488355328) <| lpx (LtoS .entry l) ((0 : Int), (List.replicate (↑l.length : Int).toNat default, ())) fun (y2 : Int × List SEntry × PUnit) bk2 => .br (decide (y2.1 < (↑l.length : Int))) (.ob (inB y2.1 l.length) <| .cl ftoEntry (l.getD y2.1.toNat default, ()) fun z2 => .ob (inB y2.1 y2.2.1.length) <| .ob (y2.1.toNat < y2.2.1.length) <| .lt (List SEntry) (y2.2.1.modify y2.1.toNat fun z => z2.1) fun z3 => .ob (l = l) <| .ob (bk2 (w1 y2.1, (z3, ()))) <| .ok) (.lf ftoEntryS (y2.2.1, ()))) ?_
  refine ob_i ?_ fun o1 => lpx_i ?_ fun (y2 : Int × List SEntry × PUnit) i2 => br_i (fun h3 => ob_i ?_ fun o4 => cl_i ?_ fun o5 => (ob_i ?_ fun o6 => ob_i ?_ fun o7 => lt_i (ob_i rfl fun _ => ob_i ?_ fun o8 => trivial))) (fun h3 => lfY ?_)
  all_goals try simp only [LtoS, ftoEntry, ftoEntryS, std, Nat.reduceAdd] at *
  · have := szL_len szEntry l; omega
  · exact ⟨by omega, by omega, by simp⟩
  · omega
  · have hs := sum_take_le szEntry l (y2.1.toNat + 1)
    rw [sum_take szEntry (by omega)] at hs
    simp only [szL] at hp; omega
  · rw [i2.2.2]; simp; omega
  · rw [i2.2.2]; simp; omega
  · have hw : IntKind.i64.wrap (y2.1 + 1) = y2.1 + 1 := wrapId (by have := szL_len szEntry l; omega)
    rw [hw, toNat1 (by omega), i2.2.2]
    refine ⟨⟨by omega, by omega, ?_⟩, by omega⟩
    rw [show l.length - y2.1.toNat = (l.length - (y2.1.toNat + 1)) + 1 from by omega, List.replicate_succ, mod_at (by simp; omega), take_succ (by omega)]
    simp
  · have e : l.take y2.1.toNat = l := List.take_of_length_le (by omega)
    rw [i2.2.2, e]; simp; omega)
def E80 := E79.add 166 ftoEntryS
theorem E80ok : EOk Tryz.prog E80 := E79ok.add k166_79
theorem k194_80 : feqEntryS.ok Tryz.prog 194 := Fct.of (S := feqEntryS) (L := fun ⟨l, m, _⟩ => fun | 4 => some (LeqS .entry l m) | _ => none) (kp := [0,1,4,5,10,14,26,1000010,1000014,1000026]) E80ok Tryz.func194 (by kernel_rfl) (by kernel_rfl) (by
  rintro ⟨(l : List SEntry), (m : List SEntry), _⟩ hp
  refine ho (.br ((↑l.length : Int) != (↑m.length : Int)) (.lf feqEntryS (false, ())) (lpx (LeqS .entry l m) ((0 : Int), ()) fun (y2 : Int × PUnit) bk2 => .br (decide (y2.1 < (↑l.length : Int))) (.ob (inB y2.1 l.length) <| .ob (inB y2.1 m.length) <| .cl feqEntry (l.getD y2.1.toNat default, m.getD y2.1.toNat default, ()) fun z2 => .br (!z2.1) (.lf feqEntryS (false, ())) (.ob (l = l) <| .ob (m = m) <| .ob (bk2 (w1 y2.1, ())) <| .ok)) (.lf feqEntryS (true, ())))) ?_
  refine br_i (fun h1 => lfY ?_) (fun h1 => lpx_i ?_ fun (y2 : Int × PUnit) i2 => br_i (fun h3 => ob_i ?_ fun o4 => ob_i ?_ fun o5 => cl_i trivial fun _ => (br_i (fun h6 => lfY ?_) (fun h6 => ob_i rfl fun _ => ob_i rfl fun _ => ob_i ?_ fun o7 => trivial))) (fun h3 => lfY ?_))
  all_goals try simp only [LeqS, feqEntry, feqEntryS, std, Nat.reduceAdd] at *
  · rw [decide_eq_false]; rintro rfl; omega
  · exact ⟨by omega, by omega, by simp⟩
  · omega
  · omega
  · rw [decide_eq_false]; rintro rfl; exact absurd rfl h6
  · have hw : IntKind.i64.wrap (y2.1 + 1) = y2.1 + 1 := wrapId (by omega)
    rw [hw, toNat1 (by omega)]
    refine ⟨⟨by omega, by omega, ?_⟩, by omega⟩
    rw [take_succ (by omega), take_succ (by omega), i2.2.2, h6]
  · have e : l.take y2.1.toNat = l := List.take_of_length_le (by omega)
    have e2 : m.take y2.1.toNat = m := List.take_of_length_le (by omega)
    rw [decide_eq_true]; rw [← e, ← e2, i2.2.2])
def E81 := E80.add 194 feqEntryS
theorem E81ok : EOk Tryz.prog E81 := E80ok.add k194_80
theorem k203_81 : fmarkEntryS.ok Tryz.prog 203 := MS.of (S := fmarkEntryS) (L := fun l k => fun | 2 => some (LmkS .entry mkEntry l k) | _ => none) (kp := [0,1,4,5,9,1000009]) (kl := [0]) E81ok Tryz.func203 (by kernel_rfl) (by kernel_rfl) (by
  rintro (l : List SEntry) (k : Int) hp
  refine ho (lpx (LmkS .entry mkEntry l k) (k, ((0 : Int), (l, ()))) fun (y1 : Int × Int × List SEntry × PUnit) bk1 => .br (decide (y1.2.1 < (↑y1.2.2.1.length : Int))) (.cl fmarkText (y1.1, ()) fun z2 => .ob (inB y1.2.1 y1.2.2.1.length) <| .ob (y1.2.1.toNat < y1.2.2.1.length) <| .lt (List SEntry) (y1.2.2.1.modify y1.2.1.toNat fun z => (⟨z2.1, z.to, z.response, z.until_⟩ : SEntry)) fun z3 => .cl fmarkText (w1 y1.1, ()) fun z4 => .ob (inB y1.2.1 z3.length) <| .ob (y1.2.1.toNat < z3.length) <| .lt (List SEntry) (z3.modify y1.2.1.toNat fun z => (⟨z.top, (⟨z4.1, z.to.path⟩ : SAddr), z.response, z.until_⟩ : SEntry)) fun z5 => .cl fmarkText (w1 (w1 y1.1), ()) fun z6 => .ob (inB y1.2.1 z5.length) <| .ob (y1.2.1.toNat < z5.length) <| .lt (List SEntry) (z5.modify y1.2.1.toNat fun z => (⟨z.top, (⟨z.to.host, z6.1⟩ : SAddr), z.response, z.until_⟩ : SEntry)) fun z7 => .ob (inB y1.2.1 z7.length) <| .ob (y1.2.1.toNat < z7.length) <| .lt (List SEntry) (z7.modify y1.2.1.toNat fun z => (⟨z.top, z.to, (⟨w1 (w1 (w1 y1.1)), z.response.kind, z.response.body, z.response.age, z.response.shares, z.response.policy⟩ : SResponse), z.until_⟩ : SEntry)) fun z8 => .ob (inB y1.2.1 z8.length) <| .ob (y1.2.1.toNat < z8.length) <| .lt (List SEntry) (z8.modify y1.2.1.toNat fun z => (⟨z.top, z.to, (⟨z.response.status, w1 (w1 (w1 (w1 y1.1))), z.response.body, z.response.age, z.response.shares, z.response.policy⟩ : SResponse), z.until_⟩ : SEntry)) fun z9 => .cl fmarkText (w1 (w1 (w1 (w1 (w1 y1.1)))), ()) fun z10 => .ob (inB y1.2.1 z9.length) <| .ob (y1.2.1.toNat < z9.length) <| .lt (List SEntry) (z9.modify y1.2.1.toNat fun z => (⟨z.top, z.to, (⟨z.response.status, z.response.kind, z10.1, z.response.age, z.response.shares, z.response.policy⟩ : SResponse), z.until_⟩ : SEntry)) fun z11 => .ob (inB y1.2.1 z11.length) <| .ob (y1.2.1.toNat < z11.length) <| .lt (List SEntry) (z11.modify y1.2.1.toNat fun z => (⟨z.top, z.to, (⟨z.response.status, z.response.kind, z.response.body, w1 (w1 (w1 (w1 (w1 (w1 y1.1))))), z.response.shares, z.response.policy⟩ : SResponse), z.until_⟩ : SEntry)) fun z12 => .ob ((3 : Int) ≠ (0 : Int)) <| .ob (inB y1.2.1 z12.length) <| .ob (y1.2.1.toNat < z12.length) <| .lt (List SEntry) (z12.modify y1.2.1.toNat fun z => (⟨z.top, z.to, (⟨z.response.status, z.response.kind, z.response.body, z.response.age, (w1 (w1 (w1 (w1 (w1 (w1 (w1 y1.1))))))).tmod (3 : Int) == (0 : Int), z.response.policy⟩ : SResponse), z.until_⟩ : SEntry)) fun z13 => .cl fmarkText (w1 (w1 (w1 (w1 (w1 (w1 (w1 (w1 y1.1))))))), ()) fun z14 => .ob (inB y1.2.1 z13.length) <| .ob (y1.2.1.toNat < z13.length) <| .lt (List SEntry) (z13.modify y1.2.1.toNat fun z => (⟨z.top, z.to, (⟨z.response.status, z.response.kind, z.response.body, z.response.age, z.response.shares, z14.1⟩ : SResponse), z.until_⟩ : SEntry)) fun z15 => .ob (inB y1.2.1 z15.length) <| .ob (y1.2.1.toNat < z15.length) <| .lt (List SEntry) (z15.modify y1.2.1.toNat fun z => (⟨z.top, z.to, z.response, w1 (w1 (w1 (w1 (w1 (w1 (w1 (w1 (w1 y1.1))))))))⟩ : SEntry)) fun z16 => .ob (Value.int IntKind.i64 0 = Value.int IntKind.i64 (0 : Int)) <| .ob (bk1 (w1 (w1 (w1 (w1 (w1 (w1 (w1 (w1 (w1 (w1 y1.1))))))))), (w1 y1.2.1, (z16, ())))) <| .ok) (.leaf (.one false [vi (y1.1)]) [] [(0, ⟨Ty.entry, y1.2.2.1⟩)])) ?_
  refine lpx_i ?_ fun (y1 : Int × Int × List SEntry × PUnit) i1 => br_i (fun h2 => cl_i ?_ fun o3 => (ob_i ?_ fun o4 => ob_i ?_ fun o5 => lt_i (cl_i ?_ fun o6 => (ob_i ?_ fun o7 => ob_i ?_ fun o8 => lt_i (cl_i ?_ fun o9 => (ob_i ?_ fun o10 => ob_i ?_ fun o11 => lt_i (ob_i ?_ fun o12 => ob_i ?_ fun o13 => lt_i (ob_i ?_ fun o14 => ob_i ?_ fun o15 => lt_i (cl_i ?_ fun o16 => (ob_i ?_ fun o17 => ob_i ?_ fun o18 => lt_i (ob_i ?_ fun o19 => ob_i ?_ fun o20 => lt_i (ob_i ?_ fun o21 => ob_i ?_ fun o22 => ob_i ?_ fun o23 => lt_i (cl_i ?_ fun o24 => (ob_i ?_ fun o25 => ob_i ?_ fun o26 => lt_i (ob_i ?_ fun o27 => ob_i ?_ fun o28 => lt_i (ob_i rfl fun _ => ob_i ?_ fun o29 => trivial)))))))))))))))) (fun h2 => MS.leaf ?_)
  all_goals try simp only [stdW] at *
  · exact ⟨by simp, by simp, by simp [markL], by simp [markL]⟩
  all_goals
   have hp1 : 0 ≤ k := hp.1
   have hp2 : (markL mkEntry l k).2 ≤ 4000000000000000000 := hp.2
   have i3 : 0 ≤ y1.2.1 ∧ y1.2.1 ≤ l.length ∧ y1.1 = (markL mkEntry (l.take y1.2.1.toNat) k).2 ∧ y1.2.2.1 = (markL mkEntry (l.take y1.2.1.toNat) k).1 ++ l.drop y1.2.1.toNat := i1
   have hcnt := markL_cnt (f := mkEntry) (fun x k => by simp only [mkEntry]; omega) l k
   have hx : y1.2.2.1.length = l.length := by rw [i3.2.2.2, List.length_append, markL_len, List.length_take, List.length_drop]; omega
  all_goals simp only [decide_eq_true_eq, decide_eq_false_iff_not, hx] at h2
  all_goals
   clear i1
   try have hlt : y1.2.1.toNat < l.length := by omega
   try have ht := markL_take (f := mkEntry) hlt k
   try have hle := (markL_take_le mkEntry_mono l (y1.2.1.toNat + 1) k).2
   try have hl0 := (markL_take_le mkEntry_mono l y1.2.1.toNat k).1
   try rw [ht] at hle
   try rw [← i3.2.2.1] at hle hl0 ht
   try simp only [mkEntry] at hle
  all_goals first | decide | (simp only [List.length_modify, hx]; omega) | (refine ⟨?_, ?_⟩ <;> (try simp (discharger := omega) only [wrapId']) <;> omega) | skip
  · try clear o3 o4 o5
    simp (discharger := omega) only [wrapId', fmarkText]
    have hA : (markL mkEntry (l.take y1.2.1.toNat) k).1.length = y1.2.1.toNat := by rw [markL_len, List.length_take]; omega
    refine ⟨⟨by omega, by omega, ?_, ?_⟩, ?_⟩
    · rw [toNat1 (by omega), ht]
      first | done | (simp only [mkEntry]; done) | (simp only [mkEntry]; omega)
    · rw [toNat1 (by omega), ht, i3.2.2.2, drop_cons hlt]
      simp only [mod_at hA, mkEntry, Int.add_assoc, Int.reduceAdd, List.append_assoc, List.cons_append, List.nil_append]
    · omega
  · refine MS.leafL (t := .entry) (fn := fun l k => markL mkEntry l k) ?_
    have e1 : l.take y1.2.1.toNat = l := List.take_of_length_le (by omega)
    have e2 : l.drop y1.2.1.toNat = [] := List.drop_of_length_le (by omega)
    rw [i3.2.2.2, i3.2.2.1, e1, e2, List.append_nil])
def E82 := E81.addM 203 fmarkEntryS
theorem E82ok : EOk Tryz.prog E82 := E81ok.addM k203_81
theorem k208_82 : fheldEntryS.ok Tryz.prog 208 := Fct.of (S := fheldEntryS) (L := fun ⟨l, k, _⟩ => fun | 2 => some (LheS .entry mkEntry l k) | _ => none) (kp := [0,1,4,5,9,19,30,41,51,61,72,82,94,105,114,1000009,1000019,1000030,1000041,1000051,1000061,1000072,1000082,1000094,1000105,1000114]) E82ok Tryz.func208 (by kernel_rfl) (by kernel_rfl) (by
  rintro ⟨(l : List SEntry), (k : Int), _⟩ hp
  refine ho (lpx (LheS .entry mkEntry l k) (k, ((0 : Int), ())) fun (y1 : Int × Int × PUnit) bk1 => .br (decide (y1.2.1 < (↑l.length : Int))) (.ob (inB y1.2.1 l.length) <| .cl fmarkText (y1.1, ()) fun z2 => .br (!(l.getD y1.2.1.toNat default).top.toList == z2.1.toList) (.lf fheldEntryS ((-1 : Int), ())) (.ob (inB y1.2.1 l.length) <| .cl fmarkText (w1 y1.1, ()) fun z3 => .br (!(l.getD y1.2.1.toNat default).to.host.toList == z3.1.toList) (.lf fheldEntryS ((-1 : Int), ())) (.ob (inB y1.2.1 l.length) <| .cl fmarkText (w1 (w1 y1.1), ()) fun z4 => .br (!(l.getD y1.2.1.toNat default).to.path.toList == z4.1.toList) (.lf fheldEntryS ((-1 : Int), ())) (.ob (inB y1.2.1 l.length) <| .br ((l.getD y1.2.1.toNat default).response.status != w1 (w1 (w1 y1.1))) (.lf fheldEntryS ((-1 : Int), ())) (.ob (inB y1.2.1 l.length) <| .br ((l.getD y1.2.1.toNat default).response.kind != w1 (w1 (w1 (w1 y1.1)))) (.lf fheldEntryS ((-1 : Int), ())) (.ob (inB y1.2.1 l.length) <| .cl fmarkText (w1 (w1 (w1 (w1 (w1 y1.1)))), ()) fun z5 => .br (!(l.getD y1.2.1.toNat default).response.body.toList == z5.1.toList) (.lf fheldEntryS ((-1 : Int), ())) (.ob (inB y1.2.1 l.length) <| .br ((l.getD y1.2.1.toNat default).response.age != w1 (w1 (w1 (w1 (w1 (w1 y1.1)))))) (.lf fheldEntryS ((-1 : Int), ())) (.ob (inB y1.2.1 l.length) <| .ob ((3 : Int) ≠ (0 : Int)) <| .br (!(l.getD y1.2.1.toNat default).response.shares == ((w1 (w1 (w1 (w1 (w1 (w1 (w1 y1.1))))))).tmod (3 : Int) == (0 : Int))) (.lf fheldEntryS ((-1 : Int), ())) (.ob (inB y1.2.1 l.length) <| .cl fmarkText (w1 (w1 (w1 (w1 (w1 (w1 (w1 (w1 y1.1))))))), ()) fun z6 => .br (!(l.getD y1.2.1.toNat default).response.policy.toList == z6.1.toList) (.lf fheldEntryS ((-1 : Int), ())) (.ob (inB y1.2.1 l.length) <| .br ((l.getD y1.2.1.toNat default).until_ != w1 (w1 (w1 (w1 (w1 (w1 (w1 (w1 (w1 y1.1))))))))) (.lf fheldEntryS ((-1 : Int), ())) (.ob (l = l) <| .ob (bk1 (w1 (w1 (w1 (w1 (w1 (w1 (w1 (w1 (w1 (w1 y1.1))))))))), (w1 y1.2.1, ()))) <| .ok))))))))))) (.lf fheldEntryS (y1.1, ()))) ?_
  refine lpx_i ?_ fun (y1 : Int × Int × PUnit) i1 => br_i (fun h2 => ob_i ?_ fun o3 => cl_i ?_ fun o4 => (br_i (fun h5 => lfY ?_) (fun h5 => ob_i ?_ fun o6 => cl_i ?_ fun o7 => (br_i (fun h8 => lfY ?_) (fun h8 => ob_i ?_ fun o9 => cl_i ?_ fun o10 => (br_i (fun h11 => lfY ?_) (fun h11 => ob_i ?_ fun o12 => br_i (fun h13 => lfY ?_) (fun h13 => ob_i ?_ fun o14 => br_i (fun h15 => lfY ?_) (fun h15 => ob_i ?_ fun o16 => cl_i ?_ fun o17 => (br_i (fun h18 => lfY ?_) (fun h18 => ob_i ?_ fun o19 => br_i (fun h20 => lfY ?_) (fun h20 => ob_i ?_ fun o21 => ob_i ?_ fun o22 => br_i (fun h23 => lfY ?_) (fun h23 => ob_i ?_ fun o24 => cl_i ?_ fun o25 => (br_i (fun h26 => lfY ?_) (fun h26 => ob_i ?_ fun o27 => br_i (fun h28 => lfY ?_) (fun h28 => ob_i rfl fun _ => ob_i ?_ fun o29 => trivial)))))))))))))))) (fun h2 => lfY ?_)
  all_goals try simp only [stdW] at *
  · exact ⟨by simp, by simp, by simp [markL]⟩
  all_goals
   have hp1 : 0 ≤ k := hp.1
   have hp2 : (markL mkEntry l k).2 ≤ 4000000000000000000 := hp.2.1
   have hp3 : (markL mkEntry l k).1 = l := hp.2.2
   have i3 : 0 ≤ y1.2.1 ∧ y1.2.1 ≤ l.length ∧ y1.1 = (markL mkEntry (l.take y1.2.1.toNat) k).2 := i1
   have hcnt := markL_cnt (f := mkEntry) (fun x k => by simp only [mkEntry]; omega) l k
  all_goals simp only [decide_eq_true_eq, decide_eq_false_iff_not] at h2
  all_goals
   clear i1 hp
   try have hlt : y1.2.1.toNat < l.length := by omega
   try have ht := markL_take (f := mkEntry) hlt k
   try have hle := (markL_take_le mkEntry_mono l (y1.2.1.toNat + 1) k).2
   try have hl0 := (markL_take_le mkEntry_mono l y1.2.1.toNat k).1
   try have heq := markL_held hp3 hlt
   try rw [ht] at hle
   try rw [← i3.2.2] at hle hl0 ht heq
   try simp only [mkEntry] at hle heq
  all_goals first | decide | omega | (refine ⟨?_, ?_⟩ <;> (try simp (discharger := omega) only [wrapId']) <;> omega) | skip
  all_goals try (exfalso; clear ht; generalize l.getD y1.2.1.toNat default = c at *; subst heq; simp (discharger := omega) [wrapId', fmarkText, Int.add_assoc] at *; done)
  · simp (discharger := omega) only [wrapId']
    refine ⟨⟨by omega, by omega, ?_⟩, ?_⟩
    · rw [toNat1 (by omega), ht]
      first | done | (simp only [mkEntry]; done) | (simp only [mkEntry]; omega)
    · omega
  · have e1 : l.take y1.2.1.toNat = l := List.take_of_length_le (by omega)
    rw [e1] at i3
    show (y1.1, ()) = ((markL mkEntry l k).2, ())
    rw [i3.2.2])
def E83 := E82.add 208 fheldEntryS
theorem E83ok : EOk Tryz.prog E83 := E82ok.add k208_82
theorem k53_83 : fszCache.ok Tryz.prog 53 := Fct.o [1,2,4,10,1000010] E83ok Tryz.func53 (by
  rintro ⟨(x : SCache), (n : Int), _⟩ hp
  refine ho (.cl fszEntryS (x.entries, n, ()) fun z2 => .br (decide (z2.1 < 0)) (.lf fszCache ((-1 : Int), ())) (.lf fszCache (z2.1, ()))) ?_
  refine cl_i ?_ fun o1 => (br_i (fun h2 => lfY ?_) (fun h2 => lfY ?_))
  all_goals try simp only [fszCache, fszEntryS, std, Nat.reduceAdd, Sh.good, Sh.fc, enc, List.forall_mem_cons, List.not_mem_nil, false_implies, implies_true, goodC, maxLen] at *
  all_goals grind [wrapId', lessen, szCache, szL])
def E84 := E83.add 53 fszCache
theorem E84ok : EOk Tryz.prog E84 := E83ok.add k53_83
theorem k79_84 : ftoCache.ok Tryz.prog 79 := Fct.o [1,2,3] E84ok Tryz.func79 (by
  rintro ⟨(x : SCache), _⟩ hp
  refine ho (.cl ftoEntryS (x.entries, ()) fun z2 => .lf ftoCache (⟨z2.1⟩, ())) ?_
  refine cl_i ?_ fun o1 => (lfY ?_)
  all_goals try simp only [ftoCache, ftoEntryS, std, Nat.reduceAdd] at *
  all_goals first | trivial | rfl | grind [szCache, szL])
def E85 := E84.add 79 ftoCache
theorem E85ok : EOk Tryz.prog E85 := E84ok.add k79_84
theorem k111_85 : feqCache.ok Tryz.prog 111 := Fct.o [2,3,4,10,1000010] E85ok Tryz.func111 (by
  rintro ⟨(x : SCache), (y : SCache), _⟩ hp
  refine ho (.cl feqEntryS (x.entries, y.entries, ()) fun z2 => .br (!z2.1) (.lf feqCache (false, ())) (.lf feqCache (true, ()))) ?_
  refine cl_i ?_ fun o1 => (br_i (fun h2 => lfY ?_) (fun h2 => lfY ?_))
  all_goals try simp only [feqCache, feqEntryS, std, Nat.reduceAdd] at *
  all_goals first | trivial | (cases x; cases y; simp_all; done) | (simp only [szCache, szL] at *; omega) | grind [szCache, szL])
def E86 := E85.add 111 feqCache
theorem E86ok : EOk Tryz.prog E86 := E85ok.add k111_85
theorem k124_86 : fmarkCache.ok Tryz.prog 124 := MS.of (S := fmarkCache) (L := fun _ _ _ => none) (kp := [1,2,4]) (kl := [0]) E86ok Tryz.func124 (by kernel_rfl) (by kernel_rfl) (by
  rintro (x : SCache) (k : Int) hp
  refine ho (.ob (fmarkEntryS.pre x.entries k) <| .lt _ (fmarkEntryS.fn x.entries k) fun z2 => .leaf (.one false [vi (z2.2)]) [] [(0, ⟨Ty.entry, z2.1⟩)]) ?_
  refine ob_d ?_ <| lt_i (MS.leaf ?_)
  all_goals
   have hp1 : 0 ≤ k := hp.1
   have hp2 : (mvCache x k).2 ≤ 4000000000000000000 := hp.2
   clear hp
  all_goals simp only [mvCache] at hp2
  all_goals
   try have m1 := mkEntryS_mono x.entries (k)
   try generalize hr1 : markL mkEntry x.entries (k) = r1 at *
  all_goals simp (disch := omega) only [fmarkEntryS, fmarkText, hr1]
  all_goals first | trivial | omega | (refine ⟨?_, ?_⟩ <;> omega) | skip
  refine MS.leaf ?_
  simp only [fmarkCache, mvCache, hr1]
  exact ⟨⟨rfl, rfl, trivial⟩, trivial, rfl⟩)
def E87 := E86.addM 124 fmarkCache
theorem E87ok : EOk Tryz.prog E87 := E86ok.addM k124_86
theorem k134_87 : fheldCache.ok Tryz.prog 134 := Fct.o [1,2,4,10,1000010] E87ok Tryz.func134 (by
  rintro ⟨(x : SCache), (k : Int), _⟩ hp
  refine ho (.ob (fheldEntryS.pre (x.entries, k, ())) <|
 .lt (Int × PUnit) (fheldEntryS.fn (x.entries, k, ())) fun z2 =>
 .br (decide (z2.fst < (0 : Int)))
  (.leaf (mkR fheldCache.rs ((-1 : Int), ())) [] [])
  (.leaf (mkR fheldCache.rs (z2.fst, ())) [] [])) ?_
  refine ob_d ?_ <| lt_i (br_i (fun h2 => Fct.leafY ?_) (fun h2 => Fct.leafY ?_))
  all_goals
   have hp1 : 0 ≤ k := hp.1
   have hp2 : (mvCache x k).2 ≤ 4000000000000000000 := hp.2.1
   have heq : (mvCache x k).1 = x := hp.2.2
   clear hp
   try have q1 := congrArg (fun z : SCache => z.entries) heq
  all_goals obtain ⟨E, hE⟩ : ∃ E, E = (mvCache x k).2 := ⟨_, rfl⟩
  all_goals have hE2 := hE
  all_goals simp only [mvCache] at hp2 hE2 q1
  all_goals
   clear heq
   try have m1 := mkEntryS_mono x.entries (k)
   try generalize hr1 : markL mkEntry x.entries (k) = r1 at *
  all_goals simp (disch := omega) only [fheldEntryS, fmarkText, hr1, decide_eq_true_eq, decide_eq_false_iff_not, Int.not_lt] at *
  all_goals try simp only [q1]
  all_goals first | trivial | omega | (exfalso; omega) | (refine ⟨?_, ?_, ?_⟩ <;> first | omega | assumption) | skip
  all_goals first | (show (_, ()) = ((mvCache x k).2, ()); rw [← hE, Prod.mk.injEq]; exact ⟨by omega, rfl⟩) | skip)
def E88 := E87.add 134 fheldCache
theorem E88ok : EOk Tryz.prog E88 := E87ok.add k134_87
theorem k144_88 : fszSent.ok Tryz.prog 144 := Fct.o [1,2,4,11,17,1000011,1000017] E88ok Tryz.func144 (by
  rintro ⟨(x : SSent), (n : Int), _⟩ hp
  refine ho (.br (decide (wr (n - (↑x.top.size : Int)) < 0)) (.lf fszSent ((-1 : Int), ())) (.cl fszAddr (x.to, wr (n - (↑x.top.size : Int)), ()) fun z2 => .br (decide (z2.1 < 0)) (.lf fszSent ((-1 : Int), ())) (.lf fszSent (z2.1, ())))) ?_
  refine br_i (fun h1 => lfY ?_) (fun h1 => cl_i ?_ fun o2 => (br_i (fun h3 => lfY ?_) (fun h3 => lfY ?_)))
  all_goals try simp only [fszAddr, fszSent, std, Nat.reduceAdd, Sh.good, Sh.fc, enc, List.forall_mem_cons, List.not_mem_nil, false_implies, implies_true, goodC, maxLen] at *
  all_goals grind [wrapId', lessen, szAddr, szSent])
def E89 := E88.add 144 fszSent
theorem E89ok : EOk Tryz.prog E89 := E88ok.add k144_88
theorem k167_89 : ftoSent.ok Tryz.prog 167 := Fct.o [1,2,3] E89ok Tryz.func167 (by
  rintro ⟨(x : SSent), _⟩ hp
  refine ho (.cl ftoAddr (x.to, ()) fun z2 => .lf ftoSent (⟨x.top, z2.1, x.guess⟩, ())) ?_
  refine cl_i ?_ fun o1 => (lfY ?_)
  all_goals try simp only [ftoAddr, ftoSent, std, Nat.reduceAdd] at *
  all_goals first | trivial | rfl | grind [szAddr, szSent])
def E90 := E89.add 167 ftoSent
theorem E90ok : EOk Tryz.prog E90 := E89ok.add k167_89
theorem k195_90 : feqSent.ok Tryz.prog 195 := Fct.o [2,3,4,9,15,20,1000009,1000015,1000020] E90ok Tryz.func195 (by
  rintro ⟨(x : SSent), (y : SSent), _⟩ hp
  refine ho (.br (!x.top.toList == y.top.toList) (.lf feqSent (false, ())) (.cl feqAddr (x.to, y.to, ()) fun z2 => .br (!z2.1) (.lf feqSent (false, ())) (.br (!x.guess == y.guess) (.lf feqSent (false, ())) (.lf feqSent (true, ()))))) ?_
  refine br_i (fun h1 => lfY ?_) (fun h1 => cl_i trivial fun _ => (br_i (fun h2 => lfY ?_) (fun h2 => br_i (fun h3 => lfY ?_) (fun h3 => lfY ?_))))
  all_goals try simp only [feqAddr, feqSent, std, Nat.reduceAdd] at *
  all_goals first | trivial | (cases x; cases y; simp_all; done) | (simp only [szAddr, szSent] at *; omega) | grind [szAddr, szSent])
def E91 := E90.add 195 feqSent
theorem E91ok : EOk Tryz.prog E91 := E90ok.add k195_90
theorem k54_91 : fszSentS.ok Tryz.prog 54 := Fct.of (S := fszSentS) (L := fun ⟨l, n, _⟩ => fun | 5 => some (LszS .sent szSent l n) | _ => none) (kp := [0,1,4,5,11,15,25,1000011,1000015,1000025]) E91ok Tryz.func54 (by kernel_rfl) (by kernel_rfl) (by
  rintro ⟨(l : List SSent), (n : Int), _⟩ hp
  refine ho (.br (decide (wr (n - (↑l.length : Int)) < 0)) (.lf fszSentS ((-1 : Int), ())) (lpx (LszS .sent szSent l n) (wr (n - (↑l.length : Int)), ((0 : Int), ())) fun (y2 : Int × Int × PUnit) bk2 => .br (decide (y2.2.1 < (↑l.length : Int))) (.ob (inB y2.2.1 l.length) <| .cl fszSent (l.getD y2.2.1.toNat default, y2.1, ()) fun z2 => .br (decide (z2.1 < 0)) (.lf fszSentS ((-1 : Int), ())) (.ob (l = l) <| .ob (bk2 (z2.1, (w1 y2.2.1, ()))) <| .ok)) (.lf fszSentS (y2.1, ())))) ?_
  refine br_i (fun h1 => lfY ?_) (fun h1 => lpx_i ?_ fun (y2 : Int × Int × PUnit) i2 => br_i (fun h3 => ob_i ?_ fun o4 => cl_i ?_ fun o5 => (br_i (fun h6 => lfY ?_) (fun h6 => ob_i rfl fun _ => ob_i ?_ fun o7 => trivial))) (fun h3 => lfY ?_))
  all_goals
   try simp only [std0] at *
   try simp only [LszS, fszSent, fszSentS, std, Nat.reduceAdd] at *
  · have := good_len hp.1; simp only [maxLen] at this; rw [wrapId (by omega)] at h1
    rw [lessenNeg (by simp only [szL]; omega)]
  · have := good_len hp.1; simp only [maxLen] at this
    rw [wrapId (by omega)] at h1 ⊢
    exact ⟨by omega, by omega, h1, by simp⟩
  · omega
  · exact ⟨good_getD hp.1 (by omega), by omega, by omega⟩
  · have hs := sum_take_le szSent l (y2.2.1.toNat + 1)
    rw [sum_take szSent (by omega)] at hs
    rw [lessen_lt (by omega)] at h6
    rw [lessenNeg (by simp only [szL]; omega)]
  · have hw : IntKind.i64.wrap (y2.2.1 + 1) = y2.2.1 + 1 := wrapId (by have := good_len hp.1; simp only [maxLen] at this; omega)
    have h7 : ¬ lessen y2.1 (szSent (l.getD y2.2.1.toNat default)) < 0 := by omega
    rw [lessen_lt (by omega)] at h7
    rw [hw, toNat1 (by omega), sum_take szSent (by omega), lessen_ge (by omega)]
    exact ⟨⟨by omega, by omega, by omega, by omega⟩, by omega⟩
  · have e : l.take y2.2.1.toNat = l := List.take_of_length_le (by omega)
    rw [e] at i2
    have hz : ((szL szSent l : Nat) : Int) = l.length + (l.map szSent).sum := by simp only [szL]; omega
    rw [lessen_ge (by omega)]
    show y2.1 = n - ((szL szSent l : Nat) : Int)
    omega)
def E92 := E91.add 54 fszSentS
theorem E92ok : EOk Tryz.prog E92 := E91ok.add k54_91
theorem k80_92 : ftoSentS.ok Tryz.prog 80 := Fct.of (S := ftoSentS) (L := fun ⟨l, _⟩ => fun | 3 => some (LtoS .sent l) | _ => none) (kp := [0,2,3,4,11,1000011]) E92ok Tryz.func80 (by kernel_rfl) (by kernel_rfl) (by
  rintro ⟨(l : List SSent), _⟩ hp
  refine ho (.ob ((↑l.length : Int) = (↑l.length : Int) ∧ (0 : Int) ≤ (↑l.length : Int) ∧ (56 : Int) * (↑l.length : Int) ≤ 140737488355328 ∧ (↑l.length : Int) ≤ 140737488355328) <| lpx (LtoS .sent l) ((0 : Int), (List.replicate (↑l.length : Int).toNat default, ())) fun (y2 : Int × List SSent × PUnit) bk2 => .br (decide (y2.1 < (↑l.length : Int))) (.ob (inB y2.1 l.length) <| .cl ftoSent (l.getD y2.1.toNat default, ()) fun z2 => .ob (inB y2.1 y2.2.1.length) <| .ob (y2.1.toNat < y2.2.1.length) <| .lt (List SSent) (y2.2.1.modify y2.1.toNat fun z => z2.1) fun z3 => .ob (l = l) <| .ob (bk2 (w1 y2.1, (z3, ()))) <| .ok) (.lf ftoSentS (y2.2.1, ()))) ?_
  refine ob_i ?_ fun o1 => lpx_i ?_ fun (y2 : Int × List SSent × PUnit) i2 => br_i (fun h3 => ob_i ?_ fun o4 => cl_i ?_ fun o5 => (ob_i ?_ fun o6 => ob_i ?_ fun o7 => lt_i (ob_i rfl fun _ => ob_i ?_ fun o8 => trivial))) (fun h3 => lfY ?_)
  all_goals try simp only [LtoS, ftoSent, ftoSentS, std, Nat.reduceAdd] at *
  · have := szL_len szSent l; omega
  · exact ⟨by omega, by omega, by simp⟩
  · omega
  · have hs := sum_take_le szSent l (y2.1.toNat + 1)
    rw [sum_take szSent (by omega)] at hs
    simp only [szL] at hp; omega
  · rw [i2.2.2]; simp; omega
  · rw [i2.2.2]; simp; omega
  · have hw : IntKind.i64.wrap (y2.1 + 1) = y2.1 + 1 := wrapId (by have := szL_len szSent l; omega)
    rw [hw, toNat1 (by omega), i2.2.2]
    refine ⟨⟨by omega, by omega, ?_⟩, by omega⟩
    rw [show l.length - y2.1.toNat = (l.length - (y2.1.toNat + 1)) + 1 from by omega, List.replicate_succ, mod_at (by simp; omega), take_succ (by omega)]
    simp
  · have e : l.take y2.1.toNat = l := List.take_of_length_le (by omega)
    rw [i2.2.2, e]; simp; omega)
def E93 := E92.add 80 ftoSentS
theorem E93ok : EOk Tryz.prog E93 := E92ok.add k80_92
theorem k112_93 : feqSentS.ok Tryz.prog 112 := Fct.of (S := feqSentS) (L := fun ⟨l, m, _⟩ => fun | 4 => some (LeqS .sent l m) | _ => none) (kp := [0,1,4,5,10,14,26,1000010,1000014,1000026]) E93ok Tryz.func112 (by kernel_rfl) (by kernel_rfl) (by
  rintro ⟨(l : List SSent), (m : List SSent), _⟩ hp
  refine ho (.br ((↑l.length : Int) != (↑m.length : Int)) (.lf feqSentS (false, ())) (lpx (LeqS .sent l m) ((0 : Int), ()) fun (y2 : Int × PUnit) bk2 => .br (decide (y2.1 < (↑l.length : Int))) (.ob (inB y2.1 l.length) <| .ob (inB y2.1 m.length) <| .cl feqSent (l.getD y2.1.toNat default, m.getD y2.1.toNat default, ()) fun z2 => .br (!z2.1) (.lf feqSentS (false, ())) (.ob (l = l) <| .ob (m = m) <| .ob (bk2 (w1 y2.1, ())) <| .ok)) (.lf feqSentS (true, ())))) ?_
  refine br_i (fun h1 => lfY ?_) (fun h1 => lpx_i ?_ fun (y2 : Int × PUnit) i2 => br_i (fun h3 => ob_i ?_ fun o4 => ob_i ?_ fun o5 => cl_i trivial fun _ => (br_i (fun h6 => lfY ?_) (fun h6 => ob_i rfl fun _ => ob_i rfl fun _ => ob_i ?_ fun o7 => trivial))) (fun h3 => lfY ?_))
  all_goals try simp only [LeqS, feqSent, feqSentS, std, Nat.reduceAdd] at *
  · rw [decide_eq_false]; rintro rfl; omega
  · exact ⟨by omega, by omega, by simp⟩
  · omega
  · omega
  · rw [decide_eq_false]; rintro rfl; exact absurd rfl h6
  · have hw : IntKind.i64.wrap (y2.1 + 1) = y2.1 + 1 := wrapId (by omega)
    rw [hw, toNat1 (by omega)]
    refine ⟨⟨by omega, by omega, ?_⟩, by omega⟩
    rw [take_succ (by omega), take_succ (by omega), i2.2.2, h6]
  · have e : l.take y2.1.toNat = l := List.take_of_length_le (by omega)
    have e2 : m.take y2.1.toNat = m := List.take_of_length_le (by omega)
    rw [decide_eq_true]; rw [← e, ← e2, i2.2.2])
def E94 := E93.add 112 feqSentS
theorem E94ok : EOk Tryz.prog E94 := E93ok.add k112_93
theorem k125_94 : fmarkSentS.ok Tryz.prog 125 := MS.of (S := fmarkSentS) (L := fun l k => fun | 2 => some (LmkS .sent mkSent l k) | _ => none) (kp := [0,1,4,5,9,1000009]) (kl := [0]) E94ok Tryz.func125 (by kernel_rfl) (by kernel_rfl) (by
  rintro (l : List SSent) (k : Int) hp
  refine ho (lpx (LmkS .sent mkSent l k) (k, ((0 : Int), (l, ()))) fun (y1 : Int × Int × List SSent × PUnit) bk1 => .br (decide (y1.2.1 < (↑y1.2.2.1.length : Int))) (.cl fmarkText (y1.1, ()) fun z2 => .ob (inB y1.2.1 y1.2.2.1.length) <| .ob (y1.2.1.toNat < y1.2.2.1.length) <| .lt (List SSent) (y1.2.2.1.modify y1.2.1.toNat fun z => (⟨z2.1, z.to, z.guess⟩ : SSent)) fun z3 => .cl fmarkText (w1 y1.1, ()) fun z4 => .ob (inB y1.2.1 z3.length) <| .ob (y1.2.1.toNat < z3.length) <| .lt (List SSent) (z3.modify y1.2.1.toNat fun z => (⟨z.top, (⟨z4.1, z.to.path⟩ : SAddr), z.guess⟩ : SSent)) fun z5 => .cl fmarkText (w1 (w1 y1.1), ()) fun z6 => .ob (inB y1.2.1 z5.length) <| .ob (y1.2.1.toNat < z5.length) <| .lt (List SSent) (z5.modify y1.2.1.toNat fun z => (⟨z.top, (⟨z.to.host, z6.1⟩ : SAddr), z.guess⟩ : SSent)) fun z7 => .ob ((3 : Int) ≠ (0 : Int)) <| .ob (inB y1.2.1 z7.length) <| .ob (y1.2.1.toNat < z7.length) <| .lt (List SSent) (z7.modify y1.2.1.toNat fun z => (⟨z.top, z.to, (w1 (w1 (w1 y1.1))).tmod (3 : Int) == (0 : Int)⟩ : SSent)) fun z8 => .ob (Value.int IntKind.i64 0 = Value.int IntKind.i64 (0 : Int)) <| .ob (bk1 (w1 (w1 (w1 (w1 y1.1))), (w1 y1.2.1, (z8, ())))) <| .ok) (.leaf (.one false [vi (y1.1)]) [] [(0, ⟨Ty.sent, y1.2.2.1⟩)])) ?_
  refine lpx_i ?_ fun (y1 : Int × Int × List SSent × PUnit) i1 => br_i (fun h2 => cl_i ?_ fun o3 => (ob_i ?_ fun o4 => ob_i ?_ fun o5 => lt_i (cl_i ?_ fun o6 => (ob_i ?_ fun o7 => ob_i ?_ fun o8 => lt_i (cl_i ?_ fun o9 => (ob_i ?_ fun o10 => ob_i ?_ fun o11 => lt_i (ob_i ?_ fun o12 => ob_i ?_ fun o13 => ob_i ?_ fun o14 => lt_i (ob_i rfl fun _ => ob_i ?_ fun o15 => trivial)))))))) (fun h2 => MS.leaf ?_)
  all_goals try simp only [stdW] at *
  · exact ⟨by simp, by simp, by simp [markL], by simp [markL]⟩
  all_goals
   have hp1 : 0 ≤ k := hp.1
   have hp2 : (markL mkSent l k).2 ≤ 4000000000000000000 := hp.2
   have i3 : 0 ≤ y1.2.1 ∧ y1.2.1 ≤ l.length ∧ y1.1 = (markL mkSent (l.take y1.2.1.toNat) k).2 ∧ y1.2.2.1 = (markL mkSent (l.take y1.2.1.toNat) k).1 ++ l.drop y1.2.1.toNat := i1
   have hcnt := markL_cnt (f := mkSent) (fun x k => by simp only [mkSent]; omega) l k
   have hx : y1.2.2.1.length = l.length := by rw [i3.2.2.2, List.length_append, markL_len, List.length_take, List.length_drop]; omega
  all_goals simp only [decide_eq_true_eq, decide_eq_false_iff_not, hx] at h2
  all_goals
   clear i1
   try have hlt : y1.2.1.toNat < l.length := by omega
   try have ht := markL_take (f := mkSent) hlt k
   try have hle := (markL_take_le mkSent_mono l (y1.2.1.toNat + 1) k).2
   try have hl0 := (markL_take_le mkSent_mono l y1.2.1.toNat k).1
   try rw [ht] at hle
   try rw [← i3.2.2.1] at hle hl0 ht
   try simp only [mkSent] at hle
  all_goals first | decide | (simp only [List.length_modify, hx]; omega) | (refine ⟨?_, ?_⟩ <;> (try simp (discharger := omega) only [wrapId']) <;> omega) | skip
  · try clear o3 o4 o5
    simp (discharger := omega) only [wrapId', fmarkText]
    have hA : (markL mkSent (l.take y1.2.1.toNat) k).1.length = y1.2.1.toNat := by rw [markL_len, List.length_take]; omega
    refine ⟨⟨by omega, by omega, ?_, ?_⟩, ?_⟩
    · rw [toNat1 (by omega), ht]
      first | done | (simp only [mkSent]; done) | (simp only [mkSent]; omega)
    · rw [toNat1 (by omega), ht, i3.2.2.2, drop_cons hlt]
      simp only [mod_at hA, mkSent, Int.add_assoc, Int.reduceAdd, List.append_assoc, List.cons_append, List.nil_append]
    · omega
  · refine MS.leafL (t := .sent) (fn := fun l k => markL mkSent l k) ?_
    have e1 : l.take y1.2.1.toNat = l := List.take_of_length_le (by omega)
    have e2 : l.drop y1.2.1.toNat = [] := List.drop_of_length_le (by omega)
    rw [i3.2.2.2, i3.2.2.1, e1, e2, List.append_nil])
def E95 := E94.addM 125 fmarkSentS
theorem E95ok : EOk Tryz.prog E95 := E94ok.addM k125_94
theorem k135_95 : fheldSentS.ok Tryz.prog 135 := Fct.of (S := fheldSentS) (L := fun ⟨l, k, _⟩ => fun | 2 => some (LheS .sent mkSent l k) | _ => none) (kp := [0,1,4,5,9,19,30,41,52,1000009,1000019,1000030,1000041,1000052]) E95ok Tryz.func135 (by kernel_rfl) (by kernel_rfl) (by
  rintro ⟨(l : List SSent), (k : Int), _⟩ hp
  refine ho (lpx (LheS .sent mkSent l k) (k, ((0 : Int), ())) fun (y1 : Int × Int × PUnit) bk1 => .br (decide (y1.2.1 < (↑l.length : Int))) (.ob (inB y1.2.1 l.length) <| .cl fmarkText (y1.1, ()) fun z2 => .br (!(l.getD y1.2.1.toNat default).top.toList == z2.1.toList) (.lf fheldSentS ((-1 : Int), ())) (.ob (inB y1.2.1 l.length) <| .cl fmarkText (w1 y1.1, ()) fun z3 => .br (!(l.getD y1.2.1.toNat default).to.host.toList == z3.1.toList) (.lf fheldSentS ((-1 : Int), ())) (.ob (inB y1.2.1 l.length) <| .cl fmarkText (w1 (w1 y1.1), ()) fun z4 => .br (!(l.getD y1.2.1.toNat default).to.path.toList == z4.1.toList) (.lf fheldSentS ((-1 : Int), ())) (.ob (inB y1.2.1 l.length) <| .ob ((3 : Int) ≠ (0 : Int)) <| .br (!(l.getD y1.2.1.toNat default).guess == ((w1 (w1 (w1 y1.1))).tmod (3 : Int) == (0 : Int))) (.lf fheldSentS ((-1 : Int), ())) (.ob (l = l) <| .ob (bk1 (w1 (w1 (w1 (w1 y1.1))), (w1 y1.2.1, ()))) <| .ok))))) (.lf fheldSentS (y1.1, ()))) ?_
  refine lpx_i ?_ fun (y1 : Int × Int × PUnit) i1 => br_i (fun h2 => ob_i ?_ fun o3 => cl_i ?_ fun o4 => (br_i (fun h5 => lfY ?_) (fun h5 => ob_i ?_ fun o6 => cl_i ?_ fun o7 => (br_i (fun h8 => lfY ?_) (fun h8 => ob_i ?_ fun o9 => cl_i ?_ fun o10 => (br_i (fun h11 => lfY ?_) (fun h11 => ob_i ?_ fun o12 => ob_i ?_ fun o13 => br_i (fun h14 => lfY ?_) (fun h14 => ob_i rfl fun _ => ob_i ?_ fun o15 => trivial)))))))) (fun h2 => lfY ?_)
  all_goals try simp only [stdW] at *
  · exact ⟨by simp, by simp, by simp [markL]⟩
  all_goals
   have hp1 : 0 ≤ k := hp.1
   have hp2 : (markL mkSent l k).2 ≤ 4000000000000000000 := hp.2.1
   have hp3 : (markL mkSent l k).1 = l := hp.2.2
   have i3 : 0 ≤ y1.2.1 ∧ y1.2.1 ≤ l.length ∧ y1.1 = (markL mkSent (l.take y1.2.1.toNat) k).2 := i1
   have hcnt := markL_cnt (f := mkSent) (fun x k => by simp only [mkSent]; omega) l k
  all_goals simp only [decide_eq_true_eq, decide_eq_false_iff_not] at h2
  all_goals
   clear i1 hp
   try have hlt : y1.2.1.toNat < l.length := by omega
   try have ht := markL_take (f := mkSent) hlt k
   try have hle := (markL_take_le mkSent_mono l (y1.2.1.toNat + 1) k).2
   try have hl0 := (markL_take_le mkSent_mono l y1.2.1.toNat k).1
   try have heq := markL_held hp3 hlt
   try rw [ht] at hle
   try rw [← i3.2.2] at hle hl0 ht heq
   try simp only [mkSent] at hle heq
  all_goals first | decide | omega | (refine ⟨?_, ?_⟩ <;> (try simp (discharger := omega) only [wrapId']) <;> omega) | skip
  all_goals try (exfalso; clear ht; generalize l.getD y1.2.1.toNat default = c at *; subst heq; simp (discharger := omega) [wrapId', fmarkText, Int.add_assoc] at *; done)
  · simp (discharger := omega) only [wrapId']
    refine ⟨⟨by omega, by omega, ?_⟩, ?_⟩
    · rw [toNat1 (by omega), ht]
      first | done | (simp only [mkSent]; done) | (simp only [mkSent]; omega)
    · omega
  · have e1 : l.take y1.2.1.toNat = l := List.take_of_length_le (by omega)
    rw [e1] at i3
    show (y1.1, ()) = ((markL mkSent l k).2, ())
    rw [i3.2.2])
def E96 := E95.add 135 fheldSentS
theorem E96ok : EOk Tryz.prog E96 := E95ok.add k135_95
theorem k11_96 : fszNet.ok Tryz.prog 11 := Fct.o [1,2,4,10,16,22,1000010,1000016,1000022] E96ok Tryz.func11 (by
  rintro ⟨(x : SNet), (n : Int), _⟩ hp
  refine ho (.cl fszServerS (x.servers, n, ()) fun z2 => .br (decide (z2.1 < 0)) (.lf fszNet ((-1 : Int), ())) (.cl fszCache (x.cache, z2.1, ()) fun z3 => .br (decide (z3.1 < 0)) (.lf fszNet ((-1 : Int), ())) (.cl fszSentS (x.log, z3.1, ()) fun z4 => .br (decide (z4.1 < 0)) (.lf fszNet ((-1 : Int), ())) (.lf fszNet (z4.1, ()))))) ?_
  refine cl_i ?_ fun o1 => (br_i (fun h2 => lfY ?_) (fun h2 => cl_i ?_ fun o3 => (br_i (fun h4 => lfY ?_) (fun h4 => cl_i ?_ fun o5 => (br_i (fun h6 => lfY ?_) (fun h6 => lfY ?_))))))
  all_goals try simp only [fszCache, fszNet, fszSentS, fszServerS, std, Nat.reduceAdd, Sh.good, Sh.fc, enc, List.forall_mem_cons, List.not_mem_nil, false_implies, implies_true, goodC, maxLen] at *
  all_goals grind [wrapId', lessen, szCache, szL, szNet])
def E97 := E96.add 11 fszNet
theorem E97ok : EOk Tryz.prog E97 := E96ok.add k11_96
theorem k24_97 : ftoNet.ok Tryz.prog 24 := Fct.o [1,2,3] E97ok Tryz.func24 (by
  rintro ⟨(x : SNet), _⟩ hp
  refine ho (.cl ftoServerS (x.servers, ()) fun z2 => .cl ftoCache (x.cache, ()) fun z3 => .cl ftoSentS (x.log, ()) fun z4 => .lf ftoNet (⟨z2.1, z3.1, z4.1, x.now⟩, ())) ?_
  refine cl_i ?_ fun o1 => (cl_i ?_ fun o2 => (cl_i ?_ fun o3 => (lfY ?_)))
  all_goals try simp only [ftoCache, ftoNet, ftoSentS, ftoServerS, std, Nat.reduceAdd] at *
  all_goals first | trivial | rfl | grind [szCache, szL, szNet])
def E98 := E97.add 24 ftoNet
theorem E98ok : EOk Tryz.prog E98 := E97ok.add k24_97
theorem k37_98 : feqNet.ok Tryz.prog 37 := Fct.o [2,3,4,10,16,22,27,1000010,1000016,1000022,1000027] E98ok Tryz.func37 (by
  rintro ⟨(x : SNet), (y : SNet), _⟩ hp
  refine ho (.cl feqServerS (x.servers, y.servers, ()) fun z2 => .br (!z2.1) (.lf feqNet (false, ())) (.cl feqCache (x.cache, y.cache, ()) fun z3 => .br (!z3.1) (.lf feqNet (false, ())) (.cl feqSentS (x.log, y.log, ()) fun z4 => .br (!z4.1) (.lf feqNet (false, ())) (.br (x.now != y.now) (.lf feqNet (false, ())) (.lf feqNet (true, ())))))) ?_
  refine cl_i ?_ fun o1 => (br_i (fun h2 => lfY ?_) (fun h2 => cl_i ?_ fun o3 => (br_i (fun h4 => lfY ?_) (fun h4 => cl_i ?_ fun o5 => (br_i (fun h6 => lfY ?_) (fun h6 => br_i (fun h7 => lfY ?_) (fun h7 => lfY ?_)))))))
  all_goals try simp only [feqCache, feqNet, feqSentS, feqServerS, std, Nat.reduceAdd] at *
  all_goals first | trivial | (cases x; cases y; simp_all; done) | (simp only [szCache, szL, szNet] at *; omega) | grind [szCache, szL, szNet])
def E99 := E98.add 37 feqNet
theorem E99ok : EOk Tryz.prog E99 := E98ok.add k37_98
theorem k42_99 : fmarkNet.ok Tryz.prog 42 := MS.of (S := fmarkNet) (L := fun _ _ _ => none) (kp := [1,2,4]) (kl := [0,1,2]) E99ok Tryz.func42 (by kernel_rfl) (by kernel_rfl) (by
  rintro (x : SNet) (k : Int) hp
  refine ho (.ob (fmarkServerS.pre x.servers k) <| .lt _ (fmarkServerS.fn x.servers k) fun z2 => .ob (fmarkCache.pre x.cache z2.2) <| .lt _ (fmarkCache.fn x.cache z2.2) fun z3 => .ob (fmarkSentS.pre x.log z3.2) <| .lt _ (fmarkSentS.fn x.log z3.2) fun z4 => .leaf (.one false [vi (z4.2)]) [] [(0, ⟨Ty.server, z2.1⟩), (1, ⟨Ty.entry, z3.1.entries⟩), (2, ⟨Ty.sent, z4.1⟩)]) ?_
  refine ob_d ?_ <| lt_i (ob_d ?_ <| lt_i (ob_d ?_ <| lt_i (MS.leaf ?_)))
  all_goals
   have hp1 : 0 ≤ k := hp.1
   have hp2 : (mvNet x k).2 ≤ 4000000000000000000 := hp.2
   clear hp
  all_goals simp only [mvNet] at hp2
  all_goals
   try have m1 := mkServerS_mono x.servers (k)
   try generalize hr1 : markL mkServer x.servers (k) = r1 at *
   try have m2 := mkEntryS_mono x.cache.entries (r1.2)
   try generalize hr2 : markL mkEntry x.cache.entries (r1.2) = r2 at *
   try have m3 := mkSentS_mono x.log (r2.2)
   try generalize hr3 : markL mkSent x.log (r2.2) = r3 at *
  all_goals simp (disch := omega) only [fmarkEntryS, fmarkSentS, fmarkServerS, fmarkCache, mvCache, hr1, hr2, hr3]
  all_goals first | trivial | omega | (refine ⟨?_, ?_⟩ <;> omega) | skip
  refine MS.leaf ?_
  simp only [fmarkNet, mvNet, hr1, hr2, hr3]
  exact ⟨⟨rfl, rfl, trivial⟩, trivial, rfl⟩)
def E100 := E99.addM 42 fmarkNet
theorem E100ok : EOk Tryz.prog E100 := E99ok.addM k42_99
theorem k47_100 : fheldNet.ok Tryz.prog 47 := Fct.o [1,2,4,10,16,22,1000010,1000016,1000022] E100ok Tryz.func47 (by
  rintro ⟨(x : SNet), (k : Int), _⟩ hp
  refine ho (.ob (fheldServerS.pre (x.servers, k, ())) <|
 .lt (Int × PUnit) (fheldServerS.fn (x.servers, k, ())) fun z2 =>
 .br (decide (z2.fst < (0 : Int)))
  (.leaf (mkR fheldNet.rs ((-1 : Int), ())) [] [])
  (.ob (fheldCache.pre (x.cache, z2.fst, ())) <|
   .lt (Int × PUnit) (fheldCache.fn (x.cache, z2.fst, ())) fun z3 =>
   .br (decide (z3.fst < (0 : Int)))
    (.leaf (mkR fheldNet.rs ((-1 : Int), ())) [] [])
    (.ob (fheldSentS.pre (x.log, z3.fst, ())) <|
     .lt (Int × PUnit) (fheldSentS.fn (x.log, z3.fst, ())) fun z4 =>
     .br (decide (z4.fst < (0 : Int)))
      (.leaf (mkR fheldNet.rs ((-1 : Int), ())) [] [])
      (.leaf (mkR fheldNet.rs (z4.fst, ())) [] [])))) ?_
  refine ob_d ?_ <| lt_i (br_i (fun h2 => Fct.leafY ?_) (fun h2 => ob_d ?_ <| lt_i (br_i (fun h4 => Fct.leafY ?_) (fun h4 => ob_d ?_ <| lt_i (br_i (fun h6 => Fct.leafY ?_) (fun h6 => Fct.leafY ?_))))))
  all_goals
   have hp1 : 0 ≤ k := hp.1
   have hp2 : (mvNet x k).2 ≤ 4000000000000000000 := hp.2.1
   have heq : (mvNet x k).1 = x := hp.2.2
   clear hp
   try have q1 := congrArg (fun z : SNet => z.servers) heq
   try have q2 := congrArg (fun z : SNet => z.cache.entries) heq
   try have q3 := congrArg (fun z : SNet => z.log) heq
  all_goals obtain ⟨E, hE⟩ : ∃ E, E = (mvNet x k).2 := ⟨_, rfl⟩
  all_goals have hE2 := hE
  all_goals simp only [mvNet] at hp2 hE2 q1 q2 q3
  all_goals
   clear heq
   try have m1 := mkServerS_mono x.servers (k)
   try generalize hr1 : markL mkServer x.servers (k) = r1 at *
   try have m2 := mkEntryS_mono x.cache.entries (r1.2)
   try generalize hr2 : markL mkEntry x.cache.entries (r1.2) = r2 at *
   try have m3 := mkSentS_mono x.log (r2.2)
   try generalize hr3 : markL mkSent x.log (r2.2) = r3 at *
  all_goals simp (disch := omega) only [fheldEntryS, fheldSentS, fheldServerS, fheldCache, mvCache, hr1, hr2, hr3, decide_eq_true_eq, decide_eq_false_iff_not, Int.not_lt] at *
  all_goals try simp only [q1, q2, q3]
  all_goals first | trivial | omega | (exfalso; omega) | (refine ⟨?_, ?_, ?_⟩ <;> first | omega | assumption) | skip
  all_goals first | (show (_, ()) = ((mvNet x k).2, ()); rw [← hE, Prod.mk.injEq]; exact ⟨by omega, rfl⟩) | skip)
def E101 := E100.add 47 fheldNet
theorem E101ok : EOk Tryz.prog E101 := E100ok.add k47_100
theorem k148_101 : fszSlot.ok Tryz.prog 148 := Fct.o [1,2,4,10,17,24,1000010,1000017,1000024] E101ok Tryz.func148 (by
  rintro ⟨(x : SSlot), (n : Int), _⟩ hp
  refine ho (.cl fszAddr (x.to, n, ()) fun z2 => .br (decide (z2.1 < 0)) (.lf fszSlot ((-1 : Int), ())) (.br (decide (wr (z2.1 - (↑x.digest.size : Int)) < 0)) (.lf fszSlot ((-1 : Int), ())) (.br (decide (wr (wr (z2.1 - (↑x.digest.size : Int)) - (↑x.body.size : Int)) < 0)) (.lf fszSlot ((-1 : Int), ())) (.lf fszSlot (wr (wr (z2.1 - (↑x.digest.size : Int)) - (↑x.body.size : Int)), ()))))) ?_
  refine cl_i ?_ fun o1 => (br_i (fun h2 => lfY ?_) (fun h2 => br_i (fun h3 => lfY ?_) (fun h3 => br_i (fun h4 => lfY ?_) (fun h4 => lfY ?_))))
  all_goals try simp only [fszAddr, fszSlot, std, Nat.reduceAdd, Sh.good, Sh.fc, enc, List.forall_mem_cons, List.not_mem_nil, false_implies, implies_true, goodC, maxLen] at *
  all_goals grind [wrapId', lessen, szAddr, szSlot])
def E102 := E101.add 148 fszSlot
theorem E102ok : EOk Tryz.prog E102 := E101ok.add k148_101
theorem k171_102 : ftoSlot.ok Tryz.prog 171 := Fct.o [1,2,3] E102ok Tryz.func171 (by
  rintro ⟨(x : SSlot), _⟩ hp
  refine ho (.cl ftoAddr (x.to, ()) fun z2 => .lf ftoSlot (⟨x.mode, z2.1, x.digest, x.node, x.done, x.code, x.body⟩, ())) ?_
  refine cl_i ?_ fun o1 => (lfY ?_)
  all_goals try simp only [ftoAddr, ftoSlot, std, Nat.reduceAdd] at *
  all_goals first | trivial | rfl | grind [szAddr, szSlot])
def E103 := E102.add 171 ftoSlot
theorem E103ok : EOk Tryz.prog E103 := E102ok.add k171_102
theorem k199_103 : feqSlot.ok Tryz.prog 199 := Fct.o [2,3,4,9,15,20,25,30,35,40,1000009,1000015,1000020,1000025,1000030,1000035,1000040] E103ok Tryz.func199 (by
  rintro ⟨(x : SSlot), (y : SSlot), _⟩ hp
  refine ho (.br (x.mode != y.mode) (.lf feqSlot (false, ())) (.cl feqAddr (x.to, y.to, ()) fun z2 => .br (!z2.1) (.lf feqSlot (false, ())) (.br (!x.digest.toList == y.digest.toList) (.lf feqSlot (false, ())) (.br (x.node != y.node) (.lf feqSlot (false, ())) (.br (!x.done == y.done) (.lf feqSlot (false, ())) (.br (x.code != y.code) (.lf feqSlot (false, ())) (.br (!x.body.toList == y.body.toList) (.lf feqSlot (false, ())) (.lf feqSlot (true, ()))))))))) ?_
  refine br_i (fun h1 => lfY ?_) (fun h1 => cl_i trivial fun _ => (br_i (fun h2 => lfY ?_) (fun h2 => br_i (fun h3 => lfY ?_) (fun h3 => br_i (fun h4 => lfY ?_) (fun h4 => br_i (fun h5 => lfY ?_) (fun h5 => br_i (fun h6 => lfY ?_) (fun h6 => br_i (fun h7 => lfY ?_) (fun h7 => lfY ?_))))))))
  all_goals try simp only [feqAddr, feqSlot, std, Nat.reduceAdd] at *
  all_goals first | trivial | (cases x; cases y; simp_all; done) | (simp only [szAddr, szSlot] at *; omega) | grind [szAddr, szSlot])
def E104 := E103.add 199 feqSlot
theorem E104ok : EOk Tryz.prog E104 := E103ok.add k199_103
theorem k60_104 : fszSlotS.ok Tryz.prog 60 := Fct.of (S := fszSlotS) (L := fun ⟨l, n, _⟩ => fun | 5 => some (LszS .slot szSlot l n) | _ => none) (kp := [0,1,4,5,11,15,25,1000011,1000015,1000025]) E104ok Tryz.func60 (by kernel_rfl) (by kernel_rfl) (by
  rintro ⟨(l : List SSlot), (n : Int), _⟩ hp
  refine ho (.br (decide (wr (n - (↑l.length : Int)) < 0)) (.lf fszSlotS ((-1 : Int), ())) (lpx (LszS .slot szSlot l n) (wr (n - (↑l.length : Int)), ((0 : Int), ())) fun (y2 : Int × Int × PUnit) bk2 => .br (decide (y2.2.1 < (↑l.length : Int))) (.ob (inB y2.2.1 l.length) <| .cl fszSlot (l.getD y2.2.1.toNat default, y2.1, ()) fun z2 => .br (decide (z2.1 < 0)) (.lf fszSlotS ((-1 : Int), ())) (.ob (l = l) <| .ob (bk2 (z2.1, (w1 y2.2.1, ()))) <| .ok)) (.lf fszSlotS (y2.1, ())))) ?_
  refine br_i (fun h1 => lfY ?_) (fun h1 => lpx_i ?_ fun (y2 : Int × Int × PUnit) i2 => br_i (fun h3 => ob_i ?_ fun o4 => cl_i ?_ fun o5 => (br_i (fun h6 => lfY ?_) (fun h6 => ob_i rfl fun _ => ob_i ?_ fun o7 => trivial))) (fun h3 => lfY ?_))
  all_goals
   try simp only [std0] at *
   try simp only [LszS, fszSlot, fszSlotS, std, Nat.reduceAdd] at *
  · have := good_len hp.1; simp only [maxLen] at this; rw [wrapId (by omega)] at h1
    rw [lessenNeg (by simp only [szL]; omega)]
  · have := good_len hp.1; simp only [maxLen] at this
    rw [wrapId (by omega)] at h1 ⊢
    exact ⟨by omega, by omega, h1, by simp⟩
  · omega
  · exact ⟨good_getD hp.1 (by omega), by omega, by omega⟩
  · have hs := sum_take_le szSlot l (y2.2.1.toNat + 1)
    rw [sum_take szSlot (by omega)] at hs
    rw [lessen_lt (by omega)] at h6
    rw [lessenNeg (by simp only [szL]; omega)]
  · have hw : IntKind.i64.wrap (y2.2.1 + 1) = y2.2.1 + 1 := wrapId (by have := good_len hp.1; simp only [maxLen] at this; omega)
    have h7 : ¬ lessen y2.1 (szSlot (l.getD y2.2.1.toNat default)) < 0 := by omega
    rw [lessen_lt (by omega)] at h7
    rw [hw, toNat1 (by omega), sum_take szSlot (by omega), lessen_ge (by omega)]
    exact ⟨⟨by omega, by omega, by omega, by omega⟩, by omega⟩
  · have e : l.take y2.2.1.toNat = l := List.take_of_length_le (by omega)
    rw [e] at i2
    have hz : ((szL szSlot l : Nat) : Int) = l.length + (l.map szSlot).sum := by simp only [szL]; omega
    rw [lessen_ge (by omega)]
    show y2.1 = n - ((szL szSlot l : Nat) : Int)
    omega)
def E105 := E104.add 60 fszSlotS
theorem E105ok : EOk Tryz.prog E105 := E104ok.add k60_104
theorem k86_105 : ftoSlotS.ok Tryz.prog 86 := Fct.of (S := ftoSlotS) (L := fun ⟨l, _⟩ => fun | 3 => some (LtoS .slot l) | _ => none) (kp := [0,2,3,4,11,1000011]) E105ok Tryz.func86 (by kernel_rfl) (by kernel_rfl) (by
  rintro ⟨(l : List SSlot), _⟩ hp
  refine ho (.ob ((↑l.length : Int) = (↑l.length : Int) ∧ (0 : Int) ≤ (↑l.length : Int) ∧ (96 : Int) * (↑l.length : Int) ≤ 140737488355328 ∧ (↑l.length : Int) ≤ 140737488355328) <| lpx (LtoS .slot l) ((0 : Int), (List.replicate (↑l.length : Int).toNat default, ())) fun (y2 : Int × List SSlot × PUnit) bk2 => .br (decide (y2.1 < (↑l.length : Int))) (.ob (inB y2.1 l.length) <| .cl ftoSlot (l.getD y2.1.toNat default, ()) fun z2 => .ob (inB y2.1 y2.2.1.length) <| .ob (y2.1.toNat < y2.2.1.length) <| .lt (List SSlot) (y2.2.1.modify y2.1.toNat fun z => z2.1) fun z3 => .ob (l = l) <| .ob (bk2 (w1 y2.1, (z3, ()))) <| .ok) (.lf ftoSlotS (y2.2.1, ()))) ?_
  refine ob_i ?_ fun o1 => lpx_i ?_ fun (y2 : Int × List SSlot × PUnit) i2 => br_i (fun h3 => ob_i ?_ fun o4 => cl_i ?_ fun o5 => (ob_i ?_ fun o6 => ob_i ?_ fun o7 => lt_i (ob_i rfl fun _ => ob_i ?_ fun o8 => trivial))) (fun h3 => lfY ?_)
  all_goals try simp only [LtoS, ftoSlot, ftoSlotS, std, Nat.reduceAdd] at *
  · have := szL_len szSlot l; omega
  · exact ⟨by omega, by omega, by simp⟩
  · omega
  · have hs := sum_take_le szSlot l (y2.1.toNat + 1)
    rw [sum_take szSlot (by omega)] at hs
    simp only [szL] at hp; omega
  · rw [i2.2.2]; simp; omega
  · rw [i2.2.2]; simp; omega
  · have hw : IntKind.i64.wrap (y2.1 + 1) = y2.1 + 1 := wrapId (by have := szL_len szSlot l; omega)
    rw [hw, toNat1 (by omega), i2.2.2]
    refine ⟨⟨by omega, by omega, ?_⟩, by omega⟩
    rw [show l.length - y2.1.toNat = (l.length - (y2.1.toNat + 1)) + 1 from by omega, List.replicate_succ, mod_at (by simp; omega), take_succ (by omega)]
    simp
  · have e : l.take y2.1.toNat = l := List.take_of_length_le (by omega)
    rw [i2.2.2, e]; simp; omega)
def E106 := E105.add 86 ftoSlotS
theorem E106ok : EOk Tryz.prog E106 := E105ok.add k86_105
theorem k118_106 : feqSlotS.ok Tryz.prog 118 := Fct.of (S := feqSlotS) (L := fun ⟨l, m, _⟩ => fun | 4 => some (LeqS .slot l m) | _ => none) (kp := [0,1,4,5,10,14,26,1000010,1000014,1000026]) E106ok Tryz.func118 (by kernel_rfl) (by kernel_rfl) (by
  rintro ⟨(l : List SSlot), (m : List SSlot), _⟩ hp
  refine ho (.br ((↑l.length : Int) != (↑m.length : Int)) (.lf feqSlotS (false, ())) (lpx (LeqS .slot l m) ((0 : Int), ()) fun (y2 : Int × PUnit) bk2 => .br (decide (y2.1 < (↑l.length : Int))) (.ob (inB y2.1 l.length) <| .ob (inB y2.1 m.length) <| .cl feqSlot (l.getD y2.1.toNat default, m.getD y2.1.toNat default, ()) fun z2 => .br (!z2.1) (.lf feqSlotS (false, ())) (.ob (l = l) <| .ob (m = m) <| .ob (bk2 (w1 y2.1, ())) <| .ok)) (.lf feqSlotS (true, ())))) ?_
  refine br_i (fun h1 => lfY ?_) (fun h1 => lpx_i ?_ fun (y2 : Int × PUnit) i2 => br_i (fun h3 => ob_i ?_ fun o4 => ob_i ?_ fun o5 => cl_i trivial fun _ => (br_i (fun h6 => lfY ?_) (fun h6 => ob_i rfl fun _ => ob_i rfl fun _ => ob_i ?_ fun o7 => trivial))) (fun h3 => lfY ?_))
  all_goals try simp only [LeqS, feqSlot, feqSlotS, std, Nat.reduceAdd] at *
  · rw [decide_eq_false]; rintro rfl; omega
  · exact ⟨by omega, by omega, by simp⟩
  · omega
  · omega
  · rw [decide_eq_false]; rintro rfl; exact absurd rfl h6
  · have hw : IntKind.i64.wrap (y2.1 + 1) = y2.1 + 1 := wrapId (by omega)
    rw [hw, toNat1 (by omega)]
    refine ⟨⟨by omega, by omega, ?_⟩, by omega⟩
    rw [take_succ (by omega), take_succ (by omega), i2.2.2, h6]
  · have e : l.take y2.1.toNat = l := List.take_of_length_le (by omega)
    have e2 : m.take y2.1.toNat = m := List.take_of_length_le (by omega)
    rw [decide_eq_true]; rw [← e, ← e2, i2.2.2])
def E107 := E106.add 118 feqSlotS
theorem E107ok : EOk Tryz.prog E107 := E106ok.add k118_106
theorem k129_107 : fmarkSlotS.ok Tryz.prog 129 := MS.of (S := fmarkSlotS) (L := fun l k => fun | 2 => some (LmkS .slot mkSlot l k) | _ => none) (kp := [0,1,4,5,9,1000009]) (kl := [0]) E107ok Tryz.func129 (by kernel_rfl) (by kernel_rfl) (by
  rintro (l : List SSlot) (k : Int) hp
  refine ho (lpx (LmkS .slot mkSlot l k) (k, ((0 : Int), (l, ()))) fun (y1 : Int × Int × List SSlot × PUnit) bk1 => .br (decide (y1.2.1 < (↑y1.2.2.1.length : Int))) (.ob (inB y1.2.1 y1.2.2.1.length) <| .ob (y1.2.1.toNat < y1.2.2.1.length) <| .lt (List SSlot) (y1.2.2.1.modify y1.2.1.toNat fun z => (⟨y1.1, z.to, z.digest, z.node, z.done, z.code, z.body⟩ : SSlot)) fun z2 => .cl fmarkText (w1 y1.1, ()) fun z3 => .ob (inB y1.2.1 z2.length) <| .ob (y1.2.1.toNat < z2.length) <| .lt (List SSlot) (z2.modify y1.2.1.toNat fun z => (⟨z.mode, (⟨z3.1, z.to.path⟩ : SAddr), z.digest, z.node, z.done, z.code, z.body⟩ : SSlot)) fun z4 => .cl fmarkText (w1 (w1 y1.1), ()) fun z5 => .ob (inB y1.2.1 z4.length) <| .ob (y1.2.1.toNat < z4.length) <| .lt (List SSlot) (z4.modify y1.2.1.toNat fun z => (⟨z.mode, (⟨z.to.host, z5.1⟩ : SAddr), z.digest, z.node, z.done, z.code, z.body⟩ : SSlot)) fun z6 => .cl fmarkText (w1 (w1 (w1 y1.1)), ()) fun z7 => .ob (inB y1.2.1 z6.length) <| .ob (y1.2.1.toNat < z6.length) <| .lt (List SSlot) (z6.modify y1.2.1.toNat fun z => (⟨z.mode, z.to, z7.1, z.node, z.done, z.code, z.body⟩ : SSlot)) fun z8 => .ob (inB y1.2.1 z8.length) <| .ob (y1.2.1.toNat < z8.length) <| .lt (List SSlot) (z8.modify y1.2.1.toNat fun z => (⟨z.mode, z.to, z.digest, w1 (w1 (w1 (w1 y1.1))), z.done, z.code, z.body⟩ : SSlot)) fun z9 => .ob ((3 : Int) ≠ (0 : Int)) <| .ob (inB y1.2.1 z9.length) <| .ob (y1.2.1.toNat < z9.length) <| .lt (List SSlot) (z9.modify y1.2.1.toNat fun z => (⟨z.mode, z.to, z.digest, z.node, (w1 (w1 (w1 (w1 (w1 y1.1))))).tmod (3 : Int) == (0 : Int), z.code, z.body⟩ : SSlot)) fun z10 => .ob (inB y1.2.1 z10.length) <| .ob (y1.2.1.toNat < z10.length) <| .lt (List SSlot) (z10.modify y1.2.1.toNat fun z => (⟨z.mode, z.to, z.digest, z.node, z.done, w1 (w1 (w1 (w1 (w1 (w1 y1.1))))), z.body⟩ : SSlot)) fun z11 => .cl fmarkText (w1 (w1 (w1 (w1 (w1 (w1 (w1 y1.1)))))), ()) fun z12 => .ob (inB y1.2.1 z11.length) <| .ob (y1.2.1.toNat < z11.length) <| .lt (List SSlot) (z11.modify y1.2.1.toNat fun z => (⟨z.mode, z.to, z.digest, z.node, z.done, z.code, z12.1⟩ : SSlot)) fun z13 => .ob (Value.int IntKind.i64 0 = Value.int IntKind.i64 (0 : Int)) <| .ob (bk1 (w1 (w1 (w1 (w1 (w1 (w1 (w1 (w1 y1.1))))))), (w1 y1.2.1, (z13, ())))) <| .ok) (.leaf (.one false [vi (y1.1)]) [] [(0, ⟨Ty.slot, y1.2.2.1⟩)])) ?_
  refine lpx_i ?_ fun (y1 : Int × Int × List SSlot × PUnit) i1 => br_i (fun h2 => ob_i ?_ fun o3 => ob_i ?_ fun o4 => lt_i (cl_i ?_ fun o5 => (ob_i ?_ fun o6 => ob_i ?_ fun o7 => lt_i (cl_i ?_ fun o8 => (ob_i ?_ fun o9 => ob_i ?_ fun o10 => lt_i (cl_i ?_ fun o11 => (ob_i ?_ fun o12 => ob_i ?_ fun o13 => lt_i (ob_i ?_ fun o14 => ob_i ?_ fun o15 => lt_i (ob_i ?_ fun o16 => ob_i ?_ fun o17 => ob_i ?_ fun o18 => lt_i (ob_i ?_ fun o19 => ob_i ?_ fun o20 => lt_i (cl_i ?_ fun o21 => (ob_i ?_ fun o22 => ob_i ?_ fun o23 => lt_i (ob_i rfl fun _ => ob_i ?_ fun o24 => trivial))))))))))))) (fun h2 => MS.leaf ?_)
  all_goals try simp only [stdW] at *
  · exact ⟨by simp, by simp, by simp [markL], by simp [markL]⟩
  all_goals
   have hp1 : 0 ≤ k := hp.1
   have hp2 : (markL mkSlot l k).2 ≤ 4000000000000000000 := hp.2
   have i3 : 0 ≤ y1.2.1 ∧ y1.2.1 ≤ l.length ∧ y1.1 = (markL mkSlot (l.take y1.2.1.toNat) k).2 ∧ y1.2.2.1 = (markL mkSlot (l.take y1.2.1.toNat) k).1 ++ l.drop y1.2.1.toNat := i1
   have hcnt := markL_cnt (f := mkSlot) (fun x k => by simp only [mkSlot]; omega) l k
   have hx : y1.2.2.1.length = l.length := by rw [i3.2.2.2, List.length_append, markL_len, List.length_take, List.length_drop]; omega
  all_goals simp only [decide_eq_true_eq, decide_eq_false_iff_not, hx] at h2
  all_goals
   clear i1
   try have hlt : y1.2.1.toNat < l.length := by omega
   try have ht := markL_take (f := mkSlot) hlt k
   try have hle := (markL_take_le mkSlot_mono l (y1.2.1.toNat + 1) k).2
   try have hl0 := (markL_take_le mkSlot_mono l y1.2.1.toNat k).1
   try rw [ht] at hle
   try rw [← i3.2.2.1] at hle hl0 ht
   try simp only [mkSlot] at hle
  all_goals first | decide | (simp only [List.length_modify, hx]; omega) | (refine ⟨?_, ?_⟩ <;> (try simp (discharger := omega) only [wrapId']) <;> omega) | skip
  · try clear o3 o4 o5
    simp (discharger := omega) only [wrapId', fmarkText]
    have hA : (markL mkSlot (l.take y1.2.1.toNat) k).1.length = y1.2.1.toNat := by rw [markL_len, List.length_take]; omega
    refine ⟨⟨by omega, by omega, ?_, ?_⟩, ?_⟩
    · rw [toNat1 (by omega), ht]
      first | done | (simp only [mkSlot]; done) | (simp only [mkSlot]; omega)
    · rw [toNat1 (by omega), ht, i3.2.2.2, drop_cons hlt]
      simp only [mod_at hA, mkSlot, Int.add_assoc, Int.reduceAdd, List.append_assoc, List.cons_append, List.nil_append]
    · omega
  · refine MS.leafL (t := .slot) (fn := fun l k => markL mkSlot l k) ?_
    have e1 : l.take y1.2.1.toNat = l := List.take_of_length_le (by omega)
    have e2 : l.drop y1.2.1.toNat = [] := List.drop_of_length_le (by omega)
    rw [i3.2.2.2, i3.2.2.1, e1, e2, List.append_nil])
def E108 := E107.addM 129 fmarkSlotS
theorem E108ok : EOk Tryz.prog E108 := E107ok.addM k129_107
theorem k139_108 : fheldSlotS.ok Tryz.prog 139 := Fct.of (S := fheldSlotS) (L := fun ⟨l, k, _⟩ => fun | 2 => some (LheS .slot mkSlot l k) | _ => none) (kp := [0,1,4,5,9,18,29,40,50,59,70,79,89,1000009,1000018,1000029,1000040,1000050,1000059,1000070,1000079,1000089]) E108ok Tryz.func139 (by kernel_rfl) (by kernel_rfl) (by
  rintro ⟨(l : List SSlot), (k : Int), _⟩ hp
  refine ho (lpx (LheS .slot mkSlot l k) (k, ((0 : Int), ())) fun (y1 : Int × Int × PUnit) bk1 => .br (decide (y1.2.1 < (↑l.length : Int))) (.ob (inB y1.2.1 l.length) <| .br ((l.getD y1.2.1.toNat default).mode != y1.1) (.lf fheldSlotS ((-1 : Int), ())) (.ob (inB y1.2.1 l.length) <| .cl fmarkText (w1 y1.1, ()) fun z2 => .br (!(l.getD y1.2.1.toNat default).to.host.toList == z2.1.toList) (.lf fheldSlotS ((-1 : Int), ())) (.ob (inB y1.2.1 l.length) <| .cl fmarkText (w1 (w1 y1.1), ()) fun z3 => .br (!(l.getD y1.2.1.toNat default).to.path.toList == z3.1.toList) (.lf fheldSlotS ((-1 : Int), ())) (.ob (inB y1.2.1 l.length) <| .cl fmarkText (w1 (w1 (w1 y1.1)), ()) fun z4 => .br (!(l.getD y1.2.1.toNat default).digest.toList == z4.1.toList) (.lf fheldSlotS ((-1 : Int), ())) (.ob (inB y1.2.1 l.length) <| .br ((l.getD y1.2.1.toNat default).node != w1 (w1 (w1 (w1 y1.1)))) (.lf fheldSlotS ((-1 : Int), ())) (.ob (inB y1.2.1 l.length) <| .ob ((3 : Int) ≠ (0 : Int)) <| .br (!(l.getD y1.2.1.toNat default).done == ((w1 (w1 (w1 (w1 (w1 y1.1))))).tmod (3 : Int) == (0 : Int))) (.lf fheldSlotS ((-1 : Int), ())) (.ob (inB y1.2.1 l.length) <| .br ((l.getD y1.2.1.toNat default).code != w1 (w1 (w1 (w1 (w1 (w1 y1.1)))))) (.lf fheldSlotS ((-1 : Int), ())) (.ob (inB y1.2.1 l.length) <| .cl fmarkText (w1 (w1 (w1 (w1 (w1 (w1 (w1 y1.1)))))), ()) fun z5 => .br (!(l.getD y1.2.1.toNat default).body.toList == z5.1.toList) (.lf fheldSlotS ((-1 : Int), ())) (.ob (l = l) <| .ob (bk1 (w1 (w1 (w1 (w1 (w1 (w1 (w1 (w1 y1.1))))))), (w1 y1.2.1, ()))) <| .ok))))))))) (.lf fheldSlotS (y1.1, ()))) ?_
  refine lpx_i ?_ fun (y1 : Int × Int × PUnit) i1 => br_i (fun h2 => ob_i ?_ fun o3 => br_i (fun h4 => lfY ?_) (fun h4 => ob_i ?_ fun o5 => cl_i ?_ fun o6 => (br_i (fun h7 => lfY ?_) (fun h7 => ob_i ?_ fun o8 => cl_i ?_ fun o9 => (br_i (fun h10 => lfY ?_) (fun h10 => ob_i ?_ fun o11 => cl_i ?_ fun o12 => (br_i (fun h13 => lfY ?_) (fun h13 => ob_i ?_ fun o14 => br_i (fun h15 => lfY ?_) (fun h15 => ob_i ?_ fun o16 => ob_i ?_ fun o17 => br_i (fun h18 => lfY ?_) (fun h18 => ob_i ?_ fun o19 => br_i (fun h20 => lfY ?_) (fun h20 => ob_i ?_ fun o21 => cl_i ?_ fun o22 => (br_i (fun h23 => lfY ?_) (fun h23 => ob_i rfl fun _ => ob_i ?_ fun o24 => trivial))))))))))))) (fun h2 => lfY ?_)
  all_goals try simp only [stdW] at *
  · exact ⟨by simp, by simp, by simp [markL]⟩
  all_goals
   have hp1 : 0 ≤ k := hp.1
   have hp2 : (markL mkSlot l k).2 ≤ 4000000000000000000 := hp.2.1
   have hp3 : (markL mkSlot l k).1 = l := hp.2.2
   have i3 : 0 ≤ y1.2.1 ∧ y1.2.1 ≤ l.length ∧ y1.1 = (markL mkSlot (l.take y1.2.1.toNat) k).2 := i1
   have hcnt := markL_cnt (f := mkSlot) (fun x k => by simp only [mkSlot]; omega) l k
  all_goals simp only [decide_eq_true_eq, decide_eq_false_iff_not] at h2
  all_goals
   clear i1 hp
   try have hlt : y1.2.1.toNat < l.length := by omega
   try have ht := markL_take (f := mkSlot) hlt k
   try have hle := (markL_take_le mkSlot_mono l (y1.2.1.toNat + 1) k).2
   try have hl0 := (markL_take_le mkSlot_mono l y1.2.1.toNat k).1
   try have heq := markL_held hp3 hlt
   try rw [ht] at hle
   try rw [← i3.2.2] at hle hl0 ht heq
   try simp only [mkSlot] at hle heq
  all_goals first | decide | omega | (refine ⟨?_, ?_⟩ <;> (try simp (discharger := omega) only [wrapId']) <;> omega) | skip
  all_goals try (exfalso; clear ht; generalize l.getD y1.2.1.toNat default = c at *; subst heq; simp (discharger := omega) [wrapId', fmarkText, Int.add_assoc] at *; done)
  · simp (discharger := omega) only [wrapId']
    refine ⟨⟨by omega, by omega, ?_⟩, ?_⟩
    · rw [toNat1 (by omega), ht]
      first | done | (simp only [mkSlot]; done) | (simp only [mkSlot]; omega)
    · omega
  · have e1 : l.take y1.2.1.toNat = l := List.take_of_length_le (by omega)
    rw [e1] at i3
    show (y1.1, ()) = ((markL mkSlot l k).2, ())
    rw [i3.2.2])
def E109 := E108.add 139 fheldSlotS
theorem E109ok : EOk Tryz.prog E109 := E108ok.add k139_108
theorem k149_109 : fszModule.ok Tryz.prog 149 := Fct.o [1,2,4,10,17,1000010,1000017] E109ok Tryz.func149 (by
  rintro ⟨(x : SModule), (n : Int), _⟩ hp
  refine ho (.cl fszAddr (x.to, n, ()) fun z2 => .br (decide (z2.1 < 0)) (.lf fszModule ((-1 : Int), ())) (.br (decide (wr (z2.1 - (↑x.body.size : Int)) < 0)) (.lf fszModule ((-1 : Int), ())) (.lf fszModule (wr (z2.1 - (↑x.body.size : Int)), ())))) ?_
  refine cl_i ?_ fun o1 => (br_i (fun h2 => lfY ?_) (fun h2 => br_i (fun h3 => lfY ?_) (fun h3 => lfY ?_)))
  all_goals try simp only [fszAddr, fszModule, std, Nat.reduceAdd, Sh.good, Sh.fc, enc, List.forall_mem_cons, List.not_mem_nil, false_implies, implies_true, goodC, maxLen] at *
  all_goals grind [wrapId', lessen, szAddr, szModule])
def E110 := E109.add 149 fszModule
theorem E110ok : EOk Tryz.prog E110 := E109ok.add k149_109
theorem k172_110 : ftoModule.ok Tryz.prog 172 := Fct.o [1,2,3] E110ok Tryz.func172 (by
  rintro ⟨(x : SModule), _⟩ hp
  refine ho (.cl ftoAddr (x.to, ()) fun z2 => .lf ftoModule (⟨z2.1, x.done, x.code, x.body⟩, ())) ?_
  refine cl_i ?_ fun o1 => (lfY ?_)
  all_goals try simp only [ftoAddr, ftoModule, std, Nat.reduceAdd] at *
  all_goals first | trivial | rfl | grind [szAddr, szModule])
def E111 := E110.add 172 ftoModule
theorem E111ok : EOk Tryz.prog E111 := E110ok.add k172_110
theorem k200_111 : feqModule.ok Tryz.prog 200 := Fct.o [2,3,4,10,15,20,25,1000010,1000015,1000020,1000025] E111ok Tryz.func200 (by
  rintro ⟨(x : SModule), (y : SModule), _⟩ hp
  refine ho (.cl feqAddr (x.to, y.to, ()) fun z2 => .br (!z2.1) (.lf feqModule (false, ())) (.br (!x.done == y.done) (.lf feqModule (false, ())) (.br (x.code != y.code) (.lf feqModule (false, ())) (.br (!x.body.toList == y.body.toList) (.lf feqModule (false, ())) (.lf feqModule (true, ())))))) ?_
  refine cl_i trivial fun _ => (br_i (fun h1 => lfY ?_) (fun h1 => br_i (fun h2 => lfY ?_) (fun h2 => br_i (fun h3 => lfY ?_) (fun h3 => br_i (fun h4 => lfY ?_) (fun h4 => lfY ?_)))))
  all_goals try simp only [feqAddr, feqModule, std, Nat.reduceAdd] at *
  all_goals first | trivial | (cases x; cases y; simp_all; done) | (simp only [szAddr, szModule] at *; omega) | grind [szAddr, szModule])
def E112 := E111.add 200 feqModule
theorem E112ok : EOk Tryz.prog E112 := E111ok.add k200_111
theorem k61_112 : fszModuleS.ok Tryz.prog 61 := Fct.of (S := fszModuleS) (L := fun ⟨l, n, _⟩ => fun | 5 => some (LszS .module szModule l n) | _ => none) (kp := [0,1,4,5,11,15,25,1000011,1000015,1000025]) E112ok Tryz.func61 (by kernel_rfl) (by kernel_rfl) (by
  rintro ⟨(l : List SModule), (n : Int), _⟩ hp
  refine ho (.br (decide (wr (n - (↑l.length : Int)) < 0)) (.lf fszModuleS ((-1 : Int), ())) (lpx (LszS .module szModule l n) (wr (n - (↑l.length : Int)), ((0 : Int), ())) fun (y2 : Int × Int × PUnit) bk2 => .br (decide (y2.2.1 < (↑l.length : Int))) (.ob (inB y2.2.1 l.length) <| .cl fszModule (l.getD y2.2.1.toNat default, y2.1, ()) fun z2 => .br (decide (z2.1 < 0)) (.lf fszModuleS ((-1 : Int), ())) (.ob (l = l) <| .ob (bk2 (z2.1, (w1 y2.2.1, ()))) <| .ok)) (.lf fszModuleS (y2.1, ())))) ?_
  refine br_i (fun h1 => lfY ?_) (fun h1 => lpx_i ?_ fun (y2 : Int × Int × PUnit) i2 => br_i (fun h3 => ob_i ?_ fun o4 => cl_i ?_ fun o5 => (br_i (fun h6 => lfY ?_) (fun h6 => ob_i rfl fun _ => ob_i ?_ fun o7 => trivial))) (fun h3 => lfY ?_))
  all_goals
   try simp only [std0] at *
   try simp only [LszS, fszModule, fszModuleS, std, Nat.reduceAdd] at *
  · have := good_len hp.1; simp only [maxLen] at this; rw [wrapId (by omega)] at h1
    rw [lessenNeg (by simp only [szL]; omega)]
  · have := good_len hp.1; simp only [maxLen] at this
    rw [wrapId (by omega)] at h1 ⊢
    exact ⟨by omega, by omega, h1, by simp⟩
  · omega
  · exact ⟨good_getD hp.1 (by omega), by omega, by omega⟩
  · have hs := sum_take_le szModule l (y2.2.1.toNat + 1)
    rw [sum_take szModule (by omega)] at hs
    rw [lessen_lt (by omega)] at h6
    rw [lessenNeg (by simp only [szL]; omega)]
  · have hw : IntKind.i64.wrap (y2.2.1 + 1) = y2.2.1 + 1 := wrapId (by have := good_len hp.1; simp only [maxLen] at this; omega)
    have h7 : ¬ lessen y2.1 (szModule (l.getD y2.2.1.toNat default)) < 0 := by omega
    rw [lessen_lt (by omega)] at h7
    rw [hw, toNat1 (by omega), sum_take szModule (by omega), lessen_ge (by omega)]
    exact ⟨⟨by omega, by omega, by omega, by omega⟩, by omega⟩
  · have e : l.take y2.2.1.toNat = l := List.take_of_length_le (by omega)
    rw [e] at i2
    have hz : ((szL szModule l : Nat) : Int) = l.length + (l.map szModule).sum := by simp only [szL]; omega
    rw [lessen_ge (by omega)]
    show y2.1 = n - ((szL szModule l : Nat) : Int)
    omega)
def E113 := E112.add 61 fszModuleS
theorem E113ok : EOk Tryz.prog E113 := E112ok.add k61_112
theorem k87_113 : ftoModuleS.ok Tryz.prog 87 := Fct.of (S := ftoModuleS) (L := fun ⟨l, _⟩ => fun | 3 => some (LtoS .module l) | _ => none) (kp := [0,2,3,4,11,1000011]) E113ok Tryz.func87 (by kernel_rfl) (by kernel_rfl) (by
  rintro ⟨(l : List SModule), _⟩ hp
  refine ho (.ob ((↑l.length : Int) = (↑l.length : Int) ∧ (0 : Int) ≤ (↑l.length : Int) ∧ (64 : Int) * (↑l.length : Int) ≤ 140737488355328 ∧ (↑l.length : Int) ≤ 140737488355328) <| lpx (LtoS .module l) ((0 : Int), (List.replicate (↑l.length : Int).toNat default, ())) fun (y2 : Int × List SModule × PUnit) bk2 => .br (decide (y2.1 < (↑l.length : Int))) (.ob (inB y2.1 l.length) <| .cl ftoModule (l.getD y2.1.toNat default, ()) fun z2 => .ob (inB y2.1 y2.2.1.length) <| .ob (y2.1.toNat < y2.2.1.length) <| .lt (List SModule) (y2.2.1.modify y2.1.toNat fun z => z2.1) fun z3 => .ob (l = l) <| .ob (bk2 (w1 y2.1, (z3, ()))) <| .ok) (.lf ftoModuleS (y2.2.1, ()))) ?_
  refine ob_i ?_ fun o1 => lpx_i ?_ fun (y2 : Int × List SModule × PUnit) i2 => br_i (fun h3 => ob_i ?_ fun o4 => cl_i ?_ fun o5 => (ob_i ?_ fun o6 => ob_i ?_ fun o7 => lt_i (ob_i rfl fun _ => ob_i ?_ fun o8 => trivial))) (fun h3 => lfY ?_)
  all_goals try simp only [LtoS, ftoModule, ftoModuleS, std, Nat.reduceAdd] at *
  · have := szL_len szModule l; omega
  · exact ⟨by omega, by omega, by simp⟩
  · omega
  · have hs := sum_take_le szModule l (y2.1.toNat + 1)
    rw [sum_take szModule (by omega)] at hs
    simp only [szL] at hp; omega
  · rw [i2.2.2]; simp; omega
  · rw [i2.2.2]; simp; omega
  · have hw : IntKind.i64.wrap (y2.1 + 1) = y2.1 + 1 := wrapId (by have := szL_len szModule l; omega)
    rw [hw, toNat1 (by omega), i2.2.2]
    refine ⟨⟨by omega, by omega, ?_⟩, by omega⟩
    rw [show l.length - y2.1.toNat = (l.length - (y2.1.toNat + 1)) + 1 from by omega, List.replicate_succ, mod_at (by simp; omega), take_succ (by omega)]
    simp
  · have e : l.take y2.1.toNat = l := List.take_of_length_le (by omega)
    rw [i2.2.2, e]; simp; omega)
def E114 := E113.add 87 ftoModuleS
theorem E114ok : EOk Tryz.prog E114 := E113ok.add k87_113
theorem k119_114 : feqModuleS.ok Tryz.prog 119 := Fct.of (S := feqModuleS) (L := fun ⟨l, m, _⟩ => fun | 4 => some (LeqS .module l m) | _ => none) (kp := [0,1,4,5,10,14,26,1000010,1000014,1000026]) E114ok Tryz.func119 (by kernel_rfl) (by kernel_rfl) (by
  rintro ⟨(l : List SModule), (m : List SModule), _⟩ hp
  refine ho (.br ((↑l.length : Int) != (↑m.length : Int)) (.lf feqModuleS (false, ())) (lpx (LeqS .module l m) ((0 : Int), ()) fun (y2 : Int × PUnit) bk2 => .br (decide (y2.1 < (↑l.length : Int))) (.ob (inB y2.1 l.length) <| .ob (inB y2.1 m.length) <| .cl feqModule (l.getD y2.1.toNat default, m.getD y2.1.toNat default, ()) fun z2 => .br (!z2.1) (.lf feqModuleS (false, ())) (.ob (l = l) <| .ob (m = m) <| .ob (bk2 (w1 y2.1, ())) <| .ok)) (.lf feqModuleS (true, ())))) ?_
  refine br_i (fun h1 => lfY ?_) (fun h1 => lpx_i ?_ fun (y2 : Int × PUnit) i2 => br_i (fun h3 => ob_i ?_ fun o4 => ob_i ?_ fun o5 => cl_i trivial fun _ => (br_i (fun h6 => lfY ?_) (fun h6 => ob_i rfl fun _ => ob_i rfl fun _ => ob_i ?_ fun o7 => trivial))) (fun h3 => lfY ?_))
  all_goals try simp only [LeqS, feqModule, feqModuleS, std, Nat.reduceAdd] at *
  · rw [decide_eq_false]; rintro rfl; omega
  · exact ⟨by omega, by omega, by simp⟩
  · omega
  · omega
  · rw [decide_eq_false]; rintro rfl; exact absurd rfl h6
  · have hw : IntKind.i64.wrap (y2.1 + 1) = y2.1 + 1 := wrapId (by omega)
    rw [hw, toNat1 (by omega)]
    refine ⟨⟨by omega, by omega, ?_⟩, by omega⟩
    rw [take_succ (by omega), take_succ (by omega), i2.2.2, h6]
  · have e : l.take y2.1.toNat = l := List.take_of_length_le (by omega)
    have e2 : m.take y2.1.toNat = m := List.take_of_length_le (by omega)
    rw [decide_eq_true]; rw [← e, ← e2, i2.2.2])
def E115 := E114.add 119 feqModuleS
theorem E115ok : EOk Tryz.prog E115 := E114ok.add k119_114
theorem k130_115 : fmarkModuleS.ok Tryz.prog 130 := MS.of (S := fmarkModuleS) (L := fun l k => fun | 2 => some (LmkS .module mkModule l k) | _ => none) (kp := [0,1,4,5,9,1000009]) (kl := [0]) E115ok Tryz.func130 (by kernel_rfl) (by kernel_rfl) (by
  rintro (l : List SModule) (k : Int) hp
  refine ho (lpx (LmkS .module mkModule l k) (k, ((0 : Int), (l, ()))) fun (y1 : Int × Int × List SModule × PUnit) bk1 => .br (decide (y1.2.1 < (↑y1.2.2.1.length : Int))) (.cl fmarkText (y1.1, ()) fun z2 => .ob (inB y1.2.1 y1.2.2.1.length) <| .ob (y1.2.1.toNat < y1.2.2.1.length) <| .lt (List SModule) (y1.2.2.1.modify y1.2.1.toNat fun z => (⟨(⟨z2.1, z.to.path⟩ : SAddr), z.done, z.code, z.body⟩ : SModule)) fun z3 => .cl fmarkText (w1 y1.1, ()) fun z4 => .ob (inB y1.2.1 z3.length) <| .ob (y1.2.1.toNat < z3.length) <| .lt (List SModule) (z3.modify y1.2.1.toNat fun z => (⟨(⟨z.to.host, z4.1⟩ : SAddr), z.done, z.code, z.body⟩ : SModule)) fun z5 => .ob ((3 : Int) ≠ (0 : Int)) <| .ob (inB y1.2.1 z5.length) <| .ob (y1.2.1.toNat < z5.length) <| .lt (List SModule) (z5.modify y1.2.1.toNat fun z => (⟨z.to, (w1 (w1 y1.1)).tmod (3 : Int) == (0 : Int), z.code, z.body⟩ : SModule)) fun z6 => .ob (inB y1.2.1 z6.length) <| .ob (y1.2.1.toNat < z6.length) <| .lt (List SModule) (z6.modify y1.2.1.toNat fun z => (⟨z.to, z.done, w1 (w1 (w1 y1.1)), z.body⟩ : SModule)) fun z7 => .cl fmarkText (w1 (w1 (w1 (w1 y1.1))), ()) fun z8 => .ob (inB y1.2.1 z7.length) <| .ob (y1.2.1.toNat < z7.length) <| .lt (List SModule) (z7.modify y1.2.1.toNat fun z => (⟨z.to, z.done, z.code, z8.1⟩ : SModule)) fun z9 => .ob (Value.int IntKind.i64 0 = Value.int IntKind.i64 (0 : Int)) <| .ob (bk1 (w1 (w1 (w1 (w1 (w1 y1.1)))), (w1 y1.2.1, (z9, ())))) <| .ok) (.leaf (.one false [vi (y1.1)]) [] [(0, ⟨Ty.module, y1.2.2.1⟩)])) ?_
  refine lpx_i ?_ fun (y1 : Int × Int × List SModule × PUnit) i1 => br_i (fun h2 => cl_i ?_ fun o3 => (ob_i ?_ fun o4 => ob_i ?_ fun o5 => lt_i (cl_i ?_ fun o6 => (ob_i ?_ fun o7 => ob_i ?_ fun o8 => lt_i (ob_i ?_ fun o9 => ob_i ?_ fun o10 => ob_i ?_ fun o11 => lt_i (ob_i ?_ fun o12 => ob_i ?_ fun o13 => lt_i (cl_i ?_ fun o14 => (ob_i ?_ fun o15 => ob_i ?_ fun o16 => lt_i (ob_i rfl fun _ => ob_i ?_ fun o17 => trivial))))))))) (fun h2 => MS.leaf ?_)
  all_goals try simp only [stdW] at *
  · exact ⟨by simp, by simp, by simp [markL], by simp [markL]⟩
  all_goals
   have hp1 : 0 ≤ k := hp.1
   have hp2 : (markL mkModule l k).2 ≤ 4000000000000000000 := hp.2
   have i3 : 0 ≤ y1.2.1 ∧ y1.2.1 ≤ l.length ∧ y1.1 = (markL mkModule (l.take y1.2.1.toNat) k).2 ∧ y1.2.2.1 = (markL mkModule (l.take y1.2.1.toNat) k).1 ++ l.drop y1.2.1.toNat := i1
   have hcnt := markL_cnt (f := mkModule) (fun x k => by simp only [mkModule]; omega) l k
   have hx : y1.2.2.1.length = l.length := by rw [i3.2.2.2, List.length_append, markL_len, List.length_take, List.length_drop]; omega
  all_goals simp only [decide_eq_true_eq, decide_eq_false_iff_not, hx] at h2
  all_goals
   clear i1
   try have hlt : y1.2.1.toNat < l.length := by omega
   try have ht := markL_take (f := mkModule) hlt k
   try have hle := (markL_take_le mkModule_mono l (y1.2.1.toNat + 1) k).2
   try have hl0 := (markL_take_le mkModule_mono l y1.2.1.toNat k).1
   try rw [ht] at hle
   try rw [← i3.2.2.1] at hle hl0 ht
   try simp only [mkModule] at hle
  all_goals first | decide | (simp only [List.length_modify, hx]; omega) | (refine ⟨?_, ?_⟩ <;> (try simp (discharger := omega) only [wrapId']) <;> omega) | skip
  · try clear o3 o4 o5
    simp (discharger := omega) only [wrapId', fmarkText]
    have hA : (markL mkModule (l.take y1.2.1.toNat) k).1.length = y1.2.1.toNat := by rw [markL_len, List.length_take]; omega
    refine ⟨⟨by omega, by omega, ?_, ?_⟩, ?_⟩
    · rw [toNat1 (by omega), ht]
      first | done | (simp only [mkModule]; done) | (simp only [mkModule]; omega)
    · rw [toNat1 (by omega), ht, i3.2.2.2, drop_cons hlt]
      simp only [mod_at hA, mkModule, Int.add_assoc, Int.reduceAdd, List.append_assoc, List.cons_append, List.nil_append]
    · omega
  · refine MS.leafL (t := .module) (fn := fun l k => markL mkModule l k) ?_
    have e1 : l.take y1.2.1.toNat = l := List.take_of_length_le (by omega)
    have e2 : l.drop y1.2.1.toNat = [] := List.drop_of_length_le (by omega)
    rw [i3.2.2.2, i3.2.2.1, e1, e2, List.append_nil])
def E116 := E115.addM 130 fmarkModuleS
theorem E116ok : EOk Tryz.prog E116 := E115ok.addM k130_115
theorem k140_116 : fheldModuleS.ok Tryz.prog 140 := Fct.of (S := fheldModuleS) (L := fun ⟨l, k, _⟩ => fun | 2 => some (LheS .module mkModule l k) | _ => none) (kp := [0,1,4,5,9,20,31,42,51,61,1000009,1000020,1000031,1000042,1000051,1000061]) E116ok Tryz.func140 (by kernel_rfl) (by kernel_rfl) (by
  rintro ⟨(l : List SModule), (k : Int), _⟩ hp
  refine ho (lpx (LheS .module mkModule l k) (k, ((0 : Int), ())) fun (y1 : Int × Int × PUnit) bk1 => .br (decide (y1.2.1 < (↑l.length : Int))) (.ob (inB y1.2.1 l.length) <| .cl fmarkText (y1.1, ()) fun z2 => .br (!(l.getD y1.2.1.toNat default).to.host.toList == z2.1.toList) (.lf fheldModuleS ((-1 : Int), ())) (.ob (inB y1.2.1 l.length) <| .cl fmarkText (w1 y1.1, ()) fun z3 => .br (!(l.getD y1.2.1.toNat default).to.path.toList == z3.1.toList) (.lf fheldModuleS ((-1 : Int), ())) (.ob (inB y1.2.1 l.length) <| .ob ((3 : Int) ≠ (0 : Int)) <| .br (!(l.getD y1.2.1.toNat default).done == ((w1 (w1 y1.1)).tmod (3 : Int) == (0 : Int))) (.lf fheldModuleS ((-1 : Int), ())) (.ob (inB y1.2.1 l.length) <| .br ((l.getD y1.2.1.toNat default).code != w1 (w1 (w1 y1.1))) (.lf fheldModuleS ((-1 : Int), ())) (.ob (inB y1.2.1 l.length) <| .cl fmarkText (w1 (w1 (w1 (w1 y1.1))), ()) fun z4 => .br (!(l.getD y1.2.1.toNat default).body.toList == z4.1.toList) (.lf fheldModuleS ((-1 : Int), ())) (.ob (l = l) <| .ob (bk1 (w1 (w1 (w1 (w1 (w1 y1.1)))), (w1 y1.2.1, ()))) <| .ok)))))) (.lf fheldModuleS (y1.1, ()))) ?_
  refine lpx_i ?_ fun (y1 : Int × Int × PUnit) i1 => br_i (fun h2 => ob_i ?_ fun o3 => cl_i ?_ fun o4 => (br_i (fun h5 => lfY ?_) (fun h5 => ob_i ?_ fun o6 => cl_i ?_ fun o7 => (br_i (fun h8 => lfY ?_) (fun h8 => ob_i ?_ fun o9 => ob_i ?_ fun o10 => br_i (fun h11 => lfY ?_) (fun h11 => ob_i ?_ fun o12 => br_i (fun h13 => lfY ?_) (fun h13 => ob_i ?_ fun o14 => cl_i ?_ fun o15 => (br_i (fun h16 => lfY ?_) (fun h16 => ob_i rfl fun _ => ob_i ?_ fun o17 => trivial))))))))) (fun h2 => lfY ?_)
  all_goals try simp only [stdW] at *
  · exact ⟨by simp, by simp, by simp [markL]⟩
  all_goals
   have hp1 : 0 ≤ k := hp.1
   have hp2 : (markL mkModule l k).2 ≤ 4000000000000000000 := hp.2.1
   have hp3 : (markL mkModule l k).1 = l := hp.2.2
   have i3 : 0 ≤ y1.2.1 ∧ y1.2.1 ≤ l.length ∧ y1.1 = (markL mkModule (l.take y1.2.1.toNat) k).2 := i1
   have hcnt := markL_cnt (f := mkModule) (fun x k => by simp only [mkModule]; omega) l k
  all_goals simp only [decide_eq_true_eq, decide_eq_false_iff_not] at h2
  all_goals
   clear i1 hp
   try have hlt : y1.2.1.toNat < l.length := by omega
   try have ht := markL_take (f := mkModule) hlt k
   try have hle := (markL_take_le mkModule_mono l (y1.2.1.toNat + 1) k).2
   try have hl0 := (markL_take_le mkModule_mono l y1.2.1.toNat k).1
   try have heq := markL_held hp3 hlt
   try rw [ht] at hle
   try rw [← i3.2.2] at hle hl0 ht heq
   try simp only [mkModule] at hle heq
  all_goals first | decide | omega | (refine ⟨?_, ?_⟩ <;> (try simp (discharger := omega) only [wrapId']) <;> omega) | skip
  all_goals try (exfalso; clear ht; generalize l.getD y1.2.1.toNat default = c at *; subst heq; simp (discharger := omega) [wrapId', fmarkText, Int.add_assoc] at *; done)
  · simp (discharger := omega) only [wrapId']
    refine ⟨⟨by omega, by omega, ?_⟩, ?_⟩
    · rw [toNat1 (by omega), ht]
      first | done | (simp only [mkModule]; done) | (simp only [mkModule]; omega)
    · omega
  · have e1 : l.take y1.2.1.toNat = l := List.take_of_length_le (by omega)
    rw [e1] at i3
    show (y1.1, ()) = ((markL mkModule l k).2, ())
    rw [i3.2.2])
def E117 := E116.add 140 fheldModuleS
theorem E117ok : EOk Tryz.prog E117 := E116ok.add k140_116
theorem k12_117 : fszPage.ok Tryz.prog 12 := Fct.o [1,2,4,10,16,22,28,34,40,46,52,58,64,1000010,1000016,1000022,1000028,1000034,1000040,1000046,1000052,1000058,1000064] E117ok Tryz.func12 (by
  rintro ⟨(x : SPage), (n : Int), _⟩ hp
  refine ho (.cl fszAddr (x.addr, n, ()) fun z2 => .br (decide (z2.1 < 0)) (.lf fszPage ((-1 : Int), ())) (.cl fszPolicy (x.policy, z2.1, ()) fun z3 => .br (decide (z3.1 < 0)) (.lf fszPage ((-1 : Int), ())) (.cl fszTokenizer (x.tok, z3.1, ()) fun z4 => .br (decide (z4.1 < 0)) (.lf fszPage ((-1 : Int), ())) (.cl fszTokenS (x.queue, z4.1, ()) fun z5 => .br (decide (z5.1 < 0)) (.lf fszPage ((-1 : Int), ())) (.cl fszBuilder (x.builder, z5.1, ()) fun z6 => .br (decide (z6.1 < 0)) (.lf fszPage ((-1 : Int), ())) (.cl fszSlotS (x.slots, z6.1, ()) fun z7 => .br (decide (z7.1 < 0)) (.lf fszPage ((-1 : Int), ())) (.cl fszModuleS (x.mods, z7.1, ()) fun z8 => .br (decide (z8.1 < 0)) (.lf fszPage ((-1 : Int), ())) (.cl fszAddrS (x.entries, z8.1, ()) fun z9 => .br (decide (z9.1 < 0)) (.lf fszPage ((-1 : Int), ())) (.cl fszAddrS (x.ran, z9.1, ()) fun z10 => .br (decide (z10.1 < 0)) (.lf fszPage ((-1 : Int), ())) (.cl fszStringS (x.log, z10.1, ()) fun z11 => .br (decide (z11.1 < 0)) (.lf fszPage ((-1 : Int), ())) (.lf fszPage (z11.1, ())))))))))))) ?_
  refine cl_i ?_ fun o1 => (br_i (fun h2 => lfY ?_) (fun h2 => cl_i ?_ fun o3 => (br_i (fun h4 => lfY ?_) (fun h4 => cl_i ?_ fun o5 => (br_i (fun h6 => lfY ?_) (fun h6 => cl_i ?_ fun o7 => (br_i (fun h8 => lfY ?_) (fun h8 => cl_i ?_ fun o9 => (br_i (fun h10 => lfY ?_) (fun h10 => cl_i ?_ fun o11 => (br_i (fun h12 => lfY ?_) (fun h12 => cl_i ?_ fun o13 => (br_i (fun h14 => lfY ?_) (fun h14 => cl_i ?_ fun o15 => (br_i (fun h16 => lfY ?_) (fun h16 => cl_i ?_ fun o17 => (br_i (fun h18 => lfY ?_) (fun h18 => cl_i ?_ fun o19 => (br_i (fun h20 => lfY ?_) (fun h20 => lfY ?_))))))))))))))))))))
  all_goals try simp only [fszAddr, fszAddrS, fszBuilder, fszModuleS, fszPage, fszPolicy, fszSlotS, fszStringS, fszTokenS, fszTokenizer, std, Nat.reduceAdd, Sh.good, Sh.fc, enc, List.forall_mem_cons, List.not_mem_nil, false_implies, implies_true, goodC, maxLen] at *
  all_goals grind [wrapId', lessen, szAddr, szBuilder, szL, szPage, szPolicy, szTokenizer])
def E118 := E117.add 12 fszPage
theorem E118ok : EOk Tryz.prog E118 := E117ok.add k12_117
theorem k25_118 : ftoPage.ok Tryz.prog 25 := Fct.o [1,2,3] E118ok Tryz.func25 (by
  rintro ⟨(x : SPage), _⟩ hp
  refine ho (.cl ftoAddr (x.addr, ()) fun z2 => .cl ftoPolicy (x.policy, ()) fun z3 => .cl ftoTokenizer (x.tok, ()) fun z4 => .cl ftoTokenS (x.queue, ()) fun z5 => .cl ftoBuilder (x.builder, ()) fun z6 => .cl ftoSlotS (x.slots, ()) fun z7 => .cl ftoModuleS (x.mods, ()) fun z8 => .cl ftoAddrS (x.entries, ()) fun z9 => .cl ftoAddrS (x.ran, ()) fun z10 => .cl ftoStringS (x.log, ()) fun z11 => .lf ftoPage (⟨z2.1, z3.1, z4.1, z5.1, x.ended, z6.1, z7.1, z8.1, z9.1, x.block, x.inline, x.deferred, x.entered, z10.1, z11.1, x.loaded⟩, ())) ?_
  refine cl_i ?_ fun o1 => (cl_i ?_ fun o2 => (cl_i ?_ fun o3 => (cl_i ?_ fun o4 => (cl_i ?_ fun o5 => (cl_i ?_ fun o6 => (cl_i ?_ fun o7 => (cl_i ?_ fun o8 => (cl_i ?_ fun o9 => (cl_i ?_ fun o10 => (lfY ?_))))))))))
  all_goals try simp only [ftoAddr, ftoAddrS, ftoBuilder, ftoModuleS, ftoPage, ftoPolicy, ftoSlotS, ftoStringS, ftoTokenS, ftoTokenizer, std, Nat.reduceAdd] at *
  all_goals first | trivial | rfl | grind [szAddr, szBuilder, szL, szPage, szPolicy, szTokenizer])
def E119 := E118.add 25 ftoPage
theorem E119ok : EOk Tryz.prog E119 := E118ok.add k25_118
theorem k38_119 : feqPage.ok Tryz.prog 38 := Fct.o [2,3,4,10,16,22,28,33,39,45,51,57,62,67,72,77,83,89,94,1000010,1000016,1000022,1000028,1000033,1000039,1000045,1000051,1000057,1000062,1000067,1000072,1000077,1000083,1000089,1000094] E119ok Tryz.func38 (by
  rintro ⟨(x : SPage), (y : SPage), _⟩ hp
  refine ho (.cl feqAddr (x.addr, y.addr, ()) fun z2 => .br (!z2.1) (.lf feqPage (false, ())) (.cl feqPolicy (x.policy, y.policy, ()) fun z3 => .br (!z3.1) (.lf feqPage (false, ())) (.cl feqTokenizer (x.tok, y.tok, ()) fun z4 => .br (!z4.1) (.lf feqPage (false, ())) (.cl feqTokenS (x.queue, y.queue, ()) fun z5 => .br (!z5.1) (.lf feqPage (false, ())) (.br (!x.ended == y.ended) (.lf feqPage (false, ())) (.cl feqBuilder (x.builder, y.builder, ()) fun z6 => .br (!z6.1) (.lf feqPage (false, ())) (.cl feqSlotS (x.slots, y.slots, ()) fun z7 => .br (!z7.1) (.lf feqPage (false, ())) (.cl feqModuleS (x.mods, y.mods, ()) fun z8 => .br (!z8.1) (.lf feqPage (false, ())) (.cl feqAddrS (x.entries, y.entries, ()) fun z9 => .br (!z9.1) (.lf feqPage (false, ())) (.br (x.block != y.block) (.lf feqPage (false, ())) (.br (x.inline != y.inline) (.lf feqPage (false, ())) (.br (x.deferred != y.deferred) (.lf feqPage (false, ())) (.br (x.entered != y.entered) (.lf feqPage (false, ())) (.cl feqAddrS (x.ran, y.ran, ()) fun z10 => .br (!z10.1) (.lf feqPage (false, ())) (.cl feqStringS (x.log, y.log, ()) fun z11 => .br (!z11.1) (.lf feqPage (false, ())) (.br (!x.loaded == y.loaded) (.lf feqPage (false, ())) (.lf feqPage (true, ())))))))))))))))))) ?_
  refine cl_i trivial fun _ => (br_i (fun h1 => lfY ?_) (fun h1 => cl_i ?_ fun o2 => (br_i (fun h3 => lfY ?_) (fun h3 => cl_i trivial fun _ => (br_i (fun h4 => lfY ?_) (fun h4 => cl_i ?_ fun o5 => (br_i (fun h6 => lfY ?_) (fun h6 => br_i (fun h7 => lfY ?_) (fun h7 => cl_i ?_ fun o8 => (br_i (fun h9 => lfY ?_) (fun h9 => cl_i ?_ fun o10 => (br_i (fun h11 => lfY ?_) (fun h11 => cl_i ?_ fun o12 => (br_i (fun h13 => lfY ?_) (fun h13 => cl_i ?_ fun o14 => (br_i (fun h15 => lfY ?_) (fun h15 => br_i (fun h16 => lfY ?_) (fun h16 => br_i (fun h17 => lfY ?_) (fun h17 => br_i (fun h18 => lfY ?_) (fun h18 => br_i (fun h19 => lfY ?_) (fun h19 => cl_i ?_ fun o20 => (br_i (fun h21 => lfY ?_) (fun h21 => cl_i ?_ fun o22 => (br_i (fun h23 => lfY ?_) (fun h23 => br_i (fun h24 => lfY ?_) (fun h24 => lfY ?_))))))))))))))))))))))))))
  all_goals try simp only [feqAddr, feqAddrS, feqBuilder, feqModuleS, feqPage, feqPolicy, feqSlotS, feqStringS, feqTokenS, feqTokenizer, std, Nat.reduceAdd] at *
  all_goals first | trivial | (cases x; cases y; simp_all; done) | (simp only [szAddr, szBuilder, szL, szPage, szPolicy, szTokenizer] at *; omega) | grind [szAddr, szBuilder, szL, szPage, szPolicy, szTokenizer])
def E120 := E119.add 38 feqPage
theorem E120ok : EOk Tryz.prog E120 := E119ok.add k38_119
theorem k43_120 : fmarkPage.ok Tryz.prog 43 := MS.of (S := fmarkPage) (L := fun _ _ _ => none) (kp := [1,2,4]) (kl := [3,4,5,8,10,11,12,13,14,19,20]) E120ok Tryz.func43 (by kernel_rfl) (by kernel_rfl) (by
  rintro (x : SPage) (k : Int) hp
  refine ho (.ob (fmarkPolicy.pre x.policy k) <| .lt _ (fmarkPolicy.fn x.policy k) fun z2 => .ob (fmarkTokenS.pre x.queue z2.2) <| .lt _ (fmarkTokenS.fn x.queue z2.2) fun z3 => .ob (fmarkBuilder.pre x.builder z3.2) <| .lt _ (fmarkBuilder.fn x.builder z3.2) fun z4 => .ob (fmarkSlotS.pre x.slots z4.2) <| .lt _ (fmarkSlotS.fn x.slots z4.2) fun z5 => .ob (fmarkModuleS.pre x.mods z5.2) <| .lt _ (fmarkModuleS.fn x.mods z5.2) fun z6 => .ob (fmarkAddrS.pre x.entries z6.2) <| .lt _ (fmarkAddrS.fn x.entries z6.2) fun z7 => .ob (fmarkAddrS.pre x.ran z7.2) <| .lt _ (fmarkAddrS.fn x.ran z7.2) fun z8 => .ob (fmarkStringS.pre x.log z8.2) <| .lt _ (fmarkStringS.fn x.log z8.2) fun z9 => .leaf (.one false [vi (z9.2)]) [] [(3, ⟨Ty.str, z2.1.scripts⟩), (4, ⟨Ty.str, z2.1.styles⟩), (5, ⟨Ty.str, z2.1.images⟩), (8, ⟨Ty.token, z3.1⟩), (10, ⟨Ty.node, z4.1.nodes⟩), (11, ⟨Ty.int, z4.1.open_⟩), (12, ⟨Ty.slot, z5.1⟩), (13, ⟨Ty.module, z6.1⟩), (14, ⟨Ty.addr, z7.1⟩), (19, ⟨Ty.addr, z8.1⟩), (20, ⟨Ty.str, z9.1⟩)]) ?_
  refine ob_d ?_ <| lt_i (ob_d ?_ <| lt_i (ob_d ?_ <| lt_i (ob_d ?_ <| lt_i (ob_d ?_ <| lt_i (ob_d ?_ <| lt_i (ob_d ?_ <| lt_i (ob_d ?_ <| lt_i (MS.leaf ?_))))))))
  all_goals
   have hp1 : 0 ≤ k := hp.1
   have hp2 : (mvPage x k).2 ≤ 4000000000000000000 := hp.2
   clear hp
  all_goals simp only [mvPage] at hp2
  all_goals
   try have m1 := mkStringS_mono x.policy.scripts (k)
   try generalize hr1 : markL mkString x.policy.scripts (k) = r1 at *
   try have m2 := mkStringS_mono x.policy.styles (r1.2)
   try generalize hr2 : markL mkString x.policy.styles (r1.2) = r2 at *
   try have m3 := mkStringS_mono x.policy.images (r2.2)
   try generalize hr3 : markL mkString x.policy.images (r2.2) = r3 at *
   try have m4 := mkTokenS_mono x.queue (r3.2)
   try generalize hr4 : markL mkToken x.queue (r3.2) = r4 at *
   try have m5 := mkNodeS_mono x.builder.nodes (r4.2)
   try generalize hr5 : markL mkNode x.builder.nodes (r4.2) = r5 at *
   try have m6 := mkIntS_mono x.builder.open_ (r5.2)
   try generalize hr6 : markL mkInt x.builder.open_ (r5.2) = r6 at *
   try have m7 := mkSlotS_mono x.slots (r6.2)
   try generalize hr7 : markL mkSlot x.slots (r6.2) = r7 at *
   try have m8 := mkModuleS_mono x.mods (r7.2)
   try generalize hr8 : markL mkModule x.mods (r7.2) = r8 at *
   try have m9 := mkAddrS_mono x.entries (r8.2)
   try generalize hr9 : markL mkAddr x.entries (r8.2) = r9 at *
   try have m10 := mkAddrS_mono x.ran (r9.2)
   try generalize hr10 : markL mkAddr x.ran (r9.2) = r10 at *
   try have m11 := mkStringS_mono x.log (r10.2)
   try generalize hr11 : markL mkString x.log (r10.2) = r11 at *
  all_goals simp (disch := omega) only [fmarkAddrS, fmarkIntS, fmarkModuleS, fmarkNodeS, fmarkSlotS, fmarkStringS, fmarkTokenS, fmarkBuilder, mvBuilder, fmarkPolicy, mvPolicy, hr1, hr2, hr3, hr4, hr5, hr6, hr7, hr8, hr9, hr10, hr11]
  all_goals first | trivial | omega | (refine ⟨?_, ?_⟩ <;> omega) | skip
  refine MS.leaf ?_
  simp only [fmarkPage, mvPage, hr1, hr2, hr3, hr4, hr5, hr6, hr7, hr8, hr9, hr10, hr11]
  exact ⟨⟨rfl, rfl, trivial⟩, trivial, rfl⟩)
def E121 := E120.addM 43 fmarkPage
theorem E121ok : EOk Tryz.prog E121 := E120ok.addM k43_120
end Go.Proofs.YtccooffhmjgjfaaGreatDoor.fnExactGuessNext
