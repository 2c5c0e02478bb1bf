/-
  Contracts of functions that the law of FnExactModuleRight reaches, part 1.
-/
import Derived.Test.YtgmffjinggmpaaaGreatDoorVLe
import Derived.Test.YtgmffjinggmpaaaGreatDoorRows
import Derived.Test.YtgmffjinggmpaaaGreatDoorCards
import Derived.Test.YtgmffjinggmpaaaGreatDoorTie
import Derived.LaidMore
import Derived.Lay
import Derived.SevenTiedAt
import Derived.WalkKit
import Derived.ProofKit
import Derived.OpenShut
namespace Go.Proofs.YtgmffjinggmpaaaGreatDoor.fnExactModuleRight
open Go.Proofs.YtgmffjinggmpaaaGreatDoor
open Go.D
set_option maxRecDepth 100000
set_option linter.unusedVariables false
set_option linter.unusedSimpArgs false
def tyOf : TypeId → Option Ty
  | 3 => some .int
  | 4 => some .bool
  | 5 => some .u8
  | 9 => some .str
  | 25 => some .cache
  | 28 => some .net
  | 30 => some .addr
  | 33 => some .policy
  | 35 => some .tokenizer
  | 40 => some .builder
  | 45 => some .page
  | 52 => some .cache
  | 55 => some .net
  | 57 => some .addr
  | 58 => some .policy
  | 59 => some .tokenizer
  | 63 => some .builder
  | 68 => some .page
  | 90 => some .module
  | 93 => some .request
  | 120 => some .slot
  | 124 => some .server
  | 128 => some .sent
  | 132 => some .token
  | 137 => some .slot
  | 140 => some .module
  | 143 => some .response
  | 150 => some .server
  | 154 => some .sent
  | 158 => some .token
  | 175 => some .response
  | 177 => some .entry
  | 181 => some .node
  | 191 => some .entry
  | 195 => some .node
  | 203 => some .file
  | 207 => some .attr
  | 222 => some .file
  | 225 => some .attr
  | _ => none
def E0 : D.Env := D.Env.empty tyOf
theorem E0ok : EOk Tryz.prog E0 := EOk.empty _ _
set_option maxHeartbeats 2000000 in
theorem k32_0 : fszStringS.ok Tryz.prog 32 := Fct.of (S := fszStringS) (L := fun ⟨l, n, _⟩ => fun | 5 => some (LszS .str szString l n) | _ => none) (kp := [0,1,4,5,11,15,26,1000011,1000015,1000026]) E0ok Tryz.func32 (by kernel_rfl) (by kernel_rfl) (by
  rintro ⟨(l : List ByteArray), (n : Int), _⟩ hp
  refine holds_of (X := .br (decide (IntKind.i64.wrap (n - (↑l.length : Int)) < (0 : Int)))
 (.leaf (mkR fszStringS.rs ((-1 : Int), ())) [] [])
 (lpx (LszS .str szString l n) (IntKind.i64.wrap (n - (↑l.length : Int)), ((0 : Int), ())) fun (y2 : Int × Int × PUnit) bk2 =>
 .br (decide (y2.2.1 < (↑l.length : Int)))
 (.ob ((0 : Int) ≤ y2.2.1 ∧ y2.2.1 < (↑l.length : Int)) <| .br (decide (IntKind.i64.wrap (y2.1 - (↑(l.getD y2.2.1.toNat default).size : Int)) < (0 : Int)))
 (.leaf (mkR fszStringS.rs ((-1 : Int), ())) [] [])
 (.ob (l = l) <| .ob (bk2 (IntKind.i64.wrap (y2.1 - (↑(l.getD y2.2.1.toNat default).size : Int)), (IntKind.i64.wrap (y2.2.1 + (1 : Int)), ()))) <| .ok))
 (.leaf (mkR fszStringS.rs (y2.1, ())) [] []))) (by kernel_rfl) ?_
  refine br_i (fun h1 => Fct.leafY ?_) (fun h1 => lpx_i ?_ fun (y2 : Int × Int × PUnit) i2 => br_i (fun h3 => ob_i ?_ fun o4 => br_i (fun h5 => Fct.leafY ?_) (fun h5 => ob_i rfl fun _ => ob_i ?_ fun o6 => trivial)) (fun h3 => Fct.leafY ?_))
  all_goals try simp only [std1, ne_eq] at *
  all_goals try simp only [LszS, fszStringS, etaS, std1, std2, Nat.reduceAdd, ne_eq] at *
  all_goals have hgl := good_len hp.1
  all_goals simp only [maxLen] at hgl
  · rw [wrapId (by omega)] at h1
    rw [lessenNeg (by simp only [szL]; omega)]
  · rw [wrapId (by omega)] at h1 ⊢
    exact ⟨by omega, by omega, h1, by simp⟩
  all_goals have hg : y2.2.1.toNat < l.length → (l.getD y2.2.1.toNat default).size ≤ 9223372036854775807 := fun h => (good_getD hp.1 h) _ (List.Mem.head _)
  all_goals have hs := sum_take_le szString l (y2.2.1.toNat + 1)
  all_goals have hs2 : y2.2.1.toNat < l.length → ((l.take (y2.2.1.toNat + 1)).map szString).sum = ((l.take y2.2.1.toNat).map szString).sum + (l.getD y2.2.1.toNat default).size := fun h => sum_take szString h
  · omega
  · have hlt : y2.2.1.toNat < l.length := by omega
    have a1 := hg hlt; have a2 := hs2 hlt
    rw [wrapId (by omega)] at h5
    rw [lessenNeg (by simp only [szL]; omega)]
  · have hlt : y2.2.1.toNat < l.length := by omega
    have a1 := hg hlt; have a2 := hs2 hlt
    rw [wrapId (n := y2.1 - _) (by omega)] at h5 ⊢
    rw [wrapId (by omega), toNat1 (by omega), a2]
    exact ⟨⟨by omega, by omega, by omega, by omega⟩, by omega⟩
  · have e : l.take y2.2.1.toNat = l := List.take_of_length_le (by omega)
    rw [e] at i2
    have hz : ((szL szString l : Nat) : Int) = l.length + (l.map szString).sum := by simp only [szL]; omega
    rw [lessen_ge (by omega)]
    show y2.1 = n - ((szL szString l : Nat) : Int)
    omega)
def E1 : D.Env := E0.add 32 fszStringS
theorem E1ok : EOk Tryz.prog E1 := E0ok.add k32_0
theorem k47_1 : ftoStringS.ok Tryz.prog 47 := Fct.of (S := ftoStringS) (L := fun ⟨l, _⟩ => fun | 3 => some (LtoS .str l) | _ => none) (kp := [0,2,3,4,11,1000011]) E1ok Tryz.func47 (by kernel_rfl) (by kernel_rfl) (by
  rintro ⟨(l : List ByteArray), _⟩ hp
  refine holds_of (X := .ob ((↑l.length : Int) = (↑l.length : Int) ∧
 (0 : Int) ≤ (↑l.length : Int) ∧
 (16 : Int) * (↑l.length : Int) ≤ (140737488355328 : Int) ∧ (↑l.length : Int) ≤ (140737488355328 : Int)) <| lpx (LtoS .str l) ((0 : Int), (List.replicate (↑l.length : Int).toNat (⟨#[]⟩ : ByteArray), ())) fun (y2 : Int × List ByteArray × PUnit) bk2 =>
 .br (decide (y2.1 < (↑l.length : Int)))
 (.ob ((0 : Int) ≤ y2.1 ∧ y2.1 < (↑l.length : Int)) <| .ob ((0 : Int) ≤ y2.1 ∧ y2.1 < (↑y2.2.1.length : Int)) <| .ob (y2.1.toNat < y2.2.1.length) <| .lt (List ByteArray) (y2.2.1.modify y2.1.toNat fun z => l.getD y2.1.toNat default) fun z2 =>
 .ob (l = l) <| .ob (bk2 (IntKind.i64.wrap (y2.1 + (1 : Int)), (z2, ()))) <| .ok)
 (.leaf (mkR ftoStringS.rs (y2.2.1, ())) [] [])) (by kernel_rfl) ?_
  refine ob_i ?_ fun o1 => lpx_i ?_ fun (y2 : Int × List ByteArray × PUnit) i2 => br_i (fun h3 => ob_i ?_ fun o4 => ob_i ?_ fun o5 => ob_i ?_ fun o6 => lt_i (ob_i rfl fun _ => ob_i ?_ fun o7 => trivial)) (fun h3 => Fct.leafY ?_)
  all_goals try simp only [std1, ne_eq] at *
  all_goals try simp only [LtoS, ftoStringS, etaS, std1, std2, Nat.reduceAdd, ne_eq] at *
  all_goals try have hsz : l.length ≤ 1048576 := by first | exact hp | (have := szL_len szString l; exact Nat.le_trans this hp)
  all_goals clear hp
  all_goals try rw [i2.2.2]
  all_goals first | omega | (refine ⟨by omega, by omega, ?_⟩; simp; done) | (refine ⟨by omega, by omega, ?_⟩; simp; exact .inr rfl) | (simp; omega) | skip
  · rw [wrapId (by omega), toNat1 (by omega)]
    refine ⟨⟨by omega, by omega, ?_⟩, by omega⟩
    rw [show l.length - y2.1.toNat = (l.length - (y2.1.toNat + 1)) + 1 from by omega, List.replicate_succ, mod_at (by simp; omega), take_succ (by omega)]
    simp
  · have e : l.take y2.1.toNat = l := List.take_of_length_le (by omega)
    rw [e]; simp; omega)
def E2 : D.Env := E1.add 47 ftoStringS
theorem E2ok : EOk Tryz.prog E2 := E1ok.add k47_1
set_option maxHeartbeats 2000000 in
theorem k61_2 : feqStringS.ok Tryz.prog 61 := Fct.of (S := feqStringS) (L := fun ⟨l, m, _⟩ => fun | 4 => some (LeqS .str l m) | _ => none) (kp := [0,1,4,5,10,14,25,1000010,1000014,1000025]) E2ok Tryz.func61 (by kernel_rfl) (by kernel_rfl) (by
  rintro ⟨(l : List ByteArray), (m : List ByteArray), _⟩ hp
  refine holds_of (X := .br ((↑l.length : Int) != (↑m.length : Int))
 (.leaf (mkR feqStringS.rs (false, ())) [] [])
 (lpx (LeqS .str l m) ((0 : Int), ()) fun (y2 : Int × PUnit) bk2 =>
 .br (decide (y2.1 < (↑l.length : Int)))
 (.ob ((0 : Int) ≤ y2.1 ∧ y2.1 < (↑l.length : Int)) <| .ob ((0 : Int) ≤ y2.1 ∧ y2.1 < (↑m.length : Int)) <| .br (!(l.getD y2.1.toNat default).toList == (m.getD y2.1.toNat default).toList)
 (.leaf (mkR feqStringS.rs (false, ())) [] [])
 (.ob (l = l) <| .ob (m = m) <| .ob (bk2 (IntKind.i64.wrap (y2.1 + (1 : Int)), ())) <| .ok))
 (.leaf (mkR feqStringS.rs (true, ())) [] []))) (by kernel_rfl) ?_
  refine br_i (fun h1 => Fct.leafY ?_) (fun h1 => lpx_i ?_ fun (y2 : Int × PUnit) i2 => br_i (fun h3 => ob_i ?_ fun o4 => ob_i ?_ fun o5 => br_i (fun h6 => Fct.leafY ?_) (fun h6 => ob_i rfl fun _ => ob_i rfl fun _ => ob_i ?_ fun o7 => trivial)) (fun h3 => Fct.leafY ?_))
  all_goals try simp only [std1, ne_eq] at *
  all_goals try simp only [LeqS, feqStringS, etaS, std1, std2, Nat.reduceAdd, ne_eq] at *
  · rw [decide_eq_false]; rintro rfl; omega
  · exact ⟨by omega, by omega, by simp⟩
  · omega
  · omega
  · rw [decide_eq_false]; rintro rfl; first | exact absurd rfl h5 | exact absurd rfl h6
  · have hw : IntKind.i64.wrap (y2.1 + 1) = y2.1 + 1 := wrapId (by omega)
    rw [hw, toNat1 (by omega)]
    refine ⟨⟨by omega, by omega, ?_⟩, by omega⟩
    rw [take_succ (by omega), take_succ (by omega), i2.2.2]; first | rw [h5] | rw [h6]
  · have e : l.take y2.1.toNat = l := List.take_of_length_le (by omega)
    have e2 : m.take y2.1.toNat = m := List.take_of_length_le (by omega)
    rw [decide_eq_true]; rw [← e, ← e2, i2.2.2])
def E3 : D.Env := E2.add 61 feqStringS
theorem E3ok : EOk Tryz.prog E3 := E2ok.add k61_2
set_option maxHeartbeats 2000000 in
theorem k69_3 : fszIntS.ok Tryz.prog 69 := Fct.of (S := fszIntS) (L := fun _ _ => none) (kp := [0,1,4,10,1000010]) E3ok Tryz.func69 (by kernel_rfl) (by kernel_rfl) (by
  rintro ⟨(l : List Int), (n : Int), _⟩ hp
  refine holds_of (X := .br (decide (IntKind.i64.wrap (n - (↑(List.length l) : Int)) < (0 : Int)))
 (.leaf (mkR fszIntS.rs ((-1 : Int), ())) [] [])
 (.leaf (mkR fszIntS.rs (IntKind.i64.wrap (n - (↑(List.length l) : Int)), ())) [] [])) (by kernel_rfl) ?_
  refine br_i (fun h1 => Fct.leafY ?_) (fun h1 => Fct.leafY ?_)
  all_goals try simp only [std1, ne_eq] at *
  all_goals try simp only [fszIntS, etaS, std1, std2, Nat.reduceAdd, ne_eq, Sh.good, Sh.fc, enc, List.forall_mem_cons, List.not_mem_nil, false_implies, implies_true, goodC, maxLen] at *
  all_goals grind [wrapId', lessen])
def E4 : D.Env := E3.add 69 fszIntS
theorem E4ok : EOk Tryz.prog E4 := E3ok.add k69_3
theorem k81_4 : ftoIntS.ok Tryz.prog 81 := Fct.of (S := ftoIntS) (L := fun ⟨l, _⟩ => fun | 3 => some (LtoS .int l) | _ => none) (kp := [0,2,3,4,11,1000011]) E4ok Tryz.func81 (by kernel_rfl) (by kernel_rfl) (by
  rintro ⟨(l : List Int), _⟩ hp
  refine holds_of (X := .ob ((↑l.length : Int) = (↑l.length : Int) ∧
 (0 : Int) ≤ (↑l.length : Int) ∧
 (8 : Int) * (↑l.length : Int) ≤ (140737488355328 : Int) ∧ (↑l.length : Int) ≤ (140737488355328 : Int)) <| lpx (LtoS .int l) ((0 : Int), (List.replicate (↑l.length : Int).toNat (0 : Int), ())) fun (y2 : Int × List Int × PUnit) bk2 =>
 .br (decide (y2.1 < (↑l.length : Int)))
 (.ob ((0 : Int) ≤ y2.1 ∧ y2.1 < (↑l.length : Int)) <| .ob ((0 : Int) ≤ y2.1 ∧ y2.1 < (↑y2.2.1.length : Int)) <| .ob (y2.1.toNat < y2.2.1.length) <| .lt (List Int) (y2.2.1.modify y2.1.toNat fun z => l.getD y2.1.toNat default) fun z2 =>
 .ob (l = l) <| .ob (bk2 (IntKind.i64.wrap (y2.1 + (1 : Int)), (z2, ()))) <| .ok)
 (.leaf (mkR ftoIntS.rs (y2.2.1, ())) [] [])) (by kernel_rfl) ?_
  refine ob_i ?_ fun o1 => lpx_i ?_ fun (y2 : Int × List Int × PUnit) i2 => br_i (fun h3 => ob_i ?_ fun o4 => ob_i ?_ fun o5 => ob_i ?_ fun o6 => lt_i (ob_i rfl fun _ => ob_i ?_ fun o7 => trivial)) (fun h3 => Fct.leafY ?_)
  all_goals try simp only [std1, ne_eq] at *
  all_goals try simp only [LtoS, ftoIntS, etaS, std1, std2, Nat.reduceAdd, ne_eq] at *
  all_goals try have hsz : l.length ≤ 1048576 := by first | exact hp | (have := szL_len szString l; exact Nat.le_trans this hp)
  all_goals clear hp
  all_goals try rw [i2.2.2]
  all_goals first | omega | (refine ⟨by omega, by omega, ?_⟩; simp; done) | (refine ⟨by omega, by omega, ?_⟩; simp; exact .inr rfl) | (simp; omega) | skip
  · rw [wrapId (by omega), toNat1 (by omega)]
    refine ⟨⟨by omega, by omega, ?_⟩, by omega⟩
    rw [show l.length - y2.1.toNat = (l.length - (y2.1.toNat + 1)) + 1 from by omega, List.replicate_succ, mod_at (by simp; omega), take_succ (by omega)]
    simp
  · have e : l.take y2.1.toNat = l := List.take_of_length_le (by omega)
    rw [e]; simp; omega)
def E5 : D.Env := E4.add 81 ftoIntS
theorem E5ok : EOk Tryz.prog E5 := E4ok.add k81_4
set_option maxHeartbeats 2000000 in
theorem k93_5 : feqIntS.ok Tryz.prog 93 := Fct.of (S := feqIntS) (L := fun ⟨l, m, _⟩ => fun | 4 => some (LeqS .int l m) | _ => none) (kp := [0,1,4,5,10,14,25,1000010,1000014,1000025]) E5ok Tryz.func93 (by kernel_rfl) (by kernel_rfl) (by
  rintro ⟨(l : List Int), (m : List Int), _⟩ hp
  refine holds_of (X := .br ((↑l.length : Int) != (↑m.length : Int))
 (.leaf (mkR feqIntS.rs (false, ())) [] [])
 (lpx (LeqS .int l m) ((0 : Int), ()) fun (y2 : Int × PUnit) bk2 =>
 .br (decide (y2.1 < (↑l.length : Int)))
 (.ob ((0 : Int) ≤ y2.1 ∧ y2.1 < (↑l.length : Int)) <| .ob ((0 : Int) ≤ y2.1 ∧ y2.1 < (↑m.length : Int)) <| .br (l.getD y2.1.toNat default != m.getD y2.1.toNat default)
 (.leaf (mkR feqIntS.rs (false, ())) [] [])
 (.ob (l = l) <| .ob (m = m) <| .ob (bk2 (IntKind.i64.wrap (y2.1 + (1 : Int)), ())) <| .ok))
 (.leaf (mkR feqIntS.rs (true, ())) [] []))) (by kernel_rfl) ?_
  refine br_i (fun h1 => Fct.leafY ?_) (fun h1 => lpx_i ?_ fun (y2 : Int × PUnit) i2 => br_i (fun h3 => ob_i ?_ fun o4 => ob_i ?_ fun o5 => br_i (fun h6 => Fct.leafY ?_) (fun h6 => ob_i rfl fun _ => ob_i rfl fun _ => ob_i ?_ fun o7 => trivial)) (fun h3 => Fct.leafY ?_))
  all_goals try simp only [std1, ne_eq] at *
  all_goals try simp only [LeqS, feqIntS, etaS, std1, std2, Nat.reduceAdd, ne_eq] at *
  · rw [decide_eq_false]; rintro rfl; omega
  · exact ⟨by omega, by omega, by simp⟩
  · omega
  · omega
  · rw [decide_eq_false]; rintro rfl; first | exact absurd rfl h5 | exact absurd rfl h6
  · have hw : IntKind.i64.wrap (y2.1 + 1) = y2.1 + 1 := wrapId (by omega)
    rw [hw, toNat1 (by omega)]
    refine ⟨⟨by omega, by omega, ?_⟩, by omega⟩
    rw [take_succ (by omega), take_succ (by omega), i2.2.2]; first | rw [h5] | rw [h6]
  · have e : l.take y2.1.toNat = l := List.take_of_length_le (by omega)
    have e2 : m.take y2.1.toNat = m := List.take_of_length_le (by omega)
    rw [decide_eq_true]; rw [← e, ← e2, i2.2.2])
def E6 : D.Env := E5.add 93 feqIntS
theorem E6ok : EOk Tryz.prog E6 := E5ok.add k93_5
set_option maxHeartbeats 2000000 in
theorem k24_6 : fszAddr.ok Tryz.prog 24 := Fct.of (S := fszAddr) (L := fun _ _ => none) (kp := [1,2,4,11,18,1000011,1000018]) E6ok Tryz.func24 (by kernel_rfl) (by kernel_rfl) (by
  rintro ⟨(x : SAddr), (n : Int), _⟩ hp
  refine holds_of (X := .br (decide (IntKind.i64.wrap (n - (↑x.host.size : Int)) < (0 : Int)))
 (.leaf (mkR fszAddr.rs ((-1 : Int), ())) [] [])
 (.br (decide (IntKind.i64.wrap (IntKind.i64.wrap (n - (↑x.host.size : Int)) - (↑x.path.size : Int)) < (0 : Int)))
 (.leaf (mkR fszAddr.rs ((-1 : Int), ())) [] [])
 (.leaf (mkR fszAddr.rs (IntKind.i64.wrap (IntKind.i64.wrap (n - (↑x.host.size : Int)) - (↑x.path.size : Int)), ())) [] []))) (by kernel_rfl) ?_
  refine br_i (fun h1 => Fct.leafY ?_) (fun h1 => br_i (fun h2 => Fct.leafY ?_) (fun h2 => Fct.leafY ?_))
  all_goals try simp only [std1, ne_eq] at *
  all_goals try simp only [fszAddr, etaS, std1, std2, Nat.reduceAdd, ne_eq, Sh.good, Sh.fc, enc, List.forall_mem_cons, List.not_mem_nil, false_implies, implies_true, goodC, maxLen] at *
  all_goals grind [wrapId', lessen, szAddr])
def E7 : D.Env := E6.add 24 fszAddr
theorem E7ok : EOk Tryz.prog E7 := E6ok.add k24_6
theorem k39_7 : ftoAddr.ok Tryz.prog 39 := Fct.of (S := ftoAddr) (L := fun _ _ => none) (kp := [1,2,3]) E7ok Tryz.func39 (by kernel_rfl) (by kernel_rfl) (by
  rintro ⟨(x : SAddr), _⟩ hp
  refine holds_of (X := .leaf (mkR ftoAddr.rs (x, ())) [] []) (by kernel_rfl) ?_
  refine Fct.leafY ?_
  all_goals try simp only [std1, ne_eq] at *
  all_goals try simp only [ftoAddr, etaS, std1, std2, Nat.reduceAdd, ne_eq] at *
  all_goals first | trivial | rfl | grind [szAddr])
def E8 : D.Env := E7.add 39 ftoAddr
theorem E8ok : EOk Tryz.prog E8 := E7ok.add k39_7
set_option maxHeartbeats 2000000 in
theorem k53_8 : feqAddr.ok Tryz.prog 53 := Fct.of (S := feqAddr) (L := fun _ _ => none) (kp := [2,3,4,9,14,1000009,1000014]) E8ok Tryz.func53 (by kernel_rfl) (by kernel_rfl) (by
  rintro ⟨(x : SAddr), (y : SAddr), _⟩ hp
  refine holds_of (X := .br (!x.host.toList == y.host.toList)
 (.leaf (mkR feqAddr.rs (false, ())) [] [])
 (.br (!x.path.toList == y.path.toList)
 (.leaf (mkR feqAddr.rs (false, ())) [] [])
 (.leaf (mkR feqAddr.rs (true, ())) [] []))) (by kernel_rfl) ?_
  refine br_i (fun h1 => Fct.leafY ?_) (fun h1 => br_i (fun h2 => Fct.leafY ?_) (fun h2 => Fct.leafY ?_))
  all_goals try simp only [std1, ne_eq] at *
  all_goals try simp only [feqAddr, etaS, std1, std2, Nat.reduceAdd, ne_eq] at *
  all_goals first | trivial | (cases x; cases y; simp_all; done) | (simp only [szAddr] at *; omega) | grind [szAddr])
def E9 : D.Env := E8.add 53 feqAddr
theorem E9ok : EOk Tryz.prog E9 := E8ok.add k53_8
set_option maxHeartbeats 2000000 in
theorem k31_9 : fszAddrS.ok Tryz.prog 31 := Fct.of (S := fszAddrS) (L := fun ⟨l, n, _⟩ => fun | 5 => some (LszS .addr szAddr l n) | _ => none) (kp := [0,1,4,5,11,15,25,1000011,1000015,1000025]) E9ok Tryz.func31 (by kernel_rfl) (by kernel_rfl) (by
  rintro ⟨(l : List SAddr), (n : Int), _⟩ hp
  refine holds_of (X := .br (decide (IntKind.i64.wrap (n - (↑l.length : Int)) < (0 : Int)))
 (.leaf (mkR fszAddrS.rs ((-1 : Int), ())) [] [])
 (lpx (LszS .addr szAddr l n) (IntKind.i64.wrap (n - (↑l.length : Int)), ((0 : Int), ())) fun (y2 : Int × Int × PUnit) bk2 =>
 .br (decide (y2.2.1 < (↑l.length : Int)))
 (.ob ((0 : Int) ≤ y2.2.1 ∧ y2.2.1 < (↑l.length : Int)) <| .cl fszAddr (l.getD y2.2.1.toNat default, y2.1, ()) fun z2 =>
 .br (decide (z2.1 < (0 : Int)))
 (.leaf (mkR fszAddrS.rs ((-1 : Int), ())) [] [])
 (.ob (l = l) <| .ob (bk2 (z2.1, (IntKind.i64.wrap (y2.2.1 + (1 : Int)), ()))) <| .ok))
 (.leaf (mkR fszAddrS.rs (y2.1, ())) [] []))) (by kernel_rfl) ?_
  refine br_i (fun h1 => Fct.leafY ?_) (fun h1 => lpx_i ?_ fun (y2 : Int × Int × PUnit) i2 => br_i (fun h3 => ob_i ?_ fun o4 => cl_i ?_ fun o5 => (br_i (fun h6 => Fct.leafY ?_) (fun h6 => ob_i rfl fun _ => ob_i ?_ fun o7 => trivial))) (fun h3 => Fct.leafY ?_))
  all_goals try simp only [std1, ne_eq] at *
  all_goals try simp only [LszS, fszAddr, fszAddrS, etaS, std1, std2, Nat.reduceAdd, ne_eq] at *
  · have := good_len hp.1; simp only [maxLen] at this; rw [wrapId (by omega)] at h1
    rw [lessenNeg (by simp only [szL]; omega)]
  · have := good_len hp.1; simp only [maxLen] at this
    rw [wrapId (by omega)] at h1 ⊢
    exact ⟨by omega, by omega, h1, by simp⟩
  · omega
  · exact ⟨good_getD hp.1 (by omega), by omega, by omega⟩
  · have hs := sum_take_le szAddr l (y2.2.1.toNat + 1)
    rw [sum_take szAddr (by omega)] at hs
    rw [lessen_lt (by omega)] at h6
    rw [lessenNeg (by simp only [szL]; omega)]
  · have hw : IntKind.i64.wrap (y2.2.1 + 1) = y2.2.1 + 1 := wrapId (by have := good_len hp.1; simp only [maxLen] at this; omega)
    have h7 : ¬ lessen y2.1 (szAddr (l.getD y2.2.1.toNat default)) < 0 := by omega
    rw [lessen_lt (by omega)] at h7
    rw [hw, toNat1 (by omega), sum_take szAddr (by omega), lessen_ge (by omega)]
    exact ⟨⟨by omega, by omega, by omega, by omega⟩, by omega⟩
  · have e : l.take y2.2.1.toNat = l := List.take_of_length_le (by omega)
    rw [e] at i2
    have hz : ((szL szAddr l : Nat) : Int) = l.length + (l.map szAddr).sum := by simp only [szL]; omega
    rw [lessen_ge (by omega)]
    show y2.1 = n - ((szL szAddr l : Nat) : Int)
    omega)
def E10 : D.Env := E9.add 31 fszAddrS
theorem E10ok : EOk Tryz.prog E10 := E9ok.add k31_9
theorem k46_10 : ftoAddrS.ok Tryz.prog 46 := Fct.of (S := ftoAddrS) (L := fun ⟨l, _⟩ => fun | 3 => some (LtoS .addr l) | _ => none) (kp := [0,2,3,4,11,1000011]) E10ok Tryz.func46 (by kernel_rfl) (by kernel_rfl) (by
  rintro ⟨(l : List SAddr), _⟩ hp
  refine holds_of (X := .ob ((↑l.length : Int) = (↑l.length : Int) ∧
 (0 : Int) ≤ (↑l.length : Int) ∧
 (32 : Int) * (↑l.length : Int) ≤ (140737488355328 : Int) ∧ (↑l.length : Int) ≤ (140737488355328 : Int)) <| lpx (LtoS .addr l) ((0 : Int), (List.replicate (↑l.length : Int).toNat default, ())) fun (y2 : Int × List SAddr × PUnit) bk2 =>
 .br (decide (y2.1 < (↑l.length : Int)))
 (.ob ((0 : Int) ≤ y2.1 ∧ y2.1 < (↑l.length : Int)) <| .cl ftoAddr (l.getD y2.1.toNat default, ()) fun z2 =>
 .ob ((0 : Int) ≤ y2.1 ∧ y2.1 < (↑y2.2.1.length : Int)) <| .ob (y2.1.toNat < y2.2.1.length) <| .lt (List SAddr) (y2.2.1.modify y2.1.toNat fun z => z2.1) fun z3 =>
 .ob (l = l) <| .ob (bk2 (IntKind.i64.wrap (y2.1 + (1 : Int)), (z3, ()))) <| .ok)
 (.leaf (mkR ftoAddrS.rs (y2.2.1, ())) [] [])) (by kernel_rfl) ?_
  refine ob_i ?_ fun o1 => lpx_i ?_ fun (y2 : Int × List SAddr × PUnit) i2 => br_i (fun h3 => ob_i ?_ fun o4 => cl_i ?_ fun o5 => (ob_i ?_ fun o6 => ob_i ?_ fun o7 => lt_i (ob_i rfl fun _ => ob_i ?_ fun o8 => trivial))) (fun h3 => Fct.leafY ?_)
  all_goals try simp only [std1, ne_eq] at *
  all_goals try simp only [LtoS, ftoAddr, ftoAddrS, etaS, std1, std2, Nat.reduceAdd, ne_eq] at *
  · have := szL_len szAddr l; omega
  · exact ⟨by omega, by omega, by simp⟩
  · omega
  · have hs := sum_take_le szAddr l (y2.1.toNat + 1)
    rw [sum_take szAddr (by omega)] at hs
    simp only [szL] at hp; omega
  · rw [i2.2.2]; simp; omega
  · rw [i2.2.2]; simp; omega
  · have hw : IntKind.i64.wrap (y2.1 + 1) = y2.1 + 1 := wrapId (by have := szL_len szAddr l; omega)
    rw [hw, toNat1 (by omega), i2.2.2]
    refine ⟨⟨by omega, by omega, ?_⟩, by omega⟩
    rw [show l.length - y2.1.toNat = (l.length - (y2.1.toNat + 1)) + 1 from by omega, List.replicate_succ, mod_at (by simp; omega), take_succ (by omega)]
    simp
  · have e : l.take y2.1.toNat = l := List.take_of_length_le (by omega)
    rw [i2.2.2, e]; simp; omega)
def E11 : D.Env := E10.add 46 ftoAddrS
theorem E11ok : EOk Tryz.prog E11 := E10ok.add k46_10
set_option maxHeartbeats 2000000 in
theorem k60_11 : feqAddrS.ok Tryz.prog 60 := Fct.of (S := feqAddrS) (L := fun ⟨l, m, _⟩ => fun | 4 => some (LeqS .addr l m) | _ => none) (kp := [0,1,4,5,10,14,26,1000010,1000014,1000026]) E11ok Tryz.func60 (by kernel_rfl) (by kernel_rfl) (by
  rintro ⟨(l : List SAddr), (m : List SAddr), _⟩ hp
  refine holds_of (X := .br ((↑l.length : Int) != (↑m.length : Int))
 (.leaf (mkR feqAddrS.rs (false, ())) [] [])
 (lpx (LeqS .addr l m) ((0 : Int), ()) fun (y2 : Int × PUnit) bk2 =>
 .br (decide (y2.1 < (↑l.length : Int)))
 (.ob ((0 : Int) ≤ y2.1 ∧ y2.1 < (↑l.length : Int)) <| .ob ((0 : Int) ≤ y2.1 ∧ y2.1 < (↑m.length : Int)) <| .cl feqAddr (l.getD y2.1.toNat default, m.getD y2.1.toNat default, ()) fun z2 =>
 .br (!z2.1)
 (.leaf (mkR feqAddrS.rs (false, ())) [] [])
 (.ob (l = l) <| .ob (m = m) <| .ob (bk2 (IntKind.i64.wrap (y2.1 + (1 : Int)), ())) <| .ok))
 (.leaf (mkR feqAddrS.rs (true, ())) [] []))) (by kernel_rfl) ?_
  refine br_i (fun h1 => Fct.leafY ?_) (fun h1 => lpx_i ?_ fun (y2 : Int × PUnit) i2 => br_i (fun h3 => ob_i ?_ fun o4 => ob_i ?_ fun o5 => cl_i trivial fun _ => (br_i (fun h6 => Fct.leafY ?_) (fun h6 => ob_i rfl fun _ => ob_i rfl fun _ => ob_i ?_ fun o7 => trivial))) (fun h3 => Fct.leafY ?_))
  all_goals try simp only [std1, ne_eq] at *
  all_goals try simp only [LeqS, feqAddr, feqAddrS, etaS, std1, std2, Nat.reduceAdd, ne_eq] at *
  · rw [decide_eq_false]; rintro rfl; omega
  · exact ⟨by omega, by omega, by simp⟩
  · omega
  · omega
  · rw [decide_eq_false]; rintro rfl; exact absurd rfl h6
  · have hw : IntKind.i64.wrap (y2.1 + 1) = y2.1 + 1 := wrapId (by omega)
    rw [hw, toNat1 (by omega)]
    refine ⟨⟨by omega, by omega, ?_⟩, by omega⟩
    rw [take_succ (by omega), take_succ (by omega), i2.2.2, h6]
  · have e : l.take y2.1.toNat = l := List.take_of_length_le (by omega)
    have e2 : m.take y2.1.toNat = m := List.take_of_length_le (by omega)
    rw [decide_eq_true]; rw [← e, ← e2, i2.2.2])
def E12 : D.Env := E11.add 60 feqAddrS
theorem E12ok : EOk Tryz.prog E12 := E11ok.add k60_11
set_option maxHeartbeats 2000000 in
theorem k124_12 : fszAttr.ok Tryz.prog 124 := Fct.of (S := fszAttr) (L := fun _ _ => none) (kp := [1,2,4,11,18,1000011,1000018]) E12ok Tryz.func124 (by kernel_rfl) (by kernel_rfl) (by
  rintro ⟨(x : SAttr), (n : Int), _⟩ hp
  refine holds_of (X := .br (decide (IntKind.i64.wrap (n - (↑x.name.size : Int)) < (0 : Int)))
 (.leaf (mkR fszAttr.rs ((-1 : Int), ())) [] [])
 (.br (decide (IntKind.i64.wrap (IntKind.i64.wrap (n - (↑x.name.size : Int)) - (↑x.value.size : Int)) < (0 : Int)))
 (.leaf (mkR fszAttr.rs ((-1 : Int), ())) [] [])
 (.leaf (mkR fszAttr.rs (IntKind.i64.wrap (IntKind.i64.wrap (n - (↑x.name.size : Int)) - (↑x.value.size : Int)), ())) [] []))) (by kernel_rfl) ?_
  refine br_i (fun h1 => Fct.leafY ?_) (fun h1 => br_i (fun h2 => Fct.leafY ?_) (fun h2 => Fct.leafY ?_))
  all_goals try simp only [std1, ne_eq] at *
  all_goals try simp only [fszAttr, etaS, std1, std2, Nat.reduceAdd, ne_eq, Sh.good, Sh.fc, enc, List.forall_mem_cons, List.not_mem_nil, false_implies, implies_true, goodC, maxLen] at *
  all_goals grind [wrapId', lessen, szAttr])
def E13 : D.Env := E12.add 124 fszAttr
theorem E13ok : EOk Tryz.prog E13 := E12ok.add k124_12
theorem k139_13 : ftoAttr.ok Tryz.prog 139 := Fct.of (S := ftoAttr) (L := fun _ _ => none) (kp := [1,2,3]) E13ok Tryz.func139 (by kernel_rfl) (by kernel_rfl) (by
  rintro ⟨(x : SAttr), _⟩ hp
  refine holds_of (X := .leaf (mkR ftoAttr.rs (x, ())) [] []) (by kernel_rfl) ?_
  refine Fct.leafY ?_
  all_goals try simp only [std1, ne_eq] at *
  all_goals try simp only [ftoAttr, etaS, std1, std2, Nat.reduceAdd, ne_eq] at *
  all_goals first | trivial | rfl | grind [szAttr])
def E14 : D.Env := E13.add 139 ftoAttr
theorem E14ok : EOk Tryz.prog E14 := E13ok.add k139_13
set_option maxHeartbeats 2000000 in
theorem k155_14 : feqAttr.ok Tryz.prog 155 := Fct.of (S := feqAttr) (L := fun _ _ => none) (kp := [2,3,4,9,14,1000009,1000014]) E14ok Tryz.func155 (by kernel_rfl) (by kernel_rfl) (by
  rintro ⟨(x : SAttr), (y : SAttr), _⟩ hp
  refine holds_of (X := .br (!x.name.toList == y.name.toList)
 (.leaf (mkR feqAttr.rs (false, ())) [] [])
 (.br (!x.value.toList == y.value.toList)
 (.leaf (mkR feqAttr.rs (false, ())) [] [])
 (.leaf (mkR feqAttr.rs (true, ())) [] []))) (by kernel_rfl) ?_
  refine br_i (fun h1 => Fct.leafY ?_) (fun h1 => br_i (fun h2 => Fct.leafY ?_) (fun h2 => Fct.leafY ?_))
  all_goals try simp only [std1, ne_eq] at *
  all_goals try simp only [feqAttr, etaS, std1, std2, Nat.reduceAdd, ne_eq] at *
  all_goals first | trivial | (cases x; cases y; simp_all; done) | (simp only [szAttr] at *; omega) | grind [szAttr])
def E15 : D.Env := E14.add 155 feqAttr
theorem E15ok : EOk Tryz.prog E15 := E14ok.add k155_14
set_option maxHeartbeats 2000000 in
theorem k100_15 : fszAttrS.ok Tryz.prog 100 := Fct.of (S := fszAttrS) (L := fun ⟨l, n, _⟩ => fun | 5 => some (LszS .attr szAttr l n) | _ => none) (kp := [0,1,4,5,11,15,25,1000011,1000015,1000025]) E15ok Tryz.func100 (by kernel_rfl) (by kernel_rfl) (by
  rintro ⟨(l : List SAttr), (n : Int), _⟩ hp
  refine holds_of (X := .br (decide (IntKind.i64.wrap (n - (↑l.length : Int)) < (0 : Int)))
 (.leaf (mkR fszAttrS.rs ((-1 : Int), ())) [] [])
 (lpx (LszS .attr szAttr l n) (IntKind.i64.wrap (n - (↑l.length : Int)), ((0 : Int), ())) fun (y2 : Int × Int × PUnit) bk2 =>
 .br (decide (y2.2.1 < (↑l.length : Int)))
 (.ob ((0 : Int) ≤ y2.2.1 ∧ y2.2.1 < (↑l.length : Int)) <| .cl fszAttr (l.getD y2.2.1.toNat default, y2.1, ()) fun z2 =>
 .br (decide (z2.1 < (0 : Int)))
 (.leaf (mkR fszAttrS.rs ((-1 : Int), ())) [] [])
 (.ob (l = l) <| .ob (bk2 (z2.1, (IntKind.i64.wrap (y2.2.1 + (1 : Int)), ()))) <| .ok))
 (.leaf (mkR fszAttrS.rs (y2.1, ())) [] []))) (by kernel_rfl) ?_
  refine br_i (fun h1 => Fct.leafY ?_) (fun h1 => lpx_i ?_ fun (y2 : Int × Int × PUnit) i2 => br_i (fun h3 => ob_i ?_ fun o4 => cl_i ?_ fun o5 => (br_i (fun h6 => Fct.leafY ?_) (fun h6 => ob_i rfl fun _ => ob_i ?_ fun o7 => trivial))) (fun h3 => Fct.leafY ?_))
  all_goals try simp only [std1, ne_eq] at *
  all_goals try simp only [LszS, fszAttr, fszAttrS, etaS, std1, std2, Nat.reduceAdd, ne_eq] at *
  · have := good_len hp.1; simp only [maxLen] at this; rw [wrapId (by omega)] at h1
    rw [lessenNeg (by simp only [szL]; omega)]
  · have := good_len hp.1; simp only [maxLen] at this
    rw [wrapId (by omega)] at h1 ⊢
    exact ⟨by omega, by omega, h1, by simp⟩
  · omega
  · exact ⟨good_getD hp.1 (by omega), by omega, by omega⟩
  · have hs := sum_take_le szAttr l (y2.2.1.toNat + 1)
    rw [sum_take szAttr (by omega)] at hs
    rw [lessen_lt (by omega)] at h6
    rw [lessenNeg (by simp only [szL]; omega)]
  · have hw : IntKind.i64.wrap (y2.2.1 + 1) = y2.2.1 + 1 := wrapId (by have := good_len hp.1; simp only [maxLen] at this; omega)
    have h7 : ¬ lessen y2.1 (szAttr (l.getD y2.2.1.toNat default)) < 0 := by omega
    rw [lessen_lt (by omega)] at h7
    rw [hw, toNat1 (by omega), sum_take szAttr (by omega), lessen_ge (by omega)]
    exact ⟨⟨by omega, by omega, by omega, by omega⟩, by omega⟩
  · have e : l.take y2.2.1.toNat = l := List.take_of_length_le (by omega)
    rw [e] at i2
    have hz : ((szL szAttr l : Nat) : Int) = l.length + (l.map szAttr).sum := by simp only [szL]; omega
    rw [lessen_ge (by omega)]
    show y2.1 = n - ((szL szAttr l : Nat) : Int)
    omega)
def E16 : D.Env := E15.add 100 fszAttrS
theorem E16ok : EOk Tryz.prog E16 := E15ok.add k100_15
theorem k110_16 : ftoAttrS.ok Tryz.prog 110 := Fct.of (S := ftoAttrS) (L := fun ⟨l, _⟩ => fun | 3 => some (LtoS .attr l) | _ => none) (kp := [0,2,3,4,11,1000011]) E16ok Tryz.func110 (by kernel_rfl) (by kernel_rfl) (by
  rintro ⟨(l : List SAttr), _⟩ hp
  refine holds_of (X := .ob ((↑l.length : Int) = (↑l.length : Int) ∧
 (0 : Int) ≤ (↑l.length : Int) ∧
 (32 : Int) * (↑l.length : Int) ≤ (140737488355328 : Int) ∧ (↑l.length : Int) ≤ (140737488355328 : Int)) <| lpx (LtoS .attr l) ((0 : Int), (List.replicate (↑l.length : Int).toNat default, ())) fun (y2 : Int × List SAttr × PUnit) bk2 =>
 .br (decide (y2.1 < (↑l.length : Int)))
 (.ob ((0 : Int) ≤ y2.1 ∧ y2.1 < (↑l.length : Int)) <| .cl ftoAttr (l.getD y2.1.toNat default, ()) fun z2 =>
 .ob ((0 : Int) ≤ y2.1 ∧ y2.1 < (↑y2.2.1.length : Int)) <| .ob (y2.1.toNat < y2.2.1.length) <| .lt (List SAttr) (y2.2.1.modify y2.1.toNat fun z => z2.1) fun z3 =>
 .ob (l = l) <| .ob (bk2 (IntKind.i64.wrap (y2.1 + (1 : Int)), (z3, ()))) <| .ok)
 (.leaf (mkR ftoAttrS.rs (y2.2.1, ())) [] [])) (by kernel_rfl) ?_
  refine ob_i ?_ fun o1 => lpx_i ?_ fun (y2 : Int × List SAttr × PUnit) i2 => br_i (fun h3 => ob_i ?_ fun o4 => cl_i ?_ fun o5 => (ob_i ?_ fun o6 => ob_i ?_ fun o7 => lt_i (ob_i rfl fun _ => ob_i ?_ fun o8 => trivial))) (fun h3 => Fct.leafY ?_)
  all_goals try simp only [std1, ne_eq] at *
  all_goals try simp only [LtoS, ftoAttr, ftoAttrS, etaS, std1, std2, Nat.reduceAdd, ne_eq] at *
  · have := szL_len szAttr l; omega
  · exact ⟨by omega, by omega, by simp⟩
  · omega
  · have hs := sum_take_le szAttr l (y2.1.toNat + 1)
    rw [sum_take szAttr (by omega)] at hs
    simp only [szL] at hp; omega
  · rw [i2.2.2]; simp; omega
  · rw [i2.2.2]; simp; omega
  · have hw : IntKind.i64.wrap (y2.1 + 1) = y2.1 + 1 := wrapId (by have := szL_len szAttr l; omega)
    rw [hw, toNat1 (by omega), i2.2.2]
    refine ⟨⟨by omega, by omega, ?_⟩, by omega⟩
    rw [show l.length - y2.1.toNat = (l.length - (y2.1.toNat + 1)) + 1 from by omega, List.replicate_succ, mod_at (by simp; omega), take_succ (by omega)]
    simp
  · have e : l.take y2.1.toNat = l := List.take_of_length_le (by omega)
    rw [i2.2.2, e]; simp; omega)
def E17 : D.Env := E16.add 110 ftoAttrS
theorem E17ok : EOk Tryz.prog E17 := E16ok.add k110_16
set_option maxHeartbeats 2000000 in
theorem k120_17 : feqAttrS.ok Tryz.prog 120 := Fct.of (S := feqAttrS) (L := fun ⟨l, m, _⟩ => fun | 4 => some (LeqS .attr l m) | _ => none) (kp := [0,1,4,5,10,14,26,1000010,1000014,1000026]) E17ok Tryz.func120 (by kernel_rfl) (by kernel_rfl) (by
  rintro ⟨(l : List SAttr), (m : List SAttr), _⟩ hp
  refine holds_of (X := .br ((↑l.length : Int) != (↑m.length : Int))
 (.leaf (mkR feqAttrS.rs (false, ())) [] [])
 (lpx (LeqS .attr l m) ((0 : Int), ()) fun (y2 : Int × PUnit) bk2 =>
 .br (decide (y2.1 < (↑l.length : Int)))
 (.ob ((0 : Int) ≤ y2.1 ∧ y2.1 < (↑l.length : Int)) <| .ob ((0 : Int) ≤ y2.1 ∧ y2.1 < (↑m.length : Int)) <| .cl feqAttr (l.getD y2.1.toNat default, m.getD y2.1.toNat default, ()) fun z2 =>
 .br (!z2.1)
 (.leaf (mkR feqAttrS.rs (false, ())) [] [])
 (.ob (l = l) <| .ob (m = m) <| .ob (bk2 (IntKind.i64.wrap (y2.1 + (1 : Int)), ())) <| .ok))
 (.leaf (mkR feqAttrS.rs (true, ())) [] []))) (by kernel_rfl) ?_
  refine br_i (fun h1 => Fct.leafY ?_) (fun h1 => lpx_i ?_ fun (y2 : Int × PUnit) i2 => br_i (fun h3 => ob_i ?_ fun o4 => ob_i ?_ fun o5 => cl_i trivial fun _ => (br_i (fun h6 => Fct.leafY ?_) (fun h6 => ob_i rfl fun _ => ob_i rfl fun _ => ob_i ?_ fun o7 => trivial))) (fun h3 => Fct.leafY ?_))
  all_goals try simp only [std1, ne_eq] at *
  all_goals try simp only [LeqS, feqAttr, feqAttrS, etaS, std1, std2, Nat.reduceAdd, ne_eq] at *
  · rw [decide_eq_false]; rintro rfl; omega
  · exact ⟨by omega, by omega, by simp⟩
  · omega
  · omega
  · rw [decide_eq_false]; rintro rfl; exact absurd rfl h6
  · have hw : IntKind.i64.wrap (y2.1 + 1) = y2.1 + 1 := wrapId (by omega)
    rw [hw, toNat1 (by omega)]
    refine ⟨⟨by omega, by omega, ?_⟩, by omega⟩
    rw [take_succ (by omega), take_succ (by omega), i2.2.2, h6]
  · have e : l.take y2.1.toNat = l := List.take_of_length_le (by omega)
    have e2 : m.take y2.1.toNat = m := List.take_of_length_le (by omega)
    rw [decide_eq_true]; rw [← e, ← e2, i2.2.2])
def E18 : D.Env := E17.add 120 feqAttrS
theorem E18ok : EOk Tryz.prog E18 := E17ok.add k120_17
set_option maxHeartbeats 2000000 in
theorem k67_18 : fszToken.ok Tryz.prog 67 := Fct.of (S := fszToken) (L := fun _ _ => none) (kp := [1,2,4,11,17,24,1000011,1000017,1000024]) E18ok Tryz.func67 (by kernel_rfl) (by kernel_rfl) (by
  rintro ⟨(x : SToken), (n : Int), _⟩ hp
  refine holds_of (X := .br (decide (IntKind.i64.wrap (n - (↑x.name.size : Int)) < (0 : Int)))
 (.leaf (mkR fszToken.rs ((-1 : Int), ())) [] [])
 (.cl fszAttrS (x.attrs, IntKind.i64.wrap (n - (↑x.name.size : Int)), ()) fun z2 =>
 .br (decide (z2.1 < (0 : Int)))
 (.leaf (mkR fszToken.rs ((-1 : Int), ())) [] [])
 (.br (decide (IntKind.i64.wrap (z2.1 - (↑x.text.size : Int)) < (0 : Int)))
 (.leaf (mkR fszToken.rs ((-1 : Int), ())) [] [])
 (.leaf (mkR fszToken.rs (IntKind.i64.wrap (z2.1 - (↑x.text.size : Int)), ())) [] [])))) (by kernel_rfl) ?_
  refine br_i (fun h1 => Fct.leafY ?_) (fun h1 => cl_i ?_ fun o2 => (br_i (fun h3 => Fct.leafY ?_) (fun h3 => br_i (fun h4 => Fct.leafY ?_) (fun h4 => Fct.leafY ?_))))
  all_goals try simp only [std1, ne_eq] at *
  all_goals try simp only [fszAttrS, fszToken, etaS, std1, std2, Nat.reduceAdd, ne_eq, Sh.good, Sh.fc, enc, List.forall_mem_cons, List.not_mem_nil, false_implies, implies_true, goodC, maxLen] at *
  all_goals grind [wrapId', lessen, szL, szToken])
def E19 : D.Env := E18.add 67 fszToken
theorem E19ok : EOk Tryz.prog E19 := E18ok.add k67_18
theorem k79_19 : ftoToken.ok Tryz.prog 79 := Fct.of (S := ftoToken) (L := fun _ _ => none) (kp := [1,2,3]) E19ok Tryz.func79 (by kernel_rfl) (by kernel_rfl) (by
  rintro ⟨(x : SToken), _⟩ hp
  refine holds_of (X := .cl ftoAttrS (x.attrs, ()) fun z2 =>
 .leaf (mkR ftoToken.rs (⟨x.kind, x.name, z2.1, x.text⟩, ())) [] []) (by kernel_rfl) ?_
  refine cl_i ?_ fun o1 => (Fct.leafY ?_)
  all_goals try simp only [std1, ne_eq] at *
  all_goals try simp only [ftoAttrS, ftoToken, etaS, std1, std2, Nat.reduceAdd, ne_eq] at *
  all_goals first | trivial | rfl | grind [szL, szToken])
def E20 : D.Env := E19.add 79 ftoToken
theorem E20ok : EOk Tryz.prog E20 := E19ok.add k79_19
set_option maxHeartbeats 2000000 in
theorem k91_20 : feqToken.ok Tryz.prog 91 := Fct.of (S := feqToken) (L := fun _ _ => none) (kp := [2,3,4,9,14,20,25,1000009,1000014,1000020,1000025]) E20ok Tryz.func91 (by kernel_rfl) (by kernel_rfl) (by
  rintro ⟨(x : SToken), (y : SToken), _⟩ hp
  refine holds_of (X := .br (x.kind != y.kind)
 (.leaf (mkR feqToken.rs (false, ())) [] [])
 (.br (!x.name.toList == y.name.toList)
 (.leaf (mkR feqToken.rs (false, ())) [] [])
 (.cl feqAttrS (x.attrs, y.attrs, ()) fun z2 =>
 .br (!z2.1)
 (.leaf (mkR feqToken.rs (false, ())) [] [])
 (.br (!x.text.toList == y.text.toList)
 (.leaf (mkR feqToken.rs (false, ())) [] [])
 (.leaf (mkR feqToken.rs (true, ())) [] []))))) (by kernel_rfl) ?_
  refine br_i (fun h1 => Fct.leafY ?_) (fun h1 => br_i (fun h2 => Fct.leafY ?_) (fun h2 => cl_i ?_ fun o3 => (br_i (fun h4 => Fct.leafY ?_) (fun h4 => br_i (fun h5 => Fct.leafY ?_) (fun h5 => Fct.leafY ?_)))))
  all_goals try simp only [std1, ne_eq] at *
  all_goals try simp only [feqAttrS, feqToken, etaS, std1, std2, Nat.reduceAdd, ne_eq] at *
  all_goals first | trivial | (cases x; cases y; simp_all; done) | (simp only [szL, szToken] at *; omega) | grind [szL, szToken])
def E21 : D.Env := E20.add 91 feqToken
theorem E21ok : EOk Tryz.prog E21 := E20ok.add k91_20
set_option maxHeartbeats 2000000 in
theorem k27_21 : fszTokenS.ok Tryz.prog 27 := Fct.of (S := fszTokenS) (L := fun ⟨l, n, _⟩ => fun | 5 => some (LszS .token szToken l n) | _ => none) (kp := [0,1,4,5,11,15,25,1000011,1000015,1000025]) E21ok Tryz.func27 (by kernel_rfl) (by kernel_rfl) (by
  rintro ⟨(l : List SToken), (n : Int), _⟩ hp
  refine holds_of (X := .br (decide (IntKind.i64.wrap (n - (↑l.length : Int)) < (0 : Int)))
 (.leaf (mkR fszTokenS.rs ((-1 : Int), ())) [] [])
 (lpx (LszS .token szToken l n) (IntKind.i64.wrap (n - (↑l.length : Int)), ((0 : Int), ())) fun (y2 : Int × Int × PUnit) bk2 =>
 .br (decide (y2.2.1 < (↑l.length : Int)))
 (.ob ((0 : Int) ≤ y2.2.1 ∧ y2.2.1 < (↑l.length : Int)) <| .cl fszToken (l.getD y2.2.1.toNat default, y2.1, ()) fun z2 =>
 .br (decide (z2.1 < (0 : Int)))
 (.leaf (mkR fszTokenS.rs ((-1 : Int), ())) [] [])
 (.ob (l = l) <| .ob (bk2 (z2.1, (IntKind.i64.wrap (y2.2.1 + (1 : Int)), ()))) <| .ok))
 (.leaf (mkR fszTokenS.rs (y2.1, ())) [] []))) (by kernel_rfl) ?_
  refine br_i (fun h1 => Fct.leafY ?_) (fun h1 => lpx_i ?_ fun (y2 : Int × Int × PUnit) i2 => br_i (fun h3 => ob_i ?_ fun o4 => cl_i ?_ fun o5 => (br_i (fun h6 => Fct.leafY ?_) (fun h6 => ob_i rfl fun _ => ob_i ?_ fun o7 => trivial))) (fun h3 => Fct.leafY ?_))
  all_goals try simp only [std1, ne_eq] at *
  all_goals try simp only [LszS, fszToken, fszTokenS, etaS, std1, std2, Nat.reduceAdd, ne_eq] at *
  · have := good_len hp.1; simp only [maxLen] at this; rw [wrapId (by omega)] at h1
    rw [lessenNeg (by simp only [szL]; omega)]
  · have := good_len hp.1; simp only [maxLen] at this
    rw [wrapId (by omega)] at h1 ⊢
    exact ⟨by omega, by omega, h1, by simp⟩
  · omega
  · exact ⟨good_getD hp.1 (by omega), by omega, by omega⟩
  · have hs := sum_take_le szToken l (y2.2.1.toNat + 1)
    rw [sum_take szToken (by omega)] at hs
    rw [lessen_lt (by omega)] at h6
    rw [lessenNeg (by simp only [szL]; omega)]
  · have hw : IntKind.i64.wrap (y2.2.1 + 1) = y2.2.1 + 1 := wrapId (by have := good_len hp.1; simp only [maxLen] at this; omega)
    have h7 : ¬ lessen y2.1 (szToken (l.getD y2.2.1.toNat default)) < 0 := by omega
    rw [lessen_lt (by omega)] at h7
    rw [hw, toNat1 (by omega), sum_take szToken (by omega), lessen_ge (by omega)]
    exact ⟨⟨by omega, by omega, by omega, by omega⟩, by omega⟩
  · have e : l.take y2.2.1.toNat = l := List.take_of_length_le (by omega)
    rw [e] at i2
    have hz : ((szL szToken l : Nat) : Int) = l.length + (l.map szToken).sum := by simp only [szL]; omega
    rw [lessen_ge (by omega)]
    show y2.1 = n - ((szL szToken l : Nat) : Int)
    omega)
def E22 : D.Env := E21.add 27 fszTokenS
theorem E22ok : EOk Tryz.prog E22 := E21ok.add k27_21
theorem k42_22 : ftoTokenS.ok Tryz.prog 42 := Fct.of (S := ftoTokenS) (L := fun ⟨l, _⟩ => fun | 3 => some (LtoS .token l) | _ => none) (kp := [0,2,3,4,11,1000011]) E22ok Tryz.func42 (by kernel_rfl) (by kernel_rfl) (by
  rintro ⟨(l : List SToken), _⟩ hp
  refine holds_of (X := .ob ((↑l.length : Int) = (↑l.length : Int) ∧
 (0 : Int) ≤ (↑l.length : Int) ∧
 (64 : Int) * (↑l.length : Int) ≤ (140737488355328 : Int) ∧ (↑l.length : Int) ≤ (140737488355328 : Int)) <| lpx (LtoS .token l) ((0 : Int), (List.replicate (↑l.length : Int).toNat default, ())) fun (y2 : Int × List SToken × PUnit) bk2 =>
 .br (decide (y2.1 < (↑l.length : Int)))
 (.ob ((0 : Int) ≤ y2.1 ∧ y2.1 < (↑l.length : Int)) <| .cl ftoToken (l.getD y2.1.toNat default, ()) fun z2 =>
 .ob ((0 : Int) ≤ y2.1 ∧ y2.1 < (↑y2.2.1.length : Int)) <| .ob (y2.1.toNat < y2.2.1.length) <| .lt (List SToken) (y2.2.1.modify y2.1.toNat fun z => z2.1) fun z3 =>
 .ob (l = l) <| .ob (bk2 (IntKind.i64.wrap (y2.1 + (1 : Int)), (z3, ()))) <| .ok)
 (.leaf (mkR ftoTokenS.rs (y2.2.1, ())) [] [])) (by kernel_rfl) ?_
  refine ob_i ?_ fun o1 => lpx_i ?_ fun (y2 : Int × List SToken × PUnit) i2 => br_i (fun h3 => ob_i ?_ fun o4 => cl_i ?_ fun o5 => (ob_i ?_ fun o6 => ob_i ?_ fun o7 => lt_i (ob_i rfl fun _ => ob_i ?_ fun o8 => trivial))) (fun h3 => Fct.leafY ?_)
  all_goals try simp only [std1, ne_eq] at *
  all_goals try simp only [LtoS, ftoToken, ftoTokenS, etaS, std1, std2, Nat.reduceAdd, ne_eq] at *
  · have := szL_len szToken l; omega
  · exact ⟨by omega, by omega, by simp⟩
  · omega
  · have hs := sum_take_le szToken l (y2.1.toNat + 1)
    rw [sum_take szToken (by omega)] at hs
    simp only [szL] at hp; omega
  · rw [i2.2.2]; simp; omega
  · rw [i2.2.2]; simp; omega
  · have hw : IntKind.i64.wrap (y2.1 + 1) = y2.1 + 1 := wrapId (by have := szL_len szToken l; omega)
    rw [hw, toNat1 (by omega), i2.2.2]
    refine ⟨⟨by omega, by omega, ?_⟩, by omega⟩
    rw [show l.length - y2.1.toNat = (l.length - (y2.1.toNat + 1)) + 1 from by omega, List.replicate_succ, mod_at (by simp; omega), take_succ (by omega)]
    simp
  · have e : l.take y2.1.toNat = l := List.take_of_length_le (by omega)
    rw [i2.2.2, e]; simp; omega)
def E23 : D.Env := E22.add 42 ftoTokenS
theorem E23ok : EOk Tryz.prog E23 := E22ok.add k42_22
set_option maxHeartbeats 2000000 in
theorem k56_23 : feqTokenS.ok Tryz.prog 56 := Fct.of (S := feqTokenS) (L := fun ⟨l, m, _⟩ => fun | 4 => some (LeqS .token l m) | _ => none) (kp := [0,1,4,5,10,14,26,1000010,1000014,1000026]) E23ok Tryz.func56 (by kernel_rfl) (by kernel_rfl) (by
  rintro ⟨(l : List SToken), (m : List SToken), _⟩ hp
  refine holds_of (X := .br ((↑l.length : Int) != (↑m.length : Int))
 (.leaf (mkR feqTokenS.rs (false, ())) [] [])
 (lpx (LeqS .token l m) ((0 : Int), ()) fun (y2 : Int × PUnit) bk2 =>
 .br (decide (y2.1 < (↑l.length : Int)))
 (.ob ((0 : Int) ≤ y2.1 ∧ y2.1 < (↑l.length : Int)) <| .ob ((0 : Int) ≤ y2.1 ∧ y2.1 < (↑m.length : Int)) <| .cl feqToken (l.getD y2.1.toNat default, m.getD y2.1.toNat default, ()) fun z2 =>
 .br (!z2.1)
 (.leaf (mkR feqTokenS.rs (false, ())) [] [])
 (.ob (l = l) <| .ob (m = m) <| .ob (bk2 (IntKind.i64.wrap (y2.1 + (1 : Int)), ())) <| .ok))
 (.leaf (mkR feqTokenS.rs (true, ())) [] []))) (by kernel_rfl) ?_
  refine br_i (fun h1 => Fct.leafY ?_) (fun h1 => lpx_i ?_ fun (y2 : Int × PUnit) i2 => br_i (fun h3 => ob_i ?_ fun o4 => ob_i ?_ fun o5 => cl_i ?_ fun o6 => (br_i (fun h7 => Fct.leafY ?_) (fun h7 => ob_i rfl fun _ => ob_i rfl fun _ => ob_i ?_ fun o8 => trivial))) (fun h3 => Fct.leafY ?_))
  all_goals try simp only [std1, ne_eq] at *
  all_goals try simp only [LeqS, feqToken, feqTokenS, etaS, std1, std2, Nat.reduceAdd, ne_eq] at *
  all_goals have hl := szL_len szToken l
  · rw [decide_eq_false]; rintro rfl; omega
  · exact ⟨by omega, by omega, by simp⟩
  · omega
  · omega
  · have hs := szL_get szToken (l := l) (i := y2.1.toNat) (by omega); omega
  · rw [decide_eq_false]; rintro rfl; first | exact absurd rfl h6 | exact absurd rfl h7
  · have hw : IntKind.i64.wrap (y2.1 + 1) = y2.1 + 1 := wrapId (by omega)
    rw [hw, toNat1 (by omega)]
    refine ⟨⟨by omega, by omega, ?_⟩, by omega⟩
    rw [take_succ (by omega), take_succ (by omega), i2.2.2]; first | rw [h6] | rw [h7]
  · have e : l.take y2.1.toNat = l := List.take_of_length_le (by omega)
    have e2 : m.take y2.1.toNat = m := List.take_of_length_le (by omega)
    rw [decide_eq_true]; rw [← e, ← e2, i2.2.2])
def E24 : D.Env := E23.add 56 feqTokenS
theorem E24ok : EOk Tryz.prog E24 := E23ok.add k56_23
set_option maxHeartbeats 2000000 in
theorem k26_24 : fszTokenizer.ok Tryz.prog 26 := Fct.of (S := fszTokenizer) (L := fun _ _ => none) (kp := [1,2,4,11,1000011]) E24ok Tryz.func26 (by kernel_rfl) (by kernel_rfl) (by
  rintro ⟨(x : STokenizer), (n : Int), _⟩ hp
  refine holds_of (X := .br (decide (IntKind.i64.wrap (n - (↑x.rest.size : Int)) < (0 : Int)))
 (.leaf (mkR fszTokenizer.rs ((-1 : Int), ())) [] [])
 (.leaf (mkR fszTokenizer.rs (IntKind.i64.wrap (n - (↑x.rest.size : Int)), ())) [] [])) (by kernel_rfl) ?_
  refine br_i (fun h1 => Fct.leafY ?_) (fun h1 => Fct.leafY ?_)
  all_goals try simp only [std1, ne_eq] at *
  all_goals try simp only [fszTokenizer, etaS, std1, std2, Nat.reduceAdd, ne_eq, Sh.good, Sh.fc, enc, List.forall_mem_cons, List.not_mem_nil, false_implies, implies_true, goodC, maxLen] at *
  all_goals grind [wrapId', lessen, szTokenizer])
def E25 : D.Env := E24.add 26 fszTokenizer
theorem E25ok : EOk Tryz.prog E25 := E24ok.add k26_24
theorem k41_25 : ftoTokenizer.ok Tryz.prog 41 := Fct.of (S := ftoTokenizer) (L := fun _ _ => none) (kp := [1,2,3]) E25ok Tryz.func41 (by kernel_rfl) (by kernel_rfl) (by
  rintro ⟨(x : STokenizer), _⟩ hp
  refine holds_of (X := .leaf (mkR ftoTokenizer.rs (x, ())) [] []) (by kernel_rfl) ?_
  refine Fct.leafY ?_
  all_goals try simp only [std1, ne_eq] at *
  all_goals try simp only [ftoTokenizer, etaS, std1, std2, Nat.reduceAdd, ne_eq] at *
  all_goals first | trivial | rfl | grind [szTokenizer])
def E26 : D.Env := E25.add 41 ftoTokenizer
theorem E26ok : EOk Tryz.prog E26 := E25ok.add k41_25
set_option maxHeartbeats 2000000 in
theorem k55_26 : feqTokenizer.ok Tryz.prog 55 := Fct.of (S := feqTokenizer) (L := fun _ _ => none) (kp := [2,3,4,9,1000009]) E26ok Tryz.func55 (by kernel_rfl) (by kernel_rfl) (by
  rintro ⟨(x : STokenizer), (y : STokenizer), _⟩ hp
  refine holds_of (X := .br (!x.rest.toList == y.rest.toList)
 (.leaf (mkR feqTokenizer.rs (false, ())) [] [])
 (.leaf (mkR feqTokenizer.rs (true, ())) [] [])) (by kernel_rfl) ?_
  refine br_i (fun h1 => Fct.leafY ?_) (fun h1 => Fct.leafY ?_)
  all_goals try simp only [std1, ne_eq] at *
  all_goals try simp only [feqTokenizer, etaS, std1, std2, Nat.reduceAdd, ne_eq] at *
  all_goals first | trivial | (cases x; cases y; simp_all; done) | (simp only [szTokenizer] at *; omega) | grind [szTokenizer])
def E27 : D.Env := E26.add 55 feqTokenizer
theorem E27ok : EOk Tryz.prog E27 := E26ok.add k55_26
set_option maxHeartbeats 2000000 in
theorem k101_27 : fszNode.ok Tryz.prog 101 := Fct.of (S := fszNode) (L := fun _ _ => none) (kp := [1,2,4,11,18,24,1000011,1000018,1000024]) E27ok Tryz.func101 (by kernel_rfl) (by kernel_rfl) (by
  rintro ⟨(x : SNode), (n : Int), _⟩ hp
  refine holds_of (X := .br (decide (IntKind.i64.wrap (n - (↑x.name.size : Int)) < (0 : Int)))
 (.leaf (mkR fszNode.rs ((-1 : Int), ())) [] [])
 (.br (decide (IntKind.i64.wrap (IntKind.i64.wrap (n - (↑x.name.size : Int)) - (↑x.text.size : Int)) < (0 : Int)))
 (.leaf (mkR fszNode.rs ((-1 : Int), ())) [] [])
 (.cl fszAttrS (x.attrs, IntKind.i64.wrap (IntKind.i64.wrap (n - (↑x.name.size : Int)) - (↑x.text.size : Int)), ()) fun z2 =>
 .br (decide (z2.1 < (0 : Int)))
 (.leaf (mkR fszNode.rs ((-1 : Int), ())) [] [])
 (.leaf (mkR fszNode.rs (z2.1, ())) [] [])))) (by kernel_rfl) ?_
  refine br_i (fun h1 => Fct.leafY ?_) (fun h1 => br_i (fun h2 => Fct.leafY ?_) (fun h2 => cl_i ?_ fun o3 => (br_i (fun h4 => Fct.leafY ?_) (fun h4 => Fct.leafY ?_))))
  all_goals try simp only [std1, ne_eq] at *
  all_goals try simp only [fszAttrS, fszNode, etaS, std1, std2, Nat.reduceAdd, ne_eq, Sh.good, Sh.fc, enc, List.forall_mem_cons, List.not_mem_nil, false_implies, implies_true, goodC, maxLen] at *
  all_goals grind [wrapId', lessen, szL, szNode])
def E28 : D.Env := E27.add 101 fszNode
theorem E28ok : EOk Tryz.prog E28 := E27ok.add k101_27
theorem k111_28 : ftoNode.ok Tryz.prog 111 := Fct.of (S := ftoNode) (L := fun _ _ => none) (kp := [1,2,3]) E28ok Tryz.func111 (by kernel_rfl) (by kernel_rfl) (by
  rintro ⟨(x : SNode), _⟩ hp
  refine holds_of (X := .cl ftoAttrS (x.attrs, ()) fun z2 =>
 .leaf (mkR ftoNode.rs (⟨x.name, x.text, x.parent, z2.1⟩, ())) [] []) (by kernel_rfl) ?_
  refine cl_i ?_ fun o1 => (Fct.leafY ?_)
  all_goals try simp only [std1, ne_eq] at *
  all_goals try simp only [ftoAttrS, ftoNode, etaS, std1, std2, Nat.reduceAdd, ne_eq] at *
  all_goals first | trivial | rfl | grind [szL, szNode])
def E29 : D.Env := E28.add 111 ftoNode
theorem E29ok : EOk Tryz.prog E29 := E28ok.add k111_28
set_option maxHeartbeats 2000000 in
theorem k121_29 : feqNode.ok Tryz.prog 121 := Fct.of (S := feqNode) (L := fun _ _ => none) (kp := [2,3,4,9,14,19,25,1000009,1000014,1000019,1000025]) E29ok Tryz.func121 (by kernel_rfl) (by kernel_rfl) (by
  rintro ⟨(x : SNode), (y : SNode), _⟩ hp
  refine holds_of (X := .br (!x.name.toList == y.name.toList)
 (.leaf (mkR feqNode.rs (false, ())) [] [])
 (.br (!x.text.toList == y.text.toList)
 (.leaf (mkR feqNode.rs (false, ())) [] [])
 (.br (x.parent != y.parent)
 (.leaf (mkR feqNode.rs (false, ())) [] [])
 (.cl feqAttrS (x.attrs, y.attrs, ()) fun z2 =>
 .br (!z2.1)
 (.leaf (mkR feqNode.rs (false, ())) [] [])
 (.leaf (mkR feqNode.rs (true, ())) [] []))))) (by kernel_rfl) ?_
  refine br_i (fun h1 => Fct.leafY ?_) (fun h1 => br_i (fun h2 => Fct.leafY ?_) (fun h2 => br_i (fun h3 => Fct.leafY ?_) (fun h3 => cl_i ?_ fun o4 => (br_i (fun h5 => Fct.leafY ?_) (fun h5 => Fct.leafY ?_)))))
  all_goals try simp only [std1, ne_eq] at *
  all_goals try simp only [feqAttrS, feqNode, etaS, std1, std2, Nat.reduceAdd, ne_eq] at *
  all_goals first | trivial | (cases x; cases y; simp_all; done) | (simp only [szL, szNode] at *; omega) | grind [szL, szNode])
def E30 : D.Env := E29.add 121 feqNode
theorem E30ok : EOk Tryz.prog E30 := E29ok.add k121_29
set_option maxHeartbeats 2000000 in
theorem k68_30 : fszNodeS.ok Tryz.prog 68 := Fct.of (S := fszNodeS) (L := fun ⟨l, n, _⟩ => fun | 5 => some (LszS .node szNode l n) | _ => none) (kp := [0,1,4,5,11,15,25,1000011,1000015,1000025]) E30ok Tryz.func68 (by kernel_rfl) (by kernel_rfl) (by
  rintro ⟨(l : List SNode), (n : Int), _⟩ hp
  refine holds_of (X := .br (decide (IntKind.i64.wrap (n - (↑l.length : Int)) < (0 : Int)))
 (.leaf (mkR fszNodeS.rs ((-1 : Int), ())) [] [])
 (lpx (LszS .node szNode l n) (IntKind.i64.wrap (n - (↑l.length : Int)), ((0 : Int), ())) fun (y2 : Int × Int × PUnit) bk2 =>
 .br (decide (y2.2.1 < (↑l.length : Int)))
 (.ob ((0 : Int) ≤ y2.2.1 ∧ y2.2.1 < (↑l.length : Int)) <| .cl fszNode (l.getD y2.2.1.toNat default, y2.1, ()) fun z2 =>
 .br (decide (z2.1 < (0 : Int)))
 (.leaf (mkR fszNodeS.rs ((-1 : Int), ())) [] [])
 (.ob (l = l) <| .ob (bk2 (z2.1, (IntKind.i64.wrap (y2.2.1 + (1 : Int)), ()))) <| .ok))
 (.leaf (mkR fszNodeS.rs (y2.1, ())) [] []))) (by kernel_rfl) ?_
  refine br_i (fun h1 => Fct.leafY ?_) (fun h1 => lpx_i ?_ fun (y2 : Int × Int × PUnit) i2 => br_i (fun h3 => ob_i ?_ fun o4 => cl_i ?_ fun o5 => (br_i (fun h6 => Fct.leafY ?_) (fun h6 => ob_i rfl fun _ => ob_i ?_ fun o7 => trivial))) (fun h3 => Fct.leafY ?_))
  all_goals try simp only [std1, ne_eq] at *
  all_goals try simp only [LszS, fszNode, fszNodeS, etaS, std1, std2, Nat.reduceAdd, ne_eq] at *
  · have := good_len hp.1; simp only [maxLen] at this; rw [wrapId (by omega)] at h1
    rw [lessenNeg (by simp only [szL]; omega)]
  · have := good_len hp.1; simp only [maxLen] at this
    rw [wrapId (by omega)] at h1 ⊢
    exact ⟨by omega, by omega, h1, by simp⟩
  · omega
  · exact ⟨good_getD hp.1 (by omega), by omega, by omega⟩
  · have hs := sum_take_le szNode l (y2.2.1.toNat + 1)
    rw [sum_take szNode (by omega)] at hs
    rw [lessen_lt (by omega)] at h6
    rw [lessenNeg (by simp only [szL]; omega)]
  · have hw : IntKind.i64.wrap (y2.2.1 + 1) = y2.2.1 + 1 := wrapId (by have := good_len hp.1; simp only [maxLen] at this; omega)
    have h7 : ¬ lessen y2.1 (szNode (l.getD y2.2.1.toNat default)) < 0 := by omega
    rw [lessen_lt (by omega)] at h7
    rw [hw, toNat1 (by omega), sum_take szNode (by omega), lessen_ge (by omega)]
    exact ⟨⟨by omega, by omega, by omega, by omega⟩, by omega⟩
  · have e : l.take y2.2.1.toNat = l := List.take_of_length_le (by omega)
    rw [e] at i2
    have hz : ((szL szNode l : Nat) : Int) = l.length + (l.map szNode).sum := by simp only [szL]; omega
    rw [lessen_ge (by omega)]
    show y2.1 = n - ((szL szNode l : Nat) : Int)
    omega)
def E31 : D.Env := E30.add 68 fszNodeS
theorem E31ok : EOk Tryz.prog E31 := E30ok.add k68_30
theorem k80_31 : ftoNodeS.ok Tryz.prog 80 := Fct.of (S := ftoNodeS) (L := fun ⟨l, _⟩ => fun | 3 => some (LtoS .node l) | _ => none) (kp := [0,2,3,4,11,1000011]) E31ok Tryz.func80 (by kernel_rfl) (by kernel_rfl) (by
  rintro ⟨(l : List SNode), _⟩ hp
  refine holds_of (X := .ob ((↑l.length : Int) = (↑l.length : Int) ∧
 (0 : Int) ≤ (↑l.length : Int) ∧
 (64 : Int) * (↑l.length : Int) ≤ (140737488355328 : Int) ∧ (↑l.length : Int) ≤ (140737488355328 : Int)) <| lpx (LtoS .node l) ((0 : Int), (List.replicate (↑l.length : Int).toNat default, ())) fun (y2 : Int × List SNode × PUnit) bk2 =>
 .br (decide (y2.1 < (↑l.length : Int)))
 (.ob ((0 : Int) ≤ y2.1 ∧ y2.1 < (↑l.length : Int)) <| .cl ftoNode (l.getD y2.1.toNat default, ()) fun z2 =>
 .ob ((0 : Int) ≤ y2.1 ∧ y2.1 < (↑y2.2.1.length : Int)) <| .ob (y2.1.toNat < y2.2.1.length) <| .lt (List SNode) (y2.2.1.modify y2.1.toNat fun z => z2.1) fun z3 =>
 .ob (l = l) <| .ob (bk2 (IntKind.i64.wrap (y2.1 + (1 : Int)), (z3, ()))) <| .ok)
 (.leaf (mkR ftoNodeS.rs (y2.2.1, ())) [] [])) (by kernel_rfl) ?_
  refine ob_i ?_ fun o1 => lpx_i ?_ fun (y2 : Int × List SNode × PUnit) i2 => br_i (fun h3 => ob_i ?_ fun o4 => cl_i ?_ fun o5 => (ob_i ?_ fun o6 => ob_i ?_ fun o7 => lt_i (ob_i rfl fun _ => ob_i ?_ fun o8 => trivial))) (fun h3 => Fct.leafY ?_)
  all_goals try simp only [std1, ne_eq] at *
  all_goals try simp only [LtoS, ftoNode, ftoNodeS, etaS, std1, std2, Nat.reduceAdd, ne_eq] at *
  · have := szL_len szNode l; omega
  · exact ⟨by omega, by omega, by simp⟩
  · omega
  · have hs := sum_take_le szNode l (y2.1.toNat + 1)
    rw [sum_take szNode (by omega)] at hs
    simp only [szL] at hp; omega
  · rw [i2.2.2]; simp; omega
  · rw [i2.2.2]; simp; omega
  · have hw : IntKind.i64.wrap (y2.1 + 1) = y2.1 + 1 := wrapId (by have := szL_len szNode l; omega)
    rw [hw, toNat1 (by omega), i2.2.2]
    refine ⟨⟨by omega, by omega, ?_⟩, by omega⟩
    rw [show l.length - y2.1.toNat = (l.length - (y2.1.toNat + 1)) + 1 from by omega, List.replicate_succ, mod_at (by simp; omega), take_succ (by omega)]
    simp
  · have e : l.take y2.1.toNat = l := List.take_of_length_le (by omega)
    rw [i2.2.2, e]; simp; omega)
def E32 : D.Env := E31.add 80 ftoNodeS
theorem E32ok : EOk Tryz.prog E32 := E31ok.add k80_31
set_option maxHeartbeats 2000000 in
theorem k92_32 : feqNodeS.ok Tryz.prog 92 := Fct.of (S := feqNodeS) (L := fun ⟨l, m, _⟩ => fun | 4 => some (LeqS .node l m) | _ => none) (kp := [0,1,4,5,10,14,26,1000010,1000014,1000026]) E32ok Tryz.func92 (by kernel_rfl) (by kernel_rfl) (by
  rintro ⟨(l : List SNode), (m : List SNode), _⟩ hp
  refine holds_of (X := .br ((↑l.length : Int) != (↑m.length : Int))
 (.leaf (mkR feqNodeS.rs (false, ())) [] [])
 (lpx (LeqS .node l m) ((0 : Int), ()) fun (y2 : Int × PUnit) bk2 =>
 .br (decide (y2.1 < (↑l.length : Int)))
 (.ob ((0 : Int) ≤ y2.1 ∧ y2.1 < (↑l.length : Int)) <| .ob ((0 : Int) ≤ y2.1 ∧ y2.1 < (↑m.length : Int)) <| .cl feqNode (l.getD y2.1.toNat default, m.getD y2.1.toNat default, ()) fun z2 =>
 .br (!z2.1)
 (.leaf (mkR feqNodeS.rs (false, ())) [] [])
 (.ob (l = l) <| .ob (m = m) <| .ob (bk2 (IntKind.i64.wrap (y2.1 + (1 : Int)), ())) <| .ok))
 (.leaf (mkR feqNodeS.rs (true, ())) [] []))) (by kernel_rfl) ?_
  refine br_i (fun h1 => Fct.leafY ?_) (fun h1 => lpx_i ?_ fun (y2 : Int × PUnit) i2 => br_i (fun h3 => ob_i ?_ fun o4 => ob_i ?_ fun o5 => cl_i ?_ fun o6 => (br_i (fun h7 => Fct.leafY ?_) (fun h7 => ob_i rfl fun _ => ob_i rfl fun _ => ob_i ?_ fun o8 => trivial))) (fun h3 => Fct.leafY ?_))
  all_goals try simp only [std1, ne_eq] at *
  all_goals try simp only [LeqS, feqNode, feqNodeS, etaS, std1, std2, Nat.reduceAdd, ne_eq] at *
  all_goals have hl := szL_len szNode l
  · rw [decide_eq_false]; rintro rfl; omega
  · exact ⟨by omega, by omega, by simp⟩
  · omega
  · omega
  · have hs := szL_get szNode (l := l) (i := y2.1.toNat) (by omega); omega
  · rw [decide_eq_false]; rintro rfl; first | exact absurd rfl h6 | exact absurd rfl h7
  · have hw : IntKind.i64.wrap (y2.1 + 1) = y2.1 + 1 := wrapId (by omega)
    rw [hw, toNat1 (by omega)]
    refine ⟨⟨by omega, by omega, ?_⟩, by omega⟩
    rw [take_succ (by omega), take_succ (by omega), i2.2.2]; first | rw [h6] | rw [h7]
  · have e : l.take y2.1.toNat = l := List.take_of_length_le (by omega)
    have e2 : m.take y2.1.toNat = m := List.take_of_length_le (by omega)
    rw [decide_eq_true]; rw [← e, ← e2, i2.2.2])
def E33 : D.Env := E32.add 92 feqNodeS
theorem E33ok : EOk Tryz.prog E33 := E32ok.add k92_32
set_option maxHeartbeats 2000000 in
theorem k28_33 : fszBuilder.ok Tryz.prog 28 := Fct.of (S := fszBuilder) (L := fun _ _ => none) (kp := [1,2,4,10,16,1000010,1000016]) E33ok Tryz.func28 (by kernel_rfl) (by kernel_rfl) (by
  rintro ⟨(x : SBuilder), (n : Int), _⟩ hp
  refine holds_of (X := .cl fszNodeS (x.nodes, n, ()) fun z2 =>
 .br (decide (z2.1 < (0 : Int)))
 (.leaf (mkR fszBuilder.rs ((-1 : Int), ())) [] [])
 (.cl fszIntS (x.open_, z2.1, ()) fun z3 =>
 .br (decide (z3.1 < (0 : Int)))
 (.leaf (mkR fszBuilder.rs ((-1 : Int), ())) [] [])
 (.leaf (mkR fszBuilder.rs (z3.1, ())) [] []))) (by kernel_rfl) ?_
  refine cl_i ?_ fun o1 => (br_i (fun h2 => Fct.leafY ?_) (fun h2 => cl_i ?_ fun o3 => (br_i (fun h4 => Fct.leafY ?_) (fun h4 => Fct.leafY ?_))))
  all_goals try simp only [std1, ne_eq] at *
  all_goals try simp only [fszBuilder, fszIntS, fszNodeS, etaS, std1, std2, Nat.reduceAdd, ne_eq, Sh.good, Sh.fc, enc, List.forall_mem_cons, List.not_mem_nil, false_implies, implies_true, goodC, maxLen] at *
  all_goals grind [wrapId', lessen, szBuilder, szL])
def E34 : D.Env := E33.add 28 fszBuilder
theorem E34ok : EOk Tryz.prog E34 := E33ok.add k28_33
theorem k43_34 : ftoBuilder.ok Tryz.prog 43 := Fct.of (S := ftoBuilder) (L := fun _ _ => none) (kp := [1,2,3]) E34ok Tryz.func43 (by kernel_rfl) (by kernel_rfl) (by
  rintro ⟨(x : SBuilder), _⟩ hp
  refine holds_of (X := .cl ftoNodeS (x.nodes, ()) fun z2 =>
 .cl ftoIntS (x.open_, ()) fun z3 =>
 .leaf (mkR ftoBuilder.rs (⟨z2.1, z3.1⟩, ())) [] []) (by kernel_rfl) ?_
  refine cl_i ?_ fun o1 => (cl_i ?_ fun o2 => (Fct.leafY ?_))
  all_goals try simp only [std1, ne_eq] at *
  all_goals try simp only [ftoBuilder, ftoIntS, ftoNodeS, etaS, std1, std2, Nat.reduceAdd, ne_eq] at *
  all_goals first | trivial | rfl | grind [szBuilder, szL])
def E35 : D.Env := E34.add 43 ftoBuilder
theorem E35ok : EOk Tryz.prog E35 := E34ok.add k43_34
set_option maxHeartbeats 2000000 in
theorem k57_35 : feqBuilder.ok Tryz.prog 57 := Fct.of (S := feqBuilder) (L := fun _ _ => none) (kp := [2,3,4,10,16,1000010,1000016]) E35ok Tryz.func57 (by kernel_rfl) (by kernel_rfl) (by
  rintro ⟨(x : SBuilder), (y : SBuilder), _⟩ hp
  refine holds_of (X := .cl feqNodeS (x.nodes, y.nodes, ()) fun z2 =>
 .br (!z2.1)
 (.leaf (mkR feqBuilder.rs (false, ())) [] [])
 (.cl feqIntS (x.open_, y.open_, ()) fun z3 =>
 .br (!z3.1)
 (.leaf (mkR feqBuilder.rs (false, ())) [] [])
 (.leaf (mkR feqBuilder.rs (true, ())) [] []))) (by kernel_rfl) ?_
  refine cl_i ?_ fun o1 => (br_i (fun h2 => Fct.leafY ?_) (fun h2 => cl_i ?_ fun o3 => (br_i (fun h4 => Fct.leafY ?_) (fun h4 => Fct.leafY ?_))))
  all_goals try simp only [std1, ne_eq] at *
  all_goals try simp only [feqBuilder, feqIntS, feqNodeS, etaS, std1, std2, Nat.reduceAdd, ne_eq] at *
  all_goals first | trivial | (cases x; cases y; simp_all; done) | (simp only [szBuilder, szL] at *; omega) | grind [szBuilder, szL])
def E36 : D.Env := E35.add 57 feqBuilder
theorem E36ok : EOk Tryz.prog E36 := E35ok.add k57_35
set_option maxHeartbeats 2000000 in
theorem k25_36 : fszPolicy.ok Tryz.prog 25 := Fct.of (S := fszPolicy) (L := fun _ _ => none) (kp := [1,2,4,10,16,22,29,1000010,1000016,1000022,1000029]) E36ok Tryz.func25 (by kernel_rfl) (by kernel_rfl) (by
  rintro ⟨(x : SPolicy), (n : Int), _⟩ hp
  refine holds_of (X := .cl fszStringS (x.scripts, n, ()) fun z2 =>
 .br (decide (z2.1 < (0 : Int)))
 (.leaf (mkR fszPolicy.rs ((-1 : Int), ())) [] [])
 (.cl fszStringS (x.styles, z2.1, ()) fun z3 =>
 .br (decide (z3.1 < (0 : Int)))
 (.leaf (mkR fszPolicy.rs ((-1 : Int), ())) [] [])
 (.cl fszStringS (x.images, z3.1, ()) fun z4 =>
 .br (decide (z4.1 < (0 : Int)))
 (.leaf (mkR fszPolicy.rs ((-1 : Int), ())) [] [])
 (.br (decide (IntKind.i64.wrap (z4.1 - (↑x.nonce.size : Int)) < (0 : Int)))
 (.leaf (mkR fszPolicy.rs ((-1 : Int), ())) [] [])
 (.leaf (mkR fszPolicy.rs (IntKind.i64.wrap (z4.1 - (↑x.nonce.size : Int)), ())) [] []))))) (by kernel_rfl) ?_
  refine cl_i ?_ fun o1 => (br_i (fun h2 => Fct.leafY ?_) (fun h2 => cl_i ?_ fun o3 => (br_i (fun h4 => Fct.leafY ?_) (fun h4 => cl_i ?_ fun o5 => (br_i (fun h6 => Fct.leafY ?_) (fun h6 => br_i (fun h7 => Fct.leafY ?_) (fun h7 => Fct.leafY ?_)))))))
  all_goals try simp only [std1, ne_eq] at *
  all_goals try simp only [fszPolicy, fszStringS, etaS, std1, std2, Nat.reduceAdd, ne_eq, Sh.good, Sh.fc, enc, List.forall_mem_cons, List.not_mem_nil, false_implies, implies_true, goodC, maxLen] at *
  all_goals grind [wrapId', lessen, szL, szPolicy])
def E37 : D.Env := E36.add 25 fszPolicy
theorem E37ok : EOk Tryz.prog E37 := E36ok.add k25_36
theorem k40_37 : ftoPolicy.ok Tryz.prog 40 := Fct.of (S := ftoPolicy) (L := fun _ _ => none) (kp := [1,2,3]) E37ok Tryz.func40 (by kernel_rfl) (by kernel_rfl) (by
  rintro ⟨(x : SPolicy), _⟩ hp
  refine holds_of (X := .cl ftoStringS (x.scripts, ()) fun z2 =>
 .cl ftoStringS (x.styles, ()) fun z3 =>
 .cl ftoStringS (x.images, ()) fun z4 =>
 .leaf (mkR ftoPolicy.rs (⟨x.set_, z2.1, z3.1, z4.1, x.nonce⟩, ())) [] []) (by kernel_rfl) ?_
  refine cl_i ?_ fun o1 => (cl_i ?_ fun o2 => (cl_i ?_ fun o3 => (Fct.leafY ?_)))
  all_goals try simp only [std1, ne_eq] at *
  all_goals try simp only [ftoPolicy, ftoStringS, etaS, std1, std2, Nat.reduceAdd, ne_eq] at *
  all_goals first | trivial | rfl | grind [szL, szPolicy])
def E38 : D.Env := E37.add 40 ftoPolicy
theorem E38ok : EOk Tryz.prog E38 := E37ok.add k40_37
set_option maxHeartbeats 2000000 in
theorem k54_38 : feqPolicy.ok Tryz.prog 54 := Fct.of (S := feqPolicy) (L := fun _ _ => none) (kp := [2,3,4,9,15,21,27,32,1000009,1000015,1000021,1000027,1000032]) E38ok Tryz.func54 (by kernel_rfl) (by kernel_rfl) (by
  rintro ⟨(x : SPolicy), (y : SPolicy), _⟩ hp
  refine holds_of (X := .br (!x.set_ == y.set_)
 (.leaf (mkR feqPolicy.rs (false, ())) [] [])
 (.cl feqStringS (x.scripts, y.scripts, ()) fun z2 =>
 .br (!z2.1)
 (.leaf (mkR feqPolicy.rs (false, ())) [] [])
 (.cl feqStringS (x.styles, y.styles, ()) fun z3 =>
 .br (!z3.1)
 (.leaf (mkR feqPolicy.rs (false, ())) [] [])
 (.cl feqStringS (x.images, y.images, ()) fun z4 =>
 .br (!z4.1)
 (.leaf (mkR feqPolicy.rs (false, ())) [] [])
 (.br (!x.nonce.toList == y.nonce.toList)
 (.leaf (mkR feqPolicy.rs (false, ())) [] [])
 (.leaf (mkR feqPolicy.rs (true, ())) [] [])))))) (by kernel_rfl) ?_
  refine br_i (fun h1 => Fct.leafY ?_) (fun h1 => cl_i ?_ fun o2 => (br_i (fun h3 => Fct.leafY ?_) (fun h3 => cl_i ?_ fun o4 => (br_i (fun h5 => Fct.leafY ?_) (fun h5 => cl_i ?_ fun o6 => (br_i (fun h7 => Fct.leafY ?_) (fun h7 => br_i (fun h8 => Fct.leafY ?_) (fun h8 => Fct.leafY ?_))))))))
  all_goals try simp only [std1, ne_eq] at *
  all_goals try simp only [feqPolicy, feqStringS, etaS, std1, std2, Nat.reduceAdd, ne_eq] at *
  all_goals first | trivial | (cases x; cases y; simp_all; done) | (simp only [szL, szPolicy] at *; omega) | grind [szL, szPolicy])
def E39 : D.Env := E38.add 54 feqPolicy
theorem E39ok : EOk Tryz.prog E39 := E38ok.add k54_38
set_option maxHeartbeats 2000000 in
theorem k123_39 : fszResponse.ok Tryz.prog 123 := Fct.of (S := fszResponse) (L := fun _ _ => none) (kp := [1,2,4,11,18,1000011,1000018]) E39ok Tryz.func123 (by kernel_rfl) (by kernel_rfl) (by
  rintro ⟨(x : SResponse), (n : Int), _⟩ hp
  refine holds_of (X := .br (decide (IntKind.i64.wrap (n - (↑x.body.size : Int)) < (0 : Int)))
 (.leaf (mkR fszResponse.rs ((-1 : Int), ())) [] [])
 (.br (decide (IntKind.i64.wrap (IntKind.i64.wrap (n - (↑x.body.size : Int)) - (↑x.policy.size : Int)) < (0 : Int)))
 (.leaf (mkR fszResponse.rs ((-1 : Int), ())) [] [])
 (.leaf (mkR fszResponse.rs (IntKind.i64.wrap (IntKind.i64.wrap (n - (↑x.body.size : Int)) - (↑x.policy.size : Int)), ())) [] []))) (by kernel_rfl) ?_
  refine br_i (fun h1 => Fct.leafY ?_) (fun h1 => br_i (fun h2 => Fct.leafY ?_) (fun h2 => Fct.leafY ?_))
  all_goals try simp only [std1, ne_eq] at *
  all_goals try simp only [fszResponse, etaS, std1, std2, Nat.reduceAdd, ne_eq, Sh.good, Sh.fc, enc, List.forall_mem_cons, List.not_mem_nil, false_implies, implies_true, goodC, maxLen] at *
  all_goals grind [wrapId', lessen, szResponse])
def E40 : D.Env := E39.add 123 fszResponse
theorem E40ok : EOk Tryz.prog E40 := E39ok.add k123_39
theorem k138_40 : ftoResponse.ok Tryz.prog 138 := Fct.of (S := ftoResponse) (L := fun _ _ => none) (kp := [1,2,3]) E40ok Tryz.func138 (by kernel_rfl) (by kernel_rfl) (by
  rintro ⟨(x : SResponse), _⟩ hp
  refine holds_of (X := .leaf (mkR ftoResponse.rs (x, ())) [] []) (by kernel_rfl) ?_
  refine Fct.leafY ?_
  all_goals try simp only [std1, ne_eq] at *
  all_goals try simp only [ftoResponse, etaS, std1, std2, Nat.reduceAdd, ne_eq] at *
  all_goals first | trivial | rfl | grind [szResponse])
def E41 : D.Env := E40.add 138 ftoResponse
theorem E41ok : EOk Tryz.prog E41 := E40ok.add k138_40
set_option maxHeartbeats 2000000 in
theorem k154_41 : feqResponse.ok Tryz.prog 154 := Fct.of (S := feqResponse) (L := fun _ _ => none) (kp := [2,3,4,9,14,19,24,29,34,1000009,1000014,1000019,1000024,1000029,1000034]) E41ok Tryz.func154 (by kernel_rfl) (by kernel_rfl) (by
  rintro ⟨(x : SResponse), (y : SResponse), _⟩ hp
  refine holds_of (X := .br (x.status != y.status)
 (.leaf (mkR feqResponse.rs (false, ())) [] [])
 (.br (x.kind != y.kind)
 (.leaf (mkR feqResponse.rs (false, ())) [] [])
 (.br (!x.body.toList == y.body.toList)
 (.leaf (mkR feqResponse.rs (false, ())) [] [])
 (.br (x.age != y.age)
 (.leaf (mkR feqResponse.rs (false, ())) [] [])
 (.br (!x.shares == y.shares)
 (.leaf (mkR feqResponse.rs (false, ())) [] [])
 (.br (!x.policy.toList == y.policy.toList)
 (.leaf (mkR feqResponse.rs (false, ())) [] [])
 (.leaf (mkR feqResponse.rs (true, ())) [] []))))))) (by kernel_rfl) ?_
  refine br_i (fun h1 => Fct.leafY ?_) (fun h1 => br_i (fun h2 => Fct.leafY ?_) (fun h2 => br_i (fun h3 => Fct.leafY ?_) (fun h3 => br_i (fun h4 => Fct.leafY ?_) (fun h4 => br_i (fun h5 => Fct.leafY ?_) (fun h5 => br_i (fun h6 => Fct.leafY ?_) (fun h6 => Fct.leafY ?_))))))
  all_goals try simp only [std1, ne_eq] at *
  all_goals try simp only [feqResponse, etaS, std1, std2, Nat.reduceAdd, ne_eq] at *
  all_goals first | trivial | (cases x; cases y; simp_all; done) | (simp only [szResponse] at *; omega) | grind [szResponse])
def E42 : D.Env := E41.add 154 feqResponse
theorem E42ok : EOk Tryz.prog E42 := E41ok.add k154_41
set_option maxHeartbeats 2000000 in
theorem k122_42 : fszFile.ok Tryz.prog 122 := Fct.of (S := fszFile) (L := fun _ _ => none) (kp := [1,2,4,11,17,1000011,1000017]) E42ok Tryz.func122 (by kernel_rfl) (by kernel_rfl) (by
  rintro ⟨(x : SFile), (n : Int), _⟩ hp
  refine holds_of (X := .br (decide (IntKind.i64.wrap (n - (↑x.path.size : Int)) < (0 : Int)))
 (.leaf (mkR fszFile.rs ((-1 : Int), ())) [] [])
 (.cl fszResponse (x.response, IntKind.i64.wrap (n - (↑x.path.size : Int)), ()) fun z2 =>
 .br (decide (z2.1 < (0 : Int)))
 (.leaf (mkR fszFile.rs ((-1 : Int), ())) [] [])
 (.leaf (mkR fszFile.rs (z2.1, ())) [] []))) (by kernel_rfl) ?_
  refine br_i (fun h1 => Fct.leafY ?_) (fun h1 => cl_i ?_ fun o2 => (br_i (fun h3 => Fct.leafY ?_) (fun h3 => Fct.leafY ?_)))
  all_goals try simp only [std1, ne_eq] at *
  all_goals try simp only [fszFile, fszResponse, etaS, std1, std2, Nat.reduceAdd, ne_eq, Sh.good, Sh.fc, enc, List.forall_mem_cons, List.not_mem_nil, false_implies, implies_true, goodC, maxLen] at *
  all_goals grind [wrapId', lessen, szFile, szResponse])
def E43 : D.Env := E42.add 122 fszFile
theorem E43ok : EOk Tryz.prog E43 := E42ok.add k122_42
theorem k137_43 : ftoFile.ok Tryz.prog 137 := Fct.of (S := ftoFile) (L := fun _ _ => none) (kp := [1,2,3]) E43ok Tryz.func137 (by kernel_rfl) (by kernel_rfl) (by
  rintro ⟨(x : SFile), _⟩ hp
  refine holds_of (X := .cl ftoResponse (x.response, ()) fun z2 =>
 .leaf (mkR ftoFile.rs (⟨x.path, z2.1⟩, ())) [] []) (by kernel_rfl) ?_
  refine cl_i ?_ fun o1 => (Fct.leafY ?_)
  all_goals try simp only [std1, ne_eq] at *
  all_goals try simp only [ftoFile, ftoResponse, etaS, std1, std2, Nat.reduceAdd, ne_eq] at *
  all_goals first | trivial | rfl | grind [szFile, szResponse])
def E44 : D.Env := E43.add 137 ftoFile
theorem E44ok : EOk Tryz.prog E44 := E43ok.add k137_43
set_option maxHeartbeats 2000000 in
theorem k153_44 : feqFile.ok Tryz.prog 153 := Fct.of (S := feqFile) (L := fun _ _ => none) (kp := [2,3,4,9,15,1000009,1000015]) E44ok Tryz.func153 (by kernel_rfl) (by kernel_rfl) (by
  rintro ⟨(x : SFile), (y : SFile), _⟩ hp
  refine holds_of (X := .br (!x.path.toList == y.path.toList)
 (.leaf (mkR feqFile.rs (false, ())) [] [])
 (.cl feqResponse (x.response, y.response, ()) fun z2 =>
 .br (!z2.1)
 (.leaf (mkR feqFile.rs (false, ())) [] [])
 (.leaf (mkR feqFile.rs (true, ())) [] []))) (by kernel_rfl) ?_
  refine br_i (fun h1 => Fct.leafY ?_) (fun h1 => cl_i trivial fun _ => (br_i (fun h2 => Fct.leafY ?_) (fun h2 => Fct.leafY ?_)))
  all_goals try simp only [std1, ne_eq] at *
  all_goals try simp only [feqFile, feqResponse, etaS, std1, std2, Nat.reduceAdd, ne_eq] at *
  all_goals first | trivial | (cases x; cases y; simp_all; done) | (simp only [szFile, szResponse] at *; omega) | grind [szFile, szResponse])
def E45 : D.Env := E44.add 153 feqFile
theorem E45ok : EOk Tryz.prog E45 := E44ok.add k153_44
set_option maxHeartbeats 2000000 in
theorem k98_45 : fszFileS.ok Tryz.prog 98 := Fct.of (S := fszFileS) (L := fun ⟨l, n, _⟩ => fun | 5 => some (LszS .file szFile l n) | _ => none) (kp := [0,1,4,5,11,15,25,1000011,1000015,1000025]) E45ok Tryz.func98 (by kernel_rfl) (by kernel_rfl) (by
  rintro ⟨(l : List SFile), (n : Int), _⟩ hp
  refine holds_of (X := .br (decide (IntKind.i64.wrap (n - (↑l.length : Int)) < (0 : Int)))
 (.leaf (mkR fszFileS.rs ((-1 : Int), ())) [] [])
 (lpx (LszS .file szFile l n) (IntKind.i64.wrap (n - (↑l.length : Int)), ((0 : Int), ())) fun (y2 : Int × Int × PUnit) bk2 =>
 .br (decide (y2.2.1 < (↑l.length : Int)))
 (.ob ((0 : Int) ≤ y2.2.1 ∧ y2.2.1 < (↑l.length : Int)) <| .cl fszFile (l.getD y2.2.1.toNat default, y2.1, ()) fun z2 =>
 .br (decide (z2.1 < (0 : Int)))
 (.leaf (mkR fszFileS.rs ((-1 : Int), ())) [] [])
 (.ob (l = l) <| .ob (bk2 (z2.1, (IntKind.i64.wrap (y2.2.1 + (1 : Int)), ()))) <| .ok))
 (.leaf (mkR fszFileS.rs (y2.1, ())) [] []))) (by kernel_rfl) ?_
  refine br_i (fun h1 => Fct.leafY ?_) (fun h1 => lpx_i ?_ fun (y2 : Int × Int × PUnit) i2 => br_i (fun h3 => ob_i ?_ fun o4 => cl_i ?_ fun o5 => (br_i (fun h6 => Fct.leafY ?_) (fun h6 => ob_i rfl fun _ => ob_i ?_ fun o7 => trivial))) (fun h3 => Fct.leafY ?_))
  all_goals try simp only [std1, ne_eq] at *
  all_goals try simp only [LszS, fszFile, fszFileS, etaS, std1, std2, Nat.reduceAdd, ne_eq] at *
  · have := good_len hp.1; simp only [maxLen] at this; rw [wrapId (by omega)] at h1
    rw [lessenNeg (by simp only [szL]; omega)]
  · have := good_len hp.1; simp only [maxLen] at this
    rw [wrapId (by omega)] at h1 ⊢
    exact ⟨by omega, by omega, h1, by simp⟩
  · omega
  · exact ⟨good_getD hp.1 (by omega), by omega, by omega⟩
  · have hs := sum_take_le szFile l (y2.2.1.toNat + 1)
    rw [sum_take szFile (by omega)] at hs
    rw [lessen_lt (by omega)] at h6
    rw [lessenNeg (by simp only [szL]; omega)]
  · have hw : IntKind.i64.wrap (y2.2.1 + 1) = y2.2.1 + 1 := wrapId (by have := good_len hp.1; simp only [maxLen] at this; omega)
    have h7 : ¬ lessen y2.1 (szFile (l.getD y2.2.1.toNat default)) < 0 := by omega
    rw [lessen_lt (by omega)] at h7
    rw [hw, toNat1 (by omega), sum_take szFile (by omega), lessen_ge (by omega)]
    exact ⟨⟨by omega, by omega, by omega, by omega⟩, by omega⟩
  · have e : l.take y2.2.1.toNat = l := List.take_of_length_le (by omega)
    rw [e] at i2
    have hz : ((szL szFile l : Nat) : Int) = l.length + (l.map szFile).sum := by simp only [szL]; omega
    rw [lessen_ge (by omega)]
    show y2.1 = n - ((szL szFile l : Nat) : Int)
    omega)
def E46 : D.Env := E45.add 98 fszFileS
theorem E46ok : EOk Tryz.prog E46 := E45ok.add k98_45
theorem k108_46 : ftoFileS.ok Tryz.prog 108 := Fct.of (S := ftoFileS) (L := fun ⟨l, _⟩ => fun | 3 => some (LtoS .file l) | _ => none) (kp := [0,2,3,4,11,1000011]) E46ok Tryz.func108 (by kernel_rfl) (by kernel_rfl) (by
  rintro ⟨(l : List SFile), _⟩ hp
  refine holds_of (X := .ob ((↑l.length : Int) = (↑l.length : Int) ∧
 (0 : Int) ≤ (↑l.length : Int) ∧
 (80 : Int) * (↑l.length : Int) ≤ (140737488355328 : Int) ∧ (↑l.length : Int) ≤ (140737488355328 : Int)) <| lpx (LtoS .file l) ((0 : Int), (List.replicate (↑l.length : Int).toNat default, ())) fun (y2 : Int × List SFile × PUnit) bk2 =>
 .br (decide (y2.1 < (↑l.length : Int)))
 (.ob ((0 : Int) ≤ y2.1 ∧ y2.1 < (↑l.length : Int)) <| .cl ftoFile (l.getD y2.1.toNat default, ()) fun z2 =>
 .ob ((0 : Int) ≤ y2.1 ∧ y2.1 < (↑y2.2.1.length : Int)) <| .ob (y2.1.toNat < y2.2.1.length) <| .lt (List SFile) (y2.2.1.modify y2.1.toNat fun z => z2.1) fun z3 =>
 .ob (l = l) <| .ob (bk2 (IntKind.i64.wrap (y2.1 + (1 : Int)), (z3, ()))) <| .ok)
 (.leaf (mkR ftoFileS.rs (y2.2.1, ())) [] [])) (by kernel_rfl) ?_
  refine ob_i ?_ fun o1 => lpx_i ?_ fun (y2 : Int × List SFile × PUnit) i2 => br_i (fun h3 => ob_i ?_ fun o4 => cl_i ?_ fun o5 => (ob_i ?_ fun o6 => ob_i ?_ fun o7 => lt_i (ob_i rfl fun _ => ob_i ?_ fun o8 => trivial))) (fun h3 => Fct.leafY ?_)
  all_goals try simp only [std1, ne_eq] at *
  all_goals try simp only [LtoS, ftoFile, ftoFileS, etaS, std1, std2, Nat.reduceAdd, ne_eq] at *
  · have := szL_len szFile l; omega
  · exact ⟨by omega, by omega, by simp⟩
  · omega
  · have hs := sum_take_le szFile l (y2.1.toNat + 1)
    rw [sum_take szFile (by omega)] at hs
    simp only [szL] at hp; omega
  · rw [i2.2.2]; simp; omega
  · rw [i2.2.2]; simp; omega
  · have hw : IntKind.i64.wrap (y2.1 + 1) = y2.1 + 1 := wrapId (by have := szL_len szFile l; omega)
    rw [hw, toNat1 (by omega), i2.2.2]
    refine ⟨⟨by omega, by omega, ?_⟩, by omega⟩
    rw [show l.length - y2.1.toNat = (l.length - (y2.1.toNat + 1)) + 1 from by omega, List.replicate_succ, mod_at (by simp; omega), take_succ (by omega)]
    simp
  · have e : l.take y2.1.toNat = l := List.take_of_length_le (by omega)
    rw [i2.2.2, e]; simp; omega)
def E47 : D.Env := E46.add 108 ftoFileS
theorem E47ok : EOk Tryz.prog E47 := E46ok.add k108_46
set_option maxHeartbeats 2000000 in
theorem k118_47 : feqFileS.ok Tryz.prog 118 := Fct.of (S := feqFileS) (L := fun ⟨l, m, _⟩ => fun | 4 => some (LeqS .file l m) | _ => none) (kp := [0,1,4,5,10,14,26,1000010,1000014,1000026]) E47ok Tryz.func118 (by kernel_rfl) (by kernel_rfl) (by
  rintro ⟨(l : List SFile), (m : List SFile), _⟩ hp
  refine holds_of (X := .br ((↑l.length : Int) != (↑m.length : Int))
 (.leaf (mkR feqFileS.rs (false, ())) [] [])
 (lpx (LeqS .file l m) ((0 : Int), ()) fun (y2 : Int × PUnit) bk2 =>
 .br (decide (y2.1 < (↑l.length : Int)))
 (.ob ((0 : Int) ≤ y2.1 ∧ y2.1 < (↑l.length : Int)) <| .ob ((0 : Int) ≤ y2.1 ∧ y2.1 < (↑m.length : Int)) <| .cl feqFile (l.getD y2.1.toNat default, m.getD y2.1.toNat default, ()) fun z2 =>
 .br (!z2.1)
 (.leaf (mkR feqFileS.rs (false, ())) [] [])
 (.ob (l = l) <| .ob (m = m) <| .ob (bk2 (IntKind.i64.wrap (y2.1 + (1 : Int)), ())) <| .ok))
 (.leaf (mkR feqFileS.rs (true, ())) [] []))) (by kernel_rfl) ?_
  refine br_i (fun h1 => Fct.leafY ?_) (fun h1 => lpx_i ?_ fun (y2 : Int × PUnit) i2 => br_i (fun h3 => ob_i ?_ fun o4 => ob_i ?_ fun o5 => cl_i trivial fun _ => (br_i (fun h6 => Fct.leafY ?_) (fun h6 => ob_i rfl fun _ => ob_i rfl fun _ => ob_i ?_ fun o7 => trivial))) (fun h3 => Fct.leafY ?_))
  all_goals try simp only [std1, ne_eq] at *
  all_goals try simp only [LeqS, feqFile, feqFileS, etaS, std1, std2, Nat.reduceAdd, ne_eq] at *
  · rw [decide_eq_false]; rintro rfl; omega
  · exact ⟨by omega, by omega, by simp⟩
  · omega
  · omega
  · rw [decide_eq_false]; rintro rfl; exact absurd rfl h6
  · have hw : IntKind.i64.wrap (y2.1 + 1) = y2.1 + 1 := wrapId (by omega)
    rw [hw, toNat1 (by omega)]
    refine ⟨⟨by omega, by omega, ?_⟩, by omega⟩
    rw [take_succ (by omega), take_succ (by omega), i2.2.2, h6]
  · have e : l.take y2.1.toNat = l := List.take_of_length_le (by omega)
    have e2 : m.take y2.1.toNat = m := List.take_of_length_le (by omega)
    rw [decide_eq_true]; rw [← e, ← e2, i2.2.2])
def E48 : D.Env := E47.add 118 feqFileS
theorem E48ok : EOk Tryz.prog E48 := E47ok.add k118_47
set_option maxHeartbeats 2000000 in
theorem k64_48 : fszServer.ok Tryz.prog 64 := Fct.of (S := fszServer) (L := fun _ _ => none) (kp := [1,2,4,11,17,1000011,1000017]) E48ok Tryz.func64 (by kernel_rfl) (by kernel_rfl) (by
  rintro ⟨(x : SServer), (n : Int), _⟩ hp
  refine holds_of (X := .br (decide (IntKind.i64.wrap (n - (↑x.host.size : Int)) < (0 : Int)))
 (.leaf (mkR fszServer.rs ((-1 : Int), ())) [] [])
 (.cl fszFileS (x.files, IntKind.i64.wrap (n - (↑x.host.size : Int)), ()) fun z2 =>
 .br (decide (z2.1 < (0 : Int)))
 (.leaf (mkR fszServer.rs ((-1 : Int), ())) [] [])
 (.leaf (mkR fszServer.rs (z2.1, ())) [] []))) (by kernel_rfl) ?_
  refine br_i (fun h1 => Fct.leafY ?_) (fun h1 => cl_i ?_ fun o2 => (br_i (fun h3 => Fct.leafY ?_) (fun h3 => Fct.leafY ?_)))
  all_goals try simp only [std1, ne_eq] at *
  all_goals try simp only [fszFileS, fszServer, etaS, std1, std2, Nat.reduceAdd, ne_eq, Sh.good, Sh.fc, enc, List.forall_mem_cons, List.not_mem_nil, false_implies, implies_true, goodC, maxLen] at *
  all_goals grind [wrapId', lessen, szL, szServer])
def E49 : D.Env := E48.add 64 fszServer
theorem E49ok : EOk Tryz.prog E49 := E48ok.add k64_48
theorem k76_49 : ftoServer.ok Tryz.prog 76 := Fct.of (S := ftoServer) (L := fun _ _ => none) (kp := [1,2,3]) E49ok Tryz.func76 (by kernel_rfl) (by kernel_rfl) (by
  rintro ⟨(x : SServer), _⟩ hp
  refine holds_of (X := .cl ftoFileS (x.files, ()) fun z2 =>
 .leaf (mkR ftoServer.rs (⟨x.host, z2.1⟩, ())) [] []) (by kernel_rfl) ?_
  refine cl_i ?_ fun o1 => (Fct.leafY ?_)
  all_goals try simp only [std1, ne_eq] at *
  all_goals try simp only [ftoFileS, ftoServer, etaS, std1, std2, Nat.reduceAdd, ne_eq] at *
  all_goals first | trivial | rfl | grind [szL, szServer])
def E50 : D.Env := E49.add 76 ftoServer
theorem E50ok : EOk Tryz.prog E50 := E49ok.add k76_49
set_option maxHeartbeats 2000000 in
theorem k88_50 : feqServer.ok Tryz.prog 88 := Fct.of (S := feqServer) (L := fun _ _ => none) (kp := [2,3,4,9,15,1000009,1000015]) E50ok Tryz.func88 (by kernel_rfl) (by kernel_rfl) (by
  rintro ⟨(x : SServer), (y : SServer), _⟩ hp
  refine holds_of (X := .br (!x.host.toList == y.host.toList)
 (.leaf (mkR feqServer.rs (false, ())) [] [])
 (.cl feqFileS (x.files, y.files, ()) fun z2 =>
 .br (!z2.1)
 (.leaf (mkR feqServer.rs (false, ())) [] [])
 (.leaf (mkR feqServer.rs (true, ())) [] []))) (by kernel_rfl) ?_
  refine br_i (fun h1 => Fct.leafY ?_) (fun h1 => cl_i ?_ fun o2 => (br_i (fun h3 => Fct.leafY ?_) (fun h3 => Fct.leafY ?_)))
  all_goals try simp only [std1, ne_eq] at *
  all_goals try simp only [feqFileS, feqServer, etaS, std1, std2, Nat.reduceAdd, ne_eq] at *
  all_goals first | trivial | (cases x; cases y; simp_all; done) | (simp only [szL, szServer] at *; omega) | grind [szL, szServer])
def E51 : D.Env := E50.add 88 feqServer
theorem E51ok : EOk Tryz.prog E51 := E50ok.add k88_50
set_option maxHeartbeats 2000000 in
theorem k21_51 : fszServerS.ok Tryz.prog 21 := Fct.of (S := fszServerS) (L := fun ⟨l, n, _⟩ => fun | 5 => some (LszS .server szServer l n) | _ => none) (kp := [0,1,4,5,11,15,25,1000011,1000015,1000025]) E51ok Tryz.func21 (by kernel_rfl) (by kernel_rfl) (by
  rintro ⟨(l : List SServer), (n : Int), _⟩ hp
  refine holds_of (X := .br (decide (IntKind.i64.wrap (n - (↑l.length : Int)) < (0 : Int)))
 (.leaf (mkR fszServerS.rs ((-1 : Int), ())) [] [])
 (lpx (LszS .server szServer l n) (IntKind.i64.wrap (n - (↑l.length : Int)), ((0 : Int), ())) fun (y2 : Int × Int × PUnit) bk2 =>
 .br (decide (y2.2.1 < (↑l.length : Int)))
 (.ob ((0 : Int) ≤ y2.2.1 ∧ y2.2.1 < (↑l.length : Int)) <| .cl fszServer (l.getD y2.2.1.toNat default, y2.1, ()) fun z2 =>
 .br (decide (z2.1 < (0 : Int)))
 (.leaf (mkR fszServerS.rs ((-1 : Int), ())) [] [])
 (.ob (l = l) <| .ob (bk2 (z2.1, (IntKind.i64.wrap (y2.2.1 + (1 : Int)), ()))) <| .ok))
 (.leaf (mkR fszServerS.rs (y2.1, ())) [] []))) (by kernel_rfl) ?_
  refine br_i (fun h1 => Fct.leafY ?_) (fun h1 => lpx_i ?_ fun (y2 : Int × Int × PUnit) i2 => br_i (fun h3 => ob_i ?_ fun o4 => cl_i ?_ fun o5 => (br_i (fun h6 => Fct.leafY ?_) (fun h6 => ob_i rfl fun _ => ob_i ?_ fun o7 => trivial))) (fun h3 => Fct.leafY ?_))
  all_goals try simp only [std1, ne_eq] at *
  all_goals try simp only [LszS, fszServer, fszServerS, etaS, std1, std2, Nat.reduceAdd, ne_eq] at *
  · have := good_len hp.1; simp only [maxLen] at this; rw [wrapId (by omega)] at h1
    rw [lessenNeg (by simp only [szL]; omega)]
  · have := good_len hp.1; simp only [maxLen] at this
    rw [wrapId (by omega)] at h1 ⊢
    exact ⟨by omega, by omega, h1, by simp⟩
  · omega
  · exact ⟨good_getD hp.1 (by omega), by omega, by omega⟩
  · have hs := sum_take_le szServer l (y2.2.1.toNat + 1)
    rw [sum_take szServer (by omega)] at hs
    rw [lessen_lt (by omega)] at h6
    rw [lessenNeg (by simp only [szL]; omega)]
  · have hw : IntKind.i64.wrap (y2.2.1 + 1) = y2.2.1 + 1 := wrapId (by have := good_len hp.1; simp only [maxLen] at this; omega)
    have h7 : ¬ lessen y2.1 (szServer (l.getD y2.2.1.toNat default)) < 0 := by omega
    rw [lessen_lt (by omega)] at h7
    rw [hw, toNat1 (by omega), sum_take szServer (by omega), lessen_ge (by omega)]
    exact ⟨⟨by omega, by omega, by omega, by omega⟩, by omega⟩
  · have e : l.take y2.2.1.toNat = l := List.take_of_length_le (by omega)
    rw [e] at i2
    have hz : ((szL szServer l : Nat) : Int) = l.length + (l.map szServer).sum := by simp only [szL]; omega
    rw [lessen_ge (by omega)]
    show y2.1 = n - ((szL szServer l : Nat) : Int)
    omega)
def E52 : D.Env := E51.add 21 fszServerS
theorem E52ok : EOk Tryz.prog E52 := E51ok.add k21_51
theorem k36_52 : ftoServerS.ok Tryz.prog 36 := Fct.of (S := ftoServerS) (L := fun ⟨l, _⟩ => fun | 3 => some (LtoS .server l) | _ => none) (kp := [0,2,3,4,11,1000011]) E52ok Tryz.func36 (by kernel_rfl) (by kernel_rfl) (by
  rintro ⟨(l : List SServer), _⟩ hp
  refine holds_of (X := .ob ((↑l.length : Int) = (↑l.length : Int) ∧
 (0 : Int) ≤ (↑l.length : Int) ∧
 (40 : Int) * (↑l.length : Int) ≤ (140737488355328 : Int) ∧ (↑l.length : Int) ≤ (140737488355328 : Int)) <| lpx (LtoS .server l) ((0 : Int), (List.replicate (↑l.length : Int).toNat default, ())) fun (y2 : Int × List SServer × PUnit) bk2 =>
 .br (decide (y2.1 < (↑l.length : Int)))
 (.ob ((0 : Int) ≤ y2.1 ∧ y2.1 < (↑l.length : Int)) <| .cl ftoServer (l.getD y2.1.toNat default, ()) fun z2 =>
 .ob ((0 : Int) ≤ y2.1 ∧ y2.1 < (↑y2.2.1.length : Int)) <| .ob (y2.1.toNat < y2.2.1.length) <| .lt (List SServer) (y2.2.1.modify y2.1.toNat fun z => z2.1) fun z3 =>
 .ob (l = l) <| .ob (bk2 (IntKind.i64.wrap (y2.1 + (1 : Int)), (z3, ()))) <| .ok)
 (.leaf (mkR ftoServerS.rs (y2.2.1, ())) [] [])) (by kernel_rfl) ?_
  refine ob_i ?_ fun o1 => lpx_i ?_ fun (y2 : Int × List SServer × PUnit) i2 => br_i (fun h3 => ob_i ?_ fun o4 => cl_i ?_ fun o5 => (ob_i ?_ fun o6 => ob_i ?_ fun o7 => lt_i (ob_i rfl fun _ => ob_i ?_ fun o8 => trivial))) (fun h3 => Fct.leafY ?_)
  all_goals try simp only [std1, ne_eq] at *
  all_goals try simp only [LtoS, ftoServer, ftoServerS, etaS, std1, std2, Nat.reduceAdd, ne_eq] at *
  · have := szL_len szServer l; omega
  · exact ⟨by omega, by omega, by simp⟩
  · omega
  · have hs := sum_take_le szServer l (y2.1.toNat + 1)
    rw [sum_take szServer (by omega)] at hs
    simp only [szL] at hp; omega
  · rw [i2.2.2]; simp; omega
  · rw [i2.2.2]; simp; omega
  · have hw : IntKind.i64.wrap (y2.1 + 1) = y2.1 + 1 := wrapId (by have := szL_len szServer l; omega)
    rw [hw, toNat1 (by omega), i2.2.2]
    refine ⟨⟨by omega, by omega, ?_⟩, by omega⟩
    rw [show l.length - y2.1.toNat = (l.length - (y2.1.toNat + 1)) + 1 from by omega, List.replicate_succ, mod_at (by simp; omega), take_succ (by omega)]
    simp
  · have e : l.take y2.1.toNat = l := List.take_of_length_le (by omega)
    rw [i2.2.2, e]; simp; omega)
def E53 : D.Env := E52.add 36 ftoServerS
theorem E53ok : EOk Tryz.prog E53 := E52ok.add k36_52
set_option maxHeartbeats 2000000 in
theorem k50_53 : feqServerS.ok Tryz.prog 50 := Fct.of (S := feqServerS) (L := fun ⟨l, m, _⟩ => fun | 4 => some (LeqS .server l m) | _ => none) (kp := [0,1,4,5,10,14,26,1000010,1000014,1000026]) E53ok Tryz.func50 (by kernel_rfl) (by kernel_rfl) (by
  rintro ⟨(l : List SServer), (m : List SServer), _⟩ hp
  refine holds_of (X := .br ((↑l.length : Int) != (↑m.length : Int))
 (.leaf (mkR feqServerS.rs (false, ())) [] [])
 (lpx (LeqS .server l m) ((0 : Int), ()) fun (y2 : Int × PUnit) bk2 =>
 .br (decide (y2.1 < (↑l.length : Int)))
 (.ob ((0 : Int) ≤ y2.1 ∧ y2.1 < (↑l.length : Int)) <| .ob ((0 : Int) ≤ y2.1 ∧ y2.1 < (↑m.length : Int)) <| .cl feqServer (l.getD y2.1.toNat default, m.getD y2.1.toNat default, ()) fun z2 =>
 .br (!z2.1)
 (.leaf (mkR feqServerS.rs (false, ())) [] [])
 (.ob (l = l) <| .ob (m = m) <| .ob (bk2 (IntKind.i64.wrap (y2.1 + (1 : Int)), ())) <| .ok))
 (.leaf (mkR feqServerS.rs (true, ())) [] []))) (by kernel_rfl) ?_
  refine br_i (fun h1 => Fct.leafY ?_) (fun h1 => lpx_i ?_ fun (y2 : Int × PUnit) i2 => br_i (fun h3 => ob_i ?_ fun o4 => ob_i ?_ fun o5 => cl_i ?_ fun o6 => (br_i (fun h7 => Fct.leafY ?_) (fun h7 => ob_i rfl fun _ => ob_i rfl fun _ => ob_i ?_ fun o8 => trivial))) (fun h3 => Fct.leafY ?_))
  all_goals try simp only [std1, ne_eq] at *
  all_goals try simp only [LeqS, feqServer, feqServerS, etaS, std1, std2, Nat.reduceAdd, ne_eq] at *
  all_goals have hl := szL_len szServer l
  · rw [decide_eq_false]; rintro rfl; omega
  · exact ⟨by omega, by omega, by simp⟩
  · omega
  · omega
  · have hs := szL_get szServer (l := l) (i := y2.1.toNat) (by omega); omega
  · rw [decide_eq_false]; rintro rfl; first | exact absurd rfl h6 | exact absurd rfl h7
  · have hw : IntKind.i64.wrap (y2.1 + 1) = y2.1 + 1 := wrapId (by omega)
    rw [hw, toNat1 (by omega)]
    refine ⟨⟨by omega, by omega, ?_⟩, by omega⟩
    rw [take_succ (by omega), take_succ (by omega), i2.2.2]; first | rw [h6] | rw [h7]
  · have e : l.take y2.1.toNat = l := List.take_of_length_le (by omega)
    have e2 : m.take y2.1.toNat = m := List.take_of_length_le (by omega)
    rw [decide_eq_true]; rw [← e, ← e2, i2.2.2])
def E54 : D.Env := E53.add 50 feqServerS
theorem E54ok : EOk Tryz.prog E54 := E53ok.add k50_53
set_option maxHeartbeats 2000000 in
theorem k99_54 : fszEntry.ok Tryz.prog 99 := Fct.of (S := fszEntry) (L := fun _ _ => none) (kp := [1,2,4,11,17,23,1000011,1000017,1000023]) E54ok Tryz.func99 (by kernel_rfl) (by kernel_rfl) (by
  rintro ⟨(x : SEntry), (n : Int), _⟩ hp
  refine holds_of (X := .br (decide (IntKind.i64.wrap (n - (↑x.top.size : Int)) < (0 : Int)))
 (.leaf (mkR fszEntry.rs ((-1 : Int), ())) [] [])
 (.cl fszAddr (x.to, IntKind.i64.wrap (n - (↑x.top.size : Int)), ()) fun z2 =>
 .br (decide (z2.1 < (0 : Int)))
 (.leaf (mkR fszEntry.rs ((-1 : Int), ())) [] [])
 (.cl fszResponse (x.response, z2.1, ()) fun z3 =>
 .br (decide (z3.1 < (0 : Int)))
 (.leaf (mkR fszEntry.rs ((-1 : Int), ())) [] [])
 (.leaf (mkR fszEntry.rs (z3.1, ())) [] [])))) (by kernel_rfl) ?_
  refine br_i (fun h1 => Fct.leafY ?_) (fun h1 => cl_i ?_ fun o2 => (br_i (fun h3 => Fct.leafY ?_) (fun h3 => cl_i ?_ fun o4 => (br_i (fun h5 => Fct.leafY ?_) (fun h5 => Fct.leafY ?_)))))
  all_goals try simp only [std1, ne_eq] at *
  all_goals try simp only [fszAddr, fszEntry, fszResponse, etaS, std1, std2, Nat.reduceAdd, ne_eq, Sh.good, Sh.fc, enc, List.forall_mem_cons, List.not_mem_nil, false_implies, implies_true, goodC, maxLen] at *
  all_goals grind [wrapId', lessen, szAddr, szEntry, szResponse])
def E55 : D.Env := E54.add 99 fszEntry
theorem E55ok : EOk Tryz.prog E55 := E54ok.add k99_54
theorem k109_55 : ftoEntry.ok Tryz.prog 109 := Fct.of (S := ftoEntry) (L := fun _ _ => none) (kp := [1,2,3]) E55ok Tryz.func109 (by kernel_rfl) (by kernel_rfl) (by
  rintro ⟨(x : SEntry), _⟩ hp
  refine holds_of (X := .cl ftoAddr (x.to, ()) fun z2 =>
 .cl ftoResponse (x.response, ()) fun z3 =>
 .leaf (mkR ftoEntry.rs (⟨x.top, z2.1, z3.1, x.until_⟩, ())) [] []) (by kernel_rfl) ?_
  refine cl_i ?_ fun o1 => (cl_i ?_ fun o2 => (Fct.leafY ?_))
  all_goals try simp only [std1, ne_eq] at *
  all_goals try simp only [ftoAddr, ftoEntry, ftoResponse, etaS, std1, std2, Nat.reduceAdd, ne_eq] at *
  all_goals first | trivial | rfl | grind [szAddr, szEntry, szResponse])
def E56 : D.Env := E55.add 109 ftoEntry
theorem E56ok : EOk Tryz.prog E56 := E55ok.add k109_55
set_option maxHeartbeats 2000000 in
theorem k119_56 : feqEntry.ok Tryz.prog 119 := Fct.of (S := feqEntry) (L := fun _ _ => none) (kp := [2,3,4,9,15,21,26,1000009,1000015,1000021,1000026]) E56ok Tryz.func119 (by kernel_rfl) (by kernel_rfl) (by
  rintro ⟨(x : SEntry), (y : SEntry), _⟩ hp
  refine holds_of (X := .br (!x.top.toList == y.top.toList)
 (.leaf (mkR feqEntry.rs (false, ())) [] [])
 (.cl feqAddr (x.to, y.to, ()) fun z2 =>
 .br (!z2.1)
 (.leaf (mkR feqEntry.rs (false, ())) [] [])
 (.cl feqResponse (x.response, y.response, ()) fun z3 =>
 .br (!z3.1)
 (.leaf (mkR feqEntry.rs (false, ())) [] [])
 (.br (x.until_ != y.until_)
 (.leaf (mkR feqEntry.rs (false, ())) [] [])
 (.leaf (mkR feqEntry.rs (true, ())) [] []))))) (by kernel_rfl) ?_
  refine br_i (fun h1 => Fct.leafY ?_) (fun h1 => cl_i trivial fun _ => (br_i (fun h2 => Fct.leafY ?_) (fun h2 => cl_i trivial fun _ => (br_i (fun h3 => Fct.leafY ?_) (fun h3 => br_i (fun h4 => Fct.leafY ?_) (fun h4 => Fct.leafY ?_))))))
  all_goals try simp only [std1, ne_eq] at *
  all_goals try simp only [feqAddr, feqEntry, feqResponse, etaS, std1, std2, Nat.reduceAdd, ne_eq] at *
  all_goals first | trivial | (cases x; cases y; simp_all; done) | (simp only [szAddr, szEntry, szResponse] at *; omega) | grind [szAddr, szEntry, szResponse])
def E57 : D.Env := E56.add 119 feqEntry
theorem E57ok : EOk Tryz.prog E57 := E56ok.add k119_56
set_option maxHeartbeats 2000000 in
theorem k65_57 : fszEntryS.ok Tryz.prog 65 := Fct.of (S := fszEntryS) (L := fun ⟨l, n, _⟩ => fun | 5 => some (LszS .entry szEntry l n) | _ => none) (kp := [0,1,4,5,11,15,25,1000011,1000015,1000025]) E57ok Tryz.func65 (by kernel_rfl) (by kernel_rfl) (by
  rintro ⟨(l : List SEntry), (n : Int), _⟩ hp
  refine holds_of (X := .br (decide (IntKind.i64.wrap (n - (↑l.length : Int)) < (0 : Int)))
 (.leaf (mkR fszEntryS.rs ((-1 : Int), ())) [] [])
 (lpx (LszS .entry szEntry l n) (IntKind.i64.wrap (n - (↑l.length : Int)), ((0 : Int), ())) fun (y2 : Int × Int × PUnit) bk2 =>
 .br (decide (y2.2.1 < (↑l.length : Int)))
 (.ob ((0 : Int) ≤ y2.2.1 ∧ y2.2.1 < (↑l.length : Int)) <| .cl fszEntry (l.getD y2.2.1.toNat default, y2.1, ()) fun z2 =>
 .br (decide (z2.1 < (0 : Int)))
 (.leaf (mkR fszEntryS.rs ((-1 : Int), ())) [] [])
 (.ob (l = l) <| .ob (bk2 (z2.1, (IntKind.i64.wrap (y2.2.1 + (1 : Int)), ()))) <| .ok))
 (.leaf (mkR fszEntryS.rs (y2.1, ())) [] []))) (by kernel_rfl) ?_
  refine br_i (fun h1 => Fct.leafY ?_) (fun h1 => lpx_i ?_ fun (y2 : Int × Int × PUnit) i2 => br_i (fun h3 => ob_i ?_ fun o4 => cl_i ?_ fun o5 => (br_i (fun h6 => Fct.leafY ?_) (fun h6 => ob_i rfl fun _ => ob_i ?_ fun o7 => trivial))) (fun h3 => Fct.leafY ?_))
  all_goals try simp only [std1, ne_eq] at *
  all_goals try simp only [LszS, fszEntry, fszEntryS, etaS, std1, std2, Nat.reduceAdd, ne_eq] at *
  · have := good_len hp.1; simp only [maxLen] at this; rw [wrapId (by omega)] at h1
    rw [lessenNeg (by simp only [szL]; omega)]
  · have := good_len hp.1; simp only [maxLen] at this
    rw [wrapId (by omega)] at h1 ⊢
    exact ⟨by omega, by omega, h1, by simp⟩
  · omega
  · exact ⟨good_getD hp.1 (by omega), by omega, by omega⟩
  · have hs := sum_take_le szEntry l (y2.2.1.toNat + 1)
    rw [sum_take szEntry (by omega)] at hs
    rw [lessen_lt (by omega)] at h6
    rw [lessenNeg (by simp only [szL]; omega)]
  · have hw : IntKind.i64.wrap (y2.2.1 + 1) = y2.2.1 + 1 := wrapId (by have := good_len hp.1; simp only [maxLen] at this; omega)
    have h7 : ¬ lessen y2.1 (szEntry (l.getD y2.2.1.toNat default)) < 0 := by omega
    rw [lessen_lt (by omega)] at h7
    rw [hw, toNat1 (by omega), sum_take szEntry (by omega), lessen_ge (by omega)]
    exact ⟨⟨by omega, by omega, by omega, by omega⟩, by omega⟩
  · have e : l.take y2.2.1.toNat = l := List.take_of_length_le (by omega)
    rw [e] at i2
    have hz : ((szL szEntry l : Nat) : Int) = l.length + (l.map szEntry).sum := by simp only [szL]; omega
    rw [lessen_ge (by omega)]
    show y2.1 = n - ((szL szEntry l : Nat) : Int)
    omega)
def E58 : D.Env := E57.add 65 fszEntryS
theorem E58ok : EOk Tryz.prog E58 := E57ok.add k65_57
theorem k77_58 : ftoEntryS.ok Tryz.prog 77 := Fct.of (S := ftoEntryS) (L := fun ⟨l, _⟩ => fun | 3 => some (LtoS .entry l) | _ => none) (kp := [0,2,3,4,11,1000011]) E58ok Tryz.func77 (by kernel_rfl) (by kernel_rfl) (by
  rintro ⟨(l : List SEntry), _⟩ hp
  refine holds_of (X := .ob ((↑l.length : Int) = (↑l.length : Int) ∧
 (0 : Int) ≤ (↑l.length : Int) ∧
 (120 : Int) * (↑l.length : Int) ≤ (140737488355328 : Int) ∧ (↑l.length : Int) ≤ (140737488355328 : Int)) <| lpx (LtoS .entry l) ((0 : Int), (List.replicate (↑l.length : Int).toNat default, ())) fun (y2 : Int × List SEntry × PUnit) bk2 =>
 .br (decide (y2.1 < (↑l.length : Int)))
 (.ob ((0 : Int) ≤ y2.1 ∧ y2.1 < (↑l.length : Int)) <| .cl ftoEntry (l.getD y2.1.toNat default, ()) fun z2 =>
 .ob ((0 : Int) ≤ y2.1 ∧ y2.1 < (↑y2.2.1.length : Int)) <| .ob (y2.1.toNat < y2.2.1.length) <| .lt (List SEntry) (y2.2.1.modify y2.1.toNat fun z => z2.1) fun z3 =>
 .ob (l = l) <| .ob (bk2 (IntKind.i64.wrap (y2.1 + (1 : Int)), (z3, ()))) <| .ok)
 (.leaf (mkR ftoEntryS.rs (y2.2.1, ())) [] [])) (by kernel_rfl) ?_
  refine ob_i ?_ fun o1 => lpx_i ?_ fun (y2 : Int × List SEntry × PUnit) i2 => br_i (fun h3 => ob_i ?_ fun o4 => cl_i ?_ fun o5 => (ob_i ?_ fun o6 => ob_i ?_ fun o7 => lt_i (ob_i rfl fun _ => ob_i ?_ fun o8 => trivial))) (fun h3 => Fct.leafY ?_)
  all_goals try simp only [std1, ne_eq] at *
  all_goals try simp only [LtoS, ftoEntry, ftoEntryS, etaS, std1, std2, Nat.reduceAdd, ne_eq] at *
  · have := szL_len szEntry l; omega
  · exact ⟨by omega, by omega, by simp⟩
  · omega
  · have hs := sum_take_le szEntry l (y2.1.toNat + 1)
    rw [sum_take szEntry (by omega)] at hs
    simp only [szL] at hp; omega
  · rw [i2.2.2]; simp; omega
  · rw [i2.2.2]; simp; omega
  · have hw : IntKind.i64.wrap (y2.1 + 1) = y2.1 + 1 := wrapId (by have := szL_len szEntry l; omega)
    rw [hw, toNat1 (by omega), i2.2.2]
    refine ⟨⟨by omega, by omega, ?_⟩, by omega⟩
    rw [show l.length - y2.1.toNat = (l.length - (y2.1.toNat + 1)) + 1 from by omega, List.replicate_succ, mod_at (by simp; omega), take_succ (by omega)]
    simp
  · have e : l.take y2.1.toNat = l := List.take_of_length_le (by omega)
    rw [i2.2.2, e]; simp; omega)
def E59 : D.Env := E58.add 77 ftoEntryS
theorem E59ok : EOk Tryz.prog E59 := E58ok.add k77_58
set_option maxHeartbeats 2000000 in
theorem k89_59 : feqEntryS.ok Tryz.prog 89 := Fct.of (S := feqEntryS) (L := fun ⟨l, m, _⟩ => fun | 4 => some (LeqS .entry l m) | _ => none) (kp := [0,1,4,5,10,14,26,1000010,1000014,1000026]) E59ok Tryz.func89 (by kernel_rfl) (by kernel_rfl) (by
  rintro ⟨(l : List SEntry), (m : List SEntry), _⟩ hp
  refine holds_of (X := .br ((↑l.length : Int) != (↑m.length : Int))
 (.leaf (mkR feqEntryS.rs (false, ())) [] [])
 (lpx (LeqS .entry l m) ((0 : Int), ()) fun (y2 : Int × PUnit) bk2 =>
 .br (decide (y2.1 < (↑l.length : Int)))
 (.ob ((0 : Int) ≤ y2.1 ∧ y2.1 < (↑l.length : Int)) <| .ob ((0 : Int) ≤ y2.1 ∧ y2.1 < (↑m.length : Int)) <| .cl feqEntry (l.getD y2.1.toNat default, m.getD y2.1.toNat default, ()) fun z2 =>
 .br (!z2.1)
 (.leaf (mkR feqEntryS.rs (false, ())) [] [])
 (.ob (l = l) <| .ob (m = m) <| .ob (bk2 (IntKind.i64.wrap (y2.1 + (1 : Int)), ())) <| .ok))
 (.leaf (mkR feqEntryS.rs (true, ())) [] []))) (by kernel_rfl) ?_
  refine br_i (fun h1 => Fct.leafY ?_) (fun h1 => lpx_i ?_ fun (y2 : Int × PUnit) i2 => br_i (fun h3 => ob_i ?_ fun o4 => ob_i ?_ fun o5 => cl_i trivial fun _ => (br_i (fun h6 => Fct.leafY ?_) (fun h6 => ob_i rfl fun _ => ob_i rfl fun _ => ob_i ?_ fun o7 => trivial))) (fun h3 => Fct.leafY ?_))
  all_goals try simp only [std1, ne_eq] at *
  all_goals try simp only [LeqS, feqEntry, feqEntryS, etaS, std1, std2, Nat.reduceAdd, ne_eq] at *
  · rw [decide_eq_false]; rintro rfl; omega
  · exact ⟨by omega, by omega, by simp⟩
  · omega
  · omega
  · rw [decide_eq_false]; rintro rfl; exact absurd rfl h6
  · have hw : IntKind.i64.wrap (y2.1 + 1) = y2.1 + 1 := wrapId (by omega)
    rw [hw, toNat1 (by omega)]
    refine ⟨⟨by omega, by omega, ?_⟩, by omega⟩
    rw [take_succ (by omega), take_succ (by omega), i2.2.2, h6]
  · have e : l.take y2.1.toNat = l := List.take_of_length_le (by omega)
    have e2 : m.take y2.1.toNat = m := List.take_of_length_le (by omega)
    rw [decide_eq_true]; rw [← e, ← e2, i2.2.2])
def E60 : D.Env := E59.add 89 feqEntryS
theorem E60ok : EOk Tryz.prog E60 := E59ok.add k89_59
set_option maxHeartbeats 2000000 in
theorem k22_60 : fszCache.ok Tryz.prog 22 := Fct.of (S := fszCache) (L := fun _ _ => none) (kp := [1,2,4,10,1000010]) E60ok Tryz.func22 (by kernel_rfl) (by kernel_rfl) (by
  rintro ⟨(x : SCache), (n : Int), _⟩ hp
  refine holds_of (X := .cl fszEntryS (x.entries, n, ()) fun z2 =>
 .br (decide (z2.1 < (0 : Int)))
 (.leaf (mkR fszCache.rs ((-1 : Int), ())) [] [])
 (.leaf (mkR fszCache.rs (z2.1, ())) [] [])) (by kernel_rfl) ?_
  refine cl_i ?_ fun o1 => (br_i (fun h2 => Fct.leafY ?_) (fun h2 => Fct.leafY ?_))
  all_goals try simp only [std1, ne_eq] at *
  all_goals try simp only [fszCache, fszEntryS, etaS, std1, std2, Nat.reduceAdd, ne_eq, Sh.good, Sh.fc, enc, List.forall_mem_cons, List.not_mem_nil, false_implies, implies_true, goodC, maxLen] at *
  all_goals grind [wrapId', lessen, szCache, szL])
def E61 : D.Env := E60.add 22 fszCache
theorem E61ok : EOk Tryz.prog E61 := E60ok.add k22_60
theorem k37_61 : ftoCache.ok Tryz.prog 37 := Fct.of (S := ftoCache) (L := fun _ _ => none) (kp := [1,2,3]) E61ok Tryz.func37 (by kernel_rfl) (by kernel_rfl) (by
  rintro ⟨(x : SCache), _⟩ hp
  refine holds_of (X := .cl ftoEntryS (x.entries, ()) fun z2 =>
 .leaf (mkR ftoCache.rs (⟨z2.1⟩, ())) [] []) (by kernel_rfl) ?_
  refine cl_i ?_ fun o1 => (Fct.leafY ?_)
  all_goals try simp only [std1, ne_eq] at *
  all_goals try simp only [ftoCache, ftoEntryS, etaS, std1, std2, Nat.reduceAdd, ne_eq] at *
  all_goals first | trivial | rfl | grind [szCache, szL])
def E62 : D.Env := E61.add 37 ftoCache
theorem E62ok : EOk Tryz.prog E62 := E61ok.add k37_61
set_option maxHeartbeats 2000000 in
theorem k51_62 : feqCache.ok Tryz.prog 51 := Fct.of (S := feqCache) (L := fun _ _ => none) (kp := [2,3,4,10,1000010]) E62ok Tryz.func51 (by kernel_rfl) (by kernel_rfl) (by
  rintro ⟨(x : SCache), (y : SCache), _⟩ hp
  refine holds_of (X := .cl feqEntryS (x.entries, y.entries, ()) fun z2 =>
 .br (!z2.1)
 (.leaf (mkR feqCache.rs (false, ())) [] [])
 (.leaf (mkR feqCache.rs (true, ())) [] [])) (by kernel_rfl) ?_
  refine cl_i ?_ fun o1 => (br_i (fun h2 => Fct.leafY ?_) (fun h2 => Fct.leafY ?_))
  all_goals try simp only [std1, ne_eq] at *
  all_goals try simp only [feqCache, feqEntryS, etaS, std1, std2, Nat.reduceAdd, ne_eq] at *
  all_goals first | trivial | (cases x; cases y; simp_all; done) | (simp only [szCache, szL] at *; omega) | grind [szCache, szL])
def E63 : D.Env := E62.add 51 feqCache
theorem E63ok : EOk Tryz.prog E63 := E62ok.add k51_62
set_option maxHeartbeats 2000000 in
theorem k66_63 : fszSent.ok Tryz.prog 66 := Fct.of (S := fszSent) (L := fun _ _ => none) (kp := [1,2,4,11,17,1000011,1000017]) E63ok Tryz.func66 (by kernel_rfl) (by kernel_rfl) (by
  rintro ⟨(x : SSent), (n : Int), _⟩ hp
  refine holds_of (X := .br (decide (IntKind.i64.wrap (n - (↑x.top.size : Int)) < (0 : Int)))
 (.leaf (mkR fszSent.rs ((-1 : Int), ())) [] [])
 (.cl fszAddr (x.to, IntKind.i64.wrap (n - (↑x.top.size : Int)), ()) fun z2 =>
 .br (decide (z2.1 < (0 : Int)))
 (.leaf (mkR fszSent.rs ((-1 : Int), ())) [] [])
 (.leaf (mkR fszSent.rs (z2.1, ())) [] []))) (by kernel_rfl) ?_
  refine br_i (fun h1 => Fct.leafY ?_) (fun h1 => cl_i ?_ fun o2 => (br_i (fun h3 => Fct.leafY ?_) (fun h3 => Fct.leafY ?_)))
  all_goals try simp only [std1, ne_eq] at *
  all_goals try simp only [fszAddr, fszSent, etaS, std1, std2, Nat.reduceAdd, ne_eq, Sh.good, Sh.fc, enc, List.forall_mem_cons, List.not_mem_nil, false_implies, implies_true, goodC, maxLen] at *
  all_goals grind [wrapId', lessen, szAddr, szSent])
def E64 : D.Env := E63.add 66 fszSent
theorem E64ok : EOk Tryz.prog E64 := E63ok.add k66_63
theorem k78_64 : ftoSent.ok Tryz.prog 78 := Fct.of (S := ftoSent) (L := fun _ _ => none) (kp := [1,2,3]) E64ok Tryz.func78 (by kernel_rfl) (by kernel_rfl) (by
  rintro ⟨(x : SSent), _⟩ hp
  refine holds_of (X := .cl ftoAddr (x.to, ()) fun z2 =>
 .leaf (mkR ftoSent.rs (⟨x.top, z2.1, x.guess⟩, ())) [] []) (by kernel_rfl) ?_
  refine cl_i ?_ fun o1 => (Fct.leafY ?_)
  all_goals try simp only [std1, ne_eq] at *
  all_goals try simp only [ftoAddr, ftoSent, etaS, std1, std2, Nat.reduceAdd, ne_eq] at *
  all_goals first | trivial | rfl | grind [szAddr, szSent])
def E65 : D.Env := E64.add 78 ftoSent
theorem E65ok : EOk Tryz.prog E65 := E64ok.add k78_64
set_option maxHeartbeats 2000000 in
theorem k90_65 : feqSent.ok Tryz.prog 90 := Fct.of (S := feqSent) (L := fun _ _ => none) (kp := [2,3,4,9,15,20,1000009,1000015,1000020]) E65ok Tryz.func90 (by kernel_rfl) (by kernel_rfl) (by
  rintro ⟨(x : SSent), (y : SSent), _⟩ hp
  refine holds_of (X := .br (!x.top.toList == y.top.toList)
 (.leaf (mkR feqSent.rs (false, ())) [] [])
 (.cl feqAddr (x.to, y.to, ()) fun z2 =>
 .br (!z2.1)
 (.leaf (mkR feqSent.rs (false, ())) [] [])
 (.br (!x.guess == y.guess)
 (.leaf (mkR feqSent.rs (false, ())) [] [])
 (.leaf (mkR feqSent.rs (true, ())) [] [])))) (by kernel_rfl) ?_
  refine br_i (fun h1 => Fct.leafY ?_) (fun h1 => cl_i trivial fun _ => (br_i (fun h2 => Fct.leafY ?_) (fun h2 => br_i (fun h3 => Fct.leafY ?_) (fun h3 => Fct.leafY ?_))))
  all_goals try simp only [std1, ne_eq] at *
  all_goals try simp only [feqAddr, feqSent, etaS, std1, std2, Nat.reduceAdd, ne_eq] at *
  all_goals first | trivial | (cases x; cases y; simp_all; done) | (simp only [szAddr, szSent] at *; omega) | grind [szAddr, szSent])
def E66 : D.Env := E65.add 90 feqSent
theorem E66ok : EOk Tryz.prog E66 := E65ok.add k90_65
set_option maxHeartbeats 2000000 in
theorem k23_66 : fszSentS.ok Tryz.prog 23 := Fct.of (S := fszSentS) (L := fun ⟨l, n, _⟩ => fun | 5 => some (LszS .sent szSent l n) | _ => none) (kp := [0,1,4,5,11,15,25,1000011,1000015,1000025]) E66ok Tryz.func23 (by kernel_rfl) (by kernel_rfl) (by
  rintro ⟨(l : List SSent), (n : Int), _⟩ hp
  refine holds_of (X := .br (decide (IntKind.i64.wrap (n - (↑l.length : Int)) < (0 : Int)))
 (.leaf (mkR fszSentS.rs ((-1 : Int), ())) [] [])
 (lpx (LszS .sent szSent l n) (IntKind.i64.wrap (n - (↑l.length : Int)), ((0 : Int), ())) fun (y2 : Int × Int × PUnit) bk2 =>
 .br (decide (y2.2.1 < (↑l.length : Int)))
 (.ob ((0 : Int) ≤ y2.2.1 ∧ y2.2.1 < (↑l.length : Int)) <| .cl fszSent (l.getD y2.2.1.toNat default, y2.1, ()) fun z2 =>
 .br (decide (z2.1 < (0 : Int)))
 (.leaf (mkR fszSentS.rs ((-1 : Int), ())) [] [])
 (.ob (l = l) <| .ob (bk2 (z2.1, (IntKind.i64.wrap (y2.2.1 + (1 : Int)), ()))) <| .ok))
 (.leaf (mkR fszSentS.rs (y2.1, ())) [] []))) (by kernel_rfl) ?_
  refine br_i (fun h1 => Fct.leafY ?_) (fun h1 => lpx_i ?_ fun (y2 : Int × Int × PUnit) i2 => br_i (fun h3 => ob_i ?_ fun o4 => cl_i ?_ fun o5 => (br_i (fun h6 => Fct.leafY ?_) (fun h6 => ob_i rfl fun _ => ob_i ?_ fun o7 => trivial))) (fun h3 => Fct.leafY ?_))
  all_goals try simp only [std1, ne_eq] at *
  all_goals try simp only [LszS, fszSent, fszSentS, etaS, std1, std2, Nat.reduceAdd, ne_eq] at *
  · have := good_len hp.1; simp only [maxLen] at this; rw [wrapId (by omega)] at h1
    rw [lessenNeg (by simp only [szL]; omega)]
  · have := good_len hp.1; simp only [maxLen] at this
    rw [wrapId (by omega)] at h1 ⊢
    exact ⟨by omega, by omega, h1, by simp⟩
  · omega
  · exact ⟨good_getD hp.1 (by omega), by omega, by omega⟩
  · have hs := sum_take_le szSent l (y2.2.1.toNat + 1)
    rw [sum_take szSent (by omega)] at hs
    rw [lessen_lt (by omega)] at h6
    rw [lessenNeg (by simp only [szL]; omega)]
  · have hw : IntKind.i64.wrap (y2.2.1 + 1) = y2.2.1 + 1 := wrapId (by have := good_len hp.1; simp only [maxLen] at this; omega)
    have h7 : ¬ lessen y2.1 (szSent (l.getD y2.2.1.toNat default)) < 0 := by omega
    rw [lessen_lt (by omega)] at h7
    rw [hw, toNat1 (by omega), sum_take szSent (by omega), lessen_ge (by omega)]
    exact ⟨⟨by omega, by omega, by omega, by omega⟩, by omega⟩
  · have e : l.take y2.2.1.toNat = l := List.take_of_length_le (by omega)
    rw [e] at i2
    have hz : ((szL szSent l : Nat) : Int) = l.length + (l.map szSent).sum := by simp only [szL]; omega
    rw [lessen_ge (by omega)]
    show y2.1 = n - ((szL szSent l : Nat) : Int)
    omega)
def E67 : D.Env := E66.add 23 fszSentS
theorem E67ok : EOk Tryz.prog E67 := E66ok.add k23_66
theorem k38_67 : ftoSentS.ok Tryz.prog 38 := Fct.of (S := ftoSentS) (L := fun ⟨l, _⟩ => fun | 3 => some (LtoS .sent l) | _ => none) (kp := [0,2,3,4,11,1000011]) E67ok Tryz.func38 (by kernel_rfl) (by kernel_rfl) (by
  rintro ⟨(l : List SSent), _⟩ hp
  refine holds_of (X := .ob ((↑l.length : Int) = (↑l.length : Int) ∧
 (0 : Int) ≤ (↑l.length : Int) ∧
 (56 : Int) * (↑l.length : Int) ≤ (140737488355328 : Int) ∧ (↑l.length : Int) ≤ (140737488355328 : Int)) <| lpx (LtoS .sent l) ((0 : Int), (List.replicate (↑l.length : Int).toNat default, ())) fun (y2 : Int × List SSent × PUnit) bk2 =>
 .br (decide (y2.1 < (↑l.length : Int)))
 (.ob ((0 : Int) ≤ y2.1 ∧ y2.1 < (↑l.length : Int)) <| .cl ftoSent (l.getD y2.1.toNat default, ()) fun z2 =>
 .ob ((0 : Int) ≤ y2.1 ∧ y2.1 < (↑y2.2.1.length : Int)) <| .ob (y2.1.toNat < y2.2.1.length) <| .lt (List SSent) (y2.2.1.modify y2.1.toNat fun z => z2.1) fun z3 =>
 .ob (l = l) <| .ob (bk2 (IntKind.i64.wrap (y2.1 + (1 : Int)), (z3, ()))) <| .ok)
 (.leaf (mkR ftoSentS.rs (y2.2.1, ())) [] [])) (by kernel_rfl) ?_
  refine ob_i ?_ fun o1 => lpx_i ?_ fun (y2 : Int × List SSent × PUnit) i2 => br_i (fun h3 => ob_i ?_ fun o4 => cl_i ?_ fun o5 => (ob_i ?_ fun o6 => ob_i ?_ fun o7 => lt_i (ob_i rfl fun _ => ob_i ?_ fun o8 => trivial))) (fun h3 => Fct.leafY ?_)
  all_goals try simp only [std1, ne_eq] at *
  all_goals try simp only [LtoS, ftoSent, ftoSentS, etaS, std1, std2, Nat.reduceAdd, ne_eq] at *
  · have := szL_len szSent l; omega
  · exact ⟨by omega, by omega, by simp⟩
  · omega
  · have hs := sum_take_le szSent l (y2.1.toNat + 1)
    rw [sum_take szSent (by omega)] at hs
    simp only [szL] at hp; omega
  · rw [i2.2.2]; simp; omega
  · rw [i2.2.2]; simp; omega
  · have hw : IntKind.i64.wrap (y2.1 + 1) = y2.1 + 1 := wrapId (by have := szL_len szSent l; omega)
    rw [hw, toNat1 (by omega), i2.2.2]
    refine ⟨⟨by omega, by omega, ?_⟩, by omega⟩
    rw [show l.length - y2.1.toNat = (l.length - (y2.1.toNat + 1)) + 1 from by omega, List.replicate_succ, mod_at (by simp; omega), take_succ (by omega)]
    simp
  · have e : l.take y2.1.toNat = l := List.take_of_length_le (by omega)
    rw [i2.2.2, e]; simp; omega)
def E68 : D.Env := E67.add 38 ftoSentS
theorem E68ok : EOk Tryz.prog E68 := E67ok.add k38_67
set_option maxHeartbeats 2000000 in
theorem k52_68 : feqSentS.ok Tryz.prog 52 := Fct.of (S := feqSentS) (L := fun ⟨l, m, _⟩ => fun | 4 => some (LeqS .sent l m) | _ => none) (kp := [0,1,4,5,10,14,26,1000010,1000014,1000026]) E68ok Tryz.func52 (by kernel_rfl) (by kernel_rfl) (by
  rintro ⟨(l : List SSent), (m : List SSent), _⟩ hp
  refine holds_of (X := .br ((↑l.length : Int) != (↑m.length : Int))
 (.leaf (mkR feqSentS.rs (false, ())) [] [])
 (lpx (LeqS .sent l m) ((0 : Int), ()) fun (y2 : Int × PUnit) bk2 =>
 .br (decide (y2.1 < (↑l.length : Int)))
 (.ob ((0 : Int) ≤ y2.1 ∧ y2.1 < (↑l.length : Int)) <| .ob ((0 : Int) ≤ y2.1 ∧ y2.1 < (↑m.length : Int)) <| .cl feqSent (l.getD y2.1.toNat default, m.getD y2.1.toNat default, ()) fun z2 =>
 .br (!z2.1)
 (.leaf (mkR feqSentS.rs (false, ())) [] [])
 (.ob (l = l) <| .ob (m = m) <| .ob (bk2 (IntKind.i64.wrap (y2.1 + (1 : Int)), ())) <| .ok))
 (.leaf (mkR feqSentS.rs (true, ())) [] []))) (by kernel_rfl) ?_
  refine br_i (fun h1 => Fct.leafY ?_) (fun h1 => lpx_i ?_ fun (y2 : Int × PUnit) i2 => br_i (fun h3 => ob_i ?_ fun o4 => ob_i ?_ fun o5 => cl_i trivial fun _ => (br_i (fun h6 => Fct.leafY ?_) (fun h6 => ob_i rfl fun _ => ob_i rfl fun _ => ob_i ?_ fun o7 => trivial))) (fun h3 => Fct.leafY ?_))
  all_goals try simp only [std1, ne_eq] at *
  all_goals try simp only [LeqS, feqSent, feqSentS, etaS, std1, std2, Nat.reduceAdd, ne_eq] at *
  · rw [decide_eq_false]; rintro rfl; omega
  · exact ⟨by omega, by omega, by simp⟩
  · omega
  · omega
  · rw [decide_eq_false]; rintro rfl; exact absurd rfl h6
  · have hw : IntKind.i64.wrap (y2.1 + 1) = y2.1 + 1 := wrapId (by omega)
    rw [hw, toNat1 (by omega)]
    refine ⟨⟨by omega, by omega, ?_⟩, by omega⟩
    rw [take_succ (by omega), take_succ (by omega), i2.2.2, h6]
  · have e : l.take y2.1.toNat = l := List.take_of_length_le (by omega)
    have e2 : m.take y2.1.toNat = m := List.take_of_length_le (by omega)
    rw [decide_eq_true]; rw [← e, ← e2, i2.2.2])
def E69 : D.Env := E68.add 52 feqSentS
theorem E69ok : EOk Tryz.prog E69 := E68ok.add k52_68
set_option maxHeartbeats 2000000 in
theorem k7_69 : fszNet.ok Tryz.prog 7 := Fct.of (S := fszNet) (L := fun _ _ => none) (kp := [1,2,4,10,16,22,1000010,1000016,1000022]) E69ok Tryz.func7 (by kernel_rfl) (by kernel_rfl) (by
  rintro ⟨(x : SNet), (n : Int), _⟩ hp
  refine holds_of (X := .cl fszServerS (x.servers, n, ()) fun z2 =>
 .br (decide (z2.1 < (0 : Int)))
 (.leaf (mkR fszNet.rs ((-1 : Int), ())) [] [])
 (.cl fszCache (x.cache, z2.1, ()) fun z3 =>
 .br (decide (z3.1 < (0 : Int)))
 (.leaf (mkR fszNet.rs ((-1 : Int), ())) [] [])
 (.cl fszSentS (x.log, z3.1, ()) fun z4 =>
 .br (decide (z4.1 < (0 : Int)))
 (.leaf (mkR fszNet.rs ((-1 : Int), ())) [] [])
 (.leaf (mkR fszNet.rs (z4.1, ())) [] [])))) (by kernel_rfl) ?_
  refine cl_i ?_ fun o1 => (br_i (fun h2 => Fct.leafY ?_) (fun h2 => cl_i ?_ fun o3 => (br_i (fun h4 => Fct.leafY ?_) (fun h4 => cl_i ?_ fun o5 => (br_i (fun h6 => Fct.leafY ?_) (fun h6 => Fct.leafY ?_))))))
  all_goals try simp only [std1, ne_eq] at *
  all_goals try simp only [fszCache, fszNet, fszSentS, fszServerS, etaS, std1, std2, Nat.reduceAdd, ne_eq, Sh.good, Sh.fc, enc, List.forall_mem_cons, List.not_mem_nil, false_implies, implies_true, goodC, maxLen] at *
  all_goals grind [wrapId', lessen, szCache, szL, szNet])
def E70 : D.Env := E69.add 7 fszNet
theorem E70ok : EOk Tryz.prog E70 := E69ok.add k7_69
theorem k10_70 : ftoNet.ok Tryz.prog 10 := Fct.of (S := ftoNet) (L := fun _ _ => none) (kp := [1,2,3]) E70ok Tryz.func10 (by kernel_rfl) (by kernel_rfl) (by
  rintro ⟨(x : SNet), _⟩ hp
  refine holds_of (X := .cl ftoServerS (x.servers, ()) fun z2 =>
 .cl ftoCache (x.cache, ()) fun z3 =>
 .cl ftoSentS (x.log, ()) fun z4 =>
 .leaf (mkR ftoNet.rs (⟨z2.1, z3.1, z4.1, x.now⟩, ())) [] []) (by kernel_rfl) ?_
  refine cl_i ?_ fun o1 => (cl_i ?_ fun o2 => (cl_i ?_ fun o3 => (Fct.leafY ?_)))
  all_goals try simp only [std1, ne_eq] at *
  all_goals try simp only [ftoCache, ftoNet, ftoSentS, ftoServerS, etaS, std1, std2, Nat.reduceAdd, ne_eq] at *
  all_goals first | trivial | rfl | grind [szCache, szL, szNet])
def E71 : D.Env := E70.add 10 ftoNet
theorem E71ok : EOk Tryz.prog E71 := E70ok.add k10_70
set_option maxHeartbeats 2000000 in
theorem k13_71 : feqNet.ok Tryz.prog 13 := Fct.of (S := feqNet) (L := fun _ _ => none) (kp := [2,3,4,10,16,22,27,1000010,1000016,1000022,1000027]) E71ok Tryz.func13 (by kernel_rfl) (by kernel_rfl) (by
  rintro ⟨(x : SNet), (y : SNet), _⟩ hp
  refine holds_of (X := .cl feqServerS (x.servers, y.servers, ()) fun z2 =>
 .br (!z2.1)
 (.leaf (mkR feqNet.rs (false, ())) [] [])
 (.cl feqCache (x.cache, y.cache, ()) fun z3 =>
 .br (!z3.1)
 (.leaf (mkR feqNet.rs (false, ())) [] [])
 (.cl feqSentS (x.log, y.log, ()) fun z4 =>
 .br (!z4.1)
 (.leaf (mkR feqNet.rs (false, ())) [] [])
 (.br (x.now != y.now)
 (.leaf (mkR feqNet.rs (false, ())) [] [])
 (.leaf (mkR feqNet.rs (true, ())) [] []))))) (by kernel_rfl) ?_
  refine cl_i ?_ fun o1 => (br_i (fun h2 => Fct.leafY ?_) (fun h2 => cl_i ?_ fun o3 => (br_i (fun h4 => Fct.leafY ?_) (fun h4 => cl_i ?_ fun o5 => (br_i (fun h6 => Fct.leafY ?_) (fun h6 => br_i (fun h7 => Fct.leafY ?_) (fun h7 => Fct.leafY ?_)))))))
  all_goals try simp only [std1, ne_eq] at *
  all_goals try simp only [feqCache, feqNet, feqSentS, feqServerS, etaS, std1, std2, Nat.reduceAdd, ne_eq] at *
  all_goals first | trivial | (cases x; cases y; simp_all; done) | (simp only [szCache, szL, szNet] at *; omega) | grind [szCache, szL, szNet])
def E72 : D.Env := E71.add 13 feqNet
theorem E72ok : EOk Tryz.prog E72 := E71ok.add k13_71
set_option maxHeartbeats 2000000 in
theorem k70_72 : fszSlot.ok Tryz.prog 70 := Fct.of (S := fszSlot) (L := fun _ _ => none) (kp := [1,2,4,10,17,24,1000010,1000017,1000024]) E72ok Tryz.func70 (by kernel_rfl) (by kernel_rfl) (by
  rintro ⟨(x : SSlot), (n : Int), _⟩ hp
  refine holds_of (X := .cl fszAddr (x.to, n, ()) fun z2 =>
 .br (decide (z2.1 < (0 : Int)))
 (.leaf (mkR fszSlot.rs ((-1 : Int), ())) [] [])
 (.br (decide (IntKind.i64.wrap (z2.1 - (↑x.digest.size : Int)) < (0 : Int)))
 (.leaf (mkR fszSlot.rs ((-1 : Int), ())) [] [])
 (.br (decide (IntKind.i64.wrap (IntKind.i64.wrap (z2.1 - (↑x.digest.size : Int)) - (↑x.body.size : Int)) < (0 : Int)))
 (.leaf (mkR fszSlot.rs ((-1 : Int), ())) [] [])
 (.leaf (mkR fszSlot.rs (IntKind.i64.wrap (IntKind.i64.wrap (z2.1 - (↑x.digest.size : Int)) - (↑x.body.size : Int)), ())) [] [])))) (by kernel_rfl) ?_
  refine cl_i ?_ fun o1 => (br_i (fun h2 => Fct.leafY ?_) (fun h2 => br_i (fun h3 => Fct.leafY ?_) (fun h3 => br_i (fun h4 => Fct.leafY ?_) (fun h4 => Fct.leafY ?_))))
  all_goals try simp only [std1, ne_eq] at *
  all_goals try simp only [fszAddr, fszSlot, etaS, std1, std2, Nat.reduceAdd, ne_eq, Sh.good, Sh.fc, enc, List.forall_mem_cons, List.not_mem_nil, false_implies, implies_true, goodC, maxLen] at *
  all_goals grind [wrapId', lessen, szAddr, szSlot])
def E73 : D.Env := E72.add 70 fszSlot
theorem E73ok : EOk Tryz.prog E73 := E72ok.add k70_72
theorem k82_73 : ftoSlot.ok Tryz.prog 82 := Fct.of (S := ftoSlot) (L := fun _ _ => none) (kp := [1,2,3]) E73ok Tryz.func82 (by kernel_rfl) (by kernel_rfl) (by
  rintro ⟨(x : SSlot), _⟩ hp
  refine holds_of (X := .cl ftoAddr (x.to, ()) fun z2 =>
 .leaf (mkR ftoSlot.rs (⟨x.mode, z2.1, x.digest, x.node, x.done, x.code, x.body⟩, ())) [] []) (by kernel_rfl) ?_
  refine cl_i ?_ fun o1 => (Fct.leafY ?_)
  all_goals try simp only [std1, ne_eq] at *
  all_goals try simp only [ftoAddr, ftoSlot, etaS, std1, std2, Nat.reduceAdd, ne_eq] at *
  all_goals first | trivial | rfl | grind [szAddr, szSlot])
def E74 : D.Env := E73.add 82 ftoSlot
theorem E74ok : EOk Tryz.prog E74 := E73ok.add k82_73
set_option maxHeartbeats 2000000 in
theorem k94_74 : feqSlot.ok Tryz.prog 94 := Fct.of (S := feqSlot) (L := fun _ _ => none) (kp := [2,3,4,9,15,20,25,30,35,40,1000009,1000015,1000020,1000025,1000030,1000035,1000040]) E74ok Tryz.func94 (by kernel_rfl) (by kernel_rfl) (by
  rintro ⟨(x : SSlot), (y : SSlot), _⟩ hp
  refine holds_of (X := .br (x.mode != y.mode)
 (.leaf (mkR feqSlot.rs (false, ())) [] [])
 (.cl feqAddr (x.to, y.to, ()) fun z2 =>
 .br (!z2.1)
 (.leaf (mkR feqSlot.rs (false, ())) [] [])
 (.br (!x.digest.toList == y.digest.toList)
 (.leaf (mkR feqSlot.rs (false, ())) [] [])
 (.br (x.node != y.node)
 (.leaf (mkR feqSlot.rs (false, ())) [] [])
 (.br (!x.done == y.done)
 (.leaf (mkR feqSlot.rs (false, ())) [] [])
 (.br (x.code != y.code)
 (.leaf (mkR feqSlot.rs (false, ())) [] [])
 (.br (!x.body.toList == y.body.toList)
 (.leaf (mkR feqSlot.rs (false, ())) [] [])
 (.leaf (mkR feqSlot.rs (true, ())) [] [])))))))) (by kernel_rfl) ?_
  refine br_i (fun h1 => Fct.leafY ?_) (fun h1 => cl_i trivial fun _ => (br_i (fun h2 => Fct.leafY ?_) (fun h2 => br_i (fun h3 => Fct.leafY ?_) (fun h3 => br_i (fun h4 => Fct.leafY ?_) (fun h4 => br_i (fun h5 => Fct.leafY ?_) (fun h5 => br_i (fun h6 => Fct.leafY ?_) (fun h6 => br_i (fun h7 => Fct.leafY ?_) (fun h7 => Fct.leafY ?_))))))))
  all_goals try simp only [std1, ne_eq] at *
  all_goals try simp only [feqAddr, feqSlot, etaS, std1, std2, Nat.reduceAdd, ne_eq] at *
  all_goals first | trivial | (cases x; cases y; simp_all; done) | (simp only [szAddr, szSlot] at *; omega) | grind [szAddr, szSlot])
def E75 : D.Env := E74.add 94 feqSlot
theorem E75ok : EOk Tryz.prog E75 := E74ok.add k94_74
set_option maxHeartbeats 2000000 in
theorem k29_75 : fszSlotS.ok Tryz.prog 29 := Fct.of (S := fszSlotS) (L := fun ⟨l, n, _⟩ => fun | 5 => some (LszS .slot szSlot l n) | _ => none) (kp := [0,1,4,5,11,15,25,1000011,1000015,1000025]) E75ok Tryz.func29 (by kernel_rfl) (by kernel_rfl) (by
  rintro ⟨(l : List SSlot), (n : Int), _⟩ hp
  refine holds_of (X := .br (decide (IntKind.i64.wrap (n - (↑l.length : Int)) < (0 : Int)))
 (.leaf (mkR fszSlotS.rs ((-1 : Int), ())) [] [])
 (lpx (LszS .slot szSlot l n) (IntKind.i64.wrap (n - (↑l.length : Int)), ((0 : Int), ())) fun (y2 : Int × Int × PUnit) bk2 =>
 .br (decide (y2.2.1 < (↑l.length : Int)))
 (.ob ((0 : Int) ≤ y2.2.1 ∧ y2.2.1 < (↑l.length : Int)) <| .cl fszSlot (l.getD y2.2.1.toNat default, y2.1, ()) fun z2 =>
 .br (decide (z2.1 < (0 : Int)))
 (.leaf (mkR fszSlotS.rs ((-1 : Int), ())) [] [])
 (.ob (l = l) <| .ob (bk2 (z2.1, (IntKind.i64.wrap (y2.2.1 + (1 : Int)), ()))) <| .ok))
 (.leaf (mkR fszSlotS.rs (y2.1, ())) [] []))) (by kernel_rfl) ?_
  refine br_i (fun h1 => Fct.leafY ?_) (fun h1 => lpx_i ?_ fun (y2 : Int × Int × PUnit) i2 => br_i (fun h3 => ob_i ?_ fun o4 => cl_i ?_ fun o5 => (br_i (fun h6 => Fct.leafY ?_) (fun h6 => ob_i rfl fun _ => ob_i ?_ fun o7 => trivial))) (fun h3 => Fct.leafY ?_))
  all_goals try simp only [std1, ne_eq] at *
  all_goals try simp only [LszS, fszSlot, fszSlotS, etaS, std1, std2, Nat.reduceAdd, ne_eq] at *
  · have := good_len hp.1; simp only [maxLen] at this; rw [wrapId (by omega)] at h1
    rw [lessenNeg (by simp only [szL]; omega)]
  · have := good_len hp.1; simp only [maxLen] at this
    rw [wrapId (by omega)] at h1 ⊢
    exact ⟨by omega, by omega, h1, by simp⟩
  · omega
  · exact ⟨good_getD hp.1 (by omega), by omega, by omega⟩
  · have hs := sum_take_le szSlot l (y2.2.1.toNat + 1)
    rw [sum_take szSlot (by omega)] at hs
    rw [lessen_lt (by omega)] at h6
    rw [lessenNeg (by simp only [szL]; omega)]
  · have hw : IntKind.i64.wrap (y2.2.1 + 1) = y2.2.1 + 1 := wrapId (by have := good_len hp.1; simp only [maxLen] at this; omega)
    have h7 : ¬ lessen y2.1 (szSlot (l.getD y2.2.1.toNat default)) < 0 := by omega
    rw [lessen_lt (by omega)] at h7
    rw [hw, toNat1 (by omega), sum_take szSlot (by omega), lessen_ge (by omega)]
    exact ⟨⟨by omega, by omega, by omega, by omega⟩, by omega⟩
  · have e : l.take y2.2.1.toNat = l := List.take_of_length_le (by omega)
    rw [e] at i2
    have hz : ((szL szSlot l : Nat) : Int) = l.length + (l.map szSlot).sum := by simp only [szL]; omega
    rw [lessen_ge (by omega)]
    show y2.1 = n - ((szL szSlot l : Nat) : Int)
    omega)
def E76 : D.Env := E75.add 29 fszSlotS
theorem E76ok : EOk Tryz.prog E76 := E75ok.add k29_75
theorem k44_76 : ftoSlotS.ok Tryz.prog 44 := Fct.of (S := ftoSlotS) (L := fun ⟨l, _⟩ => fun | 3 => some (LtoS .slot l) | _ => none) (kp := [0,2,3,4,11,1000011]) E76ok Tryz.func44 (by kernel_rfl) (by kernel_rfl) (by
  rintro ⟨(l : List SSlot), _⟩ hp
  refine holds_of (X := .ob ((↑l.length : Int) = (↑l.length : Int) ∧
 (0 : Int) ≤ (↑l.length : Int) ∧
 (96 : Int) * (↑l.length : Int) ≤ (140737488355328 : Int) ∧ (↑l.length : Int) ≤ (140737488355328 : Int)) <| lpx (LtoS .slot l) ((0 : Int), (List.replicate (↑l.length : Int).toNat default, ())) fun (y2 : Int × List SSlot × PUnit) bk2 =>
 .br (decide (y2.1 < (↑l.length : Int)))
 (.ob ((0 : Int) ≤ y2.1 ∧ y2.1 < (↑l.length : Int)) <| .cl ftoSlot (l.getD y2.1.toNat default, ()) fun z2 =>
 .ob ((0 : Int) ≤ y2.1 ∧ y2.1 < (↑y2.2.1.length : Int)) <| .ob (y2.1.toNat < y2.2.1.length) <| .lt (List SSlot) (y2.2.1.modify y2.1.toNat fun z => z2.1) fun z3 =>
 .ob (l = l) <| .ob (bk2 (IntKind.i64.wrap (y2.1 + (1 : Int)), (z3, ()))) <| .ok)
 (.leaf (mkR ftoSlotS.rs (y2.2.1, ())) [] [])) (by kernel_rfl) ?_
  refine ob_i ?_ fun o1 => lpx_i ?_ fun (y2 : Int × List SSlot × PUnit) i2 => br_i (fun h3 => ob_i ?_ fun o4 => cl_i ?_ fun o5 => (ob_i ?_ fun o6 => ob_i ?_ fun o7 => lt_i (ob_i rfl fun _ => ob_i ?_ fun o8 => trivial))) (fun h3 => Fct.leafY ?_)
  all_goals try simp only [std1, ne_eq] at *
  all_goals try simp only [LtoS, ftoSlot, ftoSlotS, etaS, std1, std2, Nat.reduceAdd, ne_eq] at *
  · have := szL_len szSlot l; omega
  · exact ⟨by omega, by omega, by simp⟩
  · omega
  · have hs := sum_take_le szSlot l (y2.1.toNat + 1)
    rw [sum_take szSlot (by omega)] at hs
    simp only [szL] at hp; omega
  · rw [i2.2.2]; simp; omega
  · rw [i2.2.2]; simp; omega
  · have hw : IntKind.i64.wrap (y2.1 + 1) = y2.1 + 1 := wrapId (by have := szL_len szSlot l; omega)
    rw [hw, toNat1 (by omega), i2.2.2]
    refine ⟨⟨by omega, by omega, ?_⟩, by omega⟩
    rw [show l.length - y2.1.toNat = (l.length - (y2.1.toNat + 1)) + 1 from by omega, List.replicate_succ, mod_at (by simp; omega), take_succ (by omega)]
    simp
  · have e : l.take y2.1.toNat = l := List.take_of_length_le (by omega)
    rw [i2.2.2, e]; simp; omega)
def E77 : D.Env := E76.add 44 ftoSlotS
theorem E77ok : EOk Tryz.prog E77 := E76ok.add k44_76
set_option maxHeartbeats 2000000 in
theorem k58_77 : feqSlotS.ok Tryz.prog 58 := Fct.of (S := feqSlotS) (L := fun ⟨l, m, _⟩ => fun | 4 => some (LeqS .slot l m) | _ => none) (kp := [0,1,4,5,10,14,26,1000010,1000014,1000026]) E77ok Tryz.func58 (by kernel_rfl) (by kernel_rfl) (by
  rintro ⟨(l : List SSlot), (m : List SSlot), _⟩ hp
  refine holds_of (X := .br ((↑l.length : Int) != (↑m.length : Int))
 (.leaf (mkR feqSlotS.rs (false, ())) [] [])
 (lpx (LeqS .slot l m) ((0 : Int), ()) fun (y2 : Int × PUnit) bk2 =>
 .br (decide (y2.1 < (↑l.length : Int)))
 (.ob ((0 : Int) ≤ y2.1 ∧ y2.1 < (↑l.length : Int)) <| .ob ((0 : Int) ≤ y2.1 ∧ y2.1 < (↑m.length : Int)) <| .cl feqSlot (l.getD y2.1.toNat default, m.getD y2.1.toNat default, ()) fun z2 =>
 .br (!z2.1)
 (.leaf (mkR feqSlotS.rs (false, ())) [] [])
 (.ob (l = l) <| .ob (m = m) <| .ob (bk2 (IntKind.i64.wrap (y2.1 + (1 : Int)), ())) <| .ok))
 (.leaf (mkR feqSlotS.rs (true, ())) [] []))) (by kernel_rfl) ?_
  refine br_i (fun h1 => Fct.leafY ?_) (fun h1 => lpx_i ?_ fun (y2 : Int × PUnit) i2 => br_i (fun h3 => ob_i ?_ fun o4 => ob_i ?_ fun o5 => cl_i trivial fun _ => (br_i (fun h6 => Fct.leafY ?_) (fun h6 => ob_i rfl fun _ => ob_i rfl fun _ => ob_i ?_ fun o7 => trivial))) (fun h3 => Fct.leafY ?_))
  all_goals try simp only [std1, ne_eq] at *
  all_goals try simp only [LeqS, feqSlot, feqSlotS, etaS, std1, std2, Nat.reduceAdd, ne_eq] at *
  · rw [decide_eq_false]; rintro rfl; omega
  · exact ⟨by omega, by omega, by simp⟩
  · omega
  · omega
  · rw [decide_eq_false]; rintro rfl; exact absurd rfl h6
  · have hw : IntKind.i64.wrap (y2.1 + 1) = y2.1 + 1 := wrapId (by omega)
    rw [hw, toNat1 (by omega)]
    refine ⟨⟨by omega, by omega, ?_⟩, by omega⟩
    rw [take_succ (by omega), take_succ (by omega), i2.2.2, h6]
  · have e : l.take y2.1.toNat = l := List.take_of_length_le (by omega)
    have e2 : m.take y2.1.toNat = m := List.take_of_length_le (by omega)
    rw [decide_eq_true]; rw [← e, ← e2, i2.2.2])
def E78 : D.Env := E77.add 58 feqSlotS
theorem E78ok : EOk Tryz.prog E78 := E77ok.add k58_77
set_option maxHeartbeats 2000000 in
theorem k71_78 : fszModule.ok Tryz.prog 71 := Fct.of (S := fszModule) (L := fun _ _ => none) (kp := [1,2,4,10,17,1000010,1000017]) E78ok Tryz.func71 (by kernel_rfl) (by kernel_rfl) (by
  rintro ⟨(x : SModule), (n : Int), _⟩ hp
  refine holds_of (X := .cl fszAddr (x.to, n, ()) fun z2 =>
 .br (decide (z2.1 < (0 : Int)))
 (.leaf (mkR fszModule.rs ((-1 : Int), ())) [] [])
 (.br (decide (IntKind.i64.wrap (z2.1 - (↑x.body.size : Int)) < (0 : Int)))
 (.leaf (mkR fszModule.rs ((-1 : Int), ())) [] [])
 (.leaf (mkR fszModule.rs (IntKind.i64.wrap (z2.1 - (↑x.body.size : Int)), ())) [] []))) (by kernel_rfl) ?_
  refine cl_i ?_ fun o1 => (br_i (fun h2 => Fct.leafY ?_) (fun h2 => br_i (fun h3 => Fct.leafY ?_) (fun h3 => Fct.leafY ?_)))
  all_goals try simp only [std1, ne_eq] at *
  all_goals try simp only [fszAddr, fszModule, etaS, std1, std2, Nat.reduceAdd, ne_eq, Sh.good, Sh.fc, enc, List.forall_mem_cons, List.not_mem_nil, false_implies, implies_true, goodC, maxLen] at *
  all_goals grind [wrapId', lessen, szAddr, szModule])
def E79 : D.Env := E78.add 71 fszModule
theorem E79ok : EOk Tryz.prog E79 := E78ok.add k71_78
theorem k83_79 : ftoModule.ok Tryz.prog 83 := Fct.of (S := ftoModule) (L := fun _ _ => none) (kp := [1,2,3]) E79ok Tryz.func83 (by kernel_rfl) (by kernel_rfl) (by
  rintro ⟨(x : SModule), _⟩ hp
  refine holds_of (X := .cl ftoAddr (x.to, ()) fun z2 =>
 .leaf (mkR ftoModule.rs (⟨z2.1, x.done, x.code, x.body⟩, ())) [] []) (by kernel_rfl) ?_
  refine cl_i ?_ fun o1 => (Fct.leafY ?_)
  all_goals try simp only [std1, ne_eq] at *
  all_goals try simp only [ftoAddr, ftoModule, etaS, std1, std2, Nat.reduceAdd, ne_eq] at *
  all_goals first | trivial | rfl | grind [szAddr, szModule])
def E80 : D.Env := E79.add 83 ftoModule
theorem E80ok : EOk Tryz.prog E80 := E79ok.add k83_79
set_option maxHeartbeats 2000000 in
theorem k95_80 : feqModule.ok Tryz.prog 95 := Fct.of (S := feqModule) (L := fun _ _ => none) (kp := [2,3,4,10,15,20,25,1000010,1000015,1000020,1000025]) E80ok Tryz.func95 (by kernel_rfl) (by kernel_rfl) (by
  rintro ⟨(x : SModule), (y : SModule), _⟩ hp
  refine holds_of (X := .cl feqAddr (x.to, y.to, ()) fun z2 =>
 .br (!z2.1)
 (.leaf (mkR feqModule.rs (false, ())) [] [])
 (.br (!x.done == y.done)
 (.leaf (mkR feqModule.rs (false, ())) [] [])
 (.br (x.code != y.code)
 (.leaf (mkR feqModule.rs (false, ())) [] [])
 (.br (!x.body.toList == y.body.toList)
 (.leaf (mkR feqModule.rs (false, ())) [] [])
 (.leaf (mkR feqModule.rs (true, ())) [] []))))) (by kernel_rfl) ?_
  refine cl_i trivial fun _ => (br_i (fun h1 => Fct.leafY ?_) (fun h1 => br_i (fun h2 => Fct.leafY ?_) (fun h2 => br_i (fun h3 => Fct.leafY ?_) (fun h3 => br_i (fun h4 => Fct.leafY ?_) (fun h4 => Fct.leafY ?_)))))
  all_goals try simp only [std1, ne_eq] at *
  all_goals try simp only [feqAddr, feqModule, etaS, std1, std2, Nat.reduceAdd, ne_eq] at *
  all_goals first | trivial | (cases x; cases y; simp_all; done) | (simp only [szAddr, szModule] at *; omega) | grind [szAddr, szModule])
def E81 : D.Env := E80.add 95 feqModule
theorem E81ok : EOk Tryz.prog E81 := E80ok.add k95_80
set_option maxHeartbeats 2000000 in
theorem k30_81 : fszModuleS.ok Tryz.prog 30 := Fct.of (S := fszModuleS) (L := fun ⟨l, n, _⟩ => fun | 5 => some (LszS .module szModule l n) | _ => none) (kp := [0,1,4,5,11,15,25,1000011,1000015,1000025]) E81ok Tryz.func30 (by kernel_rfl) (by kernel_rfl) (by
  rintro ⟨(l : List SModule), (n : Int), _⟩ hp
  refine holds_of (X := .br (decide (IntKind.i64.wrap (n - (↑l.length : Int)) < (0 : Int)))
 (.leaf (mkR fszModuleS.rs ((-1 : Int), ())) [] [])
 (lpx (LszS .module szModule l n) (IntKind.i64.wrap (n - (↑l.length : Int)), ((0 : Int), ())) fun (y2 : Int × Int × PUnit) bk2 =>
 .br (decide (y2.2.1 < (↑l.length : Int)))
 (.ob ((0 : Int) ≤ y2.2.1 ∧ y2.2.1 < (↑l.length : Int)) <| .cl fszModule (l.getD y2.2.1.toNat default, y2.1, ()) fun z2 =>
 .br (decide (z2.1 < (0 : Int)))
 (.leaf (mkR fszModuleS.rs ((-1 : Int), ())) [] [])
 (.ob (l = l) <| .ob (bk2 (z2.1, (IntKind.i64.wrap (y2.2.1 + (1 : Int)), ()))) <| .ok))
 (.leaf (mkR fszModuleS.rs (y2.1, ())) [] []))) (by kernel_rfl) ?_
  refine br_i (fun h1 => Fct.leafY ?_) (fun h1 => lpx_i ?_ fun (y2 : Int × Int × PUnit) i2 => br_i (fun h3 => ob_i ?_ fun o4 => cl_i ?_ fun o5 => (br_i (fun h6 => Fct.leafY ?_) (fun h6 => ob_i rfl fun _ => ob_i ?_ fun o7 => trivial))) (fun h3 => Fct.leafY ?_))
  all_goals try simp only [std1, ne_eq] at *
  all_goals try simp only [LszS, fszModule, fszModuleS, etaS, std1, std2, Nat.reduceAdd, ne_eq] at *
  · have := good_len hp.1; simp only [maxLen] at this; rw [wrapId (by omega)] at h1
    rw [lessenNeg (by simp only [szL]; omega)]
  · have := good_len hp.1; simp only [maxLen] at this
    rw [wrapId (by omega)] at h1 ⊢
    exact ⟨by omega, by omega, h1, by simp⟩
  · omega
  · exact ⟨good_getD hp.1 (by omega), by omega, by omega⟩
  · have hs := sum_take_le szModule l (y2.2.1.toNat + 1)
    rw [sum_take szModule (by omega)] at hs
    rw [lessen_lt (by omega)] at h6
    rw [lessenNeg (by simp only [szL]; omega)]
  · have hw : IntKind.i64.wrap (y2.2.1 + 1) = y2.2.1 + 1 := wrapId (by have := good_len hp.1; simp only [maxLen] at this; omega)
    have h7 : ¬ lessen y2.1 (szModule (l.getD y2.2.1.toNat default)) < 0 := by omega
    rw [lessen_lt (by omega)] at h7
    rw [hw, toNat1 (by omega), sum_take szModule (by omega), lessen_ge (by omega)]
    exact ⟨⟨by omega, by omega, by omega, by omega⟩, by omega⟩
  · have e : l.take y2.2.1.toNat = l := List.take_of_length_le (by omega)
    rw [e] at i2
    have hz : ((szL szModule l : Nat) : Int) = l.length + (l.map szModule).sum := by simp only [szL]; omega
    rw [lessen_ge (by omega)]
    show y2.1 = n - ((szL szModule l : Nat) : Int)
    omega)
def E82 : D.Env := E81.add 30 fszModuleS
theorem E82ok : EOk Tryz.prog E82 := E81ok.add k30_81
theorem k45_82 : ftoModuleS.ok Tryz.prog 45 := Fct.of (S := ftoModuleS) (L := fun ⟨l, _⟩ => fun | 3 => some (LtoS .module l) | _ => none) (kp := [0,2,3,4,11,1000011]) E82ok Tryz.func45 (by kernel_rfl) (by kernel_rfl) (by
  rintro ⟨(l : List SModule), _⟩ hp
  refine holds_of (X := .ob ((↑l.length : Int) = (↑l.length : Int) ∧
 (0 : Int) ≤ (↑l.length : Int) ∧
 (64 : Int) * (↑l.length : Int) ≤ (140737488355328 : Int) ∧ (↑l.length : Int) ≤ (140737488355328 : Int)) <| lpx (LtoS .module l) ((0 : Int), (List.replicate (↑l.length : Int).toNat default, ())) fun (y2 : Int × List SModule × PUnit) bk2 =>
 .br (decide (y2.1 < (↑l.length : Int)))
 (.ob ((0 : Int) ≤ y2.1 ∧ y2.1 < (↑l.length : Int)) <| .cl ftoModule (l.getD y2.1.toNat default, ()) fun z2 =>
 .ob ((0 : Int) ≤ y2.1 ∧ y2.1 < (↑y2.2.1.length : Int)) <| .ob (y2.1.toNat < y2.2.1.length) <| .lt (List SModule) (y2.2.1.modify y2.1.toNat fun z => z2.1) fun z3 =>
 .ob (l = l) <| .ob (bk2 (IntKind.i64.wrap (y2.1 + (1 : Int)), (z3, ()))) <| .ok)
 (.leaf (mkR ftoModuleS.rs (y2.2.1, ())) [] [])) (by kernel_rfl) ?_
  refine ob_i ?_ fun o1 => lpx_i ?_ fun (y2 : Int × List SModule × PUnit) i2 => br_i (fun h3 => ob_i ?_ fun o4 => cl_i ?_ fun o5 => (ob_i ?_ fun o6 => ob_i ?_ fun o7 => lt_i (ob_i rfl fun _ => ob_i ?_ fun o8 => trivial))) (fun h3 => Fct.leafY ?_)
  all_goals try simp only [std1, ne_eq] at *
  all_goals try simp only [LtoS, ftoModule, ftoModuleS, etaS, std1, std2, Nat.reduceAdd, ne_eq] at *
  · have := szL_len szModule l; omega
  · exact ⟨by omega, by omega, by simp⟩
  · omega
  · have hs := sum_take_le szModule l (y2.1.toNat + 1)
    rw [sum_take szModule (by omega)] at hs
    simp only [szL] at hp; omega
  · rw [i2.2.2]; simp; omega
  · rw [i2.2.2]; simp; omega
  · have hw : IntKind.i64.wrap (y2.1 + 1) = y2.1 + 1 := wrapId (by have := szL_len szModule l; omega)
    rw [hw, toNat1 (by omega), i2.2.2]
    refine ⟨⟨by omega, by omega, ?_⟩, by omega⟩
    rw [show l.length - y2.1.toNat = (l.length - (y2.1.toNat + 1)) + 1 from by omega, List.replicate_succ, mod_at (by simp; omega), take_succ (by omega)]
    simp
  · have e : l.take y2.1.toNat = l := List.take_of_length_le (by omega)
    rw [i2.2.2, e]; simp; omega)
def E83 : D.Env := E82.add 45 ftoModuleS
theorem E83ok : EOk Tryz.prog E83 := E82ok.add k45_82
set_option maxHeartbeats 2000000 in
theorem k59_83 : feqModuleS.ok Tryz.prog 59 := Fct.of (S := feqModuleS) (L := fun ⟨l, m, _⟩ => fun | 4 => some (LeqS .module l m) | _ => none) (kp := [0,1,4,5,10,14,26,1000010,1000014,1000026]) E83ok Tryz.func59 (by kernel_rfl) (by kernel_rfl) (by
  rintro ⟨(l : List SModule), (m : List SModule), _⟩ hp
  refine holds_of (X := .br ((↑l.length : Int) != (↑m.length : Int))
 (.leaf (mkR feqModuleS.rs (false, ())) [] [])
 (lpx (LeqS .module l m) ((0 : Int), ()) fun (y2 : Int × PUnit) bk2 =>
 .br (decide (y2.1 < (↑l.length : Int)))
 (.ob ((0 : Int) ≤ y2.1 ∧ y2.1 < (↑l.length : Int)) <| .ob ((0 : Int) ≤ y2.1 ∧ y2.1 < (↑m.length : Int)) <| .cl feqModule (l.getD y2.1.toNat default, m.getD y2.1.toNat default, ()) fun z2 =>
 .br (!z2.1)
 (.leaf (mkR feqModuleS.rs (false, ())) [] [])
 (.ob (l = l) <| .ob (m = m) <| .ob (bk2 (IntKind.i64.wrap (y2.1 + (1 : Int)), ())) <| .ok))
 (.leaf (mkR feqModuleS.rs (true, ())) [] []))) (by kernel_rfl) ?_
  refine br_i (fun h1 => Fct.leafY ?_) (fun h1 => lpx_i ?_ fun (y2 : Int × PUnit) i2 => br_i (fun h3 => ob_i ?_ fun o4 => ob_i ?_ fun o5 => cl_i trivial fun _ => (br_i (fun h6 => Fct.leafY ?_) (fun h6 => ob_i rfl fun _ => ob_i rfl fun _ => ob_i ?_ fun o7 => trivial))) (fun h3 => Fct.leafY ?_))
  all_goals try simp only [std1, ne_eq] at *
  all_goals try simp only [LeqS, feqModule, feqModuleS, etaS, std1, std2, Nat.reduceAdd, ne_eq] at *
  · rw [decide_eq_false]; rintro rfl; omega
  · exact ⟨by omega, by omega, by simp⟩
  · omega
  · omega
  · rw [decide_eq_false]; rintro rfl; exact absurd rfl h6
  · have hw : IntKind.i64.wrap (y2.1 + 1) = y2.1 + 1 := wrapId (by omega)
    rw [hw, toNat1 (by omega)]
    refine ⟨⟨by omega, by omega, ?_⟩, by omega⟩
    rw [take_succ (by omega), take_succ (by omega), i2.2.2, h6]
  · have e : l.take y2.1.toNat = l := List.take_of_length_le (by omega)
    have e2 : m.take y2.1.toNat = m := List.take_of_length_le (by omega)
    rw [decide_eq_true]; rw [← e, ← e2, i2.2.2])
def E84 : D.Env := E83.add 59 feqModuleS
theorem E84ok : EOk Tryz.prog E84 := E83ok.add k59_83
set_option maxHeartbeats 2000000 in
theorem k8_84 : fszPage.ok Tryz.prog 8 := Fct.of (S := fszPage) (L := fun _ _ => none) (kp := [1,2,4,10,16,22,28,34,40,46,52,58,64,1000010,1000016,1000022,1000028,1000034,1000040,1000046,1000052,1000058,1000064]) E84ok Tryz.func8 (by kernel_rfl) (by kernel_rfl) (by
  rintro ⟨(x : SPage), (n : Int), _⟩ hp
  refine holds_of (X := .cl fszAddr (x.addr, n, ()) fun z2 =>
 .br (decide (z2.1 < (0 : Int)))
 (.leaf (mkR fszPage.rs ((-1 : Int), ())) [] [])
 (.cl fszPolicy (x.policy, z2.1, ()) fun z3 =>
 .br (decide (z3.1 < (0 : Int)))
 (.leaf (mkR fszPage.rs ((-1 : Int), ())) [] [])
 (.cl fszTokenizer (x.tok, z3.1, ()) fun z4 =>
 .br (decide (z4.1 < (0 : Int)))
 (.leaf (mkR fszPage.rs ((-1 : Int), ())) [] [])
 (.cl fszTokenS (x.queue, z4.1, ()) fun z5 =>
 .br (decide (z5.1 < (0 : Int)))
 (.leaf (mkR fszPage.rs ((-1 : Int), ())) [] [])
 (.cl fszBuilder (x.builder, z5.1, ()) fun z6 =>
 .br (decide (z6.1 < (0 : Int)))
 (.leaf (mkR fszPage.rs ((-1 : Int), ())) [] [])
 (.cl fszSlotS (x.slots, z6.1, ()) fun z7 =>
 .br (decide (z7.1 < (0 : Int)))
 (.leaf (mkR fszPage.rs ((-1 : Int), ())) [] [])
 (.cl fszModuleS (x.mods, z7.1, ()) fun z8 =>
 .br (decide (z8.1 < (0 : Int)))
 (.leaf (mkR fszPage.rs ((-1 : Int), ())) [] [])
 (.cl fszAddrS (x.entries, z8.1, ()) fun z9 =>
 .br (decide (z9.1 < (0 : Int)))
 (.leaf (mkR fszPage.rs ((-1 : Int), ())) [] [])
 (.cl fszAddrS (x.ran, z9.1, ()) fun z10 =>
 .br (decide (z10.1 < (0 : Int)))
 (.leaf (mkR fszPage.rs ((-1 : Int), ())) [] [])
 (.cl fszStringS (x.log, z10.1, ()) fun z11 =>
 .br (decide (z11.1 < (0 : Int)))
 (.leaf (mkR fszPage.rs ((-1 : Int), ())) [] [])
 (.leaf (mkR fszPage.rs (z11.1, ())) [] []))))))))))) (by kernel_rfl) ?_
  refine cl_i ?_ fun o1 => (br_i (fun h2 => Fct.leafY ?_) (fun h2 => cl_i ?_ fun o3 => (br_i (fun h4 => Fct.leafY ?_) (fun h4 => cl_i ?_ fun o5 => (br_i (fun h6 => Fct.leafY ?_) (fun h6 => cl_i ?_ fun o7 => (br_i (fun h8 => Fct.leafY ?_) (fun h8 => cl_i ?_ fun o9 => (br_i (fun h10 => Fct.leafY ?_) (fun h10 => cl_i ?_ fun o11 => (br_i (fun h12 => Fct.leafY ?_) (fun h12 => cl_i ?_ fun o13 => (br_i (fun h14 => Fct.leafY ?_) (fun h14 => cl_i ?_ fun o15 => (br_i (fun h16 => Fct.leafY ?_) (fun h16 => cl_i ?_ fun o17 => (br_i (fun h18 => Fct.leafY ?_) (fun h18 => cl_i ?_ fun o19 => (br_i (fun h20 => Fct.leafY ?_) (fun h20 => Fct.leafY ?_))))))))))))))))))))
  all_goals try simp only [std1, ne_eq] at *
  all_goals try simp only [fszAddr, fszAddrS, fszBuilder, fszModuleS, fszPage, fszPolicy, fszSlotS, fszStringS, fszTokenS, fszTokenizer, etaS, std1, std2, Nat.reduceAdd, ne_eq, Sh.good, Sh.fc, enc, List.forall_mem_cons, List.not_mem_nil, false_implies, implies_true, goodC, maxLen] at *
  all_goals grind [wrapId', lessen, szAddr, szBuilder, szL, szPage, szPolicy, szTokenizer])
def E85 : D.Env := E84.add 8 fszPage
theorem E85ok : EOk Tryz.prog E85 := E84ok.add k8_84
theorem k11_85 : ftoPage.ok Tryz.prog 11 := Fct.of (S := ftoPage) (L := fun _ _ => none) (kp := [1,2,3]) E85ok Tryz.func11 (by kernel_rfl) (by kernel_rfl) (by
  rintro ⟨(x : SPage), _⟩ hp
  refine holds_of (X := .cl ftoAddr (x.addr, ()) fun z2 =>
 .cl ftoPolicy (x.policy, ()) fun z3 =>
 .cl ftoTokenizer (x.tok, ()) fun z4 =>
 .cl ftoTokenS (x.queue, ()) fun z5 =>
 .cl ftoBuilder (x.builder, ()) fun z6 =>
 .cl ftoSlotS (x.slots, ()) fun z7 =>
 .cl ftoModuleS (x.mods, ()) fun z8 =>
 .cl ftoAddrS (x.entries, ()) fun z9 =>
 .cl ftoAddrS (x.ran, ()) fun z10 =>
 .cl ftoStringS (x.log, ()) fun z11 =>
 .leaf (mkR ftoPage.rs (⟨z2.1, z3.1, z4.1, z5.1, x.ended, z6.1, z7.1, z8.1, z9.1, x.block, x.inline, x.deferred, x.entered, z10.1, z11.1, x.loaded⟩, ())) [] []) (by kernel_rfl) ?_
  refine cl_i ?_ fun o1 => (cl_i ?_ fun o2 => (cl_i ?_ fun o3 => (cl_i ?_ fun o4 => (cl_i ?_ fun o5 => (cl_i ?_ fun o6 => (cl_i ?_ fun o7 => (cl_i ?_ fun o8 => (cl_i ?_ fun o9 => (cl_i ?_ fun o10 => (Fct.leafY ?_))))))))))
  all_goals try simp only [std1, ne_eq] at *
  all_goals try simp only [ftoAddr, ftoAddrS, ftoBuilder, ftoModuleS, ftoPage, ftoPolicy, ftoSlotS, ftoStringS, ftoTokenS, ftoTokenizer, etaS, std1, std2, Nat.reduceAdd, ne_eq] at *
  all_goals first | trivial | rfl | grind [szAddr, szBuilder, szL, szPage, szPolicy, szTokenizer])
def E86 : D.Env := E85.add 11 ftoPage
theorem E86ok : EOk Tryz.prog E86 := E85ok.add k11_85
set_option maxHeartbeats 2000000 in
theorem k14_86 : feqPage.ok Tryz.prog 14 := Fct.of (S := feqPage) (L := fun _ _ => none) (kp := [2,3,4,10,16,22,28,33,39,45,51,57,62,67,72,77,83,89,94,1000010,1000016,1000022,1000028,1000033,1000039,1000045,1000051,1000057,1000062,1000067,1000072,1000077,1000083,1000089,1000094]) E86ok Tryz.func14 (by kernel_rfl) (by kernel_rfl) (by
  rintro ⟨(x : SPage), (y : SPage), _⟩ hp
  refine holds_of (X := .cl feqAddr (x.addr, y.addr, ()) fun z2 =>
 .br (!z2.1)
 (.leaf (mkR feqPage.rs (false, ())) [] [])
 (.cl feqPolicy (x.policy, y.policy, ()) fun z3 =>
 .br (!z3.1)
 (.leaf (mkR feqPage.rs (false, ())) [] [])
 (.cl feqTokenizer (x.tok, y.tok, ()) fun z4 =>
 .br (!z4.1)
 (.leaf (mkR feqPage.rs (false, ())) [] [])
 (.cl feqTokenS (x.queue, y.queue, ()) fun z5 =>
 .br (!z5.1)
 (.leaf (mkR feqPage.rs (false, ())) [] [])
 (.br (!x.ended == y.ended)
 (.leaf (mkR feqPage.rs (false, ())) [] [])
 (.cl feqBuilder (x.builder, y.builder, ()) fun z6 =>
 .br (!z6.1)
 (.leaf (mkR feqPage.rs (false, ())) [] [])
 (.cl feqSlotS (x.slots, y.slots, ()) fun z7 =>
 .br (!z7.1)
 (.leaf (mkR feqPage.rs (false, ())) [] [])
 (.cl feqModuleS (x.mods, y.mods, ()) fun z8 =>
 .br (!z8.1)
 (.leaf (mkR feqPage.rs (false, ())) [] [])
 (.cl feqAddrS (x.entries, y.entries, ()) fun z9 =>
 .br (!z9.1)
 (.leaf (mkR feqPage.rs (false, ())) [] [])
 (.br (x.block != y.block)
 (.leaf (mkR feqPage.rs (false, ())) [] [])
 (.br (x.inline != y.inline)
 (.leaf (mkR feqPage.rs (false, ())) [] [])
 (.br (x.deferred != y.deferred)
 (.leaf (mkR feqPage.rs (false, ())) [] [])
 (.br (x.entered != y.entered)
 (.leaf (mkR feqPage.rs (false, ())) [] [])
 (.cl feqAddrS (x.ran, y.ran, ()) fun z10 =>
 .br (!z10.1)
 (.leaf (mkR feqPage.rs (false, ())) [] [])
 (.cl feqStringS (x.log, y.log, ()) fun z11 =>
 .br (!z11.1)
 (.leaf (mkR feqPage.rs (false, ())) [] [])
 (.br (!x.loaded == y.loaded)
 (.leaf (mkR feqPage.rs (false, ())) [] [])
 (.leaf (mkR feqPage.rs (true, ())) [] []))))))))))))))))) (by kernel_rfl) ?_
  refine cl_i trivial fun _ => (br_i (fun h1 => Fct.leafY ?_) (fun h1 => cl_i ?_ fun o2 => (br_i (fun h3 => Fct.leafY ?_) (fun h3 => cl_i trivial fun _ => (br_i (fun h4 => Fct.leafY ?_) (fun h4 => cl_i ?_ fun o5 => (br_i (fun h6 => Fct.leafY ?_) (fun h6 => br_i (fun h7 => Fct.leafY ?_) (fun h7 => cl_i ?_ fun o8 => (br_i (fun h9 => Fct.leafY ?_) (fun h9 => cl_i ?_ fun o10 => (br_i (fun h11 => Fct.leafY ?_) (fun h11 => cl_i ?_ fun o12 => (br_i (fun h13 => Fct.leafY ?_) (fun h13 => cl_i ?_ fun o14 => (br_i (fun h15 => Fct.leafY ?_) (fun h15 => br_i (fun h16 => Fct.leafY ?_) (fun h16 => br_i (fun h17 => Fct.leafY ?_) (fun h17 => br_i (fun h18 => Fct.leafY ?_) (fun h18 => br_i (fun h19 => Fct.leafY ?_) (fun h19 => cl_i ?_ fun o20 => (br_i (fun h21 => Fct.leafY ?_) (fun h21 => cl_i ?_ fun o22 => (br_i (fun h23 => Fct.leafY ?_) (fun h23 => br_i (fun h24 => Fct.leafY ?_) (fun h24 => Fct.leafY ?_))))))))))))))))))))))))))
  all_goals try simp only [std1, ne_eq] at *
  all_goals try simp only [feqAddr, feqAddrS, feqBuilder, feqModuleS, feqPage, feqPolicy, feqSlotS, feqStringS, feqTokenS, feqTokenizer, etaS, std1, std2, Nat.reduceAdd, ne_eq] at *
  all_goals first | trivial | (cases x; cases y; simp_all; done) | (simp only [szAddr, szBuilder, szL, szPage, szPolicy, szTokenizer] at *; omega) | grind [szAddr, szBuilder, szL, szPage, szPolicy, szTokenizer])
def E87 : D.Env := E86.add 14 feqPage
theorem E87ok : EOk Tryz.prog E87 := E86ok.add k14_86
def inRange (n lo hi : Int) : Bool := decide (lo ≤ n) && decide (n ≤ hi)
def fInRange : Fct := ⟨[aI, aI, aI], [rB], fun _ => True, fun (x : Int × Int × Int × Unit) => (inRange x.1 x.2.1 x.2.2.1, ())⟩
theorem k140_87 : fInRange.ok Tryz.prog 140 := Fct.of (S := fInRange) (L := fun _ _ => none) (kp := [0,1,2,6]) E87ok Tryz.func140 (by kernel_rfl) (by kernel_rfl) (by
  rintro ⟨(n : Int), (lo : Int), (hi : Int), _⟩ hp
  refine holds_of (X := .br (decide (lo ≤ n))
 (.leaf (mkR fInRange.rs (decide (n ≤ hi), ())) [] [])
 (.leaf (mkR fInRange.rs (false, ())) [] [])) (by kernel_rfl) ?_
  refine br_i (fun h1 => Fct.leafY ?_) (fun h1 => Fct.leafY ?_)
  all_goals try simp only [std1, ne_eq] at *
  all_goals try simp only [fInRange, etaS, std1, std2, Nat.reduceAdd, ne_eq, inRange] at *
  all_goals first | trivial | (simp_all; done) | (simp_all; omega) | grind)
def E88 : D.Env := E87.add 140 fInRange
theorem E88ok : EOk Tryz.prog E88 := E87ok.add k140_87
theorem k33_88 : fInRange.ok Tryz.prog 33 := Fct.of (S := fInRange) (L := fun _ _ => none) (kp := [0,1,2,6]) E88ok Tryz.func33 (by kernel_rfl) (by kernel_rfl) (by
  rintro ⟨(n : Int), (lo : Int), (hi : Int), _⟩ hp
  refine holds_of (X := .br (decide (n ≥ lo))
 (.leaf (mkR fInRange.rs (decide (n ≤ hi), ())) [] [])
 (.leaf (mkR fInRange.rs (false, ())) [] [])) (by kernel_rfl) ?_
  refine br_i (fun h1 => Fct.leafY ?_) (fun h1 => Fct.leafY ?_)
  all_goals try simp only [std1, ne_eq] at *
  all_goals try simp only [fInRange, etaS, std1, std2, Nat.reduceAdd, ne_eq, inRange] at *
  all_goals first | trivial | (simp_all; done) | (simp_all; omega) | grind)
def E89 : D.Env := E88.add 33 fInRange
theorem E89ok : EOk Tryz.prog E89 := E88ok.add k33_88
def fIndex_str : Fct := ⟨[.v (.sl .str), .v (.el .str)], [.el .int], fun (x_ : (List ByteArray) × ByteArray × Unit) => x_.1.length ≤ 1000000000000000000, fun (x_ : (List ByteArray) × ByteArray × Unit) => (fidx (fun c => decide (c = x_.2.1)) x_.1 0, ())⟩
abbrev W_slices_Index_string_string_fIndex_str_2 (l : (List ByteArray)) (a : ByteArray) : LInv := ⟨[⟨.s, 8, true, .el .int⟩], fun _ (x_ : Int × Unit) => 0 ≤ x_.1 ∧ x_.1 ≤ l.length ∧ fidx (fun c => decide (c = a)) l 0 = fidx (fun c => decide (c = a)) (l.drop x_.1.toNat) x_.1, fun (x_ : Int × Unit) => l.length - x_.1.toNat⟩
theorem k165_89 : fIndex_str.ok Tryz.prog 165 := Fct.of (S := fIndex_str) (L := fun ⟨l, a, _⟩ => fun | 2 => some (W_slices_Index_string_string_fIndex_str_2 l a) | _ => none) (kp := [0,1,4,5,7,8,9,16,1000009,1000016]) E89ok Tryz.func165 (by kernel_rfl) (by kernel_rfl) (by
  rintro ⟨(l : List ByteArray), (a : ByteArray), _⟩ hp
  refine holds_of (X := lpx (W_slices_Index_string_string_fIndex_str_2 l a) ((0 : Int), ()) fun (y1 : Int × PUnit) bk1 =>
 .br (decide (y1.1 < (↑l.length : Int)))
 (.ob ((0 : Int) ≤ y1.1 ∧ y1.1 < (↑l.length : Int)) <| .br (a.toList == (l.getD y1.1.toNat default).toList)
 (.leaf (mkR fIndex_str.rs (y1.1, ())) [] [])
 (.ob (l = l) <| .ob (Value.string a = Value.string a) <| .ob (Value.int IntKind.i64 (↑l.length : Int) = Value.int IntKind.i64 (↑l.length : Int)) <| .ob (bk1 (IntKind.i64.wrap (y1.1 + (1 : Int)), ())) <| .ok))
 (.leaf (mkR fIndex_str.rs ((-1 : Int), ())) [] [])) (by kernel_rfl) ?_
  refine lpx_i ?_ fun (y1 : Int × PUnit) i1 => br_i (fun h2 => ob_i ?_ fun o3 => br_i (fun h4 => Fct.leafY ?_) (fun h4 => ob_i rfl fun _ => ob_i rfl fun _ => ob_i rfl fun _ => ob_i ?_ fun o5 => trivial)) (fun h2 => Fct.leafY ?_)
  all_goals try simp only [baBeq, baEq] at *
  all_goals try simp only [std1, ne_eq] at *
  all_goals try simp only [W_slices_Index_string_string_fIndex_str_2, fIndex_str, etaS, std1, std2, Nat.reduceAdd, ne_eq, fidx] at *
  all_goals try simp (disch := omega) only [wrapId', toNat1] at *
  all_goals try simp (disch := omega) only [if_pos, if_neg]
  all_goals first | trivial | omega | grind [wrapId', toNat1, drop_cons, drop_end, good_len, maxLen, fidx])
def E90 : D.Env := E89.add 165 fIndex_str
theorem E90ok : EOk Tryz.prog E90 := E89ok.add k165_89
def fContains_str : Fct := ⟨[.v (.sl .str), .v (.el .str)], [.el .bool], fun (x_ : (List ByteArray) × ByteArray × Unit) => x_.1.length ≤ 1000000000000000000, fun (x_ : (List ByteArray) × ByteArray × Unit) => (x_.1.any fun c => decide (c = x_.2.1), ())⟩
theorem k144_90 : fContains_str.ok Tryz.prog 144 := Fct.of (S := fContains_str) (L := fun _ _ => none) (kp := [0,1,4]) E90ok Tryz.func144 (by kernel_rfl) (by kernel_rfl) (by
  rintro ⟨(l : List ByteArray), (a : ByteArray), _⟩ hp
  refine holds_of (X := .cl fIndex_str (l, a, ()) fun z2 =>
 .leaf (mkR fContains_str.rs (decide (z2.1 ≥ (0 : Int)), ())) [] []) (by kernel_rfl) ?_
  refine cl_i ?_ fun o1 => (Fct.leafY ?_)
  all_goals try simp only [std1, ne_eq] at *
  all_goals try simp only [fContains_str, fIndex_str, etaS, std1, std2, Nat.reduceAdd, ne_eq] at *
  all_goals first | trivial | omega | (rw [Bool.eq_iff_iff]; exact decide_eq_true_iff.trans (fidx_ge _ _ _ (by omega))))
def E91 : D.Env := E90.add 144 fContains_str
theorem E91ok : EOk Tryz.prog E91 := E90ok.add k144_90
def fHas9 : Fct := ⟨[.v (.sl .str), .v (.el .str)], [.el .bool], fun (x_ : (List ByteArray) × ByteArray × Unit) => x_.1.length ≤ 1000000000000000000, fun (x_ : (List ByteArray) × ByteArray × Unit) => (x_.1.any fun c => decide (c = x_.2.1), ())⟩
abbrev W_spec_l9Has_fHas9_2 (l : (List ByteArray)) (s : ByteArray) : LInv := ⟨[⟨.s, 5, true, .el .int⟩], fun _ (x_ : Int × Unit) => 0 ≤ x_.1 ∧ x_.1 ≤ l.length ∧ l.any (fun c => decide (c = s)) = (l.drop x_.1.toNat).any (fun c => decide (c = s)), fun (x_ : Int × Unit) => l.length - x_.1.toNat⟩
theorem k128_91 : fHas9.ok Tryz.prog 128 := Fct.of (S := fHas9) (L := fun ⟨l, s, _⟩ => fun | 2 => some (W_spec_l9Has_fHas9_2 l s) | _ => none) (kp := [0,1,4,5,9,17,1000009,1000017]) E91ok Tryz.func128 (by kernel_rfl) (by kernel_rfl) (by
  rintro ⟨(l : List ByteArray), (s : ByteArray), _⟩ hp
  refine holds_of (X := lpx (W_spec_l9Has_fHas9_2 l s) ((0 : Int), ()) fun (y1 : Int × PUnit) bk1 =>
 .br (decide (y1.1 < (↑l.length : Int)))
 (.ob ((0 : Int) ≤ y1.1 ∧ y1.1 < (↑l.length : Int)) <| .br ((l.getD y1.1.toNat default).toList == s.toList)
 (.leaf (mkR fHas9.rs (true, ())) [] [])
 (.ob (l = l) <| .ob (Value.string s = Value.string s) <| .ob (bk1 (IntKind.i64.wrap (y1.1 + (1 : Int)), ())) <| .ok))
 (.leaf (mkR fHas9.rs (false, ())) [] [])) (by kernel_rfl) ?_
  refine lpx_i ?_ fun (y1 : Int × PUnit) i1 => br_i (fun h2 => ob_i ?_ fun o3 => br_i (fun h4 => Fct.leafY ?_) (fun h4 => ob_i rfl fun _ => ob_i rfl fun _ => ob_i ?_ fun o5 => trivial)) (fun h2 => Fct.leafY ?_)
  all_goals try simp only [std1, ne_eq] at *
  all_goals try simp only [W_spec_l9Has_fHas9_2, fHas9, etaS, std1, std2, Nat.reduceAdd, ne_eq] at *
  all_goals try simp (disch := omega) only [wrapId', toNat1] at *
  all_goals try simp (disch := omega) only [if_pos, if_neg]
  all_goals first | trivial | omega | grind [wrapId', toNat1, drop_cons, drop_end, good_len, maxLen])
def E92 : D.Env := E91.add 128 fHas9
theorem E92ok : EOk Tryz.prog E92 := E91ok.add k128_91
def fCopyPolicy : Fct := ⟨[.v (.el .policy)], [.el .policy], fun (x_ : SPolicy × Unit) => szPolicy x_.1 ≤ 1073741824, fun (x_ : SPolicy × Unit) => (x_.1, ())⟩
theorem k176_92 : fCopyPolicy.ok Tryz.prog 176 := Fct.of (S := fCopyPolicy) (L := fun _ _ => none) (kp := [1,2]) E92ok Tryz.func176 (by kernel_rfl) (by kernel_rfl) (by
  rintro ⟨(p : SPolicy), _⟩ hp
  refine holds_of (X := .ob (True) <| .ob (Room (0 + p.scripts.length) 16) <| .ob (True) <| .ob (Room (0 + p.styles.length) 16) <| .ob (True) <| .ob (Room (0 + p.images.length) 16) <| .leaf (mkR fCopyPolicy.rs (⟨p.set_, [] ++ p.scripts, [] ++ p.styles, [] ++ p.images, p.nonce⟩, ())) [] []) (by kernel_rfl) ?_
  refine ob_i trivial fun _ => ob_i ?_ fun o1 => ob_i trivial fun _ => ob_i ?_ fun o2 => ob_i trivial fun _ => ob_i ?_ fun o3 => Fct.leafY ?_
  all_goals have hl1 := szL_len szString p.scripts
  all_goals have hl2 := szL_len szString p.styles
  all_goals have hl3 := szL_len szString p.images
  all_goals try simp only [std1, ne_eq] at *
  all_goals try simp only [fCopyPolicy, etaS, std1, std2, Nat.reduceAdd, ne_eq, szPolicy] at *
  all_goals try simp (disch := omega) only [wrapId', toNat1] at *
  all_goals try simp (disch := omega) only [if_pos, if_neg]
  all_goals first | trivial | omega | grind [wrapId', toNat1, drop_cons, drop_end, good_len, maxLen, szPolicy])
def E93 : D.Env := E92.add 176 fCopyPolicy
theorem E93ok : EOk Tryz.prog E93 := E92ok.add k176_92
theorem szServer_get {l : List SServer} {i : Nat} (h : i < l.length) : (l.getD i default).files.length + l.length ≤ szL szServer l := by
  have := szL_get szServer h
  have h2 := szL_len szFile (l.getD i default).files
  simp only [szServer] at this; omega
theorem szL_cat {α : Type} (f : α → Nat) (l m : List α) : szL f (l ++ m) = szL f l + szL f m := by simp [szL]; omega
theorem szL_drop {α : Type} (f : α → Nat) (l : List α) (n : Nat) : szL f (l.drop n) ≤ szL f l := by
  have h := szL_cat f (l.take n) (l.drop n)
  rw [List.take_append_drop] at h
  omega
def nameByte (b : UInt8) : Bool := 97 ≤ b.toNat && b.toNat ≤ 122
def bts (s : ByteArray) : List UInt8 := s.data.toList
theorem bts_len (s : ByteArray) : (bts s).length = s.size := rfl
theorem bts_at {s : ByteArray} {i : Nat} (h : i < s.size) : (bts s).drop i = s.data.getD i 0 :: (bts s).drop (i + 1) := by
  have h2 : i < s.data.size := h
  have e : s.data.getD i 0 = s.data[i] := by unfold Array.getD; rw [dif_pos h2]; rfl
  rw [List.drop_eq_getElem_cons (by rw [bts_len]; exact h), e]
  rfl
theorem bts_end {s : ByteArray} {i : Nat} (h : s.size ≤ i) : (bts s).drop i = [] := List.drop_of_length_le h
def allB (p : UInt8 → Bool) (l : List UInt8) : Bool := l.all p
theorem allB_at {p : UInt8 → Bool} {s : ByteArray} {i : Nat} (h : i < s.size) : allB p ((bts s).drop i) = (p (s.data.getD i 0) && allB p ((bts s).drop (i + 1))) := by rw [bts_at h]; rfl
theorem allB_end {p : UInt8 → Bool} {s : ByteArray} {i : Nat} (h : s.size ≤ i) : allB p ((bts s).drop i) = true := by rw [bts_end h]; rfl
def isName (s : ByteArray) : Bool := allB nameByte (bts s) && decide (1 ≤ s.size ∧ s.size ≤ 8)
def fIsName : Fct := ⟨[.v (.el .str)], [.el .bool], fun (x_ : ByteArray × Unit) => x_.1.size ≤ 1000000000000000000, fun (x_ : ByteArray × Unit) => (isName x_.1, ())⟩
abbrev W_spec_IsName_fIsName_2 (s : ByteArray) : LInv := ⟨[⟨.s, 3, true, .el .int⟩], fun _ (x_ : Int × Unit) => 0 ≤ x_.1 ∧ x_.1 ≤ s.size ∧ allB nameByte ((bts s).drop x_.1.toNat) = allB nameByte (bts s), fun (x_ : Int × Unit) => s.size - x_.1.toNat⟩
theorem k126_93 : fIsName.ok Tryz.prog 126 := Fct.of (S := fIsName) (L := fun ⟨s, _⟩ => fun | 2 => some (W_spec_IsName_fIsName_2 s) | _ => none) (kp := [0,2,3,7,19,1000007,1000019]) E93ok Tryz.func126 (by kernel_rfl) (by kernel_rfl) (by
  rintro ⟨(s : ByteArray), _⟩ hp
  refine holds_of (X := lpx (W_spec_IsName_fIsName_2 s) ((0 : Int), ()) fun (y1 : Int × PUnit) bk1 =>
 .br (decide (y1.1 < (↑s.size : Int)))
 (.ob ((0 : Int) ≤ y1.1 ∧ y1.1 < (↑s.size : Int)) <| .br (decide ((↑(s.data.getD y1.1.toNat 0).toNat : Int) < (97 : Int)))
 (.leaf (mkR fIsName.rs (false, ())) [] [])
 (.ob ((0 : Int) ≤ y1.1 ∧ y1.1 < (↑s.size : Int)) <| .br (decide ((↑(s.data.getD y1.1.toNat 0).toNat : Int) > (122 : Int)))
 (.leaf (mkR fIsName.rs (false, ())) [] [])
 (.ob (Value.string s = Value.string s) <| .ob (bk1 (IntKind.i64.wrap (y1.1 + (1 : Int)), ())) <| .ok)))
 (.cl fInRange ((↑s.size : Int), (1 : Int), (8 : Int), ()) fun z2 =>
 .leaf (mkR fIsName.rs (z2.1, ())) [] [])) (by kernel_rfl) ?_
  refine lpx_i ?_ fun (y1 : Int × PUnit) i1 => br_i (fun h2 => ob_i ?_ fun o3 => br_i (fun h4 => Fct.leafY ?_) (fun h4 => ob_i ?_ fun o5 => br_i (fun h6 => Fct.leafY ?_) (fun h6 => ob_i rfl fun _ => ob_i ?_ fun o7 => trivial))) (fun h2 => cl_i trivial fun _ => (Fct.leafY ?_))
  all_goals try simp only [std1, ne_eq] at *
  all_goals try simp only [W_spec_IsName_fIsName_2, fInRange, fIsName, etaS, std1, std2, Nat.reduceAdd, ne_eq, isName, nameByte, fInRange, inRange, allB_at, allB_end] at *
  all_goals try simp (disch := omega) only [wrapId', toNat1] at *
  all_goals try simp (disch := omega) only [if_pos, if_neg]
  all_goals first | trivial | omega | grind [wrapId', toNat1, good_len, maxLen, isName, nameByte, fInRange, inRange, allB_at, allB_end])
def E94 : D.Env := E93.add 126 fIsName
theorem E94ok : EOk Tryz.prog E94 := E93ok.add k126_93
abbrev W_impl_IsName_fIsName_2 (s : ByteArray) : LInv := ⟨[⟨.s, 3, true, .el .int⟩], fun _ (x_ : Int × Unit) => 0 ≤ x_.1 ∧ x_.1 ≤ s.size ∧ allB nameByte ((bts s).drop x_.1.toNat) = allB nameByte (bts s), fun (x_ : Int × Unit) => s.size - x_.1.toNat⟩
theorem k142_94 : fIsName.ok Tryz.prog 142 := Fct.of (S := fIsName) (L := fun ⟨s, _⟩ => fun | 2 => some (W_impl_IsName_fIsName_2 s) | _ => none) (kp := [0,2,3,7,19,1000007,1000019]) E94ok Tryz.func142 (by kernel_rfl) (by kernel_rfl) (by
  rintro ⟨(s : ByteArray), _⟩ hp
  refine holds_of (X := lpx (W_impl_IsName_fIsName_2 s) ((0 : Int), ()) fun (y1 : Int × PUnit) bk1 =>
 .br (decide (y1.1 < (↑s.size : Int)))
 (.ob ((0 : Int) ≤ y1.1 ∧ y1.1 < (↑s.size : Int)) <| .br (decide ((↑(s.data.getD y1.1.toNat 0).toNat : Int) < (97 : Int)))
 (.leaf (mkR fIsName.rs (false, ())) [] [])
 (.ob ((0 : Int) ≤ y1.1 ∧ y1.1 < (↑s.size : Int)) <| .br (decide ((↑(s.data.getD y1.1.toNat 0).toNat : Int) > (122 : Int)))
 (.leaf (mkR fIsName.rs (false, ())) [] [])
 (.ob (Value.string s = Value.string s) <| .ob (bk1 (IntKind.i64.wrap (y1.1 + (1 : Int)), ())) <| .ok)))
 (.cl fInRange ((↑s.size : Int), (1 : Int), (8 : Int), ()) fun z2 =>
 .leaf (mkR fIsName.rs (z2.1, ())) [] [])) (by kernel_rfl) ?_
  refine lpx_i ?_ fun (y1 : Int × PUnit) i1 => br_i (fun h2 => ob_i ?_ fun o3 => br_i (fun h4 => Fct.leafY ?_) (fun h4 => ob_i ?_ fun o5 => br_i (fun h6 => Fct.leafY ?_) (fun h6 => ob_i rfl fun _ => ob_i ?_ fun o7 => trivial))) (fun h2 => cl_i trivial fun _ => (Fct.leafY ?_))
  all_goals try simp only [std1, ne_eq] at *
  all_goals try simp only [W_impl_IsName_fIsName_2, fInRange, fIsName, etaS, std1, std2, Nat.reduceAdd, ne_eq, isName, nameByte, fInRange, inRange, allB_at, allB_end] at *
  all_goals try simp (disch := omega) only [wrapId', toNat1] at *
  all_goals try simp (disch := omega) only [if_pos, if_neg]
  all_goals first | trivial | omega | grind [wrapId', toNat1, good_len, maxLen, isName, nameByte, fInRange, inRange, allB_at, allB_end])
def E95 : D.Env := E94.add 142 fIsName
theorem E95ok : EOk Tryz.prog E95 := E94ok.add k142_94
def valByte (b : UInt8) : Bool := (97 ≤ b.toNat && b.toNat ≤ 122) || (48 ≤ b.toNat && b.toNat ≤ 57) || b.toNat == 47
def isValue (s : ByteArray) : Bool := allB valByte (bts s) && decide (1 ≤ s.size ∧ s.size ≤ 20)
def fIsValue : Fct := ⟨[.v (.el .str)], [.el .bool], fun (x_ : ByteArray × Unit) => x_.1.size ≤ 1000000000000000000, fun (x_ : ByteArray × Unit) => (isValue x_.1, ())⟩
abbrev W_spec_IsValue_fIsValue_2 (s : ByteArray) : LInv := ⟨[⟨.s, 3, true, .el .int⟩], fun _ (x_ : Int × Unit) => 0 ≤ x_.1 ∧ x_.1 ≤ s.size ∧ allB valByte ((bts s).drop x_.1.toNat) = allB valByte (bts s), fun (x_ : Int × Unit) => s.size - x_.1.toNat⟩
theorem k127_95 : fIsValue.ok Tryz.prog 127 := Fct.of (S := fIsValue) (L := fun ⟨s, _⟩ => fun | 2 => some (W_spec_IsValue_fIsValue_2 s) | _ => none) (kp := [0,2,3,7,37,1000007,1000037]) E95ok Tryz.func127 (by kernel_rfl) (by kernel_rfl) (by
  rintro ⟨(s : ByteArray), _⟩ hp
  refine holds_of (X := lpx (W_spec_IsValue_fIsValue_2 s) ((0 : Int), ()) fun (y1 : Int × PUnit) bk1 =>
 .br (decide (y1.1 < (↑s.size : Int)))
 (.ob ((0 : Int) ≤ y1.1 ∧ y1.1 < (↑s.size : Int)) <| .br (decide ((↑(s.data.getD y1.1.toNat 0).toNat : Int) < (97 : Int)))
 (.ob ((0 : Int) ≤ y1.1 ∧ y1.1 < (↑s.size : Int)) <| .br (decide ((↑(s.data.getD y1.1.toNat 0).toNat : Int) < (48 : Int)))
 (.ob ((0 : Int) ≤ y1.1 ∧ y1.1 < (↑s.size : Int)) <| .br ((↑(s.data.getD y1.1.toNat 0).toNat : Int) != (47 : Int))
 (.leaf (mkR fIsValue.rs (false, ())) [] [])
 (.ob (Value.string s = Value.string s) <| .ob (bk1 (IntKind.i64.wrap (y1.1 + (1 : Int)), ())) <| .ok))
 (.ob ((0 : Int) ≤ y1.1 ∧ y1.1 < (↑s.size : Int)) <| .br (decide ((↑(s.data.getD y1.1.toNat 0).toNat : Int) > (57 : Int)))
 (.ob ((0 : Int) ≤ y1.1 ∧ y1.1 < (↑s.size : Int)) <| .br ((↑(s.data.getD y1.1.toNat 0).toNat : Int) != (47 : Int))
 (.leaf (mkR fIsValue.rs (false, ())) [] [])
 (.ob (Value.string s = Value.string s) <| .ob (bk1 (IntKind.i64.wrap (y1.1 + (1 : Int)), ())) <| .ok))
 (.ob (Value.string s = Value.string s) <| .ob (bk1 (IntKind.i64.wrap (y1.1 + (1 : Int)), ())) <| .ok)))
 (.ob ((0 : Int) ≤ y1.1 ∧ y1.1 < (↑s.size : Int)) <| .br (decide ((↑(s.data.getD y1.1.toNat 0).toNat : Int) > (122 : Int)))
 (.ob ((0 : Int) ≤ y1.1 ∧ y1.1 < (↑s.size : Int)) <| .br (decide ((↑(s.data.getD y1.1.toNat 0).toNat : Int) < (48 : Int)))
 (.ob ((0 : Int) ≤ y1.1 ∧ y1.1 < (↑s.size : Int)) <| .br ((↑(s.data.getD y1.1.toNat 0).toNat : Int) != (47 : Int))
 (.leaf (mkR fIsValue.rs (false, ())) [] [])
 (.ob (Value.string s = Value.string s) <| .ob (bk1 (IntKind.i64.wrap (y1.1 + (1 : Int)), ())) <| .ok))
 (.ob ((0 : Int) ≤ y1.1 ∧ y1.1 < (↑s.size : Int)) <| .br (decide ((↑(s.data.getD y1.1.toNat 0).toNat : Int) > (57 : Int)))
 (.ob ((0 : Int) ≤ y1.1 ∧ y1.1 < (↑s.size : Int)) <| .br ((↑(s.data.getD y1.1.toNat 0).toNat : Int) != (47 : Int))
 (.leaf (mkR fIsValue.rs (false, ())) [] [])
 (.ob (Value.string s = Value.string s) <| .ob (bk1 (IntKind.i64.wrap (y1.1 + (1 : Int)), ())) <| .ok))
 (.ob (Value.string s = Value.string s) <| .ob (bk1 (IntKind.i64.wrap (y1.1 + (1 : Int)), ())) <| .ok)))
 (.ob (Value.string s = Value.string s) <| .ob (bk1 (IntKind.i64.wrap (y1.1 + (1 : Int)), ())) <| .ok)))
 (.cl fInRange ((↑s.size : Int), (1 : Int), (20 : Int), ()) fun z2 =>
 .leaf (mkR fIsValue.rs (z2.1, ())) [] [])) (by kernel_rfl) ?_
  refine lpx_i ?_ fun (y1 : Int × PUnit) i1 => br_i (fun h2 => ob_i ?_ fun o3 => br_i (fun h4 => ob_i ?_ fun o5 => br_i (fun h6 => ob_i ?_ fun o7 => br_i (fun h8 => Fct.leafY ?_) (fun h8 => ob_i rfl fun _ => ob_i ?_ fun o9 => trivial)) (fun h6 => ob_i ?_ fun o10 => br_i (fun h11 => ob_i ?_ fun o12 => br_i (fun h13 => Fct.leafY ?_) (fun h13 => ob_i rfl fun _ => ob_i ?_ fun o14 => trivial)) (fun h11 => ob_i rfl fun _ => ob_i ?_ fun o15 => trivial))) (fun h4 => ob_i ?_ fun o16 => br_i (fun h17 => ob_i ?_ fun o18 => br_i (fun h19 => ob_i ?_ fun o20 => br_i (fun h21 => Fct.leafY ?_) (fun h21 => ob_i rfl fun _ => ob_i ?_ fun o22 => trivial)) (fun h19 => ob_i ?_ fun o23 => br_i (fun h24 => ob_i ?_ fun o25 => br_i (fun h26 => Fct.leafY ?_) (fun h26 => ob_i rfl fun _ => ob_i ?_ fun o27 => trivial)) (fun h24 => ob_i rfl fun _ => ob_i ?_ fun o28 => trivial))) (fun h17 => ob_i rfl fun _ => ob_i ?_ fun o29 => trivial))) (fun h2 => cl_i trivial fun _ => (Fct.leafY ?_))
  all_goals try simp only [std1, ne_eq] at *
  all_goals try simp only [W_spec_IsValue_fIsValue_2, fInRange, fIsValue, etaS, std1, std2, Nat.reduceAdd, ne_eq, isValue, valByte, fInRange, inRange, allB_at, allB_end] at *
  all_goals try simp (disch := omega) only [wrapId', toNat1] at *
  all_goals try simp (disch := omega) only [if_pos, if_neg]
  all_goals first | trivial | omega | grind [wrapId', toNat1, good_len, maxLen, isValue, valByte, fInRange, inRange, allB_at, allB_end])
def E96 : D.Env := E95.add 127 fIsValue
theorem E96ok : EOk Tryz.prog E96 := E95ok.add k127_95
abbrev W_impl_IsValue_fIsValue_2 (s : ByteArray) : LInv := ⟨[⟨.s, 3, true, .el .int⟩], fun _ (x_ : Int × Unit) => 0 ≤ x_.1 ∧ x_.1 ≤ s.size ∧ allB valByte ((bts s).drop x_.1.toNat) = allB valByte (bts s), fun (x_ : Int × Unit) => s.size - x_.1.toNat⟩
theorem k143_96 : fIsValue.ok Tryz.prog 143 := Fct.of (S := fIsValue) (L := fun ⟨s, _⟩ => fun | 2 => some (W_impl_IsValue_fIsValue_2 s) | _ => none) (kp := [0,2,3,7,38,1000007,1000038]) E96ok Tryz.func143 (by kernel_rfl) (by kernel_rfl) (by
  rintro ⟨(s : ByteArray), _⟩ hp
  refine holds_of (X := lpx (W_impl_IsValue_fIsValue_2 s) ((0 : Int), ()) fun (y1 : Int × PUnit) bk1 =>
 .br (decide (y1.1 < (↑s.size : Int)))
 (.ob ((0 : Int) ≤ y1.1 ∧ y1.1 < (↑s.size : Int)) <| .br (decide ((↑(s.data.getD y1.1.toNat 0).toNat : Int) ≥ (97 : Int)))
 (.ob ((0 : Int) ≤ y1.1 ∧ y1.1 < (↑s.size : Int)) <| .br (decide ((↑(s.data.getD y1.1.toNat 0).toNat : Int) ≤ (122 : Int)))
 (.br (!true)
 (.leaf (mkR fIsValue.rs (false, ())) [] [])
 (.ob (Value.string s = Value.string s) <| .ob (bk1 (IntKind.i64.wrap (y1.1 + (1 : Int)), ())) <| .ok))
 (.ob ((0 : Int) ≤ y1.1 ∧ y1.1 < (↑s.size : Int)) <| .br (decide ((↑(s.data.getD y1.1.toNat 0).toNat : Int) ≥ (48 : Int)))
 (.ob ((0 : Int) ≤ y1.1 ∧ y1.1 < (↑s.size : Int)) <| .br (decide ((↑(s.data.getD y1.1.toNat 0).toNat : Int) ≤ (57 : Int)))
 (.br (!true)
 (.leaf (mkR fIsValue.rs (false, ())) [] [])
 (.ob (Value.string s = Value.string s) <| .ob (bk1 (IntKind.i64.wrap (y1.1 + (1 : Int)), ())) <| .ok))
 (.ob ((0 : Int) ≤ y1.1 ∧ y1.1 < (↑s.size : Int)) <| .br (!(↑(s.data.getD y1.1.toNat 0).toNat : Int) == (47 : Int))
 (.leaf (mkR fIsValue.rs (false, ())) [] [])
 (.ob (Value.string s = Value.string s) <| .ob (bk1 (IntKind.i64.wrap (y1.1 + (1 : Int)), ())) <| .ok)))
 (.ob ((0 : Int) ≤ y1.1 ∧ y1.1 < (↑s.size : Int)) <| .br (!(↑(s.data.getD y1.1.toNat 0).toNat : Int) == (47 : Int))
 (.leaf (mkR fIsValue.rs (false, ())) [] [])
 (.ob (Value.string s = Value.string s) <| .ob (bk1 (IntKind.i64.wrap (y1.1 + (1 : Int)), ())) <| .ok))))
 (.ob ((0 : Int) ≤ y1.1 ∧ y1.1 < (↑s.size : Int)) <| .br (decide ((↑(s.data.getD y1.1.toNat 0).toNat : Int) ≥ (48 : Int)))
 (.ob ((0 : Int) ≤ y1.1 ∧ y1.1 < (↑s.size : Int)) <| .br (decide ((↑(s.data.getD y1.1.toNat 0).toNat : Int) ≤ (57 : Int)))
 (.br (!true)
 (.leaf (mkR fIsValue.rs (false, ())) [] [])
 (.ob (Value.string s = Value.string s) <| .ob (bk1 (IntKind.i64.wrap (y1.1 + (1 : Int)), ())) <| .ok))
 (.ob ((0 : Int) ≤ y1.1 ∧ y1.1 < (↑s.size : Int)) <| .br (!(↑(s.data.getD y1.1.toNat 0).toNat : Int) == (47 : Int))
 (.leaf (mkR fIsValue.rs (false, ())) [] [])
 (.ob (Value.string s = Value.string s) <| .ob (bk1 (IntKind.i64.wrap (y1.1 + (1 : Int)), ())) <| .ok)))
 (.ob ((0 : Int) ≤ y1.1 ∧ y1.1 < (↑s.size : Int)) <| .br (!(↑(s.data.getD y1.1.toNat 0).toNat : Int) == (47 : Int))
 (.leaf (mkR fIsValue.rs (false, ())) [] [])
 (.ob (Value.string s = Value.string s) <| .ob (bk1 (IntKind.i64.wrap (y1.1 + (1 : Int)), ())) <| .ok))))
 (.cl fInRange ((↑s.size : Int), (1 : Int), (20 : Int), ()) fun z2 =>
 .leaf (mkR fIsValue.rs (z2.1, ())) [] [])) (by kernel_rfl) ?_
  refine lpx_i ?_ fun (y1 : Int × PUnit) i1 => br_i (fun h2 => ob_i ?_ fun o3 => br_i (fun h4 => ob_i ?_ fun o5 => br_i (fun h6 => br_i (fun h7 => Fct.leafY ?_) (fun h7 => ob_i rfl fun _ => ob_i ?_ fun o8 => trivial)) (fun h6 => ob_i ?_ fun o9 => br_i (fun h10 => ob_i ?_ fun o11 => br_i (fun h12 => br_i (fun h13 => Fct.leafY ?_) (fun h13 => ob_i rfl fun _ => ob_i ?_ fun o14 => trivial)) (fun h12 => ob_i ?_ fun o15 => br_i (fun h16 => Fct.leafY ?_) (fun h16 => ob_i rfl fun _ => ob_i ?_ fun o17 => trivial))) (fun h10 => ob_i ?_ fun o18 => br_i (fun h19 => Fct.leafY ?_) (fun h19 => ob_i rfl fun _ => ob_i ?_ fun o20 => trivial)))) (fun h4 => ob_i ?_ fun o21 => br_i (fun h22 => ob_i ?_ fun o23 => br_i (fun h24 => br_i (fun h25 => Fct.leafY ?_) (fun h25 => ob_i rfl fun _ => ob_i ?_ fun o26 => trivial)) (fun h24 => ob_i ?_ fun o27 => br_i (fun h28 => Fct.leafY ?_) (fun h28 => ob_i rfl fun _ => ob_i ?_ fun o29 => trivial))) (fun h22 => ob_i ?_ fun o30 => br_i (fun h31 => Fct.leafY ?_) (fun h31 => ob_i rfl fun _ => ob_i ?_ fun o32 => trivial)))) (fun h2 => cl_i trivial fun _ => (Fct.leafY ?_))
  all_goals try simp only [std1, ne_eq] at *
  all_goals try simp only [W_impl_IsValue_fIsValue_2, fInRange, fIsValue, etaS, std1, std2, Nat.reduceAdd, ne_eq, isValue, valByte, fInRange, inRange, allB_at, allB_end] at *
  all_goals try simp (disch := omega) only [wrapId', toNat1] at *
  all_goals try simp (disch := omega) only [if_pos, if_neg]
  all_goals first | trivial | omega | grind [wrapId', toNat1, good_len, maxLen, isValue, valByte, fInRange, inRange, allB_at, allB_end])
def E97 : D.Env := E96.add 143 fIsValue
theorem E97ok : EOk Tryz.prog E97 := E96ok.add k143_96
def fIsAddr : Fct := ⟨[.v (.el .addr)], [.el .bool], fun (x_ : SAddr × Unit) => x_.1.host.size ≤ 1000000000000000000 ∧ x_.1.path.size ≤ 1000000000000000000, fun (x_ : SAddr × Unit) => (isName x_.1.host && isName x_.1.path, ())⟩
theorem k125_97 : fIsAddr.ok Tryz.prog 125 := Fct.of (S := fIsAddr) (L := fun _ _ => none) (kp := [1,2]) E97ok Tryz.func125 (by kernel_rfl) (by kernel_rfl) (by
  rintro ⟨(a : SAddr), _⟩ hp
  refine holds_of (X := .cl fIsName (a.host, ()) fun z2 =>
 .br (z2.1)
 (.cl fIsName (a.path, ()) fun z3 =>
 .leaf (mkR fIsAddr.rs (z3.1, ())) [] [])
 (.leaf (mkR fIsAddr.rs (false, ())) [] [])) (by kernel_rfl) ?_
  refine cl_i ?_ fun o1 => (br_i (fun h2 => cl_i ?_ fun o3 => (Fct.leafY ?_)) (fun h2 => Fct.leafY ?_))
  all_goals try simp only [std1, ne_eq] at *
  all_goals try simp only [fIsAddr, fIsName, etaS, std1, std2, Nat.reduceAdd, ne_eq, fIsName] at *
  all_goals try simp (disch := omega) only [wrapId', toNat1] at *
  all_goals try simp (disch := omega) only [if_pos, if_neg]
  all_goals first | trivial | omega | grind [wrapId', toNat1, drop_cons, drop_end, good_len, maxLen, fIsName])
def E98 : D.Env := E97.add 125 fIsAddr
theorem E98ok : EOk Tryz.prog E98 := E97ok.add k125_97
theorem k141_98 : fIsAddr.ok Tryz.prog 141 := Fct.of (S := fIsAddr) (L := fun _ _ => none) (kp := [1,2]) E98ok Tryz.func141 (by kernel_rfl) (by kernel_rfl) (by
  rintro ⟨(a : SAddr), _⟩ hp
  refine holds_of (X := .cl fIsName (a.host, ()) fun z2 =>
 .br (z2.1)
 (.cl fIsName (a.path, ()) fun z3 =>
 .leaf (mkR fIsAddr.rs (z3.1, ())) [] [])
 (.leaf (mkR fIsAddr.rs (false, ())) [] [])) (by kernel_rfl) ?_
  refine cl_i ?_ fun o1 => (br_i (fun h2 => cl_i ?_ fun o3 => (Fct.leafY ?_)) (fun h2 => Fct.leafY ?_))
  all_goals try simp only [std1, ne_eq] at *
  all_goals try simp only [fIsAddr, fIsName, etaS, std1, std2, Nat.reduceAdd, ne_eq, fIsName] at *
  all_goals try simp (disch := omega) only [wrapId', toNat1] at *
  all_goals try simp (disch := omega) only [if_pos, if_neg]
  all_goals first | trivial | omega | grind [wrapId', toNat1, drop_cons, drop_end, good_len, maxLen, fIsName])
def E99 : D.Env := E98.add 141 fIsAddr
theorem E99ok : EOk Tryz.prog E99 := E98ok.add k141_98
theorem szStr_get {l : List ByteArray} {i : Nat} (h : i < l.length) : (l.getD i default).size + l.length ≤ szL szString l := by
  have := szL_get szString h
  simp only [szString] at this; omega
def fNames : Fct := ⟨[.v (.sl .str)], [.el .bool], fun (x_ : (List ByteArray) × Unit) => szL szString x_.1 ≤ 1099511627776, fun (x_ : (List ByteArray) × Unit) => (x_.1.all isName && decide (x_.1.length ≤ 4), ())⟩
abbrev W_spec_l9Names_fNames_2 (l : (List ByteArray)) : LInv := ⟨[⟨.s, 3, true, .el .int⟩], fun _ (x_ : Int × Unit) => 0 ≤ x_.1 ∧ x_.1 ≤ l.length ∧ (l.drop x_.1.toNat).all isName = l.all isName, fun (x_ : Int × Unit) => l.length - x_.1.toNat⟩
theorem k197_99 : fNames.ok Tryz.prog 197 := Fct.of (S := fNames) (L := fun ⟨l, _⟩ => fun | 2 => some (W_spec_l9Names_fNames_2 l) | _ => none) (kp := [0,2,3,7,15,1000007,1000015]) E99ok Tryz.func197 (by kernel_rfl) (by kernel_rfl) (by
  rintro ⟨(l : List ByteArray), _⟩ hp
  refine holds_of (X := lpx (W_spec_l9Names_fNames_2 l) ((0 : Int), ()) fun (y1 : Int × PUnit) bk1 =>
 .br (decide (y1.1 < (↑l.length : Int)))
 (.ob ((0 : Int) ≤ y1.1 ∧ y1.1 < (↑l.length : Int)) <| .cl fIsName (l.getD y1.1.toNat default, ()) fun z2 =>
 .br (!z2.1)
 (.leaf (mkR fNames.rs (false, ())) [] [])
 (.ob (l = l) <| .ob (bk1 (IntKind.i64.wrap (y1.1 + (1 : Int)), ())) <| .ok))
 (.leaf (mkR fNames.rs (decide ((↑l.length : Int) ≤ (4 : Int)), ())) [] [])) (by kernel_rfl) ?_
  refine lpx_i ?_ fun (y1 : Int × PUnit) i1 => br_i (fun h2 => ob_i ?_ fun o3 => cl_i ?_ fun o4 => (br_i (fun h5 => Fct.leafY ?_) (fun h5 => ob_i rfl fun _ => ob_i ?_ fun o6 => trivial))) (fun h2 => Fct.leafY ?_)
  all_goals have hl := szL_len szString l
  all_goals have hg : ∀ i, i < l.length → (l.getD i default).size ≤ 1000000000000000000 := fun i h => by have := szStr_get h; have hp2 : szL szString l ≤ 1099511627776 := hp; omega
  all_goals try simp only [std1, ne_eq] at *
  all_goals try simp only [W_spec_l9Names_fNames_2, fIsName, fNames, etaS, std1, std2, Nat.reduceAdd, ne_eq, fIsName] at *
  all_goals try simp (disch := omega) only [wrapId', toNat1] at *
  all_goals try simp (disch := omega) only [if_pos, if_neg]
  all_goals first | trivial | omega | grind [wrapId', toNat1, drop_cons, drop_end, good_len, maxLen, fIsName])
def E100 : D.Env := E99.add 197 fNames
theorem E100ok : EOk Tryz.prog E100 := E99ok.add k197_99
def fAreHosts1 : Fct := ⟨[.v (.el .str)], [.el .bool], fun (x_ : ByteArray × Unit) => x_.1.size ≤ 1000000000000000000, fun (x_ : ByteArray × Unit) => (!isName x_.1, ())⟩
theorem k213_100 : fAreHosts1.ok Tryz.prog 213 := Fct.of (S := fAreHosts1) (L := fun _ _ => none) (kp := [0,2]) E100ok Tryz.func213 (by kernel_rfl) (by kernel_rfl) (by
  rintro ⟨(s : ByteArray), _⟩ hp
  refine holds_of (X := .cl fIsName (s, ()) fun z2 =>
 .leaf (mkR fAreHosts1.rs (!z2.1, ())) [] []) (by kernel_rfl) ?_
  refine cl_i ?_ fun o1 => (Fct.leafY ?_)
  all_goals try simp only [std1, ne_eq] at *
  all_goals try simp only [fAreHosts1, fIsName, etaS, std1, std2, Nat.reduceAdd, ne_eq, fIsName] at *
  all_goals try simp (disch := omega) only [wrapId', toNat1] at *
  all_goals try simp (disch := omega) only [if_pos, if_neg]
  all_goals first | trivial | omega | grind [wrapId', toNat1, drop_cons, drop_end, good_len, maxLen, fIsName])
def E101 : D.Env := E100.add 213 fAreHosts1
theorem E101ok : EOk Tryz.prog E101 := E100ok.add k213_100
def fIndexFunc_str_impl_areHosts_1 : Fct := ⟨[aL .str, .c 213 []], [rI], fun x => x.1.length ≤ 1000000000000000000 ∧ ∀ i, i < x.1.length → fAreHosts1.pre (x.1.getD i default, x.2.1), fun x => (fidx (fun c => (fAreHosts1.fn (c, x.2.1)).1) x.1 0, ())⟩
abbrev W_slices_IndexFunc_string_string_fIndexFunc_str_impl_areHosts_1_2 (l : (List ByteArray)) (u : (Unit)) : LInv := ⟨[⟨.s, 8, true, .el .int⟩], fun _ (x_ : Int × Unit) => 0 ≤ x_.1 ∧ x_.1 ≤ l.length ∧ fidx (fun c => (fAreHosts1.fn (c, u)).1) l 0 = fidx (fun c => (fAreHosts1.fn (c, u)).1) (l.drop x_.1.toNat) x_.1, fun (x_ : Int × Unit) => l.length - x_.1.toNat⟩
theorem k225_101 : fIndexFunc_str_impl_areHosts_1.ok Tryz.prog 225 := Fct.of (S := fIndexFunc_str_impl_areHosts_1) (L := fun ⟨l, u, _⟩ => fun | 2 => some (W_slices_IndexFunc_string_string_fIndexFunc_str_impl_areHosts_1_2 l u) | _ => none) (kp := [0,1,4,5,7,8,9,16,1000009,1000016]) E101ok Tryz.func225 (by kernel_rfl) (by kernel_rfl) (by
  rintro ⟨(l : List ByteArray), (u : PUnit), _⟩ hp
  refine holds_of (X := lpx (W_slices_IndexFunc_string_string_fIndexFunc_str_impl_areHosts_1_2 l u) ((0 : Int), ()) fun (y1 : Int × PUnit) bk1 =>
 .br (decide (y1.1 < (↑l.length : Int)))
 (.ob ((0 : Int) ≤ y1.1 ∧ y1.1 < (↑l.length : Int)) <| .cl fAreHosts1 (l.getD y1.1.toNat default, ()) fun z2 =>
 .br (z2.1)
 (.leaf (mkR fIndexFunc_str_impl_areHosts_1.rs (y1.1, ())) [] [])
 (.ob (l = l) <| .ob (Value.int IntKind.i64 (↑l.length : Int) = Value.int IntKind.i64 (↑l.length : Int)) <| .ob (bk1 (IntKind.i64.wrap (y1.1 + (1 : Int)), ())) <| .ok))
 (.leaf (mkR fIndexFunc_str_impl_areHosts_1.rs ((-1 : Int), ())) [] [])) (by kernel_rfl) ?_
  refine lpx_i ?_ fun (y1 : Int × PUnit) i1 => br_i (fun h2 => ob_i ?_ fun o3 => cl_i ?_ fun o4 => (br_i (fun h5 => Fct.leafY ?_) (fun h5 => ob_i rfl fun _ => ob_i rfl fun _ => ob_i ?_ fun o6 => trivial))) (fun h2 => Fct.leafY ?_)
  all_goals try simp only [std1, ne_eq] at *
  all_goals try simp only [W_slices_IndexFunc_string_string_fIndexFunc_str_impl_areHosts_1_2, fAreHosts1, fIndexFunc_str_impl_areHosts_1, etaS, std1, std2, Nat.reduceAdd, ne_eq] at *
  all_goals try have hp2 := hp.2
  all_goals try have hp1 := hp.1
  all_goals first | trivial | omega | exact hp2 _ (by omega) | grind [wrapId', toNat1, drop_cons, drop_end, good_len, maxLen, fidx])
def E102 : D.Env := E101.add 225 fIndexFunc_str_impl_areHosts_1
theorem E102ok : EOk Tryz.prog E102 := E101ok.add k225_101
def fContainsFunc_str_impl_areHosts_1 : Fct := ⟨[aL .str, .c 213 []], [rB], fun x => x.1.length ≤ 1000000000000000000 ∧ ∀ i, i < x.1.length → fAreHosts1.pre (x.1.getD i default, x.2.1), fun x => (x.1.any (fun c => (fAreHosts1.fn (c, x.2.1)).1), ())⟩
theorem k212_102 : fContainsFunc_str_impl_areHosts_1.ok Tryz.prog 212 := Fct.of (S := fContainsFunc_str_impl_areHosts_1) (L := fun _ _ => none) (kp := [0,1,4]) E102ok Tryz.func212 (by kernel_rfl) (by kernel_rfl) (by
  rintro ⟨(l : List ByteArray), (u : PUnit), _⟩ hp
  refine holds_of (X := .cl fIndexFunc_str_impl_areHosts_1 (l, (), ()) fun z2 =>
 .leaf (mkR fContainsFunc_str_impl_areHosts_1.rs (decide (z2.1 ≥ (0 : Int)), ())) [] []) (by kernel_rfl) ?_
  refine cl_i ?_ fun o1 => (Fct.leafY ?_)
  all_goals try simp only [std1, ne_eq] at *
  all_goals try simp only [fContainsFunc_str_impl_areHosts_1, fIndexFunc_str_impl_areHosts_1, etaS, std1, std2, Nat.reduceAdd, ne_eq] at *
  all_goals first | trivial | omega | exact hp | (rw [Bool.eq_iff_iff]; exact decide_eq_true_iff.trans (fidx_ge _ _ _ (by omega))))
def E103 : D.Env := E102.add 212 fContainsFunc_str_impl_areHosts_1
theorem E103ok : EOk Tryz.prog E103 := E102ok.add k212_102
theorem k203_103 : fNames.ok Tryz.prog 203 := Fct.of (S := fNames) (L := fun _ _ => none) (kp := [0,2]) E103ok Tryz.func203 (by kernel_rfl) (by kernel_rfl) (by
  rintro ⟨(l : List ByteArray), _⟩ hp
  refine holds_of (X := .br (decide ((↑(List.length l) : Int) ≤ (4 : Int)))
 (.cl fContainsFunc_str_impl_areHosts_1 (l, (), ()) fun z2 =>
 .leaf (mkR fNames.rs (!z2.1, ())) [] [])
 (.leaf (mkR fNames.rs (false, ())) [] [])) (by kernel_rfl) ?_
  refine br_i (fun h1 => cl_i ?_ fun o2 => (Fct.leafY ?_)) (fun h1 => Fct.leafY ?_)
  all_goals have hl := szL_len szString l
  all_goals have hg : ∀ i, i < l.length → (l.getD i default).size ≤ 1000000000000000000 := fun i h => by have := szStr_get h; have hp2 : szL szString l ≤ 1099511627776 := hp; omega
  all_goals have ha : (l.any fun c => !isName c) = !(l.all isName) := by simp [List.any_eq_not_all_not]
  all_goals try simp only [std1, ne_eq] at *
  all_goals try simp only [fContainsFunc_str_impl_areHosts_1, fNames, etaS, std1, std2, Nat.reduceAdd, ne_eq, fContainsFunc_str_impl_areHosts_1, fAreHosts1] at *
  all_goals try simp (disch := omega) only [wrapId', toNat1] at *
  all_goals try simp (disch := omega) only [if_pos, if_neg]
  all_goals first | trivial | omega | grind [wrapId', toNat1, drop_cons, drop_end, good_len, maxLen, fContainsFunc_str_impl_areHosts_1, fAreHosts1])
def E104 : D.Env := E103.add 203 fNames
theorem E104ok : EOk Tryz.prog E104 := E103ok.add k203_103
def isPolicy (p : SPolicy) : Bool := if p.set_ then p.scripts.all isName && decide (p.scripts.length ≤ 4) && (p.styles.all isName && decide (p.styles.length ≤ 4)) && (p.images.all isName && decide (p.images.length ≤ 4)) && (decide (p.nonce = ⟨#[]⟩) || isValue p.nonce) else decide (p.scripts.length = 0 ∧ p.styles.length = 0 ∧ p.images.length = 0 ∧ p.nonce = ⟨#[]⟩)
def fIsPolicy : Fct := ⟨[.v (.el .policy)], [.el .bool], fun (x_ : SPolicy × Unit) => szPolicy x_.1 ≤ 1099511627776, fun (x_ : SPolicy × Unit) => (isPolicy x_.1, ())⟩
theorem k182_104 : fIsPolicy.ok Tryz.prog 182 := Fct.of (S := fIsPolicy) (L := fun _ _ => none) (kp := [1,2,5,1000005]) E104ok Tryz.func182 (by kernel_rfl) (by kernel_rfl) (by
  rintro ⟨(p : SPolicy), _⟩ hp
  refine holds_of (X := .br (!p.set_)
 (.br ((↑p.scripts.length : Int) == (0 : Int))
 (.br ((↑p.styles.length : Int) == (0 : Int))
 (.br ((↑p.images.length : Int) == (0 : Int))
 (.leaf (mkR fIsPolicy.rs (p.nonce.toList == (⟨#[]⟩ : ByteArray).toList, ())) [] [])
 (.leaf (mkR fIsPolicy.rs (false, ())) [] []))
 (.leaf (mkR fIsPolicy.rs (false, ())) [] []))
 (.leaf (mkR fIsPolicy.rs (false, ())) [] []))
 (.cl fNames (p.scripts, ()) fun z2 =>
 .br (z2.1)
 (.cl fNames (p.styles, ()) fun z3 =>
 .br (z3.1)
 (.cl fNames (p.images, ()) fun z4 =>
 .br (z4.1)
 (.br (p.nonce.toList == (⟨#[]⟩ : ByteArray).toList)
 (.leaf (mkR fIsPolicy.rs (true, ())) [] [])
 (.cl fIsValue (p.nonce, ()) fun z5 =>
 .leaf (mkR fIsPolicy.rs (z5.1, ())) [] []))
 (.leaf (mkR fIsPolicy.rs (false, ())) [] []))
 (.leaf (mkR fIsPolicy.rs (false, ())) [] []))
 (.leaf (mkR fIsPolicy.rs (false, ())) [] []))) (by kernel_rfl) ?_
  refine br_i (fun h1 => br_i (fun h2 => br_i (fun h3 => br_i (fun h4 => Fct.leafY ?_) (fun h4 => Fct.leafY ?_)) (fun h3 => Fct.leafY ?_)) (fun h2 => Fct.leafY ?_)) (fun h1 => cl_i ?_ fun o5 => (br_i (fun h6 => cl_i ?_ fun o7 => (br_i (fun h8 => cl_i ?_ fun o9 => (br_i (fun h10 => br_i (fun h11 => Fct.leafY ?_) (fun h11 => cl_i ?_ fun o12 => (Fct.leafY ?_))) (fun h10 => Fct.leafY ?_))) (fun h8 => Fct.leafY ?_))) (fun h6 => Fct.leafY ?_)))
  all_goals try simp only [std1, ne_eq] at *
  all_goals try simp only [fIsPolicy, fIsValue, fNames, etaS, std1, std2, Nat.reduceAdd, ne_eq, isPolicy, fNames, fIsValue, szPolicy] at *
  all_goals try simp (disch := omega) only [wrapId', toNat1] at *
  all_goals try simp (disch := omega) only [if_pos, if_neg]
  all_goals first | trivial | omega | grind [wrapId', toNat1, drop_cons, drop_end, good_len, maxLen, isPolicy, fNames, fIsValue, szPolicy])
def E105 : D.Env := E104.add 182 fIsPolicy
theorem E105ok : EOk Tryz.prog E105 := E104ok.add k182_104
theorem k193_105 : fIsPolicy.ok Tryz.prog 193 := Fct.of (S := fIsPolicy) (L := fun _ _ => none) (kp := [1,2,5,1000005]) E105ok Tryz.func193 (by kernel_rfl) (by kernel_rfl) (by
  rintro ⟨(p : SPolicy), _⟩ hp
  refine holds_of (X := .br (!p.set_)
 (.br ((↑p.scripts.length : Int) == (0 : Int))
 (.br ((↑p.styles.length : Int) == (0 : Int))
 (.br ((↑p.images.length : Int) == (0 : Int))
 (.leaf (mkR fIsPolicy.rs (p.nonce.toList == (⟨#[]⟩ : ByteArray).toList, ())) [] [])
 (.leaf (mkR fIsPolicy.rs (false, ())) [] []))
 (.leaf (mkR fIsPolicy.rs (false, ())) [] []))
 (.leaf (mkR fIsPolicy.rs (false, ())) [] []))
 (.cl fNames (p.scripts, ()) fun z2 =>
 .br (z2.1)
 (.cl fNames (p.styles, ()) fun z3 =>
 .br (z3.1)
 (.cl fNames (p.images, ()) fun z4 =>
 .br (z4.1)
 (.br (p.nonce.toList == (⟨#[]⟩ : ByteArray).toList)
 (.leaf (mkR fIsPolicy.rs (true, ())) [] [])
 (.cl fIsValue (p.nonce, ()) fun z5 =>
 .leaf (mkR fIsPolicy.rs (z5.1, ())) [] []))
 (.leaf (mkR fIsPolicy.rs (false, ())) [] []))
 (.leaf (mkR fIsPolicy.rs (false, ())) [] []))
 (.leaf (mkR fIsPolicy.rs (false, ())) [] []))) (by kernel_rfl) ?_
  refine br_i (fun h1 => br_i (fun h2 => br_i (fun h3 => br_i (fun h4 => Fct.leafY ?_) (fun h4 => Fct.leafY ?_)) (fun h3 => Fct.leafY ?_)) (fun h2 => Fct.leafY ?_)) (fun h1 => cl_i ?_ fun o5 => (br_i (fun h6 => cl_i ?_ fun o7 => (br_i (fun h8 => cl_i ?_ fun o9 => (br_i (fun h10 => br_i (fun h11 => Fct.leafY ?_) (fun h11 => cl_i ?_ fun o12 => (Fct.leafY ?_))) (fun h10 => Fct.leafY ?_))) (fun h8 => Fct.leafY ?_))) (fun h6 => Fct.leafY ?_)))
  all_goals try simp only [std1, ne_eq] at *
  all_goals try simp only [fIsPolicy, fIsValue, fNames, etaS, std1, std2, Nat.reduceAdd, ne_eq, isPolicy, fNames, fIsValue, szPolicy] at *
  all_goals try simp (disch := omega) only [wrapId', toNat1] at *
  all_goals try simp (disch := omega) only [if_pos, if_neg]
  all_goals first | trivial | omega | grind [wrapId', toNat1, drop_cons, drop_end, good_len, maxLen, isPolicy, fNames, fIsValue, szPolicy])
def E106 : D.Env := E105.add 193 fIsPolicy
theorem E106ok : EOk Tryz.prog E106 := E105ok.add k193_105
def fAllows : Fct := ⟨[.v (.el .policy), .v (.el .int), .v (.el .str)], [.el .bool], fun (x_ : SPolicy × Int × ByteArray × Unit) => szPolicy x_.1 ≤ 1099511627776, fun (x_ : SPolicy × Int × ByteArray × Unit) => (!x_.1.set_ || (if x_.2.1 = 2 ∨ x_.2.1 = 5 then x_.1.scripts.any (fun c => decide (c = x_.2.2.1)) else if x_.2.1 = 3 then x_.1.styles.any (fun c => decide (c = x_.2.2.1)) else if x_.2.1 = 4 then x_.1.images.any (fun c => decide (c = x_.2.2.1)) else false), ())⟩
theorem k103_106 : fAllows.ok Tryz.prog 103 := Fct.of (S := fAllows) (L := fun _ _ => none) (kp := [1,2,3,6,7,11,22,29,1000007,1000011,1000022,1000029]) E106ok Tryz.func103 (by kernel_rfl) (by kernel_rfl) (by
  rintro ⟨(p : SPolicy), (k : Int), (h : ByteArray), _⟩ hp
  refine holds_of (X := .br (!p.set_)
 (.leaf (mkR fAllows.rs (true, ())) [] [])
 (.br (k == (2 : Int))
 (.cl fHas9 (p.scripts, h, ()) fun z2 =>
 .leaf (mkR fAllows.rs (z2.1, ())) [] [])
 (.br (k == (5 : Int))
 (.cl fHas9 (p.scripts, h, ()) fun z3 =>
 .leaf (mkR fAllows.rs (z3.1, ())) [] [])
 (.br (k == (3 : Int))
 (.cl fHas9 (p.styles, h, ()) fun z4 =>
 .leaf (mkR fAllows.rs (z4.1, ())) [] [])
 (.br (k == (4 : Int))
 (.cl fHas9 (p.images, h, ()) fun z5 =>
 .leaf (mkR fAllows.rs (z5.1, ())) [] [])
 (.leaf (mkR fAllows.rs (false, ())) [] [])))))) (by kernel_rfl) ?_
  refine br_i (fun h1 => Fct.leafY ?_) (fun h1 => br_i (fun h2 => cl_i ?_ fun o3 => (Fct.leafY ?_)) (fun h2 => br_i (fun h4 => cl_i ?_ fun o5 => (Fct.leafY ?_)) (fun h4 => br_i (fun h6 => cl_i ?_ fun o7 => (Fct.leafY ?_)) (fun h6 => br_i (fun h8 => cl_i ?_ fun o9 => (Fct.leafY ?_)) (fun h8 => Fct.leafY ?_)))))
  all_goals have hl1 := szL_len szString p.scripts
  all_goals have hl2 := szL_len szString p.styles
  all_goals have hl3 := szL_len szString p.images
  all_goals try simp only [std1, ne_eq] at *
  all_goals try simp only [fAllows, fHas9, etaS, std1, std2, Nat.reduceAdd, ne_eq, fHas9, fContains_str, szPolicy] at *
  all_goals try simp (disch := omega) only [wrapId', toNat1] at *
  all_goals try simp (disch := omega) only [if_pos, if_neg]
  all_goals first | trivial | omega | grind [wrapId', toNat1, drop_cons, drop_end, good_len, maxLen, fHas9, fContains_str, szPolicy])
def E107 : D.Env := E106.add 103 fAllows
theorem E107ok : EOk Tryz.prog E107 := E106ok.add k103_106
theorem k113_107 : fAllows.ok Tryz.prog 113 := Fct.of (S := fAllows) (L := fun _ _ => none) (kp := [1,2,3,6,9,10,11,18,24,1000009,1000018,1000024]) E107ok Tryz.func113 (by kernel_rfl) (by kernel_rfl) (by
  rintro ⟨(p : SPolicy), (k : Int), (h : ByteArray), _⟩ hp
  refine holds_of (X := .br (!p.set_)
 (.leaf (mkR fAllows.rs (true, ())) [] [])
 (.br (k == (2 : Int))
 (.br (k == (2 : Int))
 (.cl fContains_str (p.scripts, h, ()) fun z2 =>
 .leaf (mkR fAllows.rs (z2.1, ())) [] [])
 (.br (k == (3 : Int))
 (.cl fContains_str (p.styles, h, ()) fun z3 =>
 .leaf (mkR fAllows.rs (z3.1, ())) [] [])
 (.br (k == (4 : Int))
 (.cl fContains_str (p.images, h, ()) fun z4 =>
 .leaf (mkR fAllows.rs (z4.1, ())) [] [])
 (.leaf (mkR fAllows.rs (false, ())) [] []))))
 (.br (k == (5 : Int))
 (.cl fContains_str (p.scripts, h, ()) fun z5 =>
 .leaf (mkR fAllows.rs (z5.1, ())) [] [])
 (.br (k == (3 : Int))
 (.cl fContains_str (p.styles, h, ()) fun z6 =>
 .leaf (mkR fAllows.rs (z6.1, ())) [] [])
 (.br (k == (4 : Int))
 (.cl fContains_str (p.images, h, ()) fun z7 =>
 .leaf (mkR fAllows.rs (z7.1, ())) [] [])
 (.leaf (mkR fAllows.rs (false, ())) [] [])))))) (by kernel_rfl) ?_
  refine br_i (fun h1 => Fct.leafY ?_) (fun h1 => br_i (fun h2 => br_i (fun h3 => cl_i ?_ fun o4 => (Fct.leafY ?_)) (fun h3 => br_i (fun h5 => cl_i ?_ fun o6 => (Fct.leafY ?_)) (fun h5 => br_i (fun h7 => cl_i ?_ fun o8 => (Fct.leafY ?_)) (fun h7 => Fct.leafY ?_)))) (fun h2 => br_i (fun h9 => cl_i ?_ fun o10 => (Fct.leafY ?_)) (fun h9 => br_i (fun h11 => cl_i ?_ fun o12 => (Fct.leafY ?_)) (fun h11 => br_i (fun h13 => cl_i ?_ fun o14 => (Fct.leafY ?_)) (fun h13 => Fct.leafY ?_)))))
  all_goals have hl1 := szL_len szString p.scripts
  all_goals have hl2 := szL_len szString p.styles
  all_goals have hl3 := szL_len szString p.images
  all_goals try simp only [std1, ne_eq] at *
  all_goals try simp only [fAllows, fContains_str, etaS, std1, std2, Nat.reduceAdd, ne_eq, fHas9, fContains_str, szPolicy] at *
  all_goals try simp (disch := omega) only [wrapId', toNat1] at *
  all_goals try simp (disch := omega) only [if_pos, if_neg]
  all_goals first | trivial | omega | grind [wrapId', toNat1, drop_cons, drop_end, good_len, maxLen, fHas9, fContains_str, szPolicy])
def E108 : D.Env := E107.add 113 fAllows
theorem E108ok : EOk Tryz.prog E108 := E107ok.add k113_107
def isRequest (r : SRequest) : Bool := inRange r.kind 1 5 && (isName r.to.host && isName r.to.path) && isName r.from_ && (decide (r.digest = ⟨#[]⟩) || isValue r.digest)
def fIsRequest : Fct := ⟨[.v (.el .request)], [.el .bool], fun (x_ : SRequest × Unit) => szRequest x_.1 ≤ 1099511627776, fun (x_ : SRequest × Unit) => (isRequest x_.1, ())⟩
theorem k102_108 : fIsRequest.ok Tryz.prog 102 := Fct.of (S := fIsRequest) (L := fun _ _ => none) (kp := [1,2]) E108ok Tryz.func102 (by kernel_rfl) (by kernel_rfl) (by
  rintro ⟨(r : SRequest), _⟩ hp
  refine holds_of (X := .cl fInRange (r.kind, (1 : Int), (5 : Int), ()) fun z2 =>
 .br (z2.1)
 (.cl fIsAddr (r.to, ()) fun z3 =>
 .br (z3.1)
 (.cl fIsName (r.from_, ()) fun z4 =>
 .br (z4.1)
 (.br (r.digest.toList == (⟨#[]⟩ : ByteArray).toList)
 (.leaf (mkR fIsRequest.rs (true, ())) [] [])
 (.cl fIsValue (r.digest, ()) fun z5 =>
 .leaf (mkR fIsRequest.rs (z5.1, ())) [] []))
 (.leaf (mkR fIsRequest.rs (false, ())) [] []))
 (.leaf (mkR fIsRequest.rs (false, ())) [] []))
 (.leaf (mkR fIsRequest.rs (false, ())) [] [])) (by kernel_rfl) ?_
  refine cl_i trivial fun _ => (br_i (fun h1 => cl_i ?_ fun o2 => (br_i (fun h3 => cl_i ?_ fun o4 => (br_i (fun h5 => br_i (fun h6 => Fct.leafY ?_) (fun h6 => cl_i ?_ fun o7 => (Fct.leafY ?_))) (fun h5 => Fct.leafY ?_))) (fun h3 => Fct.leafY ?_))) (fun h1 => Fct.leafY ?_))
  all_goals try simp only [std1, ne_eq] at *
  all_goals try simp only [fInRange, fIsAddr, fIsName, fIsRequest, fIsValue, etaS, std1, std2, Nat.reduceAdd, ne_eq, isRequest, fIsName, fIsAddr, fIsValue, fInRange, szRequest, szAddr] at *
  all_goals try simp (disch := omega) only [wrapId', toNat1] at *
  all_goals try simp (disch := omega) only [if_pos, if_neg]
  all_goals first | trivial | omega | grind [wrapId', toNat1, drop_cons, drop_end, good_len, maxLen, isRequest, fIsName, fIsAddr, fIsValue, fInRange, szRequest, szAddr])
def E109 : D.Env := E108.add 102 fIsRequest
theorem E109ok : EOk Tryz.prog E109 := E108ok.add k102_108
theorem k112_109 : fIsRequest.ok Tryz.prog 112 := Fct.of (S := fIsRequest) (L := fun _ _ => none) (kp := [1,2]) E109ok Tryz.func112 (by kernel_rfl) (by kernel_rfl) (by
  rintro ⟨(r : SRequest), _⟩ hp
  refine holds_of (X := .cl fInRange (r.kind, (1 : Int), (5 : Int), ()) fun z2 =>
 .br (z2.1)
 (.cl fIsAddr (r.to, ()) fun z3 =>
 .br (z3.1)
 (.cl fIsName (r.from_, ()) fun z4 =>
 .br (z4.1)
 (.br (r.digest.toList == (⟨#[]⟩ : ByteArray).toList)
 (.leaf (mkR fIsRequest.rs (true, ())) [] [])
 (.cl fIsValue (r.digest, ()) fun z5 =>
 .leaf (mkR fIsRequest.rs (z5.1, ())) [] []))
 (.leaf (mkR fIsRequest.rs (false, ())) [] []))
 (.leaf (mkR fIsRequest.rs (false, ())) [] []))
 (.leaf (mkR fIsRequest.rs (false, ())) [] [])) (by kernel_rfl) ?_
  refine cl_i trivial fun _ => (br_i (fun h1 => cl_i ?_ fun o2 => (br_i (fun h3 => cl_i ?_ fun o4 => (br_i (fun h5 => br_i (fun h6 => Fct.leafY ?_) (fun h6 => cl_i ?_ fun o7 => (Fct.leafY ?_))) (fun h5 => Fct.leafY ?_))) (fun h3 => Fct.leafY ?_))) (fun h1 => Fct.leafY ?_))
  all_goals try simp only [std1, ne_eq] at *
  all_goals try simp only [fInRange, fIsAddr, fIsName, fIsRequest, fIsValue, etaS, std1, std2, Nat.reduceAdd, ne_eq, isRequest, fIsName, fIsAddr, fIsValue, fInRange, szRequest, szAddr] at *
  all_goals try simp (disch := omega) only [wrapId', toNat1] at *
  all_goals try simp (disch := omega) only [if_pos, if_neg]
  all_goals first | trivial | omega | grind [wrapId', toNat1, drop_cons, drop_end, good_len, maxLen, isRequest, fIsName, fIsAddr, fIsValue, fInRange, szRequest, szAddr])
def E110 : D.Env := E109.add 112 fIsRequest
theorem E110ok : EOk Tryz.prog E110 := E109ok.add k112_109
def allows (p : SPolicy) (k : Int) (h : ByteArray) : Bool := (fAllows.fn (p, k, h, ())).1
def checkRequest (p : SPolicy) (r : SRequest) : Int := if isRequest r && (decide (r.kind = 1) || allows p r.kind r.to.host) then 1 else 2
def fCheckRequest : Fct := ⟨[.v (.el .policy), .v (.el .request)], [.el .int], fun (x_ : SPolicy × SRequest × Unit) => szPolicy x_.1 ≤ 1099511627776 ∧ szRequest x_.2.1 ≤ 1099511627776, fun (x_ : SPolicy × SRequest × Unit) => (checkRequest x_.1 x_.2.1, ())⟩
theorem k72_110 : fCheckRequest.ok Tryz.prog 72 := Fct.of (S := fCheckRequest) (L := fun _ _ => none) (kp := [2,3,4,22,1000022]) E110ok Tryz.func72 (by kernel_rfl) (by kernel_rfl) (by
  rintro ⟨(p : SPolicy), (r : SRequest), _⟩ hp
  refine holds_of (X := .cl fIsRequest (r, ()) fun z2 =>
 .br (!z2.1)
 (.leaf (mkR fCheckRequest.rs ((2 : Int), ())) [] [])
 (.br (r.kind != (1 : Int))
 (.cl fAllows (p, r.kind, r.to.host, ()) fun z3 =>
 .br (!z3.1)
 (.leaf (mkR fCheckRequest.rs ((2 : Int), ())) [] [])
 (.leaf (mkR fCheckRequest.rs ((1 : Int), ())) [] []))
 (.leaf (mkR fCheckRequest.rs ((1 : Int), ())) [] []))) (by kernel_rfl) ?_
  refine cl_i ?_ fun o1 => (br_i (fun h2 => Fct.leafY ?_) (fun h2 => br_i (fun h3 => cl_i ?_ fun o4 => (br_i (fun h5 => Fct.leafY ?_) (fun h5 => Fct.leafY ?_))) (fun h3 => Fct.leafY ?_)))
  all_goals try simp only [std1, ne_eq] at *
  all_goals try simp only [fAllows, fCheckRequest, fIsRequest, etaS, std1, std2, Nat.reduceAdd, ne_eq, checkRequest, allows, fAllows, fIsRequest] at *
  all_goals try simp (disch := omega) only [wrapId', toNat1] at *
  all_goals try simp (disch := omega) only [if_pos, if_neg]
  all_goals first | trivial | omega | grind [wrapId', toNat1, drop_cons, drop_end, good_len, maxLen, checkRequest, allows, fAllows, fIsRequest])
def E111 : D.Env := E110.add 72 fCheckRequest
theorem E111ok : EOk Tryz.prog E111 := E110ok.add k72_110
theorem k84_111 : fCheckRequest.ok Tryz.prog 84 := Fct.of (S := fCheckRequest) (L := fun _ _ => none) (kp := [2,3,4,22,1000022]) E111ok Tryz.func84 (by kernel_rfl) (by kernel_rfl) (by
  rintro ⟨(p : SPolicy), (r : SRequest), _⟩ hp
  refine holds_of (X := .cl fIsRequest (r, ()) fun z2 =>
 .br (!z2.1)
 (.leaf (mkR fCheckRequest.rs ((2 : Int), ())) [] [])
 (.br (r.kind != (1 : Int))
 (.cl fAllows (p, r.kind, r.to.host, ()) fun z3 =>
 .br (!z3.1)
 (.leaf (mkR fCheckRequest.rs ((2 : Int), ())) [] [])
 (.leaf (mkR fCheckRequest.rs ((1 : Int), ())) [] []))
 (.leaf (mkR fCheckRequest.rs ((1 : Int), ())) [] []))) (by kernel_rfl) ?_
  refine cl_i ?_ fun o1 => (br_i (fun h2 => Fct.leafY ?_) (fun h2 => br_i (fun h3 => cl_i ?_ fun o4 => (br_i (fun h5 => Fct.leafY ?_) (fun h5 => Fct.leafY ?_))) (fun h3 => Fct.leafY ?_)))
  all_goals try simp only [std1, ne_eq] at *
  all_goals try simp only [fAllows, fCheckRequest, fIsRequest, etaS, std1, std2, Nat.reduceAdd, ne_eq, checkRequest, allows, fAllows, fIsRequest] at *
  all_goals try simp (disch := omega) only [wrapId', toNat1] at *
  all_goals try simp (disch := omega) only [if_pos, if_neg]
  all_goals first | trivial | omega | grind [wrapId', toNat1, drop_cons, drop_end, good_len, maxLen, checkRequest, allows, fAllows, fIsRequest])
def E112 : D.Env := E111.add 84 fCheckRequest
theorem E112ok : EOk Tryz.prog E112 := E111ok.add k84_111
def fFitsKind : Fct := ⟨[.v (.el .response), .v (.el .int)], [.el .bool], fun (x_ : SResponse × Int × Unit) => True, fun (x_ : SResponse × Int × Unit) => (decide (x_.1.kind = x_.2.1) || decide (x_.2.1 = 5 ∧ x_.1.kind = 2), ())⟩
theorem k106_112 : fFitsKind.ok Tryz.prog 106 := Fct.of (S := fFitsKind) (L := fun _ _ => none) (kp := [1,2,4]) E112ok Tryz.func106 (by kernel_rfl) (by kernel_rfl) (by
  rintro ⟨(x : SResponse), (k : Int), _⟩ hp
  refine holds_of (X := .br (x.kind == k)
 (.leaf (mkR fFitsKind.rs (true, ())) [] [])
 (.br (k == (5 : Int))
 (.leaf (mkR fFitsKind.rs (x.kind == (2 : Int), ())) [] [])
 (.leaf (mkR fFitsKind.rs (false, ())) [] []))) (by kernel_rfl) ?_
  refine br_i (fun h1 => Fct.leafY ?_) (fun h1 => br_i (fun h2 => Fct.leafY ?_) (fun h2 => Fct.leafY ?_))
  all_goals try simp only [std1, ne_eq] at *
  all_goals try simp only [fFitsKind, etaS, std1, std2, Nat.reduceAdd, ne_eq] at *
  all_goals try simp (disch := omega) only [wrapId', toNat1] at *
  all_goals try simp (disch := omega) only [if_pos, if_neg]
  all_goals first | trivial | omega | grind [wrapId', toNat1, drop_cons, drop_end, good_len, maxLen])
def E113 : D.Env := E112.add 106 fFitsKind
theorem E113ok : EOk Tryz.prog E113 := E112ok.add k106_112
theorem k116_113 : fFitsKind.ok Tryz.prog 116 := Fct.of (S := fFitsKind) (L := fun _ _ => none) (kp := [1,2,4]) E113ok Tryz.func116 (by kernel_rfl) (by kernel_rfl) (by
  rintro ⟨(x : SResponse), (k : Int), _⟩ hp
  refine holds_of (X := .br (x.kind == k)
 (.leaf (mkR fFitsKind.rs (true, ())) [] [])
 (.br (k == (5 : Int))
 (.leaf (mkR fFitsKind.rs (x.kind == (2 : Int), ())) [] [])
 (.leaf (mkR fFitsKind.rs (false, ())) [] []))) (by kernel_rfl) ?_
  refine br_i (fun h1 => Fct.leafY ?_) (fun h1 => br_i (fun h2 => Fct.leafY ?_) (fun h2 => Fct.leafY ?_))
  all_goals try simp only [std1, ne_eq] at *
  all_goals try simp only [fFitsKind, etaS, std1, std2, Nat.reduceAdd, ne_eq] at *
  all_goals try simp (disch := omega) only [wrapId', toNat1] at *
  all_goals try simp (disch := omega) only [if_pos, if_neg]
  all_goals first | trivial | omega | grind [wrapId', toNat1, drop_cons, drop_end, good_len, maxLen])
def E114 : D.Env := E113.add 116 fFitsKind
theorem E114ok : EOk Tryz.prog E114 := E113ok.add k116_113
def notFound : SResponse := ⟨404, 1, ⟨#[]⟩, 0, false, ⟨#[]⟩⟩
def fNotFound : Fct := ⟨[], [rE .response], fun _ => True, fun _ => (notFound, ())⟩
theorem k130_114 : fNotFound.ok Tryz.prog 130 := Fct.of (S := fNotFound) (L := fun _ _ => none) (kp := [0]) E114ok Tryz.func130 (by kernel_rfl) (by kernel_rfl) (by
  rintro ⟨_⟩ hp
  refine holds_of (X := .leaf (mkR fNotFound.rs (⟨(404 : Int), (1 : Int), (⟨#[]⟩ : ByteArray), (0 : Int), false, (⟨#[]⟩ : ByteArray)⟩, ())) [] []) (by kernel_rfl) ?_
  refine Fct.leafY ?_
  all_goals try simp only [std1, ne_eq] at *
  all_goals try simp only [fNotFound, etaS, std1, std2, Nat.reduceAdd, ne_eq] at *
  all_goals first | trivial | omega | (simp_all; done) | (simp_all; omega) | grind)
def E115 : D.Env := E114.add 130 fNotFound
theorem E115ok : EOk Tryz.prog E115 := E114ok.add k130_114
theorem k146_115 : fNotFound.ok Tryz.prog 146 := Fct.of (S := fNotFound) (L := fun _ _ => none) (kp := [0]) E115ok Tryz.func146 (by kernel_rfl) (by kernel_rfl) (by
  rintro ⟨_⟩ hp
  refine holds_of (X := .leaf (mkR fNotFound.rs (⟨(404 : Int), (1 : Int), (⟨#[]⟩ : ByteArray), (0 : Int), false, (⟨#[]⟩ : ByteArray)⟩, ())) [] []) (by kernel_rfl) ?_
  refine Fct.leafY ?_
  all_goals try simp only [std1, ne_eq] at *
  all_goals try simp only [fNotFound, etaS, std1, std2, Nat.reduceAdd, ne_eq] at *
  all_goals first | trivial | omega | (simp_all; done) | (simp_all; omega) | grind)
def E116 : D.Env := E115.add 146 fNotFound
theorem E116ok : EOk Tryz.prog E116 := E115ok.add k146_115
def fCopyServers : Fct := ⟨[.v (.sl .server)], [.sl .server], fun (x_ : (List SServer) × Unit) => szL szServer x_.1 ≤ 68719476736, fun (x_ : (List SServer) × Unit) => (x_.1, ())⟩
abbrev W_spec_l12Copy_fCopyServers_3 (l : (List SServer)) : LInv := ⟨[⟨.s, 3, true, .sl .server⟩, ⟨.s, 4, true, .el .int⟩], fun _ (x_ : (List SServer) × Int × Unit) => 0 ≤ x_.2.1 ∧ x_.2.1 ≤ l.length ∧ x_.1 = l.take x_.2.1.toNat, fun (x_ : (List SServer) × Int × Unit) => l.length - x_.2.1.toNat⟩
theorem k156_116 : fCopyServers.ok Tryz.prog 156 := Fct.of (S := fCopyServers) (L := fun ⟨l, _⟩ => fun | 3 => some (W_spec_l12Copy_fCopyServers_3 l) | _ => none) (kp := [0,2,3,4,9,1000009]) E116ok Tryz.func156 (by kernel_rfl) (by kernel_rfl) (by
  rintro ⟨(l : List SServer), _⟩ hp
  refine holds_of (X := lpx (W_spec_l12Copy_fCopyServers_3 l) ([], ((0 : Int), ())) fun (y1 : List SServer × Int × PUnit) bk1 =>
 .br (decide (y1.2.1 < (↑l.length : Int)))
 (.ob ((0 : Int) ≤ y1.2.1 ∧ y1.2.1 < (↑l.length : Int)) <| .ob ((0 : Int) ≤ y1.2.1 ∧ y1.2.1 < (↑l.length : Int)) <| .ob (True) <| .ob (Room (l.getD y1.2.1.toNat default).files.length 80) <| .ob (Room (y1.1.length + [l.getD y1.2.1.toNat default].length) 40) <| .ob (l = l) <| .ob (bk1 (y1.1 ++ [l.getD y1.2.1.toNat default], (IntKind.i64.wrap (y1.2.1 + (1 : Int)), ()))) <| .ok)
 (.leaf (mkR fCopyServers.rs (y1.1, ())) [] [])) (by kernel_rfl) ?_
  refine lpx_i ?_ fun (y1 : List SServer × Int × PUnit) i1 => br_i (fun h2 => ob_i ?_ fun o3 => ob_i ?_ fun o4 => ob_i trivial fun _ => ob_i ?_ fun o5 => ob_i ?_ fun o6 => ob_i rfl fun _ => ob_i ?_ fun o7 => trivial) (fun h2 => Fct.leafY ?_)
  all_goals have hl := szL_len szServer l
  all_goals have hg : ∀ i, i < l.length → (l.getD i default).files.length ≤ 68719476736 := fun i h => by have := szServer_get h; have hp2 : szL szServer l ≤ 68719476736 := hp; omega
  all_goals try simp only [std1, ne_eq] at *
  all_goals try simp only [W_spec_l12Copy_fCopyServers_3, fCopyServers, etaS, std1, std2, Nat.reduceAdd, ne_eq, take_succ, take_end] at *
  all_goals try simp (disch := omega) only [wrapId', toNat1] at *
  all_goals try simp (disch := omega) only [if_pos, if_neg]
  all_goals first | trivial | omega | grind [wrapId', toNat1, drop_cons, drop_end, good_len, maxLen, take_succ, take_end])
def E117 : D.Env := E116.add 156 fCopyServers
theorem E117ok : EOk Tryz.prog E117 := E116ok.add k156_116
abbrev W_impl_copyServers_fCopyServers_3 (l : (List SServer)) : LInv := ⟨[⟨.s, 3, true, .sl .server⟩, ⟨.s, 9, true, .el .int⟩], fun _ (x_ : (List SServer) × Int × Unit) => 0 ≤ x_.2.1 ∧ x_.2.1 ≤ l.length ∧ x_.1 = l.take x_.2.1.toNat, fun (x_ : (List SServer) × Int × Unit) => l.length - x_.2.1.toNat⟩
theorem k166_117 : fCopyServers.ok Tryz.prog 166 := Fct.of (S := fCopyServers) (L := fun ⟨l, _⟩ => fun | 3 => some (W_impl_copyServers_fCopyServers_3 l) | _ => none) (kp := [0,2,3,5,7,8,9,10,1000010]) E117ok Tryz.func166 (by kernel_rfl) (by kernel_rfl) (by
  rintro ⟨(l : List SServer), _⟩ hp
  refine holds_of (X := lpx (W_impl_copyServers_fCopyServers_3 l) ([], ((0 : Int), ())) fun (y1 : List SServer × Int × PUnit) bk1 =>
 .br (decide (y1.2.1 < (↑l.length : Int)))
 (.ob ((0 : Int) ≤ y1.2.1 ∧ y1.2.1 < (↑l.length : Int)) <| .ob (True) <| .ob (Room (l.getD y1.2.1.toNat default).files.length 80) <| .ob (Room (y1.1.length + [l.getD y1.2.1.toNat default].length) 40) <| .ob (l = l) <| .ob (l = l) <| .ob (Value.int IntKind.i64 (↑l.length : Int) = Value.int IntKind.i64 (↑l.length : Int)) <| .ob (bk1 (y1.1 ++ [l.getD y1.2.1.toNat default], (IntKind.i64.wrap (y1.2.1 + (1 : Int)), ()))) <| .ok)
 (.leaf (mkR fCopyServers.rs (y1.1, ())) [] [])) (by kernel_rfl) ?_
  refine lpx_i ?_ fun (y1 : List SServer × Int × PUnit) i1 => br_i (fun h2 => ob_i ?_ fun o3 => ob_i trivial fun _ => ob_i ?_ fun o4 => ob_i ?_ fun o5 => ob_i rfl fun _ => ob_i rfl fun _ => ob_i rfl fun _ => ob_i ?_ fun o6 => trivial) (fun h2 => Fct.leafY ?_)
  all_goals have hl := szL_len szServer l
  all_goals have hg : ∀ i, i < l.length → (l.getD i default).files.length ≤ 68719476736 := fun i h => by have := szServer_get h; have hp2 : szL szServer l ≤ 68719476736 := hp; omega
  all_goals try simp only [std1, ne_eq] at *
  all_goals try simp only [W_impl_copyServers_fCopyServers_3, fCopyServers, etaS, std1, std2, Nat.reduceAdd, ne_eq, take_succ, take_end] at *
  all_goals try simp (disch := omega) only [wrapId', toNat1] at *
  all_goals try simp (disch := omega) only [if_pos, if_neg]
  all_goals first | trivial | omega | grind [wrapId', toNat1, drop_cons, drop_end, good_len, maxLen, take_succ, take_end])
def E118 : D.Env := E117.add 166 fCopyServers
theorem E118ok : EOk Tryz.prog E118 := E117ok.add k166_117
def fCopyCache : Fct := ⟨[.v (.el .cache)], [.el .cache], fun (x_ : SCache × Unit) => szCache x_.1 ≤ 68719476736, fun (x_ : SCache × Unit) => (x_.1, ())⟩
theorem k157_118 : fCopyCache.ok Tryz.prog 157 := Fct.of (S := fCopyCache) (L := fun _ _ => none) (kp := [1,2]) E118ok Tryz.func157 (by kernel_rfl) (by kernel_rfl) (by
  rintro ⟨(c : SCache), _⟩ hp
  refine holds_of (X := .ob (True) <| .ob (Room (0 + c.entries.length) 120) <| .leaf (mkR fCopyCache.rs (⟨[] ++ c.entries⟩, ())) [] []) (by kernel_rfl) ?_
  refine ob_i trivial fun _ => ob_i ?_ fun o1 => Fct.leafY ?_
  all_goals have hl := szL_len szEntry c.entries
  all_goals try simp only [std1, ne_eq] at *
  all_goals try simp only [fCopyCache, etaS, std1, std2, Nat.reduceAdd, ne_eq, szCache] at *
  all_goals try simp (disch := omega) only [wrapId', toNat1] at *
  all_goals try simp (disch := omega) only [if_pos, if_neg]
  all_goals first | trivial | omega | grind [wrapId', toNat1, drop_cons, drop_end, good_len, maxLen, szCache])
def E119 : D.Env := E118.add 157 fCopyCache
theorem E119ok : EOk Tryz.prog E119 := E118ok.add k157_118
theorem k167_119 : fCopyCache.ok Tryz.prog 167 := Fct.of (S := fCopyCache) (L := fun _ _ => none) (kp := [1,2]) E119ok Tryz.func167 (by kernel_rfl) (by kernel_rfl) (by
  rintro ⟨(c : SCache), _⟩ hp
  refine holds_of (X := .ob (True) <| .ob (Room (0 + c.entries.length) 120) <| .leaf (mkR fCopyCache.rs (⟨[] ++ c.entries⟩, ())) [] []) (by kernel_rfl) ?_
  refine ob_i trivial fun _ => ob_i ?_ fun o1 => Fct.leafY ?_
  all_goals have hl := szL_len szEntry c.entries
  all_goals try simp only [std1, ne_eq] at *
  all_goals try simp only [fCopyCache, etaS, std1, std2, Nat.reduceAdd, ne_eq, szCache] at *
  all_goals try simp (disch := omega) only [wrapId', toNat1] at *
  all_goals try simp (disch := omega) only [if_pos, if_neg]
  all_goals first | trivial | omega | grind [wrapId', toNat1, drop_cons, drop_end, good_len, maxLen, szCache])
def E120 : D.Env := E119.add 167 fCopyCache
theorem E120ok : EOk Tryz.prog E120 := E119ok.add k167_119
def fCopyNet : Fct := ⟨[.v (.el .net)], [.el .net], fun (x_ : SNet × Unit) => szNet x_.1 ≤ 68719476736, fun (x_ : SNet × Unit) => (x_.1, ())⟩
theorem k129_120 : fCopyNet.ok Tryz.prog 129 := Fct.of (S := fCopyNet) (L := fun _ _ => none) (kp := [1,2]) E120ok Tryz.func129 (by kernel_rfl) (by kernel_rfl) (by
  rintro ⟨(n : SNet), _⟩ hp
  refine holds_of (X := .cl fCopyServers (n.servers, ()) fun z2 =>
 .cl fCopyCache (n.cache, ()) fun z3 =>
 .ob (True) <| .ob (Room n.log.length 56) <| .leaf (mkR fCopyNet.rs (⟨z2.1, z3.1, n.log, n.now⟩, ())) [] []) (by kernel_rfl) ?_
  refine cl_i ?_ fun o1 => (cl_i ?_ fun o2 => (ob_i trivial fun _ => ob_i ?_ fun o3 => Fct.leafY ?_))
  all_goals have hl := szL_len szSent n.log
  all_goals try simp only [std1, ne_eq] at *
  all_goals try simp only [fCopyCache, fCopyNet, fCopyServers, etaS, std1, std2, Nat.reduceAdd, ne_eq, szNet, fCopyServers, fCopyCache] at *
  all_goals try simp (disch := omega) only [wrapId', toNat1] at *
  all_goals try simp (disch := omega) only [if_pos, if_neg]
  all_goals first | trivial | omega | grind [wrapId', toNat1, drop_cons, drop_end, good_len, maxLen, szNet, fCopyServers, fCopyCache])
def E121 : D.Env := E120.add 129 fCopyNet
theorem E121ok : EOk Tryz.prog E121 := E120ok.add k129_120
theorem k145_121 : fCopyNet.ok Tryz.prog 145 := Fct.of (S := fCopyNet) (L := fun _ _ => none) (kp := [1,2]) E121ok Tryz.func145 (by kernel_rfl) (by kernel_rfl) (by
  rintro ⟨(n : SNet), _⟩ hp
  refine holds_of (X := .cl fCopyServers (n.servers, ()) fun z2 =>
 .cl fCopyCache (n.cache, ()) fun z3 =>
 .ob (True) <| .ob (Room n.log.length 56) <| .leaf (mkR fCopyNet.rs (⟨z2.1, z3.1, n.log, n.now⟩, ())) [] []) (by kernel_rfl) ?_
  refine cl_i ?_ fun o1 => (cl_i ?_ fun o2 => (ob_i trivial fun _ => ob_i ?_ fun o3 => Fct.leafY ?_))
  all_goals have hl := szL_len szSent n.log
  all_goals try simp only [std1, ne_eq] at *
  all_goals try simp only [fCopyCache, fCopyNet, fCopyServers, etaS, std1, std2, Nat.reduceAdd, ne_eq, szNet, fCopyServers, fCopyCache] at *
  all_goals try simp (disch := omega) only [wrapId', toNat1] at *
  all_goals try simp (disch := omega) only [if_pos, if_neg]
  all_goals first | trivial | omega | grind [wrapId', toNat1, drop_cons, drop_end, good_len, maxLen, szNet, fCopyServers, fCopyCache])
def E122 : D.Env := E121.add 145 fCopyNet
theorem E122ok : EOk Tryz.prog E122 := E121ok.add k145_121
def fServerAt : Fct := ⟨[.v (.sl .server), .v (.el .str)], [.el .int], fun (x_ : (List SServer) × ByteArray × Unit) => x_.1.length ≤ 1000000000000, fun (x_ : (List SServer) × ByteArray × Unit) => (fidx (fun s => decide (s.host = x_.2.1)) x_.1 0, ())⟩
abbrev W_spec_l12Server_fServerAt_2 (l : (List SServer)) (h : ByteArray) : LInv := ⟨[⟨.s, 5, true, .el .int⟩], fun _ (x_ : Int × Unit) => 0 ≤ x_.1 ∧ x_.1 ≤ l.length ∧ fidx (fun s => decide (s.host = h)) (l.drop x_.1.toNat) x_.1 = fidx (fun s => decide (s.host = h)) l 0, fun (x_ : Int × Unit) => l.length - x_.1.toNat⟩
theorem k158_122 : fServerAt.ok Tryz.prog 158 := Fct.of (S := fServerAt) (L := fun ⟨l, h, _⟩ => fun | 2 => some (W_spec_l12Server_fServerAt_2 l h) | _ => none) (kp := [0,1,4,5,9,18,1000009,1000018]) E122ok Tryz.func158 (by kernel_rfl) (by kernel_rfl) (by
  rintro ⟨(l : List SServer), (h : ByteArray), _⟩ hp
  refine holds_of (X := lpx (W_spec_l12Server_fServerAt_2 l h) ((0 : Int), ()) fun (y1 : Int × PUnit) bk1 =>
 .br (decide (y1.1 < (↑l.length : Int)))
 (.ob ((0 : Int) ≤ y1.1 ∧ y1.1 < (↑l.length : Int)) <| .br ((l.getD y1.1.toNat default).host.toList == h.toList)
 (.leaf (mkR fServerAt.rs (y1.1, ())) [] [])
 (.ob (l = l) <| .ob (Value.string h = Value.string h) <| .ob (bk1 (IntKind.i64.wrap (y1.1 + (1 : Int)), ())) <| .ok))
 (.leaf (mkR fServerAt.rs ((-1 : Int), ())) [] [])) (by kernel_rfl) ?_
  refine lpx_i ?_ fun (y1 : Int × PUnit) i1 => br_i (fun h2 => ob_i ?_ fun o3 => br_i (fun h4 => Fct.leafY ?_) (fun h4 => ob_i rfl fun _ => ob_i rfl fun _ => ob_i ?_ fun o5 => trivial)) (fun h2 => Fct.leafY ?_)
  all_goals try simp only [std1, ne_eq] at *
  all_goals try simp only [W_spec_l12Server_fServerAt_2, fServerAt, etaS, std1, std2, Nat.reduceAdd, ne_eq, fidx] at *
  all_goals try simp (disch := omega) only [wrapId', toNat1] at *
  all_goals try simp (disch := omega) only [if_pos, if_neg]
  all_goals first | trivial | omega | grind [wrapId', toNat1, drop_cons, drop_end, good_len, maxLen, fidx])
def E123 : D.Env := E122.add 158 fServerAt
theorem E123ok : EOk Tryz.prog E123 := E122ok.add k158_122
def fServerAt1 : Fct := ⟨[.v (.el .server), .p (.el .str)], [.el .bool], fun (x_ : SServer × ByteArray × Unit) => True, fun (x_ : SServer × ByteArray × Unit) => (decide (x_.1.host = x_.2.1), ())⟩
theorem k186_123 : fServerAt1.ok Tryz.prog 186 := Fct.of (S := fServerAt1) (L := fun _ _ => none) (kp := [1,2,3]) E123ok Tryz.func186 (by kernel_rfl) (by kernel_rfl) (by
  rintro ⟨(s : SServer), (h : ByteArray), _⟩ hp
  refine holds_of (X := .leaf (mkR fServerAt1.rs (s.host.toList == ByteArray.toList h, ())) [] []) (by kernel_rfl) ?_
  refine Fct.leafY ?_
  all_goals try simp only [std1, ne_eq] at *
  all_goals try simp only [fServerAt1, etaS, std1, std2, Nat.reduceAdd, ne_eq] at *
  all_goals try simp (disch := omega) only [wrapId', toNat1] at *
  all_goals try simp (disch := omega) only [if_pos, if_neg]
  all_goals first | trivial | omega | grind [wrapId', toNat1, drop_cons, drop_end, good_len, maxLen])
def E124 : D.Env := E123.add 186 fServerAt1
theorem E124ok : EOk Tryz.prog E124 := E123ok.add k186_123
def fIndexFunc_server_impl_serverAt_1 : Fct := ⟨[aL .server, .c 186 [.el .str]], [rI], fun x => x.1.length ≤ 1000000000000000000 ∧ ∀ c, fServerAt1.pre (c, x.2.1), fun x => (fidx (fun c => (fServerAt1.fn (c, x.2.1)).1) x.1 0, ())⟩
abbrev W_slices_IndexFunc_impl_Server_impl_Server_fIndexFunc_server_impl_serverAt_1_2 (l : (List SServer)) (u : (ByteArray × Unit)) : LInv := ⟨[⟨.s, 8, true, .el .int⟩], fun _ (x_ : Int × Unit) => 0 ≤ x_.1 ∧ x_.1 ≤ l.length ∧ fidx (fun c => (fServerAt1.fn (c, u)).1) l 0 = fidx (fun c => (fServerAt1.fn (c, u)).1) (l.drop x_.1.toNat) x_.1, fun (x_ : Int × Unit) => l.length - x_.1.toNat⟩
theorem k185_124 : fIndexFunc_server_impl_serverAt_1.ok Tryz.prog 185 := Fct.of (S := fIndexFunc_server_impl_serverAt_1) (L := fun ⟨l, u, _⟩ => fun | 2 => some (W_slices_IndexFunc_impl_Server_impl_Server_fIndexFunc_server_impl_serverAt_1_2 l u) | _ => none) (kp := [0,1,4,5,7,8,9,16,1000009,1000016]) E124ok Tryz.func185 (by kernel_rfl) (by kernel_rfl) (by
  rintro ⟨(l : List SServer), (u : ByteArray × PUnit), _⟩ hp
  refine holds_of (X := lpx (W_slices_IndexFunc_impl_Server_impl_Server_fIndexFunc_server_impl_serverAt_1_2 l u) ((0 : Int), ()) fun (y1 : Int × PUnit) bk1 =>
 .br (decide (y1.1 < (↑l.length : Int)))
 (.ob ((0 : Int) ≤ y1.1 ∧ y1.1 < (↑l.length : Int)) <| .cl fServerAt1 (l.getD y1.1.toNat default, u.1, ()) fun z2 =>
 .br (z2.1)
 (.leaf (mkR fIndexFunc_server_impl_serverAt_1.rs (y1.1, ())) [] [])
 (.ob (l = l) <| .ob (enc Ty.str u.1 = enc Ty.str u.1) <| .ob (Value.int IntKind.i64 (↑l.length : Int) = Value.int IntKind.i64 (↑l.length : Int)) <| .ob (bk1 (IntKind.i64.wrap (y1.1 + (1 : Int)), ())) <| .ok))
 (.leaf (mkR fIndexFunc_server_impl_serverAt_1.rs ((-1 : Int), ())) [] [])) (by kernel_rfl) ?_
  refine lpx_i ?_ fun (y1 : Int × PUnit) i1 => br_i (fun h2 => ob_i ?_ fun o3 => cl_i trivial fun _ => (br_i (fun h4 => Fct.leafY ?_) (fun h4 => ob_i rfl fun _ => ob_i rfl fun _ => ob_i rfl fun _ => ob_i ?_ fun o5 => trivial))) (fun h2 => Fct.leafY ?_)
  all_goals try simp only [std1, ne_eq] at *
  all_goals try simp only [W_slices_IndexFunc_impl_Server_impl_Server_fIndexFunc_server_impl_serverAt_1_2, fIndexFunc_server_impl_serverAt_1, fServerAt1, etaS, std1, std2, Nat.reduceAdd, ne_eq] at *
  all_goals try have hp2 := hp.2
  all_goals try have hp1 := hp.1
  all_goals first | trivial | omega | grind [wrapId', toNat1, drop_cons, drop_end, good_len, maxLen, fidx])
def E125 : D.Env := E124.add 185 fIndexFunc_server_impl_serverAt_1
theorem E125ok : EOk Tryz.prog E125 := E124ok.add k185_124
theorem k170_125 : fServerAt.ok Tryz.prog 170 := Fct.of (S := fServerAt) (L := fun _ _ => none) (kp := [0,3,4]) E125ok Tryz.func170 (by kernel_rfl) (by kernel_rfl) (by
  rintro ⟨(l : List SServer), (h : ByteArray), _⟩ hp
  refine holds_of (X := .cl fIndexFunc_server_impl_serverAt_1 (l, (h, ()), ()) fun z2 =>
 .leaf (mkR fServerAt.rs (z2.1, ())) [] []) (by kernel_rfl) ?_
  refine cl_i ?_ fun o1 => (Fct.leafY ?_)
  all_goals try simp only [std1, ne_eq] at *
  all_goals try simp only [fIndexFunc_server_impl_serverAt_1, fServerAt, etaS, std1, std2, Nat.reduceAdd, ne_eq, fServerAt1] at *
  all_goals try simp (disch := omega) only [wrapId', toNat1] at *
  all_goals try simp (disch := omega) only [if_pos, if_neg]
  all_goals first | trivial | omega | grind [wrapId', toNat1, drop_cons, drop_end, good_len, maxLen, fServerAt1])
def E126 : D.Env := E125.add 170 fServerAt
theorem E126ok : EOk Tryz.prog E126 := E125ok.add k170_125
def fFileAt : Fct := ⟨[.v (.el .server), .v (.el .str)], [.el .int], fun (x_ : SServer × ByteArray × Unit) => x_.1.files.length ≤ 1000000000000, fun (x_ : SServer × ByteArray × Unit) => (fidx (fun f => decide (f.path = x_.2.1)) x_.1.files 0, ())⟩
abbrev W_spec_l12File_fFileAt_2 (s : SServer) (p : ByteArray) : LInv := ⟨[⟨.s, 5, true, .el .int⟩, ⟨.b, 2, false, .el .server⟩], fun (z_ : Int × SServer × Unit) (x_ : Int × SServer × Unit) => (0 ≤ x_.1 ∧ x_.1 ≤ s.files.length ∧ fidx (fun f => decide (f.path = p)) (s.files.drop x_.1.toNat) x_.1 = fidx (fun f => decide (f.path = p)) s.files 0) ∧ x_.2.1 = z_.2.1, fun (x_ : Int × SServer × Unit) => s.files.length - x_.1.toNat⟩
theorem k159_126 : fFileAt.ok Tryz.prog 159 := Fct.of (S := fFileAt) (L := fun ⟨s, p, _⟩ => fun | 2 => some (W_spec_l12File_fFileAt_2 s p) | _ => none) (kp := [1,2,4,5,10,20,1000010,1000020]) E126ok Tryz.func159 (by kernel_rfl) (by kernel_rfl) (by
  rintro ⟨(s : SServer), (p : ByteArray), _⟩ hp
  refine holds_of (X := lpx (W_spec_l12File_fFileAt_2 s p) ((0 : Int), (s, ())) fun (y1 : Int × SServer × PUnit) bk1 =>
 .br (decide (y1.1 < (↑y1.2.1.files.length : Int)))
 (.ob ((0 : Int) ≤ y1.1 ∧ y1.1 < (↑y1.2.1.files.length : Int)) <| .br ((y1.2.1.files.getD y1.1.toNat default).path.toList == p.toList)
 (.leaf (mkR fFileAt.rs (y1.1, ())) [] [])
 (.ob (Value.string p = Value.string p) <| .ob (bk1 (IntKind.i64.wrap (y1.1 + (1 : Int)), (y1.2.1, ()))) <| .ok))
 (.leaf (mkR fFileAt.rs ((-1 : Int), ())) [] [])) (by kernel_rfl) ?_
  refine lpx_i ?_ fun (y1 : Int × SServer × PUnit) i1 => br_i (fun h2 => ob_i ?_ fun o3 => br_i (fun h4 => Fct.leafY ?_) (fun h4 => ob_i rfl fun _ => ob_i ?_ fun o5 => trivial)) (fun h2 => Fct.leafY ?_)
  all_goals try simp only [std1, ne_eq] at *
  all_goals try simp only [W_spec_l12File_fFileAt_2, fFileAt, etaS, std1, std2, Nat.reduceAdd, ne_eq, fidx] at *
  all_goals try simp (disch := omega) only [wrapId', toNat1] at *
  all_goals try simp (disch := omega) only [if_pos, if_neg]
  all_goals first | trivial | omega | grind [wrapId', toNat1, drop_cons, drop_end, good_len, maxLen, fidx])
def E127 : D.Env := E126.add 159 fFileAt
theorem E127ok : EOk Tryz.prog E127 := E126ok.add k159_126
def fFileAt1 : Fct := ⟨[.v (.el .file), .p (.el .str)], [.el .bool], fun (x_ : SFile × ByteArray × Unit) => True, fun (x_ : SFile × ByteArray × Unit) => (decide (x_.1.path = x_.2.1), ())⟩
theorem k188_127 : fFileAt1.ok Tryz.prog 188 := Fct.of (S := fFileAt1) (L := fun _ _ => none) (kp := [1,2,3]) E127ok Tryz.func188 (by kernel_rfl) (by kernel_rfl) (by
  rintro ⟨(f : SFile), (p : ByteArray), _⟩ hp
  refine holds_of (X := .leaf (mkR fFileAt1.rs (f.path.toList == ByteArray.toList p, ())) [] []) (by kernel_rfl) ?_
  refine Fct.leafY ?_
  all_goals try simp only [std1, ne_eq] at *
  all_goals try simp only [fFileAt1, etaS, std1, std2, Nat.reduceAdd, ne_eq] at *
  all_goals try simp (disch := omega) only [wrapId', toNat1] at *
  all_goals try simp (disch := omega) only [if_pos, if_neg]
  all_goals first | trivial | omega | grind [wrapId', toNat1, drop_cons, drop_end, good_len, maxLen])
def E128 : D.Env := E127.add 188 fFileAt1
theorem E128ok : EOk Tryz.prog E128 := E127ok.add k188_127
def fIndexFunc_file_impl_fileAt_1 : Fct := ⟨[aL .file, .c 188 [.el .str]], [rI], fun x => x.1.length ≤ 1000000000000000000 ∧ ∀ c, fFileAt1.pre (c, x.2.1), fun x => (fidx (fun c => (fFileAt1.fn (c, x.2.1)).1) x.1 0, ())⟩
abbrev W_slices_IndexFunc_impl_File_impl_File_fIndexFunc_file_impl_fileAt_1_2 (l : (List SFile)) (u : (ByteArray × Unit)) : LInv := ⟨[⟨.s, 8, true, .el .int⟩], fun _ (x_ : Int × Unit) => 0 ≤ x_.1 ∧ x_.1 ≤ l.length ∧ fidx (fun c => (fFileAt1.fn (c, u)).1) l 0 = fidx (fun c => (fFileAt1.fn (c, u)).1) (l.drop x_.1.toNat) x_.1, fun (x_ : Int × Unit) => l.length - x_.1.toNat⟩
theorem k187_128 : fIndexFunc_file_impl_fileAt_1.ok Tryz.prog 187 := Fct.of (S := fIndexFunc_file_impl_fileAt_1) (L := fun ⟨l, u, _⟩ => fun | 2 => some (W_slices_IndexFunc_impl_File_impl_File_fIndexFunc_file_impl_fileAt_1_2 l u) | _ => none) (kp := [0,1,4,5,7,8,9,16,1000009,1000016]) E128ok Tryz.func187 (by kernel_rfl) (by kernel_rfl) (by
  rintro ⟨(l : List SFile), (u : ByteArray × PUnit), _⟩ hp
  refine holds_of (X := lpx (W_slices_IndexFunc_impl_File_impl_File_fIndexFunc_file_impl_fileAt_1_2 l u) ((0 : Int), ()) fun (y1 : Int × PUnit) bk1 =>
 .br (decide (y1.1 < (↑l.length : Int)))
 (.ob ((0 : Int) ≤ y1.1 ∧ y1.1 < (↑l.length : Int)) <| .cl fFileAt1 (l.getD y1.1.toNat default, u.1, ()) fun z2 =>
 .br (z2.1)
 (.leaf (mkR fIndexFunc_file_impl_fileAt_1.rs (y1.1, ())) [] [])
 (.ob (l = l) <| .ob (enc Ty.str u.1 = enc Ty.str u.1) <| .ob (Value.int IntKind.i64 (↑l.length : Int) = Value.int IntKind.i64 (↑l.length : Int)) <| .ob (bk1 (IntKind.i64.wrap (y1.1 + (1 : Int)), ())) <| .ok))
 (.leaf (mkR fIndexFunc_file_impl_fileAt_1.rs ((-1 : Int), ())) [] [])) (by kernel_rfl) ?_
  refine lpx_i ?_ fun (y1 : Int × PUnit) i1 => br_i (fun h2 => ob_i ?_ fun o3 => cl_i trivial fun _ => (br_i (fun h4 => Fct.leafY ?_) (fun h4 => ob_i rfl fun _ => ob_i rfl fun _ => ob_i rfl fun _ => ob_i ?_ fun o5 => trivial))) (fun h2 => Fct.leafY ?_)
  all_goals try simp only [std1, ne_eq] at *
  all_goals try simp only [W_slices_IndexFunc_impl_File_impl_File_fIndexFunc_file_impl_fileAt_1_2, fFileAt1, fIndexFunc_file_impl_fileAt_1, etaS, std1, std2, Nat.reduceAdd, ne_eq] at *
  all_goals try have hp2 := hp.2
  all_goals try have hp1 := hp.1
  all_goals first | trivial | omega | grind [wrapId', toNat1, drop_cons, drop_end, good_len, maxLen, fidx])
def E129 : D.Env := E128.add 187 fIndexFunc_file_impl_fileAt_1
theorem E129ok : EOk Tryz.prog E129 := E128ok.add k187_128
theorem k171_129 : fFileAt.ok Tryz.prog 171 := Fct.of (S := fFileAt) (L := fun _ _ => none) (kp := [2,3,4]) E129ok Tryz.func171 (by kernel_rfl) (by kernel_rfl) (by
  rintro ⟨(s : SServer), (p : ByteArray), _⟩ hp
  refine holds_of (X := .cl fIndexFunc_file_impl_fileAt_1 (s.files, (p, ()), ()) fun z2 =>
 .leaf (mkR fFileAt.rs (z2.1, ())) [] []) (by kernel_rfl) ?_
  refine cl_i ?_ fun o1 => (Fct.leafY ?_)
  all_goals try simp only [std1, ne_eq] at *
  all_goals try simp only [fFileAt, fIndexFunc_file_impl_fileAt_1, etaS, std1, std2, Nat.reduceAdd, ne_eq, fFileAt1] at *
  all_goals try simp (disch := omega) only [wrapId', toNat1] at *
  all_goals try simp (disch := omega) only [if_pos, if_neg]
  all_goals first | trivial | omega | grind [wrapId', toNat1, drop_cons, drop_end, good_len, maxLen, fFileAt1])
def E130 : D.Env := E129.add 171 fFileAt
theorem E130ok : EOk Tryz.prog E130 := E129ok.add k171_129
def answerTo (l : List SServer) (a : SAddr) : SResponse := if fidx (fun s => decide (s.host = a.host)) l 0 < 0 then notFound else if fidx (fun f => decide (f.path = a.path)) (l.getD (fidx (fun s => decide (s.host = a.host)) l 0).toNat default).files 0 < 0 then notFound else ((l.getD (fidx (fun s => decide (s.host = a.host)) l 0).toNat default).files.getD (fidx (fun f => decide (f.path = a.path)) (l.getD (fidx (fun s => decide (s.host = a.host)) l 0).toNat default).files 0).toNat default).response
def fAnswerTo : Fct := ⟨[.v (.sl .server), .v (.el .addr)], [.el .response], fun (x_ : (List SServer) × SAddr × Unit) => szL szServer x_.1 ≤ 68719476736, fun (x_ : (List SServer) × SAddr × Unit) => (answerTo x_.1 x_.2.1, ())⟩
theorem k132_130 : fAnswerTo.ok Tryz.prog 132 := Fct.of (S := fAnswerTo) (L := fun _ _ => none) (kp := [0,3,4,5,6,12,22,1000012,1000022]) E130ok Tryz.func132 (by kernel_rfl) (by kernel_rfl) (by
  rintro ⟨(l : List SServer), (a : SAddr), _⟩ hp
  refine holds_of (X := .cl fServerAt (l, a.host, ()) fun z2 =>
 .br (decide (z2.1 < (0 : Int)))
 (.cl fNotFound () fun z3 =>
 .leaf (mkR fAnswerTo.rs (z3.1, ())) [] [])
 (.ob ((0 : Int) ≤ z2.1 ∧ z2.1 < (↑(List.length l) : Int)) <| .cl fFileAt (List.getD l z2.1.toNat default, a.path, ()) fun z4 =>
 .br (decide (z4.1 < (0 : Int)))
 (.cl fNotFound () fun z5 =>
 .leaf (mkR fAnswerTo.rs (z5.1, ())) [] [])
 (.ob ((0 : Int) ≤ z2.1 ∧ z2.1 < (↑(List.length l) : Int)) <| .ob ((0 : Int) ≤ z4.1 ∧ z4.1 < (↑(List.getD l z2.1.toNat default).files.length : Int)) <| .leaf (mkR fAnswerTo.rs (((List.getD l z2.1.toNat default).files.getD z4.1.toNat default).response, ())) [] []))) (by kernel_rfl) ?_
  refine cl_i ?_ fun o1 => (br_i (fun h2 => cl_i trivial fun _ => (Fct.leafY ?_)) (fun h2 => ob_i ?_ fun o3 => cl_i ?_ fun o4 => (br_i (fun h5 => cl_i trivial fun _ => (Fct.leafY ?_)) (fun h5 => ob_i ?_ fun o6 => ob_i ?_ fun o7 => Fct.leafY ?_))))
  all_goals have hl := szL_len szServer l
  all_goals have hg : ∀ i, i < l.length → (l.getD i default).files.length ≤ 68719476736 := fun i h => by have := szServer_get h; have hp2 : szL szServer l ≤ 68719476736 := hp; omega
  all_goals have hf := fidx_lt (fun s : SServer => decide (s.host = a.host)) l 0 (by omega)
  all_goals have hf2 := fun fs => fidx_lt (fun f : SFile => decide (f.path = a.path)) fs 0 (by omega)
  all_goals try simp only [std1, ne_eq] at *
  all_goals try simp only [fAnswerTo, fFileAt, fNotFound, fServerAt, etaS, std1, std2, Nat.reduceAdd, ne_eq, answerTo, fServerAt, fFileAt, fNotFound] at *
  all_goals try simp (disch := omega) only [wrapId', toNat1] at *
  all_goals try simp (disch := omega) only [if_pos, if_neg]
  all_goals first | trivial | omega | grind [wrapId', toNat1, drop_cons, drop_end, good_len, maxLen, answerTo, fServerAt, fFileAt, fNotFound])
def E131 : D.Env := E130.add 132 fAnswerTo
theorem E131ok : EOk Tryz.prog E131 := E130ok.add k132_130
theorem k148_131 : fAnswerTo.ok Tryz.prog 148 := Fct.of (S := fAnswerTo) (L := fun _ _ => none) (kp := [0,3,4,5,6,12,22,1000012,1000022]) E131ok Tryz.func148 (by kernel_rfl) (by kernel_rfl) (by
  rintro ⟨(l : List SServer), (a : SAddr), _⟩ hp
  refine holds_of (X := .cl fServerAt (l, a.host, ()) fun z2 =>
 .br (decide (z2.1 < (0 : Int)))
 (.cl fNotFound () fun z3 =>
 .leaf (mkR fAnswerTo.rs (z3.1, ())) [] [])
 (.ob ((0 : Int) ≤ z2.1 ∧ z2.1 < (↑(List.length l) : Int)) <| .cl fFileAt (List.getD l z2.1.toNat default, a.path, ()) fun z4 =>
 .br (decide (z4.1 < (0 : Int)))
 (.cl fNotFound () fun z5 =>
 .leaf (mkR fAnswerTo.rs (z5.1, ())) [] [])
 (.ob ((0 : Int) ≤ z2.1 ∧ z2.1 < (↑(List.length l) : Int)) <| .ob ((0 : Int) ≤ z4.1 ∧ z4.1 < (↑(List.getD l z2.1.toNat default).files.length : Int)) <| .leaf (mkR fAnswerTo.rs (((List.getD l z2.1.toNat default).files.getD z4.1.toNat default).response, ())) [] []))) (by kernel_rfl) ?_
  refine cl_i ?_ fun o1 => (br_i (fun h2 => cl_i trivial fun _ => (Fct.leafY ?_)) (fun h2 => ob_i ?_ fun o3 => cl_i ?_ fun o4 => (br_i (fun h5 => cl_i trivial fun _ => (Fct.leafY ?_)) (fun h5 => ob_i ?_ fun o6 => ob_i ?_ fun o7 => Fct.leafY ?_))))
  all_goals have hl := szL_len szServer l
  all_goals have hg : ∀ i, i < l.length → (l.getD i default).files.length ≤ 68719476736 := fun i h => by have := szServer_get h; have hp2 : szL szServer l ≤ 68719476736 := hp; omega
  all_goals have hf := fidx_lt (fun s : SServer => decide (s.host = a.host)) l 0 (by omega)
  all_goals have hf2 := fun fs => fidx_lt (fun f : SFile => decide (f.path = a.path)) fs 0 (by omega)
  all_goals try simp only [std1, ne_eq] at *
  all_goals try simp only [fAnswerTo, fFileAt, fNotFound, fServerAt, etaS, std1, std2, Nat.reduceAdd, ne_eq, answerTo, fServerAt, fFileAt, fNotFound] at *
  all_goals try simp (disch := omega) only [wrapId', toNat1] at *
  all_goals try simp (disch := omega) only [if_pos, if_neg]
  all_goals first | trivial | omega | grind [wrapId', toNat1, drop_cons, drop_end, good_len, maxLen, answerTo, fServerAt, fFileAt, fNotFound])
def E132 : D.Env := E131.add 148 fAnswerTo
theorem E132ok : EOk Tryz.prog E132 := E131ok.add k148_131
def fFindEntry : Fct := ⟨[.v (.el .cache), .v (.el .str), .v (.el .addr)], [.el .int], fun (x_ : SCache × ByteArray × SAddr × Unit) => x_.1.entries.length ≤ 1000000000000, fun (x_ : SCache × ByteArray × SAddr × Unit) => (fidx (fun e => decide (e.top = x_.2.1) && decide (e.to = x_.2.2.1)) x_.1.entries 0, ())⟩
abbrev W_spec_l13Find_fFindEntry_2 (c : SCache) (t : ByteArray) (a : SAddr) : LInv := ⟨[⟨.s, 7, true, .el .int⟩, ⟨.b, 3, false, .el .cache⟩, ⟨.b, 5, true, .el .addr⟩], fun (z_ : Int × SCache × SAddr × Unit) (x_ : Int × SCache × SAddr × Unit) => ((0 ≤ x_.1 ∧ x_.1 ≤ c.entries.length ∧ fidx (fun e => decide (e.top = t) && decide (e.to = a)) (c.entries.drop x_.1.toNat) x_.1 = fidx (fun e => decide (e.top = t) && decide (e.to = a)) c.entries 0) ∧ x_.2.1 = z_.2.1) ∧ x_.2.2.1 = z_.2.2.1, fun (x_ : Int × SCache × SAddr × Unit) => c.entries.length - x_.1.toNat⟩
theorem k181_132 : fFindEntry.ok Tryz.prog 181 := Fct.of (S := fFindEntry) (L := fun ⟨c, t, a, _⟩ => fun | 2 => some (W_spec_l13Find_fFindEntry_2 c t a) | _ => none) (kp := [1,3,5,6,7,12,32,1000012,1000032]) E132ok Tryz.func181 (by kernel_rfl) (by kernel_rfl) (by
  rintro ⟨(c : SCache), (t : ByteArray), (a : SAddr), _⟩ hp
  refine holds_of (X := lpx (W_spec_l13Find_fFindEntry_2 c t a) ((0 : Int), (c, (a, ()))) fun (y1 : Int × SCache × SAddr × PUnit) bk1 =>
 .br (decide (y1.1 < (↑y1.2.1.entries.length : Int)))
 (.ob ((0 : Int) ≤ y1.1 ∧ y1.1 < (↑y1.2.1.entries.length : Int)) <| .br ((y1.2.1.entries.getD y1.1.toNat default).top.toList == t.toList)
 (.ob ((0 : Int) ≤ y1.1 ∧ y1.1 < (↑y1.2.1.entries.length : Int)) <| .br ((y1.2.1.entries.getD y1.1.toNat default).to.host == y1.2.2.1.host &&
 ((y1.2.1.entries.getD y1.1.toNat default).to.path == y1.2.2.1.path && true))
 (.leaf (mkR fFindEntry.rs (y1.1, ())) [] [])
 (.ob (Value.string t = Value.string t) <| .ob (bk1 (IntKind.i64.wrap (y1.1 + (1 : Int)), (y1.2.1, (y1.2.2.1, ())))) <| .ok))
 (.ob (Value.string t = Value.string t) <| .ob (bk1 (IntKind.i64.wrap (y1.1 + (1 : Int)), (y1.2.1, (y1.2.2.1, ())))) <| .ok))
 (.leaf (mkR fFindEntry.rs ((-1 : Int), ())) [] [])) (by kernel_rfl) ?_
  refine lpx_i ?_ fun (y1 : Int × SCache × SAddr × PUnit) i1 => br_i (fun h2 => ob_i ?_ fun o3 => br_i (fun h4 => ob_i ?_ fun o5 => br_i (fun h6 => Fct.leafY ?_) (fun h6 => ob_i rfl fun _ => ob_i ?_ fun o7 => trivial)) (fun h4 => ob_i rfl fun _ => ob_i ?_ fun o8 => trivial)) (fun h2 => Fct.leafY ?_)
  all_goals try simp only [beqAddr] at *
  all_goals try simp only [std1, ne_eq] at *
  all_goals try simp only [W_spec_l13Find_fFindEntry_2, fFindEntry, etaS, std1, std2, Nat.reduceAdd, ne_eq, fidx] at *
  all_goals try simp (disch := omega) only [wrapId', toNat1] at *
  all_goals try simp (disch := omega) only [if_pos, if_neg]
  all_goals first | trivial | omega | grind [wrapId', toNat1, drop_cons, drop_end, good_len, maxLen, fidx])
def E133 : D.Env := E132.add 181 fFindEntry
theorem E133ok : EOk Tryz.prog E133 := E132ok.add k181_132
def fEntryAt1 : Fct := ⟨[.v (.el .entry), .p (.el .str), .p (.el .addr)], [.el .bool], fun (x_ : SEntry × ByteArray × SAddr × Unit) => True, fun (x_ : SEntry × ByteArray × SAddr × Unit) => (decide (x_.1.top = x_.2.1) && decide (x_.1.to = x_.2.2.1), ())⟩
theorem k198_133 : fEntryAt1.ok Tryz.prog 198 := Fct.of (S := fEntryAt1) (L := fun _ _ => none) (kp := [1,2,3,4]) E133ok Tryz.func198 (by kernel_rfl) (by kernel_rfl) (by
  rintro ⟨(e : SEntry), (t : ByteArray), (a : SAddr), _⟩ hp
  refine holds_of (X := .br (e.top.toList == ByteArray.toList t)
 (.leaf (mkR fEntryAt1.rs (e.to.host == a.host && (e.to.path == a.path && true), ())) [] [])
 (.leaf (mkR fEntryAt1.rs (false, ())) [] [])) (by kernel_rfl) ?_
  refine br_i (fun h1 => Fct.leafY ?_) (fun h1 => Fct.leafY ?_)
  all_goals try simp only [beqAddr] at *
  all_goals try simp only [std1, ne_eq] at *
  all_goals try simp only [fEntryAt1, etaS, std1, std2, Nat.reduceAdd, ne_eq] at *
  all_goals try simp (disch := omega) only [wrapId', toNat1] at *
  all_goals try simp (disch := omega) only [if_pos, if_neg]
  all_goals first | trivial | omega | grind [wrapId', toNat1, drop_cons, drop_end, good_len, maxLen])
def E134 : D.Env := E133.add 198 fEntryAt1
theorem E134ok : EOk Tryz.prog E134 := E133ok.add k198_133
def fIndexFunc_entry_impl_entryAt_1 : Fct := ⟨[aL .entry, .c 198 [.el .str, .el .addr]], [rI], fun x => x.1.length ≤ 1000000000000000000 ∧ ∀ c, fEntryAt1.pre (c, x.2.1), fun x => (fidx (fun c => (fEntryAt1.fn (c, x.2.1)).1) x.1 0, ())⟩
abbrev W_slices_IndexFunc_impl_Entry_impl_Entry_fIndexFunc_entry_impl_entryAt_1_2 (l : (List SEntry)) (u : (ByteArray × SAddr × Unit)) : LInv := ⟨[⟨.s, 8, true, .el .int⟩], fun _ (x_ : Int × Unit) => 0 ≤ x_.1 ∧ x_.1 ≤ l.length ∧ fidx (fun c => (fEntryAt1.fn (c, u)).1) l 0 = fidx (fun c => (fEntryAt1.fn (c, u)).1) (l.drop x_.1.toNat) x_.1, fun (x_ : Int × Unit) => l.length - x_.1.toNat⟩
theorem k168_134 : fIndexFunc_entry_impl_entryAt_1.ok Tryz.prog 168 := Fct.of (S := fIndexFunc_entry_impl_entryAt_1) (L := fun ⟨l, u, _⟩ => fun | 2 => some (W_slices_IndexFunc_impl_Entry_impl_Entry_fIndexFunc_entry_impl_entryAt_1_2 l u) | _ => none) (kp := [0,1,4,5,7,8,9,16,1000009,1000016]) E134ok Tryz.func168 (by kernel_rfl) (by kernel_rfl) (by
  rintro ⟨(l : List SEntry), (u : ByteArray × SAddr × PUnit), _⟩ hp
  refine holds_of (X := lpx (W_slices_IndexFunc_impl_Entry_impl_Entry_fIndexFunc_entry_impl_entryAt_1_2 l u) ((0 : Int), ()) fun (y1 : Int × PUnit) bk1 =>
 .br (decide (y1.1 < (↑l.length : Int)))
 (.ob ((0 : Int) ≤ y1.1 ∧ y1.1 < (↑l.length : Int)) <| .cl fEntryAt1 (l.getD y1.1.toNat default, u.1, u.2.1, ()) fun z2 =>
 .br (z2.1)
 (.leaf (mkR fIndexFunc_entry_impl_entryAt_1.rs (y1.1, ())) [] [])
 (.ob (l = l) <| .ob (enc Ty.str u.1 = enc Ty.str u.1) <| .ob (enc Ty.addr u.2.1 = enc Ty.addr u.2.1) <| .ob (Value.int IntKind.i64 (↑l.length : Int) = Value.int IntKind.i64 (↑l.length : Int)) <| .ob (bk1 (IntKind.i64.wrap (y1.1 + (1 : Int)), ())) <| .ok))
 (.leaf (mkR fIndexFunc_entry_impl_entryAt_1.rs ((-1 : Int), ())) [] [])) (by kernel_rfl) ?_
  refine lpx_i ?_ fun (y1 : Int × PUnit) i1 => br_i (fun h2 => ob_i ?_ fun o3 => cl_i trivial fun _ => (br_i (fun h4 => Fct.leafY ?_) (fun h4 => ob_i rfl fun _ => ob_i rfl fun _ => ob_i rfl fun _ => ob_i rfl fun _ => ob_i ?_ fun o5 => trivial))) (fun h2 => Fct.leafY ?_)
  all_goals try simp only [std1, ne_eq] at *
  all_goals try simp only [W_slices_IndexFunc_impl_Entry_impl_Entry_fIndexFunc_entry_impl_entryAt_1_2, fEntryAt1, fIndexFunc_entry_impl_entryAt_1, etaS, std1, std2, Nat.reduceAdd, ne_eq] at *
  all_goals try have hp2 := hp.2
  all_goals try have hp1 := hp.1
  all_goals first | trivial | omega | grind [wrapId', toNat1, drop_cons, drop_end, good_len, maxLen, fidx])
def E135 : D.Env := E134.add 168 fIndexFunc_entry_impl_entryAt_1
theorem E135ok : EOk Tryz.prog E135 := E134ok.add k168_134
end Go.Proofs.YtgmffjinggmpaaaGreatDoor.fnExactModuleRight
