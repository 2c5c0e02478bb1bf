/-
  The program's RanOnce returns what the reference's returns, for all arguments: the law returns true. No condition.
-/
import Derived.Test.YtdcpenhjenhjcaaVPt
import Derived.Test.YtdcpenhjenhjcaaVPb
import Derived.Test.YtdcpenhjenhjcaaVSb
import Derived.Test.YtdcpenhjenhjcaaRows
import Derived.WalkKit
import Derived.ProofKit
import Derived.OpenShut
namespace Go.Proofs.Ytdcpenhjenhjcaa.fnExactRanOnce
open Go.Proofs.Ytdcpenhjenhjcaa
open Go.D
set_option maxRecDepth 100000
set_option linter.unusedVariables false
set_option linter.unusedSimpArgs false
def tyOf : TypeId → Option Ty
  | 3 => some .int
  | 4 => some .bool
  | 5 => some .u8
  | 9 => some .str
  | 23 => some .addr
  | 26 => some .policy
  | 28 => some .tokenizer
  | 33 => some .builder
  | 38 => some .page
  | 43 => some .addr
  | 44 => some .policy
  | 45 => some .tokenizer
  | 49 => some .builder
  | 54 => some .page
  | 64 => some .cache
  | 67 => some .net
  | 73 => some .cache
  | 76 => some .net
  | 87 => some .tab
  | 92 => some .tab
  | 112 => some .request
  | 115 => some .request
  | 147 => some .sent
  | 155 => some .visit
  | 171 => some .token
  | 176 => some .slot
  | 179 => some .module
  | 184 => some .token
  | 189 => some .slot
  | 192 => some .module
  | 202 => some .server
  | 206 => some .sent
  | 210 => some .server
  | 224 => some .visit
  | 232 => some .node
  | 236 => some .node
  | 243 => some .response
  | 245 => some .entry
  | 247 => some .response
  | 249 => some .entry
  | 259 => some .file
  | 262 => some .attr
  | 268 => some .attr
  | 273 => some .file
  | _ => none
def E0 : D.Env := D.Env.empty tyOf
theorem E0ok : EOk Try.prog E0 := EOk.empty _ _

-- laws.szStringS
set_option maxHeartbeats 2000000 in
theorem k51_0 : fszStringS.ok Try.prog 51 := Fct.of (S := fszStringS) (L := fun ⟨l, n, _⟩ => fun | 5 => some (LszS .str szString l n) | _ => none) (kp := [0,1,4,5,11,15,26,1000011,1000015,1000026]) E0ok Try.func51 (by kernel_rfl) (by kernel_rfl) (by
  rintro ⟨(l : List ByteArray), (n : Int), _⟩ hp
  refine holds_of (X := .br (decide (IntKind.i64.wrap (n - (↑l.length : Int)) < (0 : Int)))
 (.leaf (mkR fszStringS.rs ((-1 : Int), ())) [] [])
 (lpx (LszS .str szString l n) (IntKind.i64.wrap (n - (↑l.length : Int)), ((0 : Int), ())) fun (y2 : Int × Int × PUnit) bk2 =>
  .br (decide (y2.snd.fst < (↑l.length : Int)))
   (.ob ((0 : Int) ≤ y2.snd.fst ∧ y2.snd.fst < (↑l.length : Int)) <|
    .br (decide (IntKind.i64.wrap (y2.fst - (↑(l.getD y2.snd.fst.toNat default).size : Int)) < (0 : Int)))
    (.leaf (mkR fszStringS.rs ((-1 : Int), ())) [] [])
    (.ob (l = l) <|
     .ob (bk2 (IntKind.i64.wrap (y2.fst - (↑(l.getD y2.snd.fst.toNat default).size : Int)), (IntKind.i64.wrap (y2.snd.fst + (1 : Int)), ()))) <|
     .ok))
   (.leaf (mkR fszStringS.rs (y2.fst, ())) [] []))) (by kernel_rfl) ?_
  refine br_i (fun h1 => Fct.leafY ?_) (fun h1 => lpx_i ?_ fun (y2 : Int × Int × PUnit) i2 => br_i (fun h3 => ob_i ?_ fun o4 => br_i (fun h5 => Fct.leafY ?_) (fun h5 => ob_i rfl fun _ => ob_i ?_ fun o6 => trivial)) (fun h3 => Fct.leafY ?_))
  all_goals try simp only [decide_eq_true_eq, decide_eq_false_iff_not, Bool.not_eq_true', Bool.not_eq_false', bne_iff_ne, bne_eq_false_iff_eq, beq_iff_eq, beq_eq_false_iff_ne, baEq, Int.not_lt, Int.not_le, ne_eq, Decidable.not_not] at *
  all_goals try simp only [LszS, fszStringS, etaToken, etaNode, etaBuilder, etaPolicy, etaPage, etaVisit, etaTab, etaServer, etaCache, etaNet, etaLoader, etaSheet, etaResult, etaSlot, etaModule, etaAddr, etaRequest, etaResponse, etaConn, etaGuess, etaEntry, etaSent, etaFile, baSz, List.size_toArray, List.length_cons, List.length_nil, Nat.reduceAdd, Int.toNat_zero, List.drop_zero, decide_eq_true_eq, decide_eq_false_iff_not, Bool.not_eq_true', Bool.not_eq_false', bne_iff_ne, bne_eq_false_iff_eq, beq_iff_eq, beq_eq_false_iff_ne, Bool.not_eq_true, Bool.not_eq_false, ne_eq, Decidable.not_not, baEq, decide_not, Prod.mk.injEq, and_true, true_and, Room, List.nil_append, Nat.zero_add, Int.not_lt, Int.not_le] at *
  all_goals have hgl := good_len hp.1
  all_goals simp only [maxLen] at hgl
  · rw [wrapId (by omega)] at h1
    rw [lessenNeg (by simp only [szL]; omega)]
  · rw [wrapId (by omega)] at h1 ⊢
    exact ⟨by omega, by omega, h1, by simp⟩
  all_goals have hg : y2.2.1.toNat < l.length → (l.getD y2.2.1.toNat default).size ≤ 9223372036854775807 := fun h => (good_getD hp.1 h) _ (List.Mem.head _)
  all_goals have hs := sum_take_le szString l (y2.2.1.toNat + 1)
  all_goals have hs2 : y2.2.1.toNat < l.length → ((l.take (y2.2.1.toNat + 1)).map szString).sum = ((l.take y2.2.1.toNat).map szString).sum + (l.getD y2.2.1.toNat default).size := fun h => sum_take szString h
  · omega
  · have hlt : y2.2.1.toNat < l.length := by omega
    have a1 := hg hlt; have a2 := hs2 hlt
    rw [wrapId (by omega)] at h5
    rw [lessenNeg (by simp only [szL]; omega)]
  · have hlt : y2.2.1.toNat < l.length := by omega
    have a1 := hg hlt; have a2 := hs2 hlt
    rw [wrapId (n := y2.1 - _) (by omega)] at h5 ⊢
    rw [wrapId (by omega), toNat1 (by omega), a2]
    exact ⟨⟨by omega, by omega, by omega, by omega⟩, by omega⟩
  · have e : l.take y2.2.1.toNat = l := List.take_of_length_le (by omega)
    rw [e] at i2
    have hz : ((szL szString l : Nat) : Int) = l.length + (l.map szString).sum := by simp only [szL]; omega
    rw [lessen_ge (by omega)]
    show y2.1 = n - ((szL szString l : Nat) : Int)
    omega)
def E1 : D.Env := E0.add 51 fszStringS
theorem E1ok : EOk Try.prog E1 := E0ok.add k51_0
-- laws.toStringS
theorem k62_1 : ftoStringS.ok Try.prog 62 := Fct.of (S := ftoStringS) (L := fun ⟨l, _⟩ => fun | 3 => some (LtoS .str l) | _ => none) (kp := [0,2,3,4,11,1000011]) E1ok Try.func62 (by kernel_rfl) (by kernel_rfl) (by
  rintro ⟨(l : List ByteArray), _⟩ hp
  refine holds_of (X := .ob ((↑l.length : Int) = (↑l.length : Int) ∧
  (0 : Int) ≤ (↑l.length : Int) ∧
    (16 : Int) * (↑l.length : Int) ≤ (140737488355328 : Int) ∧ (↑l.length : Int) ≤ (140737488355328 : Int)) <|
 lpx (LtoS .str l) ((0 : Int), (List.replicate (↑l.length : Int).toNat { data := #[] : ByteArray }, ())) fun (y2 : Int × List ByteArray × PUnit) bk2 =>
 .br (decide (y2.fst < (↑l.length : Int)))
  (.ob ((0 : Int) ≤ y2.fst ∧ y2.fst < (↑l.length : Int)) <|
   .ob ((0 : Int) ≤ y2.fst ∧ y2.fst < (↑y2.snd.fst.length : Int)) <|
   .ob (y2.fst.toNat < y2.snd.fst.length) <|
   .lt (List ByteArray) (y2.snd.fst.modify y2.fst.toNat fun z => l.getD y2.fst.toNat default) fun z2 =>
   .ob (l = l) <|
    .ob (bk2 (IntKind.i64.wrap (y2.fst + (1 : Int)), (z2, ()))) <|
    .ok)
  (.leaf (mkR ftoStringS.rs (y2.snd.fst, ())) [] [])) (by kernel_rfl) ?_
  refine ob_i ?_ fun o1 => lpx_i ?_ fun (y2 : Int × List ByteArray × PUnit) i2 => br_i (fun h3 => ob_i ?_ fun o4 => ob_i ?_ fun o5 => ob_i ?_ fun o6 => lt_i (ob_i rfl fun _ => ob_i ?_ fun o7 => trivial)) (fun h3 => Fct.leafY ?_)
  all_goals try simp only [decide_eq_true_eq, decide_eq_false_iff_not, Bool.not_eq_true', Bool.not_eq_false', bne_iff_ne, bne_eq_false_iff_eq, beq_iff_eq, beq_eq_false_iff_ne, baEq, Int.not_lt, Int.not_le, ne_eq, Decidable.not_not] at *
  all_goals try simp only [LtoS, ftoStringS, etaToken, etaNode, etaBuilder, etaPolicy, etaPage, etaVisit, etaTab, etaServer, etaCache, etaNet, etaLoader, etaSheet, etaResult, etaSlot, etaModule, etaAddr, etaRequest, etaResponse, etaConn, etaGuess, etaEntry, etaSent, etaFile, baSz, List.size_toArray, List.length_cons, List.length_nil, Nat.reduceAdd, Int.toNat_zero, List.drop_zero, decide_eq_true_eq, decide_eq_false_iff_not, Bool.not_eq_true', Bool.not_eq_false', bne_iff_ne, bne_eq_false_iff_eq, beq_iff_eq, beq_eq_false_iff_ne, Bool.not_eq_true, Bool.not_eq_false, ne_eq, Decidable.not_not, baEq, decide_not, Prod.mk.injEq, and_true, true_and, Room, List.nil_append, Nat.zero_add, Int.not_lt, Int.not_le] at *
  all_goals try have hsz : l.length ≤ 1048576 := by first | exact hp | (have := szL_len szString l; exact Nat.le_trans this hp)
  all_goals clear hp
  all_goals try rw [i2.2.2]
  all_goals first | omega | (refine ⟨by omega, by omega, ?_⟩; simp; done) | (refine ⟨by omega, by omega, ?_⟩; simp; exact .inr rfl) | (simp; omega) | skip
  · rw [wrapId (by omega), toNat1 (by omega)]
    refine ⟨⟨by omega, by omega, ?_⟩, by omega⟩
    rw [show l.length - y2.1.toNat = (l.length - (y2.1.toNat + 1)) + 1 from by omega, List.replicate_succ, mod_at (by simp; omega), take_succ (by omega)]
    simp
  · have e : l.take y2.1.toNat = l := List.take_of_length_le (by omega)
    rw [e]; simp; omega)
def E2 : D.Env := E1.add 62 ftoStringS
theorem E2ok : EOk Try.prog E2 := E1ok.add k62_1
-- laws.eqStringS
set_option maxHeartbeats 2000000 in
theorem k72_2 : feqStringS.ok Try.prog 72 := Fct.of (S := feqStringS) (L := fun ⟨l, m, _⟩ => fun | 4 => some (LeqS .str l m) | _ => none) (kp := [0,1,4,5,10,14,25,1000010,1000014,1000025]) E2ok Try.func72 (by kernel_rfl) (by kernel_rfl) (by
  rintro ⟨(l : List ByteArray), (m : List ByteArray), _⟩ hp
  refine holds_of (X := .br ((↑l.length : Int) != (↑m.length : Int))
 (.leaf (mkR feqStringS.rs (false, ())) [] [])
 (lpx (LeqS .str l m) ((0 : Int), ()) fun (y2 : Int × PUnit) bk2 =>
  .br (decide (y2.fst < (↑l.length : Int)))
   (.ob ((0 : Int) ≤ y2.fst ∧ y2.fst < (↑l.length : Int)) <|
    .ob ((0 : Int) ≤ y2.fst ∧ y2.fst < (↑m.length : Int)) <|
    .br (!(l.getD y2.fst.toNat default).toList == (m.getD y2.fst.toNat default).toList)
    (.leaf (mkR feqStringS.rs (false, ())) [] [])
    (.ob (l = l) <|
     .ob (m = m) <|
     .ob (bk2 (IntKind.i64.wrap (y2.fst + (1 : Int)), ())) <|
     .ok))
   (.leaf (mkR feqStringS.rs (true, ())) [] []))) (by kernel_rfl) ?_
  refine br_i (fun h1 => Fct.leafY ?_) (fun h1 => lpx_i ?_ fun (y2 : Int × PUnit) i2 => br_i (fun h3 => ob_i ?_ fun o4 => ob_i ?_ fun o5 => br_i (fun h6 => Fct.leafY ?_) (fun h6 => ob_i rfl fun _ => ob_i rfl fun _ => ob_i ?_ fun o7 => trivial)) (fun h3 => Fct.leafY ?_))
  all_goals try simp only [decide_eq_true_eq, decide_eq_false_iff_not, Bool.not_eq_true', Bool.not_eq_false', bne_iff_ne, bne_eq_false_iff_eq, beq_iff_eq, beq_eq_false_iff_ne, baEq, Int.not_lt, Int.not_le, ne_eq, Decidable.not_not] at *
  all_goals try simp only [LeqS, feqStringS, etaToken, etaNode, etaBuilder, etaPolicy, etaPage, etaVisit, etaTab, etaServer, etaCache, etaNet, etaLoader, etaSheet, etaResult, etaSlot, etaModule, etaAddr, etaRequest, etaResponse, etaConn, etaGuess, etaEntry, etaSent, etaFile, baSz, List.size_toArray, List.length_cons, List.length_nil, Nat.reduceAdd, Int.toNat_zero, List.drop_zero, decide_eq_true_eq, decide_eq_false_iff_not, Bool.not_eq_true', Bool.not_eq_false', bne_iff_ne, bne_eq_false_iff_eq, beq_iff_eq, beq_eq_false_iff_ne, Bool.not_eq_true, Bool.not_eq_false, ne_eq, Decidable.not_not, baEq, decide_not, Prod.mk.injEq, and_true, true_and, Room, List.nil_append, Nat.zero_add, Int.not_lt, Int.not_le] at *
  · rw [decide_eq_false]; rintro rfl; omega
  · exact ⟨by omega, by omega, by simp⟩
  · omega
  · omega
  · rw [decide_eq_false]; rintro rfl; first | exact absurd rfl h5 | exact absurd rfl h6
  · have hw : IntKind.i64.wrap (y2.1 + 1) = y2.1 + 1 := wrapId (by omega)
    rw [hw, toNat1 (by omega)]
    refine ⟨⟨by omega, by omega, ?_⟩, by omega⟩
    rw [take_succ (by omega), take_succ (by omega), i2.2.2]; first | rw [h5] | rw [h6]
  · have e : l.take y2.1.toNat = l := List.take_of_length_le (by omega)
    have e2 : m.take y2.1.toNat = m := List.take_of_length_le (by omega)
    rw [decide_eq_true]; rw [← e, ← e2, i2.2.2])
def E3 : D.Env := E2.add 72 feqStringS
theorem E3ok : EOk Try.prog E3 := E2ok.add k72_2
-- laws.szIntS
set_option maxHeartbeats 2000000 in
theorem k111_3 : fszIntS.ok Try.prog 111 := Fct.of (S := fszIntS) (L := fun _ _ => none) (kp := [0,1,4,10,1000010]) E3ok Try.func111 (by kernel_rfl) (by kernel_rfl) (by
  rintro ⟨(l : List Int), (n : Int), _⟩ hp
  refine holds_of (X := .br (decide (IntKind.i64.wrap (n - (↑(List.length l) : Int)) < (0 : Int)))
 (.leaf (mkR fszIntS.rs ((-1 : Int), ())) [] [])
 (.leaf (mkR fszIntS.rs (IntKind.i64.wrap (n - (↑(List.length l) : Int)), ())) [] [])) (by kernel_rfl) ?_
  refine br_i (fun h1 => Fct.leafY ?_) (fun h1 => Fct.leafY ?_)
  all_goals try simp only [decide_eq_true_eq, decide_eq_false_iff_not, Bool.not_eq_true', Bool.not_eq_false', bne_iff_ne, bne_eq_false_iff_eq, beq_iff_eq, beq_eq_false_iff_ne, baEq, Int.not_lt, Int.not_le, ne_eq, Decidable.not_not] at *
  all_goals try simp only [fszIntS, etaToken, etaNode, etaBuilder, etaPolicy, etaPage, etaVisit, etaTab, etaServer, etaCache, etaNet, etaLoader, etaSheet, etaResult, etaSlot, etaModule, etaAddr, etaRequest, etaResponse, etaConn, etaGuess, etaEntry, etaSent, etaFile, baSz, List.size_toArray, List.length_cons, List.length_nil, Nat.reduceAdd, Int.toNat_zero, List.drop_zero, decide_eq_true_eq, decide_eq_false_iff_not, Bool.not_eq_true', Bool.not_eq_false', bne_iff_ne, bne_eq_false_iff_eq, beq_iff_eq, beq_eq_false_iff_ne, Bool.not_eq_true, Bool.not_eq_false, ne_eq, Decidable.not_not, baEq, decide_not, Prod.mk.injEq, and_true, true_and, Room, List.nil_append, Nat.zero_add, Int.not_lt, Int.not_le, Sh.good, Sh.fc, enc, List.forall_mem_cons, List.not_mem_nil, false_implies, implies_true, goodC, maxLen] at *
  all_goals grind [wrapId', lessen])
def E4 : D.Env := E3.add 111 fszIntS
theorem E4ok : EOk Try.prog E4 := E3ok.add k111_3
-- laws.toIntS
theorem k117_4 : ftoIntS.ok Try.prog 117 := Fct.of (S := ftoIntS) (L := fun ⟨l, _⟩ => fun | 3 => some (LtoS .int l) | _ => none) (kp := [0,2,3,4,11,1000011]) E4ok Try.func117 (by kernel_rfl) (by kernel_rfl) (by
  rintro ⟨(l : List Int), _⟩ hp
  refine holds_of (X := .ob ((↑l.length : Int) = (↑l.length : Int) ∧
  (0 : Int) ≤ (↑l.length : Int) ∧
    (8 : Int) * (↑l.length : Int) ≤ (140737488355328 : Int) ∧ (↑l.length : Int) ≤ (140737488355328 : Int)) <|
 lpx (LtoS .int l) ((0 : Int), (List.replicate (↑l.length : Int).toNat (0 : Int), ())) fun (y2 : Int × List Int × PUnit) bk2 =>
 .br (decide (y2.fst < (↑l.length : Int)))
  (.ob ((0 : Int) ≤ y2.fst ∧ y2.fst < (↑l.length : Int)) <|
   .ob ((0 : Int) ≤ y2.fst ∧ y2.fst < (↑y2.snd.fst.length : Int)) <|
   .ob (y2.fst.toNat < y2.snd.fst.length) <|
   .lt (List Int) (y2.snd.fst.modify y2.fst.toNat fun z => l.getD y2.fst.toNat default) fun z2 =>
   .ob (l = l) <|
    .ob (bk2 (IntKind.i64.wrap (y2.fst + (1 : Int)), (z2, ()))) <|
    .ok)
  (.leaf (mkR ftoIntS.rs (y2.snd.fst, ())) [] [])) (by kernel_rfl) ?_
  refine ob_i ?_ fun o1 => lpx_i ?_ fun (y2 : Int × List Int × PUnit) i2 => br_i (fun h3 => ob_i ?_ fun o4 => ob_i ?_ fun o5 => ob_i ?_ fun o6 => lt_i (ob_i rfl fun _ => ob_i ?_ fun o7 => trivial)) (fun h3 => Fct.leafY ?_)
  all_goals try simp only [decide_eq_true_eq, decide_eq_false_iff_not, Bool.not_eq_true', Bool.not_eq_false', bne_iff_ne, bne_eq_false_iff_eq, beq_iff_eq, beq_eq_false_iff_ne, baEq, Int.not_lt, Int.not_le, ne_eq, Decidable.not_not] at *
  all_goals try simp only [LtoS, ftoIntS, etaToken, etaNode, etaBuilder, etaPolicy, etaPage, etaVisit, etaTab, etaServer, etaCache, etaNet, etaLoader, etaSheet, etaResult, etaSlot, etaModule, etaAddr, etaRequest, etaResponse, etaConn, etaGuess, etaEntry, etaSent, etaFile, baSz, List.size_toArray, List.length_cons, List.length_nil, Nat.reduceAdd, Int.toNat_zero, List.drop_zero, decide_eq_true_eq, decide_eq_false_iff_not, Bool.not_eq_true', Bool.not_eq_false', bne_iff_ne, bne_eq_false_iff_eq, beq_iff_eq, beq_eq_false_iff_ne, Bool.not_eq_true, Bool.not_eq_false, ne_eq, Decidable.not_not, baEq, decide_not, Prod.mk.injEq, and_true, true_and, Room, List.nil_append, Nat.zero_add, Int.not_lt, Int.not_le] at *
  all_goals try have hsz : l.length ≤ 1048576 := by first | exact hp | (have := szL_len szString l; exact Nat.le_trans this hp)
  all_goals clear hp
  all_goals try rw [i2.2.2]
  all_goals first | omega | (refine ⟨by omega, by omega, ?_⟩; simp; done) | (refine ⟨by omega, by omega, ?_⟩; simp; exact .inr rfl) | (simp; omega) | skip
  · rw [wrapId (by omega), toNat1 (by omega)]
    refine ⟨⟨by omega, by omega, ?_⟩, by omega⟩
    rw [show l.length - y2.1.toNat = (l.length - (y2.1.toNat + 1)) + 1 from by omega, List.replicate_succ, mod_at (by simp; omega), take_succ (by omega)]
    simp
  · have e : l.take y2.1.toNat = l := List.take_of_length_le (by omega)
    rw [e]; simp; omega)
def E5 : D.Env := E4.add 117 ftoIntS
theorem E5ok : EOk Try.prog E5 := E4ok.add k117_4
-- laws.eqIntS
set_option maxHeartbeats 2000000 in
theorem k123_5 : feqIntS.ok Try.prog 123 := Fct.of (S := feqIntS) (L := fun ⟨l, m, _⟩ => fun | 4 => some (LeqS .int l m) | _ => none) (kp := [0,1,4,5,10,14,25,1000010,1000014,1000025]) E5ok Try.func123 (by kernel_rfl) (by kernel_rfl) (by
  rintro ⟨(l : List Int), (m : List Int), _⟩ hp
  refine holds_of (X := .br ((↑l.length : Int) != (↑m.length : Int))
 (.leaf (mkR feqIntS.rs (false, ())) [] [])
 (lpx (LeqS .int l m) ((0 : Int), ()) fun (y2 : Int × PUnit) bk2 =>
  .br (decide (y2.fst < (↑l.length : Int)))
   (.ob ((0 : Int) ≤ y2.fst ∧ y2.fst < (↑l.length : Int)) <|
    .ob ((0 : Int) ≤ y2.fst ∧ y2.fst < (↑m.length : Int)) <|
    .br (l.getD y2.fst.toNat default != m.getD y2.fst.toNat default)
    (.leaf (mkR feqIntS.rs (false, ())) [] [])
    (.ob (l = l) <|
     .ob (m = m) <|
     .ob (bk2 (IntKind.i64.wrap (y2.fst + (1 : Int)), ())) <|
     .ok))
   (.leaf (mkR feqIntS.rs (true, ())) [] []))) (by kernel_rfl) ?_
  refine br_i (fun h1 => Fct.leafY ?_) (fun h1 => lpx_i ?_ fun (y2 : Int × PUnit) i2 => br_i (fun h3 => ob_i ?_ fun o4 => ob_i ?_ fun o5 => br_i (fun h6 => Fct.leafY ?_) (fun h6 => ob_i rfl fun _ => ob_i rfl fun _ => ob_i ?_ fun o7 => trivial)) (fun h3 => Fct.leafY ?_))
  all_goals try simp only [decide_eq_true_eq, decide_eq_false_iff_not, Bool.not_eq_true', Bool.not_eq_false', bne_iff_ne, bne_eq_false_iff_eq, beq_iff_eq, beq_eq_false_iff_ne, baEq, Int.not_lt, Int.not_le, ne_eq, Decidable.not_not] at *
  all_goals try simp only [LeqS, feqIntS, etaToken, etaNode, etaBuilder, etaPolicy, etaPage, etaVisit, etaTab, etaServer, etaCache, etaNet, etaLoader, etaSheet, etaResult, etaSlot, etaModule, etaAddr, etaRequest, etaResponse, etaConn, etaGuess, etaEntry, etaSent, etaFile, baSz, List.size_toArray, List.length_cons, List.length_nil, Nat.reduceAdd, Int.toNat_zero, List.drop_zero, decide_eq_true_eq, decide_eq_false_iff_not, Bool.not_eq_true', Bool.not_eq_false', bne_iff_ne, bne_eq_false_iff_eq, beq_iff_eq, beq_eq_false_iff_ne, Bool.not_eq_true, Bool.not_eq_false, ne_eq, Decidable.not_not, baEq, decide_not, Prod.mk.injEq, and_true, true_and, Room, List.nil_append, Nat.zero_add, Int.not_lt, Int.not_le] at *
  · rw [decide_eq_false]; rintro rfl; omega
  · exact ⟨by omega, by omega, by simp⟩
  · omega
  · omega
  · rw [decide_eq_false]; rintro rfl; first | exact absurd rfl h5 | exact absurd rfl h6
  · have hw : IntKind.i64.wrap (y2.1 + 1) = y2.1 + 1 := wrapId (by omega)
    rw [hw, toNat1 (by omega)]
    refine ⟨⟨by omega, by omega, ?_⟩, by omega⟩
    rw [take_succ (by omega), take_succ (by omega), i2.2.2]; first | rw [h5] | rw [h6]
  · have e : l.take y2.1.toNat = l := List.take_of_length_le (by omega)
    have e2 : m.take y2.1.toNat = m := List.take_of_length_le (by omega)
    rw [decide_eq_true]; rw [← e, ← e2, i2.2.2])
def E6 : D.Env := E5.add 123 feqIntS
theorem E6ok : EOk Try.prog E6 := E5ok.add k123_5
-- laws.szAddr
set_option maxHeartbeats 2000000 in
theorem k43_6 : fszAddr.ok Try.prog 43 := Fct.of (S := fszAddr) (L := fun _ _ => none) (kp := [1,2,4,11,18,1000011,1000018]) E6ok Try.func43 (by kernel_rfl) (by kernel_rfl) (by
  rintro ⟨(x : SAddr), (n : Int), _⟩ hp
  refine holds_of (X := .br (decide (IntKind.i64.wrap (n - (↑x.host.size : Int)) < (0 : Int)))
 (.leaf (mkR fszAddr.rs ((-1 : Int), ())) [] [])
 (.br (decide (IntKind.i64.wrap (IntKind.i64.wrap (n - (↑x.host.size : Int)) - (↑x.path.size : Int)) < (0 : Int)))
  (.leaf (mkR fszAddr.rs ((-1 : Int), ())) [] [])
  (.leaf (mkR fszAddr.rs (IntKind.i64.wrap (IntKind.i64.wrap (n - (↑x.host.size : Int)) - (↑x.path.size : Int)), ())) [] []))) (by kernel_rfl) ?_
  refine br_i (fun h1 => Fct.leafY ?_) (fun h1 => br_i (fun h2 => Fct.leafY ?_) (fun h2 => Fct.leafY ?_))
  all_goals try simp only [decide_eq_true_eq, decide_eq_false_iff_not, Bool.not_eq_true', Bool.not_eq_false', bne_iff_ne, bne_eq_false_iff_eq, beq_iff_eq, beq_eq_false_iff_ne, baEq, Int.not_lt, Int.not_le, ne_eq, Decidable.not_not] at *
  all_goals try simp only [fszAddr, etaToken, etaNode, etaBuilder, etaPolicy, etaPage, etaVisit, etaTab, etaServer, etaCache, etaNet, etaLoader, etaSheet, etaResult, etaSlot, etaModule, etaAddr, etaRequest, etaResponse, etaConn, etaGuess, etaEntry, etaSent, etaFile, baSz, List.size_toArray, List.length_cons, List.length_nil, Nat.reduceAdd, Int.toNat_zero, List.drop_zero, decide_eq_true_eq, decide_eq_false_iff_not, Bool.not_eq_true', Bool.not_eq_false', bne_iff_ne, bne_eq_false_iff_eq, beq_iff_eq, beq_eq_false_iff_ne, Bool.not_eq_true, Bool.not_eq_false, ne_eq, Decidable.not_not, baEq, decide_not, Prod.mk.injEq, and_true, true_and, Room, List.nil_append, Nat.zero_add, Int.not_lt, Int.not_le, Sh.good, Sh.fc, enc, List.forall_mem_cons, List.not_mem_nil, false_implies, implies_true, goodC, maxLen] at *
  all_goals grind [wrapId', lessen, szAddr])
def E7 : D.Env := E6.add 43 fszAddr
theorem E7ok : EOk Try.prog E7 := E6ok.add k43_6
-- laws.toAddr
theorem k54_7 : ftoAddr.ok Try.prog 54 := Fct.of (S := ftoAddr) (L := fun _ _ => none) (kp := [1,2,3]) E7ok Try.func54 (by kernel_rfl) (by kernel_rfl) (by
  rintro ⟨(x : SAddr), _⟩ hp
  refine holds_of (X := .leaf (mkR ftoAddr.rs (x, ())) [] []) (by kernel_rfl) ?_
  refine Fct.leafY ?_
  all_goals try simp only [decide_eq_true_eq, decide_eq_false_iff_not, Bool.not_eq_true', Bool.not_eq_false', bne_iff_ne, bne_eq_false_iff_eq, beq_iff_eq, beq_eq_false_iff_ne, baEq, Int.not_lt, Int.not_le, ne_eq, Decidable.not_not] at *
  all_goals try simp only [ftoAddr, etaToken, etaNode, etaBuilder, etaPolicy, etaPage, etaVisit, etaTab, etaServer, etaCache, etaNet, etaLoader, etaSheet, etaResult, etaSlot, etaModule, etaAddr, etaRequest, etaResponse, etaConn, etaGuess, etaEntry, etaSent, etaFile, baSz, List.size_toArray, List.length_cons, List.length_nil, Nat.reduceAdd, Int.toNat_zero, List.drop_zero, decide_eq_true_eq, decide_eq_false_iff_not, Bool.not_eq_true', Bool.not_eq_false', bne_iff_ne, bne_eq_false_iff_eq, beq_iff_eq, beq_eq_false_iff_ne, Bool.not_eq_true, Bool.not_eq_false, ne_eq, Decidable.not_not, baEq, decide_not, Prod.mk.injEq, and_true, true_and, Room, List.nil_append, Nat.zero_add, Int.not_lt, Int.not_le] at *
  all_goals first | trivial | rfl | grind [szAddr])
def E8 : D.Env := E7.add 54 ftoAddr
theorem E8ok : EOk Try.prog E8 := E7ok.add k54_7
-- laws.eqAddr
set_option maxHeartbeats 2000000 in
theorem k65_8 : feqAddr.ok Try.prog 65 := Fct.of (S := feqAddr) (L := fun _ _ => none) (kp := [2,3,4,9,14,1000009,1000014]) E8ok Try.func65 (by kernel_rfl) (by kernel_rfl) (by
  rintro ⟨(x : SAddr), (y : SAddr), _⟩ hp
  refine holds_of (X := .br (!x.host.toList == y.host.toList)
 (.leaf (mkR feqAddr.rs (false, ())) [] [])
 (.br (!x.path.toList == y.path.toList)
  (.leaf (mkR feqAddr.rs (false, ())) [] [])
  (.leaf (mkR feqAddr.rs (true, ())) [] []))) (by kernel_rfl) ?_
  refine br_i (fun h1 => Fct.leafY ?_) (fun h1 => br_i (fun h2 => Fct.leafY ?_) (fun h2 => Fct.leafY ?_))
  all_goals try simp only [decide_eq_true_eq, decide_eq_false_iff_not, Bool.not_eq_true', Bool.not_eq_false', bne_iff_ne, bne_eq_false_iff_eq, beq_iff_eq, beq_eq_false_iff_ne, baEq, Int.not_lt, Int.not_le, ne_eq, Decidable.not_not] at *
  all_goals try simp only [feqAddr, etaToken, etaNode, etaBuilder, etaPolicy, etaPage, etaVisit, etaTab, etaServer, etaCache, etaNet, etaLoader, etaSheet, etaResult, etaSlot, etaModule, etaAddr, etaRequest, etaResponse, etaConn, etaGuess, etaEntry, etaSent, etaFile, baSz, List.size_toArray, List.length_cons, List.length_nil, Nat.reduceAdd, Int.toNat_zero, List.drop_zero, decide_eq_true_eq, decide_eq_false_iff_not, Bool.not_eq_true', Bool.not_eq_false', bne_iff_ne, bne_eq_false_iff_eq, beq_iff_eq, beq_eq_false_iff_ne, Bool.not_eq_true, Bool.not_eq_false, ne_eq, Decidable.not_not, baEq, decide_not, Prod.mk.injEq, and_true, true_and, Room, List.nil_append, Nat.zero_add, Int.not_lt, Int.not_le] at *
  all_goals first | trivial | (cases x; cases y; simp_all; done) | (simp only [szAddr] at *; omega) | grind [szAddr])
def E9 : D.Env := E8.add 65 feqAddr
theorem E9ok : EOk Try.prog E9 := E8ok.add k65_8
-- laws.szAddrS
set_option maxHeartbeats 2000000 in
theorem k50_9 : fszAddrS.ok Try.prog 50 := Fct.of (S := fszAddrS) (L := fun ⟨l, n, _⟩ => fun | 5 => some (LszS .addr szAddr l n) | _ => none) (kp := [0,1,4,5,11,15,25,1000011,1000015,1000025]) E9ok Try.func50 (by kernel_rfl) (by kernel_rfl) (by
  rintro ⟨(l : List SAddr), (n : Int), _⟩ hp
  refine holds_of (X := .br (decide (IntKind.i64.wrap (n - (↑l.length : Int)) < (0 : Int)))
 (.leaf (mkR fszAddrS.rs ((-1 : Int), ())) [] [])
 (lpx (LszS .addr szAddr l n) (IntKind.i64.wrap (n - (↑l.length : Int)), ((0 : Int), ())) fun (y2 : Int × Int × PUnit) bk2 =>
  .br (decide (y2.snd.fst < (↑l.length : Int)))
   (.ob ((0 : Int) ≤ y2.snd.fst ∧ y2.snd.fst < (↑l.length : Int)) <|
    .ob (fszAddr.pre (l.getD y2.snd.fst.toNat default, y2.fst, ())) <|
    .lt (Int × PUnit) (fszAddr.fn (l.getD y2.snd.fst.toNat default, y2.fst, ())) fun z2 =>
    .br (decide (z2.fst < (0 : Int)))
     (.leaf (mkR fszAddrS.rs ((-1 : Int), ())) [] [])
     (.ob (l = l) <|
      .ob (bk2 (z2.fst, (IntKind.i64.wrap (y2.snd.fst + (1 : Int)), ()))) <|
      .ok))
   (.leaf (mkR fszAddrS.rs (y2.fst, ())) [] []))) (by kernel_rfl) ?_
  refine br_i (fun h1 => Fct.leafY ?_) (fun h1 => lpx_i ?_ fun (y2 : Int × Int × PUnit) i2 => br_i (fun h3 => ob_i ?_ fun o4 => ob_i ?_ fun o5 => lt_i (br_i (fun h6 => Fct.leafY ?_) (fun h6 => ob_i rfl fun _ => ob_i ?_ fun o7 => trivial))) (fun h3 => Fct.leafY ?_))
  all_goals try simp only [decide_eq_true_eq, decide_eq_false_iff_not, Bool.not_eq_true', Bool.not_eq_false', bne_iff_ne, bne_eq_false_iff_eq, beq_iff_eq, beq_eq_false_iff_ne, baEq, Int.not_lt, Int.not_le, ne_eq, Decidable.not_not] at *
  all_goals try simp only [LszS, fszAddr, fszAddrS, etaToken, etaNode, etaBuilder, etaPolicy, etaPage, etaVisit, etaTab, etaServer, etaCache, etaNet, etaLoader, etaSheet, etaResult, etaSlot, etaModule, etaAddr, etaRequest, etaResponse, etaConn, etaGuess, etaEntry, etaSent, etaFile, baSz, List.size_toArray, List.length_cons, List.length_nil, Nat.reduceAdd, Int.toNat_zero, List.drop_zero, decide_eq_true_eq, decide_eq_false_iff_not, Bool.not_eq_true', Bool.not_eq_false', bne_iff_ne, bne_eq_false_iff_eq, beq_iff_eq, beq_eq_false_iff_ne, Bool.not_eq_true, Bool.not_eq_false, ne_eq, Decidable.not_not, baEq, decide_not, Prod.mk.injEq, and_true, true_and, Room, List.nil_append, Nat.zero_add, Int.not_lt, Int.not_le] at *
  · have := good_len hp.1; simp only [maxLen] at this; rw [wrapId (by omega)] at h1
    rw [lessenNeg (by simp only [szL]; omega)]
  · have := good_len hp.1; simp only [maxLen] at this
    rw [wrapId (by omega)] at h1 ⊢
    exact ⟨by omega, by omega, h1, by simp⟩
  · omega
  · exact ⟨good_getD hp.1 (by omega), by omega, by omega⟩
  · have hs := sum_take_le szAddr l (y2.2.1.toNat + 1)
    rw [sum_take szAddr (by omega)] at hs
    rw [lessen_lt (by omega)] at h6
    rw [lessenNeg (by simp only [szL]; omega)]
  · have hw : IntKind.i64.wrap (y2.2.1 + 1) = y2.2.1 + 1 := wrapId (by have := good_len hp.1; simp only [maxLen] at this; omega)
    have h7 : ¬ lessen y2.1 (szAddr (l.getD y2.2.1.toNat default)) < 0 := by omega
    rw [lessen_lt (by omega)] at h7
    rw [hw, toNat1 (by omega), sum_take szAddr (by omega), lessen_ge (by omega)]
    exact ⟨⟨by omega, by omega, by omega, by omega⟩, by omega⟩
  · have e : l.take y2.2.1.toNat = l := List.take_of_length_le (by omega)
    rw [e] at i2
    have hz : ((szL szAddr l : Nat) : Int) = l.length + (l.map szAddr).sum := by simp only [szL]; omega
    rw [lessen_ge (by omega)]
    show y2.1 = n - ((szL szAddr l : Nat) : Int)
    omega)
def E10 : D.Env := E9.add 50 fszAddrS
theorem E10ok : EOk Try.prog E10 := E9ok.add k50_9
-- laws.toAddrS
theorem k61_10 : ftoAddrS.ok Try.prog 61 := Fct.of (S := ftoAddrS) (L := fun ⟨l, _⟩ => fun | 3 => some (LtoS .addr l) | _ => none) (kp := [0,2,3,4,11,1000011]) E10ok Try.func61 (by kernel_rfl) (by kernel_rfl) (by
  rintro ⟨(l : List SAddr), _⟩ hp
  refine holds_of (X := .ob ((↑l.length : Int) = (↑l.length : Int) ∧
  (0 : Int) ≤ (↑l.length : Int) ∧
    (32 : Int) * (↑l.length : Int) ≤ (140737488355328 : Int) ∧ (↑l.length : Int) ≤ (140737488355328 : Int)) <|
 lpx (LtoS .addr l) ((0 : Int), (List.replicate (↑l.length : Int).toNat default, ())) fun (y2 : Int × List SAddr × PUnit) bk2 =>
 .br (decide (y2.fst < (↑l.length : Int)))
  (.ob ((0 : Int) ≤ y2.fst ∧ y2.fst < (↑l.length : Int)) <|
   .ob (ftoAddr.pre (l.getD y2.fst.toNat default, ())) <|
   .lt (SAddr × PUnit) (ftoAddr.fn (l.getD y2.fst.toNat default, ())) fun z2 =>
   .ob ((0 : Int) ≤ y2.fst ∧ y2.fst < (↑y2.snd.fst.length : Int)) <|
    .ob (y2.fst.toNat < y2.snd.fst.length) <|
    .lt (List SAddr) (y2.snd.fst.modify y2.fst.toNat fun z => z2.fst) fun z3 =>
    .ob (l = l) <|
     .ob (bk2 (IntKind.i64.wrap (y2.fst + (1 : Int)), (z3, ()))) <|
     .ok)
  (.leaf (mkR ftoAddrS.rs (y2.snd.fst, ())) [] [])) (by kernel_rfl) ?_
  refine ob_i ?_ fun o1 => lpx_i ?_ fun (y2 : Int × List SAddr × PUnit) i2 => br_i (fun h3 => ob_i ?_ fun o4 => ob_i ?_ fun o5 => lt_i (ob_i ?_ fun o6 => ob_i ?_ fun o7 => lt_i (ob_i rfl fun _ => ob_i ?_ fun o8 => trivial))) (fun h3 => Fct.leafY ?_)
  all_goals try simp only [decide_eq_true_eq, decide_eq_false_iff_not, Bool.not_eq_true', Bool.not_eq_false', bne_iff_ne, bne_eq_false_iff_eq, beq_iff_eq, beq_eq_false_iff_ne, baEq, Int.not_lt, Int.not_le, ne_eq, Decidable.not_not] at *
  all_goals try simp only [LtoS, ftoAddr, ftoAddrS, etaToken, etaNode, etaBuilder, etaPolicy, etaPage, etaVisit, etaTab, etaServer, etaCache, etaNet, etaLoader, etaSheet, etaResult, etaSlot, etaModule, etaAddr, etaRequest, etaResponse, etaConn, etaGuess, etaEntry, etaSent, etaFile, baSz, List.size_toArray, List.length_cons, List.length_nil, Nat.reduceAdd, Int.toNat_zero, List.drop_zero, decide_eq_true_eq, decide_eq_false_iff_not, Bool.not_eq_true', Bool.not_eq_false', bne_iff_ne, bne_eq_false_iff_eq, beq_iff_eq, beq_eq_false_iff_ne, Bool.not_eq_true, Bool.not_eq_false, ne_eq, Decidable.not_not, baEq, decide_not, Prod.mk.injEq, and_true, true_and, Room, List.nil_append, Nat.zero_add, Int.not_lt, Int.not_le] at *
  · have := szL_len szAddr l; omega
  · exact ⟨by omega, by omega, by simp⟩
  · omega
  · have hs := sum_take_le szAddr l (y2.1.toNat + 1)
    rw [sum_take szAddr (by omega)] at hs
    simp only [szL] at hp; omega
  · rw [i2.2.2]; simp; omega
  · rw [i2.2.2]; simp; omega
  · have hw : IntKind.i64.wrap (y2.1 + 1) = y2.1 + 1 := wrapId (by have := szL_len szAddr l; omega)
    rw [hw, toNat1 (by omega), i2.2.2]
    refine ⟨⟨by omega, by omega, ?_⟩, by omega⟩
    rw [show l.length - y2.1.toNat = (l.length - (y2.1.toNat + 1)) + 1 from by omega, List.replicate_succ, mod_at (by simp; omega), take_succ (by omega)]
    simp
  · have e : l.take y2.1.toNat = l := List.take_of_length_le (by omega)
    rw [i2.2.2, e]; simp; omega)
def E11 : D.Env := E10.add 61 ftoAddrS
theorem E11ok : EOk Try.prog E11 := E10ok.add k61_10
-- laws.eqAddrS
set_option maxHeartbeats 2000000 in
theorem k25_11 : feqAddrS.ok Try.prog 25 := Fct.of (S := feqAddrS) (L := fun ⟨l, m, _⟩ => fun | 4 => some (LeqS .addr l m) | _ => none) (kp := [0,1,4,5,10,14,26,1000010,1000014,1000026]) E11ok Try.func25 (by kernel_rfl) (by kernel_rfl) (by
  rintro ⟨(l : List SAddr), (m : List SAddr), _⟩ hp
  refine holds_of (X := .br ((↑l.length : Int) != (↑m.length : Int))
 (.leaf (mkR feqAddrS.rs (false, ())) [] [])
 (lpx (LeqS .addr l m) ((0 : Int), ()) fun (y2 : Int × PUnit) bk2 =>
  .br (decide (y2.fst < (↑l.length : Int)))
   (.ob ((0 : Int) ≤ y2.fst ∧ y2.fst < (↑l.length : Int)) <|
    .ob ((0 : Int) ≤ y2.fst ∧ y2.fst < (↑m.length : Int)) <|
    .ob (feqAddr.pre (l.getD y2.fst.toNat default, m.getD y2.fst.toNat default, ())) <|
    .lt (Bool × PUnit) (feqAddr.fn (l.getD y2.fst.toNat default, m.getD y2.fst.toNat default, ())) fun z2 =>
    .br (!z2.fst)
     (.leaf (mkR feqAddrS.rs (false, ())) [] [])
     (.ob (l = l) <|
      .ob (m = m) <|
      .ob (bk2 (IntKind.i64.wrap (y2.fst + (1 : Int)), ())) <|
      .ok))
   (.leaf (mkR feqAddrS.rs (true, ())) [] []))) (by kernel_rfl) ?_
  refine br_i (fun h1 => Fct.leafY ?_) (fun h1 => lpx_i ?_ fun (y2 : Int × PUnit) i2 => br_i (fun h3 => ob_i ?_ fun o4 => ob_i ?_ fun o5 => ob_i trivial fun _ => lt_i (br_i (fun h6 => Fct.leafY ?_) (fun h6 => ob_i rfl fun _ => ob_i rfl fun _ => ob_i ?_ fun o7 => trivial))) (fun h3 => Fct.leafY ?_))
  all_goals try simp only [decide_eq_true_eq, decide_eq_false_iff_not, Bool.not_eq_true', Bool.not_eq_false', bne_iff_ne, bne_eq_false_iff_eq, beq_iff_eq, beq_eq_false_iff_ne, baEq, Int.not_lt, Int.not_le, ne_eq, Decidable.not_not] at *
  all_goals try simp only [LeqS, feqAddr, feqAddrS, etaToken, etaNode, etaBuilder, etaPolicy, etaPage, etaVisit, etaTab, etaServer, etaCache, etaNet, etaLoader, etaSheet, etaResult, etaSlot, etaModule, etaAddr, etaRequest, etaResponse, etaConn, etaGuess, etaEntry, etaSent, etaFile, baSz, List.size_toArray, List.length_cons, List.length_nil, Nat.reduceAdd, Int.toNat_zero, List.drop_zero, decide_eq_true_eq, decide_eq_false_iff_not, Bool.not_eq_true', Bool.not_eq_false', bne_iff_ne, bne_eq_false_iff_eq, beq_iff_eq, beq_eq_false_iff_ne, Bool.not_eq_true, Bool.not_eq_false, ne_eq, Decidable.not_not, baEq, decide_not, Prod.mk.injEq, and_true, true_and, Room, List.nil_append, Nat.zero_add, Int.not_lt, Int.not_le] at *
  · rw [decide_eq_false]; rintro rfl; omega
  · exact ⟨by omega, by omega, by simp⟩
  · omega
  · omega
  · rw [decide_eq_false]; rintro rfl; exact absurd rfl h6
  · have hw : IntKind.i64.wrap (y2.1 + 1) = y2.1 + 1 := wrapId (by omega)
    rw [hw, toNat1 (by omega)]
    refine ⟨⟨by omega, by omega, ?_⟩, by omega⟩
    rw [take_succ (by omega), take_succ (by omega), i2.2.2, h6]
  · have e : l.take y2.1.toNat = l := List.take_of_length_le (by omega)
    have e2 : m.take y2.1.toNat = m := List.take_of_length_le (by omega)
    rw [decide_eq_true]; rw [← e, ← e2, i2.2.2])
def E12 : D.Env := E11.add 25 feqAddrS
theorem E12ok : EOk Try.prog E12 := E11ok.add k25_11
-- laws.szAttr
set_option maxHeartbeats 2000000 in
theorem k188_12 : fszAttr.ok Try.prog 188 := Fct.of (S := fszAttr) (L := fun _ _ => none) (kp := [1,2,4,11,18,1000011,1000018]) E12ok Try.func188 (by kernel_rfl) (by kernel_rfl) (by
  rintro ⟨(x : SAttr), (n : Int), _⟩ hp
  refine holds_of (X := .br (decide (IntKind.i64.wrap (n - (↑x.name.size : Int)) < (0 : Int)))
 (.leaf (mkR fszAttr.rs ((-1 : Int), ())) [] [])
 (.br (decide (IntKind.i64.wrap (IntKind.i64.wrap (n - (↑x.name.size : Int)) - (↑x.value.size : Int)) < (0 : Int)))
  (.leaf (mkR fszAttr.rs ((-1 : Int), ())) [] [])
  (.leaf (mkR fszAttr.rs (IntKind.i64.wrap (IntKind.i64.wrap (n - (↑x.name.size : Int)) - (↑x.value.size : Int)), ())) [] []))) (by kernel_rfl) ?_
  refine br_i (fun h1 => Fct.leafY ?_) (fun h1 => br_i (fun h2 => Fct.leafY ?_) (fun h2 => Fct.leafY ?_))
  all_goals try simp only [decide_eq_true_eq, decide_eq_false_iff_not, Bool.not_eq_true', Bool.not_eq_false', bne_iff_ne, bne_eq_false_iff_eq, beq_iff_eq, beq_eq_false_iff_ne, baEq, Int.not_lt, Int.not_le, ne_eq, Decidable.not_not] at *
  all_goals try simp only [fszAttr, etaToken, etaNode, etaBuilder, etaPolicy, etaPage, etaVisit, etaTab, etaServer, etaCache, etaNet, etaLoader, etaSheet, etaResult, etaSlot, etaModule, etaAddr, etaRequest, etaResponse, etaConn, etaGuess, etaEntry, etaSent, etaFile, baSz, List.size_toArray, List.length_cons, List.length_nil, Nat.reduceAdd, Int.toNat_zero, List.drop_zero, decide_eq_true_eq, decide_eq_false_iff_not, Bool.not_eq_true', Bool.not_eq_false', bne_iff_ne, bne_eq_false_iff_eq, beq_iff_eq, beq_eq_false_iff_ne, Bool.not_eq_true, Bool.not_eq_false, ne_eq, Decidable.not_not, baEq, decide_not, Prod.mk.injEq, and_true, true_and, Room, List.nil_append, Nat.zero_add, Int.not_lt, Int.not_le, Sh.good, Sh.fc, enc, List.forall_mem_cons, List.not_mem_nil, false_implies, implies_true, goodC, maxLen] at *
  all_goals grind [wrapId', lessen, szAttr])
def E13 : D.Env := E12.add 188 fszAttr
theorem E13ok : EOk Try.prog E13 := E12ok.add k188_12
-- laws.toAttr
theorem k189_13 : ftoAttr.ok Try.prog 189 := Fct.of (S := ftoAttr) (L := fun _ _ => none) (kp := [1,2,3]) E13ok Try.func189 (by kernel_rfl) (by kernel_rfl) (by
  rintro ⟨(x : SAttr), _⟩ hp
  refine holds_of (X := .leaf (mkR ftoAttr.rs (x, ())) [] []) (by kernel_rfl) ?_
  refine Fct.leafY ?_
  all_goals try simp only [decide_eq_true_eq, decide_eq_false_iff_not, Bool.not_eq_true', Bool.not_eq_false', bne_iff_ne, bne_eq_false_iff_eq, beq_iff_eq, beq_eq_false_iff_ne, baEq, Int.not_lt, Int.not_le, ne_eq, Decidable.not_not] at *
  all_goals try simp only [ftoAttr, etaToken, etaNode, etaBuilder, etaPolicy, etaPage, etaVisit, etaTab, etaServer, etaCache, etaNet, etaLoader, etaSheet, etaResult, etaSlot, etaModule, etaAddr, etaRequest, etaResponse, etaConn, etaGuess, etaEntry, etaSent, etaFile, baSz, List.size_toArray, List.length_cons, List.length_nil, Nat.reduceAdd, Int.toNat_zero, List.drop_zero, decide_eq_true_eq, decide_eq_false_iff_not, Bool.not_eq_true', Bool.not_eq_false', bne_iff_ne, bne_eq_false_iff_eq, beq_iff_eq, beq_eq_false_iff_ne, Bool.not_eq_true, Bool.not_eq_false, ne_eq, Decidable.not_not, baEq, decide_not, Prod.mk.injEq, and_true, true_and, Room, List.nil_append, Nat.zero_add, Int.not_lt, Int.not_le] at *
  all_goals first | trivial | rfl | grind [szAttr])
def E14 : D.Env := E13.add 189 ftoAttr
theorem E14ok : EOk Try.prog E14 := E13ok.add k189_13
-- laws.eqAttr
set_option maxHeartbeats 2000000 in
theorem k190_14 : feqAttr.ok Try.prog 190 := Fct.of (S := feqAttr) (L := fun _ _ => none) (kp := [2,3,4,9,14,1000009,1000014]) E14ok Try.func190 (by kernel_rfl) (by kernel_rfl) (by
  rintro ⟨(x : SAttr), (y : SAttr), _⟩ hp
  refine holds_of (X := .br (!x.name.toList == y.name.toList)
 (.leaf (mkR feqAttr.rs (false, ())) [] [])
 (.br (!x.value.toList == y.value.toList)
  (.leaf (mkR feqAttr.rs (false, ())) [] [])
  (.leaf (mkR feqAttr.rs (true, ())) [] []))) (by kernel_rfl) ?_
  refine br_i (fun h1 => Fct.leafY ?_) (fun h1 => br_i (fun h2 => Fct.leafY ?_) (fun h2 => Fct.leafY ?_))
  all_goals try simp only [decide_eq_true_eq, decide_eq_false_iff_not, Bool.not_eq_true', Bool.not_eq_false', bne_iff_ne, bne_eq_false_iff_eq, beq_iff_eq, beq_eq_false_iff_ne, baEq, Int.not_lt, Int.not_le, ne_eq, Decidable.not_not] at *
  all_goals try simp only [feqAttr, etaToken, etaNode, etaBuilder, etaPolicy, etaPage, etaVisit, etaTab, etaServer, etaCache, etaNet, etaLoader, etaSheet, etaResult, etaSlot, etaModule, etaAddr, etaRequest, etaResponse, etaConn, etaGuess, etaEntry, etaSent, etaFile, baSz, List.size_toArray, List.length_cons, List.length_nil, Nat.reduceAdd, Int.toNat_zero, List.drop_zero, decide_eq_true_eq, decide_eq_false_iff_not, Bool.not_eq_true', Bool.not_eq_false', bne_iff_ne, bne_eq_false_iff_eq, beq_iff_eq, beq_eq_false_iff_ne, Bool.not_eq_true, Bool.not_eq_false, ne_eq, Decidable.not_not, baEq, decide_not, Prod.mk.injEq, and_true, true_and, Room, List.nil_append, Nat.zero_add, Int.not_lt, Int.not_le] at *
  all_goals first | trivial | (cases x; cases y; simp_all; done) | (simp only [szAttr] at *; omega) | grind [szAttr])
def E15 : D.Env := E14.add 190 feqAttr
theorem E15ok : EOk Try.prog E15 := E14ok.add k190_14
-- laws.szAttrS
set_option maxHeartbeats 2000000 in
theorem k157_15 : fszAttrS.ok Try.prog 157 := Fct.of (S := fszAttrS) (L := fun ⟨l, n, _⟩ => fun | 5 => some (LszS .attr szAttr l n) | _ => none) (kp := [0,1,4,5,11,15,25,1000011,1000015,1000025]) E15ok Try.func157 (by kernel_rfl) (by kernel_rfl) (by
  rintro ⟨(l : List SAttr), (n : Int), _⟩ hp
  refine holds_of (X := .br (decide (IntKind.i64.wrap (n - (↑l.length : Int)) < (0 : Int)))
 (.leaf (mkR fszAttrS.rs ((-1 : Int), ())) [] [])
 (lpx (LszS .attr szAttr l n) (IntKind.i64.wrap (n - (↑l.length : Int)), ((0 : Int), ())) fun (y2 : Int × Int × PUnit) bk2 =>
  .br (decide (y2.snd.fst < (↑l.length : Int)))
   (.ob ((0 : Int) ≤ y2.snd.fst ∧ y2.snd.fst < (↑l.length : Int)) <|
    .ob (fszAttr.pre (l.getD y2.snd.fst.toNat default, y2.fst, ())) <|
    .lt (Int × PUnit) (fszAttr.fn (l.getD y2.snd.fst.toNat default, y2.fst, ())) fun z2 =>
    .br (decide (z2.fst < (0 : Int)))
     (.leaf (mkR fszAttrS.rs ((-1 : Int), ())) [] [])
     (.ob (l = l) <|
      .ob (bk2 (z2.fst, (IntKind.i64.wrap (y2.snd.fst + (1 : Int)), ()))) <|
      .ok))
   (.leaf (mkR fszAttrS.rs (y2.fst, ())) [] []))) (by kernel_rfl) ?_
  refine br_i (fun h1 => Fct.leafY ?_) (fun h1 => lpx_i ?_ fun (y2 : Int × Int × PUnit) i2 => br_i (fun h3 => ob_i ?_ fun o4 => ob_i ?_ fun o5 => lt_i (br_i (fun h6 => Fct.leafY ?_) (fun h6 => ob_i rfl fun _ => ob_i ?_ fun o7 => trivial))) (fun h3 => Fct.leafY ?_))
  all_goals try simp only [decide_eq_true_eq, decide_eq_false_iff_not, Bool.not_eq_true', Bool.not_eq_false', bne_iff_ne, bne_eq_false_iff_eq, beq_iff_eq, beq_eq_false_iff_ne, baEq, Int.not_lt, Int.not_le, ne_eq, Decidable.not_not] at *
  all_goals try simp only [LszS, fszAttr, fszAttrS, etaToken, etaNode, etaBuilder, etaPolicy, etaPage, etaVisit, etaTab, etaServer, etaCache, etaNet, etaLoader, etaSheet, etaResult, etaSlot, etaModule, etaAddr, etaRequest, etaResponse, etaConn, etaGuess, etaEntry, etaSent, etaFile, baSz, List.size_toArray, List.length_cons, List.length_nil, Nat.reduceAdd, Int.toNat_zero, List.drop_zero, decide_eq_true_eq, decide_eq_false_iff_not, Bool.not_eq_true', Bool.not_eq_false', bne_iff_ne, bne_eq_false_iff_eq, beq_iff_eq, beq_eq_false_iff_ne, Bool.not_eq_true, Bool.not_eq_false, ne_eq, Decidable.not_not, baEq, decide_not, Prod.mk.injEq, and_true, true_and, Room, List.nil_append, Nat.zero_add, Int.not_lt, Int.not_le] at *
  · have := good_len hp.1; simp only [maxLen] at this; rw [wrapId (by omega)] at h1
    rw [lessenNeg (by simp only [szL]; omega)]
  · have := good_len hp.1; simp only [maxLen] at this
    rw [wrapId (by omega)] at h1 ⊢
    exact ⟨by omega, by omega, h1, by simp⟩
  · omega
  · exact ⟨good_getD hp.1 (by omega), by omega, by omega⟩
  · have hs := sum_take_le szAttr l (y2.2.1.toNat + 1)
    rw [sum_take szAttr (by omega)] at hs
    rw [lessen_lt (by omega)] at h6
    rw [lessenNeg (by simp only [szL]; omega)]
  · have hw : IntKind.i64.wrap (y2.2.1 + 1) = y2.2.1 + 1 := wrapId (by have := good_len hp.1; simp only [maxLen] at this; omega)
    have h7 : ¬ lessen y2.1 (szAttr (l.getD y2.2.1.toNat default)) < 0 := by omega
    rw [lessen_lt (by omega)] at h7
    rw [hw, toNat1 (by omega), sum_take szAttr (by omega), lessen_ge (by omega)]
    exact ⟨⟨by omega, by omega, by omega, by omega⟩, by omega⟩
  · have e : l.take y2.2.1.toNat = l := List.take_of_length_le (by omega)
    rw [e] at i2
    have hz : ((szL szAttr l : Nat) : Int) = l.length + (l.map szAttr).sum := by simp only [szL]; omega
    rw [lessen_ge (by omega)]
    show y2.1 = n - ((szL szAttr l : Nat) : Int)
    omega)
def E16 : D.Env := E15.add 157 fszAttrS
theorem E16ok : EOk Try.prog E16 := E15ok.add k157_15
-- laws.toAttrS
theorem k160_16 : ftoAttrS.ok Try.prog 160 := Fct.of (S := ftoAttrS) (L := fun ⟨l, _⟩ => fun | 3 => some (LtoS .attr l) | _ => none) (kp := [0,2,3,4,11,1000011]) E16ok Try.func160 (by kernel_rfl) (by kernel_rfl) (by
  rintro ⟨(l : List SAttr), _⟩ hp
  refine holds_of (X := .ob ((↑l.length : Int) = (↑l.length : Int) ∧
  (0 : Int) ≤ (↑l.length : Int) ∧
    (32 : Int) * (↑l.length : Int) ≤ (140737488355328 : Int) ∧ (↑l.length : Int) ≤ (140737488355328 : Int)) <|
 lpx (LtoS .attr l) ((0 : Int), (List.replicate (↑l.length : Int).toNat default, ())) fun (y2 : Int × List SAttr × PUnit) bk2 =>
 .br (decide (y2.fst < (↑l.length : Int)))
  (.ob ((0 : Int) ≤ y2.fst ∧ y2.fst < (↑l.length : Int)) <|
   .ob (ftoAttr.pre (l.getD y2.fst.toNat default, ())) <|
   .lt (SAttr × PUnit) (ftoAttr.fn (l.getD y2.fst.toNat default, ())) fun z2 =>
   .ob ((0 : Int) ≤ y2.fst ∧ y2.fst < (↑y2.snd.fst.length : Int)) <|
    .ob (y2.fst.toNat < y2.snd.fst.length) <|
    .lt (List SAttr) (y2.snd.fst.modify y2.fst.toNat fun z => z2.fst) fun z3 =>
    .ob (l = l) <|
     .ob (bk2 (IntKind.i64.wrap (y2.fst + (1 : Int)), (z3, ()))) <|
     .ok)
  (.leaf (mkR ftoAttrS.rs (y2.snd.fst, ())) [] [])) (by kernel_rfl) ?_
  refine ob_i ?_ fun o1 => lpx_i ?_ fun (y2 : Int × List SAttr × PUnit) i2 => br_i (fun h3 => ob_i ?_ fun o4 => ob_i ?_ fun o5 => lt_i (ob_i ?_ fun o6 => ob_i ?_ fun o7 => lt_i (ob_i rfl fun _ => ob_i ?_ fun o8 => trivial))) (fun h3 => Fct.leafY ?_)
  all_goals try simp only [decide_eq_true_eq, decide_eq_false_iff_not, Bool.not_eq_true', Bool.not_eq_false', bne_iff_ne, bne_eq_false_iff_eq, beq_iff_eq, beq_eq_false_iff_ne, baEq, Int.not_lt, Int.not_le, ne_eq, Decidable.not_not] at *
  all_goals try simp only [LtoS, ftoAttr, ftoAttrS, etaToken, etaNode, etaBuilder, etaPolicy, etaPage, etaVisit, etaTab, etaServer, etaCache, etaNet, etaLoader, etaSheet, etaResult, etaSlot, etaModule, etaAddr, etaRequest, etaResponse, etaConn, etaGuess, etaEntry, etaSent, etaFile, baSz, List.size_toArray, List.length_cons, List.length_nil, Nat.reduceAdd, Int.toNat_zero, List.drop_zero, decide_eq_true_eq, decide_eq_false_iff_not, Bool.not_eq_true', Bool.not_eq_false', bne_iff_ne, bne_eq_false_iff_eq, beq_iff_eq, beq_eq_false_iff_ne, Bool.not_eq_true, Bool.not_eq_false, ne_eq, Decidable.not_not, baEq, decide_not, Prod.mk.injEq, and_true, true_and, Room, List.nil_append, Nat.zero_add, Int.not_lt, Int.not_le] at *
  · have := szL_len szAttr l; omega
  · exact ⟨by omega, by omega, by simp⟩
  · omega
  · have hs := sum_take_le szAttr l (y2.1.toNat + 1)
    rw [sum_take szAttr (by omega)] at hs
    simp only [szL] at hp; omega
  · rw [i2.2.2]; simp; omega
  · rw [i2.2.2]; simp; omega
  · have hw : IntKind.i64.wrap (y2.1 + 1) = y2.1 + 1 := wrapId (by have := szL_len szAttr l; omega)
    rw [hw, toNat1 (by omega), i2.2.2]
    refine ⟨⟨by omega, by omega, ?_⟩, by omega⟩
    rw [show l.length - y2.1.toNat = (l.length - (y2.1.toNat + 1)) + 1 from by omega, List.replicate_succ, mod_at (by simp; omega), take_succ (by omega)]
    simp
  · have e : l.take y2.1.toNat = l := List.take_of_length_le (by omega)
    rw [i2.2.2, e]; simp; omega)
def E17 : D.Env := E16.add 160 ftoAttrS
theorem E17ok : EOk Try.prog E17 := E16ok.add k160_16
-- laws.eqAttrS
set_option maxHeartbeats 2000000 in
theorem k162_17 : feqAttrS.ok Try.prog 162 := Fct.of (S := feqAttrS) (L := fun ⟨l, m, _⟩ => fun | 4 => some (LeqS .attr l m) | _ => none) (kp := [0,1,4,5,10,14,26,1000010,1000014,1000026]) E17ok Try.func162 (by kernel_rfl) (by kernel_rfl) (by
  rintro ⟨(l : List SAttr), (m : List SAttr), _⟩ hp
  refine holds_of (X := .br ((↑l.length : Int) != (↑m.length : Int))
 (.leaf (mkR feqAttrS.rs (false, ())) [] [])
 (lpx (LeqS .attr l m) ((0 : Int), ()) fun (y2 : Int × PUnit) bk2 =>
  .br (decide (y2.fst < (↑l.length : Int)))
   (.ob ((0 : Int) ≤ y2.fst ∧ y2.fst < (↑l.length : Int)) <|
    .ob ((0 : Int) ≤ y2.fst ∧ y2.fst < (↑m.length : Int)) <|
    .ob (feqAttr.pre (l.getD y2.fst.toNat default, m.getD y2.fst.toNat default, ())) <|
    .lt (Bool × PUnit) (feqAttr.fn (l.getD y2.fst.toNat default, m.getD y2.fst.toNat default, ())) fun z2 =>
    .br (!z2.fst)
     (.leaf (mkR feqAttrS.rs (false, ())) [] [])
     (.ob (l = l) <|
      .ob (m = m) <|
      .ob (bk2 (IntKind.i64.wrap (y2.fst + (1 : Int)), ())) <|
      .ok))
   (.leaf (mkR feqAttrS.rs (true, ())) [] []))) (by kernel_rfl) ?_
  refine br_i (fun h1 => Fct.leafY ?_) (fun h1 => lpx_i ?_ fun (y2 : Int × PUnit) i2 => br_i (fun h3 => ob_i ?_ fun o4 => ob_i ?_ fun o5 => ob_i trivial fun _ => lt_i (br_i (fun h6 => Fct.leafY ?_) (fun h6 => ob_i rfl fun _ => ob_i rfl fun _ => ob_i ?_ fun o7 => trivial))) (fun h3 => Fct.leafY ?_))
  all_goals try simp only [decide_eq_true_eq, decide_eq_false_iff_not, Bool.not_eq_true', Bool.not_eq_false', bne_iff_ne, bne_eq_false_iff_eq, beq_iff_eq, beq_eq_false_iff_ne, baEq, Int.not_lt, Int.not_le, ne_eq, Decidable.not_not] at *
  all_goals try simp only [LeqS, feqAttr, feqAttrS, etaToken, etaNode, etaBuilder, etaPolicy, etaPage, etaVisit, etaTab, etaServer, etaCache, etaNet, etaLoader, etaSheet, etaResult, etaSlot, etaModule, etaAddr, etaRequest, etaResponse, etaConn, etaGuess, etaEntry, etaSent, etaFile, baSz, List.size_toArray, List.length_cons, List.length_nil, Nat.reduceAdd, Int.toNat_zero, List.drop_zero, decide_eq_true_eq, decide_eq_false_iff_not, Bool.not_eq_true', Bool.not_eq_false', bne_iff_ne, bne_eq_false_iff_eq, beq_iff_eq, beq_eq_false_iff_ne, Bool.not_eq_true, Bool.not_eq_false, ne_eq, Decidable.not_not, baEq, decide_not, Prod.mk.injEq, and_true, true_and, Room, List.nil_append, Nat.zero_add, Int.not_lt, Int.not_le] at *
  · rw [decide_eq_false]; rintro rfl; omega
  · exact ⟨by omega, by omega, by simp⟩
  · omega
  · omega
  · rw [decide_eq_false]; rintro rfl; exact absurd rfl h6
  · have hw : IntKind.i64.wrap (y2.1 + 1) = y2.1 + 1 := wrapId (by omega)
    rw [hw, toNat1 (by omega)]
    refine ⟨⟨by omega, by omega, ?_⟩, by omega⟩
    rw [take_succ (by omega), take_succ (by omega), i2.2.2, h6]
  · have e : l.take y2.1.toNat = l := List.take_of_length_le (by omega)
    have e2 : m.take y2.1.toNat = m := List.take_of_length_le (by omega)
    rw [decide_eq_true]; rw [← e, ← e2, i2.2.2])
def E18 : D.Env := E17.add 162 feqAttrS
theorem E18ok : EOk Try.prog E18 := E17ok.add k162_17
-- laws.szToken
set_option maxHeartbeats 2000000 in
theorem k109_18 : fszToken.ok Try.prog 109 := Fct.of (S := fszToken) (L := fun _ _ => none) (kp := [1,2,4,11,17,24,1000011,1000017,1000024]) E18ok Try.func109 (by kernel_rfl) (by kernel_rfl) (by
  rintro ⟨(x : SToken), (n : Int), _⟩ hp
  refine holds_of (X := .br (decide (IntKind.i64.wrap (n - (↑x.name.size : Int)) < (0 : Int)))
 (.leaf (mkR fszToken.rs ((-1 : Int), ())) [] [])
 (.ob (fszAttrS.pre (x.attrs, IntKind.i64.wrap (n - (↑x.name.size : Int)), ())) <|
  .lt (Int × PUnit) (fszAttrS.fn (x.attrs, IntKind.i64.wrap (n - (↑x.name.size : Int)), ())) fun z2 =>
  .br (decide (z2.fst < (0 : Int)))
   (.leaf (mkR fszToken.rs ((-1 : Int), ())) [] [])
   (.br (decide (IntKind.i64.wrap (z2.fst - (↑x.text.size : Int)) < (0 : Int)))
    (.leaf (mkR fszToken.rs ((-1 : Int), ())) [] [])
    (.leaf (mkR fszToken.rs (IntKind.i64.wrap (z2.fst - (↑x.text.size : Int)), ())) [] [])))) (by kernel_rfl) ?_
  refine br_i (fun h1 => Fct.leafY ?_) (fun h1 => ob_i ?_ fun o2 => lt_i (br_i (fun h3 => Fct.leafY ?_) (fun h3 => br_i (fun h4 => Fct.leafY ?_) (fun h4 => Fct.leafY ?_))))
  all_goals try simp only [decide_eq_true_eq, decide_eq_false_iff_not, Bool.not_eq_true', Bool.not_eq_false', bne_iff_ne, bne_eq_false_iff_eq, beq_iff_eq, beq_eq_false_iff_ne, baEq, Int.not_lt, Int.not_le, ne_eq, Decidable.not_not] at *
  all_goals try simp only [fszAttrS, fszToken, etaToken, etaNode, etaBuilder, etaPolicy, etaPage, etaVisit, etaTab, etaServer, etaCache, etaNet, etaLoader, etaSheet, etaResult, etaSlot, etaModule, etaAddr, etaRequest, etaResponse, etaConn, etaGuess, etaEntry, etaSent, etaFile, baSz, List.size_toArray, List.length_cons, List.length_nil, Nat.reduceAdd, Int.toNat_zero, List.drop_zero, decide_eq_true_eq, decide_eq_false_iff_not, Bool.not_eq_true', Bool.not_eq_false', bne_iff_ne, bne_eq_false_iff_eq, beq_iff_eq, beq_eq_false_iff_ne, Bool.not_eq_true, Bool.not_eq_false, ne_eq, Decidable.not_not, baEq, decide_not, Prod.mk.injEq, and_true, true_and, Room, List.nil_append, Nat.zero_add, Int.not_lt, Int.not_le, Sh.good, Sh.fc, enc, List.forall_mem_cons, List.not_mem_nil, false_implies, implies_true, goodC, maxLen] at *
  all_goals grind [wrapId', lessen, szL, szToken])
def E19 : D.Env := E18.add 109 fszToken
theorem E19ok : EOk Try.prog E19 := E18ok.add k109_18
-- laws.toToken
theorem k115_19 : ftoToken.ok Try.prog 115 := Fct.of (S := ftoToken) (L := fun _ _ => none) (kp := [1,2,3]) E19ok Try.func115 (by kernel_rfl) (by kernel_rfl) (by
  rintro ⟨(x : SToken), _⟩ hp
  refine holds_of (X := .ob (ftoAttrS.pre (x.attrs, ())) <|
 .lt (List SAttr × PUnit) (ftoAttrS.fn (x.attrs, ())) fun z2 =>
 .leaf (mkR ftoToken.rs (⟨x.kind, x.name, z2.fst, x.text⟩, ())) [] []) (by kernel_rfl) ?_
  refine ob_i ?_ fun o1 => lt_i (Fct.leafY ?_)
  all_goals try simp only [decide_eq_true_eq, decide_eq_false_iff_not, Bool.not_eq_true', Bool.not_eq_false', bne_iff_ne, bne_eq_false_iff_eq, beq_iff_eq, beq_eq_false_iff_ne, baEq, Int.not_lt, Int.not_le, ne_eq, Decidable.not_not] at *
  all_goals try simp only [ftoAttrS, ftoToken, etaToken, etaNode, etaBuilder, etaPolicy, etaPage, etaVisit, etaTab, etaServer, etaCache, etaNet, etaLoader, etaSheet, etaResult, etaSlot, etaModule, etaAddr, etaRequest, etaResponse, etaConn, etaGuess, etaEntry, etaSent, etaFile, baSz, List.size_toArray, List.length_cons, List.length_nil, Nat.reduceAdd, Int.toNat_zero, List.drop_zero, decide_eq_true_eq, decide_eq_false_iff_not, Bool.not_eq_true', Bool.not_eq_false', bne_iff_ne, bne_eq_false_iff_eq, beq_iff_eq, beq_eq_false_iff_ne, Bool.not_eq_true, Bool.not_eq_false, ne_eq, Decidable.not_not, baEq, decide_not, Prod.mk.injEq, and_true, true_and, Room, List.nil_append, Nat.zero_add, Int.not_lt, Int.not_le] at *
  all_goals first | trivial | rfl | grind [szL, szToken])
def E20 : D.Env := E19.add 115 ftoToken
theorem E20ok : EOk Try.prog E20 := E19ok.add k115_19
-- laws.eqToken
set_option maxHeartbeats 2000000 in
theorem k121_20 : feqToken.ok Try.prog 121 := Fct.of (S := feqToken) (L := fun _ _ => none) (kp := [2,3,4,9,14,20,25,1000009,1000014,1000020,1000025]) E20ok Try.func121 (by kernel_rfl) (by kernel_rfl) (by
  rintro ⟨(x : SToken), (y : SToken), _⟩ hp
  refine holds_of (X := .br (x.kind != y.kind)
 (.leaf (mkR feqToken.rs (false, ())) [] [])
 (.br (!x.name.toList == y.name.toList)
  (.leaf (mkR feqToken.rs (false, ())) [] [])
  (.ob (feqAttrS.pre (x.attrs, y.attrs, ())) <|
   .lt (Bool × PUnit) (feqAttrS.fn (x.attrs, y.attrs, ())) fun z2 =>
   .br (!z2.fst)
    (.leaf (mkR feqToken.rs (false, ())) [] [])
    (.br (!x.text.toList == y.text.toList)
     (.leaf (mkR feqToken.rs (false, ())) [] [])
     (.leaf (mkR feqToken.rs (true, ())) [] []))))) (by kernel_rfl) ?_
  refine br_i (fun h1 => Fct.leafY ?_) (fun h1 => br_i (fun h2 => Fct.leafY ?_) (fun h2 => ob_i ?_ fun o3 => lt_i (br_i (fun h4 => Fct.leafY ?_) (fun h4 => br_i (fun h5 => Fct.leafY ?_) (fun h5 => Fct.leafY ?_)))))
  all_goals try simp only [decide_eq_true_eq, decide_eq_false_iff_not, Bool.not_eq_true', Bool.not_eq_false', bne_iff_ne, bne_eq_false_iff_eq, beq_iff_eq, beq_eq_false_iff_ne, baEq, Int.not_lt, Int.not_le, ne_eq, Decidable.not_not] at *
  all_goals try simp only [feqAttrS, feqToken, etaToken, etaNode, etaBuilder, etaPolicy, etaPage, etaVisit, etaTab, etaServer, etaCache, etaNet, etaLoader, etaSheet, etaResult, etaSlot, etaModule, etaAddr, etaRequest, etaResponse, etaConn, etaGuess, etaEntry, etaSent, etaFile, baSz, List.size_toArray, List.length_cons, List.length_nil, Nat.reduceAdd, Int.toNat_zero, List.drop_zero, decide_eq_true_eq, decide_eq_false_iff_not, Bool.not_eq_true', Bool.not_eq_false', bne_iff_ne, bne_eq_false_iff_eq, beq_iff_eq, beq_eq_false_iff_ne, Bool.not_eq_true, Bool.not_eq_false, ne_eq, Decidable.not_not, baEq, decide_not, Prod.mk.injEq, and_true, true_and, Room, List.nil_append, Nat.zero_add, Int.not_lt, Int.not_le] at *
  all_goals first | trivial | (cases x; cases y; simp_all; done) | (simp only [szL, szToken] at *; omega) | grind [szL, szToken])
def E21 : D.Env := E20.add 121 feqToken
theorem E21ok : EOk Try.prog E21 := E20ok.add k121_20
-- laws.szTokenS
set_option maxHeartbeats 2000000 in
theorem k46_21 : fszTokenS.ok Try.prog 46 := Fct.of (S := fszTokenS) (L := fun ⟨l, n, _⟩ => fun | 5 => some (LszS .token szToken l n) | _ => none) (kp := [0,1,4,5,11,15,25,1000011,1000015,1000025]) E21ok Try.func46 (by kernel_rfl) (by kernel_rfl) (by
  rintro ⟨(l : List SToken), (n : Int), _⟩ hp
  refine holds_of (X := .br (decide (IntKind.i64.wrap (n - (↑l.length : Int)) < (0 : Int)))
 (.leaf (mkR fszTokenS.rs ((-1 : Int), ())) [] [])
 (lpx (LszS .token szToken l n) (IntKind.i64.wrap (n - (↑l.length : Int)), ((0 : Int), ())) fun (y2 : Int × Int × PUnit) bk2 =>
  .br (decide (y2.snd.fst < (↑l.length : Int)))
   (.ob ((0 : Int) ≤ y2.snd.fst ∧ y2.snd.fst < (↑l.length : Int)) <|
    .ob (fszToken.pre (l.getD y2.snd.fst.toNat default, y2.fst, ())) <|
    .lt (Int × PUnit) (fszToken.fn (l.getD y2.snd.fst.toNat default, y2.fst, ())) fun z2 =>
    .br (decide (z2.fst < (0 : Int)))
     (.leaf (mkR fszTokenS.rs ((-1 : Int), ())) [] [])
     (.ob (l = l) <|
      .ob (bk2 (z2.fst, (IntKind.i64.wrap (y2.snd.fst + (1 : Int)), ()))) <|
      .ok))
   (.leaf (mkR fszTokenS.rs (y2.fst, ())) [] []))) (by kernel_rfl) ?_
  refine br_i (fun h1 => Fct.leafY ?_) (fun h1 => lpx_i ?_ fun (y2 : Int × Int × PUnit) i2 => br_i (fun h3 => ob_i ?_ fun o4 => ob_i ?_ fun o5 => lt_i (br_i (fun h6 => Fct.leafY ?_) (fun h6 => ob_i rfl fun _ => ob_i ?_ fun o7 => trivial))) (fun h3 => Fct.leafY ?_))
  all_goals try simp only [decide_eq_true_eq, decide_eq_false_iff_not, Bool.not_eq_true', Bool.not_eq_false', bne_iff_ne, bne_eq_false_iff_eq, beq_iff_eq, beq_eq_false_iff_ne, baEq, Int.not_lt, Int.not_le, ne_eq, Decidable.not_not] at *
  all_goals try simp only [LszS, fszToken, fszTokenS, etaToken, etaNode, etaBuilder, etaPolicy, etaPage, etaVisit, etaTab, etaServer, etaCache, etaNet, etaLoader, etaSheet, etaResult, etaSlot, etaModule, etaAddr, etaRequest, etaResponse, etaConn, etaGuess, etaEntry, etaSent, etaFile, baSz, List.size_toArray, List.length_cons, List.length_nil, Nat.reduceAdd, Int.toNat_zero, List.drop_zero, decide_eq_true_eq, decide_eq_false_iff_not, Bool.not_eq_true', Bool.not_eq_false', bne_iff_ne, bne_eq_false_iff_eq, beq_iff_eq, beq_eq_false_iff_ne, Bool.not_eq_true, Bool.not_eq_false, ne_eq, Decidable.not_not, baEq, decide_not, Prod.mk.injEq, and_true, true_and, Room, List.nil_append, Nat.zero_add, Int.not_lt, Int.not_le] at *
  · have := good_len hp.1; simp only [maxLen] at this; rw [wrapId (by omega)] at h1
    rw [lessenNeg (by simp only [szL]; omega)]
  · have := good_len hp.1; simp only [maxLen] at this
    rw [wrapId (by omega)] at h1 ⊢
    exact ⟨by omega, by omega, h1, by simp⟩
  · omega
  · exact ⟨good_getD hp.1 (by omega), by omega, by omega⟩
  · have hs := sum_take_le szToken l (y2.2.1.toNat + 1)
    rw [sum_take szToken (by omega)] at hs
    rw [lessen_lt (by omega)] at h6
    rw [lessenNeg (by simp only [szL]; omega)]
  · have hw : IntKind.i64.wrap (y2.2.1 + 1) = y2.2.1 + 1 := wrapId (by have := good_len hp.1; simp only [maxLen] at this; omega)
    have h7 : ¬ lessen y2.1 (szToken (l.getD y2.2.1.toNat default)) < 0 := by omega
    rw [lessen_lt (by omega)] at h7
    rw [hw, toNat1 (by omega), sum_take szToken (by omega), lessen_ge (by omega)]
    exact ⟨⟨by omega, by omega, by omega, by omega⟩, by omega⟩
  · have e : l.take y2.2.1.toNat = l := List.take_of_length_le (by omega)
    rw [e] at i2
    have hz : ((szL szToken l : Nat) : Int) = l.length + (l.map szToken).sum := by simp only [szL]; omega
    rw [lessen_ge (by omega)]
    show y2.1 = n - ((szL szToken l : Nat) : Int)
    omega)
def E22 : D.Env := E21.add 46 fszTokenS
theorem E22ok : EOk Try.prog E22 := E21ok.add k46_21
-- laws.toTokenS
theorem k57_22 : ftoTokenS.ok Try.prog 57 := Fct.of (S := ftoTokenS) (L := fun ⟨l, _⟩ => fun | 3 => some (LtoS .token l) | _ => none) (kp := [0,2,3,4,11,1000011]) E22ok Try.func57 (by kernel_rfl) (by kernel_rfl) (by
  rintro ⟨(l : List SToken), _⟩ hp
  refine holds_of (X := .ob ((↑l.length : Int) = (↑l.length : Int) ∧
  (0 : Int) ≤ (↑l.length : Int) ∧
    (64 : Int) * (↑l.length : Int) ≤ (140737488355328 : Int) ∧ (↑l.length : Int) ≤ (140737488355328 : Int)) <|
 lpx (LtoS .token l) ((0 : Int), (List.replicate (↑l.length : Int).toNat default, ())) fun (y2 : Int × List SToken × PUnit) bk2 =>
 .br (decide (y2.fst < (↑l.length : Int)))
  (.ob ((0 : Int) ≤ y2.fst ∧ y2.fst < (↑l.length : Int)) <|
   .ob (ftoToken.pre (l.getD y2.fst.toNat default, ())) <|
   .lt (SToken × PUnit) (ftoToken.fn (l.getD y2.fst.toNat default, ())) fun z2 =>
   .ob ((0 : Int) ≤ y2.fst ∧ y2.fst < (↑y2.snd.fst.length : Int)) <|
    .ob (y2.fst.toNat < y2.snd.fst.length) <|
    .lt (List SToken) (y2.snd.fst.modify y2.fst.toNat fun z => z2.fst) fun z3 =>
    .ob (l = l) <|
     .ob (bk2 (IntKind.i64.wrap (y2.fst + (1 : Int)), (z3, ()))) <|
     .ok)
  (.leaf (mkR ftoTokenS.rs (y2.snd.fst, ())) [] [])) (by kernel_rfl) ?_
  refine ob_i ?_ fun o1 => lpx_i ?_ fun (y2 : Int × List SToken × PUnit) i2 => br_i (fun h3 => ob_i ?_ fun o4 => ob_i ?_ fun o5 => lt_i (ob_i ?_ fun o6 => ob_i ?_ fun o7 => lt_i (ob_i rfl fun _ => ob_i ?_ fun o8 => trivial))) (fun h3 => Fct.leafY ?_)
  all_goals try simp only [decide_eq_true_eq, decide_eq_false_iff_not, Bool.not_eq_true', Bool.not_eq_false', bne_iff_ne, bne_eq_false_iff_eq, beq_iff_eq, beq_eq_false_iff_ne, baEq, Int.not_lt, Int.not_le, ne_eq, Decidable.not_not] at *
  all_goals try simp only [LtoS, ftoToken, ftoTokenS, etaToken, etaNode, etaBuilder, etaPolicy, etaPage, etaVisit, etaTab, etaServer, etaCache, etaNet, etaLoader, etaSheet, etaResult, etaSlot, etaModule, etaAddr, etaRequest, etaResponse, etaConn, etaGuess, etaEntry, etaSent, etaFile, baSz, List.size_toArray, List.length_cons, List.length_nil, Nat.reduceAdd, Int.toNat_zero, List.drop_zero, decide_eq_true_eq, decide_eq_false_iff_not, Bool.not_eq_true', Bool.not_eq_false', bne_iff_ne, bne_eq_false_iff_eq, beq_iff_eq, beq_eq_false_iff_ne, Bool.not_eq_true, Bool.not_eq_false, ne_eq, Decidable.not_not, baEq, decide_not, Prod.mk.injEq, and_true, true_and, Room, List.nil_append, Nat.zero_add, Int.not_lt, Int.not_le] at *
  · have := szL_len szToken l; omega
  · exact ⟨by omega, by omega, by simp⟩
  · omega
  · have hs := sum_take_le szToken l (y2.1.toNat + 1)
    rw [sum_take szToken (by omega)] at hs
    simp only [szL] at hp; omega
  · rw [i2.2.2]; simp; omega
  · rw [i2.2.2]; simp; omega
  · have hw : IntKind.i64.wrap (y2.1 + 1) = y2.1 + 1 := wrapId (by have := szL_len szToken l; omega)
    rw [hw, toNat1 (by omega), i2.2.2]
    refine ⟨⟨by omega, by omega, ?_⟩, by omega⟩
    rw [show l.length - y2.1.toNat = (l.length - (y2.1.toNat + 1)) + 1 from by omega, List.replicate_succ, mod_at (by simp; omega), take_succ (by omega)]
    simp
  · have e : l.take y2.1.toNat = l := List.take_of_length_le (by omega)
    rw [i2.2.2, e]; simp; omega)
def E23 : D.Env := E22.add 57 ftoTokenS
theorem E23ok : EOk Try.prog E23 := E22ok.add k57_22
-- laws.eqTokenS
set_option maxHeartbeats 2000000 in
theorem k68_23 : feqTokenS.ok Try.prog 68 := Fct.of (S := feqTokenS) (L := fun ⟨l, m, _⟩ => fun | 4 => some (LeqS .token l m) | _ => none) (kp := [0,1,4,5,10,14,26,1000010,1000014,1000026]) E23ok Try.func68 (by kernel_rfl) (by kernel_rfl) (by
  rintro ⟨(l : List SToken), (m : List SToken), _⟩ hp
  refine holds_of (X := .br ((↑l.length : Int) != (↑m.length : Int))
 (.leaf (mkR feqTokenS.rs (false, ())) [] [])
 (lpx (LeqS .token l m) ((0 : Int), ()) fun (y2 : Int × PUnit) bk2 =>
  .br (decide (y2.fst < (↑l.length : Int)))
   (.ob ((0 : Int) ≤ y2.fst ∧ y2.fst < (↑l.length : Int)) <|
    .ob ((0 : Int) ≤ y2.fst ∧ y2.fst < (↑m.length : Int)) <|
    .ob (feqToken.pre (l.getD y2.fst.toNat default, m.getD y2.fst.toNat default, ())) <|
    .lt (Bool × PUnit) (feqToken.fn (l.getD y2.fst.toNat default, m.getD y2.fst.toNat default, ())) fun z2 =>
    .br (!z2.fst)
     (.leaf (mkR feqTokenS.rs (false, ())) [] [])
     (.ob (l = l) <|
      .ob (m = m) <|
      .ob (bk2 (IntKind.i64.wrap (y2.fst + (1 : Int)), ())) <|
      .ok))
   (.leaf (mkR feqTokenS.rs (true, ())) [] []))) (by kernel_rfl) ?_
  refine br_i (fun h1 => Fct.leafY ?_) (fun h1 => lpx_i ?_ fun (y2 : Int × PUnit) i2 => br_i (fun h3 => ob_i ?_ fun o4 => ob_i ?_ fun o5 => ob_i ?_ fun o6 => lt_i (br_i (fun h7 => Fct.leafY ?_) (fun h7 => ob_i rfl fun _ => ob_i rfl fun _ => ob_i ?_ fun o8 => trivial))) (fun h3 => Fct.leafY ?_))
  all_goals try simp only [decide_eq_true_eq, decide_eq_false_iff_not, Bool.not_eq_true', Bool.not_eq_false', bne_iff_ne, bne_eq_false_iff_eq, beq_iff_eq, beq_eq_false_iff_ne, baEq, Int.not_lt, Int.not_le, ne_eq, Decidable.not_not] at *
  all_goals try simp only [LeqS, feqToken, feqTokenS, etaToken, etaNode, etaBuilder, etaPolicy, etaPage, etaVisit, etaTab, etaServer, etaCache, etaNet, etaLoader, etaSheet, etaResult, etaSlot, etaModule, etaAddr, etaRequest, etaResponse, etaConn, etaGuess, etaEntry, etaSent, etaFile, baSz, List.size_toArray, List.length_cons, List.length_nil, Nat.reduceAdd, Int.toNat_zero, List.drop_zero, decide_eq_true_eq, decide_eq_false_iff_not, Bool.not_eq_true', Bool.not_eq_false', bne_iff_ne, bne_eq_false_iff_eq, beq_iff_eq, beq_eq_false_iff_ne, Bool.not_eq_true, Bool.not_eq_false, ne_eq, Decidable.not_not, baEq, decide_not, Prod.mk.injEq, and_true, true_and, Room, List.nil_append, Nat.zero_add, Int.not_lt, Int.not_le] at *
  all_goals have hl := szL_len szToken l
  · rw [decide_eq_false]; rintro rfl; omega
  · exact ⟨by omega, by omega, by simp⟩
  · omega
  · omega
  · have hs := szL_get szToken (l := l) (i := y2.1.toNat) (by omega); omega
  · rw [decide_eq_false]; rintro rfl; first | exact absurd rfl h6 | exact absurd rfl h7
  · have hw : IntKind.i64.wrap (y2.1 + 1) = y2.1 + 1 := wrapId (by omega)
    rw [hw, toNat1 (by omega)]
    refine ⟨⟨by omega, by omega, ?_⟩, by omega⟩
    rw [take_succ (by omega), take_succ (by omega), i2.2.2]; first | rw [h6] | rw [h7]
  · have e : l.take y2.1.toNat = l := List.take_of_length_le (by omega)
    have e2 : m.take y2.1.toNat = m := List.take_of_length_le (by omega)
    rw [decide_eq_true]; rw [← e, ← e2, i2.2.2])
def E24 : D.Env := E23.add 68 feqTokenS
theorem E24ok : EOk Try.prog E24 := E23ok.add k68_23
-- laws.szTokenizer
set_option maxHeartbeats 2000000 in
theorem k45_24 : fszTokenizer.ok Try.prog 45 := Fct.of (S := fszTokenizer) (L := fun _ _ => none) (kp := [1,2,4,11,1000011]) E24ok Try.func45 (by kernel_rfl) (by kernel_rfl) (by
  rintro ⟨(x : STokenizer), (n : Int), _⟩ hp
  refine holds_of (X := .br (decide (IntKind.i64.wrap (n - (↑x.rest.size : Int)) < (0 : Int)))
 (.leaf (mkR fszTokenizer.rs ((-1 : Int), ())) [] [])
 (.leaf (mkR fszTokenizer.rs (IntKind.i64.wrap (n - (↑x.rest.size : Int)), ())) [] [])) (by kernel_rfl) ?_
  refine br_i (fun h1 => Fct.leafY ?_) (fun h1 => Fct.leafY ?_)
  all_goals try simp only [decide_eq_true_eq, decide_eq_false_iff_not, Bool.not_eq_true', Bool.not_eq_false', bne_iff_ne, bne_eq_false_iff_eq, beq_iff_eq, beq_eq_false_iff_ne, baEq, Int.not_lt, Int.not_le, ne_eq, Decidable.not_not] at *
  all_goals try simp only [fszTokenizer, etaToken, etaNode, etaBuilder, etaPolicy, etaPage, etaVisit, etaTab, etaServer, etaCache, etaNet, etaLoader, etaSheet, etaResult, etaSlot, etaModule, etaAddr, etaRequest, etaResponse, etaConn, etaGuess, etaEntry, etaSent, etaFile, baSz, List.size_toArray, List.length_cons, List.length_nil, Nat.reduceAdd, Int.toNat_zero, List.drop_zero, decide_eq_true_eq, decide_eq_false_iff_not, Bool.not_eq_true', Bool.not_eq_false', bne_iff_ne, bne_eq_false_iff_eq, beq_iff_eq, beq_eq_false_iff_ne, Bool.not_eq_true, Bool.not_eq_false, ne_eq, Decidable.not_not, baEq, decide_not, Prod.mk.injEq, and_true, true_and, Room, List.nil_append, Nat.zero_add, Int.not_lt, Int.not_le, Sh.good, Sh.fc, enc, List.forall_mem_cons, List.not_mem_nil, false_implies, implies_true, goodC, maxLen] at *
  all_goals grind [wrapId', lessen, szTokenizer])
def E25 : D.Env := E24.add 45 fszTokenizer
theorem E25ok : EOk Try.prog E25 := E24ok.add k45_24
-- laws.toTokenizer
theorem k56_25 : ftoTokenizer.ok Try.prog 56 := Fct.of (S := ftoTokenizer) (L := fun _ _ => none) (kp := [1,2,3]) E25ok Try.func56 (by kernel_rfl) (by kernel_rfl) (by
  rintro ⟨(x : STokenizer), _⟩ hp
  refine holds_of (X := .leaf (mkR ftoTokenizer.rs (x, ())) [] []) (by kernel_rfl) ?_
  refine Fct.leafY ?_
  all_goals try simp only [decide_eq_true_eq, decide_eq_false_iff_not, Bool.not_eq_true', Bool.not_eq_false', bne_iff_ne, bne_eq_false_iff_eq, beq_iff_eq, beq_eq_false_iff_ne, baEq, Int.not_lt, Int.not_le, ne_eq, Decidable.not_not] at *
  all_goals try simp only [ftoTokenizer, etaToken, etaNode, etaBuilder, etaPolicy, etaPage, etaVisit, etaTab, etaServer, etaCache, etaNet, etaLoader, etaSheet, etaResult, etaSlot, etaModule, etaAddr, etaRequest, etaResponse, etaConn, etaGuess, etaEntry, etaSent, etaFile, baSz, List.size_toArray, List.length_cons, List.length_nil, Nat.reduceAdd, Int.toNat_zero, List.drop_zero, decide_eq_true_eq, decide_eq_false_iff_not, Bool.not_eq_true', Bool.not_eq_false', bne_iff_ne, bne_eq_false_iff_eq, beq_iff_eq, beq_eq_false_iff_ne, Bool.not_eq_true, Bool.not_eq_false, ne_eq, Decidable.not_not, baEq, decide_not, Prod.mk.injEq, and_true, true_and, Room, List.nil_append, Nat.zero_add, Int.not_lt, Int.not_le] at *
  all_goals first | trivial | rfl | grind [szTokenizer])
def E26 : D.Env := E25.add 56 ftoTokenizer
theorem E26ok : EOk Try.prog E26 := E25ok.add k56_25
-- laws.eqTokenizer
set_option maxHeartbeats 2000000 in
theorem k67_26 : feqTokenizer.ok Try.prog 67 := Fct.of (S := feqTokenizer) (L := fun _ _ => none) (kp := [2,3,4,9,1000009]) E26ok Try.func67 (by kernel_rfl) (by kernel_rfl) (by
  rintro ⟨(x : STokenizer), (y : STokenizer), _⟩ hp
  refine holds_of (X := .br (!x.rest.toList == y.rest.toList)
 (.leaf (mkR feqTokenizer.rs (false, ())) [] [])
 (.leaf (mkR feqTokenizer.rs (true, ())) [] [])) (by kernel_rfl) ?_
  refine br_i (fun h1 => Fct.leafY ?_) (fun h1 => Fct.leafY ?_)
  all_goals try simp only [decide_eq_true_eq, decide_eq_false_iff_not, Bool.not_eq_true', Bool.not_eq_false', bne_iff_ne, bne_eq_false_iff_eq, beq_iff_eq, beq_eq_false_iff_ne, baEq, Int.not_lt, Int.not_le, ne_eq, Decidable.not_not] at *
  all_goals try simp only [feqTokenizer, etaToken, etaNode, etaBuilder, etaPolicy, etaPage, etaVisit, etaTab, etaServer, etaCache, etaNet, etaLoader, etaSheet, etaResult, etaSlot, etaModule, etaAddr, etaRequest, etaResponse, etaConn, etaGuess, etaEntry, etaSent, etaFile, baSz, List.size_toArray, List.length_cons, List.length_nil, Nat.reduceAdd, Int.toNat_zero, List.drop_zero, decide_eq_true_eq, decide_eq_false_iff_not, Bool.not_eq_true', Bool.not_eq_false', bne_iff_ne, bne_eq_false_iff_eq, beq_iff_eq, beq_eq_false_iff_ne, Bool.not_eq_true, Bool.not_eq_false, ne_eq, Decidable.not_not, baEq, decide_not, Prod.mk.injEq, and_true, true_and, Room, List.nil_append, Nat.zero_add, Int.not_lt, Int.not_le] at *
  all_goals first | trivial | (cases x; cases y; simp_all; done) | (simp only [szTokenizer] at *; omega) | grind [szTokenizer])
def E27 : D.Env := E26.add 67 feqTokenizer
theorem E27ok : EOk Try.prog E27 := E26ok.add k67_26
-- laws.szNode
set_option maxHeartbeats 2000000 in
theorem k158_27 : fszNode.ok Try.prog 158 := Fct.of (S := fszNode) (L := fun _ _ => none) (kp := [1,2,4,11,18,24,1000011,1000018,1000024]) E27ok Try.func158 (by kernel_rfl) (by kernel_rfl) (by
  rintro ⟨(x : SNode), (n : Int), _⟩ hp
  refine holds_of (X := .br (decide (IntKind.i64.wrap (n - (↑x.name.size : Int)) < (0 : Int)))
 (.leaf (mkR fszNode.rs ((-1 : Int), ())) [] [])
 (.br (decide (IntKind.i64.wrap (IntKind.i64.wrap (n - (↑x.name.size : Int)) - (↑x.text.size : Int)) < (0 : Int)))
  (.leaf (mkR fszNode.rs ((-1 : Int), ())) [] [])
  (.ob (fszAttrS.pre (x.attrs, IntKind.i64.wrap (IntKind.i64.wrap (n - (↑x.name.size : Int)) - (↑x.text.size : Int)), ())) <|
   .lt (Int × PUnit) (fszAttrS.fn (x.attrs, IntKind.i64.wrap (IntKind.i64.wrap (n - (↑x.name.size : Int)) - (↑x.text.size : Int)), ())) fun z2 =>
   .br (decide (z2.fst < (0 : Int)))
    (.leaf (mkR fszNode.rs ((-1 : Int), ())) [] [])
    (.leaf (mkR fszNode.rs (z2.fst, ())) [] [])))) (by kernel_rfl) ?_
  refine br_i (fun h1 => Fct.leafY ?_) (fun h1 => br_i (fun h2 => Fct.leafY ?_) (fun h2 => ob_i ?_ fun o3 => lt_i (br_i (fun h4 => Fct.leafY ?_) (fun h4 => Fct.leafY ?_))))
  all_goals try simp only [decide_eq_true_eq, decide_eq_false_iff_not, Bool.not_eq_true', Bool.not_eq_false', bne_iff_ne, bne_eq_false_iff_eq, beq_iff_eq, beq_eq_false_iff_ne, baEq, Int.not_lt, Int.not_le, ne_eq, Decidable.not_not] at *
  all_goals try simp only [fszAttrS, fszNode, etaToken, etaNode, etaBuilder, etaPolicy, etaPage, etaVisit, etaTab, etaServer, etaCache, etaNet, etaLoader, etaSheet, etaResult, etaSlot, etaModule, etaAddr, etaRequest, etaResponse, etaConn, etaGuess, etaEntry, etaSent, etaFile, baSz, List.size_toArray, List.length_cons, List.length_nil, Nat.reduceAdd, Int.toNat_zero, List.drop_zero, decide_eq_true_eq, decide_eq_false_iff_not, Bool.not_eq_true', Bool.not_eq_false', bne_iff_ne, bne_eq_false_iff_eq, beq_iff_eq, beq_eq_false_iff_ne, Bool.not_eq_true, Bool.not_eq_false, ne_eq, Decidable.not_not, baEq, decide_not, Prod.mk.injEq, and_true, true_and, Room, List.nil_append, Nat.zero_add, Int.not_lt, Int.not_le, Sh.good, Sh.fc, enc, List.forall_mem_cons, List.not_mem_nil, false_implies, implies_true, goodC, maxLen] at *
  all_goals grind [wrapId', lessen, szL, szNode])
def E28 : D.Env := E27.add 158 fszNode
theorem E28ok : EOk Try.prog E28 := E27ok.add k158_27
-- laws.toNode
theorem k161_28 : ftoNode.ok Try.prog 161 := Fct.of (S := ftoNode) (L := fun _ _ => none) (kp := [1,2,3]) E28ok Try.func161 (by kernel_rfl) (by kernel_rfl) (by
  rintro ⟨(x : SNode), _⟩ hp
  refine holds_of (X := .ob (ftoAttrS.pre (x.attrs, ())) <|
 .lt (List SAttr × PUnit) (ftoAttrS.fn (x.attrs, ())) fun z2 =>
 .leaf (mkR ftoNode.rs (⟨x.name, x.text, x.parent, z2.fst⟩, ())) [] []) (by kernel_rfl) ?_
  refine ob_i ?_ fun o1 => lt_i (Fct.leafY ?_)
  all_goals try simp only [decide_eq_true_eq, decide_eq_false_iff_not, Bool.not_eq_true', Bool.not_eq_false', bne_iff_ne, bne_eq_false_iff_eq, beq_iff_eq, beq_eq_false_iff_ne, baEq, Int.not_lt, Int.not_le, ne_eq, Decidable.not_not] at *
  all_goals try simp only [ftoAttrS, ftoNode, etaToken, etaNode, etaBuilder, etaPolicy, etaPage, etaVisit, etaTab, etaServer, etaCache, etaNet, etaLoader, etaSheet, etaResult, etaSlot, etaModule, etaAddr, etaRequest, etaResponse, etaConn, etaGuess, etaEntry, etaSent, etaFile, baSz, List.size_toArray, List.length_cons, List.length_nil, Nat.reduceAdd, Int.toNat_zero, List.drop_zero, decide_eq_true_eq, decide_eq_false_iff_not, Bool.not_eq_true', Bool.not_eq_false', bne_iff_ne, bne_eq_false_iff_eq, beq_iff_eq, beq_eq_false_iff_ne, Bool.not_eq_true, Bool.not_eq_false, ne_eq, Decidable.not_not, baEq, decide_not, Prod.mk.injEq, and_true, true_and, Room, List.nil_append, Nat.zero_add, Int.not_lt, Int.not_le] at *
  all_goals first | trivial | rfl | grind [szL, szNode])
def E29 : D.Env := E28.add 161 ftoNode
theorem E29ok : EOk Try.prog E29 := E28ok.add k161_28
-- laws.eqNode
set_option maxHeartbeats 2000000 in
theorem k163_29 : feqNode.ok Try.prog 163 := Fct.of (S := feqNode) (L := fun _ _ => none) (kp := [2,3,4,9,14,19,25,1000009,1000014,1000019,1000025]) E29ok Try.func163 (by kernel_rfl) (by kernel_rfl) (by
  rintro ⟨(x : SNode), (y : SNode), _⟩ hp
  refine holds_of (X := .br (!x.name.toList == y.name.toList)
 (.leaf (mkR feqNode.rs (false, ())) [] [])
 (.br (!x.text.toList == y.text.toList)
  (.leaf (mkR feqNode.rs (false, ())) [] [])
  (.br (x.parent != y.parent)
   (.leaf (mkR feqNode.rs (false, ())) [] [])
   (.ob (feqAttrS.pre (x.attrs, y.attrs, ())) <|
    .lt (Bool × PUnit) (feqAttrS.fn (x.attrs, y.attrs, ())) fun z2 =>
    .br (!z2.fst)
     (.leaf (mkR feqNode.rs (false, ())) [] [])
     (.leaf (mkR feqNode.rs (true, ())) [] []))))) (by kernel_rfl) ?_
  refine br_i (fun h1 => Fct.leafY ?_) (fun h1 => br_i (fun h2 => Fct.leafY ?_) (fun h2 => br_i (fun h3 => Fct.leafY ?_) (fun h3 => ob_i ?_ fun o4 => lt_i (br_i (fun h5 => Fct.leafY ?_) (fun h5 => Fct.leafY ?_)))))
  all_goals try simp only [decide_eq_true_eq, decide_eq_false_iff_not, Bool.not_eq_true', Bool.not_eq_false', bne_iff_ne, bne_eq_false_iff_eq, beq_iff_eq, beq_eq_false_iff_ne, baEq, Int.not_lt, Int.not_le, ne_eq, Decidable.not_not] at *
  all_goals try simp only [feqAttrS, feqNode, etaToken, etaNode, etaBuilder, etaPolicy, etaPage, etaVisit, etaTab, etaServer, etaCache, etaNet, etaLoader, etaSheet, etaResult, etaSlot, etaModule, etaAddr, etaRequest, etaResponse, etaConn, etaGuess, etaEntry, etaSent, etaFile, baSz, List.size_toArray, List.length_cons, List.length_nil, Nat.reduceAdd, Int.toNat_zero, List.drop_zero, decide_eq_true_eq, decide_eq_false_iff_not, Bool.not_eq_true', Bool.not_eq_false', bne_iff_ne, bne_eq_false_iff_eq, beq_iff_eq, beq_eq_false_iff_ne, Bool.not_eq_true, Bool.not_eq_false, ne_eq, Decidable.not_not, baEq, decide_not, Prod.mk.injEq, and_true, true_and, Room, List.nil_append, Nat.zero_add, Int.not_lt, Int.not_le] at *
  all_goals first | trivial | (cases x; cases y; simp_all; done) | (simp only [szL, szNode] at *; omega) | grind [szL, szNode])
def E30 : D.Env := E29.add 163 feqNode
theorem E30ok : EOk Try.prog E30 := E29ok.add k163_29
-- laws.szNodeS
set_option maxHeartbeats 2000000 in
theorem k110_30 : fszNodeS.ok Try.prog 110 := Fct.of (S := fszNodeS) (L := fun ⟨l, n, _⟩ => fun | 5 => some (LszS .node szNode l n) | _ => none) (kp := [0,1,4,5,11,15,25,1000011,1000015,1000025]) E30ok Try.func110 (by kernel_rfl) (by kernel_rfl) (by
  rintro ⟨(l : List SNode), (n : Int), _⟩ hp
  refine holds_of (X := .br (decide (IntKind.i64.wrap (n - (↑l.length : Int)) < (0 : Int)))
 (.leaf (mkR fszNodeS.rs ((-1 : Int), ())) [] [])
 (lpx (LszS .node szNode l n) (IntKind.i64.wrap (n - (↑l.length : Int)), ((0 : Int), ())) fun (y2 : Int × Int × PUnit) bk2 =>
  .br (decide (y2.snd.fst < (↑l.length : Int)))
   (.ob ((0 : Int) ≤ y2.snd.fst ∧ y2.snd.fst < (↑l.length : Int)) <|
    .ob (fszNode.pre (l.getD y2.snd.fst.toNat default, y2.fst, ())) <|
    .lt (Int × PUnit) (fszNode.fn (l.getD y2.snd.fst.toNat default, y2.fst, ())) fun z2 =>
    .br (decide (z2.fst < (0 : Int)))
     (.leaf (mkR fszNodeS.rs ((-1 : Int), ())) [] [])
     (.ob (l = l) <|
      .ob (bk2 (z2.fst, (IntKind.i64.wrap (y2.snd.fst + (1 : Int)), ()))) <|
      .ok))
   (.leaf (mkR fszNodeS.rs (y2.fst, ())) [] []))) (by kernel_rfl) ?_
  refine br_i (fun h1 => Fct.leafY ?_) (fun h1 => lpx_i ?_ fun (y2 : Int × Int × PUnit) i2 => br_i (fun h3 => ob_i ?_ fun o4 => ob_i ?_ fun o5 => lt_i (br_i (fun h6 => Fct.leafY ?_) (fun h6 => ob_i rfl fun _ => ob_i ?_ fun o7 => trivial))) (fun h3 => Fct.leafY ?_))
  all_goals try simp only [decide_eq_true_eq, decide_eq_false_iff_not, Bool.not_eq_true', Bool.not_eq_false', bne_iff_ne, bne_eq_false_iff_eq, beq_iff_eq, beq_eq_false_iff_ne, baEq, Int.not_lt, Int.not_le, ne_eq, Decidable.not_not] at *
  all_goals try simp only [LszS, fszNode, fszNodeS, etaToken, etaNode, etaBuilder, etaPolicy, etaPage, etaVisit, etaTab, etaServer, etaCache, etaNet, etaLoader, etaSheet, etaResult, etaSlot, etaModule, etaAddr, etaRequest, etaResponse, etaConn, etaGuess, etaEntry, etaSent, etaFile, baSz, List.size_toArray, List.length_cons, List.length_nil, Nat.reduceAdd, Int.toNat_zero, List.drop_zero, decide_eq_true_eq, decide_eq_false_iff_not, Bool.not_eq_true', Bool.not_eq_false', bne_iff_ne, bne_eq_false_iff_eq, beq_iff_eq, beq_eq_false_iff_ne, Bool.not_eq_true, Bool.not_eq_false, ne_eq, Decidable.not_not, baEq, decide_not, Prod.mk.injEq, and_true, true_and, Room, List.nil_append, Nat.zero_add, Int.not_lt, Int.not_le] at *
  · have := good_len hp.1; simp only [maxLen] at this; rw [wrapId (by omega)] at h1
    rw [lessenNeg (by simp only [szL]; omega)]
  · have := good_len hp.1; simp only [maxLen] at this
    rw [wrapId (by omega)] at h1 ⊢
    exact ⟨by omega, by omega, h1, by simp⟩
  · omega
  · exact ⟨good_getD hp.1 (by omega), by omega, by omega⟩
  · have hs := sum_take_le szNode l (y2.2.1.toNat + 1)
    rw [sum_take szNode (by omega)] at hs
    rw [lessen_lt (by omega)] at h6
    rw [lessenNeg (by simp only [szL]; omega)]
  · have hw : IntKind.i64.wrap (y2.2.1 + 1) = y2.2.1 + 1 := wrapId (by have := good_len hp.1; simp only [maxLen] at this; omega)
    have h7 : ¬ lessen y2.1 (szNode (l.getD y2.2.1.toNat default)) < 0 := by omega
    rw [lessen_lt (by omega)] at h7
    rw [hw, toNat1 (by omega), sum_take szNode (by omega), lessen_ge (by omega)]
    exact ⟨⟨by omega, by omega, by omega, by omega⟩, by omega⟩
  · have e : l.take y2.2.1.toNat = l := List.take_of_length_le (by omega)
    rw [e] at i2
    have hz : ((szL szNode l : Nat) : Int) = l.length + (l.map szNode).sum := by simp only [szL]; omega
    rw [lessen_ge (by omega)]
    show y2.1 = n - ((szL szNode l : Nat) : Int)
    omega)
def E31 : D.Env := E30.add 110 fszNodeS
theorem E31ok : EOk Try.prog E31 := E30ok.add k110_30
-- laws.toNodeS
theorem k116_31 : ftoNodeS.ok Try.prog 116 := Fct.of (S := ftoNodeS) (L := fun ⟨l, _⟩ => fun | 3 => some (LtoS .node l) | _ => none) (kp := [0,2,3,4,11,1000011]) E31ok Try.func116 (by kernel_rfl) (by kernel_rfl) (by
  rintro ⟨(l : List SNode), _⟩ hp
  refine holds_of (X := .ob ((↑l.length : Int) = (↑l.length : Int) ∧
  (0 : Int) ≤ (↑l.length : Int) ∧
    (64 : Int) * (↑l.length : Int) ≤ (140737488355328 : Int) ∧ (↑l.length : Int) ≤ (140737488355328 : Int)) <|
 lpx (LtoS .node l) ((0 : Int), (List.replicate (↑l.length : Int).toNat default, ())) fun (y2 : Int × List SNode × PUnit) bk2 =>
 .br (decide (y2.fst < (↑l.length : Int)))
  (.ob ((0 : Int) ≤ y2.fst ∧ y2.fst < (↑l.length : Int)) <|
   .ob (ftoNode.pre (l.getD y2.fst.toNat default, ())) <|
   .lt (SNode × PUnit) (ftoNode.fn (l.getD y2.fst.toNat default, ())) fun z2 =>
   .ob ((0 : Int) ≤ y2.fst ∧ y2.fst < (↑y2.snd.fst.length : Int)) <|
    .ob (y2.fst.toNat < y2.snd.fst.length) <|
    .lt (List SNode) (y2.snd.fst.modify y2.fst.toNat fun z => z2.fst) fun z3 =>
    .ob (l = l) <|
     .ob (bk2 (IntKind.i64.wrap (y2.fst + (1 : Int)), (z3, ()))) <|
     .ok)
  (.leaf (mkR ftoNodeS.rs (y2.snd.fst, ())) [] [])) (by kernel_rfl) ?_
  refine ob_i ?_ fun o1 => lpx_i ?_ fun (y2 : Int × List SNode × PUnit) i2 => br_i (fun h3 => ob_i ?_ fun o4 => ob_i ?_ fun o5 => lt_i (ob_i ?_ fun o6 => ob_i ?_ fun o7 => lt_i (ob_i rfl fun _ => ob_i ?_ fun o8 => trivial))) (fun h3 => Fct.leafY ?_)
  all_goals try simp only [decide_eq_true_eq, decide_eq_false_iff_not, Bool.not_eq_true', Bool.not_eq_false', bne_iff_ne, bne_eq_false_iff_eq, beq_iff_eq, beq_eq_false_iff_ne, baEq, Int.not_lt, Int.not_le, ne_eq, Decidable.not_not] at *
  all_goals try simp only [LtoS, ftoNode, ftoNodeS, etaToken, etaNode, etaBuilder, etaPolicy, etaPage, etaVisit, etaTab, etaServer, etaCache, etaNet, etaLoader, etaSheet, etaResult, etaSlot, etaModule, etaAddr, etaRequest, etaResponse, etaConn, etaGuess, etaEntry, etaSent, etaFile, baSz, List.size_toArray, List.length_cons, List.length_nil, Nat.reduceAdd, Int.toNat_zero, List.drop_zero, decide_eq_true_eq, decide_eq_false_iff_not, Bool.not_eq_true', Bool.not_eq_false', bne_iff_ne, bne_eq_false_iff_eq, beq_iff_eq, beq_eq_false_iff_ne, Bool.not_eq_true, Bool.not_eq_false, ne_eq, Decidable.not_not, baEq, decide_not, Prod.mk.injEq, and_true, true_and, Room, List.nil_append, Nat.zero_add, Int.not_lt, Int.not_le] at *
  · have := szL_len szNode l; omega
  · exact ⟨by omega, by omega, by simp⟩
  · omega
  · have hs := sum_take_le szNode l (y2.1.toNat + 1)
    rw [sum_take szNode (by omega)] at hs
    simp only [szL] at hp; omega
  · rw [i2.2.2]; simp; omega
  · rw [i2.2.2]; simp; omega
  · have hw : IntKind.i64.wrap (y2.1 + 1) = y2.1 + 1 := wrapId (by have := szL_len szNode l; omega)
    rw [hw, toNat1 (by omega), i2.2.2]
    refine ⟨⟨by omega, by omega, ?_⟩, by omega⟩
    rw [show l.length - y2.1.toNat = (l.length - (y2.1.toNat + 1)) + 1 from by omega, List.replicate_succ, mod_at (by simp; omega), take_succ (by omega)]
    simp
  · have e : l.take y2.1.toNat = l := List.take_of_length_le (by omega)
    rw [i2.2.2, e]; simp; omega)
def E32 : D.Env := E31.add 116 ftoNodeS
theorem E32ok : EOk Try.prog E32 := E31ok.add k116_31
-- laws.eqNodeS
set_option maxHeartbeats 2000000 in
theorem k122_32 : feqNodeS.ok Try.prog 122 := Fct.of (S := feqNodeS) (L := fun ⟨l, m, _⟩ => fun | 4 => some (LeqS .node l m) | _ => none) (kp := [0,1,4,5,10,14,26,1000010,1000014,1000026]) E32ok Try.func122 (by kernel_rfl) (by kernel_rfl) (by
  rintro ⟨(l : List SNode), (m : List SNode), _⟩ hp
  refine holds_of (X := .br ((↑l.length : Int) != (↑m.length : Int))
 (.leaf (mkR feqNodeS.rs (false, ())) [] [])
 (lpx (LeqS .node l m) ((0 : Int), ()) fun (y2 : Int × PUnit) bk2 =>
  .br (decide (y2.fst < (↑l.length : Int)))
   (.ob ((0 : Int) ≤ y2.fst ∧ y2.fst < (↑l.length : Int)) <|
    .ob ((0 : Int) ≤ y2.fst ∧ y2.fst < (↑m.length : Int)) <|
    .ob (feqNode.pre (l.getD y2.fst.toNat default, m.getD y2.fst.toNat default, ())) <|
    .lt (Bool × PUnit) (feqNode.fn (l.getD y2.fst.toNat default, m.getD y2.fst.toNat default, ())) fun z2 =>
    .br (!z2.fst)
     (.leaf (mkR feqNodeS.rs (false, ())) [] [])
     (.ob (l = l) <|
      .ob (m = m) <|
      .ob (bk2 (IntKind.i64.wrap (y2.fst + (1 : Int)), ())) <|
      .ok))
   (.leaf (mkR feqNodeS.rs (true, ())) [] []))) (by kernel_rfl) ?_
  refine br_i (fun h1 => Fct.leafY ?_) (fun h1 => lpx_i ?_ fun (y2 : Int × PUnit) i2 => br_i (fun h3 => ob_i ?_ fun o4 => ob_i ?_ fun o5 => ob_i ?_ fun o6 => lt_i (br_i (fun h7 => Fct.leafY ?_) (fun h7 => ob_i rfl fun _ => ob_i rfl fun _ => ob_i ?_ fun o8 => trivial))) (fun h3 => Fct.leafY ?_))
  all_goals try simp only [decide_eq_true_eq, decide_eq_false_iff_not, Bool.not_eq_true', Bool.not_eq_false', bne_iff_ne, bne_eq_false_iff_eq, beq_iff_eq, beq_eq_false_iff_ne, baEq, Int.not_lt, Int.not_le, ne_eq, Decidable.not_not] at *
  all_goals try simp only [LeqS, feqNode, feqNodeS, etaToken, etaNode, etaBuilder, etaPolicy, etaPage, etaVisit, etaTab, etaServer, etaCache, etaNet, etaLoader, etaSheet, etaResult, etaSlot, etaModule, etaAddr, etaRequest, etaResponse, etaConn, etaGuess, etaEntry, etaSent, etaFile, baSz, List.size_toArray, List.length_cons, List.length_nil, Nat.reduceAdd, Int.toNat_zero, List.drop_zero, decide_eq_true_eq, decide_eq_false_iff_not, Bool.not_eq_true', Bool.not_eq_false', bne_iff_ne, bne_eq_false_iff_eq, beq_iff_eq, beq_eq_false_iff_ne, Bool.not_eq_true, Bool.not_eq_false, ne_eq, Decidable.not_not, baEq, decide_not, Prod.mk.injEq, and_true, true_and, Room, List.nil_append, Nat.zero_add, Int.not_lt, Int.not_le] at *
  all_goals have hl := szL_len szNode l
  · rw [decide_eq_false]; rintro rfl; omega
  · exact ⟨by omega, by omega, by simp⟩
  · omega
  · omega
  · have hs := szL_get szNode (l := l) (i := y2.1.toNat) (by omega); omega
  · rw [decide_eq_false]; rintro rfl; first | exact absurd rfl h6 | exact absurd rfl h7
  · have hw : IntKind.i64.wrap (y2.1 + 1) = y2.1 + 1 := wrapId (by omega)
    rw [hw, toNat1 (by omega)]
    refine ⟨⟨by omega, by omega, ?_⟩, by omega⟩
    rw [take_succ (by omega), take_succ (by omega), i2.2.2]; first | rw [h6] | rw [h7]
  · have e : l.take y2.1.toNat = l := List.take_of_length_le (by omega)
    have e2 : m.take y2.1.toNat = m := List.take_of_length_le (by omega)
    rw [decide_eq_true]; rw [← e, ← e2, i2.2.2])
def E33 : D.Env := E32.add 122 feqNodeS
theorem E33ok : EOk Try.prog E33 := E32ok.add k122_32
-- laws.szBuilder
set_option maxHeartbeats 2000000 in
theorem k47_33 : fszBuilder.ok Try.prog 47 := Fct.of (S := fszBuilder) (L := fun _ _ => none) (kp := [1,2,4,10,16,1000010,1000016]) E33ok Try.func47 (by kernel_rfl) (by kernel_rfl) (by
  rintro ⟨(x : SBuilder), (n : Int), _⟩ hp
  refine holds_of (X := .ob (fszNodeS.pre (x.nodes, n, ())) <|
 .lt (Int × PUnit) (fszNodeS.fn (x.nodes, n, ())) fun z2 =>
 .br (decide (z2.fst < (0 : Int)))
  (.leaf (mkR fszBuilder.rs ((-1 : Int), ())) [] [])
  (.ob (fszIntS.pre (x.open_, z2.fst, ())) <|
   .lt (Int × PUnit) (fszIntS.fn (x.open_, z2.fst, ())) fun z3 =>
   .br (decide (z3.fst < (0 : Int)))
    (.leaf (mkR fszBuilder.rs ((-1 : Int), ())) [] [])
    (.leaf (mkR fszBuilder.rs (z3.fst, ())) [] []))) (by kernel_rfl) ?_
  refine ob_i ?_ fun o1 => lt_i (br_i (fun h2 => Fct.leafY ?_) (fun h2 => ob_i ?_ fun o3 => lt_i (br_i (fun h4 => Fct.leafY ?_) (fun h4 => Fct.leafY ?_))))
  all_goals try simp only [decide_eq_true_eq, decide_eq_false_iff_not, Bool.not_eq_true', Bool.not_eq_false', bne_iff_ne, bne_eq_false_iff_eq, beq_iff_eq, beq_eq_false_iff_ne, baEq, Int.not_lt, Int.not_le, ne_eq, Decidable.not_not] at *
  all_goals try simp only [fszBuilder, fszIntS, fszNodeS, etaToken, etaNode, etaBuilder, etaPolicy, etaPage, etaVisit, etaTab, etaServer, etaCache, etaNet, etaLoader, etaSheet, etaResult, etaSlot, etaModule, etaAddr, etaRequest, etaResponse, etaConn, etaGuess, etaEntry, etaSent, etaFile, baSz, List.size_toArray, List.length_cons, List.length_nil, Nat.reduceAdd, Int.toNat_zero, List.drop_zero, decide_eq_true_eq, decide_eq_false_iff_not, Bool.not_eq_true', Bool.not_eq_false', bne_iff_ne, bne_eq_false_iff_eq, beq_iff_eq, beq_eq_false_iff_ne, Bool.not_eq_true, Bool.not_eq_false, ne_eq, Decidable.not_not, baEq, decide_not, Prod.mk.injEq, and_true, true_and, Room, List.nil_append, Nat.zero_add, Int.not_lt, Int.not_le, Sh.good, Sh.fc, enc, List.forall_mem_cons, List.not_mem_nil, false_implies, implies_true, goodC, maxLen] at *
  all_goals grind [wrapId', lessen, szBuilder, szL])
def E34 : D.Env := E33.add 47 fszBuilder
theorem E34ok : EOk Try.prog E34 := E33ok.add k47_33
-- laws.toBuilder
theorem k58_34 : ftoBuilder.ok Try.prog 58 := Fct.of (S := ftoBuilder) (L := fun _ _ => none) (kp := [1,2,3]) E34ok Try.func58 (by kernel_rfl) (by kernel_rfl) (by
  rintro ⟨(x : SBuilder), _⟩ hp
  refine holds_of (X := .ob (ftoNodeS.pre (x.nodes, ())) <|
 .lt (List SNode × PUnit) (ftoNodeS.fn (x.nodes, ())) fun z2 =>
 .ob (ftoIntS.pre (x.open_, ())) <|
  .lt (List Int × PUnit) (ftoIntS.fn (x.open_, ())) fun z3 =>
  .leaf (mkR ftoBuilder.rs (⟨z2.fst, z3.fst⟩, ())) [] []) (by kernel_rfl) ?_
  refine ob_i ?_ fun o1 => lt_i (ob_i ?_ fun o2 => lt_i (Fct.leafY ?_))
  all_goals try simp only [decide_eq_true_eq, decide_eq_false_iff_not, Bool.not_eq_true', Bool.not_eq_false', bne_iff_ne, bne_eq_false_iff_eq, beq_iff_eq, beq_eq_false_iff_ne, baEq, Int.not_lt, Int.not_le, ne_eq, Decidable.not_not] at *
  all_goals try simp only [ftoBuilder, ftoIntS, ftoNodeS, etaToken, etaNode, etaBuilder, etaPolicy, etaPage, etaVisit, etaTab, etaServer, etaCache, etaNet, etaLoader, etaSheet, etaResult, etaSlot, etaModule, etaAddr, etaRequest, etaResponse, etaConn, etaGuess, etaEntry, etaSent, etaFile, baSz, List.size_toArray, List.length_cons, List.length_nil, Nat.reduceAdd, Int.toNat_zero, List.drop_zero, decide_eq_true_eq, decide_eq_false_iff_not, Bool.not_eq_true', Bool.not_eq_false', bne_iff_ne, bne_eq_false_iff_eq, beq_iff_eq, beq_eq_false_iff_ne, Bool.not_eq_true, Bool.not_eq_false, ne_eq, Decidable.not_not, baEq, decide_not, Prod.mk.injEq, and_true, true_and, Room, List.nil_append, Nat.zero_add, Int.not_lt, Int.not_le] at *
  all_goals first | trivial | rfl | grind [szBuilder, szL])
def E35 : D.Env := E34.add 58 ftoBuilder
theorem E35ok : EOk Try.prog E35 := E34ok.add k58_34
-- laws.eqBuilder
set_option maxHeartbeats 2000000 in
theorem k69_35 : feqBuilder.ok Try.prog 69 := Fct.of (S := feqBuilder) (L := fun _ _ => none) (kp := [2,3,4,10,16,1000010,1000016]) E35ok Try.func69 (by kernel_rfl) (by kernel_rfl) (by
  rintro ⟨(x : SBuilder), (y : SBuilder), _⟩ hp
  refine holds_of (X := .ob (feqNodeS.pre (x.nodes, y.nodes, ())) <|
 .lt (Bool × PUnit) (feqNodeS.fn (x.nodes, y.nodes, ())) fun z2 =>
 .br (!z2.fst)
  (.leaf (mkR feqBuilder.rs (false, ())) [] [])
  (.ob (feqIntS.pre (x.open_, y.open_, ())) <|
   .lt (Bool × PUnit) (feqIntS.fn (x.open_, y.open_, ())) fun z3 =>
   .br (!z3.fst)
    (.leaf (mkR feqBuilder.rs (false, ())) [] [])
    (.leaf (mkR feqBuilder.rs (true, ())) [] []))) (by kernel_rfl) ?_
  refine ob_i ?_ fun o1 => lt_i (br_i (fun h2 => Fct.leafY ?_) (fun h2 => ob_i ?_ fun o3 => lt_i (br_i (fun h4 => Fct.leafY ?_) (fun h4 => Fct.leafY ?_))))
  all_goals try simp only [decide_eq_true_eq, decide_eq_false_iff_not, Bool.not_eq_true', Bool.not_eq_false', bne_iff_ne, bne_eq_false_iff_eq, beq_iff_eq, beq_eq_false_iff_ne, baEq, Int.not_lt, Int.not_le, ne_eq, Decidable.not_not] at *
  all_goals try simp only [feqBuilder, feqIntS, feqNodeS, etaToken, etaNode, etaBuilder, etaPolicy, etaPage, etaVisit, etaTab, etaServer, etaCache, etaNet, etaLoader, etaSheet, etaResult, etaSlot, etaModule, etaAddr, etaRequest, etaResponse, etaConn, etaGuess, etaEntry, etaSent, etaFile, baSz, List.size_toArray, List.length_cons, List.length_nil, Nat.reduceAdd, Int.toNat_zero, List.drop_zero, decide_eq_true_eq, decide_eq_false_iff_not, Bool.not_eq_true', Bool.not_eq_false', bne_iff_ne, bne_eq_false_iff_eq, beq_iff_eq, beq_eq_false_iff_ne, Bool.not_eq_true, Bool.not_eq_false, ne_eq, Decidable.not_not, baEq, decide_not, Prod.mk.injEq, and_true, true_and, Room, List.nil_append, Nat.zero_add, Int.not_lt, Int.not_le] at *
  all_goals first | trivial | (cases x; cases y; simp_all; done) | (simp only [szBuilder, szL] at *; omega) | grind [szBuilder, szL])
def E36 : D.Env := E35.add 69 feqBuilder
theorem E36ok : EOk Try.prog E36 := E35ok.add k69_35
-- laws.szPolicy
set_option maxHeartbeats 2000000 in
theorem k44_36 : fszPolicy.ok Try.prog 44 := Fct.of (S := fszPolicy) (L := fun _ _ => none) (kp := [1,2,4,10,16,22,29,1000010,1000016,1000022,1000029]) E36ok Try.func44 (by kernel_rfl) (by kernel_rfl) (by
  rintro ⟨(x : SPolicy), (n : Int), _⟩ hp
  refine holds_of (X := .ob (fszStringS.pre (x.scripts, n, ())) <|
 .lt (Int × PUnit) (fszStringS.fn (x.scripts, n, ())) fun z2 =>
 .br (decide (z2.fst < (0 : Int)))
  (.leaf (mkR fszPolicy.rs ((-1 : Int), ())) [] [])
  (.ob (fszStringS.pre (x.styles, z2.fst, ())) <|
   .lt (Int × PUnit) (fszStringS.fn (x.styles, z2.fst, ())) fun z3 =>
   .br (decide (z3.fst < (0 : Int)))
    (.leaf (mkR fszPolicy.rs ((-1 : Int), ())) [] [])
    (.ob (fszStringS.pre (x.images, z3.fst, ())) <|
     .lt (Int × PUnit) (fszStringS.fn (x.images, z3.fst, ())) fun z4 =>
     .br (decide (z4.fst < (0 : Int)))
      (.leaf (mkR fszPolicy.rs ((-1 : Int), ())) [] [])
      (.br (decide (IntKind.i64.wrap (z4.fst - (↑x.nonce.size : Int)) < (0 : Int)))
       (.leaf (mkR fszPolicy.rs ((-1 : Int), ())) [] [])
       (.leaf (mkR fszPolicy.rs (IntKind.i64.wrap (z4.fst - (↑x.nonce.size : Int)), ())) [] []))))) (by kernel_rfl) ?_
  refine ob_i ?_ fun o1 => lt_i (br_i (fun h2 => Fct.leafY ?_) (fun h2 => ob_i ?_ fun o3 => lt_i (br_i (fun h4 => Fct.leafY ?_) (fun h4 => ob_i ?_ fun o5 => lt_i (br_i (fun h6 => Fct.leafY ?_) (fun h6 => br_i (fun h7 => Fct.leafY ?_) (fun h7 => Fct.leafY ?_)))))))
  all_goals try simp only [decide_eq_true_eq, decide_eq_false_iff_not, Bool.not_eq_true', Bool.not_eq_false', bne_iff_ne, bne_eq_false_iff_eq, beq_iff_eq, beq_eq_false_iff_ne, baEq, Int.not_lt, Int.not_le, ne_eq, Decidable.not_not] at *
  all_goals try simp only [fszPolicy, fszStringS, etaToken, etaNode, etaBuilder, etaPolicy, etaPage, etaVisit, etaTab, etaServer, etaCache, etaNet, etaLoader, etaSheet, etaResult, etaSlot, etaModule, etaAddr, etaRequest, etaResponse, etaConn, etaGuess, etaEntry, etaSent, etaFile, baSz, List.size_toArray, List.length_cons, List.length_nil, Nat.reduceAdd, Int.toNat_zero, List.drop_zero, decide_eq_true_eq, decide_eq_false_iff_not, Bool.not_eq_true', Bool.not_eq_false', bne_iff_ne, bne_eq_false_iff_eq, beq_iff_eq, beq_eq_false_iff_ne, Bool.not_eq_true, Bool.not_eq_false, ne_eq, Decidable.not_not, baEq, decide_not, Prod.mk.injEq, and_true, true_and, Room, List.nil_append, Nat.zero_add, Int.not_lt, Int.not_le, Sh.good, Sh.fc, enc, List.forall_mem_cons, List.not_mem_nil, false_implies, implies_true, goodC, maxLen] at *
  all_goals grind [wrapId', lessen, szL, szPolicy])
def E37 : D.Env := E36.add 44 fszPolicy
theorem E37ok : EOk Try.prog E37 := E36ok.add k44_36
-- laws.toPolicy
theorem k55_37 : ftoPolicy.ok Try.prog 55 := Fct.of (S := ftoPolicy) (L := fun _ _ => none) (kp := [1,2,3]) E37ok Try.func55 (by kernel_rfl) (by kernel_rfl) (by
  rintro ⟨(x : SPolicy), _⟩ hp
  refine holds_of (X := .ob (ftoStringS.pre (x.scripts, ())) <|
 .lt (List ByteArray × PUnit) (ftoStringS.fn (x.scripts, ())) fun z2 =>
 .ob (ftoStringS.pre (x.styles, ())) <|
  .lt (List ByteArray × PUnit) (ftoStringS.fn (x.styles, ())) fun z3 =>
  .ob (ftoStringS.pre (x.images, ())) <|
   .lt (List ByteArray × PUnit) (ftoStringS.fn (x.images, ())) fun z4 =>
   .leaf (mkR ftoPolicy.rs (⟨x.set_, z2.fst, z3.fst, z4.fst, x.nonce⟩, ())) [] []) (by kernel_rfl) ?_
  refine ob_i ?_ fun o1 => lt_i (ob_i ?_ fun o2 => lt_i (ob_i ?_ fun o3 => lt_i (Fct.leafY ?_)))
  all_goals try simp only [decide_eq_true_eq, decide_eq_false_iff_not, Bool.not_eq_true', Bool.not_eq_false', bne_iff_ne, bne_eq_false_iff_eq, beq_iff_eq, beq_eq_false_iff_ne, baEq, Int.not_lt, Int.not_le, ne_eq, Decidable.not_not] at *
  all_goals try simp only [ftoPolicy, ftoStringS, etaToken, etaNode, etaBuilder, etaPolicy, etaPage, etaVisit, etaTab, etaServer, etaCache, etaNet, etaLoader, etaSheet, etaResult, etaSlot, etaModule, etaAddr, etaRequest, etaResponse, etaConn, etaGuess, etaEntry, etaSent, etaFile, baSz, List.size_toArray, List.length_cons, List.length_nil, Nat.reduceAdd, Int.toNat_zero, List.drop_zero, decide_eq_true_eq, decide_eq_false_iff_not, Bool.not_eq_true', Bool.not_eq_false', bne_iff_ne, bne_eq_false_iff_eq, beq_iff_eq, beq_eq_false_iff_ne, Bool.not_eq_true, Bool.not_eq_false, ne_eq, Decidable.not_not, baEq, decide_not, Prod.mk.injEq, and_true, true_and, Room, List.nil_append, Nat.zero_add, Int.not_lt, Int.not_le] at *
  all_goals first | trivial | rfl | grind [szL, szPolicy])
def E38 : D.Env := E37.add 55 ftoPolicy
theorem E38ok : EOk Try.prog E38 := E37ok.add k55_37
-- laws.eqPolicy
set_option maxHeartbeats 2000000 in
theorem k66_38 : feqPolicy.ok Try.prog 66 := Fct.of (S := feqPolicy) (L := fun _ _ => none) (kp := [2,3,4,9,15,21,27,32,1000009,1000015,1000021,1000027,1000032]) E38ok Try.func66 (by kernel_rfl) (by kernel_rfl) (by
  rintro ⟨(x : SPolicy), (y : SPolicy), _⟩ hp
  refine holds_of (X := .br (!x.set_ == y.set_)
 (.leaf (mkR feqPolicy.rs (false, ())) [] [])
 (.ob (feqStringS.pre (x.scripts, y.scripts, ())) <|
  .lt (Bool × PUnit) (feqStringS.fn (x.scripts, y.scripts, ())) fun z2 =>
  .br (!z2.fst)
   (.leaf (mkR feqPolicy.rs (false, ())) [] [])
   (.ob (feqStringS.pre (x.styles, y.styles, ())) <|
    .lt (Bool × PUnit) (feqStringS.fn (x.styles, y.styles, ())) fun z3 =>
    .br (!z3.fst)
     (.leaf (mkR feqPolicy.rs (false, ())) [] [])
     (.ob (feqStringS.pre (x.images, y.images, ())) <|
      .lt (Bool × PUnit) (feqStringS.fn (x.images, y.images, ())) fun z4 =>
      .br (!z4.fst)
       (.leaf (mkR feqPolicy.rs (false, ())) [] [])
       (.br (!x.nonce.toList == y.nonce.toList)
        (.leaf (mkR feqPolicy.rs (false, ())) [] [])
        (.leaf (mkR feqPolicy.rs (true, ())) [] [])))))) (by kernel_rfl) ?_
  refine br_i (fun h1 => Fct.leafY ?_) (fun h1 => ob_i ?_ fun o2 => lt_i (br_i (fun h3 => Fct.leafY ?_) (fun h3 => ob_i ?_ fun o4 => lt_i (br_i (fun h5 => Fct.leafY ?_) (fun h5 => ob_i ?_ fun o6 => lt_i (br_i (fun h7 => Fct.leafY ?_) (fun h7 => br_i (fun h8 => Fct.leafY ?_) (fun h8 => Fct.leafY ?_))))))))
  all_goals try simp only [decide_eq_true_eq, decide_eq_false_iff_not, Bool.not_eq_true', Bool.not_eq_false', bne_iff_ne, bne_eq_false_iff_eq, beq_iff_eq, beq_eq_false_iff_ne, baEq, Int.not_lt, Int.not_le, ne_eq, Decidable.not_not] at *
  all_goals try simp only [feqPolicy, feqStringS, etaToken, etaNode, etaBuilder, etaPolicy, etaPage, etaVisit, etaTab, etaServer, etaCache, etaNet, etaLoader, etaSheet, etaResult, etaSlot, etaModule, etaAddr, etaRequest, etaResponse, etaConn, etaGuess, etaEntry, etaSent, etaFile, baSz, List.size_toArray, List.length_cons, List.length_nil, Nat.reduceAdd, Int.toNat_zero, List.drop_zero, decide_eq_true_eq, decide_eq_false_iff_not, Bool.not_eq_true', Bool.not_eq_false', bne_iff_ne, bne_eq_false_iff_eq, beq_iff_eq, beq_eq_false_iff_ne, Bool.not_eq_true, Bool.not_eq_false, ne_eq, Decidable.not_not, baEq, decide_not, Prod.mk.injEq, and_true, true_and, Room, List.nil_append, Nat.zero_add, Int.not_lt, Int.not_le] at *
  all_goals first | trivial | (cases x; cases y; simp_all; done) | (simp only [szL, szPolicy] at *; omega) | grind [szL, szPolicy])
def E39 : D.Env := E38.add 66 feqPolicy
theorem E39ok : EOk Try.prog E39 := E38ok.add k66_38
-- laws.szSlot
set_option maxHeartbeats 2000000 in
theorem k112_39 : fszSlot.ok Try.prog 112 := Fct.of (S := fszSlot) (L := fun _ _ => none) (kp := [1,2,4,10,17,24,1000010,1000017,1000024]) E39ok Try.func112 (by kernel_rfl) (by kernel_rfl) (by
  rintro ⟨(x : SSlot), (n : Int), _⟩ hp
  refine holds_of (X := .ob (fszAddr.pre (x.to, n, ())) <|
 .lt (Int × PUnit) (fszAddr.fn (x.to, n, ())) fun z2 =>
 .br (decide (z2.fst < (0 : Int)))
  (.leaf (mkR fszSlot.rs ((-1 : Int), ())) [] [])
  (.br (decide (IntKind.i64.wrap (z2.fst - (↑x.digest.size : Int)) < (0 : Int)))
   (.leaf (mkR fszSlot.rs ((-1 : Int), ())) [] [])
   (.br (decide (IntKind.i64.wrap (IntKind.i64.wrap (z2.fst - (↑x.digest.size : Int)) - (↑x.body.size : Int)) < (0 : Int)))
    (.leaf (mkR fszSlot.rs ((-1 : Int), ())) [] [])
    (.leaf (mkR fszSlot.rs (IntKind.i64.wrap (IntKind.i64.wrap (z2.fst - (↑x.digest.size : Int)) - (↑x.body.size : Int)), ())) [] [])))) (by kernel_rfl) ?_
  refine ob_i ?_ fun o1 => lt_i (br_i (fun h2 => Fct.leafY ?_) (fun h2 => br_i (fun h3 => Fct.leafY ?_) (fun h3 => br_i (fun h4 => Fct.leafY ?_) (fun h4 => Fct.leafY ?_))))
  all_goals try simp only [decide_eq_true_eq, decide_eq_false_iff_not, Bool.not_eq_true', Bool.not_eq_false', bne_iff_ne, bne_eq_false_iff_eq, beq_iff_eq, beq_eq_false_iff_ne, baEq, Int.not_lt, Int.not_le, ne_eq, Decidable.not_not] at *
  all_goals try simp only [fszAddr, fszSlot, etaToken, etaNode, etaBuilder, etaPolicy, etaPage, etaVisit, etaTab, etaServer, etaCache, etaNet, etaLoader, etaSheet, etaResult, etaSlot, etaModule, etaAddr, etaRequest, etaResponse, etaConn, etaGuess, etaEntry, etaSent, etaFile, baSz, List.size_toArray, List.length_cons, List.length_nil, Nat.reduceAdd, Int.toNat_zero, List.drop_zero, decide_eq_true_eq, decide_eq_false_iff_not, Bool.not_eq_true', Bool.not_eq_false', bne_iff_ne, bne_eq_false_iff_eq, beq_iff_eq, beq_eq_false_iff_ne, Bool.not_eq_true, Bool.not_eq_false, ne_eq, Decidable.not_not, baEq, decide_not, Prod.mk.injEq, and_true, true_and, Room, List.nil_append, Nat.zero_add, Int.not_lt, Int.not_le, Sh.good, Sh.fc, enc, List.forall_mem_cons, List.not_mem_nil, false_implies, implies_true, goodC, maxLen] at *
  all_goals grind [wrapId', lessen, szAddr, szSlot])
def E40 : D.Env := E39.add 112 fszSlot
theorem E40ok : EOk Try.prog E40 := E39ok.add k112_39
-- laws.toSlot
theorem k118_40 : ftoSlot.ok Try.prog 118 := Fct.of (S := ftoSlot) (L := fun _ _ => none) (kp := [1,2,3]) E40ok Try.func118 (by kernel_rfl) (by kernel_rfl) (by
  rintro ⟨(x : SSlot), _⟩ hp
  refine holds_of (X := .ob (ftoAddr.pre (x.to, ())) <|
 .lt (SAddr × PUnit) (ftoAddr.fn (x.to, ())) fun z2 =>
 .leaf (mkR ftoSlot.rs (⟨x.mode, z2.fst, x.digest, x.node, x.done, x.code, x.body⟩, ())) [] []) (by kernel_rfl) ?_
  refine ob_i ?_ fun o1 => lt_i (Fct.leafY ?_)
  all_goals try simp only [decide_eq_true_eq, decide_eq_false_iff_not, Bool.not_eq_true', Bool.not_eq_false', bne_iff_ne, bne_eq_false_iff_eq, beq_iff_eq, beq_eq_false_iff_ne, baEq, Int.not_lt, Int.not_le, ne_eq, Decidable.not_not] at *
  all_goals try simp only [ftoAddr, ftoSlot, etaToken, etaNode, etaBuilder, etaPolicy, etaPage, etaVisit, etaTab, etaServer, etaCache, etaNet, etaLoader, etaSheet, etaResult, etaSlot, etaModule, etaAddr, etaRequest, etaResponse, etaConn, etaGuess, etaEntry, etaSent, etaFile, baSz, List.size_toArray, List.length_cons, List.length_nil, Nat.reduceAdd, Int.toNat_zero, List.drop_zero, decide_eq_true_eq, decide_eq_false_iff_not, Bool.not_eq_true', Bool.not_eq_false', bne_iff_ne, bne_eq_false_iff_eq, beq_iff_eq, beq_eq_false_iff_ne, Bool.not_eq_true, Bool.not_eq_false, ne_eq, Decidable.not_not, baEq, decide_not, Prod.mk.injEq, and_true, true_and, Room, List.nil_append, Nat.zero_add, Int.not_lt, Int.not_le] at *
  all_goals first | trivial | rfl | grind [szAddr, szSlot])
def E41 : D.Env := E40.add 118 ftoSlot
theorem E41ok : EOk Try.prog E41 := E40ok.add k118_40
-- laws.eqSlot
set_option maxHeartbeats 2000000 in
theorem k124_41 : feqSlot.ok Try.prog 124 := Fct.of (S := feqSlot) (L := fun _ _ => none) (kp := [2,3,4,9,15,20,25,30,35,40,1000009,1000015,1000020,1000025,1000030,1000035,1000040]) E41ok Try.func124 (by kernel_rfl) (by kernel_rfl) (by
  rintro ⟨(x : SSlot), (y : SSlot), _⟩ hp
  refine holds_of (X := .br (x.mode != y.mode)
 (.leaf (mkR feqSlot.rs (false, ())) [] [])
 (.ob (feqAddr.pre (x.to, y.to, ())) <|
  .lt (Bool × PUnit) (feqAddr.fn (x.to, y.to, ())) fun z2 =>
  .br (!z2.fst)
   (.leaf (mkR feqSlot.rs (false, ())) [] [])
   (.br (!x.digest.toList == y.digest.toList)
    (.leaf (mkR feqSlot.rs (false, ())) [] [])
    (.br (x.node != y.node)
     (.leaf (mkR feqSlot.rs (false, ())) [] [])
     (.br (!x.done == y.done)
      (.leaf (mkR feqSlot.rs (false, ())) [] [])
      (.br (x.code != y.code)
       (.leaf (mkR feqSlot.rs (false, ())) [] [])
       (.br (!x.body.toList == y.body.toList)
        (.leaf (mkR feqSlot.rs (false, ())) [] [])
        (.leaf (mkR feqSlot.rs (true, ())) [] [])))))))) (by kernel_rfl) ?_
  refine br_i (fun h1 => Fct.leafY ?_) (fun h1 => ob_i trivial fun _ => lt_i (br_i (fun h2 => Fct.leafY ?_) (fun h2 => br_i (fun h3 => Fct.leafY ?_) (fun h3 => br_i (fun h4 => Fct.leafY ?_) (fun h4 => br_i (fun h5 => Fct.leafY ?_) (fun h5 => br_i (fun h6 => Fct.leafY ?_) (fun h6 => br_i (fun h7 => Fct.leafY ?_) (fun h7 => Fct.leafY ?_))))))))
  all_goals try simp only [decide_eq_true_eq, decide_eq_false_iff_not, Bool.not_eq_true', Bool.not_eq_false', bne_iff_ne, bne_eq_false_iff_eq, beq_iff_eq, beq_eq_false_iff_ne, baEq, Int.not_lt, Int.not_le, ne_eq, Decidable.not_not] at *
  all_goals try simp only [feqAddr, feqSlot, etaToken, etaNode, etaBuilder, etaPolicy, etaPage, etaVisit, etaTab, etaServer, etaCache, etaNet, etaLoader, etaSheet, etaResult, etaSlot, etaModule, etaAddr, etaRequest, etaResponse, etaConn, etaGuess, etaEntry, etaSent, etaFile, baSz, List.size_toArray, List.length_cons, List.length_nil, Nat.reduceAdd, Int.toNat_zero, List.drop_zero, decide_eq_true_eq, decide_eq_false_iff_not, Bool.not_eq_true', Bool.not_eq_false', bne_iff_ne, bne_eq_false_iff_eq, beq_iff_eq, beq_eq_false_iff_ne, Bool.not_eq_true, Bool.not_eq_false, ne_eq, Decidable.not_not, baEq, decide_not, Prod.mk.injEq, and_true, true_and, Room, List.nil_append, Nat.zero_add, Int.not_lt, Int.not_le] at *
  all_goals first | trivial | (cases x; cases y; simp_all; done) | (simp only [szAddr, szSlot] at *; omega) | grind [szAddr, szSlot])
def E42 : D.Env := E41.add 124 feqSlot
theorem E42ok : EOk Try.prog E42 := E41ok.add k124_41
-- laws.szSlotS
set_option maxHeartbeats 2000000 in
theorem k48_42 : fszSlotS.ok Try.prog 48 := Fct.of (S := fszSlotS) (L := fun ⟨l, n, _⟩ => fun | 5 => some (LszS .slot szSlot l n) | _ => none) (kp := [0,1,4,5,11,15,25,1000011,1000015,1000025]) E42ok Try.func48 (by kernel_rfl) (by kernel_rfl) (by
  rintro ⟨(l : List SSlot), (n : Int), _⟩ hp
  refine holds_of (X := .br (decide (IntKind.i64.wrap (n - (↑l.length : Int)) < (0 : Int)))
 (.leaf (mkR fszSlotS.rs ((-1 : Int), ())) [] [])
 (lpx (LszS .slot szSlot l n) (IntKind.i64.wrap (n - (↑l.length : Int)), ((0 : Int), ())) fun (y2 : Int × Int × PUnit) bk2 =>
  .br (decide (y2.snd.fst < (↑l.length : Int)))
   (.ob ((0 : Int) ≤ y2.snd.fst ∧ y2.snd.fst < (↑l.length : Int)) <|
    .ob (fszSlot.pre (l.getD y2.snd.fst.toNat default, y2.fst, ())) <|
    .lt (Int × PUnit) (fszSlot.fn (l.getD y2.snd.fst.toNat default, y2.fst, ())) fun z2 =>
    .br (decide (z2.fst < (0 : Int)))
     (.leaf (mkR fszSlotS.rs ((-1 : Int), ())) [] [])
     (.ob (l = l) <|
      .ob (bk2 (z2.fst, (IntKind.i64.wrap (y2.snd.fst + (1 : Int)), ()))) <|
      .ok))
   (.leaf (mkR fszSlotS.rs (y2.fst, ())) [] []))) (by kernel_rfl) ?_
  refine br_i (fun h1 => Fct.leafY ?_) (fun h1 => lpx_i ?_ fun (y2 : Int × Int × PUnit) i2 => br_i (fun h3 => ob_i ?_ fun o4 => ob_i ?_ fun o5 => lt_i (br_i (fun h6 => Fct.leafY ?_) (fun h6 => ob_i rfl fun _ => ob_i ?_ fun o7 => trivial))) (fun h3 => Fct.leafY ?_))
  all_goals try simp only [decide_eq_true_eq, decide_eq_false_iff_not, Bool.not_eq_true', Bool.not_eq_false', bne_iff_ne, bne_eq_false_iff_eq, beq_iff_eq, beq_eq_false_iff_ne, baEq, Int.not_lt, Int.not_le, ne_eq, Decidable.not_not] at *
  all_goals try simp only [LszS, fszSlot, fszSlotS, etaToken, etaNode, etaBuilder, etaPolicy, etaPage, etaVisit, etaTab, etaServer, etaCache, etaNet, etaLoader, etaSheet, etaResult, etaSlot, etaModule, etaAddr, etaRequest, etaResponse, etaConn, etaGuess, etaEntry, etaSent, etaFile, baSz, List.size_toArray, List.length_cons, List.length_nil, Nat.reduceAdd, Int.toNat_zero, List.drop_zero, decide_eq_true_eq, decide_eq_false_iff_not, Bool.not_eq_true', Bool.not_eq_false', bne_iff_ne, bne_eq_false_iff_eq, beq_iff_eq, beq_eq_false_iff_ne, Bool.not_eq_true, Bool.not_eq_false, ne_eq, Decidable.not_not, baEq, decide_not, Prod.mk.injEq, and_true, true_and, Room, List.nil_append, Nat.zero_add, Int.not_lt, Int.not_le] at *
  · have := good_len hp.1; simp only [maxLen] at this; rw [wrapId (by omega)] at h1
    rw [lessenNeg (by simp only [szL]; omega)]
  · have := good_len hp.1; simp only [maxLen] at this
    rw [wrapId (by omega)] at h1 ⊢
    exact ⟨by omega, by omega, h1, by simp⟩
  · omega
  · exact ⟨good_getD hp.1 (by omega), by omega, by omega⟩
  · have hs := sum_take_le szSlot l (y2.2.1.toNat + 1)
    rw [sum_take szSlot (by omega)] at hs
    rw [lessen_lt (by omega)] at h6
    rw [lessenNeg (by simp only [szL]; omega)]
  · have hw : IntKind.i64.wrap (y2.2.1 + 1) = y2.2.1 + 1 := wrapId (by have := good_len hp.1; simp only [maxLen] at this; omega)
    have h7 : ¬ lessen y2.1 (szSlot (l.getD y2.2.1.toNat default)) < 0 := by omega
    rw [lessen_lt (by omega)] at h7
    rw [hw, toNat1 (by omega), sum_take szSlot (by omega), lessen_ge (by omega)]
    exact ⟨⟨by omega, by omega, by omega, by omega⟩, by omega⟩
  · have e : l.take y2.2.1.toNat = l := List.take_of_length_le (by omega)
    rw [e] at i2
    have hz : ((szL szSlot l : Nat) : Int) = l.length + (l.map szSlot).sum := by simp only [szL]; omega
    rw [lessen_ge (by omega)]
    show y2.1 = n - ((szL szSlot l : Nat) : Int)
    omega)
def E43 : D.Env := E42.add 48 fszSlotS
theorem E43ok : EOk Try.prog E43 := E42ok.add k48_42
-- laws.toSlotS
theorem k59_43 : ftoSlotS.ok Try.prog 59 := Fct.of (S := ftoSlotS) (L := fun ⟨l, _⟩ => fun | 3 => some (LtoS .slot l) | _ => none) (kp := [0,2,3,4,11,1000011]) E43ok Try.func59 (by kernel_rfl) (by kernel_rfl) (by
  rintro ⟨(l : List SSlot), _⟩ hp
  refine holds_of (X := .ob ((↑l.length : Int) = (↑l.length : Int) ∧
  (0 : Int) ≤ (↑l.length : Int) ∧
    (96 : Int) * (↑l.length : Int) ≤ (140737488355328 : Int) ∧ (↑l.length : Int) ≤ (140737488355328 : Int)) <|
 lpx (LtoS .slot l) ((0 : Int), (List.replicate (↑l.length : Int).toNat default, ())) fun (y2 : Int × List SSlot × PUnit) bk2 =>
 .br (decide (y2.fst < (↑l.length : Int)))
  (.ob ((0 : Int) ≤ y2.fst ∧ y2.fst < (↑l.length : Int)) <|
   .ob (ftoSlot.pre (l.getD y2.fst.toNat default, ())) <|
   .lt (SSlot × PUnit) (ftoSlot.fn (l.getD y2.fst.toNat default, ())) fun z2 =>
   .ob ((0 : Int) ≤ y2.fst ∧ y2.fst < (↑y2.snd.fst.length : Int)) <|
    .ob (y2.fst.toNat < y2.snd.fst.length) <|
    .lt (List SSlot) (y2.snd.fst.modify y2.fst.toNat fun z => z2.fst) fun z3 =>
    .ob (l = l) <|
     .ob (bk2 (IntKind.i64.wrap (y2.fst + (1 : Int)), (z3, ()))) <|
     .ok)
  (.leaf (mkR ftoSlotS.rs (y2.snd.fst, ())) [] [])) (by kernel_rfl) ?_
  refine ob_i ?_ fun o1 => lpx_i ?_ fun (y2 : Int × List SSlot × PUnit) i2 => br_i (fun h3 => ob_i ?_ fun o4 => ob_i ?_ fun o5 => lt_i (ob_i ?_ fun o6 => ob_i ?_ fun o7 => lt_i (ob_i rfl fun _ => ob_i ?_ fun o8 => trivial))) (fun h3 => Fct.leafY ?_)
  all_goals try simp only [decide_eq_true_eq, decide_eq_false_iff_not, Bool.not_eq_true', Bool.not_eq_false', bne_iff_ne, bne_eq_false_iff_eq, beq_iff_eq, beq_eq_false_iff_ne, baEq, Int.not_lt, Int.not_le, ne_eq, Decidable.not_not] at *
  all_goals try simp only [LtoS, ftoSlot, ftoSlotS, etaToken, etaNode, etaBuilder, etaPolicy, etaPage, etaVisit, etaTab, etaServer, etaCache, etaNet, etaLoader, etaSheet, etaResult, etaSlot, etaModule, etaAddr, etaRequest, etaResponse, etaConn, etaGuess, etaEntry, etaSent, etaFile, baSz, List.size_toArray, List.length_cons, List.length_nil, Nat.reduceAdd, Int.toNat_zero, List.drop_zero, decide_eq_true_eq, decide_eq_false_iff_not, Bool.not_eq_true', Bool.not_eq_false', bne_iff_ne, bne_eq_false_iff_eq, beq_iff_eq, beq_eq_false_iff_ne, Bool.not_eq_true, Bool.not_eq_false, ne_eq, Decidable.not_not, baEq, decide_not, Prod.mk.injEq, and_true, true_and, Room, List.nil_append, Nat.zero_add, Int.not_lt, Int.not_le] at *
  · have := szL_len szSlot l; omega
  · exact ⟨by omega, by omega, by simp⟩
  · omega
  · have hs := sum_take_le szSlot l (y2.1.toNat + 1)
    rw [sum_take szSlot (by omega)] at hs
    simp only [szL] at hp; omega
  · rw [i2.2.2]; simp; omega
  · rw [i2.2.2]; simp; omega
  · have hw : IntKind.i64.wrap (y2.1 + 1) = y2.1 + 1 := wrapId (by have := szL_len szSlot l; omega)
    rw [hw, toNat1 (by omega), i2.2.2]
    refine ⟨⟨by omega, by omega, ?_⟩, by omega⟩
    rw [show l.length - y2.1.toNat = (l.length - (y2.1.toNat + 1)) + 1 from by omega, List.replicate_succ, mod_at (by simp; omega), take_succ (by omega)]
    simp
  · have e : l.take y2.1.toNat = l := List.take_of_length_le (by omega)
    rw [i2.2.2, e]; simp; omega)
def E44 : D.Env := E43.add 59 ftoSlotS
theorem E44ok : EOk Try.prog E44 := E43ok.add k59_43
-- laws.eqSlotS
set_option maxHeartbeats 2000000 in
theorem k70_44 : feqSlotS.ok Try.prog 70 := Fct.of (S := feqSlotS) (L := fun ⟨l, m, _⟩ => fun | 4 => some (LeqS .slot l m) | _ => none) (kp := [0,1,4,5,10,14,26,1000010,1000014,1000026]) E44ok Try.func70 (by kernel_rfl) (by kernel_rfl) (by
  rintro ⟨(l : List SSlot), (m : List SSlot), _⟩ hp
  refine holds_of (X := .br ((↑l.length : Int) != (↑m.length : Int))
 (.leaf (mkR feqSlotS.rs (false, ())) [] [])
 (lpx (LeqS .slot l m) ((0 : Int), ()) fun (y2 : Int × PUnit) bk2 =>
  .br (decide (y2.fst < (↑l.length : Int)))
   (.ob ((0 : Int) ≤ y2.fst ∧ y2.fst < (↑l.length : Int)) <|
    .ob ((0 : Int) ≤ y2.fst ∧ y2.fst < (↑m.length : Int)) <|
    .ob (feqSlot.pre (l.getD y2.fst.toNat default, m.getD y2.fst.toNat default, ())) <|
    .lt (Bool × PUnit) (feqSlot.fn (l.getD y2.fst.toNat default, m.getD y2.fst.toNat default, ())) fun z2 =>
    .br (!z2.fst)
     (.leaf (mkR feqSlotS.rs (false, ())) [] [])
     (.ob (l = l) <|
      .ob (m = m) <|
      .ob (bk2 (IntKind.i64.wrap (y2.fst + (1 : Int)), ())) <|
      .ok))
   (.leaf (mkR feqSlotS.rs (true, ())) [] []))) (by kernel_rfl) ?_
  refine br_i (fun h1 => Fct.leafY ?_) (fun h1 => lpx_i ?_ fun (y2 : Int × PUnit) i2 => br_i (fun h3 => ob_i ?_ fun o4 => ob_i ?_ fun o5 => ob_i trivial fun _ => lt_i (br_i (fun h6 => Fct.leafY ?_) (fun h6 => ob_i rfl fun _ => ob_i rfl fun _ => ob_i ?_ fun o7 => trivial))) (fun h3 => Fct.leafY ?_))
  all_goals try simp only [decide_eq_true_eq, decide_eq_false_iff_not, Bool.not_eq_true', Bool.not_eq_false', bne_iff_ne, bne_eq_false_iff_eq, beq_iff_eq, beq_eq_false_iff_ne, baEq, Int.not_lt, Int.not_le, ne_eq, Decidable.not_not] at *
  all_goals try simp only [LeqS, feqSlot, feqSlotS, etaToken, etaNode, etaBuilder, etaPolicy, etaPage, etaVisit, etaTab, etaServer, etaCache, etaNet, etaLoader, etaSheet, etaResult, etaSlot, etaModule, etaAddr, etaRequest, etaResponse, etaConn, etaGuess, etaEntry, etaSent, etaFile, baSz, List.size_toArray, List.length_cons, List.length_nil, Nat.reduceAdd, Int.toNat_zero, List.drop_zero, decide_eq_true_eq, decide_eq_false_iff_not, Bool.not_eq_true', Bool.not_eq_false', bne_iff_ne, bne_eq_false_iff_eq, beq_iff_eq, beq_eq_false_iff_ne, Bool.not_eq_true, Bool.not_eq_false, ne_eq, Decidable.not_not, baEq, decide_not, Prod.mk.injEq, and_true, true_and, Room, List.nil_append, Nat.zero_add, Int.not_lt, Int.not_le] at *
  · rw [decide_eq_false]; rintro rfl; omega
  · exact ⟨by omega, by omega, by simp⟩
  · omega
  · omega
  · rw [decide_eq_false]; rintro rfl; exact absurd rfl h6
  · have hw : IntKind.i64.wrap (y2.1 + 1) = y2.1 + 1 := wrapId (by omega)
    rw [hw, toNat1 (by omega)]
    refine ⟨⟨by omega, by omega, ?_⟩, by omega⟩
    rw [take_succ (by omega), take_succ (by omega), i2.2.2, h6]
  · have e : l.take y2.1.toNat = l := List.take_of_length_le (by omega)
    have e2 : m.take y2.1.toNat = m := List.take_of_length_le (by omega)
    rw [decide_eq_true]; rw [← e, ← e2, i2.2.2])
def E45 : D.Env := E44.add 70 feqSlotS
theorem E45ok : EOk Try.prog E45 := E44ok.add k70_44
-- laws.szModule
set_option maxHeartbeats 2000000 in
theorem k113_45 : fszModule.ok Try.prog 113 := Fct.of (S := fszModule) (L := fun _ _ => none) (kp := [1,2,4,10,17,1000010,1000017]) E45ok Try.func113 (by kernel_rfl) (by kernel_rfl) (by
  rintro ⟨(x : SModule), (n : Int), _⟩ hp
  refine holds_of (X := .ob (fszAddr.pre (x.to, n, ())) <|
 .lt (Int × PUnit) (fszAddr.fn (x.to, n, ())) fun z2 =>
 .br (decide (z2.fst < (0 : Int)))
  (.leaf (mkR fszModule.rs ((-1 : Int), ())) [] [])
  (.br (decide (IntKind.i64.wrap (z2.fst - (↑x.body.size : Int)) < (0 : Int)))
   (.leaf (mkR fszModule.rs ((-1 : Int), ())) [] [])
   (.leaf (mkR fszModule.rs (IntKind.i64.wrap (z2.fst - (↑x.body.size : Int)), ())) [] []))) (by kernel_rfl) ?_
  refine ob_i ?_ fun o1 => lt_i (br_i (fun h2 => Fct.leafY ?_) (fun h2 => br_i (fun h3 => Fct.leafY ?_) (fun h3 => Fct.leafY ?_)))
  all_goals try simp only [decide_eq_true_eq, decide_eq_false_iff_not, Bool.not_eq_true', Bool.not_eq_false', bne_iff_ne, bne_eq_false_iff_eq, beq_iff_eq, beq_eq_false_iff_ne, baEq, Int.not_lt, Int.not_le, ne_eq, Decidable.not_not] at *
  all_goals try simp only [fszAddr, fszModule, etaToken, etaNode, etaBuilder, etaPolicy, etaPage, etaVisit, etaTab, etaServer, etaCache, etaNet, etaLoader, etaSheet, etaResult, etaSlot, etaModule, etaAddr, etaRequest, etaResponse, etaConn, etaGuess, etaEntry, etaSent, etaFile, baSz, List.size_toArray, List.length_cons, List.length_nil, Nat.reduceAdd, Int.toNat_zero, List.drop_zero, decide_eq_true_eq, decide_eq_false_iff_not, Bool.not_eq_true', Bool.not_eq_false', bne_iff_ne, bne_eq_false_iff_eq, beq_iff_eq, beq_eq_false_iff_ne, Bool.not_eq_true, Bool.not_eq_false, ne_eq, Decidable.not_not, baEq, decide_not, Prod.mk.injEq, and_true, true_and, Room, List.nil_append, Nat.zero_add, Int.not_lt, Int.not_le, Sh.good, Sh.fc, enc, List.forall_mem_cons, List.not_mem_nil, false_implies, implies_true, goodC, maxLen] at *
  all_goals grind [wrapId', lessen, szAddr, szModule])
def E46 : D.Env := E45.add 113 fszModule
theorem E46ok : EOk Try.prog E46 := E45ok.add k113_45
-- laws.toModule
theorem k119_46 : ftoModule.ok Try.prog 119 := Fct.of (S := ftoModule) (L := fun _ _ => none) (kp := [1,2,3]) E46ok Try.func119 (by kernel_rfl) (by kernel_rfl) (by
  rintro ⟨(x : SModule), _⟩ hp
  refine holds_of (X := .ob (ftoAddr.pre (x.to, ())) <|
 .lt (SAddr × PUnit) (ftoAddr.fn (x.to, ())) fun z2 =>
 .leaf (mkR ftoModule.rs (⟨z2.fst, x.done, x.code, x.body⟩, ())) [] []) (by kernel_rfl) ?_
  refine ob_i ?_ fun o1 => lt_i (Fct.leafY ?_)
  all_goals try simp only [decide_eq_true_eq, decide_eq_false_iff_not, Bool.not_eq_true', Bool.not_eq_false', bne_iff_ne, bne_eq_false_iff_eq, beq_iff_eq, beq_eq_false_iff_ne, baEq, Int.not_lt, Int.not_le, ne_eq, Decidable.not_not] at *
  all_goals try simp only [ftoAddr, ftoModule, etaToken, etaNode, etaBuilder, etaPolicy, etaPage, etaVisit, etaTab, etaServer, etaCache, etaNet, etaLoader, etaSheet, etaResult, etaSlot, etaModule, etaAddr, etaRequest, etaResponse, etaConn, etaGuess, etaEntry, etaSent, etaFile, baSz, List.size_toArray, List.length_cons, List.length_nil, Nat.reduceAdd, Int.toNat_zero, List.drop_zero, decide_eq_true_eq, decide_eq_false_iff_not, Bool.not_eq_true', Bool.not_eq_false', bne_iff_ne, bne_eq_false_iff_eq, beq_iff_eq, beq_eq_false_iff_ne, Bool.not_eq_true, Bool.not_eq_false, ne_eq, Decidable.not_not, baEq, decide_not, Prod.mk.injEq, and_true, true_and, Room, List.nil_append, Nat.zero_add, Int.not_lt, Int.not_le] at *
  all_goals first | trivial | rfl | grind [szAddr, szModule])
def E47 : D.Env := E46.add 119 ftoModule
theorem E47ok : EOk Try.prog E47 := E46ok.add k119_46
-- laws.eqModule
set_option maxHeartbeats 2000000 in
theorem k125_47 : feqModule.ok Try.prog 125 := Fct.of (S := feqModule) (L := fun _ _ => none) (kp := [2,3,4,10,15,20,25,1000010,1000015,1000020,1000025]) E47ok Try.func125 (by kernel_rfl) (by kernel_rfl) (by
  rintro ⟨(x : SModule), (y : SModule), _⟩ hp
  refine holds_of (X := .ob (feqAddr.pre (x.to, y.to, ())) <|
 .lt (Bool × PUnit) (feqAddr.fn (x.to, y.to, ())) fun z2 =>
 .br (!z2.fst)
  (.leaf (mkR feqModule.rs (false, ())) [] [])
  (.br (!x.done == y.done)
   (.leaf (mkR feqModule.rs (false, ())) [] [])
   (.br (x.code != y.code)
    (.leaf (mkR feqModule.rs (false, ())) [] [])
    (.br (!x.body.toList == y.body.toList)
     (.leaf (mkR feqModule.rs (false, ())) [] [])
     (.leaf (mkR feqModule.rs (true, ())) [] []))))) (by kernel_rfl) ?_
  refine ob_i trivial fun _ => lt_i (br_i (fun h1 => Fct.leafY ?_) (fun h1 => br_i (fun h2 => Fct.leafY ?_) (fun h2 => br_i (fun h3 => Fct.leafY ?_) (fun h3 => br_i (fun h4 => Fct.leafY ?_) (fun h4 => Fct.leafY ?_)))))
  all_goals try simp only [decide_eq_true_eq, decide_eq_false_iff_not, Bool.not_eq_true', Bool.not_eq_false', bne_iff_ne, bne_eq_false_iff_eq, beq_iff_eq, beq_eq_false_iff_ne, baEq, Int.not_lt, Int.not_le, ne_eq, Decidable.not_not] at *
  all_goals try simp only [feqAddr, feqModule, etaToken, etaNode, etaBuilder, etaPolicy, etaPage, etaVisit, etaTab, etaServer, etaCache, etaNet, etaLoader, etaSheet, etaResult, etaSlot, etaModule, etaAddr, etaRequest, etaResponse, etaConn, etaGuess, etaEntry, etaSent, etaFile, baSz, List.size_toArray, List.length_cons, List.length_nil, Nat.reduceAdd, Int.toNat_zero, List.drop_zero, decide_eq_true_eq, decide_eq_false_iff_not, Bool.not_eq_true', Bool.not_eq_false', bne_iff_ne, bne_eq_false_iff_eq, beq_iff_eq, beq_eq_false_iff_ne, Bool.not_eq_true, Bool.not_eq_false, ne_eq, Decidable.not_not, baEq, decide_not, Prod.mk.injEq, and_true, true_and, Room, List.nil_append, Nat.zero_add, Int.not_lt, Int.not_le] at *
  all_goals first | trivial | (cases x; cases y; simp_all; done) | (simp only [szAddr, szModule] at *; omega) | grind [szAddr, szModule])
def E48 : D.Env := E47.add 125 feqModule
theorem E48ok : EOk Try.prog E48 := E47ok.add k125_47
-- laws.szModuleS
set_option maxHeartbeats 2000000 in
theorem k49_48 : fszModuleS.ok Try.prog 49 := Fct.of (S := fszModuleS) (L := fun ⟨l, n, _⟩ => fun | 5 => some (LszS .module szModule l n) | _ => none) (kp := [0,1,4,5,11,15,25,1000011,1000015,1000025]) E48ok Try.func49 (by kernel_rfl) (by kernel_rfl) (by
  rintro ⟨(l : List SModule), (n : Int), _⟩ hp
  refine holds_of (X := .br (decide (IntKind.i64.wrap (n - (↑l.length : Int)) < (0 : Int)))
 (.leaf (mkR fszModuleS.rs ((-1 : Int), ())) [] [])
 (lpx (LszS .module szModule l n) (IntKind.i64.wrap (n - (↑l.length : Int)), ((0 : Int), ())) fun (y2 : Int × Int × PUnit) bk2 =>
  .br (decide (y2.snd.fst < (↑l.length : Int)))
   (.ob ((0 : Int) ≤ y2.snd.fst ∧ y2.snd.fst < (↑l.length : Int)) <|
    .ob (fszModule.pre (l.getD y2.snd.fst.toNat default, y2.fst, ())) <|
    .lt (Int × PUnit) (fszModule.fn (l.getD y2.snd.fst.toNat default, y2.fst, ())) fun z2 =>
    .br (decide (z2.fst < (0 : Int)))
     (.leaf (mkR fszModuleS.rs ((-1 : Int), ())) [] [])
     (.ob (l = l) <|
      .ob (bk2 (z2.fst, (IntKind.i64.wrap (y2.snd.fst + (1 : Int)), ()))) <|
      .ok))
   (.leaf (mkR fszModuleS.rs (y2.fst, ())) [] []))) (by kernel_rfl) ?_
  refine br_i (fun h1 => Fct.leafY ?_) (fun h1 => lpx_i ?_ fun (y2 : Int × Int × PUnit) i2 => br_i (fun h3 => ob_i ?_ fun o4 => ob_i ?_ fun o5 => lt_i (br_i (fun h6 => Fct.leafY ?_) (fun h6 => ob_i rfl fun _ => ob_i ?_ fun o7 => trivial))) (fun h3 => Fct.leafY ?_))
  all_goals try simp only [decide_eq_true_eq, decide_eq_false_iff_not, Bool.not_eq_true', Bool.not_eq_false', bne_iff_ne, bne_eq_false_iff_eq, beq_iff_eq, beq_eq_false_iff_ne, baEq, Int.not_lt, Int.not_le, ne_eq, Decidable.not_not] at *
  all_goals try simp only [LszS, fszModule, fszModuleS, etaToken, etaNode, etaBuilder, etaPolicy, etaPage, etaVisit, etaTab, etaServer, etaCache, etaNet, etaLoader, etaSheet, etaResult, etaSlot, etaModule, etaAddr, etaRequest, etaResponse, etaConn, etaGuess, etaEntry, etaSent, etaFile, baSz, List.size_toArray, List.length_cons, List.length_nil, Nat.reduceAdd, Int.toNat_zero, List.drop_zero, decide_eq_true_eq, decide_eq_false_iff_not, Bool.not_eq_true', Bool.not_eq_false', bne_iff_ne, bne_eq_false_iff_eq, beq_iff_eq, beq_eq_false_iff_ne, Bool.not_eq_true, Bool.not_eq_false, ne_eq, Decidable.not_not, baEq, decide_not, Prod.mk.injEq, and_true, true_and, Room, List.nil_append, Nat.zero_add, Int.not_lt, Int.not_le] at *
  · have := good_len hp.1; simp only [maxLen] at this; rw [wrapId (by omega)] at h1
    rw [lessenNeg (by simp only [szL]; omega)]
  · have := good_len hp.1; simp only [maxLen] at this
    rw [wrapId (by omega)] at h1 ⊢
    exact ⟨by omega, by omega, h1, by simp⟩
  · omega
  · exact ⟨good_getD hp.1 (by omega), by omega, by omega⟩
  · have hs := sum_take_le szModule l (y2.2.1.toNat + 1)
    rw [sum_take szModule (by omega)] at hs
    rw [lessen_lt (by omega)] at h6
    rw [lessenNeg (by simp only [szL]; omega)]
  · have hw : IntKind.i64.wrap (y2.2.1 + 1) = y2.2.1 + 1 := wrapId (by have := good_len hp.1; simp only [maxLen] at this; omega)
    have h7 : ¬ lessen y2.1 (szModule (l.getD y2.2.1.toNat default)) < 0 := by omega
    rw [lessen_lt (by omega)] at h7
    rw [hw, toNat1 (by omega), sum_take szModule (by omega), lessen_ge (by omega)]
    exact ⟨⟨by omega, by omega, by omega, by omega⟩, by omega⟩
  · have e : l.take y2.2.1.toNat = l := List.take_of_length_le (by omega)
    rw [e] at i2
    have hz : ((szL szModule l : Nat) : Int) = l.length + (l.map szModule).sum := by simp only [szL]; omega
    rw [lessen_ge (by omega)]
    show y2.1 = n - ((szL szModule l : Nat) : Int)
    omega)
def E49 : D.Env := E48.add 49 fszModuleS
theorem E49ok : EOk Try.prog E49 := E48ok.add k49_48
-- laws.toModuleS
theorem k60_49 : ftoModuleS.ok Try.prog 60 := Fct.of (S := ftoModuleS) (L := fun ⟨l, _⟩ => fun | 3 => some (LtoS .module l) | _ => none) (kp := [0,2,3,4,11,1000011]) E49ok Try.func60 (by kernel_rfl) (by kernel_rfl) (by
  rintro ⟨(l : List SModule), _⟩ hp
  refine holds_of (X := .ob ((↑l.length : Int) = (↑l.length : Int) ∧
  (0 : Int) ≤ (↑l.length : Int) ∧
    (64 : Int) * (↑l.length : Int) ≤ (140737488355328 : Int) ∧ (↑l.length : Int) ≤ (140737488355328 : Int)) <|
 lpx (LtoS .module l) ((0 : Int), (List.replicate (↑l.length : Int).toNat default, ())) fun (y2 : Int × List SModule × PUnit) bk2 =>
 .br (decide (y2.fst < (↑l.length : Int)))
  (.ob ((0 : Int) ≤ y2.fst ∧ y2.fst < (↑l.length : Int)) <|
   .ob (ftoModule.pre (l.getD y2.fst.toNat default, ())) <|
   .lt (SModule × PUnit) (ftoModule.fn (l.getD y2.fst.toNat default, ())) fun z2 =>
   .ob ((0 : Int) ≤ y2.fst ∧ y2.fst < (↑y2.snd.fst.length : Int)) <|
    .ob (y2.fst.toNat < y2.snd.fst.length) <|
    .lt (List SModule) (y2.snd.fst.modify y2.fst.toNat fun z => z2.fst) fun z3 =>
    .ob (l = l) <|
     .ob (bk2 (IntKind.i64.wrap (y2.fst + (1 : Int)), (z3, ()))) <|
     .ok)
  (.leaf (mkR ftoModuleS.rs (y2.snd.fst, ())) [] [])) (by kernel_rfl) ?_
  refine ob_i ?_ fun o1 => lpx_i ?_ fun (y2 : Int × List SModule × PUnit) i2 => br_i (fun h3 => ob_i ?_ fun o4 => ob_i ?_ fun o5 => lt_i (ob_i ?_ fun o6 => ob_i ?_ fun o7 => lt_i (ob_i rfl fun _ => ob_i ?_ fun o8 => trivial))) (fun h3 => Fct.leafY ?_)
  all_goals try simp only [decide_eq_true_eq, decide_eq_false_iff_not, Bool.not_eq_true', Bool.not_eq_false', bne_iff_ne, bne_eq_false_iff_eq, beq_iff_eq, beq_eq_false_iff_ne, baEq, Int.not_lt, Int.not_le, ne_eq, Decidable.not_not] at *
  all_goals try simp only [LtoS, ftoModule, ftoModuleS, etaToken, etaNode, etaBuilder, etaPolicy, etaPage, etaVisit, etaTab, etaServer, etaCache, etaNet, etaLoader, etaSheet, etaResult, etaSlot, etaModule, etaAddr, etaRequest, etaResponse, etaConn, etaGuess, etaEntry, etaSent, etaFile, baSz, List.size_toArray, List.length_cons, List.length_nil, Nat.reduceAdd, Int.toNat_zero, List.drop_zero, decide_eq_true_eq, decide_eq_false_iff_not, Bool.not_eq_true', Bool.not_eq_false', bne_iff_ne, bne_eq_false_iff_eq, beq_iff_eq, beq_eq_false_iff_ne, Bool.not_eq_true, Bool.not_eq_false, ne_eq, Decidable.not_not, baEq, decide_not, Prod.mk.injEq, and_true, true_and, Room, List.nil_append, Nat.zero_add, Int.not_lt, Int.not_le] at *
  · have := szL_len szModule l; omega
  · exact ⟨by omega, by omega, by simp⟩
  · omega
  · have hs := sum_take_le szModule l (y2.1.toNat + 1)
    rw [sum_take szModule (by omega)] at hs
    simp only [szL] at hp; omega
  · rw [i2.2.2]; simp; omega
  · rw [i2.2.2]; simp; omega
  · have hw : IntKind.i64.wrap (y2.1 + 1) = y2.1 + 1 := wrapId (by have := szL_len szModule l; omega)
    rw [hw, toNat1 (by omega), i2.2.2]
    refine ⟨⟨by omega, by omega, ?_⟩, by omega⟩
    rw [show l.length - y2.1.toNat = (l.length - (y2.1.toNat + 1)) + 1 from by omega, List.replicate_succ, mod_at (by simp; omega), take_succ (by omega)]
    simp
  · have e : l.take y2.1.toNat = l := List.take_of_length_le (by omega)
    rw [i2.2.2, e]; simp; omega)
def E50 : D.Env := E49.add 60 ftoModuleS
theorem E50ok : EOk Try.prog E50 := E49ok.add k60_49
-- laws.eqModuleS
set_option maxHeartbeats 2000000 in
theorem k71_50 : feqModuleS.ok Try.prog 71 := Fct.of (S := feqModuleS) (L := fun ⟨l, m, _⟩ => fun | 4 => some (LeqS .module l m) | _ => none) (kp := [0,1,4,5,10,14,26,1000010,1000014,1000026]) E50ok Try.func71 (by kernel_rfl) (by kernel_rfl) (by
  rintro ⟨(l : List SModule), (m : List SModule), _⟩ hp
  refine holds_of (X := .br ((↑l.length : Int) != (↑m.length : Int))
 (.leaf (mkR feqModuleS.rs (false, ())) [] [])
 (lpx (LeqS .module l m) ((0 : Int), ()) fun (y2 : Int × PUnit) bk2 =>
  .br (decide (y2.fst < (↑l.length : Int)))
   (.ob ((0 : Int) ≤ y2.fst ∧ y2.fst < (↑l.length : Int)) <|
    .ob ((0 : Int) ≤ y2.fst ∧ y2.fst < (↑m.length : Int)) <|
    .ob (feqModule.pre (l.getD y2.fst.toNat default, m.getD y2.fst.toNat default, ())) <|
    .lt (Bool × PUnit) (feqModule.fn (l.getD y2.fst.toNat default, m.getD y2.fst.toNat default, ())) fun z2 =>
    .br (!z2.fst)
     (.leaf (mkR feqModuleS.rs (false, ())) [] [])
     (.ob (l = l) <|
      .ob (m = m) <|
      .ob (bk2 (IntKind.i64.wrap (y2.fst + (1 : Int)), ())) <|
      .ok))
   (.leaf (mkR feqModuleS.rs (true, ())) [] []))) (by kernel_rfl) ?_
  refine br_i (fun h1 => Fct.leafY ?_) (fun h1 => lpx_i ?_ fun (y2 : Int × PUnit) i2 => br_i (fun h3 => ob_i ?_ fun o4 => ob_i ?_ fun o5 => ob_i trivial fun _ => lt_i (br_i (fun h6 => Fct.leafY ?_) (fun h6 => ob_i rfl fun _ => ob_i rfl fun _ => ob_i ?_ fun o7 => trivial))) (fun h3 => Fct.leafY ?_))
  all_goals try simp only [decide_eq_true_eq, decide_eq_false_iff_not, Bool.not_eq_true', Bool.not_eq_false', bne_iff_ne, bne_eq_false_iff_eq, beq_iff_eq, beq_eq_false_iff_ne, baEq, Int.not_lt, Int.not_le, ne_eq, Decidable.not_not] at *
  all_goals try simp only [LeqS, feqModule, feqModuleS, etaToken, etaNode, etaBuilder, etaPolicy, etaPage, etaVisit, etaTab, etaServer, etaCache, etaNet, etaLoader, etaSheet, etaResult, etaSlot, etaModule, etaAddr, etaRequest, etaResponse, etaConn, etaGuess, etaEntry, etaSent, etaFile, baSz, List.size_toArray, List.length_cons, List.length_nil, Nat.reduceAdd, Int.toNat_zero, List.drop_zero, decide_eq_true_eq, decide_eq_false_iff_not, Bool.not_eq_true', Bool.not_eq_false', bne_iff_ne, bne_eq_false_iff_eq, beq_iff_eq, beq_eq_false_iff_ne, Bool.not_eq_true, Bool.not_eq_false, ne_eq, Decidable.not_not, baEq, decide_not, Prod.mk.injEq, and_true, true_and, Room, List.nil_append, Nat.zero_add, Int.not_lt, Int.not_le] at *
  · rw [decide_eq_false]; rintro rfl; omega
  · exact ⟨by omega, by omega, by simp⟩
  · omega
  · omega
  · rw [decide_eq_false]; rintro rfl; exact absurd rfl h6
  · have hw : IntKind.i64.wrap (y2.1 + 1) = y2.1 + 1 := wrapId (by omega)
    rw [hw, toNat1 (by omega)]
    refine ⟨⟨by omega, by omega, ?_⟩, by omega⟩
    rw [take_succ (by omega), take_succ (by omega), i2.2.2, h6]
  · have e : l.take y2.1.toNat = l := List.take_of_length_le (by omega)
    have e2 : m.take y2.1.toNat = m := List.take_of_length_le (by omega)
    rw [decide_eq_true]; rw [← e, ← e2, i2.2.2])
def E51 : D.Env := E50.add 71 feqModuleS
theorem E51ok : EOk Try.prog E51 := E50ok.add k71_50
-- laws.szPage
set_option maxHeartbeats 2000000 in
theorem k10_51 : fszPage.ok Try.prog 10 := Fct.of (S := fszPage) (L := fun _ _ => none) (kp := [1,2,4,10,16,22,28,34,40,46,52,58,64,1000010,1000016,1000022,1000028,1000034,1000040,1000046,1000052,1000058,1000064]) E51ok Try.func10 (by kernel_rfl) (by kernel_rfl) (by
  rintro ⟨(x : SPage), (n : Int), _⟩ hp
  refine holds_of (X := .ob (fszAddr.pre (x.addr, n, ())) <|
 .lt (Int × PUnit) (fszAddr.fn (x.addr, n, ())) fun z2 =>
 .br (decide (z2.fst < (0 : Int)))
  (.leaf (mkR fszPage.rs ((-1 : Int), ())) [] [])
  (.ob (fszPolicy.pre (x.policy, z2.fst, ())) <|
   .lt (Int × PUnit) (fszPolicy.fn (x.policy, z2.fst, ())) fun z3 =>
   .br (decide (z3.fst < (0 : Int)))
    (.leaf (mkR fszPage.rs ((-1 : Int), ())) [] [])
    (.ob (fszTokenizer.pre (x.tok, z3.fst, ())) <|
     .lt (Int × PUnit) (fszTokenizer.fn (x.tok, z3.fst, ())) fun z4 =>
     .br (decide (z4.fst < (0 : Int)))
      (.leaf (mkR fszPage.rs ((-1 : Int), ())) [] [])
      (.ob (fszTokenS.pre (x.queue, z4.fst, ())) <|
       .lt (Int × PUnit) (fszTokenS.fn (x.queue, z4.fst, ())) fun z5 =>
       .br (decide (z5.fst < (0 : Int)))
        (.leaf (mkR fszPage.rs ((-1 : Int), ())) [] [])
        (.ob (fszBuilder.pre (x.builder, z5.fst, ())) <|
         .lt (Int × PUnit) (fszBuilder.fn (x.builder, z5.fst, ())) fun z6 =>
         .br (decide (z6.fst < (0 : Int)))
          (.leaf (mkR fszPage.rs ((-1 : Int), ())) [] [])
          (.ob (fszSlotS.pre (x.slots, z6.fst, ())) <|
           .lt (Int × PUnit) (fszSlotS.fn (x.slots, z6.fst, ())) fun z7 =>
           .br (decide (z7.fst < (0 : Int)))
            (.leaf (mkR fszPage.rs ((-1 : Int), ())) [] [])
            (.ob (fszModuleS.pre (x.mods, z7.fst, ())) <|
             .lt (Int × PUnit) (fszModuleS.fn (x.mods, z7.fst, ())) fun z8 =>
             .br (decide (z8.fst < (0 : Int)))
              (.leaf (mkR fszPage.rs ((-1 : Int), ())) [] [])
              (.ob (fszAddrS.pre (x.entries, z8.fst, ())) <|
               .lt (Int × PUnit) (fszAddrS.fn (x.entries, z8.fst, ())) fun z9 =>
               .br (decide (z9.fst < (0 : Int)))
                (.leaf (mkR fszPage.rs ((-1 : Int), ())) [] [])
                (.ob (fszAddrS.pre (x.ran, z9.fst, ())) <|
                 .lt (Int × PUnit) (fszAddrS.fn (x.ran, z9.fst, ())) fun z10 =>
                 .br (decide (z10.fst < (0 : Int)))
                  (.leaf (mkR fszPage.rs ((-1 : Int), ())) [] [])
                  (.ob (fszStringS.pre (x.log, z10.fst, ())) <|
                   .lt (Int × PUnit) (fszStringS.fn (x.log, z10.fst, ())) fun z11 =>
                   .br (decide (z11.fst < (0 : Int)))
                    (.leaf (mkR fszPage.rs ((-1 : Int), ())) [] [])
                    (.leaf (mkR fszPage.rs (z11.fst, ())) [] []))))))))))) (by kernel_rfl) ?_
  refine ob_i ?_ fun o1 => lt_i (br_i (fun h2 => Fct.leafY ?_) (fun h2 => ob_i ?_ fun o3 => lt_i (br_i (fun h4 => Fct.leafY ?_) (fun h4 => ob_i ?_ fun o5 => lt_i (br_i (fun h6 => Fct.leafY ?_) (fun h6 => ob_i ?_ fun o7 => lt_i (br_i (fun h8 => Fct.leafY ?_) (fun h8 => ob_i ?_ fun o9 => lt_i (br_i (fun h10 => Fct.leafY ?_) (fun h10 => ob_i ?_ fun o11 => lt_i (br_i (fun h12 => Fct.leafY ?_) (fun h12 => ob_i ?_ fun o13 => lt_i (br_i (fun h14 => Fct.leafY ?_) (fun h14 => ob_i ?_ fun o15 => lt_i (br_i (fun h16 => Fct.leafY ?_) (fun h16 => ob_i ?_ fun o17 => lt_i (br_i (fun h18 => Fct.leafY ?_) (fun h18 => ob_i ?_ fun o19 => lt_i (br_i (fun h20 => Fct.leafY ?_) (fun h20 => Fct.leafY ?_))))))))))))))))))))
  all_goals try simp only [decide_eq_true_eq, decide_eq_false_iff_not, Bool.not_eq_true', Bool.not_eq_false', bne_iff_ne, bne_eq_false_iff_eq, beq_iff_eq, beq_eq_false_iff_ne, baEq, Int.not_lt, Int.not_le, ne_eq, Decidable.not_not] at *
  all_goals try simp only [fszAddr, fszAddrS, fszBuilder, fszModuleS, fszPage, fszPolicy, fszSlotS, fszStringS, fszTokenS, fszTokenizer, etaToken, etaNode, etaBuilder, etaPolicy, etaPage, etaVisit, etaTab, etaServer, etaCache, etaNet, etaLoader, etaSheet, etaResult, etaSlot, etaModule, etaAddr, etaRequest, etaResponse, etaConn, etaGuess, etaEntry, etaSent, etaFile, baSz, List.size_toArray, List.length_cons, List.length_nil, Nat.reduceAdd, Int.toNat_zero, List.drop_zero, decide_eq_true_eq, decide_eq_false_iff_not, Bool.not_eq_true', Bool.not_eq_false', bne_iff_ne, bne_eq_false_iff_eq, beq_iff_eq, beq_eq_false_iff_ne, Bool.not_eq_true, Bool.not_eq_false, ne_eq, Decidable.not_not, baEq, decide_not, Prod.mk.injEq, and_true, true_and, Room, List.nil_append, Nat.zero_add, Int.not_lt, Int.not_le, Sh.good, Sh.fc, enc, List.forall_mem_cons, List.not_mem_nil, false_implies, implies_true, goodC, maxLen] at *
  all_goals grind [wrapId', lessen, szAddr, szBuilder, szL, szPage, szPolicy, szTokenizer])
def E52 : D.Env := E51.add 10 fszPage
theorem E52ok : EOk Try.prog E52 := E51ok.add k10_51
-- laws.toPage
theorem k13_52 : ftoPage.ok Try.prog 13 := Fct.of (S := ftoPage) (L := fun _ _ => none) (kp := [1,2,3]) E52ok Try.func13 (by kernel_rfl) (by kernel_rfl) (by
  rintro ⟨(x : SPage), _⟩ hp
  refine holds_of (X := .ob (ftoAddr.pre (x.addr, ())) <|
 .lt (SAddr × PUnit) (ftoAddr.fn (x.addr, ())) fun z2 =>
 .ob (ftoPolicy.pre (x.policy, ())) <|
  .lt (SPolicy × PUnit) (ftoPolicy.fn (x.policy, ())) fun z3 =>
  .ob (ftoTokenizer.pre (x.tok, ())) <|
   .lt (STokenizer × PUnit) (ftoTokenizer.fn (x.tok, ())) fun z4 =>
   .ob (ftoTokenS.pre (x.queue, ())) <|
    .lt (List SToken × PUnit) (ftoTokenS.fn (x.queue, ())) fun z5 =>
    .ob (ftoBuilder.pre (x.builder, ())) <|
     .lt (SBuilder × PUnit) (ftoBuilder.fn (x.builder, ())) fun z6 =>
     .ob (ftoSlotS.pre (x.slots, ())) <|
      .lt (List SSlot × PUnit) (ftoSlotS.fn (x.slots, ())) fun z7 =>
      .ob (ftoModuleS.pre (x.mods, ())) <|
       .lt (List SModule × PUnit) (ftoModuleS.fn (x.mods, ())) fun z8 =>
       .ob (ftoAddrS.pre (x.entries, ())) <|
        .lt (List SAddr × PUnit) (ftoAddrS.fn (x.entries, ())) fun z9 =>
        .ob (ftoAddrS.pre (x.ran, ())) <|
         .lt (List SAddr × PUnit) (ftoAddrS.fn (x.ran, ())) fun z10 =>
         .ob (ftoStringS.pre (x.log, ())) <|
          .lt (List ByteArray × PUnit) (ftoStringS.fn (x.log, ())) fun z11 =>
          .leaf (mkR ftoPage.rs (⟨z2.fst, z3.fst, z4.fst, z5.fst, x.ended, z6.fst, z7.fst, z8.fst, z9.fst, x.block, x.inline, x.deferred, x.entered, z10.fst, z11.fst, x.loaded⟩, ())) [] []) (by kernel_rfl) ?_
  refine ob_i ?_ fun o1 => lt_i (ob_i ?_ fun o2 => lt_i (ob_i ?_ fun o3 => lt_i (ob_i ?_ fun o4 => lt_i (ob_i ?_ fun o5 => lt_i (ob_i ?_ fun o6 => lt_i (ob_i ?_ fun o7 => lt_i (ob_i ?_ fun o8 => lt_i (ob_i ?_ fun o9 => lt_i (ob_i ?_ fun o10 => lt_i (Fct.leafY ?_))))))))))
  all_goals try simp only [decide_eq_true_eq, decide_eq_false_iff_not, Bool.not_eq_true', Bool.not_eq_false', bne_iff_ne, bne_eq_false_iff_eq, beq_iff_eq, beq_eq_false_iff_ne, baEq, Int.not_lt, Int.not_le, ne_eq, Decidable.not_not] at *
  all_goals try simp only [ftoAddr, ftoAddrS, ftoBuilder, ftoModuleS, ftoPage, ftoPolicy, ftoSlotS, ftoStringS, ftoTokenS, ftoTokenizer, etaToken, etaNode, etaBuilder, etaPolicy, etaPage, etaVisit, etaTab, etaServer, etaCache, etaNet, etaLoader, etaSheet, etaResult, etaSlot, etaModule, etaAddr, etaRequest, etaResponse, etaConn, etaGuess, etaEntry, etaSent, etaFile, baSz, List.size_toArray, List.length_cons, List.length_nil, Nat.reduceAdd, Int.toNat_zero, List.drop_zero, decide_eq_true_eq, decide_eq_false_iff_not, Bool.not_eq_true', Bool.not_eq_false', bne_iff_ne, bne_eq_false_iff_eq, beq_iff_eq, beq_eq_false_iff_ne, Bool.not_eq_true, Bool.not_eq_false, ne_eq, Decidable.not_not, baEq, decide_not, Prod.mk.injEq, and_true, true_and, Room, List.nil_append, Nat.zero_add, Int.not_lt, Int.not_le] at *
  all_goals first | trivial | rfl | grind [szAddr, szBuilder, szL, szPage, szPolicy, szTokenizer])
def E53 : D.Env := E52.add 13 ftoPage
theorem E53ok : EOk Try.prog E53 := E52ok.add k13_52
-- laws.eqPage
set_option maxHeartbeats 2000000 in
theorem k16_53 : feqPage.ok Try.prog 16 := Fct.of (S := feqPage) (L := fun _ _ => none) (kp := [2,3,4,10,16,22,28,33,39,45,51,57,62,67,72,77,83,89,94,1000010,1000016,1000022,1000028,1000033,1000039,1000045,1000051,1000057,1000062,1000067,1000072,1000077,1000083,1000089,1000094]) E53ok Try.func16 (by kernel_rfl) (by kernel_rfl) (by
  rintro ⟨(x : SPage), (y : SPage), _⟩ hp
  refine holds_of (X := .ob (feqAddr.pre (x.addr, y.addr, ())) <|
 .lt (Bool × PUnit) (feqAddr.fn (x.addr, y.addr, ())) fun z2 =>
 .br (!z2.fst)
  (.leaf (mkR feqPage.rs (false, ())) [] [])
  (.ob (feqPolicy.pre (x.policy, y.policy, ())) <|
   .lt (Bool × PUnit) (feqPolicy.fn (x.policy, y.policy, ())) fun z3 =>
   .br (!z3.fst)
    (.leaf (mkR feqPage.rs (false, ())) [] [])
    (.ob (feqTokenizer.pre (x.tok, y.tok, ())) <|
     .lt (Bool × PUnit) (feqTokenizer.fn (x.tok, y.tok, ())) fun z4 =>
     .br (!z4.fst)
      (.leaf (mkR feqPage.rs (false, ())) [] [])
      (.ob (feqTokenS.pre (x.queue, y.queue, ())) <|
       .lt (Bool × PUnit) (feqTokenS.fn (x.queue, y.queue, ())) fun z5 =>
       .br (!z5.fst)
        (.leaf (mkR feqPage.rs (false, ())) [] [])
        (.br (!x.ended == y.ended)
         (.leaf (mkR feqPage.rs (false, ())) [] [])
         (.ob (feqBuilder.pre (x.builder, y.builder, ())) <|
          .lt (Bool × PUnit) (feqBuilder.fn (x.builder, y.builder, ())) fun z6 =>
          .br (!z6.fst)
           (.leaf (mkR feqPage.rs (false, ())) [] [])
           (.ob (feqSlotS.pre (x.slots, y.slots, ())) <|
            .lt (Bool × PUnit) (feqSlotS.fn (x.slots, y.slots, ())) fun z7 =>
            .br (!z7.fst)
             (.leaf (mkR feqPage.rs (false, ())) [] [])
             (.ob (feqModuleS.pre (x.mods, y.mods, ())) <|
              .lt (Bool × PUnit) (feqModuleS.fn (x.mods, y.mods, ())) fun z8 =>
              .br (!z8.fst)
               (.leaf (mkR feqPage.rs (false, ())) [] [])
               (.ob (feqAddrS.pre (x.entries, y.entries, ())) <|
                .lt (Bool × PUnit) (feqAddrS.fn (x.entries, y.entries, ())) fun z9 =>
                .br (!z9.fst)
                 (.leaf (mkR feqPage.rs (false, ())) [] [])
                 (.br (x.block != y.block)
                  (.leaf (mkR feqPage.rs (false, ())) [] [])
                  (.br (x.inline != y.inline)
                   (.leaf (mkR feqPage.rs (false, ())) [] [])
                   (.br (x.deferred != y.deferred)
                    (.leaf (mkR feqPage.rs (false, ())) [] [])
                    (.br (x.entered != y.entered)
                     (.leaf (mkR feqPage.rs (false, ())) [] [])
                     (.ob (feqAddrS.pre (x.ran, y.ran, ())) <|
                      .lt (Bool × PUnit) (feqAddrS.fn (x.ran, y.ran, ())) fun z10 =>
                      .br (!z10.fst)
                       (.leaf (mkR feqPage.rs (false, ())) [] [])
                       (.ob (feqStringS.pre (x.log, y.log, ())) <|
                        .lt (Bool × PUnit) (feqStringS.fn (x.log, y.log, ())) fun z11 =>
                        .br (!z11.fst)
                         (.leaf (mkR feqPage.rs (false, ())) [] [])
                         (.br (!x.loaded == y.loaded)
                          (.leaf (mkR feqPage.rs (false, ())) [] [])
                          (.leaf (mkR feqPage.rs (true, ())) [] []))))))))))))))))) (by kernel_rfl) ?_
  refine ob_i trivial fun _ => lt_i (br_i (fun h1 => Fct.leafY ?_) (fun h1 => ob_i ?_ fun o2 => lt_i (br_i (fun h3 => Fct.leafY ?_) (fun h3 => ob_i trivial fun _ => lt_i (br_i (fun h4 => Fct.leafY ?_) (fun h4 => ob_i ?_ fun o5 => lt_i (br_i (fun h6 => Fct.leafY ?_) (fun h6 => br_i (fun h7 => Fct.leafY ?_) (fun h7 => ob_i ?_ fun o8 => lt_i (br_i (fun h9 => Fct.leafY ?_) (fun h9 => ob_i ?_ fun o10 => lt_i (br_i (fun h11 => Fct.leafY ?_) (fun h11 => ob_i ?_ fun o12 => lt_i (br_i (fun h13 => Fct.leafY ?_) (fun h13 => ob_i ?_ fun o14 => lt_i (br_i (fun h15 => Fct.leafY ?_) (fun h15 => br_i (fun h16 => Fct.leafY ?_) (fun h16 => br_i (fun h17 => Fct.leafY ?_) (fun h17 => br_i (fun h18 => Fct.leafY ?_) (fun h18 => br_i (fun h19 => Fct.leafY ?_) (fun h19 => ob_i ?_ fun o20 => lt_i (br_i (fun h21 => Fct.leafY ?_) (fun h21 => ob_i ?_ fun o22 => lt_i (br_i (fun h23 => Fct.leafY ?_) (fun h23 => br_i (fun h24 => Fct.leafY ?_) (fun h24 => Fct.leafY ?_))))))))))))))))))))))))))
  all_goals try simp only [decide_eq_true_eq, decide_eq_false_iff_not, Bool.not_eq_true', Bool.not_eq_false', bne_iff_ne, bne_eq_false_iff_eq, beq_iff_eq, beq_eq_false_iff_ne, baEq, Int.not_lt, Int.not_le, ne_eq, Decidable.not_not] at *
  all_goals try simp only [feqAddr, feqAddrS, feqBuilder, feqModuleS, feqPage, feqPolicy, feqSlotS, feqStringS, feqTokenS, feqTokenizer, etaToken, etaNode, etaBuilder, etaPolicy, etaPage, etaVisit, etaTab, etaServer, etaCache, etaNet, etaLoader, etaSheet, etaResult, etaSlot, etaModule, etaAddr, etaRequest, etaResponse, etaConn, etaGuess, etaEntry, etaSent, etaFile, baSz, List.size_toArray, List.length_cons, List.length_nil, Nat.reduceAdd, Int.toNat_zero, List.drop_zero, decide_eq_true_eq, decide_eq_false_iff_not, Bool.not_eq_true', Bool.not_eq_false', bne_iff_ne, bne_eq_false_iff_eq, beq_iff_eq, beq_eq_false_iff_ne, Bool.not_eq_true, Bool.not_eq_false, ne_eq, Decidable.not_not, baEq, decide_not, Prod.mk.injEq, and_true, true_and, Room, List.nil_append, Nat.zero_add, Int.not_lt, Int.not_le] at *
  all_goals first | trivial | (cases x; cases y; simp_all; done) | (simp only [szAddr, szBuilder, szL, szPage, szPolicy, szTokenizer] at *; omega) | grind [szAddr, szBuilder, szL, szPage, szPolicy, szTokenizer])
def E54 : D.Env := E53.add 16 feqPage
theorem E54ok : EOk Try.prog E54 := E53ok.add k16_53
def fHasAddr : Fct := ⟨[.v (.sl .addr), .v (.el .addr)], [.el .bool], fun (x_ : (List SAddr) × SAddr × Unit) => x_.1.length ≤ 1000000000000000000, fun (x_ : (List SAddr) × SAddr × Unit) => (x_.1.any fun c => decide (c = x_.2.1), ())⟩
abbrev W_spec_HasAddr_fHasAddr_2 (l : (List SAddr)) (a : SAddr) : LInv := ⟨[⟨.s, 5, true, .el .int⟩, ⟨.b, 3, true, .el .addr⟩], fun (z_ : Int × SAddr × Unit) (x_ : Int × SAddr × Unit) => (0 ≤ x_.1 ∧ x_.1 ≤ l.length ∧ l.any (fun c => decide (c = a)) = (l.drop x_.1.toNat).any (fun c => decide (c = a))) ∧ x_.2.1 = z_.2.1, fun (x_ : Int × SAddr × Unit) => l.length - x_.1.toNat⟩
-- spec.HasAddr
theorem k99_54 : fHasAddr.ok Try.prog 99 := Fct.of (S := fHasAddr) (L := fun ⟨l, a, _⟩ => fun | 2 => some (W_spec_HasAddr_fHasAddr_2 l a) | _ => none) (kp := [0,3,4,5,9,17,1000009,1000017]) E54ok Try.func99 (by kernel_rfl) (by kernel_rfl) (by
  rintro ⟨(l : List SAddr), (a : SAddr), _⟩ hp
  refine holds_of (X := lpx (W_spec_HasAddr_fHasAddr_2 l a) ((0 : Int), (a, ())) fun (y1 : Int × SAddr × PUnit) bk1 =>
 .br (decide (y1.fst < (↑l.length : Int)))
  (.ob ((0 : Int) ≤ y1.fst ∧ y1.fst < (↑l.length : Int)) <|
   .br ((l.getD y1.fst.toNat default).host == y1.snd.fst.host && ((l.getD y1.fst.toNat default).path == y1.snd.fst.path && true))
   (.leaf (mkR fHasAddr.rs (true, ())) [] [])
   (.ob (l = l) <|
    .ob (bk1 (IntKind.i64.wrap (y1.fst + (1 : Int)), (y1.snd.fst, ()))) <|
    .ok))
  (.leaf (mkR fHasAddr.rs (false, ())) [] [])) (by kernel_rfl) ?_
  refine lpx_i ?_ fun (y1 : Int × SAddr × PUnit) i1 => br_i (fun h2 => ob_i ?_ fun o3 => br_i (fun h4 => Fct.leafY ?_) (fun h4 => ob_i rfl fun _ => ob_i ?_ fun o5 => trivial)) (fun h2 => Fct.leafY ?_)
  all_goals try simp only [beqAddr] at *
  all_goals try simp only [decide_eq_true_eq, decide_eq_false_iff_not, Bool.not_eq_true', Bool.not_eq_false', bne_iff_ne, bne_eq_false_iff_eq, beq_iff_eq, beq_eq_false_iff_ne, baEq, Int.not_lt, Int.not_le, ne_eq, Decidable.not_not] at *
  all_goals try simp only [W_spec_HasAddr_fHasAddr_2, fHasAddr, etaToken, etaNode, etaBuilder, etaPolicy, etaPage, etaVisit, etaTab, etaServer, etaCache, etaNet, etaLoader, etaSheet, etaResult, etaSlot, etaModule, etaAddr, etaRequest, etaResponse, etaConn, etaGuess, etaEntry, etaSent, etaFile, baSz, List.size_toArray, List.length_cons, List.length_nil, Nat.reduceAdd, Int.toNat_zero, List.drop_zero, decide_eq_true_eq, decide_eq_false_iff_not, Bool.not_eq_true', Bool.not_eq_false', bne_iff_ne, bne_eq_false_iff_eq, beq_iff_eq, beq_eq_false_iff_ne, Bool.not_eq_true, Bool.not_eq_false, ne_eq, Decidable.not_not, baEq, decide_not, Prod.mk.injEq, and_true, true_and, Room, List.nil_append, Nat.zero_add, Int.not_lt, Int.not_le] at *
  all_goals try simp (disch := omega) only [wrapId', toNat1] at *
  all_goals try simp (disch := omega) only [if_pos, if_neg]
  all_goals first | trivial | omega | grind [wrapId', toNat1, drop_cons, drop_end, good_len, maxLen])
def E55 : D.Env := E54.add 99 fHasAddr
theorem E55ok : EOk Try.prog E55 := E54ok.add k99_54
def lPage : Fct := lawFS [.el .page]
def fCompareAddrs : Fct := ⟨[.v (.el .addr), .v (.el .addr)], [.el .int], fun (x_ : SAddr × SAddr × Unit) => True, fun (x_ : SAddr × SAddr × Unit) => (cmpA x_.1 x_.2.1, ())⟩
def laysCmp_r : Go.Shelf.Ren := ⟨fun | 0 => 0 | 1 => 1 | 2 => 2 | 106 => 173 | 109 => 168 | 110 => 133 | 111 => 211 | 125 => 172 | 128 => 205 | 129 => 206 | 193 => 184 | 213 => 207 | 265 => 218 | 329 => 214 | 330 => 215 | 347 => 221 | 348 => 222 | 349 => 223 | 350 => 224 | 351 => 225 | 352 => 226 | 353 => 227 | 354 => 228 | 355 => 229 | 356 => 230 | 357 => 231 | 358 => 232 | 359 => 233 | 360 => 234 | 361 => 235 | 366 => 236 | _ => 0, fun | 0 => 0 | 1 => 1 | 2 => 2 | 3 => 3 | 4 => 4 | 5 => 5 | 6 => 6 | 7 => 7 | 8 => 8 | 9 => 9 | 10 => 10 | 11 => 11 | 12 => 12 | 13 => 13 | 14 => 14 | 15 => 15 | 16 => 16 | 17 => 17 | 18 => 18 | 19 => 19 | 20 => 20 | 21 => 21 | 27 => 257 | 28 => 31 | 30 => 173 | 31 => 24 | 32 => 251 | 33 => 207 | 34 => 196 | 37 => 221 | 46 => 256 | 47 => 255 | 51 => 288 | 52 => 287 | 53 => 290 | 54 => 289 | 80 => 301 | 81 => 307 | 83 => 152 | 101 => 133 | 102 => 124 | 127 => 311 | 131 => 285 | 164 => 316 | 182 => 280 | 183 => 281 | 218 => 292 | 219 => 293 | 220 => 294 | 222 => 296 | 228 => 298 | 229 => 299 | 238 => 302 | 239 => 303 | 240 => 304 | 241 => 305 | 242 => 306 | 243 => 308 | 244 => 309 | 245 => 310 | 246 => 312 | 247 => 313 | 248 => 314 | 249 => 315 | _ => 0, fun | 1 => 0 | _ => 0⟩
theorem laysCmp : Go.Proofs.Lays.n106 Try.prog laysCmp_r where
  mixed := by kernel_rfl
  f106 := by kernel_rfl
  f213 := by kernel_rfl
  f265 := by kernel_rfl
  t3 := by kernel_rfl
  a3 := fun _ => by kernel_rfl
  z3 := fun _ => by kernel_rfl
  v3 := fun _ => by kernel_rfl
  t9 := by kernel_rfl
  a9 := fun _ => by kernel_rfl
  z9 := fun _ => by kernel_rfl
  v9 := fun _ => by kernel_rfl
-- strings.Compare
theorem k173_55 : fCmpStr.ok Try.prog 173 :=
  strs_ok rfl (Any.strings_Compare laysCmp)
def E56 : D.Env := E55.add 173 fCmpStr
theorem E56ok : EOk Try.prog E56 := E55ok.add k173_55
-- impl.CompareAddrs
theorem k139_56 : fCompareAddrs.ok Try.prog 139 := Fct.of (S := fCompareAddrs) (L := fun _ _ => none) (kp := [2,3,4,5,12,1000012]) E56ok Try.func139 (by kernel_rfl) (by kernel_rfl) (by
  rintro ⟨(a : SAddr), (b : SAddr), _⟩ hp
  refine holds_of (X := .ob (fCmpStr.pre (a.host, b.host, ())) <|
 .lt (Int × PUnit) (fCmpStr.fn (a.host, b.host, ())) fun z2 =>
 .br (z2.fst != (0 : Int))
  (.leaf (mkR fCompareAddrs.rs (z2.fst, ())) [] [])
  (.ob (fCmpStr.pre (a.path, b.path, ())) <|
   .lt (Int × PUnit) (fCmpStr.fn (a.path, b.path, ())) fun z3 =>
   .leaf (mkR fCompareAddrs.rs (z3.fst, ())) [] [])) (by kernel_rfl) ?_
  refine ob_i trivial fun _ => lt_i (br_i (fun h1 => Fct.leafY ?_) (fun h1 => ob_i trivial fun _ => lt_i (Fct.leafY ?_)))
  all_goals try simp only [decide_eq_true_eq, decide_eq_false_iff_not, Bool.not_eq_true', Bool.not_eq_false', bne_iff_ne, bne_eq_false_iff_eq, beq_iff_eq, beq_eq_false_iff_ne, baEq, Int.not_lt, Int.not_le, ne_eq, Decidable.not_not] at *
  all_goals try simp only [fCmpStr, fCompareAddrs, etaToken, etaNode, etaBuilder, etaPolicy, etaPage, etaVisit, etaTab, etaServer, etaCache, etaNet, etaLoader, etaSheet, etaResult, etaSlot, etaModule, etaAddr, etaRequest, etaResponse, etaConn, etaGuess, etaEntry, etaSent, etaFile, baSz, List.size_toArray, List.length_cons, List.length_nil, Nat.reduceAdd, Int.toNat_zero, List.drop_zero, decide_eq_true_eq, decide_eq_false_iff_not, Bool.not_eq_true', Bool.not_eq_false', bne_iff_ne, bne_eq_false_iff_eq, beq_iff_eq, beq_eq_false_iff_ne, Bool.not_eq_true, Bool.not_eq_false, ne_eq, Decidable.not_not, baEq, decide_not, Prod.mk.injEq, and_true, true_and, Room, List.nil_append, Nat.zero_add, Int.not_lt, Int.not_le, cmpA, fCmpStr] at *
  all_goals try simp (disch := omega) only [wrapId', toNat1] at *
  all_goals try simp (disch := omega) only [if_pos, if_neg]
  all_goals first | trivial | omega | grind [wrapId', toNat1, drop_cons, drop_end, good_len, maxLen, cmpA, fCmpStr])
def E57 : D.Env := E56.add 139 fCompareAddrs
theorem E57ok : EOk Try.prog E57 := E56ok.add k139_56
def fSortA : GS := ⟨[.k (.sl .addr), .l (.c 139 [])], [], fun (x_ : (List SAddr) × (Unit) × Unit) => x_.1.length < 4611686018427387904, fun (x_ : (List SAddr) × (Unit) × Unit) => ((()), (sortA x_.1, ()))⟩
def laysSortA_r : Go.Shelf.Ren := ⟨fun | 0 => 0 | 1 => 1 | 2 => 2 | 6 => 138 | 14 => 171 | 15 => 172 | 20 => 197 | 21 => 198 | 22 => 199 | 23 => 200 | 24 => 201 | 25 => 202 | 26 => 203 | 27 => 204 | 28 => 205 | 29 => 206 | 46 => 213 | 47 => 214 | 48 => 215 | 49 => 216 | 50 => 217 | 57 => 220 | 60 => 221 | 61 => 222 | 62 => 223 | 63 => 224 | 64 => 225 | 65 => 226 | 66 => 227 | 67 => 228 | 68 => 229 | 69 => 230 | 70 => 231 | 71 => 232 | 72 => 233 | 73 => 234 | 74 => 235 | 75 => 236 | _ => 0, fun | 0 => 0 | 1 => 1 | 2 => 2 | 3 => 3 | 4 => 4 | 5 => 5 | 6 => 6 | 7 => 7 | 8 => 8 | 9 => 9 | 10 => 10 | 11 => 11 | 12 => 12 | 13 => 13 | 14 => 14 | 15 => 15 | 16 => 16 | 17 => 17 | 18 => 18 | 19 => 19 | 20 => 20 | 21 => 21 | 22 => 52 | 23 => 218 | 24 => 43 | 25 => 217 | 27 => 31 | 37 => 254 | 38 => 255 | 39 => 256 | 44 => 279 | 45 => 280 | 46 => 281 | 47 => 282 | 48 => 283 | 49 => 284 | 50 => 285 | 51 => 286 | 52 => 287 | 53 => 288 | 54 => 289 | 55 => 290 | 66 => 292 | 67 => 293 | 68 => 294 | 69 => 295 | 70 => 296 | 71 => 297 | 76 => 298 | 77 => 299 | 78 => 300 | 81 => 301 | 82 => 302 | 83 => 303 | 84 => 304 | 85 => 305 | 86 => 306 | 87 => 307 | 88 => 308 | 89 => 309 | 90 => 310 | 91 => 311 | 92 => 312 | 93 => 313 | 94 => 314 | 95 => 315 | 96 => 316 | _ => 0, fun _ => 0⟩
theorem laysSortA : Go.Proofs.SlLaysF0.n6 Try.prog laysSortA_r where
  mixed := by kernel_rfl
  f6 := ⟨"slices.SortFunc[[]loop.example/g00586/impl.Addr,loop.example/g00586/impl.Addr]", by decide, by kernel_rfl⟩
  f14 := ⟨"slices.pdqsortCmpFunc[loop.example/g00586/impl.Addr]", by decide, by kernel_rfl⟩
  f15 := by kernel_rfl
  f20 := ⟨"slices.insertionSortCmpFunc[loop.example/g00586/impl.Addr]", by decide, by kernel_rfl⟩
  f21 := ⟨"slices.heapSortCmpFunc[loop.example/g00586/impl.Addr]", by decide, by kernel_rfl⟩
  f22 := ⟨"slices.breakPatternsCmpFunc[loop.example/g00586/impl.Addr]", by decide, by kernel_rfl⟩
  f23 := ⟨"slices.choosePivotCmpFunc[loop.example/g00586/impl.Addr]", by decide, by kernel_rfl⟩
  f24 := ⟨"slices.reverseRangeCmpFunc[loop.example/g00586/impl.Addr]", by decide, by kernel_rfl⟩
  f25 := ⟨"slices.partialInsertionSortCmpFunc[loop.example/g00586/impl.Addr]", by decide, by kernel_rfl⟩
  f26 := ⟨"slices.partitionEqualCmpFunc[loop.example/g00586/impl.Addr]", by decide, by kernel_rfl⟩
  f27 := ⟨"slices.partitionCmpFunc[loop.example/g00586/impl.Addr]", by decide, by kernel_rfl⟩
  f28 := by kernel_rfl
  f29 := by kernel_rfl
  f46 := ⟨"slices.siftDownCmpFunc[loop.example/g00586/impl.Addr]", by decide, by kernel_rfl⟩
  f47 := by kernel_rfl
  f48 := by kernel_rfl
  f49 := ⟨"slices.medianAdjacentCmpFunc[loop.example/g00586/impl.Addr]", by decide, by kernel_rfl⟩
  f50 := ⟨"slices.medianCmpFunc[loop.example/g00586/impl.Addr]", by decide, by kernel_rfl⟩
  f57 := ⟨"slices.order2CmpFunc[loop.example/g00586/impl.Addr]", by decide, by kernel_rfl⟩
  t0 := by kernel_rfl
  a0 := fun _ => by kernel_rfl
  z0 := fun _ => by kernel_rfl
  v0 := fun _ => by kernel_rfl
  t3 := by kernel_rfl
  a3 := fun _ => by kernel_rfl
  z3 := fun _ => by kernel_rfl
  v3 := fun _ => by kernel_rfl
  t4 := by kernel_rfl
  a4 := fun _ => by kernel_rfl
  z4 := fun _ => by kernel_rfl
  v4 := fun _ => by kernel_rfl
  t5 := by kernel_rfl
  a5 := fun _ => by kernel_rfl
  z5 := fun _ => by kernel_rfl
  v5 := fun _ => by kernel_rfl
  t9 := by kernel_rfl
  a9 := fun _ => by kernel_rfl
  z9 := fun _ => by kernel_rfl
  v9 := fun _ => by kernel_rfl
  t22 := by kernel_rfl
  a22 := fun _ => by kernel_rfl
  z22 := fun _ => by kernel_rfl
  v22 := fun _ => by kernel_rfl
  t25 := by kernel_rfl
  a25 := fun _ => by kernel_rfl
  z25 := fun _ => by kernel_rfl
  v25 := fun _ => by kernel_rfl
  t39 := by kernel_rfl
  a39 := fun _ => by kernel_rfl
  z39 := fun _ => by kernel_rfl
  v39 := fun _ => by kernel_rfl
  t45 := by kernel_rfl
  a45 := fun _ => by kernel_rfl
  z45 := fun _ => by kernel_rfl
  v45 := fun _ => by kernel_rfl
  t46 := by kernel_rfl
  a46 := fun _ => by kernel_rfl
  z46 := fun _ => by kernel_rfl
  v46 := fun _ => by kernel_rfl
  t50 := by kernel_rfl
  a50 := fun _ => by kernel_rfl
  z50 := fun _ => by kernel_rfl
  v50 := fun _ => by kernel_rfl
  t53 := by kernel_rfl
  a53 := fun _ => by kernel_rfl
  z53 := fun _ => by kernel_rfl
  v53 := fun _ => by kernel_rfl
  t55 := by kernel_rfl
  a55 := fun _ => by kernel_rfl
  z55 := fun _ => by kernel_rfl
  v55 := fun _ => by kernel_rfl
  t66 := by kernel_rfl
  a66 := fun _ => by kernel_rfl
  z66 := fun _ => by kernel_rfl
  v66 := fun _ => by kernel_rfl
  t70 := by kernel_rfl
  a70 := fun _ => by kernel_rfl
  z70 := fun _ => by kernel_rfl
  v70 := fun _ => by kernel_rfl
  t76 := by kernel_rfl
  a76 := fun _ => by kernel_rfl
  z76 := fun _ => by kernel_rfl
  v76 := fun _ => by kernel_rfl
  t77 := by kernel_rfl
  a77 := fun _ => by kernel_rfl
  z77 := fun _ => by kernel_rfl
  v77 := fun _ => by kernel_rfl
-- slices.SortFunc[[]impl.Addr,impl.Addr]
theorem k138_57 : fSortA.ok Try.prog 138 :=
  sort_ok_ (cf := cmpA) laysSortA rfl (fun _ => by kernel_rfl) (fun _ => by kernel_rfl) swoA totA (enters_of Try.func139 (by kernel_rfl) rfl) k139_56
def E58 : D.Env := E57.addG 138 fSortA
theorem E58ok : EOk Try.prog E58 := E57ok.addG k138_57
def fCompactA : GS := ⟨[.g (.sl .addr)], [.sl .addr], fun (x_ : (List SAddr) × Unit) => x_.1.length ≤ 1000000000000, fun (x_ : (List SAddr) × Unit) => ((dedupA x_.1, ()), (()))⟩
abbrev W_slices_Compact_impl_Addr_impl_Addr_fCompactA_4 (s : (List SAddr)) : LInv := ⟨[⟨.s, 3, true, .el .int⟩, ⟨.t, 0, true, .sl .addr⟩], fun _ (x_ : Int × (List SAddr) × Unit) => 1 ≤ x_.1 ∧ x_.1 ≤ s.length ∧ x_.2.1 = s ∧ dedupA (s.take x_.1.toNat) = s.take x_.1.toNat, fun (x_ : Int × (List SAddr) × Unit) => s.length - x_.1.toNat⟩
abbrev W_slices_Compact_impl_Addr_impl_Addr_fCompactA_9 (s : (List SAddr)) : LInv := ⟨[⟨.s, 3, true, .el .int⟩, ⟨.s, 5, true, .el .int⟩, ⟨.t, 0, true, .sl .addr⟩], fun (z_ : Int × Int × (List SAddr) × Unit) (x_ : Int × Int × (List SAddr) × Unit) => CompInv s x_.2.2.1 z_.1 x_.1 x_.2.1, fun (x_ : Int × Int × (List SAddr) × Unit) => s.length - x_.2.1.toNat⟩
-- slices.Compact[[]impl.Addr,impl.Addr]
set_option maxHeartbeats 2000000 in
theorem k140_58 : fCompactA.ok Try.prog 140 := GS.of (S := fCompactA) (L := fun ⟨s, _⟩ => fun | 4 => some (W_slices_Compact_impl_Addr_impl_Addr_fCompactA_4 s) | 9 => some (W_slices_Compact_impl_Addr_impl_Addr_fCompactA_9 s) | _ => none) (kp := [0,2,3,4,5,8,13,25,32,44,1000008,1000013,1000025,1000032,1000044]) E58ok Try.func140 (by kernel_rfl) (by kernel_rfl) (by
  rintro ⟨(s : List SAddr), _⟩ hp
  refine holds_of (X := .br (decide ((↑s.length : Int) < (2 : Int)))
 (GS.out fCompactA ((s, ()), (())))
 (lpx (W_slices_Compact_impl_Addr_impl_Addr_fCompactA_4 s) ((1 : Int), (s, ())) fun (y2 : Int × List SAddr × PUnit) bk2 =>
  .br (decide (y2.fst < (↑y2.snd.fst.length : Int)))
   (.ob ((0 : Int) ≤ y2.fst ∧ y2.fst < (↑y2.snd.fst.length : Int)) <|
    .ob (y2.fst.toNat < y2.snd.fst.length) <|
    .ob ((0 : Int) ≤ IntKind.i64.wrap (y2.fst - (1 : Int)) ∧ IntKind.i64.wrap (y2.fst - (1 : Int)) < (↑y2.snd.fst.length : Int)) <|
    .ob ((IntKind.i64.wrap (y2.fst - (1 : Int))).toNat < y2.snd.fst.length) <|
    .br ((y2.snd.fst.getD y2.fst.toNat default).host ==
    (y2.snd.fst.getD (IntKind.i64.wrap (y2.fst - (1 : Int))).toNat default).host &&
  ((y2.snd.fst.getD y2.fst.toNat default).path ==
      (y2.snd.fst.getD (IntKind.i64.wrap (y2.fst - (1 : Int))).toNat default).path &&
    true))
    (.ob ((0 : Int) ≤ y2.fst ∧ y2.fst ≤ (↑y2.snd.fst.length : Int)) <|
     lpx (W_slices_Compact_impl_Addr_impl_Addr_fCompactA_9 s) (y2.fst, ((1 : Int), (y2.snd.fst, ()))) fun (y10 : Int × Int × List SAddr × PUnit) bk10 =>
     .br (decide (y10.snd.fst < (↑(y2.snd.fst.length - y2.fst.toNat) : Int)))
      (.ob ((0 : Int) ≤ y10.snd.fst ∧ y10.snd.fst < (↑(y2.snd.fst.length - y2.fst.toNat) : Int)) <|
       .ob (y2.fst.toNat + y10.snd.fst.toNat < y10.snd.snd.fst.length) <|
       .ob ((0 : Int) ≤ IntKind.i64.wrap (y10.snd.fst - (1 : Int)) ∧
  IntKind.i64.wrap (y10.snd.fst - (1 : Int)) < (↑(y2.snd.fst.length - y2.fst.toNat) : Int)) <|
       .ob (y2.fst.toNat + (IntKind.i64.wrap (y10.snd.fst - (1 : Int))).toNat < y10.snd.snd.fst.length) <|
       .br (!((y10.snd.snd.fst.getD (y2.fst.toNat + y10.snd.fst.toNat) default).host ==
      (y10.snd.snd.fst.getD (y2.fst.toNat + (IntKind.i64.wrap (y10.snd.fst - (1 : Int))).toNat) default).host &&
    ((y10.snd.snd.fst.getD (y2.fst.toNat + y10.snd.fst.toNat) default).path ==
        (y10.snd.snd.fst.getD (y2.fst.toNat + (IntKind.i64.wrap (y10.snd.fst - (1 : Int))).toNat) default).path &&
      true)))
       (.ob ((0 : Int) ≤ y10.snd.fst ∧ y10.snd.fst < (↑(y2.snd.fst.length - y2.fst.toNat) : Int)) <|
        .ob (y2.fst.toNat + y10.snd.fst.toNat < y10.snd.snd.fst.length) <|
        .ob ((0 : Int) ≤ y10.fst ∧ y10.fst < (↑y10.snd.snd.fst.length : Int)) <|
        .ob (y10.fst.toNat < y10.snd.snd.fst.length) <|
        .lt (List SAddr) (y10.snd.snd.fst.modify y10.fst.toNat fun z => y10.snd.snd.fst.getD (y2.fst.toNat + y10.snd.fst.toNat) default) fun z2 =>
        .ob (y2.fst.toNat = y2.fst.toNat) <|
         .ob (y2.snd.fst.length - y2.fst.toNat = y2.snd.fst.length - y2.fst.toNat) <|
         .ob (bk10 (IntKind.i64.wrap (y10.fst + (1 : Int)), (IntKind.i64.wrap (y10.snd.fst + (1 : Int)), (z2, ())))) <|
         .ok)
       (.ob (y2.fst.toNat = y2.fst.toNat) <|
        .ob (y2.snd.fst.length - y2.fst.toNat = y2.snd.fst.length - y2.fst.toNat) <|
        .ob (bk10 (y10.fst, (IntKind.i64.wrap (y10.snd.fst + (1 : Int)), (y10.snd.snd.fst, ())))) <|
        .ok))
      (.ob ((0 : Int) ≤ y10.fst ∧ y10.fst ≤ (↑y10.snd.snd.fst.length : Int)) <|
       .ob (y10.fst.toNat + (y10.snd.snd.fst.length - y10.fst.toNat) ≤ y10.snd.snd.fst.length) <|
       .ob ((0 : Int) ≤ y10.fst ∧
  y10.fst ≤
    (↑(put3 y10.snd.snd.fst y10.fst.toNat (List.replicate (y10.snd.snd.fst.length - y10.fst.toNat) default)).length :
      Int)) <|
       .ob ((0 : Nat) + (y10.fst.toNat - (0 : Nat)) ≤
  (put3 y10.snd.snd.fst y10.fst.toNat (List.replicate (y10.snd.snd.fst.length - y10.fst.toNat) default)).length) <|
       GS.out fCompactA ((cut (put3 y10.snd.snd.fst y10.fst.toNat (List.replicate (y10.snd.snd.fst.length - y10.fst.toNat) default)) (0 : Nat)
  (y10.fst.toNat - (0 : Nat)), ()), (()))))
    (.ob (bk2 (IntKind.i64.wrap (y2.fst + (1 : Int)), (y2.snd.fst, ()))) <|
     .ok))
   (GS.out fCompactA ((y2.snd.fst, ()), (()))))) (by kernel_rfl) ?_
  refine br_i (fun h1 => GS.leafY ?_) (fun h1 => lpx_i ?_ fun (y2 : Int × List SAddr × PUnit) i2 => br_i (fun h3 => ob_i ?_ fun o4 => ob_i ?_ fun o5 => ob_i ?_ fun o6 => ob_i ?_ fun o7 => br_i (fun h8 => ob_i ?_ fun o9 => lpx_i ?_ fun (y10 : Int × Int × List SAddr × PUnit) i10 => br_i (fun h11 => ob_i ?_ fun o12 => ob_i ?_ fun o13 => ob_i ?_ fun o14 => ob_i ?_ fun o15 => br_i (fun h16 => ob_i ?_ fun o17 => ob_i ?_ fun o18 => ob_i ?_ fun o19 => ob_i ?_ fun o20 => lt_i (ob_i rfl fun _ => ob_i rfl fun _ => ob_i ?_ fun o21 => trivial)) (fun h16 => ob_i rfl fun _ => ob_i rfl fun _ => ob_i ?_ fun o22 => trivial)) (fun h11 => ob_i ?_ fun o23 => ob_i ?_ fun o24 => ob_i ?_ fun o25 => ob_i ?_ fun o26 => GS.leafY ?_)) (fun h8 => ob_i ?_ fun o27 => trivial)) (fun h3 => GS.leafY ?_))
  all_goals try simp only [beqAddr] at *
  all_goals try have cI := i10
  all_goals try (obtain ⟨c1, c2, c3, c4, c5, c6, c7, c8⟩ := cI; clear c7 c8)
  all_goals try (obtain ⟨d1, d2, d3, d4⟩ := i2; simp only [d3] at *)
  all_goals try simp only [decide_eq_true_eq, decide_eq_false_iff_not, Bool.not_eq_true', Bool.not_eq_false', bne_iff_ne, bne_eq_false_iff_eq, beq_iff_eq, beq_eq_false_iff_ne, baEq, Int.not_lt, Int.not_le, ne_eq, Decidable.not_not] at *
  all_goals try simp only [W_slices_Compact_impl_Addr_impl_Addr_fCompactA_4, W_slices_Compact_impl_Addr_impl_Addr_fCompactA_9, fCompactA, etaToken, etaNode, etaBuilder, etaPolicy, etaPage, etaVisit, etaTab, etaServer, etaCache, etaNet, etaLoader, etaSheet, etaResult, etaSlot, etaModule, etaAddr, etaRequest, etaResponse, etaConn, etaGuess, etaEntry, etaSent, etaFile, baSz, List.size_toArray, List.length_cons, List.length_nil, Nat.reduceAdd, Int.toNat_zero, List.drop_zero, decide_eq_true_eq, decide_eq_false_iff_not, Bool.not_eq_true', Bool.not_eq_false', bne_iff_ne, bne_eq_false_iff_eq, beq_iff_eq, beq_eq_false_iff_ne, Bool.not_eq_true, Bool.not_eq_false, ne_eq, Decidable.not_not, baEq, decide_not, Prod.mk.injEq, and_true, true_and, Room, List.nil_append, Nat.zero_add, Int.not_lt, Int.not_le] at *
  all_goals try simp (disch := omega) only [wrapId'] at *
  all_goals try simp only [put3_len (e := y10.1.toNat) (xs := y10.2.2.1) (ys := List.replicate (y10.2.2.1.length - y10.1.toNat) default) (by simp; omega)] at *
  all_goals first | trivial | omega | skip
  · exact (dedupA_one _ (by omega)).symm
  · exact ⟨by omega, by omega, dedupA_one _ (by simp; omega)⟩
  · exact comp_entry d1 (by omega) d4 h8
  · exact ⟨comp_put i10 (by omega) h16, by omega⟩
  · exact ⟨comp_skip i10 (by omega) h16, by omega⟩
  · exact comp_end i10 (by omega) _
  · exact ⟨⟨by omega, by omega, comp_next d1 (by omega) d4 h8⟩, by omega⟩
  · rw [List.take_of_length_le (by omega)] at d4
    exact d4.symm)
def E59 : D.Env := E58.addG 140 fCompactA
theorem E59ok : EOk Try.prog E59 := E58ok.addG k140_58
def fSortAddrs : Fct := ⟨[.v (.sl .addr)], [.sl .addr], fun (x_ : (List SAddr) × Unit) => x_.1.length ≤ 1000000000000, fun (x_ : (List SAddr) × Unit) => (sortAddrs x_.1, ())⟩
-- impl.SortAddrs
theorem k88_59 : fSortAddrs.ok Try.prog 88 := Fct.of (S := fSortAddrs) (L := fun _ _ => none) (kp := [0,2,3]) E59ok Try.func88 (by kernel_rfl) (by kernel_rfl) (by
  rintro ⟨(l : List SAddr), _⟩ hp
  refine holds_of (X := .ob (True) <|
 .ob (Room ((0 : Nat) + List.length l) (32 : Nat)) <|
 .ob (fSortA.pre ([] ++ l, (), ())) <|
 .lt (PUnit × List SAddr × PUnit) (fSortA.fn ([] ++ l, (), ())) fun z2 =>
 .ob (fCompactA.pre (z2.snd.fst, ())) <|
  .lt ((List SAddr × PUnit) × PUnit) (fCompactA.fn (z2.snd.fst, ())) fun z3 =>
  .leaf (mkR fSortAddrs.rs (z3.fst.fst, ())) [] []) (by kernel_rfl) ?_
  refine ob_i trivial fun _ => ob_i ?_ fun o1 => ob_i ?_ fun o2 => lt_i (ob_i ?_ fun o3 => lt_i (Fct.leafY ?_))
  all_goals have hl1 : (sortA l).length = l.length := (List.mergeSort_perm _ _).length_eq
  all_goals try simp only [decide_eq_true_eq, decide_eq_false_iff_not, Bool.not_eq_true', Bool.not_eq_false', bne_iff_ne, bne_eq_false_iff_eq, beq_iff_eq, beq_eq_false_iff_ne, baEq, Int.not_lt, Int.not_le, ne_eq, Decidable.not_not] at *
  all_goals try simp only [fCompactA, fSortA, fSortAddrs, etaToken, etaNode, etaBuilder, etaPolicy, etaPage, etaVisit, etaTab, etaServer, etaCache, etaNet, etaLoader, etaSheet, etaResult, etaSlot, etaModule, etaAddr, etaRequest, etaResponse, etaConn, etaGuess, etaEntry, etaSent, etaFile, baSz, List.size_toArray, List.length_cons, List.length_nil, Nat.reduceAdd, Int.toNat_zero, List.drop_zero, decide_eq_true_eq, decide_eq_false_iff_not, Bool.not_eq_true', Bool.not_eq_false', bne_iff_ne, bne_eq_false_iff_eq, beq_iff_eq, beq_eq_false_iff_ne, Bool.not_eq_true, Bool.not_eq_false, ne_eq, Decidable.not_not, baEq, decide_not, Prod.mk.injEq, and_true, true_and, Room, List.nil_append, Nat.zero_add, Int.not_lt, Int.not_le, sortAddrs] at *
  all_goals try simp (disch := omega) only [wrapId', toNat1] at *
  all_goals try simp (disch := omega) only [if_pos, if_neg]
  all_goals first | trivial | omega | grind [wrapId', toNat1, drop_cons, drop_end, good_len, maxLen, sortAddrs])
def E60 : D.Env := E59.add 88 fSortAddrs
theorem E60ok : EOk Try.prog E60 := E59ok.add k88_59
theorem pageSz (p : SPage) : p.slots.length ≤ szPage p ∧ p.mods.length ≤ szPage p ∧ p.entries.length ≤ szPage p ∧ p.ran.length ≤ szPage p ∧ p.log.length ≤ szPage p ∧ p.queue.length ≤ szPage p := by
  have h1 := szL_len szSlot p.slots
  have h2 := szL_len szModule p.mods
  have h3 := szL_len szAddr p.entries
  have h4 := szL_len szAddr p.ran
  have h5 := szL_len szString p.log
  have h6 := szL_len szToken p.queue
  simp only [szPage]; omega
theorem dedup_same : ∀ {l : List SAddr}, (dedupA l).length = l.length → dedupA l = l := by
  intro l
  induction l with
  | nil => intro _; rfl
  | cons a l ih =>
    cases l with
    | nil => intro _; rfl
    | cons b l =>
      rw [dedupA_cons2]
      split
      · intro h
        have := dedupA_len (b :: l)
        simp only [List.length_cons] at h this; omega
      · intro h
        simp only [List.length_cons] at h ih
        rw [ih (by omega)]
theorem dedup_nodup : ∀ {l : List SAddr}, l.Nodup → dedupA l = l := by
  intro l
  induction l with
  | nil => intro _; rfl
  | cons a l ih =>
    cases l with
    | nil => intro _; rfl
    | cons b l =>
      intro h
      have h' := List.nodup_cons.1 h
      rw [dedupA_cons2, if_neg (by rintro rfl; exact h'.1 List.mem_cons_self), ih h'.2]
theorem strict_nodup {l : List SAddr} (h : Strict l) : l.Nodup := h.imp fun {a b} h => by rintro rfl; rw [cmpA_eq.2 rfl] at h; omega
theorem sort_nodup (l : List SAddr) : (sortAddrs l).length = l.length ↔ l.Nodup := by
  have hp : (sortA l).Perm l := List.mergeSort_perm _ _
  constructor
  · intro h
    rw [← hp.nodup_iff, ← dedup_same (l := sortA l) (by rw [hp.length_eq]; exact h)]
    exact strict_nodup (sortAddrs_strict l)
  · intro h
    unfold sortAddrs
    rw [dedup_nodup (hp.nodup_iff.2 h), hp.length_eq]
def fRanOnce : Fct := ⟨[.v (.el .page)], [.el .bool], fun (x_ : SPage × Unit) => x_.1.ran.length ≤ 1048576, fun (x_ : SPage × Unit) => (decide ((sortAddrs x_.1.ran).length = x_.1.ran.length), ())⟩
-- impl.RanOnce
theorem k37_60 : fRanOnce.ok Try.prog 37 := Fct.of (S := fRanOnce) (L := fun _ _ => none) (kp := [1,2]) E60ok Try.func37 (by kernel_rfl) (by kernel_rfl) (by
  rintro ⟨(p : SPage), _⟩ hp
  refine holds_of (X := .ob (fSortAddrs.pre (p.ran, ())) <|
 .lt (List SAddr × PUnit) (fSortAddrs.fn (p.ran, ())) fun z2 =>
 .leaf (mkR fRanOnce.rs ((↑z2.fst.length : Int) == (↑p.ran.length : Int), ())) [] []) (by kernel_rfl) ?_
  refine ob_i ?_ fun o1 => lt_i (Fct.leafY ?_)
  all_goals try simp only [decide_eq_true_eq, decide_eq_false_iff_not, Bool.not_eq_true', Bool.not_eq_false', bne_iff_ne, bne_eq_false_iff_eq, beq_iff_eq, beq_eq_false_iff_ne, baEq, Int.not_lt, Int.not_le, ne_eq, Decidable.not_not] at *
  all_goals try simp only [fRanOnce, fSortAddrs, etaToken, etaNode, etaBuilder, etaPolicy, etaPage, etaVisit, etaTab, etaServer, etaCache, etaNet, etaLoader, etaSheet, etaResult, etaSlot, etaModule, etaAddr, etaRequest, etaResponse, etaConn, etaGuess, etaEntry, etaSent, etaFile, baSz, List.size_toArray, List.length_cons, List.length_nil, Nat.reduceAdd, Int.toNat_zero, List.drop_zero, decide_eq_true_eq, decide_eq_false_iff_not, Bool.not_eq_true', Bool.not_eq_false', bne_iff_ne, bne_eq_false_iff_eq, beq_iff_eq, beq_eq_false_iff_ne, Bool.not_eq_true, Bool.not_eq_false, ne_eq, Decidable.not_not, baEq, decide_not, Prod.mk.injEq, and_true, true_and, Room, List.nil_append, Nat.zero_add, Int.not_lt, Int.not_le, fSortAddrs] at *
  all_goals try simp (disch := omega) only [wrapId', toNat1] at *
  all_goals try simp (disch := omega) only [if_pos, if_neg]
  all_goals first | trivial | omega | grind [wrapId', toNat1, drop_cons, drop_end, good_len, maxLen, fSortAddrs])
def E61 : D.Env := E60.add 37 fRanOnce
theorem E61ok : EOk Try.prog E61 := E60ok.add k37_60
theorem cut0 (l : List SAddr) (i : Nat) : cut l 0 (i - 0) = l.take i := by simp [cut]
theorem ran_dup {l : List SAddr} {i : Nat} (hi : i < l.length) (h : ((cut l 0 (i - 0)).any fun c => decide (c = l.getD i default)) = true) : decide ((sortAddrs l).length = l.length) = false := by
  rw [decide_eq_false_iff_not, sort_nodup]
  intro hn
  rw [cut0] at h
  obtain ⟨c, hc, he⟩ := List.any_eq_true.1 h
  simp only [decide_eq_true_eq] at he
  have e : l = l.take i ++ l.getD i default :: l.drop (i + 1) := by rw [← drop_cons hi, List.take_append_drop]
  rw [e, List.nodup_append] at hn
  exact hn.2.2 c hc _ List.mem_cons_self he
theorem ran_ok {l : List SAddr} {i : Nat} (hi : i < l.length) (hn : (l.take i).Nodup) (h : ((cut l 0 (i - 0)).any fun c => decide (c = l.getD i default)) = false) : (l.take (i + 1)).Nodup := by
  rw [cut0, List.any_eq_false] at h
  rw [take_succ hi, List.nodup_append]
  refine ⟨hn, by simp, fun a ha b hb e => ?_⟩
  simp only [List.mem_singleton] at hb
  exact h a ha (by simp [e, hb])
abbrev W_spec_RanOnce_fRanOnce_2 (p : SPage) : LInv := ⟨[⟨.s, 3, true, .el .int⟩, ⟨.b, 1, false, .el .page⟩], fun (z_ : Int × SPage × Unit) (x_ : Int × SPage × Unit) => (0 ≤ x_.1 ∧ x_.1 ≤ p.ran.length ∧ (p.ran.take x_.1.toNat).Nodup) ∧ x_.2.1 = z_.2.1, fun (x_ : Int × SPage × Unit) => p.ran.length - x_.1.toNat⟩
-- spec.RanOnce
set_option maxHeartbeats 2000000 in
theorem k36_61 : fRanOnce.ok Try.prog 36 := Fct.of (S := fRanOnce) (L := fun ⟨p, _⟩ => fun | 2 => some (W_spec_RanOnce_fRanOnce_2 p) | _ => none) (kp := [1,2,3,8,20,1000008,1000020]) E61ok Try.func36 (by kernel_rfl) (by kernel_rfl) (by
  rintro ⟨(p : SPage), _⟩ hp
  refine holds_of (X := lpx (W_spec_RanOnce_fRanOnce_2 p) ((0 : Int), (p, ())) fun (y1 : Int × SPage × PUnit) bk1 =>
 .br (decide (y1.fst < (↑y1.snd.fst.ran.length : Int)))
  (.ob ((0 : Int) ≤ y1.fst ∧ y1.fst ≤ (↑y1.snd.fst.ran.length : Int)) <|
   .ob ((0 : Int) ≤ y1.fst ∧ y1.fst < (↑y1.snd.fst.ran.length : Int)) <|
   .ob (fHasAddr.pre (cut y1.snd.fst.ran (0 : Nat) (y1.fst.toNat - (0 : Nat)), y1.snd.fst.ran.getD y1.fst.toNat default, ())) <|
   .lt (Bool × PUnit) (fHasAddr.fn (cut y1.snd.fst.ran (0 : Nat) (y1.fst.toNat - (0 : Nat)), y1.snd.fst.ran.getD y1.fst.toNat default, ())) fun z2 =>
   .br (z2.fst)
    (.leaf (mkR fRanOnce.rs (false, ())) [] [])
    (.ob (bk1 (IntKind.i64.wrap (y1.fst + (1 : Int)), (y1.snd.fst, ()))) <|
     .ok))
  (.leaf (mkR fRanOnce.rs (true, ())) [] [])) (by kernel_rfl) ?_
  refine lpx_i ?_ fun (y1 : Int × SPage × PUnit) i1 => br_i (fun h2 => ob_i ?_ fun o3 => ob_i ?_ fun o4 => ob_i ?_ fun o5 => lt_i (br_i (fun h6 => Fct.leafY ?_) (fun h6 => ob_i ?_ fun o7 => trivial))) (fun h2 => Fct.leafY ?_)
  all_goals try (obtain ⟨⟨c1, c2, c3⟩, c4⟩ := i1; simp only [c4] at *)
  all_goals try simp only [decide_eq_true_eq, decide_eq_false_iff_not, Bool.not_eq_true', Bool.not_eq_false', bne_iff_ne, bne_eq_false_iff_eq, beq_iff_eq, beq_eq_false_iff_ne, baEq, Int.not_lt, Int.not_le, ne_eq, Decidable.not_not] at *
  all_goals try simp only [W_spec_RanOnce_fRanOnce_2, fHasAddr, fRanOnce, etaToken, etaNode, etaBuilder, etaPolicy, etaPage, etaVisit, etaTab, etaServer, etaCache, etaNet, etaLoader, etaSheet, etaResult, etaSlot, etaModule, etaAddr, etaRequest, etaResponse, etaConn, etaGuess, etaEntry, etaSent, etaFile, baSz, List.size_toArray, List.length_cons, List.length_nil, Nat.reduceAdd, Int.toNat_zero, List.drop_zero, decide_eq_true_eq, decide_eq_false_iff_not, Bool.not_eq_true', Bool.not_eq_false', bne_iff_ne, bne_eq_false_iff_eq, beq_iff_eq, beq_eq_false_iff_ne, Bool.not_eq_true, Bool.not_eq_false, ne_eq, Decidable.not_not, baEq, decide_not, Prod.mk.injEq, and_true, true_and, Room, List.nil_append, Nat.zero_add, Int.not_lt, Int.not_le] at *
  all_goals try simp (disch := omega) only [wrapId', toNat1] at *
  all_goals first | trivial | omega | skip
  · exact ⟨by omega, by omega, by simp⟩
  · rw [len_cut (by omega)]; omega
  · exact (ran_dup (by omega) h6).symm
  · exact ⟨⟨by omega, by omega, ran_ok (by omega) c3 h6⟩, by omega⟩
  · rw [List.take_of_length_le (by omega)] at c3
    exact (decide_eq_true ((sort_nodup _).2 c3)).symm)
def E62 : D.Env := E61.add 36 fRanOnce
theorem E62ok : EOk Try.prog E62 := E61ok.add k36_61
-- laws.FnExactRanOnce
set_option maxHeartbeats 2000000 in
theorem k8_62 : lPage.ok Try.prog 8 := Fct.of (S := lPage) (L := fun _ _ => none) (kp := [1,2,3,4,5,6,11,21,26,1000011,1000021,1000026]) E62ok Try.func8 (by kernel_rfl) (by kernel_rfl) (by
  rintro ⟨(p : SPage), _⟩ hp
  refine holds_of (X := .ob (fszPage.pre (p, (1048576 : Int), ())) <|
 .lt (Int × PUnit) (fszPage.fn (p, (1048576 : Int), ())) fun z2 =>
 .br (decide (z2.fst < (0 : Int)))
  (.leaf (mkR lPage.rs (true, ())) [] [])
  (.ob (ftoPage.pre (p, ())) <|
   .lt (SPage × PUnit) (ftoPage.fn (p, ())) fun z3 =>
   .ob (fRanOnce.pre (z3.fst, ())) <|
    .lt (Bool × PUnit) (fRanOnce.fn (z3.fst, ())) fun z4 =>
    .ob (ftoPage.pre (p, ())) <|
     .lt (SPage × PUnit) (ftoPage.fn (p, ())) fun z5 =>
     .ob (fRanOnce.pre (z5.fst, ())) <|
      .lt (Bool × PUnit) (fRanOnce.fn (z5.fst, ())) fun z6 =>
      .br (!z6.fst == z4.fst)
       (.leaf (mkR lPage.rs (false, ())) [] [])
       (.ob (ftoPage.pre (p, ())) <|
        .lt (SPage × PUnit) (ftoPage.fn (p, ())) fun z7 =>
        .ob (feqPage.pre (z5.fst, z7.fst, ())) <|
         .lt (Bool × PUnit) (feqPage.fn (z5.fst, z7.fst, ())) fun z8 =>
         .br (!z8.fst)
          (.leaf (mkR lPage.rs (false, ())) [] [])
          (.leaf (mkR lPage.rs (true, ())) [] [])))) (by kernel_rfl) ?_
  refine ob_i ?_ fun o1 => lt_e fun z2 ez2 => (br_i (fun h2 => Fct.leafY ?_) (fun h2 => ob_i ?_ fun o3 => lt_e fun z3 ez3 => (ob_i ?_ fun o4 => lt_e fun z4 ez4 => (ob_i ?_ fun o5 => lt_e fun z5 ez5 => (ob_i ?_ fun o6 => lt_e fun z6 ez6 => (br_i (fun h7 => Fct.leafY ?_) (fun h7 => ob_i ?_ fun o8 => lt_e fun z7 ez7 => (ob_i ?_ fun o9 => lt_e fun z8 ez8 => (br_i (fun h10 => Fct.leafY ?_) (fun h10 => Fct.leafY ?_))))))))))
  all_goals have hps := pageSz p
  all_goals have hg0 : Sh.good (.el .page) p := hp.1
  all_goals clear hp
  all_goals subst_vars
  all_goals try simp only [decide_eq_true_eq, decide_eq_false_iff_not, Bool.not_eq_true', Bool.not_eq_false', bne_iff_ne, bne_eq_false_iff_eq, beq_iff_eq, beq_eq_false_iff_ne, baEq, Int.not_lt, Int.not_le, ne_eq, Decidable.not_not] at *
  all_goals try simp only [fRanOnce, feqPage, fszPage, ftoPage, lPage, etaToken, etaNode, etaBuilder, etaPolicy, etaPage, etaVisit, etaTab, etaServer, etaCache, etaNet, etaLoader, etaSheet, etaResult, etaSlot, etaModule, etaAddr, etaRequest, etaResponse, etaConn, etaGuess, etaEntry, etaSent, etaFile, baSz, List.size_toArray, List.length_cons, List.length_nil, Nat.reduceAdd, Int.toNat_zero, List.drop_zero, decide_eq_true_eq, decide_eq_false_iff_not, Bool.not_eq_true', Bool.not_eq_false', bne_iff_ne, bne_eq_false_iff_eq, beq_iff_eq, beq_eq_false_iff_ne, Bool.not_eq_true, Bool.not_eq_false, ne_eq, Decidable.not_not, baEq, decide_not, Prod.mk.injEq, and_true, true_and, Room, List.nil_append, Nat.zero_add, Int.not_lt, Int.not_le, decide_true] at *
  all_goals first | trivial | omega | grind [lessen, szPage, szL])
def E63 : D.Env := E62.add 8 lPage
theorem E63ok : EOk Try.prog E63 := E62ok.add k8_62

section
open Go.ChangeShapes Go.WideShapes Go.ChangeAt Go.RowKit
theorem own : ownKnob Try.prog.godebug = none := by kernel_rfl
theorem types : ∀ e t, tyOf e = some t → e ∈ ([3, 4, 5, 9, 23, 26, 28, 33, 38, 43, 44, 45, 49, 54, 64, 67, 73, 76, 87, 92, 112, 115, 147, 155, 171, 176, 179, 184, 189, 192, 202, 206, 210, 224, 232, 236, 243, 245, 247, 249, 259, 262, 268, 273] : List TypeId) := by
  intro e t h
  unfold tyOf at h
  split at h <;> first | (simp; done) | cases h
theorem lifted (os : Os) (started : os.Started) (H : Type) (enc : TypeId × Value → H) :
    ReturnsInHanded {} Try.checked os 8 .any (Rows.fnExactRanOnceSpec.pre6 enc Try.prog Try.f8 Rows.fnExactRanOnceRow.domain false) (Rows.fnExactRanOnceSpec.post enc Try.prog Try.f8 false true false false) := by
  refine returnsInHanded_of_change (C := Try.checked) own started (by kernel_rfl) Try.func8
    (ChangeSpec.witness6 (enc := enc) (C := Try.checked) false ⟨#[], #[.agg #[.string ⟨#[]⟩, .string ⟨#[]⟩, .bool false, .slice none 0 0, .slice none 0 0, .slice none 0 0, .string ⟨#[]⟩, .string ⟨#[]⟩, .slice none 0 0, .bool false, .slice none 0 0, .slice none 0 0, .slice none 0 0, .slice none 0 0, .slice none 0 0, .int .i64 0, .int .i64 0, .int .i64 0, .int .i64 0, .slice none 0 0, .slice none 0 0, .bool false]], []⟩ 8 (by kernel_rfl) (by kernel_rfl) (by kernel_rfl) (by kernel_rfl)) ?_
  intro W base args ds gs before hval0 hW hcnd _
  have hval : ∀ (j : Nat) t v, Try.f8.params[j]? = some t → args[j]? = some v → Value.okWide Try.prog W .any base t v := hval0
  refine law_calls (show rowOk Try.prog Try.f8 tyOf [3, 4, 5, 9, 23, 26, 28, 33, 38, 43, 44, 45, 49, 54, 64, 67, 73, 76, 87, 92, 112, 115, 147, 155, 171, 176, 179, 184, 189, 192, 202, 206, 210, 224, 232, 236, 243, 245, 247, 249, 259, 262, 268, 273] [.el .page] = true by kernel_rfl) types rfl Try.underlying4 rfl hW (fun xs h => ?_) hval k8_62
  · rw [Try.params8] at h
    obtain ⟨x, rfl⟩ := List.length_eq_one_iff.1 (show xs.length = 1 from h)
    rfl
set_option maxHeartbeats 0 in
theorem closed : joinedFacts Try.prog 8 Try.f8 Rows.fnExactRanOnceSpec Rows.fnExactRanOnceRow = true := by
  unfold joinedFacts
  refine (and_i (and_i (and_i (and_i (and_i (and_i (and_i (and_i (and_i (and_i (and_i (and_i (and_i (and_i (and_i (and_i (and_i (and_i (and_i (and_i (and_i (and_i (and_i (and_i (and_i (and_i (and_i (and_i (and_i (and_i (and_i ?_ ?_) ?_) ?_) ?_) ?_) ?_) ?_) ?_) ?_) ?_) ?_) ?_) ?_) ?_) ?_) ?_) ?_) ?_) ?_) ?_) ?_) ?_) ?_) ?_) ?_) ?_) ?_) ?_) ?_) ?_) ?_)
  all_goals decide +kernel
theorem over : Rows.fnExactRanOnceRow.holds Try.pinned (OpenSpec.ofChange Rows.fnExactRanOnceSpec) :=
  OpenClaim.holds_of_wide 8 Try.f8 rfl rfl rfl rfl rfl rfl rfl ⟨rfl, rfl, rfl, rfl, rfl⟩ rfl rfl rfl rfl rfl (by kernel_rfl) Try.func8 closed
    (of_decide_eq_true (by kernel_rfl)) (by unfold Func.isWrapper; first | (rw [if_pos (by decide +kernel)]; kernel_rfl) | (rw [if_neg (by decide +kernel)]; exact ⟨rfl, rfl⟩))
    (fun os started H enc _ => lifted os started H enc)
theorem proved : Rows.FnExactRanOnceSaid := over
end
end Go.Proofs.Ytdcpenhjenhjcaa.fnExactRanOnce
