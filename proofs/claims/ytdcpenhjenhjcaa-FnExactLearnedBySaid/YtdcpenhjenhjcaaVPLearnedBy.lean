/-
  The program's LearnedBy returns what the reference's returns, for all arguments: the law returns true. No condition.
-/
import Derived.Test.YtdcpenhjenhjcaaVPt
import Derived.Test.YtdcpenhjenhjcaaVPb
import Derived.Test.YtdcpenhjenhjcaaVSb
import Derived.Test.YtdcpenhjenhjcaaRows
import Derived.WalkKit
import Derived.ProofKit
import Derived.OpenShut
namespace Go.Proofs.Ytdcpenhjenhjcaa.fnExactLearnedBy
open Go.Proofs.Ytdcpenhjenhjcaa
open Go.D
set_option maxRecDepth 100000
set_option linter.unusedVariables false
set_option linter.unusedSimpArgs false
def tyOf : TypeId → Option Ty
  | 3 => some .int
  | 4 => some .bool
  | 5 => some .u8
  | 9 => some .str
  | 23 => some .addr
  | 26 => some .policy
  | 28 => some .tokenizer
  | 33 => some .builder
  | 38 => some .page
  | 43 => some .addr
  | 44 => some .policy
  | 45 => some .tokenizer
  | 49 => some .builder
  | 54 => some .page
  | 64 => some .cache
  | 67 => some .net
  | 73 => some .cache
  | 76 => some .net
  | 87 => some .tab
  | 92 => some .tab
  | 112 => some .request
  | 115 => some .request
  | 147 => some .sent
  | 155 => some .visit
  | 171 => some .token
  | 176 => some .slot
  | 179 => some .module
  | 184 => some .token
  | 189 => some .slot
  | 192 => some .module
  | 202 => some .server
  | 206 => some .sent
  | 210 => some .server
  | 224 => some .visit
  | 232 => some .node
  | 236 => some .node
  | 243 => some .response
  | 245 => some .entry
  | 247 => some .response
  | 249 => some .entry
  | 259 => some .file
  | 262 => some .attr
  | 268 => some .attr
  | 273 => some .file
  | _ => none
def E0 : D.Env := D.Env.empty tyOf
theorem E0ok : EOk Try.prog E0 := EOk.empty _ _

-- laws.markText
set_option maxHeartbeats 2000000 in
theorem k92_0 : fmarkText.ok Try.prog 92 := Fct.of (S := fmarkText) (L := fun ⟨k, _⟩ => fun | 4 => some (LmTx k) | _ => none) (kp := [0,2,3,5,7,1000005,1000007]) E0ok Try.func92 (by kernel_rfl) (by kernel_rfl) (by
  rintro ⟨(k : Int), _⟩ hp
  refine holds_of (X := .br (decide (k ≤ (0 : Int)))
 (.leaf (mkR fmarkText.rs ({ data := #[(109 : UInt8), (48 : UInt8)] : ByteArray }, ())) [] [])
 (lpx (LmTx k) (k, ({ data := #[] : ByteArray }, ())) fun (y2 : Int × ByteArray × PUnit) bk2 =>
  .br (decide (y2.fst > (0 : Int)))
   (.ob ((10 : Int) ≠ (0 : Int)) <|
    .ob (True) <|
    .ob (sameSize
  (List.foldl (fun r n => r.push (UInt8.ofNat n.toNat)) ByteArray.empty
    [IntKind.u8.wrap (IntKind.i64.wrap ((48 : Int) + y2.fst.tmod (10 : Int)))])
  y2.snd.fst) <|
    .ob ((10 : Int) ≠ (0 : Int)) <|
    .ob (Value.string { data := #[] : ByteArray } = Value.string { data := #[] : ByteArray }) <|
    .ob (bk2 (IntKind.i64.wrap (y2.fst.tdiv (10 : Int)), (List.foldl (fun r n => r.push (UInt8.ofNat n.toNat)) ByteArray.empty
    [IntKind.u8.wrap (IntKind.i64.wrap ((48 : Int) + y2.fst.tmod (10 : Int)))] ++
  y2.snd.fst, ()))) <|
    .ok)
   (.ob (sameSize { data := #[(109 : UInt8)] : ByteArray } y2.snd.fst) <|
    .leaf (mkR fmarkText.rs ({ data := #[(109 : UInt8)] : ByteArray } ++ y2.snd.fst, ())) [] []))) (by kernel_rfl) ?_
  refine br_i (fun h1 => Fct.leafY ?_) (fun h1 => lpx_i ?_ fun (y2 : Int × ByteArray × PUnit) i2 => br_i (fun h3 => ob_i ?_ fun o4 => ob_i trivial fun _ => ob_i ?_ fun o5 => ob_i ?_ fun o6 => ob_i rfl fun _ => ob_i ?_ fun o7 => trivial) (fun h3 => ob_i ?_ fun o8 => Fct.leafY ?_))
  all_goals try rw [digByte (by first | exact i2.1 | (have := i2.1; omega))]
  all_goals try simp only [decide_eq_true_eq, decide_eq_false_iff_not, Bool.not_eq_true', Bool.not_eq_false', bne_iff_ne, bne_eq_false_iff_eq, beq_iff_eq, beq_eq_false_iff_ne, baEq, Int.not_lt, Int.not_le, ne_eq, Decidable.not_not] at *
  all_goals try simp only [LmTx, fmarkText, etaToken, etaNode, etaBuilder, etaPolicy, etaPage, etaVisit, etaTab, etaServer, etaCache, etaNet, etaLoader, etaSheet, etaResult, etaSlot, etaModule, etaAddr, etaRequest, etaResponse, etaConn, etaGuess, etaEntry, etaSent, etaFile, baSz, List.size_toArray, List.length_cons, List.length_nil, Nat.reduceAdd, Int.toNat_zero, List.drop_zero, decide_eq_true_eq, decide_eq_false_iff_not, Bool.not_eq_true', Bool.not_eq_false', bne_iff_ne, bne_eq_false_iff_eq, beq_iff_eq, beq_eq_false_iff_ne, Bool.not_eq_true, Bool.not_eq_false, ne_eq, Decidable.not_not, baEq, decide_not, Prod.mk.injEq, and_true, true_and, Room, List.nil_append, Nat.zero_add, Int.not_lt, Int.not_le] at *
  · simp [mtext, h1]
  · exact ⟨by omega, by omega, 64, rfl, Nat.lt_of_lt_of_le (show k.toNat < 10 ^ 19 by omega) (Nat.pow_le_pow_right (by decide) (by decide)), rfl⟩
  · decide
  · obtain ⟨i3, i4, f, i5, i6, i7⟩ := i2
    show (1 : Nat) + _ ≤ _
    omega
  · decide
  · obtain ⟨i3, i4, f, i5, i6, i7⟩ := i2
    have hd : IntKind.i64.wrap (y2.1.tdiv 10) = y2.1 / 10 := (tdiv10 i3).resolve_right (by omega)
    rw [hd]
    cases f with
    | zero => simp at i6; omega
    | succ f =>
      rw [digs_step (k := y2.1.toNat) (by omega)] at i7
      have i8 : y2.1.toNat < 10 * 10 ^ f := by rw [Nat.pow_succ] at i6; omega
      generalize 10 ^ f = p at i8
      refine ⟨⟨by omega, by omega, f, by rw [sz1]; omega, by omega, ?_⟩, by omega⟩
      rw [show (y2.1 / 10).toNat = y2.1.toNat / 10 by omega]
      exact i7
  · obtain ⟨i3, i4, f, i5, i6, i7⟩ := i2
    show (1 : Nat) + _ ≤ _
    omega
  · obtain ⟨i3, i4, f, i5, i6, i7⟩ := i2
    have h0 : y2.1.toNat = 0 := by omega
    rw [h0, digs_end] at i7
    rw [mtext, if_neg (by omega), i7])
def E1 : D.Env := E0.add 92 fmarkText
theorem E1ok : EOk Try.prog E1 := E0ok.add k92_0
-- laws.szAddr
set_option maxHeartbeats 2000000 in
theorem k43_1 : fszAddr.ok Try.prog 43 := Fct.of (S := fszAddr) (L := fun _ _ => none) (kp := [1,2,4,11,18,1000011,1000018]) E1ok Try.func43 (by kernel_rfl) (by kernel_rfl) (by
  rintro ⟨(x : SAddr), (n : Int), _⟩ hp
  refine holds_of (X := .br (decide (IntKind.i64.wrap (n - (↑x.host.size : Int)) < (0 : Int)))
 (.leaf (mkR fszAddr.rs ((-1 : Int), ())) [] [])
 (.br (decide (IntKind.i64.wrap (IntKind.i64.wrap (n - (↑x.host.size : Int)) - (↑x.path.size : Int)) < (0 : Int)))
  (.leaf (mkR fszAddr.rs ((-1 : Int), ())) [] [])
  (.leaf (mkR fszAddr.rs (IntKind.i64.wrap (IntKind.i64.wrap (n - (↑x.host.size : Int)) - (↑x.path.size : Int)), ())) [] []))) (by kernel_rfl) ?_
  refine br_i (fun h1 => Fct.leafY ?_) (fun h1 => br_i (fun h2 => Fct.leafY ?_) (fun h2 => Fct.leafY ?_))
  all_goals try simp only [decide_eq_true_eq, decide_eq_false_iff_not, Bool.not_eq_true', Bool.not_eq_false', bne_iff_ne, bne_eq_false_iff_eq, beq_iff_eq, beq_eq_false_iff_ne, baEq, Int.not_lt, Int.not_le, ne_eq, Decidable.not_not] at *
  all_goals try simp only [fszAddr, etaToken, etaNode, etaBuilder, etaPolicy, etaPage, etaVisit, etaTab, etaServer, etaCache, etaNet, etaLoader, etaSheet, etaResult, etaSlot, etaModule, etaAddr, etaRequest, etaResponse, etaConn, etaGuess, etaEntry, etaSent, etaFile, baSz, List.size_toArray, List.length_cons, List.length_nil, Nat.reduceAdd, Int.toNat_zero, List.drop_zero, decide_eq_true_eq, decide_eq_false_iff_not, Bool.not_eq_true', Bool.not_eq_false', bne_iff_ne, bne_eq_false_iff_eq, beq_iff_eq, beq_eq_false_iff_ne, Bool.not_eq_true, Bool.not_eq_false, ne_eq, Decidable.not_not, baEq, decide_not, Prod.mk.injEq, and_true, true_and, Room, List.nil_append, Nat.zero_add, Int.not_lt, Int.not_le, Sh.good, Sh.fc, enc, List.forall_mem_cons, List.not_mem_nil, false_implies, implies_true, goodC, maxLen] at *
  all_goals grind [wrapId', lessen, szAddr])
def E2 : D.Env := E1.add 43 fszAddr
theorem E2ok : EOk Try.prog E2 := E1ok.add k43_1
-- laws.toAddr
theorem k54_2 : ftoAddr.ok Try.prog 54 := Fct.of (S := ftoAddr) (L := fun _ _ => none) (kp := [1,2,3]) E2ok Try.func54 (by kernel_rfl) (by kernel_rfl) (by
  rintro ⟨(x : SAddr), _⟩ hp
  refine holds_of (X := .leaf (mkR ftoAddr.rs (x, ())) [] []) (by kernel_rfl) ?_
  refine Fct.leafY ?_
  all_goals try simp only [decide_eq_true_eq, decide_eq_false_iff_not, Bool.not_eq_true', Bool.not_eq_false', bne_iff_ne, bne_eq_false_iff_eq, beq_iff_eq, beq_eq_false_iff_ne, baEq, Int.not_lt, Int.not_le, ne_eq, Decidable.not_not] at *
  all_goals try simp only [ftoAddr, etaToken, etaNode, etaBuilder, etaPolicy, etaPage, etaVisit, etaTab, etaServer, etaCache, etaNet, etaLoader, etaSheet, etaResult, etaSlot, etaModule, etaAddr, etaRequest, etaResponse, etaConn, etaGuess, etaEntry, etaSent, etaFile, baSz, List.size_toArray, List.length_cons, List.length_nil, Nat.reduceAdd, Int.toNat_zero, List.drop_zero, decide_eq_true_eq, decide_eq_false_iff_not, Bool.not_eq_true', Bool.not_eq_false', bne_iff_ne, bne_eq_false_iff_eq, beq_iff_eq, beq_eq_false_iff_ne, Bool.not_eq_true, Bool.not_eq_false, ne_eq, Decidable.not_not, baEq, decide_not, Prod.mk.injEq, and_true, true_and, Room, List.nil_append, Nat.zero_add, Int.not_lt, Int.not_le] at *
  all_goals first | trivial | rfl | grind [szAddr])
def E3 : D.Env := E2.add 54 ftoAddr
theorem E3ok : EOk Try.prog E3 := E2ok.add k54_2
-- laws.eqAddr
set_option maxHeartbeats 2000000 in
theorem k65_3 : feqAddr.ok Try.prog 65 := Fct.of (S := feqAddr) (L := fun _ _ => none) (kp := [2,3,4,9,14,1000009,1000014]) E3ok Try.func65 (by kernel_rfl) (by kernel_rfl) (by
  rintro ⟨(x : SAddr), (y : SAddr), _⟩ hp
  refine holds_of (X := .br (!x.host.toList == y.host.toList)
 (.leaf (mkR feqAddr.rs (false, ())) [] [])
 (.br (!x.path.toList == y.path.toList)
  (.leaf (mkR feqAddr.rs (false, ())) [] [])
  (.leaf (mkR feqAddr.rs (true, ())) [] []))) (by kernel_rfl) ?_
  refine br_i (fun h1 => Fct.leafY ?_) (fun h1 => br_i (fun h2 => Fct.leafY ?_) (fun h2 => Fct.leafY ?_))
  all_goals try simp only [decide_eq_true_eq, decide_eq_false_iff_not, Bool.not_eq_true', Bool.not_eq_false', bne_iff_ne, bne_eq_false_iff_eq, beq_iff_eq, beq_eq_false_iff_ne, baEq, Int.not_lt, Int.not_le, ne_eq, Decidable.not_not] at *
  all_goals try simp only [feqAddr, etaToken, etaNode, etaBuilder, etaPolicy, etaPage, etaVisit, etaTab, etaServer, etaCache, etaNet, etaLoader, etaSheet, etaResult, etaSlot, etaModule, etaAddr, etaRequest, etaResponse, etaConn, etaGuess, etaEntry, etaSent, etaFile, baSz, List.size_toArray, List.length_cons, List.length_nil, Nat.reduceAdd, Int.toNat_zero, List.drop_zero, decide_eq_true_eq, decide_eq_false_iff_not, Bool.not_eq_true', Bool.not_eq_false', bne_iff_ne, bne_eq_false_iff_eq, beq_iff_eq, beq_eq_false_iff_ne, Bool.not_eq_true, Bool.not_eq_false, ne_eq, Decidable.not_not, baEq, decide_not, Prod.mk.injEq, and_true, true_and, Room, List.nil_append, Nat.zero_add, Int.not_lt, Int.not_le] at *
  all_goals first | trivial | (cases x; cases y; simp_all; done) | (simp only [szAddr] at *; omega) | grind [szAddr])
def E4 : D.Env := E3.add 65 feqAddr
theorem E4ok : EOk Try.prog E4 := E3ok.add k65_3
-- laws.eqAddrS
set_option maxHeartbeats 2000000 in
theorem k25_4 : feqAddrS.ok Try.prog 25 := Fct.of (S := feqAddrS) (L := fun ⟨l, m, _⟩ => fun | 4 => some (LeqS .addr l m) | _ => none) (kp := [0,1,4,5,10,14,26,1000010,1000014,1000026]) E4ok Try.func25 (by kernel_rfl) (by kernel_rfl) (by
  rintro ⟨(l : List SAddr), (m : List SAddr), _⟩ hp
  refine holds_of (X := .br ((↑l.length : Int) != (↑m.length : Int))
 (.leaf (mkR feqAddrS.rs (false, ())) [] [])
 (lpx (LeqS .addr l m) ((0 : Int), ()) fun (y2 : Int × PUnit) bk2 =>
  .br (decide (y2.fst < (↑l.length : Int)))
   (.ob ((0 : Int) ≤ y2.fst ∧ y2.fst < (↑l.length : Int)) <|
    .ob ((0 : Int) ≤ y2.fst ∧ y2.fst < (↑m.length : Int)) <|
    .ob (feqAddr.pre (l.getD y2.fst.toNat default, m.getD y2.fst.toNat default, ())) <|
    .lt (Bool × PUnit) (feqAddr.fn (l.getD y2.fst.toNat default, m.getD y2.fst.toNat default, ())) fun z2 =>
    .br (!z2.fst)
     (.leaf (mkR feqAddrS.rs (false, ())) [] [])
     (.ob (l = l) <|
      .ob (m = m) <|
      .ob (bk2 (IntKind.i64.wrap (y2.fst + (1 : Int)), ())) <|
      .ok))
   (.leaf (mkR feqAddrS.rs (true, ())) [] []))) (by kernel_rfl) ?_
  refine br_i (fun h1 => Fct.leafY ?_) (fun h1 => lpx_i ?_ fun (y2 : Int × PUnit) i2 => br_i (fun h3 => ob_i ?_ fun o4 => ob_i ?_ fun o5 => ob_i trivial fun _ => lt_i (br_i (fun h6 => Fct.leafY ?_) (fun h6 => ob_i rfl fun _ => ob_i rfl fun _ => ob_i ?_ fun o7 => trivial))) (fun h3 => Fct.leafY ?_))
  all_goals try simp only [decide_eq_true_eq, decide_eq_false_iff_not, Bool.not_eq_true', Bool.not_eq_false', bne_iff_ne, bne_eq_false_iff_eq, beq_iff_eq, beq_eq_false_iff_ne, baEq, Int.not_lt, Int.not_le, ne_eq, Decidable.not_not] at *
  all_goals try simp only [LeqS, feqAddr, feqAddrS, etaToken, etaNode, etaBuilder, etaPolicy, etaPage, etaVisit, etaTab, etaServer, etaCache, etaNet, etaLoader, etaSheet, etaResult, etaSlot, etaModule, etaAddr, etaRequest, etaResponse, etaConn, etaGuess, etaEntry, etaSent, etaFile, baSz, List.size_toArray, List.length_cons, List.length_nil, Nat.reduceAdd, Int.toNat_zero, List.drop_zero, decide_eq_true_eq, decide_eq_false_iff_not, Bool.not_eq_true', Bool.not_eq_false', bne_iff_ne, bne_eq_false_iff_eq, beq_iff_eq, beq_eq_false_iff_ne, Bool.not_eq_true, Bool.not_eq_false, ne_eq, Decidable.not_not, baEq, decide_not, Prod.mk.injEq, and_true, true_and, Room, List.nil_append, Nat.zero_add, Int.not_lt, Int.not_le] at *
  · rw [decide_eq_false]; rintro rfl; omega
  · exact ⟨by omega, by omega, by simp⟩
  · omega
  · omega
  · rw [decide_eq_false]; rintro rfl; exact absurd rfl h6
  · have hw : IntKind.i64.wrap (y2.1 + 1) = y2.1 + 1 := wrapId (by omega)
    rw [hw, toNat1 (by omega)]
    refine ⟨⟨by omega, by omega, ?_⟩, by omega⟩
    rw [take_succ (by omega), take_succ (by omega), i2.2.2, h6]
  · have e : l.take y2.1.toNat = l := List.take_of_length_le (by omega)
    have e2 : m.take y2.1.toNat = m := List.take_of_length_le (by omega)
    rw [decide_eq_true]; rw [← e, ← e2, i2.2.2])
def E5 : D.Env := E4.add 25 feqAddrS
theorem E5ok : EOk Try.prog E5 := E4ok.add k25_4
-- laws.markAddrS
set_option maxHeartbeats 2000000 in
theorem k27_5 : fmarkAddrS.ok Try.prog 27 := MS.of (S := fmarkAddrS) (L := fun l k => fun | 2 => some (LmkS .addr mkAddr l k) | _ => none) (kp := [0,1,4,5,9,1000009]) (kl := [0]) E5ok Try.func27 (by kernel_rfl) (by kernel_rfl) (by
  rintro (l : List SAddr) (k : Int) hp
  refine holds_of (X := lpx (LmkS .addr mkAddr l k) (k, ((0 : Int), (l, ()))) fun (y1 : Int × Int × List SAddr × PUnit) bk1 =>
 .br (decide (y1.snd.fst < (↑y1.snd.snd.fst.length : Int)))
  (.ob (fmarkText.pre (y1.fst, ())) <|
   .lt (ByteArray × PUnit) (fmarkText.fn (y1.fst, ())) fun z2 =>
   .ob ((0 : Int) ≤ y1.snd.fst ∧ y1.snd.fst < (↑y1.snd.snd.fst.length : Int)) <|
    .ob (y1.snd.fst.toNat < y1.snd.snd.fst.length) <|
    .lt (List SAddr) (y1.snd.snd.fst.modify y1.snd.fst.toNat fun z => { host := z2.fst, path := z.path : SAddr }) fun z3 =>
    .ob (fmarkText.pre (IntKind.i64.wrap (y1.fst + (1 : Int)), ())) <|
     .lt (ByteArray × PUnit) (fmarkText.fn (IntKind.i64.wrap (y1.fst + (1 : Int)), ())) fun z4 =>
     .ob ((0 : Int) ≤ y1.snd.fst ∧ y1.snd.fst < (↑z3.length : Int)) <|
      .ob (y1.snd.fst.toNat < z3.length) <|
      .lt (List SAddr) (z3.modify y1.snd.fst.toNat fun z => { host := z.host, path := z4.fst : SAddr }) fun z5 =>
      .ob (Value.int IntKind.i64 (0 : Int) = Value.int IntKind.i64 (0 : Int)) <|
       .ob (bk1 (IntKind.i64.wrap (IntKind.i64.wrap (y1.fst + (1 : Int)) + (1 : Int)), (IntKind.i64.wrap (y1.snd.fst + (1 : Int)), (z5, ())))) <|
       .ok)
  (.leaf (.one false [vi (y1.fst)]) [] [((0 : Nat), ⟨Ty.addr, y1.snd.snd.fst⟩)])) (by kernel_rfl) ?_
  refine lpx_i ?_ fun (y1 : Int × Int × List SAddr × PUnit) i1 => br_i (fun h2 => ob_i ?_ fun o3 => lt_i (ob_i ?_ fun o4 => ob_i ?_ fun o5 => lt_i (ob_i ?_ fun o6 => lt_i (ob_i ?_ fun o7 => ob_i ?_ fun o8 => lt_i (ob_i rfl fun _ => ob_i ?_ fun o9 => trivial))))) (fun h2 => MS.leaf ?_)
  · exact ⟨by simp, by simp, by simp [markL], by simp [markL]⟩
  all_goals have hp1 : 0 ≤ k := hp.1
  all_goals have hp2 : (markL mkAddr l k).2 ≤ 4000000000000000000 := hp.2
  all_goals have i3 : 0 ≤ y1.2.1 ∧ y1.2.1 ≤ l.length ∧ y1.1 = (markL mkAddr (l.take y1.2.1.toNat) k).2 ∧ y1.2.2.1 = (markL mkAddr (l.take y1.2.1.toNat) k).1 ++ l.drop y1.2.1.toNat := i1
  all_goals have hcnt := markL_cnt (f := mkAddr) (fun x k => by simp only [mkAddr]; omega) l k
  all_goals have hx : y1.2.2.1.length = l.length := by rw [i3.2.2.2, List.length_append, markL_len, List.length_take, List.length_drop]; omega
  all_goals simp only [decide_eq_true_eq, decide_eq_false_iff_not, hx] at h2
  all_goals clear i1
  all_goals try have hlt : y1.2.1.toNat < l.length := by omega
  all_goals try have ht := markL_take (f := mkAddr) hlt k
  all_goals try have hle := (markL_take_le mkAddr_mono l (y1.2.1.toNat + 1) k).2
  all_goals try have hl0 := (markL_take_le mkAddr_mono l y1.2.1.toNat k).1
  all_goals try rw [ht] at hle
  all_goals try rw [← i3.2.2.1] at hle hl0 ht
  all_goals try simp only [mkAddr] at hle
  all_goals first | decide | (simp only [List.length_modify, hx]; omega) | (refine ⟨?_, ?_⟩ <;> (try simp (discharger := omega) only [wrapId']) <;> omega) | skip
  · try clear o3 o4 o5
    simp (discharger := omega) only [wrapId', fmarkText]
    have hA : (markL mkAddr (l.take y1.2.1.toNat) k).1.length = y1.2.1.toNat := by rw [markL_len, List.length_take]; omega
    refine ⟨⟨by omega, by omega, ?_, ?_⟩, ?_⟩
    · rw [toNat1 (by omega), ht]
      first | done | (simp only [mkAddr]; done) | (simp only [mkAddr]; omega)
    · rw [toNat1 (by omega), ht, i3.2.2.2, drop_cons hlt]
      simp only [mod_at hA, mkAddr, Int.add_assoc, Int.reduceAdd, List.append_assoc, List.cons_append, List.nil_append]
    · omega
  · refine MS.leafL (t := .addr) (fn := fun l k => markL mkAddr l k) ?_
    have e1 : l.take y1.2.1.toNat = l := List.take_of_length_le (by omega)
    have e2 : l.drop y1.2.1.toNat = [] := List.drop_of_length_le (by omega)
    rw [i3.2.2.2, i3.2.2.1, e1, e2, List.append_nil])
def E6 : D.Env := E5.addM 27 fmarkAddrS
theorem E6ok : EOk Try.prog E6 := E5ok.addM k27_5
-- laws.heldAddrS
set_option maxHeartbeats 2000000 in
theorem k28_6 : fheldAddrS.ok Try.prog 28 := Fct.of (S := fheldAddrS) (L := fun ⟨l, k, _⟩ => fun | 2 => some (LheS .addr mkAddr l k) | _ => none) (kp := [0,1,4,5,9,19,29,1000009,1000019,1000029]) E6ok Try.func28 (by kernel_rfl) (by kernel_rfl) (by
  rintro ⟨(l : List SAddr), (k : Int), _⟩ hp
  refine holds_of (X := lpx (LheS .addr mkAddr l k) (k, ((0 : Int), ())) fun (y1 : Int × Int × PUnit) bk1 =>
 .br (decide (y1.snd.fst < (↑l.length : Int)))
  (.ob ((0 : Int) ≤ y1.snd.fst ∧ y1.snd.fst < (↑l.length : Int)) <|
   .ob (fmarkText.pre (y1.fst, ())) <|
   .lt (ByteArray × PUnit) (fmarkText.fn (y1.fst, ())) fun z2 =>
   .br (!(l.getD y1.snd.fst.toNat default).host.toList == z2.fst.toList)
    (.leaf (mkR fheldAddrS.rs ((-1 : Int), ())) [] [])
    (.ob ((0 : Int) ≤ y1.snd.fst ∧ y1.snd.fst < (↑l.length : Int)) <|
     .ob (fmarkText.pre (IntKind.i64.wrap (y1.fst + (1 : Int)), ())) <|
     .lt (ByteArray × PUnit) (fmarkText.fn (IntKind.i64.wrap (y1.fst + (1 : Int)), ())) fun z3 =>
     .br (!(l.getD y1.snd.fst.toNat default).path.toList == z3.fst.toList)
      (.leaf (mkR fheldAddrS.rs ((-1 : Int), ())) [] [])
      (.ob (l = l) <|
       .ob (bk1 (IntKind.i64.wrap (IntKind.i64.wrap (y1.fst + (1 : Int)) + (1 : Int)), (IntKind.i64.wrap (y1.snd.fst + (1 : Int)), ()))) <|
       .ok)))
  (.leaf (mkR fheldAddrS.rs (y1.fst, ())) [] [])) (by kernel_rfl) ?_
  refine lpx_i ?_ fun (y1 : Int × Int × PUnit) i1 => br_i (fun h2 => ob_i ?_ fun o3 => ob_i ?_ fun o4 => lt_i (br_i (fun h5 => Fct.leafY ?_) (fun h5 => ob_i ?_ fun o6 => ob_i ?_ fun o7 => lt_i (br_i (fun h8 => Fct.leafY ?_) (fun h8 => ob_i rfl fun _ => ob_i ?_ fun o9 => trivial))))) (fun h2 => Fct.leafY ?_)
  · exact ⟨by simp, by simp, by simp [markL]⟩
  all_goals have hp1 : 0 ≤ k := hp.1
  all_goals have hp2 : (markL mkAddr l k).2 ≤ 4000000000000000000 := hp.2.1
  all_goals have hp3 : (markL mkAddr l k).1 = l := hp.2.2
  all_goals have i3 : 0 ≤ y1.2.1 ∧ y1.2.1 ≤ l.length ∧ y1.1 = (markL mkAddr (l.take y1.2.1.toNat) k).2 := i1
  all_goals have hcnt := markL_cnt (f := mkAddr) (fun x k => by simp only [mkAddr]; omega) l k
  all_goals simp only [decide_eq_true_eq, decide_eq_false_iff_not] at h2
  all_goals clear i1 hp
  all_goals try have hlt : y1.2.1.toNat < l.length := by omega
  all_goals try have ht := markL_take (f := mkAddr) hlt k
  all_goals try have hle := (markL_take_le mkAddr_mono l (y1.2.1.toNat + 1) k).2
  all_goals try have hl0 := (markL_take_le mkAddr_mono l y1.2.1.toNat k).1
  all_goals try have heq := markL_held hp3 hlt
  all_goals try rw [ht] at hle
  all_goals try rw [← i3.2.2] at hle hl0 ht heq
  all_goals try simp only [mkAddr] at hle heq
  all_goals first | decide | omega | (refine ⟨?_, ?_⟩ <;> (try simp (discharger := omega) only [wrapId']) <;> omega) | skip
  all_goals try (exfalso; clear ht; generalize l.getD y1.2.1.toNat default = c at *; subst heq; simp (discharger := omega) [wrapId', fmarkText, Int.add_assoc] at *; done)
  · simp (discharger := omega) only [wrapId']
    refine ⟨⟨by omega, by omega, ?_⟩, ?_⟩
    · rw [toNat1 (by omega), ht]
      first | done | (simp only [mkAddr]; done) | (simp only [mkAddr]; omega)
    · omega
  · have e1 : l.take y1.2.1.toNat = l := List.take_of_length_le (by omega)
    rw [e1] at i3
    show (y1.1, ()) = ((markL mkAddr l k).2, ())
    rw [i3.2.2])
def E7 : D.Env := E6.add 28 fheldAddrS
theorem E7ok : EOk Try.prog E7 := E6ok.add k28_6
-- laws.szResponse
set_option maxHeartbeats 2000000 in
theorem k192_7 : fszResponse.ok Try.prog 192 := Fct.of (S := fszResponse) (L := fun _ _ => none) (kp := [1,2,4,11,18,1000011,1000018]) E7ok Try.func192 (by kernel_rfl) (by kernel_rfl) (by
  rintro ⟨(x : SResponse), (n : Int), _⟩ hp
  refine holds_of (X := .br (decide (IntKind.i64.wrap (n - (↑x.body.size : Int)) < (0 : Int)))
 (.leaf (mkR fszResponse.rs ((-1 : Int), ())) [] [])
 (.br (decide (IntKind.i64.wrap (IntKind.i64.wrap (n - (↑x.body.size : Int)) - (↑x.policy.size : Int)) < (0 : Int)))
  (.leaf (mkR fszResponse.rs ((-1 : Int), ())) [] [])
  (.leaf (mkR fszResponse.rs (IntKind.i64.wrap (IntKind.i64.wrap (n - (↑x.body.size : Int)) - (↑x.policy.size : Int)), ())) [] []))) (by kernel_rfl) ?_
  refine br_i (fun h1 => Fct.leafY ?_) (fun h1 => br_i (fun h2 => Fct.leafY ?_) (fun h2 => Fct.leafY ?_))
  all_goals try simp only [decide_eq_true_eq, decide_eq_false_iff_not, Bool.not_eq_true', Bool.not_eq_false', bne_iff_ne, bne_eq_false_iff_eq, beq_iff_eq, beq_eq_false_iff_ne, baEq, Int.not_lt, Int.not_le, ne_eq, Decidable.not_not] at *
  all_goals try simp only [fszResponse, etaToken, etaNode, etaBuilder, etaPolicy, etaPage, etaVisit, etaTab, etaServer, etaCache, etaNet, etaLoader, etaSheet, etaResult, etaSlot, etaModule, etaAddr, etaRequest, etaResponse, etaConn, etaGuess, etaEntry, etaSent, etaFile, baSz, List.size_toArray, List.length_cons, List.length_nil, Nat.reduceAdd, Int.toNat_zero, List.drop_zero, decide_eq_true_eq, decide_eq_false_iff_not, Bool.not_eq_true', Bool.not_eq_false', bne_iff_ne, bne_eq_false_iff_eq, beq_iff_eq, beq_eq_false_iff_ne, Bool.not_eq_true, Bool.not_eq_false, ne_eq, Decidable.not_not, baEq, decide_not, Prod.mk.injEq, and_true, true_and, Room, List.nil_append, Nat.zero_add, Int.not_lt, Int.not_le, Sh.good, Sh.fc, enc, List.forall_mem_cons, List.not_mem_nil, false_implies, implies_true, goodC, maxLen] at *
  all_goals grind [wrapId', lessen, szResponse])
def E8 : D.Env := E7.add 192 fszResponse
theorem E8ok : EOk Try.prog E8 := E7ok.add k192_7
-- laws.toResponse
theorem k194_8 : ftoResponse.ok Try.prog 194 := Fct.of (S := ftoResponse) (L := fun _ _ => none) (kp := [1,2,3]) E8ok Try.func194 (by kernel_rfl) (by kernel_rfl) (by
  rintro ⟨(x : SResponse), _⟩ hp
  refine holds_of (X := .leaf (mkR ftoResponse.rs (x, ())) [] []) (by kernel_rfl) ?_
  refine Fct.leafY ?_
  all_goals try simp only [decide_eq_true_eq, decide_eq_false_iff_not, Bool.not_eq_true', Bool.not_eq_false', bne_iff_ne, bne_eq_false_iff_eq, beq_iff_eq, beq_eq_false_iff_ne, baEq, Int.not_lt, Int.not_le, ne_eq, Decidable.not_not] at *
  all_goals try simp only [ftoResponse, etaToken, etaNode, etaBuilder, etaPolicy, etaPage, etaVisit, etaTab, etaServer, etaCache, etaNet, etaLoader, etaSheet, etaResult, etaSlot, etaModule, etaAddr, etaRequest, etaResponse, etaConn, etaGuess, etaEntry, etaSent, etaFile, baSz, List.size_toArray, List.length_cons, List.length_nil, Nat.reduceAdd, Int.toNat_zero, List.drop_zero, decide_eq_true_eq, decide_eq_false_iff_not, Bool.not_eq_true', Bool.not_eq_false', bne_iff_ne, bne_eq_false_iff_eq, beq_iff_eq, beq_eq_false_iff_ne, Bool.not_eq_true, Bool.not_eq_false, ne_eq, Decidable.not_not, baEq, decide_not, Prod.mk.injEq, and_true, true_and, Room, List.nil_append, Nat.zero_add, Int.not_lt, Int.not_le] at *
  all_goals first | trivial | rfl | grind [szResponse])
def E9 : D.Env := E8.add 194 ftoResponse
theorem E9ok : EOk Try.prog E9 := E8ok.add k194_8
-- laws.eqResponse
set_option maxHeartbeats 2000000 in
theorem k196_9 : feqResponse.ok Try.prog 196 := Fct.of (S := feqResponse) (L := fun _ _ => none) (kp := [2,3,4,9,14,19,24,29,34,1000009,1000014,1000019,1000024,1000029,1000034]) E9ok Try.func196 (by kernel_rfl) (by kernel_rfl) (by
  rintro ⟨(x : SResponse), (y : SResponse), _⟩ hp
  refine holds_of (X := .br (x.status != y.status)
 (.leaf (mkR feqResponse.rs (false, ())) [] [])
 (.br (x.kind != y.kind)
  (.leaf (mkR feqResponse.rs (false, ())) [] [])
  (.br (!x.body.toList == y.body.toList)
   (.leaf (mkR feqResponse.rs (false, ())) [] [])
   (.br (x.age != y.age)
    (.leaf (mkR feqResponse.rs (false, ())) [] [])
    (.br (!x.shares == y.shares)
     (.leaf (mkR feqResponse.rs (false, ())) [] [])
     (.br (!x.policy.toList == y.policy.toList)
      (.leaf (mkR feqResponse.rs (false, ())) [] [])
      (.leaf (mkR feqResponse.rs (true, ())) [] []))))))) (by kernel_rfl) ?_
  refine br_i (fun h1 => Fct.leafY ?_) (fun h1 => br_i (fun h2 => Fct.leafY ?_) (fun h2 => br_i (fun h3 => Fct.leafY ?_) (fun h3 => br_i (fun h4 => Fct.leafY ?_) (fun h4 => br_i (fun h5 => Fct.leafY ?_) (fun h5 => br_i (fun h6 => Fct.leafY ?_) (fun h6 => Fct.leafY ?_))))))
  all_goals try simp only [decide_eq_true_eq, decide_eq_false_iff_not, Bool.not_eq_true', Bool.not_eq_false', bne_iff_ne, bne_eq_false_iff_eq, beq_iff_eq, beq_eq_false_iff_ne, baEq, Int.not_lt, Int.not_le, ne_eq, Decidable.not_not] at *
  all_goals try simp only [feqResponse, etaToken, etaNode, etaBuilder, etaPolicy, etaPage, etaVisit, etaTab, etaServer, etaCache, etaNet, etaLoader, etaSheet, etaResult, etaSlot, etaModule, etaAddr, etaRequest, etaResponse, etaConn, etaGuess, etaEntry, etaSent, etaFile, baSz, List.size_toArray, List.length_cons, List.length_nil, Nat.reduceAdd, Int.toNat_zero, List.drop_zero, decide_eq_true_eq, decide_eq_false_iff_not, Bool.not_eq_true', Bool.not_eq_false', bne_iff_ne, bne_eq_false_iff_eq, beq_iff_eq, beq_eq_false_iff_ne, Bool.not_eq_true, Bool.not_eq_false, ne_eq, Decidable.not_not, baEq, decide_not, Prod.mk.injEq, and_true, true_and, Room, List.nil_append, Nat.zero_add, Int.not_lt, Int.not_le] at *
  all_goals first | trivial | (cases x; cases y; simp_all; done) | (simp only [szResponse] at *; omega) | grind [szResponse])
def E10 : D.Env := E9.add 196 feqResponse
theorem E10ok : EOk Try.prog E10 := E9ok.add k196_9
-- laws.szFile
set_option maxHeartbeats 2000000 in
theorem k191_10 : fszFile.ok Try.prog 191 := Fct.of (S := fszFile) (L := fun _ _ => none) (kp := [1,2,4,11,17,1000011,1000017]) E10ok Try.func191 (by kernel_rfl) (by kernel_rfl) (by
  rintro ⟨(x : SFile), (n : Int), _⟩ hp
  refine holds_of (X := .br (decide (IntKind.i64.wrap (n - (↑x.path.size : Int)) < (0 : Int)))
 (.leaf (mkR fszFile.rs ((-1 : Int), ())) [] [])
 (.ob (fszResponse.pre (x.response, IntKind.i64.wrap (n - (↑x.path.size : Int)), ())) <|
  .lt (Int × PUnit) (fszResponse.fn (x.response, IntKind.i64.wrap (n - (↑x.path.size : Int)), ())) fun z2 =>
  .br (decide (z2.fst < (0 : Int)))
   (.leaf (mkR fszFile.rs ((-1 : Int), ())) [] [])
   (.leaf (mkR fszFile.rs (z2.fst, ())) [] []))) (by kernel_rfl) ?_
  refine br_i (fun h1 => Fct.leafY ?_) (fun h1 => ob_i ?_ fun o2 => lt_i (br_i (fun h3 => Fct.leafY ?_) (fun h3 => Fct.leafY ?_)))
  all_goals try simp only [decide_eq_true_eq, decide_eq_false_iff_not, Bool.not_eq_true', Bool.not_eq_false', bne_iff_ne, bne_eq_false_iff_eq, beq_iff_eq, beq_eq_false_iff_ne, baEq, Int.not_lt, Int.not_le, ne_eq, Decidable.not_not] at *
  all_goals try simp only [fszFile, fszResponse, etaToken, etaNode, etaBuilder, etaPolicy, etaPage, etaVisit, etaTab, etaServer, etaCache, etaNet, etaLoader, etaSheet, etaResult, etaSlot, etaModule, etaAddr, etaRequest, etaResponse, etaConn, etaGuess, etaEntry, etaSent, etaFile, baSz, List.size_toArray, List.length_cons, List.length_nil, Nat.reduceAdd, Int.toNat_zero, List.drop_zero, decide_eq_true_eq, decide_eq_false_iff_not, Bool.not_eq_true', Bool.not_eq_false', bne_iff_ne, bne_eq_false_iff_eq, beq_iff_eq, beq_eq_false_iff_ne, Bool.not_eq_true, Bool.not_eq_false, ne_eq, Decidable.not_not, baEq, decide_not, Prod.mk.injEq, and_true, true_and, Room, List.nil_append, Nat.zero_add, Int.not_lt, Int.not_le, Sh.good, Sh.fc, enc, List.forall_mem_cons, List.not_mem_nil, false_implies, implies_true, goodC, maxLen] at *
  all_goals grind [wrapId', lessen, szFile, szResponse])
def E11 : D.Env := E10.add 191 fszFile
theorem E11ok : EOk Try.prog E11 := E10ok.add k191_10
-- laws.toFile
theorem k193_11 : ftoFile.ok Try.prog 193 := Fct.of (S := ftoFile) (L := fun _ _ => none) (kp := [1,2,3]) E11ok Try.func193 (by kernel_rfl) (by kernel_rfl) (by
  rintro ⟨(x : SFile), _⟩ hp
  refine holds_of (X := .ob (ftoResponse.pre (x.response, ())) <|
 .lt (SResponse × PUnit) (ftoResponse.fn (x.response, ())) fun z2 =>
 .leaf (mkR ftoFile.rs (⟨x.path, z2.fst⟩, ())) [] []) (by kernel_rfl) ?_
  refine ob_i ?_ fun o1 => lt_i (Fct.leafY ?_)
  all_goals try simp only [decide_eq_true_eq, decide_eq_false_iff_not, Bool.not_eq_true', Bool.not_eq_false', bne_iff_ne, bne_eq_false_iff_eq, beq_iff_eq, beq_eq_false_iff_ne, baEq, Int.not_lt, Int.not_le, ne_eq, Decidable.not_not] at *
  all_goals try simp only [ftoFile, ftoResponse, etaToken, etaNode, etaBuilder, etaPolicy, etaPage, etaVisit, etaTab, etaServer, etaCache, etaNet, etaLoader, etaSheet, etaResult, etaSlot, etaModule, etaAddr, etaRequest, etaResponse, etaConn, etaGuess, etaEntry, etaSent, etaFile, baSz, List.size_toArray, List.length_cons, List.length_nil, Nat.reduceAdd, Int.toNat_zero, List.drop_zero, decide_eq_true_eq, decide_eq_false_iff_not, Bool.not_eq_true', Bool.not_eq_false', bne_iff_ne, bne_eq_false_iff_eq, beq_iff_eq, beq_eq_false_iff_ne, Bool.not_eq_true, Bool.not_eq_false, ne_eq, Decidable.not_not, baEq, decide_not, Prod.mk.injEq, and_true, true_and, Room, List.nil_append, Nat.zero_add, Int.not_lt, Int.not_le] at *
  all_goals first | trivial | rfl | grind [szFile, szResponse])
def E12 : D.Env := E11.add 193 ftoFile
theorem E12ok : EOk Try.prog E12 := E11ok.add k193_11
-- laws.eqFile
set_option maxHeartbeats 2000000 in
theorem k195_12 : feqFile.ok Try.prog 195 := Fct.of (S := feqFile) (L := fun _ _ => none) (kp := [2,3,4,9,15,1000009,1000015]) E12ok Try.func195 (by kernel_rfl) (by kernel_rfl) (by
  rintro ⟨(x : SFile), (y : SFile), _⟩ hp
  refine holds_of (X := .br (!x.path.toList == y.path.toList)
 (.leaf (mkR feqFile.rs (false, ())) [] [])
 (.ob (feqResponse.pre (x.response, y.response, ())) <|
  .lt (Bool × PUnit) (feqResponse.fn (x.response, y.response, ())) fun z2 =>
  .br (!z2.fst)
   (.leaf (mkR feqFile.rs (false, ())) [] [])
   (.leaf (mkR feqFile.rs (true, ())) [] []))) (by kernel_rfl) ?_
  refine br_i (fun h1 => Fct.leafY ?_) (fun h1 => ob_i trivial fun _ => lt_i (br_i (fun h2 => Fct.leafY ?_) (fun h2 => Fct.leafY ?_)))
  all_goals try simp only [decide_eq_true_eq, decide_eq_false_iff_not, Bool.not_eq_true', Bool.not_eq_false', bne_iff_ne, bne_eq_false_iff_eq, beq_iff_eq, beq_eq_false_iff_ne, baEq, Int.not_lt, Int.not_le, ne_eq, Decidable.not_not] at *
  all_goals try simp only [feqFile, feqResponse, etaToken, etaNode, etaBuilder, etaPolicy, etaPage, etaVisit, etaTab, etaServer, etaCache, etaNet, etaLoader, etaSheet, etaResult, etaSlot, etaModule, etaAddr, etaRequest, etaResponse, etaConn, etaGuess, etaEntry, etaSent, etaFile, baSz, List.size_toArray, List.length_cons, List.length_nil, Nat.reduceAdd, Int.toNat_zero, List.drop_zero, decide_eq_true_eq, decide_eq_false_iff_not, Bool.not_eq_true', Bool.not_eq_false', bne_iff_ne, bne_eq_false_iff_eq, beq_iff_eq, beq_eq_false_iff_ne, Bool.not_eq_true, Bool.not_eq_false, ne_eq, Decidable.not_not, baEq, decide_not, Prod.mk.injEq, and_true, true_and, Room, List.nil_append, Nat.zero_add, Int.not_lt, Int.not_le] at *
  all_goals first | trivial | (cases x; cases y; simp_all; done) | (simp only [szFile, szResponse] at *; omega) | grind [szFile, szResponse])
def E13 : D.Env := E12.add 195 feqFile
theorem E13ok : EOk Try.prog E13 := E12ok.add k195_12
-- laws.szFileS
set_option maxHeartbeats 2000000 in
theorem k164_13 : fszFileS.ok Try.prog 164 := Fct.of (S := fszFileS) (L := fun ⟨l, n, _⟩ => fun | 5 => some (LszS .file szFile l n) | _ => none) (kp := [0,1,4,5,11,15,25,1000011,1000015,1000025]) E13ok Try.func164 (by kernel_rfl) (by kernel_rfl) (by
  rintro ⟨(l : List SFile), (n : Int), _⟩ hp
  refine holds_of (X := .br (decide (IntKind.i64.wrap (n - (↑l.length : Int)) < (0 : Int)))
 (.leaf (mkR fszFileS.rs ((-1 : Int), ())) [] [])
 (lpx (LszS .file szFile l n) (IntKind.i64.wrap (n - (↑l.length : Int)), ((0 : Int), ())) fun (y2 : Int × Int × PUnit) bk2 =>
  .br (decide (y2.snd.fst < (↑l.length : Int)))
   (.ob ((0 : Int) ≤ y2.snd.fst ∧ y2.snd.fst < (↑l.length : Int)) <|
    .ob (fszFile.pre (l.getD y2.snd.fst.toNat default, y2.fst, ())) <|
    .lt (Int × PUnit) (fszFile.fn (l.getD y2.snd.fst.toNat default, y2.fst, ())) fun z2 =>
    .br (decide (z2.fst < (0 : Int)))
     (.leaf (mkR fszFileS.rs ((-1 : Int), ())) [] [])
     (.ob (l = l) <|
      .ob (bk2 (z2.fst, (IntKind.i64.wrap (y2.snd.fst + (1 : Int)), ()))) <|
      .ok))
   (.leaf (mkR fszFileS.rs (y2.fst, ())) [] []))) (by kernel_rfl) ?_
  refine br_i (fun h1 => Fct.leafY ?_) (fun h1 => lpx_i ?_ fun (y2 : Int × Int × PUnit) i2 => br_i (fun h3 => ob_i ?_ fun o4 => ob_i ?_ fun o5 => lt_i (br_i (fun h6 => Fct.leafY ?_) (fun h6 => ob_i rfl fun _ => ob_i ?_ fun o7 => trivial))) (fun h3 => Fct.leafY ?_))
  all_goals try simp only [decide_eq_true_eq, decide_eq_false_iff_not, Bool.not_eq_true', Bool.not_eq_false', bne_iff_ne, bne_eq_false_iff_eq, beq_iff_eq, beq_eq_false_iff_ne, baEq, Int.not_lt, Int.not_le, ne_eq, Decidable.not_not] at *
  all_goals try simp only [LszS, fszFile, fszFileS, etaToken, etaNode, etaBuilder, etaPolicy, etaPage, etaVisit, etaTab, etaServer, etaCache, etaNet, etaLoader, etaSheet, etaResult, etaSlot, etaModule, etaAddr, etaRequest, etaResponse, etaConn, etaGuess, etaEntry, etaSent, etaFile, baSz, List.size_toArray, List.length_cons, List.length_nil, Nat.reduceAdd, Int.toNat_zero, List.drop_zero, decide_eq_true_eq, decide_eq_false_iff_not, Bool.not_eq_true', Bool.not_eq_false', bne_iff_ne, bne_eq_false_iff_eq, beq_iff_eq, beq_eq_false_iff_ne, Bool.not_eq_true, Bool.not_eq_false, ne_eq, Decidable.not_not, baEq, decide_not, Prod.mk.injEq, and_true, true_and, Room, List.nil_append, Nat.zero_add, Int.not_lt, Int.not_le] at *
  · have := good_len hp.1; simp only [maxLen] at this; rw [wrapId (by omega)] at h1
    rw [lessenNeg (by simp only [szL]; omega)]
  · have := good_len hp.1; simp only [maxLen] at this
    rw [wrapId (by omega)] at h1 ⊢
    exact ⟨by omega, by omega, h1, by simp⟩
  · omega
  · exact ⟨good_getD hp.1 (by omega), by omega, by omega⟩
  · have hs := sum_take_le szFile l (y2.2.1.toNat + 1)
    rw [sum_take szFile (by omega)] at hs
    rw [lessen_lt (by omega)] at h6
    rw [lessenNeg (by simp only [szL]; omega)]
  · have hw : IntKind.i64.wrap (y2.2.1 + 1) = y2.2.1 + 1 := wrapId (by have := good_len hp.1; simp only [maxLen] at this; omega)
    have h7 : ¬ lessen y2.1 (szFile (l.getD y2.2.1.toNat default)) < 0 := by omega
    rw [lessen_lt (by omega)] at h7
    rw [hw, toNat1 (by omega), sum_take szFile (by omega), lessen_ge (by omega)]
    exact ⟨⟨by omega, by omega, by omega, by omega⟩, by omega⟩
  · have e : l.take y2.2.1.toNat = l := List.take_of_length_le (by omega)
    rw [e] at i2
    have hz : ((szL szFile l : Nat) : Int) = l.length + (l.map szFile).sum := by simp only [szL]; omega
    rw [lessen_ge (by omega)]
    show y2.1 = n - ((szL szFile l : Nat) : Int)
    omega)
def E14 : D.Env := E13.add 164 fszFileS
theorem E14ok : EOk Try.prog E14 := E13ok.add k164_13
-- laws.toFileS
theorem k166_14 : ftoFileS.ok Try.prog 166 := Fct.of (S := ftoFileS) (L := fun ⟨l, _⟩ => fun | 3 => some (LtoS .file l) | _ => none) (kp := [0,2,3,4,11,1000011]) E14ok Try.func166 (by kernel_rfl) (by kernel_rfl) (by
  rintro ⟨(l : List SFile), _⟩ hp
  refine holds_of (X := .ob ((↑l.length : Int) = (↑l.length : Int) ∧
  (0 : Int) ≤ (↑l.length : Int) ∧
    (80 : Int) * (↑l.length : Int) ≤ (140737488355328 : Int) ∧ (↑l.length : Int) ≤ (140737488355328 : Int)) <|
 lpx (LtoS .file l) ((0 : Int), (List.replicate (↑l.length : Int).toNat default, ())) fun (y2 : Int × List SFile × PUnit) bk2 =>
 .br (decide (y2.fst < (↑l.length : Int)))
  (.ob ((0 : Int) ≤ y2.fst ∧ y2.fst < (↑l.length : Int)) <|
   .ob (ftoFile.pre (l.getD y2.fst.toNat default, ())) <|
   .lt (SFile × PUnit) (ftoFile.fn (l.getD y2.fst.toNat default, ())) fun z2 =>
   .ob ((0 : Int) ≤ y2.fst ∧ y2.fst < (↑y2.snd.fst.length : Int)) <|
    .ob (y2.fst.toNat < y2.snd.fst.length) <|
    .lt (List SFile) (y2.snd.fst.modify y2.fst.toNat fun z => z2.fst) fun z3 =>
    .ob (l = l) <|
     .ob (bk2 (IntKind.i64.wrap (y2.fst + (1 : Int)), (z3, ()))) <|
     .ok)
  (.leaf (mkR ftoFileS.rs (y2.snd.fst, ())) [] [])) (by kernel_rfl) ?_
  refine ob_i ?_ fun o1 => lpx_i ?_ fun (y2 : Int × List SFile × PUnit) i2 => br_i (fun h3 => ob_i ?_ fun o4 => ob_i ?_ fun o5 => lt_i (ob_i ?_ fun o6 => ob_i ?_ fun o7 => lt_i (ob_i rfl fun _ => ob_i ?_ fun o8 => trivial))) (fun h3 => Fct.leafY ?_)
  all_goals try simp only [decide_eq_true_eq, decide_eq_false_iff_not, Bool.not_eq_true', Bool.not_eq_false', bne_iff_ne, bne_eq_false_iff_eq, beq_iff_eq, beq_eq_false_iff_ne, baEq, Int.not_lt, Int.not_le, ne_eq, Decidable.not_not] at *
  all_goals try simp only [LtoS, ftoFile, ftoFileS, etaToken, etaNode, etaBuilder, etaPolicy, etaPage, etaVisit, etaTab, etaServer, etaCache, etaNet, etaLoader, etaSheet, etaResult, etaSlot, etaModule, etaAddr, etaRequest, etaResponse, etaConn, etaGuess, etaEntry, etaSent, etaFile, baSz, List.size_toArray, List.length_cons, List.length_nil, Nat.reduceAdd, Int.toNat_zero, List.drop_zero, decide_eq_true_eq, decide_eq_false_iff_not, Bool.not_eq_true', Bool.not_eq_false', bne_iff_ne, bne_eq_false_iff_eq, beq_iff_eq, beq_eq_false_iff_ne, Bool.not_eq_true, Bool.not_eq_false, ne_eq, Decidable.not_not, baEq, decide_not, Prod.mk.injEq, and_true, true_and, Room, List.nil_append, Nat.zero_add, Int.not_lt, Int.not_le] at *
  · have := szL_len szFile l; omega
  · exact ⟨by omega, by omega, by simp⟩
  · omega
  · have hs := sum_take_le szFile l (y2.1.toNat + 1)
    rw [sum_take szFile (by omega)] at hs
    simp only [szL] at hp; omega
  · rw [i2.2.2]; simp; omega
  · rw [i2.2.2]; simp; omega
  · have hw : IntKind.i64.wrap (y2.1 + 1) = y2.1 + 1 := wrapId (by have := szL_len szFile l; omega)
    rw [hw, toNat1 (by omega), i2.2.2]
    refine ⟨⟨by omega, by omega, ?_⟩, by omega⟩
    rw [show l.length - y2.1.toNat = (l.length - (y2.1.toNat + 1)) + 1 from by omega, List.replicate_succ, mod_at (by simp; omega), take_succ (by omega)]
    simp
  · have e : l.take y2.1.toNat = l := List.take_of_length_le (by omega)
    rw [i2.2.2, e]; simp; omega)
def E15 : D.Env := E14.add 166 ftoFileS
theorem E15ok : EOk Try.prog E15 := E14ok.add k166_14
-- laws.eqFileS
set_option maxHeartbeats 2000000 in
theorem k169_15 : feqFileS.ok Try.prog 169 := Fct.of (S := feqFileS) (L := fun ⟨l, m, _⟩ => fun | 4 => some (LeqS .file l m) | _ => none) (kp := [0,1,4,5,10,14,26,1000010,1000014,1000026]) E15ok Try.func169 (by kernel_rfl) (by kernel_rfl) (by
  rintro ⟨(l : List SFile), (m : List SFile), _⟩ hp
  refine holds_of (X := .br ((↑l.length : Int) != (↑m.length : Int))
 (.leaf (mkR feqFileS.rs (false, ())) [] [])
 (lpx (LeqS .file l m) ((0 : Int), ()) fun (y2 : Int × PUnit) bk2 =>
  .br (decide (y2.fst < (↑l.length : Int)))
   (.ob ((0 : Int) ≤ y2.fst ∧ y2.fst < (↑l.length : Int)) <|
    .ob ((0 : Int) ≤ y2.fst ∧ y2.fst < (↑m.length : Int)) <|
    .ob (feqFile.pre (l.getD y2.fst.toNat default, m.getD y2.fst.toNat default, ())) <|
    .lt (Bool × PUnit) (feqFile.fn (l.getD y2.fst.toNat default, m.getD y2.fst.toNat default, ())) fun z2 =>
    .br (!z2.fst)
     (.leaf (mkR feqFileS.rs (false, ())) [] [])
     (.ob (l = l) <|
      .ob (m = m) <|
      .ob (bk2 (IntKind.i64.wrap (y2.fst + (1 : Int)), ())) <|
      .ok))
   (.leaf (mkR feqFileS.rs (true, ())) [] []))) (by kernel_rfl) ?_
  refine br_i (fun h1 => Fct.leafY ?_) (fun h1 => lpx_i ?_ fun (y2 : Int × PUnit) i2 => br_i (fun h3 => ob_i ?_ fun o4 => ob_i ?_ fun o5 => ob_i trivial fun _ => lt_i (br_i (fun h6 => Fct.leafY ?_) (fun h6 => ob_i rfl fun _ => ob_i rfl fun _ => ob_i ?_ fun o7 => trivial))) (fun h3 => Fct.leafY ?_))
  all_goals try simp only [decide_eq_true_eq, decide_eq_false_iff_not, Bool.not_eq_true', Bool.not_eq_false', bne_iff_ne, bne_eq_false_iff_eq, beq_iff_eq, beq_eq_false_iff_ne, baEq, Int.not_lt, Int.not_le, ne_eq, Decidable.not_not] at *
  all_goals try simp only [LeqS, feqFile, feqFileS, etaToken, etaNode, etaBuilder, etaPolicy, etaPage, etaVisit, etaTab, etaServer, etaCache, etaNet, etaLoader, etaSheet, etaResult, etaSlot, etaModule, etaAddr, etaRequest, etaResponse, etaConn, etaGuess, etaEntry, etaSent, etaFile, baSz, List.size_toArray, List.length_cons, List.length_nil, Nat.reduceAdd, Int.toNat_zero, List.drop_zero, decide_eq_true_eq, decide_eq_false_iff_not, Bool.not_eq_true', Bool.not_eq_false', bne_iff_ne, bne_eq_false_iff_eq, beq_iff_eq, beq_eq_false_iff_ne, Bool.not_eq_true, Bool.not_eq_false, ne_eq, Decidable.not_not, baEq, decide_not, Prod.mk.injEq, and_true, true_and, Room, List.nil_append, Nat.zero_add, Int.not_lt, Int.not_le] at *
  · rw [decide_eq_false]; rintro rfl; omega
  · exact ⟨by omega, by omega, by simp⟩
  · omega
  · omega
  · rw [decide_eq_false]; rintro rfl; exact absurd rfl h6
  · have hw : IntKind.i64.wrap (y2.1 + 1) = y2.1 + 1 := wrapId (by omega)
    rw [hw, toNat1 (by omega)]
    refine ⟨⟨by omega, by omega, ?_⟩, by omega⟩
    rw [take_succ (by omega), take_succ (by omega), i2.2.2, h6]
  · have e : l.take y2.1.toNat = l := List.take_of_length_le (by omega)
    have e2 : m.take y2.1.toNat = m := List.take_of_length_le (by omega)
    rw [decide_eq_true]; rw [← e, ← e2, i2.2.2])
def E16 : D.Env := E15.add 169 feqFileS
theorem E16ok : EOk Try.prog E16 := E15ok.add k169_15
-- laws.markFileS
set_option maxHeartbeats 2000000 in
theorem k141_16 : fmarkFileS.ok Try.prog 141 := MS.of (S := fmarkFileS) (L := fun l k => fun | 2 => some (LmkS .file mkFile l k) | _ => none) (kp := [0,1,4,5,9,1000009]) (kl := [0]) E16ok Try.func141 (by kernel_rfl) (by kernel_rfl) (by
  rintro (l : List SFile) (k : Int) hp
  refine holds_of (X := lpx (LmkS .file mkFile l k) (k, ((0 : Int), (l, ()))) fun (y1 : Int × Int × List SFile × PUnit) bk1 =>
 .br (decide (y1.snd.fst < (↑y1.snd.snd.fst.length : Int)))
  (.ob (fmarkText.pre (y1.fst, ())) <|
   .lt (ByteArray × PUnit) (fmarkText.fn (y1.fst, ())) fun z2 =>
   .ob ((0 : Int) ≤ y1.snd.fst ∧ y1.snd.fst < (↑y1.snd.snd.fst.length : Int)) <|
    .ob (y1.snd.fst.toNat < y1.snd.snd.fst.length) <|
    .lt (List SFile) (y1.snd.snd.fst.modify y1.snd.fst.toNat fun z => { path := z2.fst, response := z.response : SFile }) fun z3 =>
    .ob ((0 : Int) ≤ y1.snd.fst ∧ y1.snd.fst < (↑z3.length : Int)) <|
     .ob (y1.snd.fst.toNat < z3.length) <|
     .lt (List SFile) (z3.modify y1.snd.fst.toNat fun z =>
  { path := z.path,
    response :=
      { status := IntKind.i64.wrap (y1.fst + (1 : Int)), kind := z.response.kind, body := z.response.body,
        age := z.response.age, shares := z.response.shares, policy := z.response.policy : SResponse } :
    SFile }) fun z4 =>
     .ob ((0 : Int) ≤ y1.snd.fst ∧ y1.snd.fst < (↑z4.length : Int)) <|
      .ob (y1.snd.fst.toNat < z4.length) <|
      .lt (List SFile) (z4.modify y1.snd.fst.toNat fun z =>
  { path := z.path,
    response :=
      { status := z.response.status, kind := IntKind.i64.wrap (IntKind.i64.wrap (y1.fst + (1 : Int)) + (1 : Int)),
        body := z.response.body, age := z.response.age, shares := z.response.shares, policy := z.response.policy :
        SResponse } :
    SFile }) fun z5 =>
      .ob (fmarkText.pre (IntKind.i64.wrap (IntKind.i64.wrap (IntKind.i64.wrap (y1.fst + (1 : Int)) + (1 : Int)) + (1 : Int)), ())) <|
       .lt (ByteArray × PUnit) (fmarkText.fn (IntKind.i64.wrap (IntKind.i64.wrap (IntKind.i64.wrap (y1.fst + (1 : Int)) + (1 : Int)) + (1 : Int)), ())) fun z6 =>
       .ob ((0 : Int) ≤ y1.snd.fst ∧ y1.snd.fst < (↑z5.length : Int)) <|
        .ob (y1.snd.fst.toNat < z5.length) <|
        .lt (List SFile) (z5.modify y1.snd.fst.toNat fun z =>
  { path := z.path,
    response :=
      { status := z.response.status, kind := z.response.kind, body := z6.fst, age := z.response.age,
        shares := z.response.shares, policy := z.response.policy : SResponse } :
    SFile }) fun z7 =>
        .ob ((0 : Int) ≤ y1.snd.fst ∧ y1.snd.fst < (↑z7.length : Int)) <|
         .ob (y1.snd.fst.toNat < z7.length) <|
         .lt (List SFile) (z7.modify y1.snd.fst.toNat fun z =>
  { path := z.path,
    response :=
      { status := z.response.status, kind := z.response.kind, body := z.response.body,
        age :=
          IntKind.i64.wrap
            (IntKind.i64.wrap (IntKind.i64.wrap (IntKind.i64.wrap (y1.fst + (1 : Int)) + (1 : Int)) + (1 : Int)) +
              (1 : Int)),
        shares := z.response.shares, policy := z.response.policy : SResponse } :
    SFile }) fun z8 =>
         .ob ((3 : Int) ≠ (0 : Int)) <|
          .ob ((0 : Int) ≤ y1.snd.fst ∧ y1.snd.fst < (↑z8.length : Int)) <|
          .ob (y1.snd.fst.toNat < z8.length) <|
          .lt (List SFile) (z8.modify y1.snd.fst.toNat fun z =>
  { path := z.path,
    response :=
      { status := z.response.status, kind := z.response.kind, body := z.response.body, age := z.response.age,
        shares :=
          (IntKind.i64.wrap
                  (IntKind.i64.wrap
                      (IntKind.i64.wrap
                          (IntKind.i64.wrap (IntKind.i64.wrap (y1.fst + (1 : Int)) + (1 : Int)) + (1 : Int)) +
                        (1 : Int)) +
                    (1 : Int))).tmod
              (3 : Int) ==
            (0 : Int),
        policy := z.response.policy : SResponse } :
    SFile }) fun z9 =>
          .ob (fmarkText.pre
  (IntKind.i64.wrap
      (IntKind.i64.wrap
          (IntKind.i64.wrap
              (IntKind.i64.wrap (IntKind.i64.wrap (IntKind.i64.wrap (y1.fst + (1 : Int)) + (1 : Int)) + (1 : Int)) +
                (1 : Int)) +
            (1 : Int)) +
        (1 : Int)),
    ())) <|
           .lt (ByteArray × PUnit) (fmarkText.fn
  (IntKind.i64.wrap
      (IntKind.i64.wrap
          (IntKind.i64.wrap
              (IntKind.i64.wrap (IntKind.i64.wrap (IntKind.i64.wrap (y1.fst + (1 : Int)) + (1 : Int)) + (1 : Int)) +
                (1 : Int)) +
            (1 : Int)) +
        (1 : Int)),
    ())) fun z10 =>
           .ob ((0 : Int) ≤ y1.snd.fst ∧ y1.snd.fst < (↑z9.length : Int)) <|
            .ob (y1.snd.fst.toNat < z9.length) <|
            .lt (List SFile) (z9.modify y1.snd.fst.toNat fun z =>
  { path := z.path,
    response :=
      { status := z.response.status, kind := z.response.kind, body := z.response.body, age := z.response.age,
        shares := z.response.shares, policy := z10.fst : SResponse } :
    SFile }) fun z11 =>
            .ob (Value.int IntKind.i64 (0 : Int) = Value.int IntKind.i64 (0 : Int)) <|
             .ob (bk1 (IntKind.i64.wrap
  (IntKind.i64.wrap
      (IntKind.i64.wrap
          (IntKind.i64.wrap
              (IntKind.i64.wrap (IntKind.i64.wrap (IntKind.i64.wrap (y1.fst + (1 : Int)) + (1 : Int)) + (1 : Int)) +
                (1 : Int)) +
            (1 : Int)) +
        (1 : Int)) +
    (1 : Int)), (IntKind.i64.wrap (y1.snd.fst + (1 : Int)), (z11, ())))) <|
             .ok)
  (.leaf (.one false [vi (y1.fst)]) [] [((0 : Nat), ⟨Ty.file, y1.snd.snd.fst⟩)])) (by kernel_rfl) ?_
  refine lpx_i ?_ fun (y1 : Int × Int × List SFile × PUnit) i1 => br_i (fun h2 => ob_i ?_ fun o3 => lt_i (ob_i ?_ fun o4 => ob_i ?_ fun o5 => lt_i (ob_i ?_ fun o6 => ob_i ?_ fun o7 => lt_i (ob_i ?_ fun o8 => ob_i ?_ fun o9 => lt_i (ob_i ?_ fun o10 => lt_i (ob_i ?_ fun o11 => ob_i ?_ fun o12 => lt_i (ob_i ?_ fun o13 => ob_i ?_ fun o14 => lt_i (ob_i ?_ fun o15 => ob_i ?_ fun o16 => ob_i ?_ fun o17 => lt_i (ob_i ?_ fun o18 => lt_i (ob_i ?_ fun o19 => ob_i ?_ fun o20 => lt_i (ob_i rfl fun _ => ob_i ?_ fun o21 => trivial))))))))))) (fun h2 => MS.leaf ?_)
  · exact ⟨by simp, by simp, by simp [markL], by simp [markL]⟩
  all_goals have hp1 : 0 ≤ k := hp.1
  all_goals have hp2 : (markL mkFile l k).2 ≤ 4000000000000000000 := hp.2
  all_goals have i3 : 0 ≤ y1.2.1 ∧ y1.2.1 ≤ l.length ∧ y1.1 = (markL mkFile (l.take y1.2.1.toNat) k).2 ∧ y1.2.2.1 = (markL mkFile (l.take y1.2.1.toNat) k).1 ++ l.drop y1.2.1.toNat := i1
  all_goals have hcnt := markL_cnt (f := mkFile) (fun x k => by simp only [mkFile]; omega) l k
  all_goals have hx : y1.2.2.1.length = l.length := by rw [i3.2.2.2, List.length_append, markL_len, List.length_take, List.length_drop]; omega
  all_goals simp only [decide_eq_true_eq, decide_eq_false_iff_not, hx] at h2
  all_goals clear i1
  all_goals try have hlt : y1.2.1.toNat < l.length := by omega
  all_goals try have ht := markL_take (f := mkFile) hlt k
  all_goals try have hle := (markL_take_le mkFile_mono l (y1.2.1.toNat + 1) k).2
  all_goals try have hl0 := (markL_take_le mkFile_mono l y1.2.1.toNat k).1
  all_goals try rw [ht] at hle
  all_goals try rw [← i3.2.2.1] at hle hl0 ht
  all_goals try simp only [mkFile] at hle
  all_goals first | decide | (simp only [List.length_modify, hx]; omega) | (refine ⟨?_, ?_⟩ <;> (try simp (discharger := omega) only [wrapId']) <;> omega) | skip
  · try clear o3 o4 o5
    simp (discharger := omega) only [wrapId', fmarkText]
    have hA : (markL mkFile (l.take y1.2.1.toNat) k).1.length = y1.2.1.toNat := by rw [markL_len, List.length_take]; omega
    refine ⟨⟨by omega, by omega, ?_, ?_⟩, ?_⟩
    · rw [toNat1 (by omega), ht]
      first | done | (simp only [mkFile]; done) | (simp only [mkFile]; omega)
    · rw [toNat1 (by omega), ht, i3.2.2.2, drop_cons hlt]
      simp only [mod_at hA, mkFile, Int.add_assoc, Int.reduceAdd, List.append_assoc, List.cons_append, List.nil_append]
    · omega
  · refine MS.leafL (t := .file) (fn := fun l k => markL mkFile l k) ?_
    have e1 : l.take y1.2.1.toNat = l := List.take_of_length_le (by omega)
    have e2 : l.drop y1.2.1.toNat = [] := List.drop_of_length_le (by omega)
    rw [i3.2.2.2, i3.2.2.1, e1, e2, List.append_nil])
def E17 : D.Env := E16.addM 141 fmarkFileS
theorem E17ok : EOk Try.prog E17 := E16ok.addM k141_16
-- laws.szServer
set_option maxHeartbeats 2000000 in
theorem k126_17 : fszServer.ok Try.prog 126 := Fct.of (S := fszServer) (L := fun _ _ => none) (kp := [1,2,4,11,17,1000011,1000017]) E17ok Try.func126 (by kernel_rfl) (by kernel_rfl) (by
  rintro ⟨(x : SServer), (n : Int), _⟩ hp
  refine holds_of (X := .br (decide (IntKind.i64.wrap (n - (↑x.host.size : Int)) < (0 : Int)))
 (.leaf (mkR fszServer.rs ((-1 : Int), ())) [] [])
 (.ob (fszFileS.pre (x.files, IntKind.i64.wrap (n - (↑x.host.size : Int)), ())) <|
  .lt (Int × PUnit) (fszFileS.fn (x.files, IntKind.i64.wrap (n - (↑x.host.size : Int)), ())) fun z2 =>
  .br (decide (z2.fst < (0 : Int)))
   (.leaf (mkR fszServer.rs ((-1 : Int), ())) [] [])
   (.leaf (mkR fszServer.rs (z2.fst, ())) [] []))) (by kernel_rfl) ?_
  refine br_i (fun h1 => Fct.leafY ?_) (fun h1 => ob_i ?_ fun o2 => lt_i (br_i (fun h3 => Fct.leafY ?_) (fun h3 => Fct.leafY ?_)))
  all_goals try simp only [decide_eq_true_eq, decide_eq_false_iff_not, Bool.not_eq_true', Bool.not_eq_false', bne_iff_ne, bne_eq_false_iff_eq, beq_iff_eq, beq_eq_false_iff_ne, baEq, Int.not_lt, Int.not_le, ne_eq, Decidable.not_not] at *
  all_goals try simp only [fszFileS, fszServer, etaToken, etaNode, etaBuilder, etaPolicy, etaPage, etaVisit, etaTab, etaServer, etaCache, etaNet, etaLoader, etaSheet, etaResult, etaSlot, etaModule, etaAddr, etaRequest, etaResponse, etaConn, etaGuess, etaEntry, etaSent, etaFile, baSz, List.size_toArray, List.length_cons, List.length_nil, Nat.reduceAdd, Int.toNat_zero, List.drop_zero, decide_eq_true_eq, decide_eq_false_iff_not, Bool.not_eq_true', Bool.not_eq_false', bne_iff_ne, bne_eq_false_iff_eq, beq_iff_eq, beq_eq_false_iff_ne, Bool.not_eq_true, Bool.not_eq_false, ne_eq, Decidable.not_not, baEq, decide_not, Prod.mk.injEq, and_true, true_and, Room, List.nil_append, Nat.zero_add, Int.not_lt, Int.not_le, Sh.good, Sh.fc, enc, List.forall_mem_cons, List.not_mem_nil, false_implies, implies_true, goodC, maxLen] at *
  all_goals grind [wrapId', lessen, szL, szServer])
def E18 : D.Env := E17.add 126 fszServer
theorem E18ok : EOk Try.prog E18 := E17ok.add k126_17
-- laws.toServer
theorem k130_18 : ftoServer.ok Try.prog 130 := Fct.of (S := ftoServer) (L := fun _ _ => none) (kp := [1,2,3]) E18ok Try.func130 (by kernel_rfl) (by kernel_rfl) (by
  rintro ⟨(x : SServer), _⟩ hp
  refine holds_of (X := .ob (ftoFileS.pre (x.files, ())) <|
 .lt (List SFile × PUnit) (ftoFileS.fn (x.files, ())) fun z2 =>
 .leaf (mkR ftoServer.rs (⟨x.host, z2.fst⟩, ())) [] []) (by kernel_rfl) ?_
  refine ob_i ?_ fun o1 => lt_i (Fct.leafY ?_)
  all_goals try simp only [decide_eq_true_eq, decide_eq_false_iff_not, Bool.not_eq_true', Bool.not_eq_false', bne_iff_ne, bne_eq_false_iff_eq, beq_iff_eq, beq_eq_false_iff_ne, baEq, Int.not_lt, Int.not_le, ne_eq, Decidable.not_not] at *
  all_goals try simp only [ftoFileS, ftoServer, etaToken, etaNode, etaBuilder, etaPolicy, etaPage, etaVisit, etaTab, etaServer, etaCache, etaNet, etaLoader, etaSheet, etaResult, etaSlot, etaModule, etaAddr, etaRequest, etaResponse, etaConn, etaGuess, etaEntry, etaSent, etaFile, baSz, List.size_toArray, List.length_cons, List.length_nil, Nat.reduceAdd, Int.toNat_zero, List.drop_zero, decide_eq_true_eq, decide_eq_false_iff_not, Bool.not_eq_true', Bool.not_eq_false', bne_iff_ne, bne_eq_false_iff_eq, beq_iff_eq, beq_eq_false_iff_ne, Bool.not_eq_true, Bool.not_eq_false, ne_eq, Decidable.not_not, baEq, decide_not, Prod.mk.injEq, and_true, true_and, Room, List.nil_append, Nat.zero_add, Int.not_lt, Int.not_le] at *
  all_goals first | trivial | rfl | grind [szL, szServer])
def E19 : D.Env := E18.add 130 ftoServer
theorem E19ok : EOk Try.prog E19 := E18ok.add k130_18
-- laws.eqServer
set_option maxHeartbeats 2000000 in
theorem k134_19 : feqServer.ok Try.prog 134 := Fct.of (S := feqServer) (L := fun _ _ => none) (kp := [2,3,4,9,15,1000009,1000015]) E19ok Try.func134 (by kernel_rfl) (by kernel_rfl) (by
  rintro ⟨(x : SServer), (y : SServer), _⟩ hp
  refine holds_of (X := .br (!x.host.toList == y.host.toList)
 (.leaf (mkR feqServer.rs (false, ())) [] [])
 (.ob (feqFileS.pre (x.files, y.files, ())) <|
  .lt (Bool × PUnit) (feqFileS.fn (x.files, y.files, ())) fun z2 =>
  .br (!z2.fst)
   (.leaf (mkR feqServer.rs (false, ())) [] [])
   (.leaf (mkR feqServer.rs (true, ())) [] []))) (by kernel_rfl) ?_
  refine br_i (fun h1 => Fct.leafY ?_) (fun h1 => ob_i ?_ fun o2 => lt_i (br_i (fun h3 => Fct.leafY ?_) (fun h3 => Fct.leafY ?_)))
  all_goals try simp only [decide_eq_true_eq, decide_eq_false_iff_not, Bool.not_eq_true', Bool.not_eq_false', bne_iff_ne, bne_eq_false_iff_eq, beq_iff_eq, beq_eq_false_iff_ne, baEq, Int.not_lt, Int.not_le, ne_eq, Decidable.not_not] at *
  all_goals try simp only [feqFileS, feqServer, etaToken, etaNode, etaBuilder, etaPolicy, etaPage, etaVisit, etaTab, etaServer, etaCache, etaNet, etaLoader, etaSheet, etaResult, etaSlot, etaModule, etaAddr, etaRequest, etaResponse, etaConn, etaGuess, etaEntry, etaSent, etaFile, baSz, List.size_toArray, List.length_cons, List.length_nil, Nat.reduceAdd, Int.toNat_zero, List.drop_zero, decide_eq_true_eq, decide_eq_false_iff_not, Bool.not_eq_true', Bool.not_eq_false', bne_iff_ne, bne_eq_false_iff_eq, beq_iff_eq, beq_eq_false_iff_ne, Bool.not_eq_true, Bool.not_eq_false, ne_eq, Decidable.not_not, baEq, decide_not, Prod.mk.injEq, and_true, true_and, Room, List.nil_append, Nat.zero_add, Int.not_lt, Int.not_le] at *
  all_goals first | trivial | (cases x; cases y; simp_all; done) | (simp only [szL, szServer] at *; omega) | grind [szL, szServer])
def E20 : D.Env := E19.add 134 feqServer
theorem E20ok : EOk Try.prog E20 := E19ok.add k134_19
-- laws.szServerS
set_option maxHeartbeats 2000000 in
theorem k74_20 : fszServerS.ok Try.prog 74 := Fct.of (S := fszServerS) (L := fun ⟨l, n, _⟩ => fun | 5 => some (LszS .server szServer l n) | _ => none) (kp := [0,1,4,5,11,15,25,1000011,1000015,1000025]) E20ok Try.func74 (by kernel_rfl) (by kernel_rfl) (by
  rintro ⟨(l : List SServer), (n : Int), _⟩ hp
  refine holds_of (X := .br (decide (IntKind.i64.wrap (n - (↑l.length : Int)) < (0 : Int)))
 (.leaf (mkR fszServerS.rs ((-1 : Int), ())) [] [])
 (lpx (LszS .server szServer l n) (IntKind.i64.wrap (n - (↑l.length : Int)), ((0 : Int), ())) fun (y2 : Int × Int × PUnit) bk2 =>
  .br (decide (y2.snd.fst < (↑l.length : Int)))
   (.ob ((0 : Int) ≤ y2.snd.fst ∧ y2.snd.fst < (↑l.length : Int)) <|
    .ob (fszServer.pre (l.getD y2.snd.fst.toNat default, y2.fst, ())) <|
    .lt (Int × PUnit) (fszServer.fn (l.getD y2.snd.fst.toNat default, y2.fst, ())) fun z2 =>
    .br (decide (z2.fst < (0 : Int)))
     (.leaf (mkR fszServerS.rs ((-1 : Int), ())) [] [])
     (.ob (l = l) <|
      .ob (bk2 (z2.fst, (IntKind.i64.wrap (y2.snd.fst + (1 : Int)), ()))) <|
      .ok))
   (.leaf (mkR fszServerS.rs (y2.fst, ())) [] []))) (by kernel_rfl) ?_
  refine br_i (fun h1 => Fct.leafY ?_) (fun h1 => lpx_i ?_ fun (y2 : Int × Int × PUnit) i2 => br_i (fun h3 => ob_i ?_ fun o4 => ob_i ?_ fun o5 => lt_i (br_i (fun h6 => Fct.leafY ?_) (fun h6 => ob_i rfl fun _ => ob_i ?_ fun o7 => trivial))) (fun h3 => Fct.leafY ?_))
  all_goals try simp only [decide_eq_true_eq, decide_eq_false_iff_not, Bool.not_eq_true', Bool.not_eq_false', bne_iff_ne, bne_eq_false_iff_eq, beq_iff_eq, beq_eq_false_iff_ne, baEq, Int.not_lt, Int.not_le, ne_eq, Decidable.not_not] at *
  all_goals try simp only [LszS, fszServer, fszServerS, etaToken, etaNode, etaBuilder, etaPolicy, etaPage, etaVisit, etaTab, etaServer, etaCache, etaNet, etaLoader, etaSheet, etaResult, etaSlot, etaModule, etaAddr, etaRequest, etaResponse, etaConn, etaGuess, etaEntry, etaSent, etaFile, baSz, List.size_toArray, List.length_cons, List.length_nil, Nat.reduceAdd, Int.toNat_zero, List.drop_zero, decide_eq_true_eq, decide_eq_false_iff_not, Bool.not_eq_true', Bool.not_eq_false', bne_iff_ne, bne_eq_false_iff_eq, beq_iff_eq, beq_eq_false_iff_ne, Bool.not_eq_true, Bool.not_eq_false, ne_eq, Decidable.not_not, baEq, decide_not, Prod.mk.injEq, and_true, true_and, Room, List.nil_append, Nat.zero_add, Int.not_lt, Int.not_le] at *
  · have := good_len hp.1; simp only [maxLen] at this; rw [wrapId (by omega)] at h1
    rw [lessenNeg (by simp only [szL]; omega)]
  · have := good_len hp.1; simp only [maxLen] at this
    rw [wrapId (by omega)] at h1 ⊢
    exact ⟨by omega, by omega, h1, by simp⟩
  · omega
  · exact ⟨good_getD hp.1 (by omega), by omega, by omega⟩
  · have hs := sum_take_le szServer l (y2.2.1.toNat + 1)
    rw [sum_take szServer (by omega)] at hs
    rw [lessen_lt (by omega)] at h6
    rw [lessenNeg (by simp only [szL]; omega)]
  · have hw : IntKind.i64.wrap (y2.2.1 + 1) = y2.2.1 + 1 := wrapId (by have := good_len hp.1; simp only [maxLen] at this; omega)
    have h7 : ¬ lessen y2.1 (szServer (l.getD y2.2.1.toNat default)) < 0 := by omega
    rw [lessen_lt (by omega)] at h7
    rw [hw, toNat1 (by omega), sum_take szServer (by omega), lessen_ge (by omega)]
    exact ⟨⟨by omega, by omega, by omega, by omega⟩, by omega⟩
  · have e : l.take y2.2.1.toNat = l := List.take_of_length_le (by omega)
    rw [e] at i2
    have hz : ((szL szServer l : Nat) : Int) = l.length + (l.map szServer).sum := by simp only [szL]; omega
    rw [lessen_ge (by omega)]
    show y2.1 = n - ((szL szServer l : Nat) : Int)
    omega)
def E21 : D.Env := E20.add 74 fszServerS
theorem E21ok : EOk Try.prog E21 := E20ok.add k74_20
-- laws.toServerS
theorem k79_21 : ftoServerS.ok Try.prog 79 := Fct.of (S := ftoServerS) (L := fun ⟨l, _⟩ => fun | 3 => some (LtoS .server l) | _ => none) (kp := [0,2,3,4,11,1000011]) E21ok Try.func79 (by kernel_rfl) (by kernel_rfl) (by
  rintro ⟨(l : List SServer), _⟩ hp
  refine holds_of (X := .ob ((↑l.length : Int) = (↑l.length : Int) ∧
  (0 : Int) ≤ (↑l.length : Int) ∧
    (40 : Int) * (↑l.length : Int) ≤ (140737488355328 : Int) ∧ (↑l.length : Int) ≤ (140737488355328 : Int)) <|
 lpx (LtoS .server l) ((0 : Int), (List.replicate (↑l.length : Int).toNat default, ())) fun (y2 : Int × List SServer × PUnit) bk2 =>
 .br (decide (y2.fst < (↑l.length : Int)))
  (.ob ((0 : Int) ≤ y2.fst ∧ y2.fst < (↑l.length : Int)) <|
   .ob (ftoServer.pre (l.getD y2.fst.toNat default, ())) <|
   .lt (SServer × PUnit) (ftoServer.fn (l.getD y2.fst.toNat default, ())) fun z2 =>
   .ob ((0 : Int) ≤ y2.fst ∧ y2.fst < (↑y2.snd.fst.length : Int)) <|
    .ob (y2.fst.toNat < y2.snd.fst.length) <|
    .lt (List SServer) (y2.snd.fst.modify y2.fst.toNat fun z => z2.fst) fun z3 =>
    .ob (l = l) <|
     .ob (bk2 (IntKind.i64.wrap (y2.fst + (1 : Int)), (z3, ()))) <|
     .ok)
  (.leaf (mkR ftoServerS.rs (y2.snd.fst, ())) [] [])) (by kernel_rfl) ?_
  refine ob_i ?_ fun o1 => lpx_i ?_ fun (y2 : Int × List SServer × PUnit) i2 => br_i (fun h3 => ob_i ?_ fun o4 => ob_i ?_ fun o5 => lt_i (ob_i ?_ fun o6 => ob_i ?_ fun o7 => lt_i (ob_i rfl fun _ => ob_i ?_ fun o8 => trivial))) (fun h3 => Fct.leafY ?_)
  all_goals try simp only [decide_eq_true_eq, decide_eq_false_iff_not, Bool.not_eq_true', Bool.not_eq_false', bne_iff_ne, bne_eq_false_iff_eq, beq_iff_eq, beq_eq_false_iff_ne, baEq, Int.not_lt, Int.not_le, ne_eq, Decidable.not_not] at *
  all_goals try simp only [LtoS, ftoServer, ftoServerS, etaToken, etaNode, etaBuilder, etaPolicy, etaPage, etaVisit, etaTab, etaServer, etaCache, etaNet, etaLoader, etaSheet, etaResult, etaSlot, etaModule, etaAddr, etaRequest, etaResponse, etaConn, etaGuess, etaEntry, etaSent, etaFile, baSz, List.size_toArray, List.length_cons, List.length_nil, Nat.reduceAdd, Int.toNat_zero, List.drop_zero, decide_eq_true_eq, decide_eq_false_iff_not, Bool.not_eq_true', Bool.not_eq_false', bne_iff_ne, bne_eq_false_iff_eq, beq_iff_eq, beq_eq_false_iff_ne, Bool.not_eq_true, Bool.not_eq_false, ne_eq, Decidable.not_not, baEq, decide_not, Prod.mk.injEq, and_true, true_and, Room, List.nil_append, Nat.zero_add, Int.not_lt, Int.not_le] at *
  · have := szL_len szServer l; omega
  · exact ⟨by omega, by omega, by simp⟩
  · omega
  · have hs := sum_take_le szServer l (y2.1.toNat + 1)
    rw [sum_take szServer (by omega)] at hs
    simp only [szL] at hp; omega
  · rw [i2.2.2]; simp; omega
  · rw [i2.2.2]; simp; omega
  · have hw : IntKind.i64.wrap (y2.1 + 1) = y2.1 + 1 := wrapId (by have := szL_len szServer l; omega)
    rw [hw, toNat1 (by omega), i2.2.2]
    refine ⟨⟨by omega, by omega, ?_⟩, by omega⟩
    rw [show l.length - y2.1.toNat = (l.length - (y2.1.toNat + 1)) + 1 from by omega, List.replicate_succ, mod_at (by simp; omega), take_succ (by omega)]
    simp
  · have e : l.take y2.1.toNat = l := List.take_of_length_le (by omega)
    rw [i2.2.2, e]; simp; omega)
def E22 : D.Env := E21.add 79 ftoServerS
theorem E22ok : EOk Try.prog E22 := E21ok.add k79_21
-- laws.eqServerS
set_option maxHeartbeats 2000000 in
theorem k84_22 : feqServerS.ok Try.prog 84 := Fct.of (S := feqServerS) (L := fun ⟨l, m, _⟩ => fun | 4 => some (LeqS .server l m) | _ => none) (kp := [0,1,4,5,10,14,26,1000010,1000014,1000026]) E22ok Try.func84 (by kernel_rfl) (by kernel_rfl) (by
  rintro ⟨(l : List SServer), (m : List SServer), _⟩ hp
  refine holds_of (X := .br ((↑l.length : Int) != (↑m.length : Int))
 (.leaf (mkR feqServerS.rs (false, ())) [] [])
 (lpx (LeqS .server l m) ((0 : Int), ()) fun (y2 : Int × PUnit) bk2 =>
  .br (decide (y2.fst < (↑l.length : Int)))
   (.ob ((0 : Int) ≤ y2.fst ∧ y2.fst < (↑l.length : Int)) <|
    .ob ((0 : Int) ≤ y2.fst ∧ y2.fst < (↑m.length : Int)) <|
    .ob (feqServer.pre (l.getD y2.fst.toNat default, m.getD y2.fst.toNat default, ())) <|
    .lt (Bool × PUnit) (feqServer.fn (l.getD y2.fst.toNat default, m.getD y2.fst.toNat default, ())) fun z2 =>
    .br (!z2.fst)
     (.leaf (mkR feqServerS.rs (false, ())) [] [])
     (.ob (l = l) <|
      .ob (m = m) <|
      .ob (bk2 (IntKind.i64.wrap (y2.fst + (1 : Int)), ())) <|
      .ok))
   (.leaf (mkR feqServerS.rs (true, ())) [] []))) (by kernel_rfl) ?_
  refine br_i (fun h1 => Fct.leafY ?_) (fun h1 => lpx_i ?_ fun (y2 : Int × PUnit) i2 => br_i (fun h3 => ob_i ?_ fun o4 => ob_i ?_ fun o5 => ob_i ?_ fun o6 => lt_i (br_i (fun h7 => Fct.leafY ?_) (fun h7 => ob_i rfl fun _ => ob_i rfl fun _ => ob_i ?_ fun o8 => trivial))) (fun h3 => Fct.leafY ?_))
  all_goals try simp only [decide_eq_true_eq, decide_eq_false_iff_not, Bool.not_eq_true', Bool.not_eq_false', bne_iff_ne, bne_eq_false_iff_eq, beq_iff_eq, beq_eq_false_iff_ne, baEq, Int.not_lt, Int.not_le, ne_eq, Decidable.not_not] at *
  all_goals try simp only [LeqS, feqServer, feqServerS, etaToken, etaNode, etaBuilder, etaPolicy, etaPage, etaVisit, etaTab, etaServer, etaCache, etaNet, etaLoader, etaSheet, etaResult, etaSlot, etaModule, etaAddr, etaRequest, etaResponse, etaConn, etaGuess, etaEntry, etaSent, etaFile, baSz, List.size_toArray, List.length_cons, List.length_nil, Nat.reduceAdd, Int.toNat_zero, List.drop_zero, decide_eq_true_eq, decide_eq_false_iff_not, Bool.not_eq_true', Bool.not_eq_false', bne_iff_ne, bne_eq_false_iff_eq, beq_iff_eq, beq_eq_false_iff_ne, Bool.not_eq_true, Bool.not_eq_false, ne_eq, Decidable.not_not, baEq, decide_not, Prod.mk.injEq, and_true, true_and, Room, List.nil_append, Nat.zero_add, Int.not_lt, Int.not_le] at *
  all_goals have hl := szL_len szServer l
  · rw [decide_eq_false]; rintro rfl; omega
  · exact ⟨by omega, by omega, by simp⟩
  · omega
  · omega
  · have hs := szL_get szServer (l := l) (i := y2.1.toNat) (by omega); omega
  · rw [decide_eq_false]; rintro rfl; first | exact absurd rfl h6 | exact absurd rfl h7
  · have hw : IntKind.i64.wrap (y2.1 + 1) = y2.1 + 1 := wrapId (by omega)
    rw [hw, toNat1 (by omega)]
    refine ⟨⟨by omega, by omega, ?_⟩, by omega⟩
    rw [take_succ (by omega), take_succ (by omega), i2.2.2]; first | rw [h6] | rw [h7]
  · have e : l.take y2.1.toNat = l := List.take_of_length_le (by omega)
    have e2 : m.take y2.1.toNat = m := List.take_of_length_le (by omega)
    rw [decide_eq_true]; rw [← e, ← e2, i2.2.2])
def E23 : D.Env := E22.add 84 feqServerS
theorem E23ok : EOk Try.prog E23 := E22ok.add k84_22
-- laws.markServerS
set_option maxHeartbeats 2000000 in
theorem k89_23 : fmarkServerS.ok Try.prog 89 := MS.of (S := fmarkServerS) (L := fun l k => fun | 2 => some (LmkS .server mkServer l k) | _ => none) (kp := [0,1,4,5,9,1000009]) (kl := [0]) E23ok Try.func89 (by kernel_rfl) (by kernel_rfl) (by
  rintro (l : List SServer) (k : Int) hp
  refine holds_of (X := lpx (LmkS .server mkServer l k) (k, ((0 : Int), (l, ()))) fun (y1 : Int × Int × List SServer × PUnit) bk1 =>
 .br (decide (y1.snd.fst < (↑y1.snd.snd.fst.length : Int)))
  (.ob (fmarkText.pre (y1.fst, ())) <|
   .lt (ByteArray × PUnit) (fmarkText.fn (y1.fst, ())) fun z2 =>
   .ob ((0 : Int) ≤ y1.snd.fst ∧ y1.snd.fst < (↑y1.snd.snd.fst.length : Int)) <|
    .ob (y1.snd.fst.toNat < y1.snd.snd.fst.length) <|
    .lt (List SServer) (y1.snd.snd.fst.modify y1.snd.fst.toNat fun z => { host := z2.fst, files := z.files : SServer }) fun z3 =>
    .ob ((0 : Int) ≤ y1.snd.fst ∧ y1.snd.fst < (↑z3.length : Int)) <|
     .ob (y1.snd.fst.toNat < z3.length) <|
     .ob (fmarkFileS.pre (z3.getD y1.snd.fst.toNat default).files (IntKind.i64.wrap (y1.fst + (1 : Int)))) <|
     .lt (List SFile × Int) (fmarkFileS.fn (z3.getD y1.snd.fst.toNat default).files (IntKind.i64.wrap (y1.fst + (1 : Int)))) fun z4 =>
     .lt (List SServer) (z3.modify y1.snd.fst.toNat fun z => { host := z.host, files := z4.fst : SServer }) fun z5 =>
      .ob (Value.int IntKind.i64 (0 : Int) = Value.int IntKind.i64 (0 : Int)) <|
       .ob (bk1 (z4.snd, (IntKind.i64.wrap (y1.snd.fst + (1 : Int)), (z5, ())))) <|
       .ok)
  (.leaf (.one false [vi (y1.fst)]) [] [((0 : Nat), ⟨Ty.server, y1.snd.snd.fst⟩)])) (by kernel_rfl) ?_
  refine lpx_i ?_ fun (y1 : Int × Int × List SServer × PUnit) i1 => br_i (fun h2 => ob_d ?_ <| lt_i (ob_d ?_ <| ob_d ?_ <| lt_i (ob_d ?_ <| ob_d ?_ <| ob_d ?_ <| lt_i (lt_i (ob_d rfl <| ob_d ?_ <| trivial))))) (fun h2 => MS.leaf ?_)
  · exact ⟨by simp, by simp, by simp [markL], by simp [markL]⟩
  all_goals have hp1 : 0 ≤ k := hp.1
  all_goals have hp2 : (markL mkServer l k).2 ≤ 4000000000000000000 := hp.2
  all_goals have i3 : 0 ≤ y1.2.1 ∧ y1.2.1 ≤ l.length ∧ y1.1 = (markL mkServer (l.take y1.2.1.toNat) k).2 ∧ y1.2.2.1 = (markL mkServer (l.take y1.2.1.toNat) k).1 ++ l.drop y1.2.1.toNat := i1
  all_goals have hcnt := markL_cnt (f := mkServer) mkServer_cnt l k
  all_goals have hx : y1.2.2.1.length = l.length := by rw [i3.2.2.2, List.length_append, markL_len, List.length_take, List.length_drop]; omega
  all_goals simp only [decide_eq_true_eq, decide_eq_false_iff_not, hx] at h2
  all_goals clear i1 hp
  all_goals try have hlt : y1.2.1.toNat < l.length := by omega
  all_goals try have ht := markL_take (f := mkServer) hlt k
  all_goals try have hle := (markL_take_le mkServer_mono l (y1.2.1.toNat + 1) k).2
  all_goals try have hl0 := (markL_take_le mkServer_mono l y1.2.1.toNat k).1
  all_goals try rw [ht] at hle
  all_goals try rw [← i3.2.2.1] at hle hl0 ht
  all_goals try have i4 : y1.2.2.1 = (markL mkServer (l.take y1.2.1.toNat) k).1 ++ l.getD y1.2.1.toNat default :: l.drop (y1.2.1.toNat + 1) := by rw [i3.2.2.2, drop_cons hlt]
  all_goals try have hA : (markL mkServer (l.take y1.2.1.toNat) k).1.length = y1.2.1.toNat := by rw [markL_len, List.length_take]; omega
  all_goals try simp only [mkServer] at hle
  all_goals try have m1 := mkFileS_mono (l.getD y1.2.1.toNat default).files (y1.1 + 1)
  all_goals try generalize hr1 : markL mkFile (l.getD y1.2.1.toNat default).files (y1.1 + 1) = r1 at *
  all_goals try simp (disch := omega) only [i4, mod_at hA, getD_at hA, fmarkText, fmarkFileS, wrapId', Int.add_assoc, Int.reduceAdd, hr1, List.length_append, List.length_cons, List.length_drop, hA]
  all_goals first | trivial | omega | (refine ⟨?_, ?_⟩ <;> omega) | skip
  · refine ⟨⟨by omega, by omega, ?_, ?_⟩, by omega⟩
    · rw [toNat1 (by omega), ht]
      simp only [mkServer, Int.add_assoc, Int.reduceAdd, hr1]
    · rw [toNat1 (by omega), ht]
      simp only [mkServer, Int.add_assoc, Int.reduceAdd, hr1, List.append_assoc, List.cons_append, List.nil_append]
  · refine MS.leafL (t := .server) (fn := fun l k => markL mkServer l k) ?_
    have e1 : l.take y1.2.1.toNat = l := List.take_of_length_le (by omega)
    have e2 : l.drop y1.2.1.toNat = [] := List.drop_of_length_le (by omega)
    rw [i3.2.2.2, i3.2.2.1, e1, e2, List.append_nil])
def E24 : D.Env := E23.addM 89 fmarkServerS
theorem E24ok : EOk Try.prog E24 := E23ok.addM k89_23
-- laws.szEntry
set_option maxHeartbeats 2000000 in
theorem k165_24 : fszEntry.ok Try.prog 165 := Fct.of (S := fszEntry) (L := fun _ _ => none) (kp := [1,2,4,11,17,23,1000011,1000017,1000023]) E24ok Try.func165 (by kernel_rfl) (by kernel_rfl) (by
  rintro ⟨(x : SEntry), (n : Int), _⟩ hp
  refine holds_of (X := .br (decide (IntKind.i64.wrap (n - (↑x.top.size : Int)) < (0 : Int)))
 (.leaf (mkR fszEntry.rs ((-1 : Int), ())) [] [])
 (.ob (fszAddr.pre (x.to, IntKind.i64.wrap (n - (↑x.top.size : Int)), ())) <|
  .lt (Int × PUnit) (fszAddr.fn (x.to, IntKind.i64.wrap (n - (↑x.top.size : Int)), ())) fun z2 =>
  .br (decide (z2.fst < (0 : Int)))
   (.leaf (mkR fszEntry.rs ((-1 : Int), ())) [] [])
   (.ob (fszResponse.pre (x.response, z2.fst, ())) <|
    .lt (Int × PUnit) (fszResponse.fn (x.response, z2.fst, ())) fun z3 =>
    .br (decide (z3.fst < (0 : Int)))
     (.leaf (mkR fszEntry.rs ((-1 : Int), ())) [] [])
     (.leaf (mkR fszEntry.rs (z3.fst, ())) [] [])))) (by kernel_rfl) ?_
  refine br_i (fun h1 => Fct.leafY ?_) (fun h1 => ob_i ?_ fun o2 => lt_i (br_i (fun h3 => Fct.leafY ?_) (fun h3 => ob_i ?_ fun o4 => lt_i (br_i (fun h5 => Fct.leafY ?_) (fun h5 => Fct.leafY ?_)))))
  all_goals try simp only [decide_eq_true_eq, decide_eq_false_iff_not, Bool.not_eq_true', Bool.not_eq_false', bne_iff_ne, bne_eq_false_iff_eq, beq_iff_eq, beq_eq_false_iff_ne, baEq, Int.not_lt, Int.not_le, ne_eq, Decidable.not_not] at *
  all_goals try simp only [fszAddr, fszEntry, fszResponse, etaToken, etaNode, etaBuilder, etaPolicy, etaPage, etaVisit, etaTab, etaServer, etaCache, etaNet, etaLoader, etaSheet, etaResult, etaSlot, etaModule, etaAddr, etaRequest, etaResponse, etaConn, etaGuess, etaEntry, etaSent, etaFile, baSz, List.size_toArray, List.length_cons, List.length_nil, Nat.reduceAdd, Int.toNat_zero, List.drop_zero, decide_eq_true_eq, decide_eq_false_iff_not, Bool.not_eq_true', Bool.not_eq_false', bne_iff_ne, bne_eq_false_iff_eq, beq_iff_eq, beq_eq_false_iff_ne, Bool.not_eq_true, Bool.not_eq_false, ne_eq, Decidable.not_not, baEq, decide_not, Prod.mk.injEq, and_true, true_and, Room, List.nil_append, Nat.zero_add, Int.not_lt, Int.not_le, Sh.good, Sh.fc, enc, List.forall_mem_cons, List.not_mem_nil, false_implies, implies_true, goodC, maxLen] at *
  all_goals grind [wrapId', lessen, szAddr, szEntry, szResponse])
def E25 : D.Env := E24.add 165 fszEntry
theorem E25ok : EOk Try.prog E25 := E24ok.add k165_24
-- laws.toEntry
theorem k167_25 : ftoEntry.ok Try.prog 167 := Fct.of (S := ftoEntry) (L := fun _ _ => none) (kp := [1,2,3]) E25ok Try.func167 (by kernel_rfl) (by kernel_rfl) (by
  rintro ⟨(x : SEntry), _⟩ hp
  refine holds_of (X := .ob (ftoAddr.pre (x.to, ())) <|
 .lt (SAddr × PUnit) (ftoAddr.fn (x.to, ())) fun z2 =>
 .ob (ftoResponse.pre (x.response, ())) <|
  .lt (SResponse × PUnit) (ftoResponse.fn (x.response, ())) fun z3 =>
  .leaf (mkR ftoEntry.rs (⟨x.top, z2.fst, z3.fst, x.until_⟩, ())) [] []) (by kernel_rfl) ?_
  refine ob_i ?_ fun o1 => lt_i (ob_i ?_ fun o2 => lt_i (Fct.leafY ?_))
  all_goals try simp only [decide_eq_true_eq, decide_eq_false_iff_not, Bool.not_eq_true', Bool.not_eq_false', bne_iff_ne, bne_eq_false_iff_eq, beq_iff_eq, beq_eq_false_iff_ne, baEq, Int.not_lt, Int.not_le, ne_eq, Decidable.not_not] at *
  all_goals try simp only [ftoAddr, ftoEntry, ftoResponse, etaToken, etaNode, etaBuilder, etaPolicy, etaPage, etaVisit, etaTab, etaServer, etaCache, etaNet, etaLoader, etaSheet, etaResult, etaSlot, etaModule, etaAddr, etaRequest, etaResponse, etaConn, etaGuess, etaEntry, etaSent, etaFile, baSz, List.size_toArray, List.length_cons, List.length_nil, Nat.reduceAdd, Int.toNat_zero, List.drop_zero, decide_eq_true_eq, decide_eq_false_iff_not, Bool.not_eq_true', Bool.not_eq_false', bne_iff_ne, bne_eq_false_iff_eq, beq_iff_eq, beq_eq_false_iff_ne, Bool.not_eq_true, Bool.not_eq_false, ne_eq, Decidable.not_not, baEq, decide_not, Prod.mk.injEq, and_true, true_and, Room, List.nil_append, Nat.zero_add, Int.not_lt, Int.not_le] at *
  all_goals first | trivial | rfl | grind [szAddr, szEntry, szResponse])
def E26 : D.Env := E25.add 167 ftoEntry
theorem E26ok : EOk Try.prog E26 := E25ok.add k167_25
-- laws.eqEntry
set_option maxHeartbeats 2000000 in
theorem k170_26 : feqEntry.ok Try.prog 170 := Fct.of (S := feqEntry) (L := fun _ _ => none) (kp := [2,3,4,9,15,21,26,1000009,1000015,1000021,1000026]) E26ok Try.func170 (by kernel_rfl) (by kernel_rfl) (by
  rintro ⟨(x : SEntry), (y : SEntry), _⟩ hp
  refine holds_of (X := .br (!x.top.toList == y.top.toList)
 (.leaf (mkR feqEntry.rs (false, ())) [] [])
 (.ob (feqAddr.pre (x.to, y.to, ())) <|
  .lt (Bool × PUnit) (feqAddr.fn (x.to, y.to, ())) fun z2 =>
  .br (!z2.fst)
   (.leaf (mkR feqEntry.rs (false, ())) [] [])
   (.ob (feqResponse.pre (x.response, y.response, ())) <|
    .lt (Bool × PUnit) (feqResponse.fn (x.response, y.response, ())) fun z3 =>
    .br (!z3.fst)
     (.leaf (mkR feqEntry.rs (false, ())) [] [])
     (.br (x.until_ != y.until_)
      (.leaf (mkR feqEntry.rs (false, ())) [] [])
      (.leaf (mkR feqEntry.rs (true, ())) [] []))))) (by kernel_rfl) ?_
  refine br_i (fun h1 => Fct.leafY ?_) (fun h1 => ob_i trivial fun _ => lt_i (br_i (fun h2 => Fct.leafY ?_) (fun h2 => ob_i trivial fun _ => lt_i (br_i (fun h3 => Fct.leafY ?_) (fun h3 => br_i (fun h4 => Fct.leafY ?_) (fun h4 => Fct.leafY ?_))))))
  all_goals try simp only [decide_eq_true_eq, decide_eq_false_iff_not, Bool.not_eq_true', Bool.not_eq_false', bne_iff_ne, bne_eq_false_iff_eq, beq_iff_eq, beq_eq_false_iff_ne, baEq, Int.not_lt, Int.not_le, ne_eq, Decidable.not_not] at *
  all_goals try simp only [feqAddr, feqEntry, feqResponse, etaToken, etaNode, etaBuilder, etaPolicy, etaPage, etaVisit, etaTab, etaServer, etaCache, etaNet, etaLoader, etaSheet, etaResult, etaSlot, etaModule, etaAddr, etaRequest, etaResponse, etaConn, etaGuess, etaEntry, etaSent, etaFile, baSz, List.size_toArray, List.length_cons, List.length_nil, Nat.reduceAdd, Int.toNat_zero, List.drop_zero, decide_eq_true_eq, decide_eq_false_iff_not, Bool.not_eq_true', Bool.not_eq_false', bne_iff_ne, bne_eq_false_iff_eq, beq_iff_eq, beq_eq_false_iff_ne, Bool.not_eq_true, Bool.not_eq_false, ne_eq, Decidable.not_not, baEq, decide_not, Prod.mk.injEq, and_true, true_and, Room, List.nil_append, Nat.zero_add, Int.not_lt, Int.not_le] at *
  all_goals first | trivial | (cases x; cases y; simp_all; done) | (simp only [szAddr, szEntry, szResponse] at *; omega) | grind [szAddr, szEntry, szResponse])
def E27 : D.Env := E26.add 170 feqEntry
theorem E27ok : EOk Try.prog E27 := E26ok.add k170_26
-- laws.szEntryS
set_option maxHeartbeats 2000000 in
theorem k127_27 : fszEntryS.ok Try.prog 127 := Fct.of (S := fszEntryS) (L := fun ⟨l, n, _⟩ => fun | 5 => some (LszS .entry szEntry l n) | _ => none) (kp := [0,1,4,5,11,15,25,1000011,1000015,1000025]) E27ok Try.func127 (by kernel_rfl) (by kernel_rfl) (by
  rintro ⟨(l : List SEntry), (n : Int), _⟩ hp
  refine holds_of (X := .br (decide (IntKind.i64.wrap (n - (↑l.length : Int)) < (0 : Int)))
 (.leaf (mkR fszEntryS.rs ((-1 : Int), ())) [] [])
 (lpx (LszS .entry szEntry l n) (IntKind.i64.wrap (n - (↑l.length : Int)), ((0 : Int), ())) fun (y2 : Int × Int × PUnit) bk2 =>
  .br (decide (y2.snd.fst < (↑l.length : Int)))
   (.ob ((0 : Int) ≤ y2.snd.fst ∧ y2.snd.fst < (↑l.length : Int)) <|
    .ob (fszEntry.pre (l.getD y2.snd.fst.toNat default, y2.fst, ())) <|
    .lt (Int × PUnit) (fszEntry.fn (l.getD y2.snd.fst.toNat default, y2.fst, ())) fun z2 =>
    .br (decide (z2.fst < (0 : Int)))
     (.leaf (mkR fszEntryS.rs ((-1 : Int), ())) [] [])
     (.ob (l = l) <|
      .ob (bk2 (z2.fst, (IntKind.i64.wrap (y2.snd.fst + (1 : Int)), ()))) <|
      .ok))
   (.leaf (mkR fszEntryS.rs (y2.fst, ())) [] []))) (by kernel_rfl) ?_
  refine br_i (fun h1 => Fct.leafY ?_) (fun h1 => lpx_i ?_ fun (y2 : Int × Int × PUnit) i2 => br_i (fun h3 => ob_i ?_ fun o4 => ob_i ?_ fun o5 => lt_i (br_i (fun h6 => Fct.leafY ?_) (fun h6 => ob_i rfl fun _ => ob_i ?_ fun o7 => trivial))) (fun h3 => Fct.leafY ?_))
  all_goals try simp only [decide_eq_true_eq, decide_eq_false_iff_not, Bool.not_eq_true', Bool.not_eq_false', bne_iff_ne, bne_eq_false_iff_eq, beq_iff_eq, beq_eq_false_iff_ne, baEq, Int.not_lt, Int.not_le, ne_eq, Decidable.not_not] at *
  all_goals try simp only [LszS, fszEntry, fszEntryS, etaToken, etaNode, etaBuilder, etaPolicy, etaPage, etaVisit, etaTab, etaServer, etaCache, etaNet, etaLoader, etaSheet, etaResult, etaSlot, etaModule, etaAddr, etaRequest, etaResponse, etaConn, etaGuess, etaEntry, etaSent, etaFile, baSz, List.size_toArray, List.length_cons, List.length_nil, Nat.reduceAdd, Int.toNat_zero, List.drop_zero, decide_eq_true_eq, decide_eq_false_iff_not, Bool.not_eq_true', Bool.not_eq_false', bne_iff_ne, bne_eq_false_iff_eq, beq_iff_eq, beq_eq_false_iff_ne, Bool.not_eq_true, Bool.not_eq_false, ne_eq, Decidable.not_not, baEq, decide_not, Prod.mk.injEq, and_true, true_and, Room, List.nil_append, Nat.zero_add, Int.not_lt, Int.not_le] at *
  · have := good_len hp.1; simp only [maxLen] at this; rw [wrapId (by omega)] at h1
    rw [lessenNeg (by simp only [szL]; omega)]
  · have := good_len hp.1; simp only [maxLen] at this
    rw [wrapId (by omega)] at h1 ⊢
    exact ⟨by omega, by omega, h1, by simp⟩
  · omega
  · exact ⟨good_getD hp.1 (by omega), by omega, by omega⟩
  · have hs := sum_take_le szEntry l (y2.2.1.toNat + 1)
    rw [sum_take szEntry (by omega)] at hs
    rw [lessen_lt (by omega)] at h6
    rw [lessenNeg (by simp only [szL]; omega)]
  · have hw : IntKind.i64.wrap (y2.2.1 + 1) = y2.2.1 + 1 := wrapId (by have := good_len hp.1; simp only [maxLen] at this; omega)
    have h7 : ¬ lessen y2.1 (szEntry (l.getD y2.2.1.toNat default)) < 0 := by omega
    rw [lessen_lt (by omega)] at h7
    rw [hw, toNat1 (by omega), sum_take szEntry (by omega), lessen_ge (by omega)]
    exact ⟨⟨by omega, by omega, by omega, by omega⟩, by omega⟩
  · have e : l.take y2.2.1.toNat = l := List.take_of_length_le (by omega)
    rw [e] at i2
    have hz : ((szL szEntry l : Nat) : Int) = l.length + (l.map szEntry).sum := by simp only [szL]; omega
    rw [lessen_ge (by omega)]
    show y2.1 = n - ((szL szEntry l : Nat) : Int)
    omega)
def E28 : D.Env := E27.add 127 fszEntryS
theorem E28ok : EOk Try.prog E28 := E27ok.add k127_27
-- laws.toEntryS
theorem k131_28 : ftoEntryS.ok Try.prog 131 := Fct.of (S := ftoEntryS) (L := fun ⟨l, _⟩ => fun | 3 => some (LtoS .entry l) | _ => none) (kp := [0,2,3,4,11,1000011]) E28ok Try.func131 (by kernel_rfl) (by kernel_rfl) (by
  rintro ⟨(l : List SEntry), _⟩ hp
  refine holds_of (X := .ob ((↑l.length : Int) = (↑l.length : Int) ∧
  (0 : Int) ≤ (↑l.length : Int) ∧
    (120 : Int) * (↑l.length : Int) ≤ (140737488355328 : Int) ∧ (↑l.length : Int) ≤ (140737488355328 : Int)) <|
 lpx (LtoS .entry l) ((0 : Int), (List.replicate (↑l.length : Int).toNat default, ())) fun (y2 : Int × List SEntry × PUnit) bk2 =>
 .br (decide (y2.fst < (↑l.length : Int)))
  (.ob ((0 : Int) ≤ y2.fst ∧ y2.fst < (↑l.length : Int)) <|
   .ob (ftoEntry.pre (l.getD y2.fst.toNat default, ())) <|
   .lt (SEntry × PUnit) (ftoEntry.fn (l.getD y2.fst.toNat default, ())) fun z2 =>
   .ob ((0 : Int) ≤ y2.fst ∧ y2.fst < (↑y2.snd.fst.length : Int)) <|
    .ob (y2.fst.toNat < y2.snd.fst.length) <|
    .lt (List SEntry) (y2.snd.fst.modify y2.fst.toNat fun z => z2.fst) fun z3 =>
    .ob (l = l) <|
     .ob (bk2 (IntKind.i64.wrap (y2.fst + (1 : Int)), (z3, ()))) <|
     .ok)
  (.leaf (mkR ftoEntryS.rs (y2.snd.fst, ())) [] [])) (by kernel_rfl) ?_
  refine ob_i ?_ fun o1 => lpx_i ?_ fun (y2 : Int × List SEntry × PUnit) i2 => br_i (fun h3 => ob_i ?_ fun o4 => ob_i ?_ fun o5 => lt_i (ob_i ?_ fun o6 => ob_i ?_ fun o7 => lt_i (ob_i rfl fun _ => ob_i ?_ fun o8 => trivial))) (fun h3 => Fct.leafY ?_)
  all_goals try simp only [decide_eq_true_eq, decide_eq_false_iff_not, Bool.not_eq_true', Bool.not_eq_false', bne_iff_ne, bne_eq_false_iff_eq, beq_iff_eq, beq_eq_false_iff_ne, baEq, Int.not_lt, Int.not_le, ne_eq, Decidable.not_not] at *
  all_goals try simp only [LtoS, ftoEntry, ftoEntryS, etaToken, etaNode, etaBuilder, etaPolicy, etaPage, etaVisit, etaTab, etaServer, etaCache, etaNet, etaLoader, etaSheet, etaResult, etaSlot, etaModule, etaAddr, etaRequest, etaResponse, etaConn, etaGuess, etaEntry, etaSent, etaFile, baSz, List.size_toArray, List.length_cons, List.length_nil, Nat.reduceAdd, Int.toNat_zero, List.drop_zero, decide_eq_true_eq, decide_eq_false_iff_not, Bool.not_eq_true', Bool.not_eq_false', bne_iff_ne, bne_eq_false_iff_eq, beq_iff_eq, beq_eq_false_iff_ne, Bool.not_eq_true, Bool.not_eq_false, ne_eq, Decidable.not_not, baEq, decide_not, Prod.mk.injEq, and_true, true_and, Room, List.nil_append, Nat.zero_add, Int.not_lt, Int.not_le] at *
  · have := szL_len szEntry l; omega
  · exact ⟨by omega, by omega, by simp⟩
  · omega
  · have hs := sum_take_le szEntry l (y2.1.toNat + 1)
    rw [sum_take szEntry (by omega)] at hs
    simp only [szL] at hp; omega
  · rw [i2.2.2]; simp; omega
  · rw [i2.2.2]; simp; omega
  · have hw : IntKind.i64.wrap (y2.1 + 1) = y2.1 + 1 := wrapId (by have := szL_len szEntry l; omega)
    rw [hw, toNat1 (by omega), i2.2.2]
    refine ⟨⟨by omega, by omega, ?_⟩, by omega⟩
    rw [show l.length - y2.1.toNat = (l.length - (y2.1.toNat + 1)) + 1 from by omega, List.replicate_succ, mod_at (by simp; omega), take_succ (by omega)]
    simp
  · have e : l.take y2.1.toNat = l := List.take_of_length_le (by omega)
    rw [i2.2.2, e]; simp; omega)
def E29 : D.Env := E28.add 131 ftoEntryS
theorem E29ok : EOk Try.prog E29 := E28ok.add k131_28
-- laws.eqEntryS
set_option maxHeartbeats 2000000 in
theorem k135_29 : feqEntryS.ok Try.prog 135 := Fct.of (S := feqEntryS) (L := fun ⟨l, m, _⟩ => fun | 4 => some (LeqS .entry l m) | _ => none) (kp := [0,1,4,5,10,14,26,1000010,1000014,1000026]) E29ok Try.func135 (by kernel_rfl) (by kernel_rfl) (by
  rintro ⟨(l : List SEntry), (m : List SEntry), _⟩ hp
  refine holds_of (X := .br ((↑l.length : Int) != (↑m.length : Int))
 (.leaf (mkR feqEntryS.rs (false, ())) [] [])
 (lpx (LeqS .entry l m) ((0 : Int), ()) fun (y2 : Int × PUnit) bk2 =>
  .br (decide (y2.fst < (↑l.length : Int)))
   (.ob ((0 : Int) ≤ y2.fst ∧ y2.fst < (↑l.length : Int)) <|
    .ob ((0 : Int) ≤ y2.fst ∧ y2.fst < (↑m.length : Int)) <|
    .ob (feqEntry.pre (l.getD y2.fst.toNat default, m.getD y2.fst.toNat default, ())) <|
    .lt (Bool × PUnit) (feqEntry.fn (l.getD y2.fst.toNat default, m.getD y2.fst.toNat default, ())) fun z2 =>
    .br (!z2.fst)
     (.leaf (mkR feqEntryS.rs (false, ())) [] [])
     (.ob (l = l) <|
      .ob (m = m) <|
      .ob (bk2 (IntKind.i64.wrap (y2.fst + (1 : Int)), ())) <|
      .ok))
   (.leaf (mkR feqEntryS.rs (true, ())) [] []))) (by kernel_rfl) ?_
  refine br_i (fun h1 => Fct.leafY ?_) (fun h1 => lpx_i ?_ fun (y2 : Int × PUnit) i2 => br_i (fun h3 => ob_i ?_ fun o4 => ob_i ?_ fun o5 => ob_i trivial fun _ => lt_i (br_i (fun h6 => Fct.leafY ?_) (fun h6 => ob_i rfl fun _ => ob_i rfl fun _ => ob_i ?_ fun o7 => trivial))) (fun h3 => Fct.leafY ?_))
  all_goals try simp only [decide_eq_true_eq, decide_eq_false_iff_not, Bool.not_eq_true', Bool.not_eq_false', bne_iff_ne, bne_eq_false_iff_eq, beq_iff_eq, beq_eq_false_iff_ne, baEq, Int.not_lt, Int.not_le, ne_eq, Decidable.not_not] at *
  all_goals try simp only [LeqS, feqEntry, feqEntryS, etaToken, etaNode, etaBuilder, etaPolicy, etaPage, etaVisit, etaTab, etaServer, etaCache, etaNet, etaLoader, etaSheet, etaResult, etaSlot, etaModule, etaAddr, etaRequest, etaResponse, etaConn, etaGuess, etaEntry, etaSent, etaFile, baSz, List.size_toArray, List.length_cons, List.length_nil, Nat.reduceAdd, Int.toNat_zero, List.drop_zero, decide_eq_true_eq, decide_eq_false_iff_not, Bool.not_eq_true', Bool.not_eq_false', bne_iff_ne, bne_eq_false_iff_eq, beq_iff_eq, beq_eq_false_iff_ne, Bool.not_eq_true, Bool.not_eq_false, ne_eq, Decidable.not_not, baEq, decide_not, Prod.mk.injEq, and_true, true_and, Room, List.nil_append, Nat.zero_add, Int.not_lt, Int.not_le] at *
  · rw [decide_eq_false]; rintro rfl; omega
  · exact ⟨by omega, by omega, by simp⟩
  · omega
  · omega
  · rw [decide_eq_false]; rintro rfl; exact absurd rfl h6
  · have hw : IntKind.i64.wrap (y2.1 + 1) = y2.1 + 1 := wrapId (by omega)
    rw [hw, toNat1 (by omega)]
    refine ⟨⟨by omega, by omega, ?_⟩, by omega⟩
    rw [take_succ (by omega), take_succ (by omega), i2.2.2, h6]
  · have e : l.take y2.1.toNat = l := List.take_of_length_le (by omega)
    have e2 : m.take y2.1.toNat = m := List.take_of_length_le (by omega)
    rw [decide_eq_true]; rw [← e, ← e2, i2.2.2])
def E30 : D.Env := E29.add 135 feqEntryS
theorem E30ok : EOk Try.prog E30 := E29ok.add k135_29
-- laws.markEntryS
set_option maxHeartbeats 2000000 in
theorem k142_30 : fmarkEntryS.ok Try.prog 142 := MS.of (S := fmarkEntryS) (L := fun l k => fun | 2 => some (LmkS .entry mkEntry l k) | _ => none) (kp := [0,1,4,5,9,1000009]) (kl := [0]) E30ok Try.func142 (by kernel_rfl) (by kernel_rfl) (by
  rintro (l : List SEntry) (k : Int) hp
  refine holds_of (X := lpx (LmkS .entry mkEntry l k) (k, ((0 : Int), (l, ()))) fun (y1 : Int × Int × List SEntry × PUnit) bk1 =>
 .br (decide (y1.snd.fst < (↑y1.snd.snd.fst.length : Int)))
  (.ob (fmarkText.pre (y1.fst, ())) <|
   .lt (ByteArray × PUnit) (fmarkText.fn (y1.fst, ())) fun z2 =>
   .ob ((0 : Int) ≤ y1.snd.fst ∧ y1.snd.fst < (↑y1.snd.snd.fst.length : Int)) <|
    .ob (y1.snd.fst.toNat < y1.snd.snd.fst.length) <|
    .lt (List SEntry) (y1.snd.snd.fst.modify y1.snd.fst.toNat fun z =>
  { top := z2.fst, to := z.to, response := z.response, until_ := z.until_ : SEntry }) fun z3 =>
    .ob (fmarkText.pre (IntKind.i64.wrap (y1.fst + (1 : Int)), ())) <|
     .lt (ByteArray × PUnit) (fmarkText.fn (IntKind.i64.wrap (y1.fst + (1 : Int)), ())) fun z4 =>
     .ob ((0 : Int) ≤ y1.snd.fst ∧ y1.snd.fst < (↑z3.length : Int)) <|
      .ob (y1.snd.fst.toNat < z3.length) <|
      .lt (List SEntry) (z3.modify y1.snd.fst.toNat fun z =>
  { top := z.top, to := { host := z4.fst, path := z.to.path : SAddr }, response := z.response, until_ := z.until_ :
    SEntry }) fun z5 =>
      .ob (fmarkText.pre (IntKind.i64.wrap (IntKind.i64.wrap (y1.fst + (1 : Int)) + (1 : Int)), ())) <|
       .lt (ByteArray × PUnit) (fmarkText.fn (IntKind.i64.wrap (IntKind.i64.wrap (y1.fst + (1 : Int)) + (1 : Int)), ())) fun z6 =>
       .ob ((0 : Int) ≤ y1.snd.fst ∧ y1.snd.fst < (↑z5.length : Int)) <|
        .ob (y1.snd.fst.toNat < z5.length) <|
        .lt (List SEntry) (z5.modify y1.snd.fst.toNat fun z =>
  { top := z.top, to := { host := z.to.host, path := z6.fst : SAddr }, response := z.response, until_ := z.until_ :
    SEntry }) fun z7 =>
        .ob ((0 : Int) ≤ y1.snd.fst ∧ y1.snd.fst < (↑z7.length : Int)) <|
         .ob (y1.snd.fst.toNat < z7.length) <|
         .lt (List SEntry) (z7.modify y1.snd.fst.toNat fun z =>
  { top := z.top, to := z.to,
    response :=
      { status := IntKind.i64.wrap (IntKind.i64.wrap (IntKind.i64.wrap (y1.fst + (1 : Int)) + (1 : Int)) + (1 : Int)),
        kind := z.response.kind, body := z.response.body, age := z.response.age, shares := z.response.shares,
        policy := z.response.policy : SResponse },
    until_ := z.until_ : SEntry }) fun z8 =>
         .ob ((0 : Int) ≤ y1.snd.fst ∧ y1.snd.fst < (↑z8.length : Int)) <|
          .ob (y1.snd.fst.toNat < z8.length) <|
          .lt (List SEntry) (z8.modify y1.snd.fst.toNat fun z =>
  { top := z.top, to := z.to,
    response :=
      { status := z.response.status,
        kind :=
          IntKind.i64.wrap
            (IntKind.i64.wrap (IntKind.i64.wrap (IntKind.i64.wrap (y1.fst + (1 : Int)) + (1 : Int)) + (1 : Int)) +
              (1 : Int)),
        body := z.response.body, age := z.response.age, shares := z.response.shares, policy := z.response.policy :
        SResponse },
    until_ := z.until_ : SEntry }) fun z9 =>
          .ob (fmarkText.pre
  (IntKind.i64.wrap
      (IntKind.i64.wrap
          (IntKind.i64.wrap (IntKind.i64.wrap (IntKind.i64.wrap (y1.fst + (1 : Int)) + (1 : Int)) + (1 : Int)) +
            (1 : Int)) +
        (1 : Int)),
    ())) <|
           .lt (ByteArray × PUnit) (fmarkText.fn
  (IntKind.i64.wrap
      (IntKind.i64.wrap
          (IntKind.i64.wrap (IntKind.i64.wrap (IntKind.i64.wrap (y1.fst + (1 : Int)) + (1 : Int)) + (1 : Int)) +
            (1 : Int)) +
        (1 : Int)),
    ())) fun z10 =>
           .ob ((0 : Int) ≤ y1.snd.fst ∧ y1.snd.fst < (↑z9.length : Int)) <|
            .ob (y1.snd.fst.toNat < z9.length) <|
            .lt (List SEntry) (z9.modify y1.snd.fst.toNat fun z =>
  { top := z.top, to := z.to,
    response :=
      { status := z.response.status, kind := z.response.kind, body := z10.fst, age := z.response.age,
        shares := z.response.shares, policy := z.response.policy : SResponse },
    until_ := z.until_ : SEntry }) fun z11 =>
            .ob ((0 : Int) ≤ y1.snd.fst ∧ y1.snd.fst < (↑z11.length : Int)) <|
             .ob (y1.snd.fst.toNat < z11.length) <|
             .lt (List SEntry) (z11.modify y1.snd.fst.toNat fun z =>
  { top := z.top, to := z.to,
    response :=
      { status := z.response.status, kind := z.response.kind, body := z.response.body,
        age :=
          IntKind.i64.wrap
            (IntKind.i64.wrap
                (IntKind.i64.wrap
                    (IntKind.i64.wrap
                        (IntKind.i64.wrap (IntKind.i64.wrap (y1.fst + (1 : Int)) + (1 : Int)) + (1 : Int)) +
                      (1 : Int)) +
                  (1 : Int)) +
              (1 : Int)),
        shares := z.response.shares, policy := z.response.policy : SResponse },
    until_ := z.until_ : SEntry }) fun z12 =>
             .ob ((3 : Int) ≠ (0 : Int)) <|
              .ob ((0 : Int) ≤ y1.snd.fst ∧ y1.snd.fst < (↑z12.length : Int)) <|
              .ob (y1.snd.fst.toNat < z12.length) <|
              .lt (List SEntry) (z12.modify y1.snd.fst.toNat fun z =>
  { top := z.top, to := z.to,
    response :=
      { status := z.response.status, kind := z.response.kind, body := z.response.body, age := z.response.age,
        shares :=
          (IntKind.i64.wrap
                  (IntKind.i64.wrap
                      (IntKind.i64.wrap
                          (IntKind.i64.wrap
                              (IntKind.i64.wrap
                                  (IntKind.i64.wrap (IntKind.i64.wrap (y1.fst + (1 : Int)) + (1 : Int)) + (1 : Int)) +
                                (1 : Int)) +
                            (1 : Int)) +
                        (1 : Int)) +
                    (1 : Int))).tmod
              (3 : Int) ==
            (0 : Int),
        policy := z.response.policy : SResponse },
    until_ := z.until_ : SEntry }) fun z13 =>
              .ob (fmarkText.pre
  (IntKind.i64.wrap
      (IntKind.i64.wrap
          (IntKind.i64.wrap
              (IntKind.i64.wrap
                  (IntKind.i64.wrap
                      (IntKind.i64.wrap
                          (IntKind.i64.wrap (IntKind.i64.wrap (y1.fst + (1 : Int)) + (1 : Int)) + (1 : Int)) +
                        (1 : Int)) +
                    (1 : Int)) +
                (1 : Int)) +
            (1 : Int)) +
        (1 : Int)),
    ())) <|
               .lt (ByteArray × PUnit) (fmarkText.fn
  (IntKind.i64.wrap
      (IntKind.i64.wrap
          (IntKind.i64.wrap
              (IntKind.i64.wrap
                  (IntKind.i64.wrap
                      (IntKind.i64.wrap
                          (IntKind.i64.wrap (IntKind.i64.wrap (y1.fst + (1 : Int)) + (1 : Int)) + (1 : Int)) +
                        (1 : Int)) +
                    (1 : Int)) +
                (1 : Int)) +
            (1 : Int)) +
        (1 : Int)),
    ())) fun z14 =>
               .ob ((0 : Int) ≤ y1.snd.fst ∧ y1.snd.fst < (↑z13.length : Int)) <|
                .ob (y1.snd.fst.toNat < z13.length) <|
                .lt (List SEntry) (z13.modify y1.snd.fst.toNat fun z =>
  { top := z.top, to := z.to,
    response :=
      { status := z.response.status, kind := z.response.kind, body := z.response.body, age := z.response.age,
        shares := z.response.shares, policy := z14.fst : SResponse },
    until_ := z.until_ : SEntry }) fun z15 =>
                .ob ((0 : Int) ≤ y1.snd.fst ∧ y1.snd.fst < (↑z15.length : Int)) <|
                 .ob (y1.snd.fst.toNat < z15.length) <|
                 .lt (List SEntry) (z15.modify y1.snd.fst.toNat fun z =>
  { top := z.top, to := z.to, response := z.response,
    until_ :=
      IntKind.i64.wrap
        (IntKind.i64.wrap
            (IntKind.i64.wrap
                (IntKind.i64.wrap
                    (IntKind.i64.wrap
                        (IntKind.i64.wrap
                            (IntKind.i64.wrap
                                (IntKind.i64.wrap (IntKind.i64.wrap (y1.fst + (1 : Int)) + (1 : Int)) + (1 : Int)) +
                              (1 : Int)) +
                          (1 : Int)) +
                      (1 : Int)) +
                  (1 : Int)) +
              (1 : Int)) +
          (1 : Int)) :
    SEntry }) fun z16 =>
                 .ob (Value.int IntKind.i64 (0 : Int) = Value.int IntKind.i64 (0 : Int)) <|
                  .ob (bk1 (IntKind.i64.wrap
  (IntKind.i64.wrap
      (IntKind.i64.wrap
          (IntKind.i64.wrap
              (IntKind.i64.wrap
                  (IntKind.i64.wrap
                      (IntKind.i64.wrap
                          (IntKind.i64.wrap
                              (IntKind.i64.wrap (IntKind.i64.wrap (y1.fst + (1 : Int)) + (1 : Int)) + (1 : Int)) +
                            (1 : Int)) +
                        (1 : Int)) +
                    (1 : Int)) +
                (1 : Int)) +
            (1 : Int)) +
        (1 : Int)) +
    (1 : Int)), (IntKind.i64.wrap (y1.snd.fst + (1 : Int)), (z16, ())))) <|
                  .ok)
  (.leaf (.one false [vi (y1.fst)]) [] [((0 : Nat), ⟨Ty.entry, y1.snd.snd.fst⟩)])) (by kernel_rfl) ?_
  refine lpx_i ?_ fun (y1 : Int × Int × List SEntry × PUnit) i1 => br_i (fun h2 => ob_i ?_ fun o3 => lt_i (ob_i ?_ fun o4 => ob_i ?_ fun o5 => lt_i (ob_i ?_ fun o6 => lt_i (ob_i ?_ fun o7 => ob_i ?_ fun o8 => lt_i (ob_i ?_ fun o9 => lt_i (ob_i ?_ fun o10 => ob_i ?_ fun o11 => lt_i (ob_i ?_ fun o12 => ob_i ?_ fun o13 => lt_i (ob_i ?_ fun o14 => ob_i ?_ fun o15 => lt_i (ob_i ?_ fun o16 => lt_i (ob_i ?_ fun o17 => ob_i ?_ fun o18 => lt_i (ob_i ?_ fun o19 => ob_i ?_ fun o20 => lt_i (ob_i ?_ fun o21 => ob_i ?_ fun o22 => ob_i ?_ fun o23 => lt_i (ob_i ?_ fun o24 => lt_i (ob_i ?_ fun o25 => ob_i ?_ fun o26 => lt_i (ob_i ?_ fun o27 => ob_i ?_ fun o28 => lt_i (ob_i rfl fun _ => ob_i ?_ fun o29 => trivial)))))))))))))))) (fun h2 => MS.leaf ?_)
  · exact ⟨by simp, by simp, by simp [markL], by simp [markL]⟩
  all_goals have hp1 : 0 ≤ k := hp.1
  all_goals have hp2 : (markL mkEntry l k).2 ≤ 4000000000000000000 := hp.2
  all_goals have i3 : 0 ≤ y1.2.1 ∧ y1.2.1 ≤ l.length ∧ y1.1 = (markL mkEntry (l.take y1.2.1.toNat) k).2 ∧ y1.2.2.1 = (markL mkEntry (l.take y1.2.1.toNat) k).1 ++ l.drop y1.2.1.toNat := i1
  all_goals have hcnt := markL_cnt (f := mkEntry) (fun x k => by simp only [mkEntry]; omega) l k
  all_goals have hx : y1.2.2.1.length = l.length := by rw [i3.2.2.2, List.length_append, markL_len, List.length_take, List.length_drop]; omega
  all_goals simp only [decide_eq_true_eq, decide_eq_false_iff_not, hx] at h2
  all_goals clear i1
  all_goals try have hlt : y1.2.1.toNat < l.length := by omega
  all_goals try have ht := markL_take (f := mkEntry) hlt k
  all_goals try have hle := (markL_take_le mkEntry_mono l (y1.2.1.toNat + 1) k).2
  all_goals try have hl0 := (markL_take_le mkEntry_mono l y1.2.1.toNat k).1
  all_goals try rw [ht] at hle
  all_goals try rw [← i3.2.2.1] at hle hl0 ht
  all_goals try simp only [mkEntry] at hle
  all_goals first | decide | (simp only [List.length_modify, hx]; omega) | (refine ⟨?_, ?_⟩ <;> (try simp (discharger := omega) only [wrapId']) <;> omega) | skip
  · try clear o3 o4 o5
    simp (discharger := omega) only [wrapId', fmarkText]
    have hA : (markL mkEntry (l.take y1.2.1.toNat) k).1.length = y1.2.1.toNat := by rw [markL_len, List.length_take]; omega
    refine ⟨⟨by omega, by omega, ?_, ?_⟩, ?_⟩
    · rw [toNat1 (by omega), ht]
      first | done | (simp only [mkEntry]; done) | (simp only [mkEntry]; omega)
    · rw [toNat1 (by omega), ht, i3.2.2.2, drop_cons hlt]
      simp only [mod_at hA, mkEntry, Int.add_assoc, Int.reduceAdd, List.append_assoc, List.cons_append, List.nil_append]
    · omega
  · refine MS.leafL (t := .entry) (fn := fun l k => markL mkEntry l k) ?_
    have e1 : l.take y1.2.1.toNat = l := List.take_of_length_le (by omega)
    have e2 : l.drop y1.2.1.toNat = [] := List.drop_of_length_le (by omega)
    rw [i3.2.2.2, i3.2.2.1, e1, e2, List.append_nil])
def E31 : D.Env := E30.addM 142 fmarkEntryS
theorem E31ok : EOk Try.prog E31 := E30ok.addM k142_30
-- laws.szCache
set_option maxHeartbeats 2000000 in
theorem k75_31 : fszCache.ok Try.prog 75 := Fct.of (S := fszCache) (L := fun _ _ => none) (kp := [1,2,4,10,1000010]) E31ok Try.func75 (by kernel_rfl) (by kernel_rfl) (by
  rintro ⟨(x : SCache), (n : Int), _⟩ hp
  refine holds_of (X := .ob (fszEntryS.pre (x.entries, n, ())) <|
 .lt (Int × PUnit) (fszEntryS.fn (x.entries, n, ())) fun z2 =>
 .br (decide (z2.fst < (0 : Int)))
  (.leaf (mkR fszCache.rs ((-1 : Int), ())) [] [])
  (.leaf (mkR fszCache.rs (z2.fst, ())) [] [])) (by kernel_rfl) ?_
  refine ob_i ?_ fun o1 => lt_i (br_i (fun h2 => Fct.leafY ?_) (fun h2 => Fct.leafY ?_))
  all_goals try simp only [decide_eq_true_eq, decide_eq_false_iff_not, Bool.not_eq_true', Bool.not_eq_false', bne_iff_ne, bne_eq_false_iff_eq, beq_iff_eq, beq_eq_false_iff_ne, baEq, Int.not_lt, Int.not_le, ne_eq, Decidable.not_not] at *
  all_goals try simp only [fszCache, fszEntryS, etaToken, etaNode, etaBuilder, etaPolicy, etaPage, etaVisit, etaTab, etaServer, etaCache, etaNet, etaLoader, etaSheet, etaResult, etaSlot, etaModule, etaAddr, etaRequest, etaResponse, etaConn, etaGuess, etaEntry, etaSent, etaFile, baSz, List.size_toArray, List.length_cons, List.length_nil, Nat.reduceAdd, Int.toNat_zero, List.drop_zero, decide_eq_true_eq, decide_eq_false_iff_not, Bool.not_eq_true', Bool.not_eq_false', bne_iff_ne, bne_eq_false_iff_eq, beq_iff_eq, beq_eq_false_iff_ne, Bool.not_eq_true, Bool.not_eq_false, ne_eq, Decidable.not_not, baEq, decide_not, Prod.mk.injEq, and_true, true_and, Room, List.nil_append, Nat.zero_add, Int.not_lt, Int.not_le, Sh.good, Sh.fc, enc, List.forall_mem_cons, List.not_mem_nil, false_implies, implies_true, goodC, maxLen] at *
  all_goals grind [wrapId', lessen, szCache, szL])
def E32 : D.Env := E31.add 75 fszCache
theorem E32ok : EOk Try.prog E32 := E31ok.add k75_31
-- laws.toCache
theorem k80_32 : ftoCache.ok Try.prog 80 := Fct.of (S := ftoCache) (L := fun _ _ => none) (kp := [1,2,3]) E32ok Try.func80 (by kernel_rfl) (by kernel_rfl) (by
  rintro ⟨(x : SCache), _⟩ hp
  refine holds_of (X := .ob (ftoEntryS.pre (x.entries, ())) <|
 .lt (List SEntry × PUnit) (ftoEntryS.fn (x.entries, ())) fun z2 =>
 .leaf (mkR ftoCache.rs (⟨z2.fst⟩, ())) [] []) (by kernel_rfl) ?_
  refine ob_i ?_ fun o1 => lt_i (Fct.leafY ?_)
  all_goals try simp only [decide_eq_true_eq, decide_eq_false_iff_not, Bool.not_eq_true', Bool.not_eq_false', bne_iff_ne, bne_eq_false_iff_eq, beq_iff_eq, beq_eq_false_iff_ne, baEq, Int.not_lt, Int.not_le, ne_eq, Decidable.not_not] at *
  all_goals try simp only [ftoCache, ftoEntryS, etaToken, etaNode, etaBuilder, etaPolicy, etaPage, etaVisit, etaTab, etaServer, etaCache, etaNet, etaLoader, etaSheet, etaResult, etaSlot, etaModule, etaAddr, etaRequest, etaResponse, etaConn, etaGuess, etaEntry, etaSent, etaFile, baSz, List.size_toArray, List.length_cons, List.length_nil, Nat.reduceAdd, Int.toNat_zero, List.drop_zero, decide_eq_true_eq, decide_eq_false_iff_not, Bool.not_eq_true', Bool.not_eq_false', bne_iff_ne, bne_eq_false_iff_eq, beq_iff_eq, beq_eq_false_iff_ne, Bool.not_eq_true, Bool.not_eq_false, ne_eq, Decidable.not_not, baEq, decide_not, Prod.mk.injEq, and_true, true_and, Room, List.nil_append, Nat.zero_add, Int.not_lt, Int.not_le] at *
  all_goals first | trivial | rfl | grind [szCache, szL])
def E33 : D.Env := E32.add 80 ftoCache
theorem E33ok : EOk Try.prog E33 := E32ok.add k80_32
-- laws.eqCache
set_option maxHeartbeats 2000000 in
theorem k85_33 : feqCache.ok Try.prog 85 := Fct.of (S := feqCache) (L := fun _ _ => none) (kp := [2,3,4,10,1000010]) E33ok Try.func85 (by kernel_rfl) (by kernel_rfl) (by
  rintro ⟨(x : SCache), (y : SCache), _⟩ hp
  refine holds_of (X := .ob (feqEntryS.pre (x.entries, y.entries, ())) <|
 .lt (Bool × PUnit) (feqEntryS.fn (x.entries, y.entries, ())) fun z2 =>
 .br (!z2.fst)
  (.leaf (mkR feqCache.rs (false, ())) [] [])
  (.leaf (mkR feqCache.rs (true, ())) [] [])) (by kernel_rfl) ?_
  refine ob_i ?_ fun o1 => lt_i (br_i (fun h2 => Fct.leafY ?_) (fun h2 => Fct.leafY ?_))
  all_goals try simp only [decide_eq_true_eq, decide_eq_false_iff_not, Bool.not_eq_true', Bool.not_eq_false', bne_iff_ne, bne_eq_false_iff_eq, beq_iff_eq, beq_eq_false_iff_ne, baEq, Int.not_lt, Int.not_le, ne_eq, Decidable.not_not] at *
  all_goals try simp only [feqCache, feqEntryS, etaToken, etaNode, etaBuilder, etaPolicy, etaPage, etaVisit, etaTab, etaServer, etaCache, etaNet, etaLoader, etaSheet, etaResult, etaSlot, etaModule, etaAddr, etaRequest, etaResponse, etaConn, etaGuess, etaEntry, etaSent, etaFile, baSz, List.size_toArray, List.length_cons, List.length_nil, Nat.reduceAdd, Int.toNat_zero, List.drop_zero, decide_eq_true_eq, decide_eq_false_iff_not, Bool.not_eq_true', Bool.not_eq_false', bne_iff_ne, bne_eq_false_iff_eq, beq_iff_eq, beq_eq_false_iff_ne, Bool.not_eq_true, Bool.not_eq_false, ne_eq, Decidable.not_not, baEq, decide_not, Prod.mk.injEq, and_true, true_and, Room, List.nil_append, Nat.zero_add, Int.not_lt, Int.not_le] at *
  all_goals first | trivial | (cases x; cases y; simp_all; done) | (simp only [szCache, szL] at *; omega) | grind [szCache, szL])
def E34 : D.Env := E33.add 85 feqCache
theorem E34ok : EOk Try.prog E34 := E33ok.add k85_33
-- laws.markCache
set_option maxHeartbeats 2000000 in
theorem k90_34 : fmarkCache.ok Try.prog 90 := MS.of (S := fmarkCache) (L := fun _ _ _ => none) (kp := [1,2,4]) (kl := [0]) E34ok Try.func90 (by kernel_rfl) (by kernel_rfl) (by
  rintro (x : SCache) (k : Int) hp
  refine holds_of (X := .ob (fmarkEntryS.pre x.entries k) <|
 .lt (List SEntry × Int) (fmarkEntryS.fn x.entries k) fun z2 =>
 .leaf (.one false [vi (z2.snd)]) [] [((0 : Nat), ⟨Ty.entry, z2.fst⟩)]) (by kernel_rfl) ?_
  refine ob_d ?_ <| lt_i (MS.leaf ?_)
  all_goals have hp1 : 0 ≤ k := hp.1
  all_goals have hp2 : (mvCache x k).2 ≤ 4000000000000000000 := hp.2
  all_goals clear hp
  all_goals simp only [mvCache] at hp2
  all_goals try have m1 := mkEntryS_mono x.entries (k)
  all_goals try generalize hr1 : markL mkEntry x.entries (k) = r1 at *
  all_goals simp (disch := omega) only [fmarkEntryS, fmarkText, hr1]
  all_goals first | trivial | omega | (refine ⟨?_, ?_⟩ <;> omega) | skip
  refine MS.leaf ?_
  simp only [fmarkCache, mvCache, hr1]
  exact ⟨⟨rfl, rfl, trivial⟩, trivial, rfl⟩)
def E35 : D.Env := E34.addM 90 fmarkCache
theorem E35ok : EOk Try.prog E35 := E34ok.addM k90_34
-- laws.szSent
set_option maxHeartbeats 2000000 in
theorem k128_35 : fszSent.ok Try.prog 128 := Fct.of (S := fszSent) (L := fun _ _ => none) (kp := [1,2,4,11,17,1000011,1000017]) E35ok Try.func128 (by kernel_rfl) (by kernel_rfl) (by
  rintro ⟨(x : SSent), (n : Int), _⟩ hp
  refine holds_of (X := .br (decide (IntKind.i64.wrap (n - (↑x.top.size : Int)) < (0 : Int)))
 (.leaf (mkR fszSent.rs ((-1 : Int), ())) [] [])
 (.ob (fszAddr.pre (x.to, IntKind.i64.wrap (n - (↑x.top.size : Int)), ())) <|
  .lt (Int × PUnit) (fszAddr.fn (x.to, IntKind.i64.wrap (n - (↑x.top.size : Int)), ())) fun z2 =>
  .br (decide (z2.fst < (0 : Int)))
   (.leaf (mkR fszSent.rs ((-1 : Int), ())) [] [])
   (.leaf (mkR fszSent.rs (z2.fst, ())) [] []))) (by kernel_rfl) ?_
  refine br_i (fun h1 => Fct.leafY ?_) (fun h1 => ob_i ?_ fun o2 => lt_i (br_i (fun h3 => Fct.leafY ?_) (fun h3 => Fct.leafY ?_)))
  all_goals try simp only [decide_eq_true_eq, decide_eq_false_iff_not, Bool.not_eq_true', Bool.not_eq_false', bne_iff_ne, bne_eq_false_iff_eq, beq_iff_eq, beq_eq_false_iff_ne, baEq, Int.not_lt, Int.not_le, ne_eq, Decidable.not_not] at *
  all_goals try simp only [fszAddr, fszSent, etaToken, etaNode, etaBuilder, etaPolicy, etaPage, etaVisit, etaTab, etaServer, etaCache, etaNet, etaLoader, etaSheet, etaResult, etaSlot, etaModule, etaAddr, etaRequest, etaResponse, etaConn, etaGuess, etaEntry, etaSent, etaFile, baSz, List.size_toArray, List.length_cons, List.length_nil, Nat.reduceAdd, Int.toNat_zero, List.drop_zero, decide_eq_true_eq, decide_eq_false_iff_not, Bool.not_eq_true', Bool.not_eq_false', bne_iff_ne, bne_eq_false_iff_eq, beq_iff_eq, beq_eq_false_iff_ne, Bool.not_eq_true, Bool.not_eq_false, ne_eq, Decidable.not_not, baEq, decide_not, Prod.mk.injEq, and_true, true_and, Room, List.nil_append, Nat.zero_add, Int.not_lt, Int.not_le, Sh.good, Sh.fc, enc, List.forall_mem_cons, List.not_mem_nil, false_implies, implies_true, goodC, maxLen] at *
  all_goals grind [wrapId', lessen, szAddr, szSent])
def E36 : D.Env := E35.add 128 fszSent
theorem E36ok : EOk Try.prog E36 := E35ok.add k128_35
-- laws.toSent
theorem k132_36 : ftoSent.ok Try.prog 132 := Fct.of (S := ftoSent) (L := fun _ _ => none) (kp := [1,2,3]) E36ok Try.func132 (by kernel_rfl) (by kernel_rfl) (by
  rintro ⟨(x : SSent), _⟩ hp
  refine holds_of (X := .ob (ftoAddr.pre (x.to, ())) <|
 .lt (SAddr × PUnit) (ftoAddr.fn (x.to, ())) fun z2 =>
 .leaf (mkR ftoSent.rs (⟨x.top, z2.fst, x.guess⟩, ())) [] []) (by kernel_rfl) ?_
  refine ob_i ?_ fun o1 => lt_i (Fct.leafY ?_)
  all_goals try simp only [decide_eq_true_eq, decide_eq_false_iff_not, Bool.not_eq_true', Bool.not_eq_false', bne_iff_ne, bne_eq_false_iff_eq, beq_iff_eq, beq_eq_false_iff_ne, baEq, Int.not_lt, Int.not_le, ne_eq, Decidable.not_not] at *
  all_goals try simp only [ftoAddr, ftoSent, etaToken, etaNode, etaBuilder, etaPolicy, etaPage, etaVisit, etaTab, etaServer, etaCache, etaNet, etaLoader, etaSheet, etaResult, etaSlot, etaModule, etaAddr, etaRequest, etaResponse, etaConn, etaGuess, etaEntry, etaSent, etaFile, baSz, List.size_toArray, List.length_cons, List.length_nil, Nat.reduceAdd, Int.toNat_zero, List.drop_zero, decide_eq_true_eq, decide_eq_false_iff_not, Bool.not_eq_true', Bool.not_eq_false', bne_iff_ne, bne_eq_false_iff_eq, beq_iff_eq, beq_eq_false_iff_ne, Bool.not_eq_true, Bool.not_eq_false, ne_eq, Decidable.not_not, baEq, decide_not, Prod.mk.injEq, and_true, true_and, Room, List.nil_append, Nat.zero_add, Int.not_lt, Int.not_le] at *
  all_goals first | trivial | rfl | grind [szAddr, szSent])
def E37 : D.Env := E36.add 132 ftoSent
theorem E37ok : EOk Try.prog E37 := E36ok.add k132_36
-- laws.eqSent
set_option maxHeartbeats 2000000 in
theorem k136_37 : feqSent.ok Try.prog 136 := Fct.of (S := feqSent) (L := fun _ _ => none) (kp := [2,3,4,9,15,20,1000009,1000015,1000020]) E37ok Try.func136 (by kernel_rfl) (by kernel_rfl) (by
  rintro ⟨(x : SSent), (y : SSent), _⟩ hp
  refine holds_of (X := .br (!x.top.toList == y.top.toList)
 (.leaf (mkR feqSent.rs (false, ())) [] [])
 (.ob (feqAddr.pre (x.to, y.to, ())) <|
  .lt (Bool × PUnit) (feqAddr.fn (x.to, y.to, ())) fun z2 =>
  .br (!z2.fst)
   (.leaf (mkR feqSent.rs (false, ())) [] [])
   (.br (!x.guess == y.guess)
    (.leaf (mkR feqSent.rs (false, ())) [] [])
    (.leaf (mkR feqSent.rs (true, ())) [] [])))) (by kernel_rfl) ?_
  refine br_i (fun h1 => Fct.leafY ?_) (fun h1 => ob_i trivial fun _ => lt_i (br_i (fun h2 => Fct.leafY ?_) (fun h2 => br_i (fun h3 => Fct.leafY ?_) (fun h3 => Fct.leafY ?_))))
  all_goals try simp only [decide_eq_true_eq, decide_eq_false_iff_not, Bool.not_eq_true', Bool.not_eq_false', bne_iff_ne, bne_eq_false_iff_eq, beq_iff_eq, beq_eq_false_iff_ne, baEq, Int.not_lt, Int.not_le, ne_eq, Decidable.not_not] at *
  all_goals try simp only [feqAddr, feqSent, etaToken, etaNode, etaBuilder, etaPolicy, etaPage, etaVisit, etaTab, etaServer, etaCache, etaNet, etaLoader, etaSheet, etaResult, etaSlot, etaModule, etaAddr, etaRequest, etaResponse, etaConn, etaGuess, etaEntry, etaSent, etaFile, baSz, List.size_toArray, List.length_cons, List.length_nil, Nat.reduceAdd, Int.toNat_zero, List.drop_zero, decide_eq_true_eq, decide_eq_false_iff_not, Bool.not_eq_true', Bool.not_eq_false', bne_iff_ne, bne_eq_false_iff_eq, beq_iff_eq, beq_eq_false_iff_ne, Bool.not_eq_true, Bool.not_eq_false, ne_eq, Decidable.not_not, baEq, decide_not, Prod.mk.injEq, and_true, true_and, Room, List.nil_append, Nat.zero_add, Int.not_lt, Int.not_le] at *
  all_goals first | trivial | (cases x; cases y; simp_all; done) | (simp only [szAddr, szSent] at *; omega) | grind [szAddr, szSent])
def E38 : D.Env := E37.add 136 feqSent
theorem E38ok : EOk Try.prog E38 := E37ok.add k136_37
-- laws.szSentS
set_option maxHeartbeats 2000000 in
theorem k76_38 : fszSentS.ok Try.prog 76 := Fct.of (S := fszSentS) (L := fun ⟨l, n, _⟩ => fun | 5 => some (LszS .sent szSent l n) | _ => none) (kp := [0,1,4,5,11,15,25,1000011,1000015,1000025]) E38ok Try.func76 (by kernel_rfl) (by kernel_rfl) (by
  rintro ⟨(l : List SSent), (n : Int), _⟩ hp
  refine holds_of (X := .br (decide (IntKind.i64.wrap (n - (↑l.length : Int)) < (0 : Int)))
 (.leaf (mkR fszSentS.rs ((-1 : Int), ())) [] [])
 (lpx (LszS .sent szSent l n) (IntKind.i64.wrap (n - (↑l.length : Int)), ((0 : Int), ())) fun (y2 : Int × Int × PUnit) bk2 =>
  .br (decide (y2.snd.fst < (↑l.length : Int)))
   (.ob ((0 : Int) ≤ y2.snd.fst ∧ y2.snd.fst < (↑l.length : Int)) <|
    .ob (fszSent.pre (l.getD y2.snd.fst.toNat default, y2.fst, ())) <|
    .lt (Int × PUnit) (fszSent.fn (l.getD y2.snd.fst.toNat default, y2.fst, ())) fun z2 =>
    .br (decide (z2.fst < (0 : Int)))
     (.leaf (mkR fszSentS.rs ((-1 : Int), ())) [] [])
     (.ob (l = l) <|
      .ob (bk2 (z2.fst, (IntKind.i64.wrap (y2.snd.fst + (1 : Int)), ()))) <|
      .ok))
   (.leaf (mkR fszSentS.rs (y2.fst, ())) [] []))) (by kernel_rfl) ?_
  refine br_i (fun h1 => Fct.leafY ?_) (fun h1 => lpx_i ?_ fun (y2 : Int × Int × PUnit) i2 => br_i (fun h3 => ob_i ?_ fun o4 => ob_i ?_ fun o5 => lt_i (br_i (fun h6 => Fct.leafY ?_) (fun h6 => ob_i rfl fun _ => ob_i ?_ fun o7 => trivial))) (fun h3 => Fct.leafY ?_))
  all_goals try simp only [decide_eq_true_eq, decide_eq_false_iff_not, Bool.not_eq_true', Bool.not_eq_false', bne_iff_ne, bne_eq_false_iff_eq, beq_iff_eq, beq_eq_false_iff_ne, baEq, Int.not_lt, Int.not_le, ne_eq, Decidable.not_not] at *
  all_goals try simp only [LszS, fszSent, fszSentS, etaToken, etaNode, etaBuilder, etaPolicy, etaPage, etaVisit, etaTab, etaServer, etaCache, etaNet, etaLoader, etaSheet, etaResult, etaSlot, etaModule, etaAddr, etaRequest, etaResponse, etaConn, etaGuess, etaEntry, etaSent, etaFile, baSz, List.size_toArray, List.length_cons, List.length_nil, Nat.reduceAdd, Int.toNat_zero, List.drop_zero, decide_eq_true_eq, decide_eq_false_iff_not, Bool.not_eq_true', Bool.not_eq_false', bne_iff_ne, bne_eq_false_iff_eq, beq_iff_eq, beq_eq_false_iff_ne, Bool.not_eq_true, Bool.not_eq_false, ne_eq, Decidable.not_not, baEq, decide_not, Prod.mk.injEq, and_true, true_and, Room, List.nil_append, Nat.zero_add, Int.not_lt, Int.not_le] at *
  · have := good_len hp.1; simp only [maxLen] at this; rw [wrapId (by omega)] at h1
    rw [lessenNeg (by simp only [szL]; omega)]
  · have := good_len hp.1; simp only [maxLen] at this
    rw [wrapId (by omega)] at h1 ⊢
    exact ⟨by omega, by omega, h1, by simp⟩
  · omega
  · exact ⟨good_getD hp.1 (by omega), by omega, by omega⟩
  · have hs := sum_take_le szSent l (y2.2.1.toNat + 1)
    rw [sum_take szSent (by omega)] at hs
    rw [lessen_lt (by omega)] at h6
    rw [lessenNeg (by simp only [szL]; omega)]
  · have hw : IntKind.i64.wrap (y2.2.1 + 1) = y2.2.1 + 1 := wrapId (by have := good_len hp.1; simp only [maxLen] at this; omega)
    have h7 : ¬ lessen y2.1 (szSent (l.getD y2.2.1.toNat default)) < 0 := by omega
    rw [lessen_lt (by omega)] at h7
    rw [hw, toNat1 (by omega), sum_take szSent (by omega), lessen_ge (by omega)]
    exact ⟨⟨by omega, by omega, by omega, by omega⟩, by omega⟩
  · have e : l.take y2.2.1.toNat = l := List.take_of_length_le (by omega)
    rw [e] at i2
    have hz : ((szL szSent l : Nat) : Int) = l.length + (l.map szSent).sum := by simp only [szL]; omega
    rw [lessen_ge (by omega)]
    show y2.1 = n - ((szL szSent l : Nat) : Int)
    omega)
def E39 : D.Env := E38.add 76 fszSentS
theorem E39ok : EOk Try.prog E39 := E38ok.add k76_38
-- laws.toSentS
theorem k81_39 : ftoSentS.ok Try.prog 81 := Fct.of (S := ftoSentS) (L := fun ⟨l, _⟩ => fun | 3 => some (LtoS .sent l) | _ => none) (kp := [0,2,3,4,11,1000011]) E39ok Try.func81 (by kernel_rfl) (by kernel_rfl) (by
  rintro ⟨(l : List SSent), _⟩ hp
  refine holds_of (X := .ob ((↑l.length : Int) = (↑l.length : Int) ∧
  (0 : Int) ≤ (↑l.length : Int) ∧
    (56 : Int) * (↑l.length : Int) ≤ (140737488355328 : Int) ∧ (↑l.length : Int) ≤ (140737488355328 : Int)) <|
 lpx (LtoS .sent l) ((0 : Int), (List.replicate (↑l.length : Int).toNat default, ())) fun (y2 : Int × List SSent × PUnit) bk2 =>
 .br (decide (y2.fst < (↑l.length : Int)))
  (.ob ((0 : Int) ≤ y2.fst ∧ y2.fst < (↑l.length : Int)) <|
   .ob (ftoSent.pre (l.getD y2.fst.toNat default, ())) <|
   .lt (SSent × PUnit) (ftoSent.fn (l.getD y2.fst.toNat default, ())) fun z2 =>
   .ob ((0 : Int) ≤ y2.fst ∧ y2.fst < (↑y2.snd.fst.length : Int)) <|
    .ob (y2.fst.toNat < y2.snd.fst.length) <|
    .lt (List SSent) (y2.snd.fst.modify y2.fst.toNat fun z => z2.fst) fun z3 =>
    .ob (l = l) <|
     .ob (bk2 (IntKind.i64.wrap (y2.fst + (1 : Int)), (z3, ()))) <|
     .ok)
  (.leaf (mkR ftoSentS.rs (y2.snd.fst, ())) [] [])) (by kernel_rfl) ?_
  refine ob_i ?_ fun o1 => lpx_i ?_ fun (y2 : Int × List SSent × PUnit) i2 => br_i (fun h3 => ob_i ?_ fun o4 => ob_i ?_ fun o5 => lt_i (ob_i ?_ fun o6 => ob_i ?_ fun o7 => lt_i (ob_i rfl fun _ => ob_i ?_ fun o8 => trivial))) (fun h3 => Fct.leafY ?_)
  all_goals try simp only [decide_eq_true_eq, decide_eq_false_iff_not, Bool.not_eq_true', Bool.not_eq_false', bne_iff_ne, bne_eq_false_iff_eq, beq_iff_eq, beq_eq_false_iff_ne, baEq, Int.not_lt, Int.not_le, ne_eq, Decidable.not_not] at *
  all_goals try simp only [LtoS, ftoSent, ftoSentS, etaToken, etaNode, etaBuilder, etaPolicy, etaPage, etaVisit, etaTab, etaServer, etaCache, etaNet, etaLoader, etaSheet, etaResult, etaSlot, etaModule, etaAddr, etaRequest, etaResponse, etaConn, etaGuess, etaEntry, etaSent, etaFile, baSz, List.size_toArray, List.length_cons, List.length_nil, Nat.reduceAdd, Int.toNat_zero, List.drop_zero, decide_eq_true_eq, decide_eq_false_iff_not, Bool.not_eq_true', Bool.not_eq_false', bne_iff_ne, bne_eq_false_iff_eq, beq_iff_eq, beq_eq_false_iff_ne, Bool.not_eq_true, Bool.not_eq_false, ne_eq, Decidable.not_not, baEq, decide_not, Prod.mk.injEq, and_true, true_and, Room, List.nil_append, Nat.zero_add, Int.not_lt, Int.not_le] at *
  · have := szL_len szSent l; omega
  · exact ⟨by omega, by omega, by simp⟩
  · omega
  · have hs := sum_take_le szSent l (y2.1.toNat + 1)
    rw [sum_take szSent (by omega)] at hs
    simp only [szL] at hp; omega
  · rw [i2.2.2]; simp; omega
  · rw [i2.2.2]; simp; omega
  · have hw : IntKind.i64.wrap (y2.1 + 1) = y2.1 + 1 := wrapId (by have := szL_len szSent l; omega)
    rw [hw, toNat1 (by omega), i2.2.2]
    refine ⟨⟨by omega, by omega, ?_⟩, by omega⟩
    rw [show l.length - y2.1.toNat = (l.length - (y2.1.toNat + 1)) + 1 from by omega, List.replicate_succ, mod_at (by simp; omega), take_succ (by omega)]
    simp
  · have e : l.take y2.1.toNat = l := List.take_of_length_le (by omega)
    rw [i2.2.2, e]; simp; omega)
def E40 : D.Env := E39.add 81 ftoSentS
theorem E40ok : EOk Try.prog E40 := E39ok.add k81_39
-- laws.eqSentS
set_option maxHeartbeats 2000000 in
theorem k86_40 : feqSentS.ok Try.prog 86 := Fct.of (S := feqSentS) (L := fun ⟨l, m, _⟩ => fun | 4 => some (LeqS .sent l m) | _ => none) (kp := [0,1,4,5,10,14,26,1000010,1000014,1000026]) E40ok Try.func86 (by kernel_rfl) (by kernel_rfl) (by
  rintro ⟨(l : List SSent), (m : List SSent), _⟩ hp
  refine holds_of (X := .br ((↑l.length : Int) != (↑m.length : Int))
 (.leaf (mkR feqSentS.rs (false, ())) [] [])
 (lpx (LeqS .sent l m) ((0 : Int), ()) fun (y2 : Int × PUnit) bk2 =>
  .br (decide (y2.fst < (↑l.length : Int)))
   (.ob ((0 : Int) ≤ y2.fst ∧ y2.fst < (↑l.length : Int)) <|
    .ob ((0 : Int) ≤ y2.fst ∧ y2.fst < (↑m.length : Int)) <|
    .ob (feqSent.pre (l.getD y2.fst.toNat default, m.getD y2.fst.toNat default, ())) <|
    .lt (Bool × PUnit) (feqSent.fn (l.getD y2.fst.toNat default, m.getD y2.fst.toNat default, ())) fun z2 =>
    .br (!z2.fst)
     (.leaf (mkR feqSentS.rs (false, ())) [] [])
     (.ob (l = l) <|
      .ob (m = m) <|
      .ob (bk2 (IntKind.i64.wrap (y2.fst + (1 : Int)), ())) <|
      .ok))
   (.leaf (mkR feqSentS.rs (true, ())) [] []))) (by kernel_rfl) ?_
  refine br_i (fun h1 => Fct.leafY ?_) (fun h1 => lpx_i ?_ fun (y2 : Int × PUnit) i2 => br_i (fun h3 => ob_i ?_ fun o4 => ob_i ?_ fun o5 => ob_i trivial fun _ => lt_i (br_i (fun h6 => Fct.leafY ?_) (fun h6 => ob_i rfl fun _ => ob_i rfl fun _ => ob_i ?_ fun o7 => trivial))) (fun h3 => Fct.leafY ?_))
  all_goals try simp only [decide_eq_true_eq, decide_eq_false_iff_not, Bool.not_eq_true', Bool.not_eq_false', bne_iff_ne, bne_eq_false_iff_eq, beq_iff_eq, beq_eq_false_iff_ne, baEq, Int.not_lt, Int.not_le, ne_eq, Decidable.not_not] at *
  all_goals try simp only [LeqS, feqSent, feqSentS, etaToken, etaNode, etaBuilder, etaPolicy, etaPage, etaVisit, etaTab, etaServer, etaCache, etaNet, etaLoader, etaSheet, etaResult, etaSlot, etaModule, etaAddr, etaRequest, etaResponse, etaConn, etaGuess, etaEntry, etaSent, etaFile, baSz, List.size_toArray, List.length_cons, List.length_nil, Nat.reduceAdd, Int.toNat_zero, List.drop_zero, decide_eq_true_eq, decide_eq_false_iff_not, Bool.not_eq_true', Bool.not_eq_false', bne_iff_ne, bne_eq_false_iff_eq, beq_iff_eq, beq_eq_false_iff_ne, Bool.not_eq_true, Bool.not_eq_false, ne_eq, Decidable.not_not, baEq, decide_not, Prod.mk.injEq, and_true, true_and, Room, List.nil_append, Nat.zero_add, Int.not_lt, Int.not_le] at *
  · rw [decide_eq_false]; rintro rfl; omega
  · exact ⟨by omega, by omega, by simp⟩
  · omega
  · omega
  · rw [decide_eq_false]; rintro rfl; exact absurd rfl h6
  · have hw : IntKind.i64.wrap (y2.1 + 1) = y2.1 + 1 := wrapId (by omega)
    rw [hw, toNat1 (by omega)]
    refine ⟨⟨by omega, by omega, ?_⟩, by omega⟩
    rw [take_succ (by omega), take_succ (by omega), i2.2.2, h6]
  · have e : l.take y2.1.toNat = l := List.take_of_length_le (by omega)
    have e2 : m.take y2.1.toNat = m := List.take_of_length_le (by omega)
    rw [decide_eq_true]; rw [← e, ← e2, i2.2.2])
def E41 : D.Env := E40.add 86 feqSentS
theorem E41ok : EOk Try.prog E41 := E40ok.add k86_40
-- laws.markSentS
set_option maxHeartbeats 2000000 in
theorem k91_41 : fmarkSentS.ok Try.prog 91 := MS.of (S := fmarkSentS) (L := fun l k => fun | 2 => some (LmkS .sent mkSent l k) | _ => none) (kp := [0,1,4,5,9,1000009]) (kl := [0]) E41ok Try.func91 (by kernel_rfl) (by kernel_rfl) (by
  rintro (l : List SSent) (k : Int) hp
  refine holds_of (X := lpx (LmkS .sent mkSent l k) (k, ((0 : Int), (l, ()))) fun (y1 : Int × Int × List SSent × PUnit) bk1 =>
 .br (decide (y1.snd.fst < (↑y1.snd.snd.fst.length : Int)))
  (.ob (fmarkText.pre (y1.fst, ())) <|
   .lt (ByteArray × PUnit) (fmarkText.fn (y1.fst, ())) fun z2 =>
   .ob ((0 : Int) ≤ y1.snd.fst ∧ y1.snd.fst < (↑y1.snd.snd.fst.length : Int)) <|
    .ob (y1.snd.fst.toNat < y1.snd.snd.fst.length) <|
    .lt (List SSent) (y1.snd.snd.fst.modify y1.snd.fst.toNat fun z => { top := z2.fst, to := z.to, guess := z.guess : SSent }) fun z3 =>
    .ob (fmarkText.pre (IntKind.i64.wrap (y1.fst + (1 : Int)), ())) <|
     .lt (ByteArray × PUnit) (fmarkText.fn (IntKind.i64.wrap (y1.fst + (1 : Int)), ())) fun z4 =>
     .ob ((0 : Int) ≤ y1.snd.fst ∧ y1.snd.fst < (↑z3.length : Int)) <|
      .ob (y1.snd.fst.toNat < z3.length) <|
      .lt (List SSent) (z3.modify y1.snd.fst.toNat fun z =>
  { top := z.top, to := { host := z4.fst, path := z.to.path : SAddr }, guess := z.guess : SSent }) fun z5 =>
      .ob (fmarkText.pre (IntKind.i64.wrap (IntKind.i64.wrap (y1.fst + (1 : Int)) + (1 : Int)), ())) <|
       .lt (ByteArray × PUnit) (fmarkText.fn (IntKind.i64.wrap (IntKind.i64.wrap (y1.fst + (1 : Int)) + (1 : Int)), ())) fun z6 =>
       .ob ((0 : Int) ≤ y1.snd.fst ∧ y1.snd.fst < (↑z5.length : Int)) <|
        .ob (y1.snd.fst.toNat < z5.length) <|
        .lt (List SSent) (z5.modify y1.snd.fst.toNat fun z =>
  { top := z.top, to := { host := z.to.host, path := z6.fst : SAddr }, guess := z.guess : SSent }) fun z7 =>
        .ob ((3 : Int) ≠ (0 : Int)) <|
         .ob ((0 : Int) ≤ y1.snd.fst ∧ y1.snd.fst < (↑z7.length : Int)) <|
         .ob (y1.snd.fst.toNat < z7.length) <|
         .lt (List SSent) (z7.modify y1.snd.fst.toNat fun z =>
  { top := z.top, to := z.to,
    guess :=
      (IntKind.i64.wrap (IntKind.i64.wrap (IntKind.i64.wrap (y1.fst + (1 : Int)) + (1 : Int)) + (1 : Int))).tmod
          (3 : Int) ==
        (0 : Int) :
    SSent }) fun z8 =>
         .ob (Value.int IntKind.i64 (0 : Int) = Value.int IntKind.i64 (0 : Int)) <|
          .ob (bk1 (IntKind.i64.wrap
  (IntKind.i64.wrap (IntKind.i64.wrap (IntKind.i64.wrap (y1.fst + (1 : Int)) + (1 : Int)) + (1 : Int)) + (1 : Int)), (IntKind.i64.wrap (y1.snd.fst + (1 : Int)), (z8, ())))) <|
          .ok)
  (.leaf (.one false [vi (y1.fst)]) [] [((0 : Nat), ⟨Ty.sent, y1.snd.snd.fst⟩)])) (by kernel_rfl) ?_
  refine lpx_i ?_ fun (y1 : Int × Int × List SSent × PUnit) i1 => br_i (fun h2 => ob_i ?_ fun o3 => lt_i (ob_i ?_ fun o4 => ob_i ?_ fun o5 => lt_i (ob_i ?_ fun o6 => lt_i (ob_i ?_ fun o7 => ob_i ?_ fun o8 => lt_i (ob_i ?_ fun o9 => lt_i (ob_i ?_ fun o10 => ob_i ?_ fun o11 => lt_i (ob_i ?_ fun o12 => ob_i ?_ fun o13 => ob_i ?_ fun o14 => lt_i (ob_i rfl fun _ => ob_i ?_ fun o15 => trivial)))))))) (fun h2 => MS.leaf ?_)
  · exact ⟨by simp, by simp, by simp [markL], by simp [markL]⟩
  all_goals have hp1 : 0 ≤ k := hp.1
  all_goals have hp2 : (markL mkSent l k).2 ≤ 4000000000000000000 := hp.2
  all_goals have i3 : 0 ≤ y1.2.1 ∧ y1.2.1 ≤ l.length ∧ y1.1 = (markL mkSent (l.take y1.2.1.toNat) k).2 ∧ y1.2.2.1 = (markL mkSent (l.take y1.2.1.toNat) k).1 ++ l.drop y1.2.1.toNat := i1
  all_goals have hcnt := markL_cnt (f := mkSent) (fun x k => by simp only [mkSent]; omega) l k
  all_goals have hx : y1.2.2.1.length = l.length := by rw [i3.2.2.2, List.length_append, markL_len, List.length_take, List.length_drop]; omega
  all_goals simp only [decide_eq_true_eq, decide_eq_false_iff_not, hx] at h2
  all_goals clear i1
  all_goals try have hlt : y1.2.1.toNat < l.length := by omega
  all_goals try have ht := markL_take (f := mkSent) hlt k
  all_goals try have hle := (markL_take_le mkSent_mono l (y1.2.1.toNat + 1) k).2
  all_goals try have hl0 := (markL_take_le mkSent_mono l y1.2.1.toNat k).1
  all_goals try rw [ht] at hle
  all_goals try rw [← i3.2.2.1] at hle hl0 ht
  all_goals try simp only [mkSent] at hle
  all_goals first | decide | (simp only [List.length_modify, hx]; omega) | (refine ⟨?_, ?_⟩ <;> (try simp (discharger := omega) only [wrapId']) <;> omega) | skip
  · try clear o3 o4 o5
    simp (discharger := omega) only [wrapId', fmarkText]
    have hA : (markL mkSent (l.take y1.2.1.toNat) k).1.length = y1.2.1.toNat := by rw [markL_len, List.length_take]; omega
    refine ⟨⟨by omega, by omega, ?_, ?_⟩, ?_⟩
    · rw [toNat1 (by omega), ht]
      first | done | (simp only [mkSent]; done) | (simp only [mkSent]; omega)
    · rw [toNat1 (by omega), ht, i3.2.2.2, drop_cons hlt]
      simp only [mod_at hA, mkSent, Int.add_assoc, Int.reduceAdd, List.append_assoc, List.cons_append, List.nil_append]
    · omega
  · refine MS.leafL (t := .sent) (fn := fun l k => markL mkSent l k) ?_
    have e1 : l.take y1.2.1.toNat = l := List.take_of_length_le (by omega)
    have e2 : l.drop y1.2.1.toNat = [] := List.drop_of_length_le (by omega)
    rw [i3.2.2.2, i3.2.2.1, e1, e2, List.append_nil])
def E42 : D.Env := E41.addM 91 fmarkSentS
theorem E42ok : EOk Try.prog E42 := E41ok.addM k91_41
-- laws.szNet
set_option maxHeartbeats 2000000 in
theorem k18_42 : fszNet.ok Try.prog 18 := Fct.of (S := fszNet) (L := fun _ _ => none) (kp := [1,2,4,10,16,22,1000010,1000016,1000022]) E42ok Try.func18 (by kernel_rfl) (by kernel_rfl) (by
  rintro ⟨(x : SNet), (n : Int), _⟩ hp
  refine holds_of (X := .ob (fszServerS.pre (x.servers, n, ())) <|
 .lt (Int × PUnit) (fszServerS.fn (x.servers, n, ())) fun z2 =>
 .br (decide (z2.fst < (0 : Int)))
  (.leaf (mkR fszNet.rs ((-1 : Int), ())) [] [])
  (.ob (fszCache.pre (x.cache, z2.fst, ())) <|
   .lt (Int × PUnit) (fszCache.fn (x.cache, z2.fst, ())) fun z3 =>
   .br (decide (z3.fst < (0 : Int)))
    (.leaf (mkR fszNet.rs ((-1 : Int), ())) [] [])
    (.ob (fszSentS.pre (x.log, z3.fst, ())) <|
     .lt (Int × PUnit) (fszSentS.fn (x.log, z3.fst, ())) fun z4 =>
     .br (decide (z4.fst < (0 : Int)))
      (.leaf (mkR fszNet.rs ((-1 : Int), ())) [] [])
      (.leaf (mkR fszNet.rs (z4.fst, ())) [] [])))) (by kernel_rfl) ?_
  refine ob_i ?_ fun o1 => lt_i (br_i (fun h2 => Fct.leafY ?_) (fun h2 => ob_i ?_ fun o3 => lt_i (br_i (fun h4 => Fct.leafY ?_) (fun h4 => ob_i ?_ fun o5 => lt_i (br_i (fun h6 => Fct.leafY ?_) (fun h6 => Fct.leafY ?_))))))
  all_goals try simp only [decide_eq_true_eq, decide_eq_false_iff_not, Bool.not_eq_true', Bool.not_eq_false', bne_iff_ne, bne_eq_false_iff_eq, beq_iff_eq, beq_eq_false_iff_ne, baEq, Int.not_lt, Int.not_le, ne_eq, Decidable.not_not] at *
  all_goals try simp only [fszCache, fszNet, fszSentS, fszServerS, etaToken, etaNode, etaBuilder, etaPolicy, etaPage, etaVisit, etaTab, etaServer, etaCache, etaNet, etaLoader, etaSheet, etaResult, etaSlot, etaModule, etaAddr, etaRequest, etaResponse, etaConn, etaGuess, etaEntry, etaSent, etaFile, baSz, List.size_toArray, List.length_cons, List.length_nil, Nat.reduceAdd, Int.toNat_zero, List.drop_zero, decide_eq_true_eq, decide_eq_false_iff_not, Bool.not_eq_true', Bool.not_eq_false', bne_iff_ne, bne_eq_false_iff_eq, beq_iff_eq, beq_eq_false_iff_ne, Bool.not_eq_true, Bool.not_eq_false, ne_eq, Decidable.not_not, baEq, decide_not, Prod.mk.injEq, and_true, true_and, Room, List.nil_append, Nat.zero_add, Int.not_lt, Int.not_le, Sh.good, Sh.fc, enc, List.forall_mem_cons, List.not_mem_nil, false_implies, implies_true, goodC, maxLen] at *
  all_goals grind [wrapId', lessen, szCache, szL, szNet])
def E43 : D.Env := E42.add 18 fszNet
theorem E43ok : EOk Try.prog E43 := E42ok.add k18_42
-- laws.toNet
theorem k20_43 : ftoNet.ok Try.prog 20 := Fct.of (S := ftoNet) (L := fun _ _ => none) (kp := [1,2,3]) E43ok Try.func20 (by kernel_rfl) (by kernel_rfl) (by
  rintro ⟨(x : SNet), _⟩ hp
  refine holds_of (X := .ob (ftoServerS.pre (x.servers, ())) <|
 .lt (List SServer × PUnit) (ftoServerS.fn (x.servers, ())) fun z2 =>
 .ob (ftoCache.pre (x.cache, ())) <|
  .lt (SCache × PUnit) (ftoCache.fn (x.cache, ())) fun z3 =>
  .ob (ftoSentS.pre (x.log, ())) <|
   .lt (List SSent × PUnit) (ftoSentS.fn (x.log, ())) fun z4 =>
   .leaf (mkR ftoNet.rs (⟨z2.fst, z3.fst, z4.fst, x.now⟩, ())) [] []) (by kernel_rfl) ?_
  refine ob_i ?_ fun o1 => lt_i (ob_i ?_ fun o2 => lt_i (ob_i ?_ fun o3 => lt_i (Fct.leafY ?_)))
  all_goals try simp only [decide_eq_true_eq, decide_eq_false_iff_not, Bool.not_eq_true', Bool.not_eq_false', bne_iff_ne, bne_eq_false_iff_eq, beq_iff_eq, beq_eq_false_iff_ne, baEq, Int.not_lt, Int.not_le, ne_eq, Decidable.not_not] at *
  all_goals try simp only [ftoCache, ftoNet, ftoSentS, ftoServerS, etaToken, etaNode, etaBuilder, etaPolicy, etaPage, etaVisit, etaTab, etaServer, etaCache, etaNet, etaLoader, etaSheet, etaResult, etaSlot, etaModule, etaAddr, etaRequest, etaResponse, etaConn, etaGuess, etaEntry, etaSent, etaFile, baSz, List.size_toArray, List.length_cons, List.length_nil, Nat.reduceAdd, Int.toNat_zero, List.drop_zero, decide_eq_true_eq, decide_eq_false_iff_not, Bool.not_eq_true', Bool.not_eq_false', bne_iff_ne, bne_eq_false_iff_eq, beq_iff_eq, beq_eq_false_iff_ne, Bool.not_eq_true, Bool.not_eq_false, ne_eq, Decidable.not_not, baEq, decide_not, Prod.mk.injEq, and_true, true_and, Room, List.nil_append, Nat.zero_add, Int.not_lt, Int.not_le] at *
  all_goals first | trivial | rfl | grind [szCache, szL, szNet])
def E44 : D.Env := E43.add 20 ftoNet
theorem E44ok : EOk Try.prog E44 := E43ok.add k20_43
-- laws.eqNet
set_option maxHeartbeats 2000000 in
theorem k22_44 : feqNet.ok Try.prog 22 := Fct.of (S := feqNet) (L := fun _ _ => none) (kp := [2,3,4,10,16,22,27,1000010,1000016,1000022,1000027]) E44ok Try.func22 (by kernel_rfl) (by kernel_rfl) (by
  rintro ⟨(x : SNet), (y : SNet), _⟩ hp
  refine holds_of (X := .ob (feqServerS.pre (x.servers, y.servers, ())) <|
 .lt (Bool × PUnit) (feqServerS.fn (x.servers, y.servers, ())) fun z2 =>
 .br (!z2.fst)
  (.leaf (mkR feqNet.rs (false, ())) [] [])
  (.ob (feqCache.pre (x.cache, y.cache, ())) <|
   .lt (Bool × PUnit) (feqCache.fn (x.cache, y.cache, ())) fun z3 =>
   .br (!z3.fst)
    (.leaf (mkR feqNet.rs (false, ())) [] [])
    (.ob (feqSentS.pre (x.log, y.log, ())) <|
     .lt (Bool × PUnit) (feqSentS.fn (x.log, y.log, ())) fun z4 =>
     .br (!z4.fst)
      (.leaf (mkR feqNet.rs (false, ())) [] [])
      (.br (x.now != y.now)
       (.leaf (mkR feqNet.rs (false, ())) [] [])
       (.leaf (mkR feqNet.rs (true, ())) [] []))))) (by kernel_rfl) ?_
  refine ob_i ?_ fun o1 => lt_i (br_i (fun h2 => Fct.leafY ?_) (fun h2 => ob_i ?_ fun o3 => lt_i (br_i (fun h4 => Fct.leafY ?_) (fun h4 => ob_i ?_ fun o5 => lt_i (br_i (fun h6 => Fct.leafY ?_) (fun h6 => br_i (fun h7 => Fct.leafY ?_) (fun h7 => Fct.leafY ?_)))))))
  all_goals try simp only [decide_eq_true_eq, decide_eq_false_iff_not, Bool.not_eq_true', Bool.not_eq_false', bne_iff_ne, bne_eq_false_iff_eq, beq_iff_eq, beq_eq_false_iff_ne, baEq, Int.not_lt, Int.not_le, ne_eq, Decidable.not_not] at *
  all_goals try simp only [feqCache, feqNet, feqSentS, feqServerS, etaToken, etaNode, etaBuilder, etaPolicy, etaPage, etaVisit, etaTab, etaServer, etaCache, etaNet, etaLoader, etaSheet, etaResult, etaSlot, etaModule, etaAddr, etaRequest, etaResponse, etaConn, etaGuess, etaEntry, etaSent, etaFile, baSz, List.size_toArray, List.length_cons, List.length_nil, Nat.reduceAdd, Int.toNat_zero, List.drop_zero, decide_eq_true_eq, decide_eq_false_iff_not, Bool.not_eq_true', Bool.not_eq_false', bne_iff_ne, bne_eq_false_iff_eq, beq_iff_eq, beq_eq_false_iff_ne, Bool.not_eq_true, Bool.not_eq_false, ne_eq, Decidable.not_not, baEq, decide_not, Prod.mk.injEq, and_true, true_and, Room, List.nil_append, Nat.zero_add, Int.not_lt, Int.not_le] at *
  all_goals first | trivial | (cases x; cases y; simp_all; done) | (simp only [szCache, szL, szNet] at *; omega) | grind [szCache, szL, szNet])
def E45 : D.Env := E44.add 22 feqNet
theorem E45ok : EOk Try.prog E45 := E44ok.add k22_44
-- laws.markNet
set_option maxHeartbeats 2000000 in
theorem k26_45 : fmarkNet.ok Try.prog 26 := MS.of (S := fmarkNet) (L := fun _ _ _ => none) (kp := [1,2,4]) (kl := [0,1,2]) E45ok Try.func26 (by kernel_rfl) (by kernel_rfl) (by
  rintro (x : SNet) (k : Int) hp
  refine holds_of (X := .ob (fmarkServerS.pre x.servers k) <|
 .lt (List SServer × Int) (fmarkServerS.fn x.servers k) fun z2 =>
 .ob (fmarkCache.pre x.cache z2.snd) <|
  .lt (SCache × Int) (fmarkCache.fn x.cache z2.snd) fun z3 =>
  .ob (fmarkSentS.pre x.log z3.snd) <|
   .lt (List SSent × Int) (fmarkSentS.fn x.log z3.snd) fun z4 =>
   .leaf (.one false [vi (z4.snd)]) [] [((0 : Nat), ⟨Ty.server, z2.fst⟩), ((1 : Nat), ⟨Ty.entry, z3.fst.entries⟩), ((2 : Nat), ⟨Ty.sent, z4.fst⟩)]) (by kernel_rfl) ?_
  refine ob_d ?_ <| lt_i (ob_d ?_ <| lt_i (ob_d ?_ <| lt_i (MS.leaf ?_)))
  all_goals have hp1 : 0 ≤ k := hp.1
  all_goals have hp2 : (mvNet x k).2 ≤ 4000000000000000000 := hp.2
  all_goals clear hp
  all_goals simp only [mvNet] at hp2
  all_goals try have m1 := mkServerS_mono x.servers (k)
  all_goals try generalize hr1 : markL mkServer x.servers (k) = r1 at *
  all_goals try have m2 := mkEntryS_mono x.cache.entries (r1.2)
  all_goals try generalize hr2 : markL mkEntry x.cache.entries (r1.2) = r2 at *
  all_goals try have m3 := mkSentS_mono x.log (r2.2)
  all_goals try generalize hr3 : markL mkSent x.log (r2.2) = r3 at *
  all_goals simp (disch := omega) only [fmarkEntryS, fmarkSentS, fmarkServerS, fmarkCache, mvCache, hr1, hr2, hr3]
  all_goals first | trivial | omega | (refine ⟨?_, ?_⟩ <;> omega) | skip
  refine MS.leaf ?_
  simp only [fmarkNet, mvNet, hr1, hr2, hr3]
  exact ⟨⟨rfl, rfl, trivial⟩, trivial, rfl⟩)
def E46 : D.Env := E45.addM 26 fmarkNet
theorem E46ok : EOk Try.prog E46 := E45ok.addM k26_45
def fHasAddr : Fct := ⟨[.v (.sl .addr), .v (.el .addr)], [.el .bool], fun (x_ : (List SAddr) × SAddr × Unit) => x_.1.length ≤ 1000000000000000000, fun (x_ : (List SAddr) × SAddr × Unit) => (x_.1.any fun c => decide (c = x_.2.1), ())⟩
abbrev W_spec_HasAddr_fHasAddr_2 (l : (List SAddr)) (a : SAddr) : LInv := ⟨[⟨.s, 5, true, .el .int⟩, ⟨.b, 3, true, .el .addr⟩], fun (z_ : Int × SAddr × Unit) (x_ : Int × SAddr × Unit) => (0 ≤ x_.1 ∧ x_.1 ≤ l.length ∧ l.any (fun c => decide (c = a)) = (l.drop x_.1.toNat).any (fun c => decide (c = a))) ∧ x_.2.1 = z_.2.1, fun (x_ : Int × SAddr × Unit) => l.length - x_.1.toNat⟩
-- spec.HasAddr
theorem k99_46 : fHasAddr.ok Try.prog 99 := Fct.of (S := fHasAddr) (L := fun ⟨l, a, _⟩ => fun | 2 => some (W_spec_HasAddr_fHasAddr_2 l a) | _ => none) (kp := [0,3,4,5,9,17,1000009,1000017]) E46ok Try.func99 (by kernel_rfl) (by kernel_rfl) (by
  rintro ⟨(l : List SAddr), (a : SAddr), _⟩ hp
  refine holds_of (X := lpx (W_spec_HasAddr_fHasAddr_2 l a) ((0 : Int), (a, ())) fun (y1 : Int × SAddr × PUnit) bk1 =>
 .br (decide (y1.fst < (↑l.length : Int)))
  (.ob ((0 : Int) ≤ y1.fst ∧ y1.fst < (↑l.length : Int)) <|
   .br ((l.getD y1.fst.toNat default).host == y1.snd.fst.host && ((l.getD y1.fst.toNat default).path == y1.snd.fst.path && true))
   (.leaf (mkR fHasAddr.rs (true, ())) [] [])
   (.ob (l = l) <|
    .ob (bk1 (IntKind.i64.wrap (y1.fst + (1 : Int)), (y1.snd.fst, ()))) <|
    .ok))
  (.leaf (mkR fHasAddr.rs (false, ())) [] [])) (by kernel_rfl) ?_
  refine lpx_i ?_ fun (y1 : Int × SAddr × PUnit) i1 => br_i (fun h2 => ob_i ?_ fun o3 => br_i (fun h4 => Fct.leafY ?_) (fun h4 => ob_i rfl fun _ => ob_i ?_ fun o5 => trivial)) (fun h2 => Fct.leafY ?_)
  all_goals try simp only [beqAddr] at *
  all_goals try simp only [decide_eq_true_eq, decide_eq_false_iff_not, Bool.not_eq_true', Bool.not_eq_false', bne_iff_ne, bne_eq_false_iff_eq, beq_iff_eq, beq_eq_false_iff_ne, baEq, Int.not_lt, Int.not_le, ne_eq, Decidable.not_not] at *
  all_goals try simp only [W_spec_HasAddr_fHasAddr_2, fHasAddr, etaToken, etaNode, etaBuilder, etaPolicy, etaPage, etaVisit, etaTab, etaServer, etaCache, etaNet, etaLoader, etaSheet, etaResult, etaSlot, etaModule, etaAddr, etaRequest, etaResponse, etaConn, etaGuess, etaEntry, etaSent, etaFile, baSz, List.size_toArray, List.length_cons, List.length_nil, Nat.reduceAdd, Int.toNat_zero, List.drop_zero, decide_eq_true_eq, decide_eq_false_iff_not, Bool.not_eq_true', Bool.not_eq_false', bne_iff_ne, bne_eq_false_iff_eq, beq_iff_eq, beq_eq_false_iff_ne, Bool.not_eq_true, Bool.not_eq_false, ne_eq, Decidable.not_not, baEq, decide_not, Prod.mk.injEq, and_true, true_and, Room, List.nil_append, Nat.zero_add, Int.not_lt, Int.not_le] at *
  all_goals try simp (disch := omega) only [wrapId', toNat1] at *
  all_goals try simp (disch := omega) only [if_pos, if_neg]
  all_goals first | trivial | omega | grind [wrapId', toNat1, drop_cons, drop_end, good_len, maxLen])
def E47 : D.Env := E46.add 99 fHasAddr
theorem E47ok : EOk Try.prog E47 := E46ok.add k99_46
def fCompareAddrs : Fct := ⟨[.v (.el .addr), .v (.el .addr)], [.el .int], fun (x_ : SAddr × SAddr × Unit) => True, fun (x_ : SAddr × SAddr × Unit) => (cmpA x_.1 x_.2.1, ())⟩
-- spec.CompareAddrs
theorem k137_47 : fCompareAddrs.ok Try.prog 137 := Fct.of (S := fCompareAddrs) (L := fun _ _ => none) (kp := [2,3,4,5,9,1000005,1000009]) E47ok Try.func137 (by kernel_rfl) (by kernel_rfl) (by
  rintro ⟨(a : SAddr), (b : SAddr), _⟩ hp
  refine holds_of (X := .br (a.host == b.host && (a.path == b.path && true))
 (.leaf (mkR fCompareAddrs.rs ((0 : Int), ())) [] [])
 (.br (Op.bytesLess a.host.toList b.host.toList)
  (.leaf (mkR fCompareAddrs.rs ((-1 : Int), ())) [] [])
  (.br (a.host.toList == b.host.toList)
   (.br (Op.bytesLess a.path.toList b.path.toList)
    (.leaf (mkR fCompareAddrs.rs ((-1 : Int), ())) [] [])
    (.leaf (mkR fCompareAddrs.rs ((1 : Int), ())) [] []))
   (.leaf (mkR fCompareAddrs.rs ((1 : Int), ())) [] [])))) (by kernel_rfl) ?_
  refine br_i (fun h1 => Fct.leafY ?_) (fun h1 => br_i (fun h2 => Fct.leafY ?_) (fun h2 => br_i (fun h3 => br_i (fun h4 => Fct.leafY ?_) (fun h4 => Fct.leafY ?_)) (fun h3 => Fct.leafY ?_)))
  all_goals try simp only [beqAddr, less_cmpB, decide_eq_true_eq, decide_eq_false_iff_not] at *
  all_goals have h1 := cmpB_range a.host b.host
  all_goals have h2 := cmpB_range a.path b.path
  all_goals have h3 := cmpA_range a b
  all_goals have h4 := cmpA_eq (a := a) (b := b)
  all_goals have h5 := cmpB_eq (a := a.host) (b := b.host)
  all_goals have h6 := cmpB_eq (a := a.path) (b := b.path)
  all_goals try simp only [decide_eq_true_eq, decide_eq_false_iff_not, Bool.not_eq_true', Bool.not_eq_false', bne_iff_ne, bne_eq_false_iff_eq, beq_iff_eq, beq_eq_false_iff_ne, baEq, Int.not_lt, Int.not_le, ne_eq, Decidable.not_not] at *
  all_goals try simp only [fCompareAddrs, etaToken, etaNode, etaBuilder, etaPolicy, etaPage, etaVisit, etaTab, etaServer, etaCache, etaNet, etaLoader, etaSheet, etaResult, etaSlot, etaModule, etaAddr, etaRequest, etaResponse, etaConn, etaGuess, etaEntry, etaSent, etaFile, baSz, List.size_toArray, List.length_cons, List.length_nil, Nat.reduceAdd, Int.toNat_zero, List.drop_zero, decide_eq_true_eq, decide_eq_false_iff_not, Bool.not_eq_true', Bool.not_eq_false', bne_iff_ne, bne_eq_false_iff_eq, beq_iff_eq, beq_eq_false_iff_ne, Bool.not_eq_true, Bool.not_eq_false, ne_eq, Decidable.not_not, baEq, decide_not, Prod.mk.injEq, and_true, true_and, Room, List.nil_append, Nat.zero_add, Int.not_lt, Int.not_le, cmpA] at *
  all_goals try simp (disch := omega) only [wrapId', toNat1] at *
  all_goals try simp (disch := omega) only [if_pos, if_neg]
  all_goals first | trivial | omega | grind [wrapId', toNat1, drop_cons, drop_end, good_len, maxLen, cmpA])
def E48 : D.Env := E47.add 137 fCompareAddrs
theorem E48ok : EOk Try.prog E48 := E47ok.add k137_47
def laysCmp_r : Go.Shelf.Ren := ⟨fun | 0 => 0 | 1 => 1 | 2 => 2 | 106 => 173 | 109 => 168 | 110 => 133 | 111 => 211 | 125 => 172 | 128 => 205 | 129 => 206 | 193 => 184 | 213 => 207 | 265 => 218 | 329 => 214 | 330 => 215 | 347 => 221 | 348 => 222 | 349 => 223 | 350 => 224 | 351 => 225 | 352 => 226 | 353 => 227 | 354 => 228 | 355 => 229 | 356 => 230 | 357 => 231 | 358 => 232 | 359 => 233 | 360 => 234 | 361 => 235 | 366 => 236 | _ => 0, fun | 0 => 0 | 1 => 1 | 2 => 2 | 3 => 3 | 4 => 4 | 5 => 5 | 6 => 6 | 7 => 7 | 8 => 8 | 9 => 9 | 10 => 10 | 11 => 11 | 12 => 12 | 13 => 13 | 14 => 14 | 15 => 15 | 16 => 16 | 17 => 17 | 18 => 18 | 19 => 19 | 20 => 20 | 21 => 21 | 27 => 257 | 28 => 31 | 30 => 173 | 31 => 24 | 32 => 251 | 33 => 207 | 34 => 196 | 37 => 221 | 46 => 256 | 47 => 255 | 51 => 288 | 52 => 287 | 53 => 290 | 54 => 289 | 80 => 301 | 81 => 307 | 83 => 152 | 101 => 133 | 102 => 124 | 127 => 311 | 131 => 285 | 164 => 316 | 182 => 280 | 183 => 281 | 218 => 292 | 219 => 293 | 220 => 294 | 222 => 296 | 228 => 298 | 229 => 299 | 238 => 302 | 239 => 303 | 240 => 304 | 241 => 305 | 242 => 306 | 243 => 308 | 244 => 309 | 245 => 310 | 246 => 312 | 247 => 313 | 248 => 314 | 249 => 315 | _ => 0, fun | 1 => 0 | _ => 0⟩
theorem laysCmp : Go.Proofs.Lays.n106 Try.prog laysCmp_r where
  mixed := by kernel_rfl
  f106 := by kernel_rfl
  f213 := by kernel_rfl
  f265 := by kernel_rfl
  t3 := by kernel_rfl
  a3 := fun _ => by kernel_rfl
  z3 := fun _ => by kernel_rfl
  v3 := fun _ => by kernel_rfl
  t9 := by kernel_rfl
  a9 := fun _ => by kernel_rfl
  z9 := fun _ => by kernel_rfl
  v9 := fun _ => by kernel_rfl
-- strings.Compare
theorem k173_48 : fCmpStr.ok Try.prog 173 :=
  strs_ok rfl (Any.strings_Compare laysCmp)
def E49 : D.Env := E48.add 173 fCmpStr
theorem E49ok : EOk Try.prog E49 := E48ok.add k173_48
-- impl.CompareAddrs
theorem k139_49 : fCompareAddrs.ok Try.prog 139 := Fct.of (S := fCompareAddrs) (L := fun _ _ => none) (kp := [2,3,4,5,12,1000012]) E49ok Try.func139 (by kernel_rfl) (by kernel_rfl) (by
  rintro ⟨(a : SAddr), (b : SAddr), _⟩ hp
  refine holds_of (X := .ob (fCmpStr.pre (a.host, b.host, ())) <|
 .lt (Int × PUnit) (fCmpStr.fn (a.host, b.host, ())) fun z2 =>
 .br (z2.fst != (0 : Int))
  (.leaf (mkR fCompareAddrs.rs (z2.fst, ())) [] [])
  (.ob (fCmpStr.pre (a.path, b.path, ())) <|
   .lt (Int × PUnit) (fCmpStr.fn (a.path, b.path, ())) fun z3 =>
   .leaf (mkR fCompareAddrs.rs (z3.fst, ())) [] [])) (by kernel_rfl) ?_
  refine ob_i trivial fun _ => lt_i (br_i (fun h1 => Fct.leafY ?_) (fun h1 => ob_i trivial fun _ => lt_i (Fct.leafY ?_)))
  all_goals try simp only [decide_eq_true_eq, decide_eq_false_iff_not, Bool.not_eq_true', Bool.not_eq_false', bne_iff_ne, bne_eq_false_iff_eq, beq_iff_eq, beq_eq_false_iff_ne, baEq, Int.not_lt, Int.not_le, ne_eq, Decidable.not_not] at *
  all_goals try simp only [fCmpStr, fCompareAddrs, etaToken, etaNode, etaBuilder, etaPolicy, etaPage, etaVisit, etaTab, etaServer, etaCache, etaNet, etaLoader, etaSheet, etaResult, etaSlot, etaModule, etaAddr, etaRequest, etaResponse, etaConn, etaGuess, etaEntry, etaSent, etaFile, baSz, List.size_toArray, List.length_cons, List.length_nil, Nat.reduceAdd, Int.toNat_zero, List.drop_zero, decide_eq_true_eq, decide_eq_false_iff_not, Bool.not_eq_true', Bool.not_eq_false', bne_iff_ne, bne_eq_false_iff_eq, beq_iff_eq, beq_eq_false_iff_ne, Bool.not_eq_true, Bool.not_eq_false, ne_eq, Decidable.not_not, baEq, decide_not, Prod.mk.injEq, and_true, true_and, Room, List.nil_append, Nat.zero_add, Int.not_lt, Int.not_le, cmpA, fCmpStr] at *
  all_goals try simp (disch := omega) only [wrapId', toNat1] at *
  all_goals try simp (disch := omega) only [if_pos, if_neg]
  all_goals first | trivial | omega | grind [wrapId', toNat1, drop_cons, drop_end, good_len, maxLen, cmpA, fCmpStr])
def E50 : D.Env := E49.add 139 fCompareAddrs
theorem E50ok : EOk Try.prog E50 := E49ok.add k139_49
def fSortA : GS := ⟨[.k (.sl .addr), .l (.c 139 [])], [], fun (x_ : (List SAddr) × (Unit) × Unit) => x_.1.length < 4611686018427387904, fun (x_ : (List SAddr) × (Unit) × Unit) => ((()), (sortA x_.1, ()))⟩
def laysSortA_r : Go.Shelf.Ren := ⟨fun | 0 => 0 | 1 => 1 | 2 => 2 | 6 => 138 | 14 => 171 | 15 => 172 | 20 => 197 | 21 => 198 | 22 => 199 | 23 => 200 | 24 => 201 | 25 => 202 | 26 => 203 | 27 => 204 | 28 => 205 | 29 => 206 | 46 => 213 | 47 => 214 | 48 => 215 | 49 => 216 | 50 => 217 | 57 => 220 | 60 => 221 | 61 => 222 | 62 => 223 | 63 => 224 | 64 => 225 | 65 => 226 | 66 => 227 | 67 => 228 | 68 => 229 | 69 => 230 | 70 => 231 | 71 => 232 | 72 => 233 | 73 => 234 | 74 => 235 | 75 => 236 | _ => 0, fun | 0 => 0 | 1 => 1 | 2 => 2 | 3 => 3 | 4 => 4 | 5 => 5 | 6 => 6 | 7 => 7 | 8 => 8 | 9 => 9 | 10 => 10 | 11 => 11 | 12 => 12 | 13 => 13 | 14 => 14 | 15 => 15 | 16 => 16 | 17 => 17 | 18 => 18 | 19 => 19 | 20 => 20 | 21 => 21 | 22 => 52 | 23 => 218 | 24 => 43 | 25 => 217 | 27 => 31 | 37 => 254 | 38 => 255 | 39 => 256 | 44 => 279 | 45 => 280 | 46 => 281 | 47 => 282 | 48 => 283 | 49 => 284 | 50 => 285 | 51 => 286 | 52 => 287 | 53 => 288 | 54 => 289 | 55 => 290 | 66 => 292 | 67 => 293 | 68 => 294 | 69 => 295 | 70 => 296 | 71 => 297 | 76 => 298 | 77 => 299 | 78 => 300 | 81 => 301 | 82 => 302 | 83 => 303 | 84 => 304 | 85 => 305 | 86 => 306 | 87 => 307 | 88 => 308 | 89 => 309 | 90 => 310 | 91 => 311 | 92 => 312 | 93 => 313 | 94 => 314 | 95 => 315 | 96 => 316 | _ => 0, fun _ => 0⟩
theorem laysSortA : Go.Proofs.SlLaysF0.n6 Try.prog laysSortA_r where
  mixed := by kernel_rfl
  f6 := ⟨"slices.SortFunc[[]loop.example/g00586/impl.Addr,loop.example/g00586/impl.Addr]", by decide, by kernel_rfl⟩
  f14 := ⟨"slices.pdqsortCmpFunc[loop.example/g00586/impl.Addr]", by decide, by kernel_rfl⟩
  f15 := by kernel_rfl
  f20 := ⟨"slices.insertionSortCmpFunc[loop.example/g00586/impl.Addr]", by decide, by kernel_rfl⟩
  f21 := ⟨"slices.heapSortCmpFunc[loop.example/g00586/impl.Addr]", by decide, by kernel_rfl⟩
  f22 := ⟨"slices.breakPatternsCmpFunc[loop.example/g00586/impl.Addr]", by decide, by kernel_rfl⟩
  f23 := ⟨"slices.choosePivotCmpFunc[loop.example/g00586/impl.Addr]", by decide, by kernel_rfl⟩
  f24 := ⟨"slices.reverseRangeCmpFunc[loop.example/g00586/impl.Addr]", by decide, by kernel_rfl⟩
  f25 := ⟨"slices.partialInsertionSortCmpFunc[loop.example/g00586/impl.Addr]", by decide, by kernel_rfl⟩
  f26 := ⟨"slices.partitionEqualCmpFunc[loop.example/g00586/impl.Addr]", by decide, by kernel_rfl⟩
  f27 := ⟨"slices.partitionCmpFunc[loop.example/g00586/impl.Addr]", by decide, by kernel_rfl⟩
  f28 := by kernel_rfl
  f29 := by kernel_rfl
  f46 := ⟨"slices.siftDownCmpFunc[loop.example/g00586/impl.Addr]", by decide, by kernel_rfl⟩
  f47 := by kernel_rfl
  f48 := by kernel_rfl
  f49 := ⟨"slices.medianAdjacentCmpFunc[loop.example/g00586/impl.Addr]", by decide, by kernel_rfl⟩
  f50 := ⟨"slices.medianCmpFunc[loop.example/g00586/impl.Addr]", by decide, by kernel_rfl⟩
  f57 := ⟨"slices.order2CmpFunc[loop.example/g00586/impl.Addr]", by decide, by kernel_rfl⟩
  t0 := by kernel_rfl
  a0 := fun _ => by kernel_rfl
  z0 := fun _ => by kernel_rfl
  v0 := fun _ => by kernel_rfl
  t3 := by kernel_rfl
  a3 := fun _ => by kernel_rfl
  z3 := fun _ => by kernel_rfl
  v3 := fun _ => by kernel_rfl
  t4 := by kernel_rfl
  a4 := fun _ => by kernel_rfl
  z4 := fun _ => by kernel_rfl
  v4 := fun _ => by kernel_rfl
  t5 := by kernel_rfl
  a5 := fun _ => by kernel_rfl
  z5 := fun _ => by kernel_rfl
  v5 := fun _ => by kernel_rfl
  t9 := by kernel_rfl
  a9 := fun _ => by kernel_rfl
  z9 := fun _ => by kernel_rfl
  v9 := fun _ => by kernel_rfl
  t22 := by kernel_rfl
  a22 := fun _ => by kernel_rfl
  z22 := fun _ => by kernel_rfl
  v22 := fun _ => by kernel_rfl
  t25 := by kernel_rfl
  a25 := fun _ => by kernel_rfl
  z25 := fun _ => by kernel_rfl
  v25 := fun _ => by kernel_rfl
  t39 := by kernel_rfl
  a39 := fun _ => by kernel_rfl
  z39 := fun _ => by kernel_rfl
  v39 := fun _ => by kernel_rfl
  t45 := by kernel_rfl
  a45 := fun _ => by kernel_rfl
  z45 := fun _ => by kernel_rfl
  v45 := fun _ => by kernel_rfl
  t46 := by kernel_rfl
  a46 := fun _ => by kernel_rfl
  z46 := fun _ => by kernel_rfl
  v46 := fun _ => by kernel_rfl
  t50 := by kernel_rfl
  a50 := fun _ => by kernel_rfl
  z50 := fun _ => by kernel_rfl
  v50 := fun _ => by kernel_rfl
  t53 := by kernel_rfl
  a53 := fun _ => by kernel_rfl
  z53 := fun _ => by kernel_rfl
  v53 := fun _ => by kernel_rfl
  t55 := by kernel_rfl
  a55 := fun _ => by kernel_rfl
  z55 := fun _ => by kernel_rfl
  v55 := fun _ => by kernel_rfl
  t66 := by kernel_rfl
  a66 := fun _ => by kernel_rfl
  z66 := fun _ => by kernel_rfl
  v66 := fun _ => by kernel_rfl
  t70 := by kernel_rfl
  a70 := fun _ => by kernel_rfl
  z70 := fun _ => by kernel_rfl
  v70 := fun _ => by kernel_rfl
  t76 := by kernel_rfl
  a76 := fun _ => by kernel_rfl
  z76 := fun _ => by kernel_rfl
  v76 := fun _ => by kernel_rfl
  t77 := by kernel_rfl
  a77 := fun _ => by kernel_rfl
  z77 := fun _ => by kernel_rfl
  v77 := fun _ => by kernel_rfl
-- slices.SortFunc[[]impl.Addr,impl.Addr]
theorem k138_50 : fSortA.ok Try.prog 138 :=
  sort_ok_ (cf := cmpA) laysSortA rfl (fun _ => by kernel_rfl) (fun _ => by kernel_rfl) swoA totA (enters_of Try.func139 (by kernel_rfl) rfl) k139_49
def E51 : D.Env := E50.addG 138 fSortA
theorem E51ok : EOk Try.prog E51 := E50ok.addG k138_50
def fCompactA : GS := ⟨[.g (.sl .addr)], [.sl .addr], fun (x_ : (List SAddr) × Unit) => x_.1.length ≤ 1000000000000, fun (x_ : (List SAddr) × Unit) => ((dedupA x_.1, ()), (()))⟩
abbrev W_slices_Compact_impl_Addr_impl_Addr_fCompactA_4 (s : (List SAddr)) : LInv := ⟨[⟨.s, 3, true, .el .int⟩, ⟨.t, 0, true, .sl .addr⟩], fun _ (x_ : Int × (List SAddr) × Unit) => 1 ≤ x_.1 ∧ x_.1 ≤ s.length ∧ x_.2.1 = s ∧ dedupA (s.take x_.1.toNat) = s.take x_.1.toNat, fun (x_ : Int × (List SAddr) × Unit) => s.length - x_.1.toNat⟩
abbrev W_slices_Compact_impl_Addr_impl_Addr_fCompactA_9 (s : (List SAddr)) : LInv := ⟨[⟨.s, 3, true, .el .int⟩, ⟨.s, 5, true, .el .int⟩, ⟨.t, 0, true, .sl .addr⟩], fun (z_ : Int × Int × (List SAddr) × Unit) (x_ : Int × Int × (List SAddr) × Unit) => CompInv s x_.2.2.1 z_.1 x_.1 x_.2.1, fun (x_ : Int × Int × (List SAddr) × Unit) => s.length - x_.2.1.toNat⟩
-- slices.Compact[[]impl.Addr,impl.Addr]
set_option maxHeartbeats 2000000 in
theorem k140_51 : fCompactA.ok Try.prog 140 := GS.of (S := fCompactA) (L := fun ⟨s, _⟩ => fun | 4 => some (W_slices_Compact_impl_Addr_impl_Addr_fCompactA_4 s) | 9 => some (W_slices_Compact_impl_Addr_impl_Addr_fCompactA_9 s) | _ => none) (kp := [0,2,3,4,5,8,13,25,32,44,1000008,1000013,1000025,1000032,1000044]) E51ok Try.func140 (by kernel_rfl) (by kernel_rfl) (by
  rintro ⟨(s : List SAddr), _⟩ hp
  refine holds_of (X := .br (decide ((↑s.length : Int) < (2 : Int)))
 (GS.out fCompactA ((s, ()), (())))
 (lpx (W_slices_Compact_impl_Addr_impl_Addr_fCompactA_4 s) ((1 : Int), (s, ())) fun (y2 : Int × List SAddr × PUnit) bk2 =>
  .br (decide (y2.fst < (↑y2.snd.fst.length : Int)))
   (.ob ((0 : Int) ≤ y2.fst ∧ y2.fst < (↑y2.snd.fst.length : Int)) <|
    .ob (y2.fst.toNat < y2.snd.fst.length) <|
    .ob ((0 : Int) ≤ IntKind.i64.wrap (y2.fst - (1 : Int)) ∧ IntKind.i64.wrap (y2.fst - (1 : Int)) < (↑y2.snd.fst.length : Int)) <|
    .ob ((IntKind.i64.wrap (y2.fst - (1 : Int))).toNat < y2.snd.fst.length) <|
    .br ((y2.snd.fst.getD y2.fst.toNat default).host ==
    (y2.snd.fst.getD (IntKind.i64.wrap (y2.fst - (1 : Int))).toNat default).host &&
  ((y2.snd.fst.getD y2.fst.toNat default).path ==
      (y2.snd.fst.getD (IntKind.i64.wrap (y2.fst - (1 : Int))).toNat default).path &&
    true))
    (.ob ((0 : Int) ≤ y2.fst ∧ y2.fst ≤ (↑y2.snd.fst.length : Int)) <|
     lpx (W_slices_Compact_impl_Addr_impl_Addr_fCompactA_9 s) (y2.fst, ((1 : Int), (y2.snd.fst, ()))) fun (y10 : Int × Int × List SAddr × PUnit) bk10 =>
     .br (decide (y10.snd.fst < (↑(y2.snd.fst.length - y2.fst.toNat) : Int)))
      (.ob ((0 : Int) ≤ y10.snd.fst ∧ y10.snd.fst < (↑(y2.snd.fst.length - y2.fst.toNat) : Int)) <|
       .ob (y2.fst.toNat + y10.snd.fst.toNat < y10.snd.snd.fst.length) <|
       .ob ((0 : Int) ≤ IntKind.i64.wrap (y10.snd.fst - (1 : Int)) ∧
  IntKind.i64.wrap (y10.snd.fst - (1 : Int)) < (↑(y2.snd.fst.length - y2.fst.toNat) : Int)) <|
       .ob (y2.fst.toNat + (IntKind.i64.wrap (y10.snd.fst - (1 : Int))).toNat < y10.snd.snd.fst.length) <|
       .br (!((y10.snd.snd.fst.getD (y2.fst.toNat + y10.snd.fst.toNat) default).host ==
      (y10.snd.snd.fst.getD (y2.fst.toNat + (IntKind.i64.wrap (y10.snd.fst - (1 : Int))).toNat) default).host &&
    ((y10.snd.snd.fst.getD (y2.fst.toNat + y10.snd.fst.toNat) default).path ==
        (y10.snd.snd.fst.getD (y2.fst.toNat + (IntKind.i64.wrap (y10.snd.fst - (1 : Int))).toNat) default).path &&
      true)))
       (.ob ((0 : Int) ≤ y10.snd.fst ∧ y10.snd.fst < (↑(y2.snd.fst.length - y2.fst.toNat) : Int)) <|
        .ob (y2.fst.toNat + y10.snd.fst.toNat < y10.snd.snd.fst.length) <|
        .ob ((0 : Int) ≤ y10.fst ∧ y10.fst < (↑y10.snd.snd.fst.length : Int)) <|
        .ob (y10.fst.toNat < y10.snd.snd.fst.length) <|
        .lt (List SAddr) (y10.snd.snd.fst.modify y10.fst.toNat fun z => y10.snd.snd.fst.getD (y2.fst.toNat + y10.snd.fst.toNat) default) fun z2 =>
        .ob (y2.fst.toNat = y2.fst.toNat) <|
         .ob (y2.snd.fst.length - y2.fst.toNat = y2.snd.fst.length - y2.fst.toNat) <|
         .ob (bk10 (IntKind.i64.wrap (y10.fst + (1 : Int)), (IntKind.i64.wrap (y10.snd.fst + (1 : Int)), (z2, ())))) <|
         .ok)
       (.ob (y2.fst.toNat = y2.fst.toNat) <|
        .ob (y2.snd.fst.length - y2.fst.toNat = y2.snd.fst.length - y2.fst.toNat) <|
        .ob (bk10 (y10.fst, (IntKind.i64.wrap (y10.snd.fst + (1 : Int)), (y10.snd.snd.fst, ())))) <|
        .ok))
      (.ob ((0 : Int) ≤ y10.fst ∧ y10.fst ≤ (↑y10.snd.snd.fst.length : Int)) <|
       .ob (y10.fst.toNat + (y10.snd.snd.fst.length - y10.fst.toNat) ≤ y10.snd.snd.fst.length) <|
       .ob ((0 : Int) ≤ y10.fst ∧
  y10.fst ≤
    (↑(put3 y10.snd.snd.fst y10.fst.toNat (List.replicate (y10.snd.snd.fst.length - y10.fst.toNat) default)).length :
      Int)) <|
       .ob ((0 : Nat) + (y10.fst.toNat - (0 : Nat)) ≤
  (put3 y10.snd.snd.fst y10.fst.toNat (List.replicate (y10.snd.snd.fst.length - y10.fst.toNat) default)).length) <|
       GS.out fCompactA ((cut (put3 y10.snd.snd.fst y10.fst.toNat (List.replicate (y10.snd.snd.fst.length - y10.fst.toNat) default)) (0 : Nat)
  (y10.fst.toNat - (0 : Nat)), ()), (()))))
    (.ob (bk2 (IntKind.i64.wrap (y2.fst + (1 : Int)), (y2.snd.fst, ()))) <|
     .ok))
   (GS.out fCompactA ((y2.snd.fst, ()), (()))))) (by kernel_rfl) ?_
  refine br_i (fun h1 => GS.leafY ?_) (fun h1 => lpx_i ?_ fun (y2 : Int × List SAddr × PUnit) i2 => br_i (fun h3 => ob_i ?_ fun o4 => ob_i ?_ fun o5 => ob_i ?_ fun o6 => ob_i ?_ fun o7 => br_i (fun h8 => ob_i ?_ fun o9 => lpx_i ?_ fun (y10 : Int × Int × List SAddr × PUnit) i10 => br_i (fun h11 => ob_i ?_ fun o12 => ob_i ?_ fun o13 => ob_i ?_ fun o14 => ob_i ?_ fun o15 => br_i (fun h16 => ob_i ?_ fun o17 => ob_i ?_ fun o18 => ob_i ?_ fun o19 => ob_i ?_ fun o20 => lt_i (ob_i rfl fun _ => ob_i rfl fun _ => ob_i ?_ fun o21 => trivial)) (fun h16 => ob_i rfl fun _ => ob_i rfl fun _ => ob_i ?_ fun o22 => trivial)) (fun h11 => ob_i ?_ fun o23 => ob_i ?_ fun o24 => ob_i ?_ fun o25 => ob_i ?_ fun o26 => GS.leafY ?_)) (fun h8 => ob_i ?_ fun o27 => trivial)) (fun h3 => GS.leafY ?_))
  all_goals try simp only [beqAddr] at *
  all_goals try have cI := i10
  all_goals try (obtain ⟨c1, c2, c3, c4, c5, c6, c7, c8⟩ := cI; clear c7 c8)
  all_goals try (obtain ⟨d1, d2, d3, d4⟩ := i2; simp only [d3] at *)
  all_goals try simp only [decide_eq_true_eq, decide_eq_false_iff_not, Bool.not_eq_true', Bool.not_eq_false', bne_iff_ne, bne_eq_false_iff_eq, beq_iff_eq, beq_eq_false_iff_ne, baEq, Int.not_lt, Int.not_le, ne_eq, Decidable.not_not] at *
  all_goals try simp only [W_slices_Compact_impl_Addr_impl_Addr_fCompactA_4, W_slices_Compact_impl_Addr_impl_Addr_fCompactA_9, fCompactA, etaToken, etaNode, etaBuilder, etaPolicy, etaPage, etaVisit, etaTab, etaServer, etaCache, etaNet, etaLoader, etaSheet, etaResult, etaSlot, etaModule, etaAddr, etaRequest, etaResponse, etaConn, etaGuess, etaEntry, etaSent, etaFile, baSz, List.size_toArray, List.length_cons, List.length_nil, Nat.reduceAdd, Int.toNat_zero, List.drop_zero, decide_eq_true_eq, decide_eq_false_iff_not, Bool.not_eq_true', Bool.not_eq_false', bne_iff_ne, bne_eq_false_iff_eq, beq_iff_eq, beq_eq_false_iff_ne, Bool.not_eq_true, Bool.not_eq_false, ne_eq, Decidable.not_not, baEq, decide_not, Prod.mk.injEq, and_true, true_and, Room, List.nil_append, Nat.zero_add, Int.not_lt, Int.not_le] at *
  all_goals try simp (disch := omega) only [wrapId'] at *
  all_goals try simp only [put3_len (e := y10.1.toNat) (xs := y10.2.2.1) (ys := List.replicate (y10.2.2.1.length - y10.1.toNat) default) (by simp; omega)] at *
  all_goals first | trivial | omega | skip
  · exact (dedupA_one _ (by omega)).symm
  · exact ⟨by omega, by omega, dedupA_one _ (by simp; omega)⟩
  · exact comp_entry d1 (by omega) d4 h8
  · exact ⟨comp_put i10 (by omega) h16, by omega⟩
  · exact ⟨comp_skip i10 (by omega) h16, by omega⟩
  · exact comp_end i10 (by omega) _
  · exact ⟨⟨by omega, by omega, comp_next d1 (by omega) d4 h8⟩, by omega⟩
  · rw [List.take_of_length_le (by omega)] at d4
    exact d4.symm)
def E52 : D.Env := E51.addG 140 fCompactA
theorem E52ok : EOk Try.prog E52 := E51ok.addG k140_51
def fSortAddrs : Fct := ⟨[.v (.sl .addr)], [.sl .addr], fun (x_ : (List SAddr) × Unit) => x_.1.length ≤ 1000000000000, fun (x_ : (List SAddr) × Unit) => (sortAddrs x_.1, ())⟩
-- impl.SortAddrs
theorem k88_52 : fSortAddrs.ok Try.prog 88 := Fct.of (S := fSortAddrs) (L := fun _ _ => none) (kp := [0,2,3]) E52ok Try.func88 (by kernel_rfl) (by kernel_rfl) (by
  rintro ⟨(l : List SAddr), _⟩ hp
  refine holds_of (X := .ob (True) <|
 .ob (Room ((0 : Nat) + List.length l) (32 : Nat)) <|
 .ob (fSortA.pre ([] ++ l, (), ())) <|
 .lt (PUnit × List SAddr × PUnit) (fSortA.fn ([] ++ l, (), ())) fun z2 =>
 .ob (fCompactA.pre (z2.snd.fst, ())) <|
  .lt ((List SAddr × PUnit) × PUnit) (fCompactA.fn (z2.snd.fst, ())) fun z3 =>
  .leaf (mkR fSortAddrs.rs (z3.fst.fst, ())) [] []) (by kernel_rfl) ?_
  refine ob_i trivial fun _ => ob_i ?_ fun o1 => ob_i ?_ fun o2 => lt_i (ob_i ?_ fun o3 => lt_i (Fct.leafY ?_))
  all_goals have hl1 : (sortA l).length = l.length := (List.mergeSort_perm _ _).length_eq
  all_goals try simp only [decide_eq_true_eq, decide_eq_false_iff_not, Bool.not_eq_true', Bool.not_eq_false', bne_iff_ne, bne_eq_false_iff_eq, beq_iff_eq, beq_eq_false_iff_ne, baEq, Int.not_lt, Int.not_le, ne_eq, Decidable.not_not] at *
  all_goals try simp only [fCompactA, fSortA, fSortAddrs, etaToken, etaNode, etaBuilder, etaPolicy, etaPage, etaVisit, etaTab, etaServer, etaCache, etaNet, etaLoader, etaSheet, etaResult, etaSlot, etaModule, etaAddr, etaRequest, etaResponse, etaConn, etaGuess, etaEntry, etaSent, etaFile, baSz, List.size_toArray, List.length_cons, List.length_nil, Nat.reduceAdd, Int.toNat_zero, List.drop_zero, decide_eq_true_eq, decide_eq_false_iff_not, Bool.not_eq_true', Bool.not_eq_false', bne_iff_ne, bne_eq_false_iff_eq, beq_iff_eq, beq_eq_false_iff_ne, Bool.not_eq_true, Bool.not_eq_false, ne_eq, Decidable.not_not, baEq, decide_not, Prod.mk.injEq, and_true, true_and, Room, List.nil_append, Nat.zero_add, Int.not_lt, Int.not_le, sortAddrs] at *
  all_goals try simp (disch := omega) only [wrapId', toNat1] at *
  all_goals try simp (disch := omega) only [if_pos, if_neg]
  all_goals first | trivial | omega | grind [wrapId', toNat1, drop_cons, drop_end, good_len, maxLen, sortAddrs])
def E53 : D.Env := E52.add 88 fSortAddrs
theorem E53ok : EOk Try.prog E53 := E52ok.add k88_52
abbrev W_spec_SortAddrs_fSortAddrs_3 (l : (List SAddr)) : LInv := ⟨[⟨.s, 3, true, .sl .addr⟩, ⟨.s, 4, true, .el .int⟩], fun _ (x_ : (List SAddr) × Int × Unit) => 0 ≤ x_.2.1 ∧ x_.2.1 ≤ l.length ∧ x_.1.length ≤ x_.2.1 ∧ Strict x_.1 ∧ (∀ m, m ∈ x_.1 ↔ m ∈ l.take x_.2.1.toNat), fun (x_ : (List SAddr) × Int × Unit) => l.length - x_.2.1.toNat⟩
abbrev W_spec_SortAddrs_fSortAddrs_7 (l : (List SAddr)) : LInv := ⟨[⟨.s, 5, true, .el .int⟩, ⟨.s, 4, true, .el .int⟩, ⟨.s, 3, true, .sl .addr⟩], fun (z_ : Int × Int × (List SAddr) × Unit) (x_ : Int × Int × (List SAddr) × Unit) => 0 ≤ x_.1 ∧ x_.1 ≤ x_.2.2.1.length ∧ x_.2.1 = z_.2.1 ∧ x_.2.2.1 = z_.2.2.1 ∧ ∀ y ∈ x_.2.2.1.drop x_.1.toNat, cmpA (l.getD x_.2.1.toNat default) y < 0, fun (x_ : Int × Int × (List SAddr) × Unit) => x_.1.toNat⟩
-- spec.SortAddrs
set_option maxHeartbeats 2000000 in
theorem k87_53 : fSortAddrs.ok Try.prog 87 := Fct.of (S := fSortAddrs) (L := fun ⟨l, _⟩ => fun | 3 => some (W_spec_SortAddrs_fSortAddrs_3 l) | 7 => some (W_spec_SortAddrs_fSortAddrs_7 l) | _ => none) (kp := [0,2,3,4,5,6,11,19,36,1000011,1000019,1000036]) E53ok Try.func87 (by kernel_rfl) (by kernel_rfl) (by
  rintro ⟨(l : List SAddr), _⟩ hp
  refine holds_of (X := lpx (W_spec_SortAddrs_fSortAddrs_3 l) ([], ((0 : Int), ())) fun (y1 : List SAddr × Int × PUnit) bk1 =>
 .br (decide (y1.snd.fst < (↑l.length : Int)))
  (.ob ((0 : Int) ≤ y1.snd.fst ∧ y1.snd.fst < (↑l.length : Int)) <|
   .ob (fHasAddr.pre (y1.fst, l.getD y1.snd.fst.toNat default, ())) <|
   .lt (Bool × PUnit) (fHasAddr.fn (y1.fst, l.getD y1.snd.fst.toNat default, ())) fun z2 =>
   .br (z2.fst)
    (.ob (l = l) <|
     .ob (bk1 (y1.fst, (IntKind.i64.wrap (y1.snd.fst + (1 : Int)), ()))) <|
     .ok)
    (lpx (W_spec_SortAddrs_fSortAddrs_7 l) ((↑y1.fst.length : Int), (y1.snd.fst, (y1.fst, ()))) fun (y7 : Int × Int × List SAddr × PUnit) bk7 =>
     .br (decide (y7.fst > (0 : Int)))
      (.ob ((0 : Int) ≤ y7.snd.fst ∧ y7.snd.fst < (↑l.length : Int)) <|
       .ob ((0 : Int) ≤ IntKind.i64.wrap (y7.fst - (1 : Int)) ∧
  IntKind.i64.wrap (y7.fst - (1 : Int)) < (↑y7.snd.snd.fst.length : Int)) <|
       .ob ((IntKind.i64.wrap (y7.fst - (1 : Int))).toNat < y7.snd.snd.fst.length) <|
       .ob (fCompareAddrs.pre
  (l.getD y7.snd.fst.toNat default, y7.snd.snd.fst.getD (IntKind.i64.wrap (y7.fst - (1 : Int))).toNat default, ())) <|
       .lt (Int × PUnit) (fCompareAddrs.fn
  (l.getD y7.snd.fst.toNat default, y7.snd.snd.fst.getD (IntKind.i64.wrap (y7.fst - (1 : Int))).toNat default, ())) fun z3 =>
       .br (decide (z3.fst < (0 : Int)))
        (.ob (l = l) <|
         .ob (bk7 (IntKind.i64.wrap (y7.fst - (1 : Int)), (y7.snd.fst, (y7.snd.snd.fst, ())))) <|
         .ok)
        (.ob ((0 : Int) ≤ y7.fst ∧ y7.fst ≤ (↑y7.snd.snd.fst.length : Int)) <|
         .ob ((0 : Nat) + (y7.fst.toNat - (0 : Nat)) ≤ y7.snd.snd.fst.length) <|
         .ob (Room ((0 : Nat) + (cut y7.snd.snd.fst (0 : Nat) (y7.fst.toNat - (0 : Nat))).length) (32 : Nat)) <|
         .ob ((0 : Int) ≤ y7.snd.fst ∧ y7.snd.fst < (↑l.length : Int)) <|
         .ob (True) <|
         .ob (Room (([] ++ cut y7.snd.snd.fst (0 : Nat) (y7.fst.toNat - (0 : Nat))).length + [l.getD y7.snd.fst.toNat default].length)
  (32 : Nat)) <|
         .ob ((0 : Int) ≤ y7.fst ∧ y7.fst ≤ (↑y7.snd.snd.fst.length : Int)) <|
         .ob (y7.fst.toNat + (y7.snd.snd.fst.length - y7.fst.toNat) ≤ y7.snd.snd.fst.length) <|
         .ob (Room
  (([] ++ cut y7.snd.snd.fst (0 : Nat) (y7.fst.toNat - (0 : Nat)) ++ [l.getD y7.snd.fst.toNat default]).length +
    (cut y7.snd.snd.fst y7.fst.toNat (y7.snd.snd.fst.length - y7.fst.toNat)).length)
  (32 : Nat)) <|
         .ob (l = l) <|
         .ob (bk1 ([] ++ cut y7.snd.snd.fst (0 : Nat) (y7.fst.toNat - (0 : Nat)) ++ [l.getD y7.snd.fst.toNat default] ++
  cut y7.snd.snd.fst y7.fst.toNat (y7.snd.snd.fst.length - y7.fst.toNat), (IntKind.i64.wrap (y7.snd.fst + (1 : Int)), ()))) <|
         .ok))
      (.ob ((0 : Int) ≤ y7.fst ∧ y7.fst ≤ (↑y7.snd.snd.fst.length : Int)) <|
       .ob ((0 : Nat) + (y7.fst.toNat - (0 : Nat)) ≤ y7.snd.snd.fst.length) <|
       .ob (Room ((0 : Nat) + (cut y7.snd.snd.fst (0 : Nat) (y7.fst.toNat - (0 : Nat))).length) (32 : Nat)) <|
       .ob ((0 : Int) ≤ y7.snd.fst ∧ y7.snd.fst < (↑l.length : Int)) <|
       .ob (True) <|
       .ob (Room (([] ++ cut y7.snd.snd.fst (0 : Nat) (y7.fst.toNat - (0 : Nat))).length + [l.getD y7.snd.fst.toNat default].length)
  (32 : Nat)) <|
       .ob ((0 : Int) ≤ y7.fst ∧ y7.fst ≤ (↑y7.snd.snd.fst.length : Int)) <|
       .ob (y7.fst.toNat + (y7.snd.snd.fst.length - y7.fst.toNat) ≤ y7.snd.snd.fst.length) <|
       .ob (Room
  (([] ++ cut y7.snd.snd.fst (0 : Nat) (y7.fst.toNat - (0 : Nat)) ++ [l.getD y7.snd.fst.toNat default]).length +
    (cut y7.snd.snd.fst y7.fst.toNat (y7.snd.snd.fst.length - y7.fst.toNat)).length)
  (32 : Nat)) <|
       .ob (l = l) <|
       .ob (bk1 ([] ++ cut y7.snd.snd.fst (0 : Nat) (y7.fst.toNat - (0 : Nat)) ++ [l.getD y7.snd.fst.toNat default] ++
  cut y7.snd.snd.fst y7.fst.toNat (y7.snd.snd.fst.length - y7.fst.toNat), (IntKind.i64.wrap (y7.snd.fst + (1 : Int)), ()))) <|
       .ok)))
  (.leaf (mkR fSortAddrs.rs (y1.fst, ())) [] [])) (by kernel_rfl) ?_
  refine lpx_i ?_ fun (y1 : List SAddr × Int × PUnit) i1 => br_i (fun h2 => ob_i ?_ fun o3 => ob_i ?_ fun o4 => lt_i (br_i (fun h5 => ob_i rfl fun _ => ob_i ?_ fun o6 => trivial) (fun h5 => lpx_i ?_ fun (y7 : Int × Int × List SAddr × PUnit) i7 => br_i (fun h8 => ob_i ?_ fun o9 => ob_i ?_ fun o10 => ob_i ?_ fun o11 => ob_i trivial fun _ => lt_i (br_i (fun h12 => ob_i rfl fun _ => ob_i ?_ fun o13 => trivial) (fun h12 => ob_i ?_ fun o14 => ob_i ?_ fun o15 => ob_i ?_ fun o16 => ob_i ?_ fun o17 => ob_i trivial fun _ => ob_i ?_ fun o18 => ob_i ?_ fun o19 => ob_i ?_ fun o20 => ob_i ?_ fun o21 => ob_i rfl fun _ => ob_i ?_ fun o22 => trivial))) (fun h8 => ob_i ?_ fun o23 => ob_i ?_ fun o24 => ob_i ?_ fun o25 => ob_i ?_ fun o26 => ob_i trivial fun _ => ob_i ?_ fun o27 => ob_i ?_ fun o28 => ob_i ?_ fun o29 => ob_i ?_ fun o30 => ob_i rfl fun _ => ob_i ?_ fun o31 => trivial)))) (fun h2 => Fct.leafY ?_)
  all_goals try simp only [decide_eq_true_eq, decide_eq_false_iff_not, Bool.not_eq_true', Bool.not_eq_false', bne_iff_ne, bne_eq_false_iff_eq, beq_iff_eq, beq_eq_false_iff_ne, baEq, Int.not_lt, Int.not_le, ne_eq, Decidable.not_not] at *
  all_goals try simp only [W_spec_SortAddrs_fSortAddrs_3, W_spec_SortAddrs_fSortAddrs_7, fCompareAddrs, fHasAddr, fSortAddrs, etaToken, etaNode, etaBuilder, etaPolicy, etaPage, etaVisit, etaTab, etaServer, etaCache, etaNet, etaLoader, etaSheet, etaResult, etaSlot, etaModule, etaAddr, etaRequest, etaResponse, etaConn, etaGuess, etaEntry, etaSent, etaFile, baSz, List.size_toArray, List.length_cons, List.length_nil, Nat.reduceAdd, Int.toNat_zero, List.drop_zero, decide_eq_true_eq, decide_eq_false_iff_not, Bool.not_eq_true', Bool.not_eq_false', bne_iff_ne, bne_eq_false_iff_eq, beq_iff_eq, beq_eq_false_iff_ne, Bool.not_eq_true, Bool.not_eq_false, ne_eq, Decidable.not_not, baEq, decide_not, Prod.mk.injEq, and_true, true_and, Room, List.nil_append, Nat.zero_add, Int.not_lt, Int.not_le] at *
  all_goals try (obtain ⟨c1, c2, c3, c4, c5⟩ := i1)
  all_goals try (obtain ⟨d1, d2, d3, d4, d5⟩ := i7; simp only [d3, d4] at *)
  all_goals try simp (disch := omega) only [wrapId', toNat1] at *
  all_goals try rw [show (y7.1 - 1).toNat = y7.1.toNat - 1 by omega] at *
  all_goals try have k1 : (cut y1.1 0 (y7.1.toNat - 0)).length = y7.1.toNat := len_cut (by omega)
  all_goals try have k2 : (cut y1.1 y7.1.toNat (y1.1.length - y7.1.toNat)).length = y1.1.length - y7.1.toNat := len_cut (by omega)
  all_goals try simp only [List.length_append, List.length_cons, List.length_nil] at *
  all_goals first | trivial | omega | skip
  · exact ⟨by omega, by omega, by simp, List.Pairwise.nil, by simp⟩
  · exact ⟨⟨by omega, by omega, by omega, c4, any_mem (by omega) c5 h5⟩, by omega⟩
  · exact ⟨by omega, by omega, by simp⟩
  · exact ⟨⟨by omega, by omega, trivial, trivial, drop_step (by omega) (by omega) h12 d5⟩, by omega⟩
  · obtain ⟨p1, p2, p3⟩ := insA_inv (l := l) (out := y1.1) (i := y1.2.1.toNat) (a := y7.1.toNat) (by omega) (by omega) c4 c5 h5 (.inr (by omega)) d5
    exact ⟨⟨by omega, by omega, by omega, p2, p3⟩, by omega⟩
  · obtain ⟨p1, p2, p3⟩ := insA_inv (l := l) (out := y1.1) (i := y1.2.1.toNat) (a := y7.1.toNat) (by omega) (by omega) c4 c5 h5 (.inl (by omega)) d5
    exact ⟨⟨by omega, by omega, by omega, p2, p3⟩, by omega⟩
  · exact sortAddrs_unique c4 (fun x => by rw [c5, List.take_of_length_le (by omega)]))
def E54 : D.Env := E53.add 87 fSortAddrs
theorem E54ok : EOk Try.prog E54 := E53ok.add k87_53
def tosAt (h : ByteArray) : List SSent → List SAddr
  | [] => []
  | s :: l => if s.to.host = h then s.to :: tosAt h l else tosAt h l
theorem tosAt_at {l : List SSent} {i : Nat} (h : ByteArray) (hi : i < l.length) : tosAt h (l.drop i) = if (l.getD i default).to.host = h then (l.getD i default).to :: tosAt h (l.drop (i + 1)) else tosAt h (l.drop (i + 1)) := by rw [drop_cons hi]; rfl
theorem tosAt_end {l : List SSent} {i : Nat} (h : ByteArray) (hi : l.length ≤ i) : tosAt h (l.drop i) = [] := by rw [List.drop_of_length_le hi]; rfl
theorem tosAt_len (h : ByteArray) (l : List SSent) : (tosAt h l).length ≤ l.length := by
  induction l with
  | nil => simp [tosAt]
  | cons s l ih => simp only [tosAt]; split <;> simp only [List.length_cons] <;> omega
def learnedBy (b a : SNet) (h : ByteArray) : List SAddr := sortAddrs (tosAt h (a.log.drop b.log.length))
theorem learnedBy_len (b a : SNet) (h : ByteArray) : (learnedBy b a h).length ≤ a.log.length := by
  have h1 := sortAddrs_len (tosAt h (a.log.drop b.log.length))
  have h2 := tosAt_len h (a.log.drop b.log.length)
  simp only [List.length_drop] at h2
  unfold learnedBy; omega
def fLearnedBy : Fct := ⟨[.v (.el .net), .v (.el .net), .v (.el .str)], [.sl .addr], fun (x_ : SNet × SNet × ByteArray × Unit) => x_.2.1.log.length ≤ 1048576 ∧ x_.1.log.length ≤ 1048576, fun (x_ : SNet × SNet × ByteArray × Unit) => (learnedBy x_.1 x_.2.1 x_.2.2.1, ())⟩
abbrev W_spec_LearnedBy_fLearnedBy_3 (b : SNet) (a : SNet) (h : ByteArray) : LInv := ⟨[⟨.s, 7, true, .sl .addr⟩, ⟨.s, 8, true, .el .int⟩, ⟨.b, 4, false, .el .net⟩], fun (z_ : (List SAddr) × Int × SNet × Unit) (x_ : (List SAddr) × Int × SNet × Unit) => (b.log.length ≤ x_.2.1 ∧ (x_.2.1 ≤ a.log.length ∨ x_.2.1 = b.log.length) ∧ x_.1.length ≤ x_.2.1 ∧ sortAddrs (x_.1 ++ tosAt h (a.log.drop x_.2.1.toNat)) = learnedBy b a h) ∧ x_.2.2.1 = z_.2.2.1, fun (x_ : (List SAddr) × Int × SNet × Unit) => a.log.length - x_.2.1.toNat⟩
-- spec.LearnedBy
theorem k23_54 : fLearnedBy.ok Try.prog 23 := Fct.of (S := fLearnedBy) (L := fun ⟨b, a, h, _⟩ => fun | 3 => some (W_spec_LearnedBy_fLearnedBy_3 b a h) | _ => none) (kp := [2,3,4,6,7,8,17,28,1000017,1000028]) E54ok Try.func23 (by kernel_rfl) (by kernel_rfl) (by
  rintro ⟨(b : SNet), (a : SNet), (h : ByteArray), _⟩ hp
  refine holds_of (X := lpx (W_spec_LearnedBy_fLearnedBy_3 b a h) ([], ((↑b.log.length : Int), (a, ()))) fun (y1 : List SAddr × Int × SNet × PUnit) bk1 =>
 .br (decide (y1.snd.fst < (↑y1.snd.snd.fst.log.length : Int)))
  (.ob ((0 : Int) ≤ y1.snd.fst ∧ y1.snd.fst < (↑y1.snd.snd.fst.log.length : Int)) <|
   .br ((y1.snd.snd.fst.log.getD y1.snd.fst.toNat default).to.host.toList == h.toList)
   (.ob ((0 : Int) ≤ y1.snd.fst ∧ y1.snd.fst < (↑y1.snd.snd.fst.log.length : Int)) <|
    .ob (True) <|
    .ob (Room (y1.fst.length + [(y1.snd.snd.fst.log.getD y1.snd.fst.toNat default).to].length) (32 : Nat)) <|
    .ob (Value.string h = Value.string h) <|
    .ob (bk1 (y1.fst ++ [(y1.snd.snd.fst.log.getD y1.snd.fst.toNat default).to], (IntKind.i64.wrap (y1.snd.fst + (1 : Int)), (y1.snd.snd.fst, ())))) <|
    .ok)
   (.ob (Value.string h = Value.string h) <|
    .ob (bk1 (y1.fst, (IntKind.i64.wrap (y1.snd.fst + (1 : Int)), (y1.snd.snd.fst, ())))) <|
    .ok))
  (.ob (fSortAddrs.pre (y1.fst, ())) <|
   .lt (List SAddr × PUnit) (fSortAddrs.fn (y1.fst, ())) fun z2 =>
   .leaf (mkR fLearnedBy.rs (z2.fst, ())) [] [])) (by kernel_rfl) ?_
  refine lpx_i ?_ fun (y1 : List SAddr × Int × SNet × PUnit) i1 => br_i (fun h2 => ob_i ?_ fun o3 => br_i (fun h4 => ob_i ?_ fun o5 => ob_i trivial fun _ => ob_i ?_ fun o6 => ob_i rfl fun _ => ob_i ?_ fun o7 => trivial) (fun h4 => ob_i rfl fun _ => ob_i ?_ fun o8 => trivial)) (fun h2 => ob_i ?_ fun o9 => lt_i (Fct.leafY ?_))
  all_goals try simp only [decide_eq_true_eq, decide_eq_false_iff_not, Bool.not_eq_true', Bool.not_eq_false', bne_iff_ne, bne_eq_false_iff_eq, beq_iff_eq, beq_eq_false_iff_ne, baEq, Int.not_lt, Int.not_le, ne_eq, Decidable.not_not] at *
  all_goals try simp only [W_spec_LearnedBy_fLearnedBy_3, fLearnedBy, fSortAddrs, etaToken, etaNode, etaBuilder, etaPolicy, etaPage, etaVisit, etaTab, etaServer, etaCache, etaNet, etaLoader, etaSheet, etaResult, etaSlot, etaModule, etaAddr, etaRequest, etaResponse, etaConn, etaGuess, etaEntry, etaSent, etaFile, baSz, List.size_toArray, List.length_cons, List.length_nil, Nat.reduceAdd, Int.toNat_zero, List.drop_zero, decide_eq_true_eq, decide_eq_false_iff_not, Bool.not_eq_true', Bool.not_eq_false', bne_iff_ne, bne_eq_false_iff_eq, beq_iff_eq, beq_eq_false_iff_ne, Bool.not_eq_true, Bool.not_eq_false, ne_eq, Decidable.not_not, baEq, decide_not, Prod.mk.injEq, and_true, true_and, Room, List.nil_append, Nat.zero_add, Int.not_lt, Int.not_le, learnedBy, fSortAddrs, Int.toNat_natCast, tosAt_at, tosAt_end] at *
  all_goals try simp (disch := omega) only [wrapId', toNat1] at *
  all_goals try simp (disch := omega) only [if_pos, if_neg]
  all_goals first | trivial | omega | grind [wrapId', toNat1, good_len, maxLen, learnedBy, fSortAddrs, Int.toNat_natCast, tosAt_at, tosAt_end])
def E55 : D.Env := E54.add 23 fLearnedBy
theorem E55ok : EOk Try.prog E55 := E54ok.add k23_54
abbrev W_impl_LearnedBy_fLearnedBy_3 (b : SNet) (a : SNet) (h : ByteArray) : LInv := ⟨[⟨.s, 7, true, .sl .addr⟩, ⟨.s, 14, true, .el .int⟩, ⟨.b, 3, false, .el .net⟩], fun (z_ : (List SAddr) × Int × SNet × Unit) (x_ : (List SAddr) × Int × SNet × Unit) => (0 ≤ x_.2.1 ∧ x_.2.1 ≤ a.log.length ∧ x_.1.length ≤ x_.2.1 ∧ (x_.2.1 ≤ b.log.length ∧ x_.1 = [] ∨ b.log.length ≤ x_.2.1 ∧ sortAddrs (x_.1 ++ tosAt h (a.log.drop x_.2.1.toNat)) = learnedBy b a h)) ∧ x_.2.2.1 = z_.2.2.1, fun (x_ : (List SAddr) × Int × SNet × Unit) => a.log.length - x_.2.1.toNat⟩
-- impl.LearnedBy
theorem k24_55 : fLearnedBy.ok Try.prog 24 := Fct.of (S := fLearnedBy) (L := fun ⟨b, a, h, _⟩ => fun | 3 => some (W_impl_LearnedBy_fLearnedBy_3 b a h) | _ => none) (kp := [2,3,4,6,7,8,9,12,13,14,15,30,1000015,1000030]) E55ok Try.func24 (by kernel_rfl) (by kernel_rfl) (by
  rintro ⟨(b : SNet), (a : SNet), (h : ByteArray), _⟩ hp
  refine holds_of (X := lpx (W_impl_LearnedBy_fLearnedBy_3 b a h) ([], ((0 : Int), (b, ()))) fun (y1 : List SAddr × Int × SNet × PUnit) bk1 =>
 .br (decide (y1.snd.fst < (↑a.log.length : Int)))
  (.ob ((0 : Int) ≤ y1.snd.fst ∧ y1.snd.fst < (↑a.log.length : Int)) <|
   .br (decide (y1.snd.fst ≥ (↑y1.snd.snd.fst.log.length : Int)))
   (.br ((a.log.getD y1.snd.fst.toNat default).to.host.toList == h.toList)
    (.ob (True) <|
     .ob (Room (y1.fst.length + [(a.log.getD y1.snd.fst.toNat default).to].length) (32 : Nat)) <|
     .ob (Value.string h = Value.string h) <|
     .ob (a.log = a.log) <|
     .ob (Value.int IntKind.i64 (↑a.log.length : Int) = Value.int IntKind.i64 (↑a.log.length : Int)) <|
     .ob (bk1 (y1.fst ++ [(a.log.getD y1.snd.fst.toNat default).to], (IntKind.i64.wrap (y1.snd.fst + (1 : Int)), (y1.snd.snd.fst, ())))) <|
     .ok)
    (.ob (Value.string h = Value.string h) <|
     .ob (a.log = a.log) <|
     .ob (Value.int IntKind.i64 (↑a.log.length : Int) = Value.int IntKind.i64 (↑a.log.length : Int)) <|
     .ob (bk1 (y1.fst, (IntKind.i64.wrap (y1.snd.fst + (1 : Int)), (y1.snd.snd.fst, ())))) <|
     .ok))
   (.ob (Value.string h = Value.string h) <|
    .ob (a.log = a.log) <|
    .ob (Value.int IntKind.i64 (↑a.log.length : Int) = Value.int IntKind.i64 (↑a.log.length : Int)) <|
    .ob (bk1 (y1.fst, (IntKind.i64.wrap (y1.snd.fst + (1 : Int)), (y1.snd.snd.fst, ())))) <|
    .ok))
  (.ob (fSortAddrs.pre (y1.fst, ())) <|
   .lt (List SAddr × PUnit) (fSortAddrs.fn (y1.fst, ())) fun z2 =>
   .leaf (mkR fLearnedBy.rs (z2.fst, ())) [] [])) (by kernel_rfl) ?_
  refine lpx_i ?_ fun (y1 : List SAddr × Int × SNet × PUnit) i1 => br_i (fun h2 => ob_i ?_ fun o3 => br_i (fun h4 => br_i (fun h5 => ob_i trivial fun _ => ob_i ?_ fun o6 => ob_i rfl fun _ => ob_i rfl fun _ => ob_i rfl fun _ => ob_i ?_ fun o7 => trivial) (fun h5 => ob_i rfl fun _ => ob_i rfl fun _ => ob_i rfl fun _ => ob_i ?_ fun o8 => trivial)) (fun h4 => ob_i rfl fun _ => ob_i rfl fun _ => ob_i rfl fun _ => ob_i ?_ fun o9 => trivial)) (fun h2 => ob_i ?_ fun o10 => lt_i (Fct.leafY ?_))
  all_goals try simp only [decide_eq_true_eq, decide_eq_false_iff_not, Bool.not_eq_true', Bool.not_eq_false', bne_iff_ne, bne_eq_false_iff_eq, beq_iff_eq, beq_eq_false_iff_ne, baEq, Int.not_lt, Int.not_le, ne_eq, Decidable.not_not] at *
  all_goals try simp only [W_impl_LearnedBy_fLearnedBy_3, fLearnedBy, fSortAddrs, etaToken, etaNode, etaBuilder, etaPolicy, etaPage, etaVisit, etaTab, etaServer, etaCache, etaNet, etaLoader, etaSheet, etaResult, etaSlot, etaModule, etaAddr, etaRequest, etaResponse, etaConn, etaGuess, etaEntry, etaSent, etaFile, baSz, List.size_toArray, List.length_cons, List.length_nil, Nat.reduceAdd, Int.toNat_zero, List.drop_zero, decide_eq_true_eq, decide_eq_false_iff_not, Bool.not_eq_true', Bool.not_eq_false', bne_iff_ne, bne_eq_false_iff_eq, beq_iff_eq, beq_eq_false_iff_ne, Bool.not_eq_true, Bool.not_eq_false, ne_eq, Decidable.not_not, baEq, decide_not, Prod.mk.injEq, and_true, true_and, Room, List.nil_append, Nat.zero_add, Int.not_lt, Int.not_le, learnedBy, fSortAddrs, tosAt_at, tosAt_end] at *
  all_goals try simp (disch := omega) only [wrapId', toNat1] at *
  all_goals try simp (disch := omega) only [if_pos, if_neg]
  all_goals first | trivial | omega | grind [wrapId', toNat1, good_len, maxLen, learnedBy, fSortAddrs, tosAt_at, tosAt_end])
def E56 : D.Env := E55.add 24 fLearnedBy
theorem E56ok : EOk Try.prog E56 := E55ok.add k24_55
def lNet2Str : Fct := lawFS [.el .net, .el .net, .el .str]
theorem netSz (n : SNet) : n.log.length ≤ szNet n := by
  have h1 := szL_len szSent n.log
  simp only [szNet]; omega
-- laws.FnExactLearnedBy
set_option maxHeartbeats 2000000 in
theorem k5_56 : lNet2Str.ok Try.prog 5 := Fct.of (S := lNet2Str) (L := fun _ _ => none) (kp := [2,3,4,6,7,8,9,10,11,12,13,14,15,18,23,28,46,51,56,70,78,81,91,96,99,1000018,1000023,1000028,1000046,1000051,1000056,1000070,1000078,1000081,1000091,1000096,1000099]) E56ok Try.func5 (by kernel_rfl) (by kernel_rfl) (by
  rintro ⟨(b : SNet), (a : SNet), (h : ByteArray), _⟩ hp
  refine holds_of (X := .br (decide ((↑(ByteArray.size h) : Int) > (1048576 : Int)))
 (.leaf (mkR lNet2Str.rs (true, ())) [] [])
 (.ob (fszNet.pre (b, (1048576 : Int), ())) <|
  .lt (Int × PUnit) (fszNet.fn (b, (1048576 : Int), ())) fun z2 =>
  .br (decide (z2.fst < (0 : Int)))
   (.leaf (mkR lNet2Str.rs (true, ())) [] [])
   (.ob (fszNet.pre (a, z2.fst, ())) <|
    .lt (Int × PUnit) (fszNet.fn (a, z2.fst, ())) fun z3 =>
    .br (decide (z3.fst < (0 : Int)))
     (.leaf (mkR lNet2Str.rs (true, ())) [] [])
     (.ob (ftoNet.pre (b, ())) <|
      .lt (SNet × PUnit) (ftoNet.fn (b, ())) fun z4 =>
      .ob (ftoNet.pre (a, ())) <|
       .lt (SNet × PUnit) (ftoNet.fn (a, ())) fun z5 =>
       .ob (fLearnedBy.pre (z4.fst, z5.fst, h, ())) <|
        .lt (List SAddr × PUnit) (fLearnedBy.fn (z4.fst, z5.fst, h, ())) fun z6 =>
        .ob (ftoNet.pre (b, ())) <|
         .lt (SNet × PUnit) (ftoNet.fn (b, ())) fun z7 =>
         .ob (ftoNet.pre (a, ())) <|
          .lt (SNet × PUnit) (ftoNet.fn (a, ())) fun z8 =>
          .ob (fLearnedBy.pre (z7.fst, z8.fst, h, ())) <|
           .lt (List SAddr × PUnit) (fLearnedBy.fn (z7.fst, z8.fst, h, ())) fun z9 =>
           .ob (feqAddrS.pre (z9.fst, z6.fst, ())) <|
            .lt (Bool × PUnit) (feqAddrS.fn (z9.fst, z6.fst, ())) fun z10 =>
            .br (!z10.fst)
             (.leaf (mkR lNet2Str.rs (false, ())) [] [])
             (.ob (ftoNet.pre (b, ())) <|
              .lt (SNet × PUnit) (ftoNet.fn (b, ())) fun z11 =>
              .ob (feqNet.pre (z7.fst, z11.fst, ())) <|
               .lt (Bool × PUnit) (feqNet.fn (z7.fst, z11.fst, ())) fun z12 =>
               .br (!z12.fst)
                (.leaf (mkR lNet2Str.rs (false, ())) [] [])
                (.ob (ftoNet.pre (a, ())) <|
                 .lt (SNet × PUnit) (ftoNet.fn (a, ())) fun z13 =>
                 .ob (feqNet.pre (z8.fst, z13.fst, ())) <|
                  .lt (Bool × PUnit) (feqNet.fn (z8.fst, z13.fst, ())) fun z14 =>
                  .br (!z14.fst)
                   (.leaf (mkR lNet2Str.rs (false, ())) [] [])
                   (.ob (fmarkNet.pre z7.fst (1 : Int)) <|
                    .lt (SNet × Int) (fmarkNet.fn z7.fst (1 : Int)) fun z15 =>
                    .ob (fmarkNet.pre z8.fst z15.snd) <|
                     .lt (SNet × Int) (fmarkNet.fn z8.fst z15.snd) fun z16 =>
                     .br (decide (z16.snd < (0 : Int)))
                      (.leaf (mkR lNet2Str.rs (false, ())) [] [])
                      (.ob (feqAddrS.pre (z9.fst, z6.fst, ())) <|
                       .lt (Bool × PUnit) (feqAddrS.fn (z9.fst, z6.fst, ())) fun z17 =>
                       .br (!z17.fst)
                        (.leaf (mkR lNet2Str.rs (false, ())) [] [])
                        (.ob (fmarkAddrS.pre z9.fst (1 : Int)) <|
                         .lt (List SAddr × Int) (fmarkAddrS.fn z9.fst (1 : Int)) fun z18 =>
                         .ob (fheldAddrS.pre (z18.fst, (1 : Int), ())) <|
                          .lt (Int × PUnit) (fheldAddrS.fn (z18.fst, (1 : Int), ())) fun z19 =>
                          .br (decide (z19.fst < (0 : Int)))
                           (.leaf (mkR lNet2Str.rs (false, ())) [] [])
                           (.br (z19.fst != z18.snd)
                            (.leaf (mkR lNet2Str.rs (false, ())) [] [])
                            (.ob (ftoNet.pre (b, ())) <|
                             .lt (SNet × PUnit) (ftoNet.fn (b, ())) fun z20 =>
                             .ob (ftoNet.pre (a, ())) <|
                              .lt (SNet × PUnit) (ftoNet.fn (a, ())) fun z21 =>
                              .ob (fLearnedBy.pre (z20.fst, z21.fst, h, ())) <|
                               .lt (List SAddr × PUnit) (fLearnedBy.fn (z20.fst, z21.fst, h, ())) fun z22 =>
                               .ob (feqAddrS.pre (z22.fst, z6.fst, ())) <|
                                .lt (Bool × PUnit) (feqAddrS.fn (z22.fst, z6.fst, ())) fun z23 =>
                                .br (!z23.fst)
                                 (.leaf (mkR lNet2Str.rs (false, ())) [] [])
                                 (.ob (fheldAddrS.pre (z18.fst, (1 : Int), ())) <|
                                  .lt (Int × PUnit) (fheldAddrS.fn (z18.fst, (1 : Int), ())) fun z24 =>
                                  .br (decide (z24.fst < (0 : Int)))
                                   (.leaf (mkR lNet2Str.rs (false, ())) [] [])
                                   (.br (z24.fst != z18.snd)
                                    (.leaf (mkR lNet2Str.rs (false, ())) [] [])
                                    (.leaf (mkR lNet2Str.rs (true, ())) [] [])))))))))))))) (by kernel_rfl) ?_
  refine br_i (fun h1 => Fct.leafY ?_) (fun h1 => ob_i ?_ fun o2 => lt_e fun z2 ez2 => (br_i (fun h3 => Fct.leafY ?_) (fun h3 => ob_i ?_ fun o4 => lt_e fun z3 ez3 => (br_i (fun h5 => Fct.leafY ?_) (fun h5 => ob_i ?_ fun o6 => lt_e fun z4 ez4 => (ob_i ?_ fun o7 => lt_e fun z5 ez5 => (ob_i ?_ fun o8 => lt_e fun z6 ez6 => (ob_i ?_ fun o9 => lt_e fun z7 ez7 => (ob_i ?_ fun o10 => lt_e fun z8 ez8 => (ob_i ?_ fun o11 => lt_e fun z9 ez9 => (ob_i ?_ fun o12 => lt_e fun z10 ez10 => (br_i (fun h13 => Fct.leafY ?_) (fun h13 => ob_i ?_ fun o14 => lt_e fun z11 ez11 => (ob_i ?_ fun o15 => lt_e fun z12 ez12 => (br_i (fun h16 => Fct.leafY ?_) (fun h16 => ob_i ?_ fun o17 => lt_e fun z13 ez13 => (ob_i ?_ fun o18 => lt_e fun z14 ez14 => (br_i (fun h19 => Fct.leafY ?_) (fun h19 => ob_i ?_ fun o20 => lt_e fun z15 ez15 => (ob_i ?_ fun o21 => lt_e fun z16 ez16 => (br_i (fun h22 => Fct.leafY ?_) (fun h22 => ob_i ?_ fun o23 => lt_e fun z17 ez17 => (br_i (fun h24 => Fct.leafY ?_) (fun h24 => ob_i ?_ fun o25 => lt_e fun z18 ez18 => (ob_i ?_ fun o26 => lt_e fun z19 ez19 => (br_i (fun h27 => Fct.leafY ?_) (fun h27 => br_i (fun h28 => Fct.leafY ?_) (fun h28 => ob_i ?_ fun o29 => lt_e fun z20 ez20 => (ob_i ?_ fun o30 => lt_e fun z21 ez21 => (ob_i ?_ fun o31 => lt_e fun z22 ez22 => (ob_i ?_ fun o32 => lt_e fun z23 ez23 => (br_i (fun h33 => Fct.leafY ?_) (fun h33 => ob_i ?_ fun o34 => lt_e fun z24 ez24 => (br_i (fun h35 => Fct.leafY ?_) (fun h35 => br_i (fun h36 => Fct.leafY ?_) (fun h36 => Fct.leafY ?_))))))))))))))))))))))))))))))))))))
  all_goals have hn1 := netSz a
  all_goals have hn2 := netSz b
  all_goals have hn3 := learnedBy_len b a h
  all_goals have hg0 : Sh.good (.el .net) b := hp.1
  all_goals have hg1 : Sh.good (.el .net) a := hp.2.1
  all_goals have hg2 : Sh.good (.el .str) h := hp.2.2.1
  all_goals clear hp
  all_goals try have hbd0 := mvNet_bd z7.fst (1 : Int)
  all_goals try have hbd1 := mvNet_bd z8.fst z15.snd
  all_goals subst_vars
  all_goals try simp only [decide_eq_true_eq, decide_eq_false_iff_not, Bool.not_eq_true', Bool.not_eq_false', bne_iff_ne, bne_eq_false_iff_eq, beq_iff_eq, beq_eq_false_iff_ne, baEq, Int.not_lt, Int.not_le, ne_eq, Decidable.not_not] at *
  all_goals try simp only [fLearnedBy, feqAddrS, feqNet, fheldAddrS, fmarkAddrS, fmarkNet, fszNet, ftoNet, lNet2Str, etaToken, etaNode, etaBuilder, etaPolicy, etaPage, etaVisit, etaTab, etaServer, etaCache, etaNet, etaLoader, etaSheet, etaResult, etaSlot, etaModule, etaAddr, etaRequest, etaResponse, etaConn, etaGuess, etaEntry, etaSent, etaFile, baSz, List.size_toArray, List.length_cons, List.length_nil, Nat.reduceAdd, Int.toNat_zero, List.drop_zero, decide_eq_true_eq, decide_eq_false_iff_not, Bool.not_eq_true', Bool.not_eq_false', bne_iff_ne, bne_eq_false_iff_eq, beq_iff_eq, beq_eq_false_iff_ne, Bool.not_eq_true, Bool.not_eq_false, ne_eq, Decidable.not_not, baEq, decide_not, Prod.mk.injEq, and_true, true_and, Room, List.nil_append, Nat.zero_add, Int.not_lt, Int.not_le, decide_true] at *
  all_goals try simp only [mkAddrS_idem, mkAddrS_ub] at *
  all_goals try simp only [mvNet_re] at *
  all_goals first | trivial | omega | grind [lessen])
def E57 : D.Env := E56.add 5 lNet2Str
theorem E57ok : EOk Try.prog E57 := E56ok.add k5_56

section
open Go.ChangeShapes Go.WideShapes Go.ChangeAt Go.RowKit
theorem own : ownKnob Try.prog.godebug = none := by kernel_rfl
theorem types : ∀ e t, tyOf e = some t → e ∈ ([3, 4, 5, 9, 23, 26, 28, 33, 38, 43, 44, 45, 49, 54, 64, 67, 73, 76, 87, 92, 112, 115, 147, 155, 171, 176, 179, 184, 189, 192, 202, 206, 210, 224, 232, 236, 243, 245, 247, 249, 259, 262, 268, 273] : List TypeId) := by
  intro e t h
  unfold tyOf at h
  split at h <;> first | (simp; done) | cases h
theorem lifted (os : Os) (started : os.Started) (H : Type) (enc : TypeId × Value → H) :
    ReturnsInHanded {} Try.checked os 5 .any (Rows.fnExactLearnedBySpec.pre6 enc Try.prog Try.f5 Rows.fnExactLearnedByRow.domain false) (Rows.fnExactLearnedBySpec.post enc Try.prog Try.f5 false true false false) := by
  refine returnsInHanded_of_change (C := Try.checked) own started (by kernel_rfl) Try.func5
    (ChangeSpec.witness6 (enc := enc) (C := Try.checked) false ⟨#[], #[.agg #[.slice none 0 0, .slice none 0 0, .slice none 0 0, .int .i64 0], .agg #[.slice none 0 0, .slice none 0 0, .slice none 0 0, .int .i64 0], .string ⟨#[]⟩], []⟩ 8 (by kernel_rfl) (by kernel_rfl) (by kernel_rfl) (by kernel_rfl)) ?_
  intro W base args ds gs before hval0 hW hcnd _
  have hval : ∀ (j : Nat) t v, Try.f5.params[j]? = some t → args[j]? = some v → Value.okWide Try.prog W .any base t v := hval0
  refine law_calls (show rowOk Try.prog Try.f5 tyOf [3, 4, 5, 9, 23, 26, 28, 33, 38, 43, 44, 45, 49, 54, 64, 67, 73, 76, 87, 92, 112, 115, 147, 155, 171, 176, 179, 184, 189, 192, 202, 206, 210, 224, 232, 236, 243, 245, 247, 249, 259, 262, 268, 273] [.el .net, .el .net, .el .str] = true by kernel_rfl) types rfl Try.underlying4 rfl hW (fun xs h => ?_) hval k5_56
  · rw [Try.params5] at h
    match xs, (show xs.length = 3 from h) with
    | [x0, x1, x2], _ => rfl
set_option maxHeartbeats 0 in
theorem closed : joinedFacts Try.prog 5 Try.f5 Rows.fnExactLearnedBySpec Rows.fnExactLearnedByRow = true := by
  unfold joinedFacts
  refine (and_i (and_i (and_i (and_i (and_i (and_i (and_i (and_i (and_i (and_i (and_i (and_i (and_i (and_i (and_i (and_i (and_i (and_i (and_i (and_i (and_i (and_i (and_i (and_i (and_i (and_i (and_i (and_i (and_i (and_i (and_i ?_ ?_) ?_) ?_) ?_) ?_) ?_) ?_) ?_) ?_) ?_) ?_) ?_) ?_) ?_) ?_) ?_) ?_) ?_) ?_) ?_) ?_) ?_) ?_) ?_) ?_) ?_) ?_) ?_) ?_) ?_) ?_)
  all_goals decide +kernel
theorem over : Rows.fnExactLearnedByRow.holds Try.pinned (OpenSpec.ofChange Rows.fnExactLearnedBySpec) :=
  OpenClaim.holds_of_wide 5 Try.f5 rfl rfl rfl rfl rfl rfl rfl ⟨rfl, rfl, rfl, rfl, rfl⟩ rfl rfl rfl rfl rfl (by kernel_rfl) Try.func5 closed
    (of_decide_eq_true (by kernel_rfl)) (by unfold Func.isWrapper; first | (rw [if_pos (by decide +kernel)]; kernel_rfl) | (rw [if_neg (by decide +kernel)]; exact ⟨rfl, rfl⟩))
    (fun os started H enc _ => lifted os started H enc)
theorem proved : Rows.FnExactLearnedBySaid := over
end
end Go.Proofs.Ytdcpenhjenhjcaa.fnExactLearnedBy
