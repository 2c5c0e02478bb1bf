/-
  The law FnConnections returns true for all codes, whatever is drawn from them. No condition.
-/
import Derived.Test.YtpdooiaofamimaaVPt
import Derived.Test.YtpdooiaofamimaaVPc
import Derived.WalkKit
import Derived.BigGuard
import Derived.Deep.QuietTactic
import Derived.BigQuiet
import Derived.Test.YtpdooiaofamimaaRows
import Derived.WalkKit
import Derived.ProofKit
import Derived.OpenShut
import Derived.Test.YtpdooiaofamimaaVEf
namespace Go.Proofs.Ytpdooiaofamimaa.fnConnections
open Go.Proofs.Ytpdooiaofamimaa
open Go.D
set_option maxRecDepth 100000
set_option linter.unusedVariables false
set_option linter.unusedSimpArgs false
def tyOf : TypeId → Option Ty
  | 3 => some .int
  | 4 => some .bool
  | 5 => some .u8
  | 9 => some .str
  | 26 => some .addr
  | 28 => some .response
  | 47 => some .conn
  | 59 => some .guess
  | 84 => some .policy
  | _ => none
def E0 : D.Env := D.Env.empty tyOf
theorem E0ok : EOk Try.prog E0 := EOk.empty _ _

def countGuess : List SConn → Nat
  | [] => 0
  | c :: l => countGuess l + (if c.guess then 1 else 0)
def fCount : Fct := ⟨[.v (.sl .conn)], [.el .int], fun (x_ : (List SConn) × Unit) => x_.1.length ≤ 1048576, fun (x_ : (List SConn) × Unit) => ((countGuess x_.1 : Int), ())⟩
abbrev W_spec_CountGuessConns_fCount_3 (l : (List SConn)) : LInv := ⟨[⟨.s, 3, true, .el .int⟩, ⟨.s, 4, true, .el .int⟩], fun _ (x_ : Int × Int × Unit) => 0 ≤ x_.2.1 ∧ x_.2.1 ≤ l.length ∧ 0 ≤ x_.1 ∧ x_.1 ≤ x_.2.1 ∧ x_.1 + countGuess (l.drop x_.2.1.toNat) = countGuess l, fun (x_ : Int × Int × Unit) => l.length - x_.2.1.toNat⟩
-- spec.CountGuessConns
theorem k26_0 : fCount.ok Try.prog 26 := Fct.of (S := fCount) (L := fun ⟨l, _⟩ => fun | 3 => some (W_spec_CountGuessConns_fCount_3 l) | _ => none) (kp := [0,2,3,4,8,15,1000008,1000015]) E0ok Try.func26 (by kernel_rfl) (by kernel_rfl) (by
  rintro ⟨(l : List SConn), _⟩ hp
  refine holds_of (X := lpx (W_spec_CountGuessConns_fCount_3 l) ((0 : Int), ((0 : Int), ())) fun (y1 : Int × Int × PUnit) bk1 =>
 .br (decide (y1.snd.fst < (↑l.length : Int)))
  (.ob ((0 : Int) ≤ y1.snd.fst ∧ y1.snd.fst < (↑l.length : Int)) <|
   .br ((l.getD y1.snd.fst.toNat default).guess)
   (.ob (l = l) <|
    .ob (Value.int IntKind.i64 (0 : Int) = Value.int IntKind.i64 (0 : Int)) <|
    .ob (bk1 (IntKind.i64.wrap (y1.fst + (1 : Int)), (IntKind.i64.wrap (y1.snd.fst + (1 : Int)), ()))) <|
    .ok)
   (.ob (l = l) <|
    .ob (Value.int IntKind.i64 (0 : Int) = Value.int IntKind.i64 (0 : Int)) <|
    .ob (bk1 (y1.fst, (IntKind.i64.wrap (y1.snd.fst + (1 : Int)), ()))) <|
    .ok))
  (.leaf (mkR fCount.rs (y1.fst, ())) [] [])) (by kernel_rfl) ?_
  refine lpx_i ?_ fun (y1 : Int × Int × PUnit) i1 => br_i (fun h2 => ob_i ?_ fun o3 => br_i (fun h4 => ob_i rfl fun _ => ob_i rfl fun _ => ob_i ?_ fun o5 => trivial) (fun h4 => ob_i rfl fun _ => ob_i rfl fun _ => ob_i ?_ fun o6 => trivial)) (fun h2 => Fct.leafY ?_)
  all_goals try simp only [decide_eq_true_eq, decide_eq_false_iff_not, Bool.not_eq_true', Bool.not_eq_false', bne_iff_ne, bne_eq_false_iff_eq, beq_iff_eq, beq_eq_false_iff_ne, baEq, Int.not_lt, Int.not_le, ne_eq, Decidable.not_not] at *
  all_goals try simp only [W_spec_CountGuessConns_fCount_3, fCount, etaToken, etaNode, etaBuilder, etaPolicy, etaPage, etaVisit, etaTab, etaServer, etaCache, etaNet, etaLoader, etaSheet, etaResult, etaSlot, etaModule, etaAddr, etaRequest, etaResponse, etaConn, etaGuess, etaEntry, etaSent, etaFile, baSz, List.size_toArray, List.length_cons, List.length_nil, Nat.reduceAdd, Int.toNat_zero, List.drop_zero, decide_eq_true_eq, decide_eq_false_iff_not, Bool.not_eq_true', Bool.not_eq_false', bne_iff_ne, bne_eq_false_iff_eq, beq_iff_eq, beq_eq_false_iff_ne, Bool.not_eq_true, Bool.not_eq_false, ne_eq, Decidable.not_not, baEq, decide_not, Prod.mk.injEq, and_true, true_and, Room, List.nil_append, Nat.zero_add, Int.not_lt, Int.not_le, countGuess] at *
  all_goals try simp (disch := omega) only [wrapId', toNat1] at *
  all_goals try simp (disch := omega) only [if_pos, if_neg]
  all_goals first | trivial | omega | grind [wrapId', toNat1, drop_cons, drop_end, good_len, maxLen, countGuess])
def E1 : D.Env := E0.add 26 fCount
theorem E1ok : EOk Try.prog E1 := E0ok.add k26_0
abbrev W_impl_CountGuessConns_fCount_3 (l : (List SConn)) : LInv := ⟨[⟨.s, 3, true, .el .int⟩, ⟨.s, 8, true, .el .int⟩], fun _ (x_ : Int × Int × Unit) => 0 ≤ x_.2.1 ∧ x_.2.1 ≤ l.length ∧ 0 ≤ x_.1 ∧ x_.1 ≤ x_.2.1 ∧ x_.1 + countGuess (l.drop x_.2.1.toNat) = countGuess l, fun (x_ : Int × Int × Unit) => l.length - x_.2.1.toNat⟩
-- impl.CountGuessConns
theorem k25_1 : fCount.ok Try.prog 25 := Fct.of (S := fCount) (L := fun ⟨l, _⟩ => fun | 3 => some (W_impl_CountGuessConns_fCount_3 l) | _ => none) (kp := [0,2,3,5,6,7,8,9,13,1000009,1000013]) E1ok Try.func25 (by kernel_rfl) (by kernel_rfl) (by
  rintro ⟨(l : List SConn), _⟩ hp
  refine holds_of (X := lpx (W_impl_CountGuessConns_fCount_3 l) ((0 : Int), ((0 : Int), ())) fun (y1 : Int × Int × PUnit) bk1 =>
 .br (decide (y1.snd.fst < (↑l.length : Int)))
  (.ob ((0 : Int) ≤ y1.snd.fst ∧ y1.snd.fst < (↑l.length : Int)) <|
   .br ((l.getD y1.snd.fst.toNat default).guess)
   (.ob (l = l) <|
    .ob (Value.int IntKind.i64 (0 : Int) = Value.int IntKind.i64 (0 : Int)) <|
    .ob (l = l) <|
    .ob (Value.int IntKind.i64 (↑l.length : Int) = Value.int IntKind.i64 (↑l.length : Int)) <|
    .ob (bk1 (IntKind.i64.wrap (y1.fst + (1 : Int)), (IntKind.i64.wrap (y1.snd.fst + (1 : Int)), ()))) <|
    .ok)
   (.ob (l = l) <|
    .ob (Value.int IntKind.i64 (0 : Int) = Value.int IntKind.i64 (0 : Int)) <|
    .ob (l = l) <|
    .ob (Value.int IntKind.i64 (↑l.length : Int) = Value.int IntKind.i64 (↑l.length : Int)) <|
    .ob (bk1 (y1.fst, (IntKind.i64.wrap (y1.snd.fst + (1 : Int)), ()))) <|
    .ok))
  (.leaf (mkR fCount.rs (y1.fst, ())) [] [])) (by kernel_rfl) ?_
  refine lpx_i ?_ fun (y1 : Int × Int × PUnit) i1 => br_i (fun h2 => ob_i ?_ fun o3 => br_i (fun h4 => ob_i rfl fun _ => ob_i rfl fun _ => ob_i rfl fun _ => ob_i rfl fun _ => ob_i ?_ fun o5 => trivial) (fun h4 => ob_i rfl fun _ => ob_i rfl fun _ => ob_i rfl fun _ => ob_i rfl fun _ => ob_i ?_ fun o6 => trivial)) (fun h2 => Fct.leafY ?_)
  all_goals try simp only [decide_eq_true_eq, decide_eq_false_iff_not, Bool.not_eq_true', Bool.not_eq_false', bne_iff_ne, bne_eq_false_iff_eq, beq_iff_eq, beq_eq_false_iff_ne, baEq, Int.not_lt, Int.not_le, ne_eq, Decidable.not_not] at *
  all_goals try simp only [W_impl_CountGuessConns_fCount_3, fCount, etaToken, etaNode, etaBuilder, etaPolicy, etaPage, etaVisit, etaTab, etaServer, etaCache, etaNet, etaLoader, etaSheet, etaResult, etaSlot, etaModule, etaAddr, etaRequest, etaResponse, etaConn, etaGuess, etaEntry, etaSent, etaFile, baSz, List.size_toArray, List.length_cons, List.length_nil, Nat.reduceAdd, Int.toNat_zero, List.drop_zero, decide_eq_true_eq, decide_eq_false_iff_not, Bool.not_eq_true', Bool.not_eq_false', bne_iff_ne, bne_eq_false_iff_eq, beq_iff_eq, beq_eq_false_iff_ne, Bool.not_eq_true, Bool.not_eq_false, ne_eq, Decidable.not_not, baEq, decide_not, Prod.mk.injEq, and_true, true_and, Room, List.nil_append, Nat.zero_add, Int.not_lt, Int.not_le, countGuess] at *
  all_goals try simp (disch := omega) only [wrapId', toNat1] at *
  all_goals try simp (disch := omega) only [if_pos, if_neg]
  all_goals first | trivial | omega | grind [wrapId', toNat1, drop_cons, drop_end, good_len, maxLen, countGuess])
def E2 : D.Env := E1.add 25 fCount
theorem E2ok : EOk Try.prog E2 := E1ok.add k25_1
def findConn (a : SAddr) : List SConn → Int → Int
  | [], _ => -1
  | c :: l, i => if c.to = a then i else findConn a l (i + 1)
theorem findConn_at {a : SAddr} {l : List SConn} {i : Nat} {z : Int} (h : i < l.length) : findConn a (l.drop i) z = if (l.getD i default).to = a then z else findConn a (l.drop (i + 1)) (z + 1) := by rw [drop_cons h]; rfl
theorem findConn_end {a : SAddr} {l : List SConn} {i : Nat} {z : Int} (h : l.length ≤ i) : findConn a (l.drop i) z = -1 := by rw [List.drop_of_length_le h]; rfl
theorem addrEq (x y : SAddr) : (x.host == y.host && (x.path == y.path && true)) = decide (x = y) := beqAddr x y
def fFind : Fct := ⟨[aL .conn, aE .addr], [rI], fun (x : List SConn × SAddr × Unit) => x.1.length ≤ 1048576, fun x => (findConn x.2.1 x.1 0, ())⟩
abbrev Lfind (l : List SConn) (a : SAddr) : LInv := ⟨[⟨.s, 5, true, .el .int⟩, ⟨.b, 3, true, .el .addr⟩], fun _ (x : Int × SAddr × Unit) => 0 ≤ x.1 ∧ x.1 ≤ l.length ∧ x.2.1 = a ∧ findConn a l 0 = findConn a (l.drop x.1.toNat) x.1, fun (x : Int × SAddr × Unit) => l.length - x.1.toNat⟩
-- spec.FindConn
theorem k41_2 : fFind.ok Try.prog 41 := Fct.of (S := fFind) (L := fun ⟨l, a, _⟩ => fun | 2 => some (Lfind l a) | _ => none) (kp := [0,3,4,5,9,18,1000009,1000018]) E2ok Try.func41 (by kernel_rfl) (by kernel_rfl) (by
  rintro ⟨(l : List SConn), (a : SAddr), _⟩ hp
  refine holds_of (X := lpx (Lfind l a) ((0 : Int), (a, ())) fun (y1 : Int × SAddr × PUnit) bk1 =>
 .br (decide (y1.fst < (↑l.length : Int)))
  (.ob ((0 : Int) ≤ y1.fst ∧ y1.fst < (↑l.length : Int)) <|
   .br ((l.getD y1.fst.toNat default).to.host == y1.snd.fst.host && ((l.getD y1.fst.toNat default).to.path == y1.snd.fst.path && true))
   (.leaf (mkR fFind.rs (y1.fst, ())) [] [])
   (.ob (l = l) <|
    .ob (bk1 (IntKind.i64.wrap (y1.fst + (1 : Int)), (y1.snd.fst, ()))) <|
    .ok))
  (.leaf (mkR fFind.rs ((-1 : Int), ())) [] [])) (by kernel_rfl) ?_
  refine lpx_i ?_ fun (y1 : Int × SAddr × PUnit) i1 => br_i (fun h2 => ob_i ?_ fun o3 => br_i (fun h4 => Fct.leafY ?_) (fun h4 => ob_i rfl fun _ => ob_i ?_ fun o5 => trivial)) (fun h2 => Fct.leafY ?_)
  all_goals try simp only [decide_eq_true_eq, decide_eq_false_iff_not, Bool.not_eq_true', Bool.not_eq_false', bne_iff_ne, bne_eq_false_iff_eq, beq_iff_eq, beq_eq_false_iff_ne, baEq, Int.not_lt, Int.not_le, ne_eq, Decidable.not_not] at *
  all_goals try simp only [Lfind, fFind, etaToken, etaNode, etaBuilder, etaPolicy, etaPage, etaVisit, etaTab, etaServer, etaCache, etaNet, etaLoader, etaSheet, etaResult, etaSlot, etaModule, etaAddr, etaRequest, etaResponse, etaConn, etaGuess, etaEntry, etaSent, etaFile, baSz, List.size_toArray, List.length_cons, List.length_nil, Nat.reduceAdd, Int.toNat_zero, List.drop_zero, decide_eq_true_eq, decide_eq_false_iff_not, Bool.not_eq_true', Bool.not_eq_false', bne_iff_ne, bne_eq_false_iff_eq, beq_iff_eq, beq_eq_false_iff_ne, Bool.not_eq_true, Bool.not_eq_false, ne_eq, Decidable.not_not, baEq, decide_not, Prod.mk.injEq, and_true, true_and, Room, List.nil_append, Nat.zero_add, Int.not_lt, Int.not_le] at *
  all_goals try simp only [addrEq, decide_eq_true_eq, decide_eq_false_iff_not] at *
  · first | omega | exact ⟨by omega, by omega, by simp⟩
  · omega
  · rw [findConn_at (by omega), if_pos (h4.trans i1.2.2.1)] at i1
    exact i1.2.2.2.symm
  · rw [findConn_at (by omega), if_neg (fun h => h4 (h.trans i1.2.2.1.symm))] at i1
    have hn : l.length ≤ 1048576 := hp
    rw [wrapId (by omega), toNat1 (by omega)]
    exact ⟨⟨by omega, by omega, i1.2.2.1, i1.2.2.2⟩, by omega⟩
  · rw [findConn_end (by omega)] at i1
    exact i1.2.2.2.symm)
def E3 : D.Env := E2.add 41 fFind
theorem E3ok : EOk Try.prog E3 := E2ok.add k41_2
def fFind1 : Fct := ⟨[aE .conn, .p (.el .addr)], [rB], fun _ => True, fun x => (decide (x.1.to = x.2.1), ())⟩
-- impl.FindConn$1
theorem k44_3 : fFind1.ok Try.prog 44 := Fct.of (S := fFind1) (L := fun _ _ => none) (kp := [1,2,3]) E3ok Try.func44 (by kernel_rfl) (by kernel_rfl) (by
  rintro ⟨(c : SConn), (a : SAddr), _⟩ hp
  refine holds_of (X := .leaf (mkR fFind1.rs (c.to.host == a.host && (c.to.path == a.path && true), ())) [] []) (by kernel_rfl) ?_
  refine Fct.leafY ?_
  show (_, ()) = (_, ())
  rw [addrEq])
def E4 : D.Env := E3.add 44 fFind1
theorem E4ok : EOk Try.prog E4 := E3ok.add k44_3
def fIdxFind : Fct := ⟨[aL .conn, .c 44 [.el .addr]], [rI], fun (x : List SConn × (SAddr × Unit) × Unit) => x.1.length ≤ 1048576, fun x => (findConn x.2.1.1 x.1 0, ())⟩
abbrev Lidx (l : List SConn) (F : List SConn → Int → Int) : LInv := ⟨[⟨.s, 8, true, .el .int⟩], fun _ (x : Int × Unit) => 0 ≤ x.1 ∧ x.1 ≤ l.length ∧ F l 0 = F (l.drop x.1.toNat) x.1, fun (x : Int × Unit) => l.length - x.1.toNat⟩
abbrev Lidxf (l : List SConn) (a : SAddr × Unit) : LInv := Lidx l (findConn a.1)
-- slices.IndexFunc[[]impl.Conn,impl.Conn]
theorem k43_4 : fIdxFind.ok Try.prog 43 := Fct.of (S := fIdxFind) (L := fun ⟨l, a, _⟩ => fun | 2 => some (Lidxf l a) | _ => none) (kp := [0,1,4,5,7,8,9,16,1000009,1000016]) E4ok Try.func43 (by kernel_rfl) (by kernel_rfl) (by
  rintro ⟨(l : List SConn), (a : SAddr × PUnit), _⟩ hp
  refine holds_of (X := lpx (Lidxf l a) ((0 : Int), ()) fun (y1 : Int × PUnit) bk1 =>
 .br (decide (y1.fst < (↑l.length : Int)))
  (.ob ((0 : Int) ≤ y1.fst ∧ y1.fst < (↑l.length : Int)) <|
   .ob (fFind1.pre (l.getD y1.fst.toNat default, a.fst, ())) <|
   .lt (Bool × PUnit) (fFind1.fn (l.getD y1.fst.toNat default, a.fst, ())) fun z2 =>
   .br (z2.fst)
    (.leaf (mkR fIdxFind.rs (y1.fst, ())) [] [])
    (.ob (l = l) <|
     .ob (enc Ty.addr a.fst = enc Ty.addr a.fst) <|
     .ob (Value.int IntKind.i64 (↑l.length : Int) = Value.int IntKind.i64 (↑l.length : Int)) <|
     .ob (bk1 (IntKind.i64.wrap (y1.fst + (1 : Int)), ())) <|
     .ok))
  (.leaf (mkR fIdxFind.rs ((-1 : Int), ())) [] [])) (by kernel_rfl) ?_
  refine lpx_i ?_ fun (y1 : Int × PUnit) i1 => br_i (fun h2 => ob_i ?_ fun o3 => ob_i trivial fun _ => lt_i (br_i (fun h4 => Fct.leafY ?_) (fun h4 => ob_i rfl fun _ => ob_i rfl fun _ => ob_i rfl fun _ => ob_i ?_ fun o5 => trivial))) (fun h2 => Fct.leafY ?_)
  all_goals try simp only [decide_eq_true_eq, decide_eq_false_iff_not, Bool.not_eq_true', Bool.not_eq_false', bne_iff_ne, bne_eq_false_iff_eq, beq_iff_eq, beq_eq_false_iff_ne, baEq, Int.not_lt, Int.not_le, ne_eq, Decidable.not_not] at *
  all_goals try simp only [Lidxf, fFind1, fIdxFind, etaToken, etaNode, etaBuilder, etaPolicy, etaPage, etaVisit, etaTab, etaServer, etaCache, etaNet, etaLoader, etaSheet, etaResult, etaSlot, etaModule, etaAddr, etaRequest, etaResponse, etaConn, etaGuess, etaEntry, etaSent, etaFile, baSz, List.size_toArray, List.length_cons, List.length_nil, Nat.reduceAdd, Int.toNat_zero, List.drop_zero, decide_eq_true_eq, decide_eq_false_iff_not, Bool.not_eq_true', Bool.not_eq_false', bne_iff_ne, bne_eq_false_iff_eq, beq_iff_eq, beq_eq_false_iff_ne, Bool.not_eq_true, Bool.not_eq_false, ne_eq, Decidable.not_not, baEq, decide_not, Prod.mk.injEq, and_true, true_and, Room, List.nil_append, Nat.zero_add, Int.not_lt, Int.not_le] at *
  all_goals try simp only [addrEq, decide_eq_true_eq, decide_eq_false_iff_not] at *
  · first | omega | exact ⟨by omega, by omega, by simp⟩
  · omega
  · rw [findConn_at (by omega), if_pos h4] at i1
    exact i1.2.2.symm
  · rw [findConn_at (by omega), if_neg h4] at i1
    have hn : l.length ≤ 1048576 := hp
    rw [wrapId (by omega), toNat1 (by omega)]
    exact ⟨⟨by omega, by omega, i1.2.2⟩, by omega⟩
  · rw [findConn_end (by omega)] at i1
    exact i1.2.2.symm)
def E5 : D.Env := E4.add 43 fIdxFind
theorem E5ok : EOk Try.prog E5 := E4ok.add k43_4
-- impl.FindConn
theorem k19_5 : fFind.ok Try.prog 19 := Fct.of (S := fFind) (L := fun _ _ => none) (kp := [0,3,4]) E5ok Try.func19 (by kernel_rfl) (by kernel_rfl) (by
  rintro ⟨(l : List SConn), (a : SAddr), _⟩ hp
  refine holds_of (X := .ob (fIdxFind.pre (l, (a, ()), ())) <|
 .lt (Int × PUnit) (fIdxFind.fn (l, (a, ()), ())) fun z2 =>
 .leaf (mkR fFind.rs (z2.fst, ())) [] []) (by kernel_rfl) ?_
  refine ob_i ?_ fun o1 => lt_i (Fct.leafY ?_)
  all_goals try simp only [decide_eq_true_eq, decide_eq_false_iff_not, Bool.not_eq_true', Bool.not_eq_false', bne_iff_ne, bne_eq_false_iff_eq, beq_iff_eq, beq_eq_false_iff_ne, baEq, Int.not_lt, Int.not_le, ne_eq, Decidable.not_not] at *
  all_goals try simp only [fFind, fIdxFind, etaToken, etaNode, etaBuilder, etaPolicy, etaPage, etaVisit, etaTab, etaServer, etaCache, etaNet, etaLoader, etaSheet, etaResult, etaSlot, etaModule, etaAddr, etaRequest, etaResponse, etaConn, etaGuess, etaEntry, etaSent, etaFile, baSz, List.size_toArray, List.length_cons, List.length_nil, Nat.reduceAdd, Int.toNat_zero, List.drop_zero, decide_eq_true_eq, decide_eq_false_iff_not, Bool.not_eq_true', Bool.not_eq_false', bne_iff_ne, bne_eq_false_iff_eq, beq_iff_eq, beq_eq_false_iff_ne, Bool.not_eq_true, Bool.not_eq_false, ne_eq, Decidable.not_not, baEq, decide_not, Prod.mk.injEq, and_true, true_and, Room, List.nil_append, Nat.zero_add, Int.not_lt, Int.not_le] at *
  all_goals first | trivial | omega | (simp_all; done) | (simp_all; omega) | grind)
def E6 : D.Env := E5.add 19 fFind
theorem E6ok : EOk Try.prog E6 := E5ok.add k19_5
def firstDone : List SConn → Int → Int
  | [], _ => -1
  | c :: l, i => if c.left ≤ 0 then i else firstDone l (i + 1)
theorem firstDone_at {l : List SConn} {i : Nat} {z : Int} (h : i < l.length) : firstDone (l.drop i) z = if (l.getD i default).left ≤ 0 then z else firstDone (l.drop (i + 1)) (z + 1) := by rw [drop_cons h]; rfl
theorem firstDone_end {l : List SConn} {i : Nat} {z : Int} (h : l.length ≤ i) : firstDone (l.drop i) z = -1 := by rw [List.drop_of_length_le h]; rfl
def fFirst : Fct := ⟨[aL .conn], [rI], fun (x : List SConn × Unit) => x.1.length ≤ 1048576, fun x => (firstDone x.1 0, ())⟩
abbrev Lfirst (l : List SConn) : LInv := ⟨[⟨.s, 3, true, .el .int⟩], fun _ (x : Int × Unit) => 0 ≤ x.1 ∧ x.1 ≤ l.length ∧ firstDone l 0 = firstDone (l.drop x.1.toNat) x.1, fun (x : Int × Unit) => l.length - x.1.toNat⟩
-- spec.FirstDone
theorem k24_6 : fFirst.ok Try.prog 24 := Fct.of (S := fFirst) (L := fun ⟨l, _⟩ => fun | 2 => some (Lfirst l) | _ => none) (kp := [0,2,3,7,15,1000007,1000015]) E6ok Try.func24 (by kernel_rfl) (by kernel_rfl) (by
  rintro ⟨(l : List SConn), _⟩ hp
  refine holds_of (X := lpx (Lfirst l) ((0 : Int), ()) fun (y1 : Int × PUnit) bk1 =>
 .br (decide (y1.fst < (↑l.length : Int)))
  (.ob ((0 : Int) ≤ y1.fst ∧ y1.fst < (↑l.length : Int)) <|
   .br (decide ((l.getD y1.fst.toNat default).left ≤ (0 : Int)))
   (.leaf (mkR fFirst.rs (y1.fst, ())) [] [])
   (.ob (l = l) <|
    .ob (bk1 (IntKind.i64.wrap (y1.fst + (1 : Int)), ())) <|
    .ok))
  (.leaf (mkR fFirst.rs ((-1 : Int), ())) [] [])) (by kernel_rfl) ?_
  refine lpx_i ?_ fun (y1 : Int × PUnit) i1 => br_i (fun h2 => ob_i ?_ fun o3 => br_i (fun h4 => Fct.leafY ?_) (fun h4 => ob_i rfl fun _ => ob_i ?_ fun o5 => trivial)) (fun h2 => Fct.leafY ?_)
  all_goals try simp only [decide_eq_true_eq, decide_eq_false_iff_not, Bool.not_eq_true', Bool.not_eq_false', bne_iff_ne, bne_eq_false_iff_eq, beq_iff_eq, beq_eq_false_iff_ne, baEq, Int.not_lt, Int.not_le, ne_eq, Decidable.not_not] at *
  all_goals try simp only [Lfirst, fFirst, etaToken, etaNode, etaBuilder, etaPolicy, etaPage, etaVisit, etaTab, etaServer, etaCache, etaNet, etaLoader, etaSheet, etaResult, etaSlot, etaModule, etaAddr, etaRequest, etaResponse, etaConn, etaGuess, etaEntry, etaSent, etaFile, baSz, List.size_toArray, List.length_cons, List.length_nil, Nat.reduceAdd, Int.toNat_zero, List.drop_zero, decide_eq_true_eq, decide_eq_false_iff_not, Bool.not_eq_true', Bool.not_eq_false', bne_iff_ne, bne_eq_false_iff_eq, beq_iff_eq, beq_eq_false_iff_ne, Bool.not_eq_true, Bool.not_eq_false, ne_eq, Decidable.not_not, baEq, decide_not, Prod.mk.injEq, and_true, true_and, Room, List.nil_append, Nat.zero_add, Int.not_lt, Int.not_le] at *
  all_goals try simp only [addrEq, decide_eq_true_eq, decide_eq_false_iff_not] at *
  · first | omega | exact ⟨by omega, by omega, by simp⟩
  · omega
  · rw [firstDone_at (by omega), if_pos h4] at i1
    exact i1.2.2.symm
  · rw [firstDone_at (by omega), if_neg (by omega)] at i1
    have hn : l.length ≤ 1048576 := hp
    rw [wrapId (by omega), toNat1 (by omega)]
    exact ⟨⟨by omega, by omega, i1.2.2⟩, by omega⟩
  · rw [firstDone_end (by omega)] at i1
    exact i1.2.2.symm)
def E7 : D.Env := E6.add 24 fFirst
theorem E7ok : EOk Try.prog E7 := E6ok.add k24_6
def fFirst1 : Fct := ⟨[aE .conn], [rB], fun _ => True, fun x => (decide (x.1.left ≤ 0), ())⟩
-- impl.FirstDone$1
theorem k47_7 : fFirst1.ok Try.prog 47 := Fct.of (S := fFirst1) (L := fun _ _ => none) (kp := [1,2]) E7ok Try.func47 (by kernel_rfl) (by kernel_rfl) (by
  rintro ⟨(c : SConn), _⟩ hp
  refine holds_of (X := .leaf (mkR fFirst1.rs (decide (c.left ≤ (0 : Int)), ())) [] []) (by kernel_rfl) ?_
  refine Fct.leafY ?_
  all_goals try simp only [decide_eq_true_eq, decide_eq_false_iff_not, Bool.not_eq_true', Bool.not_eq_false', bne_iff_ne, bne_eq_false_iff_eq, beq_iff_eq, beq_eq_false_iff_ne, baEq, Int.not_lt, Int.not_le, ne_eq, Decidable.not_not] at *
  all_goals try simp only [fFirst1, etaToken, etaNode, etaBuilder, etaPolicy, etaPage, etaVisit, etaTab, etaServer, etaCache, etaNet, etaLoader, etaSheet, etaResult, etaSlot, etaModule, etaAddr, etaRequest, etaResponse, etaConn, etaGuess, etaEntry, etaSent, etaFile, baSz, List.size_toArray, List.length_cons, List.length_nil, Nat.reduceAdd, Int.toNat_zero, List.drop_zero, decide_eq_true_eq, decide_eq_false_iff_not, Bool.not_eq_true', Bool.not_eq_false', bne_iff_ne, bne_eq_false_iff_eq, beq_iff_eq, beq_eq_false_iff_ne, Bool.not_eq_true, Bool.not_eq_false, ne_eq, Decidable.not_not, baEq, decide_not, Prod.mk.injEq, and_true, true_and, Room, List.nil_append, Nat.zero_add, Int.not_lt, Int.not_le] at *
  all_goals first | trivial | omega | (simp_all; done) | (simp_all; omega) | grind)
def E8 : D.Env := E7.add 47 fFirst1
theorem E8ok : EOk Try.prog E8 := E7ok.add k47_7
def fIdxFirst : Fct := ⟨[aL .conn, .c 47 []], [rI], fun (x : List SConn × Unit × Unit) => x.1.length ≤ 1048576, fun x => (firstDone x.1 0, ())⟩
-- slices.IndexFunc[[]impl.Conn,impl.Conn]
theorem k43_8 : fIdxFirst.ok Try.prog 43 := Fct.of (S := fIdxFirst) (L := fun ⟨l, u, _⟩ => fun | 2 => some (Lidx l firstDone) | _ => none) (kp := [0,1,4,5,7,8,9,16,1000009,1000016]) E8ok Try.func43 (by kernel_rfl) (by kernel_rfl) (by
  rintro ⟨(l : List SConn), (u : PUnit), _⟩ hp
  refine holds_of (X := lpx (Lidx l firstDone) ((0 : Int), ()) fun (y1 : Int × PUnit) bk1 =>
 .br (decide (y1.fst < (↑l.length : Int)))
  (.ob ((0 : Int) ≤ y1.fst ∧ y1.fst < (↑l.length : Int)) <|
   .ob (fFirst1.pre (l.getD y1.fst.toNat default, ())) <|
   .lt (Bool × PUnit) (fFirst1.fn (l.getD y1.fst.toNat default, ())) fun z2 =>
   .br (z2.fst)
    (.leaf (mkR fIdxFirst.rs (y1.fst, ())) [] [])
    (.ob (l = l) <|
     .ob (Value.int IntKind.i64 (↑l.length : Int) = Value.int IntKind.i64 (↑l.length : Int)) <|
     .ob (bk1 (IntKind.i64.wrap (y1.fst + (1 : Int)), ())) <|
     .ok))
  (.leaf (mkR fIdxFirst.rs ((-1 : Int), ())) [] [])) (by kernel_rfl) ?_
  refine lpx_i ?_ fun (y1 : Int × PUnit) i1 => br_i (fun h2 => ob_i ?_ fun o3 => ob_i trivial fun _ => lt_i (br_i (fun h4 => Fct.leafY ?_) (fun h4 => ob_i rfl fun _ => ob_i rfl fun _ => ob_i ?_ fun o5 => trivial))) (fun h2 => Fct.leafY ?_)
  all_goals try simp only [decide_eq_true_eq, decide_eq_false_iff_not, Bool.not_eq_true', Bool.not_eq_false', bne_iff_ne, bne_eq_false_iff_eq, beq_iff_eq, beq_eq_false_iff_ne, baEq, Int.not_lt, Int.not_le, ne_eq, Decidable.not_not] at *
  all_goals try simp only [Lidx, fFirst1, fIdxFirst, etaToken, etaNode, etaBuilder, etaPolicy, etaPage, etaVisit, etaTab, etaServer, etaCache, etaNet, etaLoader, etaSheet, etaResult, etaSlot, etaModule, etaAddr, etaRequest, etaResponse, etaConn, etaGuess, etaEntry, etaSent, etaFile, baSz, List.size_toArray, List.length_cons, List.length_nil, Nat.reduceAdd, Int.toNat_zero, List.drop_zero, decide_eq_true_eq, decide_eq_false_iff_not, Bool.not_eq_true', Bool.not_eq_false', bne_iff_ne, bne_eq_false_iff_eq, beq_iff_eq, beq_eq_false_iff_ne, Bool.not_eq_true, Bool.not_eq_false, ne_eq, Decidable.not_not, baEq, decide_not, Prod.mk.injEq, and_true, true_and, Room, List.nil_append, Nat.zero_add, Int.not_lt, Int.not_le] at *
  all_goals try simp only [addrEq, decide_eq_true_eq, decide_eq_false_iff_not] at *
  · first | omega | exact ⟨by omega, by omega, by simp⟩
  · omega
  · rw [firstDone_at (by omega), if_pos h4] at i1
    exact i1.2.2.symm
  · rw [firstDone_at (by omega), if_neg (by omega)] at i1
    have hn : l.length ≤ 1048576 := hp
    rw [wrapId (by omega), toNat1 (by omega)]
    exact ⟨⟨by omega, by omega, i1.2.2⟩, by omega⟩
  · rw [firstDone_end (by omega)] at i1
    exact i1.2.2.symm)
def E9 : D.Env := E8.add 43 fIdxFirst
theorem E9ok : EOk Try.prog E9 := E8ok.add k43_8
-- impl.FirstDone
theorem k22_9 : fFirst.ok Try.prog 22 := Fct.of (S := fFirst) (L := fun _ _ => none) (kp := [0,2]) E9ok Try.func22 (by kernel_rfl) (by kernel_rfl) (by
  rintro ⟨(l : List SConn), _⟩ hp
  refine holds_of (X := .ob (fIdxFirst.pre (l, (), ())) <|
 .lt (Int × PUnit) (fIdxFirst.fn (l, (), ())) fun z2 =>
 .leaf (mkR fFirst.rs (z2.fst, ())) [] []) (by kernel_rfl) ?_
  refine ob_i ?_ fun o1 => lt_i (Fct.leafY ?_)
  all_goals try simp only [decide_eq_true_eq, decide_eq_false_iff_not, Bool.not_eq_true', Bool.not_eq_false', bne_iff_ne, bne_eq_false_iff_eq, beq_iff_eq, beq_eq_false_iff_ne, baEq, Int.not_lt, Int.not_le, ne_eq, Decidable.not_not] at *
  all_goals try simp only [fFirst, fIdxFirst, etaToken, etaNode, etaBuilder, etaPolicy, etaPage, etaVisit, etaTab, etaServer, etaCache, etaNet, etaLoader, etaSheet, etaResult, etaSlot, etaModule, etaAddr, etaRequest, etaResponse, etaConn, etaGuess, etaEntry, etaSent, etaFile, baSz, List.size_toArray, List.length_cons, List.length_nil, Nat.reduceAdd, Int.toNat_zero, List.drop_zero, decide_eq_true_eq, decide_eq_false_iff_not, Bool.not_eq_true', Bool.not_eq_false', bne_iff_ne, bne_eq_false_iff_eq, beq_iff_eq, beq_eq_false_iff_ne, Bool.not_eq_true, Bool.not_eq_false, ne_eq, Decidable.not_not, baEq, decide_not, Prod.mk.injEq, and_true, true_and, Room, List.nil_append, Nat.zero_add, Int.not_lt, Int.not_le] at *
  all_goals first | trivial | omega | (simp_all; done) | (simp_all; omega) | grind)
def E10 : D.Env := E9.add 22 fFirst
theorem E10ok : EOk Try.prog E10 := E9ok.add k22_9
def inRange (n lo hi : Int) : Bool := decide (lo ≤ n) && decide (n ≤ hi)
def fInRange : Fct := ⟨[aI, aI, aI], [rB], fun _ => True, fun (x : Int × Int × Int × Unit) => (inRange x.1 x.2.1 x.2.2.1, ())⟩
-- impl.InRange
theorem k46_10 : fInRange.ok Try.prog 46 := Fct.of (S := fInRange) (L := fun _ _ => none) (kp := [0,1,2,6]) E10ok Try.func46 (by kernel_rfl) (by kernel_rfl) (by
  rintro ⟨(n : Int), (lo : Int), (hi : Int), _⟩ hp
  refine holds_of (X := .br (decide (lo ≤ n))
 (.leaf (mkR fInRange.rs (decide (n ≤ hi), ())) [] [])
 (.leaf (mkR fInRange.rs (false, ())) [] [])) (by kernel_rfl) ?_
  refine br_i (fun h1 => Fct.leafY ?_) (fun h1 => Fct.leafY ?_)
  all_goals try simp only [decide_eq_true_eq, decide_eq_false_iff_not, Bool.not_eq_true', Bool.not_eq_false', bne_iff_ne, bne_eq_false_iff_eq, beq_iff_eq, beq_eq_false_iff_ne, baEq, Int.not_lt, Int.not_le, ne_eq, Decidable.not_not] at *
  all_goals try simp only [fInRange, etaToken, etaNode, etaBuilder, etaPolicy, etaPage, etaVisit, etaTab, etaServer, etaCache, etaNet, etaLoader, etaSheet, etaResult, etaSlot, etaModule, etaAddr, etaRequest, etaResponse, etaConn, etaGuess, etaEntry, etaSent, etaFile, baSz, List.size_toArray, List.length_cons, List.length_nil, Nat.reduceAdd, Int.toNat_zero, List.drop_zero, decide_eq_true_eq, decide_eq_false_iff_not, Bool.not_eq_true', Bool.not_eq_false', bne_iff_ne, bne_eq_false_iff_eq, beq_iff_eq, beq_eq_false_iff_ne, Bool.not_eq_true, Bool.not_eq_false, ne_eq, Decidable.not_not, baEq, decide_not, Prod.mk.injEq, and_true, true_and, Room, List.nil_append, Nat.zero_add, Int.not_lt, Int.not_le, inRange] at *
  all_goals first | trivial | (simp_all; done) | (simp_all; omega) | grind)
def E11 : D.Env := E10.add 46 fInRange
theorem E11ok : EOk Try.prog E11 := E10ok.add k46_10
-- spec.l1In
theorem k61_11 : fInRange.ok Try.prog 61 := Fct.of (S := fInRange) (L := fun _ _ => none) (kp := [0,1,2,6]) E11ok Try.func61 (by kernel_rfl) (by kernel_rfl) (by
  rintro ⟨(n : Int), (lo : Int), (hi : Int), _⟩ hp
  refine holds_of (X := .br (decide (n ≥ lo))
 (.leaf (mkR fInRange.rs (decide (n ≤ hi), ())) [] [])
 (.leaf (mkR fInRange.rs (false, ())) [] [])) (by kernel_rfl) ?_
  refine br_i (fun h1 => Fct.leafY ?_) (fun h1 => Fct.leafY ?_)
  all_goals try simp only [decide_eq_true_eq, decide_eq_false_iff_not, Bool.not_eq_true', Bool.not_eq_false', bne_iff_ne, bne_eq_false_iff_eq, beq_iff_eq, beq_eq_false_iff_ne, baEq, Int.not_lt, Int.not_le, ne_eq, Decidable.not_not] at *
  all_goals try simp only [fInRange, etaToken, etaNode, etaBuilder, etaPolicy, etaPage, etaVisit, etaTab, etaServer, etaCache, etaNet, etaLoader, etaSheet, etaResult, etaSlot, etaModule, etaAddr, etaRequest, etaResponse, etaConn, etaGuess, etaEntry, etaSent, etaFile, baSz, List.size_toArray, List.length_cons, List.length_nil, Nat.reduceAdd, Int.toNat_zero, List.drop_zero, decide_eq_true_eq, decide_eq_false_iff_not, Bool.not_eq_true', Bool.not_eq_false', bne_iff_ne, bne_eq_false_iff_eq, beq_iff_eq, beq_eq_false_iff_ne, Bool.not_eq_true, Bool.not_eq_false, ne_eq, Decidable.not_not, baEq, decide_not, Prod.mk.injEq, and_true, true_and, Room, List.nil_append, Nat.zero_add, Int.not_lt, Int.not_le, inRange] at *
  all_goals first | trivial | (simp_all; done) | (simp_all; omega) | grind)
def E12 : D.Env := E11.add 61 fInRange
theorem E12ok : EOk Try.prog E12 := E11ok.add k61_11
def fMax : Fct := ⟨[aI, aI], [rI], fun _ => True, fun (x : Int × Int × Unit) => (max x.1 x.2.1, ())⟩
-- spec.Max
theorem k62_12 : fMax.ok Try.prog 62 := Fct.of (S := fMax) (L := fun _ _ => none) (kp := [0,1,4,7,1000007]) E12ok Try.func62 (by kernel_rfl) (by kernel_rfl) (by
  rintro ⟨(a : Int), (b : Int), _⟩ hp
  refine holds_of (X := .br (decide (b > a))
 (.leaf (mkR fMax.rs (b, ())) [] [])
 (.leaf (mkR fMax.rs (a, ())) [] [])) (by kernel_rfl) ?_
  refine br_i (fun h1 => Fct.leafY ?_) (fun h1 => Fct.leafY ?_)
  all_goals try simp only [decide_eq_true_eq, decide_eq_false_iff_not, Bool.not_eq_true', Bool.not_eq_false', bne_iff_ne, bne_eq_false_iff_eq, beq_iff_eq, beq_eq_false_iff_ne, baEq, Int.not_lt, Int.not_le, ne_eq, Decidable.not_not] at *
  all_goals try simp only [fMax, etaToken, etaNode, etaBuilder, etaPolicy, etaPage, etaVisit, etaTab, etaServer, etaCache, etaNet, etaLoader, etaSheet, etaResult, etaSlot, etaModule, etaAddr, etaRequest, etaResponse, etaConn, etaGuess, etaEntry, etaSent, etaFile, baSz, List.size_toArray, List.length_cons, List.length_nil, Nat.reduceAdd, Int.toNat_zero, List.drop_zero, decide_eq_true_eq, decide_eq_false_iff_not, Bool.not_eq_true', Bool.not_eq_false', bne_iff_ne, bne_eq_false_iff_eq, beq_iff_eq, beq_eq_false_iff_ne, Bool.not_eq_true, Bool.not_eq_false, ne_eq, Decidable.not_not, baEq, decide_not, Prod.mk.injEq, and_true, true_and, Room, List.nil_append, Nat.zero_add, Int.not_lt, Int.not_le] at *
  all_goals first | trivial | omega | (simp_all; done) | (simp_all; omega) | grind)
def E13 : D.Env := E12.add 62 fMax
theorem E13ok : EOk Try.prog E13 := E12ok.add k62_12
def fCopyConns : Fct := ⟨[aL .conn], [rL .conn], fun (x : List SConn × Unit) => x.1.length ≤ 1048576, fun (x : List SConn × Unit) => (x.1, ())⟩
-- impl.copyConns
theorem k40_13 : fCopyConns.ok Try.prog 40 := Fct.of (S := fCopyConns) (L := fun _ _ => none) (kp := [0,2]) E13ok Try.func40 (by kernel_rfl) (by kernel_rfl) (by
  rintro ⟨(l : List SConn), _⟩ hp
  refine holds_of (X := .ob (True) <|
 .ob (Room ((0 : Nat) + List.length l) (112 : Nat)) <|
 .leaf (mkR fCopyConns.rs ([] ++ l, ())) [] []) (by kernel_rfl) ?_
  refine ob_i trivial fun _ => ob_i ?_ fun o1 => Fct.leafY ?_
  all_goals try simp only [decide_eq_true_eq, decide_eq_false_iff_not, Bool.not_eq_true', Bool.not_eq_false', bne_iff_ne, bne_eq_false_iff_eq, beq_iff_eq, beq_eq_false_iff_ne, baEq, Int.not_lt, Int.not_le, ne_eq, Decidable.not_not] at *
  all_goals try simp only [fCopyConns, etaToken, etaNode, etaBuilder, etaPolicy, etaPage, etaVisit, etaTab, etaServer, etaCache, etaNet, etaLoader, etaSheet, etaResult, etaSlot, etaModule, etaAddr, etaRequest, etaResponse, etaConn, etaGuess, etaEntry, etaSent, etaFile, baSz, List.size_toArray, List.length_cons, List.length_nil, Nat.reduceAdd, Int.toNat_zero, List.drop_zero, decide_eq_true_eq, decide_eq_false_iff_not, Bool.not_eq_true', Bool.not_eq_false', bne_iff_ne, bne_eq_false_iff_eq, beq_iff_eq, beq_eq_false_iff_ne, Bool.not_eq_true, Bool.not_eq_false, ne_eq, Decidable.not_not, baEq, decide_not, Prod.mk.injEq, and_true, true_and, Room, List.nil_append, Nat.zero_add, Int.not_lt, Int.not_le] at *
  all_goals first | trivial | omega | (simp_all; done) | (simp_all; omega) | grind)
def E14 : D.Env := E13.add 40 fCopyConns
theorem E14ok : EOk Try.prog E14 := E13ok.add k40_13
def moveOne (b : Int) (c : SConn) : SConn := { c with left := max 0 (IntKind.i64.wrap (c.left - b)) }
def moveConns (l : List SConn) (b : Int) : List SConn := if inRange b 0 1000 then l.map (moveOne b) else l
def fMove : Fct := ⟨[aL .conn, aI], [rL .conn], fun (x : List SConn × Int × Unit) => x.1.length ≤ 1048576, fun (x : List SConn × Int × Unit) => (moveConns x.1 x.2.1, ())⟩
abbrev L45 (l : List SConn) (b : Int) : LInv := ⟨[⟨.s, 6, true, .el .int⟩, ⟨.s, 5, true, .sl .conn⟩], fun _ (x : Int × List SConn × Unit) => 0 ≤ x.1 ∧ x.1 ≤ l.length ∧ x.2.1 = moveConns (l.take x.1.toNat) b ++ l.drop x.1.toNat, fun (x : Int × List SConn × Unit) => l.length - x.1.toNat⟩
theorem moveConns_len (l : List SConn) (b : Int) : (moveConns l b).length = l.length := by unfold moveConns; split <;> simp
theorem moveConns_nil (b : Int) : moveConns [] b = [] := by unfold moveConns; split <;> rfl
theorem moveConns_step {l : List SConn} {b : Int} {i : Nat} (hb : inRange b 0 1000 = true) (h : i < l.length) {g : SConn → SConn} (hg : g (l.getD i default) = moveOne b (l.getD i default)) : (moveConns (l.take i) b ++ l.drop i).modify i g = moveConns (l.take (i + 1)) b ++ l.drop (i + 1) := by
  rw [drop_cons h, mod_at (by rw [moveConns_len, List.length_take]; omega), take_succ h]
  simp only [moveConns, hb, if_true, List.map_append, List.map_cons, List.map_nil, List.append_assoc, List.cons_append, List.nil_append, hg]
theorem moveConns_out {l : List SConn} {b : Int} {i : Nat} (hb : inRange b 0 1000 = false) : moveConns (l.take i) b ++ l.drop i = moveConns l b := by
  simp [moveConns, hb]
-- spec.MoveConns
theorem k53_14 : fMove.ok Try.prog 53 := Fct.of (S := fMove) (L := fun ⟨l, b, _⟩ => fun | 3 => some (L45 l b) | _ => none) (kp := [0,1,4,5,6,17,1000017]) E14ok Try.func53 (by kernel_rfl) (by kernel_rfl) (by
  rintro ⟨(l : List SConn), (b : Int), _⟩ hp
  refine holds_of (X := .ob (True) <|
 .ob (Room ((0 : Nat) + l.length) (112 : Nat)) <|
 lpx (L45 l b) ((0 : Int), ([] ++ l, ())) fun (y2 : Int × List SConn × PUnit) bk2 =>
 .br (decide (y2.fst < (↑l.length : Int)))
  (.ob (fInRange.pre (b, (0 : Int), (1000 : Int), ())) <|
   .lt (Bool × PUnit) (fInRange.fn (b, (0 : Int), (1000 : Int), ())) fun z2 =>
   .br (z2.fst)
    (.ob ((0 : Int) ≤ y2.fst ∧ y2.fst < (↑l.length : Int)) <|
     .ob (fMax.pre ((0 : Int), IntKind.i64.wrap ((l.getD y2.fst.toNat default).left - b), ())) <|
     .lt (Int × PUnit) (fMax.fn ((0 : Int), IntKind.i64.wrap ((l.getD y2.fst.toNat default).left - b), ())) fun z3 =>
     .ob ((0 : Int) ≤ y2.fst ∧ y2.fst < (↑y2.snd.fst.length : Int)) <|
      .ob (y2.fst.toNat < y2.snd.fst.length) <|
      .lt (List SConn) (y2.snd.fst.modify y2.fst.toNat fun z => { to := z.to, left := z3.fst, guess := z.guess, response := z.response : SConn }) fun z4 =>
      .ob (l = l) <|
       .ob (Value.int IntKind.i64 b = Value.int IntKind.i64 b) <|
       .ob (bk2 (IntKind.i64.wrap (y2.fst + (1 : Int)), (z4, ()))) <|
       .ok)
    (.leaf (mkR fMove.rs (y2.snd.fst, ())) [] []))
  (.leaf (mkR fMove.rs (y2.snd.fst, ())) [] [])) (by kernel_rfl) ?_
  refine ob_i trivial fun _ => ob_i ?_ fun o1 => lpx_i ?_ fun (y2 : Int × List SConn × PUnit) i2 => br_i (fun h3 => ob_i trivial fun _ => lt_i (br_i (fun h4 => ob_i ?_ fun o5 => ob_i trivial fun _ => lt_i (ob_i ?_ fun o6 => ob_i ?_ fun o7 => lt_i (ob_i rfl fun _ => ob_i rfl fun _ => ob_i ?_ fun o8 => trivial))) (fun h4 => Fct.leafY ?_))) (fun h3 => Fct.leafY ?_)
  all_goals try simp only [decide_eq_true_eq, decide_eq_false_iff_not, Bool.not_eq_true', Bool.not_eq_false', bne_iff_ne, bne_eq_false_iff_eq, beq_iff_eq, beq_eq_false_iff_ne, baEq, Int.not_lt, Int.not_le, ne_eq, Decidable.not_not] at *
  all_goals try simp only [L45, fInRange, fMax, fMove, etaToken, etaNode, etaBuilder, etaPolicy, etaPage, etaVisit, etaTab, etaServer, etaCache, etaNet, etaLoader, etaSheet, etaResult, etaSlot, etaModule, etaAddr, etaRequest, etaResponse, etaConn, etaGuess, etaEntry, etaSent, etaFile, baSz, List.size_toArray, List.length_cons, List.length_nil, Nat.reduceAdd, Int.toNat_zero, List.drop_zero, decide_eq_true_eq, decide_eq_false_iff_not, Bool.not_eq_true', Bool.not_eq_false', bne_iff_ne, bne_eq_false_iff_eq, beq_iff_eq, beq_eq_false_iff_ne, Bool.not_eq_true, Bool.not_eq_false, ne_eq, Decidable.not_not, baEq, decide_not, Prod.mk.injEq, and_true, true_and, Room, List.nil_append, Nat.zero_add, Int.not_lt, Int.not_le] at *
  all_goals try have hln : y2.2.1.length = l.length := by rw [i2.2.2, List.length_append, moveConns_len, List.length_take, List.length_drop]; omega
  · omega
  · exact ⟨by omega, by omega, by simp [moveConns_nil]⟩
  · omega
  · omega
  · omega
  · rw [wrapId (by omega), toNat1 (by omega), i2.2.2, moveConns_step h4 (by omega) (by simp [moveOne, fMax])]
    exact ⟨⟨by omega, by omega, rfl⟩, by omega⟩
  · rw [i2.2.2, moveConns_out h4]
  · rw [i2.2.2, List.take_of_length_le (by omega), List.drop_of_length_le (by omega), List.append_nil])
def E15 : D.Env := E14.add 53 fMove
theorem E15ok : EOk Try.prog E15 := E14ok.add k53_14
abbrev L46 (l : List SConn) (b : Int) : LInv := ⟨[⟨.s, 15, true, .el .int⟩, ⟨.s, 5, true, .sl .conn⟩], fun _ (x : Int × List SConn × Unit) => 0 ≤ x.1 ∧ x.1 ≤ l.length ∧ x.2.1 = moveConns (l.take x.1.toNat) b ++ l.drop x.1.toNat, fun (x : Int × List SConn × Unit) => l.length - x.1.toNat⟩
-- impl.MoveConns
theorem k21_15 : fMove.ok Try.prog 21 := Fct.of (S := fMove) (L := fun ⟨l, b, _⟩ => fun | 5 => some (L46 l b) | _ => none) (kp := [0,1,4,5,6,11,14,15,16,1000011,1000016]) E15ok Try.func21 (by kernel_rfl) (by kernel_rfl) (by
  rintro ⟨(l : List SConn), (b : Int), _⟩ hp
  refine holds_of (X := .ob (fCopyConns.pre (l, ())) <|
 .lt (List SConn × PUnit) (fCopyConns.fn (l, ())) fun z2 =>
 .ob (fInRange.pre (b, (0 : Int), (1000 : Int), ())) <|
  .lt (Bool × PUnit) (fInRange.fn (b, (0 : Int), (1000 : Int), ())) fun z3 =>
  .br (!z3.fst)
   (.leaf (mkR fMove.rs (z2.fst, ())) [] [])
   (lpx (L46 l b) ((0 : Int), (z2.fst, ())) fun (y3 : Int × List SConn × PUnit) bk3 =>
    .br (decide (y3.fst < (↑z2.fst.length : Int)))
     (.ob ((0 : Int) ≤ y3.fst ∧ y3.fst < (↑y3.snd.fst.length : Int)) <|
      .ob (y3.fst.toNat < y3.snd.fst.length) <|
      .ob ((0 : Int) ≤ y3.fst ∧ y3.fst < (↑y3.snd.fst.length : Int)) <|
      .ob (y3.fst.toNat < y3.snd.fst.length) <|
      .lt (List SConn) (y3.snd.fst.modify y3.fst.toNat fun z => { to := z.to, left := if IntKind.i64.wrap ((y3.snd.fst.getD y3.fst.toNat default).left - b) > (0 : Int) then IntKind.i64.wrap ((y3.snd.fst.getD y3.fst.toNat default).left - b) else (0 : Int), guess := z.guess, response := z.response : SConn }) fun z4 =>
      .ob (l = l) <|
       .ob (Value.int IntKind.i64 b = Value.int IntKind.i64 b) <|
       .ob (Value.int IntKind.i64 (↑z2.fst.length : Int) = Value.int IntKind.i64 (↑z2.fst.length : Int)) <|
       .ob (bk3 (IntKind.i64.wrap (y3.fst + (1 : Int)), (z4, ()))) <|
       .ok)
     (.leaf (mkR fMove.rs (y3.snd.fst, ())) [] []))) (by kernel_rfl) ?_
  refine ob_i ?_ fun o1 => lt_i (ob_i trivial fun _ => lt_i (br_i (fun h2 => Fct.leafY ?_) (fun h2 => lpx_i ?_ fun (y3 : Int × List SConn × PUnit) i3 => br_i (fun h4 => ob_i ?_ fun o5 => ob_i ?_ fun o6 => ob_i ?_ fun o7 => ob_i ?_ fun o8 => lt_i (ob_i rfl fun _ => ob_i rfl fun _ => ob_i rfl fun _ => ob_i ?_ fun o9 => trivial)) (fun h4 => Fct.leafY ?_))))
  all_goals try simp only [decide_eq_true_eq, decide_eq_false_iff_not, Bool.not_eq_true', Bool.not_eq_false', bne_iff_ne, bne_eq_false_iff_eq, beq_iff_eq, beq_eq_false_iff_ne, baEq, Int.not_lt, Int.not_le, ne_eq, Decidable.not_not] at *
  all_goals try simp only [L46, fCopyConns, fInRange, fMove, etaToken, etaNode, etaBuilder, etaPolicy, etaPage, etaVisit, etaTab, etaServer, etaCache, etaNet, etaLoader, etaSheet, etaResult, etaSlot, etaModule, etaAddr, etaRequest, etaResponse, etaConn, etaGuess, etaEntry, etaSent, etaFile, baSz, List.size_toArray, List.length_cons, List.length_nil, Nat.reduceAdd, Int.toNat_zero, List.drop_zero, decide_eq_true_eq, decide_eq_false_iff_not, Bool.not_eq_true', Bool.not_eq_false', bne_iff_ne, bne_eq_false_iff_eq, beq_iff_eq, beq_eq_false_iff_ne, Bool.not_eq_true, Bool.not_eq_false, ne_eq, Decidable.not_not, baEq, decide_not, Prod.mk.injEq, and_true, true_and, Room, List.nil_append, Nat.zero_add, Int.not_lt, Int.not_le, fCopyConns] at *
  all_goals try have hln : y3.2.1.length = l.length := by rw [i3.2.2, List.length_append, moveConns_len, List.length_take, List.length_drop]; omega
  · omega
  · rw [moveConns, h2]; rfl
  · exact ⟨by omega, by omega, by simp [moveConns_nil]⟩
  · omega
  · omega
  · omega
  · omega
  · rw [wrapId (by omega), toNat1 (by omega)]
    refine ⟨⟨by omega, by omega, ?_⟩, by omega⟩
    have hA : (moveConns (l.take y3.1.toNat) b).length = y3.1.toNat := by rw [moveConns_len, List.length_take]; omega
    have hget : y3.2.1.getD y3.1.toNat default = l.getD y3.1.toNat default := by rw [i3.2.2, drop_cons (i := y3.1.toNat) (by omega), getD_at hA]
    rw [hget, i3.2.2, moveConns_step h2 (by omega)]
    simp only [moveOne]
    congr 1
    split <;> omega
  · rw [i3.2.2, List.take_of_length_le (by omega), List.drop_of_length_le (by omega), List.append_nil])
def E16 : D.Env := E15.add 21 fMove
theorem E16ok : EOk Try.prog E16 := E15ok.add k21_15
def sizeResponse (x : SResponse) : Int := x.body.size + 20
def fSizeResponse : Fct := ⟨[aE .response], [rI], fun (x : SResponse × Unit) => x.1.body.size ≤ 1000000000000, fun (x : SResponse × Unit) => (sizeResponse x.1, ())⟩
-- spec.SizeResponse
theorem k42_16 : fSizeResponse.ok Try.prog 42 := Fct.of (S := fSizeResponse) (L := fun _ _ => none) (kp := [1,2]) E16ok Try.func42 (by kernel_rfl) (by kernel_rfl) (by
  rintro ⟨(x : SResponse), _⟩ hp
  refine holds_of (X := .leaf (mkR fSizeResponse.rs (IntKind.i64.wrap ((↑x.body.size : Int) + (20 : Int)), ())) [] []) (by kernel_rfl) ?_
  refine Fct.leafY ?_
  all_goals try simp only [decide_eq_true_eq, decide_eq_false_iff_not, Bool.not_eq_true', Bool.not_eq_false', bne_iff_ne, bne_eq_false_iff_eq, beq_iff_eq, beq_eq_false_iff_ne, baEq, Int.not_lt, Int.not_le, ne_eq, Decidable.not_not] at *
  all_goals try simp only [fSizeResponse, etaToken, etaNode, etaBuilder, etaPolicy, etaPage, etaVisit, etaTab, etaServer, etaCache, etaNet, etaLoader, etaSheet, etaResult, etaSlot, etaModule, etaAddr, etaRequest, etaResponse, etaConn, etaGuess, etaEntry, etaSent, etaFile, baSz, List.size_toArray, List.length_cons, List.length_nil, Nat.reduceAdd, Int.toNat_zero, List.drop_zero, decide_eq_true_eq, decide_eq_false_iff_not, Bool.not_eq_true', Bool.not_eq_false', bne_iff_ne, bne_eq_false_iff_eq, beq_iff_eq, beq_eq_false_iff_ne, Bool.not_eq_true, Bool.not_eq_false, ne_eq, Decidable.not_not, baEq, decide_not, Prod.mk.injEq, and_true, true_and, Room, List.nil_append, Nat.zero_add, Int.not_lt, Int.not_le, sizeResponse] at *
  rw [wrapId (by omega)])
def E17 : D.Env := E16.add 42 fSizeResponse
theorem E17ok : EOk Try.prog E17 := E16ok.add k42_16
-- impl.SizeResponse
theorem k15_17 : fSizeResponse.ok Try.prog 15 := Fct.of (S := fSizeResponse) (L := fun _ _ => none) (kp := [1,2]) E17ok Try.func15 (by kernel_rfl) (by kernel_rfl) (by
  rintro ⟨(x : SResponse), _⟩ hp
  refine holds_of (X := .leaf (mkR fSizeResponse.rs (IntKind.i64.wrap ((↑x.body.size : Int) + (20 : Int)), ())) [] []) (by kernel_rfl) ?_
  refine Fct.leafY ?_
  all_goals try simp only [decide_eq_true_eq, decide_eq_false_iff_not, Bool.not_eq_true', Bool.not_eq_false', bne_iff_ne, bne_eq_false_iff_eq, beq_iff_eq, beq_eq_false_iff_ne, baEq, Int.not_lt, Int.not_le, ne_eq, Decidable.not_not] at *
  all_goals try simp only [fSizeResponse, etaToken, etaNode, etaBuilder, etaPolicy, etaPage, etaVisit, etaTab, etaServer, etaCache, etaNet, etaLoader, etaSheet, etaResult, etaSlot, etaModule, etaAddr, etaRequest, etaResponse, etaConn, etaGuess, etaEntry, etaSent, etaFile, baSz, List.size_toArray, List.length_cons, List.length_nil, Nat.reduceAdd, Int.toNat_zero, List.drop_zero, decide_eq_true_eq, decide_eq_false_iff_not, Bool.not_eq_true', Bool.not_eq_false', bne_iff_ne, bne_eq_false_iff_eq, beq_iff_eq, beq_eq_false_iff_ne, Bool.not_eq_true, Bool.not_eq_false, ne_eq, Decidable.not_not, baEq, decide_not, Prod.mk.injEq, and_true, true_and, Room, List.nil_append, Nat.zero_add, Int.not_lt, Int.not_le, sizeResponse] at *
  rw [wrapId (by omega)])
def E18 : D.Env := E17.add 15 fSizeResponse
theorem E18ok : EOk Try.prog E18 := E17ok.add k15_17
def openConn (l : List SConn) (a : SAddr) (x : SResponse) (g : Bool) : List SConn × Bool := if (l.length : Int) ≥ 3 ∨ findConn a l 0 ≥ 0 then (l, false) else (l ++ [⟨a, sizeResponse x, g, x⟩], true)
def fOpen : Fct := ⟨[aL .conn, aE .addr, aE .response, aB], [rL .conn, rB], fun (x : List SConn × SAddr × SResponse × Bool × Unit) => x.1.length ≤ 1048576 ∧ x.2.2.1.body.size ≤ 1048576, fun (x : List SConn × SAddr × SResponse × Bool × Unit) => ((openConn x.1 x.2.1 x.2.2.1 x.2.2.2.1).1, (openConn x.1 x.2.1 x.2.2.1 x.2.2.2.1).2, ())⟩
-- spec.OpenConn
theorem k18_18 : fOpen.ok Try.prog 18 := Fct.of (S := fOpen) (L := fun _ _ => none) (kp := [0,3,5,6,8,9,10,22,1000022]) E18ok Try.func18 (by kernel_rfl) (by kernel_rfl) (by
  rintro ⟨(l : List SConn), (a : SAddr), (x : SResponse), (g : Bool), _⟩ hp
  refine holds_of (X := .ob (True) <|
 .ob (Room ((0 : Nat) + List.length l) (112 : Nat)) <|
 .br (decide ((↑(List.length l) : Int) ≥ (3 : Int)))
 (.leaf (mkR fOpen.rs ([] ++ l, false, ())) [] [])
 (.ob (fFind.pre (l, a, ())) <|
  .lt (Int × PUnit) (fFind.fn (l, a, ())) fun z2 =>
  .br (decide (z2.fst ≥ (0 : Int)))
   (.leaf (mkR fOpen.rs ([] ++ l, false, ())) [] [])
   (.ob (fSizeResponse.pre (x, ())) <|
    .lt (Int × PUnit) (fSizeResponse.fn (x, ())) fun z3 =>
    .ob (True) <|
     .ob (Room (([] ++ l).length + [{ to := a, left := z3.fst, guess := g, response := x : SConn }].length) (112 : Nat)) <|
     .leaf (mkR fOpen.rs ([] ++ l ++ [{ to := a, left := z3.fst, guess := g, response := x : SConn }], true, ())) [] []))) (by kernel_rfl) ?_
  refine ob_i trivial fun _ => ob_i ?_ fun o1 => br_i (fun h2 => Fct.leafY ?_) (fun h2 => ob_i ?_ fun o3 => lt_i (br_i (fun h4 => Fct.leafY ?_) (fun h4 => ob_i ?_ fun o5 => lt_i (ob_i trivial fun _ => ob_i ?_ fun o6 => Fct.leafY ?_))))
  all_goals have hp1 : l.length ≤ 1048576 := hp.1
  all_goals have hp3 : x.body.size ≤ 1048576 := hp.2
  all_goals clear hp
  all_goals try simp only [decide_eq_true_eq, decide_eq_false_iff_not, Bool.not_eq_true', Bool.not_eq_false', bne_iff_ne, bne_eq_false_iff_eq, beq_iff_eq, beq_eq_false_iff_ne, baEq, Int.not_lt, Int.not_le, ne_eq, Decidable.not_not] at *
  all_goals try simp only [fFind, fOpen, fSizeResponse, etaToken, etaNode, etaBuilder, etaPolicy, etaPage, etaVisit, etaTab, etaServer, etaCache, etaNet, etaLoader, etaSheet, etaResult, etaSlot, etaModule, etaAddr, etaRequest, etaResponse, etaConn, etaGuess, etaEntry, etaSent, etaFile, baSz, List.size_toArray, List.length_cons, List.length_nil, Nat.reduceAdd, Int.toNat_zero, List.drop_zero, decide_eq_true_eq, decide_eq_false_iff_not, Bool.not_eq_true', Bool.not_eq_false', bne_iff_ne, bne_eq_false_iff_eq, beq_iff_eq, beq_eq_false_iff_ne, Bool.not_eq_true, Bool.not_eq_false, ne_eq, Decidable.not_not, baEq, decide_not, Prod.mk.injEq, and_true, true_and, Room, List.nil_append, Nat.zero_add, Int.not_lt, Int.not_le, fCopyConns, List.length_append, List.length_cons, List.length_nil] at *
  all_goals first | trivial | omega | (simp [openConn, h2]; done) | (simp [openConn, h4]; done) | (have hh : ¬ ((3 : Int) ≤ (l.length : Int) ∨ 0 ≤ findConn a l 0) := by omega; simp [openConn, hh]; done) | skip
  all_goals
    rw [openConn, if_neg (show ¬ ((l.length : Int) ≥ 3 ∨ findConn a l 0 ≥ 0) by rintro (h | h) <;> omega)]
    exact ⟨rfl, rfl⟩)
def E19 : D.Env := E18.add 18 fOpen
theorem E19ok : EOk Try.prog E19 := E18ok.add k18_18
-- impl.OpenConn
theorem k17_19 : fOpen.ok Try.prog 17 := Fct.of (S := fOpen) (L := fun _ _ => none) (kp := [0,3,5,6,8,9,10,21,1000021]) E19ok Try.func17 (by kernel_rfl) (by kernel_rfl) (by
  rintro ⟨(l : List SConn), (a : SAddr), (x : SResponse), (g : Bool), _⟩ hp
  refine holds_of (X := .ob (fCopyConns.pre (l, ())) <|
 .lt (List SConn × PUnit) (fCopyConns.fn (l, ())) fun z2 =>
 .br (decide ((↑(List.length l) : Int) ≥ (3 : Int)))
  (.leaf (mkR fOpen.rs (z2.fst, false, ())) [] [])
  (.ob (fFind.pre (l, a, ())) <|
   .lt (Int × PUnit) (fFind.fn (l, a, ())) fun z3 =>
   .br (decide (z3.fst ≥ (0 : Int)))
    (.leaf (mkR fOpen.rs (z2.fst, false, ())) [] [])
    (.ob (fSizeResponse.pre (x, ())) <|
     .lt (Int × PUnit) (fSizeResponse.fn (x, ())) fun z4 =>
     .ob (True) <|
      .ob (Room (z2.fst.length + [{ to := a, left := z4.fst, guess := g, response := x : SConn }].length) (112 : Nat)) <|
      .leaf (mkR fOpen.rs (z2.fst ++ [{ to := a, left := z4.fst, guess := g, response := x : SConn }], true, ())) [] []))) (by kernel_rfl) ?_
  refine ob_i ?_ fun o1 => lt_i (br_i (fun h2 => Fct.leafY ?_) (fun h2 => ob_i ?_ fun o3 => lt_i (br_i (fun h4 => Fct.leafY ?_) (fun h4 => ob_i ?_ fun o5 => lt_i (ob_i trivial fun _ => ob_i ?_ fun o6 => Fct.leafY ?_)))))
  all_goals have hp1 : l.length ≤ 1048576 := hp.1
  all_goals have hp3 : x.body.size ≤ 1048576 := hp.2
  all_goals clear hp
  all_goals try simp only [decide_eq_true_eq, decide_eq_false_iff_not, Bool.not_eq_true', Bool.not_eq_false', bne_iff_ne, bne_eq_false_iff_eq, beq_iff_eq, beq_eq_false_iff_ne, baEq, Int.not_lt, Int.not_le, ne_eq, Decidable.not_not] at *
  all_goals try simp only [fCopyConns, fFind, fOpen, fSizeResponse, etaToken, etaNode, etaBuilder, etaPolicy, etaPage, etaVisit, etaTab, etaServer, etaCache, etaNet, etaLoader, etaSheet, etaResult, etaSlot, etaModule, etaAddr, etaRequest, etaResponse, etaConn, etaGuess, etaEntry, etaSent, etaFile, baSz, List.size_toArray, List.length_cons, List.length_nil, Nat.reduceAdd, Int.toNat_zero, List.drop_zero, decide_eq_true_eq, decide_eq_false_iff_not, Bool.not_eq_true', Bool.not_eq_false', bne_iff_ne, bne_eq_false_iff_eq, beq_iff_eq, beq_eq_false_iff_ne, Bool.not_eq_true, Bool.not_eq_false, ne_eq, Decidable.not_not, baEq, decide_not, Prod.mk.injEq, and_true, true_and, Room, List.nil_append, Nat.zero_add, Int.not_lt, Int.not_le, fCopyConns, List.length_append, List.length_cons, List.length_nil] at *
  all_goals first | trivial | omega | (simp [openConn, h2]; done) | (simp [openConn, h4]; done) | (have hh : ¬ ((3 : Int) ≤ (l.length : Int) ∨ 0 ≤ findConn a l 0) := by omega; simp [openConn, hh]; done) | skip
  all_goals
    rw [openConn, if_neg (show ¬ ((l.length : Int) ≥ 3 ∨ findConn a l 0 ≥ 0) by rintro (h | h) <;> omega)]
    exact ⟨rfl, rfl⟩)
def E20 : D.Env := E19.add 17 fOpen
theorem E20ok : EOk Try.prog E20 := E19ok.add k17_19
theorem openConn_len (l : List SConn) (a : SAddr) (x : SResponse) (g : Bool) : (openConn l a x g).1.length ≤ l.length + 1 := by unfold openConn; split <;> simp
def fDelConn : GS := ⟨[.g (.sl .conn), .l (.v (.el .int)), .l (.v (.el .int))], [.sl .conn], fun (x_ : (List SConn) × Int × Int × Unit) => 0 ≤ x_.2.1 ∧ x_.2.1 < x_.2.2.1 ∧ x_.2.2.1 ≤ x_.1.length ∧ x_.1.length ≤ 1048576, fun (x_ : (List SConn) × Int × Int × Unit) => ((x_.1.take x_.2.1.toNat ++ x_.1.drop x_.2.2.1.toNat, ()), (()))⟩
theorem del_conn {l : List SConn} {i j : Int} (h0 : 0 ≤ i) (hi : i ≤ j) (hj : j ≤ l.length) (ys : List SConn) {k k' m n j' : Nat} (hjj : j' = j.toNat) (hm : m = l.length - j.toNat) (hk : k = i.toNat + m) (hk' : k' = k) (hn : n = i.toNat) : l.take i.toNat ++ l.drop j.toNat = cut (put3 (put3 l n (cut l j' m)) k ys) 0 k' := by
  subst hjj; subst hk'; subst hk; subst hn
  rw [put3_cut _ _ _ (by rw [put3_length, cut_length]; omega), del_cut (by omega) (by omega) hm]
-- slices.Delete[[]impl.Conn,impl.Conn]
theorem k48_20 : fDelConn.ok Try.prog 48 := GS.of (S := fDelConn) (L := fun _ _ => none) (kp := [0,1,2,6,7,16,1000016]) E20ok Try.func48 (by kernel_rfl) (by kernel_rfl) (by
  rintro ⟨(l : List SConn), (i : Int), (j : Int), _⟩ hp
  refine holds_of (X := .ob ((0 : Int) ≤ i ∧ i ≤ j ∧ j ≤ (↑(List.length l) : Int) ∧ (↑(List.length l) : Int) ≤ (↑(List.length l) : Int)) <|
 .br (i == j)
 (GS.out fDelConn ((l, ()), (())))
 (.ob ((0 : Int) ≤ i ∧ i ≤ (↑(List.length l) : Int)) <|
  .ob ((0 : Int) ≤ j ∧ j ≤ (↑(List.length l) : Int)) <|
  .ob ((0 : Nat) = (0 : Nat) ∧
  (0 : Nat) < List.length l ∧
    Int.toNat j + (List.length l - Int.toNat j) ≤ List.length l ∧
      Int.toNat i - (0 : Nat) + (List.length l - Int.toNat j) ≤ List.length l) <|
  .ob ((0 : Int) ≤ (↑(Int.toNat i - (0 : Nat) + (List.length l - Int.toNat j)) : Int) ∧
  (↑(Int.toNat i - (0 : Nat) + (List.length l - Int.toNat j)) : Int) ≤ (↑(List.length l) : Int) ∧
    (↑(List.length l) : Int) ≤
      (↑((put3 l (Int.toNat i - (0 : Nat)) (cut l (Int.toNat j) (List.length l - Int.toNat j))).length - (0 : Nat)) :
        Int)) <|
  .ob ((0 : Nat) + (↑(Int.toNat i - (0 : Nat) + (List.length l - Int.toNat j)) : Int).toNat +
    ((↑(List.length l) : Int).toNat - (↑(Int.toNat i - (0 : Nat) + (List.length l - Int.toNat j)) : Int).toNat) ≤
  (put3 l (Int.toNat i - (0 : Nat)) (cut l (Int.toNat j) (List.length l - Int.toNat j))).length) <|
  .ob ((0 : Nat) + (Int.toNat i - (0 : Nat) + (List.length l - Int.toNat j)) ≤
  (put3 (put3 l (Int.toNat i - (0 : Nat)) (cut l (Int.toNat j) (List.length l - Int.toNat j)))
      ((0 : Nat) + (↑(Int.toNat i - (0 : Nat) + (List.length l - Int.toNat j)) : Int).toNat)
      (List.replicate
        ((↑(List.length l) : Int).toNat - (↑(Int.toNat i - (0 : Nat) + (List.length l - Int.toNat j)) : Int).toNat)
        default)).length) <|
  GS.out fDelConn ((cut
  (put3 (put3 l (Int.toNat i - (0 : Nat)) (cut l (Int.toNat j) (List.length l - Int.toNat j)))
    ((0 : Nat) + (↑(Int.toNat i - (0 : Nat) + (List.length l - Int.toNat j)) : Int).toNat)
    (List.replicate
      ((↑(List.length l) : Int).toNat - (↑(Int.toNat i - (0 : Nat) + (List.length l - Int.toNat j)) : Int).toNat)
      default))
  (0 : Nat) (Int.toNat i - (0 : Nat) + (List.length l - Int.toNat j)), ()), (())))) (by kernel_rfl) ?_
  refine ob_i ?_ fun o1 => br_i (fun h2 => GS.leafY ?_) (fun h2 => ob_i ?_ fun o3 => ob_i ?_ fun o4 => ob_i ?_ fun o5 => ob_i ?_ fun o6 => ob_i ?_ fun o7 => ob_i ?_ fun o8 => GS.leafY ?_)
  all_goals try simp only [decide_eq_true_eq, decide_eq_false_iff_not, Bool.not_eq_true', Bool.not_eq_false', bne_iff_ne, bne_eq_false_iff_eq, beq_iff_eq, beq_eq_false_iff_ne, baEq, Int.not_lt, Int.not_le, ne_eq, Decidable.not_not] at *
  all_goals try simp only [fDelConn, etaToken, etaNode, etaBuilder, etaPolicy, etaPage, etaVisit, etaTab, etaServer, etaCache, etaNet, etaLoader, etaSheet, etaResult, etaSlot, etaModule, etaAddr, etaRequest, etaResponse, etaConn, etaGuess, etaEntry, etaSent, etaFile, baSz, List.size_toArray, List.length_cons, List.length_nil, Nat.reduceAdd, Int.toNat_zero, List.drop_zero, decide_eq_true_eq, decide_eq_false_iff_not, Bool.not_eq_true', Bool.not_eq_false', bne_iff_ne, bne_eq_false_iff_eq, beq_iff_eq, beq_eq_false_iff_ne, Bool.not_eq_true, Bool.not_eq_false, ne_eq, Decidable.not_not, baEq, decide_not, Prod.mk.injEq, and_true, true_and, Room, List.nil_append, Nat.zero_add, Int.not_lt, Int.not_le] at *
  all_goals first | omega | (simp only [put3_length, cut_length, List.length_replicate] at *; omega) | exact (del_conn (by omega) (by omega) (by omega) _ rfl rfl (by omega) (by omega) (by omega)).symm)
def E21 : D.Env := E20.addG 48 fDelConn
theorem E21ok : EOk Try.prog E21 := E20ok.addG k48_20
def closeConn (l : List SConn) (i : Int) : List SConn := if 0 ≤ i ∧ i < l.length then l.take i.toNat ++ l.drop (i.toNat + 1) else l
theorem closeConn_len (l : List SConn) (i : Int) : (closeConn l i).length ≤ l.length := by unfold closeConn; split <;> simp <;> omega
def fCloseConn : Fct := ⟨[.v (.sl .conn), .v (.el .int)], [.sl .conn], fun (x_ : (List SConn) × Int × Unit) => x_.1.length ≤ 1048576, fun (x_ : (List SConn) × Int × Unit) => (closeConn x_.1 x_.2.1, ())⟩
-- impl.CloseConn
theorem k23_21 : fCloseConn.ok Try.prog 23 := Fct.of (S := fCloseConn) (L := fun _ _ => none) (kp := [0,1,4,5,15,1000015]) E21ok Try.func23 (by kernel_rfl) (by kernel_rfl) (by
  rintro ⟨(l : List SConn), (i : Int), _⟩ hp
  refine holds_of (X := .ob (fCopyConns.pre (l, ())) <|
 .lt (List SConn × PUnit) (fCopyConns.fn (l, ())) fun z2 =>
 .br (decide (i < (0 : Int)))
  (.leaf (mkR fCloseConn.rs (z2.fst, ())) [] [])
  (.br (decide (i ≥ (↑(List.length l) : Int)))
   (.leaf (mkR fCloseConn.rs (z2.fst, ())) [] [])
   (.ob (fDelConn.pre (z2.fst, i, IntKind.i64.wrap (i + (1 : Int)), ())) <|
    .lt ((List SConn × PUnit) × PUnit) (fDelConn.fn (z2.fst, i, IntKind.i64.wrap (i + (1 : Int)), ())) fun z3 =>
    .leaf (mkR fCloseConn.rs (z3.fst.fst, ())) [] []))) (by kernel_rfl) ?_
  refine ob_i ?_ fun o1 => lt_i (br_i (fun h2 => Fct.leafY ?_) (fun h2 => br_i (fun h3 => Fct.leafY ?_) (fun h3 => ob_i ?_ fun o4 => lt_i (Fct.leafY ?_))))
  all_goals try simp only [decide_eq_true_eq, decide_eq_false_iff_not, Bool.not_eq_true', Bool.not_eq_false', bne_iff_ne, bne_eq_false_iff_eq, beq_iff_eq, beq_eq_false_iff_ne, baEq, Int.not_lt, Int.not_le, ne_eq, Decidable.not_not] at *
  all_goals try simp only [fCloseConn, fCopyConns, fDelConn, etaToken, etaNode, etaBuilder, etaPolicy, etaPage, etaVisit, etaTab, etaServer, etaCache, etaNet, etaLoader, etaSheet, etaResult, etaSlot, etaModule, etaAddr, etaRequest, etaResponse, etaConn, etaGuess, etaEntry, etaSent, etaFile, baSz, List.size_toArray, List.length_cons, List.length_nil, Nat.reduceAdd, Int.toNat_zero, List.drop_zero, decide_eq_true_eq, decide_eq_false_iff_not, Bool.not_eq_true', Bool.not_eq_false', bne_iff_ne, bne_eq_false_iff_eq, beq_iff_eq, beq_eq_false_iff_ne, Bool.not_eq_true, Bool.not_eq_false, ne_eq, Decidable.not_not, baEq, decide_not, Prod.mk.injEq, and_true, true_and, Room, List.nil_append, Nat.zero_add, Int.not_lt, Int.not_le, closeConn, fDelConn, fInRange, inRange] at *
  all_goals try simp (disch := omega) only [wrapId', toNat1] at *
  all_goals try simp (disch := omega) only [if_pos, if_neg]
  all_goals first | trivial | omega | grind [wrapId', toNat1, drop_cons, drop_end, good_len, maxLen, closeConn, fDelConn, fInRange, inRange])
def E22 : D.Env := E21.add 23 fCloseConn
theorem E22ok : EOk Try.prog E22 := E21ok.add k23_21
def nameByte (b : UInt8) : Bool := 97 ≤ b.toNat && b.toNat ≤ 122
def bts (s : ByteArray) : List UInt8 := s.data.toList
theorem bts_len (s : ByteArray) : (bts s).length = s.size := rfl
theorem bts_at {s : ByteArray} {i : Nat} (h : i < s.size) : (bts s).drop i = s.data.getD i 0 :: (bts s).drop (i + 1) := by
  have h2 : i < s.data.size := h
  have e : s.data.getD i 0 = s.data[i] := by unfold Array.getD; rw [dif_pos h2]; rfl
  rw [List.drop_eq_getElem_cons (by rw [bts_len]; exact h), e]
  rfl
theorem bts_end {s : ByteArray} {i : Nat} (h : s.size ≤ i) : (bts s).drop i = [] := List.drop_of_length_le h
def allB (p : UInt8 → Bool) (l : List UInt8) : Bool := l.all p
theorem allB_at {p : UInt8 → Bool} {s : ByteArray} {i : Nat} (h : i < s.size) : allB p ((bts s).drop i) = (p (s.data.getD i 0) && allB p ((bts s).drop (i + 1))) := by rw [bts_at h]; rfl
theorem allB_end {p : UInt8 → Bool} {s : ByteArray} {i : Nat} (h : s.size ≤ i) : allB p ((bts s).drop i) = true := by rw [bts_end h]; rfl
def isName (s : ByteArray) : Bool := allB nameByte (bts s) && decide (1 ≤ s.size ∧ s.size ≤ 8)
def fIsName : Fct := ⟨[.v (.el .str)], [.el .bool], fun (x_ : ByteArray × Unit) => x_.1.size ≤ 1000000000000000000, fun (x_ : ByteArray × Unit) => (isName x_.1, ())⟩
abbrev W_spec_IsName_fIsName_2 (s : ByteArray) : LInv := ⟨[⟨.s, 3, true, .el .int⟩], fun _ (x_ : Int × Unit) => 0 ≤ x_.1 ∧ x_.1 ≤ s.size ∧ allB nameByte ((bts s).drop x_.1.toNat) = allB nameByte (bts s), fun (x_ : Int × Unit) => s.size - x_.1.toNat⟩
-- spec.IsName
theorem k73_22 : fIsName.ok Try.prog 73 := Fct.of (S := fIsName) (L := fun ⟨s, _⟩ => fun | 2 => some (W_spec_IsName_fIsName_2 s) | _ => none) (kp := [0,2,3,7,19,1000007,1000019]) E22ok Try.func73 (by kernel_rfl) (by kernel_rfl) (by
  rintro ⟨(s : ByteArray), _⟩ hp
  refine holds_of (X := lpx (W_spec_IsName_fIsName_2 s) ((0 : Int), ()) fun (y1 : Int × PUnit) bk1 =>
 .br (decide (y1.fst < (↑s.size : Int)))
  (.ob ((0 : Int) ≤ y1.fst ∧ y1.fst < (↑s.size : Int)) <|
   .br (decide ((↑(s.data.getD y1.fst.toNat (0 : UInt8)).toNat : Int) < (97 : Int)))
   (.leaf (mkR fIsName.rs (false, ())) [] [])
   (.ob ((0 : Int) ≤ y1.fst ∧ y1.fst < (↑s.size : Int)) <|
    .br (decide ((↑(s.data.getD y1.fst.toNat (0 : UInt8)).toNat : Int) > (122 : Int)))
    (.leaf (mkR fIsName.rs (false, ())) [] [])
    (.ob (Value.string s = Value.string s) <|
     .ob (bk1 (IntKind.i64.wrap (y1.fst + (1 : Int)), ())) <|
     .ok)))
  (.ob (fInRange.pre ((↑s.size : Int), (1 : Int), (8 : Int), ())) <|
   .lt (Bool × PUnit) (fInRange.fn ((↑s.size : Int), (1 : Int), (8 : Int), ())) fun z2 =>
   .leaf (mkR fIsName.rs (z2.fst, ())) [] [])) (by kernel_rfl) ?_
  refine lpx_i ?_ fun (y1 : Int × PUnit) i1 => br_i (fun h2 => ob_i ?_ fun o3 => br_i (fun h4 => Fct.leafY ?_) (fun h4 => ob_i ?_ fun o5 => br_i (fun h6 => Fct.leafY ?_) (fun h6 => ob_i rfl fun _ => ob_i ?_ fun o7 => trivial))) (fun h2 => ob_i trivial fun _ => lt_i (Fct.leafY ?_))
  all_goals try simp only [decide_eq_true_eq, decide_eq_false_iff_not, Bool.not_eq_true', Bool.not_eq_false', bne_iff_ne, bne_eq_false_iff_eq, beq_iff_eq, beq_eq_false_iff_ne, baEq, Int.not_lt, Int.not_le, ne_eq, Decidable.not_not] at *
  all_goals try simp only [W_spec_IsName_fIsName_2, fInRange, fIsName, etaToken, etaNode, etaBuilder, etaPolicy, etaPage, etaVisit, etaTab, etaServer, etaCache, etaNet, etaLoader, etaSheet, etaResult, etaSlot, etaModule, etaAddr, etaRequest, etaResponse, etaConn, etaGuess, etaEntry, etaSent, etaFile, baSz, List.size_toArray, List.length_cons, List.length_nil, Nat.reduceAdd, Int.toNat_zero, List.drop_zero, decide_eq_true_eq, decide_eq_false_iff_not, Bool.not_eq_true', Bool.not_eq_false', bne_iff_ne, bne_eq_false_iff_eq, beq_iff_eq, beq_eq_false_iff_ne, Bool.not_eq_true, Bool.not_eq_false, ne_eq, Decidable.not_not, baEq, decide_not, Prod.mk.injEq, and_true, true_and, Room, List.nil_append, Nat.zero_add, Int.not_lt, Int.not_le, isName, nameByte, fInRange, inRange, allB_at, allB_end] at *
  all_goals try simp (disch := omega) only [wrapId', toNat1] at *
  all_goals try simp (disch := omega) only [if_pos, if_neg]
  all_goals first | trivial | omega | grind [wrapId', toNat1, good_len, maxLen, isName, nameByte, fInRange, inRange, allB_at, allB_end])
def E23 : D.Env := E22.add 73 fIsName
theorem E23ok : EOk Try.prog E23 := E22ok.add k73_22
def valByte (b : UInt8) : Bool := (97 ≤ b.toNat && b.toNat ≤ 122) || (48 ≤ b.toNat && b.toNat ≤ 57) || b.toNat == 47
def isValue (s : ByteArray) : Bool := allB valByte (bts s) && decide (1 ≤ s.size ∧ s.size ≤ 20)
def fIsValue : Fct := ⟨[.v (.el .str)], [.el .bool], fun (x_ : ByteArray × Unit) => x_.1.size ≤ 1000000000000000000, fun (x_ : ByteArray × Unit) => (isValue x_.1, ())⟩
abbrev W_spec_IsValue_fIsValue_2 (s : ByteArray) : LInv := ⟨[⟨.s, 3, true, .el .int⟩], fun _ (x_ : Int × Unit) => 0 ≤ x_.1 ∧ x_.1 ≤ s.size ∧ allB valByte ((bts s).drop x_.1.toNat) = allB valByte (bts s), fun (x_ : Int × Unit) => s.size - x_.1.toNat⟩
-- spec.IsValue
theorem k72_23 : fIsValue.ok Try.prog 72 := Fct.of (S := fIsValue) (L := fun ⟨s, _⟩ => fun | 2 => some (W_spec_IsValue_fIsValue_2 s) | _ => none) (kp := [0,2,3,7,37,1000007,1000037]) E23ok Try.func72 (by kernel_rfl) (by kernel_rfl) (by
  rintro ⟨(s : ByteArray), _⟩ hp
  refine holds_of (X := lpx (W_spec_IsValue_fIsValue_2 s) ((0 : Int), ()) fun (y1 : Int × PUnit) bk1 =>
 .br (decide (y1.fst < (↑s.size : Int)))
  (.ob ((0 : Int) ≤ y1.fst ∧ y1.fst < (↑s.size : Int)) <|
   .br (decide ((↑(s.data.getD y1.fst.toNat (0 : UInt8)).toNat : Int) < (97 : Int)))
   (.ob ((0 : Int) ≤ y1.fst ∧ y1.fst < (↑s.size : Int)) <|
    .br (decide ((↑(s.data.getD y1.fst.toNat (0 : UInt8)).toNat : Int) < (48 : Int)))
    (.ob ((0 : Int) ≤ y1.fst ∧ y1.fst < (↑s.size : Int)) <|
     .br ((↑(s.data.getD y1.fst.toNat (0 : UInt8)).toNat : Int) != (47 : Int))
     (.leaf (mkR fIsValue.rs (false, ())) [] [])
     (.ob (Value.string s = Value.string s) <|
      .ob (bk1 (IntKind.i64.wrap (y1.fst + (1 : Int)), ())) <|
      .ok))
    (.ob ((0 : Int) ≤ y1.fst ∧ y1.fst < (↑s.size : Int)) <|
     .br (decide ((↑(s.data.getD y1.fst.toNat (0 : UInt8)).toNat : Int) > (57 : Int)))
     (.ob ((0 : Int) ≤ y1.fst ∧ y1.fst < (↑s.size : Int)) <|
      .br ((↑(s.data.getD y1.fst.toNat (0 : UInt8)).toNat : Int) != (47 : Int))
      (.leaf (mkR fIsValue.rs (false, ())) [] [])
      (.ob (Value.string s = Value.string s) <|
       .ob (bk1 (IntKind.i64.wrap (y1.fst + (1 : Int)), ())) <|
       .ok))
     (.ob (Value.string s = Value.string s) <|
      .ob (bk1 (IntKind.i64.wrap (y1.fst + (1 : Int)), ())) <|
      .ok)))
   (.ob ((0 : Int) ≤ y1.fst ∧ y1.fst < (↑s.size : Int)) <|
    .br (decide ((↑(s.data.getD y1.fst.toNat (0 : UInt8)).toNat : Int) > (122 : Int)))
    (.ob ((0 : Int) ≤ y1.fst ∧ y1.fst < (↑s.size : Int)) <|
     .br (decide ((↑(s.data.getD y1.fst.toNat (0 : UInt8)).toNat : Int) < (48 : Int)))
     (.ob ((0 : Int) ≤ y1.fst ∧ y1.fst < (↑s.size : Int)) <|
      .br ((↑(s.data.getD y1.fst.toNat (0 : UInt8)).toNat : Int) != (47 : Int))
      (.leaf (mkR fIsValue.rs (false, ())) [] [])
      (.ob (Value.string s = Value.string s) <|
       .ob (bk1 (IntKind.i64.wrap (y1.fst + (1 : Int)), ())) <|
       .ok))
     (.ob ((0 : Int) ≤ y1.fst ∧ y1.fst < (↑s.size : Int)) <|
      .br (decide ((↑(s.data.getD y1.fst.toNat (0 : UInt8)).toNat : Int) > (57 : Int)))
      (.ob ((0 : Int) ≤ y1.fst ∧ y1.fst < (↑s.size : Int)) <|
       .br ((↑(s.data.getD y1.fst.toNat (0 : UInt8)).toNat : Int) != (47 : Int))
       (.leaf (mkR fIsValue.rs (false, ())) [] [])
       (.ob (Value.string s = Value.string s) <|
        .ob (bk1 (IntKind.i64.wrap (y1.fst + (1 : Int)), ())) <|
        .ok))
      (.ob (Value.string s = Value.string s) <|
       .ob (bk1 (IntKind.i64.wrap (y1.fst + (1 : Int)), ())) <|
       .ok)))
    (.ob (Value.string s = Value.string s) <|
     .ob (bk1 (IntKind.i64.wrap (y1.fst + (1 : Int)), ())) <|
     .ok)))
  (.ob (fInRange.pre ((↑s.size : Int), (1 : Int), (20 : Int), ())) <|
   .lt (Bool × PUnit) (fInRange.fn ((↑s.size : Int), (1 : Int), (20 : Int), ())) fun z2 =>
   .leaf (mkR fIsValue.rs (z2.fst, ())) [] [])) (by kernel_rfl) ?_
  refine lpx_i ?_ fun (y1 : Int × PUnit) i1 => br_i (fun h2 => ob_i ?_ fun o3 => br_i (fun h4 => ob_i ?_ fun o5 => br_i (fun h6 => ob_i ?_ fun o7 => br_i (fun h8 => Fct.leafY ?_) (fun h8 => ob_i rfl fun _ => ob_i ?_ fun o9 => trivial)) (fun h6 => ob_i ?_ fun o10 => br_i (fun h11 => ob_i ?_ fun o12 => br_i (fun h13 => Fct.leafY ?_) (fun h13 => ob_i rfl fun _ => ob_i ?_ fun o14 => trivial)) (fun h11 => ob_i rfl fun _ => ob_i ?_ fun o15 => trivial))) (fun h4 => ob_i ?_ fun o16 => br_i (fun h17 => ob_i ?_ fun o18 => br_i (fun h19 => ob_i ?_ fun o20 => br_i (fun h21 => Fct.leafY ?_) (fun h21 => ob_i rfl fun _ => ob_i ?_ fun o22 => trivial)) (fun h19 => ob_i ?_ fun o23 => br_i (fun h24 => ob_i ?_ fun o25 => br_i (fun h26 => Fct.leafY ?_) (fun h26 => ob_i rfl fun _ => ob_i ?_ fun o27 => trivial)) (fun h24 => ob_i rfl fun _ => ob_i ?_ fun o28 => trivial))) (fun h17 => ob_i rfl fun _ => ob_i ?_ fun o29 => trivial))) (fun h2 => ob_i trivial fun _ => lt_i (Fct.leafY ?_))
  all_goals try simp only [decide_eq_true_eq, decide_eq_false_iff_not, Bool.not_eq_true', Bool.not_eq_false', bne_iff_ne, bne_eq_false_iff_eq, beq_iff_eq, beq_eq_false_iff_ne, baEq, Int.not_lt, Int.not_le, ne_eq, Decidable.not_not] at *
  all_goals try simp only [W_spec_IsValue_fIsValue_2, fInRange, fIsValue, etaToken, etaNode, etaBuilder, etaPolicy, etaPage, etaVisit, etaTab, etaServer, etaCache, etaNet, etaLoader, etaSheet, etaResult, etaSlot, etaModule, etaAddr, etaRequest, etaResponse, etaConn, etaGuess, etaEntry, etaSent, etaFile, baSz, List.size_toArray, List.length_cons, List.length_nil, Nat.reduceAdd, Int.toNat_zero, List.drop_zero, decide_eq_true_eq, decide_eq_false_iff_not, Bool.not_eq_true', Bool.not_eq_false', bne_iff_ne, bne_eq_false_iff_eq, beq_iff_eq, beq_eq_false_iff_ne, Bool.not_eq_true, Bool.not_eq_false, ne_eq, Decidable.not_not, baEq, decide_not, Prod.mk.injEq, and_true, true_and, Room, List.nil_append, Nat.zero_add, Int.not_lt, Int.not_le, isValue, valByte, fInRange, inRange, allB_at, allB_end] at *
  all_goals try simp (disch := omega) only [wrapId', toNat1] at *
  all_goals try simp (disch := omega) only [if_pos, if_neg]
  all_goals first | trivial | omega | grind [wrapId', toNat1, good_len, maxLen, isValue, valByte, fInRange, inRange, allB_at, allB_end])
def E24 : D.Env := E23.add 72 fIsValue
theorem E24ok : EOk Try.prog E24 := E23ok.add k72_23
theorem szStr_get {l : List ByteArray} {i : Nat} (h : i < l.length) : (l.getD i default).size + l.length ≤ szL szString l := by
  have := szL_get szString h
  simp only [szString] at this; omega
def fNames : Fct := ⟨[.v (.sl .str)], [.el .bool], fun (x_ : (List ByteArray) × Unit) => szL szString x_.1 ≤ 1099511627776, fun (x_ : (List ByteArray) × Unit) => (x_.1.all isName && decide (x_.1.length ≤ 4), ())⟩
abbrev W_spec_l9Names_fNames_2 (l : (List ByteArray)) : LInv := ⟨[⟨.s, 3, true, .el .int⟩], fun _ (x_ : Int × Unit) => 0 ≤ x_.1 ∧ x_.1 ≤ l.length ∧ (l.drop x_.1.toNat).all isName = l.all isName, fun (x_ : Int × Unit) => l.length - x_.1.toNat⟩
-- spec.l9Names
theorem k71_24 : fNames.ok Try.prog 71 := Fct.of (S := fNames) (L := fun ⟨l, _⟩ => fun | 2 => some (W_spec_l9Names_fNames_2 l) | _ => none) (kp := [0,2,3,7,15,1000007,1000015]) E24ok Try.func71 (by kernel_rfl) (by kernel_rfl) (by
  rintro ⟨(l : List ByteArray), _⟩ hp
  refine holds_of (X := lpx (W_spec_l9Names_fNames_2 l) ((0 : Int), ()) fun (y1 : Int × PUnit) bk1 =>
 .br (decide (y1.fst < (↑l.length : Int)))
  (.ob ((0 : Int) ≤ y1.fst ∧ y1.fst < (↑l.length : Int)) <|
   .ob (fIsName.pre (l.getD y1.fst.toNat default, ())) <|
   .lt (Bool × PUnit) (fIsName.fn (l.getD y1.fst.toNat default, ())) fun z2 =>
   .br (!z2.fst)
    (.leaf (mkR fNames.rs (false, ())) [] [])
    (.ob (l = l) <|
     .ob (bk1 (IntKind.i64.wrap (y1.fst + (1 : Int)), ())) <|
     .ok))
  (.leaf (mkR fNames.rs (decide ((↑l.length : Int) ≤ (4 : Int)), ())) [] [])) (by kernel_rfl) ?_
  refine lpx_i ?_ fun (y1 : Int × PUnit) i1 => br_i (fun h2 => ob_i ?_ fun o3 => ob_i ?_ fun o4 => lt_i (br_i (fun h5 => Fct.leafY ?_) (fun h5 => ob_i rfl fun _ => ob_i ?_ fun o6 => trivial))) (fun h2 => Fct.leafY ?_)
  all_goals have hl := szL_len szString l
  all_goals have hg : ∀ i, i < l.length → (l.getD i default).size ≤ 1000000000000000000 := fun i h => by have := szStr_get h; have hp2 : szL szString l ≤ 1099511627776 := hp; omega
  all_goals try simp only [decide_eq_true_eq, decide_eq_false_iff_not, Bool.not_eq_true', Bool.not_eq_false', bne_iff_ne, bne_eq_false_iff_eq, beq_iff_eq, beq_eq_false_iff_ne, baEq, Int.not_lt, Int.not_le, ne_eq, Decidable.not_not] at *
  all_goals try simp only [W_spec_l9Names_fNames_2, fIsName, fNames, etaToken, etaNode, etaBuilder, etaPolicy, etaPage, etaVisit, etaTab, etaServer, etaCache, etaNet, etaLoader, etaSheet, etaResult, etaSlot, etaModule, etaAddr, etaRequest, etaResponse, etaConn, etaGuess, etaEntry, etaSent, etaFile, baSz, List.size_toArray, List.length_cons, List.length_nil, Nat.reduceAdd, Int.toNat_zero, List.drop_zero, decide_eq_true_eq, decide_eq_false_iff_not, Bool.not_eq_true', Bool.not_eq_false', bne_iff_ne, bne_eq_false_iff_eq, beq_iff_eq, beq_eq_false_iff_ne, Bool.not_eq_true, Bool.not_eq_false, ne_eq, Decidable.not_not, baEq, decide_not, Prod.mk.injEq, and_true, true_and, Room, List.nil_append, Nat.zero_add, Int.not_lt, Int.not_le, fIsName] at *
  all_goals try simp (disch := omega) only [wrapId', toNat1] at *
  all_goals try simp (disch := omega) only [if_pos, if_neg]
  all_goals first | trivial | omega | grind [wrapId', toNat1, drop_cons, drop_end, good_len, maxLen, fIsName])
def E25 : D.Env := E24.add 71 fNames
theorem E25ok : EOk Try.prog E25 := E24ok.add k71_24
def isPolicy (p : SPolicy) : Bool := if p.set_ then p.scripts.all isName && decide (p.scripts.length ≤ 4) && (p.styles.all isName && decide (p.styles.length ≤ 4)) && (p.images.all isName && decide (p.images.length ≤ 4)) && (decide (p.nonce = ⟨#[]⟩) || isValue p.nonce) else decide (p.scripts.length = 0 ∧ p.styles.length = 0 ∧ p.images.length = 0 ∧ p.nonce = ⟨#[]⟩)
def fIsPolicy : Fct := ⟨[.v (.el .policy)], [.el .bool], fun (x_ : SPolicy × Unit) => szPolicy x_.1 ≤ 1099511627776, fun (x_ : SPolicy × Unit) => (isPolicy x_.1, ())⟩
-- spec.IsPolicy
theorem k67_25 : fIsPolicy.ok Try.prog 67 := Fct.of (S := fIsPolicy) (L := fun _ _ => none) (kp := [1,2,5,1000005]) E25ok Try.func67 (by kernel_rfl) (by kernel_rfl) (by
  rintro ⟨(p : SPolicy), _⟩ hp
  refine holds_of (X := .br (!p.set_)
 (.br ((↑p.scripts.length : Int) == (0 : Int))
  (.br ((↑p.styles.length : Int) == (0 : Int))
   (.br ((↑p.images.length : Int) == (0 : Int))
    (.leaf (mkR fIsPolicy.rs (p.nonce.toList == { data := #[] : ByteArray }.toList, ())) [] [])
    (.leaf (mkR fIsPolicy.rs (false, ())) [] []))
   (.leaf (mkR fIsPolicy.rs (false, ())) [] []))
  (.leaf (mkR fIsPolicy.rs (false, ())) [] []))
 (.ob (fNames.pre (p.scripts, ())) <|
  .lt (Bool × PUnit) (fNames.fn (p.scripts, ())) fun z2 =>
  .br (z2.fst)
   (.ob (fNames.pre (p.styles, ())) <|
    .lt (Bool × PUnit) (fNames.fn (p.styles, ())) fun z3 =>
    .br (z3.fst)
     (.ob (fNames.pre (p.images, ())) <|
      .lt (Bool × PUnit) (fNames.fn (p.images, ())) fun z4 =>
      .br (z4.fst)
       (.br (p.nonce.toList == { data := #[] : ByteArray }.toList)
        (.leaf (mkR fIsPolicy.rs (true, ())) [] [])
        (.ob (fIsValue.pre (p.nonce, ())) <|
         .lt (Bool × PUnit) (fIsValue.fn (p.nonce, ())) fun z5 =>
         .leaf (mkR fIsPolicy.rs (z5.fst, ())) [] []))
       (.leaf (mkR fIsPolicy.rs (false, ())) [] []))
     (.leaf (mkR fIsPolicy.rs (false, ())) [] []))
   (.leaf (mkR fIsPolicy.rs (false, ())) [] []))) (by kernel_rfl) ?_
  refine br_i (fun h1 => br_i (fun h2 => br_i (fun h3 => br_i (fun h4 => Fct.leafY ?_) (fun h4 => Fct.leafY ?_)) (fun h3 => Fct.leafY ?_)) (fun h2 => Fct.leafY ?_)) (fun h1 => ob_i ?_ fun o5 => lt_i (br_i (fun h6 => ob_i ?_ fun o7 => lt_i (br_i (fun h8 => ob_i ?_ fun o9 => lt_i (br_i (fun h10 => br_i (fun h11 => Fct.leafY ?_) (fun h11 => ob_i ?_ fun o12 => lt_i (Fct.leafY ?_))) (fun h10 => Fct.leafY ?_))) (fun h8 => Fct.leafY ?_))) (fun h6 => Fct.leafY ?_)))
  all_goals try simp only [decide_eq_true_eq, decide_eq_false_iff_not, Bool.not_eq_true', Bool.not_eq_false', bne_iff_ne, bne_eq_false_iff_eq, beq_iff_eq, beq_eq_false_iff_ne, baEq, Int.not_lt, Int.not_le, ne_eq, Decidable.not_not] at *
  all_goals try simp only [fIsPolicy, fIsValue, fNames, etaToken, etaNode, etaBuilder, etaPolicy, etaPage, etaVisit, etaTab, etaServer, etaCache, etaNet, etaLoader, etaSheet, etaResult, etaSlot, etaModule, etaAddr, etaRequest, etaResponse, etaConn, etaGuess, etaEntry, etaSent, etaFile, baSz, List.size_toArray, List.length_cons, List.length_nil, Nat.reduceAdd, Int.toNat_zero, List.drop_zero, decide_eq_true_eq, decide_eq_false_iff_not, Bool.not_eq_true', Bool.not_eq_false', bne_iff_ne, bne_eq_false_iff_eq, beq_iff_eq, beq_eq_false_iff_ne, Bool.not_eq_true, Bool.not_eq_false, ne_eq, Decidable.not_not, baEq, decide_not, Prod.mk.injEq, and_true, true_and, Room, List.nil_append, Nat.zero_add, Int.not_lt, Int.not_le, isPolicy, fNames, fIsValue, szPolicy] at *
  all_goals try simp (disch := omega) only [wrapId', toNat1] at *
  all_goals try simp (disch := omega) only [if_pos, if_neg]
  all_goals first | trivial | omega | grind [wrapId', toNat1, drop_cons, drop_end, good_len, maxLen, isPolicy, fNames, fIsValue, szPolicy])
def E26 : D.Env := E25.add 67 fIsPolicy
theorem E26ok : EOk Try.prog E26 := E25ok.add k67_25
theorem and_255 (x : Int) : 0 ≤ bits .and .i64 x 255 ∧ bits .and .i64 x 255 ≤ 255 := by
  have h : (BitVec.ofInt 64 x &&& BitVec.ofInt 64 255).toNat ≤ 255 := by
    rw [BitVec.toNat_and]; exact Nat.and_le_right
  have e : bits .and .i64 x 255 = ((BitVec.ofInt 64 x &&& BitVec.ofInt 64 255).toNat : Int) := by
    show IntKind.i64.wrap ((BitVec.ofInt 64 x &&& BitVec.ofInt 64 255).toNat : Int) = _
    exact wrapId' (by omega) (by omega)
  rw [e]; omega
open Go.RowKit in
set_option maxHeartbeats 2000000 in
theorem byte_walk (g n cap : Nat) (i : Nat) (h : Int) (ad : Option Addr) (w : World) (hi1 : i ≤ 9223372036854775807) (hn : n ≤ 1000000000000000000)
    (hx0 : w.cell? ⟨g, 0, none⟩ = some (.slice ad n cap)) (hx1 : w.cell? ⟨g, 1, none⟩ = some (.int .i64 i)) (hx2 : w.cell? ⟨g, 2, none⟩ = some (.int .i64 h))
    (f1 : w.frozen? ⟨g, 1, none⟩ = false) (f2 : w.frozen? ⟨g, 2, none⟩ = false)
    (hb : i < n → ∃ gb ob z, ad = some ⟨gb, ob, none⟩ ∧ gb ≠ g ∧ w.cell? ⟨gb, ob + i, none⟩ = some (.int .u8 z)) :
    Calls Try.prog 60 #[.pointer (some ⟨g, 0, none⟩)] w fun e w' => ∃ (x : Int) (i' : Nat) (h' : Int) (q : Nat), e = .returned (.int .i64 x) ∧ 0 ≤ x ∧ x ≤ 255 ∧ i' ≤ 9223372036854775807 ∧ ((∃ k, h' = wrap64 k) ∧
      (w' = ((w.setCell ⟨g, 2, none⟩ (.int .i64 h')).drewN q).setCell ⟨g, 1, none⟩ (.int .i64 i') ∨ (i' = i ∧ ∃ q', w' = ((w.setCell ⟨g, 2, none⟩ (.int .i64 h')).drewN q').drewN q))) := by
  go_enter Try.func60, Try.ntmps60
  go_wp2
  go_quiet (fail)
  go_wp2
  go_quiet (fail)
  go_wp2
  · have hlt : i < n := by omega
    obtain ⟨gb, ob, z, rfl, hne, hz⟩ := hb hlt
    clear hb
    have hz' : (w.setCell ⟨g, 2, none⟩ (Value.int IntKind.i64 (IntKind.i64.wrap (IntKind.i64.wrap (h * 6364136223846793005) + 1442695040888963407)))).cell? ⟨gb, ob + i, none⟩ = some (.int .u8 z) := by
      rw [World.cell?_setCell_other]; exact hz; simp
    go_quiet (fail)
    go_wp2
    go_ret
    exact ⟨_, i + 1, _, _, rfl, (and_255 _).1, (and_255 _).2, by omega, ⟨_, rfl⟩, .inl rfl⟩
  · go_ret
    exact ⟨_, i, _, _, rfl, (and_255 _).1, (and_255 _).2, by omega, ⟨_, rfl⟩, .inr ⟨rfl, _, rfl⟩⟩
open Go.RowKit in
theorem wrap_rng (k : Int) : -9223372036854775808 ≤ wrap64 k ∧ wrap64 k ≤ 9223372036854775807 := by
  unfold wrap64; omega
theorem set_heap {w : World} {g j : Nat} {r : Array Value} {e : TypeId} {v : Value} (h : w.heap[g]? = some (.cells r e (0, 0))) : (w.setCell ⟨g, j, none⟩ v).heap[g]? = some (.cells (r.setIfInBounds j v) e (0, 0)) ∧ (∀ b, b ≠ g → (w.setCell ⟨g, j, none⟩ v).heap[b]? = w.heap[b]?) ∧ (w.setCell ⟨g, j, none⟩ v).heap.size = w.heap.size := by
  refine ⟨?_, fun b hb => ?_, ?_⟩
  · simp [World.setCell, Array.getElem?_modify, h]
  · simp [World.setCell, Array.getElem?_modify, Ne.symm hb]
  · simp [World.setCell]
def fByte : Xct := ⟨[.u], [.el .int], fun (x_ : Unit × Unit) => True, fun (x_ : Unit × Unit) (y_ : Int × Unit) => 0 ≤ y_.1 ∧ y_.1 ≤ 255⟩
open Go.RowKit in
theorem byte_ok : fByte.ok Try.prog 60 := by
  rintro ⟨u, ⟨⟩⟩ _
  intro w vs G hB hA
  obtain ⟨v0, hv0, g, rfl, hg⟩ := hA.tm 0 .cur rfl
  have hvs : vs = #[.pointer (some ⟨g, 0, none⟩)] := by
    apply Array.ext
    · rw [hA.sz]; rfl
    · intro i h1 h2
      match i, h1, h2 with
      | 0, h1, h2 => rw [Array.getElem?_eq_getElem h1] at hv0; injection hv0
      | i + 1, h1, h2 => exact absurd (show i + 1 < 1 from h2) (by omega)
  subst hvs
  obtain ⟨xs, b, i, h, ty, hh, hb, hl, hi0, hi1, hh0, hh1⟩ := hA.cr g hg
  obtain ⟨a, cap, rfl, hcap, hrow⟩ := hb
  obtain ⟨i, rfl⟩ : ∃ k : Nat, i = k := ⟨i.toNat, by omega⟩
  have c0 : ∀ j, w.cell? ⟨g, j, none⟩ = (#[Value.slice a xs.length cap, .int .i64 (i : Int), .int .i64 h] : Array Value)[j]? := fun j => by simp [World.cell?, hh]
  have fz : ∀ j, w.frozen? ⟨g, j, none⟩ = false := fun j => by simp [World.frozen?, hh]
  refine (byte_walk g xs.length cap i h a w (by omega) hl (c0 0) (c0 1) (c0 2) (fz 1) (fz 2) fun hlt => ?_).mono ?_
  · rcases hrow with h0 | ⟨gb, ob, row, e, fr, rfl, hs, hbk, hc⟩
    · omega
    · obtain ⟨u, hu, hr⟩ := hc i hlt 0 (by decide)
      have e0 : cell .u8 xs i 0 = (enc .u8 xs[i]).getD 0 .nl := cell_get (t := .u8) (xs := xs) (by simp [hlt]) 0
      have hr : TR w (src G none) (fcC (cell .u8 xs i 0)) u := hr
      rw [e0] at hr
      obtain ⟨rfl, _⟩ := hr
      refine ⟨gb, ob, xs[i], rfl, fun e => ?_, ?_⟩
      · subst e
        rw [show G.ow gb = .free from hs] at hg
        cases hg
      · have : ob + i * Ty.u8.width + 0 = ob + i := by show ob + i * 1 + 0 = ob + i; omega
        rw [this] at hu
        simp [World.cell?, hbk, hu]
  · rintro e w' ⟨x, i', h', q, rfl, hx0, hx1, hi', ⟨k, rfl⟩, hw⟩
    have hk := wrap_rng k
    obtain ⟨s1, s2, s3⟩ := set_heap (j := 2) (v := .int .i64 (wrap64 k)) hh
    have fin : Onward w w' ∧ (∀ b, b ≠ g → w'.heap[b]? = w.heap[b]?) ∧ CurStep w w' g := by
      rcases hw with rfl | ⟨rfl, q', rfl⟩
      · obtain ⟨t1, t2, t3⟩ := set_heap (w := (w.setCell ⟨g, 2, none⟩ (.int .i64 (wrap64 k))).drewN q) (j := 1) (v := .int .i64 (i' : Int)) s1
        refine ⟨⟨rfl, rfl, ⟨rfl, Nat.le_add_right _ _⟩, ?_⟩, fun b hb => (t2 b hb).trans (s2 b hb), ?_⟩
        · rw [t3]; exact Nat.le_of_eq s3.symm
        · exact ⟨_, _, _, i', _, _, hh, t1, by omega, by omega, hk.1, hk.2⟩
      · refine ⟨⟨rfl, rfl, ⟨rfl, Nat.le_trans (Nat.le_add_right _ _) (Nat.le_add_right _ _)⟩, Nat.le_of_eq s3.symm⟩, fun b hb => s2 b hb, ?_⟩
        exact ⟨_, _, _, i', _, _, hh, s1, by omega, by omega, hk.1, hk.2⟩
    obtain ⟨f1, f2, f3⟩ := fin
    refine ⟨_, _, ⟨(x, ()), ⟨hx0, hx1⟩, rfl⟩, rfl, f1, fun b hb => f2 b fun e => ?_, fun b hb => ?_, fun _ _ => False, by simp, by simp, ?_, ?_, ?_⟩
    · subst e; rw [hg] at hb; cases hb
    · by_cases e : b = g
      · subst e; exact f3
      · exact (hA.cr b hb).same (f2 b e)
    · exact ⟨_, rfl, ⟨rfl, rfl⟩, rfl⟩
    · intro m T hm; cases hm
    · intro b cs hb; cases hb
theorem and_num (x : Int) : 0 ≤ bits .and .i64 x 1073741823 ∧ bits .and .i64 x 1073741823 ≤ 1073741823 := by
  have h : (BitVec.ofInt 64 x &&& BitVec.ofInt 64 1073741823).toNat ≤ 1073741823 := by
    rw [BitVec.toNat_and]; exact Nat.and_le_right
  have e : bits .and .i64 x 1073741823 = ((BitVec.ofInt 64 x &&& BitVec.ofInt 64 1073741823).toNat : Int) := by
    show IntKind.i64.wrap ((BitVec.ofInt 64 x &&& BitVec.ofInt 64 1073741823).toNat : Int) = _
    exact wrapId' (by omega) (by omega)
  rw [e]; omega
open Go.RowKit in
set_option maxRecDepth 100000 in
set_option maxHeartbeats 2000000 in
theorem new_walk (n cap : Nat) (ad : Option Addr) (w : World) (hn : n ≤ 1000000000000000000) (hb : ∀ i, i < n → ∃ gb ob z, ad = some ⟨gb, ob, none⟩ ∧ w.cell? ⟨gb, ob + i, none⟩ = some (.int .u8 z)) :
    Calls Try.prog 28 #[.slice ad n cap] w fun e w' => ∃ (h : Int) (q : Nat), e = .returned (.pointer (some ⟨w.heap.size, 0, none⟩)) ∧ -9223372036854775808 ≤ h ∧ h ≤ 9223372036854775807 ∧ w' = (w.drewN q).alloc (.cells #[.slice ad n cap, .int .i64 0, .int .i64 h] 75) := by
  go_enter Try.func28, Try.ntmps28
  go_wp2
  go_loop [3, 4] (fun h i => ∃ (k : Nat) (x : Int), k ≤ 4000 ∧ i = .int .i64 k ∧ h = .int .i64 x ∧ -9223372036854775808 ≤ x ∧ x ≤ 9223372036854775807) (fun _ i => 4001 - (intOf i).toNat)
  case atStart => exact ⟨0, _, by omega, rfl, rfl, by omega, by omega⟩
  case round =>
    obtain ⟨k, x, hk, rfl, rfl, hx0, hx1⟩ := hrel
    by_cases h1 : k < n
    · by_cases h2 : k < 4000
      · obtain ⟨gb, ob, z, rfl, hz⟩ := hb k h1
        clear hb
        go_wp2
        go_round
        case rel => exact ⟨k + 1, _, by omega, by go_num, rfl, Int.le_trans (by omega) (and_num _).1, Int.le_trans (and_num _).2 (by omega)⟩
        case measure => simp only [intOf]; omega
      · go_wp2
        go_ret
        exact ⟨rfl, x, hx0, hx1, 0, rfl⟩
    · go_wp2
      go_ret
      exact ⟨rfl, x, hx0, hx1, 0, rfl⟩
open Go.RowKit in
theorem new_ok : NewOk Try.prog 28 := by
  intro w v S xs hv _ hl
  obtain ⟨a, cap, rfl, hcap, hrow⟩ := hv
  refine (new_walk xs.length cap a w hl fun i hlt => ?_).mono ?_
  · rcases hrow with h0 | ⟨gb, ob, row, e, fr, rfl, hs, hbk, hc⟩
    · omega
    · obtain ⟨u, hu, hr⟩ := hc i hlt 0 (by decide)
      have e0 : cell .u8 xs i 0 = (enc .u8 xs[i]).getD 0 .nl := cell_get (t := .u8) (xs := xs) (by simp [hlt]) 0
      have hr : TR w S (fcC (cell .u8 xs i 0)) u := hr
      rw [e0] at hr
      obtain ⟨rfl, _⟩ := hr
      refine ⟨gb, ob, xs[i], rfl, ?_⟩
      have : ob + i * Ty.u8.width + 0 = ob + i := by show ob + i * 1 + 0 = ob + i; omega
      rw [this] at hu
      simp [World.cell?, hbk, hu]
  · rintro e w' ⟨h, q, rfl, h0, h1, rfl⟩
    refine ⟨w.heap.size, h, 75, rfl, ⟨rfl, rfl, ⟨rfl, Nat.le_add_right _ _⟩, ?_⟩, fun b hb => ?_, Nat.le_refl _, ?_, h0, h1⟩
    · simp [World.alloc, World.drewN]
    · simp [World.alloc, World.drewN, Array.getElem?_push, Nat.ne_of_lt hb]
    · simp [World.alloc, World.drewN]
-- spec.l1New
theorem k28_26 : NewOk Try.prog 28 :=
  new_ok
def E27 : D.Env := E26.addN 28
theorem E27ok : EOk Try.prog E27 := E26ok.addN k28_26
-- spec.l1Byte
theorem k60_27 : fByte.ok Try.prog 60 :=
  byte_ok
def E28 : D.Env := E27.addX 60 fByte
theorem E28ok : EOk Try.prog E28 := E27ok.addX k60_27
theorem bel_1 {a n : Int} (h1 : 0 ≤ a) (h3 : 0 < n) : 0 ≤ a.tmod n ∧ (a.tmod n < n ∨ a.tmod n = 0) := ⟨Int.tmod_nonneg n h1, .inl (Int.tmod_lt_of_pos a h3)⟩
theorem bel_3 {a b c : Int} (ha : 0 ≤ a ∧ a ≤ 255) (hb : 0 ≤ b ∧ b ≤ 255) (hc : 0 ≤ c ∧ c ≤ 255) : IntKind.i64.wrap (IntKind.i64.wrap (IntKind.i64.wrap (a * 65536) + IntKind.i64.wrap (b * 256)) + c) = a * 65536 + b * 256 + c := by
  rw [wrapId' (n := a * 65536) (by omega) (by omega), wrapId' (n := b * 256) (by omega) (by omega), wrapId' (n := a * 65536 + b * 256) (by omega) (by omega), wrapId' (by omega) (by omega)]
def fBelow : Xct := ⟨[.u, .v (.el .int)], [.el .int], fun (x_ : Unit × Int × Unit) => True, fun (x_ : Unit × Int × Unit) (y_ : Int × Unit) => 0 ≤ y_.1 ∧ (y_.1 < x_.2.1 ∨ y_.1 = 0)⟩
-- spec.l1Below
theorem k51_28 : fBelow.ok Try.prog 51 := Xct.of (S := fBelow) (L := fun _ _ => none) (kp := [0,1,4,5,6,7,9,11,1000009,1000011]) E28ok Try.func51 (by kernel_rfl) (by kernel_rfl) (by
  rintro ⟨(c : PUnit), (n : Int), _⟩ hp
  refine holds_of (X := .br (decide (n ≤ (0 : Int)))
 (.leaf (mkR fBelow.rs ((0 : Int), ())) [] [])
 (.br (decide (n ≤ (256 : Int)))
  (.ob (fByte.pre ((), ())) <|
   .lp (Int × PUnit) (True) (fByte.is ((), ())) fun y3 =>
   .ob (n ≠ (0 : Int)) <|
    .leaf (mkR fBelow.rs (y3.fst.tmod n, ())) [] [])
  (.ob (fByte.pre ((), ())) <|
   .lp (Int × PUnit) (True) (fByte.is ((), ())) fun y5 =>
   .ob (fByte.pre ((), ())) <|
    .lp (Int × PUnit) (True) (fByte.is ((), ())) fun y6 =>
    .ob (fByte.pre ((), ())) <|
     .lp (Int × PUnit) (True) (fByte.is ((), ())) fun y7 =>
     .ob (n ≠ (0 : Int)) <|
      .leaf (mkR fBelow.rs ((IntKind.i64.wrap
      (IntKind.i64.wrap (IntKind.i64.wrap (y5.fst * (65536 : Int)) + IntKind.i64.wrap (y6.fst * (256 : Int))) +
        y7.fst)).tmod
  n, ())) [] []))) (by kernel_rfl) ?_
  refine br_i (fun h1 => Xct.leafY (S := fBelow) ((0 : Int), ()) ?_) (fun h1 => br_i (fun h2 => ob_i trivial fun _ => lp_i trivial fun y3 i3 => ob_i ?_ fun o4 => Xct.leafY (S := fBelow) (y3.fst.tmod n, ()) ?_) (fun h2 => ob_i trivial fun _ => lp_i trivial fun y5 i5 => ob_i trivial fun _ => lp_i trivial fun y6 i6 => ob_i trivial fun _ => lp_i trivial fun y7 i7 => ob_i ?_ fun o8 => Xct.leafY (S := fBelow) ((IntKind.i64.wrap
      (IntKind.i64.wrap (IntKind.i64.wrap (y5.fst * (65536 : Int)) + IntKind.i64.wrap (y6.fst * (256 : Int))) +
        y7.fst)).tmod
  n, ()) ?_))
  all_goals try simp only [decide_eq_true_eq, decide_eq_false_iff_not, Bool.not_eq_true', Bool.not_eq_false', bne_iff_ne, bne_eq_false_iff_eq, beq_iff_eq, beq_eq_false_iff_ne, baEq, Int.not_lt, Int.not_le, ne_eq, Decidable.not_not] at *
  all_goals try simp only [fBelow, fByte, etaToken, etaNode, etaBuilder, etaPolicy, etaPage, etaVisit, etaTab, etaServer, etaCache, etaNet, etaLoader, etaSheet, etaResult, etaSlot, etaModule, etaAddr, etaRequest, etaResponse, etaConn, etaGuess, etaEntry, etaSent, etaFile, baSz, List.size_toArray, List.length_cons, List.length_nil, Nat.reduceAdd, Int.toNat_zero, List.drop_zero, decide_eq_true_eq, decide_eq_false_iff_not, Bool.not_eq_true', Bool.not_eq_false', bne_iff_ne, bne_eq_false_iff_eq, beq_iff_eq, beq_eq_false_iff_ne, Bool.not_eq_true, Bool.not_eq_false, ne_eq, Decidable.not_not, baEq, decide_not, Prod.mk.injEq, and_true, true_and, Room, List.nil_append, Nat.zero_add, Int.not_lt, Int.not_le] at *
  · simp
  · omega
  · exact bel_1 (by omega) (by omega)
  · omega
  · rw [bel_3 i5 i6 i7]; exact bel_1 (by omega) (by omega))
def E29 : D.Env := E28.addX 51 fBelow
theorem E29ok : EOk Try.prog E29 := E28ok.addX k51_28
def fOnce : Xct := ⟨[.u, .v (.el .int)], [.el .bool], fun (x_ : Unit × Int × Unit) => True, fun (x_ : Unit × Int × Unit) (y_ : Bool × Unit) => True⟩
-- spec.l1Once
theorem k39_29 : fOnce.ok Try.prog 39 := Xct.of (S := fOnce) (L := fun _ _ => none) (kp := [0,1,4]) E29ok Try.func39 (by kernel_rfl) (by kernel_rfl) (by
  rintro ⟨(c : PUnit), (n : Int), _⟩ hp
  refine holds_of (X := .ob (fBelow.pre ((), n, ())) <|
 .lp (Int × PUnit) (True) (fBelow.is ((), n, ())) fun y1 =>
 .leaf (mkR fOnce.rs (y1.fst == (0 : Int), ())) [] []) (by kernel_rfl) ?_
  refine ob_i trivial fun _ => lp_i trivial fun y1 i1 => Xct.leafY (S := fOnce) (y1.fst == (0 : Int), ()) ?_
  all_goals try simp only [decide_eq_true_eq, decide_eq_false_iff_not, Bool.not_eq_true', Bool.not_eq_false', bne_iff_ne, bne_eq_false_iff_eq, beq_iff_eq, beq_eq_false_iff_ne, baEq, Int.not_lt, Int.not_le, ne_eq, Decidable.not_not] at *
  all_goals try simp only [fBelow, fOnce, etaToken, etaNode, etaBuilder, etaPolicy, etaPage, etaVisit, etaTab, etaServer, etaCache, etaNet, etaLoader, etaSheet, etaResult, etaSlot, etaModule, etaAddr, etaRequest, etaResponse, etaConn, etaGuess, etaEntry, etaSent, etaFile, baSz, List.size_toArray, List.length_cons, List.length_nil, Nat.reduceAdd, Int.toNat_zero, List.drop_zero, decide_eq_true_eq, decide_eq_false_iff_not, Bool.not_eq_true', Bool.not_eq_false', bne_iff_ne, bne_eq_false_iff_eq, beq_iff_eq, beq_eq_false_iff_ne, Bool.not_eq_true, Bool.not_eq_false, ne_eq, Decidable.not_not, baEq, decide_not, Prod.mk.injEq, and_true, true_and, Room, List.nil_append, Nat.zero_add, Int.not_lt, Int.not_le] at *)
def E30 : D.Env := E29.addX 39 fOnce
theorem E30ok : EOk Try.prog E30 := E29ok.addX k39_29
theorem getD_in {α : Type} [Inhabited α] {l : List α} {i : Nat} (h : i < l.length) : l.getD i default ∈ l := by
  rw [List.getD_eq_getElem?_getD, List.getElem?_eq_getElem h]; exact List.getElem_mem _
def fIntL : Xct := ⟨[.u, .v (.sl .int)], [.el .int], fun (x_ : Unit × (List Int) × Unit) => 0 < x_.2.1.length ∧ x_.2.1.length ≤ 256, fun (x_ : Unit × (List Int) × Unit) (y_ : Int × Unit) => y_.1 ∈ x_.2.1⟩
-- spec.l1Int
theorem k45_30 : fIntL.ok Try.prog 45 := Xct.of (S := fIntL) (L := fun _ _ => none) (kp := [0,1,4]) E30ok Try.func45 (by kernel_rfl) (by kernel_rfl) (by
  rintro ⟨(c : PUnit), (l : List Int), _⟩ hp
  refine holds_of (X := .ob (fBelow.pre ((), (↑(List.length l) : Int), ())) <|
 .lp (Int × PUnit) (True) (fBelow.is ((), (↑(List.length l) : Int), ())) fun y1 =>
 .ob ((0 : Int) ≤ y1.fst ∧ y1.fst < (↑(List.length l) : Int)) <|
  .leaf (mkR fIntL.rs (List.getD l y1.fst.toNat default, ())) [] []) (by kernel_rfl) ?_
  refine ob_i trivial fun _ => lp_i trivial fun y1 i1 => ob_i ?_ fun o2 => Xct.leafY (S := fIntL) (List.getD l y1.fst.toNat default, ()) ?_
  all_goals try simp only [decide_eq_true_eq, decide_eq_false_iff_not, Bool.not_eq_true', Bool.not_eq_false', bne_iff_ne, bne_eq_false_iff_eq, beq_iff_eq, beq_eq_false_iff_ne, baEq, Int.not_lt, Int.not_le, ne_eq, Decidable.not_not] at *
  all_goals try simp only [fBelow, fIntL, etaToken, etaNode, etaBuilder, etaPolicy, etaPage, etaVisit, etaTab, etaServer, etaCache, etaNet, etaLoader, etaSheet, etaResult, etaSlot, etaModule, etaAddr, etaRequest, etaResponse, etaConn, etaGuess, etaEntry, etaSent, etaFile, baSz, List.size_toArray, List.length_cons, List.length_nil, Nat.reduceAdd, Int.toNat_zero, List.drop_zero, decide_eq_true_eq, decide_eq_false_iff_not, Bool.not_eq_true', Bool.not_eq_false', bne_iff_ne, bne_eq_false_iff_eq, beq_iff_eq, beq_eq_false_iff_ne, Bool.not_eq_true, Bool.not_eq_false, ne_eq, Decidable.not_not, baEq, decide_not, Prod.mk.injEq, and_true, true_and, Room, List.nil_append, Nat.zero_add, Int.not_lt, Int.not_le] at *
  all_goals first | trivial | omega | skip
  all_goals (refine getD_in ?_; omega))
def E31 : D.Env := E30.addX 45 fIntL
theorem E31ok : EOk Try.prog E31 := E30ok.addX k45_30
def fStrL : Xct := ⟨[.u, .v (.sl .str)], [.el .str], fun (x_ : Unit × (List ByteArray) × Unit) => 0 < x_.2.1.length ∧ x_.2.1.length ≤ 256 ∧ x_.2.1.all (fun s => decide (s.size ≤ 30)) = true, fun (x_ : Unit × (List ByteArray) × Unit) (y_ : ByteArray × Unit) => y_.1.size ≤ 30⟩
-- spec.l1Str
theorem k52_31 : fStrL.ok Try.prog 52 := Xct.of (S := fStrL) (L := fun _ _ => none) (kp := [0,1,4]) E31ok Try.func52 (by kernel_rfl) (by kernel_rfl) (by
  rintro ⟨(c : PUnit), (l : List ByteArray), _⟩ hp
  refine holds_of (X := .ob (fBelow.pre ((), (↑(List.length l) : Int), ())) <|
 .lp (Int × PUnit) (True) (fBelow.is ((), (↑(List.length l) : Int), ())) fun y1 =>
 .ob ((0 : Int) ≤ y1.fst ∧ y1.fst < (↑(List.length l) : Int)) <|
  .leaf (mkR fStrL.rs (List.getD l y1.fst.toNat default, ())) [] []) (by kernel_rfl) ?_
  refine ob_i trivial fun _ => lp_i trivial fun y1 i1 => ob_i ?_ fun o2 => Xct.leafY (S := fStrL) (List.getD l y1.fst.toNat default, ()) ?_
  all_goals try simp only [decide_eq_true_eq, decide_eq_false_iff_not, Bool.not_eq_true', Bool.not_eq_false', bne_iff_ne, bne_eq_false_iff_eq, beq_iff_eq, beq_eq_false_iff_ne, baEq, Int.not_lt, Int.not_le, ne_eq, Decidable.not_not] at *
  all_goals try simp only [fBelow, fStrL, etaToken, etaNode, etaBuilder, etaPolicy, etaPage, etaVisit, etaTab, etaServer, etaCache, etaNet, etaLoader, etaSheet, etaResult, etaSlot, etaModule, etaAddr, etaRequest, etaResponse, etaConn, etaGuess, etaEntry, etaSent, etaFile, baSz, List.size_toArray, List.length_cons, List.length_nil, Nat.reduceAdd, Int.toNat_zero, List.drop_zero, decide_eq_true_eq, decide_eq_false_iff_not, Bool.not_eq_true', Bool.not_eq_false', bne_iff_ne, bne_eq_false_iff_eq, beq_iff_eq, beq_eq_false_iff_ne, Bool.not_eq_true, Bool.not_eq_false, ne_eq, Decidable.not_not, baEq, decide_not, Prod.mk.injEq, and_true, true_and, Room, List.nil_append, Nat.zero_add, Int.not_lt, Int.not_le] at *
  all_goals first | trivial | omega | skip
  have hm := getD_in (i := y1.fst.toNat) (l := l) (by omega)
  simpa using List.all_eq_true.1 hp.2.2 _ hm)
def E32 : D.Env := E31.addX 52 fStrL
theorem E32ok : EOk Try.prog E32 := E31ok.addX k52_31
def fBig : Fct := ⟨[.v (.sl .u8)], [.el .bool], fun (x_ : (List Int) × Unit) => True, fun (x_ : (List Int) × Unit) => (decide (1048576 < x_.1.length), ())⟩
-- laws.big
theorem k5_32 : fBig.ok Try.prog 5 := Fct.of (S := fBig) (L := fun _ _ => none) (kp := [0,2]) E32ok Try.func5 (by kernel_rfl) (by kernel_rfl) (by
  rintro ⟨(l : List Int), _⟩ hp
  refine holds_of (X := .leaf (mkR fBig.rs (decide ((↑(List.length l) : Int) > (1048576 : Int)), ())) [] []) (by kernel_rfl) ?_
  refine Fct.leafY ?_
  all_goals try simp only [decide_eq_true_eq, decide_eq_false_iff_not, Bool.not_eq_true', Bool.not_eq_false', bne_iff_ne, bne_eq_false_iff_eq, beq_iff_eq, beq_eq_false_iff_ne, baEq, Int.not_lt, Int.not_le, ne_eq, Decidable.not_not] at *
  all_goals try simp only [fBig, etaToken, etaNode, etaBuilder, etaPolicy, etaPage, etaVisit, etaTab, etaServer, etaCache, etaNet, etaLoader, etaSheet, etaResult, etaSlot, etaModule, etaAddr, etaRequest, etaResponse, etaConn, etaGuess, etaEntry, etaSent, etaFile, baSz, List.size_toArray, List.length_cons, List.length_nil, Nat.reduceAdd, Int.toNat_zero, List.drop_zero, decide_eq_true_eq, decide_eq_false_iff_not, Bool.not_eq_true', Bool.not_eq_false', bne_iff_ne, bne_eq_false_iff_eq, beq_iff_eq, beq_eq_false_iff_ne, Bool.not_eq_true, Bool.not_eq_false, ne_eq, Decidable.not_not, baEq, decide_not, Prod.mk.injEq, and_true, true_and, Room, List.nil_append, Nat.zero_add, Int.not_lt, Int.not_le, sameSize, ByteArray.size_append] at *
  all_goals try simp (disch := omega) only [wrapId', toNat1] at *
  all_goals try simp (disch := omega) only [if_pos, if_neg]
  all_goals first | trivial | omega | grind [wrapId', toNat1, drop_cons, drop_end, good_len, maxLen, sameSize, ByteArray.size_append])
def E33 : D.Env := E32.add 5 fBig
theorem E33ok : EOk Try.prog E33 := E32ok.add k5_32
def fWord : Xct := ⟨[.u], [.el .str], fun (x_ : Unit × Unit) => True, fun (x_ : Unit × Unit) (y_ : ByteArray × Unit) => y_.1.size ≤ 30⟩
-- spec.l4Host
theorem k54_33 : fWord.ok Try.prog 54 := Xct.of (S := fWord) (L := fun _ _ => none) (kp := [0,2]) E33ok Try.func54 (by kernel_rfl) (by kernel_rfl) (by
  rintro ⟨(c : PUnit), _⟩ hp
  refine holds_of (X := .ob (fStrL.pre
  ((),
    [{ data := #[(104 : UInt8), (111 : UInt8), (109 : UInt8), (101 : UInt8)] : ByteArray },
      { data := #[(99 : UInt8), (100 : UInt8), (110 : UInt8)] : ByteArray },
      { data := #[(101 : UInt8), (118 : UInt8), (105 : UInt8), (108 : UInt8)] : ByteArray },
      { data := #[(104 : UInt8), (111 : UInt8), (109 : UInt8), (101 : UInt8)] : ByteArray }],
    ())) <|
 .lp (ByteArray × PUnit) (True) (fStrL.is
  ((),
    [{ data := #[(104 : UInt8), (111 : UInt8), (109 : UInt8), (101 : UInt8)] : ByteArray },
      { data := #[(99 : UInt8), (100 : UInt8), (110 : UInt8)] : ByteArray },
      { data := #[(101 : UInt8), (118 : UInt8), (105 : UInt8), (108 : UInt8)] : ByteArray },
      { data := #[(104 : UInt8), (111 : UInt8), (109 : UInt8), (101 : UInt8)] : ByteArray }],
    ())) fun y2 =>
 .leaf (mkR fWord.rs (y2.fst, ())) [] []) (by kernel_rfl) ?_
  refine ob_i ?_ fun o1 => lp_i trivial fun y2 i2 => Xct.leafY (S := fWord) (y2.fst, ()) ?_
  all_goals first | trivial | (refine ⟨?_, ?_, ?_⟩ <;> decide) | skip
  all_goals try simp only [decide_eq_true_eq, decide_eq_false_iff_not, Bool.not_eq_true', Bool.not_eq_false', bne_iff_ne, bne_eq_false_iff_eq, beq_iff_eq, beq_eq_false_iff_ne, baEq, Int.not_lt, Int.not_le, ne_eq, Decidable.not_not] at *
  all_goals try simp only [fStrL, fWord, etaToken, etaNode, etaBuilder, etaPolicy, etaPage, etaVisit, etaTab, etaServer, etaCache, etaNet, etaLoader, etaSheet, etaResult, etaSlot, etaModule, etaAddr, etaRequest, etaResponse, etaConn, etaGuess, etaEntry, etaSent, etaFile, baSz, List.size_toArray, List.length_cons, List.length_nil, Nat.reduceAdd, Int.toNat_zero, List.drop_zero, decide_eq_true_eq, decide_eq_false_iff_not, Bool.not_eq_true', Bool.not_eq_false', bne_iff_ne, bne_eq_false_iff_eq, beq_iff_eq, beq_eq_false_iff_ne, Bool.not_eq_true, Bool.not_eq_false, ne_eq, Decidable.not_not, baEq, decide_not, Prod.mk.injEq, and_true, true_and, Room, List.nil_append, Nat.zero_add, Int.not_lt, Int.not_le, sameSize, ByteArray.size_append] at *
  all_goals try simp (disch := omega) only [wrapId', toNat1] at *
  all_goals try simp (disch := omega) only [if_pos, if_neg]
  all_goals first | trivial | omega | grind [wrapId', toNat1, drop_cons, drop_end, good_len, maxLen, sameSize, ByteArray.size_append])
def E34 : D.Env := E33.addX 54 fWord
theorem E34ok : EOk Try.prog E34 := E33ok.addX k54_33
-- spec.l4Path
theorem k55_34 : fWord.ok Try.prog 55 := Xct.of (S := fWord) (L := fun _ _ => none) (kp := [0,2]) E34ok Try.func55 (by kernel_rfl) (by kernel_rfl) (by
  rintro ⟨(c : PUnit), _⟩ hp
  refine holds_of (X := .ob (fStrL.pre
  ((),
    [{ data := #[(105 : UInt8), (110 : UInt8), (100 : UInt8), (101 : UInt8), (120 : UInt8)] : ByteArray },
      { data := #[(97 : UInt8), (112 : UInt8), (112 : UInt8)] : ByteArray },
      { data := #[(115 : UInt8), (116 : UInt8), (121 : UInt8), (108 : UInt8), (101 : UInt8)] : ByteArray },
      { data := #[(108 : UInt8), (105 : UInt8), (98 : UInt8)] : ByteArray },
      { data := #[(108 : UInt8), (111 : UInt8), (103 : UInt8), (111 : UInt8)] : ByteArray },
      { data := #[(110 : UInt8), (101 : UInt8), (120 : UInt8), (116 : UInt8)] : ByteArray },
      { data := #[(117 : UInt8), (116 : UInt8), (105 : UInt8), (108 : UInt8)] : ByteArray }],
    ())) <|
 .lp (ByteArray × PUnit) (True) (fStrL.is
  ((),
    [{ data := #[(105 : UInt8), (110 : UInt8), (100 : UInt8), (101 : UInt8), (120 : UInt8)] : ByteArray },
      { data := #[(97 : UInt8), (112 : UInt8), (112 : UInt8)] : ByteArray },
      { data := #[(115 : UInt8), (116 : UInt8), (121 : UInt8), (108 : UInt8), (101 : UInt8)] : ByteArray },
      { data := #[(108 : UInt8), (105 : UInt8), (98 : UInt8)] : ByteArray },
      { data := #[(108 : UInt8), (111 : UInt8), (103 : UInt8), (111 : UInt8)] : ByteArray },
      { data := #[(110 : UInt8), (101 : UInt8), (120 : UInt8), (116 : UInt8)] : ByteArray },
      { data := #[(117 : UInt8), (116 : UInt8), (105 : UInt8), (108 : UInt8)] : ByteArray }],
    ())) fun y2 =>
 .leaf (mkR fWord.rs (y2.fst, ())) [] []) (by kernel_rfl) ?_
  refine ob_i ?_ fun o1 => lp_i trivial fun y2 i2 => Xct.leafY (S := fWord) (y2.fst, ()) ?_
  all_goals first | trivial | (refine ⟨?_, ?_, ?_⟩ <;> decide) | skip
  all_goals try simp only [decide_eq_true_eq, decide_eq_false_iff_not, Bool.not_eq_true', Bool.not_eq_false', bne_iff_ne, bne_eq_false_iff_eq, beq_iff_eq, beq_eq_false_iff_ne, baEq, Int.not_lt, Int.not_le, ne_eq, Decidable.not_not] at *
  all_goals try simp only [fStrL, fWord, etaToken, etaNode, etaBuilder, etaPolicy, etaPage, etaVisit, etaTab, etaServer, etaCache, etaNet, etaLoader, etaSheet, etaResult, etaSlot, etaModule, etaAddr, etaRequest, etaResponse, etaConn, etaGuess, etaEntry, etaSent, etaFile, baSz, List.size_toArray, List.length_cons, List.length_nil, Nat.reduceAdd, Int.toNat_zero, List.drop_zero, decide_eq_true_eq, decide_eq_false_iff_not, Bool.not_eq_true', Bool.not_eq_false', bne_iff_ne, bne_eq_false_iff_eq, beq_iff_eq, beq_eq_false_iff_ne, Bool.not_eq_true, Bool.not_eq_false, ne_eq, Decidable.not_not, baEq, decide_not, Prod.mk.injEq, and_true, true_and, Room, List.nil_append, Nat.zero_add, Int.not_lt, Int.not_le, sameSize, ByteArray.size_append] at *
  all_goals try simp (disch := omega) only [wrapId', toNat1] at *
  all_goals try simp (disch := omega) only [if_pos, if_neg]
  all_goals first | trivial | omega | grind [wrapId', toNat1, drop_cons, drop_end, good_len, maxLen, sameSize, ByteArray.size_append])
def E35 : D.Env := E34.addX 55 fWord
theorem E35ok : EOk Try.prog E35 := E34ok.addX k55_34
def fAddr : Xct := ⟨[.u], [.el .addr], fun (x_ : Unit × Unit) => True, fun (x_ : Unit × Unit) (y_ : SAddr × Unit) => y_.1.host.size ≤ 30 ∧ y_.1.path.size ≤ 30⟩
-- spec.l4Addr
theorem k38_35 : fAddr.ok Try.prog 38 := Xct.of (S := fAddr) (L := fun _ _ => none) (kp := [0,2,3]) E35ok Try.func38 (by kernel_rfl) (by kernel_rfl) (by
  rintro ⟨(c : PUnit), _⟩ hp
  refine holds_of (X := .ob (fWord.pre ((), ())) <|
 .lp (ByteArray × PUnit) (True) (fWord.is ((), ())) fun y1 =>
 .ob (fWord.pre ((), ())) <|
  .lp (ByteArray × PUnit) (True) (fWord.is ((), ())) fun y2 =>
  .leaf (mkR fAddr.rs (⟨y1.fst, y2.fst⟩, ())) [] []) (by kernel_rfl) ?_
  refine ob_i trivial fun _ => lp_i trivial fun y1 i1 => ob_i trivial fun _ => lp_i trivial fun y2 i2 => Xct.leafY (S := fAddr) (⟨y1.fst, y2.fst⟩, ()) ?_
  all_goals try simp only [decide_eq_true_eq, decide_eq_false_iff_not, Bool.not_eq_true', Bool.not_eq_false', bne_iff_ne, bne_eq_false_iff_eq, beq_iff_eq, beq_eq_false_iff_ne, baEq, Int.not_lt, Int.not_le, ne_eq, Decidable.not_not] at *
  all_goals try simp only [fAddr, fWord, etaToken, etaNode, etaBuilder, etaPolicy, etaPage, etaVisit, etaTab, etaServer, etaCache, etaNet, etaLoader, etaSheet, etaResult, etaSlot, etaModule, etaAddr, etaRequest, etaResponse, etaConn, etaGuess, etaEntry, etaSent, etaFile, baSz, List.size_toArray, List.length_cons, List.length_nil, Nat.reduceAdd, Int.toNat_zero, List.drop_zero, decide_eq_true_eq, decide_eq_false_iff_not, Bool.not_eq_true', Bool.not_eq_false', bne_iff_ne, bne_eq_false_iff_eq, beq_iff_eq, beq_eq_false_iff_ne, Bool.not_eq_true, Bool.not_eq_false, ne_eq, Decidable.not_not, baEq, decide_not, Prod.mk.injEq, and_true, true_and, Room, List.nil_append, Nat.zero_add, Int.not_lt, Int.not_le, sameSize, ByteArray.size_append] at *
  all_goals try simp (disch := omega) only [wrapId', toNat1] at *
  all_goals try simp (disch := omega) only [if_pos, if_neg]
  all_goals first | trivial | omega | grind [wrapId', toNat1, drop_cons, drop_end, good_len, maxLen, sameSize, ByteArray.size_append])
def E36 : D.Env := E35.addX 38 fAddr
theorem E36ok : EOk Try.prog E36 := E35ok.addX k38_35
def fText8 : Xct := ⟨[.u, .v (.el .int)], [.el .str], fun (x_ : Unit × Int × Unit) => 0 ≤ x_.2.1 ∧ x_.2.1 ≤ 100, fun (x_ : Unit × Int × Unit) (y_ : ByteArray × Unit) => y_.1.size ≤ 31 * x_.2.1 + 31⟩
abbrev W_spec_l8Text_fText8_3 (c : Unit) (most : Int) : LInv := ⟨[⟨.s, 5, true, .el .str⟩, ⟨.s, 6, true, .el .int⟩], fun _ (x_ : ByteArray × Int × Unit) => 0 ≤ x_.2.1 ∧ x_.2.1 ≤ most + 1 ∧ x_.1.size + 31 * x_.2.1 ≤ 31 * most + 31, fun (x_ : ByteArray × Int × Unit) => x_.2.1.toNat⟩
-- spec.l8Text
theorem k64_36 : fText8.ok Try.prog 64 := Xct.of (S := fText8) (L := fun ⟨c, most, _⟩ => fun | 3 => some (W_spec_l8Text_fText8_3 c most) | _ => none) (kp := [0,1,4,5,6,12,16,1000012,1000016]) E36ok Try.func64 (by kernel_rfl) (by kernel_rfl) (by
  rintro ⟨(c : PUnit), (most : Int), _⟩ hp
  refine holds_of (X := .ob (fBelow.pre ((), most, ())) <|
 .lp (Int × PUnit) (True) (fBelow.is ((), most, ())) fun y1 =>
 lpx (W_spec_l8Text_fText8_3 c most) ({ data := #[] : ByteArray }, (IntKind.i64.wrap ((1 : Int) + y1.fst), ())) fun (y2 : ByteArray × Int × PUnit) bk2 =>
  .br (decide (y2.snd.fst > (0 : Int)))
   (.br (!y2.fst.toList == { data := #[] : ByteArray }.toList)
    (.ob (sameSize y2.fst { data := #[(59 : UInt8)] : ByteArray }) <|
     .ob (fStrL.pre
  ((),
    [{ data := #[(115 : UInt8), (97 : UInt8), (121 : UInt8), (32 : UInt8), (104 : UInt8), (105 : UInt8)] : ByteArray },
      {
        data :=
          #[(99 : UInt8), (111 : UInt8), (117 : UInt8), (110 : UInt8), (116 : UInt8), (32 : UInt8), (112 : UInt8)] :
        ByteArray },
      {
        data :=
          #[(99 : UInt8), (111 : UInt8), (117 : UInt8), (110 : UInt8), (116 : UInt8), (32 : UInt8), (115 : UInt8),
            (99 : UInt8), (114 : UInt8), (105 : UInt8), (112 : UInt8), (116 : UInt8)] :
        ByteArray },
      { data := #[(108 : UInt8), (111 : UInt8), (111 : UInt8), (107 : UInt8), (32 : UInt8), (112 : UInt8)] :
        ByteArray },
      { data := #[(108 : UInt8), (111 : UInt8), (111 : UInt8), (107 : UInt8), (32 : UInt8), (98 : UInt8)] : ByteArray },
      { data := #[(97 : UInt8), (100 : UInt8), (100 : UInt8), (32 : UInt8), (98 : UInt8)] : ByteArray },
      { data := #[(97 : UInt8), (100 : UInt8), (100 : UInt8), (32 : UInt8), (112 : UInt8)] : ByteArray },
      {
        data :=
          #[(119 : UInt8), (114 : UInt8), (105 : UInt8), (116 : UInt8), (101 : UInt8), (32 : UInt8), (91 : UInt8),
            (112 : UInt8), (93 : UInt8), (120 : UInt8), (91 : UInt8), (47 : UInt8), (112 : UInt8), (93 : UInt8)] :
        ByteArray },
      {
        data :=
          #[(119 : UInt8), (114 : UInt8), (105 : UInt8), (116 : UInt8), (101 : UInt8), (32 : UInt8), (91 : UInt8),
            (105 : UInt8), (109 : UInt8), (103 : UInt8), (32 : UInt8), (115 : UInt8), (114 : UInt8), (99 : UInt8),
            (61 : UInt8), (108 : UInt8), (111 : UInt8), (103 : UInt8), (111 : UInt8), (93 : UInt8)] :
        ByteArray },
      {
        data :=
          #[(119 : UInt8), (114 : UInt8), (105 : UInt8), (116 : UInt8), (101 : UInt8), (32 : UInt8), (91 : UInt8),
            (108 : UInt8), (105 : UInt8), (110 : UInt8), (107 : UInt8), (32 : UInt8), (104 : UInt8), (114 : UInt8),
            (101 : UInt8), (102 : UInt8), (61 : UInt8), (115 : UInt8), (116 : UInt8), (121 : UInt8), (108 : UInt8),
            (101 : UInt8), (93 : UInt8)] :
        ByteArray },
      {
        data :=
          #[(119 : UInt8), (114 : UInt8), (105 : UInt8), (116 : UInt8), (101 : UInt8), (32 : UInt8), (91 : UInt8),
            (98 : UInt8), (93 : UInt8)] :
        ByteArray }],
    ())) <|
     .lp (ByteArray × PUnit) (True) (fStrL.is
  ((),
    [{ data := #[(115 : UInt8), (97 : UInt8), (121 : UInt8), (32 : UInt8), (104 : UInt8), (105 : UInt8)] : ByteArray },
      {
        data :=
          #[(99 : UInt8), (111 : UInt8), (117 : UInt8), (110 : UInt8), (116 : UInt8), (32 : UInt8), (112 : UInt8)] :
        ByteArray },
      {
        data :=
          #[(99 : UInt8), (111 : UInt8), (117 : UInt8), (110 : UInt8), (116 : UInt8), (32 : UInt8), (115 : UInt8),
            (99 : UInt8), (114 : UInt8), (105 : UInt8), (112 : UInt8), (116 : UInt8)] :
        ByteArray },
      { data := #[(108 : UInt8), (111 : UInt8), (111 : UInt8), (107 : UInt8), (32 : UInt8), (112 : UInt8)] :
        ByteArray },
      { data := #[(108 : UInt8), (111 : UInt8), (111 : UInt8), (107 : UInt8), (32 : UInt8), (98 : UInt8)] : ByteArray },
      { data := #[(97 : UInt8), (100 : UInt8), (100 : UInt8), (32 : UInt8), (98 : UInt8)] : ByteArray },
      { data := #[(97 : UInt8), (100 : UInt8), (100 : UInt8), (32 : UInt8), (112 : UInt8)] : ByteArray },
      {
        data :=
          #[(119 : UInt8), (114 : UInt8), (105 : UInt8), (116 : UInt8), (101 : UInt8), (32 : UInt8), (91 : UInt8),
            (112 : UInt8), (93 : UInt8), (120 : UInt8), (91 : UInt8), (47 : UInt8), (112 : UInt8), (93 : UInt8)] :
        ByteArray },
      {
        data :=
          #[(119 : UInt8), (114 : UInt8), (105 : UInt8), (116 : UInt8), (101 : UInt8), (32 : UInt8), (91 : UInt8),
            (105 : UInt8), (109 : UInt8), (103 : UInt8), (32 : UInt8), (115 : UInt8), (114 : UInt8), (99 : UInt8),
            (61 : UInt8), (108 : UInt8), (111 : UInt8), (103 : UInt8), (111 : UInt8), (93 : UInt8)] :
        ByteArray },
      {
        data :=
          #[(119 : UInt8), (114 : UInt8), (105 : UInt8), (116 : UInt8), (101 : UInt8), (32 : UInt8), (91 : UInt8),
            (108 : UInt8), (105 : UInt8), (110 : UInt8), (107 : UInt8), (32 : UInt8), (104 : UInt8), (114 : UInt8),
            (101 : UInt8), (102 : UInt8), (61 : UInt8), (115 : UInt8), (116 : UInt8), (121 : UInt8), (108 : UInt8),
            (101 : UInt8), (93 : UInt8)] :
        ByteArray },
      {
        data :=
          #[(119 : UInt8), (114 : UInt8), (105 : UInt8), (116 : UInt8), (101 : UInt8), (32 : UInt8), (91 : UInt8),
            (98 : UInt8), (93 : UInt8)] :
        ByteArray }],
    ())) fun y7 =>
     .ob (sameSize (y2.fst ++ { data := #[(59 : UInt8)] : ByteArray }) y7.fst) <|
      .ob (Value.int IntKind.i64 most = Value.int IntKind.i64 most) <|
      .ob (Value.string { data := #[] : ByteArray } = Value.string { data := #[] : ByteArray }) <|
      .ob (bk2 (y2.fst ++ { data := #[(59 : UInt8)] : ByteArray } ++ y7.fst, (IntKind.i64.wrap (y2.snd.fst - (1 : Int)), ()))) <|
      .ok)
    (.ob (fStrL.pre
  ((),
    [{ data := #[(115 : UInt8), (97 : UInt8), (121 : UInt8), (32 : UInt8), (104 : UInt8), (105 : UInt8)] : ByteArray },
      {
        data :=
          #[(99 : UInt8), (111 : UInt8), (117 : UInt8), (110 : UInt8), (116 : UInt8), (32 : UInt8), (112 : UInt8)] :
        ByteArray },
      {
        data :=
          #[(99 : UInt8), (111 : UInt8), (117 : UInt8), (110 : UInt8), (116 : UInt8), (32 : UInt8), (115 : UInt8),
            (99 : UInt8), (114 : UInt8), (105 : UInt8), (112 : UInt8), (116 : UInt8)] :
        ByteArray },
      { data := #[(108 : UInt8), (111 : UInt8), (111 : UInt8), (107 : UInt8), (32 : UInt8), (112 : UInt8)] :
        ByteArray },
      { data := #[(108 : UInt8), (111 : UInt8), (111 : UInt8), (107 : UInt8), (32 : UInt8), (98 : UInt8)] : ByteArray },
      { data := #[(97 : UInt8), (100 : UInt8), (100 : UInt8), (32 : UInt8), (98 : UInt8)] : ByteArray },
      { data := #[(97 : UInt8), (100 : UInt8), (100 : UInt8), (32 : UInt8), (112 : UInt8)] : ByteArray },
      {
        data :=
          #[(119 : UInt8), (114 : UInt8), (105 : UInt8), (116 : UInt8), (101 : UInt8), (32 : UInt8), (91 : UInt8),
            (112 : UInt8), (93 : UInt8), (120 : UInt8), (91 : UInt8), (47 : UInt8), (112 : UInt8), (93 : UInt8)] :
        ByteArray },
      {
        data :=
          #[(119 : UInt8), (114 : UInt8), (105 : UInt8), (116 : UInt8), (101 : UInt8), (32 : UInt8), (91 : UInt8),
            (105 : UInt8), (109 : UInt8), (103 : UInt8), (32 : UInt8), (115 : UInt8), (114 : UInt8), (99 : UInt8),
            (61 : UInt8), (108 : UInt8), (111 : UInt8), (103 : UInt8), (111 : UInt8), (93 : UInt8)] :
        ByteArray },
      {
        data :=
          #[(119 : UInt8), (114 : UInt8), (105 : UInt8), (116 : UInt8), (101 : UInt8), (32 : UInt8), (91 : UInt8),
            (108 : UInt8), (105 : UInt8), (110 : UInt8), (107 : UInt8), (32 : UInt8), (104 : UInt8), (114 : UInt8),
            (101 : UInt8), (102 : UInt8), (61 : UInt8), (115 : UInt8), (116 : UInt8), (121 : UInt8), (108 : UInt8),
            (101 : UInt8), (93 : UInt8)] :
        ByteArray },
      {
        data :=
          #[(119 : UInt8), (114 : UInt8), (105 : UInt8), (116 : UInt8), (101 : UInt8), (32 : UInt8), (91 : UInt8),
            (98 : UInt8), (93 : UInt8)] :
        ByteArray }],
    ())) <|
     .lp (ByteArray × PUnit) (True) (fStrL.is
  ((),
    [{ data := #[(115 : UInt8), (97 : UInt8), (121 : UInt8), (32 : UInt8), (104 : UInt8), (105 : UInt8)] : ByteArray },
      {
        data :=
          #[(99 : UInt8), (111 : UInt8), (117 : UInt8), (110 : UInt8), (116 : UInt8), (32 : UInt8), (112 : UInt8)] :
        ByteArray },
      {
        data :=
          #[(99 : UInt8), (111 : UInt8), (117 : UInt8), (110 : UInt8), (116 : UInt8), (32 : UInt8), (115 : UInt8),
            (99 : UInt8), (114 : UInt8), (105 : UInt8), (112 : UInt8), (116 : UInt8)] :
        ByteArray },
      { data := #[(108 : UInt8), (111 : UInt8), (111 : UInt8), (107 : UInt8), (32 : UInt8), (112 : UInt8)] :
        ByteArray },
      { data := #[(108 : UInt8), (111 : UInt8), (111 : UInt8), (107 : UInt8), (32 : UInt8), (98 : UInt8)] : ByteArray },
      { data := #[(97 : UInt8), (100 : UInt8), (100 : UInt8), (32 : UInt8), (98 : UInt8)] : ByteArray },
      { data := #[(97 : UInt8), (100 : UInt8), (100 : UInt8), (32 : UInt8), (112 : UInt8)] : ByteArray },
      {
        data :=
          #[(119 : UInt8), (114 : UInt8), (105 : UInt8), (116 : UInt8), (101 : UInt8), (32 : UInt8), (91 : UInt8),
            (112 : UInt8), (93 : UInt8), (120 : UInt8), (91 : UInt8), (47 : UInt8), (112 : UInt8), (93 : UInt8)] :
        ByteArray },
      {
        data :=
          #[(119 : UInt8), (114 : UInt8), (105 : UInt8), (116 : UInt8), (101 : UInt8), (32 : UInt8), (91 : UInt8),
            (105 : UInt8), (109 : UInt8), (103 : UInt8), (32 : UInt8), (115 : UInt8), (114 : UInt8), (99 : UInt8),
            (61 : UInt8), (108 : UInt8), (111 : UInt8), (103 : UInt8), (111 : UInt8), (93 : UInt8)] :
        ByteArray },
      {
        data :=
          #[(119 : UInt8), (114 : UInt8), (105 : UInt8), (116 : UInt8), (101 : UInt8), (32 : UInt8), (91 : UInt8),
            (108 : UInt8), (105 : UInt8), (110 : UInt8), (107 : UInt8), (32 : UInt8), (104 : UInt8), (114 : UInt8),
            (101 : UInt8), (102 : UInt8), (61 : UInt8), (115 : UInt8), (116 : UInt8), (121 : UInt8), (108 : UInt8),
            (101 : UInt8), (93 : UInt8)] :
        ByteArray },
      {
        data :=
          #[(119 : UInt8), (114 : UInt8), (105 : UInt8), (116 : UInt8), (101 : UInt8), (32 : UInt8), (91 : UInt8),
            (98 : UInt8), (93 : UInt8)] :
        ByteArray }],
    ())) fun y11 =>
     .ob (sameSize y2.fst y11.fst) <|
      .ob (Value.int IntKind.i64 most = Value.int IntKind.i64 most) <|
      .ob (Value.string { data := #[] : ByteArray } = Value.string { data := #[] : ByteArray }) <|
      .ob (bk2 (y2.fst ++ y11.fst, (IntKind.i64.wrap (y2.snd.fst - (1 : Int)), ()))) <|
      .ok))
   (.leaf (mkR fText8.rs (y2.fst, ())) [] [])) (by kernel_rfl) ?_
  refine ob_i trivial fun _ => lp_i trivial fun y1 i1 => lpx_i ?_ fun (y2 : ByteArray × Int × PUnit) i2 => br_i (fun h3 => br_i (fun h4 => ob_i ?_ fun o5 => ob_i ?_ fun o6 => lp_i trivial fun y7 i7 => ob_i ?_ fun o8 => ob_i rfl fun _ => ob_i rfl fun _ => ob_i ?_ fun o9 => trivial) (fun h4 => ob_i ?_ fun o10 => lp_i trivial fun y11 i11 => ob_i ?_ fun o12 => ob_i rfl fun _ => ob_i rfl fun _ => ob_i ?_ fun o13 => trivial)) (fun h3 => Xct.leafY (S := fText8) (y2.fst, ()) ?_)
  all_goals first | trivial | (refine ⟨?_, ?_, ?_⟩ <;> decide) | skip
  all_goals try simp only [decide_eq_true_eq, decide_eq_false_iff_not, Bool.not_eq_true', Bool.not_eq_false', bne_iff_ne, bne_eq_false_iff_eq, beq_iff_eq, beq_eq_false_iff_ne, baEq, Int.not_lt, Int.not_le, ne_eq, Decidable.not_not] at *
  all_goals try simp only [W_spec_l8Text_fText8_3, fBelow, fStrL, fText8, etaToken, etaNode, etaBuilder, etaPolicy, etaPage, etaVisit, etaTab, etaServer, etaCache, etaNet, etaLoader, etaSheet, etaResult, etaSlot, etaModule, etaAddr, etaRequest, etaResponse, etaConn, etaGuess, etaEntry, etaSent, etaFile, baSz, List.size_toArray, List.length_cons, List.length_nil, Nat.reduceAdd, Int.toNat_zero, List.drop_zero, decide_eq_true_eq, decide_eq_false_iff_not, Bool.not_eq_true', Bool.not_eq_false', bne_iff_ne, bne_eq_false_iff_eq, beq_iff_eq, beq_eq_false_iff_ne, Bool.not_eq_true, Bool.not_eq_false, ne_eq, Decidable.not_not, baEq, decide_not, Prod.mk.injEq, and_true, true_and, Room, List.nil_append, Nat.zero_add, Int.not_lt, Int.not_le, sameSize, ByteArray.size_append] at *
  all_goals try simp (disch := omega) only [wrapId', toNat1] at *
  all_goals try simp (disch := omega) only [if_pos, if_neg]
  all_goals first | trivial | omega | grind [wrapId', toNat1, drop_cons, drop_end, good_len, maxLen, sameSize, ByteArray.size_append])
def E37 : D.Env := E36.addX 64 fText8
theorem E37ok : EOk Try.prog E37 := E36ok.addX k64_36
def fText7 : Xct := ⟨[.u], [.el .str], fun (x_ : Unit × Unit) => True, fun (x_ : Unit × Unit) (y_ : ByteArray × Unit) => y_.1.size ≤ 250⟩
abbrev W_spec_l7Text_fText7_3 (c : Unit) : LInv := ⟨[⟨.s, 3, true, .el .str⟩, ⟨.s, 4, true, .el .int⟩], fun _ (x_ : ByteArray × Int × Unit) => 0 ≤ x_.2.1 ∧ x_.2.1 ≤ 3 ∧ x_.1.size + 70 * x_.2.1 ≤ 250, fun (x_ : ByteArray × Int × Unit) => x_.2.1.toNat⟩
-- spec.l7Text
theorem k65_37 : fText7.ok Try.prog 65 := Xct.of (S := fText7) (L := fun ⟨c, _⟩ => fun | 3 => some (W_spec_l7Text_fText7_3 c) | _ => none) (kp := [0,2,3,4,8,1000008]) E37ok Try.func65 (by kernel_rfl) (by kernel_rfl) (by
  rintro ⟨(c : PUnit), _⟩ hp
  refine holds_of (X := .ob (fBelow.pre ((), (4 : Int), ())) <|
 .lp (Int × PUnit) (True) (fBelow.is ((), (4 : Int), ())) fun y1 =>
 lpx (W_spec_l7Text_fText7_3 c) ({ data := #[] : ByteArray }, (y1.fst, ())) fun (y2 : ByteArray × Int × PUnit) bk2 =>
  .br (decide (y2.snd.fst > (0 : Int)))
   (.ob (fStrL.pre
  ((),
    [{ data := #[(112 : UInt8)] : ByteArray }, { data := #[(98 : UInt8)] : ByteArray },
      { data := #[(112 : UInt8), (97 : UInt8), (103 : UInt8), (101 : UInt8)] : ByteArray },
      { data := #[(80 : UInt8)] : ByteArray }, { data := #[] : ByteArray }],
    ())) <|
    .lp (ByteArray × PUnit) (True) (fStrL.is
  ((),
    [{ data := #[(112 : UInt8)] : ByteArray }, { data := #[(98 : UInt8)] : ByteArray },
      { data := #[(112 : UInt8), (97 : UInt8), (103 : UInt8), (101 : UInt8)] : ByteArray },
      { data := #[(80 : UInt8)] : ByteArray }, { data := #[] : ByteArray }],
    ())) fun y5 =>
    .ob (sameSize y2.fst y5.fst) <|
     .ob (sameSize (y2.fst ++ y5.fst) { data := #[(58 : UInt8)] : ByteArray }) <|
     .ob (fStrL.pre
  ((),
    [{ data := #[(49 : UInt8)] : ByteArray }, { data := #[(55 : UInt8)] : ByteArray },
      { data := #[(57 : UInt8), (57 : UInt8), (57 : UInt8)] : ByteArray },
      { data := #[(49 : UInt8), (48 : UInt8), (48 : UInt8), (48 : UInt8)] : ByteArray },
      { data := #[(48 : UInt8)] : ByteArray }, { data := #[(120 : UInt8)] : ByteArray }],
    ())) <|
     .lp (ByteArray × PUnit) (True) (fStrL.is
  ((),
    [{ data := #[(49 : UInt8)] : ByteArray }, { data := #[(55 : UInt8)] : ByteArray },
      { data := #[(57 : UInt8), (57 : UInt8), (57 : UInt8)] : ByteArray },
      { data := #[(49 : UInt8), (48 : UInt8), (48 : UInt8), (48 : UInt8)] : ByteArray },
      { data := #[(48 : UInt8)] : ByteArray }, { data := #[(120 : UInt8)] : ByteArray }],
    ())) fun y9 =>
     .ob (sameSize (y2.fst ++ y5.fst ++ { data := #[(58 : UInt8)] : ByteArray }) y9.fst) <|
      .ob (sameSize (y2.fst ++ y5.fst ++ { data := #[(58 : UInt8)] : ByteArray } ++ y9.fst) { data := #[(59 : UInt8)] : ByteArray }) <|
      .ob (Value.string { data := #[] : ByteArray } = Value.string { data := #[] : ByteArray }) <|
      .ob (bk2 (y2.fst ++ y5.fst ++ { data := #[(58 : UInt8)] : ByteArray } ++ y9.fst ++ { data := #[(59 : UInt8)] : ByteArray }, (IntKind.i64.wrap (y2.snd.fst - (1 : Int)), ()))) <|
      .ok)
   (.leaf (mkR fText7.rs (y2.fst, ())) [] [])) (by kernel_rfl) ?_
  refine ob_i trivial fun _ => lp_i trivial fun y1 i1 => lpx_i ?_ fun (y2 : ByteArray × Int × PUnit) i2 => br_i (fun h3 => ob_i ?_ fun o4 => lp_i trivial fun y5 i5 => ob_i ?_ fun o6 => ob_i ?_ fun o7 => ob_i ?_ fun o8 => lp_i trivial fun y9 i9 => ob_i ?_ fun o10 => ob_i ?_ fun o11 => ob_i rfl fun _ => ob_i ?_ fun o12 => trivial) (fun h3 => Xct.leafY (S := fText7) (y2.fst, ()) ?_)
  all_goals first | trivial | (refine ⟨?_, ?_, ?_⟩ <;> decide) | skip
  all_goals try simp only [decide_eq_true_eq, decide_eq_false_iff_not, Bool.not_eq_true', Bool.not_eq_false', bne_iff_ne, bne_eq_false_iff_eq, beq_iff_eq, beq_eq_false_iff_ne, baEq, Int.not_lt, Int.not_le, ne_eq, Decidable.not_not] at *
  all_goals try simp only [W_spec_l7Text_fText7_3, fBelow, fStrL, fText7, etaToken, etaNode, etaBuilder, etaPolicy, etaPage, etaVisit, etaTab, etaServer, etaCache, etaNet, etaLoader, etaSheet, etaResult, etaSlot, etaModule, etaAddr, etaRequest, etaResponse, etaConn, etaGuess, etaEntry, etaSent, etaFile, baSz, List.size_toArray, List.length_cons, List.length_nil, Nat.reduceAdd, Int.toNat_zero, List.drop_zero, decide_eq_true_eq, decide_eq_false_iff_not, Bool.not_eq_true', Bool.not_eq_false', bne_iff_ne, bne_eq_false_iff_eq, beq_iff_eq, beq_eq_false_iff_ne, Bool.not_eq_true, Bool.not_eq_false, ne_eq, Decidable.not_not, baEq, decide_not, Prod.mk.injEq, and_true, true_and, Room, List.nil_append, Nat.zero_add, Int.not_lt, Int.not_le, sameSize, ByteArray.size_append] at *
  all_goals try simp (disch := omega) only [wrapId', toNat1] at *
  all_goals try simp (disch := omega) only [if_pos, if_neg]
  all_goals first | trivial | omega | grind [wrapId', toNat1, drop_cons, drop_end, good_len, maxLen, sameSize, ByteArray.size_append])
def E38 : D.Env := E37.addX 65 fText7
theorem E38ok : EOk Try.prog E38 := E37ok.addX k65_37
def fTag5 : Xct := ⟨[.u], [.el .str], fun (x_ : Unit × Unit) => True, fun (x_ : Unit × Unit) (y_ : ByteArray × Unit) => y_.1.size ≤ 100⟩
-- spec.l5Tag
theorem k70_38 : fTag5.ok Try.prog 70 := Xct.of (S := fTag5) (L := fun _ _ => none) (kp := [0,2,4,5,11,17,28,34,40,1000005,1000011,1000017,1000028,1000034,1000040]) E38ok Try.func70 (by kernel_rfl) (by kernel_rfl) (by
  rintro ⟨(c : PUnit), _⟩ hp
  refine holds_of (X := .ob (fBelow.pre ((), (8 : Int), ())) <|
 .lp (Int × PUnit) (True) (fBelow.is ((), (8 : Int), ())) fun y1 =>
 .br (y1.fst == (0 : Int))
  (.ob (fStrL.pre
  ((),
    [{ data := #[(112 : UInt8)] : ByteArray }, { data := #[(98 : UInt8)] : ByteArray },
      { data := #[(115 : UInt8), (99 : UInt8), (114 : UInt8), (105 : UInt8), (112 : UInt8), (116 : UInt8)] :
        ByteArray },
      { data := #[(112 : UInt8), (97 : UInt8), (103 : UInt8), (101 : UInt8)] : ByteArray }],
    ())) <|
   .lp (ByteArray × PUnit) (True) (fStrL.is
  ((),
    [{ data := #[(112 : UInt8)] : ByteArray }, { data := #[(98 : UInt8)] : ByteArray },
      { data := #[(115 : UInt8), (99 : UInt8), (114 : UInt8), (105 : UInt8), (112 : UInt8), (116 : UInt8)] :
        ByteArray },
      { data := #[(112 : UInt8), (97 : UInt8), (103 : UInt8), (101 : UInt8)] : ByteArray }],
    ())) fun y4 =>
   .ob (sameSize { data := #[(47 : UInt8)] : ByteArray } y4.fst) <|
    .leaf (mkR fTag5.rs ({ data := #[(47 : UInt8)] : ByteArray } ++ y4.fst, ())) [] [])
  (.br (y1.fst == (1 : Int))
   (.ob (fStrL.pre
  ((),
    [{ data := #[(97 : UInt8), (112 : UInt8), (112 : UInt8)] : ByteArray },
      {
        data :=
          #[(99 : UInt8), (100 : UInt8), (110 : UInt8), (47 : UInt8), (108 : UInt8), (105 : UInt8), (98 : UInt8)] :
        ByteArray },
      { data := #[(108 : UInt8), (105 : UInt8), (98 : UInt8)] : ByteArray },
      {
        data :=
          #[(101 : UInt8), (118 : UInt8), (105 : UInt8), (108 : UInt8), (47 : UInt8), (97 : UInt8), (112 : UInt8),
            (112 : UInt8)] :
        ByteArray }],
    ())) <|
    .lp (ByteArray × PUnit) (True) (fStrL.is
  ((),
    [{ data := #[(97 : UInt8), (112 : UInt8), (112 : UInt8)] : ByteArray },
      {
        data :=
          #[(99 : UInt8), (100 : UInt8), (110 : UInt8), (47 : UInt8), (108 : UInt8), (105 : UInt8), (98 : UInt8)] :
        ByteArray },
      { data := #[(108 : UInt8), (105 : UInt8), (98 : UInt8)] : ByteArray },
      {
        data :=
          #[(101 : UInt8), (118 : UInt8), (105 : UInt8), (108 : UInt8), (47 : UInt8), (97 : UInt8), (112 : UInt8),
            (112 : UInt8)] :
        ByteArray }],
    ())) fun y8 =>
    .ob (sameSize
  {
    data :=
      #[(115 : UInt8), (99 : UInt8), (114 : UInt8), (105 : UInt8), (112 : UInt8), (116 : UInt8), (32 : UInt8),
        (115 : UInt8), (114 : UInt8), (99 : UInt8), (61 : UInt8)] :
    ByteArray }
  y8.fst) <|
     .leaf (mkR fTag5.rs ({
    data :=
      #[(115 : UInt8), (99 : UInt8), (114 : UInt8), (105 : UInt8), (112 : UInt8), (116 : UInt8), (32 : UInt8),
        (115 : UInt8), (114 : UInt8), (99 : UInt8), (61 : UInt8)] :
    ByteArray } ++
  y8.fst, ())) [] [])
   (.br (y1.fst == (2 : Int))
    (.ob (fStrL.pre
  ((),
    [{ data := #[(97 : UInt8), (112 : UInt8), (112 : UInt8)] : ByteArray },
      { data := #[(117 : UInt8), (116 : UInt8), (105 : UInt8), (108 : UInt8)] : ByteArray }],
    ())) <|
     .lp (ByteArray × PUnit) (True) (fStrL.is
  ((),
    [{ data := #[(97 : UInt8), (112 : UInt8), (112 : UInt8)] : ByteArray },
      { data := #[(117 : UInt8), (116 : UInt8), (105 : UInt8), (108 : UInt8)] : ByteArray }],
    ())) fun y12 =>
     .ob (sameSize
  {
    data :=
      #[(115 : UInt8), (99 : UInt8), (114 : UInt8), (105 : UInt8), (112 : UInt8), (116 : UInt8), (32 : UInt8),
        (115 : UInt8), (114 : UInt8), (99 : UInt8), (61 : UInt8)] :
    ByteArray }
  y12.fst) <|
      .ob (sameSize
  ({
      data :=
        #[(115 : UInt8), (99 : UInt8), (114 : UInt8), (105 : UInt8), (112 : UInt8), (116 : UInt8), (32 : UInt8),
          (115 : UInt8), (114 : UInt8), (99 : UInt8), (61 : UInt8)] :
      ByteArray } ++
    y12.fst)
  { data := #[(32 : UInt8), (107 : UInt8), (105 : UInt8), (110 : UInt8), (100 : UInt8), (61 : UInt8)] : ByteArray }) <|
      .ob (fStrL.pre
  ((),
    [{ data := #[(100 : UInt8), (101 : UInt8), (102 : UInt8), (101 : UInt8), (114 : UInt8)] : ByteArray },
      { data := #[(109 : UInt8), (111 : UInt8), (100 : UInt8), (117 : UInt8), (108 : UInt8), (101 : UInt8)] :
        ByteArray }],
    ())) <|
      .lp (ByteArray × PUnit) (True) (fStrL.is
  ((),
    [{ data := #[(100 : UInt8), (101 : UInt8), (102 : UInt8), (101 : UInt8), (114 : UInt8)] : ByteArray },
      { data := #[(109 : UInt8), (111 : UInt8), (100 : UInt8), (117 : UInt8), (108 : UInt8), (101 : UInt8)] :
        ByteArray }],
    ())) fun y16 =>
      .ob (sameSize
  ({
        data :=
          #[(115 : UInt8), (99 : UInt8), (114 : UInt8), (105 : UInt8), (112 : UInt8), (116 : UInt8), (32 : UInt8),
            (115 : UInt8), (114 : UInt8), (99 : UInt8), (61 : UInt8)] :
        ByteArray } ++
      y12.fst ++
    { data := #[(32 : UInt8), (107 : UInt8), (105 : UInt8), (110 : UInt8), (100 : UInt8), (61 : UInt8)] : ByteArray })
  y16.fst) <|
       .leaf (mkR fTag5.rs ({
        data :=
          #[(115 : UInt8), (99 : UInt8), (114 : UInt8), (105 : UInt8), (112 : UInt8), (116 : UInt8), (32 : UInt8),
            (115 : UInt8), (114 : UInt8), (99 : UInt8), (61 : UInt8)] :
        ByteArray } ++
      y12.fst ++
    { data := #[(32 : UInt8), (107 : UInt8), (105 : UInt8), (110 : UInt8), (100 : UInt8), (61 : UInt8)] : ByteArray } ++
  y16.fst, ())) [] [])
    (.br (y1.fst == (3 : Int))
     (.ob (fStrL.pre
  ((),
    [{ data := #[(108 : UInt8), (111 : UInt8), (103 : UInt8), (111 : UInt8)] : ByteArray },
      {
        data :=
          #[(99 : UInt8), (100 : UInt8), (110 : UInt8), (47 : UInt8), (108 : UInt8), (111 : UInt8), (103 : UInt8),
            (111 : UInt8)] :
        ByteArray }],
    ())) <|
      .lp (ByteArray × PUnit) (True) (fStrL.is
  ((),
    [{ data := #[(108 : UInt8), (111 : UInt8), (103 : UInt8), (111 : UInt8)] : ByteArray },
      {
        data :=
          #[(99 : UInt8), (100 : UInt8), (110 : UInt8), (47 : UInt8), (108 : UInt8), (111 : UInt8), (103 : UInt8),
            (111 : UInt8)] :
        ByteArray }],
    ())) fun y20 =>
      .ob (sameSize
  {
    data :=
      #[(105 : UInt8), (109 : UInt8), (103 : UInt8), (32 : UInt8), (115 : UInt8), (114 : UInt8), (99 : UInt8),
        (61 : UInt8)] :
    ByteArray }
  y20.fst) <|
       .leaf (mkR fTag5.rs ({
    data :=
      #[(105 : UInt8), (109 : UInt8), (103 : UInt8), (32 : UInt8), (115 : UInt8), (114 : UInt8), (99 : UInt8),
        (61 : UInt8)] :
    ByteArray } ++
  y20.fst, ())) [] [])
     (.br (y1.fst == (4 : Int))
      (.ob (fStrL.pre
  ((),
    [{ data := #[(115 : UInt8), (116 : UInt8), (121 : UInt8), (108 : UInt8), (101 : UInt8)] : ByteArray },
      {
        data :=
          #[(99 : UInt8), (100 : UInt8), (110 : UInt8), (47 : UInt8), (115 : UInt8), (116 : UInt8), (121 : UInt8),
            (108 : UInt8), (101 : UInt8)] :
        ByteArray }],
    ())) <|
       .lp (ByteArray × PUnit) (True) (fStrL.is
  ((),
    [{ data := #[(115 : UInt8), (116 : UInt8), (121 : UInt8), (108 : UInt8), (101 : UInt8)] : ByteArray },
      {
        data :=
          #[(99 : UInt8), (100 : UInt8), (110 : UInt8), (47 : UInt8), (115 : UInt8), (116 : UInt8), (121 : UInt8),
            (108 : UInt8), (101 : UInt8)] :
        ByteArray }],
    ())) fun y24 =>
       .ob (sameSize
  {
    data :=
      #[(108 : UInt8), (105 : UInt8), (110 : UInt8), (107 : UInt8), (32 : UInt8), (104 : UInt8), (114 : UInt8),
        (101 : UInt8), (102 : UInt8), (61 : UInt8)] :
    ByteArray }
  y24.fst) <|
        .leaf (mkR fTag5.rs ({
    data :=
      #[(108 : UInt8), (105 : UInt8), (110 : UInt8), (107 : UInt8), (32 : UInt8), (104 : UInt8), (114 : UInt8),
        (101 : UInt8), (102 : UInt8), (61 : UInt8)] :
    ByteArray } ++
  y24.fst, ())) [] [])
      (.br (y1.fst == (5 : Int))
       (.ob (fStrL.pre
  ((),
    [{ data := #[(112 : UInt8), (32 : UInt8), (97 : UInt8), (61 : UInt8), (98 : UInt8)] : ByteArray },
      { data := #[] : ByteArray }, { data := #[(80 : UInt8)] : ByteArray },
      { data := #[(112 : UInt8), (32 : UInt8), (97 : UInt8)] : ByteArray },
      { data := #[(112 : UInt8), (32 : UInt8), (97 : UInt8), (61 : UInt8)] : ByteArray },
      { data := #[(112 : UInt8), (32 : UInt8), (32 : UInt8), (97 : UInt8), (61 : UInt8), (98 : UInt8)] : ByteArray },
      {
        data :=
          #[(112 : UInt8), (32 : UInt8), (97 : UInt8), (61 : UInt8), (98 : UInt8), (32 : UInt8), (97 : UInt8),
            (61 : UInt8), (99 : UInt8)] :
        ByteArray },
      {
        data :=
          #[(112 : UInt8), (32 : UInt8), (97 : UInt8), (61 : UInt8), (98 : UInt8), (32 : UInt8), (98 : UInt8),
            (61 : UInt8), (99 : UInt8), (32 : UInt8), (99 : UInt8), (61 : UInt8), (100 : UInt8), (32 : UInt8),
            (100 : UInt8), (61 : UInt8), (101 : UInt8), (32 : UInt8), (101 : UInt8), (61 : UInt8), (102 : UInt8)] :
        ByteArray },
      { data := #[(47 : UInt8)] : ByteArray },
      { data := #[(112 : UInt8), (32 : UInt8), (97 : UInt8), (61 : UInt8), (98 : UInt8), (61 : UInt8), (99 : UInt8)] :
        ByteArray }],
    ())) <|
        .lp (ByteArray × PUnit) (True) (fStrL.is
  ((),
    [{ data := #[(112 : UInt8), (32 : UInt8), (97 : UInt8), (61 : UInt8), (98 : UInt8)] : ByteArray },
      { data := #[] : ByteArray }, { data := #[(80 : UInt8)] : ByteArray },
      { data := #[(112 : UInt8), (32 : UInt8), (97 : UInt8)] : ByteArray },
      { data := #[(112 : UInt8), (32 : UInt8), (97 : UInt8), (61 : UInt8)] : ByteArray },
      { data := #[(112 : UInt8), (32 : UInt8), (32 : UInt8), (97 : UInt8), (61 : UInt8), (98 : UInt8)] : ByteArray },
      {
        data :=
          #[(112 : UInt8), (32 : UInt8), (97 : UInt8), (61 : UInt8), (98 : UInt8), (32 : UInt8), (97 : UInt8),
            (61 : UInt8), (99 : UInt8)] :
        ByteArray },
      {
        data :=
          #[(112 : UInt8), (32 : UInt8), (97 : UInt8), (61 : UInt8), (98 : UInt8), (32 : UInt8), (98 : UInt8),
            (61 : UInt8), (99 : UInt8), (32 : UInt8), (99 : UInt8), (61 : UInt8), (100 : UInt8), (32 : UInt8),
            (100 : UInt8), (61 : UInt8), (101 : UInt8), (32 : UInt8), (101 : UInt8), (61 : UInt8), (102 : UInt8)] :
        ByteArray },
      { data := #[(47 : UInt8)] : ByteArray },
      { data := #[(112 : UInt8), (32 : UInt8), (97 : UInt8), (61 : UInt8), (98 : UInt8), (61 : UInt8), (99 : UInt8)] :
        ByteArray }],
    ())) fun y28 =>
        .leaf (mkR fTag5.rs (y28.fst, ())) [] [])
       (.ob (fStrL.pre
  ((),
    [{ data := #[(112 : UInt8)] : ByteArray }, { data := #[(98 : UInt8)] : ByteArray },
      { data := #[(112 : UInt8), (97 : UInt8), (103 : UInt8), (101 : UInt8)] : ByteArray },
      { data := #[(115 : UInt8), (99 : UInt8), (114 : UInt8), (105 : UInt8), (112 : UInt8), (116 : UInt8)] :
        ByteArray }],
    ())) <|
        .lp (ByteArray × PUnit) (True) (fStrL.is
  ((),
    [{ data := #[(112 : UInt8)] : ByteArray }, { data := #[(98 : UInt8)] : ByteArray },
      { data := #[(112 : UInt8), (97 : UInt8), (103 : UInt8), (101 : UInt8)] : ByteArray },
      { data := #[(115 : UInt8), (99 : UInt8), (114 : UInt8), (105 : UInt8), (112 : UInt8), (116 : UInt8)] :
        ByteArray }],
    ())) fun y30 =>
        .leaf (mkR fTag5.rs (y30.fst, ())) [] []))))))) (by kernel_rfl) ?_
  refine ob_i trivial fun _ => lp_i trivial fun y1 i1 => br_i (fun h2 => ob_i ?_ fun o3 => lp_i trivial fun y4 i4 => ob_i ?_ fun o5 => Xct.leafY (S := fTag5) ({ data := #[(47 : UInt8)] : ByteArray } ++ y4.fst, ()) ?_) (fun h2 => br_i (fun h6 => ob_i ?_ fun o7 => lp_i trivial fun y8 i8 => ob_i ?_ fun o9 => Xct.leafY (S := fTag5) ({
    data :=
      #[(115 : UInt8), (99 : UInt8), (114 : UInt8), (105 : UInt8), (112 : UInt8), (116 : UInt8), (32 : UInt8),
        (115 : UInt8), (114 : UInt8), (99 : UInt8), (61 : UInt8)] :
    ByteArray } ++
  y8.fst, ()) ?_) (fun h6 => br_i (fun h10 => ob_i ?_ fun o11 => lp_i trivial fun y12 i12 => ob_i ?_ fun o13 => ob_i ?_ fun o14 => ob_i ?_ fun o15 => lp_i trivial fun y16 i16 => ob_i ?_ fun o17 => Xct.leafY (S := fTag5) ({
        data :=
          #[(115 : UInt8), (99 : UInt8), (114 : UInt8), (105 : UInt8), (112 : UInt8), (116 : UInt8), (32 : UInt8),
            (115 : UInt8), (114 : UInt8), (99 : UInt8), (61 : UInt8)] :
        ByteArray } ++
      y12.fst ++
    { data := #[(32 : UInt8), (107 : UInt8), (105 : UInt8), (110 : UInt8), (100 : UInt8), (61 : UInt8)] : ByteArray } ++
  y16.fst, ()) ?_) (fun h10 => br_i (fun h18 => ob_i ?_ fun o19 => lp_i trivial fun y20 i20 => ob_i ?_ fun o21 => Xct.leafY (S := fTag5) ({
    data :=
      #[(105 : UInt8), (109 : UInt8), (103 : UInt8), (32 : UInt8), (115 : UInt8), (114 : UInt8), (99 : UInt8),
        (61 : UInt8)] :
    ByteArray } ++
  y20.fst, ()) ?_) (fun h18 => br_i (fun h22 => ob_i ?_ fun o23 => lp_i trivial fun y24 i24 => ob_i ?_ fun o25 => Xct.leafY (S := fTag5) ({
    data :=
      #[(108 : UInt8), (105 : UInt8), (110 : UInt8), (107 : UInt8), (32 : UInt8), (104 : UInt8), (114 : UInt8),
        (101 : UInt8), (102 : UInt8), (61 : UInt8)] :
    ByteArray } ++
  y24.fst, ()) ?_) (fun h22 => br_i (fun h26 => ob_i ?_ fun o27 => lp_i trivial fun y28 i28 => Xct.leafY (S := fTag5) (y28.fst, ()) ?_) (fun h26 => ob_i ?_ fun o29 => lp_i trivial fun y30 i30 => Xct.leafY (S := fTag5) (y30.fst, ()) ?_))))))
  all_goals first | trivial | (refine ⟨?_, ?_, ?_⟩ <;> decide) | skip
  all_goals try simp only [decide_eq_true_eq, decide_eq_false_iff_not, Bool.not_eq_true', Bool.not_eq_false', bne_iff_ne, bne_eq_false_iff_eq, beq_iff_eq, beq_eq_false_iff_ne, baEq, Int.not_lt, Int.not_le, ne_eq, Decidable.not_not] at *
  all_goals try simp only [fBelow, fStrL, fTag5, etaToken, etaNode, etaBuilder, etaPolicy, etaPage, etaVisit, etaTab, etaServer, etaCache, etaNet, etaLoader, etaSheet, etaResult, etaSlot, etaModule, etaAddr, etaRequest, etaResponse, etaConn, etaGuess, etaEntry, etaSent, etaFile, baSz, List.size_toArray, List.length_cons, List.length_nil, Nat.reduceAdd, Int.toNat_zero, List.drop_zero, decide_eq_true_eq, decide_eq_false_iff_not, Bool.not_eq_true', Bool.not_eq_false', bne_iff_ne, bne_eq_false_iff_eq, beq_iff_eq, beq_eq_false_iff_ne, Bool.not_eq_true, Bool.not_eq_false, ne_eq, Decidable.not_not, baEq, decide_not, Prod.mk.injEq, and_true, true_and, Room, List.nil_append, Nat.zero_add, Int.not_lt, Int.not_le, sameSize, ByteArray.size_append] at *
  all_goals try simp (disch := omega) only [wrapId', toNat1] at *
  all_goals try simp (disch := omega) only [if_pos, if_neg]
  all_goals first | trivial | omega | grind [wrapId', toNat1, drop_cons, drop_end, good_len, maxLen, sameSize, ByteArray.size_append])
def E39 : D.Env := E38.addX 70 fTag5
theorem E39ok : EOk Try.prog E39 := E38ok.addX k70_38
def fPage5 : Xct := ⟨[.u, .v (.el .int)], [.el .str], fun (x_ : Unit × Int × Unit) => 0 ≤ x_.2.1 ∧ x_.2.1 ≤ 1000, fun (x_ : Unit × Int × Unit) (y_ : ByteArray × Unit) => y_.1.size ≤ 110 * x_.2.1 + 200⟩
abbrev W_spec_l5Page_fPage5_3 (c : Unit) (most : Int) : LInv := ⟨[⟨.s, 5, true, .el .str⟩, ⟨.s, 6, true, .el .int⟩], fun _ (x_ : ByteArray × Int × Unit) => 0 ≤ x_.2.1 ∧ x_.2.1 ≤ most + 1 ∧ x_.1.size + 110 * x_.2.1 ≤ 110 * most + 110, fun (x_ : ByteArray × Int × Unit) => x_.2.1.toNat⟩
-- spec.l5Page
theorem k66_39 : fPage5.ok Try.prog 66 := Xct.of (S := fPage5) (L := fun ⟨c, most, _⟩ => fun | 3 => some (W_spec_l5Page_fPage5_3 c most) | _ => none) (kp := [0,1,4,5,6,12,16,29,1000012,1000016,1000029]) E39ok Try.func66 (by kernel_rfl) (by kernel_rfl) (by
  rintro ⟨(c : PUnit), (most : Int), _⟩ hp
  refine holds_of (X := .ob (fBelow.pre ((), IntKind.i64.wrap (most + (1 : Int)), ())) <|
 .lp (Int × PUnit) (True) (fBelow.is ((), IntKind.i64.wrap (most + (1 : Int)), ())) fun y1 =>
 lpx (W_spec_l5Page_fPage5_3 c most) ({ data := #[] : ByteArray }, (y1.fst, ())) fun (y2 : ByteArray × Int × PUnit) bk2 =>
  .br (decide (y2.snd.fst > (0 : Int)))
   (.ob (fOnce.pre ((), (3 : Int), ())) <|
    .lp (Bool × PUnit) (True) (fOnce.is ((), (3 : Int), ())) fun y4 =>
    .br (y4.fst)
     (.ob (fStrL.pre
  ((),
    [{ data := #[(104 : UInt8), (105 : UInt8)] : ByteArray },
      { data := #[(97 : UInt8), (32 : UInt8), (98 : UInt8)] : ByteArray },
      { data := #[(99 : UInt8), (111 : UInt8), (117 : UInt8), (110 : UInt8), (116 : UInt8)] : ByteArray },
      { data := #[(120 : UInt8), (62 : UInt8), (121 : UInt8)] : ByteArray }, { data := #[] : ByteArray }],
    ())) <|
      .lp (ByteArray × PUnit) (True) (fStrL.is
  ((),
    [{ data := #[(104 : UInt8), (105 : UInt8)] : ByteArray },
      { data := #[(97 : UInt8), (32 : UInt8), (98 : UInt8)] : ByteArray },
      { data := #[(99 : UInt8), (111 : UInt8), (117 : UInt8), (110 : UInt8), (116 : UInt8)] : ByteArray },
      { data := #[(120 : UInt8), (62 : UInt8), (121 : UInt8)] : ByteArray }, { data := #[] : ByteArray }],
    ())) fun y7 =>
      .ob (sameSize y2.fst y7.fst) <|
       .ob (Value.int IntKind.i64 most = Value.int IntKind.i64 most) <|
       .ob (Value.string { data := #[] : ByteArray } = Value.string { data := #[] : ByteArray }) <|
       .ob (bk2 (y2.fst ++ y7.fst, (IntKind.i64.wrap (y2.snd.fst - (1 : Int)), ()))) <|
       .ok)
     (.ob (sameSize y2.fst { data := #[(60 : UInt8)] : ByteArray }) <|
      .ob (fTag5.pre ((), ())) <|
      .lp (ByteArray × PUnit) (True) (fTag5.is ((), ())) fun y11 =>
      .ob (sameSize (y2.fst ++ { data := #[(60 : UInt8)] : ByteArray }) y11.fst) <|
       .ob (sameSize (y2.fst ++ { data := #[(60 : UInt8)] : ByteArray } ++ y11.fst) { data := #[(62 : UInt8)] : ByteArray }) <|
       .ob (Value.int IntKind.i64 most = Value.int IntKind.i64 most) <|
       .ob (Value.string { data := #[] : ByteArray } = Value.string { data := #[] : ByteArray }) <|
       .ob (bk2 (y2.fst ++ { data := #[(60 : UInt8)] : ByteArray } ++ y11.fst ++ { data := #[(62 : UInt8)] : ByteArray }, (IntKind.i64.wrap (y2.snd.fst - (1 : Int)), ()))) <|
       .ok))
   (.ob (fOnce.pre ((), (6 : Int), ())) <|
    .lp (Bool × PUnit) (True) (fOnce.is ((), (6 : Int), ())) fun y15 =>
    .br (y15.fst)
     (.ob (fStrL.pre
  ((),
    [{ data := #[(60 : UInt8), (112 : UInt8)] : ByteArray }, { data := #[(60 : UInt8)] : ByteArray },
      { data := #[(101 : UInt8), (110 : UInt8), (100 : UInt8)] : ByteArray }],
    ())) <|
      .lp (ByteArray × PUnit) (True) (fStrL.is
  ((),
    [{ data := #[(60 : UInt8), (112 : UInt8)] : ByteArray }, { data := #[(60 : UInt8)] : ByteArray },
      { data := #[(101 : UInt8), (110 : UInt8), (100 : UInt8)] : ByteArray }],
    ())) fun y18 =>
      .ob (sameSize y2.fst y18.fst) <|
       .leaf (mkR fPage5.rs (y2.fst ++ y18.fst, ())) [] [])
     (.leaf (mkR fPage5.rs (y2.fst, ())) [] []))) (by kernel_rfl) ?_
  refine ob_i trivial fun _ => lp_i trivial fun y1 i1 => lpx_i ?_ fun (y2 : ByteArray × Int × PUnit) i2 => br_i (fun h3 => ob_i trivial fun _ => lp_i trivial fun y4 i4 => br_i (fun h5 => ob_i ?_ fun o6 => lp_i trivial fun y7 i7 => ob_i ?_ fun o8 => ob_i rfl fun _ => ob_i rfl fun _ => ob_i ?_ fun o9 => trivial) (fun h5 => ob_i ?_ fun o10 => ob_i trivial fun _ => lp_i trivial fun y11 i11 => ob_i ?_ fun o12 => ob_i ?_ fun o13 => ob_i rfl fun _ => ob_i rfl fun _ => ob_i ?_ fun o14 => trivial)) (fun h3 => ob_i trivial fun _ => lp_i trivial fun y15 i15 => br_i (fun h16 => ob_i ?_ fun o17 => lp_i trivial fun y18 i18 => ob_i ?_ fun o19 => Xct.leafY (S := fPage5) (y2.fst ++ y18.fst, ()) ?_) (fun h16 => Xct.leafY (S := fPage5) (y2.fst, ()) ?_))
  all_goals first | trivial | (refine ⟨?_, ?_, ?_⟩ <;> decide) | skip
  all_goals try simp only [decide_eq_true_eq, decide_eq_false_iff_not, Bool.not_eq_true', Bool.not_eq_false', bne_iff_ne, bne_eq_false_iff_eq, beq_iff_eq, beq_eq_false_iff_ne, baEq, Int.not_lt, Int.not_le, ne_eq, Decidable.not_not] at *
  all_goals try simp only [W_spec_l5Page_fPage5_3, fBelow, fOnce, fPage5, fStrL, fTag5, etaToken, etaNode, etaBuilder, etaPolicy, etaPage, etaVisit, etaTab, etaServer, etaCache, etaNet, etaLoader, etaSheet, etaResult, etaSlot, etaModule, etaAddr, etaRequest, etaResponse, etaConn, etaGuess, etaEntry, etaSent, etaFile, baSz, List.size_toArray, List.length_cons, List.length_nil, Nat.reduceAdd, Int.toNat_zero, List.drop_zero, decide_eq_true_eq, decide_eq_false_iff_not, Bool.not_eq_true', Bool.not_eq_false', bne_iff_ne, bne_eq_false_iff_eq, beq_iff_eq, beq_eq_false_iff_ne, Bool.not_eq_true, Bool.not_eq_false, ne_eq, Decidable.not_not, baEq, decide_not, Prod.mk.injEq, and_true, true_and, Room, List.nil_append, Nat.zero_add, Int.not_lt, Int.not_le, sameSize, ByteArray.size_append] at *
  all_goals try simp (disch := omega) only [wrapId', toNat1] at *
  all_goals try simp (disch := omega) only [if_pos, if_neg]
  all_goals first | trivial | omega | grind [wrapId', toNat1, drop_cons, drop_end, good_len, maxLen, sameSize, ByteArray.size_append])
def E40 : D.Env := E39.addX 66 fPage5
theorem E40ok : EOk Try.prog E40 := E39ok.addX k66_39
def fBody10 : Xct := ⟨[.u, .v (.el .int)], [.el .str], fun (x_ : Unit × Int × Unit) => True, fun (x_ : Unit × Int × Unit) (y_ : ByteArray × Unit) => y_.1.size ≤ 2000⟩
-- spec.l10Body
theorem k57_40 : fBody10.ok Try.prog 57 := Xct.of (S := fBody10) (L := fun _ _ => none) (kp := [0,1,4,5,6,10,14,23,1000006,1000010,1000014,1000023]) E40ok Try.func57 (by kernel_rfl) (by kernel_rfl) (by
  rintro ⟨(c : PUnit), (k : Int), _⟩ hp
  refine holds_of (X := .br (k == (2 : Int))
 (.ob (fText8.pre ((), (3 : Int), ())) <|
  .lp (ByteArray × PUnit) (True) (fText8.is ((), (3 : Int), ())) fun y3 =>
  .leaf (mkR fBody10.rs (y3.fst, ())) [] [])
 (.br (k == (3 : Int))
  (.ob (fText7.pre ((), ())) <|
   .lp (ByteArray × PUnit) (True) (fText7.is ((), ())) fun y5 =>
   .leaf (mkR fBody10.rs (y5.fst, ())) [] [])
  (.br (k == (5 : Int))
   (.ob (fStrL.pre
  ((),
    [{ data := #[] : ByteArray },
      {
        data :=
          #[(105 : UInt8), (109 : UInt8), (112 : UInt8), (111 : UInt8), (114 : UInt8), (116 : UInt8), (32 : UInt8),
            (117 : UInt8), (116 : UInt8), (105 : UInt8), (108 : UInt8), (59 : UInt8)] :
        ByteArray },
      {
        data :=
          #[(105 : UInt8), (109 : UInt8), (112 : UInt8), (111 : UInt8), (114 : UInt8), (116 : UInt8), (32 : UInt8),
            (108 : UInt8), (105 : UInt8), (98 : UInt8), (59 : UInt8)] :
        ByteArray },
      {
        data :=
          #[(105 : UInt8), (109 : UInt8), (112 : UInt8), (111 : UInt8), (114 : UInt8), (116 : UInt8), (32 : UInt8),
            (99 : UInt8), (100 : UInt8), (110 : UInt8), (47 : UInt8), (108 : UInt8), (105 : UInt8), (98 : UInt8),
            (59 : UInt8)] :
        ByteArray },
      {
        data :=
          #[(105 : UInt8), (109 : UInt8), (112 : UInt8), (111 : UInt8), (114 : UInt8), (116 : UInt8), (32 : UInt8),
            (97 : UInt8), (112 : UInt8), (112 : UInt8), (59 : UInt8), (105 : UInt8), (109 : UInt8), (112 : UInt8),
            (111 : UInt8), (114 : UInt8), (116 : UInt8), (32 : UInt8), (117 : UInt8), (116 : UInt8), (105 : UInt8),
            (108 : UInt8), (59 : UInt8)] :
        ByteArray }],
    ())) <|
    .lp (ByteArray × PUnit) (True) (fStrL.is
  ((),
    [{ data := #[] : ByteArray },
      {
        data :=
          #[(105 : UInt8), (109 : UInt8), (112 : UInt8), (111 : UInt8), (114 : UInt8), (116 : UInt8), (32 : UInt8),
            (117 : UInt8), (116 : UInt8), (105 : UInt8), (108 : UInt8), (59 : UInt8)] :
        ByteArray },
      {
        data :=
          #[(105 : UInt8), (109 : UInt8), (112 : UInt8), (111 : UInt8), (114 : UInt8), (116 : UInt8), (32 : UInt8),
            (108 : UInt8), (105 : UInt8), (98 : UInt8), (59 : UInt8)] :
        ByteArray },
      {
        data :=
          #[(105 : UInt8), (109 : UInt8), (112 : UInt8), (111 : UInt8), (114 : UInt8), (116 : UInt8), (32 : UInt8),
            (99 : UInt8), (100 : UInt8), (110 : UInt8), (47 : UInt8), (108 : UInt8), (105 : UInt8), (98 : UInt8),
            (59 : UInt8)] :
        ByteArray },
      {
        data :=
          #[(105 : UInt8), (109 : UInt8), (112 : UInt8), (111 : UInt8), (114 : UInt8), (116 : UInt8), (32 : UInt8),
            (97 : UInt8), (112 : UInt8), (112 : UInt8), (59 : UInt8), (105 : UInt8), (109 : UInt8), (112 : UInt8),
            (111 : UInt8), (114 : UInt8), (116 : UInt8), (32 : UInt8), (117 : UInt8), (116 : UInt8), (105 : UInt8),
            (108 : UInt8), (59 : UInt8)] :
        ByteArray }],
    ())) fun y8 =>
    .ob (fStrL.pre
  ((),
    [{ data := #[(115 : UInt8), (97 : UInt8), (121 : UInt8), (32 : UInt8), (109 : UInt8)] : ByteArray },
      {
        data :=
          #[(99 : UInt8), (111 : UInt8), (117 : UInt8), (110 : UInt8), (116 : UInt8), (32 : UInt8), (112 : UInt8)] :
        ByteArray },
      { data := #[(97 : UInt8), (100 : UInt8), (100 : UInt8), (32 : UInt8), (98 : UInt8)] : ByteArray },
      { data := #[(108 : UInt8), (111 : UInt8), (111 : UInt8), (107 : UInt8), (32 : UInt8), (112 : UInt8)] :
        ByteArray }],
    ())) <|
     .lp (ByteArray × PUnit) (True) (fStrL.is
  ((),
    [{ data := #[(115 : UInt8), (97 : UInt8), (121 : UInt8), (32 : UInt8), (109 : UInt8)] : ByteArray },
      {
        data :=
          #[(99 : UInt8), (111 : UInt8), (117 : UInt8), (110 : UInt8), (116 : UInt8), (32 : UInt8), (112 : UInt8)] :
        ByteArray },
      { data := #[(97 : UInt8), (100 : UInt8), (100 : UInt8), (32 : UInt8), (98 : UInt8)] : ByteArray },
      { data := #[(108 : UInt8), (111 : UInt8), (111 : UInt8), (107 : UInt8), (32 : UInt8), (112 : UInt8)] :
        ByteArray }],
    ())) fun y10 =>
     .ob (sameSize y8.fst y10.fst) <|
      .leaf (mkR fBody10.rs (y8.fst ++ y10.fst, ())) [] [])
   (.br (k == (4 : Int))
    (.leaf (mkR fBody10.rs ({ data := #[(112 : UInt8), (105 : UInt8), (120 : UInt8), (101 : UInt8), (108 : UInt8), (115 : UInt8)] : ByteArray }, ())) [] [])
    (.ob (fPage5.pre ((), (8 : Int), ())) <|
     .lp (ByteArray × PUnit) (True) (fPage5.is ((), (8 : Int), ())) fun y14 =>
     .leaf (mkR fBody10.rs (y14.fst, ())) [] []))))) (by kernel_rfl) ?_
  refine br_i (fun h1 => ob_i ?_ fun o2 => lp_i trivial fun y3 i3 => Xct.leafY (S := fBody10) (y3.fst, ()) ?_) (fun h1 => br_i (fun h4 => ob_i trivial fun _ => lp_i trivial fun y5 i5 => Xct.leafY (S := fBody10) (y5.fst, ()) ?_) (fun h4 => br_i (fun h6 => ob_i ?_ fun o7 => lp_i trivial fun y8 i8 => ob_i ?_ fun o9 => lp_i trivial fun y10 i10 => ob_i ?_ fun o11 => Xct.leafY (S := fBody10) (y8.fst ++ y10.fst, ()) ?_) (fun h6 => br_i (fun h12 => Xct.leafY (S := fBody10) ({ data := #[(112 : UInt8), (105 : UInt8), (120 : UInt8), (101 : UInt8), (108 : UInt8), (115 : UInt8)] : ByteArray }, ()) ?_) (fun h12 => ob_i ?_ fun o13 => lp_i trivial fun y14 i14 => Xct.leafY (S := fBody10) (y14.fst, ()) ?_))))
  all_goals first | trivial | (refine ⟨?_, ?_, ?_⟩ <;> decide) | skip
  all_goals try simp only [decide_eq_true_eq, decide_eq_false_iff_not, Bool.not_eq_true', Bool.not_eq_false', bne_iff_ne, bne_eq_false_iff_eq, beq_iff_eq, beq_eq_false_iff_ne, baEq, Int.not_lt, Int.not_le, ne_eq, Decidable.not_not] at *
  all_goals try simp only [fBody10, fPage5, fStrL, fText7, fText8, etaToken, etaNode, etaBuilder, etaPolicy, etaPage, etaVisit, etaTab, etaServer, etaCache, etaNet, etaLoader, etaSheet, etaResult, etaSlot, etaModule, etaAddr, etaRequest, etaResponse, etaConn, etaGuess, etaEntry, etaSent, etaFile, baSz, List.size_toArray, List.length_cons, List.length_nil, Nat.reduceAdd, Int.toNat_zero, List.drop_zero, decide_eq_true_eq, decide_eq_false_iff_not, Bool.not_eq_true', Bool.not_eq_false', bne_iff_ne, bne_eq_false_iff_eq, beq_iff_eq, beq_eq_false_iff_ne, Bool.not_eq_true, Bool.not_eq_false, ne_eq, Decidable.not_not, baEq, decide_not, Prod.mk.injEq, and_true, true_and, Room, List.nil_append, Nat.zero_add, Int.not_lt, Int.not_le, sameSize, ByteArray.size_append] at *
  all_goals try simp (disch := omega) only [wrapId', toNat1] at *
  all_goals try simp (disch := omega) only [if_pos, if_neg]
  all_goals first | trivial | omega | grind [wrapId', toNat1, drop_cons, drop_end, good_len, maxLen, sameSize, ByteArray.size_append])
def E41 : D.Env := E40.addX 57 fBody10
theorem E41ok : EOk Try.prog E41 := E40ok.addX k57_40
theorem isName_size {s : ByteArray} (h : isName s = true) : s.size ≤ 8 := by
  simp only [isName, Bool.and_eq_true, decide_eq_true_eq] at h; omega
def words9 : ByteArray → List ByteArray → ByteArray
  | w, [] => w
  | w, x :: l => words9 (w ++ ⟨#[32]⟩ ++ x) l
theorem words9_at {w : ByteArray} {l : List ByteArray} {i : Nat} (h : i < l.length) : words9 w (l.drop i) = words9 (w ++ ⟨#[32]⟩ ++ l.getD i default) (l.drop (i + 1)) := by rw [drop_cons h]; rfl
theorem words9_end {w : ByteArray} {l : List ByteArray} {i : Nat} (h : l.length ≤ i) : words9 w (l.drop i) = w := by rw [List.drop_of_length_le h]; rfl
theorem words9_size : ∀ (l : List ByteArray) (w : ByteArray), l.all isName = true → (words9 w l).size ≤ w.size + 9 * l.length := by
  intro l
  induction l with
  | nil => intro w _; simp [words9]
  | cons x l ih =>
    intro w h
    simp only [List.all_cons, Bool.and_eq_true] at h
    have h1 := isName_size h.1
    have h2 := ih (w ++ ⟨#[32]⟩ ++ x) h.2
    simp only [words9, List.length_cons]
    rw [ByteArray.size_append, ByteArray.size_append, show ByteArray.size ⟨#[32]⟩ = 1 from rfl] at h2
    omega
def fWords9 : Fct := ⟨[.v (.el .str), .v (.sl .str)], [.el .str], fun (x_ : ByteArray × (List ByteArray) × Unit) => x_.1.size ≤ 100 ∧ x_.2.1.length ≤ 4 ∧ x_.2.1.all isName = true, fun (x_ : ByteArray × (List ByteArray) × Unit) => (words9 x_.1 x_.2.1, ())⟩
abbrev W_spec_l9Words_fWords9_2 (w : ByteArray) (l : (List ByteArray)) : LInv := ⟨[⟨.s, 0, true, .el .str⟩, ⟨.s, 5, true, .el .int⟩], fun _ (x_ : ByteArray × Int × Unit) => 0 ≤ x_.2.1 ∧ x_.2.1 ≤ l.length ∧ x_.1.size ≤ 100 + 9 * x_.2.1 ∧ words9 x_.1 (l.drop x_.2.1.toNat) = words9 w l, fun (x_ : ByteArray × Int × Unit) => l.length - x_.2.1.toNat⟩
-- spec.l9Words
theorem k68_41 : fWords9.ok Try.prog 68 := Fct.of (S := fWords9) (L := fun ⟨w, l, _⟩ => fun | 2 => some (W_spec_l9Words_fWords9_2 w l) | _ => none) (kp := [0,1,4,5,9,1000009]) E41ok Try.func68 (by kernel_rfl) (by kernel_rfl) (by
  rintro ⟨(w : ByteArray), (l : List ByteArray), _⟩ hp
  refine holds_of (X := lpx (W_spec_l9Words_fWords9_2 w l) (w, ((0 : Int), ())) fun (y1 : ByteArray × Int × PUnit) bk1 =>
 .br (decide (y1.snd.fst < (↑l.length : Int)))
  (.ob (sameSize y1.fst { data := #[(32 : UInt8)] : ByteArray }) <|
   .ob ((0 : Int) ≤ y1.snd.fst ∧ y1.snd.fst < (↑l.length : Int)) <|
   .ob (sameSize (y1.fst ++ { data := #[(32 : UInt8)] : ByteArray }) (l.getD y1.snd.fst.toNat default)) <|
   .ob (l = l) <|
   .ob (Value.string { data := #[] : ByteArray } = Value.string { data := #[] : ByteArray }) <|
   .ob (bk1 (y1.fst ++ { data := #[(32 : UInt8)] : ByteArray } ++ l.getD y1.snd.fst.toNat default, (IntKind.i64.wrap (y1.snd.fst + (1 : Int)), ()))) <|
   .ok)
  (.leaf (mkR fWords9.rs (y1.fst, ())) [] [])) (by kernel_rfl) ?_
  refine lpx_i ?_ fun (y1 : ByteArray × Int × PUnit) i1 => br_i (fun h2 => ob_i ?_ fun o3 => ob_i ?_ fun o4 => ob_i ?_ fun o5 => ob_i rfl fun _ => ob_i rfl fun _ => ob_i ?_ fun o6 => trivial) (fun h2 => Fct.leafY ?_)
  all_goals have hg : ∀ i, i < l.length → (l.getD i default).size ≤ 8 := fun i h => isName_size (List.all_eq_true.1 hp.2.2 _ (getD_in h))
  all_goals try simp only [decide_eq_true_eq, decide_eq_false_iff_not, Bool.not_eq_true', Bool.not_eq_false', bne_iff_ne, bne_eq_false_iff_eq, beq_iff_eq, beq_eq_false_iff_ne, baEq, Int.not_lt, Int.not_le, ne_eq, Decidable.not_not] at *
  all_goals try simp only [W_spec_l9Words_fWords9_2, fWords9, etaToken, etaNode, etaBuilder, etaPolicy, etaPage, etaVisit, etaTab, etaServer, etaCache, etaNet, etaLoader, etaSheet, etaResult, etaSlot, etaModule, etaAddr, etaRequest, etaResponse, etaConn, etaGuess, etaEntry, etaSent, etaFile, baSz, List.size_toArray, List.length_cons, List.length_nil, Nat.reduceAdd, Int.toNat_zero, List.drop_zero, decide_eq_true_eq, decide_eq_false_iff_not, Bool.not_eq_true', Bool.not_eq_false', bne_iff_ne, bne_eq_false_iff_eq, beq_iff_eq, beq_eq_false_iff_ne, Bool.not_eq_true, Bool.not_eq_false, ne_eq, Decidable.not_not, baEq, decide_not, Prod.mk.injEq, and_true, true_and, Room, List.nil_append, Nat.zero_add, Int.not_lt, Int.not_le, words9_at, words9_end, sameSize, ByteArray.size_append] at *
  all_goals try simp (disch := omega) only [wrapId', toNat1] at *
  all_goals try simp (disch := omega) only [if_pos, if_neg]
  all_goals first | trivial | omega | grind [wrapId', toNat1, good_len, maxLen, words9_at, words9_end, sameSize, ByteArray.size_append])
def E42 : D.Env := E41.add 68 fWords9
theorem E42ok : EOk Try.prog E42 := E41ok.add k68_41
def formatPolicy (p : SPolicy) : ByteArray := if isPolicy p && p.set_ then (if p.nonce = ⟨#[]⟩ then words9 ⟨#[115, 99, 114, 105, 112, 116]⟩ p.scripts ++ ⟨#[59]⟩ ++ words9 ⟨#[115, 116, 121, 108, 101]⟩ p.styles ++ ⟨#[59]⟩ ++ words9 ⟨#[105, 109, 103]⟩ p.images else words9 ⟨#[115, 99, 114, 105, 112, 116]⟩ p.scripts ++ ⟨#[59]⟩ ++ words9 ⟨#[115, 116, 121, 108, 101]⟩ p.styles ++ ⟨#[59]⟩ ++ words9 ⟨#[105, 109, 103]⟩ p.images ++ ⟨#[59, 110, 111, 110, 99, 101, 32]⟩ ++ p.nonce) else ⟨#[]⟩
theorem isPolicy_set {p : SPolicy} (h : isPolicy p = true) (hs : p.set_ = true) : p.scripts.all isName = true ∧ p.scripts.length ≤ 4 ∧ p.styles.all isName = true ∧ p.styles.length ≤ 4 ∧ p.images.all isName = true ∧ p.images.length ≤ 4 ∧ p.nonce.size ≤ 20 := by
  simp only [isPolicy, hs, if_true, Bool.and_eq_true, Bool.or_eq_true, decide_eq_true_eq] at h
  obtain ⟨⟨⟨⟨a1, a2⟩, a3, a4⟩, a5, a6⟩, a7⟩ := h
  refine ⟨a1, a2, a3, a4, a5, a6, ?_⟩
  rcases a7 with h | h
  · rw [h]; exact Nat.zero_le _
  · simp only [isValue, Bool.and_eq_true, decide_eq_true_eq] at h; omega
theorem words9_sz {l : List ByteArray} {w : ByteArray} (h : l.all isName = true) (hl : l.length ≤ 4) (hw : w.size ≤ 6) : (words9 w l).size ≤ 42 := by
  have := words9_size l w h; omega
theorem formatPolicy_size (p : SPolicy) : (formatPolicy p).size ≤ 200 := by
  unfold formatPolicy
  split
  · rename_i h
    simp only [Bool.and_eq_true] at h
    obtain ⟨a1, a2, a3, a4, a5, a6, a7⟩ := isPolicy_set h.1 h.2
    have b1 := words9_sz (w := ⟨#[115, 99, 114, 105, 112, 116]⟩) a1 a2 (by decide)
    have b2 := words9_sz (w := ⟨#[115, 116, 121, 108, 101]⟩) a3 a4 (by decide)
    have b3 := words9_sz (w := ⟨#[105, 109, 103]⟩) a5 a6 (by decide)
    split
    · simp only [ByteArray.size_append, show ByteArray.size ⟨#[59]⟩ = 1 from rfl]; omega
    · simp only [ByteArray.size_append, show ByteArray.size ⟨#[59]⟩ = 1 from rfl, show ByteArray.size ⟨#[59, 110, 111, 110, 99, 101, 32]⟩ = 7 from rfl]; omega
  · exact Nat.zero_le _
def fFormatPolicy : Fct := ⟨[.v (.el .policy)], [.el .str], fun (x_ : SPolicy × Unit) => szPolicy x_.1 ≤ 1099511627776, fun (x_ : SPolicy × Unit) => (formatPolicy x_.1, ())⟩
-- spec.FormatPolicy
theorem k58_42 : fFormatPolicy.ok Try.prog 58 := Fct.of (S := fFormatPolicy) (L := fun _ _ => none) (kp := [1,2,3,11,27,1000011,1000027]) E42ok Try.func58 (by kernel_rfl) (by kernel_rfl) (by
  rintro ⟨(p : SPolicy), _⟩ hp
  refine holds_of (X := .ob (fIsPolicy.pre (p, ())) <|
 .lt (Bool × PUnit) (fIsPolicy.fn (p, ())) fun z2 =>
 .br (!z2.fst)
  (.leaf (mkR fFormatPolicy.rs ({ data := #[] : ByteArray }, ())) [] [])
  (.br (!p.set_)
   (.leaf (mkR fFormatPolicy.rs ({ data := #[] : ByteArray }, ())) [] [])
   (.ob (fWords9.pre
  ({ data := #[(115 : UInt8), (99 : UInt8), (114 : UInt8), (105 : UInt8), (112 : UInt8), (116 : UInt8)] : ByteArray },
    p.scripts, ())) <|
    .lt (ByteArray × PUnit) (fWords9.fn
  ({ data := #[(115 : UInt8), (99 : UInt8), (114 : UInt8), (105 : UInt8), (112 : UInt8), (116 : UInt8)] : ByteArray },
    p.scripts, ())) fun z3 =>
    .ob (sameSize z3.fst { data := #[(59 : UInt8)] : ByteArray }) <|
     .ob (fWords9.pre
  ({ data := #[(115 : UInt8), (116 : UInt8), (121 : UInt8), (108 : UInt8), (101 : UInt8)] : ByteArray }, p.styles, ())) <|
     .lt (ByteArray × PUnit) (fWords9.fn
  ({ data := #[(115 : UInt8), (116 : UInt8), (121 : UInt8), (108 : UInt8), (101 : UInt8)] : ByteArray }, p.styles, ())) fun z4 =>
     .ob (sameSize (z3.fst ++ { data := #[(59 : UInt8)] : ByteArray }) z4.fst) <|
      .ob (sameSize (z3.fst ++ { data := #[(59 : UInt8)] : ByteArray } ++ z4.fst) { data := #[(59 : UInt8)] : ByteArray }) <|
      .ob (fWords9.pre ({ data := #[(105 : UInt8), (109 : UInt8), (103 : UInt8)] : ByteArray }, p.images, ())) <|
      .lt (ByteArray × PUnit) (fWords9.fn ({ data := #[(105 : UInt8), (109 : UInt8), (103 : UInt8)] : ByteArray }, p.images, ())) fun z5 =>
      .ob (sameSize (z3.fst ++ { data := #[(59 : UInt8)] : ByteArray } ++ z4.fst ++ { data := #[(59 : UInt8)] : ByteArray }) z5.fst) <|
       .br (!p.nonce.toList == { data := #[] : ByteArray }.toList)
       (.ob (sameSize
  (z3.fst ++ { data := #[(59 : UInt8)] : ByteArray } ++ z4.fst ++ { data := #[(59 : UInt8)] : ByteArray } ++ z5.fst)
  { data := #[(59 : UInt8), (110 : UInt8), (111 : UInt8), (110 : UInt8), (99 : UInt8), (101 : UInt8), (32 : UInt8)] :
    ByteArray }) <|
        .ob (sameSize
  (z3.fst ++ { data := #[(59 : UInt8)] : ByteArray } ++ z4.fst ++ { data := #[(59 : UInt8)] : ByteArray } ++ z5.fst ++
    { data := #[(59 : UInt8), (110 : UInt8), (111 : UInt8), (110 : UInt8), (99 : UInt8), (101 : UInt8), (32 : UInt8)] :
      ByteArray })
  p.nonce) <|
        .leaf (mkR fFormatPolicy.rs (z3.fst ++ { data := #[(59 : UInt8)] : ByteArray } ++ z4.fst ++ { data := #[(59 : UInt8)] : ByteArray } ++ z5.fst ++
    { data := #[(59 : UInt8), (110 : UInt8), (111 : UInt8), (110 : UInt8), (99 : UInt8), (101 : UInt8), (32 : UInt8)] :
      ByteArray } ++
  p.nonce, ())) [] [])
       (.leaf (mkR fFormatPolicy.rs (z3.fst ++ { data := #[(59 : UInt8)] : ByteArray } ++ z4.fst ++ { data := #[(59 : UInt8)] : ByteArray } ++ z5.fst, ())) [] [])))) (by kernel_rfl) ?_
  refine ob_i ?_ fun o1 => lt_i (br_i (fun h2 => Fct.leafY ?_) (fun h2 => br_i (fun h3 => Fct.leafY ?_) (fun h3 => ob_i ?_ fun o4 => lt_i (ob_i ?_ fun o5 => ob_i ?_ fun o6 => lt_i (ob_i ?_ fun o7 => ob_i ?_ fun o8 => ob_i ?_ fun o9 => lt_i (ob_i ?_ fun o10 => br_i (fun h11 => ob_i ?_ fun o12 => ob_i ?_ fun o13 => Fct.leafY ?_) (fun h11 => Fct.leafY ?_)))))))
  all_goals try simp only [decide_eq_true_eq, decide_eq_false_iff_not, Bool.not_eq_true', Bool.not_eq_false', bne_iff_ne, bne_eq_false_iff_eq, beq_iff_eq, beq_eq_false_iff_ne, baEq, Int.not_lt, Int.not_le, ne_eq, Decidable.not_not] at *
  all_goals try simp only [fFormatPolicy, fIsPolicy, fWords9, etaToken, etaNode, etaBuilder, etaPolicy, etaPage, etaVisit, etaTab, etaServer, etaCache, etaNet, etaLoader, etaSheet, etaResult, etaSlot, etaModule, etaAddr, etaRequest, etaResponse, etaConn, etaGuess, etaEntry, etaSent, etaFile, baSz, List.size_toArray, List.length_cons, List.length_nil, Nat.reduceAdd, Int.toNat_zero, List.drop_zero, decide_eq_true_eq, decide_eq_false_iff_not, Bool.not_eq_true', Bool.not_eq_false', bne_iff_ne, bne_eq_false_iff_eq, beq_iff_eq, beq_eq_false_iff_ne, Bool.not_eq_true, Bool.not_eq_false, ne_eq, Decidable.not_not, baEq, decide_not, Prod.mk.injEq, and_true, true_and, Room, List.nil_append, Nat.zero_add, Int.not_lt, Int.not_le] at *
  all_goals first | trivial | omega | skip
  all_goals try (have hA : isPolicy p = true := by assumption
                 have hB : p.set_ = true := by assumption
                 obtain ⟨a1, a2, a3, a4, a5, a6, a7⟩ := isPolicy_set hA hB)
  all_goals try have b1 := words9_sz (w := ⟨#[115, 99, 114, 105, 112, 116]⟩) a1 a2 (by decide)
  all_goals try have b2 := words9_sz (w := ⟨#[115, 116, 121, 108, 101]⟩) a3 a4 (by decide)
  all_goals try have b3 := words9_sz (w := ⟨#[105, 109, 103]⟩) a5 a6 (by decide)
  all_goals try simp only [decide_eq_true_eq, decide_eq_false_iff_not, Bool.not_eq_true', Bool.not_eq_false', bne_iff_ne, bne_eq_false_iff_eq, beq_iff_eq, beq_eq_false_iff_ne, baEq, Int.not_lt, Int.not_le, ne_eq, Decidable.not_not] at *
  all_goals try simp only [fFormatPolicy, fIsPolicy, fWords9, etaToken, etaNode, etaBuilder, etaPolicy, etaPage, etaVisit, etaTab, etaServer, etaCache, etaNet, etaLoader, etaSheet, etaResult, etaSlot, etaModule, etaAddr, etaRequest, etaResponse, etaConn, etaGuess, etaEntry, etaSent, etaFile, baSz, List.size_toArray, List.length_cons, List.length_nil, Nat.reduceAdd, Int.toNat_zero, List.drop_zero, decide_eq_true_eq, decide_eq_false_iff_not, Bool.not_eq_true', Bool.not_eq_false', bne_iff_ne, bne_eq_false_iff_eq, beq_iff_eq, beq_eq_false_iff_ne, Bool.not_eq_true, Bool.not_eq_false, ne_eq, Decidable.not_not, baEq, decide_not, Prod.mk.injEq, and_true, true_and, Room, List.nil_append, Nat.zero_add, Int.not_lt, Int.not_le, formatPolicy, sameSize, ByteArray.size_append] at *
  all_goals try simp (disch := omega) only [wrapId', toNat1] at *
  all_goals try simp (disch := omega) only [if_pos, if_neg]
  all_goals first | trivial | omega | grind [wrapId', toNat1, drop_cons, drop_end, good_len, maxLen, formatPolicy, sameSize, ByteArray.size_append])
def E43 : D.Env := E42.add 58 fFormatPolicy
theorem E43ok : EOk Try.prog E43 := E42ok.add k58_42
def hosts9 : List ByteArray := [⟨#[104, 111, 109, 101]⟩, ⟨#[99, 100, 110]⟩, ⟨#[101, 118, 105, 108]⟩]
theorem hosts9_name {i : Nat} (h : i < 3) : isName (hosts9.getD i default) = true := by
  match i, h with
  | 0, _ => decide
  | 1, _ => decide
  | 2, _ => decide
def fHosts9 : Xct := ⟨[.u], [.sl .str], fun (x_ : Unit × Unit) => True, fun (x_ : Unit × Unit) (y_ : (List ByteArray) × Unit) => y_.1.length ≤ 3 ∧ y_.1.all isName = true⟩
abbrev W_spec_l9Hosts_fHosts9_3 (c : Unit) : LInv := ⟨[⟨.s, 3, true, .sl .str⟩, ⟨.s, 9, true, .el .int⟩, ⟨.s, 7, true, .sl .str⟩], fun _ (x_ : (List ByteArray) × Int × (List ByteArray) × Unit) => 0 ≤ x_.2.1 ∧ x_.2.1 ≤ 3 ∧ x_.1.length ≤ x_.2.1 ∧ x_.1.all isName = true ∧ x_.2.2.1 = hosts9, fun (x_ : (List ByteArray) × Int × (List ByteArray) × Unit) => 3 - x_.2.1.toNat⟩
-- spec.l9Hosts
theorem k69_43 : fHosts9.ok Try.prog 69 := Xct.of (S := fHosts9) (L := fun ⟨c, _⟩ => fun | 3 => some (W_spec_l9Hosts_fHosts9_3 c) | _ => none) (kp := [0,2,3,5,7,8,9,10,14,1000010,1000014]) E43ok Try.func69 (by kernel_rfl) (by kernel_rfl) (by
  rintro ⟨(c : PUnit), _⟩ hp
  refine holds_of (X := lpx (W_spec_l9Hosts_fHosts9_3 c) ([], ((0 : Int), ([{ data := #[(104 : UInt8), (111 : UInt8), (109 : UInt8), (101 : UInt8)] : ByteArray },
  { data := #[(99 : UInt8), (100 : UInt8), (110 : UInt8)] : ByteArray },
  { data := #[(101 : UInt8), (118 : UInt8), (105 : UInt8), (108 : UInt8)] : ByteArray }], ()))) fun (y1 : List ByteArray × Int × List ByteArray × PUnit) bk1 =>
 .br (decide (y1.snd.fst < (3 : Int)))
  (.ob ((0 : Int) ≤ y1.snd.fst ∧ y1.snd.fst < (↑y1.snd.snd.fst.length : Int)) <|
   .ob (y1.snd.fst.toNat < y1.snd.snd.fst.length) <|
   .ob (fOnce.pre ((), (2 : Int), ())) <|
   .lp (Bool × PUnit) (True) (fOnce.is ((), (2 : Int), ())) fun y5 =>
   .br (y5.fst)
    (.ob (True) <|
     .ob (Room (y1.fst.length + [y1.snd.snd.fst.getD y1.snd.fst.toNat default].length) (16 : Nat)) <|
     .ob (Value.int IntKind.i64 (3 : Int) = Value.int IntKind.i64 (3 : Int)) <|
     .ob (bk1 (y1.fst ++ [y1.snd.snd.fst.getD y1.snd.fst.toNat default], (IntKind.i64.wrap (y1.snd.fst + (1 : Int)), (y1.snd.snd.fst, ())))) <|
     .ok)
    (.ob (Value.int IntKind.i64 (3 : Int) = Value.int IntKind.i64 (3 : Int)) <|
     .ob (bk1 (y1.fst, (IntKind.i64.wrap (y1.snd.fst + (1 : Int)), (y1.snd.snd.fst, ())))) <|
     .ok))
  (.leaf (mkR fHosts9.rs (y1.fst, ())) [] [])) (by kernel_rfl) ?_
  refine lpx_i ?_ fun (y1 : List ByteArray × Int × List ByteArray × PUnit) i1 => br_i (fun h2 => ob_i ?_ fun o3 => ob_i ?_ fun o4 => ob_i trivial fun _ => lp_i trivial fun y5 i5 => br_i (fun h6 => ob_i trivial fun _ => ob_i ?_ fun o7 => ob_i rfl fun _ => ob_i ?_ fun o8 => trivial) (fun h6 => ob_i rfl fun _ => ob_i ?_ fun o9 => trivial)) (fun h2 => Xct.leafY (S := fHosts9) (y1.fst, ()) ?_)
  all_goals have h9 : hosts9.length = 3 := rfl
  all_goals have hn : ∀ i, i < 3 → isName (hosts9.getD i default) = true := fun i h => hosts9_name h
  all_goals try exact ⟨by omega, by omega, by simp, rfl, rfl⟩
  all_goals try (obtain ⟨a1, a2, a3, a4, a5⟩ := i1; simp only [a5] at *)
  all_goals try simp only [decide_eq_true_eq, decide_eq_false_iff_not, Bool.not_eq_true', Bool.not_eq_false', bne_iff_ne, bne_eq_false_iff_eq, beq_iff_eq, beq_eq_false_iff_ne, baEq, Int.not_lt, Int.not_le, ne_eq, Decidable.not_not] at *
  all_goals try simp only [W_spec_l9Hosts_fHosts9_3, fHosts9, fOnce, etaToken, etaNode, etaBuilder, etaPolicy, etaPage, etaVisit, etaTab, etaServer, etaCache, etaNet, etaLoader, etaSheet, etaResult, etaSlot, etaModule, etaAddr, etaRequest, etaResponse, etaConn, etaGuess, etaEntry, etaSent, etaFile, baSz, List.size_toArray, List.length_cons, List.length_nil, Nat.reduceAdd, Int.toNat_zero, List.drop_zero, decide_eq_true_eq, decide_eq_false_iff_not, Bool.not_eq_true', Bool.not_eq_false', bne_iff_ne, bne_eq_false_iff_eq, beq_iff_eq, beq_eq_false_iff_ne, Bool.not_eq_true, Bool.not_eq_false, ne_eq, Decidable.not_not, baEq, decide_not, Prod.mk.injEq, and_true, true_and, Room, List.nil_append, Nat.zero_add, Int.not_lt, Int.not_le] at *
  all_goals try simp (disch := omega) only [wrapId', toNat1] at *
  all_goals try simp (disch := omega) only [if_pos, if_neg]
  all_goals first | trivial | omega | grind [wrapId', toNat1, drop_cons, drop_end, good_len, maxLen])
def E44 : D.Env := E43.addX 69 fHosts9
theorem E44ok : EOk Try.prog E44 := E43ok.addX k69_43
def fPolicy9 : Xct := ⟨[.u], [.el .policy], fun (x_ : Unit × Unit) => True, fun (x_ : Unit × Unit) (y_ : SPolicy × Unit) => isPolicy y_.1 = true⟩
-- spec.l9Policy
theorem k59_44 : fPolicy9.ok Try.prog 59 := Xct.of (S := fPolicy9) (L := fun _ _ => none) (kp := [0,2,3,5,15,1000005,1000015]) E44ok Try.func59 (by kernel_rfl) (by kernel_rfl) (by
  rintro ⟨(c : PUnit), _⟩ hp
  refine holds_of (X := .ob (fOnce.pre ((), (2 : Int), ())) <|
 .lp (Bool × PUnit) (True) (fOnce.is ((), (2 : Int), ())) fun y1 =>
 .br (y1.fst)
  (.leaf (.one true [vb (false), .nl, .nl, .nl, vs ({ data := #[] : ByteArray })]) [] [])
  (.ob (fHosts9.pre ((), ())) <|
   .lp (List ByteArray × PUnit) (True) (fHosts9.is ((), ())) fun y3 =>
   .ob (fHosts9.pre ((), ())) <|
    .lp (List ByteArray × PUnit) (True) (fHosts9.is ((), ())) fun y4 =>
    .ob (fHosts9.pre ((), ())) <|
     .lp (List ByteArray × PUnit) (True) (fHosts9.is ((), ())) fun y5 =>
     .ob (fOnce.pre ((), (2 : Int), ())) <|
      .lp (Bool × PUnit) (True) (fOnce.is ((), (2 : Int), ())) fun y6 =>
      .br (y6.fst)
       (.leaf (mkR fPolicy9.rs (⟨true, y3.fst, y4.fst, y5.fst, { data := #[(110 : UInt8), (55 : UInt8)] : ByteArray }⟩, ())) [] [])
       (.leaf (mkR fPolicy9.rs (⟨true, y3.fst, y4.fst, y5.fst, { data := #[] : ByteArray }⟩, ())) [] []))) (by kernel_rfl) ?_
  refine ob_i trivial fun _ => lp_i trivial fun y1 i1 => br_i (fun h2 => Xct.leafZ (S := fPolicy9) (default, ()) (by repeat' first | exact rfl | exact trivial | refine And.intro ?_ ?_) ?_) (fun h2 => ob_i trivial fun _ => lp_i trivial fun y3 i3 => ob_i trivial fun _ => lp_i trivial fun y4 i4 => ob_i trivial fun _ => lp_i trivial fun y5 i5 => ob_i trivial fun _ => lp_i trivial fun y6 i6 => br_i (fun h7 => Xct.leafY (S := fPolicy9) (⟨true, y3.fst, y4.fst, y5.fst, { data := #[(110 : UInt8), (55 : UInt8)] : ByteArray }⟩, ()) ?_) (fun h7 => Xct.leafY (S := fPolicy9) (⟨true, y3.fst, y4.fst, y5.fst, { data := #[] : ByteArray }⟩, ()) ?_))
  all_goals try simp only [decide_eq_true_eq, decide_eq_false_iff_not, Bool.not_eq_true', Bool.not_eq_false', bne_iff_ne, bne_eq_false_iff_eq, beq_iff_eq, beq_eq_false_iff_ne, baEq, Int.not_lt, Int.not_le, ne_eq, Decidable.not_not] at *
  all_goals try simp only [fHosts9, fOnce, fPolicy9, etaToken, etaNode, etaBuilder, etaPolicy, etaPage, etaVisit, etaTab, etaServer, etaCache, etaNet, etaLoader, etaSheet, etaResult, etaSlot, etaModule, etaAddr, etaRequest, etaResponse, etaConn, etaGuess, etaEntry, etaSent, etaFile, baSz, List.size_toArray, List.length_cons, List.length_nil, Nat.reduceAdd, Int.toNat_zero, List.drop_zero, decide_eq_true_eq, decide_eq_false_iff_not, Bool.not_eq_true', Bool.not_eq_false', bne_iff_ne, bne_eq_false_iff_eq, beq_iff_eq, beq_eq_false_iff_ne, Bool.not_eq_true, Bool.not_eq_false, ne_eq, Decidable.not_not, baEq, decide_not, Prod.mk.injEq, and_true, true_and, Room, List.nil_append, Nat.zero_add, Int.not_lt, Int.not_le] at *
  all_goals first | rfl | (simp only [isPolicy, Bool.and_eq_true, if_true, decide_eq_true_eq, Bool.or_eq_true]; first | exact ⟨⟨⟨⟨i3.2, by omega⟩, i4.2, by omega⟩, i5.2, by omega⟩, .inl trivial⟩ | exact ⟨⟨⟨⟨i3.2, by omega⟩, i4.2, by omega⟩, i5.2, by omega⟩, .inl rfl⟩ | exact ⟨⟨⟨⟨i3.2, by omega⟩, i4.2, by omega⟩, i5.2, by omega⟩, .inr (by decide)⟩))
def E45 : D.Env := E44.addX 59 fPolicy9
theorem E45ok : EOk Try.prog E45 := E44ok.addX k59_44
theorem szL_le {α : Type} {f : α → Nat} {B : Nat} : ∀ {l : List α}, (∀ x ∈ l, f x ≤ B) → szL f l ≤ (B + 1) * l.length := by
  intro l
  induction l with
  | nil => intro _; simp [szL]
  | cons x l ih =>
    intro h
    have h1 := ih fun y hy => h y (List.mem_cons_of_mem _ hy)
    have h2 := h x List.mem_cons_self
    have h3 : szL f (x :: l) = f x + 1 + szL f l := by simp only [szL, List.map_cons, List.sum_cons, List.length_cons]; omega
    rw [h3, List.length_cons, Nat.mul_add]; omega
theorem names_sz {l : List ByteArray} (h : l.all isName = true) : szL szString l ≤ 9 * l.length := szL_le (B := 8) fun x hx => isName_size (List.all_eq_true.1 h x hx)
theorem isPolicy_sz {p : SPolicy} (h : isPolicy p = true) : szPolicy p ≤ 128 := by
  cases hs : p.set_ with
  | true =>
    obtain ⟨a1, a2, a3, a4, a5, a6, a7⟩ := isPolicy_set h hs
    have b1 := names_sz a1
    have b2 := names_sz a3
    have b3 := names_sz a5
    simp only [szPolicy]; omega
  | false =>
    simp only [isPolicy, hs, Bool.false_eq_true, if_false, decide_eq_true_eq] at h
    obtain ⟨h1, h2, h3, h4⟩ := h
    rw [List.length_eq_zero_iff] at h1 h2 h3
    simp only [szPolicy, h1, h2, h3, h4]
    decide
def fResponse10 : Xct := ⟨[.u, .v (.el .int)], [.el .response], fun (x_ : Unit × Int × Unit) => True, fun (x_ : Unit × Int × Unit) (y_ : SResponse × Unit) => y_.1.body.size ≤ 2000 ∧ y_.1.policy.size ≤ 200⟩
-- spec.l10Response
theorem k50_45 : fResponse10.ok Try.prog 50 := Xct.of (S := fResponse10) (L := fun _ _ => none) (kp := [0,1,4,5,17,1000017]) E45ok Try.func50 (by kernel_rfl) (by kernel_rfl) (by
  rintro ⟨(c : PUnit), (k : Int), _⟩ hp
  refine holds_of (X := .ob (fBody10.pre ((), k, ())) <|
 .lp (ByteArray × PUnit) (True) (fBody10.is ((), k, ())) fun y1 =>
 .ob (fIntL.pre ((), [(0 : Int), (5 : Int), (50 : Int)], ())) <|
  .lp (Int × PUnit) (True) (fIntL.is ((), [(0 : Int), (5 : Int), (50 : Int)], ())) fun y3 =>
  .ob (fOnce.pre ((), (2 : Int), ())) <|
   .lp (Bool × PUnit) (True) (fOnce.is ((), (2 : Int), ())) fun y4 =>
   .br (k == (1 : Int))
    (.ob (fPolicy9.pre ((), ())) <|
     .lp (SPolicy × PUnit) (True) (fPolicy9.is ((), ())) fun y6 =>
     .ob (fFormatPolicy.pre (y6.fst, ())) <|
      .lt (ByteArray × PUnit) (fFormatPolicy.fn (y6.fst, ())) fun z2 =>
      .leaf (mkR fResponse10.rs (⟨(200 : Int), k, y1.fst, y3.fst, y4.fst, z2.fst⟩, ())) [] [])
    (.leaf (mkR fResponse10.rs (⟨(200 : Int), k, y1.fst, y3.fst, y4.fst, { data := #[] : ByteArray }⟩, ())) [] [])) (by kernel_rfl) ?_
  refine ob_i trivial fun _ => lp_i trivial fun y1 i1 => ob_i ?_ fun o2 => lp_i trivial fun y3 i3 => ob_i trivial fun _ => lp_i trivial fun y4 i4 => br_i (fun h5 => ob_i trivial fun _ => lp_i trivial fun y6 i6 => ob_i ?_ fun o7 => lt_e fun z2 ez2 => (Xct.leafY (S := fResponse10) (⟨(200 : Int), k, y1.fst, y3.fst, y4.fst, z2.fst⟩, ()) ?_)) (fun h5 => Xct.leafY (S := fResponse10) (⟨(200 : Int), k, y1.fst, y3.fst, y4.fst, { data := #[] : ByteArray }⟩, ()) ?_)
  all_goals try subst_vars
  all_goals try have q := isPolicy_sz i6
  all_goals try have q2 := formatPolicy_size y6.1
  all_goals try simp only [decide_eq_true_eq, decide_eq_false_iff_not, Bool.not_eq_true', Bool.not_eq_false', bne_iff_ne, bne_eq_false_iff_eq, beq_iff_eq, beq_eq_false_iff_ne, baEq, Int.not_lt, Int.not_le, ne_eq, Decidable.not_not] at *
  all_goals try simp only [fBody10, fFormatPolicy, fIntL, fOnce, fPolicy9, fResponse10, etaToken, etaNode, etaBuilder, etaPolicy, etaPage, etaVisit, etaTab, etaServer, etaCache, etaNet, etaLoader, etaSheet, etaResult, etaSlot, etaModule, etaAddr, etaRequest, etaResponse, etaConn, etaGuess, etaEntry, etaSent, etaFile, baSz, List.size_toArray, List.length_cons, List.length_nil, Nat.reduceAdd, Int.toNat_zero, List.drop_zero, decide_eq_true_eq, decide_eq_false_iff_not, Bool.not_eq_true', Bool.not_eq_false', bne_iff_ne, bne_eq_false_iff_eq, beq_iff_eq, beq_eq_false_iff_ne, Bool.not_eq_true, Bool.not_eq_false, ne_eq, Decidable.not_not, baEq, decide_not, Prod.mk.injEq, and_true, true_and, Room, List.nil_append, Nat.zero_add, Int.not_lt, Int.not_le] at *
  all_goals first | omega | decide | exact ⟨i1, q2⟩ | exact ⟨i1, by decide⟩)
def E46 : D.Env := E45.addX 50 fResponse10
theorem E46ok : EOk Try.prog E46 := E45ok.addX k50_45
def fAny10 : Xct := ⟨[.u], [.el .response], fun (x_ : Unit × Unit) => True, fun (x_ : Unit × Unit) (y_ : SResponse × Unit) => y_.1.body.size ≤ 2000 ∧ y_.1.policy.size ≤ 200⟩
abbrev W_spec_l10Any_fAny10_12 (c : Unit) : LInv := ⟨[⟨.b, 3, true, .el .response⟩, ⟨.b, 2, true, .el .response⟩], fun (z_ : SResponse × SResponse × Unit) (x_ : SResponse × SResponse × Unit) => (x_.1.body.size ≤ 2000 ∧ x_.1.policy.size ≤ 200) ∧ x_.2.1 = z_.2.1, fun (x_ : SResponse × SResponse × Unit) => 400 - x_.1.body.size⟩
-- spec.l10Any
theorem k29_46 : fAny10.ok Try.prog 29 := Xct.of (S := fAny10) (L := fun ⟨c, _⟩ => fun | 12 => some (W_spec_l10Any_fAny10_12 c) | _ => none) (kp := [0,2,3,10,11,17,23,29,35,40,1000011,1000017,1000023,1000029,1000035,1000040]) E46ok Try.func29 (by kernel_rfl) (by kernel_rfl) (by
  rintro ⟨(c : PUnit), _⟩ hp
  refine holds_of (X := .ob (fBelow.pre ((), (5 : Int), ())) <|
 .lp (Int × PUnit) (True) (fBelow.is ((), (5 : Int), ())) fun y1 =>
 .ob (fResponse10.pre ((), IntKind.i64.wrap ((1 : Int) + y1.fst), ())) <|
  .lp (SResponse × PUnit) (True) (fResponse10.is ((), IntKind.i64.wrap ((1 : Int) + y1.fst), ())) fun y2 =>
  .ob (fBelow.pre ((), (12 : Int), ())) <|
   .lp (Int × PUnit) (True) (fBelow.is ((), (12 : Int), ())) fun y3 =>
   .br (y3.fst == (0 : Int))
    (.ob (fIntL.pre ((), [(99 : Int), (100 : Int), (404 : Int), (599 : Int), (600 : Int)], ())) <|
     .lp (Int × PUnit) (True) (fIntL.is ((), [(99 : Int), (100 : Int), (404 : Int), (599 : Int), (600 : Int)], ())) fun y6 =>
     .leaf (mkR fAny10.rs (⟨y6.fst, y2.fst.kind, y2.fst.body, y2.fst.age, y2.fst.shares, y2.fst.policy⟩, ())) [] [])
    (.br (y3.fst == (1 : Int))
     (.ob (fIntL.pre ((), [(0 : Int), (6 : Int)], ())) <|
      .lp (Int × PUnit) (True) (fIntL.is ((), [(0 : Int), (6 : Int)], ())) fun y9 =>
      .leaf (mkR fAny10.rs (⟨y2.fst.status, y9.fst, y2.fst.body, y2.fst.age, y2.fst.shares, y2.fst.policy⟩, ())) [] [])
     (.br (y3.fst == (2 : Int))
      (.ob (fIntL.pre ((), [(-1 : Int), (1000 : Int), (1001 : Int)], ())) <|
       .lp (Int × PUnit) (True) (fIntL.is ((), [(-1 : Int), (1000 : Int), (1001 : Int)], ())) fun y12 =>
       .leaf (mkR fAny10.rs (⟨y2.fst.status, y2.fst.kind, y2.fst.body, y12.fst, y2.fst.shares, y2.fst.policy⟩, ())) [] [])
      (.br (y3.fst == (3 : Int))
       (.ob (fStrL.pre ((), [{ data := #[(120 : UInt8)] : ByteArray }, { data := #[(115 : UInt8), (99 : UInt8), (114 : UInt8), (105 : UInt8), (112 : UInt8), (116 : UInt8), (59 : UInt8), (115 : UInt8), (116 : UInt8), (121 : UInt8), (108 : UInt8), (101 : UInt8), (59 : UInt8), (105 : UInt8), (109 : UInt8), (103 : UInt8)] : ByteArray }], ())) <|
        .lp (ByteArray × PUnit) (True) (fStrL.is ((), [{ data := #[(120 : UInt8)] : ByteArray }, { data := #[(115 : UInt8), (99 : UInt8), (114 : UInt8), (105 : UInt8), (112 : UInt8), (116 : UInt8), (59 : UInt8), (115 : UInt8), (116 : UInt8), (121 : UInt8), (108 : UInt8), (101 : UInt8), (59 : UInt8), (105 : UInt8), (109 : UInt8), (103 : UInt8)] : ByteArray }], ())) fun y15 =>
        .leaf (mkR fAny10.rs (⟨y2.fst.status, y2.fst.kind, y2.fst.body, y2.fst.age, y2.fst.shares, y15.fst⟩, ())) [] [])
       (.br (y3.fst == (4 : Int))
        (lpx (W_spec_l10Any_fAny10_12 c) (y2.fst, (default, ())) fun (y17 : SResponse × SResponse × PUnit) bk17 =>
         .br (decide ((↑y17.fst.body.size : Int) < (400 : Int)))
          (.ob (sameSize y17.fst.body { data := #[(48 : UInt8), (49 : UInt8), (50 : UInt8), (51 : UInt8), (52 : UInt8), (53 : UInt8), (54 : UInt8), (55 : UInt8), (56 : UInt8), (57 : UInt8)] : ByteArray }) <|
           .ob (Value.int IntKind.i64 y3.fst = Value.int IntKind.i64 y3.fst) <|
           .ob (bk17 ({ status := y17.fst.status, kind := y17.fst.kind, body := y17.fst.body ++ { data := #[(48 : UInt8), (49 : UInt8), (50 : UInt8), (51 : UInt8), (52 : UInt8), (53 : UInt8), (54 : UInt8), (55 : UInt8), (56 : UInt8), (57 : UInt8)] : ByteArray }, age := y17.fst.age, shares := y17.fst.shares, policy := y17.fst.policy : SResponse }, (y17.snd.fst, ()))) <|
           .ok)
          (.leaf (mkR fAny10.rs (y17.fst, ())) [] []))
        (.leaf (mkR fAny10.rs (y2.fst, ())) [] [])))))) (by kernel_rfl) ?_
  refine ob_i trivial fun _ => lp_i trivial fun y1 i1 => ob_i trivial fun _ => lp_i trivial fun y2 i2 => ob_i trivial fun _ => lp_i trivial fun y3 i3 => br_i (fun h4 => ob_i ?_ fun o5 => lp_i trivial fun y6 i6 => Xct.leafY (S := fAny10) (⟨y6.fst, y2.fst.kind, y2.fst.body, y2.fst.age, y2.fst.shares, y2.fst.policy⟩, ()) ?_) (fun h4 => br_i (fun h7 => ob_i ?_ fun o8 => lp_i trivial fun y9 i9 => Xct.leafY (S := fAny10) (⟨y2.fst.status, y9.fst, y2.fst.body, y2.fst.age, y2.fst.shares, y2.fst.policy⟩, ()) ?_) (fun h7 => br_i (fun h10 => ob_i ?_ fun o11 => lp_i trivial fun y12 i12 => Xct.leafY (S := fAny10) (⟨y2.fst.status, y2.fst.kind, y2.fst.body, y12.fst, y2.fst.shares, y2.fst.policy⟩, ()) ?_) (fun h10 => br_i (fun h13 => ob_i ?_ fun o14 => lp_i trivial fun y15 i15 => Xct.leafY (S := fAny10) (⟨y2.fst.status, y2.fst.kind, y2.fst.body, y2.fst.age, y2.fst.shares, y15.fst⟩, ()) ?_) (fun h13 => br_i (fun h16 => lpx_i ?_ fun (y17 : SResponse × SResponse × PUnit) i17 => br_i (fun h18 => ob_i ?_ fun o19 => ob_i rfl fun _ => ob_i ?_ fun o20 => trivial) (fun h18 => Xct.leafY (S := fAny10) (y17.fst, ()) ?_)) (fun h16 => Xct.leafY (S := fAny10) (y2.fst, ()) ?_)))))
  all_goals try simp only [decide_eq_true_eq, decide_eq_false_iff_not, Bool.not_eq_true', Bool.not_eq_false', bne_iff_ne, bne_eq_false_iff_eq, beq_iff_eq, beq_eq_false_iff_ne, baEq, Int.not_lt, Int.not_le, ne_eq, Decidable.not_not] at *
  all_goals try simp only [W_spec_l10Any_fAny10_12, fAny10, fBelow, fIntL, fResponse10, fStrL, etaToken, etaNode, etaBuilder, etaPolicy, etaPage, etaVisit, etaTab, etaServer, etaCache, etaNet, etaLoader, etaSheet, etaResult, etaSlot, etaModule, etaAddr, etaRequest, etaResponse, etaConn, etaGuess, etaEntry, etaSent, etaFile, baSz, List.size_toArray, List.length_cons, List.length_nil, Nat.reduceAdd, Int.toNat_zero, List.drop_zero, decide_eq_true_eq, decide_eq_false_iff_not, Bool.not_eq_true', Bool.not_eq_false', bne_iff_ne, bne_eq_false_iff_eq, beq_iff_eq, beq_eq_false_iff_ne, Bool.not_eq_true, Bool.not_eq_false, ne_eq, Decidable.not_not, baEq, decide_not, Prod.mk.injEq, and_true, true_and, Room, List.nil_append, Nat.zero_add, Int.not_lt, Int.not_le] at *
  all_goals first | omega | decide | exact i2 | skip
  all_goals try simp only [decide_eq_true_eq, decide_eq_false_iff_not, Bool.not_eq_true', Bool.not_eq_false', bne_iff_ne, bne_eq_false_iff_eq, beq_iff_eq, beq_eq_false_iff_ne, baEq, Int.not_lt, Int.not_le, ne_eq, Decidable.not_not] at *
  all_goals try simp only [W_spec_l10Any_fAny10_12, fAny10, fBelow, fIntL, fResponse10, fStrL, etaToken, etaNode, etaBuilder, etaPolicy, etaPage, etaVisit, etaTab, etaServer, etaCache, etaNet, etaLoader, etaSheet, etaResult, etaSlot, etaModule, etaAddr, etaRequest, etaResponse, etaConn, etaGuess, etaEntry, etaSent, etaFile, baSz, List.size_toArray, List.length_cons, List.length_nil, Nat.reduceAdd, Int.toNat_zero, List.drop_zero, decide_eq_true_eq, decide_eq_false_iff_not, Bool.not_eq_true', Bool.not_eq_false', bne_iff_ne, bne_eq_false_iff_eq, beq_iff_eq, beq_eq_false_iff_ne, Bool.not_eq_true, Bool.not_eq_false, ne_eq, Decidable.not_not, baEq, decide_not, Prod.mk.injEq, and_true, true_and, Room, List.nil_append, Nat.zero_add, Int.not_lt, Int.not_le, sameSize, ByteArray.size_append] at *
  all_goals try simp (disch := omega) only [wrapId', toNat1] at *
  all_goals try simp (disch := omega) only [if_pos, if_neg]
  all_goals first | trivial | omega | grind [wrapId', toNat1, drop_cons, drop_end, good_len, maxLen, sameSize, ByteArray.size_append])
def E47 : D.Env := E46.addX 29 fAny10
theorem E47ok : EOk Try.prog E47 := E46ok.addX k29_46
theorem all_mod {α : Type} {p : α → Bool} {f : α → α} (hf : ∀ x, p x = true → p (f x) = true) : ∀ {l : List α} {i : Nat}, l.all p = true → (l.modify i f).all p = true := by
  intro l
  induction l with
  | nil => intro i h; cases i <;> rfl
  | cons x l ih =>
    intro i h
    simp only [List.all_cons, Bool.and_eq_true] at h
    cases i with
    | zero => simp only [List.modify_zero_cons, List.all_cons, hf x h.1, h.2]; rfl
    | succ i => simp only [List.modify_succ_cons, List.all_cons, h.1, ih h.2]; rfl
def lBytes : Fct := lawFS [.sl .u8]
theorem good_u8 {b : List Int} (h : Sh.good (.sl .u8) b) : ∀ j, j < b.length → 0 ≤ b.getD j default ∧ b.getD j default ≤ 255 := by
  intro j hj
  have h1 := (good_getD (t := .u8) h hj) (.val (.int .u8 (b.getD j default))) (by simp [Sh.fc, enc])
  simp only [goodC, Lit.wf, Bool.and_eq_true, decide_eq_true_eq] at h1
  exact h1
def okC (c : SConn) : Bool := decide (c.response.body.size ≤ 2000 ∧ c.response.policy.size ≤ 200 ∧ -9223372036854775808 ≤ c.left ∧ c.left ≤ 9223372036854775807)
theorem okC_at {l : List SConn} {i : Nat} (h : l.all okC = true) (hi : i < l.length) : (l.getD i default).response.body.size ≤ 2000 ∧ (l.getD i default).response.policy.size ≤ 200 ∧ -9223372036854775808 ≤ (l.getD i default).left ∧ (l.getD i default).left ≤ 9223372036854775807 := by
  have := List.all_eq_true.1 h _ (getD_in hi)
  simpa [okC] using this
theorem wrap_rng' (k : Int) : -9223372036854775808 ≤ IntKind.i64.wrap k ∧ IntKind.i64.wrap k ≤ 9223372036854775807 := by
  rw [IntKind.wrap_i64]; omega
theorem openConn_ok {l : List SConn} {a : SAddr} {x : SResponse} {g : Bool} (h : l.all okC = true) (hl : l.length ≤ 3) (h1 : x.body.size ≤ 2000) (h2 : x.policy.size ≤ 200) : (openConn l a x g).1.all okC = true ∧ (openConn l a x g).1.length ≤ 3 := by
  unfold openConn
  split
  · exact ⟨h, hl⟩
  · rename_i q
    have q1 : ¬ (l.length : Int) ≥ 3 := fun e => q (.inl e)
    refine ⟨?_, by simp; omega⟩
    rw [List.all_append, h]
    simp only [okC, sizeResponse, List.all_cons, List.all_nil, Bool.and_true, Bool.true_and, decide_eq_true_eq]
    omega
theorem moveConns_ok {l : List SConn} {b : Int} (h : l.all okC = true) : (moveConns l b).all okC = true := by
  unfold moveConns
  split
  · rw [List.all_map]
    rw [List.all_eq_true] at h ⊢
    intro c hc
    have h1 := h c hc
    have h2 := wrap_rng' (c.left - b)
    simp only [okC, Function.comp, moveOne, decide_eq_true_eq] at h1 ⊢
    refine decide_eq_true ⟨h1.1, h1.2.1, ?_, ?_⟩ <;> omega
  · exact h
theorem leftC {f : SConn → SConn} {l : List SConn} {i : Nat} (hf : ∀ x, okC x = true → okC (f x) = true) (h : l.all okC = true) : (l.modify i f).all okC = true := all_mod hf h
def fConns25 : Xct := ⟨[.u], [.sl .conn], fun (x_ : Unit × Unit) => True, fun (x_ : Unit × Unit) (y_ : (List SConn) × Unit) => y_.1.length ≤ 3 ∧ y_.1.all okC = true⟩
abbrev W_spec_l25Conns_fConns25_3 (c : Unit) : LInv := ⟨[⟨.s, 3, true, .sl .conn⟩, ⟨.s, 4, true, .el .int⟩], fun _ (x_ : (List SConn) × Int × Unit) => 0 ≤ x_.2.1 ∧ x_.2.1 ≤ 4 ∧ x_.1.length ≤ 3 ∧ x_.1.all okC = true, fun (x_ : (List SConn) × Int × Unit) => x_.2.1.toNat⟩
-- spec.l25Conns
theorem k37_47 : fConns25.ok Try.prog 37 := Xct.of (S := fConns25) (L := fun ⟨c, _⟩ => fun | 3 => some (W_spec_l25Conns_fConns25_3 c) | _ => none) (kp := [0,2,3,4,5,10,38,1000010,1000038]) E47ok Try.func37 (by kernel_rfl) (by kernel_rfl) (by
  rintro ⟨(c : PUnit), _⟩ hp
  refine holds_of (X := .ob (fBelow.pre ((), (5 : Int), ())) <|
 .lp (Int × PUnit) (True) (fBelow.is ((), (5 : Int), ())) fun y1 =>
 lpx (W_spec_l25Conns_fConns25_3 c) ([], (y1.fst, ())) fun (y2 : List SConn × Int × PUnit) bk2 =>
  .br (decide (y2.snd.fst > (0 : Int)))
   (.ob (fAddr.pre ((), ())) <|
    .lp (SAddr × PUnit) (True) (fAddr.is ((), ())) fun y4 =>
    .ob (fBelow.pre ((), (5 : Int), ())) <|
     .lp (Int × PUnit) (True) (fBelow.is ((), (5 : Int), ())) fun y5 =>
     .ob (fResponse10.pre ((), IntKind.i64.wrap ((1 : Int) + y5.fst), ())) <|
      .lp (SResponse × PUnit) (True) (fResponse10.is ((), IntKind.i64.wrap ((1 : Int) + y5.fst), ())) fun y6 =>
      .ob (fOnce.pre ((), (2 : Int), ())) <|
       .lp (Bool × PUnit) (True) (fOnce.is ((), (2 : Int), ())) fun y7 =>
       .ob (fOpen.pre (y2.fst, y4.fst, y6.fst, y7.fst, ())) <|
        .lt (List SConn × Bool × PUnit) (fOpen.fn (y2.fst, y4.fst, y6.fst, y7.fst, ())) fun z2 =>
        .ob (fBelow.pre ((), (30 : Int), ())) <|
         .lp (Int × PUnit) (True) (fBelow.is ((), (30 : Int), ())) fun y9 =>
         .ob (fMove.pre (z2.fst, y9.fst, ())) <|
          .lt (List SConn × PUnit) (fMove.fn (z2.fst, y9.fst, ())) fun z3 =>
          .ob (bk2 (z3.fst, (IntKind.i64.wrap (y2.snd.fst - (1 : Int)), ()))) <|
           .ok)
   (.ob (fOnce.pre ((), (12 : Int), ())) <|
    .lp (Bool × PUnit) (True) (fOnce.is ((), (12 : Int), ())) fun y12 =>
    .br (y12.fst)
     (.br (decide ((↑y2.fst.length : Int) > (0 : Int)))
      (.ob (fIntL.pre ((), [(-5 : Int), (0 : Int), (9223372036854775807 : Int), (-9223372036854775808 : Int)], ())) <|
       .lp (Int × PUnit) (True) (fIntL.is ((), [(-5 : Int), (0 : Int), (9223372036854775807 : Int), (-9223372036854775808 : Int)], ())) fun y16 =>
       .ob ((0 : Int) ≤ (0 : Int) ∧ (0 : Int) < (↑y2.fst.length : Int)) <|
        .ob ((0 : Nat) < y2.fst.length) <|
        .lt (List SConn) (y2.fst.modify (0 : Nat) fun z => { to := z.to, left := y16.fst, guess := z.guess, response := z.response : SConn }) fun z4 =>
        .leaf (mkR fConns25.rs (z4, ())) [] [])
      (.leaf (mkR fConns25.rs (y2.fst, ())) [] []))
     (.leaf (mkR fConns25.rs (y2.fst, ())) [] []))) (by kernel_rfl) ?_
  refine ob_i trivial fun _ => lp_i trivial fun y1 i1 => lpx_i ?_ fun (y2 : List SConn × Int × PUnit) i2 => br_i (fun h3 => ob_i trivial fun _ => lp_i trivial fun y4 i4 => ob_i trivial fun _ => lp_i trivial fun y5 i5 => ob_i trivial fun _ => lp_i trivial fun y6 i6 => ob_i trivial fun _ => lp_i trivial fun y7 i7 => ob_i ?_ fun o8 => lt_e fun z2 ez2 => (ob_i trivial fun _ => lp_i trivial fun y9 i9 => ob_i ?_ fun o10 => lt_e fun z3 ez3 => (ob_i ?_ fun o11 => trivial))) (fun h3 => ob_i trivial fun _ => lp_i trivial fun y12 i12 => br_i (fun h13 => br_i (fun h14 => ob_i ?_ fun o15 => lp_i trivial fun y16 i16 => ob_i ?_ fun o17 => ob_i ?_ fun o18 => lt_e fun z4 ez4 => (Xct.leafY (S := fConns25) (z4, ()) ?_)) (fun h14 => Xct.leafY (S := fConns25) (y2.fst, ()) ?_)) (fun h13 => Xct.leafY (S := fConns25) (y2.fst, ()) ?_))
  all_goals try subst_vars
  all_goals try (have q1 := openConn_ok (a := y4.1) (x := y6.1) (g := y7.1) i2.2.2.2 i2.2.2.1 i6.1 i6.2)
  all_goals try (have q2 := moveConns_ok (b := y9.1) q1.1; have q3 := moveConns_len (openConn y2.1 y4.1 y6.1 y7.1).1 y9.1)
  all_goals try simp only [decide_eq_true_eq, decide_eq_false_iff_not, Bool.not_eq_true', Bool.not_eq_false', bne_iff_ne, bne_eq_false_iff_eq, beq_iff_eq, beq_eq_false_iff_ne, baEq, Int.not_lt, Int.not_le, ne_eq, Decidable.not_not] at *
  all_goals try simp only [W_spec_l25Conns_fConns25_3, fAddr, fBelow, fConns25, fIntL, fMove, fOnce, fOpen, fResponse10, etaToken, etaNode, etaBuilder, etaPolicy, etaPage, etaVisit, etaTab, etaServer, etaCache, etaNet, etaLoader, etaSheet, etaResult, etaSlot, etaModule, etaAddr, etaRequest, etaResponse, etaConn, etaGuess, etaEntry, etaSent, etaFile, baSz, List.size_toArray, List.length_cons, List.length_nil, Nat.reduceAdd, Int.toNat_zero, List.drop_zero, decide_eq_true_eq, decide_eq_false_iff_not, Bool.not_eq_true', Bool.not_eq_false', bne_iff_ne, bne_eq_false_iff_eq, beq_iff_eq, beq_eq_false_iff_ne, Bool.not_eq_true, Bool.not_eq_false, ne_eq, Decidable.not_not, baEq, decide_not, Prod.mk.injEq, and_true, true_and, Room, List.nil_append, Nat.zero_add, Int.not_lt, Int.not_le] at *
  all_goals try simp (disch := omega) only [wrapId'] at *
  all_goals first | omega | decide | exact ⟨by omega, by omega, by omega, rfl⟩ | exact ⟨⟨by omega, by omega, by omega, q2⟩, by omega⟩ | exact ⟨by omega, i2.2.2.2⟩ | (refine ⟨by rw [List.length_modify]; omega, leftC (fun x hx => ?_) i2.2.2.2⟩; simp only [okC, decide_eq_true_eq] at hx ⊢; simp only [List.mem_cons, List.not_mem_nil, or_false] at i16; omega) | skip)
def E48 : D.Env := E47.addX 37 fConns25
theorem E48ok : EOk Try.prog E48 := E47ok.addX k37_47
def fDrawOpenConn : Xct := ⟨[.v (.sl .u8)], [.sl .conn, .el .addr, .el .response, .el .bool], fun (x_ : (List Int) × Unit) => x_.1.length ≤ 1000000000000000000 ∧ (∀ j, j < x_.1.length → 0 ≤ x_.1.getD j default ∧ x_.1.getD j default ≤ 255), fun (x_ : (List Int) × Unit) (y_ : (List SConn) × SAddr × SResponse × Bool × Unit) => y_.1.length ≤ 3 ∧ y_.1.all okC = true ∧ y_.2.2.1.body.size ≤ 2000 ∧ y_.2.2.1.policy.size ≤ 200⟩
-- spec.DrawOpenConn
theorem k16_48 : fDrawOpenConn.ok Try.prog 16 := Xct.of (S := fDrawOpenConn) (L := fun _ _ => none) (kp := [0,2,3,4,5,6,7,8,9]) E48ok Try.func16 (by kernel_rfl) (by kernel_rfl) (by
  rintro ⟨(b : List Int), _⟩ hp
  refine holds_of (X := .ob (∀ (j : Nat), j < List.length (b, ()).fst → (0 : Int) ≤ List.getD b j default ∧ List.getD b j default ≤ (255 : Int)) <|
 .ob (List.length b ≤ (1000000000000000000 : Nat)) <|
 .ob (fConns25.pre ((), ())) <|
 .lp (List SConn × PUnit) (True) (fConns25.is ((), ())) fun y3 =>
 .ob (fAddr.pre ((), ())) <|
  .lp (SAddr × PUnit) (True) (fAddr.is ((), ())) fun y4 =>
  .ob (fAny10.pre ((), ())) <|
   .lp (SResponse × PUnit) (True) (fAny10.is ((), ())) fun y5 =>
   .lp (Bool) (True) (fun x => True) fun y6 =>
    .br (y6)
     (.ob (fOnce.pre ((), (2 : Int), ())) <|
      .lp (Bool × PUnit) (True) (fOnce.is ((), (2 : Int), ())) fun y8 =>
      .leaf (mkR fDrawOpenConn.rs (y3.fst, y4.fst, y5.fst, y8.fst, ())) [] [])
     (.ob (fOnce.pre ((), (2 : Int), ())) <|
      .lp (Bool × PUnit) (True) (fOnce.is ((), (2 : Int), ())) fun y9 =>
      .leaf (mkR fDrawOpenConn.rs (y3.fst, y4.fst, y5.fst, y9.fst, ())) [] [])) (by kernel_rfl) ?_
  refine ob_i ?_ fun o1 => ob_i ?_ fun o2 => ob_i trivial fun _ => lp_i trivial fun y3 i3 => ob_i trivial fun _ => lp_i trivial fun y4 i4 => ob_i trivial fun _ => lp_i trivial fun y5 i5 => lp_i trivial fun y6 i6 => br_i (fun h7 => ob_i trivial fun _ => lp_i trivial fun y8 i8 => Xct.leafY (S := fDrawOpenConn) (y3.fst, y4.fst, y5.fst, y8.fst, ()) ?_) (fun h7 => ob_i trivial fun _ => lp_i trivial fun y9 i9 => Xct.leafY (S := fDrawOpenConn) (y3.fst, y4.fst, y5.fst, y9.fst, ()) ?_)
  all_goals try simp only [decide_eq_true_eq, decide_eq_false_iff_not, Bool.not_eq_true', Bool.not_eq_false', bne_iff_ne, bne_eq_false_iff_eq, beq_iff_eq, beq_eq_false_iff_ne, baEq, Int.not_lt, Int.not_le, ne_eq, Decidable.not_not] at *
  all_goals try simp only [fAddr, fAny10, fConns25, fDrawOpenConn, fOnce, etaToken, etaNode, etaBuilder, etaPolicy, etaPage, etaVisit, etaTab, etaServer, etaCache, etaNet, etaLoader, etaSheet, etaResult, etaSlot, etaModule, etaAddr, etaRequest, etaResponse, etaConn, etaGuess, etaEntry, etaSent, etaFile, baSz, List.size_toArray, List.length_cons, List.length_nil, Nat.reduceAdd, Int.toNat_zero, List.drop_zero, decide_eq_true_eq, decide_eq_false_iff_not, Bool.not_eq_true', Bool.not_eq_false', bne_iff_ne, bne_eq_false_iff_eq, beq_iff_eq, beq_eq_false_iff_ne, Bool.not_eq_true, Bool.not_eq_false, ne_eq, Decidable.not_not, baEq, decide_not, Prod.mk.injEq, and_true, true_and, Room, List.nil_append, Nat.zero_add, Int.not_lt, Int.not_le] at *
  all_goals first | exact hp | exact hp.1 | exact hp.2 | exact ⟨i3.1, i3.2, i5⟩)
def E49 : D.Env := E48.addX 16 fDrawOpenConn
theorem E49ok : EOk Try.prog E49 := E48ok.addX k16_48
def fDrawMoveConns : Xct := ⟨[.v (.sl .u8)], [.sl .conn, .el .int], fun (x_ : (List Int) × Unit) => x_.1.length ≤ 1000000000000000000 ∧ (∀ j, j < x_.1.length → 0 ≤ x_.1.getD j default ∧ x_.1.getD j default ≤ 255), fun (x_ : (List Int) × Unit) (y_ : (List SConn) × Int × Unit) => y_.1.length ≤ 3 ∧ y_.1.all okC = true ∧ y_.2.1 ∈ [0, 5, 30, 1000, 1001, -1]⟩
-- spec.DrawMoveConns
theorem k20_49 : fDrawMoveConns.ok Try.prog 20 := Xct.of (S := fDrawMoveConns) (L := fun _ _ => none) (kp := [0,2,3,4,5]) E49ok Try.func20 (by kernel_rfl) (by kernel_rfl) (by
  rintro ⟨(b : List Int), _⟩ hp
  refine holds_of (X := .ob (∀ (j : Nat), j < List.length (b, ()).fst → (0 : Int) ≤ List.getD b j default ∧ List.getD b j default ≤ (255 : Int)) <|
 .ob (List.length b ≤ (1000000000000000000 : Nat)) <|
 .ob (fConns25.pre ((), ())) <|
 .lp (List SConn × PUnit) (True) (fConns25.is ((), ())) fun y3 =>
 .ob (fIntL.pre ((), [(0 : Int), (5 : Int), (30 : Int), (1000 : Int), (1001 : Int), (-1 : Int)], ())) <|
  .lp (Int × PUnit) (True) (fIntL.is ((), [(0 : Int), (5 : Int), (30 : Int), (1000 : Int), (1001 : Int), (-1 : Int)], ())) fun y5 =>
  .leaf (mkR fDrawMoveConns.rs (y3.fst, y5.fst, ())) [] []) (by kernel_rfl) ?_
  refine ob_i ?_ fun o1 => ob_i ?_ fun o2 => ob_i trivial fun _ => lp_i trivial fun y3 i3 => ob_i ?_ fun o4 => lp_i trivial fun y5 i5 => Xct.leafY (S := fDrawMoveConns) (y3.fst, y5.fst, ()) ?_
  all_goals try simp only [decide_eq_true_eq, decide_eq_false_iff_not, Bool.not_eq_true', Bool.not_eq_false', bne_iff_ne, bne_eq_false_iff_eq, beq_iff_eq, beq_eq_false_iff_ne, baEq, Int.not_lt, Int.not_le, ne_eq, Decidable.not_not] at *
  all_goals try simp only [fConns25, fDrawMoveConns, fIntL, etaToken, etaNode, etaBuilder, etaPolicy, etaPage, etaVisit, etaTab, etaServer, etaCache, etaNet, etaLoader, etaSheet, etaResult, etaSlot, etaModule, etaAddr, etaRequest, etaResponse, etaConn, etaGuess, etaEntry, etaSent, etaFile, baSz, List.size_toArray, List.length_cons, List.length_nil, Nat.reduceAdd, Int.toNat_zero, List.drop_zero, decide_eq_true_eq, decide_eq_false_iff_not, Bool.not_eq_true', Bool.not_eq_false', bne_iff_ne, bne_eq_false_iff_eq, beq_iff_eq, beq_eq_false_iff_ne, Bool.not_eq_true, Bool.not_eq_false, ne_eq, Decidable.not_not, baEq, decide_not, Prod.mk.injEq, and_true, true_and, Room, List.nil_append, Nat.zero_add, Int.not_lt, Int.not_le] at *
  all_goals first | decide | exact ⟨i3.1, i3.2, i5⟩ | exact hp | exact hp.1 | exact hp.2 | skip)
def E50 : D.Env := E49.addX 20 fDrawMoveConns
theorem E50ok : EOk Try.prog E50 := E49ok.addX k20_49
theorem findConn_app {a : SAddr} {x : SConn} (hx : x.to = a) : ∀ (l : List SConn) (i : Int), 0 ≤ i → findConn a l i < 0 → findConn a (l ++ [x]) i = i + l.length := by
  intro l
  induction l with
  | nil => intro i hi _; simp [findConn, hx]
  | cons c l ih =>
    intro i hi h
    simp only [findConn, List.cons_append, List.length_cons] at h ⊢
    split
    · rename_i q; rw [if_pos q] at h; omega
    · rename_i q; rw [if_neg q] at h; rw [ih (i + 1) (by omega) h]; omega
theorem firstDone_lt : ∀ (l : List SConn) (i : Int), 0 ≤ i → -1 ≤ firstDone l i ∧ firstDone l i < i + l.length ∧ (0 ≤ firstDone l i → i ≤ firstDone l i ∧ (l.getD (firstDone l i - i).toNat default).left ≤ 0) := by
  intro l
  induction l with
  | nil => intro i hi; simp [firstDone]; omega
  | cons c l ih =>
    intro i hi
    simp only [firstDone, List.length_cons]
    split
    · rename_i q; refine ⟨by omega, by omega, fun _ => ⟨by omega, ?_⟩⟩; simpa using q
    · obtain ⟨h1, h2, h3⟩ := ih (i + 1) (by omega)
      refine ⟨h1, by omega, fun h => ?_⟩
      obtain ⟨h4, h5⟩ := h3 h
      refine ⟨by omega, ?_⟩
      rw [show (firstDone l (i + 1) - i).toNat = (firstDone l (i + 1) - (i + 1)).toNat + 1 by omega]
      simpa using h5
theorem conn_law (l : List SConn) (a : SAddr) (x : SResponse) (g : Bool) (h : (openConn l a x g).2 = true) : (openConn l a x g).1.length = l.length + 1 ∧ (openConn l a x g).1.length ≤ 3 ∧ findConn a (openConn l a x g).1 0 = l.length ∧ ((openConn l a x g).1.getD l.length default).left = sizeResponse x := by
  unfold openConn at h ⊢
  split at h
  · cases h
  · rename_i q
    rw [if_neg q]
    have q1 : ¬ (l.length : Int) ≥ 3 := fun e => q (.inl e)
    have q2 : ¬ findConn a l 0 ≥ 0 := fun e => q (.inr e)
    refine ⟨by simp, by simp; omega, ?_, by simp⟩
    show findConn a (l ++ [⟨a, sizeResponse x, g, x⟩]) 0 = _
    rw [findConn_app (a := a) (x := ⟨a, sizeResponse x, g, x⟩) rfl l 0 (by omega) (by omega)]; omega
theorem move_law {l : List SConn} (b : Int) {i : Nat} (h : l.all okC = true) (hi : i < l.length) : ((moveConns l b).getD i default).to = (l.getD i default).to ∧ (0 ≤ b → b ≤ 1000 → 0 ≤ ((moveConns l b).getD i default).left ∧ (0 ≤ (l.getD i default).left → ((moveConns l b).getD i default).left ≤ (l.getD i default).left)) := by
  have hk := okC_at h hi
  unfold moveConns
  split
  · have e : (l.map (moveOne b)).getD i default = moveOne b (l.getD i default) := by
      simp [List.getD_eq_getElem?_getD, hi]
    rw [e]
    refine ⟨rfl, fun h1 h2 => ?_⟩
    simp only [moveOne]
    refine ⟨by omega, fun h3 => ?_⟩
    rw [wrapId' (by omega) (by omega)]; omega
  · rename_i q
    refine ⟨rfl, fun h1 h2 => ?_⟩
    exfalso
    apply q
    simp [inRange, h1, h2]
theorem closeConn_l2 (l : List SConn) (k : Int) : ((closeConn l k).length : Int) = if 0 ≤ k ∧ k < l.length then (l.length : Int) - 1 else l.length := by
  unfold closeConn
  split
  · rw [List.length_append, List.length_take, List.length_drop]; omega
  · rfl
abbrev W_laws_FnConnections_lBytes_11 (b : (List Int)) : LInv := ⟨[⟨.s, 14, true, .el .int⟩, ⟨.s, 11, true, .sl .conn⟩, ⟨.s, 13, true, .sl .conn⟩], fun (z_ : Int × (List SConn) × (List SConn) × Unit) (x_ : Int × (List SConn) × (List SConn) × Unit) => ((0 ≤ x_.1) ∧ x_.2.1 = z_.2.1) ∧ x_.2.2.1 = z_.2.2.1, fun (x_ : Int × (List SConn) × (List SConn) × Unit) => 8 - x_.1.toNat⟩
-- laws.FnConnections
set_option maxHeartbeats 2000000 in
theorem k4_50 : lBytes.ok Try.prog 4 := Fct.of (S := lBytes) (L := fun ⟨b, _⟩ => fun | 11 => some (W_laws_FnConnections_lBytes_11 b) | _ => none) (kp := [0,2,3,4,5,6,7,8,10,11,12,13,14,15,16,18,79,91,147,165,1000018,1000079,1000091,1000147,1000165]) E50ok Try.func4 (by kernel_rfl) (by kernel_rfl) (by
  rintro ⟨(b : List Int), _⟩ hp
  refine holds_of (X := .ob (fBig.pre (b, ())) <|
 .lt (Bool × PUnit) (fBig.fn (b, ())) fun z2 =>
 .br (z2.fst)
  (.leaf (mkR lBytes.rs (true, ())) [] [])
  (.ob (fDrawOpenConn.pre (b, ())) <|
   .lp (List SConn × SAddr × SResponse × Bool × PUnit) (True) (fDrawOpenConn.is (b, ())) fun y3 =>
   .ob (fOpen.pre (y3.fst, y3.snd.fst, y3.snd.snd.fst, y3.snd.snd.snd.fst, ())) <|
    .lt (List SConn × Bool × PUnit) (fOpen.fn (y3.fst, y3.snd.fst, y3.snd.snd.fst, y3.snd.snd.snd.fst, ())) fun z3 =>
    .ob (fOpen.pre (y3.fst, y3.snd.fst, y3.snd.snd.fst, y3.snd.snd.snd.fst, ())) <|
     .lt (List SConn × Bool × PUnit) (fOpen.fn (y3.fst, y3.snd.fst, y3.snd.snd.fst, y3.snd.snd.snd.fst, ())) fun z4 =>
     .br (!z3.snd.fst == z4.snd.fst)
      (.leaf (mkR lBytes.rs (false, ())) [] [])
      (.br (z3.snd.fst)
       (.br ((↑z3.fst.length : Int) != IntKind.i64.wrap ((↑y3.fst.length : Int) + (1 : Int)))
        (.leaf (mkR lBytes.rs (false, ())) [] [])
        (.br (decide ((↑z3.fst.length : Int) > (3 : Int)))
         (.leaf (mkR lBytes.rs (false, ())) [] [])
         (.ob (fFind.pre (z3.fst, y3.snd.fst, ())) <|
          .lt (Int × PUnit) (fFind.fn (z3.fst, y3.snd.fst, ())) fun z5 =>
          .br (z5.fst != (↑y3.fst.length : Int))
           (.leaf (mkR lBytes.rs (false, ())) [] [])
           (.ob ((0 : Int) ≤ (↑y3.fst.length : Int) ∧ (↑y3.fst.length : Int) < (↑z3.fst.length : Int)) <|
            .ob ((↑y3.fst.length : Int).toNat < z3.fst.length) <|
            .ob (fSizeResponse.pre (y3.snd.snd.fst, ())) <|
            .lt (Int × PUnit) (fSizeResponse.fn (y3.snd.snd.fst, ())) fun z6 =>
            .br ((z3.fst.getD (↑y3.fst.length : Int).toNat default).left != z6.fst)
             (.leaf (mkR lBytes.rs (false, ())) [] [])
             (.ob (fDrawMoveConns.pre (b, ())) <|
              .lp (List SConn × Int × PUnit) (True) (fDrawMoveConns.is (b, ())) fun y17 =>
              .ob (fMove.pre (y17.fst, y17.snd.fst, ())) <|
               .lt (List SConn × PUnit) (fMove.fn (y17.fst, y17.snd.fst, ())) fun z7 =>
               lpx (W_laws_FnConnections_lBytes_11 b) ((0 : Int), (y17.fst, (z7.fst, ()))) fun (y19 : Int × List SConn × List SConn × PUnit) bk19 =>
                .br (decide (y19.fst < (↑y19.snd.fst.length : Int)))
                 (.br (decide (y19.fst ≥ (↑y19.snd.snd.fst.length : Int)))
                  (.leaf (mkR lBytes.rs (false, ())) [] [])
                  (.br (decide (y17.snd.fst ≥ (0 : Int)))
                   (.br (decide (y17.snd.fst ≤ (1000 : Int)))
                    (.ob ((0 : Int) ≤ y19.fst ∧ y19.fst < (↑y19.snd.snd.fst.length : Int)) <|
                     .ob (y19.fst.toNat < y19.snd.snd.fst.length) <|
                     .br (decide ((y19.snd.snd.fst.getD y19.fst.toNat default).left < (0 : Int)))
                     (.leaf (mkR lBytes.rs (false, ())) [] [])
                     (.ob ((0 : Int) ≤ y19.fst ∧ y19.fst < (↑y19.snd.fst.length : Int)) <|
                      .ob (y19.fst.toNat < y19.snd.fst.length) <|
                      .br (decide ((y19.snd.fst.getD y19.fst.toNat default).left ≥ (0 : Int)))
                      (.ob ((0 : Int) ≤ y19.fst ∧ y19.fst < (↑y19.snd.snd.fst.length : Int)) <|
                       .ob (y19.fst.toNat < y19.snd.snd.fst.length) <|
                       .ob ((0 : Int) ≤ y19.fst ∧ y19.fst < (↑y19.snd.fst.length : Int)) <|
                       .ob (y19.fst.toNat < y19.snd.fst.length) <|
                       .br (decide ((y19.snd.snd.fst.getD y19.fst.toNat default).left > (y19.snd.fst.getD y19.fst.toNat default).left))
                       (.leaf (mkR lBytes.rs (false, ())) [] [])
                       (.ob ((0 : Int) ≤ y19.fst ∧ y19.fst < (↑y19.snd.snd.fst.length : Int)) <|
                        .ob (y19.fst.toNat < y19.snd.snd.fst.length) <|
                        .ob ((0 : Int) ≤ y19.fst ∧ y19.fst < (↑y19.snd.fst.length : Int)) <|
                        .ob (y19.fst.toNat < y19.snd.fst.length) <|
                        .br (!((y19.snd.snd.fst.getD y19.fst.toNat default).to.host == (y19.snd.fst.getD y19.fst.toNat default).to.host && ((y19.snd.snd.fst.getD y19.fst.toNat default).to.path == (y19.snd.fst.getD y19.fst.toNat default).to.path && true)))
                        (.leaf (mkR lBytes.rs (false, ())) [] [])
                        (.ob (b = b) <|
                         .ob (Value.bool y3.snd.snd.snd.fst = Value.bool y3.snd.snd.snd.fst) <|
                         .ob (Value.bool z3.snd.fst = Value.bool z3.snd.fst) <|
                         .ob (Value.bool z4.snd.fst = Value.bool z4.snd.fst) <|
                         .ob (Value.int IntKind.i64 y17.snd.fst = Value.int IntKind.i64 y17.snd.fst) <|
                         .ob (bk19 (IntKind.i64.wrap (y19.fst + (1 : Int)), (y19.snd.fst, (y19.snd.snd.fst, ())))) <|
                         .ok)))
                      (.ob ((0 : Int) ≤ y19.fst ∧ y19.fst < (↑y19.snd.snd.fst.length : Int)) <|
                       .ob (y19.fst.toNat < y19.snd.snd.fst.length) <|
                       .ob ((0 : Int) ≤ y19.fst ∧ y19.fst < (↑y19.snd.fst.length : Int)) <|
                       .ob (y19.fst.toNat < y19.snd.fst.length) <|
                       .br (!((y19.snd.snd.fst.getD y19.fst.toNat default).to.host == (y19.snd.fst.getD y19.fst.toNat default).to.host && ((y19.snd.snd.fst.getD y19.fst.toNat default).to.path == (y19.snd.fst.getD y19.fst.toNat default).to.path && true)))
                       (.leaf (mkR lBytes.rs (false, ())) [] [])
                       (.ob (b = b) <|
                        .ob (Value.bool y3.snd.snd.snd.fst = Value.bool y3.snd.snd.snd.fst) <|
                        .ob (Value.bool z3.snd.fst = Value.bool z3.snd.fst) <|
                        .ob (Value.bool z4.snd.fst = Value.bool z4.snd.fst) <|
                        .ob (Value.int IntKind.i64 y17.snd.fst = Value.int IntKind.i64 y17.snd.fst) <|
                        .ob (bk19 (IntKind.i64.wrap (y19.fst + (1 : Int)), (y19.snd.fst, (y19.snd.snd.fst, ())))) <|
                        .ok))))
                    (.ob ((0 : Int) ≤ y19.fst ∧ y19.fst < (↑y19.snd.snd.fst.length : Int)) <|
                     .ob (y19.fst.toNat < y19.snd.snd.fst.length) <|
                     .ob ((0 : Int) ≤ y19.fst ∧ y19.fst < (↑y19.snd.fst.length : Int)) <|
                     .ob (y19.fst.toNat < y19.snd.fst.length) <|
                     .br (!((y19.snd.snd.fst.getD y19.fst.toNat default).to.host == (y19.snd.fst.getD y19.fst.toNat default).to.host && ((y19.snd.snd.fst.getD y19.fst.toNat default).to.path == (y19.snd.fst.getD y19.fst.toNat default).to.path && true)))
                     (.leaf (mkR lBytes.rs (false, ())) [] [])
                     (.ob (b = b) <|
                      .ob (Value.bool y3.snd.snd.snd.fst = Value.bool y3.snd.snd.snd.fst) <|
                      .ob (Value.bool z3.snd.fst = Value.bool z3.snd.fst) <|
                      .ob (Value.bool z4.snd.fst = Value.bool z4.snd.fst) <|
                      .ob (Value.int IntKind.i64 y17.snd.fst = Value.int IntKind.i64 y17.snd.fst) <|
                      .ob (bk19 (IntKind.i64.wrap (y19.fst + (1 : Int)), (y19.snd.fst, (y19.snd.snd.fst, ())))) <|
                      .ok)))
                   (.ob ((0 : Int) ≤ y19.fst ∧ y19.fst < (↑y19.snd.snd.fst.length : Int)) <|
                    .ob (y19.fst.toNat < y19.snd.snd.fst.length) <|
                    .ob ((0 : Int) ≤ y19.fst ∧ y19.fst < (↑y19.snd.fst.length : Int)) <|
                    .ob (y19.fst.toNat < y19.snd.fst.length) <|
                    .br (!((y19.snd.snd.fst.getD y19.fst.toNat default).to.host == (y19.snd.fst.getD y19.fst.toNat default).to.host && ((y19.snd.snd.fst.getD y19.fst.toNat default).to.path == (y19.snd.fst.getD y19.fst.toNat default).to.path && true)))
                    (.leaf (mkR lBytes.rs (false, ())) [] [])
                    (.ob (b = b) <|
                     .ob (Value.bool y3.snd.snd.snd.fst = Value.bool y3.snd.snd.snd.fst) <|
                     .ob (Value.bool z3.snd.fst = Value.bool z3.snd.fst) <|
                     .ob (Value.bool z4.snd.fst = Value.bool z4.snd.fst) <|
                     .ob (Value.int IntKind.i64 y17.snd.fst = Value.int IntKind.i64 y17.snd.fst) <|
                     .ob (bk19 (IntKind.i64.wrap (y19.fst + (1 : Int)), (y19.snd.fst, (y19.snd.snd.fst, ())))) <|
                     .ok))))
                 (.ob (fFirst.pre (y19.snd.fst, ())) <|
                  .lt (Int × PUnit) (fFirst.fn (y19.snd.fst, ())) fun z8 =>
                  .br (decide (z8.fst ≥ (↑y19.snd.fst.length : Int)))
                   (.leaf (mkR lBytes.rs (false, ())) [] [])
                   (.br (decide (z8.fst ≥ (0 : Int)))
                    (.ob ((0 : Int) ≤ z8.fst ∧ z8.fst < (↑y19.snd.fst.length : Int)) <|
                     .ob (z8.fst.toNat < y19.snd.fst.length) <|
                     .br (decide ((y19.snd.fst.getD z8.fst.toNat default).left > (0 : Int)))
                     (.leaf (mkR lBytes.rs (false, ())) [] [])
                     (.ob (fCloseConn.pre (y19.snd.fst, z8.fst, ())) <|
                      .lt (List SConn × PUnit) (fCloseConn.fn (y19.snd.fst, z8.fst, ())) fun z9 =>
                      .ob (fFirst.pre (y19.snd.fst, ())) <|
                       .lt (Int × PUnit) (fFirst.fn (y19.snd.fst, ())) fun z10 =>
                       .br (z8.fst == z10.fst)
                        (.br (decide (z8.fst < (0 : Int)))
                         (.br ((↑z9.fst.length : Int) == (↑y19.snd.fst.length : Int))
                          (.ob (fCount.pre (y19.snd.fst, ())) <|
                           .lt (Int × PUnit) (fCount.fn (y19.snd.fst, ())) fun z11 =>
                           .ob (fCount.pre (y19.snd.fst, ())) <|
                            .lt (Int × PUnit) (fCount.fn (y19.snd.fst, ())) fun z12 =>
                            .leaf (mkR lBytes.rs (z11.fst == z12.fst, ())) [] [])
                          (.br (decide (z8.fst ≥ (0 : Int)))
                           (.br ((↑z9.fst.length : Int) == IntKind.i64.wrap ((↑y19.snd.fst.length : Int) - (1 : Int)))
                            (.ob (fCount.pre (y19.snd.fst, ())) <|
                             .lt (Int × PUnit) (fCount.fn (y19.snd.fst, ())) fun z13 =>
                             .ob (fCount.pre (y19.snd.fst, ())) <|
                              .lt (Int × PUnit) (fCount.fn (y19.snd.fst, ())) fun z14 =>
                              .leaf (mkR lBytes.rs (z13.fst == z14.fst, ())) [] [])
                            (.leaf (mkR lBytes.rs (false, ())) [] []))
                           (.leaf (mkR lBytes.rs (false, ())) [] [])))
                         (.br (decide (z8.fst ≥ (0 : Int)))
                          (.br ((↑z9.fst.length : Int) == IntKind.i64.wrap ((↑y19.snd.fst.length : Int) - (1 : Int)))
                           (.ob (fCount.pre (y19.snd.fst, ())) <|
                            .lt (Int × PUnit) (fCount.fn (y19.snd.fst, ())) fun z15 =>
                            .ob (fCount.pre (y19.snd.fst, ())) <|
                             .lt (Int × PUnit) (fCount.fn (y19.snd.fst, ())) fun z16 =>
                             .leaf (mkR lBytes.rs (z15.fst == z16.fst, ())) [] [])
                           (.leaf (mkR lBytes.rs (false, ())) [] []))
                          (.leaf (mkR lBytes.rs (false, ())) [] [])))
                        (.leaf (mkR lBytes.rs (false, ())) [] [])))
                    (.ob (fCloseConn.pre (y19.snd.fst, z8.fst, ())) <|
                     .lt (List SConn × PUnit) (fCloseConn.fn (y19.snd.fst, z8.fst, ())) fun z17 =>
                     .ob (fFirst.pre (y19.snd.fst, ())) <|
                      .lt (Int × PUnit) (fFirst.fn (y19.snd.fst, ())) fun z18 =>
                      .br (z8.fst == z18.fst)
                       (.br (decide (z8.fst < (0 : Int)))
                        (.br ((↑z17.fst.length : Int) == (↑y19.snd.fst.length : Int))
                         (.ob (fCount.pre (y19.snd.fst, ())) <|
                          .lt (Int × PUnit) (fCount.fn (y19.snd.fst, ())) fun z19 =>
                          .ob (fCount.pre (y19.snd.fst, ())) <|
                           .lt (Int × PUnit) (fCount.fn (y19.snd.fst, ())) fun z20 =>
                           .leaf (mkR lBytes.rs (z19.fst == z20.fst, ())) [] [])
                         (.br (decide (z8.fst ≥ (0 : Int)))
                          (.br ((↑z17.fst.length : Int) == IntKind.i64.wrap ((↑y19.snd.fst.length : Int) - (1 : Int)))
                           (.ob (fCount.pre (y19.snd.fst, ())) <|
                            .lt (Int × PUnit) (fCount.fn (y19.snd.fst, ())) fun z21 =>
                            .ob (fCount.pre (y19.snd.fst, ())) <|
                             .lt (Int × PUnit) (fCount.fn (y19.snd.fst, ())) fun z22 =>
                             .leaf (mkR lBytes.rs (z21.fst == z22.fst, ())) [] [])
                           (.leaf (mkR lBytes.rs (false, ())) [] []))
                          (.leaf (mkR lBytes.rs (false, ())) [] [])))
                        (.br (decide (z8.fst ≥ (0 : Int)))
                         (.br ((↑z17.fst.length : Int) == IntKind.i64.wrap ((↑y19.snd.fst.length : Int) - (1 : Int)))
                          (.ob (fCount.pre (y19.snd.fst, ())) <|
                           .lt (Int × PUnit) (fCount.fn (y19.snd.fst, ())) fun z23 =>
                           .ob (fCount.pre (y19.snd.fst, ())) <|
                            .lt (Int × PUnit) (fCount.fn (y19.snd.fst, ())) fun z24 =>
                            .leaf (mkR lBytes.rs (z23.fst == z24.fst, ())) [] [])
                          (.leaf (mkR lBytes.rs (false, ())) [] []))
                         (.leaf (mkR lBytes.rs (false, ())) [] [])))
                       (.leaf (mkR lBytes.rs (false, ())) [] [])))))))))
       (.ob (fDrawMoveConns.pre (b, ())) <|
        .lp (List SConn × Int × PUnit) (True) (fDrawMoveConns.is (b, ())) fun y96 =>
        .ob (fMove.pre (y96.fst, y96.snd.fst, ())) <|
         .lt (List SConn × PUnit) (fMove.fn (y96.fst, y96.snd.fst, ())) fun z25 =>
         lpx (W_laws_FnConnections_lBytes_11 b) ((0 : Int), (y96.fst, (z25.fst, ()))) fun (y98 : Int × List SConn × List SConn × PUnit) bk98 =>
          .br (decide (y98.fst < (↑y98.snd.fst.length : Int)))
           (.br (decide (y98.fst ≥ (↑y98.snd.snd.fst.length : Int)))
            (.leaf (mkR lBytes.rs (false, ())) [] [])
            (.br (decide (y96.snd.fst ≥ (0 : Int)))
             (.br (decide (y96.snd.fst ≤ (1000 : Int)))
              (.ob ((0 : Int) ≤ y98.fst ∧ y98.fst < (↑y98.snd.snd.fst.length : Int)) <|
               .ob (y98.fst.toNat < y98.snd.snd.fst.length) <|
               .br (decide ((y98.snd.snd.fst.getD y98.fst.toNat default).left < (0 : Int)))
               (.leaf (mkR lBytes.rs (false, ())) [] [])
               (.ob ((0 : Int) ≤ y98.fst ∧ y98.fst < (↑y98.snd.fst.length : Int)) <|
                .ob (y98.fst.toNat < y98.snd.fst.length) <|
                .br (decide ((y98.snd.fst.getD y98.fst.toNat default).left ≥ (0 : Int)))
                (.ob ((0 : Int) ≤ y98.fst ∧ y98.fst < (↑y98.snd.snd.fst.length : Int)) <|
                 .ob (y98.fst.toNat < y98.snd.snd.fst.length) <|
                 .ob ((0 : Int) ≤ y98.fst ∧ y98.fst < (↑y98.snd.fst.length : Int)) <|
                 .ob (y98.fst.toNat < y98.snd.fst.length) <|
                 .br (decide ((y98.snd.snd.fst.getD y98.fst.toNat default).left > (y98.snd.fst.getD y98.fst.toNat default).left))
                 (.leaf (mkR lBytes.rs (false, ())) [] [])
                 (.ob ((0 : Int) ≤ y98.fst ∧ y98.fst < (↑y98.snd.snd.fst.length : Int)) <|
                  .ob (y98.fst.toNat < y98.snd.snd.fst.length) <|
                  .ob ((0 : Int) ≤ y98.fst ∧ y98.fst < (↑y98.snd.fst.length : Int)) <|
                  .ob (y98.fst.toNat < y98.snd.fst.length) <|
                  .br (!((y98.snd.snd.fst.getD y98.fst.toNat default).to.host == (y98.snd.fst.getD y98.fst.toNat default).to.host && ((y98.snd.snd.fst.getD y98.fst.toNat default).to.path == (y98.snd.fst.getD y98.fst.toNat default).to.path && true)))
                  (.leaf (mkR lBytes.rs (false, ())) [] [])
                  (.ob (b = b) <|
                   .ob (Value.bool y3.snd.snd.snd.fst = Value.bool y3.snd.snd.snd.fst) <|
                   .ob (Value.bool z3.snd.fst = Value.bool z3.snd.fst) <|
                   .ob (Value.bool z4.snd.fst = Value.bool z4.snd.fst) <|
                   .ob (Value.int IntKind.i64 y96.snd.fst = Value.int IntKind.i64 y96.snd.fst) <|
                   .ob (bk98 (IntKind.i64.wrap (y98.fst + (1 : Int)), (y98.snd.fst, (y98.snd.snd.fst, ())))) <|
                   .ok)))
                (.ob ((0 : Int) ≤ y98.fst ∧ y98.fst < (↑y98.snd.snd.fst.length : Int)) <|
                 .ob (y98.fst.toNat < y98.snd.snd.fst.length) <|
                 .ob ((0 : Int) ≤ y98.fst ∧ y98.fst < (↑y98.snd.fst.length : Int)) <|
                 .ob (y98.fst.toNat < y98.snd.fst.length) <|
                 .br (!((y98.snd.snd.fst.getD y98.fst.toNat default).to.host == (y98.snd.fst.getD y98.fst.toNat default).to.host && ((y98.snd.snd.fst.getD y98.fst.toNat default).to.path == (y98.snd.fst.getD y98.fst.toNat default).to.path && true)))
                 (.leaf (mkR lBytes.rs (false, ())) [] [])
                 (.ob (b = b) <|
                  .ob (Value.bool y3.snd.snd.snd.fst = Value.bool y3.snd.snd.snd.fst) <|
                  .ob (Value.bool z3.snd.fst = Value.bool z3.snd.fst) <|
                  .ob (Value.bool z4.snd.fst = Value.bool z4.snd.fst) <|
                  .ob (Value.int IntKind.i64 y96.snd.fst = Value.int IntKind.i64 y96.snd.fst) <|
                  .ob (bk98 (IntKind.i64.wrap (y98.fst + (1 : Int)), (y98.snd.fst, (y98.snd.snd.fst, ())))) <|
                  .ok))))
              (.ob ((0 : Int) ≤ y98.fst ∧ y98.fst < (↑y98.snd.snd.fst.length : Int)) <|
               .ob (y98.fst.toNat < y98.snd.snd.fst.length) <|
               .ob ((0 : Int) ≤ y98.fst ∧ y98.fst < (↑y98.snd.fst.length : Int)) <|
               .ob (y98.fst.toNat < y98.snd.fst.length) <|
               .br (!((y98.snd.snd.fst.getD y98.fst.toNat default).to.host == (y98.snd.fst.getD y98.fst.toNat default).to.host && ((y98.snd.snd.fst.getD y98.fst.toNat default).to.path == (y98.snd.fst.getD y98.fst.toNat default).to.path && true)))
               (.leaf (mkR lBytes.rs (false, ())) [] [])
               (.ob (b = b) <|
                .ob (Value.bool y3.snd.snd.snd.fst = Value.bool y3.snd.snd.snd.fst) <|
                .ob (Value.bool z3.snd.fst = Value.bool z3.snd.fst) <|
                .ob (Value.bool z4.snd.fst = Value.bool z4.snd.fst) <|
                .ob (Value.int IntKind.i64 y96.snd.fst = Value.int IntKind.i64 y96.snd.fst) <|
                .ob (bk98 (IntKind.i64.wrap (y98.fst + (1 : Int)), (y98.snd.fst, (y98.snd.snd.fst, ())))) <|
                .ok)))
             (.ob ((0 : Int) ≤ y98.fst ∧ y98.fst < (↑y98.snd.snd.fst.length : Int)) <|
              .ob (y98.fst.toNat < y98.snd.snd.fst.length) <|
              .ob ((0 : Int) ≤ y98.fst ∧ y98.fst < (↑y98.snd.fst.length : Int)) <|
              .ob (y98.fst.toNat < y98.snd.fst.length) <|
              .br (!((y98.snd.snd.fst.getD y98.fst.toNat default).to.host == (y98.snd.fst.getD y98.fst.toNat default).to.host && ((y98.snd.snd.fst.getD y98.fst.toNat default).to.path == (y98.snd.fst.getD y98.fst.toNat default).to.path && true)))
              (.leaf (mkR lBytes.rs (false, ())) [] [])
              (.ob (b = b) <|
               .ob (Value.bool y3.snd.snd.snd.fst = Value.bool y3.snd.snd.snd.fst) <|
               .ob (Value.bool z3.snd.fst = Value.bool z3.snd.fst) <|
               .ob (Value.bool z4.snd.fst = Value.bool z4.snd.fst) <|
               .ob (Value.int IntKind.i64 y96.snd.fst = Value.int IntKind.i64 y96.snd.fst) <|
               .ob (bk98 (IntKind.i64.wrap (y98.fst + (1 : Int)), (y98.snd.fst, (y98.snd.snd.fst, ())))) <|
               .ok))))
           (.ob (fFirst.pre (y98.snd.fst, ())) <|
            .lt (Int × PUnit) (fFirst.fn (y98.snd.fst, ())) fun z26 =>
            .br (decide (z26.fst ≥ (↑y98.snd.fst.length : Int)))
             (.leaf (mkR lBytes.rs (false, ())) [] [])
             (.br (decide (z26.fst ≥ (0 : Int)))
              (.ob ((0 : Int) ≤ z26.fst ∧ z26.fst < (↑y98.snd.fst.length : Int)) <|
               .ob (z26.fst.toNat < y98.snd.fst.length) <|
               .br (decide ((y98.snd.fst.getD z26.fst.toNat default).left > (0 : Int)))
               (.leaf (mkR lBytes.rs (false, ())) [] [])
               (.ob (fCloseConn.pre (y98.snd.fst, z26.fst, ())) <|
                .lt (List SConn × PUnit) (fCloseConn.fn (y98.snd.fst, z26.fst, ())) fun z27 =>
                .ob (fFirst.pre (y98.snd.fst, ())) <|
                 .lt (Int × PUnit) (fFirst.fn (y98.snd.fst, ())) fun z28 =>
                 .br (z26.fst == z28.fst)
                  (.br (decide (z26.fst < (0 : Int)))
                   (.br ((↑z27.fst.length : Int) == (↑y98.snd.fst.length : Int))
                    (.ob (fCount.pre (y98.snd.fst, ())) <|
                     .lt (Int × PUnit) (fCount.fn (y98.snd.fst, ())) fun z29 =>
                     .ob (fCount.pre (y98.snd.fst, ())) <|
                      .lt (Int × PUnit) (fCount.fn (y98.snd.fst, ())) fun z30 =>
                      .leaf (mkR lBytes.rs (z29.fst == z30.fst, ())) [] [])
                    (.br (decide (z26.fst ≥ (0 : Int)))
                     (.br ((↑z27.fst.length : Int) == IntKind.i64.wrap ((↑y98.snd.fst.length : Int) - (1 : Int)))
                      (.ob (fCount.pre (y98.snd.fst, ())) <|
                       .lt (Int × PUnit) (fCount.fn (y98.snd.fst, ())) fun z31 =>
                       .ob (fCount.pre (y98.snd.fst, ())) <|
                        .lt (Int × PUnit) (fCount.fn (y98.snd.fst, ())) fun z32 =>
                        .leaf (mkR lBytes.rs (z31.fst == z32.fst, ())) [] [])
                      (.leaf (mkR lBytes.rs (false, ())) [] []))
                     (.leaf (mkR lBytes.rs (false, ())) [] [])))
                   (.br (decide (z26.fst ≥ (0 : Int)))
                    (.br ((↑z27.fst.length : Int) == IntKind.i64.wrap ((↑y98.snd.fst.length : Int) - (1 : Int)))
                     (.ob (fCount.pre (y98.snd.fst, ())) <|
                      .lt (Int × PUnit) (fCount.fn (y98.snd.fst, ())) fun z33 =>
                      .ob (fCount.pre (y98.snd.fst, ())) <|
                       .lt (Int × PUnit) (fCount.fn (y98.snd.fst, ())) fun z34 =>
                       .leaf (mkR lBytes.rs (z33.fst == z34.fst, ())) [] [])
                     (.leaf (mkR lBytes.rs (false, ())) [] []))
                    (.leaf (mkR lBytes.rs (false, ())) [] [])))
                  (.leaf (mkR lBytes.rs (false, ())) [] [])))
              (.ob (fCloseConn.pre (y98.snd.fst, z26.fst, ())) <|
               .lt (List SConn × PUnit) (fCloseConn.fn (y98.snd.fst, z26.fst, ())) fun z35 =>
               .ob (fFirst.pre (y98.snd.fst, ())) <|
                .lt (Int × PUnit) (fFirst.fn (y98.snd.fst, ())) fun z36 =>
                .br (z26.fst == z36.fst)
                 (.br (decide (z26.fst < (0 : Int)))
                  (.br ((↑z35.fst.length : Int) == (↑y98.snd.fst.length : Int))
                   (.ob (fCount.pre (y98.snd.fst, ())) <|
                    .lt (Int × PUnit) (fCount.fn (y98.snd.fst, ())) fun z37 =>
                    .ob (fCount.pre (y98.snd.fst, ())) <|
                     .lt (Int × PUnit) (fCount.fn (y98.snd.fst, ())) fun z38 =>
                     .leaf (mkR lBytes.rs (z37.fst == z38.fst, ())) [] [])
                   (.br (decide (z26.fst ≥ (0 : Int)))
                    (.br ((↑z35.fst.length : Int) == IntKind.i64.wrap ((↑y98.snd.fst.length : Int) - (1 : Int)))
                     (.ob (fCount.pre (y98.snd.fst, ())) <|
                      .lt (Int × PUnit) (fCount.fn (y98.snd.fst, ())) fun z39 =>
                      .ob (fCount.pre (y98.snd.fst, ())) <|
                       .lt (Int × PUnit) (fCount.fn (y98.snd.fst, ())) fun z40 =>
                       .leaf (mkR lBytes.rs (z39.fst == z40.fst, ())) [] [])
                     (.leaf (mkR lBytes.rs (false, ())) [] []))
                    (.leaf (mkR lBytes.rs (false, ())) [] [])))
                  (.br (decide (z26.fst ≥ (0 : Int)))
                   (.br ((↑z35.fst.length : Int) == IntKind.i64.wrap ((↑y98.snd.fst.length : Int) - (1 : Int)))
                    (.ob (fCount.pre (y98.snd.fst, ())) <|
                     .lt (Int × PUnit) (fCount.fn (y98.snd.fst, ())) fun z41 =>
                     .ob (fCount.pre (y98.snd.fst, ())) <|
                      .lt (Int × PUnit) (fCount.fn (y98.snd.fst, ())) fun z42 =>
                      .leaf (mkR lBytes.rs (z41.fst == z42.fst, ())) [] [])
                    (.leaf (mkR lBytes.rs (false, ())) [] []))
                   (.leaf (mkR lBytes.rs (false, ())) [] [])))
                 (.leaf (mkR lBytes.rs (false, ())) [] [])))))))) (by kernel_rfl) ?_
  refine ob_i trivial fun _ => lt_i (br_i (fun h1 => Fct.leafY ?_) (fun h1 => ob_i ?_ fun o2 => lp_i trivial fun y3 i3 => ob_i ?_ fun o4 => lt_i (ob_i ?_ fun o5 => lt_i (br_i (fun h6 => Fct.leafY ?_) (fun h6 => br_i (fun h7 => br_i (fun h8 => Fct.leafY ?_) (fun h8 => br_i (fun h9 => Fct.leafY ?_) (fun h9 => ob_i ?_ fun o10 => lt_i (br_i (fun h11 => Fct.leafY ?_) (fun h11 => ob_i ?_ fun o12 => ob_i ?_ fun o13 => ob_i ?_ fun o14 => lt_i (br_i (fun h15 => Fct.leafY ?_) (fun h15 => ob_i ?_ fun o16 => lp_i trivial fun y17 i17 => ob_i ?_ fun o18 => lt_i (lpx_i ?_ fun (y19 : Int × List SConn × List SConn × PUnit) i19 => br_i (fun h20 => br_i (fun h21 => Fct.leafY ?_) (fun h21 => br_i (fun h22 => br_i (fun h23 => ob_i ?_ fun o24 => ob_i ?_ fun o25 => br_i (fun h26 => Fct.leafY ?_) (fun h26 => ob_i ?_ fun o27 => ob_i ?_ fun o28 => br_i (fun h29 => ob_i ?_ fun o30 => ob_i ?_ fun o31 => ob_i ?_ fun o32 => ob_i ?_ fun o33 => br_i (fun h34 => Fct.leafY ?_) (fun h34 => ob_i ?_ fun o35 => ob_i ?_ fun o36 => ob_i ?_ fun o37 => ob_i ?_ fun o38 => br_i (fun h39 => Fct.leafY ?_) (fun h39 => ob_i rfl fun _ => ob_i rfl fun _ => ob_i rfl fun _ => ob_i rfl fun _ => ob_i rfl fun _ => ob_i ?_ fun o40 => trivial))) (fun h29 => ob_i ?_ fun o41 => ob_i ?_ fun o42 => ob_i ?_ fun o43 => ob_i ?_ fun o44 => br_i (fun h45 => Fct.leafY ?_) (fun h45 => ob_i rfl fun _ => ob_i rfl fun _ => ob_i rfl fun _ => ob_i rfl fun _ => ob_i rfl fun _ => ob_i ?_ fun o46 => trivial)))) (fun h23 => ob_i ?_ fun o47 => ob_i ?_ fun o48 => ob_i ?_ fun o49 => ob_i ?_ fun o50 => br_i (fun h51 => Fct.leafY ?_) (fun h51 => ob_i rfl fun _ => ob_i rfl fun _ => ob_i rfl fun _ => ob_i rfl fun _ => ob_i rfl fun _ => ob_i ?_ fun o52 => trivial))) (fun h22 => ob_i ?_ fun o53 => ob_i ?_ fun o54 => ob_i ?_ fun o55 => ob_i ?_ fun o56 => br_i (fun h57 => Fct.leafY ?_) (fun h57 => ob_i rfl fun _ => ob_i rfl fun _ => ob_i rfl fun _ => ob_i rfl fun _ => ob_i rfl fun _ => ob_i ?_ fun o58 => trivial)))) (fun h20 => ob_i ?_ fun o59 => lt_i (br_i (fun h60 => Fct.leafY ?_) (fun h60 => br_i (fun h61 => ob_i ?_ fun o62 => ob_i ?_ fun o63 => br_i (fun h64 => Fct.leafY ?_) (fun h64 => ob_i ?_ fun o65 => lt_i (ob_i ?_ fun o66 => lt_i (br_i (fun h67 => br_i (fun h68 => br_i (fun h69 => ob_i ?_ fun o70 => lt_i (ob_i ?_ fun o71 => lt_i (Fct.leafY ?_))) (fun h69 => br_i (fun h72 => br_i (fun h73 => ob_i ?_ fun o74 => lt_i (ob_i ?_ fun o75 => lt_i (Fct.leafY ?_))) (fun h73 => Fct.leafY ?_)) (fun h72 => Fct.leafY ?_))) (fun h68 => br_i (fun h76 => br_i (fun h77 => ob_i ?_ fun o78 => lt_i (ob_i ?_ fun o79 => lt_i (Fct.leafY ?_))) (fun h77 => Fct.leafY ?_)) (fun h76 => Fct.leafY ?_))) (fun h67 => Fct.leafY ?_))))) (fun h61 => ob_i ?_ fun o80 => lt_i (ob_i ?_ fun o81 => lt_i (br_i (fun h82 => br_i (fun h83 => br_i (fun h84 => ob_i ?_ fun o85 => lt_i (ob_i ?_ fun o86 => lt_i (Fct.leafY ?_))) (fun h84 => br_i (fun h87 => br_i (fun h88 => ob_i ?_ fun o89 => lt_i (ob_i ?_ fun o90 => lt_i (Fct.leafY ?_))) (fun h88 => Fct.leafY ?_)) (fun h87 => Fct.leafY ?_))) (fun h83 => br_i (fun h91 => br_i (fun h92 => ob_i ?_ fun o93 => lt_i (ob_i ?_ fun o94 => lt_i (Fct.leafY ?_))) (fun h92 => Fct.leafY ?_)) (fun h91 => Fct.leafY ?_))) (fun h82 => Fct.leafY ?_))))))))))))))) (fun h7 => ob_i ?_ fun o95 => lp_i trivial fun y96 i96 => ob_i ?_ fun o97 => lt_i (lpx_i ?_ fun (y98 : Int × List SConn × List SConn × PUnit) i98 => br_i (fun h99 => br_i (fun h100 => Fct.leafY ?_) (fun h100 => br_i (fun h101 => br_i (fun h102 => ob_i ?_ fun o103 => ob_i ?_ fun o104 => br_i (fun h105 => Fct.leafY ?_) (fun h105 => ob_i ?_ fun o106 => ob_i ?_ fun o107 => br_i (fun h108 => ob_i ?_ fun o109 => ob_i ?_ fun o110 => ob_i ?_ fun o111 => ob_i ?_ fun o112 => br_i (fun h113 => Fct.leafY ?_) (fun h113 => ob_i ?_ fun o114 => ob_i ?_ fun o115 => ob_i ?_ fun o116 => ob_i ?_ fun o117 => br_i (fun h118 => Fct.leafY ?_) (fun h118 => ob_i rfl fun _ => ob_i rfl fun _ => ob_i rfl fun _ => ob_i rfl fun _ => ob_i rfl fun _ => ob_i ?_ fun o119 => trivial))) (fun h108 => ob_i ?_ fun o120 => ob_i ?_ fun o121 => ob_i ?_ fun o122 => ob_i ?_ fun o123 => br_i (fun h124 => Fct.leafY ?_) (fun h124 => ob_i rfl fun _ => ob_i rfl fun _ => ob_i rfl fun _ => ob_i rfl fun _ => ob_i rfl fun _ => ob_i ?_ fun o125 => trivial)))) (fun h102 => ob_i ?_ fun o126 => ob_i ?_ fun o127 => ob_i ?_ fun o128 => ob_i ?_ fun o129 => br_i (fun h130 => Fct.leafY ?_) (fun h130 => ob_i rfl fun _ => ob_i rfl fun _ => ob_i rfl fun _ => ob_i rfl fun _ => ob_i rfl fun _ => ob_i ?_ fun o131 => trivial))) (fun h101 => ob_i ?_ fun o132 => ob_i ?_ fun o133 => ob_i ?_ fun o134 => ob_i ?_ fun o135 => br_i (fun h136 => Fct.leafY ?_) (fun h136 => ob_i rfl fun _ => ob_i rfl fun _ => ob_i rfl fun _ => ob_i rfl fun _ => ob_i rfl fun _ => ob_i ?_ fun o137 => trivial)))) (fun h99 => ob_i ?_ fun o138 => lt_i (br_i (fun h139 => Fct.leafY ?_) (fun h139 => br_i (fun h140 => ob_i ?_ fun o141 => ob_i ?_ fun o142 => br_i (fun h143 => Fct.leafY ?_) (fun h143 => ob_i ?_ fun o144 => lt_i (ob_i ?_ fun o145 => lt_i (br_i (fun h146 => br_i (fun h147 => br_i (fun h148 => ob_i ?_ fun o149 => lt_i (ob_i ?_ fun o150 => lt_i (Fct.leafY ?_))) (fun h148 => br_i (fun h151 => br_i (fun h152 => ob_i ?_ fun o153 => lt_i (ob_i ?_ fun o154 => lt_i (Fct.leafY ?_))) (fun h152 => Fct.leafY ?_)) (fun h151 => Fct.leafY ?_))) (fun h147 => br_i (fun h155 => br_i (fun h156 => ob_i ?_ fun o157 => lt_i (ob_i ?_ fun o158 => lt_i (Fct.leafY ?_))) (fun h156 => Fct.leafY ?_)) (fun h155 => Fct.leafY ?_))) (fun h146 => Fct.leafY ?_))))) (fun h140 => ob_i ?_ fun o159 => lt_i (ob_i ?_ fun o160 => lt_i (br_i (fun h161 => br_i (fun h162 => br_i (fun h163 => ob_i ?_ fun o164 => lt_i (ob_i ?_ fun o165 => lt_i (Fct.leafY ?_))) (fun h163 => br_i (fun h166 => br_i (fun h167 => ob_i ?_ fun o168 => lt_i (ob_i ?_ fun o169 => lt_i (Fct.leafY ?_))) (fun h167 => Fct.leafY ?_)) (fun h166 => Fct.leafY ?_))) (fun h162 => br_i (fun h170 => br_i (fun h171 => ob_i ?_ fun o172 => lt_i (ob_i ?_ fun o173 => lt_i (Fct.leafY ?_))) (fun h171 => Fct.leafY ?_)) (fun h170 => Fct.leafY ?_))) (fun h161 => Fct.leafY ?_))))))))))))))
  all_goals have hb := good_u8 hp.1
  all_goals try simp only [beqAddr] at *
  all_goals try (have q0 := i3; have q1 := conn_law y3.1 y3.2.1 y3.2.2.1 y3.2.2.2.1; have q2 := openConn_len y3.1 y3.2.1 y3.2.2.1 y3.2.2.2.1)
  all_goals try (have q3 := i17; have q4 := moveConns_len y17.1 y17.2.1; have q5 := firstDone_lt y17.1 0 (by omega); have q6 := closeConn_len y17.1 (firstDone y17.1 0))
  all_goals try (have q3 := i96; have q4 := moveConns_len y96.1 y96.2.1; have q5 := firstDone_lt y96.1 0 (by omega); have q6 := closeConn_len y96.1 (firstDone y96.1 0))
  all_goals try (obtain ⟨⟨a1, a2⟩, a3⟩ := i19; simp only [a2, a3] at *)
  all_goals try (obtain ⟨⟨a1, a2⟩, a3⟩ := i98; simp only [a2, a3] at *)
  all_goals try simp only [decide_eq_true_eq, decide_eq_false_iff_not, Bool.not_eq_true', Bool.not_eq_false', bne_iff_ne, bne_eq_false_iff_eq, beq_iff_eq, beq_eq_false_iff_ne, baEq, Int.not_lt, Int.not_le, ne_eq, Decidable.not_not] at *
  all_goals try simp only [W_laws_FnConnections_lBytes_11, fBig, fCloseConn, fCount, fDrawMoveConns, fDrawOpenConn, fFind, fFirst, fMove, fOpen, fSizeResponse, lBytes, etaToken, etaNode, etaBuilder, etaPolicy, etaPage, etaVisit, etaTab, etaServer, etaCache, etaNet, etaLoader, etaSheet, etaResult, etaSlot, etaModule, etaAddr, etaRequest, etaResponse, etaConn, etaGuess, etaEntry, etaSent, etaFile, baSz, List.size_toArray, List.length_cons, List.length_nil, Nat.reduceAdd, Int.toNat_zero, List.drop_zero, decide_eq_true_eq, decide_eq_false_iff_not, Bool.not_eq_true', Bool.not_eq_false', bne_iff_ne, bne_eq_false_iff_eq, beq_iff_eq, beq_eq_false_iff_ne, Bool.not_eq_true, Bool.not_eq_false, ne_eq, Decidable.not_not, baEq, decide_not, Prod.mk.injEq, and_true, true_and, Room, List.nil_append, Nat.zero_add, Int.not_lt, Int.not_le] at *
  all_goals first | trivial | omega | exact ⟨by omega, hb⟩ | skip
  all_goals try (have hA : (openConn y3.1 y3.2.1 y3.2.2.1 y3.2.2.2.1).2 = true := by assumption
                 obtain ⟨q8, q9, q10, q11⟩ := q1 hA)
  all_goals clear q1
  all_goals try simp (disch := omega) only [wrapId', Int.toNat_natCast] at *
  all_goals first | trivial | omega | (exfalso; omega) | skip
  all_goals try (have hlt : y19.1.toNat < y17.1.length := by omega
                 obtain ⟨q12, q13⟩ := move_law y17.2.1 i17.2.1 hlt)
  all_goals try (have hlt : y98.1.toNat < y96.1.length := by omega
                 obtain ⟨q12, q13⟩ := move_law y96.2.1 i96.2.1 hlt)
  all_goals try (have hC : 0 ≤ y17.2.1 := by omega
                 have hD : y17.2.1 ≤ 1000 := by omega
                 obtain ⟨q14, q15⟩ := q13 hC hD)
  all_goals try (have hC : 0 ≤ y96.2.1 := by omega
                 have hD : y96.2.1 ≤ 1000 := by omega
                 obtain ⟨q14, q15⟩ := q13 hC hD)
  all_goals try (have q17 := closeConn_l2 y17.1 (firstDone y17.1 0))
  all_goals try (have q17 := closeConn_l2 y96.1 (firstDone y96.1 0))
  all_goals try (have hB : 0 ≤ firstDone y17.1 0 := by omega
                 obtain ⟨_, q16⟩ := q5.2.2 hB
                 rw [Int.sub_zero] at q16)
  all_goals try (have hB : 0 ≤ firstDone y96.1 0 := by omega
                 obtain ⟨_, q16⟩ := q5.2.2 hB
                 rw [Int.sub_zero] at q16)
  all_goals first | trivial | omega | (exfalso; omega) | (rw [beq_self_eq_true]; rfl) | (exfalso; have hE : 0 ≤ (y17.1.getD y19.1.toNat default).left := by omega; have := q15 hE; omega) | (exfalso; have hE : 0 ≤ (y96.1.getD y98.1.toNat default).left := by omega; have := q15 hE; omega) | (exfalso; rename_i h; exact h q12) | skip)
def E51 : D.Env := E50.add 4 lBytes
theorem E51ok : EOk Try.prog E51 := E50ok.add k4_50

section
open Go.ChangeShapes Go.WideShapes Go.ChangeAt Go.RowKit
theorem own : ownKnob Try.prog.godebug = none := by kernel_rfl
theorem types : ∀ e t, tyOf e = some t → e ∈ ([3, 4, 5, 9, 26, 28, 47, 59, 84] : List TypeId) := by
  intro e t h
  unfold tyOf at h
  split at h <;> first | (simp; done) | cases h
theorem lifted (os : Os) (started : os.Started) (H : Type) (enc : TypeId × Value → H) :
    ReturnsInHanded {} Try.checked os 4 .any (Rows.fnConnectionsSpec.pre6 enc Try.prog Try.f4 Rows.fnConnectionsRow.domain false) (Rows.fnConnectionsSpec.post enc Try.prog Try.f4 false true false false) := by
  refine handed_sh (C := Try.checked) own started (by kernel_rfl) Try.func4
    (ChangeSpec.witness6 (enc := enc) (C := Try.checked) false ⟨#[], #[.slice none 0 0], []⟩ 8 (by kernel_rfl) (by kernel_rfl) (by kernel_rfl) (by kernel_rfl)) ?_
  intro W base args ds gs before hval0 hW hsh
  have hval : ∀ (j : Nat) t v, Try.f4.params[j]? = some t → args[j]? = some v → Value.okWide Try.prog W .any base t v := hval0
  refine law_calls (show rowOk Try.prog Try.f4 tyOf [3, 4, 5, 9, 26, 28, 47, 59, 84] [.sl .u8] = true by kernel_rfl) types rfl Try.underlying4 rfl hW (fun xs h => ?_) hval hsh (laid_none (by kernel_rfl) (by kernel_rfl) (by kernel_rfl)) k4_50
  · rw [Try.params4] at h
    obtain ⟨x, rfl⟩ := List.length_eq_one_iff.1 (show xs.length = 1 from h)
    rfl
set_option maxHeartbeats 0 in
theorem closed : joinedFacts Try.prog 4 Try.f4 Rows.fnConnectionsSpec Rows.fnConnectionsRow = true := by
  unfold joinedFacts
  refine (and_i (and_i (and_i (and_i (and_i (and_i (and_i (and_i (and_i (and_i (and_i (and_i (and_i (and_i (and_i (and_i (and_i (and_i (and_i (and_i (and_i (and_i (and_i (and_i (and_i (and_i (and_i (and_i (and_i (and_i (and_i ?_ ?_) ?_) ?_) ?_) ?_) ?_) ?_) ?_) ?_) ?_) ?_) ?_) ?_) ?_) ?_) ?_) ?_) ?_) ?_) ?_) ?_) ?_) ?_) ?_) ?_) ?_) ?_) ?_) ?_) ?_) ?_)
  all_goals decide +kernel
theorem over : Rows.fnConnectionsRow.holds Try.pinned (OpenSpec.ofChange Rows.fnConnectionsSpec) :=
  OpenClaim.holds_of_wide 4 Try.f4 rfl rfl rfl rfl rfl rfl rfl ⟨rfl, rfl, rfl, rfl, rfl⟩ rfl rfl rfl rfl rfl (by kernel_rfl) Try.func4 closed
    (of_decide_eq_true (by kernel_rfl)) (by unfold Func.isWrapper; first | (rw [if_pos (by decide +kernel)]; kernel_rfl) | (rw [if_neg (by decide +kernel)]; exact ⟨rfl, rfl⟩))
    (fun os started H enc _ => lifted os started H enc)
theorem proved : Rows.FnConnectionsSaid := over
end
end Go.Proofs.Ytpdooiaofamimaa.fnConnections
