/-
  The law FnGuesses returns true for all codes, whatever is drawn from them. No condition.
-/
import Derived.Test.YtpdooiaofamimaaVPt
import Derived.WalkKit
import Derived.BigGuard
import Derived.Deep.QuietTactic
import Derived.BigQuiet
import Derived.Test.YtpdooiaofamimaaRows
import Derived.WalkKit
import Derived.ProofKit
import Derived.OpenShut
import Derived.Test.YtpdooiaofamimaaVEf
namespace Go.Proofs.Ytpdooiaofamimaa.fnGuesses
open Go.Proofs.Ytpdooiaofamimaa
open Go.D
set_option maxRecDepth 100000
set_option linter.unusedVariables false
set_option linter.unusedSimpArgs false
def tyOf : TypeId → Option Ty
  | 3 => some .int
  | 4 => some .bool
  | 5 => some .u8
  | 9 => some .str
  | 26 => some .addr
  | 28 => some .response
  | 47 => some .conn
  | 59 => some .guess
  | 84 => some .policy
  | _ => none
def E0 : D.Env := D.Env.empty tyOf
theorem E0ok : EOk Try.prog E0 := EOk.empty _ _

def inRange (n lo hi : Int) : Bool := decide (lo ≤ n) && decide (n ≤ hi)
def fInRange : Fct := ⟨[aI, aI, aI], [rB], fun _ => True, fun (x : Int × Int × Int × Unit) => (inRange x.1 x.2.1 x.2.2.1, ())⟩
-- spec.l1In
theorem k61_0 : fInRange.ok Try.prog 61 := Fct.of (S := fInRange) (L := fun _ _ => none) (kp := [0,1,2,6]) E0ok Try.func61 (by kernel_rfl) (by kernel_rfl) (by
  rintro ⟨(n : Int), (lo : Int), (hi : Int), _⟩ hp
  refine holds_of (X := .br (decide (n ≥ lo))
 (.leaf (mkR fInRange.rs (decide (n ≤ hi), ())) [] [])
 (.leaf (mkR fInRange.rs (false, ())) [] [])) (by kernel_rfl) ?_
  refine br_i (fun h1 => Fct.leafY ?_) (fun h1 => Fct.leafY ?_)
  all_goals try simp only [decide_eq_true_eq, decide_eq_false_iff_not, Bool.not_eq_true', Bool.not_eq_false', bne_iff_ne, bne_eq_false_iff_eq, beq_iff_eq, beq_eq_false_iff_ne, baEq, Int.not_lt, Int.not_le, ne_eq, Decidable.not_not] at *
  all_goals try simp only [fInRange, etaToken, etaNode, etaBuilder, etaPolicy, etaPage, etaVisit, etaTab, etaServer, etaCache, etaNet, etaLoader, etaSheet, etaResult, etaSlot, etaModule, etaAddr, etaRequest, etaResponse, etaConn, etaGuess, etaEntry, etaSent, etaFile, baSz, List.size_toArray, List.length_cons, List.length_nil, Nat.reduceAdd, Int.toNat_zero, List.drop_zero, decide_eq_true_eq, decide_eq_false_iff_not, Bool.not_eq_true', Bool.not_eq_false', bne_iff_ne, bne_eq_false_iff_eq, beq_iff_eq, beq_eq_false_iff_ne, Bool.not_eq_true, Bool.not_eq_false, ne_eq, Decidable.not_not, baEq, decide_not, Prod.mk.injEq, and_true, true_and, Room, List.nil_append, Nat.zero_add, Int.not_lt, Int.not_le, inRange] at *
  all_goals first | trivial | (simp_all; done) | (simp_all; omega) | grind)
def E1 : D.Env := E0.add 61 fInRange
theorem E1ok : EOk Try.prog E1 := E0ok.add k61_0
def sizeResponse (x : SResponse) : Int := x.body.size + 20
def fSizeResponse : Fct := ⟨[aE .response], [rI], fun (x : SResponse × Unit) => x.1.body.size ≤ 1000000000000, fun (x : SResponse × Unit) => (sizeResponse x.1, ())⟩
-- impl.SizeResponse
theorem k15_1 : fSizeResponse.ok Try.prog 15 := Fct.of (S := fSizeResponse) (L := fun _ _ => none) (kp := [1,2]) E1ok Try.func15 (by kernel_rfl) (by kernel_rfl) (by
  rintro ⟨(x : SResponse), _⟩ hp
  refine holds_of (X := .leaf (mkR fSizeResponse.rs (IntKind.i64.wrap ((↑x.body.size : Int) + (20 : Int)), ())) [] []) (by kernel_rfl) ?_
  refine Fct.leafY ?_
  all_goals try simp only [decide_eq_true_eq, decide_eq_false_iff_not, Bool.not_eq_true', Bool.not_eq_false', bne_iff_ne, bne_eq_false_iff_eq, beq_iff_eq, beq_eq_false_iff_ne, baEq, Int.not_lt, Int.not_le, ne_eq, Decidable.not_not] at *
  all_goals try simp only [fSizeResponse, etaToken, etaNode, etaBuilder, etaPolicy, etaPage, etaVisit, etaTab, etaServer, etaCache, etaNet, etaLoader, etaSheet, etaResult, etaSlot, etaModule, etaAddr, etaRequest, etaResponse, etaConn, etaGuess, etaEntry, etaSent, etaFile, baSz, List.size_toArray, List.length_cons, List.length_nil, Nat.reduceAdd, Int.toNat_zero, List.drop_zero, decide_eq_true_eq, decide_eq_false_iff_not, Bool.not_eq_true', Bool.not_eq_false', bne_iff_ne, bne_eq_false_iff_eq, beq_iff_eq, beq_eq_false_iff_ne, Bool.not_eq_true, Bool.not_eq_false, ne_eq, Decidable.not_not, baEq, decide_not, Prod.mk.injEq, and_true, true_and, Room, List.nil_append, Nat.zero_add, Int.not_lt, Int.not_le, sizeResponse] at *
  rw [wrapId (by omega)])
def E2 : D.Env := E1.add 15 fSizeResponse
theorem E2ok : EOk Try.prog E2 := E1ok.add k15_1
def fUnused : Fct := ⟨[.v (.sl .guess)], [.el .int], fun (x_ : (List SGuess) × Unit) => x_.1.length ≤ 1048576, fun (x_ : (List SGuess) × Unit) => (countIf (fun g => !g.used) x_.1, ())⟩
abbrev W_spec_UnusedGuesses_fUnused_3 (l : (List SGuess)) : LInv := ⟨[⟨.s, 3, true, .el .int⟩, ⟨.s, 4, true, .el .int⟩], fun _ (x_ : Int × Int × Unit) => 0 ≤ x_.2.1 ∧ x_.2.1 ≤ l.length ∧ 0 ≤ x_.1 ∧ x_.1 ≤ x_.2.1 ∧ x_.1 + countIf (fun g => !g.used) (l.drop x_.2.1.toNat) = countIf (fun g => !g.used) l, fun (x_ : Int × Int × Unit) => l.length - x_.2.1.toNat⟩
-- spec.UnusedGuesses
theorem k32_2 : fUnused.ok Try.prog 32 := Fct.of (S := fUnused) (L := fun ⟨l, _⟩ => fun | 3 => some (W_spec_UnusedGuesses_fUnused_3 l) | _ => none) (kp := [0,2,3,4,8,16,1000008,1000016]) E2ok Try.func32 (by kernel_rfl) (by kernel_rfl) (by
  rintro ⟨(l : List SGuess), _⟩ hp
  refine holds_of (X := lpx (W_spec_UnusedGuesses_fUnused_3 l) ((0 : Int), ((0 : Int), ())) fun (y1 : Int × Int × PUnit) bk1 =>
 .br (decide (y1.snd.fst < (↑l.length : Int)))
  (.ob ((0 : Int) ≤ y1.snd.fst ∧ y1.snd.fst < (↑l.length : Int)) <|
   .br (!(l.getD y1.snd.fst.toNat default).used)
   (.ob (l = l) <|
    .ob (Value.int IntKind.i64 (0 : Int) = Value.int IntKind.i64 (0 : Int)) <|
    .ob (bk1 (IntKind.i64.wrap (y1.fst + (1 : Int)), (IntKind.i64.wrap (y1.snd.fst + (1 : Int)), ()))) <|
    .ok)
   (.ob (l = l) <|
    .ob (Value.int IntKind.i64 (0 : Int) = Value.int IntKind.i64 (0 : Int)) <|
    .ob (bk1 (y1.fst, (IntKind.i64.wrap (y1.snd.fst + (1 : Int)), ()))) <|
    .ok))
  (.leaf (mkR fUnused.rs (y1.fst, ())) [] [])) (by kernel_rfl) ?_
  refine lpx_i ?_ fun (y1 : Int × Int × PUnit) i1 => br_i (fun h2 => ob_i ?_ fun o3 => br_i (fun h4 => ob_i rfl fun _ => ob_i rfl fun _ => ob_i ?_ fun o5 => trivial) (fun h4 => ob_i rfl fun _ => ob_i rfl fun _ => ob_i ?_ fun o6 => trivial)) (fun h2 => Fct.leafY ?_)
  all_goals try simp only [decide_eq_true_eq, decide_eq_false_iff_not, Bool.not_eq_true', Bool.not_eq_false', bne_iff_ne, bne_eq_false_iff_eq, beq_iff_eq, beq_eq_false_iff_ne, baEq, Int.not_lt, Int.not_le, ne_eq, Decidable.not_not] at *
  all_goals try simp only [W_spec_UnusedGuesses_fUnused_3, fUnused, etaToken, etaNode, etaBuilder, etaPolicy, etaPage, etaVisit, etaTab, etaServer, etaCache, etaNet, etaLoader, etaSheet, etaResult, etaSlot, etaModule, etaAddr, etaRequest, etaResponse, etaConn, etaGuess, etaEntry, etaSent, etaFile, baSz, List.size_toArray, List.length_cons, List.length_nil, Nat.reduceAdd, Int.toNat_zero, List.drop_zero, decide_eq_true_eq, decide_eq_false_iff_not, Bool.not_eq_true', Bool.not_eq_false', bne_iff_ne, bne_eq_false_iff_eq, beq_iff_eq, beq_eq_false_iff_ne, Bool.not_eq_true, Bool.not_eq_false, ne_eq, Decidable.not_not, baEq, decide_not, Prod.mk.injEq, and_true, true_and, Room, List.nil_append, Nat.zero_add, Int.not_lt, Int.not_le, countIf, countIf_le] at *
  all_goals try simp (disch := omega) only [wrapId', toNat1] at *
  all_goals try simp (disch := omega) only [if_pos, if_neg]
  all_goals first | trivial | omega | grind [wrapId', toNat1, drop_cons, drop_end, good_len, maxLen, countIf, countIf_le])
def E3 : D.Env := E2.add 32 fUnused
theorem E3ok : EOk Try.prog E3 := E2ok.add k32_2
abbrev W_impl_UnusedGuesses_fUnused_3 (l : (List SGuess)) : LInv := ⟨[⟨.s, 3, true, .el .int⟩, ⟨.s, 8, true, .el .int⟩], fun _ (x_ : Int × Int × Unit) => 0 ≤ x_.2.1 ∧ x_.2.1 ≤ l.length ∧ 0 ≤ x_.1 ∧ x_.1 ≤ x_.2.1 ∧ x_.1 + countIf (fun g => !g.used) (l.drop x_.2.1.toNat) = countIf (fun g => !g.used) l, fun (x_ : Int × Int × Unit) => l.length - x_.2.1.toNat⟩
-- impl.UnusedGuesses
theorem k12_3 : fUnused.ok Try.prog 12 := Fct.of (S := fUnused) (L := fun ⟨l, _⟩ => fun | 3 => some (W_impl_UnusedGuesses_fUnused_3 l) | _ => none) (kp := [0,2,3,5,6,7,8,9,14,1000009,1000014]) E3ok Try.func12 (by kernel_rfl) (by kernel_rfl) (by
  rintro ⟨(l : List SGuess), _⟩ hp
  refine holds_of (X := lpx (W_impl_UnusedGuesses_fUnused_3 l) ((0 : Int), ((0 : Int), ())) fun (y1 : Int × Int × PUnit) bk1 =>
 .br (decide (y1.snd.fst < (↑l.length : Int)))
  (.ob ((0 : Int) ≤ y1.snd.fst ∧ y1.snd.fst < (↑l.length : Int)) <|
   .br (!(l.getD y1.snd.fst.toNat default).used)
   (.ob (l = l) <|
    .ob (Value.int IntKind.i64 (0 : Int) = Value.int IntKind.i64 (0 : Int)) <|
    .ob (l = l) <|
    .ob (Value.int IntKind.i64 (↑l.length : Int) = Value.int IntKind.i64 (↑l.length : Int)) <|
    .ob (bk1 (IntKind.i64.wrap (y1.fst + (1 : Int)), (IntKind.i64.wrap (y1.snd.fst + (1 : Int)), ()))) <|
    .ok)
   (.ob (l = l) <|
    .ob (Value.int IntKind.i64 (0 : Int) = Value.int IntKind.i64 (0 : Int)) <|
    .ob (l = l) <|
    .ob (Value.int IntKind.i64 (↑l.length : Int) = Value.int IntKind.i64 (↑l.length : Int)) <|
    .ob (bk1 (y1.fst, (IntKind.i64.wrap (y1.snd.fst + (1 : Int)), ()))) <|
    .ok))
  (.leaf (mkR fUnused.rs (y1.fst, ())) [] [])) (by kernel_rfl) ?_
  refine lpx_i ?_ fun (y1 : Int × Int × PUnit) i1 => br_i (fun h2 => ob_i ?_ fun o3 => br_i (fun h4 => ob_i rfl fun _ => ob_i rfl fun _ => ob_i rfl fun _ => ob_i rfl fun _ => ob_i ?_ fun o5 => trivial) (fun h4 => ob_i rfl fun _ => ob_i rfl fun _ => ob_i rfl fun _ => ob_i rfl fun _ => ob_i ?_ fun o6 => trivial)) (fun h2 => Fct.leafY ?_)
  all_goals try simp only [decide_eq_true_eq, decide_eq_false_iff_not, Bool.not_eq_true', Bool.not_eq_false', bne_iff_ne, bne_eq_false_iff_eq, beq_iff_eq, beq_eq_false_iff_ne, baEq, Int.not_lt, Int.not_le, ne_eq, Decidable.not_not] at *
  all_goals try simp only [W_impl_UnusedGuesses_fUnused_3, fUnused, etaToken, etaNode, etaBuilder, etaPolicy, etaPage, etaVisit, etaTab, etaServer, etaCache, etaNet, etaLoader, etaSheet, etaResult, etaSlot, etaModule, etaAddr, etaRequest, etaResponse, etaConn, etaGuess, etaEntry, etaSent, etaFile, baSz, List.size_toArray, List.length_cons, List.length_nil, Nat.reduceAdd, Int.toNat_zero, List.drop_zero, decide_eq_true_eq, decide_eq_false_iff_not, Bool.not_eq_true', Bool.not_eq_false', bne_iff_ne, bne_eq_false_iff_eq, beq_iff_eq, beq_eq_false_iff_ne, Bool.not_eq_true, Bool.not_eq_false, ne_eq, Decidable.not_not, baEq, decide_not, Prod.mk.injEq, and_true, true_and, Room, List.nil_append, Nat.zero_add, Int.not_lt, Int.not_le, countIf, countIf_le] at *
  all_goals try simp (disch := omega) only [wrapId', toNat1] at *
  all_goals try simp (disch := omega) only [if_pos, if_neg]
  all_goals first | trivial | omega | grind [wrapId', toNat1, drop_cons, drop_end, good_len, maxLen, countIf, countIf_le])
def E4 : D.Env := E3.add 12 fUnused
theorem E4ok : EOk Try.prog E4 := E3ok.add k12_3
def sumIf {α : Type} (p : α → Bool) (f : α → Int) : List α → Int
  | [] => 0
  | x :: l => (if p x then f x else 0) + sumIf p f l
theorem sumIf_nn {α : Type} (p : α → Bool) (f : α → Int) (h : ∀ x, 0 ≤ f x) (l : List α) : 0 ≤ sumIf p f l := by
  induction l with
  | nil => simp [sumIf]
  | cons x l ih => simp only [sumIf]; have := h x; split <;> omega
def wasteOf (l : List SGuess) : Int := sumIf (fun g => !g.used) (fun g => g.response.body.size + 20) l
theorem wasteOf_nn (l : List SGuess) : 0 ≤ sumIf (fun g : SGuess => !g.used) (fun g => (g.response.body.size : Int) + 20) l := sumIf_nn _ _ (fun _ => by omega) l
def fWasteOf : Fct := ⟨[.v (.sl .guess)], [.el .int], fun (x_ : (List SGuess) × Unit) => x_.1.length ≤ 1000000000000 ∧ wasteOf x_.1 ≤ 1000000000000, fun (x_ : (List SGuess) × Unit) => (wasteOf x_.1, ())⟩
abbrev W_impl_WasteOf_fWasteOf_3 (l : (List SGuess)) : LInv := ⟨[⟨.s, 3, true, .el .int⟩, ⟨.s, 8, true, .el .int⟩], fun _ (x_ : Int × Int × Unit) => 0 ≤ x_.2.1 ∧ x_.2.1 ≤ l.length ∧ 0 ≤ x_.1 ∧ x_.1 + sumIf (fun g => !g.used) (fun g => (g.response.body.size : Int) + 20) (l.drop x_.2.1.toNat) = wasteOf l, fun (x_ : Int × Int × Unit) => l.length - x_.2.1.toNat⟩
-- impl.WasteOf
theorem k14_4 : fWasteOf.ok Try.prog 14 := Fct.of (S := fWasteOf) (L := fun ⟨l, _⟩ => fun | 3 => some (W_impl_WasteOf_fWasteOf_3 l) | _ => none) (kp := [0,2,3,5,6,7,8,9,14,1000009,1000014]) E4ok Try.func14 (by kernel_rfl) (by kernel_rfl) (by
  rintro ⟨(l : List SGuess), _⟩ hp
  refine holds_of (X := lpx (W_impl_WasteOf_fWasteOf_3 l) ((0 : Int), ((0 : Int), ())) fun (y1 : Int × Int × PUnit) bk1 =>
 .br (decide (y1.snd.fst < (↑l.length : Int)))
  (.ob ((0 : Int) ≤ y1.snd.fst ∧ y1.snd.fst < (↑l.length : Int)) <|
   .br (!(l.getD y1.snd.fst.toNat default).used)
   (.ob (fSizeResponse.pre ((l.getD y1.snd.fst.toNat default).response, ())) <|
    .lt (Int × PUnit) (fSizeResponse.fn ((l.getD y1.snd.fst.toNat default).response, ())) fun z2 =>
    .ob (l = l) <|
     .ob (Value.int IntKind.i64 (0 : Int) = Value.int IntKind.i64 (0 : Int)) <|
     .ob (l = l) <|
     .ob (Value.int IntKind.i64 (↑l.length : Int) = Value.int IntKind.i64 (↑l.length : Int)) <|
     .ob (bk1 (IntKind.i64.wrap (y1.fst + z2.fst), (IntKind.i64.wrap (y1.snd.fst + (1 : Int)), ()))) <|
     .ok)
   (.ob (l = l) <|
    .ob (Value.int IntKind.i64 (0 : Int) = Value.int IntKind.i64 (0 : Int)) <|
    .ob (l = l) <|
    .ob (Value.int IntKind.i64 (↑l.length : Int) = Value.int IntKind.i64 (↑l.length : Int)) <|
    .ob (bk1 (y1.fst, (IntKind.i64.wrap (y1.snd.fst + (1 : Int)), ()))) <|
    .ok))
  (.leaf (mkR fWasteOf.rs (y1.fst, ())) [] [])) (by kernel_rfl) ?_
  refine lpx_i ?_ fun (y1 : Int × Int × PUnit) i1 => br_i (fun h2 => ob_i ?_ fun o3 => br_i (fun h4 => ob_i ?_ fun o5 => lt_i (ob_i rfl fun _ => ob_i rfl fun _ => ob_i rfl fun _ => ob_i rfl fun _ => ob_i ?_ fun o6 => trivial)) (fun h4 => ob_i rfl fun _ => ob_i rfl fun _ => ob_i rfl fun _ => ob_i rfl fun _ => ob_i ?_ fun o7 => trivial)) (fun h2 => Fct.leafY ?_)
  all_goals try have hn1 := wasteOf_nn (l.drop (y1.2.1.toNat + 1))
  all_goals try simp only [decide_eq_true_eq, decide_eq_false_iff_not, Bool.not_eq_true', Bool.not_eq_false', bne_iff_ne, bne_eq_false_iff_eq, beq_iff_eq, beq_eq_false_iff_ne, baEq, Int.not_lt, Int.not_le, ne_eq, Decidable.not_not] at *
  all_goals try simp only [W_impl_WasteOf_fWasteOf_3, fSizeResponse, fWasteOf, etaToken, etaNode, etaBuilder, etaPolicy, etaPage, etaVisit, etaTab, etaServer, etaCache, etaNet, etaLoader, etaSheet, etaResult, etaSlot, etaModule, etaAddr, etaRequest, etaResponse, etaConn, etaGuess, etaEntry, etaSent, etaFile, baSz, List.size_toArray, List.length_cons, List.length_nil, Nat.reduceAdd, Int.toNat_zero, List.drop_zero, decide_eq_true_eq, decide_eq_false_iff_not, Bool.not_eq_true', Bool.not_eq_false', bne_iff_ne, bne_eq_false_iff_eq, beq_iff_eq, beq_eq_false_iff_ne, Bool.not_eq_true, Bool.not_eq_false, ne_eq, Decidable.not_not, baEq, decide_not, Prod.mk.injEq, and_true, true_and, Room, List.nil_append, Nat.zero_add, Int.not_lt, Int.not_le, wasteOf, sumIf, fSizeResponse, sizeResponse] at *
  all_goals try simp (disch := omega) only [wrapId', toNat1] at *
  all_goals try simp (disch := omega) only [if_pos, if_neg]
  all_goals first | trivial | omega | grind [wrapId', toNat1, drop_cons, drop_end, good_len, maxLen, wasteOf, sumIf, fSizeResponse, sizeResponse])
def E5 : D.Env := E4.add 14 fWasteOf
theorem E5ok : EOk Try.prog E5 := E4ok.add k14_4
def fEqual_guess : Fct := ⟨[.v (.sl .guess), .v (.sl .guess)], [.el .bool], fun (x_ : (List SGuess) × (List SGuess) × Unit) => x_.1.length ≤ 1000000000000000000, fun (x_ : (List SGuess) × (List SGuess) × Unit) => (decide (x_.1 = x_.2.1), ())⟩
abbrev W_slices_Equal_impl_Guess_impl_Guess_fEqual_guess_4 (l : (List SGuess)) (m : (List SGuess)) : LInv := ⟨[⟨.s, 13, true, .el .int⟩], fun _ (x_ : Int × Unit) => 0 ≤ x_.1 ∧ x_.1 ≤ l.length ∧ l.length = m.length ∧ decide (l.drop x_.1.toNat = m.drop x_.1.toNat) = decide (l = m), fun (x_ : Int × Unit) => l.length - x_.1.toNat⟩
-- slices.Equal[[]impl.Guess,impl.Guess]
theorem k33_5 : fEqual_guess.ok Try.prog 33 := Fct.of (S := fEqual_guess) (L := fun ⟨l, m, _⟩ => fun | 4 => some (W_slices_Equal_impl_Guess_impl_Guess_fEqual_guess_4 l m) | _ => none) (kp := [0,1,4,5,10,12,13,14,24,1000010,1000014,1000024]) E5ok Try.func33 (by kernel_rfl) (by kernel_rfl) (by
  rintro ⟨(l : List SGuess), (m : List SGuess), _⟩ hp
  refine holds_of (X := .br ((↑l.length : Int) != (↑m.length : Int))
 (.leaf (mkR fEqual_guess.rs (false, ())) [] [])
 (lpx (W_slices_Equal_impl_Guess_impl_Guess_fEqual_guess_4 l m) ((0 : Int), ()) fun (y2 : Int × PUnit) bk2 =>
  .br (decide (y2.fst < (↑l.length : Int)))
   (.ob ((0 : Int) ≤ y2.fst ∧ y2.fst < (↑l.length : Int)) <|
    .ob ((0 : Int) ≤ y2.fst ∧ y2.fst < (↑m.length : Int)) <|
    .br (!((l.getD y2.fst.toNat default).to.host == (m.getD y2.fst.toNat default).to.host &&
      ((l.getD y2.fst.toNat default).to.path == (m.getD y2.fst.toNat default).to.path && true) &&
    ((l.getD y2.fst.toNat default).response.status == (m.getD y2.fst.toNat default).response.status &&
        ((l.getD y2.fst.toNat default).response.kind == (m.getD y2.fst.toNat default).response.kind &&
          ((l.getD y2.fst.toNat default).response.body == (m.getD y2.fst.toNat default).response.body &&
            ((l.getD y2.fst.toNat default).response.age == (m.getD y2.fst.toNat default).response.age &&
              ((l.getD y2.fst.toNat default).response.shares == (m.getD y2.fst.toNat default).response.shares &&
                ((l.getD y2.fst.toNat default).response.policy == (m.getD y2.fst.toNat default).response.policy &&
                  true))))) &&
      ((l.getD y2.fst.toNat default).used == (m.getD y2.fst.toNat default).used && true))))
    (.leaf (mkR fEqual_guess.rs (false, ())) [] [])
    (.ob (l = l) <|
     .ob (m = m) <|
     .ob (Value.int IntKind.i64 (↑l.length : Int) = Value.int IntKind.i64 (↑l.length : Int)) <|
     .ob (bk2 (IntKind.i64.wrap (y2.fst + (1 : Int)), ())) <|
     .ok))
   (.leaf (mkR fEqual_guess.rs (true, ())) [] []))) (by kernel_rfl) ?_
  refine br_i (fun h1 => Fct.leafY ?_) (fun h1 => lpx_i ?_ fun (y2 : Int × PUnit) i2 => br_i (fun h3 => ob_i ?_ fun o4 => ob_i ?_ fun o5 => br_i (fun h6 => Fct.leafY ?_) (fun h6 => ob_i rfl fun _ => ob_i rfl fun _ => ob_i rfl fun _ => ob_i ?_ fun o7 => trivial)) (fun h3 => Fct.leafY ?_))
  all_goals try simp only [beqGuess] at *
  all_goals try simp only [decide_eq_true_eq, decide_eq_false_iff_not, Bool.not_eq_true', Bool.not_eq_false', bne_iff_ne, bne_eq_false_iff_eq, beq_iff_eq, beq_eq_false_iff_ne, baEq, Int.not_lt, Int.not_le, ne_eq, Decidable.not_not] at *
  all_goals try simp only [W_slices_Equal_impl_Guess_impl_Guess_fEqual_guess_4, fEqual_guess, etaToken, etaNode, etaBuilder, etaPolicy, etaPage, etaVisit, etaTab, etaServer, etaCache, etaNet, etaLoader, etaSheet, etaResult, etaSlot, etaModule, etaAddr, etaRequest, etaResponse, etaConn, etaGuess, etaEntry, etaSent, etaFile, baSz, List.size_toArray, List.length_cons, List.length_nil, Nat.reduceAdd, Int.toNat_zero, List.drop_zero, decide_eq_true_eq, decide_eq_false_iff_not, Bool.not_eq_true', Bool.not_eq_false', bne_iff_ne, bne_eq_false_iff_eq, beq_iff_eq, beq_eq_false_iff_ne, Bool.not_eq_true, Bool.not_eq_false, ne_eq, Decidable.not_not, baEq, decide_not, Prod.mk.injEq, and_true, true_and, Room, List.nil_append, Nat.zero_add, Int.not_lt, Int.not_le] at *
  all_goals try simp (disch := omega) only [wrapId', toNat1] at *
  all_goals try simp (disch := omega) only [if_pos, if_neg]
  all_goals first | trivial | omega | grind [wrapId', toNat1, drop_cons, drop_end, good_len, maxLen])
def E6 : D.Env := E5.add 33 fEqual_guess
theorem E6ok : EOk Try.prog E6 := E5ok.add k33_5
def fEqGuesses : Fct := ⟨[.v (.sl .guess), .v (.sl .guess)], [.el .bool], fun (x_ : (List SGuess) × (List SGuess) × Unit) => x_.1.length ≤ 1099511627776, fun (x_ : (List SGuess) × (List SGuess) × Unit) => (decide (x_.1 = x_.2.1), ())⟩
-- impl.EqualGuesses
theorem k9_6 : fEqGuesses.ok Try.prog 9 := Fct.of (S := fEqGuesses) (L := fun _ _ => none) (kp := [0,1,4]) E6ok Try.func9 (by kernel_rfl) (by kernel_rfl) (by
  rintro ⟨(l : List SGuess), (m : List SGuess), _⟩ hp
  refine holds_of (X := .ob (fEqual_guess.pre (l, m, ())) <|
 .lt (Bool × PUnit) (fEqual_guess.fn (l, m, ())) fun z2 =>
 .leaf (mkR fEqGuesses.rs (z2.fst, ())) [] []) (by kernel_rfl) ?_
  refine ob_i ?_ fun o1 => lt_i (Fct.leafY ?_)
  all_goals try simp only [decide_eq_true_eq, decide_eq_false_iff_not, Bool.not_eq_true', Bool.not_eq_false', bne_iff_ne, bne_eq_false_iff_eq, beq_iff_eq, beq_eq_false_iff_ne, baEq, Int.not_lt, Int.not_le, ne_eq, Decidable.not_not] at *
  all_goals try simp only [fEqGuesses, fEqual_guess, etaToken, etaNode, etaBuilder, etaPolicy, etaPage, etaVisit, etaTab, etaServer, etaCache, etaNet, etaLoader, etaSheet, etaResult, etaSlot, etaModule, etaAddr, etaRequest, etaResponse, etaConn, etaGuess, etaEntry, etaSent, etaFile, baSz, List.size_toArray, List.length_cons, List.length_nil, Nat.reduceAdd, Int.toNat_zero, List.drop_zero, decide_eq_true_eq, decide_eq_false_iff_not, Bool.not_eq_true', Bool.not_eq_false', bne_iff_ne, bne_eq_false_iff_eq, beq_iff_eq, beq_eq_false_iff_ne, Bool.not_eq_true, Bool.not_eq_false, ne_eq, Decidable.not_not, baEq, decide_not, Prod.mk.injEq, and_true, true_and, Room, List.nil_append, Nat.zero_add, Int.not_lt, Int.not_le, fEqual_guess] at *
  all_goals try simp (disch := omega) only [wrapId', toNat1] at *
  all_goals try simp (disch := omega) only [if_pos, if_neg]
  all_goals first | trivial | omega | grind [wrapId', toNat1, drop_cons, drop_end, good_len, maxLen, fEqual_guess])
def E7 : D.Env := E6.add 9 fEqGuesses
theorem E7ok : EOk Try.prog E7 := E6ok.add k9_6
def nameByte (b : UInt8) : Bool := 97 ≤ b.toNat && b.toNat ≤ 122
def bts (s : ByteArray) : List UInt8 := s.data.toList
theorem bts_len (s : ByteArray) : (bts s).length = s.size := rfl
theorem bts_at {s : ByteArray} {i : Nat} (h : i < s.size) : (bts s).drop i = s.data.getD i 0 :: (bts s).drop (i + 1) := by
  have h2 : i < s.data.size := h
  have e : s.data.getD i 0 = s.data[i] := by unfold Array.getD; rw [dif_pos h2]; rfl
  rw [List.drop_eq_getElem_cons (by rw [bts_len]; exact h), e]
  rfl
theorem bts_end {s : ByteArray} {i : Nat} (h : s.size ≤ i) : (bts s).drop i = [] := List.drop_of_length_le h
def allB (p : UInt8 → Bool) (l : List UInt8) : Bool := l.all p
theorem allB_at {p : UInt8 → Bool} {s : ByteArray} {i : Nat} (h : i < s.size) : allB p ((bts s).drop i) = (p (s.data.getD i 0) && allB p ((bts s).drop (i + 1))) := by rw [bts_at h]; rfl
theorem allB_end {p : UInt8 → Bool} {s : ByteArray} {i : Nat} (h : s.size ≤ i) : allB p ((bts s).drop i) = true := by rw [bts_end h]; rfl
def isName (s : ByteArray) : Bool := allB nameByte (bts s) && decide (1 ≤ s.size ∧ s.size ≤ 8)
def fIsName : Fct := ⟨[.v (.el .str)], [.el .bool], fun (x_ : ByteArray × Unit) => x_.1.size ≤ 1000000000000000000, fun (x_ : ByteArray × Unit) => (isName x_.1, ())⟩
abbrev W_spec_IsName_fIsName_2 (s : ByteArray) : LInv := ⟨[⟨.s, 3, true, .el .int⟩], fun _ (x_ : Int × Unit) => 0 ≤ x_.1 ∧ x_.1 ≤ s.size ∧ allB nameByte ((bts s).drop x_.1.toNat) = allB nameByte (bts s), fun (x_ : Int × Unit) => s.size - x_.1.toNat⟩
-- spec.IsName
theorem k73_7 : fIsName.ok Try.prog 73 := Fct.of (S := fIsName) (L := fun ⟨s, _⟩ => fun | 2 => some (W_spec_IsName_fIsName_2 s) | _ => none) (kp := [0,2,3,7,19,1000007,1000019]) E7ok Try.func73 (by kernel_rfl) (by kernel_rfl) (by
  rintro ⟨(s : ByteArray), _⟩ hp
  refine holds_of (X := lpx (W_spec_IsName_fIsName_2 s) ((0 : Int), ()) fun (y1 : Int × PUnit) bk1 =>
 .br (decide (y1.fst < (↑s.size : Int)))
  (.ob ((0 : Int) ≤ y1.fst ∧ y1.fst < (↑s.size : Int)) <|
   .br (decide ((↑(s.data.getD y1.fst.toNat (0 : UInt8)).toNat : Int) < (97 : Int)))
   (.leaf (mkR fIsName.rs (false, ())) [] [])
   (.ob ((0 : Int) ≤ y1.fst ∧ y1.fst < (↑s.size : Int)) <|
    .br (decide ((↑(s.data.getD y1.fst.toNat (0 : UInt8)).toNat : Int) > (122 : Int)))
    (.leaf (mkR fIsName.rs (false, ())) [] [])
    (.ob (Value.string s = Value.string s) <|
     .ob (bk1 (IntKind.i64.wrap (y1.fst + (1 : Int)), ())) <|
     .ok)))
  (.ob (fInRange.pre ((↑s.size : Int), (1 : Int), (8 : Int), ())) <|
   .lt (Bool × PUnit) (fInRange.fn ((↑s.size : Int), (1 : Int), (8 : Int), ())) fun z2 =>
   .leaf (mkR fIsName.rs (z2.fst, ())) [] [])) (by kernel_rfl) ?_
  refine lpx_i ?_ fun (y1 : Int × PUnit) i1 => br_i (fun h2 => ob_i ?_ fun o3 => br_i (fun h4 => Fct.leafY ?_) (fun h4 => ob_i ?_ fun o5 => br_i (fun h6 => Fct.leafY ?_) (fun h6 => ob_i rfl fun _ => ob_i ?_ fun o7 => trivial))) (fun h2 => ob_i trivial fun _ => lt_i (Fct.leafY ?_))
  all_goals try simp only [decide_eq_true_eq, decide_eq_false_iff_not, Bool.not_eq_true', Bool.not_eq_false', bne_iff_ne, bne_eq_false_iff_eq, beq_iff_eq, beq_eq_false_iff_ne, baEq, Int.not_lt, Int.not_le, ne_eq, Decidable.not_not] at *
  all_goals try simp only [W_spec_IsName_fIsName_2, fInRange, fIsName, etaToken, etaNode, etaBuilder, etaPolicy, etaPage, etaVisit, etaTab, etaServer, etaCache, etaNet, etaLoader, etaSheet, etaResult, etaSlot, etaModule, etaAddr, etaRequest, etaResponse, etaConn, etaGuess, etaEntry, etaSent, etaFile, baSz, List.size_toArray, List.length_cons, List.length_nil, Nat.reduceAdd, Int.toNat_zero, List.drop_zero, decide_eq_true_eq, decide_eq_false_iff_not, Bool.not_eq_true', Bool.not_eq_false', bne_iff_ne, bne_eq_false_iff_eq, beq_iff_eq, beq_eq_false_iff_ne, Bool.not_eq_true, Bool.not_eq_false, ne_eq, Decidable.not_not, baEq, decide_not, Prod.mk.injEq, and_true, true_and, Room, List.nil_append, Nat.zero_add, Int.not_lt, Int.not_le, isName, nameByte, fInRange, inRange, allB_at, allB_end] at *
  all_goals try simp (disch := omega) only [wrapId', toNat1] at *
  all_goals try simp (disch := omega) only [if_pos, if_neg]
  all_goals first | trivial | omega | grind [wrapId', toNat1, good_len, maxLen, isName, nameByte, fInRange, inRange, allB_at, allB_end])
def E8 : D.Env := E7.add 73 fIsName
theorem E8ok : EOk Try.prog E8 := E7ok.add k73_7
def valByte (b : UInt8) : Bool := (97 ≤ b.toNat && b.toNat ≤ 122) || (48 ≤ b.toNat && b.toNat ≤ 57) || b.toNat == 47
def isValue (s : ByteArray) : Bool := allB valByte (bts s) && decide (1 ≤ s.size ∧ s.size ≤ 20)
def fIsValue : Fct := ⟨[.v (.el .str)], [.el .bool], fun (x_ : ByteArray × Unit) => x_.1.size ≤ 1000000000000000000, fun (x_ : ByteArray × Unit) => (isValue x_.1, ())⟩
abbrev W_spec_IsValue_fIsValue_2 (s : ByteArray) : LInv := ⟨[⟨.s, 3, true, .el .int⟩], fun _ (x_ : Int × Unit) => 0 ≤ x_.1 ∧ x_.1 ≤ s.size ∧ allB valByte ((bts s).drop x_.1.toNat) = allB valByte (bts s), fun (x_ : Int × Unit) => s.size - x_.1.toNat⟩
-- spec.IsValue
theorem k72_8 : fIsValue.ok Try.prog 72 := Fct.of (S := fIsValue) (L := fun ⟨s, _⟩ => fun | 2 => some (W_spec_IsValue_fIsValue_2 s) | _ => none) (kp := [0,2,3,7,37,1000007,1000037]) E8ok Try.func72 (by kernel_rfl) (by kernel_rfl) (by
  rintro ⟨(s : ByteArray), _⟩ hp
  refine holds_of (X := lpx (W_spec_IsValue_fIsValue_2 s) ((0 : Int), ()) fun (y1 : Int × PUnit) bk1 =>
 .br (decide (y1.fst < (↑s.size : Int)))
  (.ob ((0 : Int) ≤ y1.fst ∧ y1.fst < (↑s.size : Int)) <|
   .br (decide ((↑(s.data.getD y1.fst.toNat (0 : UInt8)).toNat : Int) < (97 : Int)))
   (.ob ((0 : Int) ≤ y1.fst ∧ y1.fst < (↑s.size : Int)) <|
    .br (decide ((↑(s.data.getD y1.fst.toNat (0 : UInt8)).toNat : Int) < (48 : Int)))
    (.ob ((0 : Int) ≤ y1.fst ∧ y1.fst < (↑s.size : Int)) <|
     .br ((↑(s.data.getD y1.fst.toNat (0 : UInt8)).toNat : Int) != (47 : Int))
     (.leaf (mkR fIsValue.rs (false, ())) [] [])
     (.ob (Value.string s = Value.string s) <|
      .ob (bk1 (IntKind.i64.wrap (y1.fst + (1 : Int)), ())) <|
      .ok))
    (.ob ((0 : Int) ≤ y1.fst ∧ y1.fst < (↑s.size : Int)) <|
     .br (decide ((↑(s.data.getD y1.fst.toNat (0 : UInt8)).toNat : Int) > (57 : Int)))
     (.ob ((0 : Int) ≤ y1.fst ∧ y1.fst < (↑s.size : Int)) <|
      .br ((↑(s.data.getD y1.fst.toNat (0 : UInt8)).toNat : Int) != (47 : Int))
      (.leaf (mkR fIsValue.rs (false, ())) [] [])
      (.ob (Value.string s = Value.string s) <|
       .ob (bk1 (IntKind.i64.wrap (y1.fst + (1 : Int)), ())) <|
       .ok))
     (.ob (Value.string s = Value.string s) <|
      .ob (bk1 (IntKind.i64.wrap (y1.fst + (1 : Int)), ())) <|
      .ok)))
   (.ob ((0 : Int) ≤ y1.fst ∧ y1.fst < (↑s.size : Int)) <|
    .br (decide ((↑(s.data.getD y1.fst.toNat (0 : UInt8)).toNat : Int) > (122 : Int)))
    (.ob ((0 : Int) ≤ y1.fst ∧ y1.fst < (↑s.size : Int)) <|
     .br (decide ((↑(s.data.getD y1.fst.toNat (0 : UInt8)).toNat : Int) < (48 : Int)))
     (.ob ((0 : Int) ≤ y1.fst ∧ y1.fst < (↑s.size : Int)) <|
      .br ((↑(s.data.getD y1.fst.toNat (0 : UInt8)).toNat : Int) != (47 : Int))
      (.leaf (mkR fIsValue.rs (false, ())) [] [])
      (.ob (Value.string s = Value.string s) <|
       .ob (bk1 (IntKind.i64.wrap (y1.fst + (1 : Int)), ())) <|
       .ok))
     (.ob ((0 : Int) ≤ y1.fst ∧ y1.fst < (↑s.size : Int)) <|
      .br (decide ((↑(s.data.getD y1.fst.toNat (0 : UInt8)).toNat : Int) > (57 : Int)))
      (.ob ((0 : Int) ≤ y1.fst ∧ y1.fst < (↑s.size : Int)) <|
       .br ((↑(s.data.getD y1.fst.toNat (0 : UInt8)).toNat : Int) != (47 : Int))
       (.leaf (mkR fIsValue.rs (false, ())) [] [])
       (.ob (Value.string s = Value.string s) <|
        .ob (bk1 (IntKind.i64.wrap (y1.fst + (1 : Int)), ())) <|
        .ok))
      (.ob (Value.string s = Value.string s) <|
       .ob (bk1 (IntKind.i64.wrap (y1.fst + (1 : Int)), ())) <|
       .ok)))
    (.ob (Value.string s = Value.string s) <|
     .ob (bk1 (IntKind.i64.wrap (y1.fst + (1 : Int)), ())) <|
     .ok)))
  (.ob (fInRange.pre ((↑s.size : Int), (1 : Int), (20 : Int), ())) <|
   .lt (Bool × PUnit) (fInRange.fn ((↑s.size : Int), (1 : Int), (20 : Int), ())) fun z2 =>
   .leaf (mkR fIsValue.rs (z2.fst, ())) [] [])) (by kernel_rfl) ?_
  refine lpx_i ?_ fun (y1 : Int × PUnit) i1 => br_i (fun h2 => ob_i ?_ fun o3 => br_i (fun h4 => ob_i ?_ fun o5 => br_i (fun h6 => ob_i ?_ fun o7 => br_i (fun h8 => Fct.leafY ?_) (fun h8 => ob_i rfl fun _ => ob_i ?_ fun o9 => trivial)) (fun h6 => ob_i ?_ fun o10 => br_i (fun h11 => ob_i ?_ fun o12 => br_i (fun h13 => Fct.leafY ?_) (fun h13 => ob_i rfl fun _ => ob_i ?_ fun o14 => trivial)) (fun h11 => ob_i rfl fun _ => ob_i ?_ fun o15 => trivial))) (fun h4 => ob_i ?_ fun o16 => br_i (fun h17 => ob_i ?_ fun o18 => br_i (fun h19 => ob_i ?_ fun o20 => br_i (fun h21 => Fct.leafY ?_) (fun h21 => ob_i rfl fun _ => ob_i ?_ fun o22 => trivial)) (fun h19 => ob_i ?_ fun o23 => br_i (fun h24 => ob_i ?_ fun o25 => br_i (fun h26 => Fct.leafY ?_) (fun h26 => ob_i rfl fun _ => ob_i ?_ fun o27 => trivial)) (fun h24 => ob_i rfl fun _ => ob_i ?_ fun o28 => trivial))) (fun h17 => ob_i rfl fun _ => ob_i ?_ fun o29 => trivial))) (fun h2 => ob_i trivial fun _ => lt_i (Fct.leafY ?_))
  all_goals try simp only [decide_eq_true_eq, decide_eq_false_iff_not, Bool.not_eq_true', Bool.not_eq_false', bne_iff_ne, bne_eq_false_iff_eq, beq_iff_eq, beq_eq_false_iff_ne, baEq, Int.not_lt, Int.not_le, ne_eq, Decidable.not_not] at *
  all_goals try simp only [W_spec_IsValue_fIsValue_2, fInRange, fIsValue, etaToken, etaNode, etaBuilder, etaPolicy, etaPage, etaVisit, etaTab, etaServer, etaCache, etaNet, etaLoader, etaSheet, etaResult, etaSlot, etaModule, etaAddr, etaRequest, etaResponse, etaConn, etaGuess, etaEntry, etaSent, etaFile, baSz, List.size_toArray, List.length_cons, List.length_nil, Nat.reduceAdd, Int.toNat_zero, List.drop_zero, decide_eq_true_eq, decide_eq_false_iff_not, Bool.not_eq_true', Bool.not_eq_false', bne_iff_ne, bne_eq_false_iff_eq, beq_iff_eq, beq_eq_false_iff_ne, Bool.not_eq_true, Bool.not_eq_false, ne_eq, Decidable.not_not, baEq, decide_not, Prod.mk.injEq, and_true, true_and, Room, List.nil_append, Nat.zero_add, Int.not_lt, Int.not_le, isValue, valByte, fInRange, inRange, allB_at, allB_end] at *
  all_goals try simp (disch := omega) only [wrapId', toNat1] at *
  all_goals try simp (disch := omega) only [if_pos, if_neg]
  all_goals first | trivial | omega | grind [wrapId', toNat1, good_len, maxLen, isValue, valByte, fInRange, inRange, allB_at, allB_end])
def E9 : D.Env := E8.add 72 fIsValue
theorem E9ok : EOk Try.prog E9 := E8ok.add k72_8
theorem szStr_get {l : List ByteArray} {i : Nat} (h : i < l.length) : (l.getD i default).size + l.length ≤ szL szString l := by
  have := szL_get szString h
  simp only [szString] at this; omega
def fNames : Fct := ⟨[.v (.sl .str)], [.el .bool], fun (x_ : (List ByteArray) × Unit) => szL szString x_.1 ≤ 1099511627776, fun (x_ : (List ByteArray) × Unit) => (x_.1.all isName && decide (x_.1.length ≤ 4), ())⟩
abbrev W_spec_l9Names_fNames_2 (l : (List ByteArray)) : LInv := ⟨[⟨.s, 3, true, .el .int⟩], fun _ (x_ : Int × Unit) => 0 ≤ x_.1 ∧ x_.1 ≤ l.length ∧ (l.drop x_.1.toNat).all isName = l.all isName, fun (x_ : Int × Unit) => l.length - x_.1.toNat⟩
-- spec.l9Names
theorem k71_9 : fNames.ok Try.prog 71 := Fct.of (S := fNames) (L := fun ⟨l, _⟩ => fun | 2 => some (W_spec_l9Names_fNames_2 l) | _ => none) (kp := [0,2,3,7,15,1000007,1000015]) E9ok Try.func71 (by kernel_rfl) (by kernel_rfl) (by
  rintro ⟨(l : List ByteArray), _⟩ hp
  refine holds_of (X := lpx (W_spec_l9Names_fNames_2 l) ((0 : Int), ()) fun (y1 : Int × PUnit) bk1 =>
 .br (decide (y1.fst < (↑l.length : Int)))
  (.ob ((0 : Int) ≤ y1.fst ∧ y1.fst < (↑l.length : Int)) <|
   .ob (fIsName.pre (l.getD y1.fst.toNat default, ())) <|
   .lt (Bool × PUnit) (fIsName.fn (l.getD y1.fst.toNat default, ())) fun z2 =>
   .br (!z2.fst)
    (.leaf (mkR fNames.rs (false, ())) [] [])
    (.ob (l = l) <|
     .ob (bk1 (IntKind.i64.wrap (y1.fst + (1 : Int)), ())) <|
     .ok))
  (.leaf (mkR fNames.rs (decide ((↑l.length : Int) ≤ (4 : Int)), ())) [] [])) (by kernel_rfl) ?_
  refine lpx_i ?_ fun (y1 : Int × PUnit) i1 => br_i (fun h2 => ob_i ?_ fun o3 => ob_i ?_ fun o4 => lt_i (br_i (fun h5 => Fct.leafY ?_) (fun h5 => ob_i rfl fun _ => ob_i ?_ fun o6 => trivial))) (fun h2 => Fct.leafY ?_)
  all_goals have hl := szL_len szString l
  all_goals have hg : ∀ i, i < l.length → (l.getD i default).size ≤ 1000000000000000000 := fun i h => by have := szStr_get h; have hp2 : szL szString l ≤ 1099511627776 := hp; omega
  all_goals try simp only [decide_eq_true_eq, decide_eq_false_iff_not, Bool.not_eq_true', Bool.not_eq_false', bne_iff_ne, bne_eq_false_iff_eq, beq_iff_eq, beq_eq_false_iff_ne, baEq, Int.not_lt, Int.not_le, ne_eq, Decidable.not_not] at *
  all_goals try simp only [W_spec_l9Names_fNames_2, fIsName, fNames, etaToken, etaNode, etaBuilder, etaPolicy, etaPage, etaVisit, etaTab, etaServer, etaCache, etaNet, etaLoader, etaSheet, etaResult, etaSlot, etaModule, etaAddr, etaRequest, etaResponse, etaConn, etaGuess, etaEntry, etaSent, etaFile, baSz, List.size_toArray, List.length_cons, List.length_nil, Nat.reduceAdd, Int.toNat_zero, List.drop_zero, decide_eq_true_eq, decide_eq_false_iff_not, Bool.not_eq_true', Bool.not_eq_false', bne_iff_ne, bne_eq_false_iff_eq, beq_iff_eq, beq_eq_false_iff_ne, Bool.not_eq_true, Bool.not_eq_false, ne_eq, Decidable.not_not, baEq, decide_not, Prod.mk.injEq, and_true, true_and, Room, List.nil_append, Nat.zero_add, Int.not_lt, Int.not_le, fIsName] at *
  all_goals try simp (disch := omega) only [wrapId', toNat1] at *
  all_goals try simp (disch := omega) only [if_pos, if_neg]
  all_goals first | trivial | omega | grind [wrapId', toNat1, drop_cons, drop_end, good_len, maxLen, fIsName])
def E10 : D.Env := E9.add 71 fNames
theorem E10ok : EOk Try.prog E10 := E9ok.add k71_9
def isPolicy (p : SPolicy) : Bool := if p.set_ then p.scripts.all isName && decide (p.scripts.length ≤ 4) && (p.styles.all isName && decide (p.styles.length ≤ 4)) && (p.images.all isName && decide (p.images.length ≤ 4)) && (decide (p.nonce = ⟨#[]⟩) || isValue p.nonce) else decide (p.scripts.length = 0 ∧ p.styles.length = 0 ∧ p.images.length = 0 ∧ p.nonce = ⟨#[]⟩)
def fIsPolicy : Fct := ⟨[.v (.el .policy)], [.el .bool], fun (x_ : SPolicy × Unit) => szPolicy x_.1 ≤ 1099511627776, fun (x_ : SPolicy × Unit) => (isPolicy x_.1, ())⟩
-- spec.IsPolicy
theorem k67_10 : fIsPolicy.ok Try.prog 67 := Fct.of (S := fIsPolicy) (L := fun _ _ => none) (kp := [1,2,5,1000005]) E10ok Try.func67 (by kernel_rfl) (by kernel_rfl) (by
  rintro ⟨(p : SPolicy), _⟩ hp
  refine holds_of (X := .br (!p.set_)
 (.br ((↑p.scripts.length : Int) == (0 : Int))
  (.br ((↑p.styles.length : Int) == (0 : Int))
   (.br ((↑p.images.length : Int) == (0 : Int))
    (.leaf (mkR fIsPolicy.rs (p.nonce.toList == { data := #[] : ByteArray }.toList, ())) [] [])
    (.leaf (mkR fIsPolicy.rs (false, ())) [] []))
   (.leaf (mkR fIsPolicy.rs (false, ())) [] []))
  (.leaf (mkR fIsPolicy.rs (false, ())) [] []))
 (.ob (fNames.pre (p.scripts, ())) <|
  .lt (Bool × PUnit) (fNames.fn (p.scripts, ())) fun z2 =>
  .br (z2.fst)
   (.ob (fNames.pre (p.styles, ())) <|
    .lt (Bool × PUnit) (fNames.fn (p.styles, ())) fun z3 =>
    .br (z3.fst)
     (.ob (fNames.pre (p.images, ())) <|
      .lt (Bool × PUnit) (fNames.fn (p.images, ())) fun z4 =>
      .br (z4.fst)
       (.br (p.nonce.toList == { data := #[] : ByteArray }.toList)
        (.leaf (mkR fIsPolicy.rs (true, ())) [] [])
        (.ob (fIsValue.pre (p.nonce, ())) <|
         .lt (Bool × PUnit) (fIsValue.fn (p.nonce, ())) fun z5 =>
         .leaf (mkR fIsPolicy.rs (z5.fst, ())) [] []))
       (.leaf (mkR fIsPolicy.rs (false, ())) [] []))
     (.leaf (mkR fIsPolicy.rs (false, ())) [] []))
   (.leaf (mkR fIsPolicy.rs (false, ())) [] []))) (by kernel_rfl) ?_
  refine br_i (fun h1 => br_i (fun h2 => br_i (fun h3 => br_i (fun h4 => Fct.leafY ?_) (fun h4 => Fct.leafY ?_)) (fun h3 => Fct.leafY ?_)) (fun h2 => Fct.leafY ?_)) (fun h1 => ob_i ?_ fun o5 => lt_i (br_i (fun h6 => ob_i ?_ fun o7 => lt_i (br_i (fun h8 => ob_i ?_ fun o9 => lt_i (br_i (fun h10 => br_i (fun h11 => Fct.leafY ?_) (fun h11 => ob_i ?_ fun o12 => lt_i (Fct.leafY ?_))) (fun h10 => Fct.leafY ?_))) (fun h8 => Fct.leafY ?_))) (fun h6 => Fct.leafY ?_)))
  all_goals try simp only [decide_eq_true_eq, decide_eq_false_iff_not, Bool.not_eq_true', Bool.not_eq_false', bne_iff_ne, bne_eq_false_iff_eq, beq_iff_eq, beq_eq_false_iff_ne, baEq, Int.not_lt, Int.not_le, ne_eq, Decidable.not_not] at *
  all_goals try simp only [fIsPolicy, fIsValue, fNames, etaToken, etaNode, etaBuilder, etaPolicy, etaPage, etaVisit, etaTab, etaServer, etaCache, etaNet, etaLoader, etaSheet, etaResult, etaSlot, etaModule, etaAddr, etaRequest, etaResponse, etaConn, etaGuess, etaEntry, etaSent, etaFile, baSz, List.size_toArray, List.length_cons, List.length_nil, Nat.reduceAdd, Int.toNat_zero, List.drop_zero, decide_eq_true_eq, decide_eq_false_iff_not, Bool.not_eq_true', Bool.not_eq_false', bne_iff_ne, bne_eq_false_iff_eq, beq_iff_eq, beq_eq_false_iff_ne, Bool.not_eq_true, Bool.not_eq_false, ne_eq, Decidable.not_not, baEq, decide_not, Prod.mk.injEq, and_true, true_and, Room, List.nil_append, Nat.zero_add, Int.not_lt, Int.not_le, isPolicy, fNames, fIsValue, szPolicy] at *
  all_goals try simp (disch := omega) only [wrapId', toNat1] at *
  all_goals try simp (disch := omega) only [if_pos, if_neg]
  all_goals first | trivial | omega | grind [wrapId', toNat1, drop_cons, drop_end, good_len, maxLen, isPolicy, fNames, fIsValue, szPolicy])
def E11 : D.Env := E10.add 67 fIsPolicy
theorem E11ok : EOk Try.prog E11 := E10ok.add k67_10
def notFound : SResponse := ⟨404, 1, ⟨#[]⟩, 0, false, ⟨#[]⟩⟩
def fNotFound : Fct := ⟨[], [rE .response], fun _ => True, fun _ => (notFound, ())⟩
-- spec.NotFound
theorem k63_11 : fNotFound.ok Try.prog 63 := Fct.of (S := fNotFound) (L := fun _ _ => none) (kp := [0]) E11ok Try.func63 (by kernel_rfl) (by kernel_rfl) (by
  rintro ⟨_⟩ hp
  refine holds_of (X := .leaf (mkR fNotFound.rs (⟨(404 : Int), (1 : Int), { data := #[] : ByteArray }, (0 : Int), false, { data := #[] : ByteArray }⟩, ())) [] []) (by kernel_rfl) ?_
  refine Fct.leafY ?_
  all_goals try simp only [decide_eq_true_eq, decide_eq_false_iff_not, Bool.not_eq_true', Bool.not_eq_false', bne_iff_ne, bne_eq_false_iff_eq, beq_iff_eq, beq_eq_false_iff_ne, baEq, Int.not_lt, Int.not_le, ne_eq, Decidable.not_not] at *
  all_goals try simp only [fNotFound, etaToken, etaNode, etaBuilder, etaPolicy, etaPage, etaVisit, etaTab, etaServer, etaCache, etaNet, etaLoader, etaSheet, etaResult, etaSlot, etaModule, etaAddr, etaRequest, etaResponse, etaConn, etaGuess, etaEntry, etaSent, etaFile, baSz, List.size_toArray, List.length_cons, List.length_nil, Nat.reduceAdd, Int.toNat_zero, List.drop_zero, decide_eq_true_eq, decide_eq_false_iff_not, Bool.not_eq_true', Bool.not_eq_false', bne_iff_ne, bne_eq_false_iff_eq, beq_iff_eq, beq_eq_false_iff_ne, Bool.not_eq_true, Bool.not_eq_false, ne_eq, Decidable.not_not, baEq, decide_not, Prod.mk.injEq, and_true, true_and, Room, List.nil_append, Nat.zero_add, Int.not_lt, Int.not_le] at *
  all_goals first | trivial | omega | (simp_all; done) | (simp_all; omega) | grind)
def E12 : D.Env := E11.add 63 fNotFound
theorem E12ok : EOk Try.prog E12 := E11ok.add k63_11
-- impl.NotFound
theorem k34_12 : fNotFound.ok Try.prog 34 := Fct.of (S := fNotFound) (L := fun _ _ => none) (kp := [0]) E12ok Try.func34 (by kernel_rfl) (by kernel_rfl) (by
  rintro ⟨_⟩ hp
  refine holds_of (X := .leaf (mkR fNotFound.rs (⟨(404 : Int), (1 : Int), { data := #[] : ByteArray }, (0 : Int), false, { data := #[] : ByteArray }⟩, ())) [] []) (by kernel_rfl) ?_
  refine Fct.leafY ?_
  all_goals try simp only [decide_eq_true_eq, decide_eq_false_iff_not, Bool.not_eq_true', Bool.not_eq_false', bne_iff_ne, bne_eq_false_iff_eq, beq_iff_eq, beq_eq_false_iff_ne, baEq, Int.not_lt, Int.not_le, ne_eq, Decidable.not_not] at *
  all_goals try simp only [fNotFound, etaToken, etaNode, etaBuilder, etaPolicy, etaPage, etaVisit, etaTab, etaServer, etaCache, etaNet, etaLoader, etaSheet, etaResult, etaSlot, etaModule, etaAddr, etaRequest, etaResponse, etaConn, etaGuess, etaEntry, etaSent, etaFile, baSz, List.size_toArray, List.length_cons, List.length_nil, Nat.reduceAdd, Int.toNat_zero, List.drop_zero, decide_eq_true_eq, decide_eq_false_iff_not, Bool.not_eq_true', Bool.not_eq_false', bne_iff_ne, bne_eq_false_iff_eq, beq_iff_eq, beq_eq_false_iff_ne, Bool.not_eq_true, Bool.not_eq_false, ne_eq, Decidable.not_not, baEq, decide_not, Prod.mk.injEq, and_true, true_and, Room, List.nil_append, Nat.zero_add, Int.not_lt, Int.not_le] at *
  all_goals first | trivial | omega | (simp_all; done) | (simp_all; omega) | grind)
def E13 : D.Env := E12.add 34 fNotFound
theorem E13ok : EOk Try.prog E13 := E12ok.add k34_12
theorem and_255 (x : Int) : 0 ≤ bits .and .i64 x 255 ∧ bits .and .i64 x 255 ≤ 255 := by
  have h : (BitVec.ofInt 64 x &&& BitVec.ofInt 64 255).toNat ≤ 255 := by
    rw [BitVec.toNat_and]; exact Nat.and_le_right
  have e : bits .and .i64 x 255 = ((BitVec.ofInt 64 x &&& BitVec.ofInt 64 255).toNat : Int) := by
    show IntKind.i64.wrap ((BitVec.ofInt 64 x &&& BitVec.ofInt 64 255).toNat : Int) = _
    exact wrapId' (by omega) (by omega)
  rw [e]; omega
open Go.RowKit in
set_option maxHeartbeats 2000000 in
theorem byte_walk (g n cap : Nat) (i : Nat) (h : Int) (ad : Option Addr) (w : World) (hi1 : i ≤ 9223372036854775807) (hn : n ≤ 1000000000000000000)
    (hx0 : w.cell? ⟨g, 0, none⟩ = some (.slice ad n cap)) (hx1 : w.cell? ⟨g, 1, none⟩ = some (.int .i64 i)) (hx2 : w.cell? ⟨g, 2, none⟩ = some (.int .i64 h))
    (f1 : w.frozen? ⟨g, 1, none⟩ = false) (f2 : w.frozen? ⟨g, 2, none⟩ = false)
    (hb : i < n → ∃ gb ob z, ad = some ⟨gb, ob, none⟩ ∧ gb ≠ g ∧ w.cell? ⟨gb, ob + i, none⟩ = some (.int .u8 z)) :
    Calls Try.prog 60 #[.pointer (some ⟨g, 0, none⟩)] w fun e w' => ∃ (x : Int) (i' : Nat) (h' : Int) (q : Nat), e = .returned (.int .i64 x) ∧ 0 ≤ x ∧ x ≤ 255 ∧ i' ≤ 9223372036854775807 ∧ ((∃ k, h' = wrap64 k) ∧
      (w' = ((w.setCell ⟨g, 2, none⟩ (.int .i64 h')).drewN q).setCell ⟨g, 1, none⟩ (.int .i64 i') ∨ (i' = i ∧ ∃ q', w' = ((w.setCell ⟨g, 2, none⟩ (.int .i64 h')).drewN q').drewN q))) := by
  go_enter Try.func60, Try.ntmps60
  go_wp2
  go_quiet (fail)
  go_wp2
  go_quiet (fail)
  go_wp2
  · have hlt : i < n := by omega
    obtain ⟨gb, ob, z, rfl, hne, hz⟩ := hb hlt
    clear hb
    have hz' : (w.setCell ⟨g, 2, none⟩ (Value.int IntKind.i64 (IntKind.i64.wrap (IntKind.i64.wrap (h * 6364136223846793005) + 1442695040888963407)))).cell? ⟨gb, ob + i, none⟩ = some (.int .u8 z) := by
      rw [World.cell?_setCell_other]; exact hz; simp
    go_quiet (fail)
    go_wp2
    go_ret
    exact ⟨_, i + 1, _, _, rfl, (and_255 _).1, (and_255 _).2, by omega, ⟨_, rfl⟩, .inl rfl⟩
  · go_ret
    exact ⟨_, i, _, _, rfl, (and_255 _).1, (and_255 _).2, by omega, ⟨_, rfl⟩, .inr ⟨rfl, _, rfl⟩⟩
open Go.RowKit in
theorem wrap_rng (k : Int) : -9223372036854775808 ≤ wrap64 k ∧ wrap64 k ≤ 9223372036854775807 := by
  unfold wrap64; omega
theorem set_heap {w : World} {g j : Nat} {r : Array Value} {e : TypeId} {v : Value} (h : w.heap[g]? = some (.cells r e (0, 0))) : (w.setCell ⟨g, j, none⟩ v).heap[g]? = some (.cells (r.setIfInBounds j v) e (0, 0)) ∧ (∀ b, b ≠ g → (w.setCell ⟨g, j, none⟩ v).heap[b]? = w.heap[b]?) ∧ (w.setCell ⟨g, j, none⟩ v).heap.size = w.heap.size := by
  refine ⟨?_, fun b hb => ?_, ?_⟩
  · simp [World.setCell, Array.getElem?_modify, h]
  · simp [World.setCell, Array.getElem?_modify, Ne.symm hb]
  · simp [World.setCell]
def fByte : Xct := ⟨[.u], [.el .int], fun (x_ : Unit × Unit) => True, fun (x_ : Unit × Unit) (y_ : Int × Unit) => 0 ≤ y_.1 ∧ y_.1 ≤ 255⟩
open Go.RowKit in
theorem byte_ok : fByte.ok Try.prog 60 := by
  rintro ⟨u, ⟨⟩⟩ _
  intro w vs G hB hA
  obtain ⟨v0, hv0, g, rfl, hg⟩ := hA.tm 0 .cur rfl
  have hvs : vs = #[.pointer (some ⟨g, 0, none⟩)] := by
    apply Array.ext
    · rw [hA.sz]; rfl
    · intro i h1 h2
      match i, h1, h2 with
      | 0, h1, h2 => rw [Array.getElem?_eq_getElem h1] at hv0; injection hv0
      | i + 1, h1, h2 => exact absurd (show i + 1 < 1 from h2) (by omega)
  subst hvs
  obtain ⟨xs, b, i, h, ty, hh, hb, hl, hi0, hi1, hh0, hh1⟩ := hA.cr g hg
  obtain ⟨a, cap, rfl, hcap, hrow⟩ := hb
  obtain ⟨i, rfl⟩ : ∃ k : Nat, i = k := ⟨i.toNat, by omega⟩
  have c0 : ∀ j, w.cell? ⟨g, j, none⟩ = (#[Value.slice a xs.length cap, .int .i64 (i : Int), .int .i64 h] : Array Value)[j]? := fun j => by simp [World.cell?, hh]
  have fz : ∀ j, w.frozen? ⟨g, j, none⟩ = false := fun j => by simp [World.frozen?, hh]
  refine (byte_walk g xs.length cap i h a w (by omega) hl (c0 0) (c0 1) (c0 2) (fz 1) (fz 2) fun hlt => ?_).mono ?_
  · rcases hrow with h0 | ⟨gb, ob, row, e, fr, rfl, hs, hbk, hc⟩
    · omega
    · obtain ⟨u, hu, hr⟩ := hc i hlt 0 (by decide)
      have e0 : cell .u8 xs i 0 = (enc .u8 xs[i]).getD 0 .nl := cell_get (t := .u8) (xs := xs) (by simp [hlt]) 0
      have hr : TR w (src G none) (fcC (cell .u8 xs i 0)) u := hr
      rw [e0] at hr
      obtain ⟨rfl, _⟩ := hr
      refine ⟨gb, ob, xs[i], rfl, fun e => ?_, ?_⟩
      · subst e
        rw [show G.ow gb = .free from hs] at hg
        cases hg
      · have : ob + i * Ty.u8.width + 0 = ob + i := by show ob + i * 1 + 0 = ob + i; omega
        rw [this] at hu
        simp [World.cell?, hbk, hu]
  · rintro e w' ⟨x, i', h', q, rfl, hx0, hx1, hi', ⟨k, rfl⟩, hw⟩
    have hk := wrap_rng k
    obtain ⟨s1, s2, s3⟩ := set_heap (j := 2) (v := .int .i64 (wrap64 k)) hh
    have fin : Onward w w' ∧ (∀ b, b ≠ g → w'.heap[b]? = w.heap[b]?) ∧ CurStep w w' g := by
      rcases hw with rfl | ⟨rfl, q', rfl⟩
      · obtain ⟨t1, t2, t3⟩ := set_heap (w := (w.setCell ⟨g, 2, none⟩ (.int .i64 (wrap64 k))).drewN q) (j := 1) (v := .int .i64 (i' : Int)) s1
        refine ⟨⟨rfl, rfl, ⟨rfl, Nat.le_add_right _ _⟩, ?_⟩, fun b hb => (t2 b hb).trans (s2 b hb), ?_⟩
        · rw [t3]; exact Nat.le_of_eq s3.symm
        · exact ⟨_, _, _, i', _, _, hh, t1, by omega, by omega, hk.1, hk.2⟩
      · refine ⟨⟨rfl, rfl, ⟨rfl, Nat.le_trans (Nat.le_add_right _ _) (Nat.le_add_right _ _)⟩, Nat.le_of_eq s3.symm⟩, fun b hb => s2 b hb, ?_⟩
        exact ⟨_, _, _, i', _, _, hh, s1, by omega, by omega, hk.1, hk.2⟩
    obtain ⟨f1, f2, f3⟩ := fin
    refine ⟨_, _, ⟨(x, ()), ⟨hx0, hx1⟩, rfl⟩, rfl, f1, fun b hb => f2 b fun e => ?_, fun b hb => ?_, fun _ _ => False, by simp, by simp, ?_, ?_, ?_⟩
    · subst e; rw [hg] at hb; cases hb
    · by_cases e : b = g
      · subst e; exact f3
      · exact (hA.cr b hb).same (f2 b e)
    · exact ⟨_, rfl, ⟨rfl, rfl⟩, rfl⟩
    · intro m T hm; cases hm
    · intro b cs hb; cases hb
theorem and_num (x : Int) : 0 ≤ bits .and .i64 x 1073741823 ∧ bits .and .i64 x 1073741823 ≤ 1073741823 := by
  have h : (BitVec.ofInt 64 x &&& BitVec.ofInt 64 1073741823).toNat ≤ 1073741823 := by
    rw [BitVec.toNat_and]; exact Nat.and_le_right
  have e : bits .and .i64 x 1073741823 = ((BitVec.ofInt 64 x &&& BitVec.ofInt 64 1073741823).toNat : Int) := by
    show IntKind.i64.wrap ((BitVec.ofInt 64 x &&& BitVec.ofInt 64 1073741823).toNat : Int) = _
    exact wrapId' (by omega) (by omega)
  rw [e]; omega
open Go.RowKit in
set_option maxRecDepth 100000 in
set_option maxHeartbeats 2000000 in
theorem new_walk (n cap : Nat) (ad : Option Addr) (w : World) (hn : n ≤ 1000000000000000000) (hb : ∀ i, i < n → ∃ gb ob z, ad = some ⟨gb, ob, none⟩ ∧ w.cell? ⟨gb, ob + i, none⟩ = some (.int .u8 z)) :
    Calls Try.prog 28 #[.slice ad n cap] w fun e w' => ∃ (h : Int) (q : Nat), e = .returned (.pointer (some ⟨w.heap.size, 0, none⟩)) ∧ -9223372036854775808 ≤ h ∧ h ≤ 9223372036854775807 ∧ w' = (w.drewN q).alloc (.cells #[.slice ad n cap, .int .i64 0, .int .i64 h] 75) := by
  go_enter Try.func28, Try.ntmps28
  go_wp2
  go_loop [3, 4] (fun h i => ∃ (k : Nat) (x : Int), k ≤ 4000 ∧ i = .int .i64 k ∧ h = .int .i64 x ∧ -9223372036854775808 ≤ x ∧ x ≤ 9223372036854775807) (fun _ i => 4001 - (intOf i).toNat)
  case atStart => exact ⟨0, _, by omega, rfl, rfl, by omega, by omega⟩
  case round =>
    obtain ⟨k, x, hk, rfl, rfl, hx0, hx1⟩ := hrel
    by_cases h1 : k < n
    · by_cases h2 : k < 4000
      · obtain ⟨gb, ob, z, rfl, hz⟩ := hb k h1
        clear hb
        go_wp2
        go_round
        case rel => exact ⟨k + 1, _, by omega, by go_num, rfl, Int.le_trans (by omega) (and_num _).1, Int.le_trans (and_num _).2 (by omega)⟩
        case measure => simp only [intOf]; omega
      · go_wp2
        go_ret
        exact ⟨rfl, x, hx0, hx1, 0, rfl⟩
    · go_wp2
      go_ret
      exact ⟨rfl, x, hx0, hx1, 0, rfl⟩
open Go.RowKit in
theorem new_ok : NewOk Try.prog 28 := by
  intro w v S xs hv _ hl
  obtain ⟨a, cap, rfl, hcap, hrow⟩ := hv
  refine (new_walk xs.length cap a w hl fun i hlt => ?_).mono ?_
  · rcases hrow with h0 | ⟨gb, ob, row, e, fr, rfl, hs, hbk, hc⟩
    · omega
    · obtain ⟨u, hu, hr⟩ := hc i hlt 0 (by decide)
      have e0 : cell .u8 xs i 0 = (enc .u8 xs[i]).getD 0 .nl := cell_get (t := .u8) (xs := xs) (by simp [hlt]) 0
      have hr : TR w S (fcC (cell .u8 xs i 0)) u := hr
      rw [e0] at hr
      obtain ⟨rfl, _⟩ := hr
      refine ⟨gb, ob, xs[i], rfl, ?_⟩
      have : ob + i * Ty.u8.width + 0 = ob + i := by show ob + i * 1 + 0 = ob + i; omega
      rw [this] at hu
      simp [World.cell?, hbk, hu]
  · rintro e w' ⟨h, q, rfl, h0, h1, rfl⟩
    refine ⟨w.heap.size, h, 75, rfl, ⟨rfl, rfl, ⟨rfl, Nat.le_add_right _ _⟩, ?_⟩, fun b hb => ?_, Nat.le_refl _, ?_, h0, h1⟩
    · simp [World.alloc, World.drewN]
    · simp [World.alloc, World.drewN, Array.getElem?_push, Nat.ne_of_lt hb]
    · simp [World.alloc, World.drewN]
-- spec.l1New
theorem k28_13 : NewOk Try.prog 28 :=
  new_ok
def E14 : D.Env := E13.addN 28
theorem E14ok : EOk Try.prog E14 := E13ok.addN k28_13
-- spec.l1Byte
theorem k60_14 : fByte.ok Try.prog 60 :=
  byte_ok
def E15 : D.Env := E14.addX 60 fByte
theorem E15ok : EOk Try.prog E15 := E14ok.addX k60_14
theorem bel_1 {a n : Int} (h1 : 0 ≤ a) (h3 : 0 < n) : 0 ≤ a.tmod n ∧ (a.tmod n < n ∨ a.tmod n = 0) := ⟨Int.tmod_nonneg n h1, .inl (Int.tmod_lt_of_pos a h3)⟩
theorem bel_3 {a b c : Int} (ha : 0 ≤ a ∧ a ≤ 255) (hb : 0 ≤ b ∧ b ≤ 255) (hc : 0 ≤ c ∧ c ≤ 255) : IntKind.i64.wrap (IntKind.i64.wrap (IntKind.i64.wrap (a * 65536) + IntKind.i64.wrap (b * 256)) + c) = a * 65536 + b * 256 + c := by
  rw [wrapId' (n := a * 65536) (by omega) (by omega), wrapId' (n := b * 256) (by omega) (by omega), wrapId' (n := a * 65536 + b * 256) (by omega) (by omega), wrapId' (by omega) (by omega)]
def fBelow : Xct := ⟨[.u, .v (.el .int)], [.el .int], fun (x_ : Unit × Int × Unit) => True, fun (x_ : Unit × Int × Unit) (y_ : Int × Unit) => 0 ≤ y_.1 ∧ (y_.1 < x_.2.1 ∨ y_.1 = 0)⟩
-- spec.l1Below
theorem k51_15 : fBelow.ok Try.prog 51 := Xct.of (S := fBelow) (L := fun _ _ => none) (kp := [0,1,4,5,6,7,9,11,1000009,1000011]) E15ok Try.func51 (by kernel_rfl) (by kernel_rfl) (by
  rintro ⟨(c : PUnit), (n : Int), _⟩ hp
  refine holds_of (X := .br (decide (n ≤ (0 : Int)))
 (.leaf (mkR fBelow.rs ((0 : Int), ())) [] [])
 (.br (decide (n ≤ (256 : Int)))
  (.ob (fByte.pre ((), ())) <|
   .lp (Int × PUnit) (True) (fByte.is ((), ())) fun y3 =>
   .ob (n ≠ (0 : Int)) <|
    .leaf (mkR fBelow.rs (y3.fst.tmod n, ())) [] [])
  (.ob (fByte.pre ((), ())) <|
   .lp (Int × PUnit) (True) (fByte.is ((), ())) fun y5 =>
   .ob (fByte.pre ((), ())) <|
    .lp (Int × PUnit) (True) (fByte.is ((), ())) fun y6 =>
    .ob (fByte.pre ((), ())) <|
     .lp (Int × PUnit) (True) (fByte.is ((), ())) fun y7 =>
     .ob (n ≠ (0 : Int)) <|
      .leaf (mkR fBelow.rs ((IntKind.i64.wrap
      (IntKind.i64.wrap (IntKind.i64.wrap (y5.fst * (65536 : Int)) + IntKind.i64.wrap (y6.fst * (256 : Int))) +
        y7.fst)).tmod
  n, ())) [] []))) (by kernel_rfl) ?_
  refine br_i (fun h1 => Xct.leafY (S := fBelow) ((0 : Int), ()) ?_) (fun h1 => br_i (fun h2 => ob_i trivial fun _ => lp_i trivial fun y3 i3 => ob_i ?_ fun o4 => Xct.leafY (S := fBelow) (y3.fst.tmod n, ()) ?_) (fun h2 => ob_i trivial fun _ => lp_i trivial fun y5 i5 => ob_i trivial fun _ => lp_i trivial fun y6 i6 => ob_i trivial fun _ => lp_i trivial fun y7 i7 => ob_i ?_ fun o8 => Xct.leafY (S := fBelow) ((IntKind.i64.wrap
      (IntKind.i64.wrap (IntKind.i64.wrap (y5.fst * (65536 : Int)) + IntKind.i64.wrap (y6.fst * (256 : Int))) +
        y7.fst)).tmod
  n, ()) ?_))
  all_goals try simp only [decide_eq_true_eq, decide_eq_false_iff_not, Bool.not_eq_true', Bool.not_eq_false', bne_iff_ne, bne_eq_false_iff_eq, beq_iff_eq, beq_eq_false_iff_ne, baEq, Int.not_lt, Int.not_le, ne_eq, Decidable.not_not] at *
  all_goals try simp only [fBelow, fByte, etaToken, etaNode, etaBuilder, etaPolicy, etaPage, etaVisit, etaTab, etaServer, etaCache, etaNet, etaLoader, etaSheet, etaResult, etaSlot, etaModule, etaAddr, etaRequest, etaResponse, etaConn, etaGuess, etaEntry, etaSent, etaFile, baSz, List.size_toArray, List.length_cons, List.length_nil, Nat.reduceAdd, Int.toNat_zero, List.drop_zero, decide_eq_true_eq, decide_eq_false_iff_not, Bool.not_eq_true', Bool.not_eq_false', bne_iff_ne, bne_eq_false_iff_eq, beq_iff_eq, beq_eq_false_iff_ne, Bool.not_eq_true, Bool.not_eq_false, ne_eq, Decidable.not_not, baEq, decide_not, Prod.mk.injEq, and_true, true_and, Room, List.nil_append, Nat.zero_add, Int.not_lt, Int.not_le] at *
  · simp
  · omega
  · exact bel_1 (by omega) (by omega)
  · omega
  · rw [bel_3 i5 i6 i7]; exact bel_1 (by omega) (by omega))
def E16 : D.Env := E15.addX 51 fBelow
theorem E16ok : EOk Try.prog E16 := E15ok.addX k51_15
def fOnce : Xct := ⟨[.u, .v (.el .int)], [.el .bool], fun (x_ : Unit × Int × Unit) => True, fun (x_ : Unit × Int × Unit) (y_ : Bool × Unit) => True⟩
-- spec.l1Once
theorem k39_16 : fOnce.ok Try.prog 39 := Xct.of (S := fOnce) (L := fun _ _ => none) (kp := [0,1,4]) E16ok Try.func39 (by kernel_rfl) (by kernel_rfl) (by
  rintro ⟨(c : PUnit), (n : Int), _⟩ hp
  refine holds_of (X := .ob (fBelow.pre ((), n, ())) <|
 .lp (Int × PUnit) (True) (fBelow.is ((), n, ())) fun y1 =>
 .leaf (mkR fOnce.rs (y1.fst == (0 : Int), ())) [] []) (by kernel_rfl) ?_
  refine ob_i trivial fun _ => lp_i trivial fun y1 i1 => Xct.leafY (S := fOnce) (y1.fst == (0 : Int), ()) ?_
  all_goals try simp only [decide_eq_true_eq, decide_eq_false_iff_not, Bool.not_eq_true', Bool.not_eq_false', bne_iff_ne, bne_eq_false_iff_eq, beq_iff_eq, beq_eq_false_iff_ne, baEq, Int.not_lt, Int.not_le, ne_eq, Decidable.not_not] at *
  all_goals try simp only [fBelow, fOnce, etaToken, etaNode, etaBuilder, etaPolicy, etaPage, etaVisit, etaTab, etaServer, etaCache, etaNet, etaLoader, etaSheet, etaResult, etaSlot, etaModule, etaAddr, etaRequest, etaResponse, etaConn, etaGuess, etaEntry, etaSent, etaFile, baSz, List.size_toArray, List.length_cons, List.length_nil, Nat.reduceAdd, Int.toNat_zero, List.drop_zero, decide_eq_true_eq, decide_eq_false_iff_not, Bool.not_eq_true', Bool.not_eq_false', bne_iff_ne, bne_eq_false_iff_eq, beq_iff_eq, beq_eq_false_iff_ne, Bool.not_eq_true, Bool.not_eq_false, ne_eq, Decidable.not_not, baEq, decide_not, Prod.mk.injEq, and_true, true_and, Room, List.nil_append, Nat.zero_add, Int.not_lt, Int.not_le] at *)
def E17 : D.Env := E16.addX 39 fOnce
theorem E17ok : EOk Try.prog E17 := E16ok.addX k39_16
theorem getD_in {α : Type} [Inhabited α] {l : List α} {i : Nat} (h : i < l.length) : l.getD i default ∈ l := by
  rw [List.getD_eq_getElem?_getD, List.getElem?_eq_getElem h]; exact List.getElem_mem _
def fIntL : Xct := ⟨[.u, .v (.sl .int)], [.el .int], fun (x_ : Unit × (List Int) × Unit) => 0 < x_.2.1.length ∧ x_.2.1.length ≤ 256, fun (x_ : Unit × (List Int) × Unit) (y_ : Int × Unit) => y_.1 ∈ x_.2.1⟩
-- spec.l1Int
theorem k45_17 : fIntL.ok Try.prog 45 := Xct.of (S := fIntL) (L := fun _ _ => none) (kp := [0,1,4]) E17ok Try.func45 (by kernel_rfl) (by kernel_rfl) (by
  rintro ⟨(c : PUnit), (l : List Int), _⟩ hp
  refine holds_of (X := .ob (fBelow.pre ((), (↑(List.length l) : Int), ())) <|
 .lp (Int × PUnit) (True) (fBelow.is ((), (↑(List.length l) : Int), ())) fun y1 =>
 .ob ((0 : Int) ≤ y1.fst ∧ y1.fst < (↑(List.length l) : Int)) <|
  .leaf (mkR fIntL.rs (List.getD l y1.fst.toNat default, ())) [] []) (by kernel_rfl) ?_
  refine ob_i trivial fun _ => lp_i trivial fun y1 i1 => ob_i ?_ fun o2 => Xct.leafY (S := fIntL) (List.getD l y1.fst.toNat default, ()) ?_
  all_goals try simp only [decide_eq_true_eq, decide_eq_false_iff_not, Bool.not_eq_true', Bool.not_eq_false', bne_iff_ne, bne_eq_false_iff_eq, beq_iff_eq, beq_eq_false_iff_ne, baEq, Int.not_lt, Int.not_le, ne_eq, Decidable.not_not] at *
  all_goals try simp only [fBelow, fIntL, etaToken, etaNode, etaBuilder, etaPolicy, etaPage, etaVisit, etaTab, etaServer, etaCache, etaNet, etaLoader, etaSheet, etaResult, etaSlot, etaModule, etaAddr, etaRequest, etaResponse, etaConn, etaGuess, etaEntry, etaSent, etaFile, baSz, List.size_toArray, List.length_cons, List.length_nil, Nat.reduceAdd, Int.toNat_zero, List.drop_zero, decide_eq_true_eq, decide_eq_false_iff_not, Bool.not_eq_true', Bool.not_eq_false', bne_iff_ne, bne_eq_false_iff_eq, beq_iff_eq, beq_eq_false_iff_ne, Bool.not_eq_true, Bool.not_eq_false, ne_eq, Decidable.not_not, baEq, decide_not, Prod.mk.injEq, and_true, true_and, Room, List.nil_append, Nat.zero_add, Int.not_lt, Int.not_le] at *
  all_goals first | trivial | omega | skip
  all_goals (refine getD_in ?_; omega))
def E18 : D.Env := E17.addX 45 fIntL
theorem E18ok : EOk Try.prog E18 := E17ok.addX k45_17
def fStrL : Xct := ⟨[.u, .v (.sl .str)], [.el .str], fun (x_ : Unit × (List ByteArray) × Unit) => 0 < x_.2.1.length ∧ x_.2.1.length ≤ 256 ∧ x_.2.1.all (fun s => decide (s.size ≤ 30)) = true, fun (x_ : Unit × (List ByteArray) × Unit) (y_ : ByteArray × Unit) => y_.1.size ≤ 30⟩
-- spec.l1Str
theorem k52_18 : fStrL.ok Try.prog 52 := Xct.of (S := fStrL) (L := fun _ _ => none) (kp := [0,1,4]) E18ok Try.func52 (by kernel_rfl) (by kernel_rfl) (by
  rintro ⟨(c : PUnit), (l : List ByteArray), _⟩ hp
  refine holds_of (X := .ob (fBelow.pre ((), (↑(List.length l) : Int), ())) <|
 .lp (Int × PUnit) (True) (fBelow.is ((), (↑(List.length l) : Int), ())) fun y1 =>
 .ob ((0 : Int) ≤ y1.fst ∧ y1.fst < (↑(List.length l) : Int)) <|
  .leaf (mkR fStrL.rs (List.getD l y1.fst.toNat default, ())) [] []) (by kernel_rfl) ?_
  refine ob_i trivial fun _ => lp_i trivial fun y1 i1 => ob_i ?_ fun o2 => Xct.leafY (S := fStrL) (List.getD l y1.fst.toNat default, ()) ?_
  all_goals try simp only [decide_eq_true_eq, decide_eq_false_iff_not, Bool.not_eq_true', Bool.not_eq_false', bne_iff_ne, bne_eq_false_iff_eq, beq_iff_eq, beq_eq_false_iff_ne, baEq, Int.not_lt, Int.not_le, ne_eq, Decidable.not_not] at *
  all_goals try simp only [fBelow, fStrL, etaToken, etaNode, etaBuilder, etaPolicy, etaPage, etaVisit, etaTab, etaServer, etaCache, etaNet, etaLoader, etaSheet, etaResult, etaSlot, etaModule, etaAddr, etaRequest, etaResponse, etaConn, etaGuess, etaEntry, etaSent, etaFile, baSz, List.size_toArray, List.length_cons, List.length_nil, Nat.reduceAdd, Int.toNat_zero, List.drop_zero, decide_eq_true_eq, decide_eq_false_iff_not, Bool.not_eq_true', Bool.not_eq_false', bne_iff_ne, bne_eq_false_iff_eq, beq_iff_eq, beq_eq_false_iff_ne, Bool.not_eq_true, Bool.not_eq_false, ne_eq, Decidable.not_not, baEq, decide_not, Prod.mk.injEq, and_true, true_and, Room, List.nil_append, Nat.zero_add, Int.not_lt, Int.not_le] at *
  all_goals first | trivial | omega | skip
  have hm := getD_in (i := y1.fst.toNat) (l := l) (by omega)
  simpa using List.all_eq_true.1 hp.2.2 _ hm)
def E19 : D.Env := E18.addX 52 fStrL
theorem E19ok : EOk Try.prog E19 := E18ok.addX k52_18
def fBig : Fct := ⟨[.v (.sl .u8)], [.el .bool], fun (x_ : (List Int) × Unit) => True, fun (x_ : (List Int) × Unit) => (decide (1048576 < x_.1.length), ())⟩
-- laws.big
theorem k5_19 : fBig.ok Try.prog 5 := Fct.of (S := fBig) (L := fun _ _ => none) (kp := [0,2]) E19ok Try.func5 (by kernel_rfl) (by kernel_rfl) (by
  rintro ⟨(l : List Int), _⟩ hp
  refine holds_of (X := .leaf (mkR fBig.rs (decide ((↑(List.length l) : Int) > (1048576 : Int)), ())) [] []) (by kernel_rfl) ?_
  refine Fct.leafY ?_
  all_goals try simp only [decide_eq_true_eq, decide_eq_false_iff_not, Bool.not_eq_true', Bool.not_eq_false', bne_iff_ne, bne_eq_false_iff_eq, beq_iff_eq, beq_eq_false_iff_ne, baEq, Int.not_lt, Int.not_le, ne_eq, Decidable.not_not] at *
  all_goals try simp only [fBig, etaToken, etaNode, etaBuilder, etaPolicy, etaPage, etaVisit, etaTab, etaServer, etaCache, etaNet, etaLoader, etaSheet, etaResult, etaSlot, etaModule, etaAddr, etaRequest, etaResponse, etaConn, etaGuess, etaEntry, etaSent, etaFile, baSz, List.size_toArray, List.length_cons, List.length_nil, Nat.reduceAdd, Int.toNat_zero, List.drop_zero, decide_eq_true_eq, decide_eq_false_iff_not, Bool.not_eq_true', Bool.not_eq_false', bne_iff_ne, bne_eq_false_iff_eq, beq_iff_eq, beq_eq_false_iff_ne, Bool.not_eq_true, Bool.not_eq_false, ne_eq, Decidable.not_not, baEq, decide_not, Prod.mk.injEq, and_true, true_and, Room, List.nil_append, Nat.zero_add, Int.not_lt, Int.not_le, sameSize, ByteArray.size_append] at *
  all_goals try simp (disch := omega) only [wrapId', toNat1] at *
  all_goals try simp (disch := omega) only [if_pos, if_neg]
  all_goals first | trivial | omega | grind [wrapId', toNat1, drop_cons, drop_end, good_len, maxLen, sameSize, ByteArray.size_append])
def E20 : D.Env := E19.add 5 fBig
theorem E20ok : EOk Try.prog E20 := E19ok.add k5_19
def fWord : Xct := ⟨[.u], [.el .str], fun (x_ : Unit × Unit) => True, fun (x_ : Unit × Unit) (y_ : ByteArray × Unit) => y_.1.size ≤ 30⟩
-- spec.l4Host
theorem k54_20 : fWord.ok Try.prog 54 := Xct.of (S := fWord) (L := fun _ _ => none) (kp := [0,2]) E20ok Try.func54 (by kernel_rfl) (by kernel_rfl) (by
  rintro ⟨(c : PUnit), _⟩ hp
  refine holds_of (X := .ob (fStrL.pre
  ((),
    [{ data := #[(104 : UInt8), (111 : UInt8), (109 : UInt8), (101 : UInt8)] : ByteArray },
      { data := #[(99 : UInt8), (100 : UInt8), (110 : UInt8)] : ByteArray },
      { data := #[(101 : UInt8), (118 : UInt8), (105 : UInt8), (108 : UInt8)] : ByteArray },
      { data := #[(104 : UInt8), (111 : UInt8), (109 : UInt8), (101 : UInt8)] : ByteArray }],
    ())) <|
 .lp (ByteArray × PUnit) (True) (fStrL.is
  ((),
    [{ data := #[(104 : UInt8), (111 : UInt8), (109 : UInt8), (101 : UInt8)] : ByteArray },
      { data := #[(99 : UInt8), (100 : UInt8), (110 : UInt8)] : ByteArray },
      { data := #[(101 : UInt8), (118 : UInt8), (105 : UInt8), (108 : UInt8)] : ByteArray },
      { data := #[(104 : UInt8), (111 : UInt8), (109 : UInt8), (101 : UInt8)] : ByteArray }],
    ())) fun y2 =>
 .leaf (mkR fWord.rs (y2.fst, ())) [] []) (by kernel_rfl) ?_
  refine ob_i ?_ fun o1 => lp_i trivial fun y2 i2 => Xct.leafY (S := fWord) (y2.fst, ()) ?_
  all_goals first | trivial | (refine ⟨?_, ?_, ?_⟩ <;> decide) | skip
  all_goals try simp only [decide_eq_true_eq, decide_eq_false_iff_not, Bool.not_eq_true', Bool.not_eq_false', bne_iff_ne, bne_eq_false_iff_eq, beq_iff_eq, beq_eq_false_iff_ne, baEq, Int.not_lt, Int.not_le, ne_eq, Decidable.not_not] at *
  all_goals try simp only [fStrL, fWord, etaToken, etaNode, etaBuilder, etaPolicy, etaPage, etaVisit, etaTab, etaServer, etaCache, etaNet, etaLoader, etaSheet, etaResult, etaSlot, etaModule, etaAddr, etaRequest, etaResponse, etaConn, etaGuess, etaEntry, etaSent, etaFile, baSz, List.size_toArray, List.length_cons, List.length_nil, Nat.reduceAdd, Int.toNat_zero, List.drop_zero, decide_eq_true_eq, decide_eq_false_iff_not, Bool.not_eq_true', Bool.not_eq_false', bne_iff_ne, bne_eq_false_iff_eq, beq_iff_eq, beq_eq_false_iff_ne, Bool.not_eq_true, Bool.not_eq_false, ne_eq, Decidable.not_not, baEq, decide_not, Prod.mk.injEq, and_true, true_and, Room, List.nil_append, Nat.zero_add, Int.not_lt, Int.not_le, sameSize, ByteArray.size_append] at *
  all_goals try simp (disch := omega) only [wrapId', toNat1] at *
  all_goals try simp (disch := omega) only [if_pos, if_neg]
  all_goals first | trivial | omega | grind [wrapId', toNat1, drop_cons, drop_end, good_len, maxLen, sameSize, ByteArray.size_append])
def E21 : D.Env := E20.addX 54 fWord
theorem E21ok : EOk Try.prog E21 := E20ok.addX k54_20
-- spec.l4Path
theorem k55_21 : fWord.ok Try.prog 55 := Xct.of (S := fWord) (L := fun _ _ => none) (kp := [0,2]) E21ok Try.func55 (by kernel_rfl) (by kernel_rfl) (by
  rintro ⟨(c : PUnit), _⟩ hp
  refine holds_of (X := .ob (fStrL.pre
  ((),
    [{ data := #[(105 : UInt8), (110 : UInt8), (100 : UInt8), (101 : UInt8), (120 : UInt8)] : ByteArray },
      { data := #[(97 : UInt8), (112 : UInt8), (112 : UInt8)] : ByteArray },
      { data := #[(115 : UInt8), (116 : UInt8), (121 : UInt8), (108 : UInt8), (101 : UInt8)] : ByteArray },
      { data := #[(108 : UInt8), (105 : UInt8), (98 : UInt8)] : ByteArray },
      { data := #[(108 : UInt8), (111 : UInt8), (103 : UInt8), (111 : UInt8)] : ByteArray },
      { data := #[(110 : UInt8), (101 : UInt8), (120 : UInt8), (116 : UInt8)] : ByteArray },
      { data := #[(117 : UInt8), (116 : UInt8), (105 : UInt8), (108 : UInt8)] : ByteArray }],
    ())) <|
 .lp (ByteArray × PUnit) (True) (fStrL.is
  ((),
    [{ data := #[(105 : UInt8), (110 : UInt8), (100 : UInt8), (101 : UInt8), (120 : UInt8)] : ByteArray },
      { data := #[(97 : UInt8), (112 : UInt8), (112 : UInt8)] : ByteArray },
      { data := #[(115 : UInt8), (116 : UInt8), (121 : UInt8), (108 : UInt8), (101 : UInt8)] : ByteArray },
      { data := #[(108 : UInt8), (105 : UInt8), (98 : UInt8)] : ByteArray },
      { data := #[(108 : UInt8), (111 : UInt8), (103 : UInt8), (111 : UInt8)] : ByteArray },
      { data := #[(110 : UInt8), (101 : UInt8), (120 : UInt8), (116 : UInt8)] : ByteArray },
      { data := #[(117 : UInt8), (116 : UInt8), (105 : UInt8), (108 : UInt8)] : ByteArray }],
    ())) fun y2 =>
 .leaf (mkR fWord.rs (y2.fst, ())) [] []) (by kernel_rfl) ?_
  refine ob_i ?_ fun o1 => lp_i trivial fun y2 i2 => Xct.leafY (S := fWord) (y2.fst, ()) ?_
  all_goals first | trivial | (refine ⟨?_, ?_, ?_⟩ <;> decide) | skip
  all_goals try simp only [decide_eq_true_eq, decide_eq_false_iff_not, Bool.not_eq_true', Bool.not_eq_false', bne_iff_ne, bne_eq_false_iff_eq, beq_iff_eq, beq_eq_false_iff_ne, baEq, Int.not_lt, Int.not_le, ne_eq, Decidable.not_not] at *
  all_goals try simp only [fStrL, fWord, etaToken, etaNode, etaBuilder, etaPolicy, etaPage, etaVisit, etaTab, etaServer, etaCache, etaNet, etaLoader, etaSheet, etaResult, etaSlot, etaModule, etaAddr, etaRequest, etaResponse, etaConn, etaGuess, etaEntry, etaSent, etaFile, baSz, List.size_toArray, List.length_cons, List.length_nil, Nat.reduceAdd, Int.toNat_zero, List.drop_zero, decide_eq_true_eq, decide_eq_false_iff_not, Bool.not_eq_true', Bool.not_eq_false', bne_iff_ne, bne_eq_false_iff_eq, beq_iff_eq, beq_eq_false_iff_ne, Bool.not_eq_true, Bool.not_eq_false, ne_eq, Decidable.not_not, baEq, decide_not, Prod.mk.injEq, and_true, true_and, Room, List.nil_append, Nat.zero_add, Int.not_lt, Int.not_le, sameSize, ByteArray.size_append] at *
  all_goals try simp (disch := omega) only [wrapId', toNat1] at *
  all_goals try simp (disch := omega) only [if_pos, if_neg]
  all_goals first | trivial | omega | grind [wrapId', toNat1, drop_cons, drop_end, good_len, maxLen, sameSize, ByteArray.size_append])
def E22 : D.Env := E21.addX 55 fWord
theorem E22ok : EOk Try.prog E22 := E21ok.addX k55_21
def fAddr : Xct := ⟨[.u], [.el .addr], fun (x_ : Unit × Unit) => True, fun (x_ : Unit × Unit) (y_ : SAddr × Unit) => y_.1.host.size ≤ 30 ∧ y_.1.path.size ≤ 30⟩
-- spec.l4Addr
theorem k38_22 : fAddr.ok Try.prog 38 := Xct.of (S := fAddr) (L := fun _ _ => none) (kp := [0,2,3]) E22ok Try.func38 (by kernel_rfl) (by kernel_rfl) (by
  rintro ⟨(c : PUnit), _⟩ hp
  refine holds_of (X := .ob (fWord.pre ((), ())) <|
 .lp (ByteArray × PUnit) (True) (fWord.is ((), ())) fun y1 =>
 .ob (fWord.pre ((), ())) <|
  .lp (ByteArray × PUnit) (True) (fWord.is ((), ())) fun y2 =>
  .leaf (mkR fAddr.rs (⟨y1.fst, y2.fst⟩, ())) [] []) (by kernel_rfl) ?_
  refine ob_i trivial fun _ => lp_i trivial fun y1 i1 => ob_i trivial fun _ => lp_i trivial fun y2 i2 => Xct.leafY (S := fAddr) (⟨y1.fst, y2.fst⟩, ()) ?_
  all_goals try simp only [decide_eq_true_eq, decide_eq_false_iff_not, Bool.not_eq_true', Bool.not_eq_false', bne_iff_ne, bne_eq_false_iff_eq, beq_iff_eq, beq_eq_false_iff_ne, baEq, Int.not_lt, Int.not_le, ne_eq, Decidable.not_not] at *
  all_goals try simp only [fAddr, fWord, etaToken, etaNode, etaBuilder, etaPolicy, etaPage, etaVisit, etaTab, etaServer, etaCache, etaNet, etaLoader, etaSheet, etaResult, etaSlot, etaModule, etaAddr, etaRequest, etaResponse, etaConn, etaGuess, etaEntry, etaSent, etaFile, baSz, List.size_toArray, List.length_cons, List.length_nil, Nat.reduceAdd, Int.toNat_zero, List.drop_zero, decide_eq_true_eq, decide_eq_false_iff_not, Bool.not_eq_true', Bool.not_eq_false', bne_iff_ne, bne_eq_false_iff_eq, beq_iff_eq, beq_eq_false_iff_ne, Bool.not_eq_true, Bool.not_eq_false, ne_eq, Decidable.not_not, baEq, decide_not, Prod.mk.injEq, and_true, true_and, Room, List.nil_append, Nat.zero_add, Int.not_lt, Int.not_le, sameSize, ByteArray.size_append] at *
  all_goals try simp (disch := omega) only [wrapId', toNat1] at *
  all_goals try simp (disch := omega) only [if_pos, if_neg]
  all_goals first | trivial | omega | grind [wrapId', toNat1, drop_cons, drop_end, good_len, maxLen, sameSize, ByteArray.size_append])
def E23 : D.Env := E22.addX 38 fAddr
theorem E23ok : EOk Try.prog E23 := E22ok.addX k38_22
def fText8 : Xct := ⟨[.u, .v (.el .int)], [.el .str], fun (x_ : Unit × Int × Unit) => 0 ≤ x_.2.1 ∧ x_.2.1 ≤ 100, fun (x_ : Unit × Int × Unit) (y_ : ByteArray × Unit) => y_.1.size ≤ 31 * x_.2.1 + 31⟩
abbrev W_spec_l8Text_fText8_3 (c : Unit) (most : Int) : LInv := ⟨[⟨.s, 5, true, .el .str⟩, ⟨.s, 6, true, .el .int⟩], fun _ (x_ : ByteArray × Int × Unit) => 0 ≤ x_.2.1 ∧ x_.2.1 ≤ most + 1 ∧ x_.1.size + 31 * x_.2.1 ≤ 31 * most + 31, fun (x_ : ByteArray × Int × Unit) => x_.2.1.toNat⟩
-- spec.l8Text
theorem k64_23 : fText8.ok Try.prog 64 := Xct.of (S := fText8) (L := fun ⟨c, most, _⟩ => fun | 3 => some (W_spec_l8Text_fText8_3 c most) | _ => none) (kp := [0,1,4,5,6,12,16,1000012,1000016]) E23ok Try.func64 (by kernel_rfl) (by kernel_rfl) (by
  rintro ⟨(c : PUnit), (most : Int), _⟩ hp
  refine holds_of (X := .ob (fBelow.pre ((), most, ())) <|
 .lp (Int × PUnit) (True) (fBelow.is ((), most, ())) fun y1 =>
 lpx (W_spec_l8Text_fText8_3 c most) ({ data := #[] : ByteArray }, (IntKind.i64.wrap ((1 : Int) + y1.fst), ())) fun (y2 : ByteArray × Int × PUnit) bk2 =>
  .br (decide (y2.snd.fst > (0 : Int)))
   (.br (!y2.fst.toList == { data := #[] : ByteArray }.toList)
    (.ob (sameSize y2.fst { data := #[(59 : UInt8)] : ByteArray }) <|
     .ob (fStrL.pre
  ((),
    [{ data := #[(115 : UInt8), (97 : UInt8), (121 : UInt8), (32 : UInt8), (104 : UInt8), (105 : UInt8)] : ByteArray },
      {
        data :=
          #[(99 : UInt8), (111 : UInt8), (117 : UInt8), (110 : UInt8), (116 : UInt8), (32 : UInt8), (112 : UInt8)] :
        ByteArray },
      {
        data :=
          #[(99 : UInt8), (111 : UInt8), (117 : UInt8), (110 : UInt8), (116 : UInt8), (32 : UInt8), (115 : UInt8),
            (99 : UInt8), (114 : UInt8), (105 : UInt8), (112 : UInt8), (116 : UInt8)] :
        ByteArray },
      { data := #[(108 : UInt8), (111 : UInt8), (111 : UInt8), (107 : UInt8), (32 : UInt8), (112 : UInt8)] :
        ByteArray },
      { data := #[(108 : UInt8), (111 : UInt8), (111 : UInt8), (107 : UInt8), (32 : UInt8), (98 : UInt8)] : ByteArray },
      { data := #[(97 : UInt8), (100 : UInt8), (100 : UInt8), (32 : UInt8), (98 : UInt8)] : ByteArray },
      { data := #[(97 : UInt8), (100 : UInt8), (100 : UInt8), (32 : UInt8), (112 : UInt8)] : ByteArray },
      {
        data :=
          #[(119 : UInt8), (114 : UInt8), (105 : UInt8), (116 : UInt8), (101 : UInt8), (32 : UInt8), (91 : UInt8),
            (112 : UInt8), (93 : UInt8), (120 : UInt8), (91 : UInt8), (47 : UInt8), (112 : UInt8), (93 : UInt8)] :
        ByteArray },
      {
        data :=
          #[(119 : UInt8), (114 : UInt8), (105 : UInt8), (116 : UInt8), (101 : UInt8), (32 : UInt8), (91 : UInt8),
            (105 : UInt8), (109 : UInt8), (103 : UInt8), (32 : UInt8), (115 : UInt8), (114 : UInt8), (99 : UInt8),
            (61 : UInt8), (108 : UInt8), (111 : UInt8), (103 : UInt8), (111 : UInt8), (93 : UInt8)] :
        ByteArray },
      {
        data :=
          #[(119 : UInt8), (114 : UInt8), (105 : UInt8), (116 : UInt8), (101 : UInt8), (32 : UInt8), (91 : UInt8),
            (108 : UInt8), (105 : UInt8), (110 : UInt8), (107 : UInt8), (32 : UInt8), (104 : UInt8), (114 : UInt8),
            (101 : UInt8), (102 : UInt8), (61 : UInt8), (115 : UInt8), (116 : UInt8), (121 : UInt8), (108 : UInt8),
            (101 : UInt8), (93 : UInt8)] :
        ByteArray },
      {
        data :=
          #[(119 : UInt8), (114 : UInt8), (105 : UInt8), (116 : UInt8), (101 : UInt8), (32 : UInt8), (91 : UInt8),
            (98 : UInt8), (93 : UInt8)] :
        ByteArray }],
    ())) <|
     .lp (ByteArray × PUnit) (True) (fStrL.is
  ((),
    [{ data := #[(115 : UInt8), (97 : UInt8), (121 : UInt8), (32 : UInt8), (104 : UInt8), (105 : UInt8)] : ByteArray },
      {
        data :=
          #[(99 : UInt8), (111 : UInt8), (117 : UInt8), (110 : UInt8), (116 : UInt8), (32 : UInt8), (112 : UInt8)] :
        ByteArray },
      {
        data :=
          #[(99 : UInt8), (111 : UInt8), (117 : UInt8), (110 : UInt8), (116 : UInt8), (32 : UInt8), (115 : UInt8),
            (99 : UInt8), (114 : UInt8), (105 : UInt8), (112 : UInt8), (116 : UInt8)] :
        ByteArray },
      { data := #[(108 : UInt8), (111 : UInt8), (111 : UInt8), (107 : UInt8), (32 : UInt8), (112 : UInt8)] :
        ByteArray },
      { data := #[(108 : UInt8), (111 : UInt8), (111 : UInt8), (107 : UInt8), (32 : UInt8), (98 : UInt8)] : ByteArray },
      { data := #[(97 : UInt8), (100 : UInt8), (100 : UInt8), (32 : UInt8), (98 : UInt8)] : ByteArray },
      { data := #[(97 : UInt8), (100 : UInt8), (100 : UInt8), (32 : UInt8), (112 : UInt8)] : ByteArray },
      {
        data :=
          #[(119 : UInt8), (114 : UInt8), (105 : UInt8), (116 : UInt8), (101 : UInt8), (32 : UInt8), (91 : UInt8),
            (112 : UInt8), (93 : UInt8), (120 : UInt8), (91 : UInt8), (47 : UInt8), (112 : UInt8), (93 : UInt8)] :
        ByteArray },
      {
        data :=
          #[(119 : UInt8), (114 : UInt8), (105 : UInt8), (116 : UInt8), (101 : UInt8), (32 : UInt8), (91 : UInt8),
            (105 : UInt8), (109 : UInt8), (103 : UInt8), (32 : UInt8), (115 : UInt8), (114 : UInt8), (99 : UInt8),
            (61 : UInt8), (108 : UInt8), (111 : UInt8), (103 : UInt8), (111 : UInt8), (93 : UInt8)] :
        ByteArray },
      {
        data :=
          #[(119 : UInt8), (114 : UInt8), (105 : UInt8), (116 : UInt8), (101 : UInt8), (32 : UInt8), (91 : UInt8),
            (108 : UInt8), (105 : UInt8), (110 : UInt8), (107 : UInt8), (32 : UInt8), (104 : UInt8), (114 : UInt8),
            (101 : UInt8), (102 : UInt8), (61 : UInt8), (115 : UInt8), (116 : UInt8), (121 : UInt8), (108 : UInt8),
            (101 : UInt8), (93 : UInt8)] :
        ByteArray },
      {
        data :=
          #[(119 : UInt8), (114 : UInt8), (105 : UInt8), (116 : UInt8), (101 : UInt8), (32 : UInt8), (91 : UInt8),
            (98 : UInt8), (93 : UInt8)] :
        ByteArray }],
    ())) fun y7 =>
     .ob (sameSize (y2.fst ++ { data := #[(59 : UInt8)] : ByteArray }) y7.fst) <|
      .ob (Value.int IntKind.i64 most = Value.int IntKind.i64 most) <|
      .ob (Value.string { data := #[] : ByteArray } = Value.string { data := #[] : ByteArray }) <|
      .ob (bk2 (y2.fst ++ { data := #[(59 : UInt8)] : ByteArray } ++ y7.fst, (IntKind.i64.wrap (y2.snd.fst - (1 : Int)), ()))) <|
      .ok)
    (.ob (fStrL.pre
  ((),
    [{ data := #[(115 : UInt8), (97 : UInt8), (121 : UInt8), (32 : UInt8), (104 : UInt8), (105 : UInt8)] : ByteArray },
      {
        data :=
          #[(99 : UInt8), (111 : UInt8), (117 : UInt8), (110 : UInt8), (116 : UInt8), (32 : UInt8), (112 : UInt8)] :
        ByteArray },
      {
        data :=
          #[(99 : UInt8), (111 : UInt8), (117 : UInt8), (110 : UInt8), (116 : UInt8), (32 : UInt8), (115 : UInt8),
            (99 : UInt8), (114 : UInt8), (105 : UInt8), (112 : UInt8), (116 : UInt8)] :
        ByteArray },
      { data := #[(108 : UInt8), (111 : UInt8), (111 : UInt8), (107 : UInt8), (32 : UInt8), (112 : UInt8)] :
        ByteArray },
      { data := #[(108 : UInt8), (111 : UInt8), (111 : UInt8), (107 : UInt8), (32 : UInt8), (98 : UInt8)] : ByteArray },
      { data := #[(97 : UInt8), (100 : UInt8), (100 : UInt8), (32 : UInt8), (98 : UInt8)] : ByteArray },
      { data := #[(97 : UInt8), (100 : UInt8), (100 : UInt8), (32 : UInt8), (112 : UInt8)] : ByteArray },
      {
        data :=
          #[(119 : UInt8), (114 : UInt8), (105 : UInt8), (116 : UInt8), (101 : UInt8), (32 : UInt8), (91 : UInt8),
            (112 : UInt8), (93 : UInt8), (120 : UInt8), (91 : UInt8), (47 : UInt8), (112 : UInt8), (93 : UInt8)] :
        ByteArray },
      {
        data :=
          #[(119 : UInt8), (114 : UInt8), (105 : UInt8), (116 : UInt8), (101 : UInt8), (32 : UInt8), (91 : UInt8),
            (105 : UInt8), (109 : UInt8), (103 : UInt8), (32 : UInt8), (115 : UInt8), (114 : UInt8), (99 : UInt8),
            (61 : UInt8), (108 : UInt8), (111 : UInt8), (103 : UInt8), (111 : UInt8), (93 : UInt8)] :
        ByteArray },
      {
        data :=
          #[(119 : UInt8), (114 : UInt8), (105 : UInt8), (116 : UInt8), (101 : UInt8), (32 : UInt8), (91 : UInt8),
            (108 : UInt8), (105 : UInt8), (110 : UInt8), (107 : UInt8), (32 : UInt8), (104 : UInt8), (114 : UInt8),
            (101 : UInt8), (102 : UInt8), (61 : UInt8), (115 : UInt8), (116 : UInt8), (121 : UInt8), (108 : UInt8),
            (101 : UInt8), (93 : UInt8)] :
        ByteArray },
      {
        data :=
          #[(119 : UInt8), (114 : UInt8), (105 : UInt8), (116 : UInt8), (101 : UInt8), (32 : UInt8), (91 : UInt8),
            (98 : UInt8), (93 : UInt8)] :
        ByteArray }],
    ())) <|
     .lp (ByteArray × PUnit) (True) (fStrL.is
  ((),
    [{ data := #[(115 : UInt8), (97 : UInt8), (121 : UInt8), (32 : UInt8), (104 : UInt8), (105 : UInt8)] : ByteArray },
      {
        data :=
          #[(99 : UInt8), (111 : UInt8), (117 : UInt8), (110 : UInt8), (116 : UInt8), (32 : UInt8), (112 : UInt8)] :
        ByteArray },
      {
        data :=
          #[(99 : UInt8), (111 : UInt8), (117 : UInt8), (110 : UInt8), (116 : UInt8), (32 : UInt8), (115 : UInt8),
            (99 : UInt8), (114 : UInt8), (105 : UInt8), (112 : UInt8), (116 : UInt8)] :
        ByteArray },
      { data := #[(108 : UInt8), (111 : UInt8), (111 : UInt8), (107 : UInt8), (32 : UInt8), (112 : UInt8)] :
        ByteArray },
      { data := #[(108 : UInt8), (111 : UInt8), (111 : UInt8), (107 : UInt8), (32 : UInt8), (98 : UInt8)] : ByteArray },
      { data := #[(97 : UInt8), (100 : UInt8), (100 : UInt8), (32 : UInt8), (98 : UInt8)] : ByteArray },
      { data := #[(97 : UInt8), (100 : UInt8), (100 : UInt8), (32 : UInt8), (112 : UInt8)] : ByteArray },
      {
        data :=
          #[(119 : UInt8), (114 : UInt8), (105 : UInt8), (116 : UInt8), (101 : UInt8), (32 : UInt8), (91 : UInt8),
            (112 : UInt8), (93 : UInt8), (120 : UInt8), (91 : UInt8), (47 : UInt8), (112 : UInt8), (93 : UInt8)] :
        ByteArray },
      {
        data :=
          #[(119 : UInt8), (114 : UInt8), (105 : UInt8), (116 : UInt8), (101 : UInt8), (32 : UInt8), (91 : UInt8),
            (105 : UInt8), (109 : UInt8), (103 : UInt8), (32 : UInt8), (115 : UInt8), (114 : UInt8), (99 : UInt8),
            (61 : UInt8), (108 : UInt8), (111 : UInt8), (103 : UInt8), (111 : UInt8), (93 : UInt8)] :
        ByteArray },
      {
        data :=
          #[(119 : UInt8), (114 : UInt8), (105 : UInt8), (116 : UInt8), (101 : UInt8), (32 : UInt8), (91 : UInt8),
            (108 : UInt8), (105 : UInt8), (110 : UInt8), (107 : UInt8), (32 : UInt8), (104 : UInt8), (114 : UInt8),
            (101 : UInt8), (102 : UInt8), (61 : UInt8), (115 : UInt8), (116 : UInt8), (121 : UInt8), (108 : UInt8),
            (101 : UInt8), (93 : UInt8)] :
        ByteArray },
      {
        data :=
          #[(119 : UInt8), (114 : UInt8), (105 : UInt8), (116 : UInt8), (101 : UInt8), (32 : UInt8), (91 : UInt8),
            (98 : UInt8), (93 : UInt8)] :
        ByteArray }],
    ())) fun y11 =>
     .ob (sameSize y2.fst y11.fst) <|
      .ob (Value.int IntKind.i64 most = Value.int IntKind.i64 most) <|
      .ob (Value.string { data := #[] : ByteArray } = Value.string { data := #[] : ByteArray }) <|
      .ob (bk2 (y2.fst ++ y11.fst, (IntKind.i64.wrap (y2.snd.fst - (1 : Int)), ()))) <|
      .ok))
   (.leaf (mkR fText8.rs (y2.fst, ())) [] [])) (by kernel_rfl) ?_
  refine ob_i trivial fun _ => lp_i trivial fun y1 i1 => lpx_i ?_ fun (y2 : ByteArray × Int × PUnit) i2 => br_i (fun h3 => br_i (fun h4 => ob_i ?_ fun o5 => ob_i ?_ fun o6 => lp_i trivial fun y7 i7 => ob_i ?_ fun o8 => ob_i rfl fun _ => ob_i rfl fun _ => ob_i ?_ fun o9 => trivial) (fun h4 => ob_i ?_ fun o10 => lp_i trivial fun y11 i11 => ob_i ?_ fun o12 => ob_i rfl fun _ => ob_i rfl fun _ => ob_i ?_ fun o13 => trivial)) (fun h3 => Xct.leafY (S := fText8) (y2.fst, ()) ?_)
  all_goals first | trivial | (refine ⟨?_, ?_, ?_⟩ <;> decide) | skip
  all_goals try simp only [decide_eq_true_eq, decide_eq_false_iff_not, Bool.not_eq_true', Bool.not_eq_false', bne_iff_ne, bne_eq_false_iff_eq, beq_iff_eq, beq_eq_false_iff_ne, baEq, Int.not_lt, Int.not_le, ne_eq, Decidable.not_not] at *
  all_goals try simp only [W_spec_l8Text_fText8_3, fBelow, fStrL, fText8, etaToken, etaNode, etaBuilder, etaPolicy, etaPage, etaVisit, etaTab, etaServer, etaCache, etaNet, etaLoader, etaSheet, etaResult, etaSlot, etaModule, etaAddr, etaRequest, etaResponse, etaConn, etaGuess, etaEntry, etaSent, etaFile, baSz, List.size_toArray, List.length_cons, List.length_nil, Nat.reduceAdd, Int.toNat_zero, List.drop_zero, decide_eq_true_eq, decide_eq_false_iff_not, Bool.not_eq_true', Bool.not_eq_false', bne_iff_ne, bne_eq_false_iff_eq, beq_iff_eq, beq_eq_false_iff_ne, Bool.not_eq_true, Bool.not_eq_false, ne_eq, Decidable.not_not, baEq, decide_not, Prod.mk.injEq, and_true, true_and, Room, List.nil_append, Nat.zero_add, Int.not_lt, Int.not_le, sameSize, ByteArray.size_append] at *
  all_goals try simp (disch := omega) only [wrapId', toNat1] at *
  all_goals try simp (disch := omega) only [if_pos, if_neg]
  all_goals first | trivial | omega | grind [wrapId', toNat1, drop_cons, drop_end, good_len, maxLen, sameSize, ByteArray.size_append])
def E24 : D.Env := E23.addX 64 fText8
theorem E24ok : EOk Try.prog E24 := E23ok.addX k64_23
def fText7 : Xct := ⟨[.u], [.el .str], fun (x_ : Unit × Unit) => True, fun (x_ : Unit × Unit) (y_ : ByteArray × Unit) => y_.1.size ≤ 250⟩
abbrev W_spec_l7Text_fText7_3 (c : Unit) : LInv := ⟨[⟨.s, 3, true, .el .str⟩, ⟨.s, 4, true, .el .int⟩], fun _ (x_ : ByteArray × Int × Unit) => 0 ≤ x_.2.1 ∧ x_.2.1 ≤ 3 ∧ x_.1.size + 70 * x_.2.1 ≤ 250, fun (x_ : ByteArray × Int × Unit) => x_.2.1.toNat⟩
-- spec.l7Text
theorem k65_24 : fText7.ok Try.prog 65 := Xct.of (S := fText7) (L := fun ⟨c, _⟩ => fun | 3 => some (W_spec_l7Text_fText7_3 c) | _ => none) (kp := [0,2,3,4,8,1000008]) E24ok Try.func65 (by kernel_rfl) (by kernel_rfl) (by
  rintro ⟨(c : PUnit), _⟩ hp
  refine holds_of (X := .ob (fBelow.pre ((), (4 : Int), ())) <|
 .lp (Int × PUnit) (True) (fBelow.is ((), (4 : Int), ())) fun y1 =>
 lpx (W_spec_l7Text_fText7_3 c) ({ data := #[] : ByteArray }, (y1.fst, ())) fun (y2 : ByteArray × Int × PUnit) bk2 =>
  .br (decide (y2.snd.fst > (0 : Int)))
   (.ob (fStrL.pre
  ((),
    [{ data := #[(112 : UInt8)] : ByteArray }, { data := #[(98 : UInt8)] : ByteArray },
      { data := #[(112 : UInt8), (97 : UInt8), (103 : UInt8), (101 : UInt8)] : ByteArray },
      { data := #[(80 : UInt8)] : ByteArray }, { data := #[] : ByteArray }],
    ())) <|
    .lp (ByteArray × PUnit) (True) (fStrL.is
  ((),
    [{ data := #[(112 : UInt8)] : ByteArray }, { data := #[(98 : UInt8)] : ByteArray },
      { data := #[(112 : UInt8), (97 : UInt8), (103 : UInt8), (101 : UInt8)] : ByteArray },
      { data := #[(80 : UInt8)] : ByteArray }, { data := #[] : ByteArray }],
    ())) fun y5 =>
    .ob (sameSize y2.fst y5.fst) <|
     .ob (sameSize (y2.fst ++ y5.fst) { data := #[(58 : UInt8)] : ByteArray }) <|
     .ob (fStrL.pre
  ((),
    [{ data := #[(49 : UInt8)] : ByteArray }, { data := #[(55 : UInt8)] : ByteArray },
      { data := #[(57 : UInt8), (57 : UInt8), (57 : UInt8)] : ByteArray },
      { data := #[(49 : UInt8), (48 : UInt8), (48 : UInt8), (48 : UInt8)] : ByteArray },
      { data := #[(48 : UInt8)] : ByteArray }, { data := #[(120 : UInt8)] : ByteArray }],
    ())) <|
     .lp (ByteArray × PUnit) (True) (fStrL.is
  ((),
    [{ data := #[(49 : UInt8)] : ByteArray }, { data := #[(55 : UInt8)] : ByteArray },
      { data := #[(57 : UInt8), (57 : UInt8), (57 : UInt8)] : ByteArray },
      { data := #[(49 : UInt8), (48 : UInt8), (48 : UInt8), (48 : UInt8)] : ByteArray },
      { data := #[(48 : UInt8)] : ByteArray }, { data := #[(120 : UInt8)] : ByteArray }],
    ())) fun y9 =>
     .ob (sameSize (y2.fst ++ y5.fst ++ { data := #[(58 : UInt8)] : ByteArray }) y9.fst) <|
      .ob (sameSize (y2.fst ++ y5.fst ++ { data := #[(58 : UInt8)] : ByteArray } ++ y9.fst) { data := #[(59 : UInt8)] : ByteArray }) <|
      .ob (Value.string { data := #[] : ByteArray } = Value.string { data := #[] : ByteArray }) <|
      .ob (bk2 (y2.fst ++ y5.fst ++ { data := #[(58 : UInt8)] : ByteArray } ++ y9.fst ++ { data := #[(59 : UInt8)] : ByteArray }, (IntKind.i64.wrap (y2.snd.fst - (1 : Int)), ()))) <|
      .ok)
   (.leaf (mkR fText7.rs (y2.fst, ())) [] [])) (by kernel_rfl) ?_
  refine ob_i trivial fun _ => lp_i trivial fun y1 i1 => lpx_i ?_ fun (y2 : ByteArray × Int × PUnit) i2 => br_i (fun h3 => ob_i ?_ fun o4 => lp_i trivial fun y5 i5 => ob_i ?_ fun o6 => ob_i ?_ fun o7 => ob_i ?_ fun o8 => lp_i trivial fun y9 i9 => ob_i ?_ fun o10 => ob_i ?_ fun o11 => ob_i rfl fun _ => ob_i ?_ fun o12 => trivial) (fun h3 => Xct.leafY (S := fText7) (y2.fst, ()) ?_)
  all_goals first | trivial | (refine ⟨?_, ?_, ?_⟩ <;> decide) | skip
  all_goals try simp only [decide_eq_true_eq, decide_eq_false_iff_not, Bool.not_eq_true', Bool.not_eq_false', bne_iff_ne, bne_eq_false_iff_eq, beq_iff_eq, beq_eq_false_iff_ne, baEq, Int.not_lt, Int.not_le, ne_eq, Decidable.not_not] at *
  all_goals try simp only [W_spec_l7Text_fText7_3, fBelow, fStrL, fText7, etaToken, etaNode, etaBuilder, etaPolicy, etaPage, etaVisit, etaTab, etaServer, etaCache, etaNet, etaLoader, etaSheet, etaResult, etaSlot, etaModule, etaAddr, etaRequest, etaResponse, etaConn, etaGuess, etaEntry, etaSent, etaFile, baSz, List.size_toArray, List.length_cons, List.length_nil, Nat.reduceAdd, Int.toNat_zero, List.drop_zero, decide_eq_true_eq, decide_eq_false_iff_not, Bool.not_eq_true', Bool.not_eq_false', bne_iff_ne, bne_eq_false_iff_eq, beq_iff_eq, beq_eq_false_iff_ne, Bool.not_eq_true, Bool.not_eq_false, ne_eq, Decidable.not_not, baEq, decide_not, Prod.mk.injEq, and_true, true_and, Room, List.nil_append, Nat.zero_add, Int.not_lt, Int.not_le, sameSize, ByteArray.size_append] at *
  all_goals try simp (disch := omega) only [wrapId', toNat1] at *
  all_goals try simp (disch := omega) only [if_pos, if_neg]
  all_goals first | trivial | omega | grind [wrapId', toNat1, drop_cons, drop_end, good_len, maxLen, sameSize, ByteArray.size_append])
def E25 : D.Env := E24.addX 65 fText7
theorem E25ok : EOk Try.prog E25 := E24ok.addX k65_24
def fTag5 : Xct := ⟨[.u], [.el .str], fun (x_ : Unit × Unit) => True, fun (x_ : Unit × Unit) (y_ : ByteArray × Unit) => y_.1.size ≤ 100⟩
-- spec.l5Tag
theorem k70_25 : fTag5.ok Try.prog 70 := Xct.of (S := fTag5) (L := fun _ _ => none) (kp := [0,2,4,5,11,17,28,34,40,1000005,1000011,1000017,1000028,1000034,1000040]) E25ok Try.func70 (by kernel_rfl) (by kernel_rfl) (by
  rintro ⟨(c : PUnit), _⟩ hp
  refine holds_of (X := .ob (fBelow.pre ((), (8 : Int), ())) <|
 .lp (Int × PUnit) (True) (fBelow.is ((), (8 : Int), ())) fun y1 =>
 .br (y1.fst == (0 : Int))
  (.ob (fStrL.pre
  ((),
    [{ data := #[(112 : UInt8)] : ByteArray }, { data := #[(98 : UInt8)] : ByteArray },
      { data := #[(115 : UInt8), (99 : UInt8), (114 : UInt8), (105 : UInt8), (112 : UInt8), (116 : UInt8)] :
        ByteArray },
      { data := #[(112 : UInt8), (97 : UInt8), (103 : UInt8), (101 : UInt8)] : ByteArray }],
    ())) <|
   .lp (ByteArray × PUnit) (True) (fStrL.is
  ((),
    [{ data := #[(112 : UInt8)] : ByteArray }, { data := #[(98 : UInt8)] : ByteArray },
      { data := #[(115 : UInt8), (99 : UInt8), (114 : UInt8), (105 : UInt8), (112 : UInt8), (116 : UInt8)] :
        ByteArray },
      { data := #[(112 : UInt8), (97 : UInt8), (103 : UInt8), (101 : UInt8)] : ByteArray }],
    ())) fun y4 =>
   .ob (sameSize { data := #[(47 : UInt8)] : ByteArray } y4.fst) <|
    .leaf (mkR fTag5.rs ({ data := #[(47 : UInt8)] : ByteArray } ++ y4.fst, ())) [] [])
  (.br (y1.fst == (1 : Int))
   (.ob (fStrL.pre
  ((),
    [{ data := #[(97 : UInt8), (112 : UInt8), (112 : UInt8)] : ByteArray },
      {
        data :=
          #[(99 : UInt8), (100 : UInt8), (110 : UInt8), (47 : UInt8), (108 : UInt8), (105 : UInt8), (98 : UInt8)] :
        ByteArray },
      { data := #[(108 : UInt8), (105 : UInt8), (98 : UInt8)] : ByteArray },
      {
        data :=
          #[(101 : UInt8), (118 : UInt8), (105 : UInt8), (108 : UInt8), (47 : UInt8), (97 : UInt8), (112 : UInt8),
            (112 : UInt8)] :
        ByteArray }],
    ())) <|
    .lp (ByteArray × PUnit) (True) (fStrL.is
  ((),
    [{ data := #[(97 : UInt8), (112 : UInt8), (112 : UInt8)] : ByteArray },
      {
        data :=
          #[(99 : UInt8), (100 : UInt8), (110 : UInt8), (47 : UInt8), (108 : UInt8), (105 : UInt8), (98 : UInt8)] :
        ByteArray },
      { data := #[(108 : UInt8), (105 : UInt8), (98 : UInt8)] : ByteArray },
      {
        data :=
          #[(101 : UInt8), (118 : UInt8), (105 : UInt8), (108 : UInt8), (47 : UInt8), (97 : UInt8), (112 : UInt8),
            (112 : UInt8)] :
        ByteArray }],
    ())) fun y8 =>
    .ob (sameSize
  {
    data :=
      #[(115 : UInt8), (99 : UInt8), (114 : UInt8), (105 : UInt8), (112 : UInt8), (116 : UInt8), (32 : UInt8),
        (115 : UInt8), (114 : UInt8), (99 : UInt8), (61 : UInt8)] :
    ByteArray }
  y8.fst) <|
     .leaf (mkR fTag5.rs ({
    data :=
      #[(115 : UInt8), (99 : UInt8), (114 : UInt8), (105 : UInt8), (112 : UInt8), (116 : UInt8), (32 : UInt8),
        (115 : UInt8), (114 : UInt8), (99 : UInt8), (61 : UInt8)] :
    ByteArray } ++
  y8.fst, ())) [] [])
   (.br (y1.fst == (2 : Int))
    (.ob (fStrL.pre
  ((),
    [{ data := #[(97 : UInt8), (112 : UInt8), (112 : UInt8)] : ByteArray },
      { data := #[(117 : UInt8), (116 : UInt8), (105 : UInt8), (108 : UInt8)] : ByteArray }],
    ())) <|
     .lp (ByteArray × PUnit) (True) (fStrL.is
  ((),
    [{ data := #[(97 : UInt8), (112 : UInt8), (112 : UInt8)] : ByteArray },
      { data := #[(117 : UInt8), (116 : UInt8), (105 : UInt8), (108 : UInt8)] : ByteArray }],
    ())) fun y12 =>
     .ob (sameSize
  {
    data :=
      #[(115 : UInt8), (99 : UInt8), (114 : UInt8), (105 : UInt8), (112 : UInt8), (116 : UInt8), (32 : UInt8),
        (115 : UInt8), (114 : UInt8), (99 : UInt8), (61 : UInt8)] :
    ByteArray }
  y12.fst) <|
      .ob (sameSize
  ({
      data :=
        #[(115 : UInt8), (99 : UInt8), (114 : UInt8), (105 : UInt8), (112 : UInt8), (116 : UInt8), (32 : UInt8),
          (115 : UInt8), (114 : UInt8), (99 : UInt8), (61 : UInt8)] :
      ByteArray } ++
    y12.fst)
  { data := #[(32 : UInt8), (107 : UInt8), (105 : UInt8), (110 : UInt8), (100 : UInt8), (61 : UInt8)] : ByteArray }) <|
      .ob (fStrL.pre
  ((),
    [{ data := #[(100 : UInt8), (101 : UInt8), (102 : UInt8), (101 : UInt8), (114 : UInt8)] : ByteArray },
      { data := #[(109 : UInt8), (111 : UInt8), (100 : UInt8), (117 : UInt8), (108 : UInt8), (101 : UInt8)] :
        ByteArray }],
    ())) <|
      .lp (ByteArray × PUnit) (True) (fStrL.is
  ((),
    [{ data := #[(100 : UInt8), (101 : UInt8), (102 : UInt8), (101 : UInt8), (114 : UInt8)] : ByteArray },
      { data := #[(109 : UInt8), (111 : UInt8), (100 : UInt8), (117 : UInt8), (108 : UInt8), (101 : UInt8)] :
        ByteArray }],
    ())) fun y16 =>
      .ob (sameSize
  ({
        data :=
          #[(115 : UInt8), (99 : UInt8), (114 : UInt8), (105 : UInt8), (112 : UInt8), (116 : UInt8), (32 : UInt8),
            (115 : UInt8), (114 : UInt8), (99 : UInt8), (61 : UInt8)] :
        ByteArray } ++
      y12.fst ++
    { data := #[(32 : UInt8), (107 : UInt8), (105 : UInt8), (110 : UInt8), (100 : UInt8), (61 : UInt8)] : ByteArray })
  y16.fst) <|
       .leaf (mkR fTag5.rs ({
        data :=
          #[(115 : UInt8), (99 : UInt8), (114 : UInt8), (105 : UInt8), (112 : UInt8), (116 : UInt8), (32 : UInt8),
            (115 : UInt8), (114 : UInt8), (99 : UInt8), (61 : UInt8)] :
        ByteArray } ++
      y12.fst ++
    { data := #[(32 : UInt8), (107 : UInt8), (105 : UInt8), (110 : UInt8), (100 : UInt8), (61 : UInt8)] : ByteArray } ++
  y16.fst, ())) [] [])
    (.br (y1.fst == (3 : Int))
     (.ob (fStrL.pre
  ((),
    [{ data := #[(108 : UInt8), (111 : UInt8), (103 : UInt8), (111 : UInt8)] : ByteArray },
      {
        data :=
          #[(99 : UInt8), (100 : UInt8), (110 : UInt8), (47 : UInt8), (108 : UInt8), (111 : UInt8), (103 : UInt8),
            (111 : UInt8)] :
        ByteArray }],
    ())) <|
      .lp (ByteArray × PUnit) (True) (fStrL.is
  ((),
    [{ data := #[(108 : UInt8), (111 : UInt8), (103 : UInt8), (111 : UInt8)] : ByteArray },
      {
        data :=
          #[(99 : UInt8), (100 : UInt8), (110 : UInt8), (47 : UInt8), (108 : UInt8), (111 : UInt8), (103 : UInt8),
            (111 : UInt8)] :
        ByteArray }],
    ())) fun y20 =>
      .ob (sameSize
  {
    data :=
      #[(105 : UInt8), (109 : UInt8), (103 : UInt8), (32 : UInt8), (115 : UInt8), (114 : UInt8), (99 : UInt8),
        (61 : UInt8)] :
    ByteArray }
  y20.fst) <|
       .leaf (mkR fTag5.rs ({
    data :=
      #[(105 : UInt8), (109 : UInt8), (103 : UInt8), (32 : UInt8), (115 : UInt8), (114 : UInt8), (99 : UInt8),
        (61 : UInt8)] :
    ByteArray } ++
  y20.fst, ())) [] [])
     (.br (y1.fst == (4 : Int))
      (.ob (fStrL.pre
  ((),
    [{ data := #[(115 : UInt8), (116 : UInt8), (121 : UInt8), (108 : UInt8), (101 : UInt8)] : ByteArray },
      {
        data :=
          #[(99 : UInt8), (100 : UInt8), (110 : UInt8), (47 : UInt8), (115 : UInt8), (116 : UInt8), (121 : UInt8),
            (108 : UInt8), (101 : UInt8)] :
        ByteArray }],
    ())) <|
       .lp (ByteArray × PUnit) (True) (fStrL.is
  ((),
    [{ data := #[(115 : UInt8), (116 : UInt8), (121 : UInt8), (108 : UInt8), (101 : UInt8)] : ByteArray },
      {
        data :=
          #[(99 : UInt8), (100 : UInt8), (110 : UInt8), (47 : UInt8), (115 : UInt8), (116 : UInt8), (121 : UInt8),
            (108 : UInt8), (101 : UInt8)] :
        ByteArray }],
    ())) fun y24 =>
       .ob (sameSize
  {
    data :=
      #[(108 : UInt8), (105 : UInt8), (110 : UInt8), (107 : UInt8), (32 : UInt8), (104 : UInt8), (114 : UInt8),
        (101 : UInt8), (102 : UInt8), (61 : UInt8)] :
    ByteArray }
  y24.fst) <|
        .leaf (mkR fTag5.rs ({
    data :=
      #[(108 : UInt8), (105 : UInt8), (110 : UInt8), (107 : UInt8), (32 : UInt8), (104 : UInt8), (114 : UInt8),
        (101 : UInt8), (102 : UInt8), (61 : UInt8)] :
    ByteArray } ++
  y24.fst, ())) [] [])
      (.br (y1.fst == (5 : Int))
       (.ob (fStrL.pre
  ((),
    [{ data := #[(112 : UInt8), (32 : UInt8), (97 : UInt8), (61 : UInt8), (98 : UInt8)] : ByteArray },
      { data := #[] : ByteArray }, { data := #[(80 : UInt8)] : ByteArray },
      { data := #[(112 : UInt8), (32 : UInt8), (97 : UInt8)] : ByteArray },
      { data := #[(112 : UInt8), (32 : UInt8), (97 : UInt8), (61 : UInt8)] : ByteArray },
      { data := #[(112 : UInt8), (32 : UInt8), (32 : UInt8), (97 : UInt8), (61 : UInt8), (98 : UInt8)] : ByteArray },
      {
        data :=
          #[(112 : UInt8), (32 : UInt8), (97 : UInt8), (61 : UInt8), (98 : UInt8), (32 : UInt8), (97 : UInt8),
            (61 : UInt8), (99 : UInt8)] :
        ByteArray },
      {
        data :=
          #[(112 : UInt8), (32 : UInt8), (97 : UInt8), (61 : UInt8), (98 : UInt8), (32 : UInt8), (98 : UInt8),
            (61 : UInt8), (99 : UInt8), (32 : UInt8), (99 : UInt8), (61 : UInt8), (100 : UInt8), (32 : UInt8),
            (100 : UInt8), (61 : UInt8), (101 : UInt8), (32 : UInt8), (101 : UInt8), (61 : UInt8), (102 : UInt8)] :
        ByteArray },
      { data := #[(47 : UInt8)] : ByteArray },
      { data := #[(112 : UInt8), (32 : UInt8), (97 : UInt8), (61 : UInt8), (98 : UInt8), (61 : UInt8), (99 : UInt8)] :
        ByteArray }],
    ())) <|
        .lp (ByteArray × PUnit) (True) (fStrL.is
  ((),
    [{ data := #[(112 : UInt8), (32 : UInt8), (97 : UInt8), (61 : UInt8), (98 : UInt8)] : ByteArray },
      { data := #[] : ByteArray }, { data := #[(80 : UInt8)] : ByteArray },
      { data := #[(112 : UInt8), (32 : UInt8), (97 : UInt8)] : ByteArray },
      { data := #[(112 : UInt8), (32 : UInt8), (97 : UInt8), (61 : UInt8)] : ByteArray },
      { data := #[(112 : UInt8), (32 : UInt8), (32 : UInt8), (97 : UInt8), (61 : UInt8), (98 : UInt8)] : ByteArray },
      {
        data :=
          #[(112 : UInt8), (32 : UInt8), (97 : UInt8), (61 : UInt8), (98 : UInt8), (32 : UInt8), (97 : UInt8),
            (61 : UInt8), (99 : UInt8)] :
        ByteArray },
      {
        data :=
          #[(112 : UInt8), (32 : UInt8), (97 : UInt8), (61 : UInt8), (98 : UInt8), (32 : UInt8), (98 : UInt8),
            (61 : UInt8), (99 : UInt8), (32 : UInt8), (99 : UInt8), (61 : UInt8), (100 : UInt8), (32 : UInt8),
            (100 : UInt8), (61 : UInt8), (101 : UInt8), (32 : UInt8), (101 : UInt8), (61 : UInt8), (102 : UInt8)] :
        ByteArray },
      { data := #[(47 : UInt8)] : ByteArray },
      { data := #[(112 : UInt8), (32 : UInt8), (97 : UInt8), (61 : UInt8), (98 : UInt8), (61 : UInt8), (99 : UInt8)] :
        ByteArray }],
    ())) fun y28 =>
        .leaf (mkR fTag5.rs (y28.fst, ())) [] [])
       (.ob (fStrL.pre
  ((),
    [{ data := #[(112 : UInt8)] : ByteArray }, { data := #[(98 : UInt8)] : ByteArray },
      { data := #[(112 : UInt8), (97 : UInt8), (103 : UInt8), (101 : UInt8)] : ByteArray },
      { data := #[(115 : UInt8), (99 : UInt8), (114 : UInt8), (105 : UInt8), (112 : UInt8), (116 : UInt8)] :
        ByteArray }],
    ())) <|
        .lp (ByteArray × PUnit) (True) (fStrL.is
  ((),
    [{ data := #[(112 : UInt8)] : ByteArray }, { data := #[(98 : UInt8)] : ByteArray },
      { data := #[(112 : UInt8), (97 : UInt8), (103 : UInt8), (101 : UInt8)] : ByteArray },
      { data := #[(115 : UInt8), (99 : UInt8), (114 : UInt8), (105 : UInt8), (112 : UInt8), (116 : UInt8)] :
        ByteArray }],
    ())) fun y30 =>
        .leaf (mkR fTag5.rs (y30.fst, ())) [] []))))))) (by kernel_rfl) ?_
  refine ob_i trivial fun _ => lp_i trivial fun y1 i1 => br_i (fun h2 => ob_i ?_ fun o3 => lp_i trivial fun y4 i4 => ob_i ?_ fun o5 => Xct.leafY (S := fTag5) ({ data := #[(47 : UInt8)] : ByteArray } ++ y4.fst, ()) ?_) (fun h2 => br_i (fun h6 => ob_i ?_ fun o7 => lp_i trivial fun y8 i8 => ob_i ?_ fun o9 => Xct.leafY (S := fTag5) ({
    data :=
      #[(115 : UInt8), (99 : UInt8), (114 : UInt8), (105 : UInt8), (112 : UInt8), (116 : UInt8), (32 : UInt8),
        (115 : UInt8), (114 : UInt8), (99 : UInt8), (61 : UInt8)] :
    ByteArray } ++
  y8.fst, ()) ?_) (fun h6 => br_i (fun h10 => ob_i ?_ fun o11 => lp_i trivial fun y12 i12 => ob_i ?_ fun o13 => ob_i ?_ fun o14 => ob_i ?_ fun o15 => lp_i trivial fun y16 i16 => ob_i ?_ fun o17 => Xct.leafY (S := fTag5) ({
        data :=
          #[(115 : UInt8), (99 : UInt8), (114 : UInt8), (105 : UInt8), (112 : UInt8), (116 : UInt8), (32 : UInt8),
            (115 : UInt8), (114 : UInt8), (99 : UInt8), (61 : UInt8)] :
        ByteArray } ++
      y12.fst ++
    { data := #[(32 : UInt8), (107 : UInt8), (105 : UInt8), (110 : UInt8), (100 : UInt8), (61 : UInt8)] : ByteArray } ++
  y16.fst, ()) ?_) (fun h10 => br_i (fun h18 => ob_i ?_ fun o19 => lp_i trivial fun y20 i20 => ob_i ?_ fun o21 => Xct.leafY (S := fTag5) ({
    data :=
      #[(105 : UInt8), (109 : UInt8), (103 : UInt8), (32 : UInt8), (115 : UInt8), (114 : UInt8), (99 : UInt8),
        (61 : UInt8)] :
    ByteArray } ++
  y20.fst, ()) ?_) (fun h18 => br_i (fun h22 => ob_i ?_ fun o23 => lp_i trivial fun y24 i24 => ob_i ?_ fun o25 => Xct.leafY (S := fTag5) ({
    data :=
      #[(108 : UInt8), (105 : UInt8), (110 : UInt8), (107 : UInt8), (32 : UInt8), (104 : UInt8), (114 : UInt8),
        (101 : UInt8), (102 : UInt8), (61 : UInt8)] :
    ByteArray } ++
  y24.fst, ()) ?_) (fun h22 => br_i (fun h26 => ob_i ?_ fun o27 => lp_i trivial fun y28 i28 => Xct.leafY (S := fTag5) (y28.fst, ()) ?_) (fun h26 => ob_i ?_ fun o29 => lp_i trivial fun y30 i30 => Xct.leafY (S := fTag5) (y30.fst, ()) ?_))))))
  all_goals first | trivial | (refine ⟨?_, ?_, ?_⟩ <;> decide) | skip
  all_goals try simp only [decide_eq_true_eq, decide_eq_false_iff_not, Bool.not_eq_true', Bool.not_eq_false', bne_iff_ne, bne_eq_false_iff_eq, beq_iff_eq, beq_eq_false_iff_ne, baEq, Int.not_lt, Int.not_le, ne_eq, Decidable.not_not] at *
  all_goals try simp only [fBelow, fStrL, fTag5, etaToken, etaNode, etaBuilder, etaPolicy, etaPage, etaVisit, etaTab, etaServer, etaCache, etaNet, etaLoader, etaSheet, etaResult, etaSlot, etaModule, etaAddr, etaRequest, etaResponse, etaConn, etaGuess, etaEntry, etaSent, etaFile, baSz, List.size_toArray, List.length_cons, List.length_nil, Nat.reduceAdd, Int.toNat_zero, List.drop_zero, decide_eq_true_eq, decide_eq_false_iff_not, Bool.not_eq_true', Bool.not_eq_false', bne_iff_ne, bne_eq_false_iff_eq, beq_iff_eq, beq_eq_false_iff_ne, Bool.not_eq_true, Bool.not_eq_false, ne_eq, Decidable.not_not, baEq, decide_not, Prod.mk.injEq, and_true, true_and, Room, List.nil_append, Nat.zero_add, Int.not_lt, Int.not_le, sameSize, ByteArray.size_append] at *
  all_goals try simp (disch := omega) only [wrapId', toNat1] at *
  all_goals try simp (disch := omega) only [if_pos, if_neg]
  all_goals first | trivial | omega | grind [wrapId', toNat1, drop_cons, drop_end, good_len, maxLen, sameSize, ByteArray.size_append])
def E26 : D.Env := E25.addX 70 fTag5
theorem E26ok : EOk Try.prog E26 := E25ok.addX k70_25
def fPage5 : Xct := ⟨[.u, .v (.el .int)], [.el .str], fun (x_ : Unit × Int × Unit) => 0 ≤ x_.2.1 ∧ x_.2.1 ≤ 1000, fun (x_ : Unit × Int × Unit) (y_ : ByteArray × Unit) => y_.1.size ≤ 110 * x_.2.1 + 200⟩
abbrev W_spec_l5Page_fPage5_3 (c : Unit) (most : Int) : LInv := ⟨[⟨.s, 5, true, .el .str⟩, ⟨.s, 6, true, .el .int⟩], fun _ (x_ : ByteArray × Int × Unit) => 0 ≤ x_.2.1 ∧ x_.2.1 ≤ most + 1 ∧ x_.1.size + 110 * x_.2.1 ≤ 110 * most + 110, fun (x_ : ByteArray × Int × Unit) => x_.2.1.toNat⟩
-- spec.l5Page
theorem k66_26 : fPage5.ok Try.prog 66 := Xct.of (S := fPage5) (L := fun ⟨c, most, _⟩ => fun | 3 => some (W_spec_l5Page_fPage5_3 c most) | _ => none) (kp := [0,1,4,5,6,12,16,29,1000012,1000016,1000029]) E26ok Try.func66 (by kernel_rfl) (by kernel_rfl) (by
  rintro ⟨(c : PUnit), (most : Int), _⟩ hp
  refine holds_of (X := .ob (fBelow.pre ((), IntKind.i64.wrap (most + (1 : Int)), ())) <|
 .lp (Int × PUnit) (True) (fBelow.is ((), IntKind.i64.wrap (most + (1 : Int)), ())) fun y1 =>
 lpx (W_spec_l5Page_fPage5_3 c most) ({ data := #[] : ByteArray }, (y1.fst, ())) fun (y2 : ByteArray × Int × PUnit) bk2 =>
  .br (decide (y2.snd.fst > (0 : Int)))
   (.ob (fOnce.pre ((), (3 : Int), ())) <|
    .lp (Bool × PUnit) (True) (fOnce.is ((), (3 : Int), ())) fun y4 =>
    .br (y4.fst)
     (.ob (fStrL.pre
  ((),
    [{ data := #[(104 : UInt8), (105 : UInt8)] : ByteArray },
      { data := #[(97 : UInt8), (32 : UInt8), (98 : UInt8)] : ByteArray },
      { data := #[(99 : UInt8), (111 : UInt8), (117 : UInt8), (110 : UInt8), (116 : UInt8)] : ByteArray },
      { data := #[(120 : UInt8), (62 : UInt8), (121 : UInt8)] : ByteArray }, { data := #[] : ByteArray }],
    ())) <|
      .lp (ByteArray × PUnit) (True) (fStrL.is
  ((),
    [{ data := #[(104 : UInt8), (105 : UInt8)] : ByteArray },
      { data := #[(97 : UInt8), (32 : UInt8), (98 : UInt8)] : ByteArray },
      { data := #[(99 : UInt8), (111 : UInt8), (117 : UInt8), (110 : UInt8), (116 : UInt8)] : ByteArray },
      { data := #[(120 : UInt8), (62 : UInt8), (121 : UInt8)] : ByteArray }, { data := #[] : ByteArray }],
    ())) fun y7 =>
      .ob (sameSize y2.fst y7.fst) <|
       .ob (Value.int IntKind.i64 most = Value.int IntKind.i64 most) <|
       .ob (Value.string { data := #[] : ByteArray } = Value.string { data := #[] : ByteArray }) <|
       .ob (bk2 (y2.fst ++ y7.fst, (IntKind.i64.wrap (y2.snd.fst - (1 : Int)), ()))) <|
       .ok)
     (.ob (sameSize y2.fst { data := #[(60 : UInt8)] : ByteArray }) <|
      .ob (fTag5.pre ((), ())) <|
      .lp (ByteArray × PUnit) (True) (fTag5.is ((), ())) fun y11 =>
      .ob (sameSize (y2.fst ++ { data := #[(60 : UInt8)] : ByteArray }) y11.fst) <|
       .ob (sameSize (y2.fst ++ { data := #[(60 : UInt8)] : ByteArray } ++ y11.fst) { data := #[(62 : UInt8)] : ByteArray }) <|
       .ob (Value.int IntKind.i64 most = Value.int IntKind.i64 most) <|
       .ob (Value.string { data := #[] : ByteArray } = Value.string { data := #[] : ByteArray }) <|
       .ob (bk2 (y2.fst ++ { data := #[(60 : UInt8)] : ByteArray } ++ y11.fst ++ { data := #[(62 : UInt8)] : ByteArray }, (IntKind.i64.wrap (y2.snd.fst - (1 : Int)), ()))) <|
       .ok))
   (.ob (fOnce.pre ((), (6 : Int), ())) <|
    .lp (Bool × PUnit) (True) (fOnce.is ((), (6 : Int), ())) fun y15 =>
    .br (y15.fst)
     (.ob (fStrL.pre
  ((),
    [{ data := #[(60 : UInt8), (112 : UInt8)] : ByteArray }, { data := #[(60 : UInt8)] : ByteArray },
      { data := #[(101 : UInt8), (110 : UInt8), (100 : UInt8)] : ByteArray }],
    ())) <|
      .lp (ByteArray × PUnit) (True) (fStrL.is
  ((),
    [{ data := #[(60 : UInt8), (112 : UInt8)] : ByteArray }, { data := #[(60 : UInt8)] : ByteArray },
      { data := #[(101 : UInt8), (110 : UInt8), (100 : UInt8)] : ByteArray }],
    ())) fun y18 =>
      .ob (sameSize y2.fst y18.fst) <|
       .leaf (mkR fPage5.rs (y2.fst ++ y18.fst, ())) [] [])
     (.leaf (mkR fPage5.rs (y2.fst, ())) [] []))) (by kernel_rfl) ?_
  refine ob_i trivial fun _ => lp_i trivial fun y1 i1 => lpx_i ?_ fun (y2 : ByteArray × Int × PUnit) i2 => br_i (fun h3 => ob_i trivial fun _ => lp_i trivial fun y4 i4 => br_i (fun h5 => ob_i ?_ fun o6 => lp_i trivial fun y7 i7 => ob_i ?_ fun o8 => ob_i rfl fun _ => ob_i rfl fun _ => ob_i ?_ fun o9 => trivial) (fun h5 => ob_i ?_ fun o10 => ob_i trivial fun _ => lp_i trivial fun y11 i11 => ob_i ?_ fun o12 => ob_i ?_ fun o13 => ob_i rfl fun _ => ob_i rfl fun _ => ob_i ?_ fun o14 => trivial)) (fun h3 => ob_i trivial fun _ => lp_i trivial fun y15 i15 => br_i (fun h16 => ob_i ?_ fun o17 => lp_i trivial fun y18 i18 => ob_i ?_ fun o19 => Xct.leafY (S := fPage5) (y2.fst ++ y18.fst, ()) ?_) (fun h16 => Xct.leafY (S := fPage5) (y2.fst, ()) ?_))
  all_goals first | trivial | (refine ⟨?_, ?_, ?_⟩ <;> decide) | skip
  all_goals try simp only [decide_eq_true_eq, decide_eq_false_iff_not, Bool.not_eq_true', Bool.not_eq_false', bne_iff_ne, bne_eq_false_iff_eq, beq_iff_eq, beq_eq_false_iff_ne, baEq, Int.not_lt, Int.not_le, ne_eq, Decidable.not_not] at *
  all_goals try simp only [W_spec_l5Page_fPage5_3, fBelow, fOnce, fPage5, fStrL, fTag5, etaToken, etaNode, etaBuilder, etaPolicy, etaPage, etaVisit, etaTab, etaServer, etaCache, etaNet, etaLoader, etaSheet, etaResult, etaSlot, etaModule, etaAddr, etaRequest, etaResponse, etaConn, etaGuess, etaEntry, etaSent, etaFile, baSz, List.size_toArray, List.length_cons, List.length_nil, Nat.reduceAdd, Int.toNat_zero, List.drop_zero, decide_eq_true_eq, decide_eq_false_iff_not, Bool.not_eq_true', Bool.not_eq_false', bne_iff_ne, bne_eq_false_iff_eq, beq_iff_eq, beq_eq_false_iff_ne, Bool.not_eq_true, Bool.not_eq_false, ne_eq, Decidable.not_not, baEq, decide_not, Prod.mk.injEq, and_true, true_and, Room, List.nil_append, Nat.zero_add, Int.not_lt, Int.not_le, sameSize, ByteArray.size_append] at *
  all_goals try simp (disch := omega) only [wrapId', toNat1] at *
  all_goals try simp (disch := omega) only [if_pos, if_neg]
  all_goals first | trivial | omega | grind [wrapId', toNat1, drop_cons, drop_end, good_len, maxLen, sameSize, ByteArray.size_append])
def E27 : D.Env := E26.addX 66 fPage5
theorem E27ok : EOk Try.prog E27 := E26ok.addX k66_26
def fBody10 : Xct := ⟨[.u, .v (.el .int)], [.el .str], fun (x_ : Unit × Int × Unit) => True, fun (x_ : Unit × Int × Unit) (y_ : ByteArray × Unit) => y_.1.size ≤ 2000⟩
-- spec.l10Body
theorem k57_27 : fBody10.ok Try.prog 57 := Xct.of (S := fBody10) (L := fun _ _ => none) (kp := [0,1,4,5,6,10,14,23,1000006,1000010,1000014,1000023]) E27ok Try.func57 (by kernel_rfl) (by kernel_rfl) (by
  rintro ⟨(c : PUnit), (k : Int), _⟩ hp
  refine holds_of (X := .br (k == (2 : Int))
 (.ob (fText8.pre ((), (3 : Int), ())) <|
  .lp (ByteArray × PUnit) (True) (fText8.is ((), (3 : Int), ())) fun y3 =>
  .leaf (mkR fBody10.rs (y3.fst, ())) [] [])
 (.br (k == (3 : Int))
  (.ob (fText7.pre ((), ())) <|
   .lp (ByteArray × PUnit) (True) (fText7.is ((), ())) fun y5 =>
   .leaf (mkR fBody10.rs (y5.fst, ())) [] [])
  (.br (k == (5 : Int))
   (.ob (fStrL.pre
  ((),
    [{ data := #[] : ByteArray },
      {
        data :=
          #[(105 : UInt8), (109 : UInt8), (112 : UInt8), (111 : UInt8), (114 : UInt8), (116 : UInt8), (32 : UInt8),
            (117 : UInt8), (116 : UInt8), (105 : UInt8), (108 : UInt8), (59 : UInt8)] :
        ByteArray },
      {
        data :=
          #[(105 : UInt8), (109 : UInt8), (112 : UInt8), (111 : UInt8), (114 : UInt8), (116 : UInt8), (32 : UInt8),
            (108 : UInt8), (105 : UInt8), (98 : UInt8), (59 : UInt8)] :
        ByteArray },
      {
        data :=
          #[(105 : UInt8), (109 : UInt8), (112 : UInt8), (111 : UInt8), (114 : UInt8), (116 : UInt8), (32 : UInt8),
            (99 : UInt8), (100 : UInt8), (110 : UInt8), (47 : UInt8), (108 : UInt8), (105 : UInt8), (98 : UInt8),
            (59 : UInt8)] :
        ByteArray },
      {
        data :=
          #[(105 : UInt8), (109 : UInt8), (112 : UInt8), (111 : UInt8), (114 : UInt8), (116 : UInt8), (32 : UInt8),
            (97 : UInt8), (112 : UInt8), (112 : UInt8), (59 : UInt8), (105 : UInt8), (109 : UInt8), (112 : UInt8),
            (111 : UInt8), (114 : UInt8), (116 : UInt8), (32 : UInt8), (117 : UInt8), (116 : UInt8), (105 : UInt8),
            (108 : UInt8), (59 : UInt8)] :
        ByteArray }],
    ())) <|
    .lp (ByteArray × PUnit) (True) (fStrL.is
  ((),
    [{ data := #[] : ByteArray },
      {
        data :=
          #[(105 : UInt8), (109 : UInt8), (112 : UInt8), (111 : UInt8), (114 : UInt8), (116 : UInt8), (32 : UInt8),
            (117 : UInt8), (116 : UInt8), (105 : UInt8), (108 : UInt8), (59 : UInt8)] :
        ByteArray },
      {
        data :=
          #[(105 : UInt8), (109 : UInt8), (112 : UInt8), (111 : UInt8), (114 : UInt8), (116 : UInt8), (32 : UInt8),
            (108 : UInt8), (105 : UInt8), (98 : UInt8), (59 : UInt8)] :
        ByteArray },
      {
        data :=
          #[(105 : UInt8), (109 : UInt8), (112 : UInt8), (111 : UInt8), (114 : UInt8), (116 : UInt8), (32 : UInt8),
            (99 : UInt8), (100 : UInt8), (110 : UInt8), (47 : UInt8), (108 : UInt8), (105 : UInt8), (98 : UInt8),
            (59 : UInt8)] :
        ByteArray },
      {
        data :=
          #[(105 : UInt8), (109 : UInt8), (112 : UInt8), (111 : UInt8), (114 : UInt8), (116 : UInt8), (32 : UInt8),
            (97 : UInt8), (112 : UInt8), (112 : UInt8), (59 : UInt8), (105 : UInt8), (109 : UInt8), (112 : UInt8),
            (111 : UInt8), (114 : UInt8), (116 : UInt8), (32 : UInt8), (117 : UInt8), (116 : UInt8), (105 : UInt8),
            (108 : UInt8), (59 : UInt8)] :
        ByteArray }],
    ())) fun y8 =>
    .ob (fStrL.pre
  ((),
    [{ data := #[(115 : UInt8), (97 : UInt8), (121 : UInt8), (32 : UInt8), (109 : UInt8)] : ByteArray },
      {
        data :=
          #[(99 : UInt8), (111 : UInt8), (117 : UInt8), (110 : UInt8), (116 : UInt8), (32 : UInt8), (112 : UInt8)] :
        ByteArray },
      { data := #[(97 : UInt8), (100 : UInt8), (100 : UInt8), (32 : UInt8), (98 : UInt8)] : ByteArray },
      { data := #[(108 : UInt8), (111 : UInt8), (111 : UInt8), (107 : UInt8), (32 : UInt8), (112 : UInt8)] :
        ByteArray }],
    ())) <|
     .lp (ByteArray × PUnit) (True) (fStrL.is
  ((),
    [{ data := #[(115 : UInt8), (97 : UInt8), (121 : UInt8), (32 : UInt8), (109 : UInt8)] : ByteArray },
      {
        data :=
          #[(99 : UInt8), (111 : UInt8), (117 : UInt8), (110 : UInt8), (116 : UInt8), (32 : UInt8), (112 : UInt8)] :
        ByteArray },
      { data := #[(97 : UInt8), (100 : UInt8), (100 : UInt8), (32 : UInt8), (98 : UInt8)] : ByteArray },
      { data := #[(108 : UInt8), (111 : UInt8), (111 : UInt8), (107 : UInt8), (32 : UInt8), (112 : UInt8)] :
        ByteArray }],
    ())) fun y10 =>
     .ob (sameSize y8.fst y10.fst) <|
      .leaf (mkR fBody10.rs (y8.fst ++ y10.fst, ())) [] [])
   (.br (k == (4 : Int))
    (.leaf (mkR fBody10.rs ({ data := #[(112 : UInt8), (105 : UInt8), (120 : UInt8), (101 : UInt8), (108 : UInt8), (115 : UInt8)] : ByteArray }, ())) [] [])
    (.ob (fPage5.pre ((), (8 : Int), ())) <|
     .lp (ByteArray × PUnit) (True) (fPage5.is ((), (8 : Int), ())) fun y14 =>
     .leaf (mkR fBody10.rs (y14.fst, ())) [] []))))) (by kernel_rfl) ?_
  refine br_i (fun h1 => ob_i ?_ fun o2 => lp_i trivial fun y3 i3 => Xct.leafY (S := fBody10) (y3.fst, ()) ?_) (fun h1 => br_i (fun h4 => ob_i trivial fun _ => lp_i trivial fun y5 i5 => Xct.leafY (S := fBody10) (y5.fst, ()) ?_) (fun h4 => br_i (fun h6 => ob_i ?_ fun o7 => lp_i trivial fun y8 i8 => ob_i ?_ fun o9 => lp_i trivial fun y10 i10 => ob_i ?_ fun o11 => Xct.leafY (S := fBody10) (y8.fst ++ y10.fst, ()) ?_) (fun h6 => br_i (fun h12 => Xct.leafY (S := fBody10) ({ data := #[(112 : UInt8), (105 : UInt8), (120 : UInt8), (101 : UInt8), (108 : UInt8), (115 : UInt8)] : ByteArray }, ()) ?_) (fun h12 => ob_i ?_ fun o13 => lp_i trivial fun y14 i14 => Xct.leafY (S := fBody10) (y14.fst, ()) ?_))))
  all_goals first | trivial | (refine ⟨?_, ?_, ?_⟩ <;> decide) | skip
  all_goals try simp only [decide_eq_true_eq, decide_eq_false_iff_not, Bool.not_eq_true', Bool.not_eq_false', bne_iff_ne, bne_eq_false_iff_eq, beq_iff_eq, beq_eq_false_iff_ne, baEq, Int.not_lt, Int.not_le, ne_eq, Decidable.not_not] at *
  all_goals try simp only [fBody10, fPage5, fStrL, fText7, fText8, etaToken, etaNode, etaBuilder, etaPolicy, etaPage, etaVisit, etaTab, etaServer, etaCache, etaNet, etaLoader, etaSheet, etaResult, etaSlot, etaModule, etaAddr, etaRequest, etaResponse, etaConn, etaGuess, etaEntry, etaSent, etaFile, baSz, List.size_toArray, List.length_cons, List.length_nil, Nat.reduceAdd, Int.toNat_zero, List.drop_zero, decide_eq_true_eq, decide_eq_false_iff_not, Bool.not_eq_true', Bool.not_eq_false', bne_iff_ne, bne_eq_false_iff_eq, beq_iff_eq, beq_eq_false_iff_ne, Bool.not_eq_true, Bool.not_eq_false, ne_eq, Decidable.not_not, baEq, decide_not, Prod.mk.injEq, and_true, true_and, Room, List.nil_append, Nat.zero_add, Int.not_lt, Int.not_le, sameSize, ByteArray.size_append] at *
  all_goals try simp (disch := omega) only [wrapId', toNat1] at *
  all_goals try simp (disch := omega) only [if_pos, if_neg]
  all_goals first | trivial | omega | grind [wrapId', toNat1, drop_cons, drop_end, good_len, maxLen, sameSize, ByteArray.size_append])
def E28 : D.Env := E27.addX 57 fBody10
theorem E28ok : EOk Try.prog E28 := E27ok.addX k57_27
theorem isName_size {s : ByteArray} (h : isName s = true) : s.size ≤ 8 := by
  simp only [isName, Bool.and_eq_true, decide_eq_true_eq] at h; omega
def words9 : ByteArray → List ByteArray → ByteArray
  | w, [] => w
  | w, x :: l => words9 (w ++ ⟨#[32]⟩ ++ x) l
theorem words9_at {w : ByteArray} {l : List ByteArray} {i : Nat} (h : i < l.length) : words9 w (l.drop i) = words9 (w ++ ⟨#[32]⟩ ++ l.getD i default) (l.drop (i + 1)) := by rw [drop_cons h]; rfl
theorem words9_end {w : ByteArray} {l : List ByteArray} {i : Nat} (h : l.length ≤ i) : words9 w (l.drop i) = w := by rw [List.drop_of_length_le h]; rfl
theorem words9_size : ∀ (l : List ByteArray) (w : ByteArray), l.all isName = true → (words9 w l).size ≤ w.size + 9 * l.length := by
  intro l
  induction l with
  | nil => intro w _; simp [words9]
  | cons x l ih =>
    intro w h
    simp only [List.all_cons, Bool.and_eq_true] at h
    have h1 := isName_size h.1
    have h2 := ih (w ++ ⟨#[32]⟩ ++ x) h.2
    simp only [words9, List.length_cons]
    rw [ByteArray.size_append, ByteArray.size_append, show ByteArray.size ⟨#[32]⟩ = 1 from rfl] at h2
    omega
def fWords9 : Fct := ⟨[.v (.el .str), .v (.sl .str)], [.el .str], fun (x_ : ByteArray × (List ByteArray) × Unit) => x_.1.size ≤ 100 ∧ x_.2.1.length ≤ 4 ∧ x_.2.1.all isName = true, fun (x_ : ByteArray × (List ByteArray) × Unit) => (words9 x_.1 x_.2.1, ())⟩
abbrev W_spec_l9Words_fWords9_2 (w : ByteArray) (l : (List ByteArray)) : LInv := ⟨[⟨.s, 0, true, .el .str⟩, ⟨.s, 5, true, .el .int⟩], fun _ (x_ : ByteArray × Int × Unit) => 0 ≤ x_.2.1 ∧ x_.2.1 ≤ l.length ∧ x_.1.size ≤ 100 + 9 * x_.2.1 ∧ words9 x_.1 (l.drop x_.2.1.toNat) = words9 w l, fun (x_ : ByteArray × Int × Unit) => l.length - x_.2.1.toNat⟩
-- spec.l9Words
theorem k68_28 : fWords9.ok Try.prog 68 := Fct.of (S := fWords9) (L := fun ⟨w, l, _⟩ => fun | 2 => some (W_spec_l9Words_fWords9_2 w l) | _ => none) (kp := [0,1,4,5,9,1000009]) E28ok Try.func68 (by kernel_rfl) (by kernel_rfl) (by
  rintro ⟨(w : ByteArray), (l : List ByteArray), _⟩ hp
  refine holds_of (X := lpx (W_spec_l9Words_fWords9_2 w l) (w, ((0 : Int), ())) fun (y1 : ByteArray × Int × PUnit) bk1 =>
 .br (decide (y1.snd.fst < (↑l.length : Int)))
  (.ob (sameSize y1.fst { data := #[(32 : UInt8)] : ByteArray }) <|
   .ob ((0 : Int) ≤ y1.snd.fst ∧ y1.snd.fst < (↑l.length : Int)) <|
   .ob (sameSize (y1.fst ++ { data := #[(32 : UInt8)] : ByteArray }) (l.getD y1.snd.fst.toNat default)) <|
   .ob (l = l) <|
   .ob (Value.string { data := #[] : ByteArray } = Value.string { data := #[] : ByteArray }) <|
   .ob (bk1 (y1.fst ++ { data := #[(32 : UInt8)] : ByteArray } ++ l.getD y1.snd.fst.toNat default, (IntKind.i64.wrap (y1.snd.fst + (1 : Int)), ()))) <|
   .ok)
  (.leaf (mkR fWords9.rs (y1.fst, ())) [] [])) (by kernel_rfl) ?_
  refine lpx_i ?_ fun (y1 : ByteArray × Int × PUnit) i1 => br_i (fun h2 => ob_i ?_ fun o3 => ob_i ?_ fun o4 => ob_i ?_ fun o5 => ob_i rfl fun _ => ob_i rfl fun _ => ob_i ?_ fun o6 => trivial) (fun h2 => Fct.leafY ?_)
  all_goals have hg : ∀ i, i < l.length → (l.getD i default).size ≤ 8 := fun i h => isName_size (List.all_eq_true.1 hp.2.2 _ (getD_in h))
  all_goals try simp only [decide_eq_true_eq, decide_eq_false_iff_not, Bool.not_eq_true', Bool.not_eq_false', bne_iff_ne, bne_eq_false_iff_eq, beq_iff_eq, beq_eq_false_iff_ne, baEq, Int.not_lt, Int.not_le, ne_eq, Decidable.not_not] at *
  all_goals try simp only [W_spec_l9Words_fWords9_2, fWords9, etaToken, etaNode, etaBuilder, etaPolicy, etaPage, etaVisit, etaTab, etaServer, etaCache, etaNet, etaLoader, etaSheet, etaResult, etaSlot, etaModule, etaAddr, etaRequest, etaResponse, etaConn, etaGuess, etaEntry, etaSent, etaFile, baSz, List.size_toArray, List.length_cons, List.length_nil, Nat.reduceAdd, Int.toNat_zero, List.drop_zero, decide_eq_true_eq, decide_eq_false_iff_not, Bool.not_eq_true', Bool.not_eq_false', bne_iff_ne, bne_eq_false_iff_eq, beq_iff_eq, beq_eq_false_iff_ne, Bool.not_eq_true, Bool.not_eq_false, ne_eq, Decidable.not_not, baEq, decide_not, Prod.mk.injEq, and_true, true_and, Room, List.nil_append, Nat.zero_add, Int.not_lt, Int.not_le, words9_at, words9_end, sameSize, ByteArray.size_append] at *
  all_goals try simp (disch := omega) only [wrapId', toNat1] at *
  all_goals try simp (disch := omega) only [if_pos, if_neg]
  all_goals first | trivial | omega | grind [wrapId', toNat1, good_len, maxLen, words9_at, words9_end, sameSize, ByteArray.size_append])
def E29 : D.Env := E28.add 68 fWords9
theorem E29ok : EOk Try.prog E29 := E28ok.add k68_28
def formatPolicy (p : SPolicy) : ByteArray := if isPolicy p && p.set_ then (if p.nonce = ⟨#[]⟩ then words9 ⟨#[115, 99, 114, 105, 112, 116]⟩ p.scripts ++ ⟨#[59]⟩ ++ words9 ⟨#[115, 116, 121, 108, 101]⟩ p.styles ++ ⟨#[59]⟩ ++ words9 ⟨#[105, 109, 103]⟩ p.images else words9 ⟨#[115, 99, 114, 105, 112, 116]⟩ p.scripts ++ ⟨#[59]⟩ ++ words9 ⟨#[115, 116, 121, 108, 101]⟩ p.styles ++ ⟨#[59]⟩ ++ words9 ⟨#[105, 109, 103]⟩ p.images ++ ⟨#[59, 110, 111, 110, 99, 101, 32]⟩ ++ p.nonce) else ⟨#[]⟩
theorem isPolicy_set {p : SPolicy} (h : isPolicy p = true) (hs : p.set_ = true) : p.scripts.all isName = true ∧ p.scripts.length ≤ 4 ∧ p.styles.all isName = true ∧ p.styles.length ≤ 4 ∧ p.images.all isName = true ∧ p.images.length ≤ 4 ∧ p.nonce.size ≤ 20 := by
  simp only [isPolicy, hs, if_true, Bool.and_eq_true, Bool.or_eq_true, decide_eq_true_eq] at h
  obtain ⟨⟨⟨⟨a1, a2⟩, a3, a4⟩, a5, a6⟩, a7⟩ := h
  refine ⟨a1, a2, a3, a4, a5, a6, ?_⟩
  rcases a7 with h | h
  · rw [h]; exact Nat.zero_le _
  · simp only [isValue, Bool.and_eq_true, decide_eq_true_eq] at h; omega
theorem words9_sz {l : List ByteArray} {w : ByteArray} (h : l.all isName = true) (hl : l.length ≤ 4) (hw : w.size ≤ 6) : (words9 w l).size ≤ 42 := by
  have := words9_size l w h; omega
theorem formatPolicy_size (p : SPolicy) : (formatPolicy p).size ≤ 200 := by
  unfold formatPolicy
  split
  · rename_i h
    simp only [Bool.and_eq_true] at h
    obtain ⟨a1, a2, a3, a4, a5, a6, a7⟩ := isPolicy_set h.1 h.2
    have b1 := words9_sz (w := ⟨#[115, 99, 114, 105, 112, 116]⟩) a1 a2 (by decide)
    have b2 := words9_sz (w := ⟨#[115, 116, 121, 108, 101]⟩) a3 a4 (by decide)
    have b3 := words9_sz (w := ⟨#[105, 109, 103]⟩) a5 a6 (by decide)
    split
    · simp only [ByteArray.size_append, show ByteArray.size ⟨#[59]⟩ = 1 from rfl]; omega
    · simp only [ByteArray.size_append, show ByteArray.size ⟨#[59]⟩ = 1 from rfl, show ByteArray.size ⟨#[59, 110, 111, 110, 99, 101, 32]⟩ = 7 from rfl]; omega
  · exact Nat.zero_le _
def fFormatPolicy : Fct := ⟨[.v (.el .policy)], [.el .str], fun (x_ : SPolicy × Unit) => szPolicy x_.1 ≤ 1099511627776, fun (x_ : SPolicy × Unit) => (formatPolicy x_.1, ())⟩
-- spec.FormatPolicy
theorem k58_29 : fFormatPolicy.ok Try.prog 58 := Fct.of (S := fFormatPolicy) (L := fun _ _ => none) (kp := [1,2,3,11,27,1000011,1000027]) E29ok Try.func58 (by kernel_rfl) (by kernel_rfl) (by
  rintro ⟨(p : SPolicy), _⟩ hp
  refine holds_of (X := .ob (fIsPolicy.pre (p, ())) <|
 .lt (Bool × PUnit) (fIsPolicy.fn (p, ())) fun z2 =>
 .br (!z2.fst)
  (.leaf (mkR fFormatPolicy.rs ({ data := #[] : ByteArray }, ())) [] [])
  (.br (!p.set_)
   (.leaf (mkR fFormatPolicy.rs ({ data := #[] : ByteArray }, ())) [] [])
   (.ob (fWords9.pre
  ({ data := #[(115 : UInt8), (99 : UInt8), (114 : UInt8), (105 : UInt8), (112 : UInt8), (116 : UInt8)] : ByteArray },
    p.scripts, ())) <|
    .lt (ByteArray × PUnit) (fWords9.fn
  ({ data := #[(115 : UInt8), (99 : UInt8), (114 : UInt8), (105 : UInt8), (112 : UInt8), (116 : UInt8)] : ByteArray },
    p.scripts, ())) fun z3 =>
    .ob (sameSize z3.fst { data := #[(59 : UInt8)] : ByteArray }) <|
     .ob (fWords9.pre
  ({ data := #[(115 : UInt8), (116 : UInt8), (121 : UInt8), (108 : UInt8), (101 : UInt8)] : ByteArray }, p.styles, ())) <|
     .lt (ByteArray × PUnit) (fWords9.fn
  ({ data := #[(115 : UInt8), (116 : UInt8), (121 : UInt8), (108 : UInt8), (101 : UInt8)] : ByteArray }, p.styles, ())) fun z4 =>
     .ob (sameSize (z3.fst ++ { data := #[(59 : UInt8)] : ByteArray }) z4.fst) <|
      .ob (sameSize (z3.fst ++ { data := #[(59 : UInt8)] : ByteArray } ++ z4.fst) { data := #[(59 : UInt8)] : ByteArray }) <|
      .ob (fWords9.pre ({ data := #[(105 : UInt8), (109 : UInt8), (103 : UInt8)] : ByteArray }, p.images, ())) <|
      .lt (ByteArray × PUnit) (fWords9.fn ({ data := #[(105 : UInt8), (109 : UInt8), (103 : UInt8)] : ByteArray }, p.images, ())) fun z5 =>
      .ob (sameSize (z3.fst ++ { data := #[(59 : UInt8)] : ByteArray } ++ z4.fst ++ { data := #[(59 : UInt8)] : ByteArray }) z5.fst) <|
       .br (!p.nonce.toList == { data := #[] : ByteArray }.toList)
       (.ob (sameSize
  (z3.fst ++ { data := #[(59 : UInt8)] : ByteArray } ++ z4.fst ++ { data := #[(59 : UInt8)] : ByteArray } ++ z5.fst)
  { data := #[(59 : UInt8), (110 : UInt8), (111 : UInt8), (110 : UInt8), (99 : UInt8), (101 : UInt8), (32 : UInt8)] :
    ByteArray }) <|
        .ob (sameSize
  (z3.fst ++ { data := #[(59 : UInt8)] : ByteArray } ++ z4.fst ++ { data := #[(59 : UInt8)] : ByteArray } ++ z5.fst ++
    { data := #[(59 : UInt8), (110 : UInt8), (111 : UInt8), (110 : UInt8), (99 : UInt8), (101 : UInt8), (32 : UInt8)] :
      ByteArray })
  p.nonce) <|
        .leaf (mkR fFormatPolicy.rs (z3.fst ++ { data := #[(59 : UInt8)] : ByteArray } ++ z4.fst ++ { data := #[(59 : UInt8)] : ByteArray } ++ z5.fst ++
    { data := #[(59 : UInt8), (110 : UInt8), (111 : UInt8), (110 : UInt8), (99 : UInt8), (101 : UInt8), (32 : UInt8)] :
      ByteArray } ++
  p.nonce, ())) [] [])
       (.leaf (mkR fFormatPolicy.rs (z3.fst ++ { data := #[(59 : UInt8)] : ByteArray } ++ z4.fst ++ { data := #[(59 : UInt8)] : ByteArray } ++ z5.fst, ())) [] [])))) (by kernel_rfl) ?_
  refine ob_i ?_ fun o1 => lt_i (br_i (fun h2 => Fct.leafY ?_) (fun h2 => br_i (fun h3 => Fct.leafY ?_) (fun h3 => ob_i ?_ fun o4 => lt_i (ob_i ?_ fun o5 => ob_i ?_ fun o6 => lt_i (ob_i ?_ fun o7 => ob_i ?_ fun o8 => ob_i ?_ fun o9 => lt_i (ob_i ?_ fun o10 => br_i (fun h11 => ob_i ?_ fun o12 => ob_i ?_ fun o13 => Fct.leafY ?_) (fun h11 => Fct.leafY ?_)))))))
  all_goals try simp only [decide_eq_true_eq, decide_eq_false_iff_not, Bool.not_eq_true', Bool.not_eq_false', bne_iff_ne, bne_eq_false_iff_eq, beq_iff_eq, beq_eq_false_iff_ne, baEq, Int.not_lt, Int.not_le, ne_eq, Decidable.not_not] at *
  all_goals try simp only [fFormatPolicy, fIsPolicy, fWords9, etaToken, etaNode, etaBuilder, etaPolicy, etaPage, etaVisit, etaTab, etaServer, etaCache, etaNet, etaLoader, etaSheet, etaResult, etaSlot, etaModule, etaAddr, etaRequest, etaResponse, etaConn, etaGuess, etaEntry, etaSent, etaFile, baSz, List.size_toArray, List.length_cons, List.length_nil, Nat.reduceAdd, Int.toNat_zero, List.drop_zero, decide_eq_true_eq, decide_eq_false_iff_not, Bool.not_eq_true', Bool.not_eq_false', bne_iff_ne, bne_eq_false_iff_eq, beq_iff_eq, beq_eq_false_iff_ne, Bool.not_eq_true, Bool.not_eq_false, ne_eq, Decidable.not_not, baEq, decide_not, Prod.mk.injEq, and_true, true_and, Room, List.nil_append, Nat.zero_add, Int.not_lt, Int.not_le] at *
  all_goals first | trivial | omega | skip
  all_goals try (have hA : isPolicy p = true := by assumption
                 have hB : p.set_ = true := by assumption
                 obtain ⟨a1, a2, a3, a4, a5, a6, a7⟩ := isPolicy_set hA hB)
  all_goals try have b1 := words9_sz (w := ⟨#[115, 99, 114, 105, 112, 116]⟩) a1 a2 (by decide)
  all_goals try have b2 := words9_sz (w := ⟨#[115, 116, 121, 108, 101]⟩) a3 a4 (by decide)
  all_goals try have b3 := words9_sz (w := ⟨#[105, 109, 103]⟩) a5 a6 (by decide)
  all_goals try simp only [decide_eq_true_eq, decide_eq_false_iff_not, Bool.not_eq_true', Bool.not_eq_false', bne_iff_ne, bne_eq_false_iff_eq, beq_iff_eq, beq_eq_false_iff_ne, baEq, Int.not_lt, Int.not_le, ne_eq, Decidable.not_not] at *
  all_goals try simp only [fFormatPolicy, fIsPolicy, fWords9, etaToken, etaNode, etaBuilder, etaPolicy, etaPage, etaVisit, etaTab, etaServer, etaCache, etaNet, etaLoader, etaSheet, etaResult, etaSlot, etaModule, etaAddr, etaRequest, etaResponse, etaConn, etaGuess, etaEntry, etaSent, etaFile, baSz, List.size_toArray, List.length_cons, List.length_nil, Nat.reduceAdd, Int.toNat_zero, List.drop_zero, decide_eq_true_eq, decide_eq_false_iff_not, Bool.not_eq_true', Bool.not_eq_false', bne_iff_ne, bne_eq_false_iff_eq, beq_iff_eq, beq_eq_false_iff_ne, Bool.not_eq_true, Bool.not_eq_false, ne_eq, Decidable.not_not, baEq, decide_not, Prod.mk.injEq, and_true, true_and, Room, List.nil_append, Nat.zero_add, Int.not_lt, Int.not_le, formatPolicy, sameSize, ByteArray.size_append] at *
  all_goals try simp (disch := omega) only [wrapId', toNat1] at *
  all_goals try simp (disch := omega) only [if_pos, if_neg]
  all_goals first | trivial | omega | grind [wrapId', toNat1, drop_cons, drop_end, good_len, maxLen, formatPolicy, sameSize, ByteArray.size_append])
def E30 : D.Env := E29.add 58 fFormatPolicy
theorem E30ok : EOk Try.prog E30 := E29ok.add k58_29
def hosts9 : List ByteArray := [⟨#[104, 111, 109, 101]⟩, ⟨#[99, 100, 110]⟩, ⟨#[101, 118, 105, 108]⟩]
theorem hosts9_name {i : Nat} (h : i < 3) : isName (hosts9.getD i default) = true := by
  match i, h with
  | 0, _ => decide
  | 1, _ => decide
  | 2, _ => decide
def fHosts9 : Xct := ⟨[.u], [.sl .str], fun (x_ : Unit × Unit) => True, fun (x_ : Unit × Unit) (y_ : (List ByteArray) × Unit) => y_.1.length ≤ 3 ∧ y_.1.all isName = true⟩
abbrev W_spec_l9Hosts_fHosts9_3 (c : Unit) : LInv := ⟨[⟨.s, 3, true, .sl .str⟩, ⟨.s, 9, true, .el .int⟩, ⟨.s, 7, true, .sl .str⟩], fun _ (x_ : (List ByteArray) × Int × (List ByteArray) × Unit) => 0 ≤ x_.2.1 ∧ x_.2.1 ≤ 3 ∧ x_.1.length ≤ x_.2.1 ∧ x_.1.all isName = true ∧ x_.2.2.1 = hosts9, fun (x_ : (List ByteArray) × Int × (List ByteArray) × Unit) => 3 - x_.2.1.toNat⟩
-- spec.l9Hosts
theorem k69_30 : fHosts9.ok Try.prog 69 := Xct.of (S := fHosts9) (L := fun ⟨c, _⟩ => fun | 3 => some (W_spec_l9Hosts_fHosts9_3 c) | _ => none) (kp := [0,2,3,5,7,8,9,10,14,1000010,1000014]) E30ok Try.func69 (by kernel_rfl) (by kernel_rfl) (by
  rintro ⟨(c : PUnit), _⟩ hp
  refine holds_of (X := lpx (W_spec_l9Hosts_fHosts9_3 c) ([], ((0 : Int), ([{ data := #[(104 : UInt8), (111 : UInt8), (109 : UInt8), (101 : UInt8)] : ByteArray },
  { data := #[(99 : UInt8), (100 : UInt8), (110 : UInt8)] : ByteArray },
  { data := #[(101 : UInt8), (118 : UInt8), (105 : UInt8), (108 : UInt8)] : ByteArray }], ()))) fun (y1 : List ByteArray × Int × List ByteArray × PUnit) bk1 =>
 .br (decide (y1.snd.fst < (3 : Int)))
  (.ob ((0 : Int) ≤ y1.snd.fst ∧ y1.snd.fst < (↑y1.snd.snd.fst.length : Int)) <|
   .ob (y1.snd.fst.toNat < y1.snd.snd.fst.length) <|
   .ob (fOnce.pre ((), (2 : Int), ())) <|
   .lp (Bool × PUnit) (True) (fOnce.is ((), (2 : Int), ())) fun y5 =>
   .br (y5.fst)
    (.ob (True) <|
     .ob (Room (y1.fst.length + [y1.snd.snd.fst.getD y1.snd.fst.toNat default].length) (16 : Nat)) <|
     .ob (Value.int IntKind.i64 (3 : Int) = Value.int IntKind.i64 (3 : Int)) <|
     .ob (bk1 (y1.fst ++ [y1.snd.snd.fst.getD y1.snd.fst.toNat default], (IntKind.i64.wrap (y1.snd.fst + (1 : Int)), (y1.snd.snd.fst, ())))) <|
     .ok)
    (.ob (Value.int IntKind.i64 (3 : Int) = Value.int IntKind.i64 (3 : Int)) <|
     .ob (bk1 (y1.fst, (IntKind.i64.wrap (y1.snd.fst + (1 : Int)), (y1.snd.snd.fst, ())))) <|
     .ok))
  (.leaf (mkR fHosts9.rs (y1.fst, ())) [] [])) (by kernel_rfl) ?_
  refine lpx_i ?_ fun (y1 : List ByteArray × Int × List ByteArray × PUnit) i1 => br_i (fun h2 => ob_i ?_ fun o3 => ob_i ?_ fun o4 => ob_i trivial fun _ => lp_i trivial fun y5 i5 => br_i (fun h6 => ob_i trivial fun _ => ob_i ?_ fun o7 => ob_i rfl fun _ => ob_i ?_ fun o8 => trivial) (fun h6 => ob_i rfl fun _ => ob_i ?_ fun o9 => trivial)) (fun h2 => Xct.leafY (S := fHosts9) (y1.fst, ()) ?_)
  all_goals have h9 : hosts9.length = 3 := rfl
  all_goals have hn : ∀ i, i < 3 → isName (hosts9.getD i default) = true := fun i h => hosts9_name h
  all_goals try exact ⟨by omega, by omega, by simp, rfl, rfl⟩
  all_goals try (obtain ⟨a1, a2, a3, a4, a5⟩ := i1; simp only [a5] at *)
  all_goals try simp only [decide_eq_true_eq, decide_eq_false_iff_not, Bool.not_eq_true', Bool.not_eq_false', bne_iff_ne, bne_eq_false_iff_eq, beq_iff_eq, beq_eq_false_iff_ne, baEq, Int.not_lt, Int.not_le, ne_eq, Decidable.not_not] at *
  all_goals try simp only [W_spec_l9Hosts_fHosts9_3, fHosts9, fOnce, etaToken, etaNode, etaBuilder, etaPolicy, etaPage, etaVisit, etaTab, etaServer, etaCache, etaNet, etaLoader, etaSheet, etaResult, etaSlot, etaModule, etaAddr, etaRequest, etaResponse, etaConn, etaGuess, etaEntry, etaSent, etaFile, baSz, List.size_toArray, List.length_cons, List.length_nil, Nat.reduceAdd, Int.toNat_zero, List.drop_zero, decide_eq_true_eq, decide_eq_false_iff_not, Bool.not_eq_true', Bool.not_eq_false', bne_iff_ne, bne_eq_false_iff_eq, beq_iff_eq, beq_eq_false_iff_ne, Bool.not_eq_true, Bool.not_eq_false, ne_eq, Decidable.not_not, baEq, decide_not, Prod.mk.injEq, and_true, true_and, Room, List.nil_append, Nat.zero_add, Int.not_lt, Int.not_le] at *
  all_goals try simp (disch := omega) only [wrapId', toNat1] at *
  all_goals try simp (disch := omega) only [if_pos, if_neg]
  all_goals first | trivial | omega | grind [wrapId', toNat1, drop_cons, drop_end, good_len, maxLen])
def E31 : D.Env := E30.addX 69 fHosts9
theorem E31ok : EOk Try.prog E31 := E30ok.addX k69_30
def fPolicy9 : Xct := ⟨[.u], [.el .policy], fun (x_ : Unit × Unit) => True, fun (x_ : Unit × Unit) (y_ : SPolicy × Unit) => isPolicy y_.1 = true⟩
-- spec.l9Policy
theorem k59_31 : fPolicy9.ok Try.prog 59 := Xct.of (S := fPolicy9) (L := fun _ _ => none) (kp := [0,2,3,5,15,1000005,1000015]) E31ok Try.func59 (by kernel_rfl) (by kernel_rfl) (by
  rintro ⟨(c : PUnit), _⟩ hp
  refine holds_of (X := .ob (fOnce.pre ((), (2 : Int), ())) <|
 .lp (Bool × PUnit) (True) (fOnce.is ((), (2 : Int), ())) fun y1 =>
 .br (y1.fst)
  (.leaf (.one true [vb (false), .nl, .nl, .nl, vs ({ data := #[] : ByteArray })]) [] [])
  (.ob (fHosts9.pre ((), ())) <|
   .lp (List ByteArray × PUnit) (True) (fHosts9.is ((), ())) fun y3 =>
   .ob (fHosts9.pre ((), ())) <|
    .lp (List ByteArray × PUnit) (True) (fHosts9.is ((), ())) fun y4 =>
    .ob (fHosts9.pre ((), ())) <|
     .lp (List ByteArray × PUnit) (True) (fHosts9.is ((), ())) fun y5 =>
     .ob (fOnce.pre ((), (2 : Int), ())) <|
      .lp (Bool × PUnit) (True) (fOnce.is ((), (2 : Int), ())) fun y6 =>
      .br (y6.fst)
       (.leaf (mkR fPolicy9.rs (⟨true, y3.fst, y4.fst, y5.fst, { data := #[(110 : UInt8), (55 : UInt8)] : ByteArray }⟩, ())) [] [])
       (.leaf (mkR fPolicy9.rs (⟨true, y3.fst, y4.fst, y5.fst, { data := #[] : ByteArray }⟩, ())) [] []))) (by kernel_rfl) ?_
  refine ob_i trivial fun _ => lp_i trivial fun y1 i1 => br_i (fun h2 => Xct.leafZ (S := fPolicy9) (default, ()) (by repeat' first | exact rfl | exact trivial | refine And.intro ?_ ?_) ?_) (fun h2 => ob_i trivial fun _ => lp_i trivial fun y3 i3 => ob_i trivial fun _ => lp_i trivial fun y4 i4 => ob_i trivial fun _ => lp_i trivial fun y5 i5 => ob_i trivial fun _ => lp_i trivial fun y6 i6 => br_i (fun h7 => Xct.leafY (S := fPolicy9) (⟨true, y3.fst, y4.fst, y5.fst, { data := #[(110 : UInt8), (55 : UInt8)] : ByteArray }⟩, ()) ?_) (fun h7 => Xct.leafY (S := fPolicy9) (⟨true, y3.fst, y4.fst, y5.fst, { data := #[] : ByteArray }⟩, ()) ?_))
  all_goals try simp only [decide_eq_true_eq, decide_eq_false_iff_not, Bool.not_eq_true', Bool.not_eq_false', bne_iff_ne, bne_eq_false_iff_eq, beq_iff_eq, beq_eq_false_iff_ne, baEq, Int.not_lt, Int.not_le, ne_eq, Decidable.not_not] at *
  all_goals try simp only [fHosts9, fOnce, fPolicy9, etaToken, etaNode, etaBuilder, etaPolicy, etaPage, etaVisit, etaTab, etaServer, etaCache, etaNet, etaLoader, etaSheet, etaResult, etaSlot, etaModule, etaAddr, etaRequest, etaResponse, etaConn, etaGuess, etaEntry, etaSent, etaFile, baSz, List.size_toArray, List.length_cons, List.length_nil, Nat.reduceAdd, Int.toNat_zero, List.drop_zero, decide_eq_true_eq, decide_eq_false_iff_not, Bool.not_eq_true', Bool.not_eq_false', bne_iff_ne, bne_eq_false_iff_eq, beq_iff_eq, beq_eq_false_iff_ne, Bool.not_eq_true, Bool.not_eq_false, ne_eq, Decidable.not_not, baEq, decide_not, Prod.mk.injEq, and_true, true_and, Room, List.nil_append, Nat.zero_add, Int.not_lt, Int.not_le] at *
  all_goals first | rfl | (simp only [isPolicy, Bool.and_eq_true, if_true, decide_eq_true_eq, Bool.or_eq_true]; first | exact ⟨⟨⟨⟨i3.2, by omega⟩, i4.2, by omega⟩, i5.2, by omega⟩, .inl trivial⟩ | exact ⟨⟨⟨⟨i3.2, by omega⟩, i4.2, by omega⟩, i5.2, by omega⟩, .inl rfl⟩ | exact ⟨⟨⟨⟨i3.2, by omega⟩, i4.2, by omega⟩, i5.2, by omega⟩, .inr (by decide)⟩))
def E32 : D.Env := E31.addX 59 fPolicy9
theorem E32ok : EOk Try.prog E32 := E31ok.addX k59_31
theorem szL_le {α : Type} {f : α → Nat} {B : Nat} : ∀ {l : List α}, (∀ x ∈ l, f x ≤ B) → szL f l ≤ (B + 1) * l.length := by
  intro l
  induction l with
  | nil => intro _; simp [szL]
  | cons x l ih =>
    intro h
    have h1 := ih fun y hy => h y (List.mem_cons_of_mem _ hy)
    have h2 := h x List.mem_cons_self
    have h3 : szL f (x :: l) = f x + 1 + szL f l := by simp only [szL, List.map_cons, List.sum_cons, List.length_cons]; omega
    rw [h3, List.length_cons, Nat.mul_add]; omega
theorem names_sz {l : List ByteArray} (h : l.all isName = true) : szL szString l ≤ 9 * l.length := szL_le (B := 8) fun x hx => isName_size (List.all_eq_true.1 h x hx)
theorem isPolicy_sz {p : SPolicy} (h : isPolicy p = true) : szPolicy p ≤ 128 := by
  cases hs : p.set_ with
  | true =>
    obtain ⟨a1, a2, a3, a4, a5, a6, a7⟩ := isPolicy_set h hs
    have b1 := names_sz a1
    have b2 := names_sz a3
    have b3 := names_sz a5
    simp only [szPolicy]; omega
  | false =>
    simp only [isPolicy, hs, Bool.false_eq_true, if_false, decide_eq_true_eq] at h
    obtain ⟨h1, h2, h3, h4⟩ := h
    rw [List.length_eq_zero_iff] at h1 h2 h3
    simp only [szPolicy, h1, h2, h3, h4]
    decide
def fResponse10 : Xct := ⟨[.u, .v (.el .int)], [.el .response], fun (x_ : Unit × Int × Unit) => True, fun (x_ : Unit × Int × Unit) (y_ : SResponse × Unit) => y_.1.body.size ≤ 2000 ∧ y_.1.policy.size ≤ 200⟩
-- spec.l10Response
theorem k50_32 : fResponse10.ok Try.prog 50 := Xct.of (S := fResponse10) (L := fun _ _ => none) (kp := [0,1,4,5,17,1000017]) E32ok Try.func50 (by kernel_rfl) (by kernel_rfl) (by
  rintro ⟨(c : PUnit), (k : Int), _⟩ hp
  refine holds_of (X := .ob (fBody10.pre ((), k, ())) <|
 .lp (ByteArray × PUnit) (True) (fBody10.is ((), k, ())) fun y1 =>
 .ob (fIntL.pre ((), [(0 : Int), (5 : Int), (50 : Int)], ())) <|
  .lp (Int × PUnit) (True) (fIntL.is ((), [(0 : Int), (5 : Int), (50 : Int)], ())) fun y3 =>
  .ob (fOnce.pre ((), (2 : Int), ())) <|
   .lp (Bool × PUnit) (True) (fOnce.is ((), (2 : Int), ())) fun y4 =>
   .br (k == (1 : Int))
    (.ob (fPolicy9.pre ((), ())) <|
     .lp (SPolicy × PUnit) (True) (fPolicy9.is ((), ())) fun y6 =>
     .ob (fFormatPolicy.pre (y6.fst, ())) <|
      .lt (ByteArray × PUnit) (fFormatPolicy.fn (y6.fst, ())) fun z2 =>
      .leaf (mkR fResponse10.rs (⟨(200 : Int), k, y1.fst, y3.fst, y4.fst, z2.fst⟩, ())) [] [])
    (.leaf (mkR fResponse10.rs (⟨(200 : Int), k, y1.fst, y3.fst, y4.fst, { data := #[] : ByteArray }⟩, ())) [] [])) (by kernel_rfl) ?_
  refine ob_i trivial fun _ => lp_i trivial fun y1 i1 => ob_i ?_ fun o2 => lp_i trivial fun y3 i3 => ob_i trivial fun _ => lp_i trivial fun y4 i4 => br_i (fun h5 => ob_i trivial fun _ => lp_i trivial fun y6 i6 => ob_i ?_ fun o7 => lt_e fun z2 ez2 => (Xct.leafY (S := fResponse10) (⟨(200 : Int), k, y1.fst, y3.fst, y4.fst, z2.fst⟩, ()) ?_)) (fun h5 => Xct.leafY (S := fResponse10) (⟨(200 : Int), k, y1.fst, y3.fst, y4.fst, { data := #[] : ByteArray }⟩, ()) ?_)
  all_goals try subst_vars
  all_goals try have q := isPolicy_sz i6
  all_goals try have q2 := formatPolicy_size y6.1
  all_goals try simp only [decide_eq_true_eq, decide_eq_false_iff_not, Bool.not_eq_true', Bool.not_eq_false', bne_iff_ne, bne_eq_false_iff_eq, beq_iff_eq, beq_eq_false_iff_ne, baEq, Int.not_lt, Int.not_le, ne_eq, Decidable.not_not] at *
  all_goals try simp only [fBody10, fFormatPolicy, fIntL, fOnce, fPolicy9, fResponse10, etaToken, etaNode, etaBuilder, etaPolicy, etaPage, etaVisit, etaTab, etaServer, etaCache, etaNet, etaLoader, etaSheet, etaResult, etaSlot, etaModule, etaAddr, etaRequest, etaResponse, etaConn, etaGuess, etaEntry, etaSent, etaFile, baSz, List.size_toArray, List.length_cons, List.length_nil, Nat.reduceAdd, Int.toNat_zero, List.drop_zero, decide_eq_true_eq, decide_eq_false_iff_not, Bool.not_eq_true', Bool.not_eq_false', bne_iff_ne, bne_eq_false_iff_eq, beq_iff_eq, beq_eq_false_iff_ne, Bool.not_eq_true, Bool.not_eq_false, ne_eq, Decidable.not_not, baEq, decide_not, Prod.mk.injEq, and_true, true_and, Room, List.nil_append, Nat.zero_add, Int.not_lt, Int.not_le] at *
  all_goals first | omega | decide | exact ⟨i1, q2⟩ | exact ⟨i1, by decide⟩)
def E33 : D.Env := E32.addX 50 fResponse10
theorem E33ok : EOk Try.prog E33 := E32ok.addX k50_32
def fAny10 : Xct := ⟨[.u], [.el .response], fun (x_ : Unit × Unit) => True, fun (x_ : Unit × Unit) (y_ : SResponse × Unit) => y_.1.body.size ≤ 2000 ∧ y_.1.policy.size ≤ 200⟩
abbrev W_spec_l10Any_fAny10_12 (c : Unit) : LInv := ⟨[⟨.b, 3, true, .el .response⟩, ⟨.b, 2, true, .el .response⟩], fun (z_ : SResponse × SResponse × Unit) (x_ : SResponse × SResponse × Unit) => (x_.1.body.size ≤ 2000 ∧ x_.1.policy.size ≤ 200) ∧ x_.2.1 = z_.2.1, fun (x_ : SResponse × SResponse × Unit) => 400 - x_.1.body.size⟩
-- spec.l10Any
theorem k29_33 : fAny10.ok Try.prog 29 := Xct.of (S := fAny10) (L := fun ⟨c, _⟩ => fun | 12 => some (W_spec_l10Any_fAny10_12 c) | _ => none) (kp := [0,2,3,10,11,17,23,29,35,40,1000011,1000017,1000023,1000029,1000035,1000040]) E33ok Try.func29 (by kernel_rfl) (by kernel_rfl) (by
  rintro ⟨(c : PUnit), _⟩ hp
  refine holds_of (X := .ob (fBelow.pre ((), (5 : Int), ())) <|
 .lp (Int × PUnit) (True) (fBelow.is ((), (5 : Int), ())) fun y1 =>
 .ob (fResponse10.pre ((), IntKind.i64.wrap ((1 : Int) + y1.fst), ())) <|
  .lp (SResponse × PUnit) (True) (fResponse10.is ((), IntKind.i64.wrap ((1 : Int) + y1.fst), ())) fun y2 =>
  .ob (fBelow.pre ((), (12 : Int), ())) <|
   .lp (Int × PUnit) (True) (fBelow.is ((), (12 : Int), ())) fun y3 =>
   .br (y3.fst == (0 : Int))
    (.ob (fIntL.pre ((), [(99 : Int), (100 : Int), (404 : Int), (599 : Int), (600 : Int)], ())) <|
     .lp (Int × PUnit) (True) (fIntL.is ((), [(99 : Int), (100 : Int), (404 : Int), (599 : Int), (600 : Int)], ())) fun y6 =>
     .leaf (mkR fAny10.rs (⟨y6.fst, y2.fst.kind, y2.fst.body, y2.fst.age, y2.fst.shares, y2.fst.policy⟩, ())) [] [])
    (.br (y3.fst == (1 : Int))
     (.ob (fIntL.pre ((), [(0 : Int), (6 : Int)], ())) <|
      .lp (Int × PUnit) (True) (fIntL.is ((), [(0 : Int), (6 : Int)], ())) fun y9 =>
      .leaf (mkR fAny10.rs (⟨y2.fst.status, y9.fst, y2.fst.body, y2.fst.age, y2.fst.shares, y2.fst.policy⟩, ())) [] [])
     (.br (y3.fst == (2 : Int))
      (.ob (fIntL.pre ((), [(-1 : Int), (1000 : Int), (1001 : Int)], ())) <|
       .lp (Int × PUnit) (True) (fIntL.is ((), [(-1 : Int), (1000 : Int), (1001 : Int)], ())) fun y12 =>
       .leaf (mkR fAny10.rs (⟨y2.fst.status, y2.fst.kind, y2.fst.body, y12.fst, y2.fst.shares, y2.fst.policy⟩, ())) [] [])
      (.br (y3.fst == (3 : Int))
       (.ob (fStrL.pre ((), [{ data := #[(120 : UInt8)] : ByteArray }, { data := #[(115 : UInt8), (99 : UInt8), (114 : UInt8), (105 : UInt8), (112 : UInt8), (116 : UInt8), (59 : UInt8), (115 : UInt8), (116 : UInt8), (121 : UInt8), (108 : UInt8), (101 : UInt8), (59 : UInt8), (105 : UInt8), (109 : UInt8), (103 : UInt8)] : ByteArray }], ())) <|
        .lp (ByteArray × PUnit) (True) (fStrL.is ((), [{ data := #[(120 : UInt8)] : ByteArray }, { data := #[(115 : UInt8), (99 : UInt8), (114 : UInt8), (105 : UInt8), (112 : UInt8), (116 : UInt8), (59 : UInt8), (115 : UInt8), (116 : UInt8), (121 : UInt8), (108 : UInt8), (101 : UInt8), (59 : UInt8), (105 : UInt8), (109 : UInt8), (103 : UInt8)] : ByteArray }], ())) fun y15 =>
        .leaf (mkR fAny10.rs (⟨y2.fst.status, y2.fst.kind, y2.fst.body, y2.fst.age, y2.fst.shares, y15.fst⟩, ())) [] [])
       (.br (y3.fst == (4 : Int))
        (lpx (W_spec_l10Any_fAny10_12 c) (y2.fst, (default, ())) fun (y17 : SResponse × SResponse × PUnit) bk17 =>
         .br (decide ((↑y17.fst.body.size : Int) < (400 : Int)))
          (.ob (sameSize y17.fst.body { data := #[(48 : UInt8), (49 : UInt8), (50 : UInt8), (51 : UInt8), (52 : UInt8), (53 : UInt8), (54 : UInt8), (55 : UInt8), (56 : UInt8), (57 : UInt8)] : ByteArray }) <|
           .ob (Value.int IntKind.i64 y3.fst = Value.int IntKind.i64 y3.fst) <|
           .ob (bk17 ({ status := y17.fst.status, kind := y17.fst.kind, body := y17.fst.body ++ { data := #[(48 : UInt8), (49 : UInt8), (50 : UInt8), (51 : UInt8), (52 : UInt8), (53 : UInt8), (54 : UInt8), (55 : UInt8), (56 : UInt8), (57 : UInt8)] : ByteArray }, age := y17.fst.age, shares := y17.fst.shares, policy := y17.fst.policy : SResponse }, (y17.snd.fst, ()))) <|
           .ok)
          (.leaf (mkR fAny10.rs (y17.fst, ())) [] []))
        (.leaf (mkR fAny10.rs (y2.fst, ())) [] [])))))) (by kernel_rfl) ?_
  refine ob_i trivial fun _ => lp_i trivial fun y1 i1 => ob_i trivial fun _ => lp_i trivial fun y2 i2 => ob_i trivial fun _ => lp_i trivial fun y3 i3 => br_i (fun h4 => ob_i ?_ fun o5 => lp_i trivial fun y6 i6 => Xct.leafY (S := fAny10) (⟨y6.fst, y2.fst.kind, y2.fst.body, y2.fst.age, y2.fst.shares, y2.fst.policy⟩, ()) ?_) (fun h4 => br_i (fun h7 => ob_i ?_ fun o8 => lp_i trivial fun y9 i9 => Xct.leafY (S := fAny10) (⟨y2.fst.status, y9.fst, y2.fst.body, y2.fst.age, y2.fst.shares, y2.fst.policy⟩, ()) ?_) (fun h7 => br_i (fun h10 => ob_i ?_ fun o11 => lp_i trivial fun y12 i12 => Xct.leafY (S := fAny10) (⟨y2.fst.status, y2.fst.kind, y2.fst.body, y12.fst, y2.fst.shares, y2.fst.policy⟩, ()) ?_) (fun h10 => br_i (fun h13 => ob_i ?_ fun o14 => lp_i trivial fun y15 i15 => Xct.leafY (S := fAny10) (⟨y2.fst.status, y2.fst.kind, y2.fst.body, y2.fst.age, y2.fst.shares, y15.fst⟩, ()) ?_) (fun h13 => br_i (fun h16 => lpx_i ?_ fun (y17 : SResponse × SResponse × PUnit) i17 => br_i (fun h18 => ob_i ?_ fun o19 => ob_i rfl fun _ => ob_i ?_ fun o20 => trivial) (fun h18 => Xct.leafY (S := fAny10) (y17.fst, ()) ?_)) (fun h16 => Xct.leafY (S := fAny10) (y2.fst, ()) ?_)))))
  all_goals try simp only [decide_eq_true_eq, decide_eq_false_iff_not, Bool.not_eq_true', Bool.not_eq_false', bne_iff_ne, bne_eq_false_iff_eq, beq_iff_eq, beq_eq_false_iff_ne, baEq, Int.not_lt, Int.not_le, ne_eq, Decidable.not_not] at *
  all_goals try simp only [W_spec_l10Any_fAny10_12, fAny10, fBelow, fIntL, fResponse10, fStrL, etaToken, etaNode, etaBuilder, etaPolicy, etaPage, etaVisit, etaTab, etaServer, etaCache, etaNet, etaLoader, etaSheet, etaResult, etaSlot, etaModule, etaAddr, etaRequest, etaResponse, etaConn, etaGuess, etaEntry, etaSent, etaFile, baSz, List.size_toArray, List.length_cons, List.length_nil, Nat.reduceAdd, Int.toNat_zero, List.drop_zero, decide_eq_true_eq, decide_eq_false_iff_not, Bool.not_eq_true', Bool.not_eq_false', bne_iff_ne, bne_eq_false_iff_eq, beq_iff_eq, beq_eq_false_iff_ne, Bool.not_eq_true, Bool.not_eq_false, ne_eq, Decidable.not_not, baEq, decide_not, Prod.mk.injEq, and_true, true_and, Room, List.nil_append, Nat.zero_add, Int.not_lt, Int.not_le] at *
  all_goals first | omega | decide | exact i2 | skip
  all_goals try simp only [decide_eq_true_eq, decide_eq_false_iff_not, Bool.not_eq_true', Bool.not_eq_false', bne_iff_ne, bne_eq_false_iff_eq, beq_iff_eq, beq_eq_false_iff_ne, baEq, Int.not_lt, Int.not_le, ne_eq, Decidable.not_not] at *
  all_goals try simp only [W_spec_l10Any_fAny10_12, fAny10, fBelow, fIntL, fResponse10, fStrL, etaToken, etaNode, etaBuilder, etaPolicy, etaPage, etaVisit, etaTab, etaServer, etaCache, etaNet, etaLoader, etaSheet, etaResult, etaSlot, etaModule, etaAddr, etaRequest, etaResponse, etaConn, etaGuess, etaEntry, etaSent, etaFile, baSz, List.size_toArray, List.length_cons, List.length_nil, Nat.reduceAdd, Int.toNat_zero, List.drop_zero, decide_eq_true_eq, decide_eq_false_iff_not, Bool.not_eq_true', Bool.not_eq_false', bne_iff_ne, bne_eq_false_iff_eq, beq_iff_eq, beq_eq_false_iff_ne, Bool.not_eq_true, Bool.not_eq_false, ne_eq, Decidable.not_not, baEq, decide_not, Prod.mk.injEq, and_true, true_and, Room, List.nil_append, Nat.zero_add, Int.not_lt, Int.not_le, sameSize, ByteArray.size_append] at *
  all_goals try simp (disch := omega) only [wrapId', toNat1] at *
  all_goals try simp (disch := omega) only [if_pos, if_neg]
  all_goals first | trivial | omega | grind [wrapId', toNat1, drop_cons, drop_end, good_len, maxLen, sameSize, ByteArray.size_append])
def E34 : D.Env := E33.addX 29 fAny10
theorem E34ok : EOk Try.prog E34 := E33ok.addX k29_33
def findGuess (l : List SGuess) (a : SAddr) : Int := fidx (fun g => decide (g.to = a)) l 0
def fFindGuess : Fct := ⟨[.v (.sl .guess), .v (.el .addr)], [.el .int], fun (x_ : (List SGuess) × SAddr × Unit) => x_.1.length ≤ 1048576, fun (x_ : (List SGuess) × SAddr × Unit) => (findGuess x_.1 x_.2.1, ())⟩
abbrev W_spec_FindGuess_fFindGuess_2 (l : (List SGuess)) (a : SAddr) : LInv := ⟨[⟨.s, 5, true, .el .int⟩, ⟨.b, 3, true, .el .addr⟩], fun (z_ : Int × SAddr × Unit) (x_ : Int × SAddr × Unit) => (0 ≤ x_.1 ∧ x_.1 ≤ l.length ∧ fidx (fun g => decide (g.to = a)) (l.drop x_.1.toNat) x_.1 = findGuess l a) ∧ x_.2.1 = z_.2.1, fun (x_ : Int × SAddr × Unit) => l.length - x_.1.toNat⟩
-- spec.FindGuess
theorem k31_34 : fFindGuess.ok Try.prog 31 := Fct.of (S := fFindGuess) (L := fun ⟨l, a, _⟩ => fun | 2 => some (W_spec_FindGuess_fFindGuess_2 l a) | _ => none) (kp := [0,3,4,5,9,18,1000009,1000018]) E34ok Try.func31 (by kernel_rfl) (by kernel_rfl) (by
  rintro ⟨(l : List SGuess), (a : SAddr), _⟩ hp
  refine holds_of (X := lpx (W_spec_FindGuess_fFindGuess_2 l a) ((0 : Int), (a, ())) fun (y1 : Int × SAddr × PUnit) bk1 =>
 .br (decide (y1.fst < (↑l.length : Int)))
  (.ob ((0 : Int) ≤ y1.fst ∧ y1.fst < (↑l.length : Int)) <|
   .br ((l.getD y1.fst.toNat default).to.host == y1.snd.fst.host &&
  ((l.getD y1.fst.toNat default).to.path == y1.snd.fst.path && true))
   (.leaf (mkR fFindGuess.rs (y1.fst, ())) [] [])
   (.ob (l = l) <|
    .ob (bk1 (IntKind.i64.wrap (y1.fst + (1 : Int)), (y1.snd.fst, ()))) <|
    .ok))
  (.leaf (mkR fFindGuess.rs ((-1 : Int), ())) [] [])) (by kernel_rfl) ?_
  refine lpx_i ?_ fun (y1 : Int × SAddr × PUnit) i1 => br_i (fun h2 => ob_i ?_ fun o3 => br_i (fun h4 => Fct.leafY ?_) (fun h4 => ob_i rfl fun _ => ob_i ?_ fun o5 => trivial)) (fun h2 => Fct.leafY ?_)
  all_goals try simp only [beqAddr] at *
  all_goals try simp only [decide_eq_true_eq, decide_eq_false_iff_not, Bool.not_eq_true', Bool.not_eq_false', bne_iff_ne, bne_eq_false_iff_eq, beq_iff_eq, beq_eq_false_iff_ne, baEq, Int.not_lt, Int.not_le, ne_eq, Decidable.not_not] at *
  all_goals try simp only [W_spec_FindGuess_fFindGuess_2, fFindGuess, etaToken, etaNode, etaBuilder, etaPolicy, etaPage, etaVisit, etaTab, etaServer, etaCache, etaNet, etaLoader, etaSheet, etaResult, etaSlot, etaModule, etaAddr, etaRequest, etaResponse, etaConn, etaGuess, etaEntry, etaSent, etaFile, baSz, List.size_toArray, List.length_cons, List.length_nil, Nat.reduceAdd, Int.toNat_zero, List.drop_zero, decide_eq_true_eq, decide_eq_false_iff_not, Bool.not_eq_true', Bool.not_eq_false', bne_iff_ne, bne_eq_false_iff_eq, beq_iff_eq, beq_eq_false_iff_ne, Bool.not_eq_true, Bool.not_eq_false, ne_eq, Decidable.not_not, baEq, decide_not, Prod.mk.injEq, and_true, true_and, Room, List.nil_append, Nat.zero_add, Int.not_lt, Int.not_le, findGuess, fidx] at *
  all_goals try simp (disch := omega) only [wrapId', toNat1] at *
  all_goals try simp (disch := omega) only [if_pos, if_neg]
  all_goals first | trivial | omega | grind [wrapId', toNat1, drop_cons, drop_end, good_len, maxLen, findGuess, fidx])
def E35 : D.Env := E34.add 31 fFindGuess
theorem E35ok : EOk Try.prog E35 := E34ok.add k31_34
def fFindGuess1 : Fct := ⟨[.v (.el .guess), .p (.el .addr)], [.el .bool], fun (x_ : SGuess × SAddr × Unit) => True, fun (x_ : SGuess × SAddr × Unit) => (decide (x_.1.to = x_.2.1), ())⟩
-- impl.FindGuess$1
theorem k36_35 : fFindGuess1.ok Try.prog 36 := Fct.of (S := fFindGuess1) (L := fun _ _ => none) (kp := [1,2,3]) E35ok Try.func36 (by kernel_rfl) (by kernel_rfl) (by
  rintro ⟨(g : SGuess), (a : SAddr), _⟩ hp
  refine holds_of (X := .leaf (mkR fFindGuess1.rs (g.to.host == a.host && (g.to.path == a.path && true), ())) [] []) (by kernel_rfl) ?_
  refine Fct.leafY ?_
  all_goals try simp only [beqAddr] at *
  all_goals try simp only [decide_eq_true_eq, decide_eq_false_iff_not, Bool.not_eq_true', Bool.not_eq_false', bne_iff_ne, bne_eq_false_iff_eq, beq_iff_eq, beq_eq_false_iff_ne, baEq, Int.not_lt, Int.not_le, ne_eq, Decidable.not_not] at *
  all_goals try simp only [fFindGuess1, etaToken, etaNode, etaBuilder, etaPolicy, etaPage, etaVisit, etaTab, etaServer, etaCache, etaNet, etaLoader, etaSheet, etaResult, etaSlot, etaModule, etaAddr, etaRequest, etaResponse, etaConn, etaGuess, etaEntry, etaSent, etaFile, baSz, List.size_toArray, List.length_cons, List.length_nil, Nat.reduceAdd, Int.toNat_zero, List.drop_zero, decide_eq_true_eq, decide_eq_false_iff_not, Bool.not_eq_true', Bool.not_eq_false', bne_iff_ne, bne_eq_false_iff_eq, beq_iff_eq, beq_eq_false_iff_ne, Bool.not_eq_true, Bool.not_eq_false, ne_eq, Decidable.not_not, baEq, decide_not, Prod.mk.injEq, and_true, true_and, Room, List.nil_append, Nat.zero_add, Int.not_lt, Int.not_le] at *
  all_goals try simp (disch := omega) only [wrapId', toNat1] at *
  all_goals try simp (disch := omega) only [if_pos, if_neg]
  all_goals first | trivial | omega | grind [wrapId', toNat1, drop_cons, drop_end, good_len, maxLen])
def E36 : D.Env := E35.add 36 fFindGuess1
theorem E36ok : EOk Try.prog E36 := E35ok.add k36_35
def fIndexFunc_guess_impl_FindGuess_1 : Fct := ⟨[aL .guess, .c 36 [.el .addr]], [rI], fun x => x.1.length ≤ 1000000000000000000 ∧ ∀ c, fFindGuess1.pre (c, x.2.1), fun x => (fidx (fun c => (fFindGuess1.fn (c, x.2.1)).1) x.1 0, ())⟩
abbrev W_slices_IndexFunc_impl_Guess_impl_Guess_fIndexFunc_guess_impl_FindGuess_1_2 (l : (List SGuess)) (u : (SAddr × Unit)) : LInv := ⟨[⟨.s, 8, true, .el .int⟩], fun _ (x_ : Int × Unit) => 0 ≤ x_.1 ∧ x_.1 ≤ l.length ∧ fidx (fun c => (fFindGuess1.fn (c, u)).1) l 0 = fidx (fun c => (fFindGuess1.fn (c, u)).1) (l.drop x_.1.toNat) x_.1, fun (x_ : Int × Unit) => l.length - x_.1.toNat⟩
-- slices.IndexFunc[[]impl.Guess,impl.Guess]
theorem k35_36 : fIndexFunc_guess_impl_FindGuess_1.ok Try.prog 35 := Fct.of (S := fIndexFunc_guess_impl_FindGuess_1) (L := fun ⟨l, u, _⟩ => fun | 2 => some (W_slices_IndexFunc_impl_Guess_impl_Guess_fIndexFunc_guess_impl_FindGuess_1_2 l u) | _ => none) (kp := [0,1,4,5,7,8,9,16,1000009,1000016]) E36ok Try.func35 (by kernel_rfl) (by kernel_rfl) (by
  rintro ⟨(l : List SGuess), (u : SAddr × PUnit), _⟩ hp
  refine holds_of (X := lpx (W_slices_IndexFunc_impl_Guess_impl_Guess_fIndexFunc_guess_impl_FindGuess_1_2 l u) ((0 : Int), ()) fun (y1 : Int × PUnit) bk1 =>
 .br (decide (y1.fst < (↑l.length : Int)))
  (.ob ((0 : Int) ≤ y1.fst ∧ y1.fst < (↑l.length : Int)) <|
   .ob (fFindGuess1.pre (l.getD y1.fst.toNat default, u.fst, ())) <|
   .lt (Bool × PUnit) (fFindGuess1.fn (l.getD y1.fst.toNat default, u.fst, ())) fun z2 =>
   .br (z2.fst)
    (.leaf (mkR fIndexFunc_guess_impl_FindGuess_1.rs (y1.fst, ())) [] [])
    (.ob (l = l) <|
     .ob (enc Ty.addr u.fst = enc Ty.addr u.fst) <|
     .ob (Value.int IntKind.i64 (↑l.length : Int) = Value.int IntKind.i64 (↑l.length : Int)) <|
     .ob (bk1 (IntKind.i64.wrap (y1.fst + (1 : Int)), ())) <|
     .ok))
  (.leaf (mkR fIndexFunc_guess_impl_FindGuess_1.rs ((-1 : Int), ())) [] [])) (by kernel_rfl) ?_
  refine lpx_i ?_ fun (y1 : Int × PUnit) i1 => br_i (fun h2 => ob_i ?_ fun o3 => ob_i trivial fun _ => lt_i (br_i (fun h4 => Fct.leafY ?_) (fun h4 => ob_i rfl fun _ => ob_i rfl fun _ => ob_i rfl fun _ => ob_i ?_ fun o5 => trivial))) (fun h2 => Fct.leafY ?_)
  all_goals try simp only [decide_eq_true_eq, decide_eq_false_iff_not, Bool.not_eq_true', Bool.not_eq_false', bne_iff_ne, bne_eq_false_iff_eq, beq_iff_eq, beq_eq_false_iff_ne, baEq, Int.not_lt, Int.not_le, ne_eq, Decidable.not_not] at *
  all_goals try simp only [W_slices_IndexFunc_impl_Guess_impl_Guess_fIndexFunc_guess_impl_FindGuess_1_2, fFindGuess1, fIndexFunc_guess_impl_FindGuess_1, etaToken, etaNode, etaBuilder, etaPolicy, etaPage, etaVisit, etaTab, etaServer, etaCache, etaNet, etaLoader, etaSheet, etaResult, etaSlot, etaModule, etaAddr, etaRequest, etaResponse, etaConn, etaGuess, etaEntry, etaSent, etaFile, baSz, List.size_toArray, List.length_cons, List.length_nil, Nat.reduceAdd, Int.toNat_zero, List.drop_zero, decide_eq_true_eq, decide_eq_false_iff_not, Bool.not_eq_true', Bool.not_eq_false', bne_iff_ne, bne_eq_false_iff_eq, beq_iff_eq, beq_eq_false_iff_ne, Bool.not_eq_true, Bool.not_eq_false, ne_eq, Decidable.not_not, baEq, decide_not, Prod.mk.injEq, and_true, true_and, Room, List.nil_append, Nat.zero_add, Int.not_lt, Int.not_le] at *
  all_goals try have hp2 := hp.2
  all_goals try have hp1 := hp.1
  all_goals first | trivial | omega | grind [wrapId', toNat1, drop_cons, drop_end, good_len, maxLen, fidx])
def E37 : D.Env := E36.add 35 fIndexFunc_guess_impl_FindGuess_1
theorem E37ok : EOk Try.prog E37 := E36ok.add k35_36
-- impl.FindGuess
theorem k11_37 : fFindGuess.ok Try.prog 11 := Fct.of (S := fFindGuess) (L := fun _ _ => none) (kp := [0,3,4]) E37ok Try.func11 (by kernel_rfl) (by kernel_rfl) (by
  rintro ⟨(l : List SGuess), (a : SAddr), _⟩ hp
  refine holds_of (X := .ob (fIndexFunc_guess_impl_FindGuess_1.pre (l, (a, ()), ())) <|
 .lt (Int × PUnit) (fIndexFunc_guess_impl_FindGuess_1.fn (l, (a, ()), ())) fun z2 =>
 .leaf (mkR fFindGuess.rs (z2.fst, ())) [] []) (by kernel_rfl) ?_
  refine ob_i ?_ fun o1 => lt_i (Fct.leafY ?_)
  all_goals try simp only [decide_eq_true_eq, decide_eq_false_iff_not, Bool.not_eq_true', Bool.not_eq_false', bne_iff_ne, bne_eq_false_iff_eq, beq_iff_eq, beq_eq_false_iff_ne, baEq, Int.not_lt, Int.not_le, ne_eq, Decidable.not_not] at *
  all_goals try simp only [fFindGuess, fIndexFunc_guess_impl_FindGuess_1, etaToken, etaNode, etaBuilder, etaPolicy, etaPage, etaVisit, etaTab, etaServer, etaCache, etaNet, etaLoader, etaSheet, etaResult, etaSlot, etaModule, etaAddr, etaRequest, etaResponse, etaConn, etaGuess, etaEntry, etaSent, etaFile, baSz, List.size_toArray, List.length_cons, List.length_nil, Nat.reduceAdd, Int.toNat_zero, List.drop_zero, decide_eq_true_eq, decide_eq_false_iff_not, Bool.not_eq_true', Bool.not_eq_false', bne_iff_ne, bne_eq_false_iff_eq, beq_iff_eq, beq_eq_false_iff_ne, Bool.not_eq_true, Bool.not_eq_false, ne_eq, Decidable.not_not, baEq, decide_not, Prod.mk.injEq, and_true, true_and, Room, List.nil_append, Nat.zero_add, Int.not_lt, Int.not_le, fFindGuess1, findGuess] at *
  all_goals try simp (disch := omega) only [wrapId', toNat1] at *
  all_goals try simp (disch := omega) only [if_pos, if_neg]
  all_goals first | trivial | omega | grind [wrapId', toNat1, drop_cons, drop_end, good_len, maxLen, fFindGuess1, findGuess])
def E38 : D.Env := E37.add 11 fFindGuess
theorem E38ok : EOk Try.prog E38 := E37ok.add k11_37
def fCopyGuesses : Fct := ⟨[.v (.sl .guess)], [.sl .guess], fun (x_ : (List SGuess) × Unit) => x_.1.length ≤ 1048576, fun (x_ : (List SGuess) × Unit) => (x_.1, ())⟩
-- impl.copyGuesses
theorem k30_38 : fCopyGuesses.ok Try.prog 30 := Fct.of (S := fCopyGuesses) (L := fun _ _ => none) (kp := [0,2]) E38ok Try.func30 (by kernel_rfl) (by kernel_rfl) (by
  rintro ⟨(l : List SGuess), _⟩ hp
  refine holds_of (X := .ob (True) <|
 .ob (Room ((0 : Nat) + List.length l) (104 : Nat)) <|
 .leaf (mkR fCopyGuesses.rs ([] ++ l, ())) [] []) (by kernel_rfl) ?_
  refine ob_i trivial fun _ => ob_i ?_ fun o1 => Fct.leafY ?_
  all_goals try simp only [decide_eq_true_eq, decide_eq_false_iff_not, Bool.not_eq_true', Bool.not_eq_false', bne_iff_ne, bne_eq_false_iff_eq, beq_iff_eq, beq_eq_false_iff_ne, baEq, Int.not_lt, Int.not_le, ne_eq, Decidable.not_not] at *
  all_goals try simp only [fCopyGuesses, etaToken, etaNode, etaBuilder, etaPolicy, etaPage, etaVisit, etaTab, etaServer, etaCache, etaNet, etaLoader, etaSheet, etaResult, etaSlot, etaModule, etaAddr, etaRequest, etaResponse, etaConn, etaGuess, etaEntry, etaSent, etaFile, baSz, List.size_toArray, List.length_cons, List.length_nil, Nat.reduceAdd, Int.toNat_zero, List.drop_zero, decide_eq_true_eq, decide_eq_false_iff_not, Bool.not_eq_true', Bool.not_eq_false', bne_iff_ne, bne_eq_false_iff_eq, beq_iff_eq, beq_eq_false_iff_ne, Bool.not_eq_true, Bool.not_eq_false, ne_eq, Decidable.not_not, baEq, decide_not, Prod.mk.injEq, and_true, true_and, Room, List.nil_append, Nat.zero_add, Int.not_lt, Int.not_le] at *
  all_goals try simp (disch := omega) only [wrapId', toNat1] at *
  all_goals try simp (disch := omega) only [if_pos, if_neg]
  all_goals first | trivial | omega | grind [wrapId', toNat1, drop_cons, drop_end, good_len, maxLen])
def E39 : D.Env := E38.add 30 fCopyGuesses
theorem E39ok : EOk Try.prog E39 := E38ok.add k30_38
def addGuess (l : List SGuess) (a : SAddr) (x : SResponse) : List SGuess × Bool := if 0 ≤ findGuess l a ∨ 6 ≤ countIf (fun g => !g.used) l then (l, false) else (l ++ [⟨a, x, false⟩], true)
def fAddGuess : Fct := ⟨[.v (.sl .guess), .v (.el .addr), .v (.el .response)], [.sl .guess, .el .bool], fun (x_ : (List SGuess) × SAddr × SResponse × Unit) => x_.1.length ≤ 1048576, fun (x_ : (List SGuess) × SAddr × SResponse × Unit) => ((addGuess x_.1 x_.2.1 x_.2.2.1).1, (addGuess x_.1 x_.2.1 x_.2.2.1).2, ())⟩
-- spec.AddGuess
theorem k8_39 : fAddGuess.ok Try.prog 8 := Fct.of (S := fAddGuess) (L := fun _ _ => none) (kp := [0,4,5,6,7,8,20,1000020]) E39ok Try.func8 (by kernel_rfl) (by kernel_rfl) (by
  rintro ⟨(l : List SGuess), (a : SAddr), (x : SResponse), _⟩ hp
  refine holds_of (X := .ob (True) <|
 .ob (Room ((0 : Nat) + List.length l) (104 : Nat)) <|
 .ob (fFindGuess.pre (l, a, ())) <|
 .lt (Int × PUnit) (fFindGuess.fn (l, a, ())) fun z2 =>
 .br (decide (z2.fst ≥ (0 : Int)))
  (.leaf (mkR fAddGuess.rs ([] ++ l, false, ())) [] [])
  (.ob (fUnused.pre (l, ())) <|
   .lt (Int × PUnit) (fUnused.fn (l, ())) fun z3 =>
   .br (decide (z3.fst ≥ (6 : Int)))
    (.leaf (mkR fAddGuess.rs ([] ++ l, false, ())) [] [])
    (.ob (True) <|
     .ob (Room (([] ++ l).length + [{ to := a, response := x, used := false : SGuess }].length) (104 : Nat)) <|
     .leaf (mkR fAddGuess.rs ([] ++ l ++ [{ to := a, response := x, used := false : SGuess }], true, ())) [] []))) (by kernel_rfl) ?_
  refine ob_i trivial fun _ => ob_i ?_ fun o1 => ob_i ?_ fun o2 => lt_i (br_i (fun h3 => Fct.leafY ?_) (fun h3 => ob_i ?_ fun o4 => lt_i (br_i (fun h5 => Fct.leafY ?_) (fun h5 => ob_i trivial fun _ => ob_i ?_ fun o6 => Fct.leafY ?_))))
  all_goals try simp only [decide_eq_true_eq, decide_eq_false_iff_not, Bool.not_eq_true', Bool.not_eq_false', bne_iff_ne, bne_eq_false_iff_eq, beq_iff_eq, beq_eq_false_iff_ne, baEq, Int.not_lt, Int.not_le, ne_eq, Decidable.not_not] at *
  all_goals try simp only [fAddGuess, fFindGuess, fUnused, etaToken, etaNode, etaBuilder, etaPolicy, etaPage, etaVisit, etaTab, etaServer, etaCache, etaNet, etaLoader, etaSheet, etaResult, etaSlot, etaModule, etaAddr, etaRequest, etaResponse, etaConn, etaGuess, etaEntry, etaSent, etaFile, baSz, List.size_toArray, List.length_cons, List.length_nil, Nat.reduceAdd, Int.toNat_zero, List.drop_zero, decide_eq_true_eq, decide_eq_false_iff_not, Bool.not_eq_true', Bool.not_eq_false', bne_iff_ne, bne_eq_false_iff_eq, beq_iff_eq, beq_eq_false_iff_ne, Bool.not_eq_true, Bool.not_eq_false, ne_eq, Decidable.not_not, baEq, decide_not, Prod.mk.injEq, and_true, true_and, Room, List.nil_append, Nat.zero_add, Int.not_lt, Int.not_le, addGuess, fUnused, fCopyGuesses] at *
  all_goals try simp (disch := omega) only [wrapId', toNat1] at *
  all_goals try simp (disch := omega) only [if_pos, if_neg]
  all_goals first | trivial | omega | grind [wrapId', toNat1, drop_cons, drop_end, good_len, maxLen, addGuess, fUnused, fCopyGuesses])
def E40 : D.Env := E39.add 8 fAddGuess
theorem E40ok : EOk Try.prog E40 := E39ok.add k8_39
-- impl.AddGuess
theorem k7_40 : fAddGuess.ok Try.prog 7 := Fct.of (S := fAddGuess) (L := fun _ _ => none) (kp := [0,4,5,6,7,8,19,1000019]) E40ok Try.func7 (by kernel_rfl) (by kernel_rfl) (by
  rintro ⟨(l : List SGuess), (a : SAddr), (x : SResponse), _⟩ hp
  refine holds_of (X := .ob (fCopyGuesses.pre (l, ())) <|
 .lt (List SGuess × PUnit) (fCopyGuesses.fn (l, ())) fun z2 =>
 .ob (fFindGuess.pre (l, a, ())) <|
  .lt (Int × PUnit) (fFindGuess.fn (l, a, ())) fun z3 =>
  .br (decide (z3.fst ≥ (0 : Int)))
   (.leaf (mkR fAddGuess.rs (z2.fst, false, ())) [] [])
   (.ob (fUnused.pre (l, ())) <|
    .lt (Int × PUnit) (fUnused.fn (l, ())) fun z4 =>
    .br (decide (z4.fst ≥ (6 : Int)))
     (.leaf (mkR fAddGuess.rs (z2.fst, false, ())) [] [])
     (.ob (True) <|
      .ob (Room (z2.fst.length + [{ to := a, response := x, used := false : SGuess }].length) (104 : Nat)) <|
      .leaf (mkR fAddGuess.rs (z2.fst ++ [{ to := a, response := x, used := false : SGuess }], true, ())) [] []))) (by kernel_rfl) ?_
  refine ob_i ?_ fun o1 => lt_i (ob_i ?_ fun o2 => lt_i (br_i (fun h3 => Fct.leafY ?_) (fun h3 => ob_i ?_ fun o4 => lt_i (br_i (fun h5 => Fct.leafY ?_) (fun h5 => ob_i trivial fun _ => ob_i ?_ fun o6 => Fct.leafY ?_)))))
  all_goals try simp only [decide_eq_true_eq, decide_eq_false_iff_not, Bool.not_eq_true', Bool.not_eq_false', bne_iff_ne, bne_eq_false_iff_eq, beq_iff_eq, beq_eq_false_iff_ne, baEq, Int.not_lt, Int.not_le, ne_eq, Decidable.not_not] at *
  all_goals try simp only [fAddGuess, fCopyGuesses, fFindGuess, fUnused, etaToken, etaNode, etaBuilder, etaPolicy, etaPage, etaVisit, etaTab, etaServer, etaCache, etaNet, etaLoader, etaSheet, etaResult, etaSlot, etaModule, etaAddr, etaRequest, etaResponse, etaConn, etaGuess, etaEntry, etaSent, etaFile, baSz, List.size_toArray, List.length_cons, List.length_nil, Nat.reduceAdd, Int.toNat_zero, List.drop_zero, decide_eq_true_eq, decide_eq_false_iff_not, Bool.not_eq_true', Bool.not_eq_false', bne_iff_ne, bne_eq_false_iff_eq, beq_iff_eq, beq_eq_false_iff_ne, Bool.not_eq_true, Bool.not_eq_false, ne_eq, Decidable.not_not, baEq, decide_not, Prod.mk.injEq, and_true, true_and, Room, List.nil_append, Nat.zero_add, Int.not_lt, Int.not_le, addGuess, fUnused, fCopyGuesses] at *
  all_goals try simp (disch := omega) only [wrapId', toNat1] at *
  all_goals try simp (disch := omega) only [if_pos, if_neg]
  all_goals first | trivial | omega | grind [wrapId', toNat1, drop_cons, drop_end, good_len, maxLen, addGuess, fUnused, fCopyGuesses])
def E41 : D.Env := E40.add 7 fAddGuess
theorem E41ok : EOk Try.prog E41 := E40ok.add k7_40
def useGuess (l : List SGuess) (a : SAddr) : List SGuess × SResponse × Bool := if findGuess l a < 0 then (l, notFound, false) else (l.modify (findGuess l a).toNat fun g => { g with used := true }, (l.getD (findGuess l a).toNat default).response, true)
def fUseGuess : Fct := ⟨[.v (.sl .guess), .v (.el .addr)], [.sl .guess, .el .response, .el .bool], fun (x_ : (List SGuess) × SAddr × Unit) => x_.1.length ≤ 1048576, fun (x_ : (List SGuess) × SAddr × Unit) => ((useGuess x_.1 x_.2.1).1, (useGuess x_.1 x_.2.1).2.1, (useGuess x_.1 x_.2.1).2.2, ())⟩
-- spec.UseGuess
theorem k56_41 : fUseGuess.ok Try.prog 56 := Fct.of (S := fUseGuess) (L := fun _ _ => none) (kp := [0,3,4,5,6,7,8,16,1000016]) E41ok Try.func56 (by kernel_rfl) (by kernel_rfl) (by
  rintro ⟨(l : List SGuess), (a : SAddr), _⟩ hp
  refine holds_of (X := .ob (True) <|
 .ob (Room ((0 : Nat) + List.length l) (104 : Nat)) <|
 .ob (fFindGuess.pre (l, a, ())) <|
 .lt (Int × PUnit) (fFindGuess.fn (l, a, ())) fun z2 =>
 .br (decide (z2.fst < (0 : Int)))
  (.ob (fNotFound.pre ()) <|
   .lt (SResponse × PUnit) (fNotFound.fn ()) fun z3 =>
   .leaf (mkR fUseGuess.rs ([] ++ l, z3.fst, false, ())) [] [])
  (.ob ((0 : Int) ≤ z2.fst ∧ z2.fst < (↑([] ++ l).length : Int)) <|
   .ob (z2.fst.toNat < ([] ++ l).length) <|
   .lt (List SGuess) (([] ++ l).modify z2.fst.toNat fun z => { to := z.to, response := z.response, used := true : SGuess }) fun z4 =>
   .ob ((0 : Int) ≤ z2.fst ∧ z2.fst < (↑(List.length l) : Int)) <|
    .leaf (mkR fUseGuess.rs (z4, (List.getD l z2.fst.toNat default).response, true, ())) [] [])) (by kernel_rfl) ?_
  refine ob_i trivial fun _ => ob_i ?_ fun o1 => ob_i ?_ fun o2 => lt_i (br_i (fun h3 => ob_i trivial fun _ => lt_i (Fct.leafY ?_)) (fun h3 => ob_i ?_ fun o4 => ob_i ?_ fun o5 => lt_i (ob_i ?_ fun o6 => Fct.leafY ?_)))
  all_goals have hf := fidx_lt (fun g : SGuess => decide (g.to = a)) l 0 (by omega)
  all_goals try simp only [decide_eq_true_eq, decide_eq_false_iff_not, Bool.not_eq_true', Bool.not_eq_false', bne_iff_ne, bne_eq_false_iff_eq, beq_iff_eq, beq_eq_false_iff_ne, baEq, Int.not_lt, Int.not_le, ne_eq, Decidable.not_not] at *
  all_goals try simp only [fFindGuess, fNotFound, fUseGuess, etaToken, etaNode, etaBuilder, etaPolicy, etaPage, etaVisit, etaTab, etaServer, etaCache, etaNet, etaLoader, etaSheet, etaResult, etaSlot, etaModule, etaAddr, etaRequest, etaResponse, etaConn, etaGuess, etaEntry, etaSent, etaFile, baSz, List.size_toArray, List.length_cons, List.length_nil, Nat.reduceAdd, Int.toNat_zero, List.drop_zero, decide_eq_true_eq, decide_eq_false_iff_not, Bool.not_eq_true', Bool.not_eq_false', bne_iff_ne, bne_eq_false_iff_eq, beq_iff_eq, beq_eq_false_iff_ne, Bool.not_eq_true, Bool.not_eq_false, ne_eq, Decidable.not_not, baEq, decide_not, Prod.mk.injEq, and_true, true_and, Room, List.nil_append, Nat.zero_add, Int.not_lt, Int.not_le, useGuess, findGuess, fFindGuess, fCopyGuesses, fNotFound] at *
  all_goals try simp (disch := omega) only [wrapId', toNat1] at *
  all_goals try simp (disch := omega) only [if_pos, if_neg]
  all_goals first | trivial | omega | grind [wrapId', toNat1, drop_cons, drop_end, good_len, maxLen, useGuess, findGuess, fFindGuess, fCopyGuesses, fNotFound])
def E42 : D.Env := E41.add 56 fUseGuess
theorem E42ok : EOk Try.prog E42 := E41ok.add k56_41
-- impl.UseGuess
theorem k10_42 : fUseGuess.ok Try.prog 10 := Fct.of (S := fUseGuess) (L := fun _ _ => none) (kp := [0,3,4,5,6,7,8,15,1000015]) E42ok Try.func10 (by kernel_rfl) (by kernel_rfl) (by
  rintro ⟨(l : List SGuess), (a : SAddr), _⟩ hp
  refine holds_of (X := .ob (fCopyGuesses.pre (l, ())) <|
 .lt (List SGuess × PUnit) (fCopyGuesses.fn (l, ())) fun z2 =>
 .ob (fFindGuess.pre (l, a, ())) <|
  .lt (Int × PUnit) (fFindGuess.fn (l, a, ())) fun z3 =>
  .br (decide (z3.fst < (0 : Int)))
   (.ob (fNotFound.pre ()) <|
    .lt (SResponse × PUnit) (fNotFound.fn ()) fun z4 =>
    .leaf (mkR fUseGuess.rs (z2.fst, z4.fst, false, ())) [] [])
   (.ob ((0 : Int) ≤ z3.fst ∧ z3.fst < (↑z2.fst.length : Int)) <|
    .ob (z3.fst.toNat < z2.fst.length) <|
    .lt (List SGuess) (z2.fst.modify z3.fst.toNat fun z => { to := z.to, response := z.response, used := true : SGuess }) fun z5 =>
    .ob ((0 : Int) ≤ z3.fst ∧ z3.fst < (↑(List.length l) : Int)) <|
     .leaf (mkR fUseGuess.rs (z5, (List.getD l z3.fst.toNat default).response, true, ())) [] [])) (by kernel_rfl) ?_
  refine ob_i ?_ fun o1 => lt_i (ob_i ?_ fun o2 => lt_i (br_i (fun h3 => ob_i trivial fun _ => lt_i (Fct.leafY ?_)) (fun h3 => ob_i ?_ fun o4 => ob_i ?_ fun o5 => lt_i (ob_i ?_ fun o6 => Fct.leafY ?_))))
  all_goals have hf := fidx_lt (fun g : SGuess => decide (g.to = a)) l 0 (by omega)
  all_goals try simp only [decide_eq_true_eq, decide_eq_false_iff_not, Bool.not_eq_true', Bool.not_eq_false', bne_iff_ne, bne_eq_false_iff_eq, beq_iff_eq, beq_eq_false_iff_ne, baEq, Int.not_lt, Int.not_le, ne_eq, Decidable.not_not] at *
  all_goals try simp only [fCopyGuesses, fFindGuess, fNotFound, fUseGuess, etaToken, etaNode, etaBuilder, etaPolicy, etaPage, etaVisit, etaTab, etaServer, etaCache, etaNet, etaLoader, etaSheet, etaResult, etaSlot, etaModule, etaAddr, etaRequest, etaResponse, etaConn, etaGuess, etaEntry, etaSent, etaFile, baSz, List.size_toArray, List.length_cons, List.length_nil, Nat.reduceAdd, Int.toNat_zero, List.drop_zero, decide_eq_true_eq, decide_eq_false_iff_not, Bool.not_eq_true', Bool.not_eq_false', bne_iff_ne, bne_eq_false_iff_eq, beq_iff_eq, beq_eq_false_iff_ne, Bool.not_eq_true, Bool.not_eq_false, ne_eq, Decidable.not_not, baEq, decide_not, Prod.mk.injEq, and_true, true_and, Room, List.nil_append, Nat.zero_add, Int.not_lt, Int.not_le, useGuess, findGuess, fFindGuess, fCopyGuesses, fNotFound] at *
  all_goals try simp (disch := omega) only [wrapId', toNat1] at *
  all_goals try simp (disch := omega) only [if_pos, if_neg]
  all_goals first | trivial | omega | grind [wrapId', toNat1, drop_cons, drop_end, good_len, maxLen, useGuess, findGuess, fFindGuess, fCopyGuesses, fNotFound])
def E43 : D.Env := E42.add 10 fUseGuess
theorem E43ok : EOk Try.prog E43 := E42ok.add k10_42
def okG (g : SGuess) : Bool := decide (g.response.body.size ≤ 2000 ∧ g.response.policy.size ≤ 200)
def fGuesses23 : Xct := ⟨[.u], [.sl .guess], fun (x_ : Unit × Unit) => True, fun (x_ : Unit × Unit) (y_ : (List SGuess) × Unit) => y_.1.length ≤ 9 ∧ y_.1.all okG = true⟩
theorem addGuess_ok {l : List SGuess} {a : SAddr} {x : SResponse} (h : l.all okG = true) (h1 : x.body.size ≤ 2000) (h2 : x.policy.size ≤ 200) : (addGuess l a x).1.all okG = true ∧ (addGuess l a x).1.length ≤ l.length + 1 := by
  unfold addGuess
  split
  · exact ⟨h, Nat.le_succ _⟩
  · refine ⟨?_, by simp⟩
    rw [List.all_append, h]
    simp [okG, h1, h2]
theorem all_mod {α : Type} {p : α → Bool} {f : α → α} (hf : ∀ x, p x = true → p (f x) = true) : ∀ {l : List α} {i : Nat}, l.all p = true → (l.modify i f).all p = true := by
  intro l
  induction l with
  | nil => intro i h; cases i <;> rfl
  | cons x l ih =>
    intro i h
    simp only [List.all_cons, Bool.and_eq_true] at h
    cases i with
    | zero => simp only [List.modify_zero_cons, List.all_cons, hf x h.1, h.2]; rfl
    | succ i => simp only [List.modify_succ_cons, List.all_cons, h.1, ih h.2]; rfl
theorem useGuess_ok {l : List SGuess} {a : SAddr} (h : l.all okG = true) : (useGuess l a).1.all okG = true ∧ (useGuess l a).1.length = l.length := by
  unfold useGuess
  split
  · exact ⟨h, rfl⟩
  · exact ⟨all_mod (f := fun g => { g with used := true }) (fun x hx => hx) h, List.length_modify ..⟩
abbrev W_spec_l23Guesses_fGuesses23_3 (c : Unit) : LInv := ⟨[⟨.s, 3, true, .sl .guess⟩, ⟨.s, 4, true, .el .int⟩], fun _ (x_ : (List SGuess) × Int × Unit) => 0 ≤ x_.2.1 ∧ x_.2.1 ≤ 9 ∧ x_.1.length + x_.2.1 ≤ 9 ∧ x_.1.all okG = true, fun (x_ : (List SGuess) × Int × Unit) => x_.2.1.toNat⟩
-- spec.l23Guesses
theorem k49_43 : fGuesses23.ok Try.prog 49 := Xct.of (S := fGuesses23) (L := fun ⟨c, _⟩ => fun | 3 => some (W_spec_l23Guesses_fGuesses23_3 c) | _ => none) (kp := [0,2,3,4,5,11,28,1000011,1000028]) E43ok Try.func49 (by kernel_rfl) (by kernel_rfl) (by
  rintro ⟨(c : PUnit), _⟩ hp
  refine holds_of (X := .ob (fIntL.pre ((), [(0 : Int), (2 : Int), (4 : Int), (9 : Int)], ())) <|
 .lp (Int × PUnit) (True) (fIntL.is ((), [(0 : Int), (2 : Int), (4 : Int), (9 : Int)], ())) fun y2 =>
 lpx (W_spec_l23Guesses_fGuesses23_3 c) ([], (y2.fst, ())) fun (y3 : List SGuess × Int × PUnit) bk3 =>
  .br (decide (y3.snd.fst > (0 : Int)))
   (.ob (fAddr.pre ((), ())) <|
    .lp (SAddr × PUnit) (True) (fAddr.is ((), ())) fun y5 =>
    .ob (fBelow.pre ((), (5 : Int), ())) <|
     .lp (Int × PUnit) (True) (fBelow.is ((), (5 : Int), ())) fun y6 =>
     .ob (fResponse10.pre ((), IntKind.i64.wrap ((1 : Int) + y6.fst), ())) <|
      .lp (SResponse × PUnit) (True) (fResponse10.is ((), IntKind.i64.wrap ((1 : Int) + y6.fst), ())) fun y7 =>
      .ob (fAddGuess.pre (y3.fst, y5.fst, y7.fst, ())) <|
       .lt (List SGuess × Bool × PUnit) (fAddGuess.fn (y3.fst, y5.fst, y7.fst, ())) fun z2 =>
       .ob (fOnce.pre ((), (3 : Int), ())) <|
        .lp (Bool × PUnit) (True) (fOnce.is ((), (3 : Int), ())) fun y9 =>
        .br (y9.fst)
         (.ob (fUseGuess.pre (z2.fst, y5.fst, ())) <|
          .lt (List SGuess × SResponse × Bool × PUnit) (fUseGuess.fn (z2.fst, y5.fst, ())) fun z3 =>
          .ob (bk3 (z3.fst, (IntKind.i64.wrap (y3.snd.fst - (1 : Int)), ()))) <|
           .ok)
         (.ob (bk3 (z2.fst, (IntKind.i64.wrap (y3.snd.fst - (1 : Int)), ()))) <|
          .ok))
   (.leaf (mkR fGuesses23.rs (y3.fst, ())) [] [])) (by kernel_rfl) ?_
  refine ob_i ?_ fun o1 => lp_i trivial fun y2 i2 => lpx_i ?_ fun (y3 : List SGuess × Int × PUnit) i3 => br_i (fun h4 => ob_i trivial fun _ => lp_i trivial fun y5 i5 => ob_i trivial fun _ => lp_i trivial fun y6 i6 => ob_i trivial fun _ => lp_i trivial fun y7 i7 => ob_i ?_ fun o8 => lt_e fun z2 ez2 => (ob_i trivial fun _ => lp_i trivial fun y9 i9 => br_i (fun h10 => ob_i ?_ fun o11 => lt_e fun z3 ez3 => (ob_i ?_ fun o12 => trivial)) (fun h10 => ob_i ?_ fun o13 => trivial))) (fun h4 => Xct.leafY (S := fGuesses23) (y3.fst, ()) ?_)
  all_goals try subst_vars
  all_goals try (have q1 := addGuess_ok (a := y5.1) i3.2.2.2 i7.1 i7.2; have q2 := useGuess_ok (a := y5.1) q1.1)
  all_goals try simp only [decide_eq_true_eq, decide_eq_false_iff_not, Bool.not_eq_true', Bool.not_eq_false', bne_iff_ne, bne_eq_false_iff_eq, beq_iff_eq, beq_eq_false_iff_ne, baEq, Int.not_lt, Int.not_le, ne_eq, Decidable.not_not] at *
  all_goals try simp only [W_spec_l23Guesses_fGuesses23_3, fAddGuess, fAddr, fBelow, fGuesses23, fIntL, fOnce, fResponse10, fUseGuess, etaToken, etaNode, etaBuilder, etaPolicy, etaPage, etaVisit, etaTab, etaServer, etaCache, etaNet, etaLoader, etaSheet, etaResult, etaSlot, etaModule, etaAddr, etaRequest, etaResponse, etaConn, etaGuess, etaEntry, etaSent, etaFile, baSz, List.size_toArray, List.length_cons, List.length_nil, Nat.reduceAdd, Int.toNat_zero, List.drop_zero, decide_eq_true_eq, decide_eq_false_iff_not, Bool.not_eq_true', Bool.not_eq_false', bne_iff_ne, bne_eq_false_iff_eq, beq_iff_eq, beq_eq_false_iff_ne, Bool.not_eq_true, Bool.not_eq_false, ne_eq, Decidable.not_not, baEq, decide_not, Prod.mk.injEq, and_true, true_and, Room, List.nil_append, Nat.zero_add, Int.not_lt, Int.not_le] at *
  all_goals try simp (disch := omega) only [wrapId'] at *
  all_goals try simp only [List.mem_cons, List.not_mem_nil, or_false] at i2
  all_goals first | omega | decide | exact ⟨i3.2.2.1, i3.2.2.2⟩ | exact ⟨⟨by omega, by omega, by omega, q2.1⟩, by omega⟩ | exact ⟨⟨by omega, by omega, by omega, q1.1⟩, by omega⟩ | exact ⟨by omega, by omega, by omega, rfl⟩ | exact ⟨by omega, i3.2.2.2⟩)
def E44 : D.Env := E43.addX 49 fGuesses23
theorem E44ok : EOk Try.prog E44 := E43ok.addX k49_43
def fDrawFindGuess : Xct := ⟨[.v (.sl .u8)], [.sl .guess, .el .addr], fun (x_ : (List Int) × Unit) => x_.1.length ≤ 1000000000000000000 ∧ (∀ j, j < x_.1.length → 0 ≤ x_.1.getD j default ∧ x_.1.getD j default ≤ 255), fun (x_ : (List Int) × Unit) (y_ : (List SGuess) × SAddr × Unit) => y_.1.length ≤ 9 ∧ y_.1.all okG = true⟩
-- spec.DrawFindGuess
theorem k27_44 : fDrawFindGuess.ok Try.prog 27 := Xct.of (S := fDrawFindGuess) (L := fun _ _ => none) (kp := [0,2,3,4,5]) E44ok Try.func27 (by kernel_rfl) (by kernel_rfl) (by
  rintro ⟨(b : List Int), _⟩ hp
  refine holds_of (X := .ob (∀ (j : Nat), j < List.length (b, ()).fst → (0 : Int) ≤ List.getD b j default ∧ List.getD b j default ≤ (255 : Int)) <|
 .ob (List.length b ≤ (1000000000000000000 : Nat)) <|
 .ob (fGuesses23.pre ((), ())) <|
 .lp (List SGuess × PUnit) (True) (fGuesses23.is ((), ())) fun y3 =>
 .ob (fAddr.pre ((), ())) <|
  .lp (SAddr × PUnit) (True) (fAddr.is ((), ())) fun y4 =>
  .leaf (mkR fDrawFindGuess.rs (y3.fst, y4.fst, ())) [] []) (by kernel_rfl) ?_
  refine ob_i ?_ fun o1 => ob_i ?_ fun o2 => ob_i trivial fun _ => lp_i trivial fun y3 i3 => ob_i trivial fun _ => lp_i trivial fun y4 i4 => Xct.leafY (S := fDrawFindGuess) (y3.fst, y4.fst, ()) ?_
  all_goals try simp only [decide_eq_true_eq, decide_eq_false_iff_not, Bool.not_eq_true', Bool.not_eq_false', bne_iff_ne, bne_eq_false_iff_eq, beq_iff_eq, beq_eq_false_iff_ne, baEq, Int.not_lt, Int.not_le, ne_eq, Decidable.not_not] at *
  all_goals try simp only [fAddr, fDrawFindGuess, fGuesses23, etaToken, etaNode, etaBuilder, etaPolicy, etaPage, etaVisit, etaTab, etaServer, etaCache, etaNet, etaLoader, etaSheet, etaResult, etaSlot, etaModule, etaAddr, etaRequest, etaResponse, etaConn, etaGuess, etaEntry, etaSent, etaFile, baSz, List.size_toArray, List.length_cons, List.length_nil, Nat.reduceAdd, Int.toNat_zero, List.drop_zero, decide_eq_true_eq, decide_eq_false_iff_not, Bool.not_eq_true', Bool.not_eq_false', bne_iff_ne, bne_eq_false_iff_eq, beq_iff_eq, beq_eq_false_iff_ne, Bool.not_eq_true, Bool.not_eq_false, ne_eq, Decidable.not_not, baEq, decide_not, Prod.mk.injEq, and_true, true_and, Room, List.nil_append, Nat.zero_add, Int.not_lt, Int.not_le] at *
  all_goals first | exact hp.2 | exact hp.1 | exact i3)
def E45 : D.Env := E44.addX 27 fDrawFindGuess
theorem E45ok : EOk Try.prog E45 := E44ok.addX k27_44
def fDrawAddGuess : Xct := ⟨[.v (.sl .u8)], [.sl .guess, .el .addr, .el .response], fun (x_ : (List Int) × Unit) => x_.1.length ≤ 1000000000000000000 ∧ (∀ j, j < x_.1.length → 0 ≤ x_.1.getD j default ∧ x_.1.getD j default ≤ 255), fun (x_ : (List Int) × Unit) (y_ : (List SGuess) × SAddr × SResponse × Unit) => y_.1.length ≤ 9 ∧ y_.1.all okG = true ∧ y_.2.2.1.body.size ≤ 2000 ∧ y_.2.2.1.policy.size ≤ 200⟩
-- spec.DrawAddGuess
theorem k6_45 : fDrawAddGuess.ok Try.prog 6 := Xct.of (S := fDrawAddGuess) (L := fun _ _ => none) (kp := [0,2,3,4,5,6,7]) E45ok Try.func6 (by kernel_rfl) (by kernel_rfl) (by
  rintro ⟨(b : List Int), _⟩ hp
  refine holds_of (X := .ob (fDrawFindGuess.pre (b, ())) <|
 .lp (List SGuess × SAddr × PUnit) (True) (fDrawFindGuess.is (b, ())) fun y2 =>
 .ob (∀ (j : Nat), j < List.length (b, ()).fst → (0 : Int) ≤ List.getD b j default ∧ List.getD b j default ≤ (255 : Int)) <|
  .ob (List.length b ≤ (1000000000000000000 : Nat)) <|
  .ob (fAny10.pre ((), ())) <|
  .lp (SResponse × PUnit) (True) (fAny10.is ((), ())) fun y5 =>
  .leaf (mkR fDrawAddGuess.rs (y2.fst, y2.snd.fst, y5.fst, ())) [] []) (by kernel_rfl) ?_
  refine ob_i ?_ fun o1 => lp_i trivial fun y2 i2 => ob_i ?_ fun o3 => ob_i ?_ fun o4 => ob_i trivial fun _ => lp_i trivial fun y5 i5 => Xct.leafY (S := fDrawAddGuess) (y2.fst, y2.snd.fst, y5.fst, ()) ?_
  all_goals try simp only [decide_eq_true_eq, decide_eq_false_iff_not, Bool.not_eq_true', Bool.not_eq_false', bne_iff_ne, bne_eq_false_iff_eq, beq_iff_eq, beq_eq_false_iff_ne, baEq, Int.not_lt, Int.not_le, ne_eq, Decidable.not_not] at *
  all_goals try simp only [fAny10, fDrawAddGuess, fDrawFindGuess, etaToken, etaNode, etaBuilder, etaPolicy, etaPage, etaVisit, etaTab, etaServer, etaCache, etaNet, etaLoader, etaSheet, etaResult, etaSlot, etaModule, etaAddr, etaRequest, etaResponse, etaConn, etaGuess, etaEntry, etaSent, etaFile, baSz, List.size_toArray, List.length_cons, List.length_nil, Nat.reduceAdd, Int.toNat_zero, List.drop_zero, decide_eq_true_eq, decide_eq_false_iff_not, Bool.not_eq_true', Bool.not_eq_false', bne_iff_ne, bne_eq_false_iff_eq, beq_iff_eq, beq_eq_false_iff_ne, Bool.not_eq_true, Bool.not_eq_false, ne_eq, Decidable.not_not, baEq, decide_not, Prod.mk.injEq, and_true, true_and, Room, List.nil_append, Nat.zero_add, Int.not_lt, Int.not_le] at *
  all_goals first | exact hp | exact hp.1 | exact hp.2 | exact ⟨i2.1, i2.2, by omega⟩ | skip)
def E46 : D.Env := E45.addX 6 fDrawAddGuess
theorem E46ok : EOk Try.prog E46 := E45ok.addX k6_45
def fEqualResponses : Fct := ⟨[.v (.el .response), .v (.el .response)], [.el .bool], fun (x_ : SResponse × SResponse × Unit) => True, fun (x_ : SResponse × SResponse × Unit) => (decide (x_.1 = x_.2.1), ())⟩
-- impl.EqualResponses
theorem k13_46 : fEqualResponses.ok Try.prog 13 := Fct.of (S := fEqualResponses) (L := fun _ _ => none) (kp := [2,3,4]) E46ok Try.func13 (by kernel_rfl) (by kernel_rfl) (by
  rintro ⟨(x : SResponse), (y : SResponse), _⟩ hp
  refine holds_of (X := .leaf (mkR fEqualResponses.rs (x.status == y.status &&
  (x.kind == y.kind &&
    (x.body == y.body && (x.age == y.age && (x.shares == y.shares && (x.policy == y.policy && true))))), ())) [] []) (by kernel_rfl) ?_
  refine Fct.leafY ?_
  all_goals try simp only [beqResponse] at *
  all_goals try simp only [decide_eq_true_eq, decide_eq_false_iff_not, Bool.not_eq_true', Bool.not_eq_false', bne_iff_ne, bne_eq_false_iff_eq, beq_iff_eq, beq_eq_false_iff_ne, baEq, Int.not_lt, Int.not_le, ne_eq, Decidable.not_not] at *
  all_goals try simp only [fEqualResponses, etaToken, etaNode, etaBuilder, etaPolicy, etaPage, etaVisit, etaTab, etaServer, etaCache, etaNet, etaLoader, etaSheet, etaResult, etaSlot, etaModule, etaAddr, etaRequest, etaResponse, etaConn, etaGuess, etaEntry, etaSent, etaFile, baSz, List.size_toArray, List.length_cons, List.length_nil, Nat.reduceAdd, Int.toNat_zero, List.drop_zero, decide_eq_true_eq, decide_eq_false_iff_not, Bool.not_eq_true', Bool.not_eq_false', bne_iff_ne, bne_eq_false_iff_eq, beq_iff_eq, beq_eq_false_iff_ne, Bool.not_eq_true, Bool.not_eq_false, ne_eq, Decidable.not_not, baEq, decide_not, Prod.mk.injEq, and_true, true_and, Room, List.nil_append, Nat.zero_add, Int.not_lt, Int.not_le] at *
  all_goals try simp (disch := omega) only [wrapId', toNat1] at *
  all_goals try simp (disch := omega) only [if_pos, if_neg]
  all_goals first | trivial | omega | grind [wrapId', toNat1, drop_cons, drop_end, good_len, maxLen])
def E47 : D.Env := E46.add 13 fEqualResponses
theorem E47ok : EOk Try.prog E47 := E46ok.add k13_46
theorem fidx_app {α : Type} (p : α → Bool) (x : α) : ∀ (l : List α) (i : Int), 0 ≤ i → fidx p (l ++ [x]) i = if 0 ≤ fidx p l i then fidx p l i else if p x then i + l.length else -1 := by
  intro l
  induction l with
  | nil => intro i hi; simp [fidx]
  | cons y l ih =>
    intro i hi
    simp only [List.cons_append, fidx, List.length_cons]
    split
    · first | rfl | rw [if_pos hi]
    · rw [ih (i + 1) (by omega)]
      split
      · rfl
      · split
        · omega
        · rfl
theorem sumIf_app {α : Type} (p : α → Bool) (f : α → Int) (x : α) : ∀ (l : List α), sumIf p f (l ++ [x]) = sumIf p f l + (if p x then f x else 0) := by
  intro l
  induction l with
  | nil => simp [sumIf]
  | cons y l ih => simp only [List.cons_append, sumIf, ih]; split <;> omega
theorem mod_last {α : Type} (f : α → α) (x : α) : ∀ (l : List α), (l ++ [x]).modify l.length f = l ++ [f x]
  | [] => rfl
  | y :: l => by rw [List.cons_append, List.length_cons, List.modify_succ_cons, mod_last f x l]; rfl
theorem guess_law (l : List SGuess) (a : SAddr) (x : SResponse) : addGuess l a x = (l, false) ∨ (addGuess l a x = (l ++ [⟨a, x, false⟩], true) ∧ findGuess (l ++ [⟨a, x, false⟩]) a = l.length ∧
    countIf (fun g => !g.used) (l ++ [⟨a, x, false⟩]) = countIf (fun g => !g.used) l + 1 ∧ countIf (fun g => !g.used) l + 1 ≤ 6 ∧ useGuess (l ++ [⟨a, x, false⟩]) a = (l ++ [⟨a, x, true⟩], x, true) ∧
    countIf (fun g => !g.used) (l ++ [⟨a, x, true⟩]) = countIf (fun g => !g.used) l ∧ wasteOf (l ++ [⟨a, x, false⟩]) = wasteOf l + (x.body.size + 20) ∧ wasteOf (l ++ [⟨a, x, true⟩]) = wasteOf l) := by
  unfold addGuess
  split
  · exact .inl rfl
  · rename_i h
    have h1 : ¬ 0 ≤ findGuess l a := fun q => h (.inl q)
    have h2 : ¬ 6 ≤ countIf (fun g => !g.used) l := fun q => h (.inr q)
    have hf : findGuess (l ++ [⟨a, x, false⟩]) a = l.length := by
      unfold findGuess at *
      rw [fidx_app _ _ _ _ (by omega), if_neg h1]; simp
    refine .inr ⟨rfl, hf, ?_, by omega, ?_, ?_, ?_, ?_⟩
    · rw [countIf_app]; simp [countIf]
    · unfold useGuess
      rw [hf, if_neg (by omega), show ((l.length : Int)).toNat = l.length by omega, mod_last]
      simp
    · rw [countIf_app]; simp [countIf]
    · unfold wasteOf; rw [sumIf_app]; simp
    · unfold wasteOf; rw [sumIf_app]; simp
theorem okG_waste : ∀ (l : List SGuess), l.all okG = true → wasteOf l ≤ 2020 * l.length ∧ 0 ≤ wasteOf l := by
  intro l
  induction l with
  | nil => intro _; simp [wasteOf, sumIf]
  | cons g l ih =>
    intro h
    simp only [List.all_cons, Bool.and_eq_true] at h
    have h1 := ih h.2
    have h2 : g.response.body.size ≤ 2000 := by have := h.1; simp [okG] at this; exact this.1
    unfold wasteOf at *
    simp only [sumIf, List.length_cons]
    split <;> omega
def lBytes : Fct := lawFS [.sl .u8]
theorem good_u8 {b : List Int} (h : Sh.good (.sl .u8) b) : ∀ j, j < b.length → 0 ≤ b.getD j default ∧ b.getD j default ≤ 255 := by
  intro j hj
  have h1 := (good_getD (t := .u8) h hj) (.val (.int .u8 (b.getD j default))) (by simp [Sh.fc, enc])
  simp only [goodC, Lit.wf, Bool.and_eq_true, decide_eq_true_eq] at h1
  exact h1
-- laws.FnGuesses
set_option maxHeartbeats 2000000 in
theorem k3_47 : lBytes.ok Try.prog 3 := Fct.of (S := lBytes) (L := fun _ _ => none) (kp := [0,2,3,4,5,6,7,9,10,11,12,14,37,39,1000014,1000037,1000039]) E47ok Try.func3 (by kernel_rfl) (by kernel_rfl) (by
  rintro ⟨(b : List Int), _⟩ hp
  refine holds_of (X := .ob (fBig.pre (b, ())) <|
 .lt (Bool × PUnit) (fBig.fn (b, ())) fun z2 =>
 .br (z2.fst)
  (.leaf (mkR lBytes.rs (true, ())) [] [])
  (.ob (fDrawAddGuess.pre (b, ())) <|
   .lp (List SGuess × SAddr × SResponse × PUnit) (True) (fDrawAddGuess.is (b, ())) fun y3 =>
   .ob (fAddGuess.pre (y3.fst, y3.snd.fst, y3.snd.snd.fst, ())) <|
    .lt (List SGuess × Bool × PUnit) (fAddGuess.fn (y3.fst, y3.snd.fst, y3.snd.snd.fst, ())) fun z3 =>
    .ob (fAddGuess.pre (y3.fst, y3.snd.fst, y3.snd.snd.fst, ())) <|
     .lt (List SGuess × Bool × PUnit) (fAddGuess.fn (y3.fst, y3.snd.fst, y3.snd.snd.fst, ())) fun z4 =>
     .br (!z3.snd.fst == z4.snd.fst)
      (.leaf (mkR lBytes.rs (false, ())) [] [])
      (.br (!z3.snd.fst)
       (.ob (fEqGuesses.pre (z3.fst, y3.fst, ())) <|
        .lt (Bool × PUnit) (fEqGuesses.fn (z3.fst, y3.fst, ())) fun z5 =>
        .leaf (mkR lBytes.rs (z5.fst, ())) [] [])
       (.ob (fUseGuess.pre (z3.fst, y3.snd.fst, ())) <|
        .lt (List SGuess × SResponse × Bool × PUnit) (fUseGuess.fn (z3.fst, y3.snd.fst, ())) fun z6 =>
        .ob (fFindGuess.pre (z3.fst, y3.snd.fst, ())) <|
         .lt (Int × PUnit) (fFindGuess.fn (z3.fst, y3.snd.fst, ())) fun z7 =>
         .br (z7.fst == (↑y3.fst.length : Int))
          (.ob (fUnused.pre (z3.fst, ())) <|
           .lt (Int × PUnit) (fUnused.fn (z3.fst, ())) fun z8 =>
           .ob (fUnused.pre (y3.fst, ())) <|
            .lt (Int × PUnit) (fUnused.fn (y3.fst, ())) fun z9 =>
            .br (z8.fst == IntKind.i64.wrap (z9.fst + (1 : Int)))
             (.ob (fUnused.pre (z3.fst, ())) <|
              .lt (Int × PUnit) (fUnused.fn (z3.fst, ())) fun z10 =>
              .br (decide (z10.fst ≤ (6 : Int)))
               (.br (z6.snd.snd.fst)
                (.ob (fEqualResponses.pre (z6.snd.fst, y3.snd.snd.fst, ())) <|
                 .lt (Bool × PUnit) (fEqualResponses.fn (z6.snd.fst, y3.snd.snd.fst, ())) fun z11 =>
                 .br (z11.fst)
                  (.ob (fUnused.pre (z6.fst, ())) <|
                   .lt (Int × PUnit) (fUnused.fn (z6.fst, ())) fun z12 =>
                   .ob (fUnused.pre (y3.fst, ())) <|
                    .lt (Int × PUnit) (fUnused.fn (y3.fst, ())) fun z13 =>
                    .br (z12.fst == z13.fst)
                     (.ob (fWasteOf.pre (z3.fst, ())) <|
                      .lt (Int × PUnit) (fWasteOf.fn (z3.fst, ())) fun z14 =>
                      .ob (fWasteOf.pre (y3.fst, ())) <|
                       .lt (Int × PUnit) (fWasteOf.fn (y3.fst, ())) fun z15 =>
                       .ob (fSizeResponse.pre (y3.snd.snd.fst, ())) <|
                        .lt (Int × PUnit) (fSizeResponse.fn (y3.snd.snd.fst, ())) fun z16 =>
                        .br (z14.fst == IntKind.i64.wrap (z15.fst + z16.fst))
                         (.ob (fWasteOf.pre (z6.fst, ())) <|
                          .lt (Int × PUnit) (fWasteOf.fn (z6.fst, ())) fun z17 =>
                          .ob (fWasteOf.pre (y3.fst, ())) <|
                           .lt (Int × PUnit) (fWasteOf.fn (y3.fst, ())) fun z18 =>
                           .leaf (mkR lBytes.rs (z17.fst == z18.fst, ())) [] [])
                         (.leaf (mkR lBytes.rs (false, ())) [] []))
                     (.leaf (mkR lBytes.rs (false, ())) [] []))
                  (.leaf (mkR lBytes.rs (false, ())) [] []))
                (.leaf (mkR lBytes.rs (false, ())) [] []))
               (.leaf (mkR lBytes.rs (false, ())) [] []))
             (.leaf (mkR lBytes.rs (false, ())) [] []))
          (.leaf (mkR lBytes.rs (false, ())) [] []))))) (by kernel_rfl) ?_
  refine ob_i trivial fun _ => lt_i (br_i (fun h1 => Fct.leafY ?_) (fun h1 => ob_i ?_ fun o2 => lp_i trivial fun y3 i3 => ob_i ?_ fun o4 => lt_i (ob_i ?_ fun o5 => lt_i (br_i (fun h6 => Fct.leafY ?_) (fun h6 => br_i (fun h7 => ob_i ?_ fun o8 => lt_i (Fct.leafY ?_)) (fun h7 => ob_i ?_ fun o9 => lt_i (ob_i ?_ fun o10 => lt_i (br_i (fun h11 => ob_i ?_ fun o12 => lt_i (ob_i ?_ fun o13 => lt_i (br_i (fun h14 => ob_i ?_ fun o15 => lt_i (br_i (fun h16 => br_i (fun h17 => ob_i trivial fun _ => lt_i (br_i (fun h18 => ob_i ?_ fun o19 => lt_i (ob_i ?_ fun o20 => lt_i (br_i (fun h21 => ob_i ?_ fun o22 => lt_i (ob_i ?_ fun o23 => lt_i (ob_i ?_ fun o24 => lt_i (br_i (fun h25 => ob_i ?_ fun o26 => lt_i (ob_i ?_ fun o27 => lt_i (Fct.leafY ?_))) (fun h25 => Fct.leafY ?_))))) (fun h21 => Fct.leafY ?_)))) (fun h18 => Fct.leafY ?_))) (fun h17 => Fct.leafY ?_)) (fun h16 => Fct.leafY ?_))) (fun h14 => Fct.leafY ?_)))) (fun h11 => Fct.leafY ?_)))))))))
  all_goals have hb := good_u8 hp.1
  all_goals try (have q1 := guess_law y3.1 y3.2.1 y3.2.2.1; have q2 := okG_waste y3.1 i3.2.1; have q3 := countIf_le (fun g : SGuess => !g.used) y3.1)
  all_goals try simp only [fAddGuess] at *
  all_goals try (have q0 := q1; clear q0; obtain ⟨z, hz⟩ : ∃ z, z = addGuess y3.1 y3.2.1 y3.2.2.1 := ⟨_, rfl⟩; simp only [← hz] at *; clear hz)
  all_goals try (rcases q1 with q1 | ⟨q1, q4, q5, q6, q7, q8, q9, q10⟩)
  all_goals try subst q1
  all_goals try simp only [fUseGuess, fFindGuess, fUnused, fWasteOf, fSizeResponse, fEqualResponses, q4, q5, q7, q8, q9, q10] at *
  all_goals try simp only [decide_eq_true_eq, decide_eq_false_iff_not, Bool.not_eq_true', Bool.not_eq_false', bne_iff_ne, bne_eq_false_iff_eq, beq_iff_eq, beq_eq_false_iff_ne, baEq, Int.not_lt, Int.not_le, ne_eq, Decidable.not_not] at *
  all_goals try simp only [fAddGuess, fBig, fDrawAddGuess, fEqGuesses, fEqualResponses, fFindGuess, fSizeResponse, fUnused, fUseGuess, fWasteOf, lBytes, etaToken, etaNode, etaBuilder, etaPolicy, etaPage, etaVisit, etaTab, etaServer, etaCache, etaNet, etaLoader, etaSheet, etaResult, etaSlot, etaModule, etaAddr, etaRequest, etaResponse, etaConn, etaGuess, etaEntry, etaSent, etaFile, baSz, List.size_toArray, List.length_cons, List.length_nil, Nat.reduceAdd, Int.toNat_zero, List.drop_zero, decide_eq_true_eq, decide_eq_false_iff_not, Bool.not_eq_true', Bool.not_eq_false', bne_iff_ne, bne_eq_false_iff_eq, beq_iff_eq, beq_eq_false_iff_ne, Bool.not_eq_true, Bool.not_eq_false, ne_eq, Decidable.not_not, baEq, decide_not, Prod.mk.injEq, and_true, true_and, Room, List.nil_append, Nat.zero_add, Int.not_lt, Int.not_le, sizeResponse, List.length_append, List.length_cons, List.length_nil] at *
  all_goals try simp (disch := omega) only [wrapId'] at *
  all_goals first | trivial | omega | exact ⟨by omega, hb⟩ | (rw [beq_self_eq_true]; rfl) | skip)
def E48 : D.Env := E47.add 3 lBytes
theorem E48ok : EOk Try.prog E48 := E47ok.add k3_47

section
open Go.ChangeShapes Go.WideShapes Go.ChangeAt Go.RowKit
theorem own : ownKnob Try.prog.godebug = none := by kernel_rfl
theorem types : ∀ e t, tyOf e = some t → e ∈ ([3, 4, 5, 9, 26, 28, 47, 59, 84] : List TypeId) := by
  intro e t h
  unfold tyOf at h
  split at h <;> first | (simp; done) | cases h
theorem lifted (os : Os) (started : os.Started) (H : Type) (enc : TypeId × Value → H) :
    ReturnsInHanded {} Try.checked os 3 .any (Rows.fnGuessesSpec.pre6 enc Try.prog Try.f3 Rows.fnGuessesRow.domain false) (Rows.fnGuessesSpec.post enc Try.prog Try.f3 false true false false) := by
  refine handed_sh (C := Try.checked) own started (by kernel_rfl) Try.func3
    (ChangeSpec.witness6 (enc := enc) (C := Try.checked) false ⟨#[], #[.slice none 0 0], []⟩ 8 (by kernel_rfl) (by kernel_rfl) (by kernel_rfl) (by kernel_rfl)) ?_
  intro W base args ds gs before hval0 hW hsh
  have hval : ∀ (j : Nat) t v, Try.f3.params[j]? = some t → args[j]? = some v → Value.okWide Try.prog W .any base t v := hval0
  refine law_calls (show rowOk Try.prog Try.f3 tyOf [3, 4, 5, 9, 26, 28, 47, 59, 84] [.sl .u8] = true by kernel_rfl) types rfl Try.underlying4 rfl hW (fun xs h => ?_) hval hsh (laid_none (by kernel_rfl) (by kernel_rfl) (by kernel_rfl)) k3_47
  · rw [Try.params3] at h
    obtain ⟨x, rfl⟩ := List.length_eq_one_iff.1 (show xs.length = 1 from h)
    rfl
set_option maxHeartbeats 0 in
theorem closed : joinedFacts Try.prog 3 Try.f3 Rows.fnGuessesSpec Rows.fnGuessesRow = true := by
  unfold joinedFacts
  refine (and_i (and_i (and_i (and_i (and_i (and_i (and_i (and_i (and_i (and_i (and_i (and_i (and_i (and_i (and_i (and_i (and_i (and_i (and_i (and_i (and_i (and_i (and_i (and_i (and_i (and_i (and_i (and_i (and_i (and_i (and_i ?_ ?_) ?_) ?_) ?_) ?_) ?_) ?_) ?_) ?_) ?_) ?_) ?_) ?_) ?_) ?_) ?_) ?_) ?_) ?_) ?_) ?_) ?_) ?_) ?_) ?_) ?_) ?_) ?_) ?_) ?_) ?_)
  all_goals decide +kernel
theorem over : Rows.fnGuessesRow.holds Try.pinned (OpenSpec.ofChange Rows.fnGuessesSpec) :=
  OpenClaim.holds_of_wide 3 Try.f3 rfl rfl rfl rfl rfl rfl rfl ⟨rfl, rfl, rfl, rfl, rfl⟩ rfl rfl rfl rfl rfl (by kernel_rfl) Try.func3 closed
    (of_decide_eq_true (by kernel_rfl)) (by unfold Func.isWrapper; first | (rw [if_pos (by decide +kernel)]; kernel_rfl) | (rw [if_neg (by decide +kernel)]; exact ⟨rfl, rfl⟩))
    (fun os started H enc _ => lifted os started H enc)
theorem proved : Rows.FnGuessesSaid := over
end
end Go.Proofs.Ytpdooiaofamimaa.fnGuesses
