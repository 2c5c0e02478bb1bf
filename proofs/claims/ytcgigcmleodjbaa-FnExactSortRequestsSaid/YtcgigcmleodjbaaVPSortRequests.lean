/-
  The program's SortRequests returns what the reference's returns, for all arguments: the law returns true. No condition.
-/
import Derived.Test.YtcgigcmleodjbaaVPSortRequests1
import Derived.Test.YtcgigcmleodjbaaVPg
import Derived.Test.YtcgigcmleodjbaaRows
import Derived.WalkKit
import Derived.ProofKit
import Derived.OpenShut
import Derived.Test.YtcgigcmleodjbaaVEf
namespace Go.Proofs.Ytcgigcmleodjbaa.fnExactSortRequests
open Go.Proofs.Ytcgigcmleodjbaa
open Go.D
set_option maxRecDepth 100000
set_option linter.unusedVariables false
set_option linter.unusedSimpArgs false

-- impl.ClassOf
theorem k38_78 : fClassOf.ok Try.prog 38 := Fct.of (S := fClassOf) (L := fun _ _ => none) (kp := [2,3,4,5,6,18,20,21,23,25,27,1000018,1000021,1000023,1000025,1000027]) E78ok Try.func38 (by kernel_rfl) (by kernel_rfl) (by
  rintro ⟨(p : SPage), (r : SRequest), _⟩ hp
  refine holds_of (X := .ob (fBlockedOn.pre (p, ())) <|
 .lt (SAddr × Bool × PUnit) (fBlockedOn.fn (p, ())) fun z2 =>
 .br (z2.snd.fst)
  (.br (z2.fst.host == r.to.host && (z2.fst.path == r.to.path && true))
   (.leaf (mkR fClassOf.rs ((0 : Int), ())) [] [])
   (.br (r.kind == (3 : Int))
    (.leaf (mkR fClassOf.rs ((1 : Int), ())) [] [])
    (.br (r.kind == (2 : Int))
     (.leaf (mkR fClassOf.rs ((2 : Int), ())) [] [])
     (.br (r.kind == (5 : Int))
      (.leaf (mkR fClassOf.rs ((3 : Int), ())) [] [])
      (.br (r.kind == (4 : Int))
       (.leaf (mkR fClassOf.rs ((4 : Int), ())) [] [])
       (.leaf (mkR fClassOf.rs ((5 : Int), ())) [] []))))))
  (.br (r.kind == (3 : Int))
   (.leaf (mkR fClassOf.rs ((1 : Int), ())) [] [])
   (.br (r.kind == (2 : Int))
    (.leaf (mkR fClassOf.rs ((2 : Int), ())) [] [])
    (.br (r.kind == (5 : Int))
     (.leaf (mkR fClassOf.rs ((3 : Int), ())) [] [])
     (.br (r.kind == (4 : Int))
      (.leaf (mkR fClassOf.rs ((4 : Int), ())) [] [])
      (.leaf (mkR fClassOf.rs ((5 : Int), ())) [] [])))))) (by kernel_rfl) ?_
  refine ob_i ?_ fun o1 => lt_i (br_i (fun h2 => br_i (fun h3 => Fct.leafY ?_) (fun h3 => br_i (fun h4 => Fct.leafY ?_) (fun h4 => br_i (fun h5 => Fct.leafY ?_) (fun h5 => br_i (fun h6 => Fct.leafY ?_) (fun h6 => br_i (fun h7 => Fct.leafY ?_) (fun h7 => Fct.leafY ?_)))))) (fun h2 => br_i (fun h8 => Fct.leafY ?_) (fun h8 => br_i (fun h9 => Fct.leafY ?_) (fun h9 => br_i (fun h10 => Fct.leafY ?_) (fun h10 => br_i (fun h11 => Fct.leafY ?_) (fun h11 => Fct.leafY ?_))))))
  all_goals try simp only [beqAddr] at *
  all_goals try simp only [decide_eq_true_eq, decide_eq_false_iff_not, Bool.not_eq_true', Bool.not_eq_false', bne_iff_ne, bne_eq_false_iff_eq, beq_iff_eq, beq_eq_false_iff_ne, baEq, Int.not_lt, Int.not_le, ne_eq, Decidable.not_not] at *
  all_goals try simp only [fBlockedOn, fClassOf, etaToken, etaNode, etaBuilder, etaPolicy, etaPage, etaVisit, etaTab, etaServer, etaCache, etaNet, etaLoader, etaSheet, etaResult, etaSlot, etaModule, etaAddr, etaRequest, etaResponse, etaConn, etaGuess, etaEntry, etaSent, etaFile, baSz, List.size_toArray, List.length_cons, List.length_nil, Nat.reduceAdd, Int.toNat_zero, List.drop_zero, decide_eq_true_eq, decide_eq_false_iff_not, Bool.not_eq_true', Bool.not_eq_false', bne_iff_ne, bne_eq_false_iff_eq, beq_iff_eq, beq_eq_false_iff_ne, Bool.not_eq_true, Bool.not_eq_false, ne_eq, Decidable.not_not, baEq, decide_not, Prod.mk.injEq, and_true, true_and, Room, List.nil_append, Nat.zero_add, Int.not_lt, Int.not_le, classOf] at *
  all_goals try simp (disch := omega) only [wrapId', toNat1] at *
  all_goals try simp (disch := omega) only [if_pos, if_neg]
  all_goals first | trivial | omega | grind [wrapId', toNat1, drop_cons, drop_end, good_len, maxLen, classOf])
def E79 : D.Env := E78.add 38 fClassOf
theorem E79ok : EOk Try.prog E79 := E78ok.add k38_78
def okPg (p : SPage) : Prop := p.slots.length ≤ 1048576 ∧ -9223372036854775808 ≤ p.block ∧ p.block ≤ 9223372036854775807
theorem classOf_rng (p : SPage) (r : SRequest) : 0 ≤ classOf p r ∧ classOf p r ≤ 5 := by
  unfold classOf; repeat' split
  all_goals omega
def fSortReq1 : Fct := ⟨[.v (.el .request), .v (.el .request), .p (.el .page)], [.el .int], fun (x_ : SRequest × SRequest × SPage × Unit) => okPg x_.2.2.1, fun (x_ : SRequest × SRequest × SPage × Unit) => (classOf x_.2.2.1 x_.1 - classOf x_.2.2.1 x_.2.1, ())⟩
-- impl.SortRequests$1
theorem k37_79 : fSortReq1.ok Try.prog 37 := Fct.of (S := fSortReq1) (L := fun _ _ => none) (kp := [2,3,4,5]) E79ok Try.func37 (by kernel_rfl) (by kernel_rfl) (by
  rintro ⟨(a : SRequest), (b : SRequest), (p : SPage), _⟩ hp
  refine holds_of (X := .ob (fClassOf.pre (p, a, ())) <|
 .lt (Int × PUnit) (fClassOf.fn (p, a, ())) fun z2 =>
 .ob (fClassOf.pre (p, b, ())) <|
  .lt (Int × PUnit) (fClassOf.fn (p, b, ())) fun z3 =>
  .leaf (mkR fSortReq1.rs (IntKind.i64.wrap (z2.fst - z3.fst), ())) [] []) (by kernel_rfl) ?_
  refine ob_i ?_ fun o1 => lt_i (ob_i ?_ fun o2 => lt_i (Fct.leafY ?_))
  all_goals have h1 := classOf_rng p a
  all_goals have h2 := classOf_rng p b
  all_goals try simp only [decide_eq_true_eq, decide_eq_false_iff_not, Bool.not_eq_true', Bool.not_eq_false', bne_iff_ne, bne_eq_false_iff_eq, beq_iff_eq, beq_eq_false_iff_ne, baEq, Int.not_lt, Int.not_le, ne_eq, Decidable.not_not] at *
  all_goals try simp only [fClassOf, fSortReq1, etaToken, etaNode, etaBuilder, etaPolicy, etaPage, etaVisit, etaTab, etaServer, etaCache, etaNet, etaLoader, etaSheet, etaResult, etaSlot, etaModule, etaAddr, etaRequest, etaResponse, etaConn, etaGuess, etaEntry, etaSent, etaFile, baSz, List.size_toArray, List.length_cons, List.length_nil, Nat.reduceAdd, Int.toNat_zero, List.drop_zero, decide_eq_true_eq, decide_eq_false_iff_not, Bool.not_eq_true', Bool.not_eq_false', bne_iff_ne, bne_eq_false_iff_eq, beq_iff_eq, beq_eq_false_iff_ne, Bool.not_eq_true, Bool.not_eq_false, ne_eq, Decidable.not_not, baEq, decide_not, Prod.mk.injEq, and_true, true_and, Room, List.nil_append, Nat.zero_add, Int.not_lt, Int.not_le, okPg] at *
  all_goals try simp (disch := omega) only [wrapId', toNat1] at *
  all_goals try simp (disch := omega) only [if_pos, if_neg]
  all_goals first | trivial | omega | grind [wrapId', toNat1, drop_cons, drop_end, good_len, maxLen, okPg])
def E80 : D.Env := E79.add 37 fSortReq1
theorem E80ok : EOk Try.prog E80 := E79ok.add k37_79
def fInsSort : GS := ⟨[.k (.sl .request), .l (.v (.el .int)), .l (.v (.el .int)), .l (.c 37 [.el .page])], [], fun (x_ : (List SRequest) × Int × Int × (SPage × Unit) × Unit) => okPg x_.2.2.2.1.1 ∧ 0 ≤ x_.2.1 ∧ x_.2.1 ≤ x_.2.2.1 ∧ x_.2.2.1 ≤ x_.1.length ∧ x_.1.length ≤ 1048576, fun (x_ : (List SRequest) × Int × Int × (SPage × Unit) × Unit) => ((()), (sortR (classOf x_.2.2.2.1.1) x_.2.1.toNat x_.2.2.1.toNat x_.1, ()))⟩
abbrev W_slices_insertionSortCmpFunc_impl_Request_fInsSort_1 (l : (List SRequest)) (a : Int) (b : Int) (u : (SPage × Unit)) : LInv := ⟨[⟨.s, 8, true, .el .int⟩, ⟨.t, 0, true, .sl .request⟩], fun _ (x_ : Int × (List SRequest) × Unit) => a + 1 ≤ x_.1 ∧ (x_.1 ≤ b ∨ x_.1 = a + 1) ∧ x_.2.1 = sortR (classOf u.1) a.toNat (min x_.1 b).toNat l, fun (x_ : Int × (List SRequest) × Unit) => (b - x_.1).toNat⟩
abbrev W_slices_insertionSortCmpFunc_impl_Request_fInsSort_4 (l : (List SRequest)) (a : Int) (b : Int) (u : (SPage × Unit)) : LInv := ⟨[⟨.s, 9, true, .el .int⟩, ⟨.t, 0, true, .sl .request⟩, ⟨.s, 8, true, .el .int⟩], fun (z_ : Int × (List SRequest) × Int × Unit) (x_ : Int × (List SRequest) × Int × Unit) => x_.2.2.1 = z_.2.2.1 ∧ a ≤ x_.1 ∧ x_.1 ≤ x_.2.2.1 ∧ x_.2.2.1 < z_.2.1.length ∧ x_.2.1 = rotR z_.2.1 x_.1.toNat x_.2.2.1.toNat (x_.2.2.1.toNat + 1) ∧ (∀ k, x_.1.toNat ≤ k → k < x_.2.2.1.toNat → classOf u.1 (z_.2.1.getD x_.2.2.1.toNat default) < classOf u.1 (z_.2.1.getD k default)), fun (x_ : Int × (List SRequest) × Int × Unit) => x_.1.toNat⟩
-- slices.insertionSortCmpFunc[impl.Request]
theorem k83_80 : fInsSort.ok Try.prog 83 := GS.of (S := fInsSort) (L := fun ⟨l, a, b, u, _⟩ => fun | 1 => some (W_slices_insertionSortCmpFunc_impl_Request_fInsSort_1 l a b u) | 4 => some (W_slices_insertionSortCmpFunc_impl_Request_fInsSort_4 l a b u) | _ => none) (kp := [0,1,2,3,8,9,14,34,1000014,1000034]) E80ok Try.func83 (by kernel_rfl) (by kernel_rfl) (by
  rintro ⟨(l : List SRequest), (a : Int), (b : Int), (u : SPage × PUnit), _⟩ hp
  refine holds_of (X := lpx (W_slices_insertionSortCmpFunc_impl_Request_fInsSort_1 l a b u) (IntKind.i64.wrap (a + (1 : Int)), (l, ())) fun (y1 : Int × List SRequest × PUnit) bk1 =>
 .br (decide (y1.fst < b))
  (lpx (W_slices_insertionSortCmpFunc_impl_Request_fInsSort_4 l a b u) (y1.fst, (y1.snd.fst, (y1.fst, ()))) fun (y3 : Int × List SRequest × Int × PUnit) bk3 =>
   .br (decide (y3.fst > a))
    (.ob ((0 : Int) ≤ y3.fst ∧ y3.fst < (↑y3.snd.fst.length : Int)) <|
     .ob (y3.fst.toNat < y3.snd.fst.length) <|
     .ob ((0 : Int) ≤ IntKind.i64.wrap (y3.fst - (1 : Int)) ∧ IntKind.i64.wrap (y3.fst - (1 : Int)) < (↑y3.snd.fst.length : Int)) <|
     .ob ((IntKind.i64.wrap (y3.fst - (1 : Int))).toNat < y3.snd.fst.length) <|
     .ob (fSortReq1.pre (y3.snd.fst.getD y3.fst.toNat default, y3.snd.fst.getD (IntKind.i64.wrap (y3.fst - (1 : Int))).toNat default, u.fst, ())) <|
     .lt (Int × PUnit) (fSortReq1.fn (y3.snd.fst.getD y3.fst.toNat default, y3.snd.fst.getD (IntKind.i64.wrap (y3.fst - (1 : Int))).toNat default, u.fst, ())) fun z2 =>
     .br (decide (z2.fst < (0 : Int)))
      (.lp (Bool) (True) (fun x => True) fun y11 =>
       .br (y11)
        (.ob ((0 : Int) ≤ IntKind.i64.wrap (y3.fst - (1 : Int)) ∧ IntKind.i64.wrap (y3.fst - (1 : Int)) < (↑y3.snd.fst.length : Int)) <|
         .ob ((IntKind.i64.wrap (y3.fst - (1 : Int))).toNat < y3.snd.fst.length) <|
         .ob ((0 : Int) ≤ y3.fst ∧ y3.fst < (↑y3.snd.fst.length : Int)) <|
         .ob (y3.fst.toNat < y3.snd.fst.length) <|
         .ob ((0 : Int) ≤ y3.fst ∧ y3.fst < (↑y3.snd.fst.length : Int)) <|
         .ob (y3.fst.toNat < y3.snd.fst.length) <|
         .lt (List SRequest) (y3.snd.fst.modify y3.fst.toNat fun z => y3.snd.fst.getD (IntKind.i64.wrap (y3.fst - (1 : Int))).toNat default) fun z3 =>
         .ob ((0 : Int) ≤ IntKind.i64.wrap (y3.fst - (1 : Int)) ∧ IntKind.i64.wrap (y3.fst - (1 : Int)) < (↑z3.length : Int)) <|
          .ob ((IntKind.i64.wrap (y3.fst - (1 : Int))).toNat < z3.length) <|
          .lt (List SRequest) (z3.modify (IntKind.i64.wrap (y3.fst - (1 : Int))).toNat fun z => y3.snd.fst.getD y3.fst.toNat default) fun z4 =>
          .ob (Value.int IntKind.i64 a = Value.int IntKind.i64 a) <|
           .ob (Value.int IntKind.i64 b = Value.int IntKind.i64 b) <|
           .ob (enc Ty.page u.fst = enc Ty.page u.fst) <|
           .ob (bk3 (IntKind.i64.wrap (y3.fst - (1 : Int)), (z4, (y3.snd.snd.fst, ())))) <|
           .ok)
        (.ob ((0 : Int) ≤ IntKind.i64.wrap (y3.fst - (1 : Int)) ∧ IntKind.i64.wrap (y3.fst - (1 : Int)) < (↑y3.snd.fst.length : Int)) <|
         .ob ((IntKind.i64.wrap (y3.fst - (1 : Int))).toNat < y3.snd.fst.length) <|
         .ob ((0 : Int) ≤ y3.fst ∧ y3.fst < (↑y3.snd.fst.length : Int)) <|
         .ob (y3.fst.toNat < y3.snd.fst.length) <|
         .ob ((0 : Int) ≤ y3.fst ∧ y3.fst < (↑y3.snd.fst.length : Int)) <|
         .ob (y3.fst.toNat < y3.snd.fst.length) <|
         .lt (List SRequest) (y3.snd.fst.modify y3.fst.toNat fun z => y3.snd.fst.getD (IntKind.i64.wrap (y3.fst - (1 : Int))).toNat default) fun z5 =>
         .ob ((0 : Int) ≤ IntKind.i64.wrap (y3.fst - (1 : Int)) ∧ IntKind.i64.wrap (y3.fst - (1 : Int)) < (↑z5.length : Int)) <|
          .ob ((IntKind.i64.wrap (y3.fst - (1 : Int))).toNat < z5.length) <|
          .lt (List SRequest) (z5.modify (IntKind.i64.wrap (y3.fst - (1 : Int))).toNat fun z => y3.snd.fst.getD y3.fst.toNat default) fun z6 =>
          .ob (Value.int IntKind.i64 a = Value.int IntKind.i64 a) <|
           .ob (Value.int IntKind.i64 b = Value.int IntKind.i64 b) <|
           .ob (enc Ty.page u.fst = enc Ty.page u.fst) <|
           .ob (bk3 (IntKind.i64.wrap (y3.fst - (1 : Int)), (z6, (y3.snd.snd.fst, ())))) <|
           .ok))
      (.ob (Value.int IntKind.i64 a = Value.int IntKind.i64 a) <|
       .ob (Value.int IntKind.i64 b = Value.int IntKind.i64 b) <|
       .ob (enc Ty.page u.fst = enc Ty.page u.fst) <|
       .ob (bk1 (IntKind.i64.wrap (y3.snd.snd.fst + (1 : Int)), (y3.snd.fst, ()))) <|
       .ok))
    (.ob (Value.int IntKind.i64 a = Value.int IntKind.i64 a) <|
     .ob (Value.int IntKind.i64 b = Value.int IntKind.i64 b) <|
     .ob (enc Ty.page u.fst = enc Ty.page u.fst) <|
     .ob (bk1 (IntKind.i64.wrap (y3.snd.snd.fst + (1 : Int)), (y3.snd.fst, ()))) <|
     .ok))
  (GS.out fInsSort ((()), (y1.snd.fst, ())))) (by kernel_rfl) ?_
  refine lpx_i ?_ fun (y1 : Int × List SRequest × PUnit) i1 => br_i (fun h2 => lpx_i ?_ fun (y3 : Int × List SRequest × Int × PUnit) i3 => br_i (fun h4 => ob_i ?_ fun o5 => ob_i ?_ fun o6 => ob_i ?_ fun o7 => ob_i ?_ fun o8 => ob_i ?_ fun o9 => lt_i (br_i (fun h10 => lp_i trivial fun y11 i11 => br_i (fun h12 => ob_i ?_ fun o13 => ob_i ?_ fun o14 => ob_i ?_ fun o15 => ob_i ?_ fun o16 => ob_i ?_ fun o17 => ob_i ?_ fun o18 => lt_i (ob_i ?_ fun o19 => ob_i ?_ fun o20 => lt_i (ob_i rfl fun _ => ob_i rfl fun _ => ob_i rfl fun _ => ob_i ?_ fun o21 => trivial))) (fun h12 => ob_i ?_ fun o22 => ob_i ?_ fun o23 => ob_i ?_ fun o24 => ob_i ?_ fun o25 => ob_i ?_ fun o26 => ob_i ?_ fun o27 => lt_i (ob_i ?_ fun o28 => ob_i ?_ fun o29 => lt_i (ob_i rfl fun _ => ob_i rfl fun _ => ob_i rfl fun _ => ob_i ?_ fun o30 => trivial)))) (fun h10 => ob_i rfl fun _ => ob_i rfl fun _ => ob_i rfl fun _ => ob_i ?_ fun o31 => trivial))) (fun h4 => ob_i rfl fun _ => ob_i rfl fun _ => ob_i rfl fun _ => ob_i ?_ fun o32 => trivial)) (fun h2 => GS.leafY ?_)
  all_goals obtain ⟨hq, hp⟩ := hp
  all_goals try obtain ⟨a1, a2, a3⟩ := i1
  all_goals try obtain ⟨b1, b2, b3, b4, b5, b6⟩ := i3
  all_goals try simp only [decide_eq_true_eq, decide_eq_false_iff_not, Bool.not_eq_true', Bool.not_eq_false', bne_iff_ne, bne_eq_false_iff_eq, beq_iff_eq, beq_eq_false_iff_ne, baEq, Int.not_lt, Int.not_le, ne_eq, Decidable.not_not] at *
  all_goals try simp only [W_slices_insertionSortCmpFunc_impl_Request_fInsSort_1, W_slices_insertionSortCmpFunc_impl_Request_fInsSort_4, fInsSort, fSortReq1, etaToken, etaNode, etaBuilder, etaPolicy, etaPage, etaVisit, etaTab, etaServer, etaCache, etaNet, etaLoader, etaSheet, etaResult, etaSlot, etaModule, etaAddr, etaRequest, etaResponse, etaConn, etaGuess, etaEntry, etaSent, etaFile, baSz, List.size_toArray, List.length_cons, List.length_nil, Nat.reduceAdd, Int.toNat_zero, List.drop_zero, decide_eq_true_eq, decide_eq_false_iff_not, Bool.not_eq_true', Bool.not_eq_false', bne_iff_ne, bne_eq_false_iff_eq, beq_iff_eq, beq_eq_false_iff_ne, Bool.not_eq_true, Bool.not_eq_false, ne_eq, Decidable.not_not, baEq, decide_not, Prod.mk.injEq, and_true, true_and, Room, List.nil_append, Nat.zero_add, Int.not_lt, Int.not_le, List.length_modify] at *
  all_goals try rw [b1] at b3 b4 b5 b6
  all_goals try have hl : y1.2.1.length = l.length := by rw [a3, sortR_len (by omega) (by omega)]
  all_goals try have hl2 : y3.2.1.length = l.length := by rw [b5, rotR_len, hl]
  all_goals try have b7 := insI_at b5 (by omega) b3 b4
  all_goals try simp (disch := omega) only [wrapId'] at *
  all_goals first | omega | exact hq | exact ⟨by omega, .inr trivial, (sortR_one (by omega) (by omega) (by omega)).symm⟩ | exact ⟨by omega, by omega, by omega, rot_self, fun k h1 h2 => by omega⟩ | skip
  all_goals try (have b8 := b7.2 (by omega); rw [b7.1, b8] at h10)
  all_goals try rw [b1]
  all_goals first | exact ⟨⟨rfl, by omega, by omega, by omega, insI b5 (by omega) b3 b4, fun k q1 q2 => (by rcases Nat.lt_or_ge k y3.1.toNat with h | h; exact (show k = (y3.1 - 1).toNat by omega) ▸ (by omega); exact b6 k h q2)⟩, by omega⟩ | exact ⟨⟨by omega, by omega, sort_next a3 (by omega) (by omega) (by omega) (by omega) b5 (by omega) (by omega) b6 (.inr (by omega))⟩, by omega⟩ | exact ⟨⟨by omega, by omega, sort_next a3 (by omega) (by omega) (by omega) (by omega) b5 (by omega) (by omega) b6 (.inl (by omega))⟩, by omega⟩ | (rw [a3]; congr 1; omega) | skip)
def E81 : D.Env := E80.addG 83 fInsSort
theorem E81ok : EOk Try.prog E81 := E80ok.addG k83_80
def fSwapR : GS := ⟨[.k (.sl .request), .l (.v (.el .int)), .l (.v (.el .int)), .l (.v (.el .int)), .l (.c 37 [.el .page])], [], fun (x_ : (List SRequest) × Int × Int × Int × (SPage × Unit) × Unit) => 0 ≤ x_.2.1 ∧ 0 ≤ x_.2.2.2.1 ∧ x_.2.1 + x_.2.2.2.1 ≤ x_.2.2.1 ∧ x_.2.2.1 + x_.2.2.2.1 ≤ x_.1.length ∧ x_.1.length ≤ 1048576, fun (x_ : (List SRequest) × Int × Int × Int × (SPage × Unit) × Unit) => ((()), (swapR x_.1 x_.2.1.toNat x_.2.2.1.toNat x_.2.2.2.1.toNat, ()))⟩
abbrev W_slices_swapRangeCmpFunc_impl_Request_fSwapR_1 (l : (List SRequest)) (a : Int) (b : Int) (n : Int) (u : (SPage × Unit)) : LInv := ⟨[⟨.s, 10, true, .el .int⟩, ⟨.t, 0, true, .sl .request⟩], fun _ (x_ : Int × (List SRequest) × Unit) => 0 ≤ x_.1 ∧ x_.1 ≤ n ∧ x_.2.1 = swapR l a.toNat b.toNat x_.1.toNat, fun (x_ : Int × (List SRequest) × Unit) => (n - x_.1).toNat⟩
-- slices.swapRangeCmpFunc[impl.Request]
theorem k91_81 : fSwapR.ok Try.prog 91 := GS.of (S := fSwapR) (L := fun ⟨l, a, b, n, u, _⟩ => fun | 1 => some (W_slices_swapRangeCmpFunc_impl_Request_fSwapR_1 l a b n u) | _ => none) (kp := [0,1,2,3,10,13,1000013]) E81ok Try.func91 (by kernel_rfl) (by kernel_rfl) (by
  rintro ⟨(l : List SRequest), (a : Int), (b : Int), (n : Int), (u : SPage × PUnit), _⟩ hp
  refine holds_of (X := lpx (W_slices_swapRangeCmpFunc_impl_Request_fSwapR_1 l a b n u) ((0 : Int), (l, ())) fun (y1 : Int × List SRequest × PUnit) bk1 =>
 .br (decide (y1.fst < n))
  (.lp (Bool) (True) (fun x => True) fun y3 =>
   .br (y3)
    (.ob ((0 : Int) ≤ IntKind.i64.wrap (b + y1.fst) ∧ IntKind.i64.wrap (b + y1.fst) < (↑y1.snd.fst.length : Int)) <|
     .ob ((IntKind.i64.wrap (b + y1.fst)).toNat < y1.snd.fst.length) <|
     .ob ((0 : Int) ≤ IntKind.i64.wrap (a + y1.fst) ∧ IntKind.i64.wrap (a + y1.fst) < (↑y1.snd.fst.length : Int)) <|
     .ob ((IntKind.i64.wrap (a + y1.fst)).toNat < y1.snd.fst.length) <|
     .ob ((0 : Int) ≤ IntKind.i64.wrap (a + y1.fst) ∧ IntKind.i64.wrap (a + y1.fst) < (↑y1.snd.fst.length : Int)) <|
     .ob ((IntKind.i64.wrap (a + y1.fst)).toNat < y1.snd.fst.length) <|
     .lt (List SRequest) (y1.snd.fst.modify (IntKind.i64.wrap (a + y1.fst)).toNat fun z => y1.snd.fst.getD (IntKind.i64.wrap (b + y1.fst)).toNat default) fun z2 =>
     .ob ((0 : Int) ≤ IntKind.i64.wrap (b + y1.fst) ∧ IntKind.i64.wrap (b + y1.fst) < (↑z2.length : Int)) <|
      .ob ((IntKind.i64.wrap (b + y1.fst)).toNat < z2.length) <|
      .lt (List SRequest) (z2.modify (IntKind.i64.wrap (b + y1.fst)).toNat fun z => y1.snd.fst.getD (IntKind.i64.wrap (a + y1.fst)).toNat default) fun z3 =>
      .ob (Value.int IntKind.i64 a = Value.int IntKind.i64 a) <|
       .ob (Value.int IntKind.i64 b = Value.int IntKind.i64 b) <|
       .ob (Value.int IntKind.i64 n = Value.int IntKind.i64 n) <|
       .ob (bk1 (IntKind.i64.wrap (y1.fst + (1 : Int)), (z3, ()))) <|
       .ok)
    (.ob ((0 : Int) ≤ IntKind.i64.wrap (b + y1.fst) ∧ IntKind.i64.wrap (b + y1.fst) < (↑y1.snd.fst.length : Int)) <|
     .ob ((IntKind.i64.wrap (b + y1.fst)).toNat < y1.snd.fst.length) <|
     .ob ((0 : Int) ≤ IntKind.i64.wrap (a + y1.fst) ∧ IntKind.i64.wrap (a + y1.fst) < (↑y1.snd.fst.length : Int)) <|
     .ob ((IntKind.i64.wrap (a + y1.fst)).toNat < y1.snd.fst.length) <|
     .ob ((0 : Int) ≤ IntKind.i64.wrap (a + y1.fst) ∧ IntKind.i64.wrap (a + y1.fst) < (↑y1.snd.fst.length : Int)) <|
     .ob ((IntKind.i64.wrap (a + y1.fst)).toNat < y1.snd.fst.length) <|
     .lt (List SRequest) (y1.snd.fst.modify (IntKind.i64.wrap (a + y1.fst)).toNat fun z => y1.snd.fst.getD (IntKind.i64.wrap (b + y1.fst)).toNat default) fun z4 =>
     .ob ((0 : Int) ≤ IntKind.i64.wrap (b + y1.fst) ∧ IntKind.i64.wrap (b + y1.fst) < (↑z4.length : Int)) <|
      .ob ((IntKind.i64.wrap (b + y1.fst)).toNat < z4.length) <|
      .lt (List SRequest) (z4.modify (IntKind.i64.wrap (b + y1.fst)).toNat fun z => y1.snd.fst.getD (IntKind.i64.wrap (a + y1.fst)).toNat default) fun z5 =>
      .ob (Value.int IntKind.i64 a = Value.int IntKind.i64 a) <|
       .ob (Value.int IntKind.i64 b = Value.int IntKind.i64 b) <|
       .ob (Value.int IntKind.i64 n = Value.int IntKind.i64 n) <|
       .ob (bk1 (IntKind.i64.wrap (y1.fst + (1 : Int)), (z5, ()))) <|
       .ok))
  (GS.out fSwapR ((()), (y1.snd.fst, ())))) (by kernel_rfl) ?_
  refine lpx_i ?_ fun (y1 : Int × List SRequest × PUnit) i1 => br_i (fun h2 => lp_i trivial fun y3 i3 => br_i (fun h4 => ob_i ?_ fun o5 => ob_i ?_ fun o6 => ob_i ?_ fun o7 => ob_i ?_ fun o8 => ob_i ?_ fun o9 => ob_i ?_ fun o10 => lt_i (ob_i ?_ fun o11 => ob_i ?_ fun o12 => lt_i (ob_i rfl fun _ => ob_i rfl fun _ => ob_i rfl fun _ => ob_i ?_ fun o13 => trivial))) (fun h4 => ob_i ?_ fun o14 => ob_i ?_ fun o15 => ob_i ?_ fun o16 => ob_i ?_ fun o17 => ob_i ?_ fun o18 => ob_i ?_ fun o19 => lt_i (ob_i ?_ fun o20 => ob_i ?_ fun o21 => lt_i (ob_i rfl fun _ => ob_i rfl fun _ => ob_i rfl fun _ => ob_i ?_ fun o22 => trivial)))) (fun h2 => GS.leafY ?_)
  all_goals try (obtain ⟨a1, a2, a3⟩ := i1; have hl : y1.2.1.length = l.length := by rw [a3, swapR_len])
  all_goals try simp only [decide_eq_true_eq, decide_eq_false_iff_not, Bool.not_eq_true', Bool.not_eq_false', bne_iff_ne, bne_eq_false_iff_eq, beq_iff_eq, beq_eq_false_iff_ne, baEq, Int.not_lt, Int.not_le, ne_eq, Decidable.not_not] at *
  all_goals try simp only [W_slices_swapRangeCmpFunc_impl_Request_fSwapR_1, fSwapR, etaToken, etaNode, etaBuilder, etaPolicy, etaPage, etaVisit, etaTab, etaServer, etaCache, etaNet, etaLoader, etaSheet, etaResult, etaSlot, etaModule, etaAddr, etaRequest, etaResponse, etaConn, etaGuess, etaEntry, etaSent, etaFile, baSz, List.size_toArray, List.length_cons, List.length_nil, Nat.reduceAdd, Int.toNat_zero, List.drop_zero, decide_eq_true_eq, decide_eq_false_iff_not, Bool.not_eq_true', Bool.not_eq_false', bne_iff_ne, bne_eq_false_iff_eq, beq_iff_eq, beq_eq_false_iff_ne, Bool.not_eq_true, Bool.not_eq_false, ne_eq, Decidable.not_not, baEq, decide_not, Prod.mk.injEq, and_true, true_and, Room, List.nil_append, Nat.zero_add, Int.not_lt, Int.not_le, List.length_modify] at *
  all_goals try simp (disch := omega) only [wrapId'] at *
  all_goals first | omega | exact ⟨by omega, by omega, swapI0⟩ | exact ⟨⟨by omega, by omega, swapI a3 (by omega) (by omega) (by omega) (by omega)⟩, by omega⟩ | (rw [a3]; congr 1; omega))
def E82 : D.Env := E81.addG 91 fSwapR
theorem E82ok : EOk Try.prog E82 := E81ok.addG k91_81
def fRotR : GS := ⟨[.k (.sl .request), .l (.v (.el .int)), .l (.v (.el .int)), .l (.v (.el .int)), .l (.c 37 [.el .page])], [], fun (x_ : (List SRequest) × Int × Int × Int × (SPage × Unit) × Unit) => 0 ≤ x_.2.1 ∧ x_.2.1 < x_.2.2.1 ∧ x_.2.2.1 < x_.2.2.2.1 ∧ x_.2.2.2.1 ≤ x_.1.length ∧ x_.1.length ≤ 1048576, fun (x_ : (List SRequest) × Int × Int × Int × (SPage × Unit) × Unit) => ((()), (rotR x_.1 x_.2.1.toNat x_.2.2.1.toNat x_.2.2.2.1.toNat, ()))⟩
abbrev W_slices_rotateCmpFunc_impl_Request_fRotR_2 (l : (List SRequest)) (a : Int) (m : Int) (b : Int) (u : (SPage × Unit)) : LInv := ⟨[⟨.s, 10, true, .el .int⟩, ⟨.s, 11, true, .el .int⟩, ⟨.t, 0, true, .sl .request⟩], fun _ (x_ : Int × Int × (List SRequest) × Unit) => 0 < x_.1 ∧ 0 < x_.2.1 ∧ x_.1 ≤ m - a ∧ x_.2.1 ≤ b - m ∧ x_.2.2.1.length = l.length ∧ rotR x_.2.2.1 (m - x_.1).toNat m.toNat (m + x_.2.1).toNat = rotR l a.toNat m.toNat b.toNat, fun (x_ : Int × Int × (List SRequest) × Unit) => (x_.1 + x_.2.1).toNat⟩
-- slices.rotateCmpFunc[impl.Request]
theorem k89_82 : fRotR.ok Try.prog 89 := GS.of (S := fRotR) (L := fun ⟨l, a, m, b, u, _⟩ => fun | 2 => some (W_slices_rotateCmpFunc_impl_Request_fRotR_2 l a m b u) | _ => none) (kp := [0,2,3,4,10,11,20,23,1000020,1000023]) E82ok Try.func89 (by kernel_rfl) (by kernel_rfl) (by
  rintro ⟨(l : List SRequest), (a : Int), (m : Int), (b : Int), (u : SPage × PUnit), _⟩ hp
  refine holds_of (X := lpx (W_slices_rotateCmpFunc_impl_Request_fRotR_2 l a m b u) (IntKind.i64.wrap (m - a), (IntKind.i64.wrap (b - m), (l, ()))) fun (y1 : Int × Int × List SRequest × PUnit) bk1 =>
 .br (y1.fst != y1.snd.fst)
  (.br (decide (y1.fst > y1.snd.fst))
   (.ob (fSwapR.pre (y1.snd.snd.fst, IntKind.i64.wrap (m - y1.fst), m, y1.snd.fst, (u.fst, ()), ())) <|
    .lt (PUnit × List SRequest × PUnit) (fSwapR.fn (y1.snd.snd.fst, IntKind.i64.wrap (m - y1.fst), m, y1.snd.fst, (u.fst, ()), ())) fun z2 =>
    .ob (Value.int IntKind.i64 m = Value.int IntKind.i64 m) <|
     .ob (Value.int IntKind.i64 b = Value.int IntKind.i64 b) <|
     .ob (enc Ty.page u.fst = enc Ty.page u.fst) <|
     .ob (bk1 (IntKind.i64.wrap (y1.fst - y1.snd.fst), (y1.snd.fst, (z2.snd.fst, ())))) <|
     .ok)
   (.ob (fSwapR.pre (y1.snd.snd.fst, IntKind.i64.wrap (m - y1.fst), IntKind.i64.wrap (IntKind.i64.wrap (m + y1.snd.fst) - y1.fst), y1.fst, (u.fst, ()), ())) <|
    .lt (PUnit × List SRequest × PUnit) (fSwapR.fn (y1.snd.snd.fst, IntKind.i64.wrap (m - y1.fst), IntKind.i64.wrap (IntKind.i64.wrap (m + y1.snd.fst) - y1.fst), y1.fst, (u.fst, ()), ())) fun z3 =>
    .ob (Value.int IntKind.i64 m = Value.int IntKind.i64 m) <|
     .ob (Value.int IntKind.i64 b = Value.int IntKind.i64 b) <|
     .ob (enc Ty.page u.fst = enc Ty.page u.fst) <|
     .ob (bk1 (y1.fst, (IntKind.i64.wrap (y1.snd.fst - y1.fst), (z3.snd.fst, ())))) <|
     .ok))
  (.ob (fSwapR.pre (y1.snd.snd.fst, IntKind.i64.wrap (m - y1.fst), m, y1.fst, (u.fst, ()), ())) <|
   .lt (PUnit × List SRequest × PUnit) (fSwapR.fn (y1.snd.snd.fst, IntKind.i64.wrap (m - y1.fst), m, y1.fst, (u.fst, ()), ())) fun z4 =>
   GS.out fRotR ((()), (z4.snd.fst, ())))) (by kernel_rfl) ?_
  refine lpx_i ?_ fun (y1 : Int × Int × List SRequest × PUnit) i1 => br_i (fun h2 => br_i (fun h3 => ob_i ?_ fun o4 => lt_i (ob_i rfl fun _ => ob_i rfl fun _ => ob_i rfl fun _ => ob_i ?_ fun o5 => trivial)) (fun h3 => ob_i ?_ fun o6 => lt_i (ob_i rfl fun _ => ob_i rfl fun _ => ob_i rfl fun _ => ob_i ?_ fun o7 => trivial))) (fun h2 => ob_i ?_ fun o8 => lt_i (GS.leafY ?_))
  all_goals try (obtain ⟨a1, a2, a3, a4, a5, a6⟩ := i1)
  all_goals try simp only [decide_eq_true_eq, decide_eq_false_iff_not, Bool.not_eq_true', Bool.not_eq_false', bne_iff_ne, bne_eq_false_iff_eq, beq_iff_eq, beq_eq_false_iff_ne, baEq, Int.not_lt, Int.not_le, ne_eq, Decidable.not_not] at *
  all_goals try simp only [W_slices_rotateCmpFunc_impl_Request_fRotR_2, fRotR, fSwapR, etaToken, etaNode, etaBuilder, etaPolicy, etaPage, etaVisit, etaTab, etaServer, etaCache, etaNet, etaLoader, etaSheet, etaResult, etaSlot, etaModule, etaAddr, etaRequest, etaResponse, etaConn, etaGuess, etaEntry, etaSent, etaFile, baSz, List.size_toArray, List.length_cons, List.length_nil, Nat.reduceAdd, Int.toNat_zero, List.drop_zero, decide_eq_true_eq, decide_eq_false_iff_not, Bool.not_eq_true', Bool.not_eq_false', bne_iff_ne, bne_eq_false_iff_eq, beq_iff_eq, beq_eq_false_iff_ne, Bool.not_eq_true, Bool.not_eq_false, ne_eq, Decidable.not_not, baEq, decide_not, Prod.mk.injEq, and_true, true_and, Room, List.nil_append, Nat.zero_add, Int.not_lt, Int.not_le, swapR_len] at *
  all_goals try simp (disch := omega) only [wrapId'] at *
  all_goals first | omega | skip
  · exact ⟨by omega, by omega, by omega, by omega, by congr 1 <;> omega⟩
  · exact ⟨⟨by omega, by omega, by omega, by omega, a5, (rotI_left (by omega) (by omega) (by omega) (by omega) (by omega)).trans a6⟩, by omega⟩
  · exact ⟨⟨by omega, by omega, by omega, by omega, a5, (rotI_right (by omega) (by omega) (by omega) (by omega) (by omega)).trans a6⟩, by omega⟩
  · have h5 : y1.2.1 = y1.1 := h2.symm
    rw [h5] at a6
    exact (rotI_same (by omega) (by omega) (by omega)).trans a6)
def E83 : D.Env := E82.addG 89 fRotR
theorem E83ok : EOk Try.prog E83 := E82ok.addG k89_82
def fSymM : GS := ⟨[.k (.sl .request), .l (.v (.el .int)), .l (.v (.el .int)), .l (.v (.el .int)), .l (.c 37 [.el .page])], [], fun (x_ : (List SRequest) × Int × Int × Int × (SPage × Unit) × Unit) => okPg x_.2.2.2.2.1.1 ∧ x_.1.length ≤ 1048576 ∧ MgI (classOf x_.2.2.2.2.1.1) x_.1 x_.2.1 x_.2.2.1 x_.2.2.2.1, fun (x_ : (List SRequest) × Int × Int × Int × (SPage × Unit) × Unit) => ((()), (sortR (classOf x_.2.2.2.2.1.1) x_.2.1.toNat x_.2.2.2.1.toNat x_.1, ()))⟩
abbrev mSymM (x : List SRequest × Int × Int × Int × (SPage × Unit) × Unit) : Nat := (x.2.2.2.1 - x.2.1).toNat
abbrev W_slices_symMergeCmpFunc_impl_Request_fSymM_3 (l : (List SRequest)) (a : Int) (m : Int) (b : Int) (u : (SPage × Unit)) : LInv := ⟨[⟨.s, 10, true, .el .int⟩, ⟨.s, 11, true, .el .int⟩, ⟨.t, 0, true, .sl .request⟩], fun _ (x_ : Int × Int × (List SRequest) × Unit) => x_.2.2.1 = l ∧ BsL (classOf u.1) l a m b x_.1 x_.2.1, fun (x_ : Int × Int × (List SRequest) × Unit) => (x_.2.1 - x_.1).toNat⟩
abbrev W_slices_symMergeCmpFunc_impl_Request_fSymM_9 (l : (List SRequest)) (a : Int) (m : Int) (b : Int) (u : (SPage × Unit)) : LInv := ⟨[⟨.s, 13, true, .el .int⟩, ⟨.t, 0, true, .sl .request⟩, ⟨.s, 10, true, .el .int⟩], fun (z_ : Int × (List SRequest) × Int × Unit) (x_ : Int × (List SRequest) × Int × Unit) => x_.2.2.1 = z_.2.2.1 ∧ a ≤ x_.1 ∧ x_.1 + 1 ≤ x_.2.2.1 ∧ x_.2.1 = rotR z_.2.1 a.toNat (a.toNat + 1) (x_.1.toNat + 1), fun (x_ : Int × (List SRequest) × Int × Unit) => (x_.2.2.1 - x_.1).toNat⟩
abbrev W_slices_symMergeCmpFunc_impl_Request_fSymM_15 (l : (List SRequest)) (a : Int) (m : Int) (b : Int) (u : (SPage × Unit)) : LInv := ⟨[⟨.s, 14, true, .el .int⟩, ⟨.s, 15, true, .el .int⟩, ⟨.t, 0, true, .sl .request⟩], fun _ (x_ : Int × Int × (List SRequest) × Unit) => x_.2.2.1 = l ∧ BsR (classOf u.1) l a m b x_.1 x_.2.1, fun (x_ : Int × Int × (List SRequest) × Unit) => (x_.2.1 - x_.1).toNat⟩
abbrev W_slices_symMergeCmpFunc_impl_Request_fSymM_21 (l : (List SRequest)) (a : Int) (m : Int) (b : Int) (u : (SPage × Unit)) : LInv := ⟨[⟨.s, 17, true, .el .int⟩, ⟨.t, 0, true, .sl .request⟩, ⟨.s, 14, true, .el .int⟩], fun (z_ : Int × (List SRequest) × Int × Unit) (x_ : Int × (List SRequest) × Int × Unit) => x_.2.2.1 = z_.2.2.1 ∧ x_.2.2.1 ≤ x_.1 ∧ x_.1 ≤ m ∧ x_.2.1 = rotR z_.2.1 x_.1.toNat m.toNat (m.toNat + 1), fun (x_ : Int × (List SRequest) × Int × Unit) => x_.1.toNat⟩
abbrev W_slices_symMergeCmpFunc_impl_Request_fSymM_33 (l : (List SRequest)) (a : Int) (m : Int) (b : Int) (u : (SPage × Unit)) : LInv := ⟨[⟨.s, 20, true, .el .int⟩, ⟨.s, 21, true, .el .int⟩, ⟨.t, 0, true, .sl .request⟩], fun _ (x_ : Int × Int × (List SRequest) × Unit) => x_.2.2.1 = l ∧ SymI (classOf u.1) l a m b x_.1 x_.2.1, fun (x_ : Int × Int × (List SRequest) × Unit) => (x_.2.1 - x_.1).toNat⟩
-- slices.symMergeCmpFunc[impl.Request]
set_option maxHeartbeats 2000000 in
theorem k84_83 : fSymM.ok Try.prog 84 := GS.ofRec (S := fSymM) (L := fun ⟨l, a, m, b, u, _⟩ => fun | 3 => some (W_slices_symMergeCmpFunc_impl_Request_fSymM_3 l a m b u) | 9 => some (W_slices_symMergeCmpFunc_impl_Request_fSymM_9 l a m b u) | 15 => some (W_slices_symMergeCmpFunc_impl_Request_fSymM_15 l a m b u) | 21 => some (W_slices_symMergeCmpFunc_impl_Request_fSymM_21 l a m b u) | 33 => some (W_slices_symMergeCmpFunc_impl_Request_fSymM_33 l a m b u) | _ => none) (kp := [0,1,2,3,4,10,11,12,13,14,15,16,17,18,19,20,21,22,23,24,28,33,50,58,80,85,103,110,140,151,171,185,199,213,1000028,1000033,1000050,1000058,1000080,1000085,1000103,1000110,1000140,1000151,1000171,1000185,1000199,1000213]) mSymM E83ok Try.func84 (by kernel_rfl) (by kernel_rfl) (by
  intro n0; rintro ⟨(l : List SRequest), (a : Int), (m : Int), (b : Int), (u : SPage × PUnit), _⟩ hp hm
  refine holds_of (X := .br (IntKind.i64.wrap (m - a) == (1 : Int))
 (lpx (W_slices_symMergeCmpFunc_impl_Request_fSymM_3 l a m b u) (m, (b, (l, ()))) fun (y2 : Int × Int × List SRequest × PUnit) bk2 =>
  .br (decide (y2.fst < y2.snd.fst))
   (.ob ((0 : Int) ≤ (1 : Int)) <|
    .ob ((0 : Int) ≤ IntKind.i64.wrap ((IntKind.u64.wrap (IntKind.i64.wrap (y2.fst + y2.snd.fst))).fdiv (2 : Int)) ∧ IntKind.i64.wrap ((IntKind.u64.wrap (IntKind.i64.wrap (y2.fst + y2.snd.fst))).fdiv (2 : Int)) < (↑y2.snd.snd.fst.length : Int)) <|
    .ob ((IntKind.i64.wrap ((IntKind.u64.wrap (IntKind.i64.wrap (y2.fst + y2.snd.fst))).fdiv (2 : Int))).toNat < y2.snd.snd.fst.length) <|
    .ob ((0 : Int) ≤ a ∧ a < (↑y2.snd.snd.fst.length : Int)) <|
    .ob (a.toNat < y2.snd.snd.fst.length) <|
    .ob (fSortReq1.pre (y2.snd.snd.fst.getD (IntKind.i64.wrap ((IntKind.u64.wrap (IntKind.i64.wrap (y2.fst + y2.snd.fst))).fdiv (2 : Int))).toNat default, y2.snd.snd.fst.getD a.toNat default, u.fst, ())) <|
    .lt (Int × PUnit) (fSortReq1.fn (y2.snd.snd.fst.getD (IntKind.i64.wrap ((IntKind.u64.wrap (IntKind.i64.wrap (y2.fst + y2.snd.fst))).fdiv (2 : Int))).toNat default, y2.snd.snd.fst.getD a.toNat default, u.fst, ())) fun z2 =>
    .br (decide (z2.fst < (0 : Int)))
     (.ob (Value.int IntKind.i64 a = Value.int IntKind.i64 a) <|
      .ob (Value.int IntKind.i64 m = Value.int IntKind.i64 m) <|
      .ob (Value.int IntKind.i64 b = Value.int IntKind.i64 b) <|
      .ob (enc Ty.page u.fst = enc Ty.page u.fst) <|
      .ob (bk2 (IntKind.i64.wrap (IntKind.i64.wrap ((IntKind.u64.wrap (IntKind.i64.wrap (y2.fst + y2.snd.fst))).fdiv (2 : Int)) + (1 : Int)), (y2.snd.fst, (y2.snd.snd.fst, ())))) <|
      .ok)
     (.ob (Value.int IntKind.i64 a = Value.int IntKind.i64 a) <|
      .ob (Value.int IntKind.i64 m = Value.int IntKind.i64 m) <|
      .ob (Value.int IntKind.i64 b = Value.int IntKind.i64 b) <|
      .ob (enc Ty.page u.fst = enc Ty.page u.fst) <|
      .ob (bk2 (y2.fst, (IntKind.i64.wrap ((IntKind.u64.wrap (IntKind.i64.wrap (y2.fst + y2.snd.fst))).fdiv (2 : Int)), (y2.snd.snd.fst, ())))) <|
      .ok))
   (lpx (W_slices_symMergeCmpFunc_impl_Request_fSymM_9 l a m b u) (a, (y2.snd.snd.fst, (y2.fst, ()))) fun (y13 : Int × List SRequest × Int × PUnit) bk13 =>
    .br (decide (y13.fst < IntKind.i64.wrap (y13.snd.snd.fst - (1 : Int))))
     (.lp (Bool) (True) (fun x => True) fun y15 =>
      .br (y15)
       (.ob ((0 : Int) ≤ IntKind.i64.wrap (y13.fst + (1 : Int)) ∧ IntKind.i64.wrap (y13.fst + (1 : Int)) < (↑y13.snd.fst.length : Int)) <|
        .ob ((IntKind.i64.wrap (y13.fst + (1 : Int))).toNat < y13.snd.fst.length) <|
        .ob ((0 : Int) ≤ y13.fst ∧ y13.fst < (↑y13.snd.fst.length : Int)) <|
        .ob (y13.fst.toNat < y13.snd.fst.length) <|
        .ob ((0 : Int) ≤ y13.fst ∧ y13.fst < (↑y13.snd.fst.length : Int)) <|
        .ob (y13.fst.toNat < y13.snd.fst.length) <|
        .lt (List SRequest) (y13.snd.fst.modify y13.fst.toNat fun z => y13.snd.fst.getD (IntKind.i64.wrap (y13.fst + (1 : Int))).toNat default) fun z3 =>
        .ob ((0 : Int) ≤ IntKind.i64.wrap (y13.fst + (1 : Int)) ∧ IntKind.i64.wrap (y13.fst + (1 : Int)) < (↑z3.length : Int)) <|
         .ob ((IntKind.i64.wrap (y13.fst + (1 : Int))).toNat < z3.length) <|
         .lt (List SRequest) (z3.modify (IntKind.i64.wrap (y13.fst + (1 : Int))).toNat fun z => y13.snd.fst.getD y13.fst.toNat default) fun z4 =>
         .ob (Value.int IntKind.i64 y2.snd.fst = Value.int IntKind.i64 y2.snd.fst) <|
          .ob (Value.int IntKind.i64 a = Value.int IntKind.i64 a) <|
          .ob (Value.int IntKind.i64 m = Value.int IntKind.i64 m) <|
          .ob (Value.int IntKind.i64 b = Value.int IntKind.i64 b) <|
          .ob (enc Ty.page u.fst = enc Ty.page u.fst) <|
          .ob (bk13 (IntKind.i64.wrap (y13.fst + (1 : Int)), (z4, (y13.snd.snd.fst, ())))) <|
          .ok)
       (.ob ((0 : Int) ≤ IntKind.i64.wrap (y13.fst + (1 : Int)) ∧ IntKind.i64.wrap (y13.fst + (1 : Int)) < (↑y13.snd.fst.length : Int)) <|
        .ob ((IntKind.i64.wrap (y13.fst + (1 : Int))).toNat < y13.snd.fst.length) <|
        .ob ((0 : Int) ≤ y13.fst ∧ y13.fst < (↑y13.snd.fst.length : Int)) <|
        .ob (y13.fst.toNat < y13.snd.fst.length) <|
        .ob ((0 : Int) ≤ y13.fst ∧ y13.fst < (↑y13.snd.fst.length : Int)) <|
        .ob (y13.fst.toNat < y13.snd.fst.length) <|
        .lt (List SRequest) (y13.snd.fst.modify y13.fst.toNat fun z => y13.snd.fst.getD (IntKind.i64.wrap (y13.fst + (1 : Int))).toNat default) fun z5 =>
        .ob ((0 : Int) ≤ IntKind.i64.wrap (y13.fst + (1 : Int)) ∧ IntKind.i64.wrap (y13.fst + (1 : Int)) < (↑z5.length : Int)) <|
         .ob ((IntKind.i64.wrap (y13.fst + (1 : Int))).toNat < z5.length) <|
         .lt (List SRequest) (z5.modify (IntKind.i64.wrap (y13.fst + (1 : Int))).toNat fun z => y13.snd.fst.getD y13.fst.toNat default) fun z6 =>
         .ob (Value.int IntKind.i64 y2.snd.fst = Value.int IntKind.i64 y2.snd.fst) <|
          .ob (Value.int IntKind.i64 a = Value.int IntKind.i64 a) <|
          .ob (Value.int IntKind.i64 m = Value.int IntKind.i64 m) <|
          .ob (Value.int IntKind.i64 b = Value.int IntKind.i64 b) <|
          .ob (enc Ty.page u.fst = enc Ty.page u.fst) <|
          .ob (bk13 (IntKind.i64.wrap (y13.fst + (1 : Int)), (z6, (y13.snd.snd.fst, ())))) <|
          .ok))
     (GS.out fSymM ((()), (y13.snd.fst, ())))))
 (.br (IntKind.i64.wrap (b - m) == (1 : Int))
  (lpx (W_slices_symMergeCmpFunc_impl_Request_fSymM_15 l a m b u) (a, (m, (l, ()))) fun (y36 : Int × Int × List SRequest × PUnit) bk36 =>
   .br (decide (y36.fst < y36.snd.fst))
    (.ob ((0 : Int) ≤ (1 : Int)) <|
     .ob ((0 : Int) ≤ m ∧ m < (↑y36.snd.snd.fst.length : Int)) <|
     .ob (m.toNat < y36.snd.snd.fst.length) <|
     .ob ((0 : Int) ≤ IntKind.i64.wrap ((IntKind.u64.wrap (IntKind.i64.wrap (y36.fst + y36.snd.fst))).fdiv (2 : Int)) ∧ IntKind.i64.wrap ((IntKind.u64.wrap (IntKind.i64.wrap (y36.fst + y36.snd.fst))).fdiv (2 : Int)) < (↑y36.snd.snd.fst.length : Int)) <|
     .ob ((IntKind.i64.wrap ((IntKind.u64.wrap (IntKind.i64.wrap (y36.fst + y36.snd.fst))).fdiv (2 : Int))).toNat < y36.snd.snd.fst.length) <|
     .ob (fSortReq1.pre (y36.snd.snd.fst.getD m.toNat default, y36.snd.snd.fst.getD (IntKind.i64.wrap ((IntKind.u64.wrap (IntKind.i64.wrap (y36.fst + y36.snd.fst))).fdiv (2 : Int))).toNat default, u.fst, ())) <|
     .lt (Int × PUnit) (fSortReq1.fn (y36.snd.snd.fst.getD m.toNat default, y36.snd.snd.fst.getD (IntKind.i64.wrap ((IntKind.u64.wrap (IntKind.i64.wrap (y36.fst + y36.snd.fst))).fdiv (2 : Int))).toNat default, u.fst, ())) fun z7 =>
     .br (!decide (z7.fst < (0 : Int)))
      (.ob (Value.int IntKind.i64 a = Value.int IntKind.i64 a) <|
       .ob (Value.int IntKind.i64 m = Value.int IntKind.i64 m) <|
       .ob (Value.int IntKind.i64 b = Value.int IntKind.i64 b) <|
       .ob (enc Ty.page u.fst = enc Ty.page u.fst) <|
       .ob (bk36 (IntKind.i64.wrap (IntKind.i64.wrap ((IntKind.u64.wrap (IntKind.i64.wrap (y36.fst + y36.snd.fst))).fdiv (2 : Int)) + (1 : Int)), (y36.snd.fst, (y36.snd.snd.fst, ())))) <|
       .ok)
      (.ob (Value.int IntKind.i64 a = Value.int IntKind.i64 a) <|
       .ob (Value.int IntKind.i64 m = Value.int IntKind.i64 m) <|
       .ob (Value.int IntKind.i64 b = Value.int IntKind.i64 b) <|
       .ob (enc Ty.page u.fst = enc Ty.page u.fst) <|
       .ob (bk36 (y36.fst, (IntKind.i64.wrap ((IntKind.u64.wrap (IntKind.i64.wrap (y36.fst + y36.snd.fst))).fdiv (2 : Int)), (y36.snd.snd.fst, ())))) <|
       .ok))
    (lpx (W_slices_symMergeCmpFunc_impl_Request_fSymM_21 l a m b u) (m, (y36.snd.snd.fst, (y36.fst, ()))) fun (y47 : Int × List SRequest × Int × PUnit) bk47 =>
     .br (decide (y47.fst > y47.snd.snd.fst))
      (.lp (Bool) (True) (fun x => True) fun y49 =>
       .br (y49)
        (.ob ((0 : Int) ≤ IntKind.i64.wrap (y47.fst - (1 : Int)) ∧ IntKind.i64.wrap (y47.fst - (1 : Int)) < (↑y47.snd.fst.length : Int)) <|
         .ob ((IntKind.i64.wrap (y47.fst - (1 : Int))).toNat < y47.snd.fst.length) <|
         .ob ((0 : Int) ≤ y47.fst ∧ y47.fst < (↑y47.snd.fst.length : Int)) <|
         .ob (y47.fst.toNat < y47.snd.fst.length) <|
         .ob ((0 : Int) ≤ y47.fst ∧ y47.fst < (↑y47.snd.fst.length : Int)) <|
         .ob (y47.fst.toNat < y47.snd.fst.length) <|
         .lt (List SRequest) (y47.snd.fst.modify y47.fst.toNat fun z => y47.snd.fst.getD (IntKind.i64.wrap (y47.fst - (1 : Int))).toNat default) fun z8 =>
         .ob ((0 : Int) ≤ IntKind.i64.wrap (y47.fst - (1 : Int)) ∧ IntKind.i64.wrap (y47.fst - (1 : Int)) < (↑z8.length : Int)) <|
          .ob ((IntKind.i64.wrap (y47.fst - (1 : Int))).toNat < z8.length) <|
          .lt (List SRequest) (z8.modify (IntKind.i64.wrap (y47.fst - (1 : Int))).toNat fun z => y47.snd.fst.getD y47.fst.toNat default) fun z9 =>
          .ob (Value.int IntKind.i64 y36.snd.fst = Value.int IntKind.i64 y36.snd.fst) <|
           .ob (Value.int IntKind.i64 a = Value.int IntKind.i64 a) <|
           .ob (Value.int IntKind.i64 m = Value.int IntKind.i64 m) <|
           .ob (Value.int IntKind.i64 b = Value.int IntKind.i64 b) <|
           .ob (enc Ty.page u.fst = enc Ty.page u.fst) <|
           .ob (bk47 (IntKind.i64.wrap (y47.fst - (1 : Int)), (z9, (y47.snd.snd.fst, ())))) <|
           .ok)
        (.ob ((0 : Int) ≤ IntKind.i64.wrap (y47.fst - (1 : Int)) ∧ IntKind.i64.wrap (y47.fst - (1 : Int)) < (↑y47.snd.fst.length : Int)) <|
         .ob ((IntKind.i64.wrap (y47.fst - (1 : Int))).toNat < y47.snd.fst.length) <|
         .ob ((0 : Int) ≤ y47.fst ∧ y47.fst < (↑y47.snd.fst.length : Int)) <|
         .ob (y47.fst.toNat < y47.snd.fst.length) <|
         .ob ((0 : Int) ≤ y47.fst ∧ y47.fst < (↑y47.snd.fst.length : Int)) <|
         .ob (y47.fst.toNat < y47.snd.fst.length) <|
         .lt (List SRequest) (y47.snd.fst.modify y47.fst.toNat fun z => y47.snd.fst.getD (IntKind.i64.wrap (y47.fst - (1 : Int))).toNat default) fun z10 =>
         .ob ((0 : Int) ≤ IntKind.i64.wrap (y47.fst - (1 : Int)) ∧ IntKind.i64.wrap (y47.fst - (1 : Int)) < (↑z10.length : Int)) <|
          .ob ((IntKind.i64.wrap (y47.fst - (1 : Int))).toNat < z10.length) <|
          .lt (List SRequest) (z10.modify (IntKind.i64.wrap (y47.fst - (1 : Int))).toNat fun z => y47.snd.fst.getD y47.fst.toNat default) fun z11 =>
          .ob (Value.int IntKind.i64 y36.snd.fst = Value.int IntKind.i64 y36.snd.fst) <|
           .ob (Value.int IntKind.i64 a = Value.int IntKind.i64 a) <|
           .ob (Value.int IntKind.i64 m = Value.int IntKind.i64 m) <|
           .ob (Value.int IntKind.i64 b = Value.int IntKind.i64 b) <|
           .ob (enc Ty.page u.fst = enc Ty.page u.fst) <|
           .ob (bk47 (IntKind.i64.wrap (y47.fst - (1 : Int)), (z11, (y47.snd.snd.fst, ())))) <|
           .ok))
      (GS.out fSymM ((()), (y47.snd.fst, ())))))
  (.ob ((0 : Int) ≤ (1 : Int)) <|
   .br (decide (m > IntKind.i64.wrap ((IntKind.u64.wrap (IntKind.i64.wrap (a + b))).fdiv (2 : Int))))
   (lpx (W_slices_symMergeCmpFunc_impl_Request_fSymM_33 l a m b u) (IntKind.i64.wrap (IntKind.i64.wrap (IntKind.i64.wrap ((IntKind.u64.wrap (IntKind.i64.wrap (a + b))).fdiv (2 : Int)) + m) - b), (IntKind.i64.wrap ((IntKind.u64.wrap (IntKind.i64.wrap (a + b))).fdiv (2 : Int)), (l, ()))) fun (y71 : Int × Int × List SRequest × PUnit) bk71 =>
    .br (decide (y71.fst < y71.snd.fst))
     (.ob ((0 : Int) ≤ (1 : Int)) <|
      .ob ((0 : Int) ≤ IntKind.i64.wrap (IntKind.i64.wrap (IntKind.i64.wrap (IntKind.i64.wrap ((IntKind.u64.wrap (IntKind.i64.wrap (a + b))).fdiv (2 : Int)) + m) - (1 : Int)) - IntKind.i64.wrap ((IntKind.u64.wrap (IntKind.i64.wrap (y71.fst + y71.snd.fst))).fdiv (2 : Int))) ∧ IntKind.i64.wrap (IntKind.i64.wrap (IntKind.i64.wrap (IntKind.i64.wrap ((IntKind.u64.wrap (IntKind.i64.wrap (a + b))).fdiv (2 : Int)) + m) - (1 : Int)) - IntKind.i64.wrap ((IntKind.u64.wrap (IntKind.i64.wrap (y71.fst + y71.snd.fst))).fdiv (2 : Int))) < (↑y71.snd.snd.fst.length : Int)) <|
      .ob ((IntKind.i64.wrap (IntKind.i64.wrap (IntKind.i64.wrap (IntKind.i64.wrap ((IntKind.u64.wrap (IntKind.i64.wrap (a + b))).fdiv (2 : Int)) + m) - (1 : Int)) - IntKind.i64.wrap ((IntKind.u64.wrap (IntKind.i64.wrap (y71.fst + y71.snd.fst))).fdiv (2 : Int)))).toNat < y71.snd.snd.fst.length) <|
      .ob ((0 : Int) ≤ IntKind.i64.wrap ((IntKind.u64.wrap (IntKind.i64.wrap (y71.fst + y71.snd.fst))).fdiv (2 : Int)) ∧ IntKind.i64.wrap ((IntKind.u64.wrap (IntKind.i64.wrap (y71.fst + y71.snd.fst))).fdiv (2 : Int)) < (↑y71.snd.snd.fst.length : Int)) <|
      .ob ((IntKind.i64.wrap ((IntKind.u64.wrap (IntKind.i64.wrap (y71.fst + y71.snd.fst))).fdiv (2 : Int))).toNat < y71.snd.snd.fst.length) <|
      .ob (fSortReq1.pre (y71.snd.snd.fst.getD (IntKind.i64.wrap (IntKind.i64.wrap (IntKind.i64.wrap (IntKind.i64.wrap ((IntKind.u64.wrap (IntKind.i64.wrap (a + b))).fdiv (2 : Int)) + m) - (1 : Int)) - IntKind.i64.wrap ((IntKind.u64.wrap (IntKind.i64.wrap (y71.fst + y71.snd.fst))).fdiv (2 : Int)))).toNat default, y71.snd.snd.fst.getD (IntKind.i64.wrap ((IntKind.u64.wrap (IntKind.i64.wrap (y71.fst + y71.snd.fst))).fdiv (2 : Int))).toNat default, u.fst, ())) <|
      .lt (Int × PUnit) (fSortReq1.fn (y71.snd.snd.fst.getD (IntKind.i64.wrap (IntKind.i64.wrap (IntKind.i64.wrap (IntKind.i64.wrap ((IntKind.u64.wrap (IntKind.i64.wrap (a + b))).fdiv (2 : Int)) + m) - (1 : Int)) - IntKind.i64.wrap ((IntKind.u64.wrap (IntKind.i64.wrap (y71.fst + y71.snd.fst))).fdiv (2 : Int)))).toNat default, y71.snd.snd.fst.getD (IntKind.i64.wrap ((IntKind.u64.wrap (IntKind.i64.wrap (y71.fst + y71.snd.fst))).fdiv (2 : Int))).toNat default, u.fst, ())) fun z12 =>
      .br (!decide (z12.fst < (0 : Int)))
       (.ob (Value.int IntKind.i64 a = Value.int IntKind.i64 a) <|
        .ob (Value.int IntKind.i64 m = Value.int IntKind.i64 m) <|
        .ob (Value.int IntKind.i64 b = Value.int IntKind.i64 b) <|
        .ob (enc Ty.page u.fst = enc Ty.page u.fst) <|
        .ob (Value.int IntKind.i64 (IntKind.i64.wrap ((IntKind.u64.wrap (IntKind.i64.wrap (a + b))).fdiv (2 : Int))) = Value.int IntKind.i64 (IntKind.i64.wrap ((IntKind.u64.wrap (IntKind.i64.wrap (a + b))).fdiv (2 : Int)))) <|
        .ob (Value.int IntKind.i64 (IntKind.i64.wrap (IntKind.i64.wrap ((IntKind.u64.wrap (IntKind.i64.wrap (a + b))).fdiv (2 : Int)) + m)) = Value.int IntKind.i64 (IntKind.i64.wrap (IntKind.i64.wrap ((IntKind.u64.wrap (IntKind.i64.wrap (a + b))).fdiv (2 : Int)) + m))) <|
        .ob (Value.int IntKind.i64 (IntKind.i64.wrap (IntKind.i64.wrap (IntKind.i64.wrap ((IntKind.u64.wrap (IntKind.i64.wrap (a + b))).fdiv (2 : Int)) + m) - (1 : Int))) = Value.int IntKind.i64 (IntKind.i64.wrap (IntKind.i64.wrap (IntKind.i64.wrap ((IntKind.u64.wrap (IntKind.i64.wrap (a + b))).fdiv (2 : Int)) + m) - (1 : Int)))) <|
        .ob (bk71 (IntKind.i64.wrap (IntKind.i64.wrap ((IntKind.u64.wrap (IntKind.i64.wrap (y71.fst + y71.snd.fst))).fdiv (2 : Int)) + (1 : Int)), (y71.snd.fst, (y71.snd.snd.fst, ())))) <|
        .ok)
       (.ob (Value.int IntKind.i64 a = Value.int IntKind.i64 a) <|
        .ob (Value.int IntKind.i64 m = Value.int IntKind.i64 m) <|
        .ob (Value.int IntKind.i64 b = Value.int IntKind.i64 b) <|
        .ob (enc Ty.page u.fst = enc Ty.page u.fst) <|
        .ob (Value.int IntKind.i64 (IntKind.i64.wrap ((IntKind.u64.wrap (IntKind.i64.wrap (a + b))).fdiv (2 : Int))) = Value.int IntKind.i64 (IntKind.i64.wrap ((IntKind.u64.wrap (IntKind.i64.wrap (a + b))).fdiv (2 : Int)))) <|
        .ob (Value.int IntKind.i64 (IntKind.i64.wrap (IntKind.i64.wrap ((IntKind.u64.wrap (IntKind.i64.wrap (a + b))).fdiv (2 : Int)) + m)) = Value.int IntKind.i64 (IntKind.i64.wrap (IntKind.i64.wrap ((IntKind.u64.wrap (IntKind.i64.wrap (a + b))).fdiv (2 : Int)) + m))) <|
        .ob (Value.int IntKind.i64 (IntKind.i64.wrap (IntKind.i64.wrap (IntKind.i64.wrap ((IntKind.u64.wrap (IntKind.i64.wrap (a + b))).fdiv (2 : Int)) + m) - (1 : Int))) = Value.int IntKind.i64 (IntKind.i64.wrap (IntKind.i64.wrap (IntKind.i64.wrap ((IntKind.u64.wrap (IntKind.i64.wrap (a + b))).fdiv (2 : Int)) + m) - (1 : Int)))) <|
        .ob (bk71 (y71.fst, (IntKind.i64.wrap ((IntKind.u64.wrap (IntKind.i64.wrap (y71.fst + y71.snd.fst))).fdiv (2 : Int)), (y71.snd.snd.fst, ())))) <|
        .ok))
     (.br (decide (y71.fst < m))
      (.br (decide (m < IntKind.i64.wrap (IntKind.i64.wrap (IntKind.i64.wrap ((IntKind.u64.wrap (IntKind.i64.wrap (a + b))).fdiv (2 : Int)) + m) - y71.fst)))
       (.ob (fRotR.pre (y71.snd.snd.fst, y71.fst, m, IntKind.i64.wrap (IntKind.i64.wrap (IntKind.i64.wrap ((IntKind.u64.wrap (IntKind.i64.wrap (a + b))).fdiv (2 : Int)) + m) - y71.fst), (u.fst, ()), ())) <|
        .lt (PUnit × List SRequest × PUnit) (fRotR.fn (y71.snd.snd.fst, y71.fst, m, IntKind.i64.wrap (IntKind.i64.wrap (IntKind.i64.wrap ((IntKind.u64.wrap (IntKind.i64.wrap (a + b))).fdiv (2 : Int)) + m) - y71.fst), (u.fst, ()), ())) fun z13 =>
        .br (decide (a < y71.fst))
         (.br (decide (y71.fst < IntKind.i64.wrap ((IntKind.u64.wrap (IntKind.i64.wrap (a + b))).fdiv (2 : Int))))
          (.ob (fSymM.pre (z13.snd.fst, a, y71.fst, IntKind.i64.wrap ((IntKind.u64.wrap (IntKind.i64.wrap (a + b))).fdiv (2 : Int)), (u.fst, ()), ()) ∧ mSymM (z13.snd.fst, a, y71.fst, IntKind.i64.wrap ((IntKind.u64.wrap (IntKind.i64.wrap (a + b))).fdiv (2 : Int)), (u.fst, ()), ()) < n0) <|
           .lt (PUnit × List SRequest × PUnit) (fSymM.fn (z13.snd.fst, a, y71.fst, IntKind.i64.wrap ((IntKind.u64.wrap (IntKind.i64.wrap (a + b))).fdiv (2 : Int)), (u.fst, ()), ())) fun z14 =>
           .br (decide (IntKind.i64.wrap ((IntKind.u64.wrap (IntKind.i64.wrap (a + b))).fdiv (2 : Int)) < IntKind.i64.wrap (IntKind.i64.wrap (IntKind.i64.wrap ((IntKind.u64.wrap (IntKind.i64.wrap (a + b))).fdiv (2 : Int)) + m) - y71.fst)))
            (.br (decide (IntKind.i64.wrap (IntKind.i64.wrap (IntKind.i64.wrap ((IntKind.u64.wrap (IntKind.i64.wrap (a + b))).fdiv (2 : Int)) + m) - y71.fst) < b))
             (.ob (fSymM.pre (z14.snd.fst, IntKind.i64.wrap ((IntKind.u64.wrap (IntKind.i64.wrap (a + b))).fdiv (2 : Int)), IntKind.i64.wrap (IntKind.i64.wrap (IntKind.i64.wrap ((IntKind.u64.wrap (IntKind.i64.wrap (a + b))).fdiv (2 : Int)) + m) - y71.fst), b, (u.fst, ()), ()) ∧ mSymM (z14.snd.fst, IntKind.i64.wrap ((IntKind.u64.wrap (IntKind.i64.wrap (a + b))).fdiv (2 : Int)), IntKind.i64.wrap (IntKind.i64.wrap (IntKind.i64.wrap ((IntKind.u64.wrap (IntKind.i64.wrap (a + b))).fdiv (2 : Int)) + m) - y71.fst), b, (u.fst, ()), ()) < n0) <|
              .lt (PUnit × List SRequest × PUnit) (fSymM.fn (z14.snd.fst, IntKind.i64.wrap ((IntKind.u64.wrap (IntKind.i64.wrap (a + b))).fdiv (2 : Int)), IntKind.i64.wrap (IntKind.i64.wrap (IntKind.i64.wrap ((IntKind.u64.wrap (IntKind.i64.wrap (a + b))).fdiv (2 : Int)) + m) - y71.fst), b, (u.fst, ()), ())) fun z15 =>
              GS.out fSymM ((()), (z15.snd.fst, ())))
             (GS.out fSymM ((()), (z14.snd.fst, ()))))
            (GS.out fSymM ((()), (z14.snd.fst, ()))))
          (.br (decide (IntKind.i64.wrap ((IntKind.u64.wrap (IntKind.i64.wrap (a + b))).fdiv (2 : Int)) < IntKind.i64.wrap (IntKind.i64.wrap (IntKind.i64.wrap ((IntKind.u64.wrap (IntKind.i64.wrap (a + b))).fdiv (2 : Int)) + m) - y71.fst)))
           (.br (decide (IntKind.i64.wrap (IntKind.i64.wrap (IntKind.i64.wrap ((IntKind.u64.wrap (IntKind.i64.wrap (a + b))).fdiv (2 : Int)) + m) - y71.fst) < b))
            (.ob (fSymM.pre (z13.snd.fst, IntKind.i64.wrap ((IntKind.u64.wrap (IntKind.i64.wrap (a + b))).fdiv (2 : Int)), IntKind.i64.wrap (IntKind.i64.wrap (IntKind.i64.wrap ((IntKind.u64.wrap (IntKind.i64.wrap (a + b))).fdiv (2 : Int)) + m) - y71.fst), b, (u.fst, ()), ()) ∧ mSymM (z13.snd.fst, IntKind.i64.wrap ((IntKind.u64.wrap (IntKind.i64.wrap (a + b))).fdiv (2 : Int)), IntKind.i64.wrap (IntKind.i64.wrap (IntKind.i64.wrap ((IntKind.u64.wrap (IntKind.i64.wrap (a + b))).fdiv (2 : Int)) + m) - y71.fst), b, (u.fst, ()), ()) < n0) <|
             .lt (PUnit × List SRequest × PUnit) (fSymM.fn (z13.snd.fst, IntKind.i64.wrap ((IntKind.u64.wrap (IntKind.i64.wrap (a + b))).fdiv (2 : Int)), IntKind.i64.wrap (IntKind.i64.wrap (IntKind.i64.wrap ((IntKind.u64.wrap (IntKind.i64.wrap (a + b))).fdiv (2 : Int)) + m) - y71.fst), b, (u.fst, ()), ())) fun z16 =>
             GS.out fSymM ((()), (z16.snd.fst, ())))
            (GS.out fSymM ((()), (z13.snd.fst, ()))))
           (GS.out fSymM ((()), (z13.snd.fst, ())))))
         (.br (decide (IntKind.i64.wrap ((IntKind.u64.wrap (IntKind.i64.wrap (a + b))).fdiv (2 : Int)) < IntKind.i64.wrap (IntKind.i64.wrap (IntKind.i64.wrap ((IntKind.u64.wrap (IntKind.i64.wrap (a + b))).fdiv (2 : Int)) + m) - y71.fst)))
          (.br (decide (IntKind.i64.wrap (IntKind.i64.wrap (IntKind.i64.wrap ((IntKind.u64.wrap (IntKind.i64.wrap (a + b))).fdiv (2 : Int)) + m) - y71.fst) < b))
           (.ob (fSymM.pre (z13.snd.fst, IntKind.i64.wrap ((IntKind.u64.wrap (IntKind.i64.wrap (a + b))).fdiv (2 : Int)), IntKind.i64.wrap (IntKind.i64.wrap (IntKind.i64.wrap ((IntKind.u64.wrap (IntKind.i64.wrap (a + b))).fdiv (2 : Int)) + m) - y71.fst), b, (u.fst, ()), ()) ∧ mSymM (z13.snd.fst, IntKind.i64.wrap ((IntKind.u64.wrap (IntKind.i64.wrap (a + b))).fdiv (2 : Int)), IntKind.i64.wrap (IntKind.i64.wrap (IntKind.i64.wrap ((IntKind.u64.wrap (IntKind.i64.wrap (a + b))).fdiv (2 : Int)) + m) - y71.fst), b, (u.fst, ()), ()) < n0) <|
            .lt (PUnit × List SRequest × PUnit) (fSymM.fn (z13.snd.fst, IntKind.i64.wrap ((IntKind.u64.wrap (IntKind.i64.wrap (a + b))).fdiv (2 : Int)), IntKind.i64.wrap (IntKind.i64.wrap (IntKind.i64.wrap ((IntKind.u64.wrap (IntKind.i64.wrap (a + b))).fdiv (2 : Int)) + m) - y71.fst), b, (u.fst, ()), ())) fun z17 =>
            GS.out fSymM ((()), (z17.snd.fst, ())))
           (GS.out fSymM ((()), (z13.snd.fst, ()))))
          (GS.out fSymM ((()), (z13.snd.fst, ())))))
       (.br (decide (a < y71.fst))
        (.br (decide (y71.fst < IntKind.i64.wrap ((IntKind.u64.wrap (IntKind.i64.wrap (a + b))).fdiv (2 : Int))))
         (.ob (fSymM.pre (y71.snd.snd.fst, a, y71.fst, IntKind.i64.wrap ((IntKind.u64.wrap (IntKind.i64.wrap (a + b))).fdiv (2 : Int)), (u.fst, ()), ()) ∧ mSymM (y71.snd.snd.fst, a, y71.fst, IntKind.i64.wrap ((IntKind.u64.wrap (IntKind.i64.wrap (a + b))).fdiv (2 : Int)), (u.fst, ()), ()) < n0) <|
          .lt (PUnit × List SRequest × PUnit) (fSymM.fn (y71.snd.snd.fst, a, y71.fst, IntKind.i64.wrap ((IntKind.u64.wrap (IntKind.i64.wrap (a + b))).fdiv (2 : Int)), (u.fst, ()), ())) fun z18 =>
          .br (decide (IntKind.i64.wrap ((IntKind.u64.wrap (IntKind.i64.wrap (a + b))).fdiv (2 : Int)) < IntKind.i64.wrap (IntKind.i64.wrap (IntKind.i64.wrap ((IntKind.u64.wrap (IntKind.i64.wrap (a + b))).fdiv (2 : Int)) + m) - y71.fst)))
           (.br (decide (IntKind.i64.wrap (IntKind.i64.wrap (IntKind.i64.wrap ((IntKind.u64.wrap (IntKind.i64.wrap (a + b))).fdiv (2 : Int)) + m) - y71.fst) < b))
            (.ob (fSymM.pre (z18.snd.fst, IntKind.i64.wrap ((IntKind.u64.wrap (IntKind.i64.wrap (a + b))).fdiv (2 : Int)), IntKind.i64.wrap (IntKind.i64.wrap (IntKind.i64.wrap ((IntKind.u64.wrap (IntKind.i64.wrap (a + b))).fdiv (2 : Int)) + m) - y71.fst), b, (u.fst, ()), ()) ∧ mSymM (z18.snd.fst, IntKind.i64.wrap ((IntKind.u64.wrap (IntKind.i64.wrap (a + b))).fdiv (2 : Int)), IntKind.i64.wrap (IntKind.i64.wrap (IntKind.i64.wrap ((IntKind.u64.wrap (IntKind.i64.wrap (a + b))).fdiv (2 : Int)) + m) - y71.fst), b, (u.fst, ()), ()) < n0) <|
             .lt (PUnit × List SRequest × PUnit) (fSymM.fn (z18.snd.fst, IntKind.i64.wrap ((IntKind.u64.wrap (IntKind.i64.wrap (a + b))).fdiv (2 : Int)), IntKind.i64.wrap (IntKind.i64.wrap (IntKind.i64.wrap ((IntKind.u64.wrap (IntKind.i64.wrap (a + b))).fdiv (2 : Int)) + m) - y71.fst), b, (u.fst, ()), ())) fun z19 =>
             GS.out fSymM ((()), (z19.snd.fst, ())))
            (GS.out fSymM ((()), (z18.snd.fst, ()))))
           (GS.out fSymM ((()), (z18.snd.fst, ()))))
         (.br (decide (IntKind.i64.wrap ((IntKind.u64.wrap (IntKind.i64.wrap (a + b))).fdiv (2 : Int)) < IntKind.i64.wrap (IntKind.i64.wrap (IntKind.i64.wrap ((IntKind.u64.wrap (IntKind.i64.wrap (a + b))).fdiv (2 : Int)) + m) - y71.fst)))
          (.br (decide (IntKind.i64.wrap (IntKind.i64.wrap (IntKind.i64.wrap ((IntKind.u64.wrap (IntKind.i64.wrap (a + b))).fdiv (2 : Int)) + m) - y71.fst) < b))
           (.ob (fSymM.pre (y71.snd.snd.fst, IntKind.i64.wrap ((IntKind.u64.wrap (IntKind.i64.wrap (a + b))).fdiv (2 : Int)), IntKind.i64.wrap (IntKind.i64.wrap (IntKind.i64.wrap ((IntKind.u64.wrap (IntKind.i64.wrap (a + b))).fdiv (2 : Int)) + m) - y71.fst), b, (u.fst, ()), ()) ∧ mSymM (y71.snd.snd.fst, IntKind.i64.wrap ((IntKind.u64.wrap (IntKind.i64.wrap (a + b))).fdiv (2 : Int)), IntKind.i64.wrap (IntKind.i64.wrap (IntKind.i64.wrap ((IntKind.u64.wrap (IntKind.i64.wrap (a + b))).fdiv (2 : Int)) + m) - y71.fst), b, (u.fst, ()), ()) < n0) <|
            .lt (PUnit × List SRequest × PUnit) (fSymM.fn (y71.snd.snd.fst, IntKind.i64.wrap ((IntKind.u64.wrap (IntKind.i64.wrap (a + b))).fdiv (2 : Int)), IntKind.i64.wrap (IntKind.i64.wrap (IntKind.i64.wrap ((IntKind.u64.wrap (IntKind.i64.wrap (a + b))).fdiv (2 : Int)) + m) - y71.fst), b, (u.fst, ()), ())) fun z20 =>
            GS.out fSymM ((()), (z20.snd.fst, ())))
           (GS.out fSymM ((()), (y71.snd.snd.fst, ()))))
          (GS.out fSymM ((()), (y71.snd.snd.fst, ())))))
        (.br (decide (IntKind.i64.wrap ((IntKind.u64.wrap (IntKind.i64.wrap (a + b))).fdiv (2 : Int)) < IntKind.i64.wrap (IntKind.i64.wrap (IntKind.i64.wrap ((IntKind.u64.wrap (IntKind.i64.wrap (a + b))).fdiv (2 : Int)) + m) - y71.fst)))
         (.br (decide (IntKind.i64.wrap (IntKind.i64.wrap (IntKind.i64.wrap ((IntKind.u64.wrap (IntKind.i64.wrap (a + b))).fdiv (2 : Int)) + m) - y71.fst) < b))
          (.ob (fSymM.pre (y71.snd.snd.fst, IntKind.i64.wrap ((IntKind.u64.wrap (IntKind.i64.wrap (a + b))).fdiv (2 : Int)), IntKind.i64.wrap (IntKind.i64.wrap (IntKind.i64.wrap ((IntKind.u64.wrap (IntKind.i64.wrap (a + b))).fdiv (2 : Int)) + m) - y71.fst), b, (u.fst, ()), ()) ∧ mSymM (y71.snd.snd.fst, IntKind.i64.wrap ((IntKind.u64.wrap (IntKind.i64.wrap (a + b))).fdiv (2 : Int)), IntKind.i64.wrap (IntKind.i64.wrap (IntKind.i64.wrap ((IntKind.u64.wrap (IntKind.i64.wrap (a + b))).fdiv (2 : Int)) + m) - y71.fst), b, (u.fst, ()), ()) < n0) <|
           .lt (PUnit × List SRequest × PUnit) (fSymM.fn (y71.snd.snd.fst, IntKind.i64.wrap ((IntKind.u64.wrap (IntKind.i64.wrap (a + b))).fdiv (2 : Int)), IntKind.i64.wrap (IntKind.i64.wrap (IntKind.i64.wrap ((IntKind.u64.wrap (IntKind.i64.wrap (a + b))).fdiv (2 : Int)) + m) - y71.fst), b, (u.fst, ()), ())) fun z21 =>
           GS.out fSymM ((()), (z21.snd.fst, ())))
          (GS.out fSymM ((()), (y71.snd.snd.fst, ()))))
         (GS.out fSymM ((()), (y71.snd.snd.fst, ()))))))
      (.br (decide (a < y71.fst))
       (.br (decide (y71.fst < IntKind.i64.wrap ((IntKind.u64.wrap (IntKind.i64.wrap (a + b))).fdiv (2 : Int))))
        (.ob (fSymM.pre (y71.snd.snd.fst, a, y71.fst, IntKind.i64.wrap ((IntKind.u64.wrap (IntKind.i64.wrap (a + b))).fdiv (2 : Int)), (u.fst, ()), ()) ∧ mSymM (y71.snd.snd.fst, a, y71.fst, IntKind.i64.wrap ((IntKind.u64.wrap (IntKind.i64.wrap (a + b))).fdiv (2 : Int)), (u.fst, ()), ()) < n0) <|
         .lt (PUnit × List SRequest × PUnit) (fSymM.fn (y71.snd.snd.fst, a, y71.fst, IntKind.i64.wrap ((IntKind.u64.wrap (IntKind.i64.wrap (a + b))).fdiv (2 : Int)), (u.fst, ()), ())) fun z22 =>
         .br (decide (IntKind.i64.wrap ((IntKind.u64.wrap (IntKind.i64.wrap (a + b))).fdiv (2 : Int)) < IntKind.i64.wrap (IntKind.i64.wrap (IntKind.i64.wrap ((IntKind.u64.wrap (IntKind.i64.wrap (a + b))).fdiv (2 : Int)) + m) - y71.fst)))
          (.br (decide (IntKind.i64.wrap (IntKind.i64.wrap (IntKind.i64.wrap ((IntKind.u64.wrap (IntKind.i64.wrap (a + b))).fdiv (2 : Int)) + m) - y71.fst) < b))
           (.ob (fSymM.pre (z22.snd.fst, IntKind.i64.wrap ((IntKind.u64.wrap (IntKind.i64.wrap (a + b))).fdiv (2 : Int)), IntKind.i64.wrap (IntKind.i64.wrap (IntKind.i64.wrap ((IntKind.u64.wrap (IntKind.i64.wrap (a + b))).fdiv (2 : Int)) + m) - y71.fst), b, (u.fst, ()), ()) ∧ mSymM (z22.snd.fst, IntKind.i64.wrap ((IntKind.u64.wrap (IntKind.i64.wrap (a + b))).fdiv (2 : Int)), IntKind.i64.wrap (IntKind.i64.wrap (IntKind.i64.wrap ((IntKind.u64.wrap (IntKind.i64.wrap (a + b))).fdiv (2 : Int)) + m) - y71.fst), b, (u.fst, ()), ()) < n0) <|
            .lt (PUnit × List SRequest × PUnit) (fSymM.fn (z22.snd.fst, IntKind.i64.wrap ((IntKind.u64.wrap (IntKind.i64.wrap (a + b))).fdiv (2 : Int)), IntKind.i64.wrap (IntKind.i64.wrap (IntKind.i64.wrap ((IntKind.u64.wrap (IntKind.i64.wrap (a + b))).fdiv (2 : Int)) + m) - y71.fst), b, (u.fst, ()), ())) fun z23 =>
            GS.out fSymM ((()), (z23.snd.fst, ())))
           (GS.out fSymM ((()), (z22.snd.fst, ()))))
          (GS.out fSymM ((()), (z22.snd.fst, ()))))
        (.br (decide (IntKind.i64.wrap ((IntKind.u64.wrap (IntKind.i64.wrap (a + b))).fdiv (2 : Int)) < IntKind.i64.wrap (IntKind.i64.wrap (IntKind.i64.wrap ((IntKind.u64.wrap (IntKind.i64.wrap (a + b))).fdiv (2 : Int)) + m) - y71.fst)))
         (.br (decide (IntKind.i64.wrap (IntKind.i64.wrap (IntKind.i64.wrap ((IntKind.u64.wrap (IntKind.i64.wrap (a + b))).fdiv (2 : Int)) + m) - y71.fst) < b))
          (.ob (fSymM.pre (y71.snd.snd.fst, IntKind.i64.wrap ((IntKind.u64.wrap (IntKind.i64.wrap (a + b))).fdiv (2 : Int)), IntKind.i64.wrap (IntKind.i64.wrap (IntKind.i64.wrap ((IntKind.u64.wrap (IntKind.i64.wrap (a + b))).fdiv (2 : Int)) + m) - y71.fst), b, (u.fst, ()), ()) ∧ mSymM (y71.snd.snd.fst, IntKind.i64.wrap ((IntKind.u64.wrap (IntKind.i64.wrap (a + b))).fdiv (2 : Int)), IntKind.i64.wrap (IntKind.i64.wrap (IntKind.i64.wrap ((IntKind.u64.wrap (IntKind.i64.wrap (a + b))).fdiv (2 : Int)) + m) - y71.fst), b, (u.fst, ()), ()) < n0) <|
           .lt (PUnit × List SRequest × PUnit) (fSymM.fn (y71.snd.snd.fst, IntKind.i64.wrap ((IntKind.u64.wrap (IntKind.i64.wrap (a + b))).fdiv (2 : Int)), IntKind.i64.wrap (IntKind.i64.wrap (IntKind.i64.wrap ((IntKind.u64.wrap (IntKind.i64.wrap (a + b))).fdiv (2 : Int)) + m) - y71.fst), b, (u.fst, ()), ())) fun z24 =>
           GS.out fSymM ((()), (z24.snd.fst, ())))
          (GS.out fSymM ((()), (y71.snd.snd.fst, ()))))
         (GS.out fSymM ((()), (y71.snd.snd.fst, ())))))
       (.br (decide (IntKind.i64.wrap ((IntKind.u64.wrap (IntKind.i64.wrap (a + b))).fdiv (2 : Int)) < IntKind.i64.wrap (IntKind.i64.wrap (IntKind.i64.wrap ((IntKind.u64.wrap (IntKind.i64.wrap (a + b))).fdiv (2 : Int)) + m) - y71.fst)))
        (.br (decide (IntKind.i64.wrap (IntKind.i64.wrap (IntKind.i64.wrap ((IntKind.u64.wrap (IntKind.i64.wrap (a + b))).fdiv (2 : Int)) + m) - y71.fst) < b))
         (.ob (fSymM.pre (y71.snd.snd.fst, IntKind.i64.wrap ((IntKind.u64.wrap (IntKind.i64.wrap (a + b))).fdiv (2 : Int)), IntKind.i64.wrap (IntKind.i64.wrap (IntKind.i64.wrap ((IntKind.u64.wrap (IntKind.i64.wrap (a + b))).fdiv (2 : Int)) + m) - y71.fst), b, (u.fst, ()), ()) ∧ mSymM (y71.snd.snd.fst, IntKind.i64.wrap ((IntKind.u64.wrap (IntKind.i64.wrap (a + b))).fdiv (2 : Int)), IntKind.i64.wrap (IntKind.i64.wrap (IntKind.i64.wrap ((IntKind.u64.wrap (IntKind.i64.wrap (a + b))).fdiv (2 : Int)) + m) - y71.fst), b, (u.fst, ()), ()) < n0) <|
          .lt (PUnit × List SRequest × PUnit) (fSymM.fn (y71.snd.snd.fst, IntKind.i64.wrap ((IntKind.u64.wrap (IntKind.i64.wrap (a + b))).fdiv (2 : Int)), IntKind.i64.wrap (IntKind.i64.wrap (IntKind.i64.wrap ((IntKind.u64.wrap (IntKind.i64.wrap (a + b))).fdiv (2 : Int)) + m) - y71.fst), b, (u.fst, ()), ())) fun z25 =>
          GS.out fSymM ((()), (z25.snd.fst, ())))
         (GS.out fSymM ((()), (y71.snd.snd.fst, ()))))
        (GS.out fSymM ((()), (y71.snd.snd.fst, ())))))))
   (lpx (W_slices_symMergeCmpFunc_impl_Request_fSymM_33 l a m b u) (a, (m, (l, ()))) fun (y121 : Int × Int × List SRequest × PUnit) bk121 =>
    .br (decide (y121.fst < y121.snd.fst))
     (.ob ((0 : Int) ≤ (1 : Int)) <|
      .ob ((0 : Int) ≤ IntKind.i64.wrap (IntKind.i64.wrap (IntKind.i64.wrap (IntKind.i64.wrap ((IntKind.u64.wrap (IntKind.i64.wrap (a + b))).fdiv (2 : Int)) + m) - (1 : Int)) - IntKind.i64.wrap ((IntKind.u64.wrap (IntKind.i64.wrap (y121.fst + y121.snd.fst))).fdiv (2 : Int))) ∧ IntKind.i64.wrap (IntKind.i64.wrap (IntKind.i64.wrap (IntKind.i64.wrap ((IntKind.u64.wrap (IntKind.i64.wrap (a + b))).fdiv (2 : Int)) + m) - (1 : Int)) - IntKind.i64.wrap ((IntKind.u64.wrap (IntKind.i64.wrap (y121.fst + y121.snd.fst))).fdiv (2 : Int))) < (↑y121.snd.snd.fst.length : Int)) <|
      .ob ((IntKind.i64.wrap (IntKind.i64.wrap (IntKind.i64.wrap (IntKind.i64.wrap ((IntKind.u64.wrap (IntKind.i64.wrap (a + b))).fdiv (2 : Int)) + m) - (1 : Int)) - IntKind.i64.wrap ((IntKind.u64.wrap (IntKind.i64.wrap (y121.fst + y121.snd.fst))).fdiv (2 : Int)))).toNat < y121.snd.snd.fst.length) <|
      .ob ((0 : Int) ≤ IntKind.i64.wrap ((IntKind.u64.wrap (IntKind.i64.wrap (y121.fst + y121.snd.fst))).fdiv (2 : Int)) ∧ IntKind.i64.wrap ((IntKind.u64.wrap (IntKind.i64.wrap (y121.fst + y121.snd.fst))).fdiv (2 : Int)) < (↑y121.snd.snd.fst.length : Int)) <|
      .ob ((IntKind.i64.wrap ((IntKind.u64.wrap (IntKind.i64.wrap (y121.fst + y121.snd.fst))).fdiv (2 : Int))).toNat < y121.snd.snd.fst.length) <|
      .ob (fSortReq1.pre (y121.snd.snd.fst.getD (IntKind.i64.wrap (IntKind.i64.wrap (IntKind.i64.wrap (IntKind.i64.wrap ((IntKind.u64.wrap (IntKind.i64.wrap (a + b))).fdiv (2 : Int)) + m) - (1 : Int)) - IntKind.i64.wrap ((IntKind.u64.wrap (IntKind.i64.wrap (y121.fst + y121.snd.fst))).fdiv (2 : Int)))).toNat default, y121.snd.snd.fst.getD (IntKind.i64.wrap ((IntKind.u64.wrap (IntKind.i64.wrap (y121.fst + y121.snd.fst))).fdiv (2 : Int))).toNat default, u.fst, ())) <|
      .lt (Int × PUnit) (fSortReq1.fn (y121.snd.snd.fst.getD (IntKind.i64.wrap (IntKind.i64.wrap (IntKind.i64.wrap (IntKind.i64.wrap ((IntKind.u64.wrap (IntKind.i64.wrap (a + b))).fdiv (2 : Int)) + m) - (1 : Int)) - IntKind.i64.wrap ((IntKind.u64.wrap (IntKind.i64.wrap (y121.fst + y121.snd.fst))).fdiv (2 : Int)))).toNat default, y121.snd.snd.fst.getD (IntKind.i64.wrap ((IntKind.u64.wrap (IntKind.i64.wrap (y121.fst + y121.snd.fst))).fdiv (2 : Int))).toNat default, u.fst, ())) fun z26 =>
      .br (!decide (z26.fst < (0 : Int)))
       (.ob (Value.int IntKind.i64 a = Value.int IntKind.i64 a) <|
        .ob (Value.int IntKind.i64 m = Value.int IntKind.i64 m) <|
        .ob (Value.int IntKind.i64 b = Value.int IntKind.i64 b) <|
        .ob (enc Ty.page u.fst = enc Ty.page u.fst) <|
        .ob (Value.int IntKind.i64 (IntKind.i64.wrap ((IntKind.u64.wrap (IntKind.i64.wrap (a + b))).fdiv (2 : Int))) = Value.int IntKind.i64 (IntKind.i64.wrap ((IntKind.u64.wrap (IntKind.i64.wrap (a + b))).fdiv (2 : Int)))) <|
        .ob (Value.int IntKind.i64 (IntKind.i64.wrap (IntKind.i64.wrap ((IntKind.u64.wrap (IntKind.i64.wrap (a + b))).fdiv (2 : Int)) + m)) = Value.int IntKind.i64 (IntKind.i64.wrap (IntKind.i64.wrap ((IntKind.u64.wrap (IntKind.i64.wrap (a + b))).fdiv (2 : Int)) + m))) <|
        .ob (Value.int IntKind.i64 (IntKind.i64.wrap (IntKind.i64.wrap (IntKind.i64.wrap ((IntKind.u64.wrap (IntKind.i64.wrap (a + b))).fdiv (2 : Int)) + m) - (1 : Int))) = Value.int IntKind.i64 (IntKind.i64.wrap (IntKind.i64.wrap (IntKind.i64.wrap ((IntKind.u64.wrap (IntKind.i64.wrap (a + b))).fdiv (2 : Int)) + m) - (1 : Int)))) <|
        .ob (bk121 (IntKind.i64.wrap (IntKind.i64.wrap ((IntKind.u64.wrap (IntKind.i64.wrap (y121.fst + y121.snd.fst))).fdiv (2 : Int)) + (1 : Int)), (y121.snd.fst, (y121.snd.snd.fst, ())))) <|
        .ok)
       (.ob (Value.int IntKind.i64 a = Value.int IntKind.i64 a) <|
        .ob (Value.int IntKind.i64 m = Value.int IntKind.i64 m) <|
        .ob (Value.int IntKind.i64 b = Value.int IntKind.i64 b) <|
        .ob (enc Ty.page u.fst = enc Ty.page u.fst) <|
        .ob (Value.int IntKind.i64 (IntKind.i64.wrap ((IntKind.u64.wrap (IntKind.i64.wrap (a + b))).fdiv (2 : Int))) = Value.int IntKind.i64 (IntKind.i64.wrap ((IntKind.u64.wrap (IntKind.i64.wrap (a + b))).fdiv (2 : Int)))) <|
        .ob (Value.int IntKind.i64 (IntKind.i64.wrap (IntKind.i64.wrap ((IntKind.u64.wrap (IntKind.i64.wrap (a + b))).fdiv (2 : Int)) + m)) = Value.int IntKind.i64 (IntKind.i64.wrap (IntKind.i64.wrap ((IntKind.u64.wrap (IntKind.i64.wrap (a + b))).fdiv (2 : Int)) + m))) <|
        .ob (Value.int IntKind.i64 (IntKind.i64.wrap (IntKind.i64.wrap (IntKind.i64.wrap ((IntKind.u64.wrap (IntKind.i64.wrap (a + b))).fdiv (2 : Int)) + m) - (1 : Int))) = Value.int IntKind.i64 (IntKind.i64.wrap (IntKind.i64.wrap (IntKind.i64.wrap ((IntKind.u64.wrap (IntKind.i64.wrap (a + b))).fdiv (2 : Int)) + m) - (1 : Int)))) <|
        .ob (bk121 (y121.fst, (IntKind.i64.wrap ((IntKind.u64.wrap (IntKind.i64.wrap (y121.fst + y121.snd.fst))).fdiv (2 : Int)), (y121.snd.snd.fst, ())))) <|
        .ok))
     (.br (decide (y121.fst < m))
      (.br (decide (m < IntKind.i64.wrap (IntKind.i64.wrap (IntKind.i64.wrap ((IntKind.u64.wrap (IntKind.i64.wrap (a + b))).fdiv (2 : Int)) + m) - y121.fst)))
       (.ob (fRotR.pre (y121.snd.snd.fst, y121.fst, m, IntKind.i64.wrap (IntKind.i64.wrap (IntKind.i64.wrap ((IntKind.u64.wrap (IntKind.i64.wrap (a + b))).fdiv (2 : Int)) + m) - y121.fst), (u.fst, ()), ())) <|
        .lt (PUnit × List SRequest × PUnit) (fRotR.fn (y121.snd.snd.fst, y121.fst, m, IntKind.i64.wrap (IntKind.i64.wrap (IntKind.i64.wrap ((IntKind.u64.wrap (IntKind.i64.wrap (a + b))).fdiv (2 : Int)) + m) - y121.fst), (u.fst, ()), ())) fun z27 =>
        .br (decide (a < y121.fst))
         (.br (decide (y121.fst < IntKind.i64.wrap ((IntKind.u64.wrap (IntKind.i64.wrap (a + b))).fdiv (2 : Int))))
          (.ob (fSymM.pre (z27.snd.fst, a, y121.fst, IntKind.i64.wrap ((IntKind.u64.wrap (IntKind.i64.wrap (a + b))).fdiv (2 : Int)), (u.fst, ()), ()) ∧ mSymM (z27.snd.fst, a, y121.fst, IntKind.i64.wrap ((IntKind.u64.wrap (IntKind.i64.wrap (a + b))).fdiv (2 : Int)), (u.fst, ()), ()) < n0) <|
           .lt (PUnit × List SRequest × PUnit) (fSymM.fn (z27.snd.fst, a, y121.fst, IntKind.i64.wrap ((IntKind.u64.wrap (IntKind.i64.wrap (a + b))).fdiv (2 : Int)), (u.fst, ()), ())) fun z28 =>
           .br (decide (IntKind.i64.wrap ((IntKind.u64.wrap (IntKind.i64.wrap (a + b))).fdiv (2 : Int)) < IntKind.i64.wrap (IntKind.i64.wrap (IntKind.i64.wrap ((IntKind.u64.wrap (IntKind.i64.wrap (a + b))).fdiv (2 : Int)) + m) - y121.fst)))
            (.br (decide (IntKind.i64.wrap (IntKind.i64.wrap (IntKind.i64.wrap ((IntKind.u64.wrap (IntKind.i64.wrap (a + b))).fdiv (2 : Int)) + m) - y121.fst) < b))
             (.ob (fSymM.pre (z28.snd.fst, IntKind.i64.wrap ((IntKind.u64.wrap (IntKind.i64.wrap (a + b))).fdiv (2 : Int)), IntKind.i64.wrap (IntKind.i64.wrap (IntKind.i64.wrap ((IntKind.u64.wrap (IntKind.i64.wrap (a + b))).fdiv (2 : Int)) + m) - y121.fst), b, (u.fst, ()), ()) ∧ mSymM (z28.snd.fst, IntKind.i64.wrap ((IntKind.u64.wrap (IntKind.i64.wrap (a + b))).fdiv (2 : Int)), IntKind.i64.wrap (IntKind.i64.wrap (IntKind.i64.wrap ((IntKind.u64.wrap (IntKind.i64.wrap (a + b))).fdiv (2 : Int)) + m) - y121.fst), b, (u.fst, ()), ()) < n0) <|
              .lt (PUnit × List SRequest × PUnit) (fSymM.fn (z28.snd.fst, IntKind.i64.wrap ((IntKind.u64.wrap (IntKind.i64.wrap (a + b))).fdiv (2 : Int)), IntKind.i64.wrap (IntKind.i64.wrap (IntKind.i64.wrap ((IntKind.u64.wrap (IntKind.i64.wrap (a + b))).fdiv (2 : Int)) + m) - y121.fst), b, (u.fst, ()), ())) fun z29 =>
              GS.out fSymM ((()), (z29.snd.fst, ())))
             (GS.out fSymM ((()), (z28.snd.fst, ()))))
            (GS.out fSymM ((()), (z28.snd.fst, ()))))
          (.br (decide (IntKind.i64.wrap ((IntKind.u64.wrap (IntKind.i64.wrap (a + b))).fdiv (2 : Int)) < IntKind.i64.wrap (IntKind.i64.wrap (IntKind.i64.wrap ((IntKind.u64.wrap (IntKind.i64.wrap (a + b))).fdiv (2 : Int)) + m) - y121.fst)))
           (.br (decide (IntKind.i64.wrap (IntKind.i64.wrap (IntKind.i64.wrap ((IntKind.u64.wrap (IntKind.i64.wrap (a + b))).fdiv (2 : Int)) + m) - y121.fst) < b))
            (.ob (fSymM.pre (z27.snd.fst, IntKind.i64.wrap ((IntKind.u64.wrap (IntKind.i64.wrap (a + b))).fdiv (2 : Int)), IntKind.i64.wrap (IntKind.i64.wrap (IntKind.i64.wrap ((IntKind.u64.wrap (IntKind.i64.wrap (a + b))).fdiv (2 : Int)) + m) - y121.fst), b, (u.fst, ()), ()) ∧ mSymM (z27.snd.fst, IntKind.i64.wrap ((IntKind.u64.wrap (IntKind.i64.wrap (a + b))).fdiv (2 : Int)), IntKind.i64.wrap (IntKind.i64.wrap (IntKind.i64.wrap ((IntKind.u64.wrap (IntKind.i64.wrap (a + b))).fdiv (2 : Int)) + m) - y121.fst), b, (u.fst, ()), ()) < n0) <|
             .lt (PUnit × List SRequest × PUnit) (fSymM.fn (z27.snd.fst, IntKind.i64.wrap ((IntKind.u64.wrap (IntKind.i64.wrap (a + b))).fdiv (2 : Int)), IntKind.i64.wrap (IntKind.i64.wrap (IntKind.i64.wrap ((IntKind.u64.wrap (IntKind.i64.wrap (a + b))).fdiv (2 : Int)) + m) - y121.fst), b, (u.fst, ()), ())) fun z30 =>
             GS.out fSymM ((()), (z30.snd.fst, ())))
            (GS.out fSymM ((()), (z27.snd.fst, ()))))
           (GS.out fSymM ((()), (z27.snd.fst, ())))))
         (.br (decide (IntKind.i64.wrap ((IntKind.u64.wrap (IntKind.i64.wrap (a + b))).fdiv (2 : Int)) < IntKind.i64.wrap (IntKind.i64.wrap (IntKind.i64.wrap ((IntKind.u64.wrap (IntKind.i64.wrap (a + b))).fdiv (2 : Int)) + m) - y121.fst)))
          (.br (decide (IntKind.i64.wrap (IntKind.i64.wrap (IntKind.i64.wrap ((IntKind.u64.wrap (IntKind.i64.wrap (a + b))).fdiv (2 : Int)) + m) - y121.fst) < b))
           (.ob (fSymM.pre (z27.snd.fst, IntKind.i64.wrap ((IntKind.u64.wrap (IntKind.i64.wrap (a + b))).fdiv (2 : Int)), IntKind.i64.wrap (IntKind.i64.wrap (IntKind.i64.wrap ((IntKind.u64.wrap (IntKind.i64.wrap (a + b))).fdiv (2 : Int)) + m) - y121.fst), b, (u.fst, ()), ()) ∧ mSymM (z27.snd.fst, IntKind.i64.wrap ((IntKind.u64.wrap (IntKind.i64.wrap (a + b))).fdiv (2 : Int)), IntKind.i64.wrap (IntKind.i64.wrap (IntKind.i64.wrap ((IntKind.u64.wrap (IntKind.i64.wrap (a + b))).fdiv (2 : Int)) + m) - y121.fst), b, (u.fst, ()), ()) < n0) <|
            .lt (PUnit × List SRequest × PUnit) (fSymM.fn (z27.snd.fst, IntKind.i64.wrap ((IntKind.u64.wrap (IntKind.i64.wrap (a + b))).fdiv (2 : Int)), IntKind.i64.wrap (IntKind.i64.wrap (IntKind.i64.wrap ((IntKind.u64.wrap (IntKind.i64.wrap (a + b))).fdiv (2 : Int)) + m) - y121.fst), b, (u.fst, ()), ())) fun z31 =>
            GS.out fSymM ((()), (z31.snd.fst, ())))
           (GS.out fSymM ((()), (z27.snd.fst, ()))))
          (GS.out fSymM ((()), (z27.snd.fst, ())))))
       (.br (decide (a < y121.fst))
        (.br (decide (y121.fst < IntKind.i64.wrap ((IntKind.u64.wrap (IntKind.i64.wrap (a + b))).fdiv (2 : Int))))
         (.ob (fSymM.pre (y121.snd.snd.fst, a, y121.fst, IntKind.i64.wrap ((IntKind.u64.wrap (IntKind.i64.wrap (a + b))).fdiv (2 : Int)), (u.fst, ()), ()) ∧ mSymM (y121.snd.snd.fst, a, y121.fst, IntKind.i64.wrap ((IntKind.u64.wrap (IntKind.i64.wrap (a + b))).fdiv (2 : Int)), (u.fst, ()), ()) < n0) <|
          .lt (PUnit × List SRequest × PUnit) (fSymM.fn (y121.snd.snd.fst, a, y121.fst, IntKind.i64.wrap ((IntKind.u64.wrap (IntKind.i64.wrap (a + b))).fdiv (2 : Int)), (u.fst, ()), ())) fun z32 =>
          .br (decide (IntKind.i64.wrap ((IntKind.u64.wrap (IntKind.i64.wrap (a + b))).fdiv (2 : Int)) < IntKind.i64.wrap (IntKind.i64.wrap (IntKind.i64.wrap ((IntKind.u64.wrap (IntKind.i64.wrap (a + b))).fdiv (2 : Int)) + m) - y121.fst)))
           (.br (decide (IntKind.i64.wrap (IntKind.i64.wrap (IntKind.i64.wrap ((IntKind.u64.wrap (IntKind.i64.wrap (a + b))).fdiv (2 : Int)) + m) - y121.fst) < b))
            (.ob (fSymM.pre (z32.snd.fst, IntKind.i64.wrap ((IntKind.u64.wrap (IntKind.i64.wrap (a + b))).fdiv (2 : Int)), IntKind.i64.wrap (IntKind.i64.wrap (IntKind.i64.wrap ((IntKind.u64.wrap (IntKind.i64.wrap (a + b))).fdiv (2 : Int)) + m) - y121.fst), b, (u.fst, ()), ()) ∧ mSymM (z32.snd.fst, IntKind.i64.wrap ((IntKind.u64.wrap (IntKind.i64.wrap (a + b))).fdiv (2 : Int)), IntKind.i64.wrap (IntKind.i64.wrap (IntKind.i64.wrap ((IntKind.u64.wrap (IntKind.i64.wrap (a + b))).fdiv (2 : Int)) + m) - y121.fst), b, (u.fst, ()), ()) < n0) <|
             .lt (PUnit × List SRequest × PUnit) (fSymM.fn (z32.snd.fst, IntKind.i64.wrap ((IntKind.u64.wrap (IntKind.i64.wrap (a + b))).fdiv (2 : Int)), IntKind.i64.wrap (IntKind.i64.wrap (IntKind.i64.wrap ((IntKind.u64.wrap (IntKind.i64.wrap (a + b))).fdiv (2 : Int)) + m) - y121.fst), b, (u.fst, ()), ())) fun z33 =>
             GS.out fSymM ((()), (z33.snd.fst, ())))
            (GS.out fSymM ((()), (z32.snd.fst, ()))))
           (GS.out fSymM ((()), (z32.snd.fst, ()))))
         (.br (decide (IntKind.i64.wrap ((IntKind.u64.wrap (IntKind.i64.wrap (a + b))).fdiv (2 : Int)) < IntKind.i64.wrap (IntKind.i64.wrap (IntKind.i64.wrap ((IntKind.u64.wrap (IntKind.i64.wrap (a + b))).fdiv (2 : Int)) + m) - y121.fst)))
          (.br (decide (IntKind.i64.wrap (IntKind.i64.wrap (IntKind.i64.wrap ((IntKind.u64.wrap (IntKind.i64.wrap (a + b))).fdiv (2 : Int)) + m) - y121.fst) < b))
           (.ob (fSymM.pre (y121.snd.snd.fst, IntKind.i64.wrap ((IntKind.u64.wrap (IntKind.i64.wrap (a + b))).fdiv (2 : Int)), IntKind.i64.wrap (IntKind.i64.wrap (IntKind.i64.wrap ((IntKind.u64.wrap (IntKind.i64.wrap (a + b))).fdiv (2 : Int)) + m) - y121.fst), b, (u.fst, ()), ()) ∧ mSymM (y121.snd.snd.fst, IntKind.i64.wrap ((IntKind.u64.wrap (IntKind.i64.wrap (a + b))).fdiv (2 : Int)), IntKind.i64.wrap (IntKind.i64.wrap (IntKind.i64.wrap ((IntKind.u64.wrap (IntKind.i64.wrap (a + b))).fdiv (2 : Int)) + m) - y121.fst), b, (u.fst, ()), ()) < n0) <|
            .lt (PUnit × List SRequest × PUnit) (fSymM.fn (y121.snd.snd.fst, IntKind.i64.wrap ((IntKind.u64.wrap (IntKind.i64.wrap (a + b))).fdiv (2 : Int)), IntKind.i64.wrap (IntKind.i64.wrap (IntKind.i64.wrap ((IntKind.u64.wrap (IntKind.i64.wrap (a + b))).fdiv (2 : Int)) + m) - y121.fst), b, (u.fst, ()), ())) fun z34 =>
            GS.out fSymM ((()), (z34.snd.fst, ())))
           (GS.out fSymM ((()), (y121.snd.snd.fst, ()))))
          (GS.out fSymM ((()), (y121.snd.snd.fst, ())))))
        (.br (decide (IntKind.i64.wrap ((IntKind.u64.wrap (IntKind.i64.wrap (a + b))).fdiv (2 : Int)) < IntKind.i64.wrap (IntKind.i64.wrap (IntKind.i64.wrap ((IntKind.u64.wrap (IntKind.i64.wrap (a + b))).fdiv (2 : Int)) + m) - y121.fst)))
         (.br (decide (IntKind.i64.wrap (IntKind.i64.wrap (IntKind.i64.wrap ((IntKind.u64.wrap (IntKind.i64.wrap (a + b))).fdiv (2 : Int)) + m) - y121.fst) < b))
          (.ob (fSymM.pre (y121.snd.snd.fst, IntKind.i64.wrap ((IntKind.u64.wrap (IntKind.i64.wrap (a + b))).fdiv (2 : Int)), IntKind.i64.wrap (IntKind.i64.wrap (IntKind.i64.wrap ((IntKind.u64.wrap (IntKind.i64.wrap (a + b))).fdiv (2 : Int)) + m) - y121.fst), b, (u.fst, ()), ()) ∧ mSymM (y121.snd.snd.fst, IntKind.i64.wrap ((IntKind.u64.wrap (IntKind.i64.wrap (a + b))).fdiv (2 : Int)), IntKind.i64.wrap (IntKind.i64.wrap (IntKind.i64.wrap ((IntKind.u64.wrap (IntKind.i64.wrap (a + b))).fdiv (2 : Int)) + m) - y121.fst), b, (u.fst, ()), ()) < n0) <|
           .lt (PUnit × List SRequest × PUnit) (fSymM.fn (y121.snd.snd.fst, IntKind.i64.wrap ((IntKind.u64.wrap (IntKind.i64.wrap (a + b))).fdiv (2 : Int)), IntKind.i64.wrap (IntKind.i64.wrap (IntKind.i64.wrap ((IntKind.u64.wrap (IntKind.i64.wrap (a + b))).fdiv (2 : Int)) + m) - y121.fst), b, (u.fst, ()), ())) fun z35 =>
           GS.out fSymM ((()), (z35.snd.fst, ())))
          (GS.out fSymM ((()), (y121.snd.snd.fst, ()))))
         (GS.out fSymM ((()), (y121.snd.snd.fst, ()))))))
      (.br (decide (a < y121.fst))
       (.br (decide (y121.fst < IntKind.i64.wrap ((IntKind.u64.wrap (IntKind.i64.wrap (a + b))).fdiv (2 : Int))))
        (.ob (fSymM.pre (y121.snd.snd.fst, a, y121.fst, IntKind.i64.wrap ((IntKind.u64.wrap (IntKind.i64.wrap (a + b))).fdiv (2 : Int)), (u.fst, ()), ()) ∧ mSymM (y121.snd.snd.fst, a, y121.fst, IntKind.i64.wrap ((IntKind.u64.wrap (IntKind.i64.wrap (a + b))).fdiv (2 : Int)), (u.fst, ()), ()) < n0) <|
         .lt (PUnit × List SRequest × PUnit) (fSymM.fn (y121.snd.snd.fst, a, y121.fst, IntKind.i64.wrap ((IntKind.u64.wrap (IntKind.i64.wrap (a + b))).fdiv (2 : Int)), (u.fst, ()), ())) fun z36 =>
         .br (decide (IntKind.i64.wrap ((IntKind.u64.wrap (IntKind.i64.wrap (a + b))).fdiv (2 : Int)) < IntKind.i64.wrap (IntKind.i64.wrap (IntKind.i64.wrap ((IntKind.u64.wrap (IntKind.i64.wrap (a + b))).fdiv (2 : Int)) + m) - y121.fst)))
          (.br (decide (IntKind.i64.wrap (IntKind.i64.wrap (IntKind.i64.wrap ((IntKind.u64.wrap (IntKind.i64.wrap (a + b))).fdiv (2 : Int)) + m) - y121.fst) < b))
           (.ob (fSymM.pre (z36.snd.fst, IntKind.i64.wrap ((IntKind.u64.wrap (IntKind.i64.wrap (a + b))).fdiv (2 : Int)), IntKind.i64.wrap (IntKind.i64.wrap (IntKind.i64.wrap ((IntKind.u64.wrap (IntKind.i64.wrap (a + b))).fdiv (2 : Int)) + m) - y121.fst), b, (u.fst, ()), ()) ∧ mSymM (z36.snd.fst, IntKind.i64.wrap ((IntKind.u64.wrap (IntKind.i64.wrap (a + b))).fdiv (2 : Int)), IntKind.i64.wrap (IntKind.i64.wrap (IntKind.i64.wrap ((IntKind.u64.wrap (IntKind.i64.wrap (a + b))).fdiv (2 : Int)) + m) - y121.fst), b, (u.fst, ()), ()) < n0) <|
            .lt (PUnit × List SRequest × PUnit) (fSymM.fn (z36.snd.fst, IntKind.i64.wrap ((IntKind.u64.wrap (IntKind.i64.wrap (a + b))).fdiv (2 : Int)), IntKind.i64.wrap (IntKind.i64.wrap (IntKind.i64.wrap ((IntKind.u64.wrap (IntKind.i64.wrap (a + b))).fdiv (2 : Int)) + m) - y121.fst), b, (u.fst, ()), ())) fun z37 =>
            GS.out fSymM ((()), (z37.snd.fst, ())))
           (GS.out fSymM ((()), (z36.snd.fst, ()))))
          (GS.out fSymM ((()), (z36.snd.fst, ()))))
        (.br (decide (IntKind.i64.wrap ((IntKind.u64.wrap (IntKind.i64.wrap (a + b))).fdiv (2 : Int)) < IntKind.i64.wrap (IntKind.i64.wrap (IntKind.i64.wrap ((IntKind.u64.wrap (IntKind.i64.wrap (a + b))).fdiv (2 : Int)) + m) - y121.fst)))
         (.br (decide (IntKind.i64.wrap (IntKind.i64.wrap (IntKind.i64.wrap ((IntKind.u64.wrap (IntKind.i64.wrap (a + b))).fdiv (2 : Int)) + m) - y121.fst) < b))
          (.ob (fSymM.pre (y121.snd.snd.fst, IntKind.i64.wrap ((IntKind.u64.wrap (IntKind.i64.wrap (a + b))).fdiv (2 : Int)), IntKind.i64.wrap (IntKind.i64.wrap (IntKind.i64.wrap ((IntKind.u64.wrap (IntKind.i64.wrap (a + b))).fdiv (2 : Int)) + m) - y121.fst), b, (u.fst, ()), ()) ∧ mSymM (y121.snd.snd.fst, IntKind.i64.wrap ((IntKind.u64.wrap (IntKind.i64.wrap (a + b))).fdiv (2 : Int)), IntKind.i64.wrap (IntKind.i64.wrap (IntKind.i64.wrap ((IntKind.u64.wrap (IntKind.i64.wrap (a + b))).fdiv (2 : Int)) + m) - y121.fst), b, (u.fst, ()), ()) < n0) <|
           .lt (PUnit × List SRequest × PUnit) (fSymM.fn (y121.snd.snd.fst, IntKind.i64.wrap ((IntKind.u64.wrap (IntKind.i64.wrap (a + b))).fdiv (2 : Int)), IntKind.i64.wrap (IntKind.i64.wrap (IntKind.i64.wrap ((IntKind.u64.wrap (IntKind.i64.wrap (a + b))).fdiv (2 : Int)) + m) - y121.fst), b, (u.fst, ()), ())) fun z38 =>
           GS.out fSymM ((()), (z38.snd.fst, ())))
          (GS.out fSymM ((()), (y121.snd.snd.fst, ()))))
         (GS.out fSymM ((()), (y121.snd.snd.fst, ())))))
       (.br (decide (IntKind.i64.wrap ((IntKind.u64.wrap (IntKind.i64.wrap (a + b))).fdiv (2 : Int)) < IntKind.i64.wrap (IntKind.i64.wrap (IntKind.i64.wrap ((IntKind.u64.wrap (IntKind.i64.wrap (a + b))).fdiv (2 : Int)) + m) - y121.fst)))
        (.br (decide (IntKind.i64.wrap (IntKind.i64.wrap (IntKind.i64.wrap ((IntKind.u64.wrap (IntKind.i64.wrap (a + b))).fdiv (2 : Int)) + m) - y121.fst) < b))
         (.ob (fSymM.pre (y121.snd.snd.fst, IntKind.i64.wrap ((IntKind.u64.wrap (IntKind.i64.wrap (a + b))).fdiv (2 : Int)), IntKind.i64.wrap (IntKind.i64.wrap (IntKind.i64.wrap ((IntKind.u64.wrap (IntKind.i64.wrap (a + b))).fdiv (2 : Int)) + m) - y121.fst), b, (u.fst, ()), ()) ∧ mSymM (y121.snd.snd.fst, IntKind.i64.wrap ((IntKind.u64.wrap (IntKind.i64.wrap (a + b))).fdiv (2 : Int)), IntKind.i64.wrap (IntKind.i64.wrap (IntKind.i64.wrap ((IntKind.u64.wrap (IntKind.i64.wrap (a + b))).fdiv (2 : Int)) + m) - y121.fst), b, (u.fst, ()), ()) < n0) <|
          .lt (PUnit × List SRequest × PUnit) (fSymM.fn (y121.snd.snd.fst, IntKind.i64.wrap ((IntKind.u64.wrap (IntKind.i64.wrap (a + b))).fdiv (2 : Int)), IntKind.i64.wrap (IntKind.i64.wrap (IntKind.i64.wrap ((IntKind.u64.wrap (IntKind.i64.wrap (a + b))).fdiv (2 : Int)) + m) - y121.fst), b, (u.fst, ()), ())) fun z39 =>
          GS.out fSymM ((()), (z39.snd.fst, ())))
         (GS.out fSymM ((()), (y121.snd.snd.fst, ()))))
        (GS.out fSymM ((()), (y121.snd.snd.fst, ())))))))))) (by kernel_rfl) ?_
  refine br_i (fun h1 => lpx_i ?_ fun (y2 : Int × Int × List SRequest × PUnit) i2 => br_i (fun h3 => ob_i ?_ fun o4 => ob_i ?_ fun o5 => ob_i ?_ fun o6 => ob_i ?_ fun o7 => ob_i ?_ fun o8 => ob_i ?_ fun o9 => lt_i (br_i (fun h10 => ob_i rfl fun _ => ob_i rfl fun _ => ob_i rfl fun _ => ob_i rfl fun _ => ob_i ?_ fun o11 => trivial) (fun h10 => ob_i rfl fun _ => ob_i rfl fun _ => ob_i rfl fun _ => ob_i rfl fun _ => ob_i ?_ fun o12 => trivial))) (fun h3 => lpx_i ?_ fun (y13 : Int × List SRequest × Int × PUnit) i13 => br_i (fun h14 => lp_i trivial fun y15 i15 => br_i (fun h16 => ob_i ?_ fun o17 => ob_i ?_ fun o18 => ob_i ?_ fun o19 => ob_i ?_ fun o20 => ob_i ?_ fun o21 => ob_i ?_ fun o22 => lt_i (ob_i ?_ fun o23 => ob_i ?_ fun o24 => lt_i (ob_i rfl fun _ => ob_i rfl fun _ => ob_i rfl fun _ => ob_i rfl fun _ => ob_i rfl fun _ => ob_i ?_ fun o25 => trivial))) (fun h16 => ob_i ?_ fun o26 => ob_i ?_ fun o27 => ob_i ?_ fun o28 => ob_i ?_ fun o29 => ob_i ?_ fun o30 => ob_i ?_ fun o31 => lt_i (ob_i ?_ fun o32 => ob_i ?_ fun o33 => lt_i (ob_i rfl fun _ => ob_i rfl fun _ => ob_i rfl fun _ => ob_i rfl fun _ => ob_i rfl fun _ => ob_i ?_ fun o34 => trivial)))) (fun h14 => GS.leafY ?_))) (fun h1 => br_i (fun h35 => lpx_i ?_ fun (y36 : Int × Int × List SRequest × PUnit) i36 => br_i (fun h37 => ob_i ?_ fun o38 => ob_i ?_ fun o39 => ob_i ?_ fun o40 => ob_i ?_ fun o41 => ob_i ?_ fun o42 => ob_i ?_ fun o43 => lt_i (br_i (fun h44 => ob_i rfl fun _ => ob_i rfl fun _ => ob_i rfl fun _ => ob_i rfl fun _ => ob_i ?_ fun o45 => trivial) (fun h44 => ob_i rfl fun _ => ob_i rfl fun _ => ob_i rfl fun _ => ob_i rfl fun _ => ob_i ?_ fun o46 => trivial))) (fun h37 => lpx_i ?_ fun (y47 : Int × List SRequest × Int × PUnit) i47 => br_i (fun h48 => lp_i trivial fun y49 i49 => br_i (fun h50 => ob_i ?_ fun o51 => ob_i ?_ fun o52 => ob_i ?_ fun o53 => ob_i ?_ fun o54 => ob_i ?_ fun o55 => ob_i ?_ fun o56 => lt_i (ob_i ?_ fun o57 => ob_i ?_ fun o58 => lt_i (ob_i rfl fun _ => ob_i rfl fun _ => ob_i rfl fun _ => ob_i rfl fun _ => ob_i rfl fun _ => ob_i ?_ fun o59 => trivial))) (fun h50 => ob_i ?_ fun o60 => ob_i ?_ fun o61 => ob_i ?_ fun o62 => ob_i ?_ fun o63 => ob_i ?_ fun o64 => ob_i ?_ fun o65 => lt_i (ob_i ?_ fun o66 => ob_i ?_ fun o67 => lt_i (ob_i rfl fun _ => ob_i rfl fun _ => ob_i rfl fun _ => ob_i rfl fun _ => ob_i rfl fun _ => ob_i ?_ fun o68 => trivial)))) (fun h48 => GS.leafY ?_))) (fun h35 => ob_i ?_ fun o69 => br_i (fun h70 => lpx_i ?_ fun (y71 : Int × Int × List SRequest × PUnit) i71 => br_i (fun h72 => ob_i ?_ fun o73 => ob_i ?_ fun o74 => ob_i ?_ fun o75 => ob_i ?_ fun o76 => ob_i ?_ fun o77 => ob_i ?_ fun o78 => lt_i (br_i (fun h79 => ob_i rfl fun _ => ob_i rfl fun _ => ob_i rfl fun _ => ob_i rfl fun _ => ob_i rfl fun _ => ob_i rfl fun _ => ob_i rfl fun _ => ob_i ?_ fun o80 => trivial) (fun h79 => ob_i rfl fun _ => ob_i rfl fun _ => ob_i rfl fun _ => ob_i rfl fun _ => ob_i rfl fun _ => ob_i rfl fun _ => ob_i rfl fun _ => ob_i ?_ fun o81 => trivial))) (fun h72 => br_i (fun h82 => br_i (fun h83 => ob_i ?_ fun o84 => lt_i (br_i (fun h85 => br_i (fun h86 => ob_i ?_ fun o87 => lt_i (br_i (fun h88 => br_i (fun h89 => ob_i ?_ fun o90 => lt_i (GS.leafY ?_)) (fun h89 => GS.leafY ?_)) (fun h88 => GS.leafY ?_))) (fun h86 => br_i (fun h91 => br_i (fun h92 => ob_i ?_ fun o93 => lt_i (GS.leafY ?_)) (fun h92 => GS.leafY ?_)) (fun h91 => GS.leafY ?_))) (fun h85 => br_i (fun h94 => br_i (fun h95 => ob_i ?_ fun o96 => lt_i (GS.leafY ?_)) (fun h95 => GS.leafY ?_)) (fun h94 => GS.leafY ?_)))) (fun h83 => br_i (fun h97 => br_i (fun h98 => ob_i ?_ fun o99 => lt_i (br_i (fun h100 => br_i (fun h101 => ob_i ?_ fun o102 => lt_i (GS.leafY ?_)) (fun h101 => GS.leafY ?_)) (fun h100 => GS.leafY ?_))) (fun h98 => br_i (fun h103 => br_i (fun h104 => ob_i ?_ fun o105 => lt_i (GS.leafY ?_)) (fun h104 => GS.leafY ?_)) (fun h103 => GS.leafY ?_))) (fun h97 => br_i (fun h106 => br_i (fun h107 => ob_i ?_ fun o108 => lt_i (GS.leafY ?_)) (fun h107 => GS.leafY ?_)) (fun h106 => GS.leafY ?_)))) (fun h82 => br_i (fun h109 => br_i (fun h110 => ob_i ?_ fun o111 => lt_i (br_i (fun h112 => br_i (fun h113 => ob_i ?_ fun o114 => lt_i (GS.leafY ?_)) (fun h113 => GS.leafY ?_)) (fun h112 => GS.leafY ?_))) (fun h110 => br_i (fun h115 => br_i (fun h116 => ob_i ?_ fun o117 => lt_i (GS.leafY ?_)) (fun h116 => GS.leafY ?_)) (fun h115 => GS.leafY ?_))) (fun h109 => br_i (fun h118 => br_i (fun h119 => ob_i ?_ fun o120 => lt_i (GS.leafY ?_)) (fun h119 => GS.leafY ?_)) (fun h118 => GS.leafY ?_))))) (fun h70 => lpx_i ?_ fun (y121 : Int × Int × List SRequest × PUnit) i121 => br_i (fun h122 => ob_i ?_ fun o123 => ob_i ?_ fun o124 => ob_i ?_ fun o125 => ob_i ?_ fun o126 => ob_i ?_ fun o127 => ob_i ?_ fun o128 => lt_i (br_i (fun h129 => ob_i rfl fun _ => ob_i rfl fun _ => ob_i rfl fun _ => ob_i rfl fun _ => ob_i rfl fun _ => ob_i rfl fun _ => ob_i rfl fun _ => ob_i ?_ fun o130 => trivial) (fun h129 => ob_i rfl fun _ => ob_i rfl fun _ => ob_i rfl fun _ => ob_i rfl fun _ => ob_i rfl fun _ => ob_i rfl fun _ => ob_i rfl fun _ => ob_i ?_ fun o131 => trivial))) (fun h122 => br_i (fun h132 => br_i (fun h133 => ob_i ?_ fun o134 => lt_i (br_i (fun h135 => br_i (fun h136 => ob_i ?_ fun o137 => lt_i (br_i (fun h138 => br_i (fun h139 => ob_i ?_ fun o140 => lt_i (GS.leafY ?_)) (fun h139 => GS.leafY ?_)) (fun h138 => GS.leafY ?_))) (fun h136 => br_i (fun h141 => br_i (fun h142 => ob_i ?_ fun o143 => lt_i (GS.leafY ?_)) (fun h142 => GS.leafY ?_)) (fun h141 => GS.leafY ?_))) (fun h135 => br_i (fun h144 => br_i (fun h145 => ob_i ?_ fun o146 => lt_i (GS.leafY ?_)) (fun h145 => GS.leafY ?_)) (fun h144 => GS.leafY ?_)))) (fun h133 => br_i (fun h147 => br_i (fun h148 => ob_i ?_ fun o149 => lt_i (br_i (fun h150 => br_i (fun h151 => ob_i ?_ fun o152 => lt_i (GS.leafY ?_)) (fun h151 => GS.leafY ?_)) (fun h150 => GS.leafY ?_))) (fun h148 => br_i (fun h153 => br_i (fun h154 => ob_i ?_ fun o155 => lt_i (GS.leafY ?_)) (fun h154 => GS.leafY ?_)) (fun h153 => GS.leafY ?_))) (fun h147 => br_i (fun h156 => br_i (fun h157 => ob_i ?_ fun o158 => lt_i (GS.leafY ?_)) (fun h157 => GS.leafY ?_)) (fun h156 => GS.leafY ?_)))) (fun h132 => br_i (fun h159 => br_i (fun h160 => ob_i ?_ fun o161 => lt_i (br_i (fun h162 => br_i (fun h163 => ob_i ?_ fun o164 => lt_i (GS.leafY ?_)) (fun h163 => GS.leafY ?_)) (fun h162 => GS.leafY ?_))) (fun h160 => br_i (fun h165 => br_i (fun h166 => ob_i ?_ fun o167 => lt_i (GS.leafY ?_)) (fun h166 => GS.leafY ?_)) (fun h165 => GS.leafY ?_))) (fun h159 => br_i (fun h168 => br_i (fun h169 => ob_i ?_ fun o170 => lt_i (GS.leafY ?_)) (fun h169 => GS.leafY ?_)) (fun h168 => GS.leafY ?_)))))))
  all_goals obtain ⟨hq, hL, hM⟩ := hp
  all_goals (have m0 := hM.a0; have m1 := hM.am; have m2 := hM.mb; have m3 := hM.bl)
  all_goals try (obtain ⟨c1, c2⟩ := i2; have c3 := c2.mi; have c4 := c2.ij; have c5 := c2.jb)
  all_goals try (obtain ⟨c1, c2⟩ := i36; have c3 := c2.ai; have c4 := c2.ij; have c5 := c2.jm)
  all_goals try (obtain ⟨c1, c2⟩ := i71; have c3 := c2.lo1; have c4 := c2.lo2; have c5 := c2.sr; have c6 := c2.hi1; have c7 := c2.hi2)
  all_goals try (obtain ⟨c1, c2⟩ := i121; have c3 := c2.lo1; have c4 := c2.lo2; have c5 := c2.sr; have c6 := c2.hi1; have c7 := c2.hi2)
  all_goals try obtain ⟨d1, d2, d3, d4⟩ := i13
  all_goals try obtain ⟨d1, d2, d3, d4⟩ := i47
  all_goals try simp only [mSymM] at *
  all_goals try simp only [decide_eq_true_eq, decide_eq_false_iff_not, Bool.not_eq_true', Bool.not_eq_false', bne_iff_ne, bne_eq_false_iff_eq, beq_iff_eq, beq_eq_false_iff_ne, baEq, Int.not_lt, Int.not_le, ne_eq, Decidable.not_not] at *
  all_goals try simp only [W_slices_symMergeCmpFunc_impl_Request_fSymM_15, W_slices_symMergeCmpFunc_impl_Request_fSymM_21, W_slices_symMergeCmpFunc_impl_Request_fSymM_3, W_slices_symMergeCmpFunc_impl_Request_fSymM_33, W_slices_symMergeCmpFunc_impl_Request_fSymM_9, fRotR, fSortReq1, fSymM, etaToken, etaNode, etaBuilder, etaPolicy, etaPage, etaVisit, etaTab, etaServer, etaCache, etaNet, etaLoader, etaSheet, etaResult, etaSlot, etaModule, etaAddr, etaRequest, etaResponse, etaConn, etaGuess, etaEntry, etaSent, etaFile, baSz, List.size_toArray, List.length_cons, List.length_nil, Nat.reduceAdd, Int.toNat_zero, List.drop_zero, decide_eq_true_eq, decide_eq_false_iff_not, Bool.not_eq_true', Bool.not_eq_false', bne_iff_ne, bne_eq_false_iff_eq, beq_iff_eq, beq_eq_false_iff_ne, Bool.not_eq_true, Bool.not_eq_false, ne_eq, Decidable.not_not, baEq, decide_not, Prod.mk.injEq, and_true, true_and, Room, List.nil_append, Nat.zero_add, Int.not_lt, Int.not_le, List.length_modify] at *
  all_goals try subst c1
  all_goals try rw [d1] at d3
  all_goals try simp (disch := omega) only [wrapId', half2] at *
  all_goals try (have dl := (congrArg List.length d4).trans (rotR_len ..))
  all_goals first | omega | exact hq | exact BsL.start hM | exact BsR.start hM | exact ⟨⟨trivial, BsL.up hM c2 (by omega) (by omega)⟩, by omega⟩ | exact ⟨⟨trivial, BsL.down hM c2 (by omega) (by omega)⟩, by omega⟩ | exact ⟨⟨trivial, BsR.up hM c2 (by omega) (by omega)⟩, by omega⟩ | exact ⟨⟨trivial, BsR.down hM c2 (by omega) (by omega)⟩, by omega⟩ | exact ⟨⟨trivial, SymI.up hM c2 (by omega) (by omega)⟩, by omega⟩ | exact ⟨⟨trivial, SymI.down hM c2 (by omega) (by omega)⟩, by omega⟩ | exact ⟨by omega, by omega, rot_self2⟩ | exact ⟨by omega, by omega, rot_self⟩ | skip
  all_goals first | exact ⟨⟨d1, by omega, by omega, upI d4 (by omega) (by omega) (by omega)⟩, by omega⟩ | exact ⟨⟨d1, by omega, by omega, insI d4 (by omega) (by omega) (by omega)⟩, by omega⟩ | (rw [d4, show y13.1.toNat + 1 = y2.1.toNat by omega]; exact BsL.stop hM (by omega) c2 (by omega)) | (rw [d4, show y47.1.toNat = y36.1.toNat by omega]; exact BsR.stop hM (by omega) c2 (by omega)) | skip
  all_goals first | (have k := SymI.start hM; rw [if_pos (by omega), if_pos (by omega)] at k; exact k) | (have k := SymI.start hM; rw [if_neg (by omega), if_neg (by omega)] at k; exact k) | (have k := symI_left2 hL hM c2 (by omega) (by omega) (by omega); simp (disch := omega) only [symD1, if_pos, if_neg] at k; exact ⟨⟨hq, k⟩, by omega⟩) | (have k := symI_right2 hL hM c2 (by omega) (by omega) (by omega); simp (disch := omega) only [symD2, symD1, if_pos, if_neg] at k; exact ⟨⟨hq, k⟩, by omega⟩) | exact symI_end hM c2 (by omega) (by simp (disch := omega) only [symD2, symD1, if_pos, if_neg]) | skip)
def E84 : D.Env := E83.addG 84 fSymM
theorem E84ok : EOk Try.prog E84 := E83ok.addG k84_83
def fStableM : GS := ⟨[.k (.sl .request), .l (.v (.el .int)), .l (.c 37 [.el .page])], [], fun (x_ : (List SRequest) × Int × (SPage × Unit) × Unit) => okPg x_.2.2.1.1 ∧ x_.1.length ≤ 1048576 ∧ x_.2.1 = x_.1.length, fun (x_ : (List SRequest) × Int × (SPage × Unit) × Unit) => ((()), (isrt (classOf x_.2.2.1.1) x_.1, ()))⟩
abbrev W_slices_stableCmpFunc_impl_Request_fStableM_2 (l : (List SRequest)) (n : Int) (u : (SPage × Unit)) : LInv := ⟨[⟨.s, 7, true, .el .int⟩, ⟨.s, 8, true, .el .int⟩, ⟨.t, 0, true, .sl .request⟩], fun _ (x_ : Int × Int × (List SRequest) × Unit) => x_.2.1 = x_.1 + 20 ∧ St1 (classOf u.1) l x_.2.2.1 20 x_.1 n, fun (x_ : Int × Int × (List SRequest) × Unit) => (n - x_.1).toNat⟩
abbrev W_slices_stableCmpFunc_impl_Request_fStableM_7 (l : (List SRequest)) (n : Int) (u : (SPage × Unit)) : LInv := ⟨[⟨.s, 6, true, .el .int⟩, ⟨.s, 7, true, .el .int⟩, ⟨.s, 8, true, .el .int⟩, ⟨.t, 0, true, .sl .request⟩], fun _ (x_ : Int × Int × Int × (List SRequest) × Unit) => St2 (classOf u.1) l x_.2.2.2.1 x_.1 n, fun (x_ : Int × Int × Int × (List SRequest) × Unit) => (n - x_.1).toNat⟩
abbrev W_slices_stableCmpFunc_impl_Request_fStableM_9 (l : (List SRequest)) (n : Int) (u : (SPage × Unit)) : LInv := ⟨[⟨.s, 7, true, .el .int⟩, ⟨.s, 8, true, .el .int⟩, ⟨.t, 0, true, .sl .request⟩, ⟨.s, 6, true, .el .int⟩], fun (z_ : Int × Int × (List SRequest) × Int × Unit) (x_ : Int × Int × (List SRequest) × Int × Unit) => x_.2.2.2.1 = z_.2.2.2.1 ∧ x_.2.1 = x_.1 + 2 * x_.2.2.2.1 ∧ x_.2.2.2.1 < n ∧ St3 (classOf u.1) l x_.2.2.1 x_.2.2.2.1 x_.1 n, fun (x_ : Int × Int × (List SRequest) × Int × Unit) => (n - x_.1).toNat⟩
-- slices.stableCmpFunc[impl.Request]
set_option maxHeartbeats 2000000 in
theorem k68_84 : fStableM.ok Try.prog 68 := GS.of (S := fStableM) (L := fun ⟨l, n, u, _⟩ => fun | 2 => some (W_slices_stableCmpFunc_impl_Request_fStableM_2 l n u) | 7 => some (W_slices_stableCmpFunc_impl_Request_fStableM_7 l n u) | 9 => some (W_slices_stableCmpFunc_impl_Request_fStableM_9 l n u) | _ => none) (kp := [0,1,2,6,7,8,9,13,30,35,54,1000013,1000030,1000035,1000054]) E84ok Try.func68 (by kernel_rfl) (by kernel_rfl) (by
  rintro ⟨(l : List SRequest), (n : Int), (u : SPage × PUnit), _⟩ hp
  refine holds_of (X := lpx (W_slices_stableCmpFunc_impl_Request_fStableM_2 l n u) ((0 : Int), ((20 : Int), (l, ()))) fun (y1 : Int × Int × List SRequest × PUnit) bk1 =>
 .br (decide (y1.snd.fst ≤ n))
  (.ob (fInsSort.pre (y1.snd.snd.fst, y1.fst, y1.snd.fst, (u.fst, ()), ())) <|
   .lt (PUnit × List SRequest × PUnit) (fInsSort.fn (y1.snd.snd.fst, y1.fst, y1.snd.fst, (u.fst, ()), ())) fun z2 =>
   .ob (Value.int IntKind.i64 n = Value.int IntKind.i64 n) <|
    .ob (enc Ty.page u.fst = enc Ty.page u.fst) <|
    .ob (Value.int IntKind.i64 (20 : Int) = Value.int IntKind.i64 (20 : Int)) <|
    .ob (bk1 (y1.snd.fst, (IntKind.i64.wrap (y1.snd.fst + (20 : Int)), (z2.snd.fst, ())))) <|
    .ok)
  (.ob (fInsSort.pre (y1.snd.snd.fst, y1.fst, n, (u.fst, ()), ())) <|
   .lt (PUnit × List SRequest × PUnit) (fInsSort.fn (y1.snd.snd.fst, y1.fst, n, (u.fst, ()), ())) fun z3 =>
   lpx (W_slices_stableCmpFunc_impl_Request_fStableM_7 l n u) ((20 : Int), (y1.fst, (y1.snd.fst, (z3.snd.fst, ())))) fun (y6 : Int × Int × Int × List SRequest × PUnit) bk6 =>
    .br (decide (y6.fst < n))
     (lpx (W_slices_stableCmpFunc_impl_Request_fStableM_9 l n u) ((0 : Int), (IntKind.i64.wrap ((2 : Int) * y6.fst), (y6.snd.snd.snd.fst, (y6.fst, ())))) fun (y8 : Int × Int × List SRequest × Int × PUnit) bk8 =>
      .br (decide (y8.snd.fst ≤ n))
       (.ob (fSymM.pre (y8.snd.snd.fst, y8.fst, IntKind.i64.wrap (y8.fst + y8.snd.snd.snd.fst), y8.snd.fst, (u.fst, ()), ())) <|
        .lt (PUnit × List SRequest × PUnit) (fSymM.fn (y8.snd.snd.fst, y8.fst, IntKind.i64.wrap (y8.fst + y8.snd.snd.snd.fst), y8.snd.fst, (u.fst, ()), ())) fun z4 =>
        .ob (Value.int IntKind.i64 n = Value.int IntKind.i64 n) <|
         .ob (enc Ty.page u.fst = enc Ty.page u.fst) <|
         .ob (bk8 (y8.snd.fst, (IntKind.i64.wrap (y8.snd.fst + IntKind.i64.wrap ((2 : Int) * y8.snd.snd.snd.fst)), (z4.snd.fst, (y8.snd.snd.snd.fst, ()))))) <|
         .ok)
       (.br (decide (IntKind.i64.wrap (y8.fst + y8.snd.snd.snd.fst) < n))
        (.ob (fSymM.pre (y8.snd.snd.fst, y8.fst, IntKind.i64.wrap (y8.fst + y8.snd.snd.snd.fst), n, (u.fst, ()), ())) <|
         .lt (PUnit × List SRequest × PUnit) (fSymM.fn (y8.snd.snd.fst, y8.fst, IntKind.i64.wrap (y8.fst + y8.snd.snd.snd.fst), n, (u.fst, ()), ())) fun z5 =>
         .ob (Value.int IntKind.i64 n = Value.int IntKind.i64 n) <|
          .ob (enc Ty.page u.fst = enc Ty.page u.fst) <|
          .ob (bk6 (IntKind.i64.wrap (y8.snd.snd.snd.fst * (2 : Int)), (y8.fst, (y8.snd.fst, (z5.snd.fst, ()))))) <|
          .ok)
        (.ob (Value.int IntKind.i64 n = Value.int IntKind.i64 n) <|
         .ob (enc Ty.page u.fst = enc Ty.page u.fst) <|
         .ob (bk6 (IntKind.i64.wrap (y8.snd.snd.snd.fst * (2 : Int)), (y8.fst, (y8.snd.fst, (y8.snd.snd.fst, ()))))) <|
         .ok)))
     (GS.out fStableM ((()), (y6.snd.snd.snd.fst, ()))))) (by kernel_rfl) ?_
  refine lpx_i ?_ fun (y1 : Int × Int × List SRequest × PUnit) i1 => br_i (fun h2 => ob_i ?_ fun o3 => lt_i (ob_i rfl fun _ => ob_i rfl fun _ => ob_i rfl fun _ => ob_i ?_ fun o4 => trivial)) (fun h2 => ob_i ?_ fun o5 => lt_i (lpx_i ?_ fun (y6 : Int × Int × Int × List SRequest × PUnit) i6 => br_i (fun h7 => lpx_i ?_ fun (y8 : Int × Int × List SRequest × Int × PUnit) i8 => br_i (fun h9 => ob_i ?_ fun o10 => lt_i (ob_i rfl fun _ => ob_i rfl fun _ => ob_i ?_ fun o11 => trivial)) (fun h9 => br_i (fun h12 => ob_i ?_ fun o13 => lt_i (ob_i rfl fun _ => ob_i rfl fun _ => ob_i ?_ fun o14 => trivial)) (fun h12 => ob_i rfl fun _ => ob_i rfl fun _ => ob_i ?_ fun o15 => trivial))) (fun h7 => GS.leafY ?_)))
  all_goals obtain ⟨hq, hL, hn⟩ := hp
  all_goals try (obtain ⟨a1, a2⟩ := i1; have a3 := a2.len; have a4 := a2.a0; have a5 := a2.an)
  all_goals try (have b3 := i6.len; have b4 := i6.s0)
  all_goals try (obtain ⟨c1, c2, c3, c4⟩ := i8; have c5 := c4.len; have c6 := c4.a0; have c7 := c4.an; have c8 := c4.s0)
  all_goals try simp only [decide_eq_true_eq, decide_eq_false_iff_not, Bool.not_eq_true', Bool.not_eq_false', bne_iff_ne, bne_eq_false_iff_eq, beq_iff_eq, beq_eq_false_iff_ne, baEq, Int.not_lt, Int.not_le, ne_eq, Decidable.not_not] at *
  all_goals try simp only [W_slices_stableCmpFunc_impl_Request_fStableM_2, W_slices_stableCmpFunc_impl_Request_fStableM_7, W_slices_stableCmpFunc_impl_Request_fStableM_9, fInsSort, fStableM, fSymM, etaToken, etaNode, etaBuilder, etaPolicy, etaPage, etaVisit, etaTab, etaServer, etaCache, etaNet, etaLoader, etaSheet, etaResult, etaSlot, etaModule, etaAddr, etaRequest, etaResponse, etaConn, etaGuess, etaEntry, etaSent, etaFile, baSz, List.size_toArray, List.length_cons, List.length_nil, Nat.reduceAdd, Int.toNat_zero, List.drop_zero, decide_eq_true_eq, decide_eq_false_iff_not, Bool.not_eq_true', Bool.not_eq_false', bne_iff_ne, bne_eq_false_iff_eq, beq_iff_eq, beq_eq_false_iff_ne, Bool.not_eq_true, Bool.not_eq_false, ne_eq, Decidable.not_not, baEq, decide_not, Prod.mk.injEq, and_true, true_and, Room, List.nil_append, Nat.zero_add, Int.not_lt, Int.not_le] at *
  all_goals try rw [c1] at c2 c3 c4 c8
  all_goals try rw [c1]
  all_goals try simp (disch := omega) only [wrapId'] at *
  all_goals first | omega | exact ⟨by omega, St1.start hn⟩ | exact ⟨hq, by omega, by omega, by omega, by omega⟩ | (refine ⟨⟨by omega, ?_⟩, by omega⟩; rw [a1]; exact a2.next (by omega)) | exact a2.fin (by omega) | exact ⟨by omega, by omega, St3.start i6⟩ | (refine ⟨hq, by omega, ?_⟩; rw [c2]; exact c4.mg (by omega)) | exact ⟨hq, by omega, c4.mg2 (by omega) (by omega)⟩ | exact ⟨c4.fin1 (by omega), by omega⟩ | exact ⟨c4.fin2 (by omega) (by omega), by omega⟩ | exact i6.stop (by omega) | skip
  all_goals (refine ⟨⟨trivial, trivial, c3, ?_⟩, by omega⟩; rw [c2]; exact c4.next (by omega)))
def E85 : D.Env := E84.addG 68 fStableM
theorem E85ok : EOk Try.prog E85 := E84ok.addG k68_84
def fSortStable : GS := ⟨[.k (.sl .request), .l (.c 37 [.el .page])], [], fun (x_ : (List SRequest) × (SPage × Unit) × Unit) => okPg x_.2.1.1 ∧ x_.1.length ≤ 1048576, fun (x_ : (List SRequest) × (SPage × Unit) × Unit) => ((()), (isrt (classOf x_.2.1.1) x_.1, ()))⟩
-- slices.SortStableFunc[[]impl.Request,impl.Request]
theorem k36_85 : fSortStable.ok Try.prog 36 := GS.of (S := fSortStable) (L := fun _ _ => none) (kp := []) E85ok Try.func36 (by kernel_rfl) (by kernel_rfl) (by
  rintro ⟨(l : List SRequest), (u : SPage × PUnit), _⟩ hp
  refine holds_of (X := .ob (fStableM.pre (l, (↑(List.length l) : Int), (u.fst, ()), ())) <|
 .lt (PUnit × List SRequest × PUnit) (fStableM.fn (l, (↑(List.length l) : Int), (u.fst, ()), ())) fun z2 =>
 GS.out fSortStable ((()), (z2.snd.fst, ()))) (by kernel_rfl) ?_
  refine ob_i ?_ fun o1 => lt_i (GS.leafY ?_)
  all_goals try simp only [decide_eq_true_eq, decide_eq_false_iff_not, Bool.not_eq_true', Bool.not_eq_false', bne_iff_ne, bne_eq_false_iff_eq, beq_iff_eq, beq_eq_false_iff_ne, baEq, Int.not_lt, Int.not_le, ne_eq, Decidable.not_not] at *
  all_goals try simp only [fSortStable, fStableM, etaToken, etaNode, etaBuilder, etaPolicy, etaPage, etaVisit, etaTab, etaServer, etaCache, etaNet, etaLoader, etaSheet, etaResult, etaSlot, etaModule, etaAddr, etaRequest, etaResponse, etaConn, etaGuess, etaEntry, etaSent, etaFile, baSz, List.size_toArray, List.length_cons, List.length_nil, Nat.reduceAdd, Int.toNat_zero, List.drop_zero, decide_eq_true_eq, decide_eq_false_iff_not, Bool.not_eq_true', Bool.not_eq_false', bne_iff_ne, bne_eq_false_iff_eq, beq_iff_eq, beq_eq_false_iff_ne, Bool.not_eq_true, Bool.not_eq_false, ne_eq, Decidable.not_not, baEq, decide_not, Prod.mk.injEq, and_true, true_and, Room, List.nil_append, Nat.zero_add, Int.not_lt, Int.not_le] at *
  all_goals exact hp)
def E86 : D.Env := E85.addG 36 fSortStable
theorem E86ok : EOk Try.prog E86 := E85ok.addG k36_85
def sortReqs (p : SPage) (l : List SRequest) : List SRequest := isrt (classOf p) l
def fSortRequests : Fct := ⟨[.v (.el .page), .v (.sl .request)], [.sl .request], fun (x_ : SPage × (List SRequest) × Unit) => okPg x_.1 ∧ x_.2.1.length ≤ 1048576, fun (x_ : SPage × (List SRequest) × Unit) => (sortReqs x_.1 x_.2.1, ())⟩
-- impl.SortRequests
theorem k9_86 : fSortRequests.ok Try.prog 9 := Fct.of (S := fSortRequests) (L := fun _ _ => none) (kp := [1,2,4,5]) E86ok Try.func9 (by kernel_rfl) (by kernel_rfl) (by
  rintro ⟨(p : SPage), (l : List SRequest), _⟩ hp
  refine holds_of (X := .ob (True) <|
 .ob (Room ((0 : Nat) + List.length l) (72 : Nat)) <|
 .ob (fSortStable.pre ([] ++ l, (p, ()), ())) <|
 .lt (PUnit × List SRequest × PUnit) (fSortStable.fn ([] ++ l, (p, ()), ())) fun z2 =>
 .leaf (mkR fSortRequests.rs (z2.snd.fst, ())) [] []) (by kernel_rfl) ?_
  refine ob_i trivial fun _ => ob_i ?_ fun o1 => ob_i ?_ fun o2 => lt_i (Fct.leafY ?_)
  all_goals try simp only [decide_eq_true_eq, decide_eq_false_iff_not, Bool.not_eq_true', Bool.not_eq_false', bne_iff_ne, bne_eq_false_iff_eq, beq_iff_eq, beq_eq_false_iff_ne, baEq, Int.not_lt, Int.not_le, ne_eq, Decidable.not_not] at *
  all_goals try simp only [fSortRequests, fSortStable, etaToken, etaNode, etaBuilder, etaPolicy, etaPage, etaVisit, etaTab, etaServer, etaCache, etaNet, etaLoader, etaSheet, etaResult, etaSlot, etaModule, etaAddr, etaRequest, etaResponse, etaConn, etaGuess, etaEntry, etaSent, etaFile, baSz, List.size_toArray, List.length_cons, List.length_nil, Nat.reduceAdd, Int.toNat_zero, List.drop_zero, decide_eq_true_eq, decide_eq_false_iff_not, Bool.not_eq_true', Bool.not_eq_false', bne_iff_ne, bne_eq_false_iff_eq, beq_iff_eq, beq_eq_false_iff_ne, Bool.not_eq_true, Bool.not_eq_false, ne_eq, Decidable.not_not, baEq, decide_not, Prod.mk.injEq, and_true, true_and, Room, List.nil_append, Nat.zero_add, Int.not_lt, Int.not_le] at *
  all_goals first | omega | exact hp | rfl)
def E87 : D.Env := E86.add 9 fSortRequests
theorem E87ok : EOk Try.prog E87 := E86ok.add k9_86
abbrev W_spec_SortRequests_fSortRequests_3 (p : SPage) (l : (List SRequest)) : LInv := ⟨[⟨.s, 5, true, .sl .request⟩, ⟨.s, 6, true, .el .int⟩, ⟨.b, 2, false, .el .page⟩], fun (z_ : (List SRequest) × Int × SPage × Unit) (x_ : (List SRequest) × Int × SPage × Unit) => (0 ≤ x_.2.1 ∧ x_.2.1 ≤ 6 ∧ x_.1 ++ tailC (classOf p) l (6 - x_.2.1).toNat = tailC (classOf p) l 6) ∧ x_.2.2.1 = z_.2.2.1, fun (x_ : (List SRequest) × Int × SPage × Unit) => (6 - x_.2.1).toNat⟩
abbrev W_spec_SortRequests_fSortRequests_6 (p : SPage) (l : (List SRequest)) : LInv := ⟨[⟨.s, 5, true, .sl .request⟩, ⟨.s, 7, true, .el .int⟩, ⟨.s, 6, true, .el .int⟩, ⟨.b, 2, false, .el .page⟩], fun (z_ : (List SRequest) × Int × Int × SPage × Unit) (x_ : (List SRequest) × Int × Int × SPage × Unit) => (x_.2.2.1 = z_.2.2.1 ∧ 0 ≤ x_.2.1 ∧ x_.2.1 ≤ l.length ∧ x_.1 ++ ((l.drop x_.2.1.toNat).filter (fun x => classOf p x == x_.2.2.1) ++ tailC (classOf p) l (6 - (x_.2.2.1 + 1)).toNat) = tailC (classOf p) l 6) ∧ x_.2.2.2.1 = z_.2.2.2.1, fun (x_ : (List SRequest) × Int × Int × SPage × Unit) => (l.length - x_.2.1).toNat⟩
-- spec.SortRequests
theorem k6_87 : fSortRequests.ok Try.prog 6 := Fct.of (S := fSortRequests) (L := fun ⟨p, l, _⟩ => fun | 3 => some (W_spec_SortRequests_fSortRequests_3 p l) | 6 => some (W_spec_SortRequests_fSortRequests_6 p l) | _ => none) (kp := [1,2,4,5,6,7,10,16,26,1000010,1000016,1000026]) E87ok Try.func6 (by kernel_rfl) (by kernel_rfl) (by
  rintro ⟨(p : SPage), (l : List SRequest), _⟩ hp
  refine holds_of (X := lpx (W_spec_SortRequests_fSortRequests_3 p l) ([], ((0 : Int), (p, ()))) fun (y1 : List SRequest × Int × SPage × PUnit) bk1 =>
 .br (decide (y1.snd.fst ≤ (5 : Int)))
  (lpx (W_spec_SortRequests_fSortRequests_6 p l) (y1.fst, ((0 : Int), (y1.snd.fst, (y1.snd.snd.fst, ())))) fun (y3 : List SRequest × Int × Int × SPage × PUnit) bk3 =>
   .br (decide (y3.snd.fst < (↑l.length : Int)))
    (.ob ((0 : Int) ≤ y3.snd.fst ∧ y3.snd.fst < (↑l.length : Int)) <|
     .ob (fClassOf.pre (y3.snd.snd.snd.fst, l.getD y3.snd.fst.toNat default, ())) <|
     .lt (Int × PUnit) (fClassOf.fn (y3.snd.snd.snd.fst, l.getD y3.snd.fst.toNat default, ())) fun z2 =>
     .br (z2.fst == y3.snd.snd.fst)
      (.ob ((0 : Int) ≤ y3.snd.fst ∧ y3.snd.fst < (↑l.length : Int)) <|
       .ob (True) <|
       .ob (Room (y3.fst.length + [l.getD y3.snd.fst.toNat default].length) (72 : Nat)) <|
       .ob (l = l) <|
       .ob (bk3 (y3.fst ++ [l.getD y3.snd.fst.toNat default], (IntKind.i64.wrap (y3.snd.fst + (1 : Int)), (y3.snd.snd.fst, (y3.snd.snd.snd.fst, ()))))) <|
       .ok)
      (.ob (l = l) <|
       .ob (bk3 (y3.fst, (IntKind.i64.wrap (y3.snd.fst + (1 : Int)), (y3.snd.snd.fst, (y3.snd.snd.snd.fst, ()))))) <|
       .ok))
    (.ob (l = l) <|
     .ob (bk1 (y3.fst, (IntKind.i64.wrap (y3.snd.snd.fst + (1 : Int)), (y3.snd.snd.snd.fst, ())))) <|
     .ok))
  (.leaf (mkR fSortRequests.rs (y1.fst, ())) [] [])) (by kernel_rfl) ?_
  refine lpx_i ?_ fun (y1 : List SRequest × Int × SPage × PUnit) i1 => br_i (fun h2 => lpx_i ?_ fun (y3 : List SRequest × Int × Int × SPage × PUnit) i3 => br_i (fun h4 => ob_i ?_ fun o5 => ob_i ?_ fun o6 => lt_i (br_i (fun h7 => ob_i ?_ fun o8 => ob_i trivial fun _ => ob_i ?_ fun o9 => ob_i rfl fun _ => ob_i ?_ fun o10 => trivial) (fun h7 => ob_i rfl fun _ => ob_i ?_ fun o11 => trivial))) (fun h4 => ob_i rfl fun _ => ob_i ?_ fun o12 => trivial)) (fun h2 => Fct.leafY ?_)
  all_goals have ht := tailC_isrt (κ := classOf p) (l := l) (classOf_rng p)
  all_goals have hl := tailC_len (κ := classOf p) (l := l) 6
  all_goals obtain ⟨hq, hL⟩ := hp
  all_goals try (obtain ⟨yo, yc, yp, yu⟩ := y1; obtain ⟨⟨a1, a2, a3⟩, a4⟩ := i1; dsimp only at a1 a2 a3 a4; subst a4)
  all_goals try (obtain ⟨zo, zi, zc, zp, zu⟩ := y3; obtain ⟨⟨b1, b2, b3, b5⟩, b6⟩ := i3; dsimp only at b1 b2 b3 b5 b6; subst b6; subst b1)
  all_goals try have b7 := congrArg List.length b5
  all_goals try simp only [decide_eq_true_eq, decide_eq_false_iff_not, Bool.not_eq_true', Bool.not_eq_false', bne_iff_ne, bne_eq_false_iff_eq, beq_iff_eq, beq_eq_false_iff_ne, baEq, Int.not_lt, Int.not_le, ne_eq, Decidable.not_not] at *
  all_goals try simp only [W_spec_SortRequests_fSortRequests_3, W_spec_SortRequests_fSortRequests_6, fClassOf, fSortRequests, etaToken, etaNode, etaBuilder, etaPolicy, etaPage, etaVisit, etaTab, etaServer, etaCache, etaNet, etaLoader, etaSheet, etaResult, etaSlot, etaModule, etaAddr, etaRequest, etaResponse, etaConn, etaGuess, etaEntry, etaSent, etaFile, baSz, List.size_toArray, List.length_cons, List.length_nil, Nat.reduceAdd, Int.toNat_zero, List.drop_zero, decide_eq_true_eq, decide_eq_false_iff_not, Bool.not_eq_true', Bool.not_eq_false', bne_iff_ne, bne_eq_false_iff_eq, beq_iff_eq, beq_eq_false_iff_ne, Bool.not_eq_true, Bool.not_eq_false, ne_eq, Decidable.not_not, baEq, decide_not, Prod.mk.injEq, and_true, true_and, Room, List.nil_append, Nat.zero_add, Int.not_lt, Int.not_le, List.length_append, List.length_cons, List.length_nil] at *
  all_goals try simp (disch := omega) only [wrapId', toNat1] at *
  all_goals first | trivial | omega | exact hq | exact ⟨by omega, by omega, rfl⟩ | exact ⟨by omega, by omega, by rw [← tailC_step (by omega) (by omega)]; exact a3⟩ | skip
  all_goals try rw [filterC_at (by omega)] at b5
  all_goals try rw [filterC_end (by omega)] at b5
  all_goals first | (rw [if_pos (by assumption)] at b5; exact ⟨⟨by omega, by omega, by simpa using b5⟩, by omega⟩) | (rw [if_neg (by assumption)] at b5; exact ⟨⟨by omega, by omega, by simpa using b5⟩, by omega⟩) | exact ⟨⟨by omega, by omega, by simpa using b5⟩, by omega⟩ | skip
  all_goals try (rw [show (6 - yc).toNat = 0 by omega, tailC, List.append_nil] at a3; exact a3.trans ht))
def E88 : D.Env := E87.add 6 fSortRequests
theorem E88ok : EOk Try.prog E88 := E87ok.add k6_87
theorem sortReqs_len (p : SPage) (l : List SRequest) : (sortReqs p l).length = l.length := isrt_len l
def lPageReqsS : Fct := lawFS [.el .page, .sl .request]
-- laws.FnExactSortRequests
set_option maxHeartbeats 2000000 in
theorem k3_88 : lPageReqsS.ok Try.prog 3 := Fct.of (S := lPageReqsS) (L := fun _ _ => none) (kp := [1,2,4,5,6,7,8,9,10,11,12,13,18,23,39,44,49,63,71,74,83,88,91,1000018,1000023,1000039,1000044,1000049,1000063,1000071,1000074,1000083,1000088,1000091]) E88ok Try.func3 (by kernel_rfl) (by kernel_rfl) (by
  rintro ⟨(p : SPage), (l : List SRequest), _⟩ hp
  refine holds_of (X := .ob (fszPage.pre (p, (1048576 : Int), ())) <|
 .lt (Int × PUnit) (fszPage.fn (p, (1048576 : Int), ())) fun z2 =>
 .br (decide (z2.fst < (0 : Int)))
  (.leaf (mkR lPageReqsS.rs (true, ())) [] [])
  (.ob (fszRequestS.pre (l, z2.fst, ())) <|
   .lt (Int × PUnit) (fszRequestS.fn (l, z2.fst, ())) fun z3 =>
   .br (decide (z3.fst < (0 : Int)))
    (.leaf (mkR lPageReqsS.rs (true, ())) [] [])
    (.ob (ftoPage.pre (p, ())) <|
     .lt (SPage × PUnit) (ftoPage.fn (p, ())) fun z4 =>
     .ob (ftoRequestS.pre (l, ())) <|
      .lt (List SRequest × PUnit) (ftoRequestS.fn (l, ())) fun z5 =>
      .ob (fSortRequests.pre (z4.fst, z5.fst, ())) <|
       .lt (List SRequest × PUnit) (fSortRequests.fn (z4.fst, z5.fst, ())) fun z6 =>
       .ob (ftoPage.pre (p, ())) <|
        .lt (SPage × PUnit) (ftoPage.fn (p, ())) fun z7 =>
        .ob (ftoRequestS.pre (l, ())) <|
         .lt (List SRequest × PUnit) (ftoRequestS.fn (l, ())) fun z8 =>
         .ob (fSortRequests.pre (z7.fst, z8.fst, ())) <|
          .lt (List SRequest × PUnit) (fSortRequests.fn (z7.fst, z8.fst, ())) fun z9 =>
          .ob (feqRequestS.pre (z9.fst, z6.fst, ())) <|
           .lt (Bool × PUnit) (feqRequestS.fn (z9.fst, z6.fst, ())) fun z10 =>
           .br (!z10.fst)
            (.leaf (mkR lPageReqsS.rs (false, ())) [] [])
            (.ob (ftoPage.pre (p, ())) <|
             .lt (SPage × PUnit) (ftoPage.fn (p, ())) fun z11 =>
             .ob (feqPage.pre (z7.fst, z11.fst, ())) <|
              .lt (Bool × PUnit) (feqPage.fn (z7.fst, z11.fst, ())) fun z12 =>
              .br (!z12.fst)
               (.leaf (mkR lPageReqsS.rs (false, ())) [] [])
               (.ob (ftoRequestS.pre (l, ())) <|
                .lt (List SRequest × PUnit) (ftoRequestS.fn (l, ())) fun z13 =>
                .ob (feqRequestS.pre (z8.fst, z13.fst, ())) <|
                 .lt (Bool × PUnit) (feqRequestS.fn (z8.fst, z13.fst, ())) fun z14 =>
                 .br (!z14.fst)
                  (.leaf (mkR lPageReqsS.rs (false, ())) [] [])
                  (.ob (fmarkPage.pre z7.fst (1 : Int)) <|
                   .lt (SPage × Int) (fmarkPage.fn z7.fst (1 : Int)) fun z15 =>
                   .ob (fmarkRequestS.pre z8.fst z15.snd) <|
                    .lt (List SRequest × Int) (fmarkRequestS.fn z8.fst z15.snd) fun z16 =>
                    .br (decide (z16.snd < (0 : Int)))
                     (.leaf (mkR lPageReqsS.rs (false, ())) [] [])
                     (.ob (feqRequestS.pre (z9.fst, z6.fst, ())) <|
                      .lt (Bool × PUnit) (feqRequestS.fn (z9.fst, z6.fst, ())) fun z17 =>
                      .br (!z17.fst)
                       (.leaf (mkR lPageReqsS.rs (false, ())) [] [])
                       (.ob (fmarkRequestS.pre z9.fst (1 : Int)) <|
                        .lt (List SRequest × Int) (fmarkRequestS.fn z9.fst (1 : Int)) fun z18 =>
                        .ob (fheldRequestS.pre (z18.fst, (1 : Int), ())) <|
                         .lt (Int × PUnit) (fheldRequestS.fn (z18.fst, (1 : Int), ())) fun z19 =>
                         .br (decide (z19.fst < (0 : Int)))
                          (.leaf (mkR lPageReqsS.rs (false, ())) [] [])
                          (.br (z19.fst != z18.snd)
                           (.leaf (mkR lPageReqsS.rs (false, ())) [] [])
                           (.ob (ftoPage.pre (p, ())) <|
                            .lt (SPage × PUnit) (ftoPage.fn (p, ())) fun z20 =>
                            .ob (ftoRequestS.pre (l, ())) <|
                             .lt (List SRequest × PUnit) (ftoRequestS.fn (l, ())) fun z21 =>
                             .ob (fSortRequests.pre (z20.fst, z21.fst, ())) <|
                              .lt (List SRequest × PUnit) (fSortRequests.fn (z20.fst, z21.fst, ())) fun z22 =>
                              .ob (feqRequestS.pre (z22.fst, z6.fst, ())) <|
                               .lt (Bool × PUnit) (feqRequestS.fn (z22.fst, z6.fst, ())) fun z23 =>
                               .br (!z23.fst)
                                (.leaf (mkR lPageReqsS.rs (false, ())) [] [])
                                (.ob (fheldRequestS.pre (z18.fst, (1 : Int), ())) <|
                                 .lt (Int × PUnit) (fheldRequestS.fn (z18.fst, (1 : Int), ())) fun z24 =>
                                 .br (decide (z24.fst < (0 : Int)))
                                  (.leaf (mkR lPageReqsS.rs (false, ())) [] [])
                                  (.br (z24.fst != z18.snd)
                                   (.leaf (mkR lPageReqsS.rs (false, ())) [] [])
                                   (.leaf (mkR lPageReqsS.rs (true, ())) [] []))))))))))))) (by kernel_rfl) ?_
  refine ob_i ?_ fun o1 => lt_e fun z2 ez2 => (br_i (fun h2 => Fct.leafY ?_) (fun h2 => ob_i ?_ fun o3 => lt_e fun z3 ez3 => (br_i (fun h4 => Fct.leafY ?_) (fun h4 => ob_i ?_ fun o5 => lt_e fun z4 ez4 => (ob_i ?_ fun o6 => lt_e fun z5 ez5 => (ob_i ?_ fun o7 => lt_e fun z6 ez6 => (ob_i ?_ fun o8 => lt_e fun z7 ez7 => (ob_i ?_ fun o9 => lt_e fun z8 ez8 => (ob_i ?_ fun o10 => lt_e fun z9 ez9 => (ob_i ?_ fun o11 => lt_e fun z10 ez10 => (br_i (fun h12 => Fct.leafY ?_) (fun h12 => ob_i ?_ fun o13 => lt_e fun z11 ez11 => (ob_i ?_ fun o14 => lt_e fun z12 ez12 => (br_i (fun h15 => Fct.leafY ?_) (fun h15 => ob_i ?_ fun o16 => lt_e fun z13 ez13 => (ob_i ?_ fun o17 => lt_e fun z14 ez14 => (br_i (fun h18 => Fct.leafY ?_) (fun h18 => ob_i ?_ fun o19 => lt_e fun z15 ez15 => (ob_i ?_ fun o20 => lt_e fun z16 ez16 => (br_i (fun h21 => Fct.leafY ?_) (fun h21 => ob_i ?_ fun o22 => lt_e fun z17 ez17 => (br_i (fun h23 => Fct.leafY ?_) (fun h23 => ob_i ?_ fun o24 => lt_e fun z18 ez18 => (ob_i ?_ fun o25 => lt_e fun z19 ez19 => (br_i (fun h26 => Fct.leafY ?_) (fun h26 => br_i (fun h27 => Fct.leafY ?_) (fun h27 => ob_i ?_ fun o28 => lt_e fun z20 ez20 => (ob_i ?_ fun o29 => lt_e fun z21 ez21 => (ob_i ?_ fun o30 => lt_e fun z22 ez22 => (ob_i ?_ fun o31 => lt_e fun z23 ez23 => (br_i (fun h32 => Fct.leafY ?_) (fun h32 => ob_i ?_ fun o33 => lt_e fun z24 ez24 => (br_i (fun h34 => Fct.leafY ?_) (fun h34 => br_i (fun h35 => Fct.leafY ?_) (fun h35 => Fct.leafY ?_)))))))))))))))))))))))))))))))))))
  all_goals have hg0 : Sh.good (.el .page) p := hp.1
  all_goals have hg1 : Sh.good (.sl .request) l := hp.2.1
  all_goals have hI0 := goodI (p.block) hg0 (by simp [enc])
  all_goals clear hp
  all_goals try have hbd0 := mvPage_bd z7.fst (1 : Int)
  all_goals subst_vars
  all_goals try simp only [decide_eq_true_eq, decide_eq_false_iff_not, Bool.not_eq_true', Bool.not_eq_false', bne_iff_ne, bne_eq_false_iff_eq, beq_iff_eq, beq_eq_false_iff_ne, baEq, Int.not_lt, Int.not_le, ne_eq, Decidable.not_not] at *
  all_goals try simp only [fSortRequests, feqPage, feqRequestS, fheldRequestS, fmarkPage, fmarkRequestS, fszPage, fszRequestS, ftoPage, ftoRequestS, lPageReqsS, etaToken, etaNode, etaBuilder, etaPolicy, etaPage, etaVisit, etaTab, etaServer, etaCache, etaNet, etaLoader, etaSheet, etaResult, etaSlot, etaModule, etaAddr, etaRequest, etaResponse, etaConn, etaGuess, etaEntry, etaSent, etaFile, baSz, List.size_toArray, List.length_cons, List.length_nil, Nat.reduceAdd, Int.toNat_zero, List.drop_zero, decide_eq_true_eq, decide_eq_false_iff_not, Bool.not_eq_true', Bool.not_eq_false', bne_iff_ne, bne_eq_false_iff_eq, beq_iff_eq, beq_eq_false_iff_ne, Bool.not_eq_true, Bool.not_eq_false, ne_eq, Decidable.not_not, baEq, decide_not, Prod.mk.injEq, and_true, true_and, Room, List.nil_append, Nat.zero_add, Int.not_lt, Int.not_le, decide_true] at *
  all_goals have hz1 := szL_len szRequest l
  all_goals try simp only [mkRequestS_idem, mkRequestS_ub] at *
  all_goals try simp only [mvPage_re] at *
  all_goals first | trivial | omega | grind [lessen, szPage, szL, okPg, sortReqs_len])
def E89 : D.Env := E88.add 3 lPageReqsS
theorem E89ok : EOk Try.prog E89 := E88ok.add k3_88

section
open Go.ChangeShapes Go.WideShapes Go.ChangeAt Go.RowKit
theorem own : ownKnob Try.prog.godebug = none := by kernel_rfl
theorem types : ∀ e t, tyOf e = some t → e ∈ ([3, 4, 5, 9, 23, 26, 28, 33, 38, 44, 45, 46, 50, 55, 74, 77, 110, 115, 118, 123, 128, 131, 145, 149, 156, 158] : List TypeId) := by
  intro e t h
  unfold tyOf at h
  split at h <;> first | (simp; done) | cases h
theorem lifted (os : Os) (started : os.Started) (H : Type) (enc : TypeId × Value → H) :
    ReturnsInHanded {} Try.checked os 3 .any (Rows.fnExactSortRequestsSpec.pre6 enc Try.prog Try.f3 Rows.fnExactSortRequestsRow.domain false) (Rows.fnExactSortRequestsSpec.post enc Try.prog Try.f3 false true false false) := by
  refine handed_sh (C := Try.checked) own started (by kernel_rfl) Try.func3
    (ChangeSpec.witness6 (enc := enc) (C := Try.checked) false ⟨#[], #[.agg #[.string ⟨#[]⟩, .string ⟨#[]⟩, .bool false, .slice none 0 0, .slice none 0 0, .slice none 0 0, .string ⟨#[]⟩, .string ⟨#[]⟩, .slice none 0 0, .bool false, .slice none 0 0, .slice none 0 0, .slice none 0 0, .slice none 0 0, .slice none 0 0, .int .i64 0, .int .i64 0, .int .i64 0, .int .i64 0, .slice none 0 0, .slice none 0 0, .bool false], .slice none 0 0], []⟩ 8 (by kernel_rfl) (by kernel_rfl) (by kernel_rfl) (by kernel_rfl)) ?_
  intro W base args ds gs before hval0 hW hsh
  have hval : ∀ (j : Nat) t v, Try.f3.params[j]? = some t → args[j]? = some v → Value.okWide Try.prog W .any base t v := hval0
  refine law_calls (show rowOk Try.prog Try.f3 tyOf [3, 4, 5, 9, 23, 26, 28, 33, 38, 44, 45, 46, 50, 55, 74, 77, 110, 115, 118, 123, 128, 131, 145, 149, 156, 158] [.el .page, .sl .request] = true by kernel_rfl) types rfl Try.underlying4 rfl hW (fun xs h => ?_) hval hsh (laid_none (by kernel_rfl) (by kernel_rfl) (by kernel_rfl)) k3_88
  · rw [Try.params3] at h
    match xs, (show xs.length = 2 from h) with
    | [x0, x1], _ => rfl
set_option maxHeartbeats 0 in
theorem closed : joinedFacts Try.prog 3 Try.f3 Rows.fnExactSortRequestsSpec Rows.fnExactSortRequestsRow = true := by
  unfold joinedFacts
  refine (and_i (and_i (and_i (and_i (and_i (and_i (and_i (and_i (and_i (and_i (and_i (and_i (and_i (and_i (and_i (and_i (and_i (and_i (and_i (and_i (and_i (and_i (and_i (and_i (and_i (and_i (and_i (and_i (and_i (and_i (and_i ?_ ?_) ?_) ?_) ?_) ?_) ?_) ?_) ?_) ?_) ?_) ?_) ?_) ?_) ?_) ?_) ?_) ?_) ?_) ?_) ?_) ?_) ?_) ?_) ?_) ?_) ?_) ?_) ?_) ?_) ?_) ?_)
  all_goals decide +kernel
theorem over : Rows.fnExactSortRequestsRow.holds Try.pinned (OpenSpec.ofChange Rows.fnExactSortRequestsSpec) :=
  OpenClaim.holds_of_wide 3 Try.f3 rfl rfl rfl rfl rfl rfl rfl ⟨rfl, rfl, rfl, rfl, rfl⟩ rfl rfl rfl rfl rfl (by kernel_rfl) Try.func3 closed
    (of_decide_eq_true (by kernel_rfl)) (by unfold Func.isWrapper; first | (rw [if_pos (by decide +kernel)]; kernel_rfl) | (rw [if_neg (by decide +kernel)]; exact ⟨rfl, rfl⟩))
    (fun os started H enc _ => lifted os started H enc)
theorem proved : Rows.FnExactSortRequestsSaid := over
end
end Go.Proofs.Ytcgigcmleodjbaa.fnExactSortRequests
