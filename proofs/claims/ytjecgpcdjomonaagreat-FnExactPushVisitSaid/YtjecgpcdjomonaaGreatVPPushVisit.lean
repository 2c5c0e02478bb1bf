/-
  The program's PushVisit returns what the reference's returns, for all arguments: the law returns true. No condition.
-/
import Derived.Test.YtjecgpcdjomonaaGreatVPPushVisit1
import Derived.Test.YtjecgpcdjomonaaGreatRows
import Derived.WalkKit
import Derived.ProofKit
import Derived.OpenShut
import Derived.Test.YtjecgpcdjomonaaGreatVEf
namespace Go.Proofs.YtjecgpcdjomonaaGreat.fnExactPushVisit
open Go.Proofs.YtjecgpcdjomonaaGreat
open Go.D
set_option maxRecDepth 100000
set_option linter.unusedVariables false
set_option linter.unusedSimpArgs false

-- laws.eqVisit
set_option maxHeartbeats 2000000 in
theorem k78_76 : feqVisit.ok Tryz.prog 78 := Fct.of (S := feqVisit) (L := fun _ _ => none) (kp := [2,3,4,10,16,21,1000010,1000016,1000021]) E76ok Tryz.func78 (by kernel_rfl) (by kernel_rfl) (by
  rintro ⟨(x : SVisit), (y : SVisit), _⟩ hp
  refine holds_of (X := .ob (feqAddr.pre (x.addr, y.addr, ())) <|
 .lt (Bool × PUnit) (feqAddr.fn (x.addr, y.addr, ())) fun z2 =>
 .br (!z2.fst)
  (.leaf (mkR feqVisit.rs (false, ())) [] [])
  (.ob (feqPage.pre (x.page, y.page, ())) <|
   .lt (Bool × PUnit) (feqPage.fn (x.page, y.page, ())) fun z3 =>
   .br (!z3.fst)
    (.leaf (mkR feqVisit.rs (false, ())) [] [])
    (.br (!x.kept == y.kept)
     (.leaf (mkR feqVisit.rs (false, ())) [] [])
     (.leaf (mkR feqVisit.rs (true, ())) [] [])))) (by kernel_rfl) ?_
  refine ob_i trivial fun _ => lt_i (br_i (fun h1 => Fct.leafY ?_) (fun h1 => ob_i ?_ fun o2 => lt_i (br_i (fun h3 => Fct.leafY ?_) (fun h3 => br_i (fun h4 => Fct.leafY ?_) (fun h4 => Fct.leafY ?_)))))
  all_goals try simp only [decide_eq_true_eq, decide_eq_false_iff_not, Bool.not_eq_true', Bool.not_eq_false', bne_iff_ne, bne_eq_false_iff_eq, beq_iff_eq, beq_eq_false_iff_ne, baEq, Int.not_lt, Int.not_le, ne_eq, Decidable.not_not] at *
  all_goals try simp only [feqAddr, feqPage, feqVisit, etaToken, etaNode, etaBuilder, etaPolicy, etaPage, etaVisit, etaTab, etaServer, etaCache, etaNet, etaLoader, etaSheet, etaResult, etaSlot, etaModule, etaAddr, etaRequest, etaResponse, etaConn, etaGuess, etaEntry, etaSent, etaFile, baSz, List.size_toArray, List.length_cons, List.length_nil, Nat.reduceAdd, Int.toNat_zero, List.drop_zero, decide_eq_true_eq, decide_eq_false_iff_not, Bool.not_eq_true', Bool.not_eq_false', bne_iff_ne, bne_eq_false_iff_eq, beq_iff_eq, beq_eq_false_iff_ne, Bool.not_eq_true, Bool.not_eq_false, ne_eq, Decidable.not_not, baEq, decide_not, Prod.mk.injEq, and_true, true_and, Room, List.nil_append, Nat.zero_add, Int.not_lt, Int.not_le] at *
  all_goals first | trivial | (cases x; cases y; simp_all; done) | (simp only [szAddr, szPage, szVisit] at *; omega) | grind [szAddr, szPage, szVisit])
def E77 : D.Env := E76.add 78 feqVisit
theorem E77ok : EOk Tryz.prog E77 := E76ok.add k78_76
-- laws.szVisitS
set_option maxHeartbeats 2000000 in
theorem k15_77 : fszVisitS.ok Tryz.prog 15 := Fct.of (S := fszVisitS) (L := fun ⟨l, n, _⟩ => fun | 5 => some (LszS .visit szVisit l n) | _ => none) (kp := [0,1,4,5,11,15,25,1000011,1000015,1000025]) E77ok Tryz.func15 (by kernel_rfl) (by kernel_rfl) (by
  rintro ⟨(l : List SVisit), (n : Int), _⟩ hp
  refine holds_of (X := .br (decide (IntKind.i64.wrap (n - (↑l.length : Int)) < (0 : Int)))
 (.leaf (mkR fszVisitS.rs ((-1 : Int), ())) [] [])
 (lpx (LszS .visit szVisit l n) (IntKind.i64.wrap (n - (↑l.length : Int)), ((0 : Int), ())) fun (y2 : Int × Int × PUnit) bk2 =>
  .br (decide (y2.snd.fst < (↑l.length : Int)))
   (.ob ((0 : Int) ≤ y2.snd.fst ∧ y2.snd.fst < (↑l.length : Int)) <|
    .ob (fszVisit.pre (l.getD y2.snd.fst.toNat default, y2.fst, ())) <|
    .lt (Int × PUnit) (fszVisit.fn (l.getD y2.snd.fst.toNat default, y2.fst, ())) fun z2 =>
    .br (decide (z2.fst < (0 : Int)))
     (.leaf (mkR fszVisitS.rs ((-1 : Int), ())) [] [])
     (.ob (l = l) <|
      .ob (bk2 (z2.fst, (IntKind.i64.wrap (y2.snd.fst + (1 : Int)), ()))) <|
      .ok))
   (.leaf (mkR fszVisitS.rs (y2.fst, ())) [] []))) (by kernel_rfl) ?_
  refine br_i (fun h1 => Fct.leafY ?_) (fun h1 => lpx_i ?_ fun (y2 : Int × Int × PUnit) i2 => br_i (fun h3 => ob_i ?_ fun o4 => ob_i ?_ fun o5 => lt_i (br_i (fun h6 => Fct.leafY ?_) (fun h6 => ob_i rfl fun _ => ob_i ?_ fun o7 => trivial))) (fun h3 => Fct.leafY ?_))
  all_goals try simp only [decide_eq_true_eq, decide_eq_false_iff_not, Bool.not_eq_true', Bool.not_eq_false', bne_iff_ne, bne_eq_false_iff_eq, beq_iff_eq, beq_eq_false_iff_ne, baEq, Int.not_lt, Int.not_le, ne_eq, Decidable.not_not] at *
  all_goals try simp only [LszS, fszVisit, fszVisitS, etaToken, etaNode, etaBuilder, etaPolicy, etaPage, etaVisit, etaTab, etaServer, etaCache, etaNet, etaLoader, etaSheet, etaResult, etaSlot, etaModule, etaAddr, etaRequest, etaResponse, etaConn, etaGuess, etaEntry, etaSent, etaFile, baSz, List.size_toArray, List.length_cons, List.length_nil, Nat.reduceAdd, Int.toNat_zero, List.drop_zero, decide_eq_true_eq, decide_eq_false_iff_not, Bool.not_eq_true', Bool.not_eq_false', bne_iff_ne, bne_eq_false_iff_eq, beq_iff_eq, beq_eq_false_iff_ne, Bool.not_eq_true, Bool.not_eq_false, ne_eq, Decidable.not_not, baEq, decide_not, Prod.mk.injEq, and_true, true_and, Room, List.nil_append, Nat.zero_add, Int.not_lt, Int.not_le] at *
  · have := good_len hp.1; simp only [maxLen] at this; rw [wrapId (by omega)] at h1
    rw [lessenNeg (by simp only [szL]; omega)]
  · have := good_len hp.1; simp only [maxLen] at this
    rw [wrapId (by omega)] at h1 ⊢
    exact ⟨by omega, by omega, h1, by simp⟩
  · omega
  · exact ⟨good_getD hp.1 (by omega), by omega, by omega⟩
  · have hs := sum_take_le szVisit l (y2.2.1.toNat + 1)
    rw [sum_take szVisit (by omega)] at hs
    rw [lessen_lt (by omega)] at h6
    rw [lessenNeg (by simp only [szL]; omega)]
  · have hw : IntKind.i64.wrap (y2.2.1 + 1) = y2.2.1 + 1 := wrapId (by have := good_len hp.1; simp only [maxLen] at this; omega)
    have h7 : ¬ lessen y2.1 (szVisit (l.getD y2.2.1.toNat default)) < 0 := by omega
    rw [lessen_lt (by omega)] at h7
    rw [hw, toNat1 (by omega), sum_take szVisit (by omega), lessen_ge (by omega)]
    exact ⟨⟨by omega, by omega, by omega, by omega⟩, by omega⟩
  · have e : l.take y2.2.1.toNat = l := List.take_of_length_le (by omega)
    rw [e] at i2
    have hz : ((szL szVisit l : Nat) : Int) = l.length + (l.map szVisit).sum := by simp only [szL]; omega
    rw [lessen_ge (by omega)]
    show y2.1 = n - ((szL szVisit l : Nat) : Int)
    omega)
def E78 : D.Env := E77.add 15 fszVisitS
theorem E78ok : EOk Tryz.prog E78 := E77ok.add k15_77
-- laws.toVisitS
theorem k29_78 : ftoVisitS.ok Tryz.prog 29 := Fct.of (S := ftoVisitS) (L := fun ⟨l, _⟩ => fun | 3 => some (LtoS .visit l) | _ => none) (kp := [0,2,3,4,11,1000011]) E78ok Tryz.func29 (by kernel_rfl) (by kernel_rfl) (by
  rintro ⟨(l : List SVisit), _⟩ hp
  refine holds_of (X := .ob ((↑l.length : Int) = (↑l.length : Int) ∧
  (0 : Int) ≤ (↑l.length : Int) ∧
    (424 : Int) * (↑l.length : Int) ≤ (140737488355328 : Int) ∧ (↑l.length : Int) ≤ (140737488355328 : Int)) <|
 lpx (LtoS .visit l) ((0 : Int), (List.replicate (↑l.length : Int).toNat default, ())) fun (y2 : Int × List SVisit × PUnit) bk2 =>
 .br (decide (y2.fst < (↑l.length : Int)))
  (.ob ((0 : Int) ≤ y2.fst ∧ y2.fst < (↑l.length : Int)) <|
   .ob (ftoVisit.pre (l.getD y2.fst.toNat default, ())) <|
   .lt (SVisit × PUnit) (ftoVisit.fn (l.getD y2.fst.toNat default, ())) fun z2 =>
   .ob ((0 : Int) ≤ y2.fst ∧ y2.fst < (↑y2.snd.fst.length : Int)) <|
    .ob (y2.fst.toNat < y2.snd.fst.length) <|
    .lt (List SVisit) (y2.snd.fst.modify y2.fst.toNat fun z => z2.fst) fun z3 =>
    .ob (l = l) <|
     .ob (bk2 (IntKind.i64.wrap (y2.fst + (1 : Int)), (z3, ()))) <|
     .ok)
  (.leaf (mkR ftoVisitS.rs (y2.snd.fst, ())) [] [])) (by kernel_rfl) ?_
  refine ob_i ?_ fun o1 => lpx_i ?_ fun (y2 : Int × List SVisit × PUnit) i2 => br_i (fun h3 => ob_i ?_ fun o4 => ob_i ?_ fun o5 => lt_i (ob_i ?_ fun o6 => ob_i ?_ fun o7 => lt_i (ob_i rfl fun _ => ob_i ?_ fun o8 => trivial))) (fun h3 => Fct.leafY ?_)
  all_goals try simp only [decide_eq_true_eq, decide_eq_false_iff_not, Bool.not_eq_true', Bool.not_eq_false', bne_iff_ne, bne_eq_false_iff_eq, beq_iff_eq, beq_eq_false_iff_ne, baEq, Int.not_lt, Int.not_le, ne_eq, Decidable.not_not] at *
  all_goals try simp only [LtoS, ftoVisit, ftoVisitS, etaToken, etaNode, etaBuilder, etaPolicy, etaPage, etaVisit, etaTab, etaServer, etaCache, etaNet, etaLoader, etaSheet, etaResult, etaSlot, etaModule, etaAddr, etaRequest, etaResponse, etaConn, etaGuess, etaEntry, etaSent, etaFile, baSz, List.size_toArray, List.length_cons, List.length_nil, Nat.reduceAdd, Int.toNat_zero, List.drop_zero, decide_eq_true_eq, decide_eq_false_iff_not, Bool.not_eq_true', Bool.not_eq_false', bne_iff_ne, bne_eq_false_iff_eq, beq_iff_eq, beq_eq_false_iff_ne, Bool.not_eq_true, Bool.not_eq_false, ne_eq, Decidable.not_not, baEq, decide_not, Prod.mk.injEq, and_true, true_and, Room, List.nil_append, Nat.zero_add, Int.not_lt, Int.not_le] at *
  · have := szL_len szVisit l; omega
  · exact ⟨by omega, by omega, by simp⟩
  · omega
  · have hs := sum_take_le szVisit l (y2.1.toNat + 1)
    rw [sum_take szVisit (by omega)] at hs
    simp only [szL] at hp; omega
  · rw [i2.2.2]; simp; omega
  · rw [i2.2.2]; simp; omega
  · have hw : IntKind.i64.wrap (y2.1 + 1) = y2.1 + 1 := wrapId (by have := szL_len szVisit l; omega)
    rw [hw, toNat1 (by omega), i2.2.2]
    refine ⟨⟨by omega, by omega, ?_⟩, by omega⟩
    rw [show l.length - y2.1.toNat = (l.length - (y2.1.toNat + 1)) + 1 from by omega, List.replicate_succ, mod_at (by simp; omega), take_succ (by omega)]
    simp
  · have e : l.take y2.1.toNat = l := List.take_of_length_le (by omega)
    rw [i2.2.2, e]; simp; omega)
def E79 : D.Env := E78.add 29 ftoVisitS
theorem E79ok : EOk Tryz.prog E79 := E78ok.add k29_78
-- laws.eqVisitS
set_option maxHeartbeats 2000000 in
theorem k41_79 : feqVisitS.ok Tryz.prog 41 := Fct.of (S := feqVisitS) (L := fun ⟨l, m, _⟩ => fun | 4 => some (LeqS .visit l m) | _ => none) (kp := [0,1,4,5,10,14,26,1000010,1000014,1000026]) E79ok Tryz.func41 (by kernel_rfl) (by kernel_rfl) (by
  rintro ⟨(l : List SVisit), (m : List SVisit), _⟩ hp
  refine holds_of (X := .br ((↑l.length : Int) != (↑m.length : Int))
 (.leaf (mkR feqVisitS.rs (false, ())) [] [])
 (lpx (LeqS .visit l m) ((0 : Int), ()) fun (y2 : Int × PUnit) bk2 =>
  .br (decide (y2.fst < (↑l.length : Int)))
   (.ob ((0 : Int) ≤ y2.fst ∧ y2.fst < (↑l.length : Int)) <|
    .ob ((0 : Int) ≤ y2.fst ∧ y2.fst < (↑m.length : Int)) <|
    .ob (feqVisit.pre (l.getD y2.fst.toNat default, m.getD y2.fst.toNat default, ())) <|
    .lt (Bool × PUnit) (feqVisit.fn (l.getD y2.fst.toNat default, m.getD y2.fst.toNat default, ())) fun z2 =>
    .br (!z2.fst)
     (.leaf (mkR feqVisitS.rs (false, ())) [] [])
     (.ob (l = l) <|
      .ob (m = m) <|
      .ob (bk2 (IntKind.i64.wrap (y2.fst + (1 : Int)), ())) <|
      .ok))
   (.leaf (mkR feqVisitS.rs (true, ())) [] []))) (by kernel_rfl) ?_
  refine br_i (fun h1 => Fct.leafY ?_) (fun h1 => lpx_i ?_ fun (y2 : Int × PUnit) i2 => br_i (fun h3 => ob_i ?_ fun o4 => ob_i ?_ fun o5 => ob_i ?_ fun o6 => lt_i (br_i (fun h7 => Fct.leafY ?_) (fun h7 => ob_i rfl fun _ => ob_i rfl fun _ => ob_i ?_ fun o8 => trivial))) (fun h3 => Fct.leafY ?_))
  all_goals try simp only [decide_eq_true_eq, decide_eq_false_iff_not, Bool.not_eq_true', Bool.not_eq_false', bne_iff_ne, bne_eq_false_iff_eq, beq_iff_eq, beq_eq_false_iff_ne, baEq, Int.not_lt, Int.not_le, ne_eq, Decidable.not_not] at *
  all_goals try simp only [LeqS, feqVisit, feqVisitS, etaToken, etaNode, etaBuilder, etaPolicy, etaPage, etaVisit, etaTab, etaServer, etaCache, etaNet, etaLoader, etaSheet, etaResult, etaSlot, etaModule, etaAddr, etaRequest, etaResponse, etaConn, etaGuess, etaEntry, etaSent, etaFile, baSz, List.size_toArray, List.length_cons, List.length_nil, Nat.reduceAdd, Int.toNat_zero, List.drop_zero, decide_eq_true_eq, decide_eq_false_iff_not, Bool.not_eq_true', Bool.not_eq_false', bne_iff_ne, bne_eq_false_iff_eq, beq_iff_eq, beq_eq_false_iff_ne, Bool.not_eq_true, Bool.not_eq_false, ne_eq, Decidable.not_not, baEq, decide_not, Prod.mk.injEq, and_true, true_and, Room, List.nil_append, Nat.zero_add, Int.not_lt, Int.not_le] at *
  all_goals have hl := szL_len szVisit l
  · rw [decide_eq_false]; rintro rfl; omega
  · exact ⟨by omega, by omega, by simp⟩
  · omega
  · omega
  · have hs := szL_get szVisit (l := l) (i := y2.1.toNat) (by omega); omega
  · rw [decide_eq_false]; rintro rfl; first | exact absurd rfl h6 | exact absurd rfl h7
  · have hw : IntKind.i64.wrap (y2.1 + 1) = y2.1 + 1 := wrapId (by omega)
    rw [hw, toNat1 (by omega)]
    refine ⟨⟨by omega, by omega, ?_⟩, by omega⟩
    rw [take_succ (by omega), take_succ (by omega), i2.2.2]; first | rw [h6] | rw [h7]
  · have e : l.take y2.1.toNat = l := List.take_of_length_le (by omega)
    have e2 : m.take y2.1.toNat = m := List.take_of_length_le (by omega)
    rw [decide_eq_true]; rw [← e, ← e2, i2.2.2])
def E80 : D.Env := E79.add 41 feqVisitS
theorem E80ok : EOk Tryz.prog E80 := E79ok.add k41_79
-- laws.markVisitS
set_option maxHeartbeats 0 in
theorem k51_80 : fmarkVisitS.ok Tryz.prog 51 := MS.of (S := fmarkVisitS) (L := fun l k => fun | 2 => some (LmkS .visit mkVisit l k) | _ => none) (kp := [0,1,4,5,9,1000009]) (kl := [0]) E80ok Tryz.func51 (by kernel_rfl) (by kernel_rfl) (by
  rintro (l : List SVisit) (k : Int) hp
  refine holds_of (X := lpx (LmkS .visit mkVisit l k) (k, ((0 : Int), (l, ()))) fun (y1 : Int × Int × List SVisit × PUnit) bk1 =>
 .br (decide (y1.snd.fst < (↑y1.snd.snd.fst.length : Int)))
  (.ob (fmarkText.pre (y1.fst, ())) <|
   .lt (ByteArray × PUnit) (fmarkText.fn (y1.fst, ())) fun z2 =>
   .ob ((0 : Int) ≤ y1.snd.fst ∧ y1.snd.fst < (↑y1.snd.snd.fst.length : Int)) <|
    .ob (y1.snd.fst.toNat < y1.snd.snd.fst.length) <|
    .lt (List SVisit) (y1.snd.snd.fst.modify y1.snd.fst.toNat fun z =>
  { addr := { host := z2.fst, path := z.addr.path : SAddr }, page := z.page, kept := z.kept : SVisit }) fun z3 =>
    .ob (fmarkText.pre (IntKind.i64.wrap (y1.fst + (1 : Int)), ())) <|
     .lt (ByteArray × PUnit) (fmarkText.fn (IntKind.i64.wrap (y1.fst + (1 : Int)), ())) fun z4 =>
     .ob ((0 : Int) ≤ y1.snd.fst ∧ y1.snd.fst < (↑z3.length : Int)) <|
      .ob (y1.snd.fst.toNat < z3.length) <|
      .lt (List SVisit) (z3.modify y1.snd.fst.toNat fun z =>
  { addr := { host := z.addr.host, path := z4.fst : SAddr }, page := z.page, kept := z.kept : SVisit }) fun z5 =>
      .ob (fmarkText.pre (IntKind.i64.wrap (IntKind.i64.wrap (y1.fst + (1 : Int)) + (1 : Int)), ())) <|
       .lt (ByteArray × PUnit) (fmarkText.fn (IntKind.i64.wrap (IntKind.i64.wrap (y1.fst + (1 : Int)) + (1 : Int)), ())) fun z6 =>
       .ob ((0 : Int) ≤ y1.snd.fst ∧ y1.snd.fst < (↑z5.length : Int)) <|
        .ob (y1.snd.fst.toNat < z5.length) <|
        .lt (List SVisit) (z5.modify y1.snd.fst.toNat fun z =>
  { addr := z.addr,
    page :=
      { addr := { host := z6.fst, path := z.page.addr.path : SAddr }, policy := z.page.policy, tok := z.page.tok,
        queue := z.page.queue, ended := z.page.ended, builder := z.page.builder, slots := z.page.slots,
        mods := z.page.mods, entries := z.page.entries, block := z.page.block, inline := z.page.inline,
        deferred := z.page.deferred, entered := z.page.entered, ran := z.page.ran, log := z.page.log,
        loaded := z.page.loaded : SPage },
    kept := z.kept : SVisit }) fun z7 =>
        .ob (fmarkText.pre (IntKind.i64.wrap (IntKind.i64.wrap (IntKind.i64.wrap (y1.fst + (1 : Int)) + (1 : Int)) + (1 : Int)), ())) <|
         .lt (ByteArray × PUnit) (fmarkText.fn (IntKind.i64.wrap (IntKind.i64.wrap (IntKind.i64.wrap (y1.fst + (1 : Int)) + (1 : Int)) + (1 : Int)), ())) fun z8 =>
         .ob ((0 : Int) ≤ y1.snd.fst ∧ y1.snd.fst < (↑z7.length : Int)) <|
          .ob (y1.snd.fst.toNat < z7.length) <|
          .lt (List SVisit) (z7.modify y1.snd.fst.toNat fun z =>
  { addr := z.addr,
    page :=
      { addr := { host := z.page.addr.host, path := z8.fst : SAddr }, policy := z.page.policy, tok := z.page.tok,
        queue := z.page.queue, ended := z.page.ended, builder := z.page.builder, slots := z.page.slots,
        mods := z.page.mods, entries := z.page.entries, block := z.page.block, inline := z.page.inline,
        deferred := z.page.deferred, entered := z.page.entered, ran := z.page.ran, log := z.page.log,
        loaded := z.page.loaded : SPage },
    kept := z.kept : SVisit }) fun z9 =>
          .ob ((3 : Int) ≠ (0 : Int)) <|
           .ob ((0 : Int) ≤ y1.snd.fst ∧ y1.snd.fst < (↑z9.length : Int)) <|
           .ob (y1.snd.fst.toNat < z9.length) <|
           .lt (List SVisit) (z9.modify y1.snd.fst.toNat fun z =>
  { addr := z.addr,
    page :=
      { addr := z.page.addr,
        policy :=
          {
            set_ :=
              (IntKind.i64.wrap
                      (IntKind.i64.wrap
                          (IntKind.i64.wrap (IntKind.i64.wrap (y1.fst + (1 : Int)) + (1 : Int)) + (1 : Int)) +
                        (1 : Int))).tmod
                  (3 : Int) ==
                (0 : Int),
            scripts := z.page.policy.scripts, styles := z.page.policy.styles, images := z.page.policy.images,
            nonce := z.page.policy.nonce : SPolicy },
        tok := z.page.tok, queue := z.page.queue, ended := z.page.ended, builder := z.page.builder,
        slots := z.page.slots, mods := z.page.mods, entries := z.page.entries, block := z.page.block,
        inline := z.page.inline, deferred := z.page.deferred, entered := z.page.entered, ran := z.page.ran,
        log := z.page.log, loaded := z.page.loaded : SPage },
    kept := z.kept : SVisit }) fun z10 =>
           .ob ((0 : Int) ≤ y1.snd.fst ∧ y1.snd.fst < (↑z10.length : Int)) <|
            .ob (y1.snd.fst.toNat < z10.length) <|
            .ob (fmarkStringS.pre (z10.getD y1.snd.fst.toNat default).page.policy.scripts
  (IntKind.i64.wrap
    (IntKind.i64.wrap
        (IntKind.i64.wrap (IntKind.i64.wrap (IntKind.i64.wrap (y1.fst + (1 : Int)) + (1 : Int)) + (1 : Int)) +
          (1 : Int)) +
      (1 : Int)))) <|
            .lt (List ByteArray × Int) (fmarkStringS.fn (z10.getD y1.snd.fst.toNat default).page.policy.scripts
  (IntKind.i64.wrap
    (IntKind.i64.wrap
        (IntKind.i64.wrap (IntKind.i64.wrap (IntKind.i64.wrap (y1.fst + (1 : Int)) + (1 : Int)) + (1 : Int)) +
          (1 : Int)) +
      (1 : Int)))) fun z11 =>
            .lt (List SVisit) (z10.modify y1.snd.fst.toNat fun z =>
  { addr := z.addr,
    page :=
      { addr := z.page.addr,
        policy :=
          { set_ := z.page.policy.set_, scripts := z11.fst, styles := z.page.policy.styles,
            images := z.page.policy.images, nonce := z.page.policy.nonce : SPolicy },
        tok := z.page.tok, queue := z.page.queue, ended := z.page.ended, builder := z.page.builder,
        slots := z.page.slots, mods := z.page.mods, entries := z.page.entries, block := z.page.block,
        inline := z.page.inline, deferred := z.page.deferred, entered := z.page.entered, ran := z.page.ran,
        log := z.page.log, loaded := z.page.loaded : SPage },
    kept := z.kept : SVisit }) fun z12 =>
             .ob ((0 : Int) ≤ y1.snd.fst ∧ y1.snd.fst < (↑z12.length : Int)) <|
              .ob (y1.snd.fst.toNat < z12.length) <|
              .ob (fmarkStringS.pre (z12.getD y1.snd.fst.toNat default).page.policy.styles z11.snd) <|
              .lt (List ByteArray × Int) (fmarkStringS.fn (z12.getD y1.snd.fst.toNat default).page.policy.styles z11.snd) fun z13 =>
              .lt (List SVisit) (z12.modify y1.snd.fst.toNat fun z =>
  { addr := z.addr,
    page :=
      { addr := z.page.addr,
        policy :=
          { set_ := z.page.policy.set_, scripts := z.page.policy.scripts, styles := z13.fst,
            images := z.page.policy.images, nonce := z.page.policy.nonce : SPolicy },
        tok := z.page.tok, queue := z.page.queue, ended := z.page.ended, builder := z.page.builder,
        slots := z.page.slots, mods := z.page.mods, entries := z.page.entries, block := z.page.block,
        inline := z.page.inline, deferred := z.page.deferred, entered := z.page.entered, ran := z.page.ran,
        log := z.page.log, loaded := z.page.loaded : SPage },
    kept := z.kept : SVisit }) fun z14 =>
               .ob ((0 : Int) ≤ y1.snd.fst ∧ y1.snd.fst < (↑z14.length : Int)) <|
                .ob (y1.snd.fst.toNat < z14.length) <|
                .ob (fmarkStringS.pre (z14.getD y1.snd.fst.toNat default).page.policy.images z13.snd) <|
                .lt (List ByteArray × Int) (fmarkStringS.fn (z14.getD y1.snd.fst.toNat default).page.policy.images z13.snd) fun z15 =>
                .lt (List SVisit) (z14.modify y1.snd.fst.toNat fun z =>
  { addr := z.addr,
    page :=
      { addr := z.page.addr,
        policy :=
          { set_ := z.page.policy.set_, scripts := z.page.policy.scripts, styles := z.page.policy.styles,
            images := z15.fst, nonce := z.page.policy.nonce : SPolicy },
        tok := z.page.tok, queue := z.page.queue, ended := z.page.ended, builder := z.page.builder,
        slots := z.page.slots, mods := z.page.mods, entries := z.page.entries, block := z.page.block,
        inline := z.page.inline, deferred := z.page.deferred, entered := z.page.entered, ran := z.page.ran,
        log := z.page.log, loaded := z.page.loaded : SPage },
    kept := z.kept : SVisit }) fun z16 =>
                 .ob (fmarkText.pre (z15.snd, ())) <|
                  .lt (ByteArray × PUnit) (fmarkText.fn (z15.snd, ())) fun z17 =>
                  .ob ((0 : Int) ≤ y1.snd.fst ∧ y1.snd.fst < (↑z16.length : Int)) <|
                   .ob (y1.snd.fst.toNat < z16.length) <|
                   .lt (List SVisit) (z16.modify y1.snd.fst.toNat fun z =>
  { addr := z.addr,
    page :=
      { addr := z.page.addr,
        policy :=
          { set_ := z.page.policy.set_, scripts := z.page.policy.scripts, styles := z.page.policy.styles,
            images := z.page.policy.images, nonce := z17.fst : SPolicy },
        tok := z.page.tok, queue := z.page.queue, ended := z.page.ended, builder := z.page.builder,
        slots := z.page.slots, mods := z.page.mods, entries := z.page.entries, block := z.page.block,
        inline := z.page.inline, deferred := z.page.deferred, entered := z.page.entered, ran := z.page.ran,
        log := z.page.log, loaded := z.page.loaded : SPage },
    kept := z.kept : SVisit }) fun z18 =>
                   .ob (fmarkText.pre (IntKind.i64.wrap (z15.snd + (1 : Int)), ())) <|
                    .lt (ByteArray × PUnit) (fmarkText.fn (IntKind.i64.wrap (z15.snd + (1 : Int)), ())) fun z19 =>
                    .ob ((0 : Int) ≤ y1.snd.fst ∧ y1.snd.fst < (↑z18.length : Int)) <|
                     .ob (y1.snd.fst.toNat < z18.length) <|
                     .lt (List SVisit) (z18.modify y1.snd.fst.toNat fun z =>
  { addr := z.addr,
    page :=
      { addr := z.page.addr, policy := z.page.policy, tok := { rest := z19.fst : STokenizer }, queue := z.page.queue,
        ended := z.page.ended, builder := z.page.builder, slots := z.page.slots, mods := z.page.mods,
        entries := z.page.entries, block := z.page.block, inline := z.page.inline, deferred := z.page.deferred,
        entered := z.page.entered, ran := z.page.ran, log := z.page.log, loaded := z.page.loaded : SPage },
    kept := z.kept : SVisit }) fun z20 =>
                     .ob ((0 : Int) ≤ y1.snd.fst ∧ y1.snd.fst < (↑z20.length : Int)) <|
                      .ob (y1.snd.fst.toNat < z20.length) <|
                      .ob (fmarkTokenS.pre (z20.getD y1.snd.fst.toNat default).page.queue
  (IntKind.i64.wrap (IntKind.i64.wrap (z15.snd + (1 : Int)) + (1 : Int)))) <|
                      .lt (List SToken × Int) (fmarkTokenS.fn (z20.getD y1.snd.fst.toNat default).page.queue
  (IntKind.i64.wrap (IntKind.i64.wrap (z15.snd + (1 : Int)) + (1 : Int)))) fun z21 =>
                      .lt (List SVisit) (z20.modify y1.snd.fst.toNat fun z =>
  { addr := z.addr,
    page :=
      { addr := z.page.addr, policy := z.page.policy, tok := z.page.tok, queue := z21.fst, ended := z.page.ended,
        builder := z.page.builder, slots := z.page.slots, mods := z.page.mods, entries := z.page.entries,
        block := z.page.block, inline := z.page.inline, deferred := z.page.deferred, entered := z.page.entered,
        ran := z.page.ran, log := z.page.log, loaded := z.page.loaded : SPage },
    kept := z.kept : SVisit }) fun z22 =>
                       .ob ((3 : Int) ≠ (0 : Int)) <|
                        .ob ((0 : Int) ≤ y1.snd.fst ∧ y1.snd.fst < (↑z22.length : Int)) <|
                        .ob (y1.snd.fst.toNat < z22.length) <|
                        .lt (List SVisit) (z22.modify y1.snd.fst.toNat fun z =>
  { addr := z.addr,
    page :=
      { addr := z.page.addr, policy := z.page.policy, tok := z.page.tok, queue := z.page.queue,
        ended := z21.snd.tmod (3 : Int) == (0 : Int), builder := z.page.builder, slots := z.page.slots,
        mods := z.page.mods, entries := z.page.entries, block := z.page.block, inline := z.page.inline,
        deferred := z.page.deferred, entered := z.page.entered, ran := z.page.ran, log := z.page.log,
        loaded := z.page.loaded : SPage },
    kept := z.kept : SVisit }) fun z23 =>
                        .ob ((0 : Int) ≤ y1.snd.fst ∧ y1.snd.fst < (↑z23.length : Int)) <|
                         .ob (y1.snd.fst.toNat < z23.length) <|
                         .ob (fmarkNodeS.pre (z23.getD y1.snd.fst.toNat default).page.builder.nodes (IntKind.i64.wrap (z21.snd + (1 : Int)))) <|
                         .lt (List SNode × Int) (fmarkNodeS.fn (z23.getD y1.snd.fst.toNat default).page.builder.nodes (IntKind.i64.wrap (z21.snd + (1 : Int)))) fun z24 =>
                         .lt (List SVisit) (z23.modify y1.snd.fst.toNat fun z =>
  { addr := z.addr,
    page :=
      { addr := z.page.addr, policy := z.page.policy, tok := z.page.tok, queue := z.page.queue, ended := z.page.ended,
        builder := { nodes := z24.fst, open_ := z.page.builder.open_ : SBuilder }, slots := z.page.slots,
        mods := z.page.mods, entries := z.page.entries, block := z.page.block, inline := z.page.inline,
        deferred := z.page.deferred, entered := z.page.entered, ran := z.page.ran, log := z.page.log,
        loaded := z.page.loaded : SPage },
    kept := z.kept : SVisit }) fun z25 =>
                          .ob ((0 : Int) ≤ y1.snd.fst ∧ y1.snd.fst < (↑z25.length : Int)) <|
                           .ob (y1.snd.fst.toNat < z25.length) <|
                           .ob (fmarkIntS.pre (z25.getD y1.snd.fst.toNat default).page.builder.open_ z24.snd) <|
                           .lt (List Int × Int) (fmarkIntS.fn (z25.getD y1.snd.fst.toNat default).page.builder.open_ z24.snd) fun z26 =>
                           .lt (List SVisit) (z25.modify y1.snd.fst.toNat fun z =>
  { addr := z.addr,
    page :=
      { addr := z.page.addr, policy := z.page.policy, tok := z.page.tok, queue := z.page.queue, ended := z.page.ended,
        builder := { nodes := z.page.builder.nodes, open_ := z26.fst : SBuilder }, slots := z.page.slots,
        mods := z.page.mods, entries := z.page.entries, block := z.page.block, inline := z.page.inline,
        deferred := z.page.deferred, entered := z.page.entered, ran := z.page.ran, log := z.page.log,
        loaded := z.page.loaded : SPage },
    kept := z.kept : SVisit }) fun z27 =>
                            .ob ((0 : Int) ≤ y1.snd.fst ∧ y1.snd.fst < (↑z27.length : Int)) <|
                             .ob (y1.snd.fst.toNat < z27.length) <|
                             .ob (fmarkSlotS.pre (z27.getD y1.snd.fst.toNat default).page.slots z26.snd) <|
                             .lt (List SSlot × Int) (fmarkSlotS.fn (z27.getD y1.snd.fst.toNat default).page.slots z26.snd) fun z28 =>
                             .lt (List SVisit) (z27.modify y1.snd.fst.toNat fun z =>
  { addr := z.addr,
    page :=
      { addr := z.page.addr, policy := z.page.policy, tok := z.page.tok, queue := z.page.queue, ended := z.page.ended,
        builder := z.page.builder, slots := z28.fst, mods := z.page.mods, entries := z.page.entries,
        block := z.page.block, inline := z.page.inline, deferred := z.page.deferred, entered := z.page.entered,
        ran := z.page.ran, log := z.page.log, loaded := z.page.loaded : SPage },
    kept := z.kept : SVisit }) fun z29 =>
                              .ob ((0 : Int) ≤ y1.snd.fst ∧ y1.snd.fst < (↑z29.length : Int)) <|
                               .ob (y1.snd.fst.toNat < z29.length) <|
                               .ob (fmarkModuleS.pre (z29.getD y1.snd.fst.toNat default).page.mods z28.snd) <|
                               .lt (List SModule × Int) (fmarkModuleS.fn (z29.getD y1.snd.fst.toNat default).page.mods z28.snd) fun z30 =>
                               .lt (List SVisit) (z29.modify y1.snd.fst.toNat fun z =>
  { addr := z.addr,
    page :=
      { addr := z.page.addr, policy := z.page.policy, tok := z.page.tok, queue := z.page.queue, ended := z.page.ended,
        builder := z.page.builder, slots := z.page.slots, mods := z30.fst, entries := z.page.entries,
        block := z.page.block, inline := z.page.inline, deferred := z.page.deferred, entered := z.page.entered,
        ran := z.page.ran, log := z.page.log, loaded := z.page.loaded : SPage },
    kept := z.kept : SVisit }) fun z31 =>
                                .ob ((0 : Int) ≤ y1.snd.fst ∧ y1.snd.fst < (↑z31.length : Int)) <|
                                 .ob (y1.snd.fst.toNat < z31.length) <|
                                 .ob (fmarkAddrS.pre (z31.getD y1.snd.fst.toNat default).page.entries z30.snd) <|
                                 .lt (List SAddr × Int) (fmarkAddrS.fn (z31.getD y1.snd.fst.toNat default).page.entries z30.snd) fun z32 =>
                                 .lt (List SVisit) (z31.modify y1.snd.fst.toNat fun z =>
  { addr := z.addr,
    page :=
      { addr := z.page.addr, policy := z.page.policy, tok := z.page.tok, queue := z.page.queue, ended := z.page.ended,
        builder := z.page.builder, slots := z.page.slots, mods := z.page.mods, entries := z32.fst,
        block := z.page.block, inline := z.page.inline, deferred := z.page.deferred, entered := z.page.entered,
        ran := z.page.ran, log := z.page.log, loaded := z.page.loaded : SPage },
    kept := z.kept : SVisit }) fun z33 =>
                                  .ob ((0 : Int) ≤ y1.snd.fst ∧ y1.snd.fst < (↑z33.length : Int)) <|
                                   .ob (y1.snd.fst.toNat < z33.length) <|
                                   .lt (List SVisit) (z33.modify y1.snd.fst.toNat fun z =>
  { addr := z.addr,
    page :=
      { addr := z.page.addr, policy := z.page.policy, tok := z.page.tok, queue := z.page.queue, ended := z.page.ended,
        builder := z.page.builder, slots := z.page.slots, mods := z.page.mods, entries := z.page.entries,
        block := z32.snd, inline := z.page.inline, deferred := z.page.deferred, entered := z.page.entered,
        ran := z.page.ran, log := z.page.log, loaded := z.page.loaded : SPage },
    kept := z.kept : SVisit }) fun z34 =>
                                   .ob ((0 : Int) ≤ y1.snd.fst ∧ y1.snd.fst < (↑z34.length : Int)) <|
                                    .ob (y1.snd.fst.toNat < z34.length) <|
                                    .lt (List SVisit) (z34.modify y1.snd.fst.toNat fun z =>
  { addr := z.addr,
    page :=
      { addr := z.page.addr, policy := z.page.policy, tok := z.page.tok, queue := z.page.queue, ended := z.page.ended,
        builder := z.page.builder, slots := z.page.slots, mods := z.page.mods, entries := z.page.entries,
        block := z.page.block, inline := IntKind.i64.wrap (z32.snd + (1 : Int)), deferred := z.page.deferred,
        entered := z.page.entered, ran := z.page.ran, log := z.page.log, loaded := z.page.loaded : SPage },
    kept := z.kept : SVisit }) fun z35 =>
                                    .ob ((0 : Int) ≤ y1.snd.fst ∧ y1.snd.fst < (↑z35.length : Int)) <|
                                     .ob (y1.snd.fst.toNat < z35.length) <|
                                     .lt (List SVisit) (z35.modify y1.snd.fst.toNat fun z =>
  { addr := z.addr,
    page :=
      { addr := z.page.addr, policy := z.page.policy, tok := z.page.tok, queue := z.page.queue, ended := z.page.ended,
        builder := z.page.builder, slots := z.page.slots, mods := z.page.mods, entries := z.page.entries,
        block := z.page.block, inline := z.page.inline,
        deferred := IntKind.i64.wrap (IntKind.i64.wrap (z32.snd + (1 : Int)) + (1 : Int)), entered := z.page.entered,
        ran := z.page.ran, log := z.page.log, loaded := z.page.loaded : SPage },
    kept := z.kept : SVisit }) fun z36 =>
                                     .ob ((0 : Int) ≤ y1.snd.fst ∧ y1.snd.fst < (↑z36.length : Int)) <|
                                      .ob (y1.snd.fst.toNat < z36.length) <|
                                      .lt (List SVisit) (z36.modify y1.snd.fst.toNat fun z =>
  { addr := z.addr,
    page :=
      { addr := z.page.addr, policy := z.page.policy, tok := z.page.tok, queue := z.page.queue, ended := z.page.ended,
        builder := z.page.builder, slots := z.page.slots, mods := z.page.mods, entries := z.page.entries,
        block := z.page.block, inline := z.page.inline, deferred := z.page.deferred,
        entered := IntKind.i64.wrap (IntKind.i64.wrap (IntKind.i64.wrap (z32.snd + (1 : Int)) + (1 : Int)) + (1 : Int)),
        ran := z.page.ran, log := z.page.log, loaded := z.page.loaded : SPage },
    kept := z.kept : SVisit }) fun z37 =>
                                      .ob ((0 : Int) ≤ y1.snd.fst ∧ y1.snd.fst < (↑z37.length : Int)) <|
                                       .ob (y1.snd.fst.toNat < z37.length) <|
                                       .ob (fmarkAddrS.pre (z37.getD y1.snd.fst.toNat default).page.ran
  (IntKind.i64.wrap
    (IntKind.i64.wrap (IntKind.i64.wrap (IntKind.i64.wrap (z32.snd + (1 : Int)) + (1 : Int)) + (1 : Int)) + (1 : Int)))) <|
                                       .lt (List SAddr × Int) (fmarkAddrS.fn (z37.getD y1.snd.fst.toNat default).page.ran
  (IntKind.i64.wrap
    (IntKind.i64.wrap (IntKind.i64.wrap (IntKind.i64.wrap (z32.snd + (1 : Int)) + (1 : Int)) + (1 : Int)) + (1 : Int)))) fun z38 =>
                                       .lt (List SVisit) (z37.modify y1.snd.fst.toNat fun z =>
  { addr := z.addr,
    page :=
      { addr := z.page.addr, policy := z.page.policy, tok := z.page.tok, queue := z.page.queue, ended := z.page.ended,
        builder := z.page.builder, slots := z.page.slots, mods := z.page.mods, entries := z.page.entries,
        block := z.page.block, inline := z.page.inline, deferred := z.page.deferred, entered := z.page.entered,
        ran := z38.fst, log := z.page.log, loaded := z.page.loaded : SPage },
    kept := z.kept : SVisit }) fun z39 =>
                                        .ob ((0 : Int) ≤ y1.snd.fst ∧ y1.snd.fst < (↑z39.length : Int)) <|
                                         .ob (y1.snd.fst.toNat < z39.length) <|
                                         .ob (fmarkStringS.pre (z39.getD y1.snd.fst.toNat default).page.log z38.snd) <|
                                         .lt (List ByteArray × Int) (fmarkStringS.fn (z39.getD y1.snd.fst.toNat default).page.log z38.snd) fun z40 =>
                                         .lt (List SVisit) (z39.modify y1.snd.fst.toNat fun z =>
  { addr := z.addr,
    page :=
      { addr := z.page.addr, policy := z.page.policy, tok := z.page.tok, queue := z.page.queue, ended := z.page.ended,
        builder := z.page.builder, slots := z.page.slots, mods := z.page.mods, entries := z.page.entries,
        block := z.page.block, inline := z.page.inline, deferred := z.page.deferred, entered := z.page.entered,
        ran := z.page.ran, log := z40.fst, loaded := z.page.loaded : SPage },
    kept := z.kept : SVisit }) fun z41 =>
                                          .ob ((3 : Int) ≠ (0 : Int)) <|
                                           .ob ((0 : Int) ≤ y1.snd.fst ∧ y1.snd.fst < (↑z41.length : Int)) <|
                                           .ob (y1.snd.fst.toNat < z41.length) <|
                                           .lt (List SVisit) (z41.modify y1.snd.fst.toNat fun z =>
  { addr := z.addr,
    page :=
      { addr := z.page.addr, policy := z.page.policy, tok := z.page.tok, queue := z.page.queue, ended := z.page.ended,
        builder := z.page.builder, slots := z.page.slots, mods := z.page.mods, entries := z.page.entries,
        block := z.page.block, inline := z.page.inline, deferred := z.page.deferred, entered := z.page.entered,
        ran := z.page.ran, log := z.page.log, loaded := z40.snd.tmod (3 : Int) == (0 : Int) : SPage },
    kept := z.kept : SVisit }) fun z42 =>
                                           .ob ((3 : Int) ≠ (0 : Int)) <|
                                            .ob ((0 : Int) ≤ y1.snd.fst ∧ y1.snd.fst < (↑z42.length : Int)) <|
                                            .ob (y1.snd.fst.toNat < z42.length) <|
                                            .lt (List SVisit) (z42.modify y1.snd.fst.toNat fun z =>
  { addr := z.addr, page := z.page, kept := (IntKind.i64.wrap (z40.snd + (1 : Int))).tmod (3 : Int) == (0 : Int) :
    SVisit }) fun z43 =>
                                            .ob (Value.int IntKind.i64 (0 : Int) = Value.int IntKind.i64 (0 : Int)) <|
                                             .ob (bk1 (IntKind.i64.wrap (IntKind.i64.wrap (z40.snd + (1 : Int)) + (1 : Int)), (IntKind.i64.wrap (y1.snd.fst + (1 : Int)), (z43, ())))) <|
                                             .ok)
  (.leaf (.one false [vi (y1.fst)]) [] [((0 : Nat), ⟨Ty.visit, y1.snd.snd.fst⟩)])) (by kernel_rfl) ?_
  refine lpx_i ?_ fun (y1 : Int × Int × List SVisit × PUnit) i1 => ?_
  · exact ⟨by simp, by simp, by simp [markL], by simp [markL]⟩
  have hp1 : 0 ≤ k := hp.1
  have hp2 : (markL mkVisit l k).2 ≤ 4000000000000000000 := hp.2
  have i3 : 0 ≤ y1.2.1 ∧ y1.2.1 ≤ l.length ∧ y1.1 = (markL mkVisit (l.take y1.2.1.toNat) k).2 ∧ y1.2.2.1 = (markL mkVisit (l.take y1.2.1.toNat) k).1 ++ l.drop y1.2.1.toNat := i1
  have hcnt := markL_cnt (f := mkVisit) mkVisit_cnt l k
  have hx : y1.2.2.1.length = l.length := by rw [i3.2.2.2, List.length_append, markL_len, List.length_take, List.length_drop]; omega
  refine br_i (fun h2 => ?_) (fun h2 => ?_)
  · simp only [decide_eq_true_eq, decide_eq_false_iff_not, hx] at h2
    clear i1 hp
    have hlt : y1.2.1.toNat < l.length := by omega
    have ht := markL_take (f := mkVisit) hlt k
    have hle := (markL_take_le mkVisit_mono l (y1.2.1.toNat + 1) k).2
    have hl0 := (markL_take_le mkVisit_mono l y1.2.1.toNat k).1
    rw [ht] at hle
    rw [← i3.2.2.1] at hle hl0 ht
    have i4 : y1.2.2.1 = (markL mkVisit (l.take y1.2.1.toNat) k).1 ++ l.getD y1.2.1.toNat default :: l.drop (y1.2.1.toNat + 1) := by rw [i3.2.2.2, drop_cons hlt]
    have hA : (markL mkVisit (l.take y1.2.1.toNat) k).1.length = y1.2.1.toNat := by rw [markL_len, List.length_take]; omega
    simp only [mkVisit] at hle
    have m1 := mkStringS_mono (l.getD y1.2.1.toNat default).page.policy.scripts (y1.1 + 5)
    generalize hr1 : markL mkString (l.getD y1.2.1.toNat default).page.policy.scripts (y1.1 + 5) = r1 at *
    have m2 := mkStringS_mono (l.getD y1.2.1.toNat default).page.policy.styles (r1.2)
    generalize hr2 : markL mkString (l.getD y1.2.1.toNat default).page.policy.styles (r1.2) = r2 at *
    have m3 := mkStringS_mono (l.getD y1.2.1.toNat default).page.policy.images (r2.2)
    generalize hr3 : markL mkString (l.getD y1.2.1.toNat default).page.policy.images (r2.2) = r3 at *
    have m4 := mkTokenS_mono (l.getD y1.2.1.toNat default).page.queue (r3.2 + 2)
    generalize hr4 : markL mkToken (l.getD y1.2.1.toNat default).page.queue (r3.2 + 2) = r4 at *
    have m5 := mkNodeS_mono (l.getD y1.2.1.toNat default).page.builder.nodes (r4.2 + 1)
    generalize hr5 : markL mkNode (l.getD y1.2.1.toNat default).page.builder.nodes (r4.2 + 1) = r5 at *
    have m6 := mkIntS_mono (l.getD y1.2.1.toNat default).page.builder.open_ (r5.2)
    generalize hr6 : markL mkInt (l.getD y1.2.1.toNat default).page.builder.open_ (r5.2) = r6 at *
    have m7 := mkSlotS_mono (l.getD y1.2.1.toNat default).page.slots (r6.2)
    generalize hr7 : markL mkSlot (l.getD y1.2.1.toNat default).page.slots (r6.2) = r7 at *
    have m8 := mkModuleS_mono (l.getD y1.2.1.toNat default).page.mods (r7.2)
    generalize hr8 : markL mkModule (l.getD y1.2.1.toNat default).page.mods (r7.2) = r8 at *
    have m9 := mkAddrS_mono (l.getD y1.2.1.toNat default).page.entries (r8.2)
    generalize hr9 : markL mkAddr (l.getD y1.2.1.toNat default).page.entries (r8.2) = r9 at *
    have m10 := mkAddrS_mono (l.getD y1.2.1.toNat default).page.ran (r9.2 + 4)
    generalize hr10 : markL mkAddr (l.getD y1.2.1.toNat default).page.ran (r9.2 + 4) = r10 at *
    have m11 := mkStringS_mono (l.getD y1.2.1.toNat default).page.log (r10.2)
    generalize hr11 : markL mkString (l.getD y1.2.1.toNat default).page.log (r10.2) = r11 at *
    repeat first
      | ((fail_if_success with_reducible refine ob_d ?_ ?_); refine lt_e fun z e => ?_; simp (disch := omega) only [i4, mod_at hA, getD_at hA, fmarkText, fmarkAddrS, fmarkIntS, fmarkModuleS, fmarkNodeS, fmarkSlotS, fmarkStringS, fmarkTokenS, wrapId', Int.add_assoc, Int.reduceAdd, hr1, hr2, hr3, hr4, hr5, hr6, hr7, hr8, hr9, hr10, hr11, List.length_append, List.length_cons, List.length_drop, hA] at e; subst e)
      | ((with_reducible refine ob_d ?_ ?_); · first | trivial | omega | (refine ⟨?_, ?_⟩ <;> omega) | (simp (disch := omega) only [i4, mod_at hA, getD_at hA, fmarkText, fmarkAddrS, fmarkIntS, fmarkModuleS, fmarkNodeS, fmarkSlotS, fmarkStringS, fmarkTokenS, wrapId', Int.add_assoc, Int.reduceAdd, hr1, hr2, hr3, hr4, hr5, hr6, hr7, hr8, hr9, hr10, hr11, List.length_append, List.length_cons, List.length_drop, hA]; first | done | trivial | omega | (refine ⟨?_, ?_⟩ <;> omega)))
    refine ob_d ?_ trivial
    simp (disch := omega) only [i4, mod_at hA, getD_at hA, fmarkText, fmarkAddrS, fmarkIntS, fmarkModuleS, fmarkNodeS, fmarkSlotS, fmarkStringS, fmarkTokenS, wrapId', Int.add_assoc, Int.reduceAdd, hr1, hr2, hr3, hr4, hr5, hr6, hr7, hr8, hr9, hr10, hr11, List.length_append, List.length_cons, List.length_drop, hA]
    refine ⟨⟨by omega, by omega, ?_, ?_⟩, by omega⟩
    · rw [toNat1 (by omega), ht]
      simp only [mkVisit, Int.add_assoc, Int.reduceAdd, hr1, hr2, hr3, hr4, hr5, hr6, hr7, hr8, hr9, hr10, hr11]
    · rw [toNat1 (by omega), ht]
      simp only [mkVisit, Int.add_assoc, Int.reduceAdd, hr1, hr2, hr3, hr4, hr5, hr6, hr7, hr8, hr9, hr10, hr11, List.append_assoc, List.cons_append, List.nil_append]
  · simp only [decide_eq_false_iff_not, hx] at h2
    refine MS.leafL (t := .visit) (fn := fun l k => markL mkVisit l k) ?_
    have e1 : l.take y1.2.1.toNat = l := List.take_of_length_le (by omega)
    have e2 : l.drop y1.2.1.toNat = [] := List.drop_of_length_le (by omega)
    rw [i3.2.2.2, i3.2.2.1, e1, e2, List.append_nil])
def E81 : D.Env := E80.addM 51 fmarkVisitS
theorem E81ok : EOk Tryz.prog E81 := E80ok.addM k51_80
-- laws.heldVisitS
set_option maxHeartbeats 0 in
theorem k59_81 : fheldVisitS.ok Tryz.prog 59 := Fct.of (S := fheldVisitS) (L := fun ⟨l, k, _⟩ => fun | 2 => some (LheS .visit mkVisit l k) | _ => none) (kp := [0,1,4,5,9,20,31,43,55,68,81,92,103,113,125,137,147,160,171,181,191,201,209,219,229,239,251,261,271,282,1000009,1000020,1000031,1000043,1000055,1000068,1000081,1000092,1000103,1000113,1000125,1000137,1000147,1000160,1000171,1000181,1000191,1000201,1000209,1000219,1000229,1000239,1000251,1000261,1000271,1000282]) E81ok Tryz.func59 (by kernel_rfl) (by kernel_rfl) (by
  rintro ⟨(l : List SVisit), (k : Int), _⟩ hp
  refine holds_of (X := lpx (LheS .visit mkVisit l k) (k, ((0 : Int), ())) fun (y1 : Int × Int × PUnit) bk1 =>
 .br (decide (y1.snd.fst < (↑l.length : Int)))
  (.ob ((0 : Int) ≤ y1.snd.fst ∧ y1.snd.fst < (↑l.length : Int)) <|
   .ob (fmarkText.pre (y1.fst, ())) <|
   .lt (ByteArray × PUnit) (fmarkText.fn (y1.fst, ())) fun z2 =>
   .br (!(l.getD y1.snd.fst.toNat default).addr.host.toList == z2.fst.toList)
    (.leaf (mkR fheldVisitS.rs ((-1 : Int), ())) [] [])
    (.ob ((0 : Int) ≤ y1.snd.fst ∧ y1.snd.fst < (↑l.length : Int)) <|
     .ob (fmarkText.pre (IntKind.i64.wrap (y1.fst + (1 : Int)), ())) <|
     .lt (ByteArray × PUnit) (fmarkText.fn (IntKind.i64.wrap (y1.fst + (1 : Int)), ())) fun z3 =>
     .br (!(l.getD y1.snd.fst.toNat default).addr.path.toList == z3.fst.toList)
      (.leaf (mkR fheldVisitS.rs ((-1 : Int), ())) [] [])
      (.ob ((0 : Int) ≤ y1.snd.fst ∧ y1.snd.fst < (↑l.length : Int)) <|
       .ob (fmarkText.pre (IntKind.i64.wrap (IntKind.i64.wrap (y1.fst + (1 : Int)) + (1 : Int)), ())) <|
       .lt (ByteArray × PUnit) (fmarkText.fn (IntKind.i64.wrap (IntKind.i64.wrap (y1.fst + (1 : Int)) + (1 : Int)), ())) fun z4 =>
       .br (!(l.getD y1.snd.fst.toNat default).page.addr.host.toList == z4.fst.toList)
        (.leaf (mkR fheldVisitS.rs ((-1 : Int), ())) [] [])
        (.ob ((0 : Int) ≤ y1.snd.fst ∧ y1.snd.fst < (↑l.length : Int)) <|
         .ob (fmarkText.pre (IntKind.i64.wrap (IntKind.i64.wrap (IntKind.i64.wrap (y1.fst + (1 : Int)) + (1 : Int)) + (1 : Int)), ())) <|
         .lt (ByteArray × PUnit) (fmarkText.fn (IntKind.i64.wrap (IntKind.i64.wrap (IntKind.i64.wrap (y1.fst + (1 : Int)) + (1 : Int)) + (1 : Int)), ())) fun z5 =>
         .br (!(l.getD y1.snd.fst.toNat default).page.addr.path.toList == z5.fst.toList)
          (.leaf (mkR fheldVisitS.rs ((-1 : Int), ())) [] [])
          (.ob ((0 : Int) ≤ y1.snd.fst ∧ y1.snd.fst < (↑l.length : Int)) <|
           .ob ((3 : Int) ≠ (0 : Int)) <|
           .br (!(l.getD y1.snd.fst.toNat default).page.policy.set_ ==
    ((IntKind.i64.wrap
            (IntKind.i64.wrap (IntKind.i64.wrap (IntKind.i64.wrap (y1.fst + (1 : Int)) + (1 : Int)) + (1 : Int)) +
              (1 : Int))).tmod
        (3 : Int) ==
      (0 : Int)))
           (.leaf (mkR fheldVisitS.rs ((-1 : Int), ())) [] [])
           (.ob ((0 : Int) ≤ y1.snd.fst ∧ y1.snd.fst < (↑l.length : Int)) <|
            .ob (fheldStringS.pre
  ((l.getD y1.snd.fst.toNat default).page.policy.scripts,
    IntKind.i64.wrap
      (IntKind.i64.wrap
          (IntKind.i64.wrap (IntKind.i64.wrap (IntKind.i64.wrap (y1.fst + (1 : Int)) + (1 : Int)) + (1 : Int)) +
            (1 : Int)) +
        (1 : Int)),
    ())) <|
            .lt (Int × PUnit) (fheldStringS.fn
  ((l.getD y1.snd.fst.toNat default).page.policy.scripts,
    IntKind.i64.wrap
      (IntKind.i64.wrap
          (IntKind.i64.wrap (IntKind.i64.wrap (IntKind.i64.wrap (y1.fst + (1 : Int)) + (1 : Int)) + (1 : Int)) +
            (1 : Int)) +
        (1 : Int)),
    ())) fun z6 =>
            .br (decide (z6.fst < (0 : Int)))
             (.leaf (mkR fheldVisitS.rs ((-1 : Int), ())) [] [])
             (.ob ((0 : Int) ≤ y1.snd.fst ∧ y1.snd.fst < (↑l.length : Int)) <|
              .ob (fheldStringS.pre ((l.getD y1.snd.fst.toNat default).page.policy.styles, z6.fst, ())) <|
              .lt (Int × PUnit) (fheldStringS.fn ((l.getD y1.snd.fst.toNat default).page.policy.styles, z6.fst, ())) fun z7 =>
              .br (decide (z7.fst < (0 : Int)))
               (.leaf (mkR fheldVisitS.rs ((-1 : Int), ())) [] [])
               (.ob ((0 : Int) ≤ y1.snd.fst ∧ y1.snd.fst < (↑l.length : Int)) <|
                .ob (fheldStringS.pre ((l.getD y1.snd.fst.toNat default).page.policy.images, z7.fst, ())) <|
                .lt (Int × PUnit) (fheldStringS.fn ((l.getD y1.snd.fst.toNat default).page.policy.images, z7.fst, ())) fun z8 =>
                .br (decide (z8.fst < (0 : Int)))
                 (.leaf (mkR fheldVisitS.rs ((-1 : Int), ())) [] [])
                 (.ob ((0 : Int) ≤ y1.snd.fst ∧ y1.snd.fst < (↑l.length : Int)) <|
                  .ob (fmarkText.pre (z8.fst, ())) <|
                  .lt (ByteArray × PUnit) (fmarkText.fn (z8.fst, ())) fun z9 =>
                  .br (!(l.getD y1.snd.fst.toNat default).page.policy.nonce.toList == z9.fst.toList)
                   (.leaf (mkR fheldVisitS.rs ((-1 : Int), ())) [] [])
                   (.ob ((0 : Int) ≤ y1.snd.fst ∧ y1.snd.fst < (↑l.length : Int)) <|
                    .ob (fmarkText.pre (IntKind.i64.wrap (z8.fst + (1 : Int)), ())) <|
                    .lt (ByteArray × PUnit) (fmarkText.fn (IntKind.i64.wrap (z8.fst + (1 : Int)), ())) fun z10 =>
                    .br (!(l.getD y1.snd.fst.toNat default).page.tok.rest.toList == z10.fst.toList)
                     (.leaf (mkR fheldVisitS.rs ((-1 : Int), ())) [] [])
                     (.ob ((0 : Int) ≤ y1.snd.fst ∧ y1.snd.fst < (↑l.length : Int)) <|
                      .ob (fheldTokenS.pre
  ((l.getD y1.snd.fst.toNat default).page.queue, IntKind.i64.wrap (IntKind.i64.wrap (z8.fst + (1 : Int)) + (1 : Int)),
    ())) <|
                      .lt (Int × PUnit) (fheldTokenS.fn
  ((l.getD y1.snd.fst.toNat default).page.queue, IntKind.i64.wrap (IntKind.i64.wrap (z8.fst + (1 : Int)) + (1 : Int)),
    ())) fun z11 =>
                      .br (decide (z11.fst < (0 : Int)))
                       (.leaf (mkR fheldVisitS.rs ((-1 : Int), ())) [] [])
                       (.ob ((0 : Int) ≤ y1.snd.fst ∧ y1.snd.fst < (↑l.length : Int)) <|
                        .ob ((3 : Int) ≠ (0 : Int)) <|
                        .br (!(l.getD y1.snd.fst.toNat default).page.ended == (z11.fst.tmod (3 : Int) == (0 : Int)))
                        (.leaf (mkR fheldVisitS.rs ((-1 : Int), ())) [] [])
                        (.ob ((0 : Int) ≤ y1.snd.fst ∧ y1.snd.fst < (↑l.length : Int)) <|
                         .ob (fheldNodeS.pre ((l.getD y1.snd.fst.toNat default).page.builder.nodes, IntKind.i64.wrap (z11.fst + (1 : Int)), ())) <|
                         .lt (Int × PUnit) (fheldNodeS.fn ((l.getD y1.snd.fst.toNat default).page.builder.nodes, IntKind.i64.wrap (z11.fst + (1 : Int)), ())) fun z12 =>
                         .br (decide (z12.fst < (0 : Int)))
                          (.leaf (mkR fheldVisitS.rs ((-1 : Int), ())) [] [])
                          (.ob ((0 : Int) ≤ y1.snd.fst ∧ y1.snd.fst < (↑l.length : Int)) <|
                           .ob (fheldIntS.pre ((l.getD y1.snd.fst.toNat default).page.builder.open_, z12.fst, ())) <|
                           .lt (Int × PUnit) (fheldIntS.fn ((l.getD y1.snd.fst.toNat default).page.builder.open_, z12.fst, ())) fun z13 =>
                           .br (decide (z13.fst < (0 : Int)))
                            (.leaf (mkR fheldVisitS.rs ((-1 : Int), ())) [] [])
                            (.ob ((0 : Int) ≤ y1.snd.fst ∧ y1.snd.fst < (↑l.length : Int)) <|
                             .ob (fheldSlotS.pre ((l.getD y1.snd.fst.toNat default).page.slots, z13.fst, ())) <|
                             .lt (Int × PUnit) (fheldSlotS.fn ((l.getD y1.snd.fst.toNat default).page.slots, z13.fst, ())) fun z14 =>
                             .br (decide (z14.fst < (0 : Int)))
                              (.leaf (mkR fheldVisitS.rs ((-1 : Int), ())) [] [])
                              (.ob ((0 : Int) ≤ y1.snd.fst ∧ y1.snd.fst < (↑l.length : Int)) <|
                               .ob (fheldModuleS.pre ((l.getD y1.snd.fst.toNat default).page.mods, z14.fst, ())) <|
                               .lt (Int × PUnit) (fheldModuleS.fn ((l.getD y1.snd.fst.toNat default).page.mods, z14.fst, ())) fun z15 =>
                               .br (decide (z15.fst < (0 : Int)))
                                (.leaf (mkR fheldVisitS.rs ((-1 : Int), ())) [] [])
                                (.ob ((0 : Int) ≤ y1.snd.fst ∧ y1.snd.fst < (↑l.length : Int)) <|
                                 .ob (fheldAddrS.pre ((l.getD y1.snd.fst.toNat default).page.entries, z15.fst, ())) <|
                                 .lt (Int × PUnit) (fheldAddrS.fn ((l.getD y1.snd.fst.toNat default).page.entries, z15.fst, ())) fun z16 =>
                                 .br (decide (z16.fst < (0 : Int)))
                                  (.leaf (mkR fheldVisitS.rs ((-1 : Int), ())) [] [])
                                  (.ob ((0 : Int) ≤ y1.snd.fst ∧ y1.snd.fst < (↑l.length : Int)) <|
                                   .br ((l.getD y1.snd.fst.toNat default).page.block != z16.fst)
                                   (.leaf (mkR fheldVisitS.rs ((-1 : Int), ())) [] [])
                                   (.ob ((0 : Int) ≤ y1.snd.fst ∧ y1.snd.fst < (↑l.length : Int)) <|
                                    .br ((l.getD y1.snd.fst.toNat default).page.inline != IntKind.i64.wrap (z16.fst + (1 : Int)))
                                    (.leaf (mkR fheldVisitS.rs ((-1 : Int), ())) [] [])
                                    (.ob ((0 : Int) ≤ y1.snd.fst ∧ y1.snd.fst < (↑l.length : Int)) <|
                                     .br ((l.getD y1.snd.fst.toNat default).page.deferred != IntKind.i64.wrap (IntKind.i64.wrap (z16.fst + (1 : Int)) + (1 : Int)))
                                     (.leaf (mkR fheldVisitS.rs ((-1 : Int), ())) [] [])
                                     (.ob ((0 : Int) ≤ y1.snd.fst ∧ y1.snd.fst < (↑l.length : Int)) <|
                                      .br ((l.getD y1.snd.fst.toNat default).page.entered !=
  IntKind.i64.wrap (IntKind.i64.wrap (IntKind.i64.wrap (z16.fst + (1 : Int)) + (1 : Int)) + (1 : Int)))
                                      (.leaf (mkR fheldVisitS.rs ((-1 : Int), ())) [] [])
                                      (.ob ((0 : Int) ≤ y1.snd.fst ∧ y1.snd.fst < (↑l.length : Int)) <|
                                       .ob (fheldAddrS.pre
  ((l.getD y1.snd.fst.toNat default).page.ran,
    IntKind.i64.wrap
      (IntKind.i64.wrap (IntKind.i64.wrap (IntKind.i64.wrap (z16.fst + (1 : Int)) + (1 : Int)) + (1 : Int)) +
        (1 : Int)),
    ())) <|
                                       .lt (Int × PUnit) (fheldAddrS.fn
  ((l.getD y1.snd.fst.toNat default).page.ran,
    IntKind.i64.wrap
      (IntKind.i64.wrap (IntKind.i64.wrap (IntKind.i64.wrap (z16.fst + (1 : Int)) + (1 : Int)) + (1 : Int)) +
        (1 : Int)),
    ())) fun z17 =>
                                       .br (decide (z17.fst < (0 : Int)))
                                        (.leaf (mkR fheldVisitS.rs ((-1 : Int), ())) [] [])
                                        (.ob ((0 : Int) ≤ y1.snd.fst ∧ y1.snd.fst < (↑l.length : Int)) <|
                                         .ob (fheldStringS.pre ((l.getD y1.snd.fst.toNat default).page.log, z17.fst, ())) <|
                                         .lt (Int × PUnit) (fheldStringS.fn ((l.getD y1.snd.fst.toNat default).page.log, z17.fst, ())) fun z18 =>
                                         .br (decide (z18.fst < (0 : Int)))
                                          (.leaf (mkR fheldVisitS.rs ((-1 : Int), ())) [] [])
                                          (.ob ((0 : Int) ≤ y1.snd.fst ∧ y1.snd.fst < (↑l.length : Int)) <|
                                           .ob ((3 : Int) ≠ (0 : Int)) <|
                                           .br (!(l.getD y1.snd.fst.toNat default).page.loaded == (z18.fst.tmod (3 : Int) == (0 : Int)))
                                           (.leaf (mkR fheldVisitS.rs ((-1 : Int), ())) [] [])
                                           (.ob ((0 : Int) ≤ y1.snd.fst ∧ y1.snd.fst < (↑l.length : Int)) <|
                                            .ob ((3 : Int) ≠ (0 : Int)) <|
                                            .br (!(l.getD y1.snd.fst.toNat default).kept == ((IntKind.i64.wrap (z18.fst + (1 : Int))).tmod (3 : Int) == (0 : Int)))
                                            (.leaf (mkR fheldVisitS.rs ((-1 : Int), ())) [] [])
                                            (.ob (l = l) <|
                                             .ob (bk1 (IntKind.i64.wrap (IntKind.i64.wrap (z18.fst + (1 : Int)) + (1 : Int)), (IntKind.i64.wrap (y1.snd.fst + (1 : Int)), ()))) <|
                                             .ok))))))))))))))))))))))))))
  (.leaf (mkR fheldVisitS.rs (y1.fst, ())) [] [])) (by kernel_rfl) ?_
  refine lpx_i ?_ fun (y1 : Int × Int × PUnit) i1 => ?_
  · exact ⟨by simp, by simp, by simp [markL]⟩
  have hp1 : 0 ≤ k := hp.1
  have hp2 : (markL mkVisit l k).2 ≤ 4000000000000000000 := hp.2.1
  have hp3 : (markL mkVisit l k).1 = l := hp.2.2
  have i3 : 0 ≤ y1.2.1 ∧ y1.2.1 ≤ l.length ∧ y1.1 = (markL mkVisit (l.take y1.2.1.toNat) k).2 := i1
  have hcnt := markL_cnt (f := mkVisit) mkVisit_cnt l k
  refine br_i (fun h2 => ?_) (fun h2 => ?_)
  · simp only [decide_eq_true_eq, decide_eq_false_iff_not] at h2
    clear i1 hp
    have hlt : y1.2.1.toNat < l.length := by omega
    have ht := markL_take (f := mkVisit) hlt k
    have hle := (markL_take_le mkVisit_mono l (y1.2.1.toNat + 1) k).2
    have hl0 := (markL_take_le mkVisit_mono l y1.2.1.toNat k).1
    have heq := markL_held hp3 hlt
    rw [ht] at hle
    rw [← i3.2.2] at hle hl0 ht heq
    have q1 := congrArg (fun z : SVisit => z.addr.host) heq
    have q2 := congrArg (fun z : SVisit => z.addr.path) heq
    have q3 := congrArg (fun z : SVisit => z.page.addr.host) heq
    have q4 := congrArg (fun z : SVisit => z.page.addr.path) heq
    have q5 := congrArg (fun z : SVisit => z.page.policy.set_) heq
    have q6 := congrArg (fun z : SVisit => z.page.policy.scripts) heq
    have q7 := congrArg (fun z : SVisit => z.page.policy.styles) heq
    have q8 := congrArg (fun z : SVisit => z.page.policy.images) heq
    have q9 := congrArg (fun z : SVisit => z.page.policy.nonce) heq
    have q10 := congrArg (fun z : SVisit => z.page.tok.rest) heq
    have q11 := congrArg (fun z : SVisit => z.page.queue) heq
    have q12 := congrArg (fun z : SVisit => z.page.ended) heq
    have q13 := congrArg (fun z : SVisit => z.page.builder.nodes) heq
    have q14 := congrArg (fun z : SVisit => z.page.builder.open_) heq
    have q15 := congrArg (fun z : SVisit => z.page.slots) heq
    have q16 := congrArg (fun z : SVisit => z.page.mods) heq
    have q17 := congrArg (fun z : SVisit => z.page.entries) heq
    have q18 := congrArg (fun z : SVisit => z.page.block) heq
    have q19 := congrArg (fun z : SVisit => z.page.inline) heq
    have q20 := congrArg (fun z : SVisit => z.page.deferred) heq
    have q21 := congrArg (fun z : SVisit => z.page.entered) heq
    have q22 := congrArg (fun z : SVisit => z.page.ran) heq
    have q23 := congrArg (fun z : SVisit => z.page.log) heq
    have q24 := congrArg (fun z : SVisit => z.page.loaded) heq
    have q25 := congrArg (fun z : SVisit => z.kept) heq
    obtain ⟨E, hE⟩ : ∃ E, E = (mkVisit (l.getD y1.2.1.toNat default) y1.1).2 := ⟨_, rfl⟩
    have hE2 := hE
    simp only [mkVisit] at hle hE2 q1 q2 q3 q4 q5 q6 q7 q8 q9 q10 q11 q12 q13 q14 q15 q16 q17 q18 q19 q20 q21 q22 q23 q24 q25
    clear heq
    have m1 := mkStringS_mono (l.getD y1.2.1.toNat default).page.policy.scripts (y1.1 + 5)
    generalize hr1 : markL mkString (l.getD y1.2.1.toNat default).page.policy.scripts (y1.1 + 5) = r1 at *
    have m2 := mkStringS_mono (l.getD y1.2.1.toNat default).page.policy.styles (r1.2)
    generalize hr2 : markL mkString (l.getD y1.2.1.toNat default).page.policy.styles (r1.2) = r2 at *
    have m3 := mkStringS_mono (l.getD y1.2.1.toNat default).page.policy.images (r2.2)
    generalize hr3 : markL mkString (l.getD y1.2.1.toNat default).page.policy.images (r2.2) = r3 at *
    have m4 := mkTokenS_mono (l.getD y1.2.1.toNat default).page.queue (r3.2 + 2)
    generalize hr4 : markL mkToken (l.getD y1.2.1.toNat default).page.queue (r3.2 + 2) = r4 at *
    have m5 := mkNodeS_mono (l.getD y1.2.1.toNat default).page.builder.nodes (r4.2 + 1)
    generalize hr5 : markL mkNode (l.getD y1.2.1.toNat default).page.builder.nodes (r4.2 + 1) = r5 at *
    have m6 := mkIntS_mono (l.getD y1.2.1.toNat default).page.builder.open_ (r5.2)
    generalize hr6 : markL mkInt (l.getD y1.2.1.toNat default).page.builder.open_ (r5.2) = r6 at *
    have m7 := mkSlotS_mono (l.getD y1.2.1.toNat default).page.slots (r6.2)
    generalize hr7 : markL mkSlot (l.getD y1.2.1.toNat default).page.slots (r6.2) = r7 at *
    have m8 := mkModuleS_mono (l.getD y1.2.1.toNat default).page.mods (r7.2)
    generalize hr8 : markL mkModule (l.getD y1.2.1.toNat default).page.mods (r7.2) = r8 at *
    have m9 := mkAddrS_mono (l.getD y1.2.1.toNat default).page.entries (r8.2)
    generalize hr9 : markL mkAddr (l.getD y1.2.1.toNat default).page.entries (r8.2) = r9 at *
    have m10 := mkAddrS_mono (l.getD y1.2.1.toNat default).page.ran (r9.2 + 4)
    generalize hr10 : markL mkAddr (l.getD y1.2.1.toNat default).page.ran (r9.2 + 4) = r10 at *
    have m11 := mkStringS_mono (l.getD y1.2.1.toNat default).page.log (r10.2)
    generalize hr11 : markL mkString (l.getD y1.2.1.toNat default).page.log (r10.2) = r11 at *
    try simp only [Int.add_assoc, Int.reduceAdd, hr1, hr2, hr3, hr4, hr5, hr6, hr7, hr8, hr9, hr10, hr11] at hle hE2 q1 q2 q3 q4 q5 q6 q7 q8 q9 q10 q11 q12 q13 q14 q15 q16 q17 q18 q19 q20 q21 q22 q23 q24 q25
    repeat first
      | ((with_reducible refine br_i (fun h => ?_) (fun h => ?_)); (· exfalso; simp (disch := omega) only [fmarkText, fheldAddrS, fheldIntS, fheldModuleS, fheldNodeS, fheldSlotS, fheldStringS, fheldTokenS, wrapId', Int.add_assoc, Int.reduceAdd, hr1, hr2, hr3, hr4, hr5, hr6, hr7, hr8, hr9, hr10, hr11, decide_eq_true_eq, decide_eq_false_iff_not, Bool.not_eq_true', Bool.not_eq_false', bne_iff_ne, bne_eq_false_iff_eq, beq_iff_eq, beq_eq_false_iff_ne, baEq, Int.not_lt, ne_eq, Decidable.not_not, decide_not] at h; first | omega | (exact h (by first | assumption | (symm; assumption))) | (simp_all; done)); clear h)
      | ((with_reducible refine ob_d ?_ ?_); · first | trivial | omega | (refine ⟨?_, ?_⟩ <;> omega) | (simp (disch := omega) only [fmarkText, fheldAddrS, fheldIntS, fheldModuleS, fheldNodeS, fheldSlotS, fheldStringS, fheldTokenS, wrapId', Int.add_assoc, Int.reduceAdd, hr1, hr2, hr3, hr4, hr5, hr6, hr7, hr8, hr9, hr10, hr11, decide_eq_true_eq, decide_eq_false_iff_not, Bool.not_eq_true', Bool.not_eq_false', bne_iff_ne, bne_eq_false_iff_eq, beq_iff_eq, beq_eq_false_iff_ne, baEq, Int.not_lt, ne_eq, Decidable.not_not, decide_not]; first | done | trivial | omega | (refine ⟨?_, ?_⟩ <;> omega) | (refine ⟨?_, ?_, ?_⟩ <;> first | omega | assumption | (symm; assumption))))
      | ((fail_if_success with_reducible refine ob_d ?_ ?_); (fail_if_success with_reducible refine br_i ?_ ?_); refine lt_e fun z e => ?_; simp (disch := omega) only [fmarkText, fheldAddrS, fheldIntS, fheldModuleS, fheldNodeS, fheldSlotS, fheldStringS, fheldTokenS, wrapId', Int.add_assoc, Int.reduceAdd, hr1, hr2, hr3, hr4, hr5, hr6, hr7, hr8, hr9, hr10, hr11, decide_eq_true_eq, decide_eq_false_iff_not, Bool.not_eq_true', Bool.not_eq_false', bne_iff_ne, bne_eq_false_iff_eq, beq_iff_eq, beq_eq_false_iff_ne, baEq, Int.not_lt, ne_eq, Decidable.not_not, decide_not] at e; subst e)
    refine ob_d ?_ trivial
    simp (disch := omega) only [fmarkText, fheldAddrS, fheldIntS, fheldModuleS, fheldNodeS, fheldSlotS, fheldStringS, fheldTokenS, wrapId', Int.add_assoc, Int.reduceAdd, hr1, hr2, hr3, hr4, hr5, hr6, hr7, hr8, hr9, hr10, hr11, decide_eq_true_eq, decide_eq_false_iff_not, Bool.not_eq_true', Bool.not_eq_false', bne_iff_ne, bne_eq_false_iff_eq, beq_iff_eq, beq_eq_false_iff_ne, baEq, Int.not_lt, ne_eq, Decidable.not_not, decide_not]
    refine ⟨⟨by omega, by omega, ?_⟩, by omega⟩
    rw [toNat1 (by omega), ht]
    show _ = (mkVisit (l.getD y1.2.1.toNat default) y1.1).2
    rw [← hE]
    omega
  · simp only [decide_eq_true_eq, decide_eq_false_iff_not] at h2
    have e1 : l.take y1.2.1.toNat = l := List.take_of_length_le (by omega)
    rw [e1] at i3
    refine Fct.leafY ?_
    show (y1.1, ()) = ((markL mkVisit l k).2, ())
    rw [i3.2.2])
def E82 : D.Env := E81.add 59 fheldVisitS
theorem E82ok : EOk Tryz.prog E82 := E81ok.add k59_81
-- laws.szTab
set_option maxHeartbeats 2000000 in
theorem k4_82 : fszTab.ok Tryz.prog 4 := Fct.of (S := fszTab) (L := fun _ _ => none) (kp := [1,2,4,10,1000010]) E82ok Tryz.func4 (by kernel_rfl) (by kernel_rfl) (by
  rintro ⟨(x : STab), (n : Int), _⟩ hp
  refine holds_of (X := .ob (fszVisitS.pre (x.visits, n, ())) <|
 .lt (Int × PUnit) (fszVisitS.fn (x.visits, n, ())) fun z2 =>
 .br (decide (z2.fst < (0 : Int)))
  (.leaf (mkR fszTab.rs ((-1 : Int), ())) [] [])
  (.leaf (mkR fszTab.rs (z2.fst, ())) [] [])) (by kernel_rfl) ?_
  refine ob_i ?_ fun o1 => lt_i (br_i (fun h2 => Fct.leafY ?_) (fun h2 => Fct.leafY ?_))
  all_goals try simp only [decide_eq_true_eq, decide_eq_false_iff_not, Bool.not_eq_true', Bool.not_eq_false', bne_iff_ne, bne_eq_false_iff_eq, beq_iff_eq, beq_eq_false_iff_ne, baEq, Int.not_lt, Int.not_le, ne_eq, Decidable.not_not] at *
  all_goals try simp only [fszTab, fszVisitS, etaToken, etaNode, etaBuilder, etaPolicy, etaPage, etaVisit, etaTab, etaServer, etaCache, etaNet, etaLoader, etaSheet, etaResult, etaSlot, etaModule, etaAddr, etaRequest, etaResponse, etaConn, etaGuess, etaEntry, etaSent, etaFile, baSz, List.size_toArray, List.length_cons, List.length_nil, Nat.reduceAdd, Int.toNat_zero, List.drop_zero, decide_eq_true_eq, decide_eq_false_iff_not, Bool.not_eq_true', Bool.not_eq_false', bne_iff_ne, bne_eq_false_iff_eq, beq_iff_eq, beq_eq_false_iff_ne, Bool.not_eq_true, Bool.not_eq_false, ne_eq, Decidable.not_not, baEq, decide_not, Prod.mk.injEq, and_true, true_and, Room, List.nil_append, Nat.zero_add, Int.not_lt, Int.not_le, Sh.good, Sh.fc, enc, List.forall_mem_cons, List.not_mem_nil, false_implies, implies_true, goodC, maxLen] at *
  all_goals grind [wrapId', lessen, szL, szTab])
def E83 : D.Env := E82.add 4 fszTab
theorem E83ok : EOk Tryz.prog E83 := E82ok.add k4_82
-- laws.toTab
theorem k7_83 : ftoTab.ok Tryz.prog 7 := Fct.of (S := ftoTab) (L := fun _ _ => none) (kp := [1,2,3]) E83ok Tryz.func7 (by kernel_rfl) (by kernel_rfl) (by
  rintro ⟨(x : STab), _⟩ hp
  refine holds_of (X := .ob (ftoVisitS.pre (x.visits, ())) <|
 .lt (List SVisit × PUnit) (ftoVisitS.fn (x.visits, ())) fun z2 =>
 .leaf (mkR ftoTab.rs (⟨z2.fst, x.at_⟩, ())) [] []) (by kernel_rfl) ?_
  refine ob_i ?_ fun o1 => lt_i (Fct.leafY ?_)
  all_goals try simp only [decide_eq_true_eq, decide_eq_false_iff_not, Bool.not_eq_true', Bool.not_eq_false', bne_iff_ne, bne_eq_false_iff_eq, beq_iff_eq, beq_eq_false_iff_ne, baEq, Int.not_lt, Int.not_le, ne_eq, Decidable.not_not] at *
  all_goals try simp only [ftoTab, ftoVisitS, etaToken, etaNode, etaBuilder, etaPolicy, etaPage, etaVisit, etaTab, etaServer, etaCache, etaNet, etaLoader, etaSheet, etaResult, etaSlot, etaModule, etaAddr, etaRequest, etaResponse, etaConn, etaGuess, etaEntry, etaSent, etaFile, baSz, List.size_toArray, List.length_cons, List.length_nil, Nat.reduceAdd, Int.toNat_zero, List.drop_zero, decide_eq_true_eq, decide_eq_false_iff_not, Bool.not_eq_true', Bool.not_eq_false', bne_iff_ne, bne_eq_false_iff_eq, beq_iff_eq, beq_eq_false_iff_ne, Bool.not_eq_true, Bool.not_eq_false, ne_eq, Decidable.not_not, baEq, decide_not, Prod.mk.injEq, and_true, true_and, Room, List.nil_append, Nat.zero_add, Int.not_lt, Int.not_le] at *
  all_goals first | trivial | rfl | grind [szL, szTab])
def E84 : D.Env := E83.add 7 ftoTab
theorem E84ok : EOk Tryz.prog E84 := E83ok.add k7_83
-- laws.eqTab
set_option maxHeartbeats 2000000 in
theorem k10_84 : feqTab.ok Tryz.prog 10 := Fct.of (S := feqTab) (L := fun _ _ => none) (kp := [2,3,4,10,15,1000010,1000015]) E84ok Tryz.func10 (by kernel_rfl) (by kernel_rfl) (by
  rintro ⟨(x : STab), (y : STab), _⟩ hp
  refine holds_of (X := .ob (feqVisitS.pre (x.visits, y.visits, ())) <|
 .lt (Bool × PUnit) (feqVisitS.fn (x.visits, y.visits, ())) fun z2 =>
 .br (!z2.fst)
  (.leaf (mkR feqTab.rs (false, ())) [] [])
  (.br (x.at_ != y.at_)
   (.leaf (mkR feqTab.rs (false, ())) [] [])
   (.leaf (mkR feqTab.rs (true, ())) [] []))) (by kernel_rfl) ?_
  refine ob_i ?_ fun o1 => lt_i (br_i (fun h2 => Fct.leafY ?_) (fun h2 => br_i (fun h3 => Fct.leafY ?_) (fun h3 => Fct.leafY ?_)))
  all_goals try simp only [decide_eq_true_eq, decide_eq_false_iff_not, Bool.not_eq_true', Bool.not_eq_false', bne_iff_ne, bne_eq_false_iff_eq, beq_iff_eq, beq_eq_false_iff_ne, baEq, Int.not_lt, Int.not_le, ne_eq, Decidable.not_not] at *
  all_goals try simp only [feqTab, feqVisitS, etaToken, etaNode, etaBuilder, etaPolicy, etaPage, etaVisit, etaTab, etaServer, etaCache, etaNet, etaLoader, etaSheet, etaResult, etaSlot, etaModule, etaAddr, etaRequest, etaResponse, etaConn, etaGuess, etaEntry, etaSent, etaFile, baSz, List.size_toArray, List.length_cons, List.length_nil, Nat.reduceAdd, Int.toNat_zero, List.drop_zero, decide_eq_true_eq, decide_eq_false_iff_not, Bool.not_eq_true', Bool.not_eq_false', bne_iff_ne, bne_eq_false_iff_eq, beq_iff_eq, beq_eq_false_iff_ne, Bool.not_eq_true, Bool.not_eq_false, ne_eq, Decidable.not_not, baEq, decide_not, Prod.mk.injEq, and_true, true_and, Room, List.nil_append, Nat.zero_add, Int.not_lt, Int.not_le] at *
  all_goals first | trivial | (cases x; cases y; simp_all; done) | (simp only [szL, szTab] at *; omega) | grind [szL, szTab])
def E85 : D.Env := E84.add 10 feqTab
theorem E85ok : EOk Tryz.prog E85 := E84ok.add k10_84
-- laws.markTab
set_option maxHeartbeats 2000000 in
theorem k12_85 : fmarkTab.ok Tryz.prog 12 := MS.of (S := fmarkTab) (L := fun _ _ _ => none) (kp := [1,2,4]) (kl := [0]) E85ok Tryz.func12 (by kernel_rfl) (by kernel_rfl) (by
  rintro (x : STab) (k : Int) hp
  refine holds_of (X := .ob (fmarkVisitS.pre x.visits k) <|
 .lt (List SVisit × Int) (fmarkVisitS.fn x.visits k) fun z2 =>
 .leaf (.one false [vi (z2.snd)]) [] [((0 : Nat), ⟨Ty.visit, z2.fst⟩)]) (by kernel_rfl) ?_
  refine ob_d ?_ <| lt_i (MS.leaf ?_)
  all_goals have hp1 : 0 ≤ k := hp.1
  all_goals have hp2 : (mvTab x k).2 ≤ 4000000000000000000 := hp.2
  all_goals clear hp
  all_goals simp only [mvTab] at hp2
  all_goals try have m1 := mkVisitS_mono x.visits (k)
  all_goals try generalize hr1 : markL mkVisit x.visits (k) = r1 at *
  all_goals simp (disch := omega) only [fmarkVisitS, fmarkText, hr1]
  all_goals first | trivial | omega | (refine ⟨?_, ?_⟩ <;> omega) | skip
  refine MS.leaf ?_
  simp only [fmarkTab, mvTab, hr1]
  exact ⟨⟨rfl, rfl, trivial⟩, trivial, rfl⟩)
def E86 : D.Env := E85.addM 12 fmarkTab
theorem E86ok : EOk Tryz.prog E86 := E85ok.addM k12_85
-- laws.heldTab
set_option maxHeartbeats 2000000 in
theorem k14_86 : fheldTab.ok Tryz.prog 14 := Fct.of (S := fheldTab) (L := fun _ _ => none) (kp := [1,2,4,10,1000010]) E86ok Tryz.func14 (by kernel_rfl) (by kernel_rfl) (by
  rintro ⟨(x : STab), (k : Int), _⟩ hp
  refine holds_of (X := .ob (fheldVisitS.pre (x.visits, k, ())) <|
 .lt (Int × PUnit) (fheldVisitS.fn (x.visits, k, ())) fun z2 =>
 .br (decide (z2.fst < (0 : Int)))
  (.leaf (mkR fheldTab.rs ((-1 : Int), ())) [] [])
  (.leaf (mkR fheldTab.rs (z2.fst, ())) [] [])) (by kernel_rfl) ?_
  refine ob_d ?_ <| lt_i (br_i (fun h2 => Fct.leafY ?_) (fun h2 => Fct.leafY ?_))
  all_goals have hp1 : 0 ≤ k := hp.1
  all_goals have hp2 : (mvTab x k).2 ≤ 4000000000000000000 := hp.2.1
  all_goals have heq : (mvTab x k).1 = x := hp.2.2
  all_goals clear hp
  all_goals try have q1 := congrArg (fun z : STab => z.visits) heq
  all_goals obtain ⟨E, hE⟩ : ∃ E, E = (mvTab x k).2 := ⟨_, rfl⟩
  all_goals have hE2 := hE
  all_goals simp only [mvTab] at hp2 hE2 q1
  all_goals clear heq
  all_goals try have m1 := mkVisitS_mono x.visits (k)
  all_goals try generalize hr1 : markL mkVisit x.visits (k) = r1 at *
  all_goals simp (disch := omega) only [fheldVisitS, fmarkText, hr1, decide_eq_true_eq, decide_eq_false_iff_not, Int.not_lt] at *
  all_goals try simp only [q1]
  all_goals first | trivial | omega | (exfalso; omega) | (refine ⟨?_, ?_, ?_⟩ <;> first | omega | assumption) | skip
  all_goals first | (show (_, ()) = ((mvTab x k).2, ()); rw [← hE, Prod.mk.injEq]; exact ⟨by omega, rfl⟩) | skip)
def E87 : D.Env := E86.add 14 fheldTab
theorem E87ok : EOk Tryz.prog E87 := E86ok.add k14_86
def fMax : Fct := ⟨[aI, aI], [rI], fun _ => True, fun (x : Int × Int × Unit) => (max x.1 x.2.1, ())⟩
-- spec.Max
theorem k26_87 : fMax.ok Tryz.prog 26 := Fct.of (S := fMax) (L := fun _ _ => none) (kp := [0,1,4,7,1000007]) E87ok Tryz.func26 (by kernel_rfl) (by kernel_rfl) (by
  rintro ⟨(a : Int), (b : Int), _⟩ hp
  refine holds_of (X := .br (decide (b > a))
 (.leaf (mkR fMax.rs (b, ())) [] [])
 (.leaf (mkR fMax.rs (a, ())) [] [])) (by kernel_rfl) ?_
  refine br_i (fun h1 => Fct.leafY ?_) (fun h1 => Fct.leafY ?_)
  all_goals try simp only [decide_eq_true_eq, decide_eq_false_iff_not, Bool.not_eq_true', Bool.not_eq_false', bne_iff_ne, bne_eq_false_iff_eq, beq_iff_eq, beq_eq_false_iff_ne, baEq, Int.not_lt, Int.not_le, ne_eq, Decidable.not_not] at *
  all_goals try simp only [fMax, etaToken, etaNode, etaBuilder, etaPolicy, etaPage, etaVisit, etaTab, etaServer, etaCache, etaNet, etaLoader, etaSheet, etaResult, etaSlot, etaModule, etaAddr, etaRequest, etaResponse, etaConn, etaGuess, etaEntry, etaSent, etaFile, baSz, List.size_toArray, List.length_cons, List.length_nil, Nat.reduceAdd, Int.toNat_zero, List.drop_zero, decide_eq_true_eq, decide_eq_false_iff_not, Bool.not_eq_true', Bool.not_eq_false', bne_iff_ne, bne_eq_false_iff_eq, beq_iff_eq, beq_eq_false_iff_ne, Bool.not_eq_true, Bool.not_eq_false, ne_eq, Decidable.not_not, baEq, decide_not, Prod.mk.injEq, and_true, true_and, Room, List.nil_append, Nat.zero_add, Int.not_lt, Int.not_le] at *
  all_goals first | trivial | omega | (simp_all; done) | (simp_all; omega) | grind)
def E88 : D.Env := E87.add 26 fMax
theorem E88ok : EOk Tryz.prog E88 := E87ok.add k26_87
theorem szNode_get {l : List SNode} {i : Nat} (h : i < l.length) : (l.getD i default).attrs.length + l.length ≤ szL szNode l := by
  have := szL_get szNode h
  have h2 := szL_len szAttr (l.getD i default).attrs
  simp only [szNode] at this; omega
theorem szToken_get {l : List SToken} {i : Nat} (h : i < l.length) : (l.getD i default).attrs.length + l.length ≤ szL szToken l := by
  have := szL_get szToken h
  have h2 := szL_len szAttr (l.getD i default).attrs
  simp only [szToken] at this; omega
theorem szVisit_get {l : List SVisit} {i : Nat} (h : i < l.length) : szPage (l.getD i default).page + l.length ≤ szL szVisit l := by
  have := szL_get szVisit h
  simp only [szVisit] at this; omega
def fCopyAttrs : Fct := ⟨[.v (.sl .attr)], [.sl .attr], fun (x_ : (List SAttr) × Unit) => x_.1.length ≤ 1073741824, fun (x_ : (List SAttr) × Unit) => (x_.1, ())⟩
-- spec.l6Attrs
theorem k97_88 : fCopyAttrs.ok Tryz.prog 97 := Fct.of (S := fCopyAttrs) (L := fun _ _ => none) (kp := [0,2]) E88ok Tryz.func97 (by kernel_rfl) (by kernel_rfl) (by
  rintro ⟨(l : List SAttr), _⟩ hp
  refine holds_of (X := .ob (True) <|
 .ob (Room ((0 : Nat) + List.length l) (32 : Nat)) <|
 .leaf (mkR fCopyAttrs.rs ([] ++ l, ())) [] []) (by kernel_rfl) ?_
  refine ob_i trivial fun _ => ob_i ?_ fun o1 => Fct.leafY ?_
  all_goals try simp only [decide_eq_true_eq, decide_eq_false_iff_not, Bool.not_eq_true', Bool.not_eq_false', bne_iff_ne, bne_eq_false_iff_eq, beq_iff_eq, beq_eq_false_iff_ne, baEq, Int.not_lt, Int.not_le, ne_eq, Decidable.not_not] at *
  all_goals try simp only [fCopyAttrs, etaToken, etaNode, etaBuilder, etaPolicy, etaPage, etaVisit, etaTab, etaServer, etaCache, etaNet, etaLoader, etaSheet, etaResult, etaSlot, etaModule, etaAddr, etaRequest, etaResponse, etaConn, etaGuess, etaEntry, etaSent, etaFile, baSz, List.size_toArray, List.length_cons, List.length_nil, Nat.reduceAdd, Int.toNat_zero, List.drop_zero, decide_eq_true_eq, decide_eq_false_iff_not, Bool.not_eq_true', Bool.not_eq_false', bne_iff_ne, bne_eq_false_iff_eq, beq_iff_eq, beq_eq_false_iff_ne, Bool.not_eq_true, Bool.not_eq_false, ne_eq, Decidable.not_not, baEq, decide_not, Prod.mk.injEq, and_true, true_and, Room, List.nil_append, Nat.zero_add, Int.not_lt, Int.not_le] at *
  all_goals try simp (disch := omega) only [wrapId', toNat1] at *
  all_goals try simp (disch := omega) only [if_pos, if_neg]
  all_goals first | trivial | omega | grind [wrapId', toNat1, drop_cons, drop_end, good_len, maxLen])
def E89 : D.Env := E88.add 97 fCopyAttrs
theorem E89ok : EOk Tryz.prog E89 := E88ok.add k97_88
def fCopyToken : Fct := ⟨[.v (.el .token)], [.el .token], fun (x_ : SToken × Unit) => x_.1.attrs.length ≤ 1073741824, fun (x_ : SToken × Unit) => (x_.1, ())⟩
-- impl.copyToken
theorem k100_89 : fCopyToken.ok Tryz.prog 100 := Fct.of (S := fCopyToken) (L := fun _ _ => none) (kp := [1,2]) E89ok Tryz.func100 (by kernel_rfl) (by kernel_rfl) (by
  rintro ⟨(t : SToken), _⟩ hp
  refine holds_of (X := .ob (True) <|
 .ob (Room ((0 : Nat) + t.attrs.length) (32 : Nat)) <|
 .leaf (mkR fCopyToken.rs (⟨t.kind, t.name, [] ++ t.attrs, t.text⟩, ())) [] []) (by kernel_rfl) ?_
  refine ob_i trivial fun _ => ob_i ?_ fun o1 => Fct.leafY ?_
  all_goals try simp only [decide_eq_true_eq, decide_eq_false_iff_not, Bool.not_eq_true', Bool.not_eq_false', bne_iff_ne, bne_eq_false_iff_eq, beq_iff_eq, beq_eq_false_iff_ne, baEq, Int.not_lt, Int.not_le, ne_eq, Decidable.not_not] at *
  all_goals try simp only [fCopyToken, etaToken, etaNode, etaBuilder, etaPolicy, etaPage, etaVisit, etaTab, etaServer, etaCache, etaNet, etaLoader, etaSheet, etaResult, etaSlot, etaModule, etaAddr, etaRequest, etaResponse, etaConn, etaGuess, etaEntry, etaSent, etaFile, baSz, List.size_toArray, List.length_cons, List.length_nil, Nat.reduceAdd, Int.toNat_zero, List.drop_zero, decide_eq_true_eq, decide_eq_false_iff_not, Bool.not_eq_true', Bool.not_eq_false', bne_iff_ne, bne_eq_false_iff_eq, beq_iff_eq, beq_eq_false_iff_ne, Bool.not_eq_true, Bool.not_eq_false, ne_eq, Decidable.not_not, baEq, decide_not, Prod.mk.injEq, and_true, true_and, Room, List.nil_append, Nat.zero_add, Int.not_lt, Int.not_le] at *
  all_goals try simp (disch := omega) only [wrapId', toNat1] at *
  all_goals try simp (disch := omega) only [if_pos, if_neg]
  all_goals first | trivial | omega | grind [wrapId', toNat1, drop_cons, drop_end, good_len, maxLen])
def E90 : D.Env := E89.add 100 fCopyToken
theorem E90ok : EOk Tryz.prog E90 := E89ok.add k100_89
def fCopyTokens : Fct := ⟨[.v (.sl .token)], [.sl .token], fun (x_ : (List SToken) × Unit) => szL szToken x_.1 ≤ 1073741824, fun (x_ : (List SToken) × Unit) => (x_.1, ())⟩
abbrev W_spec_l15Tokens_fCopyTokens_3 (l : (List SToken)) : LInv := ⟨[⟨.s, 3, true, .sl .token⟩, ⟨.s, 4, true, .el .int⟩], fun _ (x_ : (List SToken) × Int × Unit) => 0 ≤ x_.2.1 ∧ x_.2.1 ≤ l.length ∧ x_.1 = l.take x_.2.1.toNat, fun (x_ : (List SToken) × Int × Unit) => l.length - x_.2.1.toNat⟩
-- spec.l15Tokens
theorem k67_90 : fCopyTokens.ok Tryz.prog 67 := Fct.of (S := fCopyTokens) (L := fun ⟨l, _⟩ => fun | 3 => some (W_spec_l15Tokens_fCopyTokens_3 l) | _ => none) (kp := [0,2,3,4,5,10,1000010]) E90ok Tryz.func67 (by kernel_rfl) (by kernel_rfl) (by
  rintro ⟨(l : List SToken), _⟩ hp
  refine holds_of (X := lpx (W_spec_l15Tokens_fCopyTokens_3 l) ([], ((0 : Int), ())) fun (y1 : List SToken × Int × PUnit) bk1 =>
 .br (decide (y1.snd.fst < (↑l.length : Int)))
  (.ob ((0 : Int) ≤ y1.snd.fst ∧ y1.snd.fst < (↑l.length : Int)) <|
   .ob ((0 : Int) ≤ y1.snd.fst ∧ y1.snd.fst < (↑l.length : Int)) <|
   .ob (fCopyAttrs.pre ((l.getD y1.snd.fst.toNat default).attrs, ())) <|
   .lt (List SAttr × PUnit) (fCopyAttrs.fn ((l.getD y1.snd.fst.toNat default).attrs, ())) fun z2 =>
   .ob (Room
  (y1.fst.length +
    [{ kind := (l.getD y1.snd.fst.toNat default).kind, name := (l.getD y1.snd.fst.toNat default).name, attrs := z2.fst,
          text := (l.getD y1.snd.fst.toNat default).text : SToken }].length)
  (64 : Nat)) <|
    .ob (l = l) <|
    .ob (bk1 (y1.fst ++
  [{ kind := (l.getD y1.snd.fst.toNat default).kind, name := (l.getD y1.snd.fst.toNat default).name, attrs := z2.fst,
      text := (l.getD y1.snd.fst.toNat default).text : SToken }], (IntKind.i64.wrap (y1.snd.fst + (1 : Int)), ()))) <|
    .ok)
  (.leaf (mkR fCopyTokens.rs (y1.fst, ())) [] [])) (by kernel_rfl) ?_
  refine lpx_i ?_ fun (y1 : List SToken × Int × PUnit) i1 => br_i (fun h2 => ob_i ?_ fun o3 => ob_i ?_ fun o4 => ob_i ?_ fun o5 => lt_i (ob_i ?_ fun o6 => ob_i rfl fun _ => ob_i ?_ fun o7 => trivial)) (fun h2 => Fct.leafY ?_)
  all_goals have hl := szL_len szToken l
  all_goals try have hg := szToken_get (l := l) (i := y1.2.1.toNat)
  all_goals try have hg := szToken_get (l := l) (i := y2.2.1.toNat)
  all_goals try simp only [decide_eq_true_eq, decide_eq_false_iff_not, Bool.not_eq_true', Bool.not_eq_false', bne_iff_ne, bne_eq_false_iff_eq, beq_iff_eq, beq_eq_false_iff_ne, baEq, Int.not_lt, Int.not_le, ne_eq, Decidable.not_not] at *
  all_goals try simp only [W_spec_l15Tokens_fCopyTokens_3, fCopyAttrs, fCopyTokens, etaToken, etaNode, etaBuilder, etaPolicy, etaPage, etaVisit, etaTab, etaServer, etaCache, etaNet, etaLoader, etaSheet, etaResult, etaSlot, etaModule, etaAddr, etaRequest, etaResponse, etaConn, etaGuess, etaEntry, etaSent, etaFile, baSz, List.size_toArray, List.length_cons, List.length_nil, Nat.reduceAdd, Int.toNat_zero, List.drop_zero, decide_eq_true_eq, decide_eq_false_iff_not, Bool.not_eq_true', Bool.not_eq_false', bne_iff_ne, bne_eq_false_iff_eq, beq_iff_eq, beq_eq_false_iff_ne, Bool.not_eq_true, Bool.not_eq_false, ne_eq, Decidable.not_not, baEq, decide_not, Prod.mk.injEq, and_true, true_and, Room, List.nil_append, Nat.zero_add, Int.not_lt, Int.not_le, fCopyAttrs, fCopyToken, take_succ, take_end] at *
  all_goals try simp (disch := omega) only [wrapId', toNat1] at *
  all_goals try simp (disch := omega) only [if_pos, if_neg]
  all_goals first | trivial | omega | grind [wrapId', toNat1, drop_cons, drop_end, good_len, maxLen, fCopyAttrs, fCopyToken, take_succ, take_end])
def E91 : D.Env := E90.add 67 fCopyTokens
theorem E91ok : EOk Tryz.prog E91 := E90ok.add k67_90
abbrev W_impl_copyTokens_fCopyTokens_3 (l : (List SToken)) : LInv := ⟨[⟨.s, 3, true, .sl .token⟩, ⟨.s, 9, true, .el .int⟩], fun _ (x_ : (List SToken) × Int × Unit) => 0 ≤ x_.2.1 ∧ x_.2.1 ≤ l.length ∧ x_.1 = l.take x_.2.1.toNat, fun (x_ : (List SToken) × Int × Unit) => l.length - x_.2.1.toNat⟩
-- impl.copyTokens
theorem k76_91 : fCopyTokens.ok Tryz.prog 76 := Fct.of (S := fCopyTokens) (L := fun ⟨l, _⟩ => fun | 3 => some (W_impl_copyTokens_fCopyTokens_3 l) | _ => none) (kp := [0,2,3,5,7,8,9,10,1000010]) E91ok Tryz.func76 (by kernel_rfl) (by kernel_rfl) (by
  rintro ⟨(l : List SToken), _⟩ hp
  refine holds_of (X := lpx (W_impl_copyTokens_fCopyTokens_3 l) ([], ((0 : Int), ())) fun (y1 : List SToken × Int × PUnit) bk1 =>
 .br (decide (y1.snd.fst < (↑l.length : Int)))
  (.ob ((0 : Int) ≤ y1.snd.fst ∧ y1.snd.fst < (↑l.length : Int)) <|
   .ob (fCopyToken.pre (l.getD y1.snd.fst.toNat default, ())) <|
   .lt (SToken × PUnit) (fCopyToken.fn (l.getD y1.snd.fst.toNat default, ())) fun z2 =>
   .ob (Room (y1.fst.length + [z2.fst].length) (64 : Nat)) <|
    .ob (l = l) <|
    .ob (l = l) <|
    .ob (Value.int IntKind.i64 (↑l.length : Int) = Value.int IntKind.i64 (↑l.length : Int)) <|
    .ob (bk1 (y1.fst ++ [z2.fst], (IntKind.i64.wrap (y1.snd.fst + (1 : Int)), ()))) <|
    .ok)
  (.leaf (mkR fCopyTokens.rs (y1.fst, ())) [] [])) (by kernel_rfl) ?_
  refine lpx_i ?_ fun (y1 : List SToken × Int × PUnit) i1 => br_i (fun h2 => ob_i ?_ fun o3 => ob_i ?_ fun o4 => lt_i (ob_i ?_ fun o5 => ob_i rfl fun _ => ob_i rfl fun _ => ob_i rfl fun _ => ob_i ?_ fun o6 => trivial)) (fun h2 => Fct.leafY ?_)
  all_goals have hl := szL_len szToken l
  all_goals try have hg := szToken_get (l := l) (i := y1.2.1.toNat)
  all_goals try have hg := szToken_get (l := l) (i := y2.2.1.toNat)
  all_goals try simp only [decide_eq_true_eq, decide_eq_false_iff_not, Bool.not_eq_true', Bool.not_eq_false', bne_iff_ne, bne_eq_false_iff_eq, beq_iff_eq, beq_eq_false_iff_ne, baEq, Int.not_lt, Int.not_le, ne_eq, Decidable.not_not] at *
  all_goals try simp only [W_impl_copyTokens_fCopyTokens_3, fCopyToken, fCopyTokens, etaToken, etaNode, etaBuilder, etaPolicy, etaPage, etaVisit, etaTab, etaServer, etaCache, etaNet, etaLoader, etaSheet, etaResult, etaSlot, etaModule, etaAddr, etaRequest, etaResponse, etaConn, etaGuess, etaEntry, etaSent, etaFile, baSz, List.size_toArray, List.length_cons, List.length_nil, Nat.reduceAdd, Int.toNat_zero, List.drop_zero, decide_eq_true_eq, decide_eq_false_iff_not, Bool.not_eq_true', Bool.not_eq_false', bne_iff_ne, bne_eq_false_iff_eq, beq_iff_eq, beq_eq_false_iff_ne, Bool.not_eq_true, Bool.not_eq_false, ne_eq, Decidable.not_not, baEq, decide_not, Prod.mk.injEq, and_true, true_and, Room, List.nil_append, Nat.zero_add, Int.not_lt, Int.not_le, fCopyAttrs, fCopyToken, take_succ, take_end] at *
  all_goals try simp (disch := omega) only [wrapId', toNat1] at *
  all_goals try simp (disch := omega) only [if_pos, if_neg]
  all_goals first | trivial | omega | grind [wrapId', toNat1, drop_cons, drop_end, good_len, maxLen, fCopyAttrs, fCopyToken, take_succ, take_end])
def E92 : D.Env := E91.add 76 fCopyTokens
theorem E92ok : EOk Tryz.prog E92 := E91ok.add k76_91
theorem builder_take {b : SBuilder} {n : Nat} (h : b.nodes.length ≤ n) : (⟨b.nodes.take n, b.open_⟩ : SBuilder) = b := by rw [List.take_of_length_le h]
theorem tab_take {t : STab} {n : Nat} (h : t.visits.length ≤ n) : (⟨t.visits.take n, t.at_⟩ : STab) = t := by rw [List.take_of_length_le h]
def fCopyBuilder : Fct := ⟨[.v (.el .builder)], [.el .builder], fun (x_ : SBuilder × Unit) => szBuilder x_.1 ≤ 1073741824, fun (x_ : SBuilder × Unit) => (x_.1, ())⟩
abbrev W_spec_l6Copy_fCopyBuilder_3 (b : SBuilder) : LInv := ⟨[⟨.b, 3, true, .el .builder⟩, ⟨.s, 4, true, .el .int⟩, ⟨.b, 1, false, .el .builder⟩, ⟨.b, 2, true, .el .builder⟩], fun (z_ : SBuilder × Int × SBuilder × SBuilder × Unit) (x_ : SBuilder × Int × SBuilder × SBuilder × Unit) => ((0 ≤ x_.2.1 ∧ x_.2.1 ≤ b.nodes.length ∧ x_.1 = ⟨b.nodes.take x_.2.1.toNat, b.open_⟩) ∧ x_.2.2.1 = z_.2.2.1) ∧ x_.2.2.2.1 = z_.2.2.2.1, fun (x_ : SBuilder × Int × SBuilder × SBuilder × Unit) => b.nodes.length - x_.2.1.toNat⟩
-- spec.l6Copy
theorem k68_92 : fCopyBuilder.ok Tryz.prog 68 := Fct.of (S := fCopyBuilder) (L := fun ⟨b, _⟩ => fun | 3 => some (W_spec_l6Copy_fCopyBuilder_3 b) | _ => none) (kp := [1,2,3,4,5,15,1000015]) E92ok Tryz.func68 (by kernel_rfl) (by kernel_rfl) (by
  rintro ⟨(b : SBuilder), _⟩ hp
  refine holds_of (X := .ob (True) <|
 .ob (Room ((0 : Nat) + b.open_.length) (8 : Nat)) <|
 lpx (W_spec_l6Copy_fCopyBuilder_3 b) ({ nodes := [], open_ := [] ++ b.open_ : SBuilder }, ((0 : Int), (b, (default, ())))) fun (y2 : SBuilder × Int × SBuilder × SBuilder × PUnit) bk2 =>
 .br (decide (y2.snd.fst < (↑y2.snd.snd.fst.nodes.length : Int)))
  (.ob ((0 : Int) ≤ y2.snd.fst ∧ y2.snd.fst < (↑y2.snd.snd.fst.nodes.length : Int)) <|
   .ob ((0 : Int) ≤ y2.snd.fst ∧ y2.snd.fst < (↑y2.snd.snd.fst.nodes.length : Int)) <|
   .ob (fCopyAttrs.pre ((y2.snd.snd.fst.nodes.getD y2.snd.fst.toNat default).attrs, ())) <|
   .lt (List SAttr × PUnit) (fCopyAttrs.fn ((y2.snd.snd.fst.nodes.getD y2.snd.fst.toNat default).attrs, ())) fun z2 =>
   .ob (Room
  (y2.fst.nodes.length +
    [{ name := (y2.snd.snd.fst.nodes.getD y2.snd.fst.toNat default).name,
          text := (y2.snd.snd.fst.nodes.getD y2.snd.fst.toNat default).text,
          parent := (y2.snd.snd.fst.nodes.getD y2.snd.fst.toNat default).parent, attrs := z2.fst : SNode }].length)
  (64 : Nat)) <|
    .ob (bk2 ({
  nodes :=
    y2.fst.nodes ++
      [{ name := (y2.snd.snd.fst.nodes.getD y2.snd.fst.toNat default).name,
          text := (y2.snd.snd.fst.nodes.getD y2.snd.fst.toNat default).text,
          parent := (y2.snd.snd.fst.nodes.getD y2.snd.fst.toNat default).parent, attrs := z2.fst : SNode }],
  open_ := y2.fst.open_ : SBuilder }, (IntKind.i64.wrap (y2.snd.fst + (1 : Int)), (y2.snd.snd.fst, (y2.snd.snd.snd.fst, ()))))) <|
    .ok)
  (.leaf (mkR fCopyBuilder.rs (y2.fst, ())) [] [])) (by kernel_rfl) ?_
  refine ob_i trivial fun _ => ob_i ?_ fun o1 => lpx_i ?_ fun (y2 : SBuilder × Int × SBuilder × SBuilder × PUnit) i2 => br_i (fun h3 => ob_i ?_ fun o4 => ob_i ?_ fun o5 => ob_i ?_ fun o6 => lt_i (ob_i ?_ fun o7 => ob_i ?_ fun o8 => trivial)) (fun h3 => Fct.leafY ?_)
  all_goals have hl := szL_len szNode b.nodes
  all_goals try have hg := szNode_get (l := b.nodes) (i := y1.2.1.toNat)
  all_goals try have hg := szNode_get (l := b.nodes) (i := y2.2.1.toNat)
  all_goals try simp only [decide_eq_true_eq, decide_eq_false_iff_not, Bool.not_eq_true', Bool.not_eq_false', bne_iff_ne, bne_eq_false_iff_eq, beq_iff_eq, beq_eq_false_iff_ne, baEq, Int.not_lt, Int.not_le, ne_eq, Decidable.not_not] at *
  all_goals try simp only [W_spec_l6Copy_fCopyBuilder_3, fCopyAttrs, fCopyBuilder, etaToken, etaNode, etaBuilder, etaPolicy, etaPage, etaVisit, etaTab, etaServer, etaCache, etaNet, etaLoader, etaSheet, etaResult, etaSlot, etaModule, etaAddr, etaRequest, etaResponse, etaConn, etaGuess, etaEntry, etaSent, etaFile, baSz, List.size_toArray, List.length_cons, List.length_nil, Nat.reduceAdd, Int.toNat_zero, List.drop_zero, decide_eq_true_eq, decide_eq_false_iff_not, Bool.not_eq_true', Bool.not_eq_false', bne_iff_ne, bne_eq_false_iff_eq, beq_iff_eq, beq_eq_false_iff_ne, Bool.not_eq_true, Bool.not_eq_false, ne_eq, Decidable.not_not, baEq, decide_not, Prod.mk.injEq, and_true, true_and, Room, List.nil_append, Nat.zero_add, Int.not_lt, Int.not_le, fCopyAttrs, take_succ, builder_take, szBuilder] at *
  all_goals try simp (disch := omega) only [wrapId', toNat1] at *
  all_goals try simp (disch := omega) only [if_pos, if_neg]
  all_goals first | trivial | omega | grind [wrapId', toNat1, drop_cons, drop_end, good_len, maxLen, fCopyAttrs, take_succ, builder_take, szBuilder])
def E93 : D.Env := E92.add 68 fCopyBuilder
theorem E93ok : EOk Tryz.prog E93 := E92ok.add k68_92
abbrev W_impl_copyBuilder_fCopyBuilder_3 (b : SBuilder) : LInv := ⟨[⟨.b, 3, true, .el .builder⟩, ⟨.s, 14, true, .el .int⟩, ⟨.b, 2, true, .el .builder⟩], fun (z_ : SBuilder × Int × SBuilder × Unit) (x_ : SBuilder × Int × SBuilder × Unit) => (0 ≤ x_.2.1 ∧ x_.2.1 ≤ b.nodes.length ∧ x_.1 = ⟨b.nodes.take x_.2.1.toNat, b.open_⟩) ∧ x_.2.2.1 = z_.2.2.1, fun (x_ : SBuilder × Int × SBuilder × Unit) => b.nodes.length - x_.2.1.toNat⟩
-- impl.copyBuilder
theorem k77_93 : fCopyBuilder.ok Tryz.prog 77 := Fct.of (S := fCopyBuilder) (L := fun ⟨b, _⟩ => fun | 3 => some (W_impl_copyBuilder_fCopyBuilder_3 b) | _ => none) (kp := [1,2,3,5,12,13,14,15,1000015]) E93ok Tryz.func77 (by kernel_rfl) (by kernel_rfl) (by
  rintro ⟨(b : SBuilder), _⟩ hp
  refine holds_of (X := .ob (True) <|
 .ob (Room ((0 : Nat) + b.open_.length) (8 : Nat)) <|
 lpx (W_impl_copyBuilder_fCopyBuilder_3 b) ({ nodes := [], open_ := [] ++ b.open_ : SBuilder }, ((0 : Int), (default, ()))) fun (y2 : SBuilder × Int × SBuilder × PUnit) bk2 =>
 .br (decide (y2.snd.fst < (↑b.nodes.length : Int)))
  (.ob ((0 : Int) ≤ y2.snd.fst ∧ y2.snd.fst < (↑b.nodes.length : Int)) <|
   .ob (True) <|
   .ob (Room ((0 : Nat) + (b.nodes.getD y2.snd.fst.toNat default).attrs.length) (32 : Nat)) <|
   .ob (Room
  (y2.fst.nodes.length +
    [{ name := (b.nodes.getD y2.snd.fst.toNat default).name, text := (b.nodes.getD y2.snd.fst.toNat default).text,
          parent := (b.nodes.getD y2.snd.fst.toNat default).parent,
          attrs := [] ++ (b.nodes.getD y2.snd.fst.toNat default).attrs : SNode }].length)
  (64 : Nat)) <|
   .ob (b.nodes = b.nodes) <|
   .ob (Value.int IntKind.i64 (↑b.nodes.length : Int) = Value.int IntKind.i64 (↑b.nodes.length : Int)) <|
   .ob (bk2 ({
  nodes :=
    y2.fst.nodes ++
      [{ name := (b.nodes.getD y2.snd.fst.toNat default).name, text := (b.nodes.getD y2.snd.fst.toNat default).text,
          parent := (b.nodes.getD y2.snd.fst.toNat default).parent,
          attrs := [] ++ (b.nodes.getD y2.snd.fst.toNat default).attrs : SNode }],
  open_ := y2.fst.open_ : SBuilder }, (IntKind.i64.wrap (y2.snd.fst + (1 : Int)), (y2.snd.snd.fst, ())))) <|
   .ok)
  (.leaf (mkR fCopyBuilder.rs (y2.fst, ())) [] [])) (by kernel_rfl) ?_
  refine ob_i trivial fun _ => ob_i ?_ fun o1 => lpx_i ?_ fun (y2 : SBuilder × Int × SBuilder × PUnit) i2 => br_i (fun h3 => ob_i ?_ fun o4 => ob_i trivial fun _ => ob_i ?_ fun o5 => ob_i ?_ fun o6 => ob_i rfl fun _ => ob_i rfl fun _ => ob_i ?_ fun o7 => trivial) (fun h3 => Fct.leafY ?_)
  all_goals have hl := szL_len szNode b.nodes
  all_goals try have hg := szNode_get (l := b.nodes) (i := y1.2.1.toNat)
  all_goals try have hg := szNode_get (l := b.nodes) (i := y2.2.1.toNat)
  all_goals try simp only [decide_eq_true_eq, decide_eq_false_iff_not, Bool.not_eq_true', Bool.not_eq_false', bne_iff_ne, bne_eq_false_iff_eq, beq_iff_eq, beq_eq_false_iff_ne, baEq, Int.not_lt, Int.not_le, ne_eq, Decidable.not_not] at *
  all_goals try simp only [W_impl_copyBuilder_fCopyBuilder_3, fCopyBuilder, etaToken, etaNode, etaBuilder, etaPolicy, etaPage, etaVisit, etaTab, etaServer, etaCache, etaNet, etaLoader, etaSheet, etaResult, etaSlot, etaModule, etaAddr, etaRequest, etaResponse, etaConn, etaGuess, etaEntry, etaSent, etaFile, baSz, List.size_toArray, List.length_cons, List.length_nil, Nat.reduceAdd, Int.toNat_zero, List.drop_zero, decide_eq_true_eq, decide_eq_false_iff_not, Bool.not_eq_true', Bool.not_eq_false', bne_iff_ne, bne_eq_false_iff_eq, beq_iff_eq, beq_eq_false_iff_ne, Bool.not_eq_true, Bool.not_eq_false, ne_eq, Decidable.not_not, baEq, decide_not, Prod.mk.injEq, and_true, true_and, Room, List.nil_append, Nat.zero_add, Int.not_lt, Int.not_le, fCopyAttrs, take_succ, builder_take, szBuilder] at *
  all_goals try simp (disch := omega) only [wrapId', toNat1] at *
  all_goals try simp (disch := omega) only [if_pos, if_neg]
  all_goals first | trivial | omega | grind [wrapId', toNat1, drop_cons, drop_end, good_len, maxLen, fCopyAttrs, take_succ, builder_take, szBuilder])
def E94 : D.Env := E93.add 77 fCopyBuilder
theorem E94ok : EOk Tryz.prog E94 := E93ok.add k77_93
def fCopyPolicy : Fct := ⟨[.v (.el .policy)], [.el .policy], fun (x_ : SPolicy × Unit) => szPolicy x_.1 ≤ 1073741824, fun (x_ : SPolicy × Unit) => (x_.1, ())⟩
-- spec.l9Copy
theorem k66_94 : fCopyPolicy.ok Tryz.prog 66 := Fct.of (S := fCopyPolicy) (L := fun _ _ => none) (kp := [1,2]) E94ok Tryz.func66 (by kernel_rfl) (by kernel_rfl) (by
  rintro ⟨(p : SPolicy), _⟩ hp
  refine holds_of (X := .ob (True) <|
 .ob (Room p.scripts.length (16 : Nat)) <|
 .ob (True) <|
 .ob (Room p.styles.length (16 : Nat)) <|
 .ob (True) <|
 .ob (Room p.images.length (16 : Nat)) <|
 .leaf (mkR fCopyPolicy.rs (p, ())) [] []) (by kernel_rfl) ?_
  refine ob_i trivial fun _ => ob_i ?_ fun o1 => ob_i trivial fun _ => ob_i ?_ fun o2 => ob_i trivial fun _ => ob_i ?_ fun o3 => Fct.leafY ?_
  all_goals have hl1 := szL_len szString p.scripts
  all_goals have hl2 := szL_len szString p.styles
  all_goals have hl3 := szL_len szString p.images
  all_goals try simp only [decide_eq_true_eq, decide_eq_false_iff_not, Bool.not_eq_true', Bool.not_eq_false', bne_iff_ne, bne_eq_false_iff_eq, beq_iff_eq, beq_eq_false_iff_ne, baEq, Int.not_lt, Int.not_le, ne_eq, Decidable.not_not] at *
  all_goals try simp only [fCopyPolicy, etaToken, etaNode, etaBuilder, etaPolicy, etaPage, etaVisit, etaTab, etaServer, etaCache, etaNet, etaLoader, etaSheet, etaResult, etaSlot, etaModule, etaAddr, etaRequest, etaResponse, etaConn, etaGuess, etaEntry, etaSent, etaFile, baSz, List.size_toArray, List.length_cons, List.length_nil, Nat.reduceAdd, Int.toNat_zero, List.drop_zero, decide_eq_true_eq, decide_eq_false_iff_not, Bool.not_eq_true', Bool.not_eq_false', bne_iff_ne, bne_eq_false_iff_eq, beq_iff_eq, beq_eq_false_iff_ne, Bool.not_eq_true, Bool.not_eq_false, ne_eq, Decidable.not_not, baEq, decide_not, Prod.mk.injEq, and_true, true_and, Room, List.nil_append, Nat.zero_add, Int.not_lt, Int.not_le, szPolicy] at *
  all_goals try simp (disch := omega) only [wrapId', toNat1] at *
  all_goals try simp (disch := omega) only [if_pos, if_neg]
  all_goals first | trivial | omega | grind [wrapId', toNat1, drop_cons, drop_end, good_len, maxLen, szPolicy])
def E95 : D.Env := E94.add 66 fCopyPolicy
theorem E95ok : EOk Tryz.prog E95 := E94ok.add k66_94
-- impl.copyPolicy
theorem k75_95 : fCopyPolicy.ok Tryz.prog 75 := Fct.of (S := fCopyPolicy) (L := fun _ _ => none) (kp := [1,2]) E95ok Tryz.func75 (by kernel_rfl) (by kernel_rfl) (by
  rintro ⟨(p : SPolicy), _⟩ hp
  refine holds_of (X := .ob (True) <|
 .ob (Room ((0 : Nat) + p.scripts.length) (16 : Nat)) <|
 .ob (True) <|
 .ob (Room ((0 : Nat) + p.styles.length) (16 : Nat)) <|
 .ob (True) <|
 .ob (Room ((0 : Nat) + p.images.length) (16 : Nat)) <|
 .leaf (mkR fCopyPolicy.rs (⟨p.set_, [] ++ p.scripts, [] ++ p.styles, [] ++ p.images, p.nonce⟩, ())) [] []) (by kernel_rfl) ?_
  refine ob_i trivial fun _ => ob_i ?_ fun o1 => ob_i trivial fun _ => ob_i ?_ fun o2 => ob_i trivial fun _ => ob_i ?_ fun o3 => Fct.leafY ?_
  all_goals have hl1 := szL_len szString p.scripts
  all_goals have hl2 := szL_len szString p.styles
  all_goals have hl3 := szL_len szString p.images
  all_goals try simp only [decide_eq_true_eq, decide_eq_false_iff_not, Bool.not_eq_true', Bool.not_eq_false', bne_iff_ne, bne_eq_false_iff_eq, beq_iff_eq, beq_eq_false_iff_ne, baEq, Int.not_lt, Int.not_le, ne_eq, Decidable.not_not] at *
  all_goals try simp only [fCopyPolicy, etaToken, etaNode, etaBuilder, etaPolicy, etaPage, etaVisit, etaTab, etaServer, etaCache, etaNet, etaLoader, etaSheet, etaResult, etaSlot, etaModule, etaAddr, etaRequest, etaResponse, etaConn, etaGuess, etaEntry, etaSent, etaFile, baSz, List.size_toArray, List.length_cons, List.length_nil, Nat.reduceAdd, Int.toNat_zero, List.drop_zero, decide_eq_true_eq, decide_eq_false_iff_not, Bool.not_eq_true', Bool.not_eq_false', bne_iff_ne, bne_eq_false_iff_eq, beq_iff_eq, beq_eq_false_iff_ne, Bool.not_eq_true, Bool.not_eq_false, ne_eq, Decidable.not_not, baEq, decide_not, Prod.mk.injEq, and_true, true_and, Room, List.nil_append, Nat.zero_add, Int.not_lt, Int.not_le, szPolicy] at *
  all_goals try simp (disch := omega) only [wrapId', toNat1] at *
  all_goals try simp (disch := omega) only [if_pos, if_neg]
  all_goals first | trivial | omega | grind [wrapId', toNat1, drop_cons, drop_end, good_len, maxLen, szPolicy])
def E96 : D.Env := E95.add 75 fCopyPolicy
theorem E96ok : EOk Tryz.prog E96 := E95ok.add k75_95
def fCopyPage : Fct := ⟨[.v (.el .page)], [.el .page], fun (x_ : SPage × Unit) => szPage x_.1 ≤ 1073741824, fun (x_ : SPage × Unit) => (x_.1, ())⟩
-- spec.l15Copy
theorem k28_96 : fCopyPage.ok Tryz.prog 28 := Fct.of (S := fCopyPage) (L := fun _ _ => none) (kp := [1,2,3]) E96ok Tryz.func28 (by kernel_rfl) (by kernel_rfl) (by
  rintro ⟨(p : SPage), _⟩ hp
  refine holds_of (X := .ob (fCopyPolicy.pre (p.policy, ())) <|
 .lt (SPolicy × PUnit) (fCopyPolicy.fn (p.policy, ())) fun z2 =>
 .ob (fCopyTokens.pre (p.queue, ())) <|
  .lt (List SToken × PUnit) (fCopyTokens.fn (p.queue, ())) fun z3 =>
  .ob (fCopyBuilder.pre (p.builder, ())) <|
   .lt (SBuilder × PUnit) (fCopyBuilder.fn (p.builder, ())) fun z4 =>
   .ob (True) <|
    .ob (Room ((0 : Nat) + p.slots.length) (96 : Nat)) <|
    .ob (True) <|
    .ob (Room ((0 : Nat) + p.mods.length) (64 : Nat)) <|
    .ob (True) <|
    .ob (Room ((0 : Nat) + p.entries.length) (32 : Nat)) <|
    .ob (True) <|
    .ob (Room ((0 : Nat) + p.ran.length) (32 : Nat)) <|
    .ob (True) <|
    .ob (Room ((0 : Nat) + p.log.length) (16 : Nat)) <|
    .leaf (mkR fCopyPage.rs (⟨p.addr, z2.fst, p.tok, z3.fst, p.ended, z4.fst, [] ++ p.slots, [] ++ p.mods, [] ++ p.entries, p.block, p.inline, p.deferred, p.entered, [] ++ p.ran, [] ++ p.log, p.loaded⟩, ())) [] []) (by kernel_rfl) ?_
  refine ob_i ?_ fun o1 => lt_i (ob_i ?_ fun o2 => lt_i (ob_i ?_ fun o3 => lt_i (ob_i trivial fun _ => ob_i ?_ fun o4 => ob_i trivial fun _ => ob_i ?_ fun o5 => ob_i trivial fun _ => ob_i ?_ fun o6 => ob_i trivial fun _ => ob_i ?_ fun o7 => ob_i trivial fun _ => ob_i ?_ fun o8 => Fct.leafY ?_)))
  all_goals have hl1 := szL_len szSlot p.slots
  all_goals have hl2 := szL_len szModule p.mods
  all_goals have hl3 := szL_len szAddr p.entries
  all_goals have hl4 := szL_len szAddr p.ran
  all_goals have hl5 := szL_len szString p.log
  all_goals try simp only [decide_eq_true_eq, decide_eq_false_iff_not, Bool.not_eq_true', Bool.not_eq_false', bne_iff_ne, bne_eq_false_iff_eq, beq_iff_eq, beq_eq_false_iff_ne, baEq, Int.not_lt, Int.not_le, ne_eq, Decidable.not_not] at *
  all_goals try simp only [fCopyBuilder, fCopyPage, fCopyPolicy, fCopyTokens, etaToken, etaNode, etaBuilder, etaPolicy, etaPage, etaVisit, etaTab, etaServer, etaCache, etaNet, etaLoader, etaSheet, etaResult, etaSlot, etaModule, etaAddr, etaRequest, etaResponse, etaConn, etaGuess, etaEntry, etaSent, etaFile, baSz, List.size_toArray, List.length_cons, List.length_nil, Nat.reduceAdd, Int.toNat_zero, List.drop_zero, decide_eq_true_eq, decide_eq_false_iff_not, Bool.not_eq_true', Bool.not_eq_false', bne_iff_ne, bne_eq_false_iff_eq, beq_iff_eq, beq_eq_false_iff_ne, Bool.not_eq_true, Bool.not_eq_false, ne_eq, Decidable.not_not, baEq, decide_not, Prod.mk.injEq, and_true, true_and, Room, List.nil_append, Nat.zero_add, Int.not_lt, Int.not_le, szPage, fCopyPolicy, fCopyTokens, fCopyBuilder] at *
  all_goals try simp (disch := omega) only [wrapId', toNat1] at *
  all_goals try simp (disch := omega) only [if_pos, if_neg]
  all_goals first | trivial | omega | grind [wrapId', toNat1, drop_cons, drop_end, good_len, maxLen, szPage, fCopyPolicy, fCopyTokens, fCopyBuilder])
def E97 : D.Env := E96.add 28 fCopyPage
theorem E97ok : EOk Tryz.prog E97 := E96ok.add k28_96
-- impl.copyPage
theorem k40_97 : fCopyPage.ok Tryz.prog 40 := Fct.of (S := fCopyPage) (L := fun _ _ => none) (kp := [1,2]) E97ok Tryz.func40 (by kernel_rfl) (by kernel_rfl) (by
  rintro ⟨(p : SPage), _⟩ hp
  refine holds_of (X := .ob (fCopyPolicy.pre (p.policy, ())) <|
 .lt (SPolicy × PUnit) (fCopyPolicy.fn (p.policy, ())) fun z2 =>
 .ob (fCopyTokens.pre (p.queue, ())) <|
  .lt (List SToken × PUnit) (fCopyTokens.fn (p.queue, ())) fun z3 =>
  .ob (fCopyBuilder.pre (p.builder, ())) <|
   .lt (SBuilder × PUnit) (fCopyBuilder.fn (p.builder, ())) fun z4 =>
   .ob (True) <|
    .ob (Room ((0 : Nat) + p.slots.length) (96 : Nat)) <|
    .ob (True) <|
    .ob (Room ((0 : Nat) + p.mods.length) (64 : Nat)) <|
    .ob (True) <|
    .ob (Room ((0 : Nat) + p.entries.length) (32 : Nat)) <|
    .ob (True) <|
    .ob (Room ((0 : Nat) + p.ran.length) (32 : Nat)) <|
    .ob (True) <|
    .ob (Room ((0 : Nat) + p.log.length) (16 : Nat)) <|
    .leaf (mkR fCopyPage.rs (⟨p.addr, z2.fst, p.tok, z3.fst, p.ended, z4.fst, [] ++ p.slots, [] ++ p.mods, [] ++ p.entries, p.block, p.inline, p.deferred, p.entered, [] ++ p.ran, [] ++ p.log, p.loaded⟩, ())) [] []) (by kernel_rfl) ?_
  refine ob_i ?_ fun o1 => lt_i (ob_i ?_ fun o2 => lt_i (ob_i ?_ fun o3 => lt_i (ob_i trivial fun _ => ob_i ?_ fun o4 => ob_i trivial fun _ => ob_i ?_ fun o5 => ob_i trivial fun _ => ob_i ?_ fun o6 => ob_i trivial fun _ => ob_i ?_ fun o7 => ob_i trivial fun _ => ob_i ?_ fun o8 => Fct.leafY ?_)))
  all_goals have hl1 := szL_len szSlot p.slots
  all_goals have hl2 := szL_len szModule p.mods
  all_goals have hl3 := szL_len szAddr p.entries
  all_goals have hl4 := szL_len szAddr p.ran
  all_goals have hl5 := szL_len szString p.log
  all_goals try simp only [decide_eq_true_eq, decide_eq_false_iff_not, Bool.not_eq_true', Bool.not_eq_false', bne_iff_ne, bne_eq_false_iff_eq, beq_iff_eq, beq_eq_false_iff_ne, baEq, Int.not_lt, Int.not_le, ne_eq, Decidable.not_not] at *
  all_goals try simp only [fCopyBuilder, fCopyPage, fCopyPolicy, fCopyTokens, etaToken, etaNode, etaBuilder, etaPolicy, etaPage, etaVisit, etaTab, etaServer, etaCache, etaNet, etaLoader, etaSheet, etaResult, etaSlot, etaModule, etaAddr, etaRequest, etaResponse, etaConn, etaGuess, etaEntry, etaSent, etaFile, baSz, List.size_toArray, List.length_cons, List.length_nil, Nat.reduceAdd, Int.toNat_zero, List.drop_zero, decide_eq_true_eq, decide_eq_false_iff_not, Bool.not_eq_true', Bool.not_eq_false', bne_iff_ne, bne_eq_false_iff_eq, beq_iff_eq, beq_eq_false_iff_ne, Bool.not_eq_true, Bool.not_eq_false, ne_eq, Decidable.not_not, baEq, decide_not, Prod.mk.injEq, and_true, true_and, Room, List.nil_append, Nat.zero_add, Int.not_lt, Int.not_le, szPage, fCopyPolicy, fCopyTokens, fCopyBuilder] at *
  all_goals try simp (disch := omega) only [wrapId', toNat1] at *
  all_goals try simp (disch := omega) only [if_pos, if_neg]
  all_goals first | trivial | omega | grind [wrapId', toNat1, drop_cons, drop_end, good_len, maxLen, szPage, fCopyPolicy, fCopyTokens, fCopyBuilder])
def E98 : D.Env := E97.add 40 fCopyPage
theorem E98ok : EOk Tryz.prog E98 := E97ok.add k40_97
def fCopyTab : Fct := ⟨[.v (.el .tab)], [.el .tab], fun (x_ : STab × Unit) => szTab x_.1 ≤ 1073741824, fun (x_ : STab × Unit) => (x_.1, ())⟩
abbrev W_spec_l31Copy_fCopyTab_3 (t : STab) : LInv := ⟨[⟨.b, 3, true, .el .tab⟩, ⟨.s, 4, true, .el .int⟩, ⟨.b, 1, false, .el .tab⟩, ⟨.b, 2, true, .el .tab⟩], fun (z_ : STab × Int × STab × STab × Unit) (x_ : STab × Int × STab × STab × Unit) => ((0 ≤ x_.2.1 ∧ x_.2.1 ≤ t.visits.length ∧ x_.1 = ⟨t.visits.take x_.2.1.toNat, t.at_⟩) ∧ x_.2.2.1 = z_.2.2.1) ∧ x_.2.2.2.1 = z_.2.2.2.1, fun (x_ : STab × Int × STab × STab × Unit) => t.visits.length - x_.2.1.toNat⟩
-- spec.l31Copy
theorem k25_98 : fCopyTab.ok Tryz.prog 25 := Fct.of (S := fCopyTab) (L := fun ⟨t, _⟩ => fun | 3 => some (W_spec_l31Copy_fCopyTab_3 t) | _ => none) (kp := [1,2,3,4,5,13,1000013]) E98ok Tryz.func25 (by kernel_rfl) (by kernel_rfl) (by
  rintro ⟨(t : STab), _⟩ hp
  refine holds_of (X := lpx (W_spec_l31Copy_fCopyTab_3 t) ({ visits := [], at_ := t.at_ : STab }, ((0 : Int), (t, (default, ())))) fun (y1 : STab × Int × STab × STab × PUnit) bk1 =>
 .br (decide (y1.snd.fst < (↑y1.snd.snd.fst.visits.length : Int)))
  (.ob ((0 : Int) ≤ y1.snd.fst ∧ y1.snd.fst < (↑y1.snd.snd.fst.visits.length : Int)) <|
   .ob ((0 : Int) ≤ y1.snd.fst ∧ y1.snd.fst < (↑y1.snd.snd.fst.visits.length : Int)) <|
   .ob (fCopyPage.pre ((y1.snd.snd.fst.visits.getD y1.snd.fst.toNat default).page, ())) <|
   .lt (SPage × PUnit) (fCopyPage.fn ((y1.snd.snd.fst.visits.getD y1.snd.fst.toNat default).page, ())) fun z2 =>
   .ob (Room
  (y1.fst.visits.length +
    [{ addr := (y1.snd.snd.fst.visits.getD y1.snd.fst.toNat default).addr, page := z2.fst,
          kept := (y1.snd.snd.fst.visits.getD y1.snd.fst.toNat default).kept : SVisit }].length)
  (424 : Nat)) <|
    .ob (bk1 ({
  visits :=
    y1.fst.visits ++
      [{ addr := (y1.snd.snd.fst.visits.getD y1.snd.fst.toNat default).addr, page := z2.fst,
          kept := (y1.snd.snd.fst.visits.getD y1.snd.fst.toNat default).kept : SVisit }],
  at_ := y1.fst.at_ : STab }, (IntKind.i64.wrap (y1.snd.fst + (1 : Int)), (y1.snd.snd.fst, (y1.snd.snd.snd.fst, ()))))) <|
    .ok)
  (.leaf (mkR fCopyTab.rs (y1.fst, ())) [] [])) (by kernel_rfl) ?_
  refine lpx_i ?_ fun (y1 : STab × Int × STab × STab × PUnit) i1 => br_i (fun h2 => ob_i ?_ fun o3 => ob_i ?_ fun o4 => ob_i ?_ fun o5 => lt_i (ob_i ?_ fun o6 => ob_i ?_ fun o7 => trivial)) (fun h2 => Fct.leafY ?_)
  all_goals have hl := szL_len szVisit t.visits
  all_goals try have hg := szVisit_get (l := t.visits) (i := y1.2.1.toNat)
  all_goals try have hg := szVisit_get (l := t.visits) (i := y2.2.1.toNat)
  all_goals try simp only [decide_eq_true_eq, decide_eq_false_iff_not, Bool.not_eq_true', Bool.not_eq_false', bne_iff_ne, bne_eq_false_iff_eq, beq_iff_eq, beq_eq_false_iff_ne, baEq, Int.not_lt, Int.not_le, ne_eq, Decidable.not_not] at *
  all_goals try simp only [W_spec_l31Copy_fCopyTab_3, fCopyPage, fCopyTab, etaToken, etaNode, etaBuilder, etaPolicy, etaPage, etaVisit, etaTab, etaServer, etaCache, etaNet, etaLoader, etaSheet, etaResult, etaSlot, etaModule, etaAddr, etaRequest, etaResponse, etaConn, etaGuess, etaEntry, etaSent, etaFile, baSz, List.size_toArray, List.length_cons, List.length_nil, Nat.reduceAdd, Int.toNat_zero, List.drop_zero, decide_eq_true_eq, decide_eq_false_iff_not, Bool.not_eq_true', Bool.not_eq_false', bne_iff_ne, bne_eq_false_iff_eq, beq_iff_eq, beq_eq_false_iff_ne, Bool.not_eq_true, Bool.not_eq_false, ne_eq, Decidable.not_not, baEq, decide_not, Prod.mk.injEq, and_true, true_and, Room, List.nil_append, Nat.zero_add, Int.not_lt, Int.not_le, szTab, fCopyPage, take_succ, tab_take] at *
  all_goals try simp (disch := omega) only [wrapId', toNat1] at *
  all_goals try simp (disch := omega) only [if_pos, if_neg]
  all_goals first | trivial | omega | grind [wrapId', toNat1, drop_cons, drop_end, good_len, maxLen, szTab, fCopyPage, take_succ, tab_take])
def E99 : D.Env := E98.add 25 fCopyTab
theorem E99ok : EOk Tryz.prog E99 := E98ok.add k25_98
abbrev W_impl_copyTab_fCopyTab_3 (t : STab) : LInv := ⟨[⟨.b, 3, true, .el .tab⟩, ⟨.s, 12, true, .el .int⟩, ⟨.b, 2, true, .el .tab⟩], fun (z_ : STab × Int × STab × Unit) (x_ : STab × Int × STab × Unit) => (0 ≤ x_.2.1 ∧ x_.2.1 ≤ t.visits.length ∧ x_.1 = ⟨t.visits.take x_.2.1.toNat, t.at_⟩) ∧ x_.2.2.1 = z_.2.2.1, fun (x_ : STab × Int × STab × Unit) => t.visits.length - x_.2.1.toNat⟩
-- impl.copyTab
theorem k39_99 : fCopyTab.ok Tryz.prog 39 := Fct.of (S := fCopyTab) (L := fun ⟨t, _⟩ => fun | 3 => some (W_impl_copyTab_fCopyTab_3 t) | _ => none) (kp := [1,2,3,5,10,11,12,13,1000013]) E99ok Tryz.func39 (by kernel_rfl) (by kernel_rfl) (by
  rintro ⟨(t : STab), _⟩ hp
  refine holds_of (X := lpx (W_impl_copyTab_fCopyTab_3 t) ({ visits := [], at_ := t.at_ : STab }, ((0 : Int), (default, ()))) fun (y1 : STab × Int × STab × PUnit) bk1 =>
 .br (decide (y1.snd.fst < (↑t.visits.length : Int)))
  (.ob ((0 : Int) ≤ y1.snd.fst ∧ y1.snd.fst < (↑t.visits.length : Int)) <|
   .ob (fCopyPage.pre ((t.visits.getD y1.snd.fst.toNat default).page, ())) <|
   .lt (SPage × PUnit) (fCopyPage.fn ((t.visits.getD y1.snd.fst.toNat default).page, ())) fun z2 =>
   .ob (Room
  (y1.fst.visits.length +
    [{ addr := (t.visits.getD y1.snd.fst.toNat default).addr, page := z2.fst,
          kept := (t.visits.getD y1.snd.fst.toNat default).kept : SVisit }].length)
  (424 : Nat)) <|
    .ob (t.visits = t.visits) <|
    .ob (Value.int IntKind.i64 (↑t.visits.length : Int) = Value.int IntKind.i64 (↑t.visits.length : Int)) <|
    .ob (bk1 ({
  visits :=
    y1.fst.visits ++
      [{ addr := (t.visits.getD y1.snd.fst.toNat default).addr, page := z2.fst,
          kept := (t.visits.getD y1.snd.fst.toNat default).kept : SVisit }],
  at_ := y1.fst.at_ : STab }, (IntKind.i64.wrap (y1.snd.fst + (1 : Int)), (y1.snd.snd.fst, ())))) <|
    .ok)
  (.leaf (mkR fCopyTab.rs (y1.fst, ())) [] [])) (by kernel_rfl) ?_
  refine lpx_i ?_ fun (y1 : STab × Int × STab × PUnit) i1 => br_i (fun h2 => ob_i ?_ fun o3 => ob_i ?_ fun o4 => lt_i (ob_i ?_ fun o5 => ob_i rfl fun _ => ob_i rfl fun _ => ob_i ?_ fun o6 => trivial)) (fun h2 => Fct.leafY ?_)
  all_goals have hl := szL_len szVisit t.visits
  all_goals try have hg := szVisit_get (l := t.visits) (i := y1.2.1.toNat)
  all_goals try have hg := szVisit_get (l := t.visits) (i := y2.2.1.toNat)
  all_goals try simp only [decide_eq_true_eq, decide_eq_false_iff_not, Bool.not_eq_true', Bool.not_eq_false', bne_iff_ne, bne_eq_false_iff_eq, beq_iff_eq, beq_eq_false_iff_ne, baEq, Int.not_lt, Int.not_le, ne_eq, Decidable.not_not] at *
  all_goals try simp only [W_impl_copyTab_fCopyTab_3, fCopyPage, fCopyTab, etaToken, etaNode, etaBuilder, etaPolicy, etaPage, etaVisit, etaTab, etaServer, etaCache, etaNet, etaLoader, etaSheet, etaResult, etaSlot, etaModule, etaAddr, etaRequest, etaResponse, etaConn, etaGuess, etaEntry, etaSent, etaFile, baSz, List.size_toArray, List.length_cons, List.length_nil, Nat.reduceAdd, Int.toNat_zero, List.drop_zero, decide_eq_true_eq, decide_eq_false_iff_not, Bool.not_eq_true', Bool.not_eq_false', bne_iff_ne, bne_eq_false_iff_eq, beq_iff_eq, beq_eq_false_iff_ne, Bool.not_eq_true, Bool.not_eq_false, ne_eq, Decidable.not_not, baEq, decide_not, Prod.mk.injEq, and_true, true_and, Room, List.nil_append, Nat.zero_add, Int.not_lt, Int.not_le, szTab, fCopyPage, take_succ, tab_take] at *
  all_goals try simp (disch := omega) only [wrapId', toNat1] at *
  all_goals try simp (disch := omega) only [if_pos, if_neg]
  all_goals first | trivial | omega | grind [wrapId', toNat1, drop_cons, drop_end, good_len, maxLen, szTab, fCopyPage, take_succ, tab_take])
def E100 : D.Env := E99.add 39 fCopyTab
theorem E100ok : EOk Tryz.prog E100 := E99ok.add k39_99
def fMin : Fct := ⟨[aI, aI], [rI], fun _ => True, fun (x : Int × Int × Unit) => (min x.1 x.2.1, ())⟩
-- spec.Min
theorem k27_100 : fMin.ok Tryz.prog 27 := Fct.of (S := fMin) (L := fun _ _ => none) (kp := [0,1,4,7,1000007]) E100ok Tryz.func27 (by kernel_rfl) (by kernel_rfl) (by
  rintro ⟨(a : Int), (b : Int), _⟩ hp
  refine holds_of (X := .br (decide (b < a))
 (.leaf (mkR fMin.rs (b, ())) [] [])
 (.leaf (mkR fMin.rs (a, ())) [] [])) (by kernel_rfl) ?_
  refine br_i (fun h1 => Fct.leafY ?_) (fun h1 => Fct.leafY ?_)
  all_goals try simp only [decide_eq_true_eq, decide_eq_false_iff_not, Bool.not_eq_true', Bool.not_eq_false', bne_iff_ne, bne_eq_false_iff_eq, beq_iff_eq, beq_eq_false_iff_ne, baEq, Int.not_lt, Int.not_le, ne_eq, Decidable.not_not] at *
  all_goals try simp only [fMin, etaToken, etaNode, etaBuilder, etaPolicy, etaPage, etaVisit, etaTab, etaServer, etaCache, etaNet, etaLoader, etaSheet, etaResult, etaSlot, etaModule, etaAddr, etaRequest, etaResponse, etaConn, etaGuess, etaEntry, etaSent, etaFile, baSz, List.size_toArray, List.length_cons, List.length_nil, Nat.reduceAdd, Int.toNat_zero, List.drop_zero, decide_eq_true_eq, decide_eq_false_iff_not, Bool.not_eq_true', Bool.not_eq_false', bne_iff_ne, bne_eq_false_iff_eq, beq_iff_eq, beq_eq_false_iff_ne, Bool.not_eq_true, Bool.not_eq_false, ne_eq, Decidable.not_not, baEq, decide_not, Prod.mk.injEq, and_true, true_and, Room, List.nil_append, Nat.zero_add, Int.not_lt, Int.not_le] at *
  all_goals first | trivial | omega | (simp_all; done) | (simp_all; omega) | grind)
def E101 : D.Env := E100.add 27 fMin
theorem E101ok : EOk Tryz.prog E101 := E100ok.add k27_100
def visitsUpTo (t : STab) : Nat := (max 0 (min (t.visits.length : Int) (min t.at_ 6 + 1))).toNat
theorem upto_le (t : STab) : visitsUpTo t ≤ t.visits.length := by unfold visitsUpTo; omega
theorem upto_int {t : STab} (h : -9223372036854775808 ≤ t.at_) : max 0 (min (t.visits.length : Int) (IntKind.i64.wrap (min t.at_ 6 + 1))) = (visitsUpTo t : Int) := by
  rw [wrapId' (by omega) (by omega)]; unfold visitsUpTo; omega
theorem upto_a {t : STab} (h : t.at_ ≥ 0) : ∀ {i2 : Decidable (6 < t.at_)} {i1 : Decidable ((t.visits.length : Int) < IntKind.i64.wrap ((@ite _ (6 < t.at_) i2 6 t.at_) + 1))}, (@ite _ ((t.visits.length : Int) < IntKind.i64.wrap ((@ite _ (6 < t.at_) i2 6 t.at_) + 1)) i1 (t.visits.length : Int) (IntKind.i64.wrap ((@ite _ (6 < t.at_) i2 6 t.at_) + 1))) = (visitsUpTo t : Int) := by
  intro i2 i1
  have e : IntKind.i64.wrap ((@ite _ (6 < t.at_) i2 6 t.at_) + 1) = (@ite _ (6 < t.at_) i2 6 t.at_) + 1 := wrapId' (by split <;> omega) (by split <;> omega)
  simp only [e] at i1 ⊢; unfold visitsUpTo; split <;> split at * <;> omega
theorem upto_b {t : STab} (h : t.at_ < 0) : ∀ {i1 : Decidable ((t.visits.length : Int) < 0)}, (@ite _ ((t.visits.length : Int) < 0) i1 (t.visits.length : Int) 0) = (visitsUpTo t : Int) := by
  intro i1; unfold visitsUpTo; split <;> omega
def pushed (t : STab) (p : SPage) : List SVisit := t.visits.take (visitsUpTo t) ++ [⟨p.addr, p, true⟩]
def pushVisit (t : STab) (p : SPage) : STab := if 6 < (pushed t p).length then ⟨(pushed t p).drop 1, ((pushed t p).drop 1).length - 1⟩ else ⟨pushed t p, (pushed t p).length - 1⟩
theorem pushed_len (t : STab) (p : SPage) : (pushed t p).length = visitsUpTo t + 1 := by have := upto_le t; simp [pushed]; omega
def fPushVisit : Fct := ⟨[.v (.el .tab), .v (.el .page)], [.el .tab], fun (x_ : STab × SPage × Unit) => szTab x_.1 ≤ 1073741824 ∧ szPage x_.2.1 ≤ 1073741824 ∧ -9223372036854775808 ≤ x_.1.at_, fun (x_ : STab × SPage × Unit) => (pushVisit x_.1 x_.2.1, ())⟩
-- spec.PushVisit
theorem k6_101 : fPushVisit.ok Tryz.prog 6 := Fct.of (S := fPushVisit) (L := fun _ _ => none) (kp := [2,3,4,5,34,1000034]) E101ok Tryz.func6 (by kernel_rfl) (by kernel_rfl) (by
  rintro ⟨(t : STab), (p : SPage), _⟩ hp
  refine holds_of (X := .ob (fCopyTab.pre (t, ())) <|
 .lt (STab × PUnit) (fCopyTab.fn (t, ())) fun z2 =>
 .ob (fMin.pre (t.at_, (6 : Int), ())) <|
  .lt (Int × PUnit) (fMin.fn (t.at_, (6 : Int), ())) fun z3 =>
  .ob (fMin.pre ((↑z2.fst.visits.length : Int), IntKind.i64.wrap (z3.fst + (1 : Int)), ())) <|
   .lt (Int × PUnit) (fMin.fn ((↑z2.fst.visits.length : Int), IntKind.i64.wrap (z3.fst + (1 : Int)), ())) fun z4 =>
   .ob (fMax.pre ((0 : Int), z4.fst, ())) <|
    .lt (Int × PUnit) (fMax.fn ((0 : Int), z4.fst, ())) fun z5 =>
    .ob ((0 : Int) ≤ z5.fst ∧ z5.fst ≤ (↑z2.fst.visits.length : Int)) <|
     .ob (fCopyPage.pre (p, ())) <|
     .lt (SPage × PUnit) (fCopyPage.fn (p, ())) fun z6 =>
     .ob ((0 : Nat) + (z5.fst.toNat - (0 : Nat)) ≤ z2.fst.visits.length) <|
      .ob (Room
  ((cut z2.fst.visits (0 : Nat) (z5.fst.toNat - (0 : Nat))).length +
    [{ addr := p.addr, page := z6.fst, kept := true : SVisit }].length)
  (424 : Nat)) <|
      .br (decide
  ((↑(cut z2.fst.visits (0 : Nat) (z5.fst.toNat - (0 : Nat)) ++
            [{ addr := p.addr, page := z6.fst, kept := true : SVisit }]).length :
      Int) >
    (6 : Int)))
      (.ob ((0 : Int) ≤ (1 : Int) ∧
  (1 : Int) ≤
    (↑(cut z2.fst.visits (0 : Nat) (z5.fst.toNat - (0 : Nat)) ++
            [{ addr := p.addr, page := z6.fst, kept := true : SVisit }]).length :
      Int)) <|
       .ob ((1 : Nat) +
    ((cut z2.fst.visits (0 : Nat) (z5.fst.toNat - (0 : Nat)) ++
          [{ addr := p.addr, page := z6.fst, kept := true : SVisit }]).length -
      (1 : Nat)) ≤
  (cut z2.fst.visits (0 : Nat) (z5.fst.toNat - (0 : Nat)) ++
      [{ addr := p.addr, page := z6.fst, kept := true : SVisit }]).length) <|
       .leaf (mkR fPushVisit.rs (⟨cut
  (cut z2.fst.visits (0 : Nat) (z5.fst.toNat - (0 : Nat)) ++
    [{ addr := p.addr, page := z6.fst, kept := true : SVisit }])
  (1 : Nat)
  ((cut z2.fst.visits (0 : Nat) (z5.fst.toNat - (0 : Nat)) ++
        [{ addr := p.addr, page := z6.fst, kept := true : SVisit }]).length -
    (1 : Nat)), IntKind.i64.wrap
  ((↑((cut z2.fst.visits (0 : Nat) (z5.fst.toNat - (0 : Nat)) ++
              [{ addr := p.addr, page := z6.fst, kept := true : SVisit }]).length -
          (1 : Nat)) :
      Int) -
    (1 : Int))⟩, ())) [] [])
      (.leaf (mkR fPushVisit.rs (⟨cut z2.fst.visits (0 : Nat) (z5.fst.toNat - (0 : Nat)) ++ [{ addr := p.addr, page := z6.fst, kept := true : SVisit }], IntKind.i64.wrap
  ((↑(cut z2.fst.visits (0 : Nat) (z5.fst.toNat - (0 : Nat)) ++
            [{ addr := p.addr, page := z6.fst, kept := true : SVisit }]).length :
      Int) -
    (1 : Int))⟩, ())) [] [])) (by kernel_rfl) ?_
  refine ob_i ?_ fun o1 => lt_e fun z2 ez2 => (ob_i trivial fun _ => lt_e fun z3 ez3 => (ob_i trivial fun _ => lt_e fun z4 ez4 => (ob_i trivial fun _ => lt_e fun z5 ez5 => (ob_i ?_ fun o2 => ob_i ?_ fun o3 => lt_e fun z6 ez6 => (ob_i ?_ fun o4 => ob_i ?_ fun o5 => br_i (fun h6 => ob_i ?_ fun o7 => ob_i ?_ fun o8 => Fct.leafY ?_) (fun h6 => Fct.leafY ?_))))))
  all_goals try (have hz : z2 = (t, ()) := by first | exact ez2 | exact ez2.symm
                 clear ez2
                 subst hz)
  all_goals try subst ez3
  all_goals try subst ez4
  all_goals try subst ez5
  all_goals try subst ez6
  all_goals try simp only [decide_eq_true_eq, decide_eq_false_iff_not, Bool.not_eq_true', Bool.not_eq_false', bne_iff_ne, bne_eq_false_iff_eq, beq_iff_eq, beq_eq_false_iff_ne, baEq, Int.not_lt, Int.not_le, ne_eq, Decidable.not_not] at *
  all_goals try simp only [fCopyPage, fCopyTab, fMax, fMin, fPushVisit, etaToken, etaNode, etaBuilder, etaPolicy, etaPage, etaVisit, etaTab, etaServer, etaCache, etaNet, etaLoader, etaSheet, etaResult, etaSlot, etaModule, etaAddr, etaRequest, etaResponse, etaConn, etaGuess, etaEntry, etaSent, etaFile, baSz, List.size_toArray, List.length_cons, List.length_nil, Nat.reduceAdd, Int.toNat_zero, List.drop_zero, decide_eq_true_eq, decide_eq_false_iff_not, Bool.not_eq_true', Bool.not_eq_false', bne_iff_ne, bne_eq_false_iff_eq, beq_iff_eq, beq_eq_false_iff_ne, Bool.not_eq_true, Bool.not_eq_false, ne_eq, Decidable.not_not, baEq, decide_not, Prod.mk.injEq, and_true, true_and, Room, List.nil_append, Nat.zero_add, Int.not_lt, Int.not_le, fCopyTab, szTab, fCopyPage, fMax, fMin, cut_end, cut_from0, Nat.sub_zero, Nat.zero_add] at *
  all_goals have hl := szL_len szVisit t.visits
  all_goals have hk := upto_le t
  all_goals have hq := pushed_len t p
  all_goals try have hx := upto_int (t := t) (by omega)
  all_goals try (have h2' : t.at_ ≥ 0 := by assumption
                 simp only [upto_a h2', Int.toNat_natCast] at *)
  all_goals try (have h2' : t.at_ < 0 := by first | assumption | exact Int.not_le.1 (by assumption)
                 simp only [upto_b h2', Int.toNat_natCast] at *)
  all_goals try simp only [hx, Int.toNat_natCast] at *
  all_goals have he : List.take (visitsUpTo t) t.visits ++ [{ addr := p.addr, page := p, kept := true }] = pushed t p := rfl
  all_goals try simp only [he, List.length_take, List.length_drop] at *
  all_goals try omega
  all_goals unfold pushVisit
  all_goals first
    | (rw [if_pos (by omega), wrapId' (by omega) (by omega)]; simp only [List.length_drop])
    | (rw [if_neg (by omega), wrapId' (by omega) (by omega)]))
def E102 : D.Env := E101.add 6 fPushVisit
theorem E102ok : EOk Tryz.prog E102 := E101ok.add k6_101
-- impl.PushVisit
theorem k9_102 : fPushVisit.ok Tryz.prog 9 := Fct.of (S := fPushVisit) (L := fun _ _ => none) (kp := [2,3,4,5,6,11,38,1000011,1000038]) E102ok Tryz.func9 (by kernel_rfl) (by kernel_rfl) (by
  rintro ⟨(t : STab), (p : SPage), _⟩ hp
  refine holds_of (X := .ob (fCopyTab.pre (t, ())) <|
 .lt (STab × PUnit) (fCopyTab.fn (t, ())) fun z2 =>
 .br (decide (t.at_ ≥ (0 : Int)))
  (.ob (((0 : Int) ≤
    if
        (↑z2.fst.visits.length : Int) <
          IntKind.i64.wrap ((if (6 : Int) < t.at_ then (6 : Int) else t.at_) + (1 : Int)) then
      (↑z2.fst.visits.length : Int)
    else IntKind.i64.wrap ((if (6 : Int) < t.at_ then (6 : Int) else t.at_) + (1 : Int))) ∧
  (if
        (↑z2.fst.visits.length : Int) <
          IntKind.i64.wrap ((if (6 : Int) < t.at_ then (6 : Int) else t.at_) + (1 : Int)) then
      (↑z2.fst.visits.length : Int)
    else IntKind.i64.wrap ((if (6 : Int) < t.at_ then (6 : Int) else t.at_) + (1 : Int))) ≤
    (↑z2.fst.visits.length : Int)) <|
   .ob (fCopyPage.pre (p, ())) <|
   .lt (SPage × PUnit) (fCopyPage.fn (p, ())) fun z3 =>
   .ob ((0 : Nat) +
    ((if
            (↑z2.fst.visits.length : Int) <
              IntKind.i64.wrap ((if (6 : Int) < t.at_ then (6 : Int) else t.at_) + (1 : Int)) then
          (↑z2.fst.visits.length : Int)
        else IntKind.i64.wrap ((if (6 : Int) < t.at_ then (6 : Int) else t.at_) + (1 : Int))).toNat -
      (0 : Nat)) ≤
  z2.fst.visits.length) <|
    .ob (Room
  ((cut z2.fst.visits (0 : Nat)
        ((if
                (↑z2.fst.visits.length : Int) <
                  IntKind.i64.wrap ((if (6 : Int) < t.at_ then (6 : Int) else t.at_) + (1 : Int)) then
              (↑z2.fst.visits.length : Int)
            else IntKind.i64.wrap ((if (6 : Int) < t.at_ then (6 : Int) else t.at_) + (1 : Int))).toNat -
          (0 : Nat))).length +
    [{ addr := p.addr, page := z3.fst, kept := true : SVisit }].length)
  (424 : Nat)) <|
    .br (decide
  ((↑(cut z2.fst.visits (0 : Nat)
              ((if
                      (↑z2.fst.visits.length : Int) <
                        IntKind.i64.wrap ((if (6 : Int) < t.at_ then (6 : Int) else t.at_) + (1 : Int)) then
                    (↑z2.fst.visits.length : Int)
                  else IntKind.i64.wrap ((if (6 : Int) < t.at_ then (6 : Int) else t.at_) + (1 : Int))).toNat -
                (0 : Nat)) ++
            [{ addr := p.addr, page := z3.fst, kept := true : SVisit }]).length :
      Int) >
    (6 : Int)))
    (.ob ((0 : Int) ≤ (1 : Int) ∧
  (1 : Int) ≤
    (↑(cut z2.fst.visits (0 : Nat)
              ((if
                      (↑z2.fst.visits.length : Int) <
                        IntKind.i64.wrap ((if (6 : Int) < t.at_ then (6 : Int) else t.at_) + (1 : Int)) then
                    (↑z2.fst.visits.length : Int)
                  else IntKind.i64.wrap ((if (6 : Int) < t.at_ then (6 : Int) else t.at_) + (1 : Int))).toNat -
                (0 : Nat)) ++
            [{ addr := p.addr, page := z3.fst, kept := true : SVisit }]).length :
      Int)) <|
     .ob ((1 : Nat) +
    ((cut z2.fst.visits (0 : Nat)
            ((if
                    (↑z2.fst.visits.length : Int) <
                      IntKind.i64.wrap ((if (6 : Int) < t.at_ then (6 : Int) else t.at_) + (1 : Int)) then
                  (↑z2.fst.visits.length : Int)
                else IntKind.i64.wrap ((if (6 : Int) < t.at_ then (6 : Int) else t.at_) + (1 : Int))).toNat -
              (0 : Nat)) ++
          [{ addr := p.addr, page := z3.fst, kept := true : SVisit }]).length -
      (1 : Nat)) ≤
  (cut z2.fst.visits (0 : Nat)
        ((if
                (↑z2.fst.visits.length : Int) <
                  IntKind.i64.wrap ((if (6 : Int) < t.at_ then (6 : Int) else t.at_) + (1 : Int)) then
              (↑z2.fst.visits.length : Int)
            else IntKind.i64.wrap ((if (6 : Int) < t.at_ then (6 : Int) else t.at_) + (1 : Int))).toNat -
          (0 : Nat)) ++
      [{ addr := p.addr, page := z3.fst, kept := true : SVisit }]).length) <|
     .leaf (mkR fPushVisit.rs (⟨cut
  (cut z2.fst.visits (0 : Nat)
      ((if
              (↑z2.fst.visits.length : Int) <
                IntKind.i64.wrap ((if (6 : Int) < t.at_ then (6 : Int) else t.at_) + (1 : Int)) then
            (↑z2.fst.visits.length : Int)
          else IntKind.i64.wrap ((if (6 : Int) < t.at_ then (6 : Int) else t.at_) + (1 : Int))).toNat -
        (0 : Nat)) ++
    [{ addr := p.addr, page := z3.fst, kept := true : SVisit }])
  (1 : Nat)
  ((cut z2.fst.visits (0 : Nat)
          ((if
                  (↑z2.fst.visits.length : Int) <
                    IntKind.i64.wrap ((if (6 : Int) < t.at_ then (6 : Int) else t.at_) + (1 : Int)) then
                (↑z2.fst.visits.length : Int)
              else IntKind.i64.wrap ((if (6 : Int) < t.at_ then (6 : Int) else t.at_) + (1 : Int))).toNat -
            (0 : Nat)) ++
        [{ addr := p.addr, page := z3.fst, kept := true : SVisit }]).length -
    (1 : Nat)), IntKind.i64.wrap
  ((↑((cut z2.fst.visits (0 : Nat)
                ((if
                        (↑z2.fst.visits.length : Int) <
                          IntKind.i64.wrap ((if (6 : Int) < t.at_ then (6 : Int) else t.at_) + (1 : Int)) then
                      (↑z2.fst.visits.length : Int)
                    else IntKind.i64.wrap ((if (6 : Int) < t.at_ then (6 : Int) else t.at_) + (1 : Int))).toNat -
                  (0 : Nat)) ++
              [{ addr := p.addr, page := z3.fst, kept := true : SVisit }]).length -
          (1 : Nat)) :
      Int) -
    (1 : Int))⟩, ())) [] [])
    (.leaf (mkR fPushVisit.rs (⟨cut z2.fst.visits (0 : Nat)
    ((if
            (↑z2.fst.visits.length : Int) <
              IntKind.i64.wrap ((if (6 : Int) < t.at_ then (6 : Int) else t.at_) + (1 : Int)) then
          (↑z2.fst.visits.length : Int)
        else IntKind.i64.wrap ((if (6 : Int) < t.at_ then (6 : Int) else t.at_) + (1 : Int))).toNat -
      (0 : Nat)) ++
  [{ addr := p.addr, page := z3.fst, kept := true : SVisit }], IntKind.i64.wrap
  ((↑(cut z2.fst.visits (0 : Nat)
              ((if
                      (↑z2.fst.visits.length : Int) <
                        IntKind.i64.wrap ((if (6 : Int) < t.at_ then (6 : Int) else t.at_) + (1 : Int)) then
                    (↑z2.fst.visits.length : Int)
                  else IntKind.i64.wrap ((if (6 : Int) < t.at_ then (6 : Int) else t.at_) + (1 : Int))).toNat -
                (0 : Nat)) ++
            [{ addr := p.addr, page := z3.fst, kept := true : SVisit }]).length :
      Int) -
    (1 : Int))⟩, ())) [] []))
  (.ob (((0 : Int) ≤ if (↑z2.fst.visits.length : Int) < (0 : Int) then (↑z2.fst.visits.length : Int) else (0 : Int)) ∧
  (if (↑z2.fst.visits.length : Int) < (0 : Int) then (↑z2.fst.visits.length : Int) else (0 : Int)) ≤
    (↑z2.fst.visits.length : Int)) <|
   .ob (fCopyPage.pre (p, ())) <|
   .lt (SPage × PUnit) (fCopyPage.fn (p, ())) fun z4 =>
   .ob ((0 : Nat) +
    ((if (↑z2.fst.visits.length : Int) < (0 : Int) then (↑z2.fst.visits.length : Int) else (0 : Int)).toNat -
      (0 : Nat)) ≤
  z2.fst.visits.length) <|
    .ob (Room
  ((cut z2.fst.visits (0 : Nat)
        ((if (↑z2.fst.visits.length : Int) < (0 : Int) then (↑z2.fst.visits.length : Int) else (0 : Int)).toNat -
          (0 : Nat))).length +
    [{ addr := p.addr, page := z4.fst, kept := true : SVisit }].length)
  (424 : Nat)) <|
    .br (decide
  ((↑(cut z2.fst.visits (0 : Nat)
              ((if (↑z2.fst.visits.length : Int) < (0 : Int) then (↑z2.fst.visits.length : Int) else (0 : Int)).toNat -
                (0 : Nat)) ++
            [{ addr := p.addr, page := z4.fst, kept := true : SVisit }]).length :
      Int) >
    (6 : Int)))
    (.ob ((0 : Int) ≤ (1 : Int) ∧
  (1 : Int) ≤
    (↑(cut z2.fst.visits (0 : Nat)
              ((if (↑z2.fst.visits.length : Int) < (0 : Int) then (↑z2.fst.visits.length : Int) else (0 : Int)).toNat -
                (0 : Nat)) ++
            [{ addr := p.addr, page := z4.fst, kept := true : SVisit }]).length :
      Int)) <|
     .ob ((1 : Nat) +
    ((cut z2.fst.visits (0 : Nat)
            ((if (↑z2.fst.visits.length : Int) < (0 : Int) then (↑z2.fst.visits.length : Int) else (0 : Int)).toNat -
              (0 : Nat)) ++
          [{ addr := p.addr, page := z4.fst, kept := true : SVisit }]).length -
      (1 : Nat)) ≤
  (cut z2.fst.visits (0 : Nat)
        ((if (↑z2.fst.visits.length : Int) < (0 : Int) then (↑z2.fst.visits.length : Int) else (0 : Int)).toNat -
          (0 : Nat)) ++
      [{ addr := p.addr, page := z4.fst, kept := true : SVisit }]).length) <|
     .leaf (mkR fPushVisit.rs (⟨cut
  (cut z2.fst.visits (0 : Nat)
      ((if (↑z2.fst.visits.length : Int) < (0 : Int) then (↑z2.fst.visits.length : Int) else (0 : Int)).toNat -
        (0 : Nat)) ++
    [{ addr := p.addr, page := z4.fst, kept := true : SVisit }])
  (1 : Nat)
  ((cut z2.fst.visits (0 : Nat)
          ((if (↑z2.fst.visits.length : Int) < (0 : Int) then (↑z2.fst.visits.length : Int) else (0 : Int)).toNat -
            (0 : Nat)) ++
        [{ addr := p.addr, page := z4.fst, kept := true : SVisit }]).length -
    (1 : Nat)), IntKind.i64.wrap
  ((↑((cut z2.fst.visits (0 : Nat)
                ((if (↑z2.fst.visits.length : Int) < (0 : Int) then (↑z2.fst.visits.length : Int)
                    else (0 : Int)).toNat -
                  (0 : Nat)) ++
              [{ addr := p.addr, page := z4.fst, kept := true : SVisit }]).length -
          (1 : Nat)) :
      Int) -
    (1 : Int))⟩, ())) [] [])
    (.leaf (mkR fPushVisit.rs (⟨cut z2.fst.visits (0 : Nat)
    ((if (↑z2.fst.visits.length : Int) < (0 : Int) then (↑z2.fst.visits.length : Int) else (0 : Int)).toNat -
      (0 : Nat)) ++
  [{ addr := p.addr, page := z4.fst, kept := true : SVisit }], IntKind.i64.wrap
  ((↑(cut z2.fst.visits (0 : Nat)
              ((if (↑z2.fst.visits.length : Int) < (0 : Int) then (↑z2.fst.visits.length : Int) else (0 : Int)).toNat -
                (0 : Nat)) ++
            [{ addr := p.addr, page := z4.fst, kept := true : SVisit }]).length :
      Int) -
    (1 : Int))⟩, ())) [] []))) (by kernel_rfl) ?_
  refine ob_i ?_ fun o1 => lt_e fun z2 ez2 => (br_i (fun h2 => ob_i ?_ fun o3 => ob_i ?_ fun o4 => lt_e fun z3 ez3 => (ob_i ?_ fun o5 => ob_i ?_ fun o6 => br_i (fun h7 => ob_i ?_ fun o8 => ob_i ?_ fun o9 => Fct.leafY ?_) (fun h7 => Fct.leafY ?_))) (fun h2 => ob_i ?_ fun o10 => ob_i ?_ fun o11 => lt_e fun z4 ez4 => (ob_i ?_ fun o12 => ob_i ?_ fun o13 => br_i (fun h14 => ob_i ?_ fun o15 => ob_i ?_ fun o16 => Fct.leafY ?_) (fun h14 => Fct.leafY ?_))))
  all_goals try (have hz : z2 = (t, ()) := by first | exact ez2 | exact ez2.symm
                 clear ez2
                 subst hz)
  all_goals try subst ez3
  all_goals try subst ez4
  all_goals try subst ez5
  all_goals try subst ez6
  all_goals try simp only [decide_eq_true_eq, decide_eq_false_iff_not, Bool.not_eq_true', Bool.not_eq_false', bne_iff_ne, bne_eq_false_iff_eq, beq_iff_eq, beq_eq_false_iff_ne, baEq, Int.not_lt, Int.not_le, ne_eq, Decidable.not_not] at *
  all_goals try simp only [fCopyPage, fCopyTab, fPushVisit, etaToken, etaNode, etaBuilder, etaPolicy, etaPage, etaVisit, etaTab, etaServer, etaCache, etaNet, etaLoader, etaSheet, etaResult, etaSlot, etaModule, etaAddr, etaRequest, etaResponse, etaConn, etaGuess, etaEntry, etaSent, etaFile, baSz, List.size_toArray, List.length_cons, List.length_nil, Nat.reduceAdd, Int.toNat_zero, List.drop_zero, decide_eq_true_eq, decide_eq_false_iff_not, Bool.not_eq_true', Bool.not_eq_false', bne_iff_ne, bne_eq_false_iff_eq, beq_iff_eq, beq_eq_false_iff_ne, Bool.not_eq_true, Bool.not_eq_false, ne_eq, Decidable.not_not, baEq, decide_not, Prod.mk.injEq, and_true, true_and, Room, List.nil_append, Nat.zero_add, Int.not_lt, Int.not_le, fCopyTab, szTab, fCopyPage, fMax, fMin, cut_end, cut_from0, Nat.sub_zero, Nat.zero_add] at *
  all_goals have hl := szL_len szVisit t.visits
  all_goals have hk := upto_le t
  all_goals have hq := pushed_len t p
  all_goals try have hx := upto_int (t := t) (by omega)
  all_goals try (have h2' : t.at_ ≥ 0 := by assumption
                 simp only [upto_a h2', Int.toNat_natCast] at *)
  all_goals try (have h2' : t.at_ < 0 := by first | assumption | exact Int.not_le.1 (by assumption)
                 simp only [upto_b h2', Int.toNat_natCast] at *)
  all_goals try simp only [hx, Int.toNat_natCast] at *
  all_goals have he : List.take (visitsUpTo t) t.visits ++ [{ addr := p.addr, page := p, kept := true }] = pushed t p := rfl
  all_goals try simp only [he, List.length_take, List.length_drop] at *
  all_goals try omega
  all_goals unfold pushVisit
  all_goals first
    | (rw [if_pos (by omega), wrapId' (by omega) (by omega)]; simp only [List.length_drop])
    | (rw [if_neg (by omega), wrapId' (by omega) (by omega)]))
def E103 : D.Env := E102.add 9 fPushVisit
theorem E103ok : EOk Tryz.prog E103 := E102ok.add k9_102
theorem szL_cat {α : Type} (f : α → Nat) (l m : List α) : szL f (l ++ m) = szL f l + szL f m := by simp [szL]; omega
theorem szL_take {α : Type} (f : α → Nat) (l : List α) (n : Nat) : szL f (l.take n) ≤ szL f l := by
  have h := szL_cat f (l.take n) (l.drop n)
  rw [List.take_append_drop] at h
  omega
theorem szL_drop {α : Type} (f : α → Nat) (l : List α) (n : Nat) : szL f (l.drop n) ≤ szL f l := by
  have h := szL_cat f (l.take n) (l.drop n)
  rw [List.take_append_drop] at h
  omega
theorem pushVisit_sz (t : STab) (p : SPage) : szTab (pushVisit t p) ≤ szTab t + 2 * szPage p + 1 := by
  have h0 : szAddr p.addr ≤ szPage p := by unfold szPage; omega
  have h1 := szL_take szVisit t.visits (visitsUpTo t)
  have h2 : szL szVisit (pushed t p) ≤ szTab t + 2 * szPage p + 1 := by
    unfold pushed
    rw [szL_cat]
    simp only [szL, szVisit, szTab, List.length_cons, List.length_nil, List.map_cons, List.map_nil, List.sum_cons, List.sum_nil] at *
    omega
  have h3 := szL_drop szVisit (pushed t p) 1
  unfold pushVisit
  split <;> simp only [szTab] at * <;> omega
def lTabPage : Fct := lawFS [.el .tab, .el .page]
-- laws.FnExactPushVisit
set_option maxHeartbeats 2000000 in
theorem k3_103 : lTabPage.ok Tryz.prog 3 := Fct.of (S := lTabPage) (L := fun _ _ => none) (kp := [2,3,4,5,6,7,8,9,10,11,12,13,18,23,39,44,49,63,71,74,83,88,91,1000018,1000023,1000039,1000044,1000049,1000063,1000071,1000074,1000083,1000088,1000091]) E103ok Tryz.func3 (by kernel_rfl) (by kernel_rfl) (by
  rintro ⟨(t : STab), (p : SPage), _⟩ hp
  refine holds_of (X := .ob (fszTab.pre (t, (1048576 : Int), ())) <|
 .lt (Int × PUnit) (fszTab.fn (t, (1048576 : Int), ())) fun z2 =>
 .br (decide (z2.fst < (0 : Int)))
  (.leaf (mkR lTabPage.rs (true, ())) [] [])
  (.ob (fszPage.pre (p, z2.fst, ())) <|
   .lt (Int × PUnit) (fszPage.fn (p, z2.fst, ())) fun z3 =>
   .br (decide (z3.fst < (0 : Int)))
    (.leaf (mkR lTabPage.rs (true, ())) [] [])
    (.ob (ftoTab.pre (t, ())) <|
     .lt (STab × PUnit) (ftoTab.fn (t, ())) fun z4 =>
     .ob (ftoPage.pre (p, ())) <|
      .lt (SPage × PUnit) (ftoPage.fn (p, ())) fun z5 =>
      .ob (fPushVisit.pre (z4.fst, z5.fst, ())) <|
       .lt (STab × PUnit) (fPushVisit.fn (z4.fst, z5.fst, ())) fun z6 =>
       .ob (ftoTab.pre (t, ())) <|
        .lt (STab × PUnit) (ftoTab.fn (t, ())) fun z7 =>
        .ob (ftoPage.pre (p, ())) <|
         .lt (SPage × PUnit) (ftoPage.fn (p, ())) fun z8 =>
         .ob (fPushVisit.pre (z7.fst, z8.fst, ())) <|
          .lt (STab × PUnit) (fPushVisit.fn (z7.fst, z8.fst, ())) fun z9 =>
          .ob (feqTab.pre (z9.fst, z6.fst, ())) <|
           .lt (Bool × PUnit) (feqTab.fn (z9.fst, z6.fst, ())) fun z10 =>
           .br (!z10.fst)
            (.leaf (mkR lTabPage.rs (false, ())) [] [])
            (.ob (ftoTab.pre (t, ())) <|
             .lt (STab × PUnit) (ftoTab.fn (t, ())) fun z11 =>
             .ob (feqTab.pre (z7.fst, z11.fst, ())) <|
              .lt (Bool × PUnit) (feqTab.fn (z7.fst, z11.fst, ())) fun z12 =>
              .br (!z12.fst)
               (.leaf (mkR lTabPage.rs (false, ())) [] [])
               (.ob (ftoPage.pre (p, ())) <|
                .lt (SPage × PUnit) (ftoPage.fn (p, ())) fun z13 =>
                .ob (feqPage.pre (z8.fst, z13.fst, ())) <|
                 .lt (Bool × PUnit) (feqPage.fn (z8.fst, z13.fst, ())) fun z14 =>
                 .br (!z14.fst)
                  (.leaf (mkR lTabPage.rs (false, ())) [] [])
                  (.ob (fmarkTab.pre z7.fst (1 : Int)) <|
                   .lt (STab × Int) (fmarkTab.fn z7.fst (1 : Int)) fun z15 =>
                   .ob (fmarkPage.pre z8.fst z15.snd) <|
                    .lt (SPage × Int) (fmarkPage.fn z8.fst z15.snd) fun z16 =>
                    .br (decide (z16.snd < (0 : Int)))
                     (.leaf (mkR lTabPage.rs (false, ())) [] [])
                     (.ob (feqTab.pre (z9.fst, z6.fst, ())) <|
                      .lt (Bool × PUnit) (feqTab.fn (z9.fst, z6.fst, ())) fun z17 =>
                      .br (!z17.fst)
                       (.leaf (mkR lTabPage.rs (false, ())) [] [])
                       (.ob (fmarkTab.pre z9.fst (1 : Int)) <|
                        .lt (STab × Int) (fmarkTab.fn z9.fst (1 : Int)) fun z18 =>
                        .ob (fheldTab.pre ({ visits := z18.fst.visits, at_ := z9.fst.at_ : STab }, (1 : Int), ())) <|
                         .lt (Int × PUnit) (fheldTab.fn ({ visits := z18.fst.visits, at_ := z9.fst.at_ : STab }, (1 : Int), ())) fun z19 =>
                         .br (decide (z19.fst < (0 : Int)))
                          (.leaf (mkR lTabPage.rs (false, ())) [] [])
                          (.br (z19.fst != z18.snd)
                           (.leaf (mkR lTabPage.rs (false, ())) [] [])
                           (.ob (ftoTab.pre (t, ())) <|
                            .lt (STab × PUnit) (ftoTab.fn (t, ())) fun z20 =>
                            .ob (ftoPage.pre (p, ())) <|
                             .lt (SPage × PUnit) (ftoPage.fn (p, ())) fun z21 =>
                             .ob (fPushVisit.pre (z20.fst, z21.fst, ())) <|
                              .lt (STab × PUnit) (fPushVisit.fn (z20.fst, z21.fst, ())) fun z22 =>
                              .ob (feqTab.pre (z22.fst, z6.fst, ())) <|
                               .lt (Bool × PUnit) (feqTab.fn (z22.fst, z6.fst, ())) fun z23 =>
                               .br (!z23.fst)
                                (.leaf (mkR lTabPage.rs (false, ())) [] [])
                                (.ob (fheldTab.pre ({ visits := z18.fst.visits, at_ := z9.fst.at_ : STab }, (1 : Int), ())) <|
                                 .lt (Int × PUnit) (fheldTab.fn ({ visits := z18.fst.visits, at_ := z9.fst.at_ : STab }, (1 : Int), ())) fun z24 =>
                                 .br (decide (z24.fst < (0 : Int)))
                                  (.leaf (mkR lTabPage.rs (false, ())) [] [])
                                  (.br (z24.fst != z18.snd)
                                   (.leaf (mkR lTabPage.rs (false, ())) [] [])
                                   (.leaf (mkR lTabPage.rs (true, ())) [] []))))))))))))) (by kernel_rfl) ?_
  refine ob_i ?_ fun o1 => lt_e fun z2 ez2 => (br_i (fun h2 => Fct.leafY ?_) (fun h2 => ob_i ?_ fun o3 => lt_e fun z3 ez3 => (br_i (fun h4 => Fct.leafY ?_) (fun h4 => ob_i ?_ fun o5 => lt_e fun z4 ez4 => (ob_i ?_ fun o6 => lt_e fun z5 ez5 => (ob_i ?_ fun o7 => lt_e fun z6 ez6 => (ob_i ?_ fun o8 => lt_e fun z7 ez7 => (ob_i ?_ fun o9 => lt_e fun z8 ez8 => (ob_i ?_ fun o10 => lt_e fun z9 ez9 => (ob_i ?_ fun o11 => lt_e fun z10 ez10 => (br_i (fun h12 => Fct.leafY ?_) (fun h12 => ob_i ?_ fun o13 => lt_e fun z11 ez11 => (ob_i ?_ fun o14 => lt_e fun z12 ez12 => (br_i (fun h15 => Fct.leafY ?_) (fun h15 => ob_i ?_ fun o16 => lt_e fun z13 ez13 => (ob_i ?_ fun o17 => lt_e fun z14 ez14 => (br_i (fun h18 => Fct.leafY ?_) (fun h18 => ob_i ?_ fun o19 => lt_e fun z15 ez15 => (ob_i ?_ fun o20 => lt_e fun z16 ez16 => (br_i (fun h21 => Fct.leafY ?_) (fun h21 => ob_i ?_ fun o22 => lt_e fun z17 ez17 => (br_i (fun h23 => Fct.leafY ?_) (fun h23 => ob_i ?_ fun o24 => lt_e fun z18 ez18 => (ob_i ?_ fun o25 => lt_e fun z19 ez19 => (br_i (fun h26 => Fct.leafY ?_) (fun h26 => br_i (fun h27 => Fct.leafY ?_) (fun h27 => ob_i ?_ fun o28 => lt_e fun z20 ez20 => (ob_i ?_ fun o29 => lt_e fun z21 ez21 => (ob_i ?_ fun o30 => lt_e fun z22 ez22 => (ob_i ?_ fun o31 => lt_e fun z23 ez23 => (br_i (fun h32 => Fct.leafY ?_) (fun h32 => ob_i ?_ fun o33 => lt_e fun z24 ez24 => (br_i (fun h34 => Fct.leafY ?_) (fun h34 => br_i (fun h35 => Fct.leafY ?_) (fun h35 => Fct.leafY ?_)))))))))))))))))))))))))))))))))))
  all_goals have hps := pushVisit_sz t p
  all_goals have hg0 : Sh.good (.el .tab) t := hp.1
  all_goals have hg1 : Sh.good (.el .page) p := hp.2.1
  all_goals have hI0 := goodI (t.at_) hg0 (by simp [enc])
  all_goals clear hp
  all_goals try have hbd0 := mvTab_bd z7.fst (1 : Int)
  all_goals try have hbd1 := mvPage_bd z8.fst z15.snd
  all_goals try have hbd2 := mvTab_bd z9.fst (1 : Int)
  all_goals subst_vars
  all_goals try simp only [decide_eq_true_eq, decide_eq_false_iff_not, Bool.not_eq_true', Bool.not_eq_false', bne_iff_ne, bne_eq_false_iff_eq, beq_iff_eq, beq_eq_false_iff_ne, baEq, Int.not_lt, Int.not_le, ne_eq, Decidable.not_not] at *
  all_goals try simp only [fPushVisit, feqPage, feqTab, fheldTab, fmarkPage, fmarkTab, fszPage, fszTab, ftoPage, ftoTab, lTabPage, etaToken, etaNode, etaBuilder, etaPolicy, etaPage, etaVisit, etaTab, etaServer, etaCache, etaNet, etaLoader, etaSheet, etaResult, etaSlot, etaModule, etaAddr, etaRequest, etaResponse, etaConn, etaGuess, etaEntry, etaSent, etaFile, baSz, List.size_toArray, List.length_cons, List.length_nil, Nat.reduceAdd, Int.toNat_zero, List.drop_zero, decide_eq_true_eq, decide_eq_false_iff_not, Bool.not_eq_true', Bool.not_eq_false', bne_iff_ne, bne_eq_false_iff_eq, beq_iff_eq, beq_eq_false_iff_ne, Bool.not_eq_true, Bool.not_eq_false, ne_eq, Decidable.not_not, baEq, decide_not, Prod.mk.injEq, and_true, true_and, Room, List.nil_append, Nat.zero_add, Int.not_lt, Int.not_le, decide_true] at *
  all_goals try simp only [mvPage_re, mvTab_re] at *
  all_goals first | trivial | omega | grind [lessen])
def E104 : D.Env := E103.add 3 lTabPage
theorem E104ok : EOk Tryz.prog E104 := E103ok.add k3_103

section
open Go.ChangeShapes Go.WideShapes Go.ChangeAt Go.RowKit
theorem own : ownKnob Tryz.prog.godebug = none := by kernel_rfl
theorem types : ∀ e t, tyOf e = some t → e ∈ ([3, 4, 5, 9, 24, 26, 29, 31, 36, 41, 46, 49, 50, 51, 55, 60, 81, 111, 115, 120, 123, 130, 135, 138, 152, 155, 163, 165] : List TypeId) := by
  intro e t h
  unfold tyOf at h
  split at h <;> first | (simp; done) | cases h
theorem lifted (os : Os) (started : os.Started) (H : Type) (enc : TypeId × Value → H) :
    ReturnsInHanded {} Tryz.checked os 3 .any (Rows.fnExactPushVisitSpec.pre6 enc Tryz.prog Tryz.f3 Rows.fnExactPushVisitRow.domain false) (Rows.fnExactPushVisitSpec.post enc Tryz.prog Tryz.f3 false true false false) := by
  refine handed_sh (C := Tryz.checked) own started (by kernel_rfl) Tryz.func3
    (ChangeSpec.witness6 (enc := enc) (C := Tryz.checked) false ⟨#[], #[.agg #[.slice none 0 0, .int .i64 0], .agg #[.string ⟨#[]⟩, .string ⟨#[]⟩, .bool false, .slice none 0 0, .slice none 0 0, .slice none 0 0, .string ⟨#[]⟩, .string ⟨#[]⟩, .slice none 0 0, .bool false, .slice none 0 0, .slice none 0 0, .slice none 0 0, .slice none 0 0, .slice none 0 0, .int .i64 0, .int .i64 0, .int .i64 0, .int .i64 0, .slice none 0 0, .slice none 0 0, .bool false]], []⟩ 8 (by kernel_rfl) (by kernel_rfl) (by kernel_rfl) (by kernel_rfl)) ?_
  intro W base args ds gs before hval0 hW hsh
  have hval : ∀ (j : Nat) t v, Tryz.f3.params[j]? = some t → args[j]? = some v → Value.okWide Tryz.prog W .any base t v := hval0
  refine law_calls (show rowOk Tryz.prog Tryz.f3 tyOf [3, 4, 5, 9, 24, 26, 29, 31, 36, 41, 46, 49, 50, 51, 55, 60, 81, 111, 115, 120, 123, 130, 135, 138, 152, 155, 163, 165] [.el .tab, .el .page] = true by kernel_rfl) types rfl Tryz.underlying4 rfl hW (fun xs h => ?_) hval hsh (laid_none (by kernel_rfl) (by kernel_rfl) (by kernel_rfl)) k3_103
  · rw [Tryz.params3] at h
    match xs, (show xs.length = 2 from h) with
    | [x0, x1], _ => rfl
set_option maxHeartbeats 0 in
theorem closed : joinedFacts Tryz.prog 3 Tryz.f3 Rows.fnExactPushVisitSpec Rows.fnExactPushVisitRow = true := by
  unfold joinedFacts
  refine (and_i (and_i (and_i (and_i (and_i (and_i (and_i (and_i (and_i (and_i (and_i (and_i (and_i (and_i (and_i (and_i (and_i (and_i (and_i (and_i (and_i (and_i (and_i (and_i (and_i (and_i (and_i (and_i (and_i (and_i (and_i ?_ ?_) ?_) ?_) ?_) ?_) ?_) ?_) ?_) ?_) ?_) ?_) ?_) ?_) ?_) ?_) ?_) ?_) ?_) ?_) ?_) ?_) ?_) ?_) ?_) ?_) ?_) ?_) ?_) ?_) ?_) ?_)
  all_goals decide +kernel
theorem over : Rows.fnExactPushVisitRow.holds Tryz.pinned (OpenSpec.ofChange Rows.fnExactPushVisitSpec) :=
  OpenClaim.holds_of_wide 3 Tryz.f3 rfl rfl rfl rfl rfl rfl rfl ⟨rfl, rfl, rfl, rfl, rfl⟩ rfl rfl rfl rfl rfl (by kernel_rfl) Tryz.func3 closed
    (of_decide_eq_true (by kernel_rfl)) (by unfold Func.isWrapper; first | (rw [if_pos (by decide +kernel)]; kernel_rfl) | (rw [if_neg (by decide +kernel)]; exact ⟨rfl, rfl⟩))
    (fun os started H enc _ => lifted os started H enc)
theorem proved : Rows.FnExactPushVisitSaid := over
end
end Go.Proofs.YtjecgpcdjomonaaGreat.fnExactPushVisit
