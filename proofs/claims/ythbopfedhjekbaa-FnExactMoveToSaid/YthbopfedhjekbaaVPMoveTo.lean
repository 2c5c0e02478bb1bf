/-
  The program's MoveTo returns what the reference's returns, for all arguments: the law returns true. No condition.
-/
import Derived.Test.YthbopfedhjekbaaVPMoveTo1
import Derived.Test.YthbopfedhjekbaaRows
import Derived.WalkKit
import Derived.ProofKit
import Derived.OpenShut
namespace Go.Proofs.Ythbopfedhjekbaa.fnExactMoveTo
open Go.Proofs.Ythbopfedhjekbaa
open Go.D
set_option maxRecDepth 100000
set_option linter.unusedVariables false
set_option linter.unusedSimpArgs false

-- laws.toVisitS
theorem k14_75 : ftoVisitS.ok Try.prog 14 := Fct.of (S := ftoVisitS) (L := fun ⟨l, _⟩ => fun | 3 => some (LtoS .visit l) | _ => none) (kp := [0,2,3,4,11,1000011]) E75ok Try.func14 (by kernel_rfl) (by kernel_rfl) (by
  rintro ⟨(l : List SVisit), _⟩ hp
  refine holds_of (X := .ob ((↑l.length : Int) = (↑l.length : Int) ∧
  (0 : Int) ≤ (↑l.length : Int) ∧
    (424 : Int) * (↑l.length : Int) ≤ (140737488355328 : Int) ∧ (↑l.length : Int) ≤ (140737488355328 : Int)) <|
 lpx (LtoS .visit l) ((0 : Int), (List.replicate (↑l.length : Int).toNat default, ())) fun (y2 : Int × List SVisit × PUnit) bk2 =>
 .br (decide (y2.fst < (↑l.length : Int)))
  (.ob ((0 : Int) ≤ y2.fst ∧ y2.fst < (↑l.length : Int)) <|
   .ob (ftoVisit.pre (l.getD y2.fst.toNat default, ())) <|
   .lt (SVisit × PUnit) (ftoVisit.fn (l.getD y2.fst.toNat default, ())) fun z2 =>
   .ob ((0 : Int) ≤ y2.fst ∧ y2.fst < (↑y2.snd.fst.length : Int)) <|
    .ob (y2.fst.toNat < y2.snd.fst.length) <|
    .lt (List SVisit) (y2.snd.fst.modify y2.fst.toNat fun z => z2.fst) fun z3 =>
    .ob (l = l) <|
     .ob (bk2 (IntKind.i64.wrap (y2.fst + (1 : Int)), (z3, ()))) <|
     .ok)
  (.leaf (mkR ftoVisitS.rs (y2.snd.fst, ())) [] [])) (by kernel_rfl) ?_
  refine ob_i ?_ fun o1 => lpx_i ?_ fun (y2 : Int × List SVisit × PUnit) i2 => br_i (fun h3 => ob_i ?_ fun o4 => ob_i ?_ fun o5 => lt_i (ob_i ?_ fun o6 => ob_i ?_ fun o7 => lt_i (ob_i rfl fun _ => ob_i ?_ fun o8 => trivial))) (fun h3 => Fct.leafY ?_)
  all_goals try simp only [decide_eq_true_eq, decide_eq_false_iff_not, Bool.not_eq_true', Bool.not_eq_false', bne_iff_ne, bne_eq_false_iff_eq, beq_iff_eq, beq_eq_false_iff_ne, baEq, Int.not_lt, Int.not_le, ne_eq, Decidable.not_not] at *
  all_goals try simp only [LtoS, ftoVisit, ftoVisitS, etaToken, etaNode, etaBuilder, etaPolicy, etaPage, etaVisit, etaTab, etaServer, etaCache, etaNet, etaLoader, etaSheet, etaResult, etaSlot, etaModule, etaAddr, etaRequest, etaResponse, etaConn, etaGuess, etaEntry, etaSent, etaFile, baSz, List.size_toArray, List.length_cons, List.length_nil, Nat.reduceAdd, Int.toNat_zero, List.drop_zero, decide_eq_true_eq, decide_eq_false_iff_not, Bool.not_eq_true', Bool.not_eq_false', bne_iff_ne, bne_eq_false_iff_eq, beq_iff_eq, beq_eq_false_iff_ne, Bool.not_eq_true, Bool.not_eq_false, ne_eq, Decidable.not_not, baEq, decide_not, Prod.mk.injEq, and_true, true_and, Room, List.nil_append, Nat.zero_add, Int.not_lt, Int.not_le] at *
  · have := szL_len szVisit l; omega
  · exact ⟨by omega, by omega, by simp⟩
  · omega
  · have hs := sum_take_le szVisit l (y2.1.toNat + 1)
    rw [sum_take szVisit (by omega)] at hs
    simp only [szL] at hp; omega
  · rw [i2.2.2]; simp; omega
  · rw [i2.2.2]; simp; omega
  · have hw : IntKind.i64.wrap (y2.1 + 1) = y2.1 + 1 := wrapId (by have := szL_len szVisit l; omega)
    rw [hw, toNat1 (by omega), i2.2.2]
    refine ⟨⟨by omega, by omega, ?_⟩, by omega⟩
    rw [show l.length - y2.1.toNat = (l.length - (y2.1.toNat + 1)) + 1 from by omega, List.replicate_succ, mod_at (by simp; omega), take_succ (by omega)]
    simp
  · have e : l.take y2.1.toNat = l := List.take_of_length_le (by omega)
    rw [i2.2.2, e]; simp; omega)
def E76 : D.Env := E75.add 14 ftoVisitS
theorem E76ok : EOk Try.prog E76 := E75ok.add k14_75
-- laws.eqVisitS
set_option maxHeartbeats 2000000 in
theorem k17_76 : feqVisitS.ok Try.prog 17 := Fct.of (S := feqVisitS) (L := fun ⟨l, m, _⟩ => fun | 4 => some (LeqS .visit l m) | _ => none) (kp := [0,1,4,5,10,14,26,1000010,1000014,1000026]) E76ok Try.func17 (by kernel_rfl) (by kernel_rfl) (by
  rintro ⟨(l : List SVisit), (m : List SVisit), _⟩ hp
  refine holds_of (X := .br ((↑l.length : Int) != (↑m.length : Int))
 (.leaf (mkR feqVisitS.rs (false, ())) [] [])
 (lpx (LeqS .visit l m) ((0 : Int), ()) fun (y2 : Int × PUnit) bk2 =>
  .br (decide (y2.fst < (↑l.length : Int)))
   (.ob ((0 : Int) ≤ y2.fst ∧ y2.fst < (↑l.length : Int)) <|
    .ob ((0 : Int) ≤ y2.fst ∧ y2.fst < (↑m.length : Int)) <|
    .ob (feqVisit.pre (l.getD y2.fst.toNat default, m.getD y2.fst.toNat default, ())) <|
    .lt (Bool × PUnit) (feqVisit.fn (l.getD y2.fst.toNat default, m.getD y2.fst.toNat default, ())) fun z2 =>
    .br (!z2.fst)
     (.leaf (mkR feqVisitS.rs (false, ())) [] [])
     (.ob (l = l) <|
      .ob (m = m) <|
      .ob (bk2 (IntKind.i64.wrap (y2.fst + (1 : Int)), ())) <|
      .ok))
   (.leaf (mkR feqVisitS.rs (true, ())) [] []))) (by kernel_rfl) ?_
  refine br_i (fun h1 => Fct.leafY ?_) (fun h1 => lpx_i ?_ fun (y2 : Int × PUnit) i2 => br_i (fun h3 => ob_i ?_ fun o4 => ob_i ?_ fun o5 => ob_i ?_ fun o6 => lt_i (br_i (fun h7 => Fct.leafY ?_) (fun h7 => ob_i rfl fun _ => ob_i rfl fun _ => ob_i ?_ fun o8 => trivial))) (fun h3 => Fct.leafY ?_))
  all_goals try simp only [decide_eq_true_eq, decide_eq_false_iff_not, Bool.not_eq_true', Bool.not_eq_false', bne_iff_ne, bne_eq_false_iff_eq, beq_iff_eq, beq_eq_false_iff_ne, baEq, Int.not_lt, Int.not_le, ne_eq, Decidable.not_not] at *
  all_goals try simp only [LeqS, feqVisit, feqVisitS, etaToken, etaNode, etaBuilder, etaPolicy, etaPage, etaVisit, etaTab, etaServer, etaCache, etaNet, etaLoader, etaSheet, etaResult, etaSlot, etaModule, etaAddr, etaRequest, etaResponse, etaConn, etaGuess, etaEntry, etaSent, etaFile, baSz, List.size_toArray, List.length_cons, List.length_nil, Nat.reduceAdd, Int.toNat_zero, List.drop_zero, decide_eq_true_eq, decide_eq_false_iff_not, Bool.not_eq_true', Bool.not_eq_false', bne_iff_ne, bne_eq_false_iff_eq, beq_iff_eq, beq_eq_false_iff_ne, Bool.not_eq_true, Bool.not_eq_false, ne_eq, Decidable.not_not, baEq, decide_not, Prod.mk.injEq, and_true, true_and, Room, List.nil_append, Nat.zero_add, Int.not_lt, Int.not_le] at *
  all_goals have hl := szL_len szVisit l
  · rw [decide_eq_false]; rintro rfl; omega
  · exact ⟨by omega, by omega, by simp⟩
  · omega
  · omega
  · have hs := szL_get szVisit (l := l) (i := y2.1.toNat) (by omega); omega
  · rw [decide_eq_false]; rintro rfl; first | exact absurd rfl h6 | exact absurd rfl h7
  · have hw : IntKind.i64.wrap (y2.1 + 1) = y2.1 + 1 := wrapId (by omega)
    rw [hw, toNat1 (by omega)]
    refine ⟨⟨by omega, by omega, ?_⟩, by omega⟩
    rw [take_succ (by omega), take_succ (by omega), i2.2.2]; first | rw [h6] | rw [h7]
  · have e : l.take y2.1.toNat = l := List.take_of_length_le (by omega)
    have e2 : m.take y2.1.toNat = m := List.take_of_length_le (by omega)
    rw [decide_eq_true]; rw [← e, ← e2, i2.2.2])
def E77 : D.Env := E76.add 17 feqVisitS
theorem E77ok : EOk Try.prog E77 := E76ok.add k17_76
-- laws.markVisitS
set_option maxHeartbeats 0 in
theorem k18_77 : fmarkVisitS.ok Try.prog 18 := MS.of (S := fmarkVisitS) (L := fun l k => fun | 2 => some (LmkS .visit mkVisit l k) | _ => none) (kp := [0,1,4,5,9,1000009]) (kl := [0]) E77ok Try.func18 (by kernel_rfl) (by kernel_rfl) (by
  rintro (l : List SVisit) (k : Int) hp
  refine holds_of (X := lpx (LmkS .visit mkVisit l k) (k, ((0 : Int), (l, ()))) fun (y1 : Int × Int × List SVisit × PUnit) bk1 =>
 .br (decide (y1.snd.fst < (↑y1.snd.snd.fst.length : Int)))
  (.ob (fmarkText.pre (y1.fst, ())) <|
   .lt (ByteArray × PUnit) (fmarkText.fn (y1.fst, ())) fun z2 =>
   .ob ((0 : Int) ≤ y1.snd.fst ∧ y1.snd.fst < (↑y1.snd.snd.fst.length : Int)) <|
    .ob (y1.snd.fst.toNat < y1.snd.snd.fst.length) <|
    .lt (List SVisit) (y1.snd.snd.fst.modify y1.snd.fst.toNat fun z =>
  { addr := { host := z2.fst, path := z.addr.path : SAddr }, page := z.page, kept := z.kept : SVisit }) fun z3 =>
    .ob (fmarkText.pre (IntKind.i64.wrap (y1.fst + (1 : Int)), ())) <|
     .lt (ByteArray × PUnit) (fmarkText.fn (IntKind.i64.wrap (y1.fst + (1 : Int)), ())) fun z4 =>
     .ob ((0 : Int) ≤ y1.snd.fst ∧ y1.snd.fst < (↑z3.length : Int)) <|
      .ob (y1.snd.fst.toNat < z3.length) <|
      .lt (List SVisit) (z3.modify y1.snd.fst.toNat fun z =>
  { addr := { host := z.addr.host, path := z4.fst : SAddr }, page := z.page, kept := z.kept : SVisit }) fun z5 =>
      .ob (fmarkText.pre (IntKind.i64.wrap (IntKind.i64.wrap (y1.fst + (1 : Int)) + (1 : Int)), ())) <|
       .lt (ByteArray × PUnit) (fmarkText.fn (IntKind.i64.wrap (IntKind.i64.wrap (y1.fst + (1 : Int)) + (1 : Int)), ())) fun z6 =>
       .ob ((0 : Int) ≤ y1.snd.fst ∧ y1.snd.fst < (↑z5.length : Int)) <|
        .ob (y1.snd.fst.toNat < z5.length) <|
        .lt (List SVisit) (z5.modify y1.snd.fst.toNat fun z =>
  { addr := z.addr,
    page :=
      { addr := { host := z6.fst, path := z.page.addr.path : SAddr }, policy := z.page.policy, tok := z.page.tok,
        queue := z.page.queue, ended := z.page.ended, builder := z.page.builder, slots := z.page.slots,
        mods := z.page.mods, entries := z.page.entries, block := z.page.block, inline := z.page.inline,
        deferred := z.page.deferred, entered := z.page.entered, ran := z.page.ran, log := z.page.log,
        loaded := z.page.loaded : SPage },
    kept := z.kept : SVisit }) fun z7 =>
        .ob (fmarkText.pre (IntKind.i64.wrap (IntKind.i64.wrap (IntKind.i64.wrap (y1.fst + (1 : Int)) + (1 : Int)) + (1 : Int)), ())) <|
         .lt (ByteArray × PUnit) (fmarkText.fn (IntKind.i64.wrap (IntKind.i64.wrap (IntKind.i64.wrap (y1.fst + (1 : Int)) + (1 : Int)) + (1 : Int)), ())) fun z8 =>
         .ob ((0 : Int) ≤ y1.snd.fst ∧ y1.snd.fst < (↑z7.length : Int)) <|
          .ob (y1.snd.fst.toNat < z7.length) <|
          .lt (List SVisit) (z7.modify y1.snd.fst.toNat fun z =>
  { addr := z.addr,
    page :=
      { addr := { host := z.page.addr.host, path := z8.fst : SAddr }, policy := z.page.policy, tok := z.page.tok,
        queue := z.page.queue, ended := z.page.ended, builder := z.page.builder, slots := z.page.slots,
        mods := z.page.mods, entries := z.page.entries, block := z.page.block, inline := z.page.inline,
        deferred := z.page.deferred, entered := z.page.entered, ran := z.page.ran, log := z.page.log,
        loaded := z.page.loaded : SPage },
    kept := z.kept : SVisit }) fun z9 =>
          .ob ((3 : Int) ≠ (0 : Int)) <|
           .ob ((0 : Int) ≤ y1.snd.fst ∧ y1.snd.fst < (↑z9.length : Int)) <|
           .ob (y1.snd.fst.toNat < z9.length) <|
           .lt (List SVisit) (z9.modify y1.snd.fst.toNat fun z =>
  { addr := z.addr,
    page :=
      { addr := z.page.addr,
        policy :=
          {
            set_ :=
              (IntKind.i64.wrap
                      (IntKind.i64.wrap
                          (IntKind.i64.wrap (IntKind.i64.wrap (y1.fst + (1 : Int)) + (1 : Int)) + (1 : Int)) +
                        (1 : Int))).tmod
                  (3 : Int) ==
                (0 : Int),
            scripts := z.page.policy.scripts, styles := z.page.policy.styles, images := z.page.policy.images,
            nonce := z.page.policy.nonce : SPolicy },
        tok := z.page.tok, queue := z.page.queue, ended := z.page.ended, builder := z.page.builder,
        slots := z.page.slots, mods := z.page.mods, entries := z.page.entries, block := z.page.block,
        inline := z.page.inline, deferred := z.page.deferred, entered := z.page.entered, ran := z.page.ran,
        log := z.page.log, loaded := z.page.loaded : SPage },
    kept := z.kept : SVisit }) fun z10 =>
           .ob ((0 : Int) ≤ y1.snd.fst ∧ y1.snd.fst < (↑z10.length : Int)) <|
            .ob (y1.snd.fst.toNat < z10.length) <|
            .ob (fmarkStringS.pre (z10.getD y1.snd.fst.toNat default).page.policy.scripts
  (IntKind.i64.wrap
    (IntKind.i64.wrap
        (IntKind.i64.wrap (IntKind.i64.wrap (IntKind.i64.wrap (y1.fst + (1 : Int)) + (1 : Int)) + (1 : Int)) +
          (1 : Int)) +
      (1 : Int)))) <|
            .lt (List ByteArray × Int) (fmarkStringS.fn (z10.getD y1.snd.fst.toNat default).page.policy.scripts
  (IntKind.i64.wrap
    (IntKind.i64.wrap
        (IntKind.i64.wrap (IntKind.i64.wrap (IntKind.i64.wrap (y1.fst + (1 : Int)) + (1 : Int)) + (1 : Int)) +
          (1 : Int)) +
      (1 : Int)))) fun z11 =>
            .lt (List SVisit) (z10.modify y1.snd.fst.toNat fun z =>
  { addr := z.addr,
    page :=
      { addr := z.page.addr,
        policy :=
          { set_ := z.page.policy.set_, scripts := z11.fst, styles := z.page.policy.styles,
            images := z.page.policy.images, nonce := z.page.policy.nonce : SPolicy },
        tok := z.page.tok, queue := z.page.queue, ended := z.page.ended, builder := z.page.builder,
        slots := z.page.slots, mods := z.page.mods, entries := z.page.entries, block := z.page.block,
        inline := z.page.inline, deferred := z.page.deferred, entered := z.page.entered, ran := z.page.ran,
        log := z.page.log, loaded := z.page.loaded : SPage },
    kept := z.kept : SVisit }) fun z12 =>
             .ob ((0 : Int) ≤ y1.snd.fst ∧ y1.snd.fst < (↑z12.length : Int)) <|
              .ob (y1.snd.fst.toNat < z12.length) <|
              .ob (fmarkStringS.pre (z12.getD y1.snd.fst.toNat default).page.policy.styles z11.snd) <|
              .lt (List ByteArray × Int) (fmarkStringS.fn (z12.getD y1.snd.fst.toNat default).page.policy.styles z11.snd) fun z13 =>
              .lt (List SVisit) (z12.modify y1.snd.fst.toNat fun z =>
  { addr := z.addr,
    page :=
      { addr := z.page.addr,
        policy :=
          { set_ := z.page.policy.set_, scripts := z.page.policy.scripts, styles := z13.fst,
            images := z.page.policy.images, nonce := z.page.policy.nonce : SPolicy },
        tok := z.page.tok, queue := z.page.queue, ended := z.page.ended, builder := z.page.builder,
        slots := z.page.slots, mods := z.page.mods, entries := z.page.entries, block := z.page.block,
        inline := z.page.inline, deferred := z.page.deferred, entered := z.page.entered, ran := z.page.ran,
        log := z.page.log, loaded := z.page.loaded : SPage },
    kept := z.kept : SVisit }) fun z14 =>
               .ob ((0 : Int) ≤ y1.snd.fst ∧ y1.snd.fst < (↑z14.length : Int)) <|
                .ob (y1.snd.fst.toNat < z14.length) <|
                .ob (fmarkStringS.pre (z14.getD y1.snd.fst.toNat default).page.policy.images z13.snd) <|
                .lt (List ByteArray × Int) (fmarkStringS.fn (z14.getD y1.snd.fst.toNat default).page.policy.images z13.snd) fun z15 =>
                .lt (List SVisit) (z14.modify y1.snd.fst.toNat fun z =>
  { addr := z.addr,
    page :=
      { addr := z.page.addr,
        policy :=
          { set_ := z.page.policy.set_, scripts := z.page.policy.scripts, styles := z.page.policy.styles,
            images := z15.fst, nonce := z.page.policy.nonce : SPolicy },
        tok := z.page.tok, queue := z.page.queue, ended := z.page.ended, builder := z.page.builder,
        slots := z.page.slots, mods := z.page.mods, entries := z.page.entries, block := z.page.block,
        inline := z.page.inline, deferred := z.page.deferred, entered := z.page.entered, ran := z.page.ran,
        log := z.page.log, loaded := z.page.loaded : SPage },
    kept := z.kept : SVisit }) fun z16 =>
                 .ob (fmarkText.pre (z15.snd, ())) <|
                  .lt (ByteArray × PUnit) (fmarkText.fn (z15.snd, ())) fun z17 =>
                  .ob ((0 : Int) ≤ y1.snd.fst ∧ y1.snd.fst < (↑z16.length : Int)) <|
                   .ob (y1.snd.fst.toNat < z16.length) <|
                   .lt (List SVisit) (z16.modify y1.snd.fst.toNat fun z =>
  { addr := z.addr,
    page :=
      { addr := z.page.addr,
        policy :=
          { set_ := z.page.policy.set_, scripts := z.page.policy.scripts, styles := z.page.policy.styles,
            images := z.page.policy.images, nonce := z17.fst : SPolicy },
        tok := z.page.tok, queue := z.page.queue, ended := z.page.ended, builder := z.page.builder,
        slots := z.page.slots, mods := z.page.mods, entries := z.page.entries, block := z.page.block,
        inline := z.page.inline, deferred := z.page.deferred, entered := z.page.entered, ran := z.page.ran,
        log := z.page.log, loaded := z.page.loaded : SPage },
    kept := z.kept : SVisit }) fun z18 =>
                   .ob (fmarkText.pre (IntKind.i64.wrap (z15.snd + (1 : Int)), ())) <|
                    .lt (ByteArray × PUnit) (fmarkText.fn (IntKind.i64.wrap (z15.snd + (1 : Int)), ())) fun z19 =>
                    .ob ((0 : Int) ≤ y1.snd.fst ∧ y1.snd.fst < (↑z18.length : Int)) <|
                     .ob (y1.snd.fst.toNat < z18.length) <|
                     .lt (List SVisit) (z18.modify y1.snd.fst.toNat fun z =>
  { addr := z.addr,
    page :=
      { addr := z.page.addr, policy := z.page.policy, tok := { rest := z19.fst : STokenizer }, queue := z.page.queue,
        ended := z.page.ended, builder := z.page.builder, slots := z.page.slots, mods := z.page.mods,
        entries := z.page.entries, block := z.page.block, inline := z.page.inline, deferred := z.page.deferred,
        entered := z.page.entered, ran := z.page.ran, log := z.page.log, loaded := z.page.loaded : SPage },
    kept := z.kept : SVisit }) fun z20 =>
                     .ob ((0 : Int) ≤ y1.snd.fst ∧ y1.snd.fst < (↑z20.length : Int)) <|
                      .ob (y1.snd.fst.toNat < z20.length) <|
                      .ob (fmarkTokenS.pre (z20.getD y1.snd.fst.toNat default).page.queue
  (IntKind.i64.wrap (IntKind.i64.wrap (z15.snd + (1 : Int)) + (1 : Int)))) <|
                      .lt (List SToken × Int) (fmarkTokenS.fn (z20.getD y1.snd.fst.toNat default).page.queue
  (IntKind.i64.wrap (IntKind.i64.wrap (z15.snd + (1 : Int)) + (1 : Int)))) fun z21 =>
                      .lt (List SVisit) (z20.modify y1.snd.fst.toNat fun z =>
  { addr := z.addr,
    page :=
      { addr := z.page.addr, policy := z.page.policy, tok := z.page.tok, queue := z21.fst, ended := z.page.ended,
        builder := z.page.builder, slots := z.page.slots, mods := z.page.mods, entries := z.page.entries,
        block := z.page.block, inline := z.page.inline, deferred := z.page.deferred, entered := z.page.entered,
        ran := z.page.ran, log := z.page.log, loaded := z.page.loaded : SPage },
    kept := z.kept : SVisit }) fun z22 =>
                       .ob ((3 : Int) ≠ (0 : Int)) <|
                        .ob ((0 : Int) ≤ y1.snd.fst ∧ y1.snd.fst < (↑z22.length : Int)) <|
                        .ob (y1.snd.fst.toNat < z22.length) <|
                        .lt (List SVisit) (z22.modify y1.snd.fst.toNat fun z =>
  { addr := z.addr,
    page :=
      { addr := z.page.addr, policy := z.page.policy, tok := z.page.tok, queue := z.page.queue,
        ended := z21.snd.tmod (3 : Int) == (0 : Int), builder := z.page.builder, slots := z.page.slots,
        mods := z.page.mods, entries := z.page.entries, block := z.page.block, inline := z.page.inline,
        deferred := z.page.deferred, entered := z.page.entered, ran := z.page.ran, log := z.page.log,
        loaded := z.page.loaded : SPage },
    kept := z.kept : SVisit }) fun z23 =>
                        .ob ((0 : Int) ≤ y1.snd.fst ∧ y1.snd.fst < (↑z23.length : Int)) <|
                         .ob (y1.snd.fst.toNat < z23.length) <|
                         .ob (fmarkNodeS.pre (z23.getD y1.snd.fst.toNat default).page.builder.nodes (IntKind.i64.wrap (z21.snd + (1 : Int)))) <|
                         .lt (List SNode × Int) (fmarkNodeS.fn (z23.getD y1.snd.fst.toNat default).page.builder.nodes (IntKind.i64.wrap (z21.snd + (1 : Int)))) fun z24 =>
                         .lt (List SVisit) (z23.modify y1.snd.fst.toNat fun z =>
  { addr := z.addr,
    page :=
      { addr := z.page.addr, policy := z.page.policy, tok := z.page.tok, queue := z.page.queue, ended := z.page.ended,
        builder := { nodes := z24.fst, open_ := z.page.builder.open_ : SBuilder }, slots := z.page.slots,
        mods := z.page.mods, entries := z.page.entries, block := z.page.block, inline := z.page.inline,
        deferred := z.page.deferred, entered := z.page.entered, ran := z.page.ran, log := z.page.log,
        loaded := z.page.loaded : SPage },
    kept := z.kept : SVisit }) fun z25 =>
                          .ob ((0 : Int) ≤ y1.snd.fst ∧ y1.snd.fst < (↑z25.length : Int)) <|
                           .ob (y1.snd.fst.toNat < z25.length) <|
                           .ob (fmarkIntS.pre (z25.getD y1.snd.fst.toNat default).page.builder.open_ z24.snd) <|
                           .lt (List Int × Int) (fmarkIntS.fn (z25.getD y1.snd.fst.toNat default).page.builder.open_ z24.snd) fun z26 =>
                           .lt (List SVisit) (z25.modify y1.snd.fst.toNat fun z =>
  { addr := z.addr,
    page :=
      { addr := z.page.addr, policy := z.page.policy, tok := z.page.tok, queue := z.page.queue, ended := z.page.ended,
        builder := { nodes := z.page.builder.nodes, open_ := z26.fst : SBuilder }, slots := z.page.slots,
        mods := z.page.mods, entries := z.page.entries, block := z.page.block, inline := z.page.inline,
        deferred := z.page.deferred, entered := z.page.entered, ran := z.page.ran, log := z.page.log,
        loaded := z.page.loaded : SPage },
    kept := z.kept : SVisit }) fun z27 =>
                            .ob ((0 : Int) ≤ y1.snd.fst ∧ y1.snd.fst < (↑z27.length : Int)) <|
                             .ob (y1.snd.fst.toNat < z27.length) <|
                             .ob (fmarkSlotS.pre (z27.getD y1.snd.fst.toNat default).page.slots z26.snd) <|
                             .lt (List SSlot × Int) (fmarkSlotS.fn (z27.getD y1.snd.fst.toNat default).page.slots z26.snd) fun z28 =>
                             .lt (List SVisit) (z27.modify y1.snd.fst.toNat fun z =>
  { addr := z.addr,
    page :=
      { addr := z.page.addr, policy := z.page.policy, tok := z.page.tok, queue := z.page.queue, ended := z.page.ended,
        builder := z.page.builder, slots := z28.fst, mods := z.page.mods, entries := z.page.entries,
        block := z.page.block, inline := z.page.inline, deferred := z.page.deferred, entered := z.page.entered,
        ran := z.page.ran, log := z.page.log, loaded := z.page.loaded : SPage },
    kept := z.kept : SVisit }) fun z29 =>
                              .ob ((0 : Int) ≤ y1.snd.fst ∧ y1.snd.fst < (↑z29.length : Int)) <|
                               .ob (y1.snd.fst.toNat < z29.length) <|
                               .ob (fmarkModuleS.pre (z29.getD y1.snd.fst.toNat default).page.mods z28.snd) <|
                               .lt (List SModule × Int) (fmarkModuleS.fn (z29.getD y1.snd.fst.toNat default).page.mods z28.snd) fun z30 =>
                               .lt (List SVisit) (z29.modify y1.snd.fst.toNat fun z =>
  { addr := z.addr,
    page :=
      { addr := z.page.addr, policy := z.page.policy, tok := z.page.tok, queue := z.page.queue, ended := z.page.ended,
        builder := z.page.builder, slots := z.page.slots, mods := z30.fst, entries := z.page.entries,
        block := z.page.block, inline := z.page.inline, deferred := z.page.deferred, entered := z.page.entered,
        ran := z.page.ran, log := z.page.log, loaded := z.page.loaded : SPage },
    kept := z.kept : SVisit }) fun z31 =>
                                .ob ((0 : Int) ≤ y1.snd.fst ∧ y1.snd.fst < (↑z31.length : Int)) <|
                                 .ob (y1.snd.fst.toNat < z31.length) <|
                                 .ob (fmarkAddrS.pre (z31.getD y1.snd.fst.toNat default).page.entries z30.snd) <|
                                 .lt (List SAddr × Int) (fmarkAddrS.fn (z31.getD y1.snd.fst.toNat default).page.entries z30.snd) fun z32 =>
                                 .lt (List SVisit) (z31.modify y1.snd.fst.toNat fun z =>
  { addr := z.addr,
    page :=
      { addr := z.page.addr, policy := z.page.policy, tok := z.page.tok, queue := z.page.queue, ended := z.page.ended,
        builder := z.page.builder, slots := z.page.slots, mods := z.page.mods, entries := z32.fst,
        block := z.page.block, inline := z.page.inline, deferred := z.page.deferred, entered := z.page.entered,
        ran := z.page.ran, log := z.page.log, loaded := z.page.loaded : SPage },
    kept := z.kept : SVisit }) fun z33 =>
                                  .ob ((0 : Int) ≤ y1.snd.fst ∧ y1.snd.fst < (↑z33.length : Int)) <|
                                   .ob (y1.snd.fst.toNat < z33.length) <|
                                   .lt (List SVisit) (z33.modify y1.snd.fst.toNat fun z =>
  { addr := z.addr,
    page :=
      { addr := z.page.addr, policy := z.page.policy, tok := z.page.tok, queue := z.page.queue, ended := z.page.ended,
        builder := z.page.builder, slots := z.page.slots, mods := z.page.mods, entries := z.page.entries,
        block := z32.snd, inline := z.page.inline, deferred := z.page.deferred, entered := z.page.entered,
        ran := z.page.ran, log := z.page.log, loaded := z.page.loaded : SPage },
    kept := z.kept : SVisit }) fun z34 =>
                                   .ob ((0 : Int) ≤ y1.snd.fst ∧ y1.snd.fst < (↑z34.length : Int)) <|
                                    .ob (y1.snd.fst.toNat < z34.length) <|
                                    .lt (List SVisit) (z34.modify y1.snd.fst.toNat fun z =>
  { addr := z.addr,
    page :=
      { addr := z.page.addr, policy := z.page.policy, tok := z.page.tok, queue := z.page.queue, ended := z.page.ended,
        builder := z.page.builder, slots := z.page.slots, mods := z.page.mods, entries := z.page.entries,
        block := z.page.block, inline := IntKind.i64.wrap (z32.snd + (1 : Int)), deferred := z.page.deferred,
        entered := z.page.entered, ran := z.page.ran, log := z.page.log, loaded := z.page.loaded : SPage },
    kept := z.kept : SVisit }) fun z35 =>
                                    .ob ((0 : Int) ≤ y1.snd.fst ∧ y1.snd.fst < (↑z35.length : Int)) <|
                                     .ob (y1.snd.fst.toNat < z35.length) <|
                                     .lt (List SVisit) (z35.modify y1.snd.fst.toNat fun z =>
  { addr := z.addr,
    page :=
      { addr := z.page.addr, policy := z.page.policy, tok := z.page.tok, queue := z.page.queue, ended := z.page.ended,
        builder := z.page.builder, slots := z.page.slots, mods := z.page.mods, entries := z.page.entries,
        block := z.page.block, inline := z.page.inline,
        deferred := IntKind.i64.wrap (IntKind.i64.wrap (z32.snd + (1 : Int)) + (1 : Int)), entered := z.page.entered,
        ran := z.page.ran, log := z.page.log, loaded := z.page.loaded : SPage },
    kept := z.kept : SVisit }) fun z36 =>
                                     .ob ((0 : Int) ≤ y1.snd.fst ∧ y1.snd.fst < (↑z36.length : Int)) <|
                                      .ob (y1.snd.fst.toNat < z36.length) <|
                                      .lt (List SVisit) (z36.modify y1.snd.fst.toNat fun z =>
  { addr := z.addr,
    page :=
      { addr := z.page.addr, policy := z.page.policy, tok := z.page.tok, queue := z.page.queue, ended := z.page.ended,
        builder := z.page.builder, slots := z.page.slots, mods := z.page.mods, entries := z.page.entries,
        block := z.page.block, inline := z.page.inline, deferred := z.page.deferred,
        entered := IntKind.i64.wrap (IntKind.i64.wrap (IntKind.i64.wrap (z32.snd + (1 : Int)) + (1 : Int)) + (1 : Int)),
        ran := z.page.ran, log := z.page.log, loaded := z.page.loaded : SPage },
    kept := z.kept : SVisit }) fun z37 =>
                                      .ob ((0 : Int) ≤ y1.snd.fst ∧ y1.snd.fst < (↑z37.length : Int)) <|
                                       .ob (y1.snd.fst.toNat < z37.length) <|
                                       .ob (fmarkAddrS.pre (z37.getD y1.snd.fst.toNat default).page.ran
  (IntKind.i64.wrap
    (IntKind.i64.wrap (IntKind.i64.wrap (IntKind.i64.wrap (z32.snd + (1 : Int)) + (1 : Int)) + (1 : Int)) + (1 : Int)))) <|
                                       .lt (List SAddr × Int) (fmarkAddrS.fn (z37.getD y1.snd.fst.toNat default).page.ran
  (IntKind.i64.wrap
    (IntKind.i64.wrap (IntKind.i64.wrap (IntKind.i64.wrap (z32.snd + (1 : Int)) + (1 : Int)) + (1 : Int)) + (1 : Int)))) fun z38 =>
                                       .lt (List SVisit) (z37.modify y1.snd.fst.toNat fun z =>
  { addr := z.addr,
    page :=
      { addr := z.page.addr, policy := z.page.policy, tok := z.page.tok, queue := z.page.queue, ended := z.page.ended,
        builder := z.page.builder, slots := z.page.slots, mods := z.page.mods, entries := z.page.entries,
        block := z.page.block, inline := z.page.inline, deferred := z.page.deferred, entered := z.page.entered,
        ran := z38.fst, log := z.page.log, loaded := z.page.loaded : SPage },
    kept := z.kept : SVisit }) fun z39 =>
                                        .ob ((0 : Int) ≤ y1.snd.fst ∧ y1.snd.fst < (↑z39.length : Int)) <|
                                         .ob (y1.snd.fst.toNat < z39.length) <|
                                         .ob (fmarkStringS.pre (z39.getD y1.snd.fst.toNat default).page.log z38.snd) <|
                                         .lt (List ByteArray × Int) (fmarkStringS.fn (z39.getD y1.snd.fst.toNat default).page.log z38.snd) fun z40 =>
                                         .lt (List SVisit) (z39.modify y1.snd.fst.toNat fun z =>
  { addr := z.addr,
    page :=
      { addr := z.page.addr, policy := z.page.policy, tok := z.page.tok, queue := z.page.queue, ended := z.page.ended,
        builder := z.page.builder, slots := z.page.slots, mods := z.page.mods, entries := z.page.entries,
        block := z.page.block, inline := z.page.inline, deferred := z.page.deferred, entered := z.page.entered,
        ran := z.page.ran, log := z40.fst, loaded := z.page.loaded : SPage },
    kept := z.kept : SVisit }) fun z41 =>
                                          .ob ((3 : Int) ≠ (0 : Int)) <|
                                           .ob ((0 : Int) ≤ y1.snd.fst ∧ y1.snd.fst < (↑z41.length : Int)) <|
                                           .ob (y1.snd.fst.toNat < z41.length) <|
                                           .lt (List SVisit) (z41.modify y1.snd.fst.toNat fun z =>
  { addr := z.addr,
    page :=
      { addr := z.page.addr, policy := z.page.policy, tok := z.page.tok, queue := z.page.queue, ended := z.page.ended,
        builder := z.page.builder, slots := z.page.slots, mods := z.page.mods, entries := z.page.entries,
        block := z.page.block, inline := z.page.inline, deferred := z.page.deferred, entered := z.page.entered,
        ran := z.page.ran, log := z.page.log, loaded := z40.snd.tmod (3 : Int) == (0 : Int) : SPage },
    kept := z.kept : SVisit }) fun z42 =>
                                           .ob ((3 : Int) ≠ (0 : Int)) <|
                                            .ob ((0 : Int) ≤ y1.snd.fst ∧ y1.snd.fst < (↑z42.length : Int)) <|
                                            .ob (y1.snd.fst.toNat < z42.length) <|
                                            .lt (List SVisit) (z42.modify y1.snd.fst.toNat fun z =>
  { addr := z.addr, page := z.page, kept := (IntKind.i64.wrap (z40.snd + (1 : Int))).tmod (3 : Int) == (0 : Int) :
    SVisit }) fun z43 =>
                                            .ob (Value.int IntKind.i64 (0 : Int) = Value.int IntKind.i64 (0 : Int)) <|
                                             .ob (bk1 (IntKind.i64.wrap (IntKind.i64.wrap (z40.snd + (1 : Int)) + (1 : Int)), (IntKind.i64.wrap (y1.snd.fst + (1 : Int)), (z43, ())))) <|
                                             .ok)
  (.leaf (.one false [vi (y1.fst)]) [] [((0 : Nat), ⟨Ty.visit, y1.snd.snd.fst⟩)])) (by kernel_rfl) ?_
  refine lpx_i ?_ fun (y1 : Int × Int × List SVisit × PUnit) i1 => ?_
  · exact ⟨by simp, by simp, by simp [markL], by simp [markL]⟩
  have hp1 : 0 ≤ k := hp.1
  have hp2 : (markL mkVisit l k).2 ≤ 4000000000000000000 := hp.2
  have i3 : 0 ≤ y1.2.1 ∧ y1.2.1 ≤ l.length ∧ y1.1 = (markL mkVisit (l.take y1.2.1.toNat) k).2 ∧ y1.2.2.1 = (markL mkVisit (l.take y1.2.1.toNat) k).1 ++ l.drop y1.2.1.toNat := i1
  have hcnt := markL_cnt (f := mkVisit) mkVisit_cnt l k
  have hx : y1.2.2.1.length = l.length := by rw [i3.2.2.2, List.length_append, markL_len, List.length_take, List.length_drop]; omega
  refine br_i (fun h2 => ?_) (fun h2 => ?_)
  · simp only [decide_eq_true_eq, decide_eq_false_iff_not, hx] at h2
    clear i1 hp
    have hlt : y1.2.1.toNat < l.length := by omega
    have ht := markL_take (f := mkVisit) hlt k
    have hle := (markL_take_le mkVisit_mono l (y1.2.1.toNat + 1) k).2
    have hl0 := (markL_take_le mkVisit_mono l y1.2.1.toNat k).1
    rw [ht] at hle
    rw [← i3.2.2.1] at hle hl0 ht
    have i4 : y1.2.2.1 = (markL mkVisit (l.take y1.2.1.toNat) k).1 ++ l.getD y1.2.1.toNat default :: l.drop (y1.2.1.toNat + 1) := by rw [i3.2.2.2, drop_cons hlt]
    have hA : (markL mkVisit (l.take y1.2.1.toNat) k).1.length = y1.2.1.toNat := by rw [markL_len, List.length_take]; omega
    simp only [mkVisit] at hle
    have m1 := mkStringS_mono (l.getD y1.2.1.toNat default).page.policy.scripts (y1.1 + 5)
    generalize hr1 : markL mkString (l.getD y1.2.1.toNat default).page.policy.scripts (y1.1 + 5) = r1 at *
    have m2 := mkStringS_mono (l.getD y1.2.1.toNat default).page.policy.styles (r1.2)
    generalize hr2 : markL mkString (l.getD y1.2.1.toNat default).page.policy.styles (r1.2) = r2 at *
    have m3 := mkStringS_mono (l.getD y1.2.1.toNat default).page.policy.images (r2.2)
    generalize hr3 : markL mkString (l.getD y1.2.1.toNat default).page.policy.images (r2.2) = r3 at *
    have m4 := mkTokenS_mono (l.getD y1.2.1.toNat default).page.queue (r3.2 + 2)
    generalize hr4 : markL mkToken (l.getD y1.2.1.toNat default).page.queue (r3.2 + 2) = r4 at *
    have m5 := mkNodeS_mono (l.getD y1.2.1.toNat default).page.builder.nodes (r4.2 + 1)
    generalize hr5 : markL mkNode (l.getD y1.2.1.toNat default).page.builder.nodes (r4.2 + 1) = r5 at *
    have m6 := mkIntS_mono (l.getD y1.2.1.toNat default).page.builder.open_ (r5.2)
    generalize hr6 : markL mkInt (l.getD y1.2.1.toNat default).page.builder.open_ (r5.2) = r6 at *
    have m7 := mkSlotS_mono (l.getD y1.2.1.toNat default).page.slots (r6.2)
    generalize hr7 : markL mkSlot (l.getD y1.2.1.toNat default).page.slots (r6.2) = r7 at *
    have m8 := mkModuleS_mono (l.getD y1.2.1.toNat default).page.mods (r7.2)
    generalize hr8 : markL mkModule (l.getD y1.2.1.toNat default).page.mods (r7.2) = r8 at *
    have m9 := mkAddrS_mono (l.getD y1.2.1.toNat default).page.entries (r8.2)
    generalize hr9 : markL mkAddr (l.getD y1.2.1.toNat default).page.entries (r8.2) = r9 at *
    have m10 := mkAddrS_mono (l.getD y1.2.1.toNat default).page.ran (r9.2 + 4)
    generalize hr10 : markL mkAddr (l.getD y1.2.1.toNat default).page.ran (r9.2 + 4) = r10 at *
    have m11 := mkStringS_mono (l.getD y1.2.1.toNat default).page.log (r10.2)
    generalize hr11 : markL mkString (l.getD y1.2.1.toNat default).page.log (r10.2) = r11 at *
    repeat first
      | ((fail_if_success with_reducible refine ob_d ?_ ?_); refine lt_e fun z e => ?_; simp (disch := omega) only [i4, mod_at hA, getD_at hA, fmarkText, fmarkAddrS, fmarkIntS, fmarkModuleS, fmarkNodeS, fmarkSlotS, fmarkStringS, fmarkTokenS, wrapId', Int.add_assoc, Int.reduceAdd, hr1, hr2, hr3, hr4, hr5, hr6, hr7, hr8, hr9, hr10, hr11, List.length_append, List.length_cons, List.length_drop, hA] at e; subst e)
      | ((with_reducible refine ob_d ?_ ?_); · first | trivial | omega | (refine ⟨?_, ?_⟩ <;> omega) | (simp (disch := omega) only [i4, mod_at hA, getD_at hA, fmarkText, fmarkAddrS, fmarkIntS, fmarkModuleS, fmarkNodeS, fmarkSlotS, fmarkStringS, fmarkTokenS, wrapId', Int.add_assoc, Int.reduceAdd, hr1, hr2, hr3, hr4, hr5, hr6, hr7, hr8, hr9, hr10, hr11, List.length_append, List.length_cons, List.length_drop, hA]; first | done | trivial | omega | (refine ⟨?_, ?_⟩ <;> omega)))
    refine ob_d ?_ trivial
    simp (disch := omega) only [i4, mod_at hA, getD_at hA, fmarkText, fmarkAddrS, fmarkIntS, fmarkModuleS, fmarkNodeS, fmarkSlotS, fmarkStringS, fmarkTokenS, wrapId', Int.add_assoc, Int.reduceAdd, hr1, hr2, hr3, hr4, hr5, hr6, hr7, hr8, hr9, hr10, hr11, List.length_append, List.length_cons, List.length_drop, hA]
    refine ⟨⟨by omega, by omega, ?_, ?_⟩, by omega⟩
    · rw [toNat1 (by omega), ht]
      simp only [mkVisit, Int.add_assoc, Int.reduceAdd, hr1, hr2, hr3, hr4, hr5, hr6, hr7, hr8, hr9, hr10, hr11]
    · rw [toNat1 (by omega), ht]
      simp only [mkVisit, Int.add_assoc, Int.reduceAdd, hr1, hr2, hr3, hr4, hr5, hr6, hr7, hr8, hr9, hr10, hr11, List.append_assoc, List.cons_append, List.nil_append]
  · simp only [decide_eq_false_iff_not, hx] at h2
    refine MS.leafL (t := .visit) (fn := fun l k => markL mkVisit l k) ?_
    have e1 : l.take y1.2.1.toNat = l := List.take_of_length_le (by omega)
    have e2 : l.drop y1.2.1.toNat = [] := List.drop_of_length_le (by omega)
    rw [i3.2.2.2, i3.2.2.1, e1, e2, List.append_nil])
def E78 : D.Env := E77.addM 18 fmarkVisitS
theorem E78ok : EOk Try.prog E78 := E77ok.addM k18_77
-- laws.heldVisitS
set_option maxHeartbeats 0 in
theorem k19_78 : fheldVisitS.ok Try.prog 19 := Fct.of (S := fheldVisitS) (L := fun ⟨l, k, _⟩ => fun | 2 => some (LheS .visit mkVisit l k) | _ => none) (kp := [0,1,4,5,9,20,31,43,55,68,81,92,103,113,125,137,147,160,171,181,191,201,209,219,229,239,251,261,271,282,1000009,1000020,1000031,1000043,1000055,1000068,1000081,1000092,1000103,1000113,1000125,1000137,1000147,1000160,1000171,1000181,1000191,1000201,1000209,1000219,1000229,1000239,1000251,1000261,1000271,1000282]) E78ok Try.func19 (by kernel_rfl) (by kernel_rfl) (by
  rintro ⟨(l : List SVisit), (k : Int), _⟩ hp
  refine holds_of (X := lpx (LheS .visit mkVisit l k) (k, ((0 : Int), ())) fun (y1 : Int × Int × PUnit) bk1 =>
 .br (decide (y1.snd.fst < (↑l.length : Int)))
  (.ob ((0 : Int) ≤ y1.snd.fst ∧ y1.snd.fst < (↑l.length : Int)) <|
   .ob (fmarkText.pre (y1.fst, ())) <|
   .lt (ByteArray × PUnit) (fmarkText.fn (y1.fst, ())) fun z2 =>
   .br (!(l.getD y1.snd.fst.toNat default).addr.host.toList == z2.fst.toList)
    (.leaf (mkR fheldVisitS.rs ((-1 : Int), ())) [] [])
    (.ob ((0 : Int) ≤ y1.snd.fst ∧ y1.snd.fst < (↑l.length : Int)) <|
     .ob (fmarkText.pre (IntKind.i64.wrap (y1.fst + (1 : Int)), ())) <|
     .lt (ByteArray × PUnit) (fmarkText.fn (IntKind.i64.wrap (y1.fst + (1 : Int)), ())) fun z3 =>
     .br (!(l.getD y1.snd.fst.toNat default).addr.path.toList == z3.fst.toList)
      (.leaf (mkR fheldVisitS.rs ((-1 : Int), ())) [] [])
      (.ob ((0 : Int) ≤ y1.snd.fst ∧ y1.snd.fst < (↑l.length : Int)) <|
       .ob (fmarkText.pre (IntKind.i64.wrap (IntKind.i64.wrap (y1.fst + (1 : Int)) + (1 : Int)), ())) <|
       .lt (ByteArray × PUnit) (fmarkText.fn (IntKind.i64.wrap (IntKind.i64.wrap (y1.fst + (1 : Int)) + (1 : Int)), ())) fun z4 =>
       .br (!(l.getD y1.snd.fst.toNat default).page.addr.host.toList == z4.fst.toList)
        (.leaf (mkR fheldVisitS.rs ((-1 : Int), ())) [] [])
        (.ob ((0 : Int) ≤ y1.snd.fst ∧ y1.snd.fst < (↑l.length : Int)) <|
         .ob (fmarkText.pre (IntKind.i64.wrap (IntKind.i64.wrap (IntKind.i64.wrap (y1.fst + (1 : Int)) + (1 : Int)) + (1 : Int)), ())) <|
         .lt (ByteArray × PUnit) (fmarkText.fn (IntKind.i64.wrap (IntKind.i64.wrap (IntKind.i64.wrap (y1.fst + (1 : Int)) + (1 : Int)) + (1 : Int)), ())) fun z5 =>
         .br (!(l.getD y1.snd.fst.toNat default).page.addr.path.toList == z5.fst.toList)
          (.leaf (mkR fheldVisitS.rs ((-1 : Int), ())) [] [])
          (.ob ((0 : Int) ≤ y1.snd.fst ∧ y1.snd.fst < (↑l.length : Int)) <|
           .ob ((3 : Int) ≠ (0 : Int)) <|
           .br (!(l.getD y1.snd.fst.toNat default).page.policy.set_ ==
    ((IntKind.i64.wrap
            (IntKind.i64.wrap (IntKind.i64.wrap (IntKind.i64.wrap (y1.fst + (1 : Int)) + (1 : Int)) + (1 : Int)) +
              (1 : Int))).tmod
        (3 : Int) ==
      (0 : Int)))
           (.leaf (mkR fheldVisitS.rs ((-1 : Int), ())) [] [])
           (.ob ((0 : Int) ≤ y1.snd.fst ∧ y1.snd.fst < (↑l.length : Int)) <|
            .ob (fheldStringS.pre
  ((l.getD y1.snd.fst.toNat default).page.policy.scripts,
    IntKind.i64.wrap
      (IntKind.i64.wrap
          (IntKind.i64.wrap (IntKind.i64.wrap (IntKind.i64.wrap (y1.fst + (1 : Int)) + (1 : Int)) + (1 : Int)) +
            (1 : Int)) +
        (1 : Int)),
    ())) <|
            .lt (Int × PUnit) (fheldStringS.fn
  ((l.getD y1.snd.fst.toNat default).page.policy.scripts,
    IntKind.i64.wrap
      (IntKind.i64.wrap
          (IntKind.i64.wrap (IntKind.i64.wrap (IntKind.i64.wrap (y1.fst + (1 : Int)) + (1 : Int)) + (1 : Int)) +
            (1 : Int)) +
        (1 : Int)),
    ())) fun z6 =>
            .br (decide (z6.fst < (0 : Int)))
             (.leaf (mkR fheldVisitS.rs ((-1 : Int), ())) [] [])
             (.ob ((0 : Int) ≤ y1.snd.fst ∧ y1.snd.fst < (↑l.length : Int)) <|
              .ob (fheldStringS.pre ((l.getD y1.snd.fst.toNat default).page.policy.styles, z6.fst, ())) <|
              .lt (Int × PUnit) (fheldStringS.fn ((l.getD y1.snd.fst.toNat default).page.policy.styles, z6.fst, ())) fun z7 =>
              .br (decide (z7.fst < (0 : Int)))
               (.leaf (mkR fheldVisitS.rs ((-1 : Int), ())) [] [])
               (.ob ((0 : Int) ≤ y1.snd.fst ∧ y1.snd.fst < (↑l.length : Int)) <|
                .ob (fheldStringS.pre ((l.getD y1.snd.fst.toNat default).page.policy.images, z7.fst, ())) <|
                .lt (Int × PUnit) (fheldStringS.fn ((l.getD y1.snd.fst.toNat default).page.policy.images, z7.fst, ())) fun z8 =>
                .br (decide (z8.fst < (0 : Int)))
                 (.leaf (mkR fheldVisitS.rs ((-1 : Int), ())) [] [])
                 (.ob ((0 : Int) ≤ y1.snd.fst ∧ y1.snd.fst < (↑l.length : Int)) <|
                  .ob (fmarkText.pre (z8.fst, ())) <|
                  .lt (ByteArray × PUnit) (fmarkText.fn (z8.fst, ())) fun z9 =>
                  .br (!(l.getD y1.snd.fst.toNat default).page.policy.nonce.toList == z9.fst.toList)
                   (.leaf (mkR fheldVisitS.rs ((-1 : Int), ())) [] [])
                   (.ob ((0 : Int) ≤ y1.snd.fst ∧ y1.snd.fst < (↑l.length : Int)) <|
                    .ob (fmarkText.pre (IntKind.i64.wrap (z8.fst + (1 : Int)), ())) <|
                    .lt (ByteArray × PUnit) (fmarkText.fn (IntKind.i64.wrap (z8.fst + (1 : Int)), ())) fun z10 =>
                    .br (!(l.getD y1.snd.fst.toNat default).page.tok.rest.toList == z10.fst.toList)
                     (.leaf (mkR fheldVisitS.rs ((-1 : Int), ())) [] [])
                     (.ob ((0 : Int) ≤ y1.snd.fst ∧ y1.snd.fst < (↑l.length : Int)) <|
                      .ob (fheldTokenS.pre
  ((l.getD y1.snd.fst.toNat default).page.queue, IntKind.i64.wrap (IntKind.i64.wrap (z8.fst + (1 : Int)) + (1 : Int)),
    ())) <|
                      .lt (Int × PUnit) (fheldTokenS.fn
  ((l.getD y1.snd.fst.toNat default).page.queue, IntKind.i64.wrap (IntKind.i64.wrap (z8.fst + (1 : Int)) + (1 : Int)),
    ())) fun z11 =>
                      .br (decide (z11.fst < (0 : Int)))
                       (.leaf (mkR fheldVisitS.rs ((-1 : Int), ())) [] [])
                       (.ob ((0 : Int) ≤ y1.snd.fst ∧ y1.snd.fst < (↑l.length : Int)) <|
                        .ob ((3 : Int) ≠ (0 : Int)) <|
                        .br (!(l.getD y1.snd.fst.toNat default).page.ended == (z11.fst.tmod (3 : Int) == (0 : Int)))
                        (.leaf (mkR fheldVisitS.rs ((-1 : Int), ())) [] [])
                        (.ob ((0 : Int) ≤ y1.snd.fst ∧ y1.snd.fst < (↑l.length : Int)) <|
                         .ob (fheldNodeS.pre ((l.getD y1.snd.fst.toNat default).page.builder.nodes, IntKind.i64.wrap (z11.fst + (1 : Int)), ())) <|
                         .lt (Int × PUnit) (fheldNodeS.fn ((l.getD y1.snd.fst.toNat default).page.builder.nodes, IntKind.i64.wrap (z11.fst + (1 : Int)), ())) fun z12 =>
                         .br (decide (z12.fst < (0 : Int)))
                          (.leaf (mkR fheldVisitS.rs ((-1 : Int), ())) [] [])
                          (.ob ((0 : Int) ≤ y1.snd.fst ∧ y1.snd.fst < (↑l.length : Int)) <|
                           .ob (fheldIntS.pre ((l.getD y1.snd.fst.toNat default).page.builder.open_, z12.fst, ())) <|
                           .lt (Int × PUnit) (fheldIntS.fn ((l.getD y1.snd.fst.toNat default).page.builder.open_, z12.fst, ())) fun z13 =>
                           .br (decide (z13.fst < (0 : Int)))
                            (.leaf (mkR fheldVisitS.rs ((-1 : Int), ())) [] [])
                            (.ob ((0 : Int) ≤ y1.snd.fst ∧ y1.snd.fst < (↑l.length : Int)) <|
                             .ob (fheldSlotS.pre ((l.getD y1.snd.fst.toNat default).page.slots, z13.fst, ())) <|
                             .lt (Int × PUnit) (fheldSlotS.fn ((l.getD y1.snd.fst.toNat default).page.slots, z13.fst, ())) fun z14 =>
                             .br (decide (z14.fst < (0 : Int)))
                              (.leaf (mkR fheldVisitS.rs ((-1 : Int), ())) [] [])
                              (.ob ((0 : Int) ≤ y1.snd.fst ∧ y1.snd.fst < (↑l.length : Int)) <|
                               .ob (fheldModuleS.pre ((l.getD y1.snd.fst.toNat default).page.mods, z14.fst, ())) <|
                               .lt (Int × PUnit) (fheldModuleS.fn ((l.getD y1.snd.fst.toNat default).page.mods, z14.fst, ())) fun z15 =>
                               .br (decide (z15.fst < (0 : Int)))
                                (.leaf (mkR fheldVisitS.rs ((-1 : Int), ())) [] [])
                                (.ob ((0 : Int) ≤ y1.snd.fst ∧ y1.snd.fst < (↑l.length : Int)) <|
                                 .ob (fheldAddrS.pre ((l.getD y1.snd.fst.toNat default).page.entries, z15.fst, ())) <|
                                 .lt (Int × PUnit) (fheldAddrS.fn ((l.getD y1.snd.fst.toNat default).page.entries, z15.fst, ())) fun z16 =>
                                 .br (decide (z16.fst < (0 : Int)))
                                  (.leaf (mkR fheldVisitS.rs ((-1 : Int), ())) [] [])
                                  (.ob ((0 : Int) ≤ y1.snd.fst ∧ y1.snd.fst < (↑l.length : Int)) <|
                                   .br ((l.getD y1.snd.fst.toNat default).page.block != z16.fst)
                                   (.leaf (mkR fheldVisitS.rs ((-1 : Int), ())) [] [])
                                   (.ob ((0 : Int) ≤ y1.snd.fst ∧ y1.snd.fst < (↑l.length : Int)) <|
                                    .br ((l.getD y1.snd.fst.toNat default).page.inline != IntKind.i64.wrap (z16.fst + (1 : Int)))
                                    (.leaf (mkR fheldVisitS.rs ((-1 : Int), ())) [] [])
                                    (.ob ((0 : Int) ≤ y1.snd.fst ∧ y1.snd.fst < (↑l.length : Int)) <|
                                     .br ((l.getD y1.snd.fst.toNat default).page.deferred != IntKind.i64.wrap (IntKind.i64.wrap (z16.fst + (1 : Int)) + (1 : Int)))
                                     (.leaf (mkR fheldVisitS.rs ((-1 : Int), ())) [] [])
                                     (.ob ((0 : Int) ≤ y1.snd.fst ∧ y1.snd.fst < (↑l.length : Int)) <|
                                      .br ((l.getD y1.snd.fst.toNat default).page.entered !=
  IntKind.i64.wrap (IntKind.i64.wrap (IntKind.i64.wrap (z16.fst + (1 : Int)) + (1 : Int)) + (1 : Int)))
                                      (.leaf (mkR fheldVisitS.rs ((-1 : Int), ())) [] [])
                                      (.ob ((0 : Int) ≤ y1.snd.fst ∧ y1.snd.fst < (↑l.length : Int)) <|
                                       .ob (fheldAddrS.pre
  ((l.getD y1.snd.fst.toNat default).page.ran,
    IntKind.i64.wrap
      (IntKind.i64.wrap (IntKind.i64.wrap (IntKind.i64.wrap (z16.fst + (1 : Int)) + (1 : Int)) + (1 : Int)) +
        (1 : Int)),
    ())) <|
                                       .lt (Int × PUnit) (fheldAddrS.fn
  ((l.getD y1.snd.fst.toNat default).page.ran,
    IntKind.i64.wrap
      (IntKind.i64.wrap (IntKind.i64.wrap (IntKind.i64.wrap (z16.fst + (1 : Int)) + (1 : Int)) + (1 : Int)) +
        (1 : Int)),
    ())) fun z17 =>
                                       .br (decide (z17.fst < (0 : Int)))
                                        (.leaf (mkR fheldVisitS.rs ((-1 : Int), ())) [] [])
                                        (.ob ((0 : Int) ≤ y1.snd.fst ∧ y1.snd.fst < (↑l.length : Int)) <|
                                         .ob (fheldStringS.pre ((l.getD y1.snd.fst.toNat default).page.log, z17.fst, ())) <|
                                         .lt (Int × PUnit) (fheldStringS.fn ((l.getD y1.snd.fst.toNat default).page.log, z17.fst, ())) fun z18 =>
                                         .br (decide (z18.fst < (0 : Int)))
                                          (.leaf (mkR fheldVisitS.rs ((-1 : Int), ())) [] [])
                                          (.ob ((0 : Int) ≤ y1.snd.fst ∧ y1.snd.fst < (↑l.length : Int)) <|
                                           .ob ((3 : Int) ≠ (0 : Int)) <|
                                           .br (!(l.getD y1.snd.fst.toNat default).page.loaded == (z18.fst.tmod (3 : Int) == (0 : Int)))
                                           (.leaf (mkR fheldVisitS.rs ((-1 : Int), ())) [] [])
                                           (.ob ((0 : Int) ≤ y1.snd.fst ∧ y1.snd.fst < (↑l.length : Int)) <|
                                            .ob ((3 : Int) ≠ (0 : Int)) <|
                                            .br (!(l.getD y1.snd.fst.toNat default).kept == ((IntKind.i64.wrap (z18.fst + (1 : Int))).tmod (3 : Int) == (0 : Int)))
                                            (.leaf (mkR fheldVisitS.rs ((-1 : Int), ())) [] [])
                                            (.ob (l = l) <|
                                             .ob (bk1 (IntKind.i64.wrap (IntKind.i64.wrap (z18.fst + (1 : Int)) + (1 : Int)), (IntKind.i64.wrap (y1.snd.fst + (1 : Int)), ()))) <|
                                             .ok))))))))))))))))))))))))))
  (.leaf (mkR fheldVisitS.rs (y1.fst, ())) [] [])) (by kernel_rfl) ?_
  refine lpx_i ?_ fun (y1 : Int × Int × PUnit) i1 => ?_
  · exact ⟨by simp, by simp, by simp [markL]⟩
  have hp1 : 0 ≤ k := hp.1
  have hp2 : (markL mkVisit l k).2 ≤ 4000000000000000000 := hp.2.1
  have hp3 : (markL mkVisit l k).1 = l := hp.2.2
  have i3 : 0 ≤ y1.2.1 ∧ y1.2.1 ≤ l.length ∧ y1.1 = (markL mkVisit (l.take y1.2.1.toNat) k).2 := i1
  have hcnt := markL_cnt (f := mkVisit) mkVisit_cnt l k
  refine br_i (fun h2 => ?_) (fun h2 => ?_)
  · simp only [decide_eq_true_eq, decide_eq_false_iff_not] at h2
    clear i1 hp
    have hlt : y1.2.1.toNat < l.length := by omega
    have ht := markL_take (f := mkVisit) hlt k
    have hle := (markL_take_le mkVisit_mono l (y1.2.1.toNat + 1) k).2
    have hl0 := (markL_take_le mkVisit_mono l y1.2.1.toNat k).1
    have heq := markL_held hp3 hlt
    rw [ht] at hle
    rw [← i3.2.2] at hle hl0 ht heq
    have q1 := congrArg (fun z : SVisit => z.addr.host) heq
    have q2 := congrArg (fun z : SVisit => z.addr.path) heq
    have q3 := congrArg (fun z : SVisit => z.page.addr.host) heq
    have q4 := congrArg (fun z : SVisit => z.page.addr.path) heq
    have q5 := congrArg (fun z : SVisit => z.page.policy.set_) heq
    have q6 := congrArg (fun z : SVisit => z.page.policy.scripts) heq
    have q7 := congrArg (fun z : SVisit => z.page.policy.styles) heq
    have q8 := congrArg (fun z : SVisit => z.page.policy.images) heq
    have q9 := congrArg (fun z : SVisit => z.page.policy.nonce) heq
    have q10 := congrArg (fun z : SVisit => z.page.tok.rest) heq
    have q11 := congrArg (fun z : SVisit => z.page.queue) heq
    have q12 := congrArg (fun z : SVisit => z.page.ended) heq
    have q13 := congrArg (fun z : SVisit => z.page.builder.nodes) heq
    have q14 := congrArg (fun z : SVisit => z.page.builder.open_) heq
    have q15 := congrArg (fun z : SVisit => z.page.slots) heq
    have q16 := congrArg (fun z : SVisit => z.page.mods) heq
    have q17 := congrArg (fun z : SVisit => z.page.entries) heq
    have q18 := congrArg (fun z : SVisit => z.page.block) heq
    have q19 := congrArg (fun z : SVisit => z.page.inline) heq
    have q20 := congrArg (fun z : SVisit => z.page.deferred) heq
    have q21 := congrArg (fun z : SVisit => z.page.entered) heq
    have q22 := congrArg (fun z : SVisit => z.page.ran) heq
    have q23 := congrArg (fun z : SVisit => z.page.log) heq
    have q24 := congrArg (fun z : SVisit => z.page.loaded) heq
    have q25 := congrArg (fun z : SVisit => z.kept) heq
    obtain ⟨E, hE⟩ : ∃ E, E = (mkVisit (l.getD y1.2.1.toNat default) y1.1).2 := ⟨_, rfl⟩
    have hE2 := hE
    simp only [mkVisit] at hle hE2 q1 q2 q3 q4 q5 q6 q7 q8 q9 q10 q11 q12 q13 q14 q15 q16 q17 q18 q19 q20 q21 q22 q23 q24 q25
    clear heq
    have m1 := mkStringS_mono (l.getD y1.2.1.toNat default).page.policy.scripts (y1.1 + 5)
    generalize hr1 : markL mkString (l.getD y1.2.1.toNat default).page.policy.scripts (y1.1 + 5) = r1 at *
    have m2 := mkStringS_mono (l.getD y1.2.1.toNat default).page.policy.styles (r1.2)
    generalize hr2 : markL mkString (l.getD y1.2.1.toNat default).page.policy.styles (r1.2) = r2 at *
    have m3 := mkStringS_mono (l.getD y1.2.1.toNat default).page.policy.images (r2.2)
    generalize hr3 : markL mkString (l.getD y1.2.1.toNat default).page.policy.images (r2.2) = r3 at *
    have m4 := mkTokenS_mono (l.getD y1.2.1.toNat default).page.queue (r3.2 + 2)
    generalize hr4 : markL mkToken (l.getD y1.2.1.toNat default).page.queue (r3.2 + 2) = r4 at *
    have m5 := mkNodeS_mono (l.getD y1.2.1.toNat default).page.builder.nodes (r4.2 + 1)
    generalize hr5 : markL mkNode (l.getD y1.2.1.toNat default).page.builder.nodes (r4.2 + 1) = r5 at *
    have m6 := mkIntS_mono (l.getD y1.2.1.toNat default).page.builder.open_ (r5.2)
    generalize hr6 : markL mkInt (l.getD y1.2.1.toNat default).page.builder.open_ (r5.2) = r6 at *
    have m7 := mkSlotS_mono (l.getD y1.2.1.toNat default).page.slots (r6.2)
    generalize hr7 : markL mkSlot (l.getD y1.2.1.toNat default).page.slots (r6.2) = r7 at *
    have m8 := mkModuleS_mono (l.getD y1.2.1.toNat default).page.mods (r7.2)
    generalize hr8 : markL mkModule (l.getD y1.2.1.toNat default).page.mods (r7.2) = r8 at *
    have m9 := mkAddrS_mono (l.getD y1.2.1.toNat default).page.entries (r8.2)
    generalize hr9 : markL mkAddr (l.getD y1.2.1.toNat default).page.entries (r8.2) = r9 at *
    have m10 := mkAddrS_mono (l.getD y1.2.1.toNat default).page.ran (r9.2 + 4)
    generalize hr10 : markL mkAddr (l.getD y1.2.1.toNat default).page.ran (r9.2 + 4) = r10 at *
    have m11 := mkStringS_mono (l.getD y1.2.1.toNat default).page.log (r10.2)
    generalize hr11 : markL mkString (l.getD y1.2.1.toNat default).page.log (r10.2) = r11 at *
    try simp only [Int.add_assoc, Int.reduceAdd, hr1, hr2, hr3, hr4, hr5, hr6, hr7, hr8, hr9, hr10, hr11] at hle hE2 q1 q2 q3 q4 q5 q6 q7 q8 q9 q10 q11 q12 q13 q14 q15 q16 q17 q18 q19 q20 q21 q22 q23 q24 q25
    repeat first
      | ((with_reducible refine br_i (fun h => ?_) (fun h => ?_)); (· exfalso; simp (disch := omega) only [fmarkText, fheldAddrS, fheldIntS, fheldModuleS, fheldNodeS, fheldSlotS, fheldStringS, fheldTokenS, wrapId', Int.add_assoc, Int.reduceAdd, hr1, hr2, hr3, hr4, hr5, hr6, hr7, hr8, hr9, hr10, hr11, decide_eq_true_eq, decide_eq_false_iff_not, Bool.not_eq_true', Bool.not_eq_false', bne_iff_ne, bne_eq_false_iff_eq, beq_iff_eq, beq_eq_false_iff_ne, baEq, Int.not_lt, ne_eq, Decidable.not_not, decide_not] at h; first | omega | (exact h (by first | assumption | (symm; assumption))) | (simp_all; done)); clear h)
      | ((with_reducible refine ob_d ?_ ?_); · first | trivial | omega | (refine ⟨?_, ?_⟩ <;> omega) | (simp (disch := omega) only [fmarkText, fheldAddrS, fheldIntS, fheldModuleS, fheldNodeS, fheldSlotS, fheldStringS, fheldTokenS, wrapId', Int.add_assoc, Int.reduceAdd, hr1, hr2, hr3, hr4, hr5, hr6, hr7, hr8, hr9, hr10, hr11, decide_eq_true_eq, decide_eq_false_iff_not, Bool.not_eq_true', Bool.not_eq_false', bne_iff_ne, bne_eq_false_iff_eq, beq_iff_eq, beq_eq_false_iff_ne, baEq, Int.not_lt, ne_eq, Decidable.not_not, decide_not]; first | done | trivial | omega | (refine ⟨?_, ?_⟩ <;> omega) | (refine ⟨?_, ?_, ?_⟩ <;> first | omega | assumption | (symm; assumption))))
      | ((fail_if_success with_reducible refine ob_d ?_ ?_); (fail_if_success with_reducible refine br_i ?_ ?_); refine lt_e fun z e => ?_; simp (disch := omega) only [fmarkText, fheldAddrS, fheldIntS, fheldModuleS, fheldNodeS, fheldSlotS, fheldStringS, fheldTokenS, wrapId', Int.add_assoc, Int.reduceAdd, hr1, hr2, hr3, hr4, hr5, hr6, hr7, hr8, hr9, hr10, hr11, decide_eq_true_eq, decide_eq_false_iff_not, Bool.not_eq_true', Bool.not_eq_false', bne_iff_ne, bne_eq_false_iff_eq, beq_iff_eq, beq_eq_false_iff_ne, baEq, Int.not_lt, ne_eq, Decidable.not_not, decide_not] at e; subst e)
    refine ob_d ?_ trivial
    simp (disch := omega) only [fmarkText, fheldAddrS, fheldIntS, fheldModuleS, fheldNodeS, fheldSlotS, fheldStringS, fheldTokenS, wrapId', Int.add_assoc, Int.reduceAdd, hr1, hr2, hr3, hr4, hr5, hr6, hr7, hr8, hr9, hr10, hr11, decide_eq_true_eq, decide_eq_false_iff_not, Bool.not_eq_true', Bool.not_eq_false', bne_iff_ne, bne_eq_false_iff_eq, beq_iff_eq, beq_eq_false_iff_ne, baEq, Int.not_lt, ne_eq, Decidable.not_not, decide_not]
    refine ⟨⟨by omega, by omega, ?_⟩, by omega⟩
    rw [toNat1 (by omega), ht]
    show _ = (mkVisit (l.getD y1.2.1.toNat default) y1.1).2
    rw [← hE]
    omega
  · simp only [decide_eq_true_eq, decide_eq_false_iff_not] at h2
    have e1 : l.take y1.2.1.toNat = l := List.take_of_length_le (by omega)
    rw [e1] at i3
    refine Fct.leafY ?_
    show (y1.1, ()) = ((markL mkVisit l k).2, ())
    rw [i3.2.2])
def E79 : D.Env := E78.add 19 fheldVisitS
theorem E79ok : EOk Try.prog E79 := E78ok.add k19_78
-- laws.szTab
set_option maxHeartbeats 2000000 in
theorem k4_79 : fszTab.ok Try.prog 4 := Fct.of (S := fszTab) (L := fun _ _ => none) (kp := [1,2,4,10,1000010]) E79ok Try.func4 (by kernel_rfl) (by kernel_rfl) (by
  rintro ⟨(x : STab), (n : Int), _⟩ hp
  refine holds_of (X := .ob (fszVisitS.pre (x.visits, n, ())) <|
 .lt (Int × PUnit) (fszVisitS.fn (x.visits, n, ())) fun z2 =>
 .br (decide (z2.fst < (0 : Int)))
  (.leaf (mkR fszTab.rs ((-1 : Int), ())) [] [])
  (.leaf (mkR fszTab.rs (z2.fst, ())) [] [])) (by kernel_rfl) ?_
  refine ob_i ?_ fun o1 => lt_i (br_i (fun h2 => Fct.leafY ?_) (fun h2 => Fct.leafY ?_))
  all_goals try simp only [decide_eq_true_eq, decide_eq_false_iff_not, Bool.not_eq_true', Bool.not_eq_false', bne_iff_ne, bne_eq_false_iff_eq, beq_iff_eq, beq_eq_false_iff_ne, baEq, Int.not_lt, Int.not_le, ne_eq, Decidable.not_not] at *
  all_goals try simp only [fszTab, fszVisitS, etaToken, etaNode, etaBuilder, etaPolicy, etaPage, etaVisit, etaTab, etaServer, etaCache, etaNet, etaLoader, etaSheet, etaResult, etaSlot, etaModule, etaAddr, etaRequest, etaResponse, etaConn, etaGuess, etaEntry, etaSent, etaFile, baSz, List.size_toArray, List.length_cons, List.length_nil, Nat.reduceAdd, Int.toNat_zero, List.drop_zero, decide_eq_true_eq, decide_eq_false_iff_not, Bool.not_eq_true', Bool.not_eq_false', bne_iff_ne, bne_eq_false_iff_eq, beq_iff_eq, beq_eq_false_iff_ne, Bool.not_eq_true, Bool.not_eq_false, ne_eq, Decidable.not_not, baEq, decide_not, Prod.mk.injEq, and_true, true_and, Room, List.nil_append, Nat.zero_add, Int.not_lt, Int.not_le, Sh.good, Sh.fc, enc, List.forall_mem_cons, List.not_mem_nil, false_implies, implies_true, goodC, maxLen] at *
  all_goals grind [wrapId', lessen, szL, szTab])
def E80 : D.Env := E79.add 4 fszTab
theorem E80ok : EOk Try.prog E80 := E79ok.add k4_79
-- laws.toTab
theorem k6_80 : ftoTab.ok Try.prog 6 := Fct.of (S := ftoTab) (L := fun _ _ => none) (kp := [1,2,3]) E80ok Try.func6 (by kernel_rfl) (by kernel_rfl) (by
  rintro ⟨(x : STab), _⟩ hp
  refine holds_of (X := .ob (ftoVisitS.pre (x.visits, ())) <|
 .lt (List SVisit × PUnit) (ftoVisitS.fn (x.visits, ())) fun z2 =>
 .leaf (mkR ftoTab.rs (⟨z2.fst, x.at_⟩, ())) [] []) (by kernel_rfl) ?_
  refine ob_i ?_ fun o1 => lt_i (Fct.leafY ?_)
  all_goals try simp only [decide_eq_true_eq, decide_eq_false_iff_not, Bool.not_eq_true', Bool.not_eq_false', bne_iff_ne, bne_eq_false_iff_eq, beq_iff_eq, beq_eq_false_iff_ne, baEq, Int.not_lt, Int.not_le, ne_eq, Decidable.not_not] at *
  all_goals try simp only [ftoTab, ftoVisitS, etaToken, etaNode, etaBuilder, etaPolicy, etaPage, etaVisit, etaTab, etaServer, etaCache, etaNet, etaLoader, etaSheet, etaResult, etaSlot, etaModule, etaAddr, etaRequest, etaResponse, etaConn, etaGuess, etaEntry, etaSent, etaFile, baSz, List.size_toArray, List.length_cons, List.length_nil, Nat.reduceAdd, Int.toNat_zero, List.drop_zero, decide_eq_true_eq, decide_eq_false_iff_not, Bool.not_eq_true', Bool.not_eq_false', bne_iff_ne, bne_eq_false_iff_eq, beq_iff_eq, beq_eq_false_iff_ne, Bool.not_eq_true, Bool.not_eq_false, ne_eq, Decidable.not_not, baEq, decide_not, Prod.mk.injEq, and_true, true_and, Room, List.nil_append, Nat.zero_add, Int.not_lt, Int.not_le] at *
  all_goals first | trivial | rfl | grind [szL, szTab])
def E81 : D.Env := E80.add 6 ftoTab
theorem E81ok : EOk Try.prog E81 := E80ok.add k6_80
-- laws.eqTab
set_option maxHeartbeats 2000000 in
theorem k8_81 : feqTab.ok Try.prog 8 := Fct.of (S := feqTab) (L := fun _ _ => none) (kp := [2,3,4,10,15,1000010,1000015]) E81ok Try.func8 (by kernel_rfl) (by kernel_rfl) (by
  rintro ⟨(x : STab), (y : STab), _⟩ hp
  refine holds_of (X := .ob (feqVisitS.pre (x.visits, y.visits, ())) <|
 .lt (Bool × PUnit) (feqVisitS.fn (x.visits, y.visits, ())) fun z2 =>
 .br (!z2.fst)
  (.leaf (mkR feqTab.rs (false, ())) [] [])
  (.br (x.at_ != y.at_)
   (.leaf (mkR feqTab.rs (false, ())) [] [])
   (.leaf (mkR feqTab.rs (true, ())) [] []))) (by kernel_rfl) ?_
  refine ob_i ?_ fun o1 => lt_i (br_i (fun h2 => Fct.leafY ?_) (fun h2 => br_i (fun h3 => Fct.leafY ?_) (fun h3 => Fct.leafY ?_)))
  all_goals try simp only [decide_eq_true_eq, decide_eq_false_iff_not, Bool.not_eq_true', Bool.not_eq_false', bne_iff_ne, bne_eq_false_iff_eq, beq_iff_eq, beq_eq_false_iff_ne, baEq, Int.not_lt, Int.not_le, ne_eq, Decidable.not_not] at *
  all_goals try simp only [feqTab, feqVisitS, etaToken, etaNode, etaBuilder, etaPolicy, etaPage, etaVisit, etaTab, etaServer, etaCache, etaNet, etaLoader, etaSheet, etaResult, etaSlot, etaModule, etaAddr, etaRequest, etaResponse, etaConn, etaGuess, etaEntry, etaSent, etaFile, baSz, List.size_toArray, List.length_cons, List.length_nil, Nat.reduceAdd, Int.toNat_zero, List.drop_zero, decide_eq_true_eq, decide_eq_false_iff_not, Bool.not_eq_true', Bool.not_eq_false', bne_iff_ne, bne_eq_false_iff_eq, beq_iff_eq, beq_eq_false_iff_ne, Bool.not_eq_true, Bool.not_eq_false, ne_eq, Decidable.not_not, baEq, decide_not, Prod.mk.injEq, and_true, true_and, Room, List.nil_append, Nat.zero_add, Int.not_lt, Int.not_le] at *
  all_goals first | trivial | (cases x; cases y; simp_all; done) | (simp only [szL, szTab] at *; omega) | grind [szL, szTab])
def E82 : D.Env := E81.add 8 feqTab
theorem E82ok : EOk Try.prog E82 := E81ok.add k8_81
-- laws.markTab
set_option maxHeartbeats 2000000 in
theorem k9_82 : fmarkTab.ok Try.prog 9 := MS.of (S := fmarkTab) (L := fun _ _ _ => none) (kp := [1,2,4]) (kl := [0]) E82ok Try.func9 (by kernel_rfl) (by kernel_rfl) (by
  rintro (x : STab) (k : Int) hp
  refine holds_of (X := .ob (fmarkVisitS.pre x.visits k) <|
 .lt (List SVisit × Int) (fmarkVisitS.fn x.visits k) fun z2 =>
 .leaf (.one false [vi (z2.snd)]) [] [((0 : Nat), ⟨Ty.visit, z2.fst⟩)]) (by kernel_rfl) ?_
  refine ob_d ?_ <| lt_i (MS.leaf ?_)
  all_goals have hp1 : 0 ≤ k := hp.1
  all_goals have hp2 : (mvTab x k).2 ≤ 4000000000000000000 := hp.2
  all_goals clear hp
  all_goals simp only [mvTab] at hp2
  all_goals try have m1 := mkVisitS_mono x.visits (k)
  all_goals try generalize hr1 : markL mkVisit x.visits (k) = r1 at *
  all_goals simp (disch := omega) only [fmarkVisitS, fmarkText, hr1]
  all_goals first | trivial | omega | (refine ⟨?_, ?_⟩ <;> omega) | skip
  refine MS.leaf ?_
  simp only [fmarkTab, mvTab, hr1]
  exact ⟨⟨rfl, rfl, trivial⟩, trivial, rfl⟩)
def E83 : D.Env := E82.addM 9 fmarkTab
theorem E83ok : EOk Try.prog E83 := E82ok.addM k9_82
-- laws.heldTab
set_option maxHeartbeats 2000000 in
theorem k10_83 : fheldTab.ok Try.prog 10 := Fct.of (S := fheldTab) (L := fun _ _ => none) (kp := [1,2,4,10,1000010]) E83ok Try.func10 (by kernel_rfl) (by kernel_rfl) (by
  rintro ⟨(x : STab), (k : Int), _⟩ hp
  refine holds_of (X := .ob (fheldVisitS.pre (x.visits, k, ())) <|
 .lt (Int × PUnit) (fheldVisitS.fn (x.visits, k, ())) fun z2 =>
 .br (decide (z2.fst < (0 : Int)))
  (.leaf (mkR fheldTab.rs ((-1 : Int), ())) [] [])
  (.leaf (mkR fheldTab.rs (z2.fst, ())) [] [])) (by kernel_rfl) ?_
  refine ob_d ?_ <| lt_i (br_i (fun h2 => Fct.leafY ?_) (fun h2 => Fct.leafY ?_))
  all_goals have hp1 : 0 ≤ k := hp.1
  all_goals have hp2 : (mvTab x k).2 ≤ 4000000000000000000 := hp.2.1
  all_goals have heq : (mvTab x k).1 = x := hp.2.2
  all_goals clear hp
  all_goals try have q1 := congrArg (fun z : STab => z.visits) heq
  all_goals obtain ⟨E, hE⟩ : ∃ E, E = (mvTab x k).2 := ⟨_, rfl⟩
  all_goals have hE2 := hE
  all_goals simp only [mvTab] at hp2 hE2 q1
  all_goals clear heq
  all_goals try have m1 := mkVisitS_mono x.visits (k)
  all_goals try generalize hr1 : markL mkVisit x.visits (k) = r1 at *
  all_goals simp (disch := omega) only [fheldVisitS, fmarkText, hr1, decide_eq_true_eq, decide_eq_false_iff_not, Int.not_lt] at *
  all_goals try simp only [q1]
  all_goals first | trivial | omega | (exfalso; omega) | (refine ⟨?_, ?_, ?_⟩ <;> first | omega | assumption) | skip
  all_goals first | (show (_, ()) = ((mvTab x k).2, ()); rw [← hE, Prod.mk.injEq]; exact ⟨by omega, rfl⟩) | skip)
def E84 : D.Env := E83.add 10 fheldTab
theorem E84ok : EOk Try.prog E84 := E83ok.add k10_83
def inRange (n lo hi : Int) : Bool := decide (lo ≤ n) && decide (n ≤ hi)
def fInRange : Fct := ⟨[aI, aI, aI], [rB], fun _ => True, fun (x : Int × Int × Int × Unit) => (inRange x.1 x.2.1 x.2.2.1, ())⟩
-- spec.l1In
theorem k13_84 : fInRange.ok Try.prog 13 := Fct.of (S := fInRange) (L := fun _ _ => none) (kp := [0,1,2,6]) E84ok Try.func13 (by kernel_rfl) (by kernel_rfl) (by
  rintro ⟨(n : Int), (lo : Int), (hi : Int), _⟩ hp
  refine holds_of (X := .br (decide (n ≥ lo))
 (.leaf (mkR fInRange.rs (decide (n ≤ hi), ())) [] [])
 (.leaf (mkR fInRange.rs (false, ())) [] [])) (by kernel_rfl) ?_
  refine br_i (fun h1 => Fct.leafY ?_) (fun h1 => Fct.leafY ?_)
  all_goals try simp only [decide_eq_true_eq, decide_eq_false_iff_not, Bool.not_eq_true', Bool.not_eq_false', bne_iff_ne, bne_eq_false_iff_eq, beq_iff_eq, beq_eq_false_iff_ne, baEq, Int.not_lt, Int.not_le, ne_eq, Decidable.not_not] at *
  all_goals try simp only [fInRange, etaToken, etaNode, etaBuilder, etaPolicy, etaPage, etaVisit, etaTab, etaServer, etaCache, etaNet, etaLoader, etaSheet, etaResult, etaSlot, etaModule, etaAddr, etaRequest, etaResponse, etaConn, etaGuess, etaEntry, etaSent, etaFile, baSz, List.size_toArray, List.length_cons, List.length_nil, Nat.reduceAdd, Int.toNat_zero, List.drop_zero, decide_eq_true_eq, decide_eq_false_iff_not, Bool.not_eq_true', Bool.not_eq_false', bne_iff_ne, bne_eq_false_iff_eq, beq_iff_eq, beq_eq_false_iff_ne, Bool.not_eq_true, Bool.not_eq_false, ne_eq, Decidable.not_not, baEq, decide_not, Prod.mk.injEq, and_true, true_and, Room, List.nil_append, Nat.zero_add, Int.not_lt, Int.not_le, inRange] at *
  all_goals first | trivial | (simp_all; done) | (simp_all; omega) | grind)
def E85 : D.Env := E84.add 13 fInRange
theorem E85ok : EOk Try.prog E85 := E84ok.add k13_84
def fHasPresent : Fct := ⟨[.v (.el .tab)], [.el .bool], fun (x_ : STab × Unit) => True, fun (x_ : STab × Unit) => (decide (0 ≤ x_.1.at_ ∧ x_.1.at_ < x_.1.visits.length), ())⟩
-- impl.hasPresent
theorem k16_85 : fHasPresent.ok Try.prog 16 := Fct.of (S := fHasPresent) (L := fun _ _ => none) (kp := [1,2]) E85ok Try.func16 (by kernel_rfl) (by kernel_rfl) (by
  rintro ⟨(t : STab), _⟩ hp
  refine holds_of (X := .br (decide (t.at_ ≥ (0 : Int)))
 (.leaf (mkR fHasPresent.rs (decide (t.at_ < (↑t.visits.length : Int)), ())) [] [])
 (.leaf (mkR fHasPresent.rs (false, ())) [] [])) (by kernel_rfl) ?_
  refine br_i (fun h1 => Fct.leafY ?_) (fun h1 => Fct.leafY ?_)
  all_goals try simp only [decide_eq_true_eq, decide_eq_false_iff_not, Bool.not_eq_true', Bool.not_eq_false', bne_iff_ne, bne_eq_false_iff_eq, beq_iff_eq, beq_eq_false_iff_ne, baEq, Int.not_lt, Int.not_le, ne_eq, Decidable.not_not] at *
  all_goals try simp only [fHasPresent, etaToken, etaNode, etaBuilder, etaPolicy, etaPage, etaVisit, etaTab, etaServer, etaCache, etaNet, etaLoader, etaSheet, etaResult, etaSlot, etaModule, etaAddr, etaRequest, etaResponse, etaConn, etaGuess, etaEntry, etaSent, etaFile, baSz, List.size_toArray, List.length_cons, List.length_nil, Nat.reduceAdd, Int.toNat_zero, List.drop_zero, decide_eq_true_eq, decide_eq_false_iff_not, Bool.not_eq_true', Bool.not_eq_false', bne_iff_ne, bne_eq_false_iff_eq, beq_iff_eq, beq_eq_false_iff_ne, Bool.not_eq_true, Bool.not_eq_false, ne_eq, Decidable.not_not, baEq, decide_not, Prod.mk.injEq, and_true, true_and, Room, List.nil_append, Nat.zero_add, Int.not_lt, Int.not_le] at *
  all_goals try simp (disch := omega) only [wrapId', toNat1] at *
  all_goals try simp (disch := omega) only [if_pos, if_neg]
  all_goals first | trivial | omega | grind [wrapId', toNat1, drop_cons, drop_end, good_len, maxLen])
def E86 : D.Env := E85.add 16 fHasPresent
theorem E86ok : EOk Try.prog E86 := E85ok.add k16_85
theorem szNode_get {l : List SNode} {i : Nat} (h : i < l.length) : (l.getD i default).attrs.length + l.length ≤ szL szNode l := by
  have := szL_get szNode h
  have h2 := szL_len szAttr (l.getD i default).attrs
  simp only [szNode] at this; omega
theorem szToken_get {l : List SToken} {i : Nat} (h : i < l.length) : (l.getD i default).attrs.length + l.length ≤ szL szToken l := by
  have := szL_get szToken h
  have h2 := szL_len szAttr (l.getD i default).attrs
  simp only [szToken] at this; omega
theorem szVisit_get {l : List SVisit} {i : Nat} (h : i < l.length) : szPage (l.getD i default).page + l.length ≤ szL szVisit l := by
  have := szL_get szVisit h
  simp only [szVisit] at this; omega
def fCopyAttrs : Fct := ⟨[.v (.sl .attr)], [.sl .attr], fun (x_ : (List SAttr) × Unit) => x_.1.length ≤ 1073741824, fun (x_ : (List SAttr) × Unit) => (x_.1, ())⟩
-- spec.l6Attrs
theorem k62_86 : fCopyAttrs.ok Try.prog 62 := Fct.of (S := fCopyAttrs) (L := fun _ _ => none) (kp := [0,2]) E86ok Try.func62 (by kernel_rfl) (by kernel_rfl) (by
  rintro ⟨(l : List SAttr), _⟩ hp
  refine holds_of (X := .ob (True) <|
 .ob (Room ((0 : Nat) + List.length l) (32 : Nat)) <|
 .leaf (mkR fCopyAttrs.rs ([] ++ l, ())) [] []) (by kernel_rfl) ?_
  refine ob_i trivial fun _ => ob_i ?_ fun o1 => Fct.leafY ?_
  all_goals try simp only [decide_eq_true_eq, decide_eq_false_iff_not, Bool.not_eq_true', Bool.not_eq_false', bne_iff_ne, bne_eq_false_iff_eq, beq_iff_eq, beq_eq_false_iff_ne, baEq, Int.not_lt, Int.not_le, ne_eq, Decidable.not_not] at *
  all_goals try simp only [fCopyAttrs, etaToken, etaNode, etaBuilder, etaPolicy, etaPage, etaVisit, etaTab, etaServer, etaCache, etaNet, etaLoader, etaSheet, etaResult, etaSlot, etaModule, etaAddr, etaRequest, etaResponse, etaConn, etaGuess, etaEntry, etaSent, etaFile, baSz, List.size_toArray, List.length_cons, List.length_nil, Nat.reduceAdd, Int.toNat_zero, List.drop_zero, decide_eq_true_eq, decide_eq_false_iff_not, Bool.not_eq_true', Bool.not_eq_false', bne_iff_ne, bne_eq_false_iff_eq, beq_iff_eq, beq_eq_false_iff_ne, Bool.not_eq_true, Bool.not_eq_false, ne_eq, Decidable.not_not, baEq, decide_not, Prod.mk.injEq, and_true, true_and, Room, List.nil_append, Nat.zero_add, Int.not_lt, Int.not_le] at *
  all_goals try simp (disch := omega) only [wrapId', toNat1] at *
  all_goals try simp (disch := omega) only [if_pos, if_neg]
  all_goals first | trivial | omega | grind [wrapId', toNat1, drop_cons, drop_end, good_len, maxLen])
def E87 : D.Env := E86.add 62 fCopyAttrs
theorem E87ok : EOk Try.prog E87 := E86ok.add k62_86
def fCopyToken : Fct := ⟨[.v (.el .token)], [.el .token], fun (x_ : SToken × Unit) => x_.1.attrs.length ≤ 1073741824, fun (x_ : SToken × Unit) => (x_.1, ())⟩
-- impl.copyToken
theorem k71_87 : fCopyToken.ok Try.prog 71 := Fct.of (S := fCopyToken) (L := fun _ _ => none) (kp := [1,2]) E87ok Try.func71 (by kernel_rfl) (by kernel_rfl) (by
  rintro ⟨(t : SToken), _⟩ hp
  refine holds_of (X := .ob (True) <|
 .ob (Room ((0 : Nat) + t.attrs.length) (32 : Nat)) <|
 .leaf (mkR fCopyToken.rs (⟨t.kind, t.name, [] ++ t.attrs, t.text⟩, ())) [] []) (by kernel_rfl) ?_
  refine ob_i trivial fun _ => ob_i ?_ fun o1 => Fct.leafY ?_
  all_goals try simp only [decide_eq_true_eq, decide_eq_false_iff_not, Bool.not_eq_true', Bool.not_eq_false', bne_iff_ne, bne_eq_false_iff_eq, beq_iff_eq, beq_eq_false_iff_ne, baEq, Int.not_lt, Int.not_le, ne_eq, Decidable.not_not] at *
  all_goals try simp only [fCopyToken, etaToken, etaNode, etaBuilder, etaPolicy, etaPage, etaVisit, etaTab, etaServer, etaCache, etaNet, etaLoader, etaSheet, etaResult, etaSlot, etaModule, etaAddr, etaRequest, etaResponse, etaConn, etaGuess, etaEntry, etaSent, etaFile, baSz, List.size_toArray, List.length_cons, List.length_nil, Nat.reduceAdd, Int.toNat_zero, List.drop_zero, decide_eq_true_eq, decide_eq_false_iff_not, Bool.not_eq_true', Bool.not_eq_false', bne_iff_ne, bne_eq_false_iff_eq, beq_iff_eq, beq_eq_false_iff_ne, Bool.not_eq_true, Bool.not_eq_false, ne_eq, Decidable.not_not, baEq, decide_not, Prod.mk.injEq, and_true, true_and, Room, List.nil_append, Nat.zero_add, Int.not_lt, Int.not_le] at *
  all_goals try simp (disch := omega) only [wrapId', toNat1] at *
  all_goals try simp (disch := omega) only [if_pos, if_neg]
  all_goals first | trivial | omega | grind [wrapId', toNat1, drop_cons, drop_end, good_len, maxLen])
def E88 : D.Env := E87.add 71 fCopyToken
theorem E88ok : EOk Try.prog E88 := E87ok.add k71_87
def fCopyTokens : Fct := ⟨[.v (.sl .token)], [.sl .token], fun (x_ : (List SToken) × Unit) => szL szToken x_.1 ≤ 1073741824, fun (x_ : (List SToken) × Unit) => (x_.1, ())⟩
abbrev W_spec_l15Tokens_fCopyTokens_3 (l : (List SToken)) : LInv := ⟨[⟨.s, 3, true, .sl .token⟩, ⟨.s, 4, true, .el .int⟩], fun _ (x_ : (List SToken) × Int × Unit) => 0 ≤ x_.2.1 ∧ x_.2.1 ≤ l.length ∧ x_.1 = l.take x_.2.1.toNat, fun (x_ : (List SToken) × Int × Unit) => l.length - x_.2.1.toNat⟩
-- spec.l15Tokens
theorem k43_88 : fCopyTokens.ok Try.prog 43 := Fct.of (S := fCopyTokens) (L := fun ⟨l, _⟩ => fun | 3 => some (W_spec_l15Tokens_fCopyTokens_3 l) | _ => none) (kp := [0,2,3,4,5,10,1000010]) E88ok Try.func43 (by kernel_rfl) (by kernel_rfl) (by
  rintro ⟨(l : List SToken), _⟩ hp
  refine holds_of (X := lpx (W_spec_l15Tokens_fCopyTokens_3 l) ([], ((0 : Int), ())) fun (y1 : List SToken × Int × PUnit) bk1 =>
 .br (decide (y1.snd.fst < (↑l.length : Int)))
  (.ob ((0 : Int) ≤ y1.snd.fst ∧ y1.snd.fst < (↑l.length : Int)) <|
   .ob ((0 : Int) ≤ y1.snd.fst ∧ y1.snd.fst < (↑l.length : Int)) <|
   .ob (fCopyAttrs.pre ((l.getD y1.snd.fst.toNat default).attrs, ())) <|
   .lt (List SAttr × PUnit) (fCopyAttrs.fn ((l.getD y1.snd.fst.toNat default).attrs, ())) fun z2 =>
   .ob (Room
  (y1.fst.length +
    [{ kind := (l.getD y1.snd.fst.toNat default).kind, name := (l.getD y1.snd.fst.toNat default).name, attrs := z2.fst,
          text := (l.getD y1.snd.fst.toNat default).text : SToken }].length)
  (64 : Nat)) <|
    .ob (l = l) <|
    .ob (bk1 (y1.fst ++
  [{ kind := (l.getD y1.snd.fst.toNat default).kind, name := (l.getD y1.snd.fst.toNat default).name, attrs := z2.fst,
      text := (l.getD y1.snd.fst.toNat default).text : SToken }], (IntKind.i64.wrap (y1.snd.fst + (1 : Int)), ()))) <|
    .ok)
  (.leaf (mkR fCopyTokens.rs (y1.fst, ())) [] [])) (by kernel_rfl) ?_
  refine lpx_i ?_ fun (y1 : List SToken × Int × PUnit) i1 => br_i (fun h2 => ob_i ?_ fun o3 => ob_i ?_ fun o4 => ob_i ?_ fun o5 => lt_i (ob_i ?_ fun o6 => ob_i rfl fun _ => ob_i ?_ fun o7 => trivial)) (fun h2 => Fct.leafY ?_)
  all_goals have hl := szL_len szToken l
  all_goals try have hg := szToken_get (l := l) (i := y1.2.1.toNat)
  all_goals try have hg := szToken_get (l := l) (i := y2.2.1.toNat)
  all_goals try simp only [decide_eq_true_eq, decide_eq_false_iff_not, Bool.not_eq_true', Bool.not_eq_false', bne_iff_ne, bne_eq_false_iff_eq, beq_iff_eq, beq_eq_false_iff_ne, baEq, Int.not_lt, Int.not_le, ne_eq, Decidable.not_not] at *
  all_goals try simp only [W_spec_l15Tokens_fCopyTokens_3, fCopyAttrs, fCopyTokens, etaToken, etaNode, etaBuilder, etaPolicy, etaPage, etaVisit, etaTab, etaServer, etaCache, etaNet, etaLoader, etaSheet, etaResult, etaSlot, etaModule, etaAddr, etaRequest, etaResponse, etaConn, etaGuess, etaEntry, etaSent, etaFile, baSz, List.size_toArray, List.length_cons, List.length_nil, Nat.reduceAdd, Int.toNat_zero, List.drop_zero, decide_eq_true_eq, decide_eq_false_iff_not, Bool.not_eq_true', Bool.not_eq_false', bne_iff_ne, bne_eq_false_iff_eq, beq_iff_eq, beq_eq_false_iff_ne, Bool.not_eq_true, Bool.not_eq_false, ne_eq, Decidable.not_not, baEq, decide_not, Prod.mk.injEq, and_true, true_and, Room, List.nil_append, Nat.zero_add, Int.not_lt, Int.not_le, fCopyAttrs, fCopyToken, take_succ, take_end] at *
  all_goals try simp (disch := omega) only [wrapId', toNat1] at *
  all_goals try simp (disch := omega) only [if_pos, if_neg]
  all_goals first | trivial | omega | grind [wrapId', toNat1, drop_cons, drop_end, good_len, maxLen, fCopyAttrs, fCopyToken, take_succ, take_end])
def E89 : D.Env := E88.add 43 fCopyTokens
theorem E89ok : EOk Try.prog E89 := E88ok.add k43_88
abbrev W_impl_copyTokens_fCopyTokens_3 (l : (List SToken)) : LInv := ⟨[⟨.s, 3, true, .sl .token⟩, ⟨.s, 9, true, .el .int⟩], fun _ (x_ : (List SToken) × Int × Unit) => 0 ≤ x_.2.1 ∧ x_.2.1 ≤ l.length ∧ x_.1 = l.take x_.2.1.toNat, fun (x_ : (List SToken) × Int × Unit) => l.length - x_.2.1.toNat⟩
-- impl.copyTokens
theorem k48_89 : fCopyTokens.ok Try.prog 48 := Fct.of (S := fCopyTokens) (L := fun ⟨l, _⟩ => fun | 3 => some (W_impl_copyTokens_fCopyTokens_3 l) | _ => none) (kp := [0,2,3,5,7,8,9,10,1000010]) E89ok Try.func48 (by kernel_rfl) (by kernel_rfl) (by
  rintro ⟨(l : List SToken), _⟩ hp
  refine holds_of (X := lpx (W_impl_copyTokens_fCopyTokens_3 l) ([], ((0 : Int), ())) fun (y1 : List SToken × Int × PUnit) bk1 =>
 .br (decide (y1.snd.fst < (↑l.length : Int)))
  (.ob ((0 : Int) ≤ y1.snd.fst ∧ y1.snd.fst < (↑l.length : Int)) <|
   .ob (fCopyToken.pre (l.getD y1.snd.fst.toNat default, ())) <|
   .lt (SToken × PUnit) (fCopyToken.fn (l.getD y1.snd.fst.toNat default, ())) fun z2 =>
   .ob (Room (y1.fst.length + [z2.fst].length) (64 : Nat)) <|
    .ob (l = l) <|
    .ob (l = l) <|
    .ob (Value.int IntKind.i64 (↑l.length : Int) = Value.int IntKind.i64 (↑l.length : Int)) <|
    .ob (bk1 (y1.fst ++ [z2.fst], (IntKind.i64.wrap (y1.snd.fst + (1 : Int)), ()))) <|
    .ok)
  (.leaf (mkR fCopyTokens.rs (y1.fst, ())) [] [])) (by kernel_rfl) ?_
  refine lpx_i ?_ fun (y1 : List SToken × Int × PUnit) i1 => br_i (fun h2 => ob_i ?_ fun o3 => ob_i ?_ fun o4 => lt_i (ob_i ?_ fun o5 => ob_i rfl fun _ => ob_i rfl fun _ => ob_i rfl fun _ => ob_i ?_ fun o6 => trivial)) (fun h2 => Fct.leafY ?_)
  all_goals have hl := szL_len szToken l
  all_goals try have hg := szToken_get (l := l) (i := y1.2.1.toNat)
  all_goals try have hg := szToken_get (l := l) (i := y2.2.1.toNat)
  all_goals try simp only [decide_eq_true_eq, decide_eq_false_iff_not, Bool.not_eq_true', Bool.not_eq_false', bne_iff_ne, bne_eq_false_iff_eq, beq_iff_eq, beq_eq_false_iff_ne, baEq, Int.not_lt, Int.not_le, ne_eq, Decidable.not_not] at *
  all_goals try simp only [W_impl_copyTokens_fCopyTokens_3, fCopyToken, fCopyTokens, etaToken, etaNode, etaBuilder, etaPolicy, etaPage, etaVisit, etaTab, etaServer, etaCache, etaNet, etaLoader, etaSheet, etaResult, etaSlot, etaModule, etaAddr, etaRequest, etaResponse, etaConn, etaGuess, etaEntry, etaSent, etaFile, baSz, List.size_toArray, List.length_cons, List.length_nil, Nat.reduceAdd, Int.toNat_zero, List.drop_zero, decide_eq_true_eq, decide_eq_false_iff_not, Bool.not_eq_true', Bool.not_eq_false', bne_iff_ne, bne_eq_false_iff_eq, beq_iff_eq, beq_eq_false_iff_ne, Bool.not_eq_true, Bool.not_eq_false, ne_eq, Decidable.not_not, baEq, decide_not, Prod.mk.injEq, and_true, true_and, Room, List.nil_append, Nat.zero_add, Int.not_lt, Int.not_le, fCopyAttrs, fCopyToken, take_succ, take_end] at *
  all_goals try simp (disch := omega) only [wrapId', toNat1] at *
  all_goals try simp (disch := omega) only [if_pos, if_neg]
  all_goals first | trivial | omega | grind [wrapId', toNat1, drop_cons, drop_end, good_len, maxLen, fCopyAttrs, fCopyToken, take_succ, take_end])
def E90 : D.Env := E89.add 48 fCopyTokens
theorem E90ok : EOk Try.prog E90 := E89ok.add k48_89
theorem builder_take {b : SBuilder} {n : Nat} (h : b.nodes.length ≤ n) : (⟨b.nodes.take n, b.open_⟩ : SBuilder) = b := by rw [List.take_of_length_le h]
theorem tab_take {t : STab} {n : Nat} (h : t.visits.length ≤ n) : (⟨t.visits.take n, t.at_⟩ : STab) = t := by rw [List.take_of_length_le h]
def fCopyBuilder : Fct := ⟨[.v (.el .builder)], [.el .builder], fun (x_ : SBuilder × Unit) => szBuilder x_.1 ≤ 1073741824, fun (x_ : SBuilder × Unit) => (x_.1, ())⟩
abbrev W_spec_l6Copy_fCopyBuilder_3 (b : SBuilder) : LInv := ⟨[⟨.b, 3, true, .el .builder⟩, ⟨.s, 4, true, .el .int⟩, ⟨.b, 1, false, .el .builder⟩, ⟨.b, 2, true, .el .builder⟩], fun (z_ : SBuilder × Int × SBuilder × SBuilder × Unit) (x_ : SBuilder × Int × SBuilder × SBuilder × Unit) => ((0 ≤ x_.2.1 ∧ x_.2.1 ≤ b.nodes.length ∧ x_.1 = ⟨b.nodes.take x_.2.1.toNat, b.open_⟩) ∧ x_.2.2.1 = z_.2.2.1) ∧ x_.2.2.2.1 = z_.2.2.2.1, fun (x_ : SBuilder × Int × SBuilder × SBuilder × Unit) => b.nodes.length - x_.2.1.toNat⟩
-- spec.l6Copy
theorem k44_90 : fCopyBuilder.ok Try.prog 44 := Fct.of (S := fCopyBuilder) (L := fun ⟨b, _⟩ => fun | 3 => some (W_spec_l6Copy_fCopyBuilder_3 b) | _ => none) (kp := [1,2,3,4,5,15,1000015]) E90ok Try.func44 (by kernel_rfl) (by kernel_rfl) (by
  rintro ⟨(b : SBuilder), _⟩ hp
  refine holds_of (X := .ob (True) <|
 .ob (Room ((0 : Nat) + b.open_.length) (8 : Nat)) <|
 lpx (W_spec_l6Copy_fCopyBuilder_3 b) ({ nodes := [], open_ := [] ++ b.open_ : SBuilder }, ((0 : Int), (b, (default, ())))) fun (y2 : SBuilder × Int × SBuilder × SBuilder × PUnit) bk2 =>
 .br (decide (y2.snd.fst < (↑y2.snd.snd.fst.nodes.length : Int)))
  (.ob ((0 : Int) ≤ y2.snd.fst ∧ y2.snd.fst < (↑y2.snd.snd.fst.nodes.length : Int)) <|
   .ob ((0 : Int) ≤ y2.snd.fst ∧ y2.snd.fst < (↑y2.snd.snd.fst.nodes.length : Int)) <|
   .ob (fCopyAttrs.pre ((y2.snd.snd.fst.nodes.getD y2.snd.fst.toNat default).attrs, ())) <|
   .lt (List SAttr × PUnit) (fCopyAttrs.fn ((y2.snd.snd.fst.nodes.getD y2.snd.fst.toNat default).attrs, ())) fun z2 =>
   .ob (Room
  (y2.fst.nodes.length +
    [{ name := (y2.snd.snd.fst.nodes.getD y2.snd.fst.toNat default).name,
          text := (y2.snd.snd.fst.nodes.getD y2.snd.fst.toNat default).text,
          parent := (y2.snd.snd.fst.nodes.getD y2.snd.fst.toNat default).parent, attrs := z2.fst : SNode }].length)
  (64 : Nat)) <|
    .ob (bk2 ({
  nodes :=
    y2.fst.nodes ++
      [{ name := (y2.snd.snd.fst.nodes.getD y2.snd.fst.toNat default).name,
          text := (y2.snd.snd.fst.nodes.getD y2.snd.fst.toNat default).text,
          parent := (y2.snd.snd.fst.nodes.getD y2.snd.fst.toNat default).parent, attrs := z2.fst : SNode }],
  open_ := y2.fst.open_ : SBuilder }, (IntKind.i64.wrap (y2.snd.fst + (1 : Int)), (y2.snd.snd.fst, (y2.snd.snd.snd.fst, ()))))) <|
    .ok)
  (.leaf (mkR fCopyBuilder.rs (y2.fst, ())) [] [])) (by kernel_rfl) ?_
  refine ob_i trivial fun _ => ob_i ?_ fun o1 => lpx_i ?_ fun (y2 : SBuilder × Int × SBuilder × SBuilder × PUnit) i2 => br_i (fun h3 => ob_i ?_ fun o4 => ob_i ?_ fun o5 => ob_i ?_ fun o6 => lt_i (ob_i ?_ fun o7 => ob_i ?_ fun o8 => trivial)) (fun h3 => Fct.leafY ?_)
  all_goals have hl := szL_len szNode b.nodes
  all_goals try have hg := szNode_get (l := b.nodes) (i := y1.2.1.toNat)
  all_goals try have hg := szNode_get (l := b.nodes) (i := y2.2.1.toNat)
  all_goals try simp only [decide_eq_true_eq, decide_eq_false_iff_not, Bool.not_eq_true', Bool.not_eq_false', bne_iff_ne, bne_eq_false_iff_eq, beq_iff_eq, beq_eq_false_iff_ne, baEq, Int.not_lt, Int.not_le, ne_eq, Decidable.not_not] at *
  all_goals try simp only [W_spec_l6Copy_fCopyBuilder_3, fCopyAttrs, fCopyBuilder, etaToken, etaNode, etaBuilder, etaPolicy, etaPage, etaVisit, etaTab, etaServer, etaCache, etaNet, etaLoader, etaSheet, etaResult, etaSlot, etaModule, etaAddr, etaRequest, etaResponse, etaConn, etaGuess, etaEntry, etaSent, etaFile, baSz, List.size_toArray, List.length_cons, List.length_nil, Nat.reduceAdd, Int.toNat_zero, List.drop_zero, decide_eq_true_eq, decide_eq_false_iff_not, Bool.not_eq_true', Bool.not_eq_false', bne_iff_ne, bne_eq_false_iff_eq, beq_iff_eq, beq_eq_false_iff_ne, Bool.not_eq_true, Bool.not_eq_false, ne_eq, Decidable.not_not, baEq, decide_not, Prod.mk.injEq, and_true, true_and, Room, List.nil_append, Nat.zero_add, Int.not_lt, Int.not_le, fCopyAttrs, take_succ, builder_take, szBuilder] at *
  all_goals try simp (disch := omega) only [wrapId', toNat1] at *
  all_goals try simp (disch := omega) only [if_pos, if_neg]
  all_goals first | trivial | omega | grind [wrapId', toNat1, drop_cons, drop_end, good_len, maxLen, fCopyAttrs, take_succ, builder_take, szBuilder])
def E91 : D.Env := E90.add 44 fCopyBuilder
theorem E91ok : EOk Try.prog E91 := E90ok.add k44_90
abbrev W_impl_copyBuilder_fCopyBuilder_3 (b : SBuilder) : LInv := ⟨[⟨.b, 3, true, .el .builder⟩, ⟨.s, 14, true, .el .int⟩, ⟨.b, 2, true, .el .builder⟩], fun (z_ : SBuilder × Int × SBuilder × Unit) (x_ : SBuilder × Int × SBuilder × Unit) => (0 ≤ x_.2.1 ∧ x_.2.1 ≤ b.nodes.length ∧ x_.1 = ⟨b.nodes.take x_.2.1.toNat, b.open_⟩) ∧ x_.2.2.1 = z_.2.2.1, fun (x_ : SBuilder × Int × SBuilder × Unit) => b.nodes.length - x_.2.1.toNat⟩
-- impl.copyBuilder
theorem k49_91 : fCopyBuilder.ok Try.prog 49 := Fct.of (S := fCopyBuilder) (L := fun ⟨b, _⟩ => fun | 3 => some (W_impl_copyBuilder_fCopyBuilder_3 b) | _ => none) (kp := [1,2,3,5,12,13,14,15,1000015]) E91ok Try.func49 (by kernel_rfl) (by kernel_rfl) (by
  rintro ⟨(b : SBuilder), _⟩ hp
  refine holds_of (X := .ob (True) <|
 .ob (Room ((0 : Nat) + b.open_.length) (8 : Nat)) <|
 lpx (W_impl_copyBuilder_fCopyBuilder_3 b) ({ nodes := [], open_ := [] ++ b.open_ : SBuilder }, ((0 : Int), (default, ()))) fun (y2 : SBuilder × Int × SBuilder × PUnit) bk2 =>
 .br (decide (y2.snd.fst < (↑b.nodes.length : Int)))
  (.ob ((0 : Int) ≤ y2.snd.fst ∧ y2.snd.fst < (↑b.nodes.length : Int)) <|
   .ob (True) <|
   .ob (Room ((0 : Nat) + (b.nodes.getD y2.snd.fst.toNat default).attrs.length) (32 : Nat)) <|
   .ob (Room
  (y2.fst.nodes.length +
    [{ name := (b.nodes.getD y2.snd.fst.toNat default).name, text := (b.nodes.getD y2.snd.fst.toNat default).text,
          parent := (b.nodes.getD y2.snd.fst.toNat default).parent,
          attrs := [] ++ (b.nodes.getD y2.snd.fst.toNat default).attrs : SNode }].length)
  (64 : Nat)) <|
   .ob (b.nodes = b.nodes) <|
   .ob (Value.int IntKind.i64 (↑b.nodes.length : Int) = Value.int IntKind.i64 (↑b.nodes.length : Int)) <|
   .ob (bk2 ({
  nodes :=
    y2.fst.nodes ++
      [{ name := (b.nodes.getD y2.snd.fst.toNat default).name, text := (b.nodes.getD y2.snd.fst.toNat default).text,
          parent := (b.nodes.getD y2.snd.fst.toNat default).parent,
          attrs := [] ++ (b.nodes.getD y2.snd.fst.toNat default).attrs : SNode }],
  open_ := y2.fst.open_ : SBuilder }, (IntKind.i64.wrap (y2.snd.fst + (1 : Int)), (y2.snd.snd.fst, ())))) <|
   .ok)
  (.leaf (mkR fCopyBuilder.rs (y2.fst, ())) [] [])) (by kernel_rfl) ?_
  refine ob_i trivial fun _ => ob_i ?_ fun o1 => lpx_i ?_ fun (y2 : SBuilder × Int × SBuilder × PUnit) i2 => br_i (fun h3 => ob_i ?_ fun o4 => ob_i trivial fun _ => ob_i ?_ fun o5 => ob_i ?_ fun o6 => ob_i rfl fun _ => ob_i rfl fun _ => ob_i ?_ fun o7 => trivial) (fun h3 => Fct.leafY ?_)
  all_goals have hl := szL_len szNode b.nodes
  all_goals try have hg := szNode_get (l := b.nodes) (i := y1.2.1.toNat)
  all_goals try have hg := szNode_get (l := b.nodes) (i := y2.2.1.toNat)
  all_goals try simp only [decide_eq_true_eq, decide_eq_false_iff_not, Bool.not_eq_true', Bool.not_eq_false', bne_iff_ne, bne_eq_false_iff_eq, beq_iff_eq, beq_eq_false_iff_ne, baEq, Int.not_lt, Int.not_le, ne_eq, Decidable.not_not] at *
  all_goals try simp only [W_impl_copyBuilder_fCopyBuilder_3, fCopyBuilder, etaToken, etaNode, etaBuilder, etaPolicy, etaPage, etaVisit, etaTab, etaServer, etaCache, etaNet, etaLoader, etaSheet, etaResult, etaSlot, etaModule, etaAddr, etaRequest, etaResponse, etaConn, etaGuess, etaEntry, etaSent, etaFile, baSz, List.size_toArray, List.length_cons, List.length_nil, Nat.reduceAdd, Int.toNat_zero, List.drop_zero, decide_eq_true_eq, decide_eq_false_iff_not, Bool.not_eq_true', Bool.not_eq_false', bne_iff_ne, bne_eq_false_iff_eq, beq_iff_eq, beq_eq_false_iff_ne, Bool.not_eq_true, Bool.not_eq_false, ne_eq, Decidable.not_not, baEq, decide_not, Prod.mk.injEq, and_true, true_and, Room, List.nil_append, Nat.zero_add, Int.not_lt, Int.not_le, fCopyAttrs, take_succ, builder_take, szBuilder] at *
  all_goals try simp (disch := omega) only [wrapId', toNat1] at *
  all_goals try simp (disch := omega) only [if_pos, if_neg]
  all_goals first | trivial | omega | grind [wrapId', toNat1, drop_cons, drop_end, good_len, maxLen, fCopyAttrs, take_succ, builder_take, szBuilder])
def E92 : D.Env := E91.add 49 fCopyBuilder
theorem E92ok : EOk Try.prog E92 := E91ok.add k49_91
def fCopyPolicy : Fct := ⟨[.v (.el .policy)], [.el .policy], fun (x_ : SPolicy × Unit) => szPolicy x_.1 ≤ 1073741824, fun (x_ : SPolicy × Unit) => (x_.1, ())⟩
-- spec.l9Copy
theorem k42_92 : fCopyPolicy.ok Try.prog 42 := Fct.of (S := fCopyPolicy) (L := fun _ _ => none) (kp := [1,2]) E92ok Try.func42 (by kernel_rfl) (by kernel_rfl) (by
  rintro ⟨(p : SPolicy), _⟩ hp
  refine holds_of (X := .ob (True) <|
 .ob (Room p.scripts.length (16 : Nat)) <|
 .ob (True) <|
 .ob (Room p.styles.length (16 : Nat)) <|
 .ob (True) <|
 .ob (Room p.images.length (16 : Nat)) <|
 .leaf (mkR fCopyPolicy.rs (p, ())) [] []) (by kernel_rfl) ?_
  refine ob_i trivial fun _ => ob_i ?_ fun o1 => ob_i trivial fun _ => ob_i ?_ fun o2 => ob_i trivial fun _ => ob_i ?_ fun o3 => Fct.leafY ?_
  all_goals have hl1 := szL_len szString p.scripts
  all_goals have hl2 := szL_len szString p.styles
  all_goals have hl3 := szL_len szString p.images
  all_goals try simp only [decide_eq_true_eq, decide_eq_false_iff_not, Bool.not_eq_true', Bool.not_eq_false', bne_iff_ne, bne_eq_false_iff_eq, beq_iff_eq, beq_eq_false_iff_ne, baEq, Int.not_lt, Int.not_le, ne_eq, Decidable.not_not] at *
  all_goals try simp only [fCopyPolicy, etaToken, etaNode, etaBuilder, etaPolicy, etaPage, etaVisit, etaTab, etaServer, etaCache, etaNet, etaLoader, etaSheet, etaResult, etaSlot, etaModule, etaAddr, etaRequest, etaResponse, etaConn, etaGuess, etaEntry, etaSent, etaFile, baSz, List.size_toArray, List.length_cons, List.length_nil, Nat.reduceAdd, Int.toNat_zero, List.drop_zero, decide_eq_true_eq, decide_eq_false_iff_not, Bool.not_eq_true', Bool.not_eq_false', bne_iff_ne, bne_eq_false_iff_eq, beq_iff_eq, beq_eq_false_iff_ne, Bool.not_eq_true, Bool.not_eq_false, ne_eq, Decidable.not_not, baEq, decide_not, Prod.mk.injEq, and_true, true_and, Room, List.nil_append, Nat.zero_add, Int.not_lt, Int.not_le, szPolicy] at *
  all_goals try simp (disch := omega) only [wrapId', toNat1] at *
  all_goals try simp (disch := omega) only [if_pos, if_neg]
  all_goals first | trivial | omega | grind [wrapId', toNat1, drop_cons, drop_end, good_len, maxLen, szPolicy])
def E93 : D.Env := E92.add 42 fCopyPolicy
theorem E93ok : EOk Try.prog E93 := E92ok.add k42_92
-- impl.copyPolicy
theorem k47_93 : fCopyPolicy.ok Try.prog 47 := Fct.of (S := fCopyPolicy) (L := fun _ _ => none) (kp := [1,2]) E93ok Try.func47 (by kernel_rfl) (by kernel_rfl) (by
  rintro ⟨(p : SPolicy), _⟩ hp
  refine holds_of (X := .ob (True) <|
 .ob (Room ((0 : Nat) + p.scripts.length) (16 : Nat)) <|
 .ob (True) <|
 .ob (Room ((0 : Nat) + p.styles.length) (16 : Nat)) <|
 .ob (True) <|
 .ob (Room ((0 : Nat) + p.images.length) (16 : Nat)) <|
 .leaf (mkR fCopyPolicy.rs (⟨p.set_, [] ++ p.scripts, [] ++ p.styles, [] ++ p.images, p.nonce⟩, ())) [] []) (by kernel_rfl) ?_
  refine ob_i trivial fun _ => ob_i ?_ fun o1 => ob_i trivial fun _ => ob_i ?_ fun o2 => ob_i trivial fun _ => ob_i ?_ fun o3 => Fct.leafY ?_
  all_goals have hl1 := szL_len szString p.scripts
  all_goals have hl2 := szL_len szString p.styles
  all_goals have hl3 := szL_len szString p.images
  all_goals try simp only [decide_eq_true_eq, decide_eq_false_iff_not, Bool.not_eq_true', Bool.not_eq_false', bne_iff_ne, bne_eq_false_iff_eq, beq_iff_eq, beq_eq_false_iff_ne, baEq, Int.not_lt, Int.not_le, ne_eq, Decidable.not_not] at *
  all_goals try simp only [fCopyPolicy, etaToken, etaNode, etaBuilder, etaPolicy, etaPage, etaVisit, etaTab, etaServer, etaCache, etaNet, etaLoader, etaSheet, etaResult, etaSlot, etaModule, etaAddr, etaRequest, etaResponse, etaConn, etaGuess, etaEntry, etaSent, etaFile, baSz, List.size_toArray, List.length_cons, List.length_nil, Nat.reduceAdd, Int.toNat_zero, List.drop_zero, decide_eq_true_eq, decide_eq_false_iff_not, Bool.not_eq_true', Bool.not_eq_false', bne_iff_ne, bne_eq_false_iff_eq, beq_iff_eq, beq_eq_false_iff_ne, Bool.not_eq_true, Bool.not_eq_false, ne_eq, Decidable.not_not, baEq, decide_not, Prod.mk.injEq, and_true, true_and, Room, List.nil_append, Nat.zero_add, Int.not_lt, Int.not_le, szPolicy] at *
  all_goals try simp (disch := omega) only [wrapId', toNat1] at *
  all_goals try simp (disch := omega) only [if_pos, if_neg]
  all_goals first | trivial | omega | grind [wrapId', toNat1, drop_cons, drop_end, good_len, maxLen, szPolicy])
def E94 : D.Env := E93.add 47 fCopyPolicy
theorem E94ok : EOk Try.prog E94 := E93ok.add k47_93
def fCopyPage : Fct := ⟨[.v (.el .page)], [.el .page], fun (x_ : SPage × Unit) => szPage x_.1 ≤ 1073741824, fun (x_ : SPage × Unit) => (x_.1, ())⟩
-- spec.l15Copy
theorem k21_94 : fCopyPage.ok Try.prog 21 := Fct.of (S := fCopyPage) (L := fun _ _ => none) (kp := [1,2,3]) E94ok Try.func21 (by kernel_rfl) (by kernel_rfl) (by
  rintro ⟨(p : SPage), _⟩ hp
  refine holds_of (X := .ob (fCopyPolicy.pre (p.policy, ())) <|
 .lt (SPolicy × PUnit) (fCopyPolicy.fn (p.policy, ())) fun z2 =>
 .ob (fCopyTokens.pre (p.queue, ())) <|
  .lt (List SToken × PUnit) (fCopyTokens.fn (p.queue, ())) fun z3 =>
  .ob (fCopyBuilder.pre (p.builder, ())) <|
   .lt (SBuilder × PUnit) (fCopyBuilder.fn (p.builder, ())) fun z4 =>
   .ob (True) <|
    .ob (Room ((0 : Nat) + p.slots.length) (96 : Nat)) <|
    .ob (True) <|
    .ob (Room ((0 : Nat) + p.mods.length) (64 : Nat)) <|
    .ob (True) <|
    .ob (Room ((0 : Nat) + p.entries.length) (32 : Nat)) <|
    .ob (True) <|
    .ob (Room ((0 : Nat) + p.ran.length) (32 : Nat)) <|
    .ob (True) <|
    .ob (Room ((0 : Nat) + p.log.length) (16 : Nat)) <|
    .leaf (mkR fCopyPage.rs (⟨p.addr, z2.fst, p.tok, z3.fst, p.ended, z4.fst, [] ++ p.slots, [] ++ p.mods, [] ++ p.entries, p.block, p.inline, p.deferred, p.entered, [] ++ p.ran, [] ++ p.log, p.loaded⟩, ())) [] []) (by kernel_rfl) ?_
  refine ob_i ?_ fun o1 => lt_i (ob_i ?_ fun o2 => lt_i (ob_i ?_ fun o3 => lt_i (ob_i trivial fun _ => ob_i ?_ fun o4 => ob_i trivial fun _ => ob_i ?_ fun o5 => ob_i trivial fun _ => ob_i ?_ fun o6 => ob_i trivial fun _ => ob_i ?_ fun o7 => ob_i trivial fun _ => ob_i ?_ fun o8 => Fct.leafY ?_)))
  all_goals have hl1 := szL_len szSlot p.slots
  all_goals have hl2 := szL_len szModule p.mods
  all_goals have hl3 := szL_len szAddr p.entries
  all_goals have hl4 := szL_len szAddr p.ran
  all_goals have hl5 := szL_len szString p.log
  all_goals try simp only [decide_eq_true_eq, decide_eq_false_iff_not, Bool.not_eq_true', Bool.not_eq_false', bne_iff_ne, bne_eq_false_iff_eq, beq_iff_eq, beq_eq_false_iff_ne, baEq, Int.not_lt, Int.not_le, ne_eq, Decidable.not_not] at *
  all_goals try simp only [fCopyBuilder, fCopyPage, fCopyPolicy, fCopyTokens, etaToken, etaNode, etaBuilder, etaPolicy, etaPage, etaVisit, etaTab, etaServer, etaCache, etaNet, etaLoader, etaSheet, etaResult, etaSlot, etaModule, etaAddr, etaRequest, etaResponse, etaConn, etaGuess, etaEntry, etaSent, etaFile, baSz, List.size_toArray, List.length_cons, List.length_nil, Nat.reduceAdd, Int.toNat_zero, List.drop_zero, decide_eq_true_eq, decide_eq_false_iff_not, Bool.not_eq_true', Bool.not_eq_false', bne_iff_ne, bne_eq_false_iff_eq, beq_iff_eq, beq_eq_false_iff_ne, Bool.not_eq_true, Bool.not_eq_false, ne_eq, Decidable.not_not, baEq, decide_not, Prod.mk.injEq, and_true, true_and, Room, List.nil_append, Nat.zero_add, Int.not_lt, Int.not_le, szPage, fCopyPolicy, fCopyTokens, fCopyBuilder] at *
  all_goals try simp (disch := omega) only [wrapId', toNat1] at *
  all_goals try simp (disch := omega) only [if_pos, if_neg]
  all_goals first | trivial | omega | grind [wrapId', toNat1, drop_cons, drop_end, good_len, maxLen, szPage, fCopyPolicy, fCopyTokens, fCopyBuilder])
def E95 : D.Env := E94.add 21 fCopyPage
theorem E95ok : EOk Try.prog E95 := E94ok.add k21_94
-- impl.copyPage
theorem k23_95 : fCopyPage.ok Try.prog 23 := Fct.of (S := fCopyPage) (L := fun _ _ => none) (kp := [1,2]) E95ok Try.func23 (by kernel_rfl) (by kernel_rfl) (by
  rintro ⟨(p : SPage), _⟩ hp
  refine holds_of (X := .ob (fCopyPolicy.pre (p.policy, ())) <|
 .lt (SPolicy × PUnit) (fCopyPolicy.fn (p.policy, ())) fun z2 =>
 .ob (fCopyTokens.pre (p.queue, ())) <|
  .lt (List SToken × PUnit) (fCopyTokens.fn (p.queue, ())) fun z3 =>
  .ob (fCopyBuilder.pre (p.builder, ())) <|
   .lt (SBuilder × PUnit) (fCopyBuilder.fn (p.builder, ())) fun z4 =>
   .ob (True) <|
    .ob (Room ((0 : Nat) + p.slots.length) (96 : Nat)) <|
    .ob (True) <|
    .ob (Room ((0 : Nat) + p.mods.length) (64 : Nat)) <|
    .ob (True) <|
    .ob (Room ((0 : Nat) + p.entries.length) (32 : Nat)) <|
    .ob (True) <|
    .ob (Room ((0 : Nat) + p.ran.length) (32 : Nat)) <|
    .ob (True) <|
    .ob (Room ((0 : Nat) + p.log.length) (16 : Nat)) <|
    .leaf (mkR fCopyPage.rs (⟨p.addr, z2.fst, p.tok, z3.fst, p.ended, z4.fst, [] ++ p.slots, [] ++ p.mods, [] ++ p.entries, p.block, p.inline, p.deferred, p.entered, [] ++ p.ran, [] ++ p.log, p.loaded⟩, ())) [] []) (by kernel_rfl) ?_
  refine ob_i ?_ fun o1 => lt_i (ob_i ?_ fun o2 => lt_i (ob_i ?_ fun o3 => lt_i (ob_i trivial fun _ => ob_i ?_ fun o4 => ob_i trivial fun _ => ob_i ?_ fun o5 => ob_i trivial fun _ => ob_i ?_ fun o6 => ob_i trivial fun _ => ob_i ?_ fun o7 => ob_i trivial fun _ => ob_i ?_ fun o8 => Fct.leafY ?_)))
  all_goals have hl1 := szL_len szSlot p.slots
  all_goals have hl2 := szL_len szModule p.mods
  all_goals have hl3 := szL_len szAddr p.entries
  all_goals have hl4 := szL_len szAddr p.ran
  all_goals have hl5 := szL_len szString p.log
  all_goals try simp only [decide_eq_true_eq, decide_eq_false_iff_not, Bool.not_eq_true', Bool.not_eq_false', bne_iff_ne, bne_eq_false_iff_eq, beq_iff_eq, beq_eq_false_iff_ne, baEq, Int.not_lt, Int.not_le, ne_eq, Decidable.not_not] at *
  all_goals try simp only [fCopyBuilder, fCopyPage, fCopyPolicy, fCopyTokens, etaToken, etaNode, etaBuilder, etaPolicy, etaPage, etaVisit, etaTab, etaServer, etaCache, etaNet, etaLoader, etaSheet, etaResult, etaSlot, etaModule, etaAddr, etaRequest, etaResponse, etaConn, etaGuess, etaEntry, etaSent, etaFile, baSz, List.size_toArray, List.length_cons, List.length_nil, Nat.reduceAdd, Int.toNat_zero, List.drop_zero, decide_eq_true_eq, decide_eq_false_iff_not, Bool.not_eq_true', Bool.not_eq_false', bne_iff_ne, bne_eq_false_iff_eq, beq_iff_eq, beq_eq_false_iff_ne, Bool.not_eq_true, Bool.not_eq_false, ne_eq, Decidable.not_not, baEq, decide_not, Prod.mk.injEq, and_true, true_and, Room, List.nil_append, Nat.zero_add, Int.not_lt, Int.not_le, szPage, fCopyPolicy, fCopyTokens, fCopyBuilder] at *
  all_goals try simp (disch := omega) only [wrapId', toNat1] at *
  all_goals try simp (disch := omega) only [if_pos, if_neg]
  all_goals first | trivial | omega | grind [wrapId', toNat1, drop_cons, drop_end, good_len, maxLen, szPage, fCopyPolicy, fCopyTokens, fCopyBuilder])
def E96 : D.Env := E95.add 23 fCopyPage
theorem E96ok : EOk Try.prog E96 := E95ok.add k23_95
def fCopyTab : Fct := ⟨[.v (.el .tab)], [.el .tab], fun (x_ : STab × Unit) => szTab x_.1 ≤ 1073741824, fun (x_ : STab × Unit) => (x_.1, ())⟩
abbrev W_spec_l31Copy_fCopyTab_3 (t : STab) : LInv := ⟨[⟨.b, 3, true, .el .tab⟩, ⟨.s, 4, true, .el .int⟩, ⟨.b, 1, false, .el .tab⟩, ⟨.b, 2, true, .el .tab⟩], fun (z_ : STab × Int × STab × STab × Unit) (x_ : STab × Int × STab × STab × Unit) => ((0 ≤ x_.2.1 ∧ x_.2.1 ≤ t.visits.length ∧ x_.1 = ⟨t.visits.take x_.2.1.toNat, t.at_⟩) ∧ x_.2.2.1 = z_.2.2.1) ∧ x_.2.2.2.1 = z_.2.2.2.1, fun (x_ : STab × Int × STab × STab × Unit) => t.visits.length - x_.2.1.toNat⟩
-- spec.l31Copy
theorem k12_96 : fCopyTab.ok Try.prog 12 := Fct.of (S := fCopyTab) (L := fun ⟨t, _⟩ => fun | 3 => some (W_spec_l31Copy_fCopyTab_3 t) | _ => none) (kp := [1,2,3,4,5,13,1000013]) E96ok Try.func12 (by kernel_rfl) (by kernel_rfl) (by
  rintro ⟨(t : STab), _⟩ hp
  refine holds_of (X := lpx (W_spec_l31Copy_fCopyTab_3 t) ({ visits := [], at_ := t.at_ : STab }, ((0 : Int), (t, (default, ())))) fun (y1 : STab × Int × STab × STab × PUnit) bk1 =>
 .br (decide (y1.snd.fst < (↑y1.snd.snd.fst.visits.length : Int)))
  (.ob ((0 : Int) ≤ y1.snd.fst ∧ y1.snd.fst < (↑y1.snd.snd.fst.visits.length : Int)) <|
   .ob ((0 : Int) ≤ y1.snd.fst ∧ y1.snd.fst < (↑y1.snd.snd.fst.visits.length : Int)) <|
   .ob (fCopyPage.pre ((y1.snd.snd.fst.visits.getD y1.snd.fst.toNat default).page, ())) <|
   .lt (SPage × PUnit) (fCopyPage.fn ((y1.snd.snd.fst.visits.getD y1.snd.fst.toNat default).page, ())) fun z2 =>
   .ob (Room
  (y1.fst.visits.length +
    [{ addr := (y1.snd.snd.fst.visits.getD y1.snd.fst.toNat default).addr, page := z2.fst,
          kept := (y1.snd.snd.fst.visits.getD y1.snd.fst.toNat default).kept : SVisit }].length)
  (424 : Nat)) <|
    .ob (bk1 ({
  visits :=
    y1.fst.visits ++
      [{ addr := (y1.snd.snd.fst.visits.getD y1.snd.fst.toNat default).addr, page := z2.fst,
          kept := (y1.snd.snd.fst.visits.getD y1.snd.fst.toNat default).kept : SVisit }],
  at_ := y1.fst.at_ : STab }, (IntKind.i64.wrap (y1.snd.fst + (1 : Int)), (y1.snd.snd.fst, (y1.snd.snd.snd.fst, ()))))) <|
    .ok)
  (.leaf (mkR fCopyTab.rs (y1.fst, ())) [] [])) (by kernel_rfl) ?_
  refine lpx_i ?_ fun (y1 : STab × Int × STab × STab × PUnit) i1 => br_i (fun h2 => ob_i ?_ fun o3 => ob_i ?_ fun o4 => ob_i ?_ fun o5 => lt_i (ob_i ?_ fun o6 => ob_i ?_ fun o7 => trivial)) (fun h2 => Fct.leafY ?_)
  all_goals have hl := szL_len szVisit t.visits
  all_goals try have hg := szVisit_get (l := t.visits) (i := y1.2.1.toNat)
  all_goals try have hg := szVisit_get (l := t.visits) (i := y2.2.1.toNat)
  all_goals try simp only [decide_eq_true_eq, decide_eq_false_iff_not, Bool.not_eq_true', Bool.not_eq_false', bne_iff_ne, bne_eq_false_iff_eq, beq_iff_eq, beq_eq_false_iff_ne, baEq, Int.not_lt, Int.not_le, ne_eq, Decidable.not_not] at *
  all_goals try simp only [W_spec_l31Copy_fCopyTab_3, fCopyPage, fCopyTab, etaToken, etaNode, etaBuilder, etaPolicy, etaPage, etaVisit, etaTab, etaServer, etaCache, etaNet, etaLoader, etaSheet, etaResult, etaSlot, etaModule, etaAddr, etaRequest, etaResponse, etaConn, etaGuess, etaEntry, etaSent, etaFile, baSz, List.size_toArray, List.length_cons, List.length_nil, Nat.reduceAdd, Int.toNat_zero, List.drop_zero, decide_eq_true_eq, decide_eq_false_iff_not, Bool.not_eq_true', Bool.not_eq_false', bne_iff_ne, bne_eq_false_iff_eq, beq_iff_eq, beq_eq_false_iff_ne, Bool.not_eq_true, Bool.not_eq_false, ne_eq, Decidable.not_not, baEq, decide_not, Prod.mk.injEq, and_true, true_and, Room, List.nil_append, Nat.zero_add, Int.not_lt, Int.not_le, szTab, fCopyPage, take_succ, tab_take] at *
  all_goals try simp (disch := omega) only [wrapId', toNat1] at *
  all_goals try simp (disch := omega) only [if_pos, if_neg]
  all_goals first | trivial | omega | grind [wrapId', toNat1, drop_cons, drop_end, good_len, maxLen, szTab, fCopyPage, take_succ, tab_take])
def E97 : D.Env := E96.add 12 fCopyTab
theorem E97ok : EOk Try.prog E97 := E96ok.add k12_96
abbrev W_impl_copyTab_fCopyTab_3 (t : STab) : LInv := ⟨[⟨.b, 3, true, .el .tab⟩, ⟨.s, 12, true, .el .int⟩, ⟨.b, 2, true, .el .tab⟩], fun (z_ : STab × Int × STab × Unit) (x_ : STab × Int × STab × Unit) => (0 ≤ x_.2.1 ∧ x_.2.1 ≤ t.visits.length ∧ x_.1 = ⟨t.visits.take x_.2.1.toNat, t.at_⟩) ∧ x_.2.2.1 = z_.2.2.1, fun (x_ : STab × Int × STab × Unit) => t.visits.length - x_.2.1.toNat⟩
-- impl.copyTab
theorem k15_97 : fCopyTab.ok Try.prog 15 := Fct.of (S := fCopyTab) (L := fun ⟨t, _⟩ => fun | 3 => some (W_impl_copyTab_fCopyTab_3 t) | _ => none) (kp := [1,2,3,5,10,11,12,13,1000013]) E97ok Try.func15 (by kernel_rfl) (by kernel_rfl) (by
  rintro ⟨(t : STab), _⟩ hp
  refine holds_of (X := lpx (W_impl_copyTab_fCopyTab_3 t) ({ visits := [], at_ := t.at_ : STab }, ((0 : Int), (default, ()))) fun (y1 : STab × Int × STab × PUnit) bk1 =>
 .br (decide (y1.snd.fst < (↑t.visits.length : Int)))
  (.ob ((0 : Int) ≤ y1.snd.fst ∧ y1.snd.fst < (↑t.visits.length : Int)) <|
   .ob (fCopyPage.pre ((t.visits.getD y1.snd.fst.toNat default).page, ())) <|
   .lt (SPage × PUnit) (fCopyPage.fn ((t.visits.getD y1.snd.fst.toNat default).page, ())) fun z2 =>
   .ob (Room
  (y1.fst.visits.length +
    [{ addr := (t.visits.getD y1.snd.fst.toNat default).addr, page := z2.fst,
          kept := (t.visits.getD y1.snd.fst.toNat default).kept : SVisit }].length)
  (424 : Nat)) <|
    .ob (t.visits = t.visits) <|
    .ob (Value.int IntKind.i64 (↑t.visits.length : Int) = Value.int IntKind.i64 (↑t.visits.length : Int)) <|
    .ob (bk1 ({
  visits :=
    y1.fst.visits ++
      [{ addr := (t.visits.getD y1.snd.fst.toNat default).addr, page := z2.fst,
          kept := (t.visits.getD y1.snd.fst.toNat default).kept : SVisit }],
  at_ := y1.fst.at_ : STab }, (IntKind.i64.wrap (y1.snd.fst + (1 : Int)), (y1.snd.snd.fst, ())))) <|
    .ok)
  (.leaf (mkR fCopyTab.rs (y1.fst, ())) [] [])) (by kernel_rfl) ?_
  refine lpx_i ?_ fun (y1 : STab × Int × STab × PUnit) i1 => br_i (fun h2 => ob_i ?_ fun o3 => ob_i ?_ fun o4 => lt_i (ob_i ?_ fun o5 => ob_i rfl fun _ => ob_i rfl fun _ => ob_i ?_ fun o6 => trivial)) (fun h2 => Fct.leafY ?_)
  all_goals have hl := szL_len szVisit t.visits
  all_goals try have hg := szVisit_get (l := t.visits) (i := y1.2.1.toNat)
  all_goals try have hg := szVisit_get (l := t.visits) (i := y2.2.1.toNat)
  all_goals try simp only [decide_eq_true_eq, decide_eq_false_iff_not, Bool.not_eq_true', Bool.not_eq_false', bne_iff_ne, bne_eq_false_iff_eq, beq_iff_eq, beq_eq_false_iff_ne, baEq, Int.not_lt, Int.not_le, ne_eq, Decidable.not_not] at *
  all_goals try simp only [W_impl_copyTab_fCopyTab_3, fCopyPage, fCopyTab, etaToken, etaNode, etaBuilder, etaPolicy, etaPage, etaVisit, etaTab, etaServer, etaCache, etaNet, etaLoader, etaSheet, etaResult, etaSlot, etaModule, etaAddr, etaRequest, etaResponse, etaConn, etaGuess, etaEntry, etaSent, etaFile, baSz, List.size_toArray, List.length_cons, List.length_nil, Nat.reduceAdd, Int.toNat_zero, List.drop_zero, decide_eq_true_eq, decide_eq_false_iff_not, Bool.not_eq_true', Bool.not_eq_false', bne_iff_ne, bne_eq_false_iff_eq, beq_iff_eq, beq_eq_false_iff_ne, Bool.not_eq_true, Bool.not_eq_false, ne_eq, Decidable.not_not, baEq, decide_not, Prod.mk.injEq, and_true, true_and, Room, List.nil_append, Nat.zero_add, Int.not_lt, Int.not_le, szTab, fCopyPage, take_succ, tab_take] at *
  all_goals try simp (disch := omega) only [wrapId', toNat1] at *
  all_goals try simp (disch := omega) only [if_pos, if_neg]
  all_goals first | trivial | omega | grind [wrapId', toNat1, drop_cons, drop_end, good_len, maxLen, szTab, fCopyPage, take_succ, tab_take])
def E98 : D.Env := E97.add 15 fCopyTab
theorem E98ok : EOk Try.prog E98 := E97ok.add k15_97
def moveTo (t : STab) (b : Int) : STab × Bool := if (b = 1 ∨ b = -1) ∧ 0 ≤ t.at_ ∧ t.at_ < t.visits.length ∧ 0 ≤ t.at_ + b ∧ t.at_ + b < t.visits.length then (⟨t.visits, t.at_ + b⟩, true) else (t, false)
def fMoveTo : Fct := ⟨[.v (.el .tab), .v (.el .int)], [.el .tab, .el .bool], fun (x_ : STab × Int × Unit) => szTab x_.1 ≤ 1073741824, fun (x_ : STab × Int × Unit) => ((moveTo x_.1 x_.2.1).1, (moveTo x_.1 x_.2.1).2, ())⟩
-- spec.MoveTo
theorem k5_98 : fMoveTo.ok Try.prog 5 := Fct.of (S := fMoveTo) (L := fun _ _ => none) (kp := [1,2,4,5,6,36,1000036]) E98ok Try.func5 (by kernel_rfl) (by kernel_rfl) (by
  rintro ⟨(t : STab), (b : Int), _⟩ hp
  refine holds_of (X := .ob (fCopyTab.pre (t, ())) <|
 .lt (STab × PUnit) (fCopyTab.fn (t, ())) fun z2 =>
 .br (b != (1 : Int))
  (.br (b != (-1 : Int))
   (.leaf (mkR fMoveTo.rs (z2.fst, false, ())) [] [])
   (.ob (fInRange.pre (t.at_, (0 : Int), IntKind.i64.wrap ((↑t.visits.length : Int) - (1 : Int)), ())) <|
    .lt (Bool × PUnit) (fInRange.fn (t.at_, (0 : Int), IntKind.i64.wrap ((↑t.visits.length : Int) - (1 : Int)), ())) fun z3 =>
    .br (!z3.fst)
     (.leaf (mkR fMoveTo.rs (z2.fst, false, ())) [] [])
     (.ob (fInRange.pre (IntKind.i64.wrap (t.at_ + b), (0 : Int), IntKind.i64.wrap ((↑t.visits.length : Int) - (1 : Int)), ())) <|
      .lt (Bool × PUnit) (fInRange.fn (IntKind.i64.wrap (t.at_ + b), (0 : Int), IntKind.i64.wrap ((↑t.visits.length : Int) - (1 : Int)), ())) fun z4 =>
      .br (!z4.fst)
       (.leaf (mkR fMoveTo.rs (z2.fst, false, ())) [] [])
       (.leaf (mkR fMoveTo.rs (⟨z2.fst.visits, IntKind.i64.wrap (t.at_ + b)⟩, true, ())) [] []))))
  (.ob (fInRange.pre (t.at_, (0 : Int), IntKind.i64.wrap ((↑t.visits.length : Int) - (1 : Int)), ())) <|
   .lt (Bool × PUnit) (fInRange.fn (t.at_, (0 : Int), IntKind.i64.wrap ((↑t.visits.length : Int) - (1 : Int)), ())) fun z5 =>
   .br (!z5.fst)
    (.leaf (mkR fMoveTo.rs (z2.fst, false, ())) [] [])
    (.ob (fInRange.pre (IntKind.i64.wrap (t.at_ + b), (0 : Int), IntKind.i64.wrap ((↑t.visits.length : Int) - (1 : Int)), ())) <|
     .lt (Bool × PUnit) (fInRange.fn (IntKind.i64.wrap (t.at_ + b), (0 : Int), IntKind.i64.wrap ((↑t.visits.length : Int) - (1 : Int)), ())) fun z6 =>
     .br (!z6.fst)
      (.leaf (mkR fMoveTo.rs (z2.fst, false, ())) [] [])
      (.leaf (mkR fMoveTo.rs (⟨z2.fst.visits, IntKind.i64.wrap (t.at_ + b)⟩, true, ())) [] [])))) (by kernel_rfl) ?_
  refine ob_i ?_ fun o1 => lt_i (br_i (fun h2 => br_i (fun h3 => Fct.leafY ?_) (fun h3 => ob_i trivial fun _ => lt_i (br_i (fun h4 => Fct.leafY ?_) (fun h4 => ob_i trivial fun _ => lt_i (br_i (fun h5 => Fct.leafY ?_) (fun h5 => Fct.leafY ?_)))))) (fun h2 => ob_i trivial fun _ => lt_i (br_i (fun h6 => Fct.leafY ?_) (fun h6 => ob_i trivial fun _ => lt_i (br_i (fun h7 => Fct.leafY ?_) (fun h7 => Fct.leafY ?_))))))
  all_goals have hl := szL_len szVisit t.visits
  all_goals try simp only [decide_eq_true_eq, decide_eq_false_iff_not, Bool.not_eq_true', Bool.not_eq_false', bne_iff_ne, bne_eq_false_iff_eq, beq_iff_eq, beq_eq_false_iff_ne, baEq, Int.not_lt, Int.not_le, ne_eq, Decidable.not_not] at *
  all_goals try simp only [fCopyTab, fInRange, fMoveTo, etaToken, etaNode, etaBuilder, etaPolicy, etaPage, etaVisit, etaTab, etaServer, etaCache, etaNet, etaLoader, etaSheet, etaResult, etaSlot, etaModule, etaAddr, etaRequest, etaResponse, etaConn, etaGuess, etaEntry, etaSent, etaFile, baSz, List.size_toArray, List.length_cons, List.length_nil, Nat.reduceAdd, Int.toNat_zero, List.drop_zero, decide_eq_true_eq, decide_eq_false_iff_not, Bool.not_eq_true', Bool.not_eq_false', bne_iff_ne, bne_eq_false_iff_eq, beq_iff_eq, beq_eq_false_iff_ne, Bool.not_eq_true, Bool.not_eq_false, ne_eq, Decidable.not_not, baEq, decide_not, Prod.mk.injEq, and_true, true_and, Room, List.nil_append, Nat.zero_add, Int.not_lt, Int.not_le, szTab, moveTo, fCopyTab, fInRange, inRange, fHasPresent] at *
  all_goals try simp (disch := omega) only [wrapId', toNat1] at *
  all_goals try simp (disch := omega) only [if_pos, if_neg]
  all_goals first | trivial | omega | grind [wrapId', toNat1, drop_cons, drop_end, good_len, maxLen, szTab, moveTo, fCopyTab, fInRange, inRange, fHasPresent])
def E99 : D.Env := E98.add 5 fMoveTo
theorem E99ok : EOk Try.prog E99 := E98ok.add k5_98
-- impl.MoveTo
theorem k7_99 : fMoveTo.ok Try.prog 7 := Fct.of (S := fMoveTo) (L := fun _ _ => none) (kp := [1,2,4,5,6,29,1000029]) E99ok Try.func7 (by kernel_rfl) (by kernel_rfl) (by
  rintro ⟨(t : STab), (b : Int), _⟩ hp
  refine holds_of (X := .ob (fCopyTab.pre (t, ())) <|
 .lt (STab × PUnit) (fCopyTab.fn (t, ())) fun z2 =>
 .br (b != (-1 : Int))
  (.br (b != (1 : Int))
   (.ob (fCopyTab.pre (t, ())) <|
    .lt (STab × PUnit) (fCopyTab.fn (t, ())) fun z3 =>
    .leaf (mkR fMoveTo.rs (z3.fst, false, ())) [] [])
   (.ob (fHasPresent.pre (t, ())) <|
    .lt (Bool × PUnit) (fHasPresent.fn (t, ())) fun z4 =>
    .br (!z4.fst)
     (.ob (fCopyTab.pre (t, ())) <|
      .lt (STab × PUnit) (fCopyTab.fn (t, ())) fun z5 =>
      .leaf (mkR fMoveTo.rs (z5.fst, false, ())) [] [])
     (.ob (fHasPresent.pre ({ visits := z2.fst.visits, at_ := IntKind.i64.wrap (z2.fst.at_ + b) : STab }, ())) <|
      .lt (Bool × PUnit) (fHasPresent.fn ({ visits := z2.fst.visits, at_ := IntKind.i64.wrap (z2.fst.at_ + b) : STab }, ())) fun z6 =>
      .br (!z6.fst)
       (.ob (fCopyTab.pre (t, ())) <|
        .lt (STab × PUnit) (fCopyTab.fn (t, ())) fun z7 =>
        .leaf (mkR fMoveTo.rs (z7.fst, false, ())) [] [])
       (.leaf (mkR fMoveTo.rs (⟨z2.fst.visits, IntKind.i64.wrap (z2.fst.at_ + b)⟩, true, ())) [] []))))
  (.ob (fHasPresent.pre (t, ())) <|
   .lt (Bool × PUnit) (fHasPresent.fn (t, ())) fun z8 =>
   .br (!z8.fst)
    (.ob (fCopyTab.pre (t, ())) <|
     .lt (STab × PUnit) (fCopyTab.fn (t, ())) fun z9 =>
     .leaf (mkR fMoveTo.rs (z9.fst, false, ())) [] [])
    (.ob (fHasPresent.pre ({ visits := z2.fst.visits, at_ := IntKind.i64.wrap (z2.fst.at_ + b) : STab }, ())) <|
     .lt (Bool × PUnit) (fHasPresent.fn ({ visits := z2.fst.visits, at_ := IntKind.i64.wrap (z2.fst.at_ + b) : STab }, ())) fun z10 =>
     .br (!z10.fst)
      (.ob (fCopyTab.pre (t, ())) <|
       .lt (STab × PUnit) (fCopyTab.fn (t, ())) fun z11 =>
       .leaf (mkR fMoveTo.rs (z11.fst, false, ())) [] [])
      (.leaf (mkR fMoveTo.rs (⟨z2.fst.visits, IntKind.i64.wrap (z2.fst.at_ + b)⟩, true, ())) [] [])))) (by kernel_rfl) ?_
  refine ob_i ?_ fun o1 => lt_i (br_i (fun h2 => br_i (fun h3 => ob_i ?_ fun o4 => lt_i (Fct.leafY ?_)) (fun h3 => ob_i trivial fun _ => lt_i (br_i (fun h5 => ob_i ?_ fun o6 => lt_i (Fct.leafY ?_)) (fun h5 => ob_i trivial fun _ => lt_i (br_i (fun h7 => ob_i ?_ fun o8 => lt_i (Fct.leafY ?_)) (fun h7 => Fct.leafY ?_)))))) (fun h2 => ob_i trivial fun _ => lt_i (br_i (fun h9 => ob_i ?_ fun o10 => lt_i (Fct.leafY ?_)) (fun h9 => ob_i trivial fun _ => lt_i (br_i (fun h11 => ob_i ?_ fun o12 => lt_i (Fct.leafY ?_)) (fun h11 => Fct.leafY ?_))))))
  all_goals have hl := szL_len szVisit t.visits
  all_goals try simp only [decide_eq_true_eq, decide_eq_false_iff_not, Bool.not_eq_true', Bool.not_eq_false', bne_iff_ne, bne_eq_false_iff_eq, beq_iff_eq, beq_eq_false_iff_ne, baEq, Int.not_lt, Int.not_le, ne_eq, Decidable.not_not] at *
  all_goals try simp only [fCopyTab, fHasPresent, fMoveTo, etaToken, etaNode, etaBuilder, etaPolicy, etaPage, etaVisit, etaTab, etaServer, etaCache, etaNet, etaLoader, etaSheet, etaResult, etaSlot, etaModule, etaAddr, etaRequest, etaResponse, etaConn, etaGuess, etaEntry, etaSent, etaFile, baSz, List.size_toArray, List.length_cons, List.length_nil, Nat.reduceAdd, Int.toNat_zero, List.drop_zero, decide_eq_true_eq, decide_eq_false_iff_not, Bool.not_eq_true', Bool.not_eq_false', bne_iff_ne, bne_eq_false_iff_eq, beq_iff_eq, beq_eq_false_iff_ne, Bool.not_eq_true, Bool.not_eq_false, ne_eq, Decidable.not_not, baEq, decide_not, Prod.mk.injEq, and_true, true_and, Room, List.nil_append, Nat.zero_add, Int.not_lt, Int.not_le, szTab, moveTo, fCopyTab, fInRange, inRange, fHasPresent] at *
  all_goals try simp (disch := omega) only [wrapId', toNat1] at *
  all_goals try simp (disch := omega) only [if_pos, if_neg]
  all_goals first | trivial | omega | grind [wrapId', toNat1, drop_cons, drop_end, good_len, maxLen, szTab, moveTo, fCopyTab, fInRange, inRange, fHasPresent])
def E100 : D.Env := E99.add 7 fMoveTo
theorem E100ok : EOk Try.prog E100 := E99ok.add k7_99
def lTabInt : Fct := lawFS [.el .tab, .el .int]
theorem moveTo_sz (t : STab) (b : Int) : szTab (moveTo t b).1 ≤ szTab t := by
  unfold moveTo
  split
  · simp [szTab]
  · exact Nat.le_refl _
-- laws.FnExactMoveTo
set_option maxHeartbeats 2000000 in
theorem k3_100 : lTabInt.ok Try.prog 3 := Fct.of (S := lTabInt) (L := fun _ _ => none) (kp := [1,2,4,5,6,7,8,9,10,11,12,13,14,15,20,44,49,65,73,76,92,97,100,1000020,1000044,1000049,1000065,1000073,1000076,1000092,1000097,1000100]) E100ok Try.func3 (by kernel_rfl) (by kernel_rfl) (by
  rintro ⟨(t : STab), (b : Int), _⟩ hp
  refine holds_of (X := .ob (fszTab.pre (t, (1048576 : Int), ())) <|
 .lt (Int × PUnit) (fszTab.fn (t, (1048576 : Int), ())) fun z2 =>
 .br (decide (z2.fst < (0 : Int)))
  (.leaf (mkR lTabInt.rs (true, ())) [] [])
  (.ob (ftoTab.pre (t, ())) <|
   .lt (STab × PUnit) (ftoTab.fn (t, ())) fun z3 =>
   .ob (fMoveTo.pre (z3.fst, b, ())) <|
    .lt (STab × Bool × PUnit) (fMoveTo.fn (z3.fst, b, ())) fun z4 =>
    .ob (ftoTab.pre (t, ())) <|
     .lt (STab × PUnit) (ftoTab.fn (t, ())) fun z5 =>
     .ob (fMoveTo.pre (z5.fst, b, ())) <|
      .lt (STab × Bool × PUnit) (fMoveTo.fn (z5.fst, b, ())) fun z6 =>
      .ob (feqTab.pre (z6.fst, z4.fst, ())) <|
       .lt (Bool × PUnit) (feqTab.fn (z6.fst, z4.fst, ())) fun z7 =>
       .br (!z7.fst)
        (.leaf (mkR lTabInt.rs (false, ())) [] [])
        (.br (!z6.snd.fst == z4.snd.fst)
         (.leaf (mkR lTabInt.rs (false, ())) [] [])
         (.ob (ftoTab.pre (t, ())) <|
          .lt (STab × PUnit) (ftoTab.fn (t, ())) fun z8 =>
          .ob (feqTab.pre (z5.fst, z8.fst, ())) <|
           .lt (Bool × PUnit) (feqTab.fn (z5.fst, z8.fst, ())) fun z9 =>
           .br (!z9.fst)
            (.leaf (mkR lTabInt.rs (false, ())) [] [])
            (.ob (fmarkTab.pre z5.fst (1 : Int)) <|
             .lt (STab × Int) (fmarkTab.fn z5.fst (1 : Int)) fun z10 =>
             .br (decide (z10.snd < (0 : Int)))
              (.leaf (mkR lTabInt.rs (false, ())) [] [])
              (.ob (feqTab.pre (z6.fst, z4.fst, ())) <|
               .lt (Bool × PUnit) (feqTab.fn (z6.fst, z4.fst, ())) fun z11 =>
               .br (!z11.fst)
                (.leaf (mkR lTabInt.rs (false, ())) [] [])
                (.br (!z6.snd.fst == z4.snd.fst)
                 (.leaf (mkR lTabInt.rs (false, ())) [] [])
                 (.ob (fmarkTab.pre z6.fst (1 : Int)) <|
                  .lt (STab × Int) (fmarkTab.fn z6.fst (1 : Int)) fun z12 =>
                  .ob (fheldTab.pre ({ visits := z12.fst.visits, at_ := z6.fst.at_ : STab }, (1 : Int), ())) <|
                   .lt (Int × PUnit) (fheldTab.fn ({ visits := z12.fst.visits, at_ := z6.fst.at_ : STab }, (1 : Int), ())) fun z13 =>
                   .br (decide (z13.fst < (0 : Int)))
                    (.leaf (mkR lTabInt.rs (false, ())) [] [])
                    (.br (z13.fst != z12.snd)
                     (.leaf (mkR lTabInt.rs (false, ())) [] [])
                     (.ob (ftoTab.pre (t, ())) <|
                      .lt (STab × PUnit) (ftoTab.fn (t, ())) fun z14 =>
                      .ob (fMoveTo.pre (z14.fst, b, ())) <|
                       .lt (STab × Bool × PUnit) (fMoveTo.fn (z14.fst, b, ())) fun z15 =>
                       .ob (feqTab.pre (z15.fst, z4.fst, ())) <|
                        .lt (Bool × PUnit) (feqTab.fn (z15.fst, z4.fst, ())) fun z16 =>
                        .br (!z16.fst)
                         (.leaf (mkR lTabInt.rs (false, ())) [] [])
                         (.br (!z15.snd.fst == z4.snd.fst)
                          (.leaf (mkR lTabInt.rs (false, ())) [] [])
                          (.ob (fheldTab.pre ({ visits := z12.fst.visits, at_ := z6.fst.at_ : STab }, (1 : Int), ())) <|
                           .lt (Int × PUnit) (fheldTab.fn ({ visits := z12.fst.visits, at_ := z6.fst.at_ : STab }, (1 : Int), ())) fun z17 =>
                           .br (decide (z17.fst < (0 : Int)))
                            (.leaf (mkR lTabInt.rs (false, ())) [] [])
                            (.br (z17.fst != z12.snd)
                             (.leaf (mkR lTabInt.rs (false, ())) [] [])
                             (.leaf (mkR lTabInt.rs (true, ())) [] [])))))))))))))) (by kernel_rfl) ?_
  refine ob_i ?_ fun o1 => lt_e fun z2 ez2 => (br_i (fun h2 => Fct.leafY ?_) (fun h2 => ob_i ?_ fun o3 => lt_e fun z3 ez3 => (ob_i ?_ fun o4 => lt_e fun z4 ez4 => (ob_i ?_ fun o5 => lt_e fun z5 ez5 => (ob_i ?_ fun o6 => lt_e fun z6 ez6 => (ob_i ?_ fun o7 => lt_e fun z7 ez7 => (br_i (fun h8 => Fct.leafY ?_) (fun h8 => br_i (fun h9 => Fct.leafY ?_) (fun h9 => ob_i ?_ fun o10 => lt_e fun z8 ez8 => (ob_i ?_ fun o11 => lt_e fun z9 ez9 => (br_i (fun h12 => Fct.leafY ?_) (fun h12 => ob_i ?_ fun o13 => lt_e fun z10 ez10 => (br_i (fun h14 => Fct.leafY ?_) (fun h14 => ob_i ?_ fun o15 => lt_e fun z11 ez11 => (br_i (fun h16 => Fct.leafY ?_) (fun h16 => br_i (fun h17 => Fct.leafY ?_) (fun h17 => ob_i ?_ fun o18 => lt_e fun z12 ez12 => (ob_i ?_ fun o19 => lt_e fun z13 ez13 => (br_i (fun h20 => Fct.leafY ?_) (fun h20 => br_i (fun h21 => Fct.leafY ?_) (fun h21 => ob_i ?_ fun o22 => lt_e fun z14 ez14 => (ob_i ?_ fun o23 => lt_e fun z15 ez15 => (ob_i ?_ fun o24 => lt_e fun z16 ez16 => (br_i (fun h25 => Fct.leafY ?_) (fun h25 => br_i (fun h26 => Fct.leafY ?_) (fun h26 => ob_i ?_ fun o27 => lt_e fun z17 ez17 => (br_i (fun h28 => Fct.leafY ?_) (fun h28 => br_i (fun h29 => Fct.leafY ?_) (fun h29 => Fct.leafY ?_)))))))))))))))))))))))))))))
  all_goals have hms := moveTo_sz t b
  all_goals have hg0 : Sh.good (.el .tab) t := hp.1
  all_goals have hg1 : Sh.good (.el .int) b := hp.2.1
  all_goals clear hp
  all_goals try have hbd0 := mvTab_bd z5.fst (1 : Int)
  all_goals try have hbd1 := mvTab_bd z6.fst (1 : Int)
  all_goals subst_vars
  all_goals try simp only [decide_eq_true_eq, decide_eq_false_iff_not, Bool.not_eq_true', Bool.not_eq_false', bne_iff_ne, bne_eq_false_iff_eq, beq_iff_eq, beq_eq_false_iff_ne, baEq, Int.not_lt, Int.not_le, ne_eq, Decidable.not_not] at *
  all_goals try simp only [fMoveTo, feqTab, fheldTab, fmarkTab, fszTab, ftoTab, lTabInt, etaToken, etaNode, etaBuilder, etaPolicy, etaPage, etaVisit, etaTab, etaServer, etaCache, etaNet, etaLoader, etaSheet, etaResult, etaSlot, etaModule, etaAddr, etaRequest, etaResponse, etaConn, etaGuess, etaEntry, etaSent, etaFile, baSz, List.size_toArray, List.length_cons, List.length_nil, Nat.reduceAdd, Int.toNat_zero, List.drop_zero, decide_eq_true_eq, decide_eq_false_iff_not, Bool.not_eq_true', Bool.not_eq_false', bne_iff_ne, bne_eq_false_iff_eq, beq_iff_eq, beq_eq_false_iff_ne, Bool.not_eq_true, Bool.not_eq_false, ne_eq, Decidable.not_not, baEq, decide_not, Prod.mk.injEq, and_true, true_and, Room, List.nil_append, Nat.zero_add, Int.not_lt, Int.not_le, decide_true] at *
  all_goals try simp only [mvTab_re] at *
  all_goals first | trivial | omega | grind [lessen])
def E101 : D.Env := E100.add 3 lTabInt
theorem E101ok : EOk Try.prog E101 := E100ok.add k3_100

section
open Go.ChangeShapes Go.WideShapes Go.ChangeAt Go.RowKit
theorem own : ownKnob Try.prog.godebug = none := by kernel_rfl
theorem types : ∀ e t, tyOf e = some t → e ∈ ([3, 4, 5, 9, 24, 28, 44, 47, 49, 54, 59, 61, 62, 63, 64, 68, 73, 75, 99, 102, 104, 106, 133, 137, 141, 144, 158, 164] : List TypeId) := by
  intro e t h
  unfold tyOf at h
  split at h <;> first | (simp; done) | cases h
theorem lifted (os : Os) (started : os.Started) (H : Type) (enc : TypeId × Value → H) :
    ReturnsInHanded {} Try.checked os 3 .any (Rows.fnExactMoveToSpec.pre6 enc Try.prog Try.f3 Rows.fnExactMoveToRow.domain false) (Rows.fnExactMoveToSpec.post enc Try.prog Try.f3 false true false false) := by
  refine returnsInHanded_of_change (C := Try.checked) own started (by kernel_rfl) Try.func3
    (ChangeSpec.witness6 (enc := enc) (C := Try.checked) false ⟨#[], #[.agg #[.slice none 0 0, .int .i64 0], .int .i64 0], []⟩ 8 (by kernel_rfl) (by kernel_rfl) (by kernel_rfl) (by kernel_rfl)) ?_
  intro W base args ds gs before hval0 hW hcnd _
  have hval : ∀ (j : Nat) t v, Try.f3.params[j]? = some t → args[j]? = some v → Value.okWide Try.prog W .any base t v := hval0
  refine law_calls (show rowOk Try.prog Try.f3 tyOf [3, 4, 5, 9, 24, 28, 44, 47, 49, 54, 59, 61, 62, 63, 64, 68, 73, 75, 99, 102, 104, 106, 133, 137, 141, 144, 158, 164] [.el .tab, .el .int] = true by kernel_rfl) types rfl Try.underlying4 rfl hW (fun xs h => ?_) hval k3_100
  · rw [Try.params3] at h
    match xs, (show xs.length = 2 from h) with
    | [x0, x1], _ => rfl
set_option maxHeartbeats 0 in
theorem closed : joinedFacts Try.prog 3 Try.f3 Rows.fnExactMoveToSpec Rows.fnExactMoveToRow = true := by
  unfold joinedFacts
  refine (and_i (and_i (and_i (and_i (and_i (and_i (and_i (and_i (and_i (and_i (and_i (and_i (and_i (and_i (and_i (and_i (and_i (and_i (and_i (and_i (and_i (and_i (and_i (and_i (and_i (and_i (and_i (and_i (and_i (and_i (and_i ?_ ?_) ?_) ?_) ?_) ?_) ?_) ?_) ?_) ?_) ?_) ?_) ?_) ?_) ?_) ?_) ?_) ?_) ?_) ?_) ?_) ?_) ?_) ?_) ?_) ?_) ?_) ?_) ?_) ?_) ?_) ?_)
  all_goals decide +kernel
theorem over : Rows.fnExactMoveToRow.holds Try.pinned (OpenSpec.ofChange Rows.fnExactMoveToSpec) :=
  OpenClaim.holds_of_wide 3 Try.f3 rfl rfl rfl rfl rfl rfl rfl ⟨rfl, rfl, rfl, rfl, rfl⟩ rfl rfl rfl rfl rfl (by kernel_rfl) Try.func3 closed
    (of_decide_eq_true (by kernel_rfl)) (by unfold Func.isWrapper; first | (rw [if_pos (by decide +kernel)]; kernel_rfl) | (rw [if_neg (by decide +kernel)]; exact ⟨rfl, rfl⟩))
    (fun os started H enc _ => lifted os started H enc)
theorem proved : Rows.FnExactMoveToSaid := over
end
end Go.Proofs.Ythbopfedhjekbaa.fnExactMoveTo
