/-
  The program's ReviveAt returns what the reference's returns, for all arguments: the law returns true. No condition.
-/
import Derived.Test.YtdcpenhjenhjcaaGreatVPReviveAt1
import Derived.Test.YtdcpenhjenhjcaaGreatRows
import Derived.WalkKit
import Derived.ProofKit
import Derived.OpenShut
namespace Go.Proofs.YtdcpenhjenhjcaaGreat.fnExactReviveAt
open Go.Proofs.YtdcpenhjenhjcaaGreat
open Go.D
set_option maxRecDepth 100000
set_option linter.unusedVariables false
set_option linter.unusedSimpArgs false

-- laws.markPage
set_option maxHeartbeats 2000000 in
theorem k22_75 : fmarkPage.ok Tryz.prog 22 := MS.of (S := fmarkPage) (L := fun _ _ _ => none) (kp := [1,2,4]) (kl := [3,4,5,8,10,11,12,13,14,19,20]) E75ok Tryz.func22 (by kernel_rfl) (by kernel_rfl) (by
  rintro (x : SPage) (k : Int) hp
  refine holds_of (X := .ob (fmarkPolicy.pre x.policy k) <|
 .lt (SPolicy × Int) (fmarkPolicy.fn x.policy k) fun z2 =>
 .ob (fmarkTokenS.pre x.queue z2.snd) <|
  .lt (List SToken × Int) (fmarkTokenS.fn x.queue z2.snd) fun z3 =>
  .ob (fmarkBuilder.pre x.builder z3.snd) <|
   .lt (SBuilder × Int) (fmarkBuilder.fn x.builder z3.snd) fun z4 =>
   .ob (fmarkSlotS.pre x.slots z4.snd) <|
    .lt (List SSlot × Int) (fmarkSlotS.fn x.slots z4.snd) fun z5 =>
    .ob (fmarkModuleS.pre x.mods z5.snd) <|
     .lt (List SModule × Int) (fmarkModuleS.fn x.mods z5.snd) fun z6 =>
     .ob (fmarkAddrS.pre x.entries z6.snd) <|
      .lt (List SAddr × Int) (fmarkAddrS.fn x.entries z6.snd) fun z7 =>
      .ob (fmarkAddrS.pre x.ran z7.snd) <|
       .lt (List SAddr × Int) (fmarkAddrS.fn x.ran z7.snd) fun z8 =>
       .ob (fmarkStringS.pre x.log z8.snd) <|
        .lt (List ByteArray × Int) (fmarkStringS.fn x.log z8.snd) fun z9 =>
        .leaf (.one false [vi (z9.snd)]) [] [((3 : Nat), ⟨Ty.str, z2.fst.scripts⟩), ((4 : Nat), ⟨Ty.str, z2.fst.styles⟩), ((5 : Nat), ⟨Ty.str, z2.fst.images⟩), ((8 : Nat), ⟨Ty.token, z3.fst⟩), ((10 : Nat), ⟨Ty.node, z4.fst.nodes⟩), ((11 : Nat), ⟨Ty.int, z4.fst.open_⟩), ((12 : Nat), ⟨Ty.slot, z5.fst⟩), ((13 : Nat), ⟨Ty.module, z6.fst⟩), ((14 : Nat), ⟨Ty.addr, z7.fst⟩), ((19 : Nat), ⟨Ty.addr, z8.fst⟩), ((20 : Nat), ⟨Ty.str, z9.fst⟩)]) (by kernel_rfl) ?_
  refine ob_d ?_ <| lt_i (ob_d ?_ <| lt_i (ob_d ?_ <| lt_i (ob_d ?_ <| lt_i (ob_d ?_ <| lt_i (ob_d ?_ <| lt_i (ob_d ?_ <| lt_i (ob_d ?_ <| lt_i (MS.leaf ?_))))))))
  all_goals have hp1 : 0 ≤ k := hp.1
  all_goals have hp2 : (mvPage x k).2 ≤ 4000000000000000000 := hp.2
  all_goals clear hp
  all_goals simp only [mvPage] at hp2
  all_goals try have m1 := mkStringS_mono x.policy.scripts (k)
  all_goals try generalize hr1 : markL mkString x.policy.scripts (k) = r1 at *
  all_goals try have m2 := mkStringS_mono x.policy.styles (r1.2)
  all_goals try generalize hr2 : markL mkString x.policy.styles (r1.2) = r2 at *
  all_goals try have m3 := mkStringS_mono x.policy.images (r2.2)
  all_goals try generalize hr3 : markL mkString x.policy.images (r2.2) = r3 at *
  all_goals try have m4 := mkTokenS_mono x.queue (r3.2)
  all_goals try generalize hr4 : markL mkToken x.queue (r3.2) = r4 at *
  all_goals try have m5 := mkNodeS_mono x.builder.nodes (r4.2)
  all_goals try generalize hr5 : markL mkNode x.builder.nodes (r4.2) = r5 at *
  all_goals try have m6 := mkIntS_mono x.builder.open_ (r5.2)
  all_goals try generalize hr6 : markL mkInt x.builder.open_ (r5.2) = r6 at *
  all_goals try have m7 := mkSlotS_mono x.slots (r6.2)
  all_goals try generalize hr7 : markL mkSlot x.slots (r6.2) = r7 at *
  all_goals try have m8 := mkModuleS_mono x.mods (r7.2)
  all_goals try generalize hr8 : markL mkModule x.mods (r7.2) = r8 at *
  all_goals try have m9 := mkAddrS_mono x.entries (r8.2)
  all_goals try generalize hr9 : markL mkAddr x.entries (r8.2) = r9 at *
  all_goals try have m10 := mkAddrS_mono x.ran (r9.2)
  all_goals try generalize hr10 : markL mkAddr x.ran (r9.2) = r10 at *
  all_goals try have m11 := mkStringS_mono x.log (r10.2)
  all_goals try generalize hr11 : markL mkString x.log (r10.2) = r11 at *
  all_goals simp (disch := omega) only [fmarkAddrS, fmarkIntS, fmarkModuleS, fmarkNodeS, fmarkSlotS, fmarkStringS, fmarkTokenS, fmarkBuilder, mvBuilder, fmarkPolicy, mvPolicy, hr1, hr2, hr3, hr4, hr5, hr6, hr7, hr8, hr9, hr10, hr11]
  all_goals first | trivial | omega | (refine ⟨?_, ?_⟩ <;> omega) | skip
  refine MS.leaf ?_
  simp only [fmarkPage, mvPage, hr1, hr2, hr3, hr4, hr5, hr6, hr7, hr8, hr9, hr10, hr11]
  exact ⟨⟨rfl, rfl, trivial⟩, trivial, rfl⟩)
def E76 : D.Env := E75.addM 22 fmarkPage
theorem E76ok : EOk Tryz.prog E76 := E75ok.addM k22_75
-- laws.heldPage
set_option maxHeartbeats 2000000 in
theorem k23_76 : fheldPage.ok Tryz.prog 23 := Fct.of (S := fheldPage) (L := fun _ _ => none) (kp := [1,2,4,10,16,22,28,34,40,46,52,1000010,1000016,1000022,1000028,1000034,1000040,1000046,1000052]) E76ok Tryz.func23 (by kernel_rfl) (by kernel_rfl) (by
  rintro ⟨(x : SPage), (k : Int), _⟩ hp
  refine holds_of (X := .ob (fheldPolicy.pre (x.policy, k, ())) <|
 .lt (Int × PUnit) (fheldPolicy.fn (x.policy, k, ())) fun z2 =>
 .br (decide (z2.fst < (0 : Int)))
  (.leaf (mkR fheldPage.rs ((-1 : Int), ())) [] [])
  (.ob (fheldTokenS.pre (x.queue, z2.fst, ())) <|
   .lt (Int × PUnit) (fheldTokenS.fn (x.queue, z2.fst, ())) fun z3 =>
   .br (decide (z3.fst < (0 : Int)))
    (.leaf (mkR fheldPage.rs ((-1 : Int), ())) [] [])
    (.ob (fheldBuilder.pre (x.builder, z3.fst, ())) <|
     .lt (Int × PUnit) (fheldBuilder.fn (x.builder, z3.fst, ())) fun z4 =>
     .br (decide (z4.fst < (0 : Int)))
      (.leaf (mkR fheldPage.rs ((-1 : Int), ())) [] [])
      (.ob (fheldSlotS.pre (x.slots, z4.fst, ())) <|
       .lt (Int × PUnit) (fheldSlotS.fn (x.slots, z4.fst, ())) fun z5 =>
       .br (decide (z5.fst < (0 : Int)))
        (.leaf (mkR fheldPage.rs ((-1 : Int), ())) [] [])
        (.ob (fheldModuleS.pre (x.mods, z5.fst, ())) <|
         .lt (Int × PUnit) (fheldModuleS.fn (x.mods, z5.fst, ())) fun z6 =>
         .br (decide (z6.fst < (0 : Int)))
          (.leaf (mkR fheldPage.rs ((-1 : Int), ())) [] [])
          (.ob (fheldAddrS.pre (x.entries, z6.fst, ())) <|
           .lt (Int × PUnit) (fheldAddrS.fn (x.entries, z6.fst, ())) fun z7 =>
           .br (decide (z7.fst < (0 : Int)))
            (.leaf (mkR fheldPage.rs ((-1 : Int), ())) [] [])
            (.ob (fheldAddrS.pre (x.ran, z7.fst, ())) <|
             .lt (Int × PUnit) (fheldAddrS.fn (x.ran, z7.fst, ())) fun z8 =>
             .br (decide (z8.fst < (0 : Int)))
              (.leaf (mkR fheldPage.rs ((-1 : Int), ())) [] [])
              (.ob (fheldStringS.pre (x.log, z8.fst, ())) <|
               .lt (Int × PUnit) (fheldStringS.fn (x.log, z8.fst, ())) fun z9 =>
               .br (decide (z9.fst < (0 : Int)))
                (.leaf (mkR fheldPage.rs ((-1 : Int), ())) [] [])
                (.leaf (mkR fheldPage.rs (z9.fst, ())) [] []))))))))) (by kernel_rfl) ?_
  refine ob_d ?_ <| lt_i (br_i (fun h2 => Fct.leafY ?_) (fun h2 => ob_d ?_ <| lt_i (br_i (fun h4 => Fct.leafY ?_) (fun h4 => ob_d ?_ <| lt_i (br_i (fun h6 => Fct.leafY ?_) (fun h6 => ob_d ?_ <| lt_i (br_i (fun h8 => Fct.leafY ?_) (fun h8 => ob_d ?_ <| lt_i (br_i (fun h10 => Fct.leafY ?_) (fun h10 => ob_d ?_ <| lt_i (br_i (fun h12 => Fct.leafY ?_) (fun h12 => ob_d ?_ <| lt_i (br_i (fun h14 => Fct.leafY ?_) (fun h14 => ob_d ?_ <| lt_i (br_i (fun h16 => Fct.leafY ?_) (fun h16 => Fct.leafY ?_))))))))))))))))
  all_goals have hp1 : 0 ≤ k := hp.1
  all_goals have hp2 : (mvPage x k).2 ≤ 4000000000000000000 := hp.2.1
  all_goals have heq : (mvPage x k).1 = x := hp.2.2
  all_goals clear hp
  all_goals try have q1 := congrArg (fun z : SPage => z.policy.scripts) heq
  all_goals try have q2 := congrArg (fun z : SPage => z.policy.styles) heq
  all_goals try have q3 := congrArg (fun z : SPage => z.policy.images) heq
  all_goals try have q4 := congrArg (fun z : SPage => z.queue) heq
  all_goals try have q5 := congrArg (fun z : SPage => z.builder.nodes) heq
  all_goals try have q6 := congrArg (fun z : SPage => z.builder.open_) heq
  all_goals try have q7 := congrArg (fun z : SPage => z.slots) heq
  all_goals try have q8 := congrArg (fun z : SPage => z.mods) heq
  all_goals try have q9 := congrArg (fun z : SPage => z.entries) heq
  all_goals try have q10 := congrArg (fun z : SPage => z.ran) heq
  all_goals try have q11 := congrArg (fun z : SPage => z.log) heq
  all_goals obtain ⟨E, hE⟩ : ∃ E, E = (mvPage x k).2 := ⟨_, rfl⟩
  all_goals have hE2 := hE
  all_goals simp only [mvPage] at hp2 hE2 q1 q2 q3 q4 q5 q6 q7 q8 q9 q10 q11
  all_goals clear heq
  all_goals try have m1 := mkStringS_mono x.policy.scripts (k)
  all_goals try generalize hr1 : markL mkString x.policy.scripts (k) = r1 at *
  all_goals try have m2 := mkStringS_mono x.policy.styles (r1.2)
  all_goals try generalize hr2 : markL mkString x.policy.styles (r1.2) = r2 at *
  all_goals try have m3 := mkStringS_mono x.policy.images (r2.2)
  all_goals try generalize hr3 : markL mkString x.policy.images (r2.2) = r3 at *
  all_goals try have m4 := mkTokenS_mono x.queue (r3.2)
  all_goals try generalize hr4 : markL mkToken x.queue (r3.2) = r4 at *
  all_goals try have m5 := mkNodeS_mono x.builder.nodes (r4.2)
  all_goals try generalize hr5 : markL mkNode x.builder.nodes (r4.2) = r5 at *
  all_goals try have m6 := mkIntS_mono x.builder.open_ (r5.2)
  all_goals try generalize hr6 : markL mkInt x.builder.open_ (r5.2) = r6 at *
  all_goals try have m7 := mkSlotS_mono x.slots (r6.2)
  all_goals try generalize hr7 : markL mkSlot x.slots (r6.2) = r7 at *
  all_goals try have m8 := mkModuleS_mono x.mods (r7.2)
  all_goals try generalize hr8 : markL mkModule x.mods (r7.2) = r8 at *
  all_goals try have m9 := mkAddrS_mono x.entries (r8.2)
  all_goals try generalize hr9 : markL mkAddr x.entries (r8.2) = r9 at *
  all_goals try have m10 := mkAddrS_mono x.ran (r9.2)
  all_goals try generalize hr10 : markL mkAddr x.ran (r9.2) = r10 at *
  all_goals try have m11 := mkStringS_mono x.log (r10.2)
  all_goals try generalize hr11 : markL mkString x.log (r10.2) = r11 at *
  all_goals simp (disch := omega) only [fheldAddrS, fheldIntS, fheldModuleS, fheldNodeS, fheldSlotS, fheldStringS, fheldTokenS, fheldBuilder, mvBuilder, fheldPolicy, mvPolicy, hr1, hr2, hr3, hr4, hr5, hr6, hr7, hr8, hr9, hr10, hr11, decide_eq_true_eq, decide_eq_false_iff_not, Int.not_lt] at *
  all_goals try simp only [q1, q2, q3, q4, q5, q6, q7, q8, q9, q10, q11]
  all_goals first | trivial | omega | (exfalso; omega) | (refine ⟨?_, ?_, ?_⟩ <;> first | omega | assumption) | skip
  all_goals first | (show (_, ()) = ((mvPage x k).2, ()); rw [← hE, Prod.mk.injEq]; exact ⟨by omega, rfl⟩) | skip)
def E77 : D.Env := E76.add 23 fheldPage
theorem E77ok : EOk Tryz.prog E77 := E76ok.add k23_76
-- laws.szVisit
set_option maxHeartbeats 2000000 in
theorem k112_77 : fszVisit.ok Tryz.prog 112 := Fct.of (S := fszVisit) (L := fun _ _ => none) (kp := [1,2,4,10,16,1000010,1000016]) E77ok Tryz.func112 (by kernel_rfl) (by kernel_rfl) (by
  rintro ⟨(x : SVisit), (n : Int), _⟩ hp
  refine holds_of (X := .ob (fszAddr.pre (x.addr, n, ())) <|
 .lt (Int × PUnit) (fszAddr.fn (x.addr, n, ())) fun z2 =>
 .br (decide (z2.fst < (0 : Int)))
  (.leaf (mkR fszVisit.rs ((-1 : Int), ())) [] [])
  (.ob (fszPage.pre (x.page, z2.fst, ())) <|
   .lt (Int × PUnit) (fszPage.fn (x.page, z2.fst, ())) fun z3 =>
   .br (decide (z3.fst < (0 : Int)))
    (.leaf (mkR fszVisit.rs ((-1 : Int), ())) [] [])
    (.leaf (mkR fszVisit.rs (z3.fst, ())) [] []))) (by kernel_rfl) ?_
  refine ob_i ?_ fun o1 => lt_i (br_i (fun h2 => Fct.leafY ?_) (fun h2 => ob_i ?_ fun o3 => lt_i (br_i (fun h4 => Fct.leafY ?_) (fun h4 => Fct.leafY ?_))))
  all_goals try simp only [decide_eq_true_eq, decide_eq_false_iff_not, Bool.not_eq_true', Bool.not_eq_false', bne_iff_ne, bne_eq_false_iff_eq, beq_iff_eq, beq_eq_false_iff_ne, baEq, Int.not_lt, Int.not_le, ne_eq, Decidable.not_not] at *
  all_goals try simp only [fszAddr, fszPage, fszVisit, etaToken, etaNode, etaBuilder, etaPolicy, etaPage, etaVisit, etaTab, etaServer, etaCache, etaNet, etaLoader, etaSheet, etaResult, etaSlot, etaModule, etaAddr, etaRequest, etaResponse, etaConn, etaGuess, etaEntry, etaSent, etaFile, baSz, List.size_toArray, List.length_cons, List.length_nil, Nat.reduceAdd, Int.toNat_zero, List.drop_zero, decide_eq_true_eq, decide_eq_false_iff_not, Bool.not_eq_true', Bool.not_eq_false', bne_iff_ne, bne_eq_false_iff_eq, beq_iff_eq, beq_eq_false_iff_ne, Bool.not_eq_true, Bool.not_eq_false, ne_eq, Decidable.not_not, baEq, decide_not, Prod.mk.injEq, and_true, true_and, Room, List.nil_append, Nat.zero_add, Int.not_lt, Int.not_le, Sh.good, Sh.fc, enc, List.forall_mem_cons, List.not_mem_nil, false_implies, implies_true, goodC, maxLen] at *
  all_goals grind [wrapId', lessen, szAddr, szPage, szVisit])
def E78 : D.Env := E77.add 112 fszVisit
theorem E78ok : EOk Tryz.prog E78 := E77ok.add k112_77
-- laws.toVisit
theorem k116_78 : ftoVisit.ok Tryz.prog 116 := Fct.of (S := ftoVisit) (L := fun _ _ => none) (kp := [1,2,3]) E78ok Tryz.func116 (by kernel_rfl) (by kernel_rfl) (by
  rintro ⟨(x : SVisit), _⟩ hp
  refine holds_of (X := .ob (ftoAddr.pre (x.addr, ())) <|
 .lt (SAddr × PUnit) (ftoAddr.fn (x.addr, ())) fun z2 =>
 .ob (ftoPage.pre (x.page, ())) <|
  .lt (SPage × PUnit) (ftoPage.fn (x.page, ())) fun z3 =>
  .leaf (mkR ftoVisit.rs (⟨z2.fst, z3.fst, x.kept⟩, ())) [] []) (by kernel_rfl) ?_
  refine ob_i ?_ fun o1 => lt_i (ob_i ?_ fun o2 => lt_i (Fct.leafY ?_))
  all_goals try simp only [decide_eq_true_eq, decide_eq_false_iff_not, Bool.not_eq_true', Bool.not_eq_false', bne_iff_ne, bne_eq_false_iff_eq, beq_iff_eq, beq_eq_false_iff_ne, baEq, Int.not_lt, Int.not_le, ne_eq, Decidable.not_not] at *
  all_goals try simp only [ftoAddr, ftoPage, ftoVisit, etaToken, etaNode, etaBuilder, etaPolicy, etaPage, etaVisit, etaTab, etaServer, etaCache, etaNet, etaLoader, etaSheet, etaResult, etaSlot, etaModule, etaAddr, etaRequest, etaResponse, etaConn, etaGuess, etaEntry, etaSent, etaFile, baSz, List.size_toArray, List.length_cons, List.length_nil, Nat.reduceAdd, Int.toNat_zero, List.drop_zero, decide_eq_true_eq, decide_eq_false_iff_not, Bool.not_eq_true', Bool.not_eq_false', bne_iff_ne, bne_eq_false_iff_eq, beq_iff_eq, beq_eq_false_iff_ne, Bool.not_eq_true, Bool.not_eq_false, ne_eq, Decidable.not_not, baEq, decide_not, Prod.mk.injEq, and_true, true_and, Room, List.nil_append, Nat.zero_add, Int.not_lt, Int.not_le] at *
  all_goals first | trivial | rfl | grind [szAddr, szPage, szVisit])
def E79 : D.Env := E78.add 116 ftoVisit
theorem E79ok : EOk Tryz.prog E79 := E78ok.add k116_78
-- laws.eqVisit
set_option maxHeartbeats 2000000 in
theorem k125_79 : feqVisit.ok Tryz.prog 125 := Fct.of (S := feqVisit) (L := fun _ _ => none) (kp := [2,3,4,10,16,21,1000010,1000016,1000021]) E79ok Tryz.func125 (by kernel_rfl) (by kernel_rfl) (by
  rintro ⟨(x : SVisit), (y : SVisit), _⟩ hp
  refine holds_of (X := .ob (feqAddr.pre (x.addr, y.addr, ())) <|
 .lt (Bool × PUnit) (feqAddr.fn (x.addr, y.addr, ())) fun z2 =>
 .br (!z2.fst)
  (.leaf (mkR feqVisit.rs (false, ())) [] [])
  (.ob (feqPage.pre (x.page, y.page, ())) <|
   .lt (Bool × PUnit) (feqPage.fn (x.page, y.page, ())) fun z3 =>
   .br (!z3.fst)
    (.leaf (mkR feqVisit.rs (false, ())) [] [])
    (.br (!x.kept == y.kept)
     (.leaf (mkR feqVisit.rs (false, ())) [] [])
     (.leaf (mkR feqVisit.rs (true, ())) [] [])))) (by kernel_rfl) ?_
  refine ob_i trivial fun _ => lt_i (br_i (fun h1 => Fct.leafY ?_) (fun h1 => ob_i ?_ fun o2 => lt_i (br_i (fun h3 => Fct.leafY ?_) (fun h3 => br_i (fun h4 => Fct.leafY ?_) (fun h4 => Fct.leafY ?_)))))
  all_goals try simp only [decide_eq_true_eq, decide_eq_false_iff_not, Bool.not_eq_true', Bool.not_eq_false', bne_iff_ne, bne_eq_false_iff_eq, beq_iff_eq, beq_eq_false_iff_ne, baEq, Int.not_lt, Int.not_le, ne_eq, Decidable.not_not] at *
  all_goals try simp only [feqAddr, feqPage, feqVisit, etaToken, etaNode, etaBuilder, etaPolicy, etaPage, etaVisit, etaTab, etaServer, etaCache, etaNet, etaLoader, etaSheet, etaResult, etaSlot, etaModule, etaAddr, etaRequest, etaResponse, etaConn, etaGuess, etaEntry, etaSent, etaFile, baSz, List.size_toArray, List.length_cons, List.length_nil, Nat.reduceAdd, Int.toNat_zero, List.drop_zero, decide_eq_true_eq, decide_eq_false_iff_not, Bool.not_eq_true', Bool.not_eq_false', bne_iff_ne, bne_eq_false_iff_eq, beq_iff_eq, beq_eq_false_iff_ne, Bool.not_eq_true, Bool.not_eq_false, ne_eq, Decidable.not_not, baEq, decide_not, Prod.mk.injEq, and_true, true_and, Room, List.nil_append, Nat.zero_add, Int.not_lt, Int.not_le] at *
  all_goals first | trivial | (cases x; cases y; simp_all; done) | (simp only [szAddr, szPage, szVisit] at *; omega) | grind [szAddr, szPage, szVisit])
def E80 : D.Env := E79.add 125 feqVisit
theorem E80ok : EOk Tryz.prog E80 := E79ok.add k125_79
-- laws.szVisitS
set_option maxHeartbeats 2000000 in
theorem k45_80 : fszVisitS.ok Tryz.prog 45 := Fct.of (S := fszVisitS) (L := fun ⟨l, n, _⟩ => fun | 5 => some (LszS .visit szVisit l n) | _ => none) (kp := [0,1,4,5,11,15,25,1000011,1000015,1000025]) E80ok Tryz.func45 (by kernel_rfl) (by kernel_rfl) (by
  rintro ⟨(l : List SVisit), (n : Int), _⟩ hp
  refine holds_of (X := .br (decide (IntKind.i64.wrap (n - (↑l.length : Int)) < (0 : Int)))
 (.leaf (mkR fszVisitS.rs ((-1 : Int), ())) [] [])
 (lpx (LszS .visit szVisit l n) (IntKind.i64.wrap (n - (↑l.length : Int)), ((0 : Int), ())) fun (y2 : Int × Int × PUnit) bk2 =>
  .br (decide (y2.snd.fst < (↑l.length : Int)))
   (.ob ((0 : Int) ≤ y2.snd.fst ∧ y2.snd.fst < (↑l.length : Int)) <|
    .ob (fszVisit.pre (l.getD y2.snd.fst.toNat default, y2.fst, ())) <|
    .lt (Int × PUnit) (fszVisit.fn (l.getD y2.snd.fst.toNat default, y2.fst, ())) fun z2 =>
    .br (decide (z2.fst < (0 : Int)))
     (.leaf (mkR fszVisitS.rs ((-1 : Int), ())) [] [])
     (.ob (l = l) <|
      .ob (bk2 (z2.fst, (IntKind.i64.wrap (y2.snd.fst + (1 : Int)), ()))) <|
      .ok))
   (.leaf (mkR fszVisitS.rs (y2.fst, ())) [] []))) (by kernel_rfl) ?_
  refine br_i (fun h1 => Fct.leafY ?_) (fun h1 => lpx_i ?_ fun (y2 : Int × Int × PUnit) i2 => br_i (fun h3 => ob_i ?_ fun o4 => ob_i ?_ fun o5 => lt_i (br_i (fun h6 => Fct.leafY ?_) (fun h6 => ob_i rfl fun _ => ob_i ?_ fun o7 => trivial))) (fun h3 => Fct.leafY ?_))
  all_goals try simp only [decide_eq_true_eq, decide_eq_false_iff_not, Bool.not_eq_true', Bool.not_eq_false', bne_iff_ne, bne_eq_false_iff_eq, beq_iff_eq, beq_eq_false_iff_ne, baEq, Int.not_lt, Int.not_le, ne_eq, Decidable.not_not] at *
  all_goals try simp only [LszS, fszVisit, fszVisitS, etaToken, etaNode, etaBuilder, etaPolicy, etaPage, etaVisit, etaTab, etaServer, etaCache, etaNet, etaLoader, etaSheet, etaResult, etaSlot, etaModule, etaAddr, etaRequest, etaResponse, etaConn, etaGuess, etaEntry, etaSent, etaFile, baSz, List.size_toArray, List.length_cons, List.length_nil, Nat.reduceAdd, Int.toNat_zero, List.drop_zero, decide_eq_true_eq, decide_eq_false_iff_not, Bool.not_eq_true', Bool.not_eq_false', bne_iff_ne, bne_eq_false_iff_eq, beq_iff_eq, beq_eq_false_iff_ne, Bool.not_eq_true, Bool.not_eq_false, ne_eq, Decidable.not_not, baEq, decide_not, Prod.mk.injEq, and_true, true_and, Room, List.nil_append, Nat.zero_add, Int.not_lt, Int.not_le] at *
  · have := good_len hp.1; simp only [maxLen] at this; rw [wrapId (by omega)] at h1
    rw [lessenNeg (by simp only [szL]; omega)]
  · have := good_len hp.1; simp only [maxLen] at this
    rw [wrapId (by omega)] at h1 ⊢
    exact ⟨by omega, by omega, h1, by simp⟩
  · omega
  · exact ⟨good_getD hp.1 (by omega), by omega, by omega⟩
  · have hs := sum_take_le szVisit l (y2.2.1.toNat + 1)
    rw [sum_take szVisit (by omega)] at hs
    rw [lessen_lt (by omega)] at h6
    rw [lessenNeg (by simp only [szL]; omega)]
  · have hw : IntKind.i64.wrap (y2.2.1 + 1) = y2.2.1 + 1 := wrapId (by have := good_len hp.1; simp only [maxLen] at this; omega)
    have h7 : ¬ lessen y2.1 (szVisit (l.getD y2.2.1.toNat default)) < 0 := by omega
    rw [lessen_lt (by omega)] at h7
    rw [hw, toNat1 (by omega), sum_take szVisit (by omega), lessen_ge (by omega)]
    exact ⟨⟨by omega, by omega, by omega, by omega⟩, by omega⟩
  · have e : l.take y2.2.1.toNat = l := List.take_of_length_le (by omega)
    rw [e] at i2
    have hz : ((szL szVisit l : Nat) : Int) = l.length + (l.map szVisit).sum := by simp only [szL]; omega
    rw [lessen_ge (by omega)]
    show y2.1 = n - ((szL szVisit l : Nat) : Int)
    omega)
def E81 : D.Env := E80.add 45 fszVisitS
theorem E81ok : EOk Tryz.prog E81 := E80ok.add k45_80
-- laws.toVisitS
theorem k48_81 : ftoVisitS.ok Tryz.prog 48 := Fct.of (S := ftoVisitS) (L := fun ⟨l, _⟩ => fun | 3 => some (LtoS .visit l) | _ => none) (kp := [0,2,3,4,11,1000011]) E81ok Tryz.func48 (by kernel_rfl) (by kernel_rfl) (by
  rintro ⟨(l : List SVisit), _⟩ hp
  refine holds_of (X := .ob ((↑l.length : Int) = (↑l.length : Int) ∧
  (0 : Int) ≤ (↑l.length : Int) ∧
    (424 : Int) * (↑l.length : Int) ≤ (140737488355328 : Int) ∧ (↑l.length : Int) ≤ (140737488355328 : Int)) <|
 lpx (LtoS .visit l) ((0 : Int), (List.replicate (↑l.length : Int).toNat default, ())) fun (y2 : Int × List SVisit × PUnit) bk2 =>
 .br (decide (y2.fst < (↑l.length : Int)))
  (.ob ((0 : Int) ≤ y2.fst ∧ y2.fst < (↑l.length : Int)) <|
   .ob (ftoVisit.pre (l.getD y2.fst.toNat default, ())) <|
   .lt (SVisit × PUnit) (ftoVisit.fn (l.getD y2.fst.toNat default, ())) fun z2 =>
   .ob ((0 : Int) ≤ y2.fst ∧ y2.fst < (↑y2.snd.fst.length : Int)) <|
    .ob (y2.fst.toNat < y2.snd.fst.length) <|
    .lt (List SVisit) (y2.snd.fst.modify y2.fst.toNat fun z => z2.fst) fun z3 =>
    .ob (l = l) <|
     .ob (bk2 (IntKind.i64.wrap (y2.fst + (1 : Int)), (z3, ()))) <|
     .ok)
  (.leaf (mkR ftoVisitS.rs (y2.snd.fst, ())) [] [])) (by kernel_rfl) ?_
  refine ob_i ?_ fun o1 => lpx_i ?_ fun (y2 : Int × List SVisit × PUnit) i2 => br_i (fun h3 => ob_i ?_ fun o4 => ob_i ?_ fun o5 => lt_i (ob_i ?_ fun o6 => ob_i ?_ fun o7 => lt_i (ob_i rfl fun _ => ob_i ?_ fun o8 => trivial))) (fun h3 => Fct.leafY ?_)
  all_goals try simp only [decide_eq_true_eq, decide_eq_false_iff_not, Bool.not_eq_true', Bool.not_eq_false', bne_iff_ne, bne_eq_false_iff_eq, beq_iff_eq, beq_eq_false_iff_ne, baEq, Int.not_lt, Int.not_le, ne_eq, Decidable.not_not] at *
  all_goals try simp only [LtoS, ftoVisit, ftoVisitS, etaToken, etaNode, etaBuilder, etaPolicy, etaPage, etaVisit, etaTab, etaServer, etaCache, etaNet, etaLoader, etaSheet, etaResult, etaSlot, etaModule, etaAddr, etaRequest, etaResponse, etaConn, etaGuess, etaEntry, etaSent, etaFile, baSz, List.size_toArray, List.length_cons, List.length_nil, Nat.reduceAdd, Int.toNat_zero, List.drop_zero, decide_eq_true_eq, decide_eq_false_iff_not, Bool.not_eq_true', Bool.not_eq_false', bne_iff_ne, bne_eq_false_iff_eq, beq_iff_eq, beq_eq_false_iff_ne, Bool.not_eq_true, Bool.not_eq_false, ne_eq, Decidable.not_not, baEq, decide_not, Prod.mk.injEq, and_true, true_and, Room, List.nil_append, Nat.zero_add, Int.not_lt, Int.not_le] at *
  · have := szL_len szVisit l; omega
  · exact ⟨by omega, by omega, by simp⟩
  · omega
  · have hs := sum_take_le szVisit l (y2.1.toNat + 1)
    rw [sum_take szVisit (by omega)] at hs
    simp only [szL] at hp; omega
  · rw [i2.2.2]; simp; omega
  · rw [i2.2.2]; simp; omega
  · have hw : IntKind.i64.wrap (y2.1 + 1) = y2.1 + 1 := wrapId (by have := szL_len szVisit l; omega)
    rw [hw, toNat1 (by omega), i2.2.2]
    refine ⟨⟨by omega, by omega, ?_⟩, by omega⟩
    rw [show l.length - y2.1.toNat = (l.length - (y2.1.toNat + 1)) + 1 from by omega, List.replicate_succ, mod_at (by simp; omega), take_succ (by omega)]
    simp
  · have e : l.take y2.1.toNat = l := List.take_of_length_le (by omega)
    rw [i2.2.2, e]; simp; omega)
def E82 : D.Env := E81.add 48 ftoVisitS
theorem E82ok : EOk Tryz.prog E82 := E81ok.add k48_81
-- laws.eqVisitS
set_option maxHeartbeats 2000000 in
theorem k59_82 : feqVisitS.ok Tryz.prog 59 := Fct.of (S := feqVisitS) (L := fun ⟨l, m, _⟩ => fun | 4 => some (LeqS .visit l m) | _ => none) (kp := [0,1,4,5,10,14,26,1000010,1000014,1000026]) E82ok Tryz.func59 (by kernel_rfl) (by kernel_rfl) (by
  rintro ⟨(l : List SVisit), (m : List SVisit), _⟩ hp
  refine holds_of (X := .br ((↑l.length : Int) != (↑m.length : Int))
 (.leaf (mkR feqVisitS.rs (false, ())) [] [])
 (lpx (LeqS .visit l m) ((0 : Int), ()) fun (y2 : Int × PUnit) bk2 =>
  .br (decide (y2.fst < (↑l.length : Int)))
   (.ob ((0 : Int) ≤ y2.fst ∧ y2.fst < (↑l.length : Int)) <|
    .ob ((0 : Int) ≤ y2.fst ∧ y2.fst < (↑m.length : Int)) <|
    .ob (feqVisit.pre (l.getD y2.fst.toNat default, m.getD y2.fst.toNat default, ())) <|
    .lt (Bool × PUnit) (feqVisit.fn (l.getD y2.fst.toNat default, m.getD y2.fst.toNat default, ())) fun z2 =>
    .br (!z2.fst)
     (.leaf (mkR feqVisitS.rs (false, ())) [] [])
     (.ob (l = l) <|
      .ob (m = m) <|
      .ob (bk2 (IntKind.i64.wrap (y2.fst + (1 : Int)), ())) <|
      .ok))
   (.leaf (mkR feqVisitS.rs (true, ())) [] []))) (by kernel_rfl) ?_
  refine br_i (fun h1 => Fct.leafY ?_) (fun h1 => lpx_i ?_ fun (y2 : Int × PUnit) i2 => br_i (fun h3 => ob_i ?_ fun o4 => ob_i ?_ fun o5 => ob_i ?_ fun o6 => lt_i (br_i (fun h7 => Fct.leafY ?_) (fun h7 => ob_i rfl fun _ => ob_i rfl fun _ => ob_i ?_ fun o8 => trivial))) (fun h3 => Fct.leafY ?_))
  all_goals try simp only [decide_eq_true_eq, decide_eq_false_iff_not, Bool.not_eq_true', Bool.not_eq_false', bne_iff_ne, bne_eq_false_iff_eq, beq_iff_eq, beq_eq_false_iff_ne, baEq, Int.not_lt, Int.not_le, ne_eq, Decidable.not_not] at *
  all_goals try simp only [LeqS, feqVisit, feqVisitS, etaToken, etaNode, etaBuilder, etaPolicy, etaPage, etaVisit, etaTab, etaServer, etaCache, etaNet, etaLoader, etaSheet, etaResult, etaSlot, etaModule, etaAddr, etaRequest, etaResponse, etaConn, etaGuess, etaEntry, etaSent, etaFile, baSz, List.size_toArray, List.length_cons, List.length_nil, Nat.reduceAdd, Int.toNat_zero, List.drop_zero, decide_eq_true_eq, decide_eq_false_iff_not, Bool.not_eq_true', Bool.not_eq_false', bne_iff_ne, bne_eq_false_iff_eq, beq_iff_eq, beq_eq_false_iff_ne, Bool.not_eq_true, Bool.not_eq_false, ne_eq, Decidable.not_not, baEq, decide_not, Prod.mk.injEq, and_true, true_and, Room, List.nil_append, Nat.zero_add, Int.not_lt, Int.not_le] at *
  all_goals have hl := szL_len szVisit l
  · rw [decide_eq_false]; rintro rfl; omega
  · exact ⟨by omega, by omega, by simp⟩
  · omega
  · omega
  · have hs := szL_get szVisit (l := l) (i := y2.1.toNat) (by omega); omega
  · rw [decide_eq_false]; rintro rfl; first | exact absurd rfl h6 | exact absurd rfl h7
  · have hw : IntKind.i64.wrap (y2.1 + 1) = y2.1 + 1 := wrapId (by omega)
    rw [hw, toNat1 (by omega)]
    refine ⟨⟨by omega, by omega, ?_⟩, by omega⟩
    rw [take_succ (by omega), take_succ (by omega), i2.2.2]; first | rw [h6] | rw [h7]
  · have e : l.take y2.1.toNat = l := List.take_of_length_le (by omega)
    have e2 : m.take y2.1.toNat = m := List.take_of_length_le (by omega)
    rw [decide_eq_true]; rw [← e, ← e2, i2.2.2])
def E83 : D.Env := E82.add 59 feqVisitS
theorem E83ok : EOk Tryz.prog E83 := E82ok.add k59_82
-- laws.markVisitS
set_option maxHeartbeats 0 in
theorem k60_83 : fmarkVisitS.ok Tryz.prog 60 := MS.of (S := fmarkVisitS) (L := fun l k => fun | 2 => some (LmkS .visit mkVisit l k) | _ => none) (kp := [0,1,4,5,9,1000009]) (kl := [0]) E83ok Tryz.func60 (by kernel_rfl) (by kernel_rfl) (by
  rintro (l : List SVisit) (k : Int) hp
  refine holds_of (X := lpx (LmkS .visit mkVisit l k) (k, ((0 : Int), (l, ()))) fun (y1 : Int × Int × List SVisit × PUnit) bk1 =>
 .br (decide (y1.snd.fst < (↑y1.snd.snd.fst.length : Int)))
  (.ob (fmarkText.pre (y1.fst, ())) <|
   .lt (ByteArray × PUnit) (fmarkText.fn (y1.fst, ())) fun z2 =>
   .ob ((0 : Int) ≤ y1.snd.fst ∧ y1.snd.fst < (↑y1.snd.snd.fst.length : Int)) <|
    .ob (y1.snd.fst.toNat < y1.snd.snd.fst.length) <|
    .lt (List SVisit) (y1.snd.snd.fst.modify y1.snd.fst.toNat fun z =>
  { addr := { host := z2.fst, path := z.addr.path : SAddr }, page := z.page, kept := z.kept : SVisit }) fun z3 =>
    .ob (fmarkText.pre (IntKind.i64.wrap (y1.fst + (1 : Int)), ())) <|
     .lt (ByteArray × PUnit) (fmarkText.fn (IntKind.i64.wrap (y1.fst + (1 : Int)), ())) fun z4 =>
     .ob ((0 : Int) ≤ y1.snd.fst ∧ y1.snd.fst < (↑z3.length : Int)) <|
      .ob (y1.snd.fst.toNat < z3.length) <|
      .lt (List SVisit) (z3.modify y1.snd.fst.toNat fun z =>
  { addr := { host := z.addr.host, path := z4.fst : SAddr }, page := z.page, kept := z.kept : SVisit }) fun z5 =>
      .ob (fmarkText.pre (IntKind.i64.wrap (IntKind.i64.wrap (y1.fst + (1 : Int)) + (1 : Int)), ())) <|
       .lt (ByteArray × PUnit) (fmarkText.fn (IntKind.i64.wrap (IntKind.i64.wrap (y1.fst + (1 : Int)) + (1 : Int)), ())) fun z6 =>
       .ob ((0 : Int) ≤ y1.snd.fst ∧ y1.snd.fst < (↑z5.length : Int)) <|
        .ob (y1.snd.fst.toNat < z5.length) <|
        .lt (List SVisit) (z5.modify y1.snd.fst.toNat fun z =>
  { addr := z.addr,
    page :=
      { addr := { host := z6.fst, path := z.page.addr.path : SAddr }, policy := z.page.policy, tok := z.page.tok,
        queue := z.page.queue, ended := z.page.ended, builder := z.page.builder, slots := z.page.slots,
        mods := z.page.mods, entries := z.page.entries, block := z.page.block, inline := z.page.inline,
        deferred := z.page.deferred, entered := z.page.entered, ran := z.page.ran, log := z.page.log,
        loaded := z.page.loaded : SPage },
    kept := z.kept : SVisit }) fun z7 =>
        .ob (fmarkText.pre (IntKind.i64.wrap (IntKind.i64.wrap (IntKind.i64.wrap (y1.fst + (1 : Int)) + (1 : Int)) + (1 : Int)), ())) <|
         .lt (ByteArray × PUnit) (fmarkText.fn (IntKind.i64.wrap (IntKind.i64.wrap (IntKind.i64.wrap (y1.fst + (1 : Int)) + (1 : Int)) + (1 : Int)), ())) fun z8 =>
         .ob ((0 : Int) ≤ y1.snd.fst ∧ y1.snd.fst < (↑z7.length : Int)) <|
          .ob (y1.snd.fst.toNat < z7.length) <|
          .lt (List SVisit) (z7.modify y1.snd.fst.toNat fun z =>
  { addr := z.addr,
    page :=
      { addr := { host := z.page.addr.host, path := z8.fst : SAddr }, policy := z.page.policy, tok := z.page.tok,
        queue := z.page.queue, ended := z.page.ended, builder := z.page.builder, slots := z.page.slots,
        mods := z.page.mods, entries := z.page.entries, block := z.page.block, inline := z.page.inline,
        deferred := z.page.deferred, entered := z.page.entered, ran := z.page.ran, log := z.page.log,
        loaded := z.page.loaded : SPage },
    kept := z.kept : SVisit }) fun z9 =>
          .ob ((3 : Int) ≠ (0 : Int)) <|
           .ob ((0 : Int) ≤ y1.snd.fst ∧ y1.snd.fst < (↑z9.length : Int)) <|
           .ob (y1.snd.fst.toNat < z9.length) <|
           .lt (List SVisit) (z9.modify y1.snd.fst.toNat fun z =>
  { addr := z.addr,
    page :=
      { addr := z.page.addr,
        policy :=
          {
            set_ :=
              (IntKind.i64.wrap
                      (IntKind.i64.wrap
                          (IntKind.i64.wrap (IntKind.i64.wrap (y1.fst + (1 : Int)) + (1 : Int)) + (1 : Int)) +
                        (1 : Int))).tmod
                  (3 : Int) ==
                (0 : Int),
            scripts := z.page.policy.scripts, styles := z.page.policy.styles, images := z.page.policy.images,
            nonce := z.page.policy.nonce : SPolicy },
        tok := z.page.tok, queue := z.page.queue, ended := z.page.ended, builder := z.page.builder,
        slots := z.page.slots, mods := z.page.mods, entries := z.page.entries, block := z.page.block,
        inline := z.page.inline, deferred := z.page.deferred, entered := z.page.entered, ran := z.page.ran,
        log := z.page.log, loaded := z.page.loaded : SPage },
    kept := z.kept : SVisit }) fun z10 =>
           .ob ((0 : Int) ≤ y1.snd.fst ∧ y1.snd.fst < (↑z10.length : Int)) <|
            .ob (y1.snd.fst.toNat < z10.length) <|
            .ob (fmarkStringS.pre (z10.getD y1.snd.fst.toNat default).page.policy.scripts
  (IntKind.i64.wrap
    (IntKind.i64.wrap
        (IntKind.i64.wrap (IntKind.i64.wrap (IntKind.i64.wrap (y1.fst + (1 : Int)) + (1 : Int)) + (1 : Int)) +
          (1 : Int)) +
      (1 : Int)))) <|
            .lt (List ByteArray × Int) (fmarkStringS.fn (z10.getD y1.snd.fst.toNat default).page.policy.scripts
  (IntKind.i64.wrap
    (IntKind.i64.wrap
        (IntKind.i64.wrap (IntKind.i64.wrap (IntKind.i64.wrap (y1.fst + (1 : Int)) + (1 : Int)) + (1 : Int)) +
          (1 : Int)) +
      (1 : Int)))) fun z11 =>
            .lt (List SVisit) (z10.modify y1.snd.fst.toNat fun z =>
  { addr := z.addr,
    page :=
      { addr := z.page.addr,
        policy :=
          { set_ := z.page.policy.set_, scripts := z11.fst, styles := z.page.policy.styles,
            images := z.page.policy.images, nonce := z.page.policy.nonce : SPolicy },
        tok := z.page.tok, queue := z.page.queue, ended := z.page.ended, builder := z.page.builder,
        slots := z.page.slots, mods := z.page.mods, entries := z.page.entries, block := z.page.block,
        inline := z.page.inline, deferred := z.page.deferred, entered := z.page.entered, ran := z.page.ran,
        log := z.page.log, loaded := z.page.loaded : SPage },
    kept := z.kept : SVisit }) fun z12 =>
             .ob ((0 : Int) ≤ y1.snd.fst ∧ y1.snd.fst < (↑z12.length : Int)) <|
              .ob (y1.snd.fst.toNat < z12.length) <|
              .ob (fmarkStringS.pre (z12.getD y1.snd.fst.toNat default).page.policy.styles z11.snd) <|
              .lt (List ByteArray × Int) (fmarkStringS.fn (z12.getD y1.snd.fst.toNat default).page.policy.styles z11.snd) fun z13 =>
              .lt (List SVisit) (z12.modify y1.snd.fst.toNat fun z =>
  { addr := z.addr,
    page :=
      { addr := z.page.addr,
        policy :=
          { set_ := z.page.policy.set_, scripts := z.page.policy.scripts, styles := z13.fst,
            images := z.page.policy.images, nonce := z.page.policy.nonce : SPolicy },
        tok := z.page.tok, queue := z.page.queue, ended := z.page.ended, builder := z.page.builder,
        slots := z.page.slots, mods := z.page.mods, entries := z.page.entries, block := z.page.block,
        inline := z.page.inline, deferred := z.page.deferred, entered := z.page.entered, ran := z.page.ran,
        log := z.page.log, loaded := z.page.loaded : SPage },
    kept := z.kept : SVisit }) fun z14 =>
               .ob ((0 : Int) ≤ y1.snd.fst ∧ y1.snd.fst < (↑z14.length : Int)) <|
                .ob (y1.snd.fst.toNat < z14.length) <|
                .ob (fmarkStringS.pre (z14.getD y1.snd.fst.toNat default).page.policy.images z13.snd) <|
                .lt (List ByteArray × Int) (fmarkStringS.fn (z14.getD y1.snd.fst.toNat default).page.policy.images z13.snd) fun z15 =>
                .lt (List SVisit) (z14.modify y1.snd.fst.toNat fun z =>
  { addr := z.addr,
    page :=
      { addr := z.page.addr,
        policy :=
          { set_ := z.page.policy.set_, scripts := z.page.policy.scripts, styles := z.page.policy.styles,
            images := z15.fst, nonce := z.page.policy.nonce : SPolicy },
        tok := z.page.tok, queue := z.page.queue, ended := z.page.ended, builder := z.page.builder,
        slots := z.page.slots, mods := z.page.mods, entries := z.page.entries, block := z.page.block,
        inline := z.page.inline, deferred := z.page.deferred, entered := z.page.entered, ran := z.page.ran,
        log := z.page.log, loaded := z.page.loaded : SPage },
    kept := z.kept : SVisit }) fun z16 =>
                 .ob (fmarkText.pre (z15.snd, ())) <|
                  .lt (ByteArray × PUnit) (fmarkText.fn (z15.snd, ())) fun z17 =>
                  .ob ((0 : Int) ≤ y1.snd.fst ∧ y1.snd.fst < (↑z16.length : Int)) <|
                   .ob (y1.snd.fst.toNat < z16.length) <|
                   .lt (List SVisit) (z16.modify y1.snd.fst.toNat fun z =>
  { addr := z.addr,
    page :=
      { addr := z.page.addr,
        policy :=
          { set_ := z.page.policy.set_, scripts := z.page.policy.scripts, styles := z.page.policy.styles,
            images := z.page.policy.images, nonce := z17.fst : SPolicy },
        tok := z.page.tok, queue := z.page.queue, ended := z.page.ended, builder := z.page.builder,
        slots := z.page.slots, mods := z.page.mods, entries := z.page.entries, block := z.page.block,
        inline := z.page.inline, deferred := z.page.deferred, entered := z.page.entered, ran := z.page.ran,
        log := z.page.log, loaded := z.page.loaded : SPage },
    kept := z.kept : SVisit }) fun z18 =>
                   .ob (fmarkText.pre (IntKind.i64.wrap (z15.snd + (1 : Int)), ())) <|
                    .lt (ByteArray × PUnit) (fmarkText.fn (IntKind.i64.wrap (z15.snd + (1 : Int)), ())) fun z19 =>
                    .ob ((0 : Int) ≤ y1.snd.fst ∧ y1.snd.fst < (↑z18.length : Int)) <|
                     .ob (y1.snd.fst.toNat < z18.length) <|
                     .lt (List SVisit) (z18.modify y1.snd.fst.toNat fun z =>
  { addr := z.addr,
    page :=
      { addr := z.page.addr, policy := z.page.policy, tok := { rest := z19.fst : STokenizer }, queue := z.page.queue,
        ended := z.page.ended, builder := z.page.builder, slots := z.page.slots, mods := z.page.mods,
        entries := z.page.entries, block := z.page.block, inline := z.page.inline, deferred := z.page.deferred,
        entered := z.page.entered, ran := z.page.ran, log := z.page.log, loaded := z.page.loaded : SPage },
    kept := z.kept : SVisit }) fun z20 =>
                     .ob ((0 : Int) ≤ y1.snd.fst ∧ y1.snd.fst < (↑z20.length : Int)) <|
                      .ob (y1.snd.fst.toNat < z20.length) <|
                      .ob (fmarkTokenS.pre (z20.getD y1.snd.fst.toNat default).page.queue
  (IntKind.i64.wrap (IntKind.i64.wrap (z15.snd + (1 : Int)) + (1 : Int)))) <|
                      .lt (List SToken × Int) (fmarkTokenS.fn (z20.getD y1.snd.fst.toNat default).page.queue
  (IntKind.i64.wrap (IntKind.i64.wrap (z15.snd + (1 : Int)) + (1 : Int)))) fun z21 =>
                      .lt (List SVisit) (z20.modify y1.snd.fst.toNat fun z =>
  { addr := z.addr,
    page :=
      { addr := z.page.addr, policy := z.page.policy, tok := z.page.tok, queue := z21.fst, ended := z.page.ended,
        builder := z.page.builder, slots := z.page.slots, mods := z.page.mods, entries := z.page.entries,
        block := z.page.block, inline := z.page.inline, deferred := z.page.deferred, entered := z.page.entered,
        ran := z.page.ran, log := z.page.log, loaded := z.page.loaded : SPage },
    kept := z.kept : SVisit }) fun z22 =>
                       .ob ((3 : Int) ≠ (0 : Int)) <|
                        .ob ((0 : Int) ≤ y1.snd.fst ∧ y1.snd.fst < (↑z22.length : Int)) <|
                        .ob (y1.snd.fst.toNat < z22.length) <|
                        .lt (List SVisit) (z22.modify y1.snd.fst.toNat fun z =>
  { addr := z.addr,
    page :=
      { addr := z.page.addr, policy := z.page.policy, tok := z.page.tok, queue := z.page.queue,
        ended := z21.snd.tmod (3 : Int) == (0 : Int), builder := z.page.builder, slots := z.page.slots,
        mods := z.page.mods, entries := z.page.entries, block := z.page.block, inline := z.page.inline,
        deferred := z.page.deferred, entered := z.page.entered, ran := z.page.ran, log := z.page.log,
        loaded := z.page.loaded : SPage },
    kept := z.kept : SVisit }) fun z23 =>
                        .ob ((0 : Int) ≤ y1.snd.fst ∧ y1.snd.fst < (↑z23.length : Int)) <|
                         .ob (y1.snd.fst.toNat < z23.length) <|
                         .ob (fmarkNodeS.pre (z23.getD y1.snd.fst.toNat default).page.builder.nodes (IntKind.i64.wrap (z21.snd + (1 : Int)))) <|
                         .lt (List SNode × Int) (fmarkNodeS.fn (z23.getD y1.snd.fst.toNat default).page.builder.nodes (IntKind.i64.wrap (z21.snd + (1 : Int)))) fun z24 =>
                         .lt (List SVisit) (z23.modify y1.snd.fst.toNat fun z =>
  { addr := z.addr,
    page :=
      { addr := z.page.addr, policy := z.page.policy, tok := z.page.tok, queue := z.page.queue, ended := z.page.ended,
        builder := { nodes := z24.fst, open_ := z.page.builder.open_ : SBuilder }, slots := z.page.slots,
        mods := z.page.mods, entries := z.page.entries, block := z.page.block, inline := z.page.inline,
        deferred := z.page.deferred, entered := z.page.entered, ran := z.page.ran, log := z.page.log,
        loaded := z.page.loaded : SPage },
    kept := z.kept : SVisit }) fun z25 =>
                          .ob ((0 : Int) ≤ y1.snd.fst ∧ y1.snd.fst < (↑z25.length : Int)) <|
                           .ob (y1.snd.fst.toNat < z25.length) <|
                           .ob (fmarkIntS.pre (z25.getD y1.snd.fst.toNat default).page.builder.open_ z24.snd) <|
                           .lt (List Int × Int) (fmarkIntS.fn (z25.getD y1.snd.fst.toNat default).page.builder.open_ z24.snd) fun z26 =>
                           .lt (List SVisit) (z25.modify y1.snd.fst.toNat fun z =>
  { addr := z.addr,
    page :=
      { addr := z.page.addr, policy := z.page.policy, tok := z.page.tok, queue := z.page.queue, ended := z.page.ended,
        builder := { nodes := z.page.builder.nodes, open_ := z26.fst : SBuilder }, slots := z.page.slots,
        mods := z.page.mods, entries := z.page.entries, block := z.page.block, inline := z.page.inline,
        deferred := z.page.deferred, entered := z.page.entered, ran := z.page.ran, log := z.page.log,
        loaded := z.page.loaded : SPage },
    kept := z.kept : SVisit }) fun z27 =>
                            .ob ((0 : Int) ≤ y1.snd.fst ∧ y1.snd.fst < (↑z27.length : Int)) <|
                             .ob (y1.snd.fst.toNat < z27.length) <|
                             .ob (fmarkSlotS.pre (z27.getD y1.snd.fst.toNat default).page.slots z26.snd) <|
                             .lt (List SSlot × Int) (fmarkSlotS.fn (z27.getD y1.snd.fst.toNat default).page.slots z26.snd) fun z28 =>
                             .lt (List SVisit) (z27.modify y1.snd.fst.toNat fun z =>
  { addr := z.addr,
    page :=
      { addr := z.page.addr, policy := z.page.policy, tok := z.page.tok, queue := z.page.queue, ended := z.page.ended,
        builder := z.page.builder, slots := z28.fst, mods := z.page.mods, entries := z.page.entries,
        block := z.page.block, inline := z.page.inline, deferred := z.page.deferred, entered := z.page.entered,
        ran := z.page.ran, log := z.page.log, loaded := z.page.loaded : SPage },
    kept := z.kept : SVisit }) fun z29 =>
                              .ob ((0 : Int) ≤ y1.snd.fst ∧ y1.snd.fst < (↑z29.length : Int)) <|
                               .ob (y1.snd.fst.toNat < z29.length) <|
                               .ob (fmarkModuleS.pre (z29.getD y1.snd.fst.toNat default).page.mods z28.snd) <|
                               .lt (List SModule × Int) (fmarkModuleS.fn (z29.getD y1.snd.fst.toNat default).page.mods z28.snd) fun z30 =>
                               .lt (List SVisit) (z29.modify y1.snd.fst.toNat fun z =>
  { addr := z.addr,
    page :=
      { addr := z.page.addr, policy := z.page.policy, tok := z.page.tok, queue := z.page.queue, ended := z.page.ended,
        builder := z.page.builder, slots := z.page.slots, mods := z30.fst, entries := z.page.entries,
        block := z.page.block, inline := z.page.inline, deferred := z.page.deferred, entered := z.page.entered,
        ran := z.page.ran, log := z.page.log, loaded := z.page.loaded : SPage },
    kept := z.kept : SVisit }) fun z31 =>
                                .ob ((0 : Int) ≤ y1.snd.fst ∧ y1.snd.fst < (↑z31.length : Int)) <|
                                 .ob (y1.snd.fst.toNat < z31.length) <|
                                 .ob (fmarkAddrS.pre (z31.getD y1.snd.fst.toNat default).page.entries z30.snd) <|
                                 .lt (List SAddr × Int) (fmarkAddrS.fn (z31.getD y1.snd.fst.toNat default).page.entries z30.snd) fun z32 =>
                                 .lt (List SVisit) (z31.modify y1.snd.fst.toNat fun z =>
  { addr := z.addr,
    page :=
      { addr := z.page.addr, policy := z.page.policy, tok := z.page.tok, queue := z.page.queue, ended := z.page.ended,
        builder := z.page.builder, slots := z.page.slots, mods := z.page.mods, entries := z32.fst,
        block := z.page.block, inline := z.page.inline, deferred := z.page.deferred, entered := z.page.entered,
        ran := z.page.ran, log := z.page.log, loaded := z.page.loaded : SPage },
    kept := z.kept : SVisit }) fun z33 =>
                                  .ob ((0 : Int) ≤ y1.snd.fst ∧ y1.snd.fst < (↑z33.length : Int)) <|
                                   .ob (y1.snd.fst.toNat < z33.length) <|
                                   .lt (List SVisit) (z33.modify y1.snd.fst.toNat fun z =>
  { addr := z.addr,
    page :=
      { addr := z.page.addr, policy := z.page.policy, tok := z.page.tok, queue := z.page.queue, ended := z.page.ended,
        builder := z.page.builder, slots := z.page.slots, mods := z.page.mods, entries := z.page.entries,
        block := z32.snd, inline := z.page.inline, deferred := z.page.deferred, entered := z.page.entered,
        ran := z.page.ran, log := z.page.log, loaded := z.page.loaded : SPage },
    kept := z.kept : SVisit }) fun z34 =>
                                   .ob ((0 : Int) ≤ y1.snd.fst ∧ y1.snd.fst < (↑z34.length : Int)) <|
                                    .ob (y1.snd.fst.toNat < z34.length) <|
                                    .lt (List SVisit) (z34.modify y1.snd.fst.toNat fun z =>
  { addr := z.addr,
    page :=
      { addr := z.page.addr, policy := z.page.policy, tok := z.page.tok, queue := z.page.queue, ended := z.page.ended,
        builder := z.page.builder, slots := z.page.slots, mods := z.page.mods, entries := z.page.entries,
        block := z.page.block, inline := IntKind.i64.wrap (z32.snd + (1 : Int)), deferred := z.page.deferred,
        entered := z.page.entered, ran := z.page.ran, log := z.page.log, loaded := z.page.loaded : SPage },
    kept := z.kept : SVisit }) fun z35 =>
                                    .ob ((0 : Int) ≤ y1.snd.fst ∧ y1.snd.fst < (↑z35.length : Int)) <|
                                     .ob (y1.snd.fst.toNat < z35.length) <|
                                     .lt (List SVisit) (z35.modify y1.snd.fst.toNat fun z =>
  { addr := z.addr,
    page :=
      { addr := z.page.addr, policy := z.page.policy, tok := z.page.tok, queue := z.page.queue, ended := z.page.ended,
        builder := z.page.builder, slots := z.page.slots, mods := z.page.mods, entries := z.page.entries,
        block := z.page.block, inline := z.page.inline,
        deferred := IntKind.i64.wrap (IntKind.i64.wrap (z32.snd + (1 : Int)) + (1 : Int)), entered := z.page.entered,
        ran := z.page.ran, log := z.page.log, loaded := z.page.loaded : SPage },
    kept := z.kept : SVisit }) fun z36 =>
                                     .ob ((0 : Int) ≤ y1.snd.fst ∧ y1.snd.fst < (↑z36.length : Int)) <|
                                      .ob (y1.snd.fst.toNat < z36.length) <|
                                      .lt (List SVisit) (z36.modify y1.snd.fst.toNat fun z =>
  { addr := z.addr,
    page :=
      { addr := z.page.addr, policy := z.page.policy, tok := z.page.tok, queue := z.page.queue, ended := z.page.ended,
        builder := z.page.builder, slots := z.page.slots, mods := z.page.mods, entries := z.page.entries,
        block := z.page.block, inline := z.page.inline, deferred := z.page.deferred,
        entered := IntKind.i64.wrap (IntKind.i64.wrap (IntKind.i64.wrap (z32.snd + (1 : Int)) + (1 : Int)) + (1 : Int)),
        ran := z.page.ran, log := z.page.log, loaded := z.page.loaded : SPage },
    kept := z.kept : SVisit }) fun z37 =>
                                      .ob ((0 : Int) ≤ y1.snd.fst ∧ y1.snd.fst < (↑z37.length : Int)) <|
                                       .ob (y1.snd.fst.toNat < z37.length) <|
                                       .ob (fmarkAddrS.pre (z37.getD y1.snd.fst.toNat default).page.ran
  (IntKind.i64.wrap
    (IntKind.i64.wrap (IntKind.i64.wrap (IntKind.i64.wrap (z32.snd + (1 : Int)) + (1 : Int)) + (1 : Int)) + (1 : Int)))) <|
                                       .lt (List SAddr × Int) (fmarkAddrS.fn (z37.getD y1.snd.fst.toNat default).page.ran
  (IntKind.i64.wrap
    (IntKind.i64.wrap (IntKind.i64.wrap (IntKind.i64.wrap (z32.snd + (1 : Int)) + (1 : Int)) + (1 : Int)) + (1 : Int)))) fun z38 =>
                                       .lt (List SVisit) (z37.modify y1.snd.fst.toNat fun z =>
  { addr := z.addr,
    page :=
      { addr := z.page.addr, policy := z.page.policy, tok := z.page.tok, queue := z.page.queue, ended := z.page.ended,
        builder := z.page.builder, slots := z.page.slots, mods := z.page.mods, entries := z.page.entries,
        block := z.page.block, inline := z.page.inline, deferred := z.page.deferred, entered := z.page.entered,
        ran := z38.fst, log := z.page.log, loaded := z.page.loaded : SPage },
    kept := z.kept : SVisit }) fun z39 =>
                                        .ob ((0 : Int) ≤ y1.snd.fst ∧ y1.snd.fst < (↑z39.length : Int)) <|
                                         .ob (y1.snd.fst.toNat < z39.length) <|
                                         .ob (fmarkStringS.pre (z39.getD y1.snd.fst.toNat default).page.log z38.snd) <|
                                         .lt (List ByteArray × Int) (fmarkStringS.fn (z39.getD y1.snd.fst.toNat default).page.log z38.snd) fun z40 =>
                                         .lt (List SVisit) (z39.modify y1.snd.fst.toNat fun z =>
  { addr := z.addr,
    page :=
      { addr := z.page.addr, policy := z.page.policy, tok := z.page.tok, queue := z.page.queue, ended := z.page.ended,
        builder := z.page.builder, slots := z.page.slots, mods := z.page.mods, entries := z.page.entries,
        block := z.page.block, inline := z.page.inline, deferred := z.page.deferred, entered := z.page.entered,
        ran := z.page.ran, log := z40.fst, loaded := z.page.loaded : SPage },
    kept := z.kept : SVisit }) fun z41 =>
                                          .ob ((3 : Int) ≠ (0 : Int)) <|
                                           .ob ((0 : Int) ≤ y1.snd.fst ∧ y1.snd.fst < (↑z41.length : Int)) <|
                                           .ob (y1.snd.fst.toNat < z41.length) <|
                                           .lt (List SVisit) (z41.modify y1.snd.fst.toNat fun z =>
  { addr := z.addr,
    page :=
      { addr := z.page.addr, policy := z.page.policy, tok := z.page.tok, queue := z.page.queue, ended := z.page.ended,
        builder := z.page.builder, slots := z.page.slots, mods := z.page.mods, entries := z.page.entries,
        block := z.page.block, inline := z.page.inline, deferred := z.page.deferred, entered := z.page.entered,
        ran := z.page.ran, log := z.page.log, loaded := z40.snd.tmod (3 : Int) == (0 : Int) : SPage },
    kept := z.kept : SVisit }) fun z42 =>
                                           .ob ((3 : Int) ≠ (0 : Int)) <|
                                            .ob ((0 : Int) ≤ y1.snd.fst ∧ y1.snd.fst < (↑z42.length : Int)) <|
                                            .ob (y1.snd.fst.toNat < z42.length) <|
                                            .lt (List SVisit) (z42.modify y1.snd.fst.toNat fun z =>
  { addr := z.addr, page := z.page, kept := (IntKind.i64.wrap (z40.snd + (1 : Int))).tmod (3 : Int) == (0 : Int) :
    SVisit }) fun z43 =>
                                            .ob (Value.int IntKind.i64 (0 : Int) = Value.int IntKind.i64 (0 : Int)) <|
                                             .ob (bk1 (IntKind.i64.wrap (IntKind.i64.wrap (z40.snd + (1 : Int)) + (1 : Int)), (IntKind.i64.wrap (y1.snd.fst + (1 : Int)), (z43, ())))) <|
                                             .ok)
  (.leaf (.one false [vi (y1.fst)]) [] [((0 : Nat), ⟨Ty.visit, y1.snd.snd.fst⟩)])) (by kernel_rfl) ?_
  refine lpx_i ?_ fun (y1 : Int × Int × List SVisit × PUnit) i1 => ?_
  · exact ⟨by simp, by simp, by simp [markL], by simp [markL]⟩
  have hp1 : 0 ≤ k := hp.1
  have hp2 : (markL mkVisit l k).2 ≤ 4000000000000000000 := hp.2
  have i3 : 0 ≤ y1.2.1 ∧ y1.2.1 ≤ l.length ∧ y1.1 = (markL mkVisit (l.take y1.2.1.toNat) k).2 ∧ y1.2.2.1 = (markL mkVisit (l.take y1.2.1.toNat) k).1 ++ l.drop y1.2.1.toNat := i1
  have hcnt := markL_cnt (f := mkVisit) mkVisit_cnt l k
  have hx : y1.2.2.1.length = l.length := by rw [i3.2.2.2, List.length_append, markL_len, List.length_take, List.length_drop]; omega
  refine br_i (fun h2 => ?_) (fun h2 => ?_)
  · simp only [decide_eq_true_eq, decide_eq_false_iff_not, hx] at h2
    clear i1 hp
    have hlt : y1.2.1.toNat < l.length := by omega
    have ht := markL_take (f := mkVisit) hlt k
    have hle := (markL_take_le mkVisit_mono l (y1.2.1.toNat + 1) k).2
    have hl0 := (markL_take_le mkVisit_mono l y1.2.1.toNat k).1
    rw [ht] at hle
    rw [← i3.2.2.1] at hle hl0 ht
    have i4 : y1.2.2.1 = (markL mkVisit (l.take y1.2.1.toNat) k).1 ++ l.getD y1.2.1.toNat default :: l.drop (y1.2.1.toNat + 1) := by rw [i3.2.2.2, drop_cons hlt]
    have hA : (markL mkVisit (l.take y1.2.1.toNat) k).1.length = y1.2.1.toNat := by rw [markL_len, List.length_take]; omega
    simp only [mkVisit] at hle
    have m1 := mkStringS_mono (l.getD y1.2.1.toNat default).page.policy.scripts (y1.1 + 5)
    generalize hr1 : markL mkString (l.getD y1.2.1.toNat default).page.policy.scripts (y1.1 + 5) = r1 at *
    have m2 := mkStringS_mono (l.getD y1.2.1.toNat default).page.policy.styles (r1.2)
    generalize hr2 : markL mkString (l.getD y1.2.1.toNat default).page.policy.styles (r1.2) = r2 at *
    have m3 := mkStringS_mono (l.getD y1.2.1.toNat default).page.policy.images (r2.2)
    generalize hr3 : markL mkString (l.getD y1.2.1.toNat default).page.policy.images (r2.2) = r3 at *
    have m4 := mkTokenS_mono (l.getD y1.2.1.toNat default).page.queue (r3.2 + 2)
    generalize hr4 : markL mkToken (l.getD y1.2.1.toNat default).page.queue (r3.2 + 2) = r4 at *
    have m5 := mkNodeS_mono (l.getD y1.2.1.toNat default).page.builder.nodes (r4.2 + 1)
    generalize hr5 : markL mkNode (l.getD y1.2.1.toNat default).page.builder.nodes (r4.2 + 1) = r5 at *
    have m6 := mkIntS_mono (l.getD y1.2.1.toNat default).page.builder.open_ (r5.2)
    generalize hr6 : markL mkInt (l.getD y1.2.1.toNat default).page.builder.open_ (r5.2) = r6 at *
    have m7 := mkSlotS_mono (l.getD y1.2.1.toNat default).page.slots (r6.2)
    generalize hr7 : markL mkSlot (l.getD y1.2.1.toNat default).page.slots (r6.2) = r7 at *
    have m8 := mkModuleS_mono (l.getD y1.2.1.toNat default).page.mods (r7.2)
    generalize hr8 : markL mkModule (l.getD y1.2.1.toNat default).page.mods (r7.2) = r8 at *
    have m9 := mkAddrS_mono (l.getD y1.2.1.toNat default).page.entries (r8.2)
    generalize hr9 : markL mkAddr (l.getD y1.2.1.toNat default).page.entries (r8.2) = r9 at *
    have m10 := mkAddrS_mono (l.getD y1.2.1.toNat default).page.ran (r9.2 + 4)
    generalize hr10 : markL mkAddr (l.getD y1.2.1.toNat default).page.ran (r9.2 + 4) = r10 at *
    have m11 := mkStringS_mono (l.getD y1.2.1.toNat default).page.log (r10.2)
    generalize hr11 : markL mkString (l.getD y1.2.1.toNat default).page.log (r10.2) = r11 at *
    repeat first
      | ((fail_if_success with_reducible refine ob_d ?_ ?_); refine lt_e fun z e => ?_; simp (disch := omega) only [i4, mod_at hA, getD_at hA, fmarkText, fmarkAddrS, fmarkIntS, fmarkModuleS, fmarkNodeS, fmarkSlotS, fmarkStringS, fmarkTokenS, wrapId', Int.add_assoc, Int.reduceAdd, hr1, hr2, hr3, hr4, hr5, hr6, hr7, hr8, hr9, hr10, hr11, List.length_append, List.length_cons, List.length_drop, hA] at e; subst e)
      | ((with_reducible refine ob_d ?_ ?_); · first | trivial | omega | (refine ⟨?_, ?_⟩ <;> omega) | (simp (disch := omega) only [i4, mod_at hA, getD_at hA, fmarkText, fmarkAddrS, fmarkIntS, fmarkModuleS, fmarkNodeS, fmarkSlotS, fmarkStringS, fmarkTokenS, wrapId', Int.add_assoc, Int.reduceAdd, hr1, hr2, hr3, hr4, hr5, hr6, hr7, hr8, hr9, hr10, hr11, List.length_append, List.length_cons, List.length_drop, hA]; first | done | trivial | omega | (refine ⟨?_, ?_⟩ <;> omega)))
    refine ob_d ?_ trivial
    simp (disch := omega) only [i4, mod_at hA, getD_at hA, fmarkText, fmarkAddrS, fmarkIntS, fmarkModuleS, fmarkNodeS, fmarkSlotS, fmarkStringS, fmarkTokenS, wrapId', Int.add_assoc, Int.reduceAdd, hr1, hr2, hr3, hr4, hr5, hr6, hr7, hr8, hr9, hr10, hr11, List.length_append, List.length_cons, List.length_drop, hA]
    refine ⟨⟨by omega, by omega, ?_, ?_⟩, by omega⟩
    · rw [toNat1 (by omega), ht]
      simp only [mkVisit, Int.add_assoc, Int.reduceAdd, hr1, hr2, hr3, hr4, hr5, hr6, hr7, hr8, hr9, hr10, hr11]
    · rw [toNat1 (by omega), ht]
      simp only [mkVisit, Int.add_assoc, Int.reduceAdd, hr1, hr2, hr3, hr4, hr5, hr6, hr7, hr8, hr9, hr10, hr11, List.append_assoc, List.cons_append, List.nil_append]
  · simp only [decide_eq_false_iff_not, hx] at h2
    refine MS.leafL (t := .visit) (fn := fun l k => markL mkVisit l k) ?_
    have e1 : l.take y1.2.1.toNat = l := List.take_of_length_le (by omega)
    have e2 : l.drop y1.2.1.toNat = [] := List.drop_of_length_le (by omega)
    rw [i3.2.2.2, i3.2.2.1, e1, e2, List.append_nil])
def E84 : D.Env := E83.addM 60 fmarkVisitS
theorem E84ok : EOk Tryz.prog E84 := E83ok.addM k60_83
-- laws.szTab
set_option maxHeartbeats 2000000 in
theorem k15_84 : fszTab.ok Tryz.prog 15 := Fct.of (S := fszTab) (L := fun _ _ => none) (kp := [1,2,4,10,1000010]) E84ok Tryz.func15 (by kernel_rfl) (by kernel_rfl) (by
  rintro ⟨(x : STab), (n : Int), _⟩ hp
  refine holds_of (X := .ob (fszVisitS.pre (x.visits, n, ())) <|
 .lt (Int × PUnit) (fszVisitS.fn (x.visits, n, ())) fun z2 =>
 .br (decide (z2.fst < (0 : Int)))
  (.leaf (mkR fszTab.rs ((-1 : Int), ())) [] [])
  (.leaf (mkR fszTab.rs (z2.fst, ())) [] [])) (by kernel_rfl) ?_
  refine ob_i ?_ fun o1 => lt_i (br_i (fun h2 => Fct.leafY ?_) (fun h2 => Fct.leafY ?_))
  all_goals try simp only [decide_eq_true_eq, decide_eq_false_iff_not, Bool.not_eq_true', Bool.not_eq_false', bne_iff_ne, bne_eq_false_iff_eq, beq_iff_eq, beq_eq_false_iff_ne, baEq, Int.not_lt, Int.not_le, ne_eq, Decidable.not_not] at *
  all_goals try simp only [fszTab, fszVisitS, etaToken, etaNode, etaBuilder, etaPolicy, etaPage, etaVisit, etaTab, etaServer, etaCache, etaNet, etaLoader, etaSheet, etaResult, etaSlot, etaModule, etaAddr, etaRequest, etaResponse, etaConn, etaGuess, etaEntry, etaSent, etaFile, baSz, List.size_toArray, List.length_cons, List.length_nil, Nat.reduceAdd, Int.toNat_zero, List.drop_zero, decide_eq_true_eq, decide_eq_false_iff_not, Bool.not_eq_true', Bool.not_eq_false', bne_iff_ne, bne_eq_false_iff_eq, beq_iff_eq, beq_eq_false_iff_ne, Bool.not_eq_true, Bool.not_eq_false, ne_eq, Decidable.not_not, baEq, decide_not, Prod.mk.injEq, and_true, true_and, Room, List.nil_append, Nat.zero_add, Int.not_lt, Int.not_le, Sh.good, Sh.fc, enc, List.forall_mem_cons, List.not_mem_nil, false_implies, implies_true, goodC, maxLen] at *
  all_goals grind [wrapId', lessen, szL, szTab])
def E85 : D.Env := E84.add 15 fszTab
theorem E85ok : EOk Tryz.prog E85 := E84ok.add k15_84
-- laws.toTab
theorem k17_85 : ftoTab.ok Tryz.prog 17 := Fct.of (S := ftoTab) (L := fun _ _ => none) (kp := [1,2,3]) E85ok Tryz.func17 (by kernel_rfl) (by kernel_rfl) (by
  rintro ⟨(x : STab), _⟩ hp
  refine holds_of (X := .ob (ftoVisitS.pre (x.visits, ())) <|
 .lt (List SVisit × PUnit) (ftoVisitS.fn (x.visits, ())) fun z2 =>
 .leaf (mkR ftoTab.rs (⟨z2.fst, x.at_⟩, ())) [] []) (by kernel_rfl) ?_
  refine ob_i ?_ fun o1 => lt_i (Fct.leafY ?_)
  all_goals try simp only [decide_eq_true_eq, decide_eq_false_iff_not, Bool.not_eq_true', Bool.not_eq_false', bne_iff_ne, bne_eq_false_iff_eq, beq_iff_eq, beq_eq_false_iff_ne, baEq, Int.not_lt, Int.not_le, ne_eq, Decidable.not_not] at *
  all_goals try simp only [ftoTab, ftoVisitS, etaToken, etaNode, etaBuilder, etaPolicy, etaPage, etaVisit, etaTab, etaServer, etaCache, etaNet, etaLoader, etaSheet, etaResult, etaSlot, etaModule, etaAddr, etaRequest, etaResponse, etaConn, etaGuess, etaEntry, etaSent, etaFile, baSz, List.size_toArray, List.length_cons, List.length_nil, Nat.reduceAdd, Int.toNat_zero, List.drop_zero, decide_eq_true_eq, decide_eq_false_iff_not, Bool.not_eq_true', Bool.not_eq_false', bne_iff_ne, bne_eq_false_iff_eq, beq_iff_eq, beq_eq_false_iff_ne, Bool.not_eq_true, Bool.not_eq_false, ne_eq, Decidable.not_not, baEq, decide_not, Prod.mk.injEq, and_true, true_and, Room, List.nil_append, Nat.zero_add, Int.not_lt, Int.not_le] at *
  all_goals first | trivial | rfl | grind [szL, szTab])
def E86 : D.Env := E85.add 17 ftoTab
theorem E86ok : EOk Tryz.prog E86 := E85ok.add k17_85
-- laws.eqTab
set_option maxHeartbeats 2000000 in
theorem k20_86 : feqTab.ok Tryz.prog 20 := Fct.of (S := feqTab) (L := fun _ _ => none) (kp := [2,3,4,10,15,1000010,1000015]) E86ok Tryz.func20 (by kernel_rfl) (by kernel_rfl) (by
  rintro ⟨(x : STab), (y : STab), _⟩ hp
  refine holds_of (X := .ob (feqVisitS.pre (x.visits, y.visits, ())) <|
 .lt (Bool × PUnit) (feqVisitS.fn (x.visits, y.visits, ())) fun z2 =>
 .br (!z2.fst)
  (.leaf (mkR feqTab.rs (false, ())) [] [])
  (.br (x.at_ != y.at_)
   (.leaf (mkR feqTab.rs (false, ())) [] [])
   (.leaf (mkR feqTab.rs (true, ())) [] []))) (by kernel_rfl) ?_
  refine ob_i ?_ fun o1 => lt_i (br_i (fun h2 => Fct.leafY ?_) (fun h2 => br_i (fun h3 => Fct.leafY ?_) (fun h3 => Fct.leafY ?_)))
  all_goals try simp only [decide_eq_true_eq, decide_eq_false_iff_not, Bool.not_eq_true', Bool.not_eq_false', bne_iff_ne, bne_eq_false_iff_eq, beq_iff_eq, beq_eq_false_iff_ne, baEq, Int.not_lt, Int.not_le, ne_eq, Decidable.not_not] at *
  all_goals try simp only [feqTab, feqVisitS, etaToken, etaNode, etaBuilder, etaPolicy, etaPage, etaVisit, etaTab, etaServer, etaCache, etaNet, etaLoader, etaSheet, etaResult, etaSlot, etaModule, etaAddr, etaRequest, etaResponse, etaConn, etaGuess, etaEntry, etaSent, etaFile, baSz, List.size_toArray, List.length_cons, List.length_nil, Nat.reduceAdd, Int.toNat_zero, List.drop_zero, decide_eq_true_eq, decide_eq_false_iff_not, Bool.not_eq_true', Bool.not_eq_false', bne_iff_ne, bne_eq_false_iff_eq, beq_iff_eq, beq_eq_false_iff_ne, Bool.not_eq_true, Bool.not_eq_false, ne_eq, Decidable.not_not, baEq, decide_not, Prod.mk.injEq, and_true, true_and, Room, List.nil_append, Nat.zero_add, Int.not_lt, Int.not_le] at *
  all_goals first | trivial | (cases x; cases y; simp_all; done) | (simp only [szL, szTab] at *; omega) | grind [szL, szTab])
def E87 : D.Env := E86.add 20 feqTab
theorem E87ok : EOk Tryz.prog E87 := E86ok.add k20_86
-- laws.markTab
set_option maxHeartbeats 2000000 in
theorem k21_87 : fmarkTab.ok Tryz.prog 21 := MS.of (S := fmarkTab) (L := fun _ _ _ => none) (kp := [1,2,4]) (kl := [0]) E87ok Tryz.func21 (by kernel_rfl) (by kernel_rfl) (by
  rintro (x : STab) (k : Int) hp
  refine holds_of (X := .ob (fmarkVisitS.pre x.visits k) <|
 .lt (List SVisit × Int) (fmarkVisitS.fn x.visits k) fun z2 =>
 .leaf (.one false [vi (z2.snd)]) [] [((0 : Nat), ⟨Ty.visit, z2.fst⟩)]) (by kernel_rfl) ?_
  refine ob_d ?_ <| lt_i (MS.leaf ?_)
  all_goals have hp1 : 0 ≤ k := hp.1
  all_goals have hp2 : (mvTab x k).2 ≤ 4000000000000000000 := hp.2
  all_goals clear hp
  all_goals simp only [mvTab] at hp2
  all_goals try have m1 := mkVisitS_mono x.visits (k)
  all_goals try generalize hr1 : markL mkVisit x.visits (k) = r1 at *
  all_goals simp (disch := omega) only [fmarkVisitS, fmarkText, hr1]
  all_goals first | trivial | omega | (refine ⟨?_, ?_⟩ <;> omega) | skip
  refine MS.leaf ?_
  simp only [fmarkTab, mvTab, hr1]
  exact ⟨⟨rfl, rfl, trivial⟩, trivial, rfl⟩)
def E88 : D.Env := E87.addM 21 fmarkTab
theorem E88ok : EOk Tryz.prog E88 := E87ok.addM k21_87
def inRange (n lo hi : Int) : Bool := decide (lo ≤ n) && decide (n ≤ hi)
def fInRange : Fct := ⟨[aI, aI, aI], [rB], fun _ => True, fun (x : Int × Int × Int × Unit) => (inRange x.1 x.2.1 x.2.2.1, ())⟩
-- spec.l1In
theorem k46_88 : fInRange.ok Tryz.prog 46 := Fct.of (S := fInRange) (L := fun _ _ => none) (kp := [0,1,2,6]) E88ok Tryz.func46 (by kernel_rfl) (by kernel_rfl) (by
  rintro ⟨(n : Int), (lo : Int), (hi : Int), _⟩ hp
  refine holds_of (X := .br (decide (n ≥ lo))
 (.leaf (mkR fInRange.rs (decide (n ≤ hi), ())) [] [])
 (.leaf (mkR fInRange.rs (false, ())) [] [])) (by kernel_rfl) ?_
  refine br_i (fun h1 => Fct.leafY ?_) (fun h1 => Fct.leafY ?_)
  all_goals try simp only [decide_eq_true_eq, decide_eq_false_iff_not, Bool.not_eq_true', Bool.not_eq_false', bne_iff_ne, bne_eq_false_iff_eq, beq_iff_eq, beq_eq_false_iff_ne, baEq, Int.not_lt, Int.not_le, ne_eq, Decidable.not_not] at *
  all_goals try simp only [fInRange, etaToken, etaNode, etaBuilder, etaPolicy, etaPage, etaVisit, etaTab, etaServer, etaCache, etaNet, etaLoader, etaSheet, etaResult, etaSlot, etaModule, etaAddr, etaRequest, etaResponse, etaConn, etaGuess, etaEntry, etaSent, etaFile, baSz, List.size_toArray, List.length_cons, List.length_nil, Nat.reduceAdd, Int.toNat_zero, List.drop_zero, decide_eq_true_eq, decide_eq_false_iff_not, Bool.not_eq_true', Bool.not_eq_false', bne_iff_ne, bne_eq_false_iff_eq, beq_iff_eq, beq_eq_false_iff_ne, Bool.not_eq_true, Bool.not_eq_false, ne_eq, Decidable.not_not, baEq, decide_not, Prod.mk.injEq, and_true, true_and, Room, List.nil_append, Nat.zero_add, Int.not_lt, Int.not_le, inRange] at *
  all_goals first | trivial | (simp_all; done) | (simp_all; omega) | grind)
def E89 : D.Env := E88.add 46 fInRange
theorem E89ok : EOk Tryz.prog E89 := E88ok.add k46_88
def fIsComplete : Fct := ⟨[.v (.el .page)], [.el .bool], fun (x_ : SPage × Unit) => True, fun (x_ : SPage × Unit) => (x_.1.loaded, ())⟩
-- spec.IsComplete
theorem k33_89 : fIsComplete.ok Tryz.prog 33 := Fct.of (S := fIsComplete) (L := fun _ _ => none) (kp := [1,2]) E89ok Tryz.func33 (by kernel_rfl) (by kernel_rfl) (by
  rintro ⟨(p : SPage), _⟩ hp
  refine holds_of (X := .leaf (mkR fIsComplete.rs (p.loaded, ())) [] []) (by kernel_rfl) ?_
  refine Fct.leafY ?_
  all_goals try simp only [decide_eq_true_eq, decide_eq_false_iff_not, Bool.not_eq_true', Bool.not_eq_false', bne_iff_ne, bne_eq_false_iff_eq, beq_iff_eq, beq_eq_false_iff_ne, baEq, Int.not_lt, Int.not_le, ne_eq, Decidable.not_not] at *
  all_goals try simp only [fIsComplete, etaToken, etaNode, etaBuilder, etaPolicy, etaPage, etaVisit, etaTab, etaServer, etaCache, etaNet, etaLoader, etaSheet, etaResult, etaSlot, etaModule, etaAddr, etaRequest, etaResponse, etaConn, etaGuess, etaEntry, etaSent, etaFile, baSz, List.size_toArray, List.length_cons, List.length_nil, Nat.reduceAdd, Int.toNat_zero, List.drop_zero, decide_eq_true_eq, decide_eq_false_iff_not, Bool.not_eq_true', Bool.not_eq_false', bne_iff_ne, bne_eq_false_iff_eq, beq_iff_eq, beq_eq_false_iff_ne, Bool.not_eq_true, Bool.not_eq_false, ne_eq, Decidable.not_not, baEq, decide_not, Prod.mk.injEq, and_true, true_and, Room, List.nil_append, Nat.zero_add, Int.not_lt, Int.not_le] at *
  all_goals first | trivial | omega | (simp_all; done) | (simp_all; omega) | grind)
def E90 : D.Env := E89.add 33 fIsComplete
theorem E90ok : EOk Tryz.prog E90 := E89ok.add k33_89
-- impl.IsComplete
theorem k39_90 : fIsComplete.ok Tryz.prog 39 := Fct.of (S := fIsComplete) (L := fun _ _ => none) (kp := [1,2]) E90ok Tryz.func39 (by kernel_rfl) (by kernel_rfl) (by
  rintro ⟨(p : SPage), _⟩ hp
  refine holds_of (X := .leaf (mkR fIsComplete.rs (p.loaded, ())) [] []) (by kernel_rfl) ?_
  refine Fct.leafY ?_
  all_goals try simp only [decide_eq_true_eq, decide_eq_false_iff_not, Bool.not_eq_true', Bool.not_eq_false', bne_iff_ne, bne_eq_false_iff_eq, beq_iff_eq, beq_eq_false_iff_ne, baEq, Int.not_lt, Int.not_le, ne_eq, Decidable.not_not] at *
  all_goals try simp only [fIsComplete, etaToken, etaNode, etaBuilder, etaPolicy, etaPage, etaVisit, etaTab, etaServer, etaCache, etaNet, etaLoader, etaSheet, etaResult, etaSlot, etaModule, etaAddr, etaRequest, etaResponse, etaConn, etaGuess, etaEntry, etaSent, etaFile, baSz, List.size_toArray, List.length_cons, List.length_nil, Nat.reduceAdd, Int.toNat_zero, List.drop_zero, decide_eq_true_eq, decide_eq_false_iff_not, Bool.not_eq_true', Bool.not_eq_false', bne_iff_ne, bne_eq_false_iff_eq, beq_iff_eq, beq_eq_false_iff_ne, Bool.not_eq_true, Bool.not_eq_false, ne_eq, Decidable.not_not, baEq, decide_not, Prod.mk.injEq, and_true, true_and, Room, List.nil_append, Nat.zero_add, Int.not_lt, Int.not_le] at *
  all_goals first | trivial | omega | (simp_all; done) | (simp_all; omega) | grind)
def E91 : D.Env := E90.add 39 fIsComplete
theorem E91ok : EOk Tryz.prog E91 := E90ok.add k39_90
-- spec.CanKeep
theorem k79_91 : fIsComplete.ok Tryz.prog 79 := Fct.of (S := fIsComplete) (L := fun _ _ => none) (kp := [1,2]) E91ok Tryz.func79 (by kernel_rfl) (by kernel_rfl) (by
  rintro ⟨(p : SPage), _⟩ hp
  refine holds_of (X := .ob (fIsComplete.pre (p, ())) <|
 .lt (Bool × PUnit) (fIsComplete.fn (p, ())) fun z2 =>
 .leaf (mkR fIsComplete.rs (z2.fst, ())) [] []) (by kernel_rfl) ?_
  refine ob_i trivial fun _ => lt_i (Fct.leafY ?_)
  all_goals try simp only [decide_eq_true_eq, decide_eq_false_iff_not, Bool.not_eq_true', Bool.not_eq_false', bne_iff_ne, bne_eq_false_iff_eq, beq_iff_eq, beq_eq_false_iff_ne, baEq, Int.not_lt, Int.not_le, ne_eq, Decidable.not_not] at *
  all_goals try simp only [fIsComplete, etaToken, etaNode, etaBuilder, etaPolicy, etaPage, etaVisit, etaTab, etaServer, etaCache, etaNet, etaLoader, etaSheet, etaResult, etaSlot, etaModule, etaAddr, etaRequest, etaResponse, etaConn, etaGuess, etaEntry, etaSent, etaFile, baSz, List.size_toArray, List.length_cons, List.length_nil, Nat.reduceAdd, Int.toNat_zero, List.drop_zero, decide_eq_true_eq, decide_eq_false_iff_not, Bool.not_eq_true', Bool.not_eq_false', bne_iff_ne, bne_eq_false_iff_eq, beq_iff_eq, beq_eq_false_iff_ne, Bool.not_eq_true, Bool.not_eq_false, ne_eq, Decidable.not_not, baEq, decide_not, Prod.mk.injEq, and_true, true_and, Room, List.nil_append, Nat.zero_add, Int.not_lt, Int.not_le] at *
  all_goals first | trivial | omega | (simp_all; done) | (simp_all; omega) | grind)
def E92 : D.Env := E91.add 79 fIsComplete
theorem E92ok : EOk Tryz.prog E92 := E91ok.add k79_91
-- impl.CanKeep
theorem k80_92 : fIsComplete.ok Tryz.prog 80 := Fct.of (S := fIsComplete) (L := fun _ _ => none) (kp := [1,2]) E92ok Tryz.func80 (by kernel_rfl) (by kernel_rfl) (by
  rintro ⟨(p : SPage), _⟩ hp
  refine holds_of (X := .ob (fIsComplete.pre (p, ())) <|
 .lt (Bool × PUnit) (fIsComplete.fn (p, ())) fun z2 =>
 .leaf (mkR fIsComplete.rs (z2.fst, ())) [] []) (by kernel_rfl) ?_
  refine ob_i trivial fun _ => lt_i (Fct.leafY ?_)
  all_goals try simp only [decide_eq_true_eq, decide_eq_false_iff_not, Bool.not_eq_true', Bool.not_eq_false', bne_iff_ne, bne_eq_false_iff_eq, beq_iff_eq, beq_eq_false_iff_ne, baEq, Int.not_lt, Int.not_le, ne_eq, Decidable.not_not] at *
  all_goals try simp only [fIsComplete, etaToken, etaNode, etaBuilder, etaPolicy, etaPage, etaVisit, etaTab, etaServer, etaCache, etaNet, etaLoader, etaSheet, etaResult, etaSlot, etaModule, etaAddr, etaRequest, etaResponse, etaConn, etaGuess, etaEntry, etaSent, etaFile, baSz, List.size_toArray, List.length_cons, List.length_nil, Nat.reduceAdd, Int.toNat_zero, List.drop_zero, decide_eq_true_eq, decide_eq_false_iff_not, Bool.not_eq_true', Bool.not_eq_false', bne_iff_ne, bne_eq_false_iff_eq, beq_iff_eq, beq_eq_false_iff_ne, Bool.not_eq_true, Bool.not_eq_false, ne_eq, Decidable.not_not, baEq, decide_not, Prod.mk.injEq, and_true, true_and, Room, List.nil_append, Nat.zero_add, Int.not_lt, Int.not_le] at *
  all_goals first | trivial | omega | (simp_all; done) | (simp_all; omega) | grind)
def E93 : D.Env := E92.add 80 fIsComplete
theorem E93ok : EOk Tryz.prog E93 := E92ok.add k80_92
def fHasPresent : Fct := ⟨[.v (.el .tab)], [.el .bool], fun (x_ : STab × Unit) => True, fun (x_ : STab × Unit) => (decide (0 ≤ x_.1.at_ ∧ x_.1.at_ < x_.1.visits.length), ())⟩
-- impl.hasPresent
theorem k49_93 : fHasPresent.ok Tryz.prog 49 := Fct.of (S := fHasPresent) (L := fun _ _ => none) (kp := [1,2]) E93ok Tryz.func49 (by kernel_rfl) (by kernel_rfl) (by
  rintro ⟨(t : STab), _⟩ hp
  refine holds_of (X := .br (decide (t.at_ ≥ (0 : Int)))
 (.leaf (mkR fHasPresent.rs (decide (t.at_ < (↑t.visits.length : Int)), ())) [] [])
 (.leaf (mkR fHasPresent.rs (false, ())) [] [])) (by kernel_rfl) ?_
  refine br_i (fun h1 => Fct.leafY ?_) (fun h1 => Fct.leafY ?_)
  all_goals try simp only [decide_eq_true_eq, decide_eq_false_iff_not, Bool.not_eq_true', Bool.not_eq_false', bne_iff_ne, bne_eq_false_iff_eq, beq_iff_eq, beq_eq_false_iff_ne, baEq, Int.not_lt, Int.not_le, ne_eq, Decidable.not_not] at *
  all_goals try simp only [fHasPresent, etaToken, etaNode, etaBuilder, etaPolicy, etaPage, etaVisit, etaTab, etaServer, etaCache, etaNet, etaLoader, etaSheet, etaResult, etaSlot, etaModule, etaAddr, etaRequest, etaResponse, etaConn, etaGuess, etaEntry, etaSent, etaFile, baSz, List.size_toArray, List.length_cons, List.length_nil, Nat.reduceAdd, Int.toNat_zero, List.drop_zero, decide_eq_true_eq, decide_eq_false_iff_not, Bool.not_eq_true', Bool.not_eq_false', bne_iff_ne, bne_eq_false_iff_eq, beq_iff_eq, beq_eq_false_iff_ne, Bool.not_eq_true, Bool.not_eq_false, ne_eq, Decidable.not_not, baEq, decide_not, Prod.mk.injEq, and_true, true_and, Room, List.nil_append, Nat.zero_add, Int.not_lt, Int.not_le] at *
  all_goals try simp (disch := omega) only [wrapId', toNat1] at *
  all_goals try simp (disch := omega) only [if_pos, if_neg]
  all_goals first | trivial | omega | grind [wrapId', toNat1, drop_cons, drop_end, good_len, maxLen])
def E94 : D.Env := E93.add 49 fHasPresent
theorem E94ok : EOk Tryz.prog E94 := E93ok.add k49_93
def lTab : Fct := lawFS [.el .tab]
theorem szNode_get {l : List SNode} {i : Nat} (h : i < l.length) : (l.getD i default).attrs.length + l.length ≤ szL szNode l := by
  have := szL_get szNode h
  have h2 := szL_len szAttr (l.getD i default).attrs
  simp only [szNode] at this; omega
theorem szToken_get {l : List SToken} {i : Nat} (h : i < l.length) : (l.getD i default).attrs.length + l.length ≤ szL szToken l := by
  have := szL_get szToken h
  have h2 := szL_len szAttr (l.getD i default).attrs
  simp only [szToken] at this; omega
theorem szVisit_get {l : List SVisit} {i : Nat} (h : i < l.length) : szPage (l.getD i default).page + l.length ≤ szL szVisit l := by
  have := szL_get szVisit h
  simp only [szVisit] at this; omega
def fCopyAttrs : Fct := ⟨[.v (.sl .attr)], [.sl .attr], fun (x_ : (List SAttr) × Unit) => x_.1.length ≤ 1073741824, fun (x_ : (List SAttr) × Unit) => (x_.1, ())⟩
-- spec.l6Attrs
theorem k155_94 : fCopyAttrs.ok Tryz.prog 155 := Fct.of (S := fCopyAttrs) (L := fun _ _ => none) (kp := [0,2]) E94ok Tryz.func155 (by kernel_rfl) (by kernel_rfl) (by
  rintro ⟨(l : List SAttr), _⟩ hp
  refine holds_of (X := .ob (True) <|
 .ob (Room ((0 : Nat) + List.length l) (32 : Nat)) <|
 .leaf (mkR fCopyAttrs.rs ([] ++ l, ())) [] []) (by kernel_rfl) ?_
  refine ob_i trivial fun _ => ob_i ?_ fun o1 => Fct.leafY ?_
  all_goals try simp only [decide_eq_true_eq, decide_eq_false_iff_not, Bool.not_eq_true', Bool.not_eq_false', bne_iff_ne, bne_eq_false_iff_eq, beq_iff_eq, beq_eq_false_iff_ne, baEq, Int.not_lt, Int.not_le, ne_eq, Decidable.not_not] at *
  all_goals try simp only [fCopyAttrs, etaToken, etaNode, etaBuilder, etaPolicy, etaPage, etaVisit, etaTab, etaServer, etaCache, etaNet, etaLoader, etaSheet, etaResult, etaSlot, etaModule, etaAddr, etaRequest, etaResponse, etaConn, etaGuess, etaEntry, etaSent, etaFile, baSz, List.size_toArray, List.length_cons, List.length_nil, Nat.reduceAdd, Int.toNat_zero, List.drop_zero, decide_eq_true_eq, decide_eq_false_iff_not, Bool.not_eq_true', Bool.not_eq_false', bne_iff_ne, bne_eq_false_iff_eq, beq_iff_eq, beq_eq_false_iff_ne, Bool.not_eq_true, Bool.not_eq_false, ne_eq, Decidable.not_not, baEq, decide_not, Prod.mk.injEq, and_true, true_and, Room, List.nil_append, Nat.zero_add, Int.not_lt, Int.not_le] at *
  all_goals try simp (disch := omega) only [wrapId', toNat1] at *
  all_goals try simp (disch := omega) only [if_pos, if_neg]
  all_goals first | trivial | omega | grind [wrapId', toNat1, drop_cons, drop_end, good_len, maxLen])
def E95 : D.Env := E94.add 155 fCopyAttrs
theorem E95ok : EOk Tryz.prog E95 := E94ok.add k155_94
def fCopyToken : Fct := ⟨[.v (.el .token)], [.el .token], fun (x_ : SToken × Unit) => x_.1.attrs.length ≤ 1073741824, fun (x_ : SToken × Unit) => (x_.1, ())⟩
-- impl.copyToken
theorem k156_95 : fCopyToken.ok Tryz.prog 156 := Fct.of (S := fCopyToken) (L := fun _ _ => none) (kp := [1,2]) E95ok Tryz.func156 (by kernel_rfl) (by kernel_rfl) (by
  rintro ⟨(t : SToken), _⟩ hp
  refine holds_of (X := .ob (True) <|
 .ob (Room ((0 : Nat) + t.attrs.length) (32 : Nat)) <|
 .leaf (mkR fCopyToken.rs (⟨t.kind, t.name, [] ++ t.attrs, t.text⟩, ())) [] []) (by kernel_rfl) ?_
  refine ob_i trivial fun _ => ob_i ?_ fun o1 => Fct.leafY ?_
  all_goals try simp only [decide_eq_true_eq, decide_eq_false_iff_not, Bool.not_eq_true', Bool.not_eq_false', bne_iff_ne, bne_eq_false_iff_eq, beq_iff_eq, beq_eq_false_iff_ne, baEq, Int.not_lt, Int.not_le, ne_eq, Decidable.not_not] at *
  all_goals try simp only [fCopyToken, etaToken, etaNode, etaBuilder, etaPolicy, etaPage, etaVisit, etaTab, etaServer, etaCache, etaNet, etaLoader, etaSheet, etaResult, etaSlot, etaModule, etaAddr, etaRequest, etaResponse, etaConn, etaGuess, etaEntry, etaSent, etaFile, baSz, List.size_toArray, List.length_cons, List.length_nil, Nat.reduceAdd, Int.toNat_zero, List.drop_zero, decide_eq_true_eq, decide_eq_false_iff_not, Bool.not_eq_true', Bool.not_eq_false', bne_iff_ne, bne_eq_false_iff_eq, beq_iff_eq, beq_eq_false_iff_ne, Bool.not_eq_true, Bool.not_eq_false, ne_eq, Decidable.not_not, baEq, decide_not, Prod.mk.injEq, and_true, true_and, Room, List.nil_append, Nat.zero_add, Int.not_lt, Int.not_le] at *
  all_goals try simp (disch := omega) only [wrapId', toNat1] at *
  all_goals try simp (disch := omega) only [if_pos, if_neg]
  all_goals first | trivial | omega | grind [wrapId', toNat1, drop_cons, drop_end, good_len, maxLen])
def E96 : D.Env := E95.add 156 fCopyToken
theorem E96ok : EOk Tryz.prog E96 := E95ok.add k156_95
def fCopyTokens : Fct := ⟨[.v (.sl .token)], [.sl .token], fun (x_ : (List SToken) × Unit) => szL szToken x_.1 ≤ 1073741824, fun (x_ : (List SToken) × Unit) => (x_.1, ())⟩
abbrev W_spec_l15Tokens_fCopyTokens_3 (l : (List SToken)) : LInv := ⟨[⟨.s, 3, true, .sl .token⟩, ⟨.s, 4, true, .el .int⟩], fun _ (x_ : (List SToken) × Int × Unit) => 0 ≤ x_.2.1 ∧ x_.2.1 ≤ l.length ∧ x_.1 = l.take x_.2.1.toNat, fun (x_ : (List SToken) × Int × Unit) => l.length - x_.2.1.toNat⟩
-- spec.l15Tokens
theorem k114_96 : fCopyTokens.ok Tryz.prog 114 := Fct.of (S := fCopyTokens) (L := fun ⟨l, _⟩ => fun | 3 => some (W_spec_l15Tokens_fCopyTokens_3 l) | _ => none) (kp := [0,2,3,4,5,10,1000010]) E96ok Tryz.func114 (by kernel_rfl) (by kernel_rfl) (by
  rintro ⟨(l : List SToken), _⟩ hp
  refine holds_of (X := lpx (W_spec_l15Tokens_fCopyTokens_3 l) ([], ((0 : Int), ())) fun (y1 : List SToken × Int × PUnit) bk1 =>
 .br (decide (y1.snd.fst < (↑l.length : Int)))
  (.ob ((0 : Int) ≤ y1.snd.fst ∧ y1.snd.fst < (↑l.length : Int)) <|
   .ob ((0 : Int) ≤ y1.snd.fst ∧ y1.snd.fst < (↑l.length : Int)) <|
   .ob (fCopyAttrs.pre ((l.getD y1.snd.fst.toNat default).attrs, ())) <|
   .lt (List SAttr × PUnit) (fCopyAttrs.fn ((l.getD y1.snd.fst.toNat default).attrs, ())) fun z2 =>
   .ob (Room
  (y1.fst.length +
    [{ kind := (l.getD y1.snd.fst.toNat default).kind, name := (l.getD y1.snd.fst.toNat default).name, attrs := z2.fst,
          text := (l.getD y1.snd.fst.toNat default).text : SToken }].length)
  (64 : Nat)) <|
    .ob (l = l) <|
    .ob (bk1 (y1.fst ++
  [{ kind := (l.getD y1.snd.fst.toNat default).kind, name := (l.getD y1.snd.fst.toNat default).name, attrs := z2.fst,
      text := (l.getD y1.snd.fst.toNat default).text : SToken }], (IntKind.i64.wrap (y1.snd.fst + (1 : Int)), ()))) <|
    .ok)
  (.leaf (mkR fCopyTokens.rs (y1.fst, ())) [] [])) (by kernel_rfl) ?_
  refine lpx_i ?_ fun (y1 : List SToken × Int × PUnit) i1 => br_i (fun h2 => ob_i ?_ fun o3 => ob_i ?_ fun o4 => ob_i ?_ fun o5 => lt_i (ob_i ?_ fun o6 => ob_i rfl fun _ => ob_i ?_ fun o7 => trivial)) (fun h2 => Fct.leafY ?_)
  all_goals have hl := szL_len szToken l
  all_goals try have hg := szToken_get (l := l) (i := y1.2.1.toNat)
  all_goals try have hg := szToken_get (l := l) (i := y2.2.1.toNat)
  all_goals try simp only [decide_eq_true_eq, decide_eq_false_iff_not, Bool.not_eq_true', Bool.not_eq_false', bne_iff_ne, bne_eq_false_iff_eq, beq_iff_eq, beq_eq_false_iff_ne, baEq, Int.not_lt, Int.not_le, ne_eq, Decidable.not_not] at *
  all_goals try simp only [W_spec_l15Tokens_fCopyTokens_3, fCopyAttrs, fCopyTokens, etaToken, etaNode, etaBuilder, etaPolicy, etaPage, etaVisit, etaTab, etaServer, etaCache, etaNet, etaLoader, etaSheet, etaResult, etaSlot, etaModule, etaAddr, etaRequest, etaResponse, etaConn, etaGuess, etaEntry, etaSent, etaFile, baSz, List.size_toArray, List.length_cons, List.length_nil, Nat.reduceAdd, Int.toNat_zero, List.drop_zero, decide_eq_true_eq, decide_eq_false_iff_not, Bool.not_eq_true', Bool.not_eq_false', bne_iff_ne, bne_eq_false_iff_eq, beq_iff_eq, beq_eq_false_iff_ne, Bool.not_eq_true, Bool.not_eq_false, ne_eq, Decidable.not_not, baEq, decide_not, Prod.mk.injEq, and_true, true_and, Room, List.nil_append, Nat.zero_add, Int.not_lt, Int.not_le, fCopyAttrs, fCopyToken, take_succ, take_end] at *
  all_goals try simp (disch := omega) only [wrapId', toNat1] at *
  all_goals try simp (disch := omega) only [if_pos, if_neg]
  all_goals first | trivial | omega | grind [wrapId', toNat1, drop_cons, drop_end, good_len, maxLen, fCopyAttrs, fCopyToken, take_succ, take_end])
def E97 : D.Env := E96.add 114 fCopyTokens
theorem E97ok : EOk Tryz.prog E97 := E96ok.add k114_96
abbrev W_impl_copyTokens_fCopyTokens_3 (l : (List SToken)) : LInv := ⟨[⟨.s, 3, true, .sl .token⟩, ⟨.s, 9, true, .el .int⟩], fun _ (x_ : (List SToken) × Int × Unit) => 0 ≤ x_.2.1 ∧ x_.2.1 ≤ l.length ∧ x_.1 = l.take x_.2.1.toNat, fun (x_ : (List SToken) × Int × Unit) => l.length - x_.2.1.toNat⟩
-- impl.copyTokens
theorem k118_97 : fCopyTokens.ok Tryz.prog 118 := Fct.of (S := fCopyTokens) (L := fun ⟨l, _⟩ => fun | 3 => some (W_impl_copyTokens_fCopyTokens_3 l) | _ => none) (kp := [0,2,3,5,7,8,9,10,1000010]) E97ok Tryz.func118 (by kernel_rfl) (by kernel_rfl) (by
  rintro ⟨(l : List SToken), _⟩ hp
  refine holds_of (X := lpx (W_impl_copyTokens_fCopyTokens_3 l) ([], ((0 : Int), ())) fun (y1 : List SToken × Int × PUnit) bk1 =>
 .br (decide (y1.snd.fst < (↑l.length : Int)))
  (.ob ((0 : Int) ≤ y1.snd.fst ∧ y1.snd.fst < (↑l.length : Int)) <|
   .ob (fCopyToken.pre (l.getD y1.snd.fst.toNat default, ())) <|
   .lt (SToken × PUnit) (fCopyToken.fn (l.getD y1.snd.fst.toNat default, ())) fun z2 =>
   .ob (Room (y1.fst.length + [z2.fst].length) (64 : Nat)) <|
    .ob (l = l) <|
    .ob (l = l) <|
    .ob (Value.int IntKind.i64 (↑l.length : Int) = Value.int IntKind.i64 (↑l.length : Int)) <|
    .ob (bk1 (y1.fst ++ [z2.fst], (IntKind.i64.wrap (y1.snd.fst + (1 : Int)), ()))) <|
    .ok)
  (.leaf (mkR fCopyTokens.rs (y1.fst, ())) [] [])) (by kernel_rfl) ?_
  refine lpx_i ?_ fun (y1 : List SToken × Int × PUnit) i1 => br_i (fun h2 => ob_i ?_ fun o3 => ob_i ?_ fun o4 => lt_i (ob_i ?_ fun o5 => ob_i rfl fun _ => ob_i rfl fun _ => ob_i rfl fun _ => ob_i ?_ fun o6 => trivial)) (fun h2 => Fct.leafY ?_)
  all_goals have hl := szL_len szToken l
  all_goals try have hg := szToken_get (l := l) (i := y1.2.1.toNat)
  all_goals try have hg := szToken_get (l := l) (i := y2.2.1.toNat)
  all_goals try simp only [decide_eq_true_eq, decide_eq_false_iff_not, Bool.not_eq_true', Bool.not_eq_false', bne_iff_ne, bne_eq_false_iff_eq, beq_iff_eq, beq_eq_false_iff_ne, baEq, Int.not_lt, Int.not_le, ne_eq, Decidable.not_not] at *
  all_goals try simp only [W_impl_copyTokens_fCopyTokens_3, fCopyToken, fCopyTokens, etaToken, etaNode, etaBuilder, etaPolicy, etaPage, etaVisit, etaTab, etaServer, etaCache, etaNet, etaLoader, etaSheet, etaResult, etaSlot, etaModule, etaAddr, etaRequest, etaResponse, etaConn, etaGuess, etaEntry, etaSent, etaFile, baSz, List.size_toArray, List.length_cons, List.length_nil, Nat.reduceAdd, Int.toNat_zero, List.drop_zero, decide_eq_true_eq, decide_eq_false_iff_not, Bool.not_eq_true', Bool.not_eq_false', bne_iff_ne, bne_eq_false_iff_eq, beq_iff_eq, beq_eq_false_iff_ne, Bool.not_eq_true, Bool.not_eq_false, ne_eq, Decidable.not_not, baEq, decide_not, Prod.mk.injEq, and_true, true_and, Room, List.nil_append, Nat.zero_add, Int.not_lt, Int.not_le, fCopyAttrs, fCopyToken, take_succ, take_end] at *
  all_goals try simp (disch := omega) only [wrapId', toNat1] at *
  all_goals try simp (disch := omega) only [if_pos, if_neg]
  all_goals first | trivial | omega | grind [wrapId', toNat1, drop_cons, drop_end, good_len, maxLen, fCopyAttrs, fCopyToken, take_succ, take_end])
def E98 : D.Env := E97.add 118 fCopyTokens
theorem E98ok : EOk Tryz.prog E98 := E97ok.add k118_97
theorem builder_take {b : SBuilder} {n : Nat} (h : b.nodes.length ≤ n) : (⟨b.nodes.take n, b.open_⟩ : SBuilder) = b := by rw [List.take_of_length_le h]
def fCopyBuilder : Fct := ⟨[.v (.el .builder)], [.el .builder], fun (x_ : SBuilder × Unit) => szBuilder x_.1 ≤ 1073741824, fun (x_ : SBuilder × Unit) => (x_.1, ())⟩
abbrev W_spec_l6Copy_fCopyBuilder_3 (b : SBuilder) : LInv := ⟨[⟨.b, 3, true, .el .builder⟩, ⟨.s, 4, true, .el .int⟩, ⟨.b, 1, false, .el .builder⟩, ⟨.b, 2, true, .el .builder⟩], fun (z_ : SBuilder × Int × SBuilder × SBuilder × Unit) (x_ : SBuilder × Int × SBuilder × SBuilder × Unit) => ((0 ≤ x_.2.1 ∧ x_.2.1 ≤ b.nodes.length ∧ x_.1 = ⟨b.nodes.take x_.2.1.toNat, b.open_⟩) ∧ x_.2.2.1 = z_.2.2.1) ∧ x_.2.2.2.1 = z_.2.2.2.1, fun (x_ : SBuilder × Int × SBuilder × SBuilder × Unit) => b.nodes.length - x_.2.1.toNat⟩
-- spec.l6Copy
theorem k115_98 : fCopyBuilder.ok Tryz.prog 115 := Fct.of (S := fCopyBuilder) (L := fun ⟨b, _⟩ => fun | 3 => some (W_spec_l6Copy_fCopyBuilder_3 b) | _ => none) (kp := [1,2,3,4,5,15,1000015]) E98ok Tryz.func115 (by kernel_rfl) (by kernel_rfl) (by
  rintro ⟨(b : SBuilder), _⟩ hp
  refine holds_of (X := .ob (True) <|
 .ob (Room ((0 : Nat) + b.open_.length) (8 : Nat)) <|
 lpx (W_spec_l6Copy_fCopyBuilder_3 b) ({ nodes := [], open_ := [] ++ b.open_ : SBuilder }, ((0 : Int), (b, (default, ())))) fun (y2 : SBuilder × Int × SBuilder × SBuilder × PUnit) bk2 =>
 .br (decide (y2.snd.fst < (↑y2.snd.snd.fst.nodes.length : Int)))
  (.ob ((0 : Int) ≤ y2.snd.fst ∧ y2.snd.fst < (↑y2.snd.snd.fst.nodes.length : Int)) <|
   .ob ((0 : Int) ≤ y2.snd.fst ∧ y2.snd.fst < (↑y2.snd.snd.fst.nodes.length : Int)) <|
   .ob (fCopyAttrs.pre ((y2.snd.snd.fst.nodes.getD y2.snd.fst.toNat default).attrs, ())) <|
   .lt (List SAttr × PUnit) (fCopyAttrs.fn ((y2.snd.snd.fst.nodes.getD y2.snd.fst.toNat default).attrs, ())) fun z2 =>
   .ob (Room
  (y2.fst.nodes.length +
    [{ name := (y2.snd.snd.fst.nodes.getD y2.snd.fst.toNat default).name,
          text := (y2.snd.snd.fst.nodes.getD y2.snd.fst.toNat default).text,
          parent := (y2.snd.snd.fst.nodes.getD y2.snd.fst.toNat default).parent, attrs := z2.fst : SNode }].length)
  (64 : Nat)) <|
    .ob (bk2 ({
  nodes :=
    y2.fst.nodes ++
      [{ name := (y2.snd.snd.fst.nodes.getD y2.snd.fst.toNat default).name,
          text := (y2.snd.snd.fst.nodes.getD y2.snd.fst.toNat default).text,
          parent := (y2.snd.snd.fst.nodes.getD y2.snd.fst.toNat default).parent, attrs := z2.fst : SNode }],
  open_ := y2.fst.open_ : SBuilder }, (IntKind.i64.wrap (y2.snd.fst + (1 : Int)), (y2.snd.snd.fst, (y2.snd.snd.snd.fst, ()))))) <|
    .ok)
  (.leaf (mkR fCopyBuilder.rs (y2.fst, ())) [] [])) (by kernel_rfl) ?_
  refine ob_i trivial fun _ => ob_i ?_ fun o1 => lpx_i ?_ fun (y2 : SBuilder × Int × SBuilder × SBuilder × PUnit) i2 => br_i (fun h3 => ob_i ?_ fun o4 => ob_i ?_ fun o5 => ob_i ?_ fun o6 => lt_i (ob_i ?_ fun o7 => ob_i ?_ fun o8 => trivial)) (fun h3 => Fct.leafY ?_)
  all_goals have hl := szL_len szNode b.nodes
  all_goals try have hg := szNode_get (l := b.nodes) (i := y1.2.1.toNat)
  all_goals try have hg := szNode_get (l := b.nodes) (i := y2.2.1.toNat)
  all_goals try simp only [decide_eq_true_eq, decide_eq_false_iff_not, Bool.not_eq_true', Bool.not_eq_false', bne_iff_ne, bne_eq_false_iff_eq, beq_iff_eq, beq_eq_false_iff_ne, baEq, Int.not_lt, Int.not_le, ne_eq, Decidable.not_not] at *
  all_goals try simp only [W_spec_l6Copy_fCopyBuilder_3, fCopyAttrs, fCopyBuilder, etaToken, etaNode, etaBuilder, etaPolicy, etaPage, etaVisit, etaTab, etaServer, etaCache, etaNet, etaLoader, etaSheet, etaResult, etaSlot, etaModule, etaAddr, etaRequest, etaResponse, etaConn, etaGuess, etaEntry, etaSent, etaFile, baSz, List.size_toArray, List.length_cons, List.length_nil, Nat.reduceAdd, Int.toNat_zero, List.drop_zero, decide_eq_true_eq, decide_eq_false_iff_not, Bool.not_eq_true', Bool.not_eq_false', bne_iff_ne, bne_eq_false_iff_eq, beq_iff_eq, beq_eq_false_iff_ne, Bool.not_eq_true, Bool.not_eq_false, ne_eq, Decidable.not_not, baEq, decide_not, Prod.mk.injEq, and_true, true_and, Room, List.nil_append, Nat.zero_add, Int.not_lt, Int.not_le, fCopyAttrs, take_succ, builder_take, szBuilder] at *
  all_goals try simp (disch := omega) only [wrapId', toNat1] at *
  all_goals try simp (disch := omega) only [if_pos, if_neg]
  all_goals first | trivial | omega | grind [wrapId', toNat1, drop_cons, drop_end, good_len, maxLen, fCopyAttrs, take_succ, builder_take, szBuilder])
def E99 : D.Env := E98.add 115 fCopyBuilder
theorem E99ok : EOk Tryz.prog E99 := E98ok.add k115_98
abbrev W_impl_copyBuilder_fCopyBuilder_3 (b : SBuilder) : LInv := ⟨[⟨.b, 3, true, .el .builder⟩, ⟨.s, 14, true, .el .int⟩, ⟨.b, 2, true, .el .builder⟩], fun (z_ : SBuilder × Int × SBuilder × Unit) (x_ : SBuilder × Int × SBuilder × Unit) => (0 ≤ x_.2.1 ∧ x_.2.1 ≤ b.nodes.length ∧ x_.1 = ⟨b.nodes.take x_.2.1.toNat, b.open_⟩) ∧ x_.2.2.1 = z_.2.2.1, fun (x_ : SBuilder × Int × SBuilder × Unit) => b.nodes.length - x_.2.1.toNat⟩
-- impl.copyBuilder
theorem k119_99 : fCopyBuilder.ok Tryz.prog 119 := Fct.of (S := fCopyBuilder) (L := fun ⟨b, _⟩ => fun | 3 => some (W_impl_copyBuilder_fCopyBuilder_3 b) | _ => none) (kp := [1,2,3,5,12,13,14,15,1000015]) E99ok Tryz.func119 (by kernel_rfl) (by kernel_rfl) (by
  rintro ⟨(b : SBuilder), _⟩ hp
  refine holds_of (X := .ob (True) <|
 .ob (Room ((0 : Nat) + b.open_.length) (8 : Nat)) <|
 lpx (W_impl_copyBuilder_fCopyBuilder_3 b) ({ nodes := [], open_ := [] ++ b.open_ : SBuilder }, ((0 : Int), (default, ()))) fun (y2 : SBuilder × Int × SBuilder × PUnit) bk2 =>
 .br (decide (y2.snd.fst < (↑b.nodes.length : Int)))
  (.ob ((0 : Int) ≤ y2.snd.fst ∧ y2.snd.fst < (↑b.nodes.length : Int)) <|
   .ob (True) <|
   .ob (Room ((0 : Nat) + (b.nodes.getD y2.snd.fst.toNat default).attrs.length) (32 : Nat)) <|
   .ob (Room
  (y2.fst.nodes.length +
    [{ name := (b.nodes.getD y2.snd.fst.toNat default).name, text := (b.nodes.getD y2.snd.fst.toNat default).text,
          parent := (b.nodes.getD y2.snd.fst.toNat default).parent,
          attrs := [] ++ (b.nodes.getD y2.snd.fst.toNat default).attrs : SNode }].length)
  (64 : Nat)) <|
   .ob (b.nodes = b.nodes) <|
   .ob (Value.int IntKind.i64 (↑b.nodes.length : Int) = Value.int IntKind.i64 (↑b.nodes.length : Int)) <|
   .ob (bk2 ({
  nodes :=
    y2.fst.nodes ++
      [{ name := (b.nodes.getD y2.snd.fst.toNat default).name, text := (b.nodes.getD y2.snd.fst.toNat default).text,
          parent := (b.nodes.getD y2.snd.fst.toNat default).parent,
          attrs := [] ++ (b.nodes.getD y2.snd.fst.toNat default).attrs : SNode }],
  open_ := y2.fst.open_ : SBuilder }, (IntKind.i64.wrap (y2.snd.fst + (1 : Int)), (y2.snd.snd.fst, ())))) <|
   .ok)
  (.leaf (mkR fCopyBuilder.rs (y2.fst, ())) [] [])) (by kernel_rfl) ?_
  refine ob_i trivial fun _ => ob_i ?_ fun o1 => lpx_i ?_ fun (y2 : SBuilder × Int × SBuilder × PUnit) i2 => br_i (fun h3 => ob_i ?_ fun o4 => ob_i trivial fun _ => ob_i ?_ fun o5 => ob_i ?_ fun o6 => ob_i rfl fun _ => ob_i rfl fun _ => ob_i ?_ fun o7 => trivial) (fun h3 => Fct.leafY ?_)
  all_goals have hl := szL_len szNode b.nodes
  all_goals try have hg := szNode_get (l := b.nodes) (i := y1.2.1.toNat)
  all_goals try have hg := szNode_get (l := b.nodes) (i := y2.2.1.toNat)
  all_goals try simp only [decide_eq_true_eq, decide_eq_false_iff_not, Bool.not_eq_true', Bool.not_eq_false', bne_iff_ne, bne_eq_false_iff_eq, beq_iff_eq, beq_eq_false_iff_ne, baEq, Int.not_lt, Int.not_le, ne_eq, Decidable.not_not] at *
  all_goals try simp only [W_impl_copyBuilder_fCopyBuilder_3, fCopyBuilder, etaToken, etaNode, etaBuilder, etaPolicy, etaPage, etaVisit, etaTab, etaServer, etaCache, etaNet, etaLoader, etaSheet, etaResult, etaSlot, etaModule, etaAddr, etaRequest, etaResponse, etaConn, etaGuess, etaEntry, etaSent, etaFile, baSz, List.size_toArray, List.length_cons, List.length_nil, Nat.reduceAdd, Int.toNat_zero, List.drop_zero, decide_eq_true_eq, decide_eq_false_iff_not, Bool.not_eq_true', Bool.not_eq_false', bne_iff_ne, bne_eq_false_iff_eq, beq_iff_eq, beq_eq_false_iff_ne, Bool.not_eq_true, Bool.not_eq_false, ne_eq, Decidable.not_not, baEq, decide_not, Prod.mk.injEq, and_true, true_and, Room, List.nil_append, Nat.zero_add, Int.not_lt, Int.not_le, fCopyAttrs, take_succ, builder_take, szBuilder] at *
  all_goals try simp (disch := omega) only [wrapId', toNat1] at *
  all_goals try simp (disch := omega) only [if_pos, if_neg]
  all_goals first | trivial | omega | grind [wrapId', toNat1, drop_cons, drop_end, good_len, maxLen, fCopyAttrs, take_succ, builder_take, szBuilder])
def E100 : D.Env := E99.add 119 fCopyBuilder
theorem E100ok : EOk Tryz.prog E100 := E99ok.add k119_99
def fCopyPolicy : Fct := ⟨[.v (.el .policy)], [.el .policy], fun (x_ : SPolicy × Unit) => szPolicy x_.1 ≤ 1073741824, fun (x_ : SPolicy × Unit) => (x_.1, ())⟩
-- spec.l9Copy
theorem k113_100 : fCopyPolicy.ok Tryz.prog 113 := Fct.of (S := fCopyPolicy) (L := fun _ _ => none) (kp := [1,2]) E100ok Tryz.func113 (by kernel_rfl) (by kernel_rfl) (by
  rintro ⟨(p : SPolicy), _⟩ hp
  refine holds_of (X := .ob (True) <|
 .ob (Room p.scripts.length (16 : Nat)) <|
 .ob (True) <|
 .ob (Room p.styles.length (16 : Nat)) <|
 .ob (True) <|
 .ob (Room p.images.length (16 : Nat)) <|
 .leaf (mkR fCopyPolicy.rs (p, ())) [] []) (by kernel_rfl) ?_
  refine ob_i trivial fun _ => ob_i ?_ fun o1 => ob_i trivial fun _ => ob_i ?_ fun o2 => ob_i trivial fun _ => ob_i ?_ fun o3 => Fct.leafY ?_
  all_goals have hl1 := szL_len szString p.scripts
  all_goals have hl2 := szL_len szString p.styles
  all_goals have hl3 := szL_len szString p.images
  all_goals try simp only [decide_eq_true_eq, decide_eq_false_iff_not, Bool.not_eq_true', Bool.not_eq_false', bne_iff_ne, bne_eq_false_iff_eq, beq_iff_eq, beq_eq_false_iff_ne, baEq, Int.not_lt, Int.not_le, ne_eq, Decidable.not_not] at *
  all_goals try simp only [fCopyPolicy, etaToken, etaNode, etaBuilder, etaPolicy, etaPage, etaVisit, etaTab, etaServer, etaCache, etaNet, etaLoader, etaSheet, etaResult, etaSlot, etaModule, etaAddr, etaRequest, etaResponse, etaConn, etaGuess, etaEntry, etaSent, etaFile, baSz, List.size_toArray, List.length_cons, List.length_nil, Nat.reduceAdd, Int.toNat_zero, List.drop_zero, decide_eq_true_eq, decide_eq_false_iff_not, Bool.not_eq_true', Bool.not_eq_false', bne_iff_ne, bne_eq_false_iff_eq, beq_iff_eq, beq_eq_false_iff_ne, Bool.not_eq_true, Bool.not_eq_false, ne_eq, Decidable.not_not, baEq, decide_not, Prod.mk.injEq, and_true, true_and, Room, List.nil_append, Nat.zero_add, Int.not_lt, Int.not_le, szPolicy] at *
  all_goals try simp (disch := omega) only [wrapId', toNat1] at *
  all_goals try simp (disch := omega) only [if_pos, if_neg]
  all_goals first | trivial | omega | grind [wrapId', toNat1, drop_cons, drop_end, good_len, maxLen, szPolicy])
def E101 : D.Env := E100.add 113 fCopyPolicy
theorem E101ok : EOk Tryz.prog E101 := E100ok.add k113_100
-- impl.copyPolicy
theorem k117_101 : fCopyPolicy.ok Tryz.prog 117 := Fct.of (S := fCopyPolicy) (L := fun _ _ => none) (kp := [1,2]) E101ok Tryz.func117 (by kernel_rfl) (by kernel_rfl) (by
  rintro ⟨(p : SPolicy), _⟩ hp
  refine holds_of (X := .ob (True) <|
 .ob (Room ((0 : Nat) + p.scripts.length) (16 : Nat)) <|
 .ob (True) <|
 .ob (Room ((0 : Nat) + p.styles.length) (16 : Nat)) <|
 .ob (True) <|
 .ob (Room ((0 : Nat) + p.images.length) (16 : Nat)) <|
 .leaf (mkR fCopyPolicy.rs (⟨p.set_, [] ++ p.scripts, [] ++ p.styles, [] ++ p.images, p.nonce⟩, ())) [] []) (by kernel_rfl) ?_
  refine ob_i trivial fun _ => ob_i ?_ fun o1 => ob_i trivial fun _ => ob_i ?_ fun o2 => ob_i trivial fun _ => ob_i ?_ fun o3 => Fct.leafY ?_
  all_goals have hl1 := szL_len szString p.scripts
  all_goals have hl2 := szL_len szString p.styles
  all_goals have hl3 := szL_len szString p.images
  all_goals try simp only [decide_eq_true_eq, decide_eq_false_iff_not, Bool.not_eq_true', Bool.not_eq_false', bne_iff_ne, bne_eq_false_iff_eq, beq_iff_eq, beq_eq_false_iff_ne, baEq, Int.not_lt, Int.not_le, ne_eq, Decidable.not_not] at *
  all_goals try simp only [fCopyPolicy, etaToken, etaNode, etaBuilder, etaPolicy, etaPage, etaVisit, etaTab, etaServer, etaCache, etaNet, etaLoader, etaSheet, etaResult, etaSlot, etaModule, etaAddr, etaRequest, etaResponse, etaConn, etaGuess, etaEntry, etaSent, etaFile, baSz, List.size_toArray, List.length_cons, List.length_nil, Nat.reduceAdd, Int.toNat_zero, List.drop_zero, decide_eq_true_eq, decide_eq_false_iff_not, Bool.not_eq_true', Bool.not_eq_false', bne_iff_ne, bne_eq_false_iff_eq, beq_iff_eq, beq_eq_false_iff_ne, Bool.not_eq_true, Bool.not_eq_false, ne_eq, Decidable.not_not, baEq, decide_not, Prod.mk.injEq, and_true, true_and, Room, List.nil_append, Nat.zero_add, Int.not_lt, Int.not_le, szPolicy] at *
  all_goals try simp (disch := omega) only [wrapId', toNat1] at *
  all_goals try simp (disch := omega) only [if_pos, if_neg]
  all_goals first | trivial | omega | grind [wrapId', toNat1, drop_cons, drop_end, good_len, maxLen, szPolicy])
def E102 : D.Env := E101.add 117 fCopyPolicy
theorem E102ok : EOk Tryz.prog E102 := E101ok.add k117_101
def fCopyPage : Fct := ⟨[.v (.el .page)], [.el .page], fun (x_ : SPage × Unit) => szPage x_.1 ≤ 1073741824, fun (x_ : SPage × Unit) => (x_.1, ())⟩
-- spec.l15Copy
theorem k47_102 : fCopyPage.ok Tryz.prog 47 := Fct.of (S := fCopyPage) (L := fun _ _ => none) (kp := [1,2,3]) E102ok Tryz.func47 (by kernel_rfl) (by kernel_rfl) (by
  rintro ⟨(p : SPage), _⟩ hp
  refine holds_of (X := .ob (fCopyPolicy.pre (p.policy, ())) <|
 .lt (SPolicy × PUnit) (fCopyPolicy.fn (p.policy, ())) fun z2 =>
 .ob (fCopyTokens.pre (p.queue, ())) <|
  .lt (List SToken × PUnit) (fCopyTokens.fn (p.queue, ())) fun z3 =>
  .ob (fCopyBuilder.pre (p.builder, ())) <|
   .lt (SBuilder × PUnit) (fCopyBuilder.fn (p.builder, ())) fun z4 =>
   .ob (True) <|
    .ob (Room ((0 : Nat) + p.slots.length) (96 : Nat)) <|
    .ob (True) <|
    .ob (Room ((0 : Nat) + p.mods.length) (64 : Nat)) <|
    .ob (True) <|
    .ob (Room ((0 : Nat) + p.entries.length) (32 : Nat)) <|
    .ob (True) <|
    .ob (Room ((0 : Nat) + p.ran.length) (32 : Nat)) <|
    .ob (True) <|
    .ob (Room ((0 : Nat) + p.log.length) (16 : Nat)) <|
    .leaf (mkR fCopyPage.rs (⟨p.addr, z2.fst, p.tok, z3.fst, p.ended, z4.fst, [] ++ p.slots, [] ++ p.mods, [] ++ p.entries, p.block, p.inline, p.deferred, p.entered, [] ++ p.ran, [] ++ p.log, p.loaded⟩, ())) [] []) (by kernel_rfl) ?_
  refine ob_i ?_ fun o1 => lt_i (ob_i ?_ fun o2 => lt_i (ob_i ?_ fun o3 => lt_i (ob_i trivial fun _ => ob_i ?_ fun o4 => ob_i trivial fun _ => ob_i ?_ fun o5 => ob_i trivial fun _ => ob_i ?_ fun o6 => ob_i trivial fun _ => ob_i ?_ fun o7 => ob_i trivial fun _ => ob_i ?_ fun o8 => Fct.leafY ?_)))
  all_goals have hl1 := szL_len szSlot p.slots
  all_goals have hl2 := szL_len szModule p.mods
  all_goals have hl3 := szL_len szAddr p.entries
  all_goals have hl4 := szL_len szAddr p.ran
  all_goals have hl5 := szL_len szString p.log
  all_goals try simp only [decide_eq_true_eq, decide_eq_false_iff_not, Bool.not_eq_true', Bool.not_eq_false', bne_iff_ne, bne_eq_false_iff_eq, beq_iff_eq, beq_eq_false_iff_ne, baEq, Int.not_lt, Int.not_le, ne_eq, Decidable.not_not] at *
  all_goals try simp only [fCopyBuilder, fCopyPage, fCopyPolicy, fCopyTokens, etaToken, etaNode, etaBuilder, etaPolicy, etaPage, etaVisit, etaTab, etaServer, etaCache, etaNet, etaLoader, etaSheet, etaResult, etaSlot, etaModule, etaAddr, etaRequest, etaResponse, etaConn, etaGuess, etaEntry, etaSent, etaFile, baSz, List.size_toArray, List.length_cons, List.length_nil, Nat.reduceAdd, Int.toNat_zero, List.drop_zero, decide_eq_true_eq, decide_eq_false_iff_not, Bool.not_eq_true', Bool.not_eq_false', bne_iff_ne, bne_eq_false_iff_eq, beq_iff_eq, beq_eq_false_iff_ne, Bool.not_eq_true, Bool.not_eq_false, ne_eq, Decidable.not_not, baEq, decide_not, Prod.mk.injEq, and_true, true_and, Room, List.nil_append, Nat.zero_add, Int.not_lt, Int.not_le, szPage, fCopyPolicy, fCopyTokens, fCopyBuilder] at *
  all_goals try simp (disch := omega) only [wrapId', toNat1] at *
  all_goals try simp (disch := omega) only [if_pos, if_neg]
  all_goals first | trivial | omega | grind [wrapId', toNat1, drop_cons, drop_end, good_len, maxLen, szPage, fCopyPolicy, fCopyTokens, fCopyBuilder])
def E103 : D.Env := E102.add 47 fCopyPage
theorem E103ok : EOk Tryz.prog E103 := E102ok.add k47_102
-- impl.copyPage
theorem k50_103 : fCopyPage.ok Tryz.prog 50 := Fct.of (S := fCopyPage) (L := fun _ _ => none) (kp := [1,2]) E103ok Tryz.func50 (by kernel_rfl) (by kernel_rfl) (by
  rintro ⟨(p : SPage), _⟩ hp
  refine holds_of (X := .ob (fCopyPolicy.pre (p.policy, ())) <|
 .lt (SPolicy × PUnit) (fCopyPolicy.fn (p.policy, ())) fun z2 =>
 .ob (fCopyTokens.pre (p.queue, ())) <|
  .lt (List SToken × PUnit) (fCopyTokens.fn (p.queue, ())) fun z3 =>
  .ob (fCopyBuilder.pre (p.builder, ())) <|
   .lt (SBuilder × PUnit) (fCopyBuilder.fn (p.builder, ())) fun z4 =>
   .ob (True) <|
    .ob (Room ((0 : Nat) + p.slots.length) (96 : Nat)) <|
    .ob (True) <|
    .ob (Room ((0 : Nat) + p.mods.length) (64 : Nat)) <|
    .ob (True) <|
    .ob (Room ((0 : Nat) + p.entries.length) (32 : Nat)) <|
    .ob (True) <|
    .ob (Room ((0 : Nat) + p.ran.length) (32 : Nat)) <|
    .ob (True) <|
    .ob (Room ((0 : Nat) + p.log.length) (16 : Nat)) <|
    .leaf (mkR fCopyPage.rs (⟨p.addr, z2.fst, p.tok, z3.fst, p.ended, z4.fst, [] ++ p.slots, [] ++ p.mods, [] ++ p.entries, p.block, p.inline, p.deferred, p.entered, [] ++ p.ran, [] ++ p.log, p.loaded⟩, ())) [] []) (by kernel_rfl) ?_
  refine ob_i ?_ fun o1 => lt_i (ob_i ?_ fun o2 => lt_i (ob_i ?_ fun o3 => lt_i (ob_i trivial fun _ => ob_i ?_ fun o4 => ob_i trivial fun _ => ob_i ?_ fun o5 => ob_i trivial fun _ => ob_i ?_ fun o6 => ob_i trivial fun _ => ob_i ?_ fun o7 => ob_i trivial fun _ => ob_i ?_ fun o8 => Fct.leafY ?_)))
  all_goals have hl1 := szL_len szSlot p.slots
  all_goals have hl2 := szL_len szModule p.mods
  all_goals have hl3 := szL_len szAddr p.entries
  all_goals have hl4 := szL_len szAddr p.ran
  all_goals have hl5 := szL_len szString p.log
  all_goals try simp only [decide_eq_true_eq, decide_eq_false_iff_not, Bool.not_eq_true', Bool.not_eq_false', bne_iff_ne, bne_eq_false_iff_eq, beq_iff_eq, beq_eq_false_iff_ne, baEq, Int.not_lt, Int.not_le, ne_eq, Decidable.not_not] at *
  all_goals try simp only [fCopyBuilder, fCopyPage, fCopyPolicy, fCopyTokens, etaToken, etaNode, etaBuilder, etaPolicy, etaPage, etaVisit, etaTab, etaServer, etaCache, etaNet, etaLoader, etaSheet, etaResult, etaSlot, etaModule, etaAddr, etaRequest, etaResponse, etaConn, etaGuess, etaEntry, etaSent, etaFile, baSz, List.size_toArray, List.length_cons, List.length_nil, Nat.reduceAdd, Int.toNat_zero, List.drop_zero, decide_eq_true_eq, decide_eq_false_iff_not, Bool.not_eq_true', Bool.not_eq_false', bne_iff_ne, bne_eq_false_iff_eq, beq_iff_eq, beq_eq_false_iff_ne, Bool.not_eq_true, Bool.not_eq_false, ne_eq, Decidable.not_not, baEq, decide_not, Prod.mk.injEq, and_true, true_and, Room, List.nil_append, Nat.zero_add, Int.not_lt, Int.not_le, szPage, fCopyPolicy, fCopyTokens, fCopyBuilder] at *
  all_goals try simp (disch := omega) only [wrapId', toNat1] at *
  all_goals try simp (disch := omega) only [if_pos, if_neg]
  all_goals first | trivial | omega | grind [wrapId', toNat1, drop_cons, drop_end, good_len, maxLen, szPage, fCopyPolicy, fCopyTokens, fCopyBuilder])
def E104 : D.Env := E103.add 50 fCopyPage
theorem E104ok : EOk Tryz.prog E104 := E103ok.add k50_103
def presentPage (t : STab) : SPage × Bool := if 0 ≤ t.at_ ∧ t.at_ < t.visits.length ∧ (t.visits.getD t.at_.toNat default).kept then ((t.visits.getD t.at_.toNat default).page, true) else (default, false)
def fPresentPage : Fct := ⟨[.v (.el .tab)], [.el .page, .el .bool], fun (x_ : STab × Unit) => szTab x_.1 ≤ 1073741824, fun (x_ : STab × Unit) => ((presentPage x_.1).1, (presentPage x_.1).2, ())⟩
-- spec.PresentPage
theorem k16_104 : fPresentPage.ok Tryz.prog 16 := Fct.of (S := fPresentPage) (L := fun _ _ => none) (kp := [1,2,3,21,1000021]) E104ok Tryz.func16 (by kernel_rfl) (by kernel_rfl) (by
  rintro ⟨(t : STab), _⟩ hp
  refine holds_of (X := .ob (fInRange.pre (t.at_, (0 : Int), IntKind.i64.wrap ((↑t.visits.length : Int) - (1 : Int)), ())) <|
 .lt (Bool × PUnit) (fInRange.fn (t.at_, (0 : Int), IntKind.i64.wrap ((↑t.visits.length : Int) - (1 : Int)), ())) fun z2 =>
 .br (!z2.fst)
  (.leaf (.tup [(true, [vs ({ data := #[] : ByteArray }), vs ({ data := #[] : ByteArray }), vb (false), .nl, .nl, .nl, vs ({ data := #[] : ByteArray }), vs ({ data := #[] : ByteArray }), .nl, vb (false), .nl, .nl, .nl, .nl, .nl, vi ((0 : Int)), vi ((0 : Int)), vi ((0 : Int)), vi ((0 : Int)), .nl, .nl, vb (false)]), (false, [vb (false)])]) [] [])
  (.ob ((0 : Int) ≤ t.at_ ∧ t.at_ < (↑t.visits.length : Int)) <|
   .br (!(t.visits.getD t.at_.toNat default).kept)
   (.leaf (.tup [(true, [vs ({ data := #[] : ByteArray }), vs ({ data := #[] : ByteArray }), vb (false), .nl, .nl, .nl, vs ({ data := #[] : ByteArray }), vs ({ data := #[] : ByteArray }), .nl, vb (false), .nl, .nl, .nl, .nl, .nl, vi ((0 : Int)), vi ((0 : Int)), vi ((0 : Int)), vi ((0 : Int)), .nl, .nl, vb (false)]), (false, [vb (false)])]) [] [])
   (.ob ((0 : Int) ≤ t.at_ ∧ t.at_ < (↑t.visits.length : Int)) <|
    .ob (fCopyPage.pre ((t.visits.getD t.at_.toNat default).page, ())) <|
    .lt (SPage × PUnit) (fCopyPage.fn ((t.visits.getD t.at_.toNat default).page, ())) fun z3 =>
    .leaf (mkR fPresentPage.rs (z3.fst, true, ())) [] []))) (by kernel_rfl) ?_
  refine ob_i trivial fun _ => lt_i (br_i (fun h1 => Fct.leafZ (default, false, ()) (by repeat' first | exact rfl | exact trivial | refine And.intro ?_ ?_) ?_) (fun h1 => ob_i ?_ fun o2 => br_i (fun h3 => Fct.leafZ (default, false, ()) (by repeat' first | exact rfl | exact trivial | refine And.intro ?_ ?_) ?_) (fun h3 => ob_i ?_ fun o4 => ob_i ?_ fun o5 => lt_i (Fct.leafY ?_))))
  all_goals have hl := szL_len szVisit t.visits
  all_goals have hg := szVisit_get (l := t.visits) (i := t.at_.toNat)
  all_goals try simp only [decide_eq_true_eq, decide_eq_false_iff_not, Bool.not_eq_true', Bool.not_eq_false', bne_iff_ne, bne_eq_false_iff_eq, beq_iff_eq, beq_eq_false_iff_ne, baEq, Int.not_lt, Int.not_le, ne_eq, Decidable.not_not] at *
  all_goals try simp only [fCopyPage, fInRange, fPresentPage, etaToken, etaNode, etaBuilder, etaPolicy, etaPage, etaVisit, etaTab, etaServer, etaCache, etaNet, etaLoader, etaSheet, etaResult, etaSlot, etaModule, etaAddr, etaRequest, etaResponse, etaConn, etaGuess, etaEntry, etaSent, etaFile, baSz, List.size_toArray, List.length_cons, List.length_nil, Nat.reduceAdd, Int.toNat_zero, List.drop_zero, decide_eq_true_eq, decide_eq_false_iff_not, Bool.not_eq_true', Bool.not_eq_false', bne_iff_ne, bne_eq_false_iff_eq, beq_iff_eq, beq_eq_false_iff_ne, Bool.not_eq_true, Bool.not_eq_false, ne_eq, Decidable.not_not, baEq, decide_not, Prod.mk.injEq, and_true, true_and, Room, List.nil_append, Nat.zero_add, Int.not_lt, Int.not_le, szTab, presentPage, fCopyPage, fInRange, inRange, fHasPresent] at *
  all_goals try simp (disch := omega) only [wrapId', toNat1] at *
  all_goals try simp (disch := omega) only [if_pos, if_neg]
  all_goals first | trivial | omega | grind [wrapId', toNat1, drop_cons, drop_end, good_len, maxLen, szTab, presentPage, fCopyPage, fInRange, inRange, fHasPresent])
def E105 : D.Env := E104.add 16 fPresentPage
theorem E105ok : EOk Tryz.prog E105 := E104ok.add k16_104
-- impl.PresentPage
theorem k18_105 : fPresentPage.ok Tryz.prog 18 := Fct.of (S := fPresentPage) (L := fun _ _ => none) (kp := [1,2,3,16,1000016]) E105ok Tryz.func18 (by kernel_rfl) (by kernel_rfl) (by
  rintro ⟨(t : STab), _⟩ hp
  refine holds_of (X := .ob (fHasPresent.pre (t, ())) <|
 .lt (Bool × PUnit) (fHasPresent.fn (t, ())) fun z2 =>
 .br (!z2.fst)
  (.leaf (.tup [(true, [vs ({ data := #[] : ByteArray }), vs ({ data := #[] : ByteArray }), vb (false), .nl, .nl, .nl, vs ({ data := #[] : ByteArray }), vs ({ data := #[] : ByteArray }), .nl, vb (false), .nl, .nl, .nl, .nl, .nl, vi ((0 : Int)), vi ((0 : Int)), vi ((0 : Int)), vi ((0 : Int)), .nl, .nl, vb (false)]), (false, [vb (false)])]) [] [])
  (.ob ((0 : Int) ≤ t.at_ ∧ t.at_ < (↑t.visits.length : Int)) <|
   .br (!(t.visits.getD t.at_.toNat default).kept)
   (.leaf (.tup [(true, [vs ({ data := #[] : ByteArray }), vs ({ data := #[] : ByteArray }), vb (false), .nl, .nl, .nl, vs ({ data := #[] : ByteArray }), vs ({ data := #[] : ByteArray }), .nl, vb (false), .nl, .nl, .nl, .nl, .nl, vi ((0 : Int)), vi ((0 : Int)), vi ((0 : Int)), vi ((0 : Int)), .nl, .nl, vb (false)]), (false, [vb (false)])]) [] [])
   (.ob ((0 : Int) ≤ t.at_ ∧ t.at_ < (↑t.visits.length : Int)) <|
    .ob (fCopyPage.pre ((t.visits.getD t.at_.toNat default).page, ())) <|
    .lt (SPage × PUnit) (fCopyPage.fn ((t.visits.getD t.at_.toNat default).page, ())) fun z3 =>
    .leaf (mkR fPresentPage.rs (z3.fst, true, ())) [] []))) (by kernel_rfl) ?_
  refine ob_i trivial fun _ => lt_i (br_i (fun h1 => Fct.leafZ (default, false, ()) (by repeat' first | exact rfl | exact trivial | refine And.intro ?_ ?_) ?_) (fun h1 => ob_i ?_ fun o2 => br_i (fun h3 => Fct.leafZ (default, false, ()) (by repeat' first | exact rfl | exact trivial | refine And.intro ?_ ?_) ?_) (fun h3 => ob_i ?_ fun o4 => ob_i ?_ fun o5 => lt_i (Fct.leafY ?_))))
  all_goals have hl := szL_len szVisit t.visits
  all_goals have hg := szVisit_get (l := t.visits) (i := t.at_.toNat)
  all_goals try simp only [decide_eq_true_eq, decide_eq_false_iff_not, Bool.not_eq_true', Bool.not_eq_false', bne_iff_ne, bne_eq_false_iff_eq, beq_iff_eq, beq_eq_false_iff_ne, baEq, Int.not_lt, Int.not_le, ne_eq, Decidable.not_not] at *
  all_goals try simp only [fCopyPage, fHasPresent, fPresentPage, etaToken, etaNode, etaBuilder, etaPolicy, etaPage, etaVisit, etaTab, etaServer, etaCache, etaNet, etaLoader, etaSheet, etaResult, etaSlot, etaModule, etaAddr, etaRequest, etaResponse, etaConn, etaGuess, etaEntry, etaSent, etaFile, baSz, List.size_toArray, List.length_cons, List.length_nil, Nat.reduceAdd, Int.toNat_zero, List.drop_zero, decide_eq_true_eq, decide_eq_false_iff_not, Bool.not_eq_true', Bool.not_eq_false', bne_iff_ne, bne_eq_false_iff_eq, beq_iff_eq, beq_eq_false_iff_ne, Bool.not_eq_true, Bool.not_eq_false, ne_eq, Decidable.not_not, baEq, decide_not, Prod.mk.injEq, and_true, true_and, Room, List.nil_append, Nat.zero_add, Int.not_lt, Int.not_le, szTab, presentPage, fCopyPage, fInRange, inRange, fHasPresent] at *
  all_goals try simp (disch := omega) only [wrapId', toNat1] at *
  all_goals try simp (disch := omega) only [if_pos, if_neg]
  all_goals first | trivial | omega | grind [wrapId', toNat1, drop_cons, drop_end, good_len, maxLen, szTab, presentPage, fCopyPage, fInRange, inRange, fHasPresent])
def E106 : D.Env := E105.add 18 fPresentPage
theorem E106ok : EOk Tryz.prog E106 := E105ok.add k18_105
def reviveAt (t : STab) : SPage × Bool := if (presentPage t).2 = true ∧ (presentPage t).1.loaded = true then presentPage t else (default, false)
def fReviveAt : Fct := ⟨[.v (.el .tab)], [.el .page, .el .bool], fun (x_ : STab × Unit) => szTab x_.1 ≤ 1073741824, fun (x_ : STab × Unit) => ((reviveAt x_.1).1, (reviveAt x_.1).2, ())⟩
-- spec.ReviveAt
theorem k26_106 : fReviveAt.ok Tryz.prog 26 := Fct.of (S := fReviveAt) (L := fun _ _ => none) (kp := [1,2,3,4,5,17,1000017]) E106ok Tryz.func26 (by kernel_rfl) (by kernel_rfl) (by
  rintro ⟨(t : STab), _⟩ hp
  refine holds_of (X := .ob (fPresentPage.pre (t, ())) <|
 .lt (SPage × Bool × PUnit) (fPresentPage.fn (t, ())) fun z2 =>
 .br (!z2.snd.fst)
  (.leaf (.tup [(true, [vs ({ data := #[] : ByteArray }), vs ({ data := #[] : ByteArray }), vb (false), .nl, .nl, .nl, vs ({ data := #[] : ByteArray }), vs ({ data := #[] : ByteArray }), .nl, vb (false), .nl, .nl, .nl, .nl, .nl, vi ((0 : Int)), vi ((0 : Int)), vi ((0 : Int)), vi ((0 : Int)), .nl, .nl, vb (false)]), (false, [vb (false)])]) [] [])
  (.ob (fIsComplete.pre (z2.fst, ())) <|
   .lt (Bool × PUnit) (fIsComplete.fn (z2.fst, ())) fun z3 =>
   .br (!z3.fst)
    (.leaf (.tup [(true, [vs ({ data := #[] : ByteArray }), vs ({ data := #[] : ByteArray }), vb (false), .nl, .nl, .nl, vs ({ data := #[] : ByteArray }), vs ({ data := #[] : ByteArray }), .nl, vb (false), .nl, .nl, .nl, .nl, .nl, vi ((0 : Int)), vi ((0 : Int)), vi ((0 : Int)), vi ((0 : Int)), .nl, .nl, vb (false)]), (false, [vb (false)])]) [] [])
    (.leaf (mkR fReviveAt.rs (z2.fst, true, ())) [] []))) (by kernel_rfl) ?_
  refine ob_i ?_ fun o1 => lt_i (br_i (fun h2 => Fct.leafZ (default, false, ()) (by repeat' first | exact rfl | exact trivial | refine And.intro ?_ ?_) ?_) (fun h2 => ob_i trivial fun _ => lt_i (br_i (fun h3 => Fct.leafZ (default, false, ()) (by repeat' first | exact rfl | exact trivial | refine And.intro ?_ ?_) ?_) (fun h3 => Fct.leafY ?_))))
  all_goals try simp only [decide_eq_true_eq, decide_eq_false_iff_not, Bool.not_eq_true', Bool.not_eq_false', bne_iff_ne, bne_eq_false_iff_eq, beq_iff_eq, beq_eq_false_iff_ne, baEq, Int.not_lt, Int.not_le, ne_eq, Decidable.not_not] at *
  all_goals try simp only [fIsComplete, fPresentPage, fReviveAt, etaToken, etaNode, etaBuilder, etaPolicy, etaPage, etaVisit, etaTab, etaServer, etaCache, etaNet, etaLoader, etaSheet, etaResult, etaSlot, etaModule, etaAddr, etaRequest, etaResponse, etaConn, etaGuess, etaEntry, etaSent, etaFile, baSz, List.size_toArray, List.length_cons, List.length_nil, Nat.reduceAdd, Int.toNat_zero, List.drop_zero, decide_eq_true_eq, decide_eq_false_iff_not, Bool.not_eq_true', Bool.not_eq_false', bne_iff_ne, bne_eq_false_iff_eq, beq_iff_eq, beq_eq_false_iff_ne, Bool.not_eq_true, Bool.not_eq_false, ne_eq, Decidable.not_not, baEq, decide_not, Prod.mk.injEq, and_true, true_and, Room, List.nil_append, Nat.zero_add, Int.not_lt, Int.not_le, reviveAt, fPresentPage, fIsComplete] at *
  all_goals try simp (disch := omega) only [wrapId', toNat1] at *
  all_goals try simp (disch := omega) only [if_pos, if_neg]
  all_goals first | trivial | omega | grind [wrapId', toNat1, drop_cons, drop_end, good_len, maxLen, reviveAt, fPresentPage, fIsComplete])
def E107 : D.Env := E106.add 26 fReviveAt
theorem E107ok : EOk Tryz.prog E107 := E106ok.add k26_106
-- impl.ReviveAt
theorem k27_107 : fReviveAt.ok Tryz.prog 27 := Fct.of (S := fReviveAt) (L := fun _ _ => none) (kp := [1,2,3,4,5,17,1000017]) E107ok Tryz.func27 (by kernel_rfl) (by kernel_rfl) (by
  rintro ⟨(t : STab), _⟩ hp
  refine holds_of (X := .ob (fPresentPage.pre (t, ())) <|
 .lt (SPage × Bool × PUnit) (fPresentPage.fn (t, ())) fun z2 =>
 .br (!z2.snd.fst)
  (.leaf (.tup [(true, [vs ({ data := #[] : ByteArray }), vs ({ data := #[] : ByteArray }), vb (false), .nl, .nl, .nl, vs ({ data := #[] : ByteArray }), vs ({ data := #[] : ByteArray }), .nl, vb (false), .nl, .nl, .nl, .nl, .nl, vi ((0 : Int)), vi ((0 : Int)), vi ((0 : Int)), vi ((0 : Int)), .nl, .nl, vb (false)]), (false, [vb (false)])]) [] [])
  (.ob (fIsComplete.pre (z2.fst, ())) <|
   .lt (Bool × PUnit) (fIsComplete.fn (z2.fst, ())) fun z3 =>
   .br (!z3.fst)
    (.leaf (.tup [(true, [vs ({ data := #[] : ByteArray }), vs ({ data := #[] : ByteArray }), vb (false), .nl, .nl, .nl, vs ({ data := #[] : ByteArray }), vs ({ data := #[] : ByteArray }), .nl, vb (false), .nl, .nl, .nl, .nl, .nl, vi ((0 : Int)), vi ((0 : Int)), vi ((0 : Int)), vi ((0 : Int)), .nl, .nl, vb (false)]), (false, [vb (false)])]) [] [])
    (.leaf (mkR fReviveAt.rs (z2.fst, true, ())) [] []))) (by kernel_rfl) ?_
  refine ob_i ?_ fun o1 => lt_i (br_i (fun h2 => Fct.leafZ (default, false, ()) (by repeat' first | exact rfl | exact trivial | refine And.intro ?_ ?_) ?_) (fun h2 => ob_i trivial fun _ => lt_i (br_i (fun h3 => Fct.leafZ (default, false, ()) (by repeat' first | exact rfl | exact trivial | refine And.intro ?_ ?_) ?_) (fun h3 => Fct.leafY ?_))))
  all_goals try simp only [decide_eq_true_eq, decide_eq_false_iff_not, Bool.not_eq_true', Bool.not_eq_false', bne_iff_ne, bne_eq_false_iff_eq, beq_iff_eq, beq_eq_false_iff_ne, baEq, Int.not_lt, Int.not_le, ne_eq, Decidable.not_not] at *
  all_goals try simp only [fIsComplete, fPresentPage, fReviveAt, etaToken, etaNode, etaBuilder, etaPolicy, etaPage, etaVisit, etaTab, etaServer, etaCache, etaNet, etaLoader, etaSheet, etaResult, etaSlot, etaModule, etaAddr, etaRequest, etaResponse, etaConn, etaGuess, etaEntry, etaSent, etaFile, baSz, List.size_toArray, List.length_cons, List.length_nil, Nat.reduceAdd, Int.toNat_zero, List.drop_zero, decide_eq_true_eq, decide_eq_false_iff_not, Bool.not_eq_true', Bool.not_eq_false', bne_iff_ne, bne_eq_false_iff_eq, beq_iff_eq, beq_eq_false_iff_ne, Bool.not_eq_true, Bool.not_eq_false, ne_eq, Decidable.not_not, baEq, decide_not, Prod.mk.injEq, and_true, true_and, Room, List.nil_append, Nat.zero_add, Int.not_lt, Int.not_le, reviveAt, fPresentPage, fIsComplete] at *
  all_goals try simp (disch := omega) only [wrapId', toNat1] at *
  all_goals try simp (disch := omega) only [if_pos, if_neg]
  all_goals first | trivial | omega | grind [wrapId', toNat1, drop_cons, drop_end, good_len, maxLen, reviveAt, fPresentPage, fIsComplete])
def E108 : D.Env := E107.add 27 fReviveAt
theorem E108ok : EOk Tryz.prog E108 := E107ok.add k27_107
theorem presentPage_sz (t : STab) : szPage (presentPage t).1 ≤ szTab t := by
  unfold presentPage
  split
  · rename_i h
    have := szVisit_get (l := t.visits) (i := t.at_.toNat) (by omega)
    simp only [szTab]; omega
  · exact Nat.zero_le _
theorem reviveAt_sz (t : STab) : szPage (reviveAt t).1 ≤ szTab t := by
  unfold reviveAt
  split
  · exact presentPage_sz t
  · exact Nat.zero_le _
-- laws.FnExactReviveAt
set_option maxHeartbeats 2000000 in
theorem k7_108 : lTab.ok Tryz.prog 7 := Fct.of (S := lTab) (L := fun _ _ => none) (kp := [1,2,3,4,5,6,7,8,9,10,11,12,13,18,40,45,61,69,72,87,92,95,1000018,1000040,1000045,1000061,1000069,1000072,1000087,1000092,1000095]) E108ok Tryz.func7 (by kernel_rfl) (by kernel_rfl) (by
  rintro ⟨(t : STab), _⟩ hp
  refine holds_of (X := .ob (fszTab.pre (t, (1048576 : Int), ())) <|
 .lt (Int × PUnit) (fszTab.fn (t, (1048576 : Int), ())) fun z2 =>
 .br (decide (z2.fst < (0 : Int)))
  (.leaf (mkR lTab.rs (true, ())) [] [])
  (.ob (ftoTab.pre (t, ())) <|
   .lt (STab × PUnit) (ftoTab.fn (t, ())) fun z3 =>
   .ob (fReviveAt.pre (z3.fst, ())) <|
    .lt (SPage × Bool × PUnit) (fReviveAt.fn (z3.fst, ())) fun z4 =>
    .ob (ftoTab.pre (t, ())) <|
     .lt (STab × PUnit) (ftoTab.fn (t, ())) fun z5 =>
     .ob (fReviveAt.pre (z5.fst, ())) <|
      .lt (SPage × Bool × PUnit) (fReviveAt.fn (z5.fst, ())) fun z6 =>
      .ob (feqPage.pre (z6.fst, z4.fst, ())) <|
       .lt (Bool × PUnit) (feqPage.fn (z6.fst, z4.fst, ())) fun z7 =>
       .br (!z7.fst)
        (.leaf (mkR lTab.rs (false, ())) [] [])
        (.br (!z6.snd.fst == z4.snd.fst)
         (.leaf (mkR lTab.rs (false, ())) [] [])
         (.ob (ftoTab.pre (t, ())) <|
          .lt (STab × PUnit) (ftoTab.fn (t, ())) fun z8 =>
          .ob (feqTab.pre (z5.fst, z8.fst, ())) <|
           .lt (Bool × PUnit) (feqTab.fn (z5.fst, z8.fst, ())) fun z9 =>
           .br (!z9.fst)
            (.leaf (mkR lTab.rs (false, ())) [] [])
            (.ob (fmarkTab.pre z5.fst (1 : Int)) <|
             .lt (STab × Int) (fmarkTab.fn z5.fst (1 : Int)) fun z10 =>
             .br (decide (z10.snd < (0 : Int)))
              (.leaf (mkR lTab.rs (false, ())) [] [])
              (.ob (feqPage.pre (z6.fst, z4.fst, ())) <|
               .lt (Bool × PUnit) (feqPage.fn (z6.fst, z4.fst, ())) fun z11 =>
               .br (!z11.fst)
                (.leaf (mkR lTab.rs (false, ())) [] [])
                (.br (!z6.snd.fst == z4.snd.fst)
                 (.leaf (mkR lTab.rs (false, ())) [] [])
                 (.ob (fmarkPage.pre z6.fst (1 : Int)) <|
                  .lt (SPage × Int) (fmarkPage.fn z6.fst (1 : Int)) fun z12 =>
                  .ob (fheldPage.pre
  ({ addr := z6.fst.addr,
      policy :=
        { set_ := z6.fst.policy.set_, scripts := z12.fst.policy.scripts, styles := z12.fst.policy.styles,
          images := z12.fst.policy.images, nonce := z6.fst.policy.nonce : SPolicy },
      tok := z6.fst.tok, queue := z12.fst.queue, ended := z6.fst.ended, builder := z12.fst.builder,
      slots := z12.fst.slots, mods := z12.fst.mods, entries := z12.fst.entries, block := z6.fst.block,
      inline := z6.fst.inline, deferred := z6.fst.deferred, entered := z6.fst.entered, ran := z12.fst.ran,
      log := z12.fst.log, loaded := z6.fst.loaded : SPage },
    (1 : Int), ())) <|
                   .lt (Int × PUnit) (fheldPage.fn
  ({ addr := z6.fst.addr,
      policy :=
        { set_ := z6.fst.policy.set_, scripts := z12.fst.policy.scripts, styles := z12.fst.policy.styles,
          images := z12.fst.policy.images, nonce := z6.fst.policy.nonce : SPolicy },
      tok := z6.fst.tok, queue := z12.fst.queue, ended := z6.fst.ended, builder := z12.fst.builder,
      slots := z12.fst.slots, mods := z12.fst.mods, entries := z12.fst.entries, block := z6.fst.block,
      inline := z6.fst.inline, deferred := z6.fst.deferred, entered := z6.fst.entered, ran := z12.fst.ran,
      log := z12.fst.log, loaded := z6.fst.loaded : SPage },
    (1 : Int), ())) fun z13 =>
                   .br (decide (z13.fst < (0 : Int)))
                    (.leaf (mkR lTab.rs (false, ())) [] [])
                    (.br (z13.fst != z12.snd)
                     (.leaf (mkR lTab.rs (false, ())) [] [])
                     (.ob (ftoTab.pre (t, ())) <|
                      .lt (STab × PUnit) (ftoTab.fn (t, ())) fun z14 =>
                      .ob (fReviveAt.pre (z14.fst, ())) <|
                       .lt (SPage × Bool × PUnit) (fReviveAt.fn (z14.fst, ())) fun z15 =>
                       .ob (feqPage.pre (z15.fst, z4.fst, ())) <|
                        .lt (Bool × PUnit) (feqPage.fn (z15.fst, z4.fst, ())) fun z16 =>
                        .br (!z16.fst)
                         (.leaf (mkR lTab.rs (false, ())) [] [])
                         (.br (!z15.snd.fst == z4.snd.fst)
                          (.leaf (mkR lTab.rs (false, ())) [] [])
                          (.ob (fheldPage.pre
  ({ addr := z6.fst.addr,
      policy :=
        { set_ := z6.fst.policy.set_, scripts := z12.fst.policy.scripts, styles := z12.fst.policy.styles,
          images := z12.fst.policy.images, nonce := z6.fst.policy.nonce : SPolicy },
      tok := z6.fst.tok, queue := z12.fst.queue, ended := z6.fst.ended, builder := z12.fst.builder,
      slots := z12.fst.slots, mods := z12.fst.mods, entries := z12.fst.entries, block := z6.fst.block,
      inline := z6.fst.inline, deferred := z6.fst.deferred, entered := z6.fst.entered, ran := z12.fst.ran,
      log := z12.fst.log, loaded := z6.fst.loaded : SPage },
    (1 : Int), ())) <|
                           .lt (Int × PUnit) (fheldPage.fn
  ({ addr := z6.fst.addr,
      policy :=
        { set_ := z6.fst.policy.set_, scripts := z12.fst.policy.scripts, styles := z12.fst.policy.styles,
          images := z12.fst.policy.images, nonce := z6.fst.policy.nonce : SPolicy },
      tok := z6.fst.tok, queue := z12.fst.queue, ended := z6.fst.ended, builder := z12.fst.builder,
      slots := z12.fst.slots, mods := z12.fst.mods, entries := z12.fst.entries, block := z6.fst.block,
      inline := z6.fst.inline, deferred := z6.fst.deferred, entered := z6.fst.entered, ran := z12.fst.ran,
      log := z12.fst.log, loaded := z6.fst.loaded : SPage },
    (1 : Int), ())) fun z17 =>
                           .br (decide (z17.fst < (0 : Int)))
                            (.leaf (mkR lTab.rs (false, ())) [] [])
                            (.br (z17.fst != z12.snd)
                             (.leaf (mkR lTab.rs (false, ())) [] [])
                             (.leaf (mkR lTab.rs (true, ())) [] [])))))))))))))) (by kernel_rfl) ?_
  refine ob_i ?_ fun o1 => lt_e fun z2 ez2 => (br_i (fun h2 => Fct.leafY ?_) (fun h2 => ob_i ?_ fun o3 => lt_e fun z3 ez3 => (ob_i ?_ fun o4 => lt_e fun z4 ez4 => (ob_i ?_ fun o5 => lt_e fun z5 ez5 => (ob_i ?_ fun o6 => lt_e fun z6 ez6 => (ob_i ?_ fun o7 => lt_e fun z7 ez7 => (br_i (fun h8 => Fct.leafY ?_) (fun h8 => br_i (fun h9 => Fct.leafY ?_) (fun h9 => ob_i ?_ fun o10 => lt_e fun z8 ez8 => (ob_i ?_ fun o11 => lt_e fun z9 ez9 => (br_i (fun h12 => Fct.leafY ?_) (fun h12 => ob_i ?_ fun o13 => lt_e fun z10 ez10 => (br_i (fun h14 => Fct.leafY ?_) (fun h14 => ob_i ?_ fun o15 => lt_e fun z11 ez11 => (br_i (fun h16 => Fct.leafY ?_) (fun h16 => br_i (fun h17 => Fct.leafY ?_) (fun h17 => ob_i ?_ fun o18 => lt_e fun z12 ez12 => (ob_i ?_ fun o19 => lt_e fun z13 ez13 => (br_i (fun h20 => Fct.leafY ?_) (fun h20 => br_i (fun h21 => Fct.leafY ?_) (fun h21 => ob_i ?_ fun o22 => lt_e fun z14 ez14 => (ob_i ?_ fun o23 => lt_e fun z15 ez15 => (ob_i ?_ fun o24 => lt_e fun z16 ez16 => (br_i (fun h25 => Fct.leafY ?_) (fun h25 => br_i (fun h26 => Fct.leafY ?_) (fun h26 => ob_i ?_ fun o27 => lt_e fun z17 ez17 => (br_i (fun h28 => Fct.leafY ?_) (fun h28 => br_i (fun h29 => Fct.leafY ?_) (fun h29 => Fct.leafY ?_)))))))))))))))))))))))))))))
  all_goals have hpp := presentPage_sz t
  all_goals have hrp := reviveAt_sz t
  all_goals have hg0 : Sh.good (.el .tab) t := hp.1
  all_goals clear hp
  all_goals try have hbd0 := mvTab_bd z5.fst (1 : Int)
  all_goals try have hbd1 := mvPage_bd z6.fst (1 : Int)
  all_goals subst_vars
  all_goals try simp only [decide_eq_true_eq, decide_eq_false_iff_not, Bool.not_eq_true', Bool.not_eq_false', bne_iff_ne, bne_eq_false_iff_eq, beq_iff_eq, beq_eq_false_iff_ne, baEq, Int.not_lt, Int.not_le, ne_eq, Decidable.not_not] at *
  all_goals try simp only [fReviveAt, feqPage, feqTab, fheldPage, fmarkPage, fmarkTab, fszTab, ftoTab, lTab, etaToken, etaNode, etaBuilder, etaPolicy, etaPage, etaVisit, etaTab, etaServer, etaCache, etaNet, etaLoader, etaSheet, etaResult, etaSlot, etaModule, etaAddr, etaRequest, etaResponse, etaConn, etaGuess, etaEntry, etaSent, etaFile, baSz, List.size_toArray, List.length_cons, List.length_nil, Nat.reduceAdd, Int.toNat_zero, List.drop_zero, decide_eq_true_eq, decide_eq_false_iff_not, Bool.not_eq_true', Bool.not_eq_false', bne_iff_ne, bne_eq_false_iff_eq, beq_iff_eq, beq_eq_false_iff_ne, Bool.not_eq_true, Bool.not_eq_false, ne_eq, Decidable.not_not, baEq, decide_not, Prod.mk.injEq, and_true, true_and, Room, List.nil_append, Nat.zero_add, Int.not_lt, Int.not_le, decide_true] at *
  all_goals try simp only [mvPage_re, mvTab_re] at *
  all_goals first | trivial | omega | grind [lessen])
def E109 : D.Env := E108.add 7 lTab
theorem E109ok : EOk Tryz.prog E109 := E108ok.add k7_108

section
open Go.ChangeShapes Go.WideShapes Go.ChangeAt Go.RowKit
theorem own : ownKnob Tryz.prog.godebug = none := by kernel_rfl
theorem types : ∀ e t, tyOf e = some t → e ∈ ([3, 4, 5, 9, 25, 28, 30, 33, 35, 40, 45, 49, 55, 58, 59, 60, 61, 65, 70, 74, 81, 87, 110, 112, 117, 138, 152, 154, 157, 178, 186, 191, 194, 203, 207, 211, 215, 218, 222, 226, 240, 246, 250, 254, 257, 266, 268, 270] : List TypeId) := by
  intro e t h
  unfold tyOf at h
  split at h <;> first | (simp; done) | cases h
theorem lifted (os : Os) (started : os.Started) (H : Type) (enc : TypeId × Value → H) :
    ReturnsInHanded {} Tryz.checked os 7 .any (Rows.fnExactReviveAtSpec.pre6 enc Tryz.prog Tryz.f7 Rows.fnExactReviveAtRow.domain false) (Rows.fnExactReviveAtSpec.post enc Tryz.prog Tryz.f7 false true false false) := by
  refine returnsInHanded_of_change (C := Tryz.checked) own started (by kernel_rfl) Tryz.func7
    (ChangeSpec.witness6 (enc := enc) (C := Tryz.checked) false ⟨#[], #[.agg #[.slice none 0 0, .int .i64 0]], []⟩ 8 (by kernel_rfl) (by kernel_rfl) (by kernel_rfl) (by kernel_rfl)) ?_
  intro W base args ds gs before hval0 hW hcnd _
  have hval : ∀ (j : Nat) t v, Tryz.f7.params[j]? = some t → args[j]? = some v → Value.okWide Tryz.prog W .any base t v := hval0
  refine law_calls (show rowOk Tryz.prog Tryz.f7 tyOf [3, 4, 5, 9, 25, 28, 30, 33, 35, 40, 45, 49, 55, 58, 59, 60, 61, 65, 70, 74, 81, 87, 110, 112, 117, 138, 152, 154, 157, 178, 186, 191, 194, 203, 207, 211, 215, 218, 222, 226, 240, 246, 250, 254, 257, 266, 268, 270] [.el .tab] = true by kernel_rfl) types rfl Tryz.underlying4 rfl hW (fun xs h => ?_) hval k7_108
  · rw [Tryz.params7] at h
    obtain ⟨x, rfl⟩ := List.length_eq_one_iff.1 (show xs.length = 1 from h)
    rfl
set_option maxHeartbeats 0 in
theorem closed : joinedFacts Tryz.prog 7 Tryz.f7 Rows.fnExactReviveAtSpec Rows.fnExactReviveAtRow = true := by
  unfold joinedFacts
  refine (and_i (and_i (and_i (and_i (and_i (and_i (and_i (and_i (and_i (and_i (and_i (and_i (and_i (and_i (and_i (and_i (and_i (and_i (and_i (and_i (and_i (and_i (and_i (and_i (and_i (and_i (and_i (and_i (and_i (and_i (and_i ?_ ?_) ?_) ?_) ?_) ?_) ?_) ?_) ?_) ?_) ?_) ?_) ?_) ?_) ?_) ?_) ?_) ?_) ?_) ?_) ?_) ?_) ?_) ?_) ?_) ?_) ?_) ?_) ?_) ?_) ?_) ?_)
  all_goals decide +kernel
theorem over : Rows.fnExactReviveAtRow.holds Tryz.pinned (OpenSpec.ofChange Rows.fnExactReviveAtSpec) :=
  OpenClaim.holds_of_wide 7 Tryz.f7 rfl rfl rfl rfl rfl rfl rfl ⟨rfl, rfl, rfl, rfl, rfl⟩ rfl rfl rfl rfl rfl (by kernel_rfl) Tryz.func7 closed
    (of_decide_eq_true (by kernel_rfl)) (by unfold Func.isWrapper; first | (rw [if_pos (by decide +kernel)]; kernel_rfl) | (rw [if_neg (by decide +kernel)]; exact ⟨rfl, rfl⟩))
    (fun os started H enc _ => lifted os started H enc)
theorem proved : Rows.FnExactReviveAtSaid := over
end
end Go.Proofs.YtdcpenhjenhjcaaGreat.fnExactReviveAt
