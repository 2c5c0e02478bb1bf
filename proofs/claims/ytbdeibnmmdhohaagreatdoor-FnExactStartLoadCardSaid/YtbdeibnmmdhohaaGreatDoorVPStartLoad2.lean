/-
  Contracts of functions that the law of FnExactStartLoad reaches, part 2.
-/
import Derived.Test.YtbdeibnmmdhohaaGreatDoorVPStartLoad1
import Derived.Test.YtbdeibnmmdhohaaGreatDoorVLe
import Derived.Test.YtbdeibnmmdhohaaGreatDoorRows
import Derived.Test.YtbdeibnmmdhohaaGreatDoorCards
import Derived.Test.YtbdeibnmmdhohaaGreatDoorTie
import Derived.LaidMore
import Derived.Lay
import Derived.SevenTiedAt
import Derived.WalkKit
import Derived.ProofKit
import Derived.OpenShut
namespace Go.Proofs.YtbdeibnmmdhohaaGreatDoor.fnExactStartLoad
open Go.Proofs.YtbdeibnmmdhohaaGreatDoor
open Go.D
set_option maxRecDepth 100000
set_option linter.unusedVariables false
set_option linter.unusedSimpArgs false
set_option maxHeartbeats 2000000 in
theorem k106_85 : fheldModuleS.ok Tryz.prog 106 := Fct.of (S := fheldModuleS) (L := fun ⟨l, k, _⟩ => fun | 2 => some (LheS .module mkModule l k) | _ => none) (kp := [0,1,4,5,9,20,31,42,51,61,1000009,1000020,1000031,1000042,1000051,1000061]) E85ok Tryz.func106 (by kernel_rfl) (by kernel_rfl) (by
  rintro ⟨(l : List SModule), (k : Int), _⟩ hp
  refine holds_of (X := lpx (LheS .module mkModule l k) (k, ((0 : Int), ())) fun (y1 : Int × Int × PUnit) bk1 =>
 .br (decide (y1.snd.fst < (↑l.length : Int)))
  (.ob ((0 : Int) ≤ y1.snd.fst ∧ y1.snd.fst < (↑l.length : Int)) <|
   .ob (fmarkText.pre (y1.fst, ())) <|
   .lt (ByteArray × PUnit) (fmarkText.fn (y1.fst, ())) fun z2 =>
   .br (!(l.getD y1.snd.fst.toNat default).to.host.toList == z2.fst.toList)
    (.leaf (mkR fheldModuleS.rs ((-1 : Int), ())) [] [])
    (.ob ((0 : Int) ≤ y1.snd.fst ∧ y1.snd.fst < (↑l.length : Int)) <|
     .ob (fmarkText.pre (IntKind.i64.wrap (y1.fst + (1 : Int)), ())) <|
     .lt (ByteArray × PUnit) (fmarkText.fn (IntKind.i64.wrap (y1.fst + (1 : Int)), ())) fun z3 =>
     .br (!(l.getD y1.snd.fst.toNat default).to.path.toList == z3.fst.toList)
      (.leaf (mkR fheldModuleS.rs ((-1 : Int), ())) [] [])
      (.ob ((0 : Int) ≤ y1.snd.fst ∧ y1.snd.fst < (↑l.length : Int)) <|
       .ob ((3 : Int) ≠ (0 : Int)) <|
       .br (!(l.getD y1.snd.fst.toNat default).done ==
    ((IntKind.i64.wrap (IntKind.i64.wrap (y1.fst + (1 : Int)) + (1 : Int))).tmod (3 : Int) == (0 : Int)))
       (.leaf (mkR fheldModuleS.rs ((-1 : Int), ())) [] [])
       (.ob ((0 : Int) ≤ y1.snd.fst ∧ y1.snd.fst < (↑l.length : Int)) <|
        .br ((l.getD y1.snd.fst.toNat default).code !=
  IntKind.i64.wrap (IntKind.i64.wrap (IntKind.i64.wrap (y1.fst + (1 : Int)) + (1 : Int)) + (1 : Int)))
        (.leaf (mkR fheldModuleS.rs ((-1 : Int), ())) [] [])
        (.ob ((0 : Int) ≤ y1.snd.fst ∧ y1.snd.fst < (↑l.length : Int)) <|
         .ob (fmarkText.pre
  (IntKind.i64.wrap
      (IntKind.i64.wrap (IntKind.i64.wrap (IntKind.i64.wrap (y1.fst + (1 : Int)) + (1 : Int)) + (1 : Int)) + (1 : Int)),
    ())) <|
         .lt (ByteArray × PUnit) (fmarkText.fn
  (IntKind.i64.wrap
      (IntKind.i64.wrap (IntKind.i64.wrap (IntKind.i64.wrap (y1.fst + (1 : Int)) + (1 : Int)) + (1 : Int)) + (1 : Int)),
    ())) fun z4 =>
         .br (!(l.getD y1.snd.fst.toNat default).body.toList == z4.fst.toList)
          (.leaf (mkR fheldModuleS.rs ((-1 : Int), ())) [] [])
          (.ob (l = l) <|
           .ob (bk1 (IntKind.i64.wrap
  (IntKind.i64.wrap
      (IntKind.i64.wrap (IntKind.i64.wrap (IntKind.i64.wrap (y1.fst + (1 : Int)) + (1 : Int)) + (1 : Int)) +
        (1 : Int)) +
    (1 : Int)), (IntKind.i64.wrap (y1.snd.fst + (1 : Int)), ()))) <|
           .ok))))))
  (.leaf (mkR fheldModuleS.rs (y1.fst, ())) [] [])) (by kernel_rfl) ?_
  refine lpx_i ?_ fun (y1 : Int × Int × PUnit) i1 => br_i (fun h2 => ob_i ?_ fun o3 => ob_i ?_ fun o4 => lt_i (br_i (fun h5 => Fct.leafY ?_) (fun h5 => ob_i ?_ fun o6 => ob_i ?_ fun o7 => lt_i (br_i (fun h8 => Fct.leafY ?_) (fun h8 => ob_i ?_ fun o9 => ob_i ?_ fun o10 => br_i (fun h11 => Fct.leafY ?_) (fun h11 => ob_i ?_ fun o12 => br_i (fun h13 => Fct.leafY ?_) (fun h13 => ob_i ?_ fun o14 => ob_i ?_ fun o15 => lt_i (br_i (fun h16 => Fct.leafY ?_) (fun h16 => ob_i rfl fun _ => ob_i ?_ fun o17 => trivial))))))))) (fun h2 => Fct.leafY ?_)
  · exact ⟨by simp, by simp, by simp [markL]⟩
  all_goals have hp1 : 0 ≤ k := hp.1
  all_goals have hp2 : (markL mkModule l k).2 ≤ 4000000000000000000 := hp.2.1
  all_goals have hp3 : (markL mkModule l k).1 = l := hp.2.2
  all_goals have i3 : 0 ≤ y1.2.1 ∧ y1.2.1 ≤ l.length ∧ y1.1 = (markL mkModule (l.take y1.2.1.toNat) k).2 := i1
  all_goals have hcnt := markL_cnt (f := mkModule) (fun x k => by simp only [mkModule]; omega) l k
  all_goals simp only [decide_eq_true_eq, decide_eq_false_iff_not] at h2
  all_goals clear i1 hp
  all_goals try have hlt : y1.2.1.toNat < l.length := by omega
  all_goals try have ht := markL_take (f := mkModule) hlt k
  all_goals try have hle := (markL_take_le mkModule_mono l (y1.2.1.toNat + 1) k).2
  all_goals try have hl0 := (markL_take_le mkModule_mono l y1.2.1.toNat k).1
  all_goals try have heq := markL_held hp3 hlt
  all_goals try rw [ht] at hle
  all_goals try rw [← i3.2.2] at hle hl0 ht heq
  all_goals try simp only [mkModule] at hle heq
  all_goals first | decide | omega | (refine ⟨?_, ?_⟩ <;> (try simp (discharger := omega) only [wrapId']) <;> omega) | skip
  all_goals try (exfalso; clear ht; generalize l.getD y1.2.1.toNat default = c at *; subst heq; simp (discharger := omega) [wrapId', fmarkText, Int.add_assoc] at *; done)
  · simp (discharger := omega) only [wrapId']
    refine ⟨⟨by omega, by omega, ?_⟩, ?_⟩
    · rw [toNat1 (by omega), ht]
      first | done | (simp only [mkModule]; done) | (simp only [mkModule]; omega)
    · omega
  · have e1 : l.take y1.2.1.toNat = l := List.take_of_length_le (by omega)
    rw [e1] at i3
    show (y1.1, ()) = ((markL mkModule l k).2, ())
    rw [i3.2.2])
def E86 : D.Env := E85.add 106 fheldModuleS
theorem E86ok : EOk Tryz.prog E86 := E85ok.add k106_85
set_option maxHeartbeats 2000000 in
theorem k30_86 : feqPage.ok Tryz.prog 30 := Fct.of (S := feqPage) (L := fun _ _ => none) (kp := [2,3,4,10,16,22,28,33,39,45,51,57,62,67,72,77,83,89,94,1000010,1000016,1000022,1000028,1000033,1000039,1000045,1000051,1000057,1000062,1000067,1000072,1000077,1000083,1000089,1000094]) E86ok Tryz.func30 (by kernel_rfl) (by kernel_rfl) (by
  rintro ⟨(x : SPage), (y : SPage), _⟩ hp
  refine holds_of (X := .ob (feqAddr.pre (x.addr, y.addr, ())) <|
 .lt (Bool × PUnit) (feqAddr.fn (x.addr, y.addr, ())) fun z2 =>
 .br (!z2.fst)
  (.leaf (mkR feqPage.rs (false, ())) [] [])
  (.ob (feqPolicy.pre (x.policy, y.policy, ())) <|
   .lt (Bool × PUnit) (feqPolicy.fn (x.policy, y.policy, ())) fun z3 =>
   .br (!z3.fst)
    (.leaf (mkR feqPage.rs (false, ())) [] [])
    (.ob (feqTokenizer.pre (x.tok, y.tok, ())) <|
     .lt (Bool × PUnit) (feqTokenizer.fn (x.tok, y.tok, ())) fun z4 =>
     .br (!z4.fst)
      (.leaf (mkR feqPage.rs (false, ())) [] [])
      (.ob (feqTokenS.pre (x.queue, y.queue, ())) <|
       .lt (Bool × PUnit) (feqTokenS.fn (x.queue, y.queue, ())) fun z5 =>
       .br (!z5.fst)
        (.leaf (mkR feqPage.rs (false, ())) [] [])
        (.br (!x.ended == y.ended)
         (.leaf (mkR feqPage.rs (false, ())) [] [])
         (.ob (feqBuilder.pre (x.builder, y.builder, ())) <|
          .lt (Bool × PUnit) (feqBuilder.fn (x.builder, y.builder, ())) fun z6 =>
          .br (!z6.fst)
           (.leaf (mkR feqPage.rs (false, ())) [] [])
           (.ob (feqSlotS.pre (x.slots, y.slots, ())) <|
            .lt (Bool × PUnit) (feqSlotS.fn (x.slots, y.slots, ())) fun z7 =>
            .br (!z7.fst)
             (.leaf (mkR feqPage.rs (false, ())) [] [])
             (.ob (feqModuleS.pre (x.mods, y.mods, ())) <|
              .lt (Bool × PUnit) (feqModuleS.fn (x.mods, y.mods, ())) fun z8 =>
              .br (!z8.fst)
               (.leaf (mkR feqPage.rs (false, ())) [] [])
               (.ob (feqAddrS.pre (x.entries, y.entries, ())) <|
                .lt (Bool × PUnit) (feqAddrS.fn (x.entries, y.entries, ())) fun z9 =>
                .br (!z9.fst)
                 (.leaf (mkR feqPage.rs (false, ())) [] [])
                 (.br (x.block != y.block)
                  (.leaf (mkR feqPage.rs (false, ())) [] [])
                  (.br (x.inline != y.inline)
                   (.leaf (mkR feqPage.rs (false, ())) [] [])
                   (.br (x.deferred != y.deferred)
                    (.leaf (mkR feqPage.rs (false, ())) [] [])
                    (.br (x.entered != y.entered)
                     (.leaf (mkR feqPage.rs (false, ())) [] [])
                     (.ob (feqAddrS.pre (x.ran, y.ran, ())) <|
                      .lt (Bool × PUnit) (feqAddrS.fn (x.ran, y.ran, ())) fun z10 =>
                      .br (!z10.fst)
                       (.leaf (mkR feqPage.rs (false, ())) [] [])
                       (.ob (feqStringS.pre (x.log, y.log, ())) <|
                        .lt (Bool × PUnit) (feqStringS.fn (x.log, y.log, ())) fun z11 =>
                        .br (!z11.fst)
                         (.leaf (mkR feqPage.rs (false, ())) [] [])
                         (.br (!x.loaded == y.loaded)
                          (.leaf (mkR feqPage.rs (false, ())) [] [])
                          (.leaf (mkR feqPage.rs (true, ())) [] []))))))))))))))))) (by kernel_rfl) ?_
  refine ob_i trivial fun _ => lt_i (br_i (fun h1 => Fct.leafY ?_) (fun h1 => ob_i ?_ fun o2 => lt_i (br_i (fun h3 => Fct.leafY ?_) (fun h3 => ob_i trivial fun _ => lt_i (br_i (fun h4 => Fct.leafY ?_) (fun h4 => ob_i ?_ fun o5 => lt_i (br_i (fun h6 => Fct.leafY ?_) (fun h6 => br_i (fun h7 => Fct.leafY ?_) (fun h7 => ob_i ?_ fun o8 => lt_i (br_i (fun h9 => Fct.leafY ?_) (fun h9 => ob_i ?_ fun o10 => lt_i (br_i (fun h11 => Fct.leafY ?_) (fun h11 => ob_i ?_ fun o12 => lt_i (br_i (fun h13 => Fct.leafY ?_) (fun h13 => ob_i ?_ fun o14 => lt_i (br_i (fun h15 => Fct.leafY ?_) (fun h15 => br_i (fun h16 => Fct.leafY ?_) (fun h16 => br_i (fun h17 => Fct.leafY ?_) (fun h17 => br_i (fun h18 => Fct.leafY ?_) (fun h18 => br_i (fun h19 => Fct.leafY ?_) (fun h19 => ob_i ?_ fun o20 => lt_i (br_i (fun h21 => Fct.leafY ?_) (fun h21 => ob_i ?_ fun o22 => lt_i (br_i (fun h23 => Fct.leafY ?_) (fun h23 => br_i (fun h24 => Fct.leafY ?_) (fun h24 => Fct.leafY ?_))))))))))))))))))))))))))
  all_goals try simp only [std1, ne_eq] at *
  all_goals try simp only [feqAddr, feqAddrS, feqBuilder, feqModuleS, feqPage, feqPolicy, feqSlotS, feqStringS, feqTokenS, feqTokenizer, etaS, std1, std2, Nat.reduceAdd, ne_eq] at *
  all_goals first | trivial | (cases x; cases y; simp_all; done) | (simp only [szAddr, szBuilder, szL, szPage, szPolicy, szTokenizer] at *; omega) | grind [szAddr, szBuilder, szL, szPage, szPolicy, szTokenizer])
def E87 : D.Env := E86.add 30 feqPage
theorem E87ok : EOk Tryz.prog E87 := E86ok.add k30_86
set_option maxHeartbeats 2000000 in
theorem k40_87 : fmarkPage.ok Tryz.prog 40 := MS.of (S := fmarkPage) (L := fun _ _ _ => none) (kp := [1,2,4]) (kl := [3,4,5,8,10,11,12,13,14,19,20]) E87ok Tryz.func40 (by kernel_rfl) (by kernel_rfl) (by
  rintro (x : SPage) (k : Int) hp
  refine holds_of (X := .ob (fmarkPolicy.pre x.policy k) <|
 .lt (SPolicy × Int) (fmarkPolicy.fn x.policy k) fun z2 =>
 .ob (fmarkTokenS.pre x.queue z2.snd) <|
  .lt (List SToken × Int) (fmarkTokenS.fn x.queue z2.snd) fun z3 =>
  .ob (fmarkBuilder.pre x.builder z3.snd) <|
   .lt (SBuilder × Int) (fmarkBuilder.fn x.builder z3.snd) fun z4 =>
   .ob (fmarkSlotS.pre x.slots z4.snd) <|
    .lt (List SSlot × Int) (fmarkSlotS.fn x.slots z4.snd) fun z5 =>
    .ob (fmarkModuleS.pre x.mods z5.snd) <|
     .lt (List SModule × Int) (fmarkModuleS.fn x.mods z5.snd) fun z6 =>
     .ob (fmarkAddrS.pre x.entries z6.snd) <|
      .lt (List SAddr × Int) (fmarkAddrS.fn x.entries z6.snd) fun z7 =>
      .ob (fmarkAddrS.pre x.ran z7.snd) <|
       .lt (List SAddr × Int) (fmarkAddrS.fn x.ran z7.snd) fun z8 =>
       .ob (fmarkStringS.pre x.log z8.snd) <|
        .lt (List ByteArray × Int) (fmarkStringS.fn x.log z8.snd) fun z9 =>
        .leaf (.one false [vi (z9.snd)]) [] [((3 : Nat), ⟨Ty.str, z2.fst.scripts⟩), ((4 : Nat), ⟨Ty.str, z2.fst.styles⟩), ((5 : Nat), ⟨Ty.str, z2.fst.images⟩), ((8 : Nat), ⟨Ty.token, z3.fst⟩), ((10 : Nat), ⟨Ty.node, z4.fst.nodes⟩), ((11 : Nat), ⟨Ty.int, z4.fst.open_⟩), ((12 : Nat), ⟨Ty.slot, z5.fst⟩), ((13 : Nat), ⟨Ty.module, z6.fst⟩), ((14 : Nat), ⟨Ty.addr, z7.fst⟩), ((19 : Nat), ⟨Ty.addr, z8.fst⟩), ((20 : Nat), ⟨Ty.str, z9.fst⟩)]) (by kernel_rfl) ?_
  refine ob_d ?_ <| lt_i (ob_d ?_ <| lt_i (ob_d ?_ <| lt_i (ob_d ?_ <| lt_i (ob_d ?_ <| lt_i (ob_d ?_ <| lt_i (ob_d ?_ <| lt_i (ob_d ?_ <| lt_i (MS.leaf ?_))))))))
  all_goals have hp1 : 0 ≤ k := hp.1
  all_goals have hp2 : (mvPage x k).2 ≤ 4000000000000000000 := hp.2
  all_goals clear hp
  all_goals simp only [mvPage] at hp2
  all_goals try have m1 := mkStringS_mono x.policy.scripts (k)
  all_goals try generalize hr1 : markL mkString x.policy.scripts (k) = r1 at *
  all_goals try have m2 := mkStringS_mono x.policy.styles (r1.2)
  all_goals try generalize hr2 : markL mkString x.policy.styles (r1.2) = r2 at *
  all_goals try have m3 := mkStringS_mono x.policy.images (r2.2)
  all_goals try generalize hr3 : markL mkString x.policy.images (r2.2) = r3 at *
  all_goals try have m4 := mkTokenS_mono x.queue (r3.2)
  all_goals try generalize hr4 : markL mkToken x.queue (r3.2) = r4 at *
  all_goals try have m5 := mkNodeS_mono x.builder.nodes (r4.2)
  all_goals try generalize hr5 : markL mkNode x.builder.nodes (r4.2) = r5 at *
  all_goals try have m6 := mkIntS_mono x.builder.open_ (r5.2)
  all_goals try generalize hr6 : markL mkInt x.builder.open_ (r5.2) = r6 at *
  all_goals try have m7 := mkSlotS_mono x.slots (r6.2)
  all_goals try generalize hr7 : markL mkSlot x.slots (r6.2) = r7 at *
  all_goals try have m8 := mkModuleS_mono x.mods (r7.2)
  all_goals try generalize hr8 : markL mkModule x.mods (r7.2) = r8 at *
  all_goals try have m9 := mkAddrS_mono x.entries (r8.2)
  all_goals try generalize hr9 : markL mkAddr x.entries (r8.2) = r9 at *
  all_goals try have m10 := mkAddrS_mono x.ran (r9.2)
  all_goals try generalize hr10 : markL mkAddr x.ran (r9.2) = r10 at *
  all_goals try have m11 := mkStringS_mono x.log (r10.2)
  all_goals try generalize hr11 : markL mkString x.log (r10.2) = r11 at *
  all_goals simp (disch := omega) only [fmarkAddrS, fmarkIntS, fmarkModuleS, fmarkNodeS, fmarkSlotS, fmarkStringS, fmarkTokenS, fmarkBuilder, mvBuilder, fmarkPolicy, mvPolicy, hr1, hr2, hr3, hr4, hr5, hr6, hr7, hr8, hr9, hr10, hr11]
  all_goals first | trivial | omega | (refine ⟨?_, ?_⟩ <;> omega) | skip
  refine MS.leaf ?_
  simp only [fmarkPage, mvPage, hr1, hr2, hr3, hr4, hr5, hr6, hr7, hr8, hr9, hr10, hr11]
  exact ⟨⟨rfl, rfl, trivial⟩, trivial, rfl⟩)
def E88 : D.Env := E87.addM 40 fmarkPage
theorem E88ok : EOk Tryz.prog E88 := E87ok.addM k40_87
set_option maxHeartbeats 2000000 in
theorem k45_88 : fheldPage.ok Tryz.prog 45 := Fct.of (S := fheldPage) (L := fun _ _ => none) (kp := [1,2,4,10,16,22,28,34,40,46,52,1000010,1000016,1000022,1000028,1000034,1000040,1000046,1000052]) E88ok Tryz.func45 (by kernel_rfl) (by kernel_rfl) (by
  rintro ⟨(x : SPage), (k : Int), _⟩ hp
  refine holds_of (X := .ob (fheldPolicy.pre (x.policy, k, ())) <|
 .lt (Int × PUnit) (fheldPolicy.fn (x.policy, k, ())) fun z2 =>
 .br (decide (z2.fst < (0 : Int)))
  (.leaf (mkR fheldPage.rs ((-1 : Int), ())) [] [])
  (.ob (fheldTokenS.pre (x.queue, z2.fst, ())) <|
   .lt (Int × PUnit) (fheldTokenS.fn (x.queue, z2.fst, ())) fun z3 =>
   .br (decide (z3.fst < (0 : Int)))
    (.leaf (mkR fheldPage.rs ((-1 : Int), ())) [] [])
    (.ob (fheldBuilder.pre (x.builder, z3.fst, ())) <|
     .lt (Int × PUnit) (fheldBuilder.fn (x.builder, z3.fst, ())) fun z4 =>
     .br (decide (z4.fst < (0 : Int)))
      (.leaf (mkR fheldPage.rs ((-1 : Int), ())) [] [])
      (.ob (fheldSlotS.pre (x.slots, z4.fst, ())) <|
       .lt (Int × PUnit) (fheldSlotS.fn (x.slots, z4.fst, ())) fun z5 =>
       .br (decide (z5.fst < (0 : Int)))
        (.leaf (mkR fheldPage.rs ((-1 : Int), ())) [] [])
        (.ob (fheldModuleS.pre (x.mods, z5.fst, ())) <|
         .lt (Int × PUnit) (fheldModuleS.fn (x.mods, z5.fst, ())) fun z6 =>
         .br (decide (z6.fst < (0 : Int)))
          (.leaf (mkR fheldPage.rs ((-1 : Int), ())) [] [])
          (.ob (fheldAddrS.pre (x.entries, z6.fst, ())) <|
           .lt (Int × PUnit) (fheldAddrS.fn (x.entries, z6.fst, ())) fun z7 =>
           .br (decide (z7.fst < (0 : Int)))
            (.leaf (mkR fheldPage.rs ((-1 : Int), ())) [] [])
            (.ob (fheldAddrS.pre (x.ran, z7.fst, ())) <|
             .lt (Int × PUnit) (fheldAddrS.fn (x.ran, z7.fst, ())) fun z8 =>
             .br (decide (z8.fst < (0 : Int)))
              (.leaf (mkR fheldPage.rs ((-1 : Int), ())) [] [])
              (.ob (fheldStringS.pre (x.log, z8.fst, ())) <|
               .lt (Int × PUnit) (fheldStringS.fn (x.log, z8.fst, ())) fun z9 =>
               .br (decide (z9.fst < (0 : Int)))
                (.leaf (mkR fheldPage.rs ((-1 : Int), ())) [] [])
                (.leaf (mkR fheldPage.rs (z9.fst, ())) [] []))))))))) (by kernel_rfl) ?_
  refine ob_d ?_ <| lt_i (br_i (fun h2 => Fct.leafY ?_) (fun h2 => ob_d ?_ <| lt_i (br_i (fun h4 => Fct.leafY ?_) (fun h4 => ob_d ?_ <| lt_i (br_i (fun h6 => Fct.leafY ?_) (fun h6 => ob_d ?_ <| lt_i (br_i (fun h8 => Fct.leafY ?_) (fun h8 => ob_d ?_ <| lt_i (br_i (fun h10 => Fct.leafY ?_) (fun h10 => ob_d ?_ <| lt_i (br_i (fun h12 => Fct.leafY ?_) (fun h12 => ob_d ?_ <| lt_i (br_i (fun h14 => Fct.leafY ?_) (fun h14 => ob_d ?_ <| lt_i (br_i (fun h16 => Fct.leafY ?_) (fun h16 => Fct.leafY ?_))))))))))))))))
  all_goals have hp1 : 0 ≤ k := hp.1
  all_goals have hp2 : (mvPage x k).2 ≤ 4000000000000000000 := hp.2.1
  all_goals have heq : (mvPage x k).1 = x := hp.2.2
  all_goals clear hp
  all_goals try have q1 := congrArg (fun z : SPage => z.policy.scripts) heq
  all_goals try have q2 := congrArg (fun z : SPage => z.policy.styles) heq
  all_goals try have q3 := congrArg (fun z : SPage => z.policy.images) heq
  all_goals try have q4 := congrArg (fun z : SPage => z.queue) heq
  all_goals try have q5 := congrArg (fun z : SPage => z.builder.nodes) heq
  all_goals try have q6 := congrArg (fun z : SPage => z.builder.open_) heq
  all_goals try have q7 := congrArg (fun z : SPage => z.slots) heq
  all_goals try have q8 := congrArg (fun z : SPage => z.mods) heq
  all_goals try have q9 := congrArg (fun z : SPage => z.entries) heq
  all_goals try have q10 := congrArg (fun z : SPage => z.ran) heq
  all_goals try have q11 := congrArg (fun z : SPage => z.log) heq
  all_goals obtain ⟨E, hE⟩ : ∃ E, E = (mvPage x k).2 := ⟨_, rfl⟩
  all_goals have hE2 := hE
  all_goals simp only [mvPage] at hp2 hE2 q1 q2 q3 q4 q5 q6 q7 q8 q9 q10 q11
  all_goals clear heq
  all_goals try have m1 := mkStringS_mono x.policy.scripts (k)
  all_goals try generalize hr1 : markL mkString x.policy.scripts (k) = r1 at *
  all_goals try have m2 := mkStringS_mono x.policy.styles (r1.2)
  all_goals try generalize hr2 : markL mkString x.policy.styles (r1.2) = r2 at *
  all_goals try have m3 := mkStringS_mono x.policy.images (r2.2)
  all_goals try generalize hr3 : markL mkString x.policy.images (r2.2) = r3 at *
  all_goals try have m4 := mkTokenS_mono x.queue (r3.2)
  all_goals try generalize hr4 : markL mkToken x.queue (r3.2) = r4 at *
  all_goals try have m5 := mkNodeS_mono x.builder.nodes (r4.2)
  all_goals try generalize hr5 : markL mkNode x.builder.nodes (r4.2) = r5 at *
  all_goals try have m6 := mkIntS_mono x.builder.open_ (r5.2)
  all_goals try generalize hr6 : markL mkInt x.builder.open_ (r5.2) = r6 at *
  all_goals try have m7 := mkSlotS_mono x.slots (r6.2)
  all_goals try generalize hr7 : markL mkSlot x.slots (r6.2) = r7 at *
  all_goals try have m8 := mkModuleS_mono x.mods (r7.2)
  all_goals try generalize hr8 : markL mkModule x.mods (r7.2) = r8 at *
  all_goals try have m9 := mkAddrS_mono x.entries (r8.2)
  all_goals try generalize hr9 : markL mkAddr x.entries (r8.2) = r9 at *
  all_goals try have m10 := mkAddrS_mono x.ran (r9.2)
  all_goals try generalize hr10 : markL mkAddr x.ran (r9.2) = r10 at *
  all_goals try have m11 := mkStringS_mono x.log (r10.2)
  all_goals try generalize hr11 : markL mkString x.log (r10.2) = r11 at *
  all_goals simp (disch := omega) only [fheldAddrS, fheldIntS, fheldModuleS, fheldNodeS, fheldSlotS, fheldStringS, fheldTokenS, fheldBuilder, mvBuilder, fheldPolicy, mvPolicy, hr1, hr2, hr3, hr4, hr5, hr6, hr7, hr8, hr9, hr10, hr11, decide_eq_true_eq, decide_eq_false_iff_not, Int.not_lt] at *
  all_goals try simp only [q1, q2, q3, q4, q5, q6, q7, q8, q9, q10, q11]
  all_goals first | trivial | omega | (exfalso; omega) | (refine ⟨?_, ?_, ?_⟩ <;> first | omega | assumption) | skip
  all_goals first | (show (_, ()) = ((mvPage x k).2, ()); rw [← hE, Prod.mk.injEq]; exact ⟨by omega, rfl⟩) | skip)
def E89 : D.Env := E88.add 45 fheldPage
theorem E89ok : EOk Tryz.prog E89 := E88ok.add k45_88
set_option maxHeartbeats 2000000 in
theorem k86_89 : feqGuess.ok Tryz.prog 86 := Fct.of (S := feqGuess) (L := fun _ _ => none) (kp := [2,3,4,10,16,21,1000010,1000016,1000021]) E89ok Tryz.func86 (by kernel_rfl) (by kernel_rfl) (by
  rintro ⟨(x : SGuess), (y : SGuess), _⟩ hp
  refine holds_of (X := .ob (feqAddr.pre (x.to, y.to, ())) <|
 .lt (Bool × PUnit) (feqAddr.fn (x.to, y.to, ())) fun z2 =>
 .br (!z2.fst)
  (.leaf (mkR feqGuess.rs (false, ())) [] [])
  (.ob (feqResponse.pre (x.response, y.response, ())) <|
   .lt (Bool × PUnit) (feqResponse.fn (x.response, y.response, ())) fun z3 =>
   .br (!z3.fst)
    (.leaf (mkR feqGuess.rs (false, ())) [] [])
    (.br (!x.used == y.used)
     (.leaf (mkR feqGuess.rs (false, ())) [] [])
     (.leaf (mkR feqGuess.rs (true, ())) [] [])))) (by kernel_rfl) ?_
  refine ob_i trivial fun _ => lt_i (br_i (fun h1 => Fct.leafY ?_) (fun h1 => ob_i trivial fun _ => lt_i (br_i (fun h2 => Fct.leafY ?_) (fun h2 => br_i (fun h3 => Fct.leafY ?_) (fun h3 => Fct.leafY ?_)))))
  all_goals try simp only [std1, ne_eq] at *
  all_goals try simp only [feqAddr, feqGuess, feqResponse, etaS, std1, std2, Nat.reduceAdd, ne_eq] at *
  all_goals first | trivial | (cases x; cases y; simp_all; done) | (simp only [szAddr, szGuess, szResponse] at *; omega) | grind [szAddr, szGuess, szResponse])
def E90 : D.Env := E89.add 86 feqGuess
theorem E90ok : EOk Tryz.prog E90 := E89ok.add k86_89
set_option maxHeartbeats 2000000 in
theorem k33_90 : feqGuessS.ok Tryz.prog 33 := Fct.of (S := feqGuessS) (L := fun ⟨l, m, _⟩ => fun | 4 => some (LeqS .guess l m) | _ => none) (kp := [0,1,4,5,10,14,26,1000010,1000014,1000026]) E90ok Tryz.func33 (by kernel_rfl) (by kernel_rfl) (by
  rintro ⟨(l : List SGuess), (m : List SGuess), _⟩ hp
  refine holds_of (X := .br ((↑l.length : Int) != (↑m.length : Int))
 (.leaf (mkR feqGuessS.rs (false, ())) [] [])
 (lpx (LeqS .guess l m) ((0 : Int), ()) fun (y2 : Int × PUnit) bk2 =>
  .br (decide (y2.fst < (↑l.length : Int)))
   (.ob ((0 : Int) ≤ y2.fst ∧ y2.fst < (↑l.length : Int)) <|
    .ob ((0 : Int) ≤ y2.fst ∧ y2.fst < (↑m.length : Int)) <|
    .ob (feqGuess.pre (l.getD y2.fst.toNat default, m.getD y2.fst.toNat default, ())) <|
    .lt (Bool × PUnit) (feqGuess.fn (l.getD y2.fst.toNat default, m.getD y2.fst.toNat default, ())) fun z2 =>
    .br (!z2.fst)
     (.leaf (mkR feqGuessS.rs (false, ())) [] [])
     (.ob (l = l) <|
      .ob (m = m) <|
      .ob (bk2 (IntKind.i64.wrap (y2.fst + (1 : Int)), ())) <|
      .ok))
   (.leaf (mkR feqGuessS.rs (true, ())) [] []))) (by kernel_rfl) ?_
  refine br_i (fun h1 => Fct.leafY ?_) (fun h1 => lpx_i ?_ fun (y2 : Int × PUnit) i2 => br_i (fun h3 => ob_i ?_ fun o4 => ob_i ?_ fun o5 => ob_i trivial fun _ => lt_i (br_i (fun h6 => Fct.leafY ?_) (fun h6 => ob_i rfl fun _ => ob_i rfl fun _ => ob_i ?_ fun o7 => trivial))) (fun h3 => Fct.leafY ?_))
  all_goals try simp only [std1, ne_eq] at *
  all_goals try simp only [LeqS, feqGuess, feqGuessS, etaS, std1, std2, Nat.reduceAdd, ne_eq] at *
  · rw [decide_eq_false]; rintro rfl; omega
  · exact ⟨by omega, by omega, by simp⟩
  · omega
  · omega
  · rw [decide_eq_false]; rintro rfl; exact absurd rfl h6
  · have hw : IntKind.i64.wrap (y2.1 + 1) = y2.1 + 1 := wrapId (by omega)
    rw [hw, toNat1 (by omega)]
    refine ⟨⟨by omega, by omega, ?_⟩, by omega⟩
    rw [take_succ (by omega), take_succ (by omega), i2.2.2, h6]
  · have e : l.take y2.1.toNat = l := List.take_of_length_le (by omega)
    have e2 : m.take y2.1.toNat = m := List.take_of_length_le (by omega)
    rw [decide_eq_true]; rw [← e, ← e2, i2.2.2])
def E91 : D.Env := E90.add 33 feqGuessS
theorem E91ok : EOk Tryz.prog E91 := E90ok.add k33_90
set_option maxHeartbeats 2000000 in
theorem k43_91 : fmarkGuessS.ok Tryz.prog 43 := MS.of (S := fmarkGuessS) (L := fun l k => fun | 2 => some (LmkS .guess mkGuess l k) | _ => none) (kp := [0,1,4,5,9,1000009]) (kl := [0]) E91ok Tryz.func43 (by kernel_rfl) (by kernel_rfl) (by
  rintro (l : List SGuess) (k : Int) hp
  refine holds_of (X := lpx (LmkS .guess mkGuess l k) (k, ((0 : Int), (l, ()))) fun (y1 : Int × Int × List SGuess × PUnit) bk1 =>
 .br (decide (y1.snd.fst < (↑y1.snd.snd.fst.length : Int)))
  (.ob (fmarkText.pre (y1.fst, ())) <|
   .lt (ByteArray × PUnit) (fmarkText.fn (y1.fst, ())) fun z2 =>
   .ob ((0 : Int) ≤ y1.snd.fst ∧ y1.snd.fst < (↑y1.snd.snd.fst.length : Int)) <|
    .ob (y1.snd.fst.toNat < y1.snd.snd.fst.length) <|
    .lt (List SGuess) (y1.snd.snd.fst.modify y1.snd.fst.toNat fun z => { to := { host := z2.fst, path := z.to.path : SAddr }, response := z.response, used := z.used : SGuess }) fun z3 =>
    .ob (fmarkText.pre (IntKind.i64.wrap (y1.fst + (1 : Int)), ())) <|
     .lt (ByteArray × PUnit) (fmarkText.fn (IntKind.i64.wrap (y1.fst + (1 : Int)), ())) fun z4 =>
     .ob ((0 : Int) ≤ y1.snd.fst ∧ y1.snd.fst < (↑z3.length : Int)) <|
      .ob (y1.snd.fst.toNat < z3.length) <|
      .lt (List SGuess) (z3.modify y1.snd.fst.toNat fun z => { to := { host := z.to.host, path := z4.fst : SAddr }, response := z.response, used := z.used : SGuess }) fun z5 =>
      .ob ((0 : Int) ≤ y1.snd.fst ∧ y1.snd.fst < (↑z5.length : Int)) <|
       .ob (y1.snd.fst.toNat < z5.length) <|
       .lt (List SGuess) (z5.modify y1.snd.fst.toNat fun z => { to := z.to, response := { status := IntKind.i64.wrap (IntKind.i64.wrap (y1.fst + (1 : Int)) + (1 : Int)), kind := z.response.kind, body := z.response.body, age := z.response.age, shares := z.response.shares, policy := z.response.policy : SResponse }, used := z.used : SGuess }) fun z6 =>
       .ob ((0 : Int) ≤ y1.snd.fst ∧ y1.snd.fst < (↑z6.length : Int)) <|
        .ob (y1.snd.fst.toNat < z6.length) <|
        .lt (List SGuess) (z6.modify y1.snd.fst.toNat fun z => { to := z.to, response := { status := z.response.status, kind := IntKind.i64.wrap (IntKind.i64.wrap (IntKind.i64.wrap (y1.fst + (1 : Int)) + (1 : Int)) + (1 : Int)), body := z.response.body, age := z.response.age, shares := z.response.shares, policy := z.response.policy : SResponse }, used := z.used : SGuess }) fun z7 =>
        .ob (fmarkText.pre (IntKind.i64.wrap (IntKind.i64.wrap (IntKind.i64.wrap (IntKind.i64.wrap (y1.fst + (1 : Int)) + (1 : Int)) + (1 : Int)) + (1 : Int)), ())) <|
         .lt (ByteArray × PUnit) (fmarkText.fn (IntKind.i64.wrap (IntKind.i64.wrap (IntKind.i64.wrap (IntKind.i64.wrap (y1.fst + (1 : Int)) + (1 : Int)) + (1 : Int)) + (1 : Int)), ())) fun z8 =>
         .ob ((0 : Int) ≤ y1.snd.fst ∧ y1.snd.fst < (↑z7.length : Int)) <|
          .ob (y1.snd.fst.toNat < z7.length) <|
          .lt (List SGuess) (z7.modify y1.snd.fst.toNat fun z => { to := z.to, response := { status := z.response.status, kind := z.response.kind, body := z8.fst, age := z.response.age, shares := z.response.shares, policy := z.response.policy : SResponse }, used := z.used : SGuess }) fun z9 =>
          .ob ((0 : Int) ≤ y1.snd.fst ∧ y1.snd.fst < (↑z9.length : Int)) <|
           .ob (y1.snd.fst.toNat < z9.length) <|
           .lt (List SGuess) (z9.modify y1.snd.fst.toNat fun z => { to := z.to, response := { status := z.response.status, kind := z.response.kind, body := z.response.body, age := IntKind.i64.wrap (IntKind.i64.wrap (IntKind.i64.wrap (IntKind.i64.wrap (IntKind.i64.wrap (y1.fst + (1 : Int)) + (1 : Int)) + (1 : Int)) + (1 : Int)) + (1 : Int)), shares := z.response.shares, policy := z.response.policy : SResponse }, used := z.used : SGuess }) fun z10 =>
           .ob ((3 : Int) ≠ (0 : Int)) <|
            .ob ((0 : Int) ≤ y1.snd.fst ∧ y1.snd.fst < (↑z10.length : Int)) <|
            .ob (y1.snd.fst.toNat < z10.length) <|
            .lt (List SGuess) (z10.modify y1.snd.fst.toNat fun z => { to := z.to, response := { status := z.response.status, kind := z.response.kind, body := z.response.body, age := z.response.age, shares := (IntKind.i64.wrap (IntKind.i64.wrap (IntKind.i64.wrap (IntKind.i64.wrap (IntKind.i64.wrap (IntKind.i64.wrap (y1.fst + (1 : Int)) + (1 : Int)) + (1 : Int)) + (1 : Int)) + (1 : Int)) + (1 : Int))).tmod (3 : Int) == (0 : Int), policy := z.response.policy : SResponse }, used := z.used : SGuess }) fun z11 =>
            .ob (fmarkText.pre (IntKind.i64.wrap (IntKind.i64.wrap (IntKind.i64.wrap (IntKind.i64.wrap (IntKind.i64.wrap (IntKind.i64.wrap (IntKind.i64.wrap (y1.fst + (1 : Int)) + (1 : Int)) + (1 : Int)) + (1 : Int)) + (1 : Int)) + (1 : Int)) + (1 : Int)), ())) <|
             .lt (ByteArray × PUnit) (fmarkText.fn (IntKind.i64.wrap (IntKind.i64.wrap (IntKind.i64.wrap (IntKind.i64.wrap (IntKind.i64.wrap (IntKind.i64.wrap (IntKind.i64.wrap (y1.fst + (1 : Int)) + (1 : Int)) + (1 : Int)) + (1 : Int)) + (1 : Int)) + (1 : Int)) + (1 : Int)), ())) fun z12 =>
             .ob ((0 : Int) ≤ y1.snd.fst ∧ y1.snd.fst < (↑z11.length : Int)) <|
              .ob (y1.snd.fst.toNat < z11.length) <|
              .lt (List SGuess) (z11.modify y1.snd.fst.toNat fun z => { to := z.to, response := { status := z.response.status, kind := z.response.kind, body := z.response.body, age := z.response.age, shares := z.response.shares, policy := z12.fst : SResponse }, used := z.used : SGuess }) fun z13 =>
              .ob ((3 : Int) ≠ (0 : Int)) <|
               .ob ((0 : Int) ≤ y1.snd.fst ∧ y1.snd.fst < (↑z13.length : Int)) <|
               .ob (y1.snd.fst.toNat < z13.length) <|
               .lt (List SGuess) (z13.modify y1.snd.fst.toNat fun z => { to := z.to, response := z.response, used := (IntKind.i64.wrap (IntKind.i64.wrap (IntKind.i64.wrap (IntKind.i64.wrap (IntKind.i64.wrap (IntKind.i64.wrap (IntKind.i64.wrap (IntKind.i64.wrap (y1.fst + (1 : Int)) + (1 : Int)) + (1 : Int)) + (1 : Int)) + (1 : Int)) + (1 : Int)) + (1 : Int)) + (1 : Int))).tmod (3 : Int) == (0 : Int) : SGuess }) fun z14 =>
               .ob (Value.int IntKind.i64 (0 : Int) = Value.int IntKind.i64 (0 : Int)) <|
                .ob (bk1 (IntKind.i64.wrap (IntKind.i64.wrap (IntKind.i64.wrap (IntKind.i64.wrap (IntKind.i64.wrap (IntKind.i64.wrap (IntKind.i64.wrap (IntKind.i64.wrap (IntKind.i64.wrap (y1.fst + (1 : Int)) + (1 : Int)) + (1 : Int)) + (1 : Int)) + (1 : Int)) + (1 : Int)) + (1 : Int)) + (1 : Int)) + (1 : Int)), (IntKind.i64.wrap (y1.snd.fst + (1 : Int)), (z14, ())))) <|
                .ok)
  (.leaf (.one false [vi (y1.fst)]) [] [((0 : Nat), ⟨Ty.guess, y1.snd.snd.fst⟩)])) (by kernel_rfl) ?_
  refine lpx_i ?_ fun (y1 : Int × Int × List SGuess × PUnit) i1 => br_i (fun h2 => ob_i ?_ fun o3 => lt_i (ob_i ?_ fun o4 => ob_i ?_ fun o5 => lt_i (ob_i ?_ fun o6 => lt_i (ob_i ?_ fun o7 => ob_i ?_ fun o8 => lt_i (ob_i ?_ fun o9 => ob_i ?_ fun o10 => lt_i (ob_i ?_ fun o11 => ob_i ?_ fun o12 => lt_i (ob_i ?_ fun o13 => lt_i (ob_i ?_ fun o14 => ob_i ?_ fun o15 => lt_i (ob_i ?_ fun o16 => ob_i ?_ fun o17 => lt_i (ob_i ?_ fun o18 => ob_i ?_ fun o19 => ob_i ?_ fun o20 => lt_i (ob_i ?_ fun o21 => lt_i (ob_i ?_ fun o22 => ob_i ?_ fun o23 => lt_i (ob_i ?_ fun o24 => ob_i ?_ fun o25 => ob_i ?_ fun o26 => lt_i (ob_i rfl fun _ => ob_i ?_ fun o27 => trivial)))))))))))))) (fun h2 => MS.leaf ?_)
  · exact ⟨by simp, by simp, by simp [markL], by simp [markL]⟩
  all_goals have hp1 : 0 ≤ k := hp.1
  all_goals have hp2 : (markL mkGuess l k).2 ≤ 4000000000000000000 := hp.2
  all_goals have i3 : 0 ≤ y1.2.1 ∧ y1.2.1 ≤ l.length ∧ y1.1 = (markL mkGuess (l.take y1.2.1.toNat) k).2 ∧ y1.2.2.1 = (markL mkGuess (l.take y1.2.1.toNat) k).1 ++ l.drop y1.2.1.toNat := i1
  all_goals have hcnt := markL_cnt (f := mkGuess) (fun x k => by simp only [mkGuess]; omega) l k
  all_goals have hx : y1.2.2.1.length = l.length := by rw [i3.2.2.2, List.length_append, markL_len, List.length_take, List.length_drop]; omega
  all_goals simp only [decide_eq_true_eq, decide_eq_false_iff_not, hx] at h2
  all_goals clear i1
  all_goals try have hlt : y1.2.1.toNat < l.length := by omega
  all_goals try have ht := markL_take (f := mkGuess) hlt k
  all_goals try have hle := (markL_take_le mkGuess_mono l (y1.2.1.toNat + 1) k).2
  all_goals try have hl0 := (markL_take_le mkGuess_mono l y1.2.1.toNat k).1
  all_goals try rw [ht] at hle
  all_goals try rw [← i3.2.2.1] at hle hl0 ht
  all_goals try simp only [mkGuess] at hle
  all_goals first | decide | (simp only [List.length_modify, hx]; omega) | (refine ⟨?_, ?_⟩ <;> (try simp (discharger := omega) only [wrapId']) <;> omega) | skip
  · try clear o3 o4 o5
    simp (discharger := omega) only [wrapId', fmarkText]
    have hA : (markL mkGuess (l.take y1.2.1.toNat) k).1.length = y1.2.1.toNat := by rw [markL_len, List.length_take]; omega
    refine ⟨⟨by omega, by omega, ?_, ?_⟩, ?_⟩
    · rw [toNat1 (by omega), ht]
      first | done | (simp only [mkGuess]; done) | (simp only [mkGuess]; omega)
    · rw [toNat1 (by omega), ht, i3.2.2.2, drop_cons hlt]
      simp only [mod_at hA, mkGuess, Int.add_assoc, Int.reduceAdd, List.append_assoc, List.cons_append, List.nil_append]
    · omega
  · refine MS.leafL (t := .guess) (fn := fun l k => markL mkGuess l k) ?_
    have e1 : l.take y1.2.1.toNat = l := List.take_of_length_le (by omega)
    have e2 : l.drop y1.2.1.toNat = [] := List.drop_of_length_le (by omega)
    rw [i3.2.2.2, i3.2.2.1, e1, e2, List.append_nil])
def E92 : D.Env := E91.addM 43 fmarkGuessS
theorem E92ok : EOk Tryz.prog E92 := E91ok.addM k43_91
set_option maxHeartbeats 2000000 in
theorem k48_92 : fheldGuessS.ok Tryz.prog 48 := Fct.of (S := fheldGuessS) (L := fun ⟨l, k, _⟩ => fun | 2 => some (LheS .guess mkGuess l k) | _ => none) (kp := [0,1,4,5,9,20,31,41,51,62,72,84,95,106,1000009,1000020,1000031,1000041,1000051,1000062,1000072,1000084,1000095,1000106]) E92ok Tryz.func48 (by kernel_rfl) (by kernel_rfl) (by
  rintro ⟨(l : List SGuess), (k : Int), _⟩ hp
  refine holds_of (X := lpx (LheS .guess mkGuess l k) (k, ((0 : Int), ())) fun (y1 : Int × Int × PUnit) bk1 =>
 .br (decide (y1.snd.fst < (↑l.length : Int)))
  (.ob ((0 : Int) ≤ y1.snd.fst ∧ y1.snd.fst < (↑l.length : Int)) <|
   .ob (fmarkText.pre (y1.fst, ())) <|
   .lt (ByteArray × PUnit) (fmarkText.fn (y1.fst, ())) fun z2 =>
   .br (!(l.getD y1.snd.fst.toNat default).to.host.toList == z2.fst.toList)
    (.leaf (mkR fheldGuessS.rs ((-1 : Int), ())) [] [])
    (.ob ((0 : Int) ≤ y1.snd.fst ∧ y1.snd.fst < (↑l.length : Int)) <|
     .ob (fmarkText.pre (IntKind.i64.wrap (y1.fst + (1 : Int)), ())) <|
     .lt (ByteArray × PUnit) (fmarkText.fn (IntKind.i64.wrap (y1.fst + (1 : Int)), ())) fun z3 =>
     .br (!(l.getD y1.snd.fst.toNat default).to.path.toList == z3.fst.toList)
      (.leaf (mkR fheldGuessS.rs ((-1 : Int), ())) [] [])
      (.ob ((0 : Int) ≤ y1.snd.fst ∧ y1.snd.fst < (↑l.length : Int)) <|
       .br ((l.getD y1.snd.fst.toNat default).response.status != IntKind.i64.wrap (IntKind.i64.wrap (y1.fst + (1 : Int)) + (1 : Int)))
       (.leaf (mkR fheldGuessS.rs ((-1 : Int), ())) [] [])
       (.ob ((0 : Int) ≤ y1.snd.fst ∧ y1.snd.fst < (↑l.length : Int)) <|
        .br ((l.getD y1.snd.fst.toNat default).response.kind != IntKind.i64.wrap (IntKind.i64.wrap (IntKind.i64.wrap (y1.fst + (1 : Int)) + (1 : Int)) + (1 : Int)))
        (.leaf (mkR fheldGuessS.rs ((-1 : Int), ())) [] [])
        (.ob ((0 : Int) ≤ y1.snd.fst ∧ y1.snd.fst < (↑l.length : Int)) <|
         .ob (fmarkText.pre (IntKind.i64.wrap (IntKind.i64.wrap (IntKind.i64.wrap (IntKind.i64.wrap (y1.fst + (1 : Int)) + (1 : Int)) + (1 : Int)) + (1 : Int)), ())) <|
         .lt (ByteArray × PUnit) (fmarkText.fn (IntKind.i64.wrap (IntKind.i64.wrap (IntKind.i64.wrap (IntKind.i64.wrap (y1.fst + (1 : Int)) + (1 : Int)) + (1 : Int)) + (1 : Int)), ())) fun z4 =>
         .br (!(l.getD y1.snd.fst.toNat default).response.body.toList == z4.fst.toList)
          (.leaf (mkR fheldGuessS.rs ((-1 : Int), ())) [] [])
          (.ob ((0 : Int) ≤ y1.snd.fst ∧ y1.snd.fst < (↑l.length : Int)) <|
           .br ((l.getD y1.snd.fst.toNat default).response.age != IntKind.i64.wrap (IntKind.i64.wrap (IntKind.i64.wrap (IntKind.i64.wrap (IntKind.i64.wrap (y1.fst + (1 : Int)) + (1 : Int)) + (1 : Int)) + (1 : Int)) + (1 : Int)))
           (.leaf (mkR fheldGuessS.rs ((-1 : Int), ())) [] [])
           (.ob ((0 : Int) ≤ y1.snd.fst ∧ y1.snd.fst < (↑l.length : Int)) <|
            .ob ((3 : Int) ≠ (0 : Int)) <|
            .br (!(l.getD y1.snd.fst.toNat default).response.shares == ((IntKind.i64.wrap (IntKind.i64.wrap (IntKind.i64.wrap (IntKind.i64.wrap (IntKind.i64.wrap (IntKind.i64.wrap (y1.fst + (1 : Int)) + (1 : Int)) + (1 : Int)) + (1 : Int)) + (1 : Int)) + (1 : Int))).tmod (3 : Int) == (0 : Int)))
            (.leaf (mkR fheldGuessS.rs ((-1 : Int), ())) [] [])
            (.ob ((0 : Int) ≤ y1.snd.fst ∧ y1.snd.fst < (↑l.length : Int)) <|
             .ob (fmarkText.pre (IntKind.i64.wrap (IntKind.i64.wrap (IntKind.i64.wrap (IntKind.i64.wrap (IntKind.i64.wrap (IntKind.i64.wrap (IntKind.i64.wrap (y1.fst + (1 : Int)) + (1 : Int)) + (1 : Int)) + (1 : Int)) + (1 : Int)) + (1 : Int)) + (1 : Int)), ())) <|
             .lt (ByteArray × PUnit) (fmarkText.fn (IntKind.i64.wrap (IntKind.i64.wrap (IntKind.i64.wrap (IntKind.i64.wrap (IntKind.i64.wrap (IntKind.i64.wrap (IntKind.i64.wrap (y1.fst + (1 : Int)) + (1 : Int)) + (1 : Int)) + (1 : Int)) + (1 : Int)) + (1 : Int)) + (1 : Int)), ())) fun z5 =>
             .br (!(l.getD y1.snd.fst.toNat default).response.policy.toList == z5.fst.toList)
              (.leaf (mkR fheldGuessS.rs ((-1 : Int), ())) [] [])
              (.ob ((0 : Int) ≤ y1.snd.fst ∧ y1.snd.fst < (↑l.length : Int)) <|
               .ob ((3 : Int) ≠ (0 : Int)) <|
               .br (!(l.getD y1.snd.fst.toNat default).used == ((IntKind.i64.wrap (IntKind.i64.wrap (IntKind.i64.wrap (IntKind.i64.wrap (IntKind.i64.wrap (IntKind.i64.wrap (IntKind.i64.wrap (IntKind.i64.wrap (y1.fst + (1 : Int)) + (1 : Int)) + (1 : Int)) + (1 : Int)) + (1 : Int)) + (1 : Int)) + (1 : Int)) + (1 : Int))).tmod (3 : Int) == (0 : Int)))
               (.leaf (mkR fheldGuessS.rs ((-1 : Int), ())) [] [])
               (.ob (l = l) <|
                .ob (bk1 (IntKind.i64.wrap (IntKind.i64.wrap (IntKind.i64.wrap (IntKind.i64.wrap (IntKind.i64.wrap (IntKind.i64.wrap (IntKind.i64.wrap (IntKind.i64.wrap (IntKind.i64.wrap (y1.fst + (1 : Int)) + (1 : Int)) + (1 : Int)) + (1 : Int)) + (1 : Int)) + (1 : Int)) + (1 : Int)) + (1 : Int)) + (1 : Int)), (IntKind.i64.wrap (y1.snd.fst + (1 : Int)), ()))) <|
                .ok))))))))))
  (.leaf (mkR fheldGuessS.rs (y1.fst, ())) [] [])) (by kernel_rfl) ?_
  refine lpx_i ?_ fun (y1 : Int × Int × PUnit) i1 => br_i (fun h2 => ob_i ?_ fun o3 => ob_i ?_ fun o4 => lt_i (br_i (fun h5 => Fct.leafY ?_) (fun h5 => ob_i ?_ fun o6 => ob_i ?_ fun o7 => lt_i (br_i (fun h8 => Fct.leafY ?_) (fun h8 => ob_i ?_ fun o9 => br_i (fun h10 => Fct.leafY ?_) (fun h10 => ob_i ?_ fun o11 => br_i (fun h12 => Fct.leafY ?_) (fun h12 => ob_i ?_ fun o13 => ob_i ?_ fun o14 => lt_i (br_i (fun h15 => Fct.leafY ?_) (fun h15 => ob_i ?_ fun o16 => br_i (fun h17 => Fct.leafY ?_) (fun h17 => ob_i ?_ fun o18 => ob_i ?_ fun o19 => br_i (fun h20 => Fct.leafY ?_) (fun h20 => ob_i ?_ fun o21 => ob_i ?_ fun o22 => lt_i (br_i (fun h23 => Fct.leafY ?_) (fun h23 => ob_i ?_ fun o24 => ob_i ?_ fun o25 => br_i (fun h26 => Fct.leafY ?_) (fun h26 => ob_i rfl fun _ => ob_i ?_ fun o27 => trivial)))))))))))))) (fun h2 => Fct.leafY ?_)
  · exact ⟨by simp, by simp, by simp [markL]⟩
  all_goals have hp1 : 0 ≤ k := hp.1
  all_goals have hp2 : (markL mkGuess l k).2 ≤ 4000000000000000000 := hp.2.1
  all_goals have hp3 : (markL mkGuess l k).1 = l := hp.2.2
  all_goals have i3 : 0 ≤ y1.2.1 ∧ y1.2.1 ≤ l.length ∧ y1.1 = (markL mkGuess (l.take y1.2.1.toNat) k).2 := i1
  all_goals have hcnt := markL_cnt (f := mkGuess) (fun x k => by simp only [mkGuess]; omega) l k
  all_goals simp only [decide_eq_true_eq, decide_eq_false_iff_not] at h2
  all_goals clear i1 hp
  all_goals try have hlt : y1.2.1.toNat < l.length := by omega
  all_goals try have ht := markL_take (f := mkGuess) hlt k
  all_goals try have hle := (markL_take_le mkGuess_mono l (y1.2.1.toNat + 1) k).2
  all_goals try have hl0 := (markL_take_le mkGuess_mono l y1.2.1.toNat k).1
  all_goals try have heq := markL_held hp3 hlt
  all_goals try rw [ht] at hle
  all_goals try rw [← i3.2.2] at hle hl0 ht heq
  all_goals try simp only [mkGuess] at hle heq
  all_goals first | decide | omega | (refine ⟨?_, ?_⟩ <;> (try simp (discharger := omega) only [wrapId']) <;> omega) | skip
  all_goals try (exfalso; clear ht; generalize l.getD y1.2.1.toNat default = c at *; subst heq; simp (discharger := omega) [wrapId', fmarkText, Int.add_assoc] at *; done)
  · simp (discharger := omega) only [wrapId']
    refine ⟨⟨by omega, by omega, ?_⟩, ?_⟩
    · rw [toNat1 (by omega), ht]
      first | done | (simp only [mkGuess]; done) | (simp only [mkGuess]; omega)
    · omega
  · have e1 : l.take y1.2.1.toNat = l := List.take_of_length_le (by omega)
    rw [e1] at i3
    show (y1.1, ()) = ((markL mkGuess l k).2, ())
    rw [i3.2.2])
def E93 : D.Env := E92.add 48 fheldGuessS
theorem E93ok : EOk Tryz.prog E93 := E92ok.add k48_92
set_option maxHeartbeats 2000000 in
theorem k85_93 : feqConn.ok Tryz.prog 85 := Fct.of (S := feqConn) (L := fun _ _ => none) (kp := [2,3,4,10,15,20,26,1000010,1000015,1000020,1000026]) E93ok Tryz.func85 (by kernel_rfl) (by kernel_rfl) (by
  rintro ⟨(x : SConn), (y : SConn), _⟩ hp
  refine holds_of (X := .ob (feqAddr.pre (x.to, y.to, ())) <|
 .lt (Bool × PUnit) (feqAddr.fn (x.to, y.to, ())) fun z2 =>
 .br (!z2.fst)
  (.leaf (mkR feqConn.rs (false, ())) [] [])
  (.br (x.left != y.left)
   (.leaf (mkR feqConn.rs (false, ())) [] [])
   (.br (!x.guess == y.guess)
    (.leaf (mkR feqConn.rs (false, ())) [] [])
    (.ob (feqResponse.pre (x.response, y.response, ())) <|
     .lt (Bool × PUnit) (feqResponse.fn (x.response, y.response, ())) fun z3 =>
     .br (!z3.fst)
      (.leaf (mkR feqConn.rs (false, ())) [] [])
      (.leaf (mkR feqConn.rs (true, ())) [] []))))) (by kernel_rfl) ?_
  refine ob_i trivial fun _ => lt_i (br_i (fun h1 => Fct.leafY ?_) (fun h1 => br_i (fun h2 => Fct.leafY ?_) (fun h2 => br_i (fun h3 => Fct.leafY ?_) (fun h3 => ob_i trivial fun _ => lt_i (br_i (fun h4 => Fct.leafY ?_) (fun h4 => Fct.leafY ?_))))))
  all_goals try simp only [std1, ne_eq] at *
  all_goals try simp only [feqAddr, feqConn, feqResponse, etaS, std1, std2, Nat.reduceAdd, ne_eq] at *
  all_goals first | trivial | (cases x; cases y; simp_all; done) | (simp only [szAddr, szConn, szResponse] at *; omega) | grind [szAddr, szConn, szResponse])
def E94 : D.Env := E93.add 85 feqConn
theorem E94ok : EOk Tryz.prog E94 := E93ok.add k85_93
set_option maxHeartbeats 2000000 in
theorem k32_94 : feqConnS.ok Tryz.prog 32 := Fct.of (S := feqConnS) (L := fun ⟨l, m, _⟩ => fun | 4 => some (LeqS .conn l m) | _ => none) (kp := [0,1,4,5,10,14,26,1000010,1000014,1000026]) E94ok Tryz.func32 (by kernel_rfl) (by kernel_rfl) (by
  rintro ⟨(l : List SConn), (m : List SConn), _⟩ hp
  refine holds_of (X := .br ((↑l.length : Int) != (↑m.length : Int))
 (.leaf (mkR feqConnS.rs (false, ())) [] [])
 (lpx (LeqS .conn l m) ((0 : Int), ()) fun (y2 : Int × PUnit) bk2 =>
  .br (decide (y2.fst < (↑l.length : Int)))
   (.ob ((0 : Int) ≤ y2.fst ∧ y2.fst < (↑l.length : Int)) <|
    .ob ((0 : Int) ≤ y2.fst ∧ y2.fst < (↑m.length : Int)) <|
    .ob (feqConn.pre (l.getD y2.fst.toNat default, m.getD y2.fst.toNat default, ())) <|
    .lt (Bool × PUnit) (feqConn.fn (l.getD y2.fst.toNat default, m.getD y2.fst.toNat default, ())) fun z2 =>
    .br (!z2.fst)
     (.leaf (mkR feqConnS.rs (false, ())) [] [])
     (.ob (l = l) <|
      .ob (m = m) <|
      .ob (bk2 (IntKind.i64.wrap (y2.fst + (1 : Int)), ())) <|
      .ok))
   (.leaf (mkR feqConnS.rs (true, ())) [] []))) (by kernel_rfl) ?_
  refine br_i (fun h1 => Fct.leafY ?_) (fun h1 => lpx_i ?_ fun (y2 : Int × PUnit) i2 => br_i (fun h3 => ob_i ?_ fun o4 => ob_i ?_ fun o5 => ob_i trivial fun _ => lt_i (br_i (fun h6 => Fct.leafY ?_) (fun h6 => ob_i rfl fun _ => ob_i rfl fun _ => ob_i ?_ fun o7 => trivial))) (fun h3 => Fct.leafY ?_))
  all_goals try simp only [std1, ne_eq] at *
  all_goals try simp only [LeqS, feqConn, feqConnS, etaS, std1, std2, Nat.reduceAdd, ne_eq] at *
  · rw [decide_eq_false]; rintro rfl; omega
  · exact ⟨by omega, by omega, by simp⟩
  · omega
  · omega
  · rw [decide_eq_false]; rintro rfl; exact absurd rfl h6
  · have hw : IntKind.i64.wrap (y2.1 + 1) = y2.1 + 1 := wrapId (by omega)
    rw [hw, toNat1 (by omega)]
    refine ⟨⟨by omega, by omega, ?_⟩, by omega⟩
    rw [take_succ (by omega), take_succ (by omega), i2.2.2, h6]
  · have e : l.take y2.1.toNat = l := List.take_of_length_le (by omega)
    have e2 : m.take y2.1.toNat = m := List.take_of_length_le (by omega)
    rw [decide_eq_true]; rw [← e, ← e2, i2.2.2])
def E95 : D.Env := E94.add 32 feqConnS
theorem E95ok : EOk Tryz.prog E95 := E94ok.add k32_94
set_option maxHeartbeats 2000000 in
theorem k42_95 : fmarkConnS.ok Tryz.prog 42 := MS.of (S := fmarkConnS) (L := fun l k => fun | 2 => some (LmkS .conn mkConn l k) | _ => none) (kp := [0,1,4,5,9,1000009]) (kl := [0]) E95ok Tryz.func42 (by kernel_rfl) (by kernel_rfl) (by
  rintro (l : List SConn) (k : Int) hp
  refine holds_of (X := lpx (LmkS .conn mkConn l k) (k, ((0 : Int), (l, ()))) fun (y1 : Int × Int × List SConn × PUnit) bk1 =>
 .br (decide (y1.snd.fst < (↑y1.snd.snd.fst.length : Int)))
  (.ob (fmarkText.pre (y1.fst, ())) <|
   .lt (ByteArray × PUnit) (fmarkText.fn (y1.fst, ())) fun z2 =>
   .ob ((0 : Int) ≤ y1.snd.fst ∧ y1.snd.fst < (↑y1.snd.snd.fst.length : Int)) <|
    .ob (y1.snd.fst.toNat < y1.snd.snd.fst.length) <|
    .lt (List SConn) (y1.snd.snd.fst.modify y1.snd.fst.toNat fun z =>
  { to := { host := z2.fst, path := z.to.path : SAddr }, left := z.left, guess := z.guess, response := z.response :
    SConn }) fun z3 =>
    .ob (fmarkText.pre (IntKind.i64.wrap (y1.fst + (1 : Int)), ())) <|
     .lt (ByteArray × PUnit) (fmarkText.fn (IntKind.i64.wrap (y1.fst + (1 : Int)), ())) fun z4 =>
     .ob ((0 : Int) ≤ y1.snd.fst ∧ y1.snd.fst < (↑z3.length : Int)) <|
      .ob (y1.snd.fst.toNat < z3.length) <|
      .lt (List SConn) (z3.modify y1.snd.fst.toNat fun z =>
  { to := { host := z.to.host, path := z4.fst : SAddr }, left := z.left, guess := z.guess, response := z.response :
    SConn }) fun z5 =>
      .ob ((0 : Int) ≤ y1.snd.fst ∧ y1.snd.fst < (↑z5.length : Int)) <|
       .ob (y1.snd.fst.toNat < z5.length) <|
       .lt (List SConn) (z5.modify y1.snd.fst.toNat fun z =>
  { to := z.to, left := IntKind.i64.wrap (IntKind.i64.wrap (y1.fst + (1 : Int)) + (1 : Int)), guess := z.guess,
    response := z.response : SConn }) fun z6 =>
       .ob ((3 : Int) ≠ (0 : Int)) <|
        .ob ((0 : Int) ≤ y1.snd.fst ∧ y1.snd.fst < (↑z6.length : Int)) <|
        .ob (y1.snd.fst.toNat < z6.length) <|
        .lt (List SConn) (z6.modify y1.snd.fst.toNat fun z =>
  { to := z.to, left := z.left,
    guess :=
      (IntKind.i64.wrap (IntKind.i64.wrap (IntKind.i64.wrap (y1.fst + (1 : Int)) + (1 : Int)) + (1 : Int))).tmod
          (3 : Int) ==
        (0 : Int),
    response := z.response : SConn }) fun z7 =>
        .ob ((0 : Int) ≤ y1.snd.fst ∧ y1.snd.fst < (↑z7.length : Int)) <|
         .ob (y1.snd.fst.toNat < z7.length) <|
         .lt (List SConn) (z7.modify y1.snd.fst.toNat fun z =>
  { to := z.to, left := z.left, guess := z.guess,
    response :=
      {
        status :=
          IntKind.i64.wrap
            (IntKind.i64.wrap (IntKind.i64.wrap (IntKind.i64.wrap (y1.fst + (1 : Int)) + (1 : Int)) + (1 : Int)) +
              (1 : Int)),
        kind := z.response.kind, body := z.response.body, age := z.response.age, shares := z.response.shares,
        policy := z.response.policy : SResponse } :
    SConn }) fun z8 =>
         .ob ((0 : Int) ≤ y1.snd.fst ∧ y1.snd.fst < (↑z8.length : Int)) <|
          .ob (y1.snd.fst.toNat < z8.length) <|
          .lt (List SConn) (z8.modify y1.snd.fst.toNat fun z =>
  { to := z.to, left := z.left, guess := z.guess,
    response :=
      { status := z.response.status,
        kind :=
          IntKind.i64.wrap
            (IntKind.i64.wrap
                (IntKind.i64.wrap (IntKind.i64.wrap (IntKind.i64.wrap (y1.fst + (1 : Int)) + (1 : Int)) + (1 : Int)) +
                  (1 : Int)) +
              (1 : Int)),
        body := z.response.body, age := z.response.age, shares := z.response.shares, policy := z.response.policy :
        SResponse } :
    SConn }) fun z9 =>
          .ob (fmarkText.pre
  (IntKind.i64.wrap
      (IntKind.i64.wrap
          (IntKind.i64.wrap
              (IntKind.i64.wrap (IntKind.i64.wrap (IntKind.i64.wrap (y1.fst + (1 : Int)) + (1 : Int)) + (1 : Int)) +
                (1 : Int)) +
            (1 : Int)) +
        (1 : Int)),
    ())) <|
           .lt (ByteArray × PUnit) (fmarkText.fn
  (IntKind.i64.wrap
      (IntKind.i64.wrap
          (IntKind.i64.wrap
              (IntKind.i64.wrap (IntKind.i64.wrap (IntKind.i64.wrap (y1.fst + (1 : Int)) + (1 : Int)) + (1 : Int)) +
                (1 : Int)) +
            (1 : Int)) +
        (1 : Int)),
    ())) fun z10 =>
           .ob ((0 : Int) ≤ y1.snd.fst ∧ y1.snd.fst < (↑z9.length : Int)) <|
            .ob (y1.snd.fst.toNat < z9.length) <|
            .lt (List SConn) (z9.modify y1.snd.fst.toNat fun z =>
  { to := z.to, left := z.left, guess := z.guess,
    response :=
      { status := z.response.status, kind := z.response.kind, body := z10.fst, age := z.response.age,
        shares := z.response.shares, policy := z.response.policy : SResponse } :
    SConn }) fun z11 =>
            .ob ((0 : Int) ≤ y1.snd.fst ∧ y1.snd.fst < (↑z11.length : Int)) <|
             .ob (y1.snd.fst.toNat < z11.length) <|
             .lt (List SConn) (z11.modify y1.snd.fst.toNat fun z =>
  { to := z.to, left := z.left, guess := z.guess,
    response :=
      { status := z.response.status, kind := z.response.kind, body := z.response.body,
        age :=
          IntKind.i64.wrap
            (IntKind.i64.wrap
                (IntKind.i64.wrap
                    (IntKind.i64.wrap
                        (IntKind.i64.wrap
                            (IntKind.i64.wrap (IntKind.i64.wrap (y1.fst + (1 : Int)) + (1 : Int)) + (1 : Int)) +
                          (1 : Int)) +
                      (1 : Int)) +
                  (1 : Int)) +
              (1 : Int)),
        shares := z.response.shares, policy := z.response.policy : SResponse } :
    SConn }) fun z12 =>
             .ob ((3 : Int) ≠ (0 : Int)) <|
              .ob ((0 : Int) ≤ y1.snd.fst ∧ y1.snd.fst < (↑z12.length : Int)) <|
              .ob (y1.snd.fst.toNat < z12.length) <|
              .lt (List SConn) (z12.modify y1.snd.fst.toNat fun z =>
  { to := z.to, left := z.left, guess := z.guess,
    response :=
      { status := z.response.status, kind := z.response.kind, body := z.response.body, age := z.response.age,
        shares :=
          (IntKind.i64.wrap
                  (IntKind.i64.wrap
                      (IntKind.i64.wrap
                          (IntKind.i64.wrap
                              (IntKind.i64.wrap
                                  (IntKind.i64.wrap
                                      (IntKind.i64.wrap (IntKind.i64.wrap (y1.fst + (1 : Int)) + (1 : Int)) +
                                        (1 : Int)) +
                                    (1 : Int)) +
                                (1 : Int)) +
                            (1 : Int)) +
                        (1 : Int)) +
                    (1 : Int))).tmod
              (3 : Int) ==
            (0 : Int),
        policy := z.response.policy : SResponse } :
    SConn }) fun z13 =>
              .ob (fmarkText.pre
  (IntKind.i64.wrap
      (IntKind.i64.wrap
          (IntKind.i64.wrap
              (IntKind.i64.wrap
                  (IntKind.i64.wrap
                      (IntKind.i64.wrap
                          (IntKind.i64.wrap
                              (IntKind.i64.wrap (IntKind.i64.wrap (y1.fst + (1 : Int)) + (1 : Int)) + (1 : Int)) +
                            (1 : Int)) +
                        (1 : Int)) +
                    (1 : Int)) +
                (1 : Int)) +
            (1 : Int)) +
        (1 : Int)),
    ())) <|
               .lt (ByteArray × PUnit) (fmarkText.fn
  (IntKind.i64.wrap
      (IntKind.i64.wrap
          (IntKind.i64.wrap
              (IntKind.i64.wrap
                  (IntKind.i64.wrap
                      (IntKind.i64.wrap
                          (IntKind.i64.wrap
                              (IntKind.i64.wrap (IntKind.i64.wrap (y1.fst + (1 : Int)) + (1 : Int)) + (1 : Int)) +
                            (1 : Int)) +
                        (1 : Int)) +
                    (1 : Int)) +
                (1 : Int)) +
            (1 : Int)) +
        (1 : Int)),
    ())) fun z14 =>
               .ob ((0 : Int) ≤ y1.snd.fst ∧ y1.snd.fst < (↑z13.length : Int)) <|
                .ob (y1.snd.fst.toNat < z13.length) <|
                .lt (List SConn) (z13.modify y1.snd.fst.toNat fun z =>
  { to := z.to, left := z.left, guess := z.guess,
    response :=
      { status := z.response.status, kind := z.response.kind, body := z.response.body, age := z.response.age,
        shares := z.response.shares, policy := z14.fst : SResponse } :
    SConn }) fun z15 =>
                .ob (Value.int IntKind.i64 (0 : Int) = Value.int IntKind.i64 (0 : Int)) <|
                 .ob (bk1 (IntKind.i64.wrap
  (IntKind.i64.wrap
      (IntKind.i64.wrap
          (IntKind.i64.wrap
              (IntKind.i64.wrap
                  (IntKind.i64.wrap
                      (IntKind.i64.wrap
                          (IntKind.i64.wrap
                              (IntKind.i64.wrap (IntKind.i64.wrap (y1.fst + (1 : Int)) + (1 : Int)) + (1 : Int)) +
                            (1 : Int)) +
                        (1 : Int)) +
                    (1 : Int)) +
                (1 : Int)) +
            (1 : Int)) +
        (1 : Int)) +
    (1 : Int)), (IntKind.i64.wrap (y1.snd.fst + (1 : Int)), (z15, ())))) <|
                 .ok)
  (.leaf (.one false [vi (y1.fst)]) [] [((0 : Nat), ⟨Ty.conn, y1.snd.snd.fst⟩)])) (by kernel_rfl) ?_
  refine lpx_i ?_ fun (y1 : Int × Int × List SConn × PUnit) i1 => br_i (fun h2 => ob_i ?_ fun o3 => lt_i (ob_i ?_ fun o4 => ob_i ?_ fun o5 => lt_i (ob_i ?_ fun o6 => lt_i (ob_i ?_ fun o7 => ob_i ?_ fun o8 => lt_i (ob_i ?_ fun o9 => ob_i ?_ fun o10 => lt_i (ob_i ?_ fun o11 => ob_i ?_ fun o12 => ob_i ?_ fun o13 => lt_i (ob_i ?_ fun o14 => ob_i ?_ fun o15 => lt_i (ob_i ?_ fun o16 => ob_i ?_ fun o17 => lt_i (ob_i ?_ fun o18 => lt_i (ob_i ?_ fun o19 => ob_i ?_ fun o20 => lt_i (ob_i ?_ fun o21 => ob_i ?_ fun o22 => lt_i (ob_i ?_ fun o23 => ob_i ?_ fun o24 => ob_i ?_ fun o25 => lt_i (ob_i ?_ fun o26 => lt_i (ob_i ?_ fun o27 => ob_i ?_ fun o28 => lt_i (ob_i rfl fun _ => ob_i ?_ fun o29 => trivial))))))))))))))) (fun h2 => MS.leaf ?_)
  · exact ⟨by simp, by simp, by simp [markL], by simp [markL]⟩
  all_goals have hp1 : 0 ≤ k := hp.1
  all_goals have hp2 : (markL mkConn l k).2 ≤ 4000000000000000000 := hp.2
  all_goals have i3 : 0 ≤ y1.2.1 ∧ y1.2.1 ≤ l.length ∧ y1.1 = (markL mkConn (l.take y1.2.1.toNat) k).2 ∧ y1.2.2.1 = (markL mkConn (l.take y1.2.1.toNat) k).1 ++ l.drop y1.2.1.toNat := i1
  all_goals have hcnt := markL_cnt (f := mkConn) (fun x k => by simp only [mkConn]; omega) l k
  all_goals have hx : y1.2.2.1.length = l.length := by rw [i3.2.2.2, List.length_append, markL_len, List.length_take, List.length_drop]; omega
  all_goals simp only [decide_eq_true_eq, decide_eq_false_iff_not, hx] at h2
  all_goals clear i1
  all_goals try have hlt : y1.2.1.toNat < l.length := by omega
  all_goals try have ht := markL_take (f := mkConn) hlt k
  all_goals try have hle := (markL_take_le mkConn_mono l (y1.2.1.toNat + 1) k).2
  all_goals try have hl0 := (markL_take_le mkConn_mono l y1.2.1.toNat k).1
  all_goals try rw [ht] at hle
  all_goals try rw [← i3.2.2.1] at hle hl0 ht
  all_goals try simp only [mkConn] at hle
  all_goals first | decide | (simp only [List.length_modify, hx]; omega) | (refine ⟨?_, ?_⟩ <;> (try simp (discharger := omega) only [wrapId']) <;> omega) | skip
  · try clear o3 o4 o5
    simp (discharger := omega) only [wrapId', fmarkText]
    have hA : (markL mkConn (l.take y1.2.1.toNat) k).1.length = y1.2.1.toNat := by rw [markL_len, List.length_take]; omega
    refine ⟨⟨by omega, by omega, ?_, ?_⟩, ?_⟩
    · rw [toNat1 (by omega), ht]
      first | done | (simp only [mkConn]; done) | (simp only [mkConn]; omega)
    · rw [toNat1 (by omega), ht, i3.2.2.2, drop_cons hlt]
      simp only [mod_at hA, mkConn, Int.add_assoc, Int.reduceAdd, List.append_assoc, List.cons_append, List.nil_append]
    · omega
  · refine MS.leafL (t := .conn) (fn := fun l k => markL mkConn l k) ?_
    have e1 : l.take y1.2.1.toNat = l := List.take_of_length_le (by omega)
    have e2 : l.drop y1.2.1.toNat = [] := List.drop_of_length_le (by omega)
    rw [i3.2.2.2, i3.2.2.1, e1, e2, List.append_nil])
def E96 : D.Env := E95.addM 42 fmarkConnS
theorem E96ok : EOk Tryz.prog E96 := E95ok.addM k42_95
set_option maxHeartbeats 2000000 in
theorem k47_96 : fheldConnS.ok Tryz.prog 47 := Fct.of (S := fheldConnS) (L := fun ⟨l, k, _⟩ => fun | 2 => some (LheS .conn mkConn l k) | _ => none) (kp := [0,1,4,5,9,20,31,40,51,61,71,82,92,104,115,1000009,1000020,1000031,1000040,1000051,1000061,1000071,1000082,1000092,1000104,1000115]) E96ok Tryz.func47 (by kernel_rfl) (by kernel_rfl) (by
  rintro ⟨(l : List SConn), (k : Int), _⟩ hp
  refine holds_of (X := lpx (LheS .conn mkConn l k) (k, ((0 : Int), ())) fun (y1 : Int × Int × PUnit) bk1 =>
 .br (decide (y1.snd.fst < (↑l.length : Int)))
  (.ob ((0 : Int) ≤ y1.snd.fst ∧ y1.snd.fst < (↑l.length : Int)) <|
   .ob (fmarkText.pre (y1.fst, ())) <|
   .lt (ByteArray × PUnit) (fmarkText.fn (y1.fst, ())) fun z2 =>
   .br (!(l.getD y1.snd.fst.toNat default).to.host.toList == z2.fst.toList)
    (.leaf (mkR fheldConnS.rs ((-1 : Int), ())) [] [])
    (.ob ((0 : Int) ≤ y1.snd.fst ∧ y1.snd.fst < (↑l.length : Int)) <|
     .ob (fmarkText.pre (IntKind.i64.wrap (y1.fst + (1 : Int)), ())) <|
     .lt (ByteArray × PUnit) (fmarkText.fn (IntKind.i64.wrap (y1.fst + (1 : Int)), ())) fun z3 =>
     .br (!(l.getD y1.snd.fst.toNat default).to.path.toList == z3.fst.toList)
      (.leaf (mkR fheldConnS.rs ((-1 : Int), ())) [] [])
      (.ob ((0 : Int) ≤ y1.snd.fst ∧ y1.snd.fst < (↑l.length : Int)) <|
       .br ((l.getD y1.snd.fst.toNat default).left != IntKind.i64.wrap (IntKind.i64.wrap (y1.fst + (1 : Int)) + (1 : Int)))
       (.leaf (mkR fheldConnS.rs ((-1 : Int), ())) [] [])
       (.ob ((0 : Int) ≤ y1.snd.fst ∧ y1.snd.fst < (↑l.length : Int)) <|
        .ob ((3 : Int) ≠ (0 : Int)) <|
        .br (!(l.getD y1.snd.fst.toNat default).guess ==
    ((IntKind.i64.wrap (IntKind.i64.wrap (IntKind.i64.wrap (y1.fst + (1 : Int)) + (1 : Int)) + (1 : Int))).tmod
        (3 : Int) ==
      (0 : Int)))
        (.leaf (mkR fheldConnS.rs ((-1 : Int), ())) [] [])
        (.ob ((0 : Int) ≤ y1.snd.fst ∧ y1.snd.fst < (↑l.length : Int)) <|
         .br ((l.getD y1.snd.fst.toNat default).response.status !=
  IntKind.i64.wrap
    (IntKind.i64.wrap (IntKind.i64.wrap (IntKind.i64.wrap (y1.fst + (1 : Int)) + (1 : Int)) + (1 : Int)) + (1 : Int)))
         (.leaf (mkR fheldConnS.rs ((-1 : Int), ())) [] [])
         (.ob ((0 : Int) ≤ y1.snd.fst ∧ y1.snd.fst < (↑l.length : Int)) <|
          .br ((l.getD y1.snd.fst.toNat default).response.kind !=
  IntKind.i64.wrap
    (IntKind.i64.wrap
        (IntKind.i64.wrap (IntKind.i64.wrap (IntKind.i64.wrap (y1.fst + (1 : Int)) + (1 : Int)) + (1 : Int)) +
          (1 : Int)) +
      (1 : Int)))
          (.leaf (mkR fheldConnS.rs ((-1 : Int), ())) [] [])
          (.ob ((0 : Int) ≤ y1.snd.fst ∧ y1.snd.fst < (↑l.length : Int)) <|
           .ob (fmarkText.pre
  (IntKind.i64.wrap
      (IntKind.i64.wrap
          (IntKind.i64.wrap
              (IntKind.i64.wrap (IntKind.i64.wrap (IntKind.i64.wrap (y1.fst + (1 : Int)) + (1 : Int)) + (1 : Int)) +
                (1 : Int)) +
            (1 : Int)) +
        (1 : Int)),
    ())) <|
           .lt (ByteArray × PUnit) (fmarkText.fn
  (IntKind.i64.wrap
      (IntKind.i64.wrap
          (IntKind.i64.wrap
              (IntKind.i64.wrap (IntKind.i64.wrap (IntKind.i64.wrap (y1.fst + (1 : Int)) + (1 : Int)) + (1 : Int)) +
                (1 : Int)) +
            (1 : Int)) +
        (1 : Int)),
    ())) fun z4 =>
           .br (!(l.getD y1.snd.fst.toNat default).response.body.toList == z4.fst.toList)
            (.leaf (mkR fheldConnS.rs ((-1 : Int), ())) [] [])
            (.ob ((0 : Int) ≤ y1.snd.fst ∧ y1.snd.fst < (↑l.length : Int)) <|
             .br ((l.getD y1.snd.fst.toNat default).response.age !=
  IntKind.i64.wrap
    (IntKind.i64.wrap
        (IntKind.i64.wrap
            (IntKind.i64.wrap
                (IntKind.i64.wrap (IntKind.i64.wrap (IntKind.i64.wrap (y1.fst + (1 : Int)) + (1 : Int)) + (1 : Int)) +
                  (1 : Int)) +
              (1 : Int)) +
          (1 : Int)) +
      (1 : Int)))
             (.leaf (mkR fheldConnS.rs ((-1 : Int), ())) [] [])
             (.ob ((0 : Int) ≤ y1.snd.fst ∧ y1.snd.fst < (↑l.length : Int)) <|
              .ob ((3 : Int) ≠ (0 : Int)) <|
              .br (!(l.getD y1.snd.fst.toNat default).response.shares ==
    ((IntKind.i64.wrap
            (IntKind.i64.wrap
                (IntKind.i64.wrap
                    (IntKind.i64.wrap
                        (IntKind.i64.wrap
                            (IntKind.i64.wrap
                                (IntKind.i64.wrap (IntKind.i64.wrap (y1.fst + (1 : Int)) + (1 : Int)) + (1 : Int)) +
                              (1 : Int)) +
                          (1 : Int)) +
                      (1 : Int)) +
                  (1 : Int)) +
              (1 : Int))).tmod
        (3 : Int) ==
      (0 : Int)))
              (.leaf (mkR fheldConnS.rs ((-1 : Int), ())) [] [])
              (.ob ((0 : Int) ≤ y1.snd.fst ∧ y1.snd.fst < (↑l.length : Int)) <|
               .ob (fmarkText.pre
  (IntKind.i64.wrap
      (IntKind.i64.wrap
          (IntKind.i64.wrap
              (IntKind.i64.wrap
                  (IntKind.i64.wrap
                      (IntKind.i64.wrap
                          (IntKind.i64.wrap
                              (IntKind.i64.wrap (IntKind.i64.wrap (y1.fst + (1 : Int)) + (1 : Int)) + (1 : Int)) +
                            (1 : Int)) +
                        (1 : Int)) +
                    (1 : Int)) +
                (1 : Int)) +
            (1 : Int)) +
        (1 : Int)),
    ())) <|
               .lt (ByteArray × PUnit) (fmarkText.fn
  (IntKind.i64.wrap
      (IntKind.i64.wrap
          (IntKind.i64.wrap
              (IntKind.i64.wrap
                  (IntKind.i64.wrap
                      (IntKind.i64.wrap
                          (IntKind.i64.wrap
                              (IntKind.i64.wrap (IntKind.i64.wrap (y1.fst + (1 : Int)) + (1 : Int)) + (1 : Int)) +
                            (1 : Int)) +
                        (1 : Int)) +
                    (1 : Int)) +
                (1 : Int)) +
            (1 : Int)) +
        (1 : Int)),
    ())) fun z5 =>
               .br (!(l.getD y1.snd.fst.toNat default).response.policy.toList == z5.fst.toList)
                (.leaf (mkR fheldConnS.rs ((-1 : Int), ())) [] [])
                (.ob (l = l) <|
                 .ob (bk1 (IntKind.i64.wrap
  (IntKind.i64.wrap
      (IntKind.i64.wrap
          (IntKind.i64.wrap
              (IntKind.i64.wrap
                  (IntKind.i64.wrap
                      (IntKind.i64.wrap
                          (IntKind.i64.wrap
                              (IntKind.i64.wrap (IntKind.i64.wrap (y1.fst + (1 : Int)) + (1 : Int)) + (1 : Int)) +
                            (1 : Int)) +
                        (1 : Int)) +
                    (1 : Int)) +
                (1 : Int)) +
            (1 : Int)) +
        (1 : Int)) +
    (1 : Int)), (IntKind.i64.wrap (y1.snd.fst + (1 : Int)), ()))) <|
                 .ok)))))))))))
  (.leaf (mkR fheldConnS.rs (y1.fst, ())) [] [])) (by kernel_rfl) ?_
  refine lpx_i ?_ fun (y1 : Int × Int × PUnit) i1 => br_i (fun h2 => ob_i ?_ fun o3 => ob_i ?_ fun o4 => lt_i (br_i (fun h5 => Fct.leafY ?_) (fun h5 => ob_i ?_ fun o6 => ob_i ?_ fun o7 => lt_i (br_i (fun h8 => Fct.leafY ?_) (fun h8 => ob_i ?_ fun o9 => br_i (fun h10 => Fct.leafY ?_) (fun h10 => ob_i ?_ fun o11 => ob_i ?_ fun o12 => br_i (fun h13 => Fct.leafY ?_) (fun h13 => ob_i ?_ fun o14 => br_i (fun h15 => Fct.leafY ?_) (fun h15 => ob_i ?_ fun o16 => br_i (fun h17 => Fct.leafY ?_) (fun h17 => ob_i ?_ fun o18 => ob_i ?_ fun o19 => lt_i (br_i (fun h20 => Fct.leafY ?_) (fun h20 => ob_i ?_ fun o21 => br_i (fun h22 => Fct.leafY ?_) (fun h22 => ob_i ?_ fun o23 => ob_i ?_ fun o24 => br_i (fun h25 => Fct.leafY ?_) (fun h25 => ob_i ?_ fun o26 => ob_i ?_ fun o27 => lt_i (br_i (fun h28 => Fct.leafY ?_) (fun h28 => ob_i rfl fun _ => ob_i ?_ fun o29 => trivial))))))))))))))) (fun h2 => Fct.leafY ?_)
  · exact ⟨by simp, by simp, by simp [markL]⟩
  all_goals have hp1 : 0 ≤ k := hp.1
  all_goals have hp2 : (markL mkConn l k).2 ≤ 4000000000000000000 := hp.2.1
  all_goals have hp3 : (markL mkConn l k).1 = l := hp.2.2
  all_goals have i3 : 0 ≤ y1.2.1 ∧ y1.2.1 ≤ l.length ∧ y1.1 = (markL mkConn (l.take y1.2.1.toNat) k).2 := i1
  all_goals have hcnt := markL_cnt (f := mkConn) (fun x k => by simp only [mkConn]; omega) l k
  all_goals simp only [decide_eq_true_eq, decide_eq_false_iff_not] at h2
  all_goals clear i1 hp
  all_goals try have hlt : y1.2.1.toNat < l.length := by omega
  all_goals try have ht := markL_take (f := mkConn) hlt k
  all_goals try have hle := (markL_take_le mkConn_mono l (y1.2.1.toNat + 1) k).2
  all_goals try have hl0 := (markL_take_le mkConn_mono l y1.2.1.toNat k).1
  all_goals try have heq := markL_held hp3 hlt
  all_goals try rw [ht] at hle
  all_goals try rw [← i3.2.2] at hle hl0 ht heq
  all_goals try simp only [mkConn] at hle heq
  all_goals first | decide | omega | (refine ⟨?_, ?_⟩ <;> (try simp (discharger := omega) only [wrapId']) <;> omega) | skip
  all_goals try (exfalso; clear ht; generalize l.getD y1.2.1.toNat default = c at *; subst heq; simp (discharger := omega) [wrapId', fmarkText, Int.add_assoc] at *; done)
  · simp (discharger := omega) only [wrapId']
    refine ⟨⟨by omega, by omega, ?_⟩, ?_⟩
    · rw [toNat1 (by omega), ht]
      first | done | (simp only [mkConn]; done) | (simp only [mkConn]; omega)
    · omega
  · have e1 : l.take y1.2.1.toNat = l := List.take_of_length_le (by omega)
    rw [e1] at i3
    show (y1.1, ()) = ((markL mkConn l k).2, ())
    rw [i3.2.2])
def E97 : D.Env := E96.add 47 fheldConnS
theorem E97ok : EOk Tryz.prog E97 := E96ok.add k47_96
set_option maxHeartbeats 2000000 in
theorem k11_97 : feqLoader.ok Tryz.prog 11 := Fct.of (S := feqLoader) (L := fun _ _ => none) (kp := [2,3,4,10,16,22,28,34,1000010,1000016,1000022,1000028,1000034]) E97ok Tryz.func11 (by kernel_rfl) (by kernel_rfl) (by
  rintro ⟨(x : SLoader), (y : SLoader), _⟩ hp
  refine holds_of (X := .ob (feqNet.pre (x.net, y.net, ())) <|
 .lt (Bool × PUnit) (feqNet.fn (x.net, y.net, ())) fun z2 =>
 .br (!z2.fst)
  (.leaf (mkR feqLoader.rs (false, ())) [] [])
  (.ob (feqPage.pre (x.page, y.page, ())) <|
   .lt (Bool × PUnit) (feqPage.fn (x.page, y.page, ())) fun z3 =>
   .br (!z3.fst)
    (.leaf (mkR feqLoader.rs (false, ())) [] [])
    (.ob (feqStringS.pre (x.parts, y.parts, ())) <|
     .lt (Bool × PUnit) (feqStringS.fn (x.parts, y.parts, ())) fun z4 =>
     .br (!z4.fst)
      (.leaf (mkR feqLoader.rs (false, ())) [] [])
      (.ob (feqConnS.pre (x.conns, y.conns, ())) <|
       .lt (Bool × PUnit) (feqConnS.fn (x.conns, y.conns, ())) fun z5 =>
       .br (!z5.fst)
        (.leaf (mkR feqLoader.rs (false, ())) [] [])
        (.ob (feqGuessS.pre (x.guesses, y.guesses, ())) <|
         .lt (Bool × PUnit) (feqGuessS.fn (x.guesses, y.guesses, ())) fun z6 =>
         .br (!z6.fst)
          (.leaf (mkR feqLoader.rs (false, ())) [] [])
          (.leaf (mkR feqLoader.rs (true, ())) [] [])))))) (by kernel_rfl) ?_
  refine ob_i ?_ fun o1 => lt_i (br_i (fun h2 => Fct.leafY ?_) (fun h2 => ob_i ?_ fun o3 => lt_i (br_i (fun h4 => Fct.leafY ?_) (fun h4 => ob_i ?_ fun o5 => lt_i (br_i (fun h6 => Fct.leafY ?_) (fun h6 => ob_i ?_ fun o7 => lt_i (br_i (fun h8 => Fct.leafY ?_) (fun h8 => ob_i ?_ fun o9 => lt_i (br_i (fun h10 => Fct.leafY ?_) (fun h10 => Fct.leafY ?_))))))))))
  all_goals try simp only [std1, ne_eq] at *
  all_goals try simp only [feqConnS, feqGuessS, feqLoader, feqNet, feqPage, feqStringS, etaS, std1, std2, Nat.reduceAdd, ne_eq] at *
  all_goals first | trivial | (cases x; cases y; simp_all; done) | (simp only [szL, szLoader, szNet, szPage] at *; omega) | grind [szL, szLoader, szNet, szPage])
def E98 : D.Env := E97.add 11 feqLoader
theorem E98ok : EOk Tryz.prog E98 := E97ok.add k11_97
set_option maxHeartbeats 2000000 in
theorem k16_98 : fmarkLoader.ok Tryz.prog 16 := MS.of (S := fmarkLoader) (L := fun _ _ _ => none) (kp := [1,2,4]) (kl := [0,1,2,7,8,9,12,14,15,16,17,18,23,24,26,27,28]) E98ok Tryz.func16 (by kernel_rfl) (by kernel_rfl) (by
  rintro (x : SLoader) (k : Int) hp
  refine holds_of (X := .ob (fmarkNet.pre x.net k) <|
 .lt (SNet × Int) (fmarkNet.fn x.net k) fun z2 =>
 .ob (fmarkPage.pre x.page z2.snd) <|
  .lt (SPage × Int) (fmarkPage.fn x.page z2.snd) fun z3 =>
  .ob (fmarkStringS.pre x.parts z3.snd) <|
   .lt (List ByteArray × Int) (fmarkStringS.fn x.parts z3.snd) fun z4 =>
   .ob (fmarkConnS.pre x.conns z4.snd) <|
    .lt (List SConn × Int) (fmarkConnS.fn x.conns z4.snd) fun z5 =>
    .ob (fmarkGuessS.pre x.guesses z5.snd) <|
     .lt (List SGuess × Int) (fmarkGuessS.fn x.guesses z5.snd) fun z6 =>
     .leaf (.one false [vi (z6.snd)]) [] [((0 : Nat), ⟨Ty.server, z2.fst.servers⟩), ((1 : Nat), ⟨Ty.entry, z2.fst.cache.entries⟩), ((2 : Nat), ⟨Ty.sent, z2.fst.log⟩), ((7 : Nat), ⟨Ty.str, z3.fst.policy.scripts⟩), ((8 : Nat), ⟨Ty.str, z3.fst.policy.styles⟩), ((9 : Nat), ⟨Ty.str, z3.fst.policy.images⟩), ((12 : Nat), ⟨Ty.token, z3.fst.queue⟩), ((14 : Nat), ⟨Ty.node, z3.fst.builder.nodes⟩), ((15 : Nat), ⟨Ty.int, z3.fst.builder.open_⟩), ((16 : Nat), ⟨Ty.slot, z3.fst.slots⟩), ((17 : Nat), ⟨Ty.module, z3.fst.mods⟩), ((18 : Nat), ⟨Ty.addr, z3.fst.entries⟩), ((23 : Nat), ⟨Ty.addr, z3.fst.ran⟩), ((24 : Nat), ⟨Ty.str, z3.fst.log⟩), ((26 : Nat), ⟨Ty.str, z4.fst⟩), ((27 : Nat), ⟨Ty.conn, z5.fst⟩), ((28 : Nat), ⟨Ty.guess, z6.fst⟩)]) (by kernel_rfl) ?_
  refine ob_d ?_ <| lt_i (ob_d ?_ <| lt_i (ob_d ?_ <| lt_i (ob_d ?_ <| lt_i (ob_d ?_ <| lt_i (MS.leaf ?_)))))
  all_goals have hp1 : 0 ≤ k := hp.1
  all_goals have hp2 : (mvLoader x k).2 ≤ 4000000000000000000 := hp.2
  all_goals clear hp
  all_goals simp only [mvLoader] at hp2
  all_goals try have m1 := mkServerS_mono x.net.servers (k)
  all_goals try generalize hr1 : markL mkServer x.net.servers (k) = r1 at *
  all_goals try have m2 := mkEntryS_mono x.net.cache.entries (r1.2)
  all_goals try generalize hr2 : markL mkEntry x.net.cache.entries (r1.2) = r2 at *
  all_goals try have m3 := mkSentS_mono x.net.log (r2.2)
  all_goals try generalize hr3 : markL mkSent x.net.log (r2.2) = r3 at *
  all_goals try have m4 := mkStringS_mono x.page.policy.scripts (r3.2)
  all_goals try generalize hr4 : markL mkString x.page.policy.scripts (r3.2) = r4 at *
  all_goals try have m5 := mkStringS_mono x.page.policy.styles (r4.2)
  all_goals try generalize hr5 : markL mkString x.page.policy.styles (r4.2) = r5 at *
  all_goals try have m6 := mkStringS_mono x.page.policy.images (r5.2)
  all_goals try generalize hr6 : markL mkString x.page.policy.images (r5.2) = r6 at *
  all_goals try have m7 := mkTokenS_mono x.page.queue (r6.2)
  all_goals try generalize hr7 : markL mkToken x.page.queue (r6.2) = r7 at *
  all_goals try have m8 := mkNodeS_mono x.page.builder.nodes (r7.2)
  all_goals try generalize hr8 : markL mkNode x.page.builder.nodes (r7.2) = r8 at *
  all_goals try have m9 := mkIntS_mono x.page.builder.open_ (r8.2)
  all_goals try generalize hr9 : markL mkInt x.page.builder.open_ (r8.2) = r9 at *
  all_goals try have m10 := mkSlotS_mono x.page.slots (r9.2)
  all_goals try generalize hr10 : markL mkSlot x.page.slots (r9.2) = r10 at *
  all_goals try have m11 := mkModuleS_mono x.page.mods (r10.2)
  all_goals try generalize hr11 : markL mkModule x.page.mods (r10.2) = r11 at *
  all_goals try have m12 := mkAddrS_mono x.page.entries (r11.2)
  all_goals try generalize hr12 : markL mkAddr x.page.entries (r11.2) = r12 at *
  all_goals try have m13 := mkAddrS_mono x.page.ran (r12.2)
  all_goals try generalize hr13 : markL mkAddr x.page.ran (r12.2) = r13 at *
  all_goals try have m14 := mkStringS_mono x.page.log (r13.2)
  all_goals try generalize hr14 : markL mkString x.page.log (r13.2) = r14 at *
  all_goals try have m15 := mkStringS_mono x.parts (r14.2)
  all_goals try generalize hr15 : markL mkString x.parts (r14.2) = r15 at *
  all_goals try have m16 := mkConnS_mono x.conns (r15.2)
  all_goals try generalize hr16 : markL mkConn x.conns (r15.2) = r16 at *
  all_goals try have m17 := mkGuessS_mono x.guesses (r16.2)
  all_goals try generalize hr17 : markL mkGuess x.guesses (r16.2) = r17 at *
  all_goals simp (disch := omega) only [fmarkAddrS, fmarkConnS, fmarkEntryS, fmarkGuessS, fmarkIntS, fmarkModuleS, fmarkNodeS, fmarkSentS, fmarkServerS, fmarkSlotS, fmarkStringS, fmarkTokenS, fmarkBuilder, mvBuilder, fmarkCache, mvCache, fmarkNet, mvNet, fmarkPage, mvPage, fmarkPolicy, mvPolicy, hr1, hr2, hr3, hr4, hr5, hr6, hr7, hr8, hr9, hr10, hr11, hr12, hr13, hr14, hr15, hr16, hr17]
  all_goals first | trivial | omega | (refine ⟨?_, ?_⟩ <;> omega) | skip
  refine MS.leaf ?_
  simp only [fmarkLoader, mvLoader, hr1, hr2, hr3, hr4, hr5, hr6, hr7, hr8, hr9, hr10, hr11, hr12, hr13, hr14, hr15, hr16, hr17]
  exact ⟨⟨rfl, rfl, trivial⟩, trivial, rfl⟩)
def E99 : D.Env := E98.addM 16 fmarkLoader
theorem E99ok : EOk Tryz.prog E99 := E98ok.addM k16_98
set_option maxHeartbeats 2000000 in
theorem k17_99 : fheldLoader.ok Tryz.prog 17 := Fct.of (S := fheldLoader) (L := fun _ _ => none) (kp := [1,2,4,10,16,22,28,34,1000010,1000016,1000022,1000028,1000034]) E99ok Tryz.func17 (by kernel_rfl) (by kernel_rfl) (by
  rintro ⟨(x : SLoader), (k : Int), _⟩ hp
  refine holds_of (X := .ob (fheldNet.pre (x.net, k, ())) <|
 .lt (Int × PUnit) (fheldNet.fn (x.net, k, ())) fun z2 =>
 .br (decide (z2.fst < (0 : Int)))
  (.leaf (mkR fheldLoader.rs ((-1 : Int), ())) [] [])
  (.ob (fheldPage.pre (x.page, z2.fst, ())) <|
   .lt (Int × PUnit) (fheldPage.fn (x.page, z2.fst, ())) fun z3 =>
   .br (decide (z3.fst < (0 : Int)))
    (.leaf (mkR fheldLoader.rs ((-1 : Int), ())) [] [])
    (.ob (fheldStringS.pre (x.parts, z3.fst, ())) <|
     .lt (Int × PUnit) (fheldStringS.fn (x.parts, z3.fst, ())) fun z4 =>
     .br (decide (z4.fst < (0 : Int)))
      (.leaf (mkR fheldLoader.rs ((-1 : Int), ())) [] [])
      (.ob (fheldConnS.pre (x.conns, z4.fst, ())) <|
       .lt (Int × PUnit) (fheldConnS.fn (x.conns, z4.fst, ())) fun z5 =>
       .br (decide (z5.fst < (0 : Int)))
        (.leaf (mkR fheldLoader.rs ((-1 : Int), ())) [] [])
        (.ob (fheldGuessS.pre (x.guesses, z5.fst, ())) <|
         .lt (Int × PUnit) (fheldGuessS.fn (x.guesses, z5.fst, ())) fun z6 =>
         .br (decide (z6.fst < (0 : Int)))
          (.leaf (mkR fheldLoader.rs ((-1 : Int), ())) [] [])
          (.leaf (mkR fheldLoader.rs (z6.fst, ())) [] [])))))) (by kernel_rfl) ?_
  refine ob_d ?_ <| lt_i (br_i (fun h2 => Fct.leafY ?_) (fun h2 => ob_d ?_ <| lt_i (br_i (fun h4 => Fct.leafY ?_) (fun h4 => ob_d ?_ <| lt_i (br_i (fun h6 => Fct.leafY ?_) (fun h6 => ob_d ?_ <| lt_i (br_i (fun h8 => Fct.leafY ?_) (fun h8 => ob_d ?_ <| lt_i (br_i (fun h10 => Fct.leafY ?_) (fun h10 => Fct.leafY ?_))))))))))
  all_goals have hp1 : 0 ≤ k := hp.1
  all_goals have hp2 : (mvLoader x k).2 ≤ 4000000000000000000 := hp.2.1
  all_goals have heq : (mvLoader x k).1 = x := hp.2.2
  all_goals clear hp
  all_goals try have q1 := congrArg (fun z : SLoader => z.net.servers) heq
  all_goals try have q2 := congrArg (fun z : SLoader => z.net.cache.entries) heq
  all_goals try have q3 := congrArg (fun z : SLoader => z.net.log) heq
  all_goals try have q4 := congrArg (fun z : SLoader => z.page.policy.scripts) heq
  all_goals try have q5 := congrArg (fun z : SLoader => z.page.policy.styles) heq
  all_goals try have q6 := congrArg (fun z : SLoader => z.page.policy.images) heq
  all_goals try have q7 := congrArg (fun z : SLoader => z.page.queue) heq
  all_goals try have q8 := congrArg (fun z : SLoader => z.page.builder.nodes) heq
  all_goals try have q9 := congrArg (fun z : SLoader => z.page.builder.open_) heq
  all_goals try have q10 := congrArg (fun z : SLoader => z.page.slots) heq
  all_goals try have q11 := congrArg (fun z : SLoader => z.page.mods) heq
  all_goals try have q12 := congrArg (fun z : SLoader => z.page.entries) heq
  all_goals try have q13 := congrArg (fun z : SLoader => z.page.ran) heq
  all_goals try have q14 := congrArg (fun z : SLoader => z.page.log) heq
  all_goals try have q15 := congrArg (fun z : SLoader => z.parts) heq
  all_goals try have q16 := congrArg (fun z : SLoader => z.conns) heq
  all_goals try have q17 := congrArg (fun z : SLoader => z.guesses) heq
  all_goals obtain ⟨E, hE⟩ : ∃ E, E = (mvLoader x k).2 := ⟨_, rfl⟩
  all_goals have hE2 := hE
  all_goals simp only [mvLoader] at hp2 hE2 q1 q2 q3 q4 q5 q6 q7 q8 q9 q10 q11 q12 q13 q14 q15 q16 q17
  all_goals clear heq
  all_goals try have m1 := mkServerS_mono x.net.servers (k)
  all_goals try generalize hr1 : markL mkServer x.net.servers (k) = r1 at *
  all_goals try have m2 := mkEntryS_mono x.net.cache.entries (r1.2)
  all_goals try generalize hr2 : markL mkEntry x.net.cache.entries (r1.2) = r2 at *
  all_goals try have m3 := mkSentS_mono x.net.log (r2.2)
  all_goals try generalize hr3 : markL mkSent x.net.log (r2.2) = r3 at *
  all_goals try have m4 := mkStringS_mono x.page.policy.scripts (r3.2)
  all_goals try generalize hr4 : markL mkString x.page.policy.scripts (r3.2) = r4 at *
  all_goals try have m5 := mkStringS_mono x.page.policy.styles (r4.2)
  all_goals try generalize hr5 : markL mkString x.page.policy.styles (r4.2) = r5 at *
  all_goals try have m6 := mkStringS_mono x.page.policy.images (r5.2)
  all_goals try generalize hr6 : markL mkString x.page.policy.images (r5.2) = r6 at *
  all_goals try have m7 := mkTokenS_mono x.page.queue (r6.2)
  all_goals try generalize hr7 : markL mkToken x.page.queue (r6.2) = r7 at *
  all_goals try have m8 := mkNodeS_mono x.page.builder.nodes (r7.2)
  all_goals try generalize hr8 : markL mkNode x.page.builder.nodes (r7.2) = r8 at *
  all_goals try have m9 := mkIntS_mono x.page.builder.open_ (r8.2)
  all_goals try generalize hr9 : markL mkInt x.page.builder.open_ (r8.2) = r9 at *
  all_goals try have m10 := mkSlotS_mono x.page.slots (r9.2)
  all_goals try generalize hr10 : markL mkSlot x.page.slots (r9.2) = r10 at *
  all_goals try have m11 := mkModuleS_mono x.page.mods (r10.2)
  all_goals try generalize hr11 : markL mkModule x.page.mods (r10.2) = r11 at *
  all_goals try have m12 := mkAddrS_mono x.page.entries (r11.2)
  all_goals try generalize hr12 : markL mkAddr x.page.entries (r11.2) = r12 at *
  all_goals try have m13 := mkAddrS_mono x.page.ran (r12.2)
  all_goals try generalize hr13 : markL mkAddr x.page.ran (r12.2) = r13 at *
  all_goals try have m14 := mkStringS_mono x.page.log (r13.2)
  all_goals try generalize hr14 : markL mkString x.page.log (r13.2) = r14 at *
  all_goals try have m15 := mkStringS_mono x.parts (r14.2)
  all_goals try generalize hr15 : markL mkString x.parts (r14.2) = r15 at *
  all_goals try have m16 := mkConnS_mono x.conns (r15.2)
  all_goals try generalize hr16 : markL mkConn x.conns (r15.2) = r16 at *
  all_goals try have m17 := mkGuessS_mono x.guesses (r16.2)
  all_goals try generalize hr17 : markL mkGuess x.guesses (r16.2) = r17 at *
  all_goals simp (disch := omega) only [fheldAddrS, fheldConnS, fheldEntryS, fheldGuessS, fheldIntS, fheldModuleS, fheldNodeS, fheldSentS, fheldServerS, fheldSlotS, fheldStringS, fheldTokenS, fheldBuilder, mvBuilder, fheldCache, mvCache, fheldNet, mvNet, fheldPage, mvPage, fheldPolicy, mvPolicy, hr1, hr2, hr3, hr4, hr5, hr6, hr7, hr8, hr9, hr10, hr11, hr12, hr13, hr14, hr15, hr16, hr17, decide_eq_true_eq, decide_eq_false_iff_not, Int.not_lt] at *
  all_goals try simp only [q1, q2, q3, q4, q5, q6, q7, q8, q9, q10, q11, q12, q13, q14, q15, q16, q17]
  all_goals first | trivial | omega | (exfalso; omega) | (refine ⟨?_, ?_, ?_⟩ <;> first | omega | assumption) | skip
  all_goals first | (show (_, ()) = ((mvLoader x k).2, ()); rw [← hE, Prod.mk.injEq]; exact ⟨by omega, rfl⟩) | skip)
def E100 : D.Env := E99.add 17 fheldLoader
theorem E100ok : EOk Tryz.prog E100 := E99ok.add k17_99
def inRange (n lo hi : Int) : Bool := decide (lo ≤ n) && decide (n ≤ hi)
def fInRange : Fct := ⟨[aI, aI, aI], [rB], fun _ => True, fun (x : Int × Int × Int × Unit) => (inRange x.1 x.2.1 x.2.2.1, ())⟩
theorem k74_100 : fInRange.ok Tryz.prog 74 := Fct.of (S := fInRange) (L := fun _ _ => none) (kp := [0,1,2,6]) E100ok Tryz.func74 (by kernel_rfl) (by kernel_rfl) (by
  rintro ⟨(n : Int), (lo : Int), (hi : Int), _⟩ hp
  refine holds_of (X := .br (decide (lo ≤ n))
 (.leaf (mkR fInRange.rs (decide (n ≤ hi), ())) [] [])
 (.leaf (mkR fInRange.rs (false, ())) [] [])) (by kernel_rfl) ?_
  refine br_i (fun h1 => Fct.leafY ?_) (fun h1 => Fct.leafY ?_)
  all_goals try simp only [std1, ne_eq] at *
  all_goals try simp only [fInRange, etaS, std1, std2, Nat.reduceAdd, ne_eq, inRange] at *
  all_goals first | trivial | (simp_all; done) | (simp_all; omega) | grind)
def E101 : D.Env := E100.add 74 fInRange
theorem E101ok : EOk Tryz.prog E101 := E100ok.add k74_100
theorem k118_101 : fInRange.ok Tryz.prog 118 := Fct.of (S := fInRange) (L := fun _ _ => none) (kp := [0,1,2,6]) E101ok Tryz.func118 (by kernel_rfl) (by kernel_rfl) (by
  rintro ⟨(n : Int), (lo : Int), (hi : Int), _⟩ hp
  refine holds_of (X := .br (decide (n ≥ lo))
 (.leaf (mkR fInRange.rs (decide (n ≤ hi), ())) [] [])
 (.leaf (mkR fInRange.rs (false, ())) [] [])) (by kernel_rfl) ?_
  refine br_i (fun h1 => Fct.leafY ?_) (fun h1 => Fct.leafY ?_)
  all_goals try simp only [std1, ne_eq] at *
  all_goals try simp only [fInRange, etaS, std1, std2, Nat.reduceAdd, ne_eq, inRange] at *
  all_goals first | trivial | (simp_all; done) | (simp_all; omega) | grind)
def E102 : D.Env := E101.add 118 fInRange
theorem E102ok : EOk Tryz.prog E102 := E101ok.add k118_101
def fCopyPolicy : Fct := ⟨[.v (.el .policy)], [.el .policy], fun (x_ : SPolicy × Unit) => szPolicy x_.1 ≤ 1073741824, fun (x_ : SPolicy × Unit) => (x_.1, ())⟩
theorem k132_102 : fCopyPolicy.ok Tryz.prog 132 := Fct.of (S := fCopyPolicy) (L := fun _ _ => none) (kp := [1,2]) E102ok Tryz.func132 (by kernel_rfl) (by kernel_rfl) (by
  rintro ⟨(p : SPolicy), _⟩ hp
  refine holds_of (X := .ob (True) <|
 .ob (Room ((0 : Nat) + p.scripts.length) (16 : Nat)) <|
 .ob (True) <|
 .ob (Room ((0 : Nat) + p.styles.length) (16 : Nat)) <|
 .ob (True) <|
 .ob (Room ((0 : Nat) + p.images.length) (16 : Nat)) <|
 .leaf (mkR fCopyPolicy.rs (⟨p.set_, [] ++ p.scripts, [] ++ p.styles, [] ++ p.images, p.nonce⟩, ())) [] []) (by kernel_rfl) ?_
  refine ob_i trivial fun _ => ob_i ?_ fun o1 => ob_i trivial fun _ => ob_i ?_ fun o2 => ob_i trivial fun _ => ob_i ?_ fun o3 => Fct.leafY ?_
  all_goals have hl1 := szL_len szString p.scripts
  all_goals have hl2 := szL_len szString p.styles
  all_goals have hl3 := szL_len szString p.images
  all_goals try simp only [std1, ne_eq] at *
  all_goals try simp only [fCopyPolicy, etaS, std1, std2, Nat.reduceAdd, ne_eq, szPolicy] at *
  all_goals try simp (disch := omega) only [wrapId', toNat1] at *
  all_goals try simp (disch := omega) only [if_pos, if_neg]
  all_goals first | trivial | omega | grind [wrapId', toNat1, drop_cons, drop_end, good_len, maxLen, szPolicy])
def E103 : D.Env := E102.add 132 fCopyPolicy
theorem E103ok : EOk Tryz.prog E103 := E102ok.add k132_102
theorem szServer_get {l : List SServer} {i : Nat} (h : i < l.length) : (l.getD i default).files.length + l.length ≤ szL szServer l := by
  have := szL_get szServer h
  have h2 := szL_len szFile (l.getD i default).files
  simp only [szServer] at this; omega
def fMin : Fct := ⟨[aI, aI], [rI], fun _ => True, fun (x : Int × Int × Unit) => (min x.1 x.2.1, ())⟩
theorem k61_103 : fMin.ok Tryz.prog 61 := Fct.of (S := fMin) (L := fun _ _ => none) (kp := [0,1,4,7,1000007]) E103ok Tryz.func61 (by kernel_rfl) (by kernel_rfl) (by
  rintro ⟨(a : Int), (b : Int), _⟩ hp
  refine holds_of (X := .br (decide (b < a))
 (.leaf (mkR fMin.rs (b, ())) [] [])
 (.leaf (mkR fMin.rs (a, ())) [] [])) (by kernel_rfl) ?_
  refine br_i (fun h1 => Fct.leafY ?_) (fun h1 => Fct.leafY ?_)
  all_goals try simp only [std1, ne_eq] at *
  all_goals try simp only [fMin, etaS, std1, std2, Nat.reduceAdd, ne_eq] at *
  all_goals first | trivial | omega | (simp_all; done) | (simp_all; omega) | grind)
def E104 : D.Env := E103.add 61 fMin
theorem E104ok : EOk Tryz.prog E104 := E103ok.add k61_103
theorem szL_cat {α : Type} (f : α → Nat) (l m : List α) : szL f (l ++ m) = szL f l + szL f m := by simp [szL]; omega
theorem szL_drop {α : Type} (f : α → Nat) (l : List α) (n : Nat) : szL f (l.drop n) ≤ szL f l := by
  have h := szL_cat f (l.take n) (l.drop n)
  rw [List.take_append_drop] at h
  omega
def hasI (l : List Int) (i : Int) : Bool := l.any fun c => decide (c = i)
def isCut (cs : List Int) (i : Int) : Bool := hasI (cs.take 7) i
def pieces (s : ByteArray) : List Int → Int → List ByteArray
  | [], a => [s.extract a.toNat s.size]
  | n :: l, a => s.extract a.toNat n.toNat :: pieces s l n
def cutGo (s : ByteArray) (cs : List Int) : Nat → Int → Int → List ByteArray
  | 0, _, a => [s.extract a.toNat s.size]
  | f + 1, i, a => if isCut cs i then s.extract a.toNat i.toNat :: cutGo s cs f (i + 1) i else cutGo s cs f (i + 1) a
def cutText (s : ByteArray) (cs : List Int) : List ByteArray := cutGo s cs (s.size - 1) 1 0
def rngs (n : Int) : List Int → List Int
  | [] => []
  | x :: l => if inRange x 1 n then x :: rngs n l else rngs n l
theorem rngs_eq (n : Int) : ∀ l, rngs n l = l.filter fun x => inRange x 1 n
  | [] => rfl
  | x :: l => by rw [rngs, rngs_eq n l, List.filter_cons]
theorem rngs_at {n : Int} {l : List Int} {i : Nat} (h : i < l.length) : rngs n (l.drop i) = if inRange (l.getD i default) 1 n then l.getD i default :: rngs n (l.drop (i + 1)) else rngs n (l.drop (i + 1)) := by rw [drop_cons h]; rfl
theorem rngs_end {n : Int} {l : List Int} {i : Nat} (h : l.length ≤ i) : rngs n (l.drop i) = [] := by rw [List.drop_of_length_le h]; rfl
def cutAts (s : ByteArray) (cs : List Int) : List Int := rngs (s.size - 1) (cs.take 7)
theorem cutGo_pieces (s : ByteArray) (cs : List Int) : ∀ (f : Nat) (i a : Int) (l : List Int), l.Pairwise (· < ·) → (∀ x, x ∈ l ↔ (i ≤ x ∧ x < i + f ∧ isCut cs x = true)) → cutGo s cs f i a = pieces s l a := by
  intro f
  induction f with
  | zero =>
    intro i a l _ hm
    cases l with
    | nil => rfl
    | cons x l => have := (hm x).1 List.mem_cons_self; omega
  | succ f ih =>
    intro i a l hp hm
    simp only [cutGo]
    split
    · rename_i hc
      have hi : i ∈ l := (hm i).2 ⟨by omega, by omega, hc⟩
      cases l with
      | nil => cases hi
      | cons x l =>
        have hp' := List.pairwise_cons.1 hp
        have hx : x = i := by
          rcases List.mem_cons.1 hi with e | h
          · exact e.symm
          · have h1 := hp'.1 i h
            have h2 := ((hm x).1 List.mem_cons_self).1
            omega
        subst hx
        rw [pieces, ih (x + 1) x l hp'.2 fun y => ?_]
        constructor
        · intro hy
          obtain ⟨h1, h2, h3⟩ := (hm y).1 (List.mem_cons_of_mem _ hy)
          have := hp'.1 y hy
          exact ⟨by omega, by omega, h3⟩
        · rintro ⟨h1, h2, h3⟩
          rcases List.mem_cons.1 ((hm y).2 ⟨by omega, by omega, h3⟩) with e | h
          · omega
          · exact h
    · rename_i hc
      refine ih (i + 1) a l hp fun y => ?_
      rw [hm y]
      constructor
      · rintro ⟨h1, h2, h3⟩
        have : y ≠ i := fun e => hc (e ▸ h3)
        exact ⟨by omega, by omega, h3⟩
      · rintro ⟨h1, h2, h3⟩
        exact ⟨by omega, by omega, h3⟩
theorem cutText_pieces (s : ByteArray) (cs : List Int) : cutText s cs = pieces s (dedupA (sortI (cutAts s cs))) 0 := by
  refine cutGo_pieces s cs _ _ _ _ (dedup_pw (le := fun a b => a ≤ b) (fun a b h1 h2 => by omega) (fun a b c h1 h2 => by omega) (sortI_sorted _)) fun x => ?_
  rw [dedupA_mem, sortI_mem, cutAts, rngs_eq, List.mem_filter, isCut, hasI, List.any_eq_true]
  simp only [inRange, Bool.and_eq_true, decide_eq_true_eq]
  constructor
  · rintro ⟨h1, h2, h3⟩; exact ⟨by omega, by omega, x, h1, rfl⟩
  · rintro ⟨h1, h2, c, h3, rfl⟩; exact ⟨h3, by omega, by omega⟩
def fSortI : GS := ⟨[.k (.sl .int)], [], fun (x_ : (List Int) × Unit) => x_.1.length < 4611686018427387904, fun (x_ : (List Int) × Unit) => ((()), (sortI x_.1, ()))⟩
def laysSortI_r : Go.Shelf.Ren := ⟨fun | 0 => 0 | 1 => 1 | 2 => 2 | 101 => 130 | 125 => 134 | 128 => 176 | 129 => 177 | 138 => 185 | 143 => 186 | 146 => 129 | 156 => 166 | 165 => 190 | 166 => 191 | 169 => 192 | 189 => 75 | 195 => 200 | 197 => 201 | 206 => 187 | 208 => 164 | 215 => 198 | 216 => 173 | 217 => 210 | 218 => 202 | 219 => 203 | 221 => 163 | 224 => 212 | 225 => 211 | 240 => 206 | 241 => 207 | 257 => 133 | 260 => 209 | 266 => 217 | 267 => 213 | 268 => 184 | 276 => 215 | 277 => 216 | 294 => 167 | 295 => 168 | 296 => 169 | 297 => 170 | 298 => 171 | 299 => 172 | 300 => 174 | 301 => 175 | 314 => 218 | 328 => 193 | 329 => 194 | 330 => 195 | 331 => 196 | 332 => 197 | 343 => 208 | 347 => 219 | 348 => 220 | 349 => 221 | 350 => 222 | 351 => 223 | 352 => 224 | 353 => 225 | 354 => 226 | 355 => 227 | 356 => 228 | 357 => 229 | 358 => 230 | 359 => 231 | 360 => 232 | 361 => 233 | 362 => 234 | 366 => 235 | 367 => 240 | _ => 0, fun | 0 => 0 | 1 => 1 | 2 => 2 | 3 => 3 | 4 => 4 | 5 => 5 | 6 => 6 | 7 => 7 | 8 => 8 | 9 => 9 | 10 => 10 | 11 => 11 | 12 => 12 | 13 => 13 | 14 => 14 | 15 => 15 | 16 => 16 | 17 => 17 | 18 => 18 | 19 => 19 | 20 => 20 | 21 => 21 | 22 => 239 | 23 => 181 | 27 => 238 | 28 => 31 | 30 => 69 | 31 => 42 | 34 => 67 | 35 => 128 | 37 => 199 | 43 => 120 | 46 => 185 | 47 => 184 | 51 => 228 | 52 => 227 | 53 => 230 | 54 => 229 | 55 => 260 | 61 => 179 | 67 => 217 | 70 => 240 | 71 => 241 | 72 => 242 | 73 => 243 | 74 => 244 | 75 => 245 | 76 => 246 | 77 => 247 | 80 => 248 | 81 => 282 | 83 => 146 | 101 => 86 | 103 => 257 | 104 => 162 | 105 => 258 | 106 => 259 | 111 => 255 | 112 => 223 | 113 => 216 | 114 => 266 | 119 => 271 | 127 => 262 | 131 => 225 | 134 => 183 | 137 => 272 | 138 => 273 | 139 => 274 | 146 => 275 | 150 => 237 | 151 => 276 | 164 => 268 | 165 => 269 | 166 => 270 | 181 => 218 | 182 => 219 | 183 => 220 | 184 => 221 | 185 => 222 | 186 => 224 | 187 => 226 | 218 => 249 | 219 => 250 | 220 => 251 | 221 => 252 | 222 => 253 | 223 => 254 | 228 => 263 | 229 => 264 | 230 => 265 | 238 => 277 | 239 => 278 | 240 => 279 | 241 => 280 | 242 => 281 | 243 => 283 | 244 => 284 | 245 => 285 | 246 => 286 | 247 => 287 | 248 => 288 | 249 => 289 | _ => 0, fun | 1 => 0 | 3 => 1 | 4 => 2 | _ => 0⟩
theorem laysSortI : Go.Proofs.Lays.n189 Tryz.prog laysSortI_r where
  mixed := by kernel_rfl
  f125 := by kernel_rfl
  f128 := by kernel_rfl
  f129 := by kernel_rfl
  f189 := by kernel_rfl
  f215 := by kernel_rfl
  f216 := by kernel_rfl
  f257 := by kernel_rfl
  f294 := by kernel_rfl
  f295 := by kernel_rfl
  f296 := by kernel_rfl
  f297 := by kernel_rfl
  f298 := by kernel_rfl
  f299 := by kernel_rfl
  f300 := by kernel_rfl
  f301 := by kernel_rfl
  f328 := by kernel_rfl
  f329 := by kernel_rfl
  f330 := by kernel_rfl
  f331 := by kernel_rfl
  f332 := by kernel_rfl
  f343 := by kernel_rfl
  t0 := by kernel_rfl
  a0 := fun _ => by kernel_rfl
  z0 := fun _ => by kernel_rfl
  v0 := fun _ => by kernel_rfl
  t3 := by kernel_rfl
  a3 := fun _ => by kernel_rfl
  z3 := fun _ => by kernel_rfl
  v3 := fun _ => by kernel_rfl
  t4 := by kernel_rfl
  a4 := fun _ => by kernel_rfl
  z4 := fun _ => by kernel_rfl
  v4 := fun _ => by kernel_rfl
  t5 := by kernel_rfl
  a5 := fun _ => by kernel_rfl
  z5 := fun _ => by kernel_rfl
  v5 := fun _ => by kernel_rfl
  t9 := by kernel_rfl
  a9 := fun _ => by kernel_rfl
  z9 := fun _ => by kernel_rfl
  v9 := fun _ => by kernel_rfl
  t28 := by kernel_rfl
  a28 := fun _ => by kernel_rfl
  z28 := fun _ => by kernel_rfl
  v28 := fun _ => by kernel_rfl
  t46 := by kernel_rfl
  a46 := fun _ => by kernel_rfl
  z46 := fun _ => by kernel_rfl
  v46 := fun _ => by kernel_rfl
  t51 := by kernel_rfl
  a51 := fun _ => by kernel_rfl
  z51 := fun _ => by kernel_rfl
  v51 := fun _ => by kernel_rfl
  t53 := by kernel_rfl
  a53 := fun _ => by kernel_rfl
  z53 := fun _ => by kernel_rfl
  v53 := fun _ => by kernel_rfl
  t131 := by kernel_rfl
  a131 := fun _ => by kernel_rfl
  z131 := fun _ => by kernel_rfl
  v131 := fun _ => by kernel_rfl
  t182 := by kernel_rfl
  a182 := fun _ => by kernel_rfl
  z182 := fun _ => by kernel_rfl
  v182 := fun _ => by kernel_rfl
  t183 := by kernel_rfl
  a183 := fun _ => by kernel_rfl
  z183 := fun _ => by kernel_rfl
  v183 := fun _ => by kernel_rfl
  t218 := by kernel_rfl
  a218 := fun _ => by kernel_rfl
  z218 := fun _ => by kernel_rfl
  v218 := fun _ => by kernel_rfl
  t222 := by kernel_rfl
  a222 := fun _ => by kernel_rfl
  z222 := fun _ => by kernel_rfl
  v222 := fun _ => by kernel_rfl
  t228 := by kernel_rfl
  a228 := fun _ => by kernel_rfl
  z228 := fun _ => by kernel_rfl
  v228 := fun _ => by kernel_rfl
  t229 := by kernel_rfl
  a229 := fun _ => by kernel_rfl
  z229 := fun _ => by kernel_rfl
  v229 := fun _ => by kernel_rfl
theorem k75_104 : fSortI.ok Tryz.prog 75 :=
  sortInts_ok laysSortI rfl
def E105 : D.Env := E104.addG 75 fSortI
theorem E105ok : EOk Tryz.prog E105 := E104ok.addG k75_104
def fCompactI : GS := ⟨[.g (.sl .int)], [.sl .int], fun (x_ : (List Int) × Unit) => x_.1.length ≤ 1000000000000, fun (x_ : (List Int) × Unit) => ((dedupA x_.1, ()), (()))⟩
abbrev W_slices_Compact_int_int_fCompactI_4 (s : (List Int)) : LInv := ⟨[⟨.s, 3, true, .el .int⟩, ⟨.t, 0, true, .sl .int⟩], fun _ (x_ : Int × (List Int) × Unit) => 1 ≤ x_.1 ∧ x_.1 ≤ s.length ∧ x_.2.1 = s ∧ dedupA (s.take x_.1.toNat) = s.take x_.1.toNat, fun (x_ : Int × (List Int) × Unit) => s.length - x_.1.toNat⟩
abbrev W_slices_Compact_int_int_fCompactI_9 (s : (List Int)) : LInv := ⟨[⟨.s, 3, true, .el .int⟩, ⟨.s, 5, true, .el .int⟩, ⟨.t, 0, true, .sl .int⟩], fun (z_ : Int × Int × (List Int) × Unit) (x_ : Int × Int × (List Int) × Unit) => CompInv s x_.2.2.1 z_.1 x_.1 x_.2.1, fun (x_ : Int × Int × (List Int) × Unit) => s.length - x_.2.1.toNat⟩
set_option maxHeartbeats 2000000 in
theorem k76_105 : fCompactI.ok Tryz.prog 76 := GS.of (S := fCompactI) (L := fun ⟨s, _⟩ => fun | 4 => some (W_slices_Compact_int_int_fCompactI_4 s) | 9 => some (W_slices_Compact_int_int_fCompactI_9 s) | _ => none) (kp := [0,2,3,4,5,8,13,25,32,44,1000008,1000013,1000025,1000032,1000044]) E105ok Tryz.func76 (by kernel_rfl) (by kernel_rfl) (by
  rintro ⟨(s : List Int), _⟩ hp
  refine holds_of (X := .br (decide ((↑s.length : Int) < (2 : Int)))
 (GS.out fCompactI ((s, ()), (())))
 (lpx (W_slices_Compact_int_int_fCompactI_4 s) ((1 : Int), (s, ())) fun (y2 : Int × List Int × PUnit) bk2 =>
  .br (decide (y2.fst < (↑y2.snd.fst.length : Int)))
   (.ob ((0 : Int) ≤ y2.fst ∧ y2.fst < (↑y2.snd.fst.length : Int)) <|
    .ob (y2.fst.toNat < y2.snd.fst.length) <|
    .ob ((0 : Int) ≤ IntKind.i64.wrap (y2.fst - (1 : Int)) ∧ IntKind.i64.wrap (y2.fst - (1 : Int)) < (↑y2.snd.fst.length : Int)) <|
    .ob ((IntKind.i64.wrap (y2.fst - (1 : Int))).toNat < y2.snd.fst.length) <|
    .br (y2.snd.fst.getD y2.fst.toNat default == y2.snd.fst.getD (IntKind.i64.wrap (y2.fst - (1 : Int))).toNat default)
    (.ob ((0 : Int) ≤ y2.fst ∧ y2.fst ≤ (↑y2.snd.fst.length : Int)) <|
     lpx (W_slices_Compact_int_int_fCompactI_9 s) (y2.fst, ((1 : Int), (y2.snd.fst, ()))) fun (y10 : Int × Int × List Int × PUnit) bk10 =>
     .br (decide (y10.snd.fst < (↑(y2.snd.fst.length - y2.fst.toNat) : Int)))
      (.ob ((0 : Int) ≤ y10.snd.fst ∧ y10.snd.fst < (↑(y2.snd.fst.length - y2.fst.toNat) : Int)) <|
       .ob (y2.fst.toNat + y10.snd.fst.toNat < y10.snd.snd.fst.length) <|
       .ob ((0 : Int) ≤ IntKind.i64.wrap (y10.snd.fst - (1 : Int)) ∧
  IntKind.i64.wrap (y10.snd.fst - (1 : Int)) < (↑(y2.snd.fst.length - y2.fst.toNat) : Int)) <|
       .ob (y2.fst.toNat + (IntKind.i64.wrap (y10.snd.fst - (1 : Int))).toNat < y10.snd.snd.fst.length) <|
       .br (y10.snd.snd.fst.getD (y2.fst.toNat + y10.snd.fst.toNat) default !=
  y10.snd.snd.fst.getD (y2.fst.toNat + (IntKind.i64.wrap (y10.snd.fst - (1 : Int))).toNat) default)
       (.ob ((0 : Int) ≤ y10.snd.fst ∧ y10.snd.fst < (↑(y2.snd.fst.length - y2.fst.toNat) : Int)) <|
        .ob (y2.fst.toNat + y10.snd.fst.toNat < y10.snd.snd.fst.length) <|
        .ob ((0 : Int) ≤ y10.fst ∧ y10.fst < (↑y10.snd.snd.fst.length : Int)) <|
        .ob (y10.fst.toNat < y10.snd.snd.fst.length) <|
        .lt (List Int) (y10.snd.snd.fst.modify y10.fst.toNat fun z => y10.snd.snd.fst.getD (y2.fst.toNat + y10.snd.fst.toNat) default) fun z2 =>
        .ob (y2.fst.toNat = y2.fst.toNat) <|
         .ob (y2.snd.fst.length - y2.fst.toNat = y2.snd.fst.length - y2.fst.toNat) <|
         .ob (bk10 (IntKind.i64.wrap (y10.fst + (1 : Int)), (IntKind.i64.wrap (y10.snd.fst + (1 : Int)), (z2, ())))) <|
         .ok)
       (.ob (y2.fst.toNat = y2.fst.toNat) <|
        .ob (y2.snd.fst.length - y2.fst.toNat = y2.snd.fst.length - y2.fst.toNat) <|
        .ob (bk10 (y10.fst, (IntKind.i64.wrap (y10.snd.fst + (1 : Int)), (y10.snd.snd.fst, ())))) <|
        .ok))
      (.ob ((0 : Int) ≤ y10.fst ∧ y10.fst ≤ (↑y10.snd.snd.fst.length : Int)) <|
       .ob (y10.fst.toNat + (y10.snd.snd.fst.length - y10.fst.toNat) ≤ y10.snd.snd.fst.length) <|
       .ob ((0 : Int) ≤ y10.fst ∧
  y10.fst ≤
    (↑(put3 y10.snd.snd.fst y10.fst.toNat (List.replicate (y10.snd.snd.fst.length - y10.fst.toNat) (0 : Int))).length :
      Int)) <|
       .ob ((0 : Nat) + (y10.fst.toNat - (0 : Nat)) ≤
  (put3 y10.snd.snd.fst y10.fst.toNat (List.replicate (y10.snd.snd.fst.length - y10.fst.toNat) (0 : Int))).length) <|
       GS.out fCompactI ((cut (put3 y10.snd.snd.fst y10.fst.toNat (List.replicate (y10.snd.snd.fst.length - y10.fst.toNat) (0 : Int))) (0 : Nat)
  (y10.fst.toNat - (0 : Nat)), ()), (()))))
    (.ob (bk2 (IntKind.i64.wrap (y2.fst + (1 : Int)), (y2.snd.fst, ()))) <|
     .ok))
   (GS.out fCompactI ((y2.snd.fst, ()), (()))))) (by kernel_rfl) ?_
  refine br_i (fun h1 => GS.leafY ?_) (fun h1 => lpx_i ?_ fun (y2 : Int × List Int × PUnit) i2 => br_i (fun h3 => ob_i ?_ fun o4 => ob_i ?_ fun o5 => ob_i ?_ fun o6 => ob_i ?_ fun o7 => br_i (fun h8 => ob_i ?_ fun o9 => lpx_i ?_ fun (y10 : Int × Int × List Int × PUnit) i10 => br_i (fun h11 => ob_i ?_ fun o12 => ob_i ?_ fun o13 => ob_i ?_ fun o14 => ob_i ?_ fun o15 => br_i (fun h16 => ob_i ?_ fun o17 => ob_i ?_ fun o18 => ob_i ?_ fun o19 => ob_i ?_ fun o20 => lt_i (ob_i rfl fun _ => ob_i rfl fun _ => ob_i ?_ fun o21 => trivial)) (fun h16 => ob_i rfl fun _ => ob_i rfl fun _ => ob_i ?_ fun o22 => trivial)) (fun h11 => ob_i ?_ fun o23 => ob_i ?_ fun o24 => ob_i ?_ fun o25 => ob_i ?_ fun o26 => GS.leafY ?_)) (fun h8 => ob_i ?_ fun o27 => trivial)) (fun h3 => GS.leafY ?_))
  all_goals try have cI := i10
  all_goals try (obtain ⟨c1, c2, c3, c4, c5, c6, c7, c8⟩ := cI; clear c7 c8)
  all_goals try (obtain ⟨d1, d2, d3, d4⟩ := i2; simp only [d3] at *)
  all_goals try simp only [std1, ne_eq] at *
  all_goals try simp only [W_slices_Compact_int_int_fCompactI_4, W_slices_Compact_int_int_fCompactI_9, fCompactI, etaS, std1, std2, Nat.reduceAdd, ne_eq] at *
  all_goals try simp (disch := omega) only [wrapId'] at *
  all_goals try simp only [put3_length, List.length_replicate] at *
  all_goals first | trivial | omega | skip
  · exact (dedupA_one _ (by omega)).symm
  · exact ⟨by omega, by omega, dedupA_one _ (by simp; omega)⟩
  · exact comp_entry d1 (by omega) d4 h8
  · exact ⟨comp_put i10 (by omega) h16, by omega⟩
  · exact ⟨comp_skip i10 (by omega) h16, by omega⟩
  · exact comp_end i10 (by omega) _
  · exact ⟨⟨by omega, by omega, comp_next d1 (by omega) d4 h8⟩, by omega⟩
  · rw [List.take_of_length_le (by omega)] at d4
    exact d4.symm)
def E106 : D.Env := E105.addG 76 fCompactI
theorem E106ok : EOk Tryz.prog E106 := E105ok.addG k76_105
def fCutText : Fct := ⟨[.v (.el .str), .v (.sl .int)], [.sl .str], fun (x_ : ByteArray × (List Int) × Unit) => x_.1.size ≤ 1048576 ∧ x_.2.1.length ≤ 1048576, fun (x_ : ByteArray × (List Int) × Unit) => (cutText x_.1 x_.2.1, ())⟩
theorem cutAts_len (s : ByteArray) (cs : List Int) : (cutAts s cs).length ≤ 7 := by
  have h1 := List.length_filter_le (fun n => inRange n 1 (s.size - 1)) (cs.take 7)
  rw [← rngs_eq] at h1
  have h2 : (cs.take 7).length ≤ 7 := by rw [List.length_take]; omega
  unfold cutAts; omega
def cutPos (s : ByteArray) (cs : List Int) : List Int := dedupA (sortI (cutAts s cs))
theorem cutPos_mem {s : ByteArray} {cs : List Int} {x : Int} (h : x ∈ cutPos s cs) : 1 ≤ x ∧ x ≤ s.size - 1 := by
  rw [cutPos, dedupA_mem, sortI_mem, cutAts, rngs_eq, List.mem_filter] at h
  simpa [inRange] using h.2
theorem cutPos_lt (s : ByteArray) (cs : List Int) : (cutPos s cs).Pairwise (· < ·) := dedup_pw (le := fun a b => a ≤ b) (fun a b h1 h2 => by omega) (fun a b c h1 h2 => by omega) (sortI_sorted _)
theorem cutPos_len (s : ByteArray) (cs : List Int) : (cutPos s cs).length ≤ 7 := by
  have h1 := dedupA_len (sortI (cutAts s cs))
  have h2 := sortI_len (cutAts s cs)
  have h3 := cutAts_len s cs
  unfold cutPos; omega
theorem pieces_at {s : ByteArray} {l : List Int} {i : Nat} {a : Int} (h : i < l.length) : pieces s (l.drop i) a = s.extract a.toNat (l.getD i default).toNat :: pieces s (l.drop (i + 1)) (l.getD i default) := by rw [drop_cons h]; rfl
theorem pieces_end {s : ByteArray} {l : List Int} {i : Nat} {a : Int} (h : l.length ≤ i) : pieces s (l.drop i) a = [s.extract a.toNat s.size] := by rw [List.drop_of_length_le h]; rfl
structure CutInv (s : ByteArray) (cs : List Int) (l : List Int) (j : Nat) (a : Int) : Prop where
  e : l = cutPos s cs
  h : ∀ x ∈ l.drop j, a ≤ x
  a0 : 0 ≤ a
  a1 : a ≤ s.size
theorem CutInv.get {s : ByteArray} {cs l : List Int} {j : Nat} {a : Int} (h : CutInv s cs l j a) (hj : j < l.length) : a ≤ l.getD j default ∧ l.getD j default ≤ s.size ∧ CutInv s cs l (j + 1) (l.getD j default) := by
  obtain ⟨e, h, a0, a1⟩ := h
  have hm : l.getD j default ∈ l := by rw [getD_lt hj]; exact List.getElem_mem hj
  have hb : 1 ≤ l.getD j default ∧ l.getD j default ≤ s.size - 1 := cutPos_mem (by rw [← e]; exact hm)
  have hp := cutPos_lt s cs
  rw [← e, ← List.take_append_drop j l, List.pairwise_append, drop_cons hj] at hp
  refine ⟨h _ (by rw [drop_cons hj]; exact List.mem_cons_self), by omega, e, fun x hx => ?_, by omega, by omega⟩
  exact Int.le_of_lt ((List.pairwise_cons.1 hp.2.1).1 x hx)
theorem CutInv.zero (s : ByteArray) (cs : List Int) : CutInv s cs (cutPos s cs) 0 0 := ⟨rfl, fun x hx => by have := cutPos_mem (by simpa using hx); omega, by omega, by omega⟩
theorem any_step {l : List Int} {k : Nat} {i : Int} (h : k < l.length) : hasI (l.take (k + 1)) i = (hasI (l.take k) i || decide (l.getD k default = i)) := by
  rw [take_succ h]; simp [hasI]
theorem cutGo_step {s : ByteArray} {cs : List Int} {f : Nat} {i a : Int} (h : 0 < f) : cutGo s cs f i a = if isCut cs i then s.extract a.toNat i.toNat :: cutGo s cs (f - 1) (i + 1) i else cutGo s cs (f - 1) (i + 1) a := by
  obtain ⟨n, rfl⟩ : ∃ n, f = n + 1 := ⟨f - 1, by omega⟩
  rfl
theorem isCut_min (cs : List Int) (i : Int) : hasI (cs.take (min cs.length 7)) i = isCut cs i := by
  unfold isCut
  congr 1
  rcases Nat.le_total cs.length 7 with h | h
  · rw [Nat.min_eq_left h, List.take_length, List.take_of_length_le h]
  · rw [Nat.min_eq_right h]
theorem hasI_zero (l : List Int) (i : Int) : hasI (l.take 0) i = false := by simp [hasI]
theorem here_end {cs : List Int} {i k : Int} (h1 : min (cs.length : Int) 7 ≤ k) (h2 : k ≤ cs.length) (h3 : k ≤ 7) : hasI (cs.take k.toNat) i = isCut cs i := by
  rw [← isCut_min]; congr 2; omega
theorem cutGo_end {s : ByteArray} {cs : List Int} {f : Nat} {i a : Int} (h : f = 0) : cutGo s cs f i a = [s.extract a.toNat s.size] := by subst h; rfl
theorem take7 (cs : List Int) : cut cs 0 ((if (7 : Int) < cs.length then (7 : Int) else cs.length).toNat - 0) = cs.take 7 := by
  simp only [cut, List.drop_zero]
  split
  · rfl
  · rw [List.take_of_length_le (by omega), List.take_of_length_le (by omega)]
abbrev W_spec_CutText_fCutText_5 (s : ByteArray) (cs : (List Int)) : LInv := ⟨[⟨.s, 5, true, .sl .str⟩, ⟨.s, 6, true, .el .int⟩, ⟨.s, 8, true, .el .int⟩], fun _ (x_ : (List ByteArray) × Int × Int × Unit) => 1 ≤ x_.2.2.1 ∧ (x_.2.2.1 ≤ s.size ∨ x_.2.2.1 = 1) ∧ 0 ≤ x_.2.1 ∧ x_.2.1 < x_.2.2.1 ∧ x_.2.1 ≤ s.size ∧ x_.1.length ≤ x_.2.2.1 ∧ x_.1 ++ cutGo s cs (s.size - x_.2.2.1.toNat) x_.2.2.1 x_.2.1 = cutText s cs, fun (x_ : (List ByteArray) × Int × Int × Unit) => s.size - x_.2.2.1.toNat⟩
abbrev W_spec_CutText_fCutText_9 (s : ByteArray) (cs : (List Int)) : LInv := ⟨[⟨.s, 9, true, .el .bool⟩, ⟨.s, 10, true, .el .int⟩, ⟨.s, 5, true, .sl .str⟩, ⟨.s, 6, true, .el .int⟩, ⟨.s, 8, true, .el .int⟩], fun (z_ : Bool × Int × (List ByteArray) × Int × Int × Unit) (x_ : Bool × Int × (List ByteArray) × Int × Int × Unit) => x_.2.2.1 = z_.2.2.1 ∧ x_.2.2.2.1 = z_.2.2.2.1 ∧ x_.2.2.2.2.1 = z_.2.2.2.2.1 ∧ 0 ≤ x_.2.1 ∧ x_.2.1 ≤ cs.length ∧ x_.2.1 ≤ 7 ∧ x_.1 = hasI (cs.take x_.2.1.toNat) x_.2.2.2.2.1, fun (x_ : Bool × Int × (List ByteArray) × Int × Int × Unit) => 7 - x_.2.1.toNat⟩
theorem k23_106 : fCutText.ok Tryz.prog 23 := Fct.of (S := fCutText) (L := fun ⟨s, cs, _⟩ => fun | 5 => some (W_spec_CutText_fCutText_5 s cs) | 9 => some (W_spec_CutText_fCutText_9 s cs) | _ => none) (kp := [0,1,4,5,6,7,8,9,10,18,23,35,1000018,1000023,1000035]) E106ok Tryz.func23 (by kernel_rfl) (by kernel_rfl) (by
  rintro ⟨(s : ByteArray), (cs : List Int), _⟩ hp
  refine holds_of (X := .ob (fMin.pre ((↑cs.length : Int), (7 : Int), ())) <|
 .lt (Int × PUnit) (fMin.fn ((↑cs.length : Int), (7 : Int), ())) fun z2 =>
 lpx (W_spec_CutText_fCutText_5 s cs) ([], ((0 : Int), ((1 : Int), ()))) fun (y1 : List ByteArray × Int × Int × PUnit) bk1 =>
  .br (decide (y1.snd.snd.fst < (↑s.size : Int)))
   (lpx (W_spec_CutText_fCutText_9 s cs) (false, ((0 : Int), (y1.fst, (y1.snd.fst, (y1.snd.snd.fst, ()))))) fun (y3 : Bool × Int × List ByteArray × Int × Int × PUnit) bk3 =>
    .br (decide (y3.snd.fst < z2.fst))
     (.br (y3.fst)
      (.ob (Value.string s = Value.string s) <|
       .ob (cs = cs) <|
       .ob (Value.int IntKind.i64 z2.fst = Value.int IntKind.i64 z2.fst) <|
       .ob (bk3 (true, (IntKind.i64.wrap (y3.snd.fst + (1 : Int)), (y3.snd.snd.fst, (y3.snd.snd.snd.fst, (y3.snd.snd.snd.snd.fst, ())))))) <|
       .ok)
      (.ob ((0 : Int) ≤ y3.snd.fst ∧ y3.snd.fst < (↑cs.length : Int)) <|
       .ob (Value.string s = Value.string s) <|
       .ob (cs = cs) <|
       .ob (Value.int IntKind.i64 z2.fst = Value.int IntKind.i64 z2.fst) <|
       .ob (bk3 (cs.getD y3.snd.fst.toNat default == y3.snd.snd.snd.snd.fst, (IntKind.i64.wrap (y3.snd.fst + (1 : Int)), (y3.snd.snd.fst, (y3.snd.snd.snd.fst, (y3.snd.snd.snd.snd.fst, ())))))) <|
       .ok))
     (.br (y3.fst)
      (.ob ((0 : Int) ≤ y3.snd.snd.snd.fst ∧ y3.snd.snd.snd.fst ≤ y3.snd.snd.snd.snd.fst ∧ y3.snd.snd.snd.snd.fst ≤ (↑s.size : Int)) <|
       .ob (True) <|
       .ob (Room (y3.snd.snd.fst.length + [s.extract y3.snd.snd.snd.fst.toNat y3.snd.snd.snd.snd.fst.toNat].length) (16 : Nat)) <|
       .ob (Value.string s = Value.string s) <|
       .ob (cs = cs) <|
       .ob (Value.int IntKind.i64 z2.fst = Value.int IntKind.i64 z2.fst) <|
       .ob (bk1 (y3.snd.snd.fst ++ [s.extract y3.snd.snd.snd.fst.toNat y3.snd.snd.snd.snd.fst.toNat], (y3.snd.snd.snd.snd.fst, (IntKind.i64.wrap (y3.snd.snd.snd.snd.fst + (1 : Int)), ())))) <|
       .ok)
      (.ob (Value.string s = Value.string s) <|
       .ob (cs = cs) <|
       .ob (Value.int IntKind.i64 z2.fst = Value.int IntKind.i64 z2.fst) <|
       .ob (bk1 (y3.snd.snd.fst, (y3.snd.snd.snd.fst, (IntKind.i64.wrap (y3.snd.snd.snd.snd.fst + (1 : Int)), ())))) <|
       .ok)))
   (.ob ((0 : Int) ≤ y1.snd.fst ∧ y1.snd.fst ≤ (↑s.size : Int)) <|
    .ob (True) <|
    .ob (Room (y1.fst.length + [s.extract y1.snd.fst.toNat s.size].length) (16 : Nat)) <|
    .leaf (mkR fCutText.rs (y1.fst ++ [s.extract y1.snd.fst.toNat s.size], ())) [] [])) (by kernel_rfl) ?_
  refine ob_i trivial fun _ => lt_i (lpx_i ?_ fun (y1 : List ByteArray × Int × Int × PUnit) i1 => br_i (fun h2 => lpx_i ?_ fun (y3 : Bool × Int × List ByteArray × Int × Int × PUnit) i3 => br_i (fun h4 => br_i (fun h5 => ob_i rfl fun _ => ob_i rfl fun _ => ob_i rfl fun _ => ob_i ?_ fun o6 => trivial) (fun h5 => ob_i ?_ fun o7 => ob_i rfl fun _ => ob_i rfl fun _ => ob_i rfl fun _ => ob_i ?_ fun o8 => trivial)) (fun h4 => br_i (fun h9 => ob_i ?_ fun o10 => ob_i trivial fun _ => ob_i ?_ fun o11 => ob_i rfl fun _ => ob_i rfl fun _ => ob_i rfl fun _ => ob_i ?_ fun o12 => trivial) (fun h9 => ob_i rfl fun _ => ob_i rfl fun _ => ob_i rfl fun _ => ob_i ?_ fun o13 => trivial))) (fun h2 => ob_i ?_ fun o14 => ob_i trivial fun _ => ob_i ?_ fun o15 => Fct.leafY ?_))
  all_goals try simp only [std1, ne_eq] at *
  all_goals try simp only [W_spec_CutText_fCutText_5, W_spec_CutText_fCutText_9, fCutText, fMin, etaS, std1, std2, Nat.reduceAdd, ne_eq, cutText, fMin, cutGo_step, cutGo_end, any_step, here_end, hasI_zero] at *
  all_goals try simp (disch := omega) only [wrapId', toNat1] at *
  all_goals try simp (disch := omega) only [if_pos, if_neg]
  all_goals first | trivial | omega | grind [wrapId', toNat1, good_len, maxLen, cutText, fMin, cutGo_step, cutGo_end, any_step, here_end, hasI_zero])
def E107 : D.Env := E106.add 23 fCutText
theorem E107ok : EOk Tryz.prog E107 := E106ok.add k23_106
abbrev W_impl_CutText_fCutText_3 (s : ByteArray) (cs : (List Int)) : LInv := ⟨[⟨.s, 5, true, .sl .int⟩, ⟨.s, 19, true, .el .int⟩], fun _ (x_ : (List Int) × Int × Unit) => 0 ≤ x_.2.1 ∧ x_.2.1 ≤ (cs.take 7).length ∧ x_.1.length ≤ x_.2.1 ∧ x_.1 ++ rngs (s.size - 1) ((cs.take 7).drop x_.2.1.toNat) = cutAts s cs, fun (x_ : (List Int) × Int × Unit) => 7 - x_.2.1.toNat⟩
abbrev W_impl_CutText_fCutText_12 (s : ByteArray) (cs : (List Int)) : LInv := ⟨[⟨.s, 8, true, .sl .str⟩, ⟨.s, 9, true, .el .int⟩, ⟨.s, 39, true, .el .int⟩, ⟨.s, 37, true, .sl .int⟩], fun _ (x_ : (List ByteArray) × Int × Int × (List Int) × Unit) => CutInv s cs x_.2.2.2.1 x_.2.2.1.toNat x_.2.1 ∧ 0 ≤ x_.2.2.1 ∧ x_.2.2.1 ≤ x_.2.2.2.1.length ∧ x_.1.length ≤ x_.2.2.1 ∧ x_.1 ++ pieces s (x_.2.2.2.1.drop x_.2.2.1.toNat) x_.2.1 = cutText s cs, fun (x_ : (List ByteArray) × Int × Int × (List Int) × Unit) => (cutPos s cs).length - x_.2.2.1.toNat⟩
set_option maxHeartbeats 2000000 in
theorem k29_107 : fCutText.ok Tryz.prog 29 := Fct.of (S := fCutText) (L := fun ⟨s, cs, _⟩ => fun | 3 => some (W_impl_CutText_fCutText_3 s cs) | 12 => some (W_impl_CutText_fCutText_12 s cs) | _ => none) (kp := [0,1,4,5,7,8,9,11,17,18,19,20,27,37,38,39,40,1000020,1000027,1000040]) E107ok Tryz.func29 (by kernel_rfl) (by kernel_rfl) (by
  rintro ⟨(s : ByteArray), (cs : List Int), _⟩ hp
  refine holds_of (X := .ob (((0 : Int) ≤ if (7 : Int) < (↑cs.length : Int) then (7 : Int) else (↑cs.length : Int)) ∧
  (if (7 : Int) < (↑cs.length : Int) then (7 : Int) else (↑cs.length : Int)) ≤ (↑cs.length : Int)) <|
 lpx (W_impl_CutText_fCutText_3 s cs) ([], ((0 : Int), ())) fun (y2 : List Int × Int × PUnit) bk2 =>
 .br (decide
  (y2.snd.fst <
    (↑(cut cs (0 : Nat)
            ((if (7 : Int) < (↑cs.length : Int) then (7 : Int) else (↑cs.length : Int)).toNat - (0 : Nat))).length :
      Int)))
  (.ob ((0 : Int) ≤ y2.snd.fst ∧
  y2.snd.fst <
    (↑(cut cs (0 : Nat)
            ((if (7 : Int) < (↑cs.length : Int) then (7 : Int) else (↑cs.length : Int)).toNat - (0 : Nat))).length :
      Int)) <|
   .ob (fInRange.pre
  ((cut cs (0 : Nat)
          ((if (7 : Int) < (↑cs.length : Int) then (7 : Int) else (↑cs.length : Int)).toNat - (0 : Nat))).getD
      y2.snd.fst.toNat default,
    (1 : Int), IntKind.i64.wrap ((↑s.size : Int) - (1 : Int)), ())) <|
   .lt (Bool × PUnit) (fInRange.fn
  ((cut cs (0 : Nat)
          ((if (7 : Int) < (↑cs.length : Int) then (7 : Int) else (↑cs.length : Int)).toNat - (0 : Nat))).getD
      y2.snd.fst.toNat default,
    (1 : Int), IntKind.i64.wrap ((↑s.size : Int) - (1 : Int)), ())) fun z2 =>
   .br (z2.fst)
    (.ob (True) <|
     .ob (Room
  (y2.fst.length +
    [(cut cs (0 : Nat)
              ((if (7 : Int) < (↑cs.length : Int) then (7 : Int) else (↑cs.length : Int)).toNat - (0 : Nat))).getD
          y2.snd.fst.toNat default].length)
  (8 : Nat)) <|
     .ob (Value.string s = Value.string s) <|
     .ob (cs = cs) <|
     .ob (cut cs (0 : Nat) ((if (7 : Int) < (↑cs.length : Int) then (7 : Int) else (↑cs.length : Int)).toNat - (0 : Nat)) =
  cut cs (0 : Nat) ((if (7 : Int) < (↑cs.length : Int) then (7 : Int) else (↑cs.length : Int)).toNat - (0 : Nat))) <|
     .ob (Value.int IntKind.i64
    (↑(cut cs (0 : Nat)
            ((if (7 : Int) < (↑cs.length : Int) then (7 : Int) else (↑cs.length : Int)).toNat - (0 : Nat))).length :
      Int) =
  Value.int IntKind.i64
    (↑(cut cs (0 : Nat)
            ((if (7 : Int) < (↑cs.length : Int) then (7 : Int) else (↑cs.length : Int)).toNat - (0 : Nat))).length :
      Int)) <|
     .ob (bk2 (y2.fst ++
  [(cut cs (0 : Nat)
          ((if (7 : Int) < (↑cs.length : Int) then (7 : Int) else (↑cs.length : Int)).toNat - (0 : Nat))).getD
      y2.snd.fst.toNat default], (IntKind.i64.wrap (y2.snd.fst + (1 : Int)), ()))) <|
     .ok)
    (.ob (Value.string s = Value.string s) <|
     .ob (cs = cs) <|
     .ob (cut cs (0 : Nat) ((if (7 : Int) < (↑cs.length : Int) then (7 : Int) else (↑cs.length : Int)).toNat - (0 : Nat)) =
  cut cs (0 : Nat) ((if (7 : Int) < (↑cs.length : Int) then (7 : Int) else (↑cs.length : Int)).toNat - (0 : Nat))) <|
     .ob (Value.int IntKind.i64
    (↑(cut cs (0 : Nat)
            ((if (7 : Int) < (↑cs.length : Int) then (7 : Int) else (↑cs.length : Int)).toNat - (0 : Nat))).length :
      Int) =
  Value.int IntKind.i64
    (↑(cut cs (0 : Nat)
            ((if (7 : Int) < (↑cs.length : Int) then (7 : Int) else (↑cs.length : Int)).toNat - (0 : Nat))).length :
      Int)) <|
     .ob (bk2 (y2.fst, (IntKind.i64.wrap (y2.snd.fst + (1 : Int)), ()))) <|
     .ok))
  (.ob (fSortI.pre (y2.fst, ())) <|
   .lt (PUnit × List Int × PUnit) (fSortI.fn (y2.fst, ())) fun z3 =>
   .ob (fCompactI.pre (z3.snd.fst, ())) <|
    .lt ((List Int × PUnit) × PUnit) (fCompactI.fn (z3.snd.fst, ())) fun z4 =>
    lpx (W_impl_CutText_fCutText_12 s cs) ([], ((0 : Int), ((0 : Int), (z4.fst.fst, ())))) fun (y11 : List ByteArray × Int × Int × List Int × PUnit) bk11 =>
     .br (decide (y11.snd.snd.fst < (↑z4.fst.fst.length : Int)))
      (.ob ((0 : Int) ≤ y11.snd.snd.fst ∧ y11.snd.snd.fst < (↑y11.snd.snd.snd.fst.length : Int)) <|
       .ob (y11.snd.snd.fst.toNat < y11.snd.snd.snd.fst.length) <|
       .ob ((0 : Int) ≤ y11.snd.fst ∧
  y11.snd.fst ≤ y11.snd.snd.snd.fst.getD y11.snd.snd.fst.toNat default ∧
    y11.snd.snd.snd.fst.getD y11.snd.snd.fst.toNat default ≤ (↑s.size : Int)) <|
       .ob (True) <|
       .ob (Room
  (y11.fst.length + [s.extract y11.snd.fst.toNat (y11.snd.snd.snd.fst.getD y11.snd.snd.fst.toNat default).toNat].length)
  (16 : Nat)) <|
       .ob (Value.int IntKind.i64 y2.snd.fst = Value.int IntKind.i64 y2.snd.fst) <|
       .ob (Value.string s = Value.string s) <|
       .ob (cs = cs) <|
       .ob (cut cs (0 : Nat) ((if (7 : Int) < (↑cs.length : Int) then (7 : Int) else (↑cs.length : Int)).toNat - (0 : Nat)) =
  cut cs (0 : Nat) ((if (7 : Int) < (↑cs.length : Int) then (7 : Int) else (↑cs.length : Int)).toNat - (0 : Nat))) <|
       .ob (Value.int IntKind.i64
    (↑(cut cs (0 : Nat)
            ((if (7 : Int) < (↑cs.length : Int) then (7 : Int) else (↑cs.length : Int)).toNat - (0 : Nat))).length :
      Int) =
  Value.int IntKind.i64
    (↑(cut cs (0 : Nat)
            ((if (7 : Int) < (↑cs.length : Int) then (7 : Int) else (↑cs.length : Int)).toNat - (0 : Nat))).length :
      Int)) <|
       .ob (Value.int IntKind.i64 (↑z4.fst.fst.length : Int) = Value.int IntKind.i64 (↑z4.fst.fst.length : Int)) <|
       .ob (bk11 (y11.fst ++ [s.extract y11.snd.fst.toNat (y11.snd.snd.snd.fst.getD y11.snd.snd.fst.toNat default).toNat], (y11.snd.snd.snd.fst.getD y11.snd.snd.fst.toNat default, (IntKind.i64.wrap (y11.snd.snd.fst + (1 : Int)), (y11.snd.snd.snd.fst, ()))))) <|
       .ok)
      (.ob ((0 : Int) ≤ y11.snd.fst ∧ y11.snd.fst ≤ (↑s.size : Int)) <|
       .ob (True) <|
       .ob (Room (y11.fst.length + [s.extract y11.snd.fst.toNat s.size].length) (16 : Nat)) <|
       .leaf (mkR fCutText.rs (y11.fst ++ [s.extract y11.snd.fst.toNat s.size], ())) [] []))) (by kernel_rfl) ?_
  refine ob_i ?_ fun o1 => lpx_i ?_ fun (y2 : List Int × Int × PUnit) i2 => br_i (fun h3 => ob_i ?_ fun o4 => ob_i trivial fun _ => lt_i (br_i (fun h5 => ob_i trivial fun _ => ob_i ?_ fun o6 => ob_i rfl fun _ => ob_i rfl fun _ => ob_i rfl fun _ => ob_i rfl fun _ => ob_i ?_ fun o7 => trivial) (fun h5 => ob_i rfl fun _ => ob_i rfl fun _ => ob_i rfl fun _ => ob_i rfl fun _ => ob_i ?_ fun o8 => trivial))) (fun h3 => ob_i ?_ fun o9 => lt_i (ob_i ?_ fun o10 => lt_i (lpx_i ?_ fun (y11 : List ByteArray × Int × Int × List Int × PUnit) i11 => br_i (fun h12 => ob_i ?_ fun o13 => ob_i ?_ fun o14 => ob_i ?_ fun o15 => ob_i trivial fun _ => ob_i ?_ fun o16 => ob_i rfl fun _ => ob_i rfl fun _ => ob_i rfl fun _ => ob_i rfl fun _ => ob_i rfl fun _ => ob_i rfl fun _ => ob_i ?_ fun o17 => trivial) (fun h12 => ob_i ?_ fun o18 => ob_i trivial fun _ => ob_i ?_ fun o19 => Fct.leafY ?_))))
  all_goals try simp only [take7] at *
  all_goals have hl7 := List.length_take (i := 7) (l := cs)
  all_goals have hp1 := cutAts_len s cs
  all_goals have hp2 := sortI_len (cutAts s cs)
  all_goals have hp3 := cutPos_len s cs
  all_goals have hp6 := cutText_pieces s cs
  all_goals try simp only [std1, ne_eq] at *
  all_goals try simp only [W_impl_CutText_fCutText_12, W_impl_CutText_fCutText_3, fCompactI, fCutText, fInRange, fSortI, etaS, std1, std2, Nat.reduceAdd, ne_eq, fInRange, fSortI, fCompactI] at *
  all_goals try simp (disch := omega) only [wrapId', toNat1] at *
  all_goals try simp (disch := omega) only [if_pos, if_neg]
  all_goals try (have q2 : y2.1 = cutAts s cs := by have h := i2.2.2.2; rw [rngs_end (by omega), List.append_nil] at h; exact h)
  all_goals try (simp only [q2, show dedupA (sortI (cutAts s cs)) = cutPos s cs from rfl] at *)
  all_goals try (have ce := i11.1.e; simp only [ce] at *)
  all_goals try clear hp6
  all_goals try simp (disch := omega) only [wrapId', toNat1] at *
  all_goals first | omega | skip
  all_goals try (by_cases hj : y11.2.2.1.toNat < (cutPos s cs).length; (obtain ⟨g1, g2, g3⟩ := CutInv.get i11.1 hj))
  all_goals try (have g4 := i11.1.a0; have g5 := i11.1.a1)
  all_goals first | omega | skip
  all_goals first | exact ⟨CutInv.zero s cs, by omega, by omega, by omega, (cutText_pieces s cs).symm⟩ | grind [cutAts, rngs_at, pieces_at, pieces_end])
def E108 : D.Env := E107.add 29 fCutText
theorem E108ok : EOk Tryz.prog E108 := E107ok.add k29_107
theorem pieces_len (s : ByteArray) : ∀ (l : List Int) (a : Int), (pieces s l a).length = l.length + 1
  | [], _ => rfl
  | x :: l, a => by rw [pieces, List.length_cons, pieces_len s l x, List.length_cons]
theorem cutText_len (s : ByteArray) (cs : List Int) : (cutText s cs).length ≤ 8 := by
  have := cutPos_len s cs
  rw [cutText_pieces, pieces_len]; unfold cutPos at this; omega
def nameByte (b : UInt8) : Bool := 97 ≤ b.toNat && b.toNat ≤ 122
def bts (s : ByteArray) : List UInt8 := s.data.toList
theorem bts_len (s : ByteArray) : (bts s).length = s.size := rfl
theorem bts_at {s : ByteArray} {i : Nat} (h : i < s.size) : (bts s).drop i = s.data.getD i 0 :: (bts s).drop (i + 1) := by
  have h2 : i < s.data.size := h
  have e : s.data.getD i 0 = s.data[i] := by unfold Array.getD; rw [dif_pos h2]; rfl
  rw [List.drop_eq_getElem_cons (by rw [bts_len]; exact h), e]
  rfl
theorem bts_end {s : ByteArray} {i : Nat} (h : s.size ≤ i) : (bts s).drop i = [] := List.drop_of_length_le h
def allB (p : UInt8 → Bool) (l : List UInt8) : Bool := l.all p
theorem allB_at {p : UInt8 → Bool} {s : ByteArray} {i : Nat} (h : i < s.size) : allB p ((bts s).drop i) = (p (s.data.getD i 0) && allB p ((bts s).drop (i + 1))) := by rw [bts_at h]; rfl
theorem allB_end {p : UInt8 → Bool} {s : ByteArray} {i : Nat} (h : s.size ≤ i) : allB p ((bts s).drop i) = true := by rw [bts_end h]; rfl
def isName (s : ByteArray) : Bool := allB nameByte (bts s) && decide (1 ≤ s.size ∧ s.size ≤ 8)
def fIsName : Fct := ⟨[.v (.el .str)], [.el .bool], fun (x_ : ByteArray × Unit) => x_.1.size ≤ 1000000000000000000, fun (x_ : ByteArray × Unit) => (isName x_.1, ())⟩
abbrev W_spec_IsName_fIsName_2 (s : ByteArray) : LInv := ⟨[⟨.s, 3, true, .el .int⟩], fun _ (x_ : Int × Unit) => 0 ≤ x_.1 ∧ x_.1 ≤ s.size ∧ allB nameByte ((bts s).drop x_.1.toNat) = allB nameByte (bts s), fun (x_ : Int × Unit) => s.size - x_.1.toNat⟩
theorem k112_108 : fIsName.ok Tryz.prog 112 := Fct.of (S := fIsName) (L := fun ⟨s, _⟩ => fun | 2 => some (W_spec_IsName_fIsName_2 s) | _ => none) (kp := [0,2,3,7,19,1000007,1000019]) E108ok Tryz.func112 (by kernel_rfl) (by kernel_rfl) (by
  rintro ⟨(s : ByteArray), _⟩ hp
  refine holds_of (X := lpx (W_spec_IsName_fIsName_2 s) ((0 : Int), ()) fun (y1 : Int × PUnit) bk1 =>
 .br (decide (y1.fst < (↑s.size : Int)))
  (.ob ((0 : Int) ≤ y1.fst ∧ y1.fst < (↑s.size : Int)) <|
   .br (decide ((↑(s.data.getD y1.fst.toNat (0 : UInt8)).toNat : Int) < (97 : Int)))
   (.leaf (mkR fIsName.rs (false, ())) [] [])
   (.ob ((0 : Int) ≤ y1.fst ∧ y1.fst < (↑s.size : Int)) <|
    .br (decide ((↑(s.data.getD y1.fst.toNat (0 : UInt8)).toNat : Int) > (122 : Int)))
    (.leaf (mkR fIsName.rs (false, ())) [] [])
    (.ob (Value.string s = Value.string s) <|
     .ob (bk1 (IntKind.i64.wrap (y1.fst + (1 : Int)), ())) <|
     .ok)))
  (.ob (fInRange.pre ((↑s.size : Int), (1 : Int), (8 : Int), ())) <|
   .lt (Bool × PUnit) (fInRange.fn ((↑s.size : Int), (1 : Int), (8 : Int), ())) fun z2 =>
   .leaf (mkR fIsName.rs (z2.fst, ())) [] [])) (by kernel_rfl) ?_
  refine lpx_i ?_ fun (y1 : Int × PUnit) i1 => br_i (fun h2 => ob_i ?_ fun o3 => br_i (fun h4 => Fct.leafY ?_) (fun h4 => ob_i ?_ fun o5 => br_i (fun h6 => Fct.leafY ?_) (fun h6 => ob_i rfl fun _ => ob_i ?_ fun o7 => trivial))) (fun h2 => ob_i trivial fun _ => lt_i (Fct.leafY ?_))
  all_goals try simp only [std1, ne_eq] at *
  all_goals try simp only [W_spec_IsName_fIsName_2, fInRange, fIsName, etaS, std1, std2, Nat.reduceAdd, ne_eq, isName, nameByte, fInRange, inRange, allB_at, allB_end] at *
  all_goals try simp (disch := omega) only [wrapId', toNat1] at *
  all_goals try simp (disch := omega) only [if_pos, if_neg]
  all_goals first | trivial | omega | grind [wrapId', toNat1, good_len, maxLen, isName, nameByte, fInRange, inRange, allB_at, allB_end])
def E109 : D.Env := E108.add 112 fIsName
theorem E109ok : EOk Tryz.prog E109 := E108ok.add k112_108
abbrev W_impl_IsName_fIsName_2 (s : ByteArray) : LInv := ⟨[⟨.s, 3, true, .el .int⟩], fun _ (x_ : Int × Unit) => 0 ≤ x_.1 ∧ x_.1 ≤ s.size ∧ allB nameByte ((bts s).drop x_.1.toNat) = allB nameByte (bts s), fun (x_ : Int × Unit) => s.size - x_.1.toNat⟩
theorem k123_109 : fIsName.ok Tryz.prog 123 := Fct.of (S := fIsName) (L := fun ⟨s, _⟩ => fun | 2 => some (W_impl_IsName_fIsName_2 s) | _ => none) (kp := [0,2,3,7,19,1000007,1000019]) E109ok Tryz.func123 (by kernel_rfl) (by kernel_rfl) (by
  rintro ⟨(s : ByteArray), _⟩ hp
  refine holds_of (X := lpx (W_impl_IsName_fIsName_2 s) ((0 : Int), ()) fun (y1 : Int × PUnit) bk1 =>
 .br (decide (y1.fst < (↑s.size : Int)))
  (.ob ((0 : Int) ≤ y1.fst ∧ y1.fst < (↑s.size : Int)) <|
   .br (decide ((↑(s.data.getD y1.fst.toNat (0 : UInt8)).toNat : Int) < (97 : Int)))
   (.leaf (mkR fIsName.rs (false, ())) [] [])
   (.ob ((0 : Int) ≤ y1.fst ∧ y1.fst < (↑s.size : Int)) <|
    .br (decide ((↑(s.data.getD y1.fst.toNat (0 : UInt8)).toNat : Int) > (122 : Int)))
    (.leaf (mkR fIsName.rs (false, ())) [] [])
    (.ob (Value.string s = Value.string s) <|
     .ob (bk1 (IntKind.i64.wrap (y1.fst + (1 : Int)), ())) <|
     .ok)))
  (.ob (fInRange.pre ((↑s.size : Int), (1 : Int), (8 : Int), ())) <|
   .lt (Bool × PUnit) (fInRange.fn ((↑s.size : Int), (1 : Int), (8 : Int), ())) fun z2 =>
   .leaf (mkR fIsName.rs (z2.fst, ())) [] [])) (by kernel_rfl) ?_
  refine lpx_i ?_ fun (y1 : Int × PUnit) i1 => br_i (fun h2 => ob_i ?_ fun o3 => br_i (fun h4 => Fct.leafY ?_) (fun h4 => ob_i ?_ fun o5 => br_i (fun h6 => Fct.leafY ?_) (fun h6 => ob_i rfl fun _ => ob_i ?_ fun o7 => trivial))) (fun h2 => ob_i trivial fun _ => lt_i (Fct.leafY ?_))
  all_goals try simp only [std1, ne_eq] at *
  all_goals try simp only [W_impl_IsName_fIsName_2, fInRange, fIsName, etaS, std1, std2, Nat.reduceAdd, ne_eq, isName, nameByte, fInRange, inRange, allB_at, allB_end] at *
  all_goals try simp (disch := omega) only [wrapId', toNat1] at *
  all_goals try simp (disch := omega) only [if_pos, if_neg]
  all_goals first | trivial | omega | grind [wrapId', toNat1, good_len, maxLen, isName, nameByte, fInRange, inRange, allB_at, allB_end])
def E110 : D.Env := E109.add 123 fIsName
theorem E110ok : EOk Tryz.prog E110 := E109ok.add k123_109
def valByte (b : UInt8) : Bool := (97 ≤ b.toNat && b.toNat ≤ 122) || (48 ≤ b.toNat && b.toNat ≤ 57) || b.toNat == 47
def isValue (s : ByteArray) : Bool := allB valByte (bts s) && decide (1 ≤ s.size ∧ s.size ≤ 20)
def fIsValue : Fct := ⟨[.v (.el .str)], [.el .bool], fun (x_ : ByteArray × Unit) => x_.1.size ≤ 1000000000000000000, fun (x_ : ByteArray × Unit) => (isValue x_.1, ())⟩
abbrev W_spec_IsValue_fIsValue_2 (s : ByteArray) : LInv := ⟨[⟨.s, 3, true, .el .int⟩], fun _ (x_ : Int × Unit) => 0 ≤ x_.1 ∧ x_.1 ≤ s.size ∧ allB valByte ((bts s).drop x_.1.toNat) = allB valByte (bts s), fun (x_ : Int × Unit) => s.size - x_.1.toNat⟩
theorem k182_110 : fIsValue.ok Tryz.prog 182 := Fct.of (S := fIsValue) (L := fun ⟨s, _⟩ => fun | 2 => some (W_spec_IsValue_fIsValue_2 s) | _ => none) (kp := [0,2,3,7,37,1000007,1000037]) E110ok Tryz.func182 (by kernel_rfl) (by kernel_rfl) (by
  rintro ⟨(s : ByteArray), _⟩ hp
  refine holds_of (X := lpx (W_spec_IsValue_fIsValue_2 s) ((0 : Int), ()) fun (y1 : Int × PUnit) bk1 =>
 .br (decide (y1.fst < (↑s.size : Int)))
  (.ob ((0 : Int) ≤ y1.fst ∧ y1.fst < (↑s.size : Int)) <|
   .br (decide ((↑(s.data.getD y1.fst.toNat (0 : UInt8)).toNat : Int) < (97 : Int)))
   (.ob ((0 : Int) ≤ y1.fst ∧ y1.fst < (↑s.size : Int)) <|
    .br (decide ((↑(s.data.getD y1.fst.toNat (0 : UInt8)).toNat : Int) < (48 : Int)))
    (.ob ((0 : Int) ≤ y1.fst ∧ y1.fst < (↑s.size : Int)) <|
     .br ((↑(s.data.getD y1.fst.toNat (0 : UInt8)).toNat : Int) != (47 : Int))
     (.leaf (mkR fIsValue.rs (false, ())) [] [])
     (.ob (Value.string s = Value.string s) <|
      .ob (bk1 (IntKind.i64.wrap (y1.fst + (1 : Int)), ())) <|
      .ok))
    (.ob ((0 : Int) ≤ y1.fst ∧ y1.fst < (↑s.size : Int)) <|
     .br (decide ((↑(s.data.getD y1.fst.toNat (0 : UInt8)).toNat : Int) > (57 : Int)))
     (.ob ((0 : Int) ≤ y1.fst ∧ y1.fst < (↑s.size : Int)) <|
      .br ((↑(s.data.getD y1.fst.toNat (0 : UInt8)).toNat : Int) != (47 : Int))
      (.leaf (mkR fIsValue.rs (false, ())) [] [])
      (.ob (Value.string s = Value.string s) <|
       .ob (bk1 (IntKind.i64.wrap (y1.fst + (1 : Int)), ())) <|
       .ok))
     (.ob (Value.string s = Value.string s) <|
      .ob (bk1 (IntKind.i64.wrap (y1.fst + (1 : Int)), ())) <|
      .ok)))
   (.ob ((0 : Int) ≤ y1.fst ∧ y1.fst < (↑s.size : Int)) <|
    .br (decide ((↑(s.data.getD y1.fst.toNat (0 : UInt8)).toNat : Int) > (122 : Int)))
    (.ob ((0 : Int) ≤ y1.fst ∧ y1.fst < (↑s.size : Int)) <|
     .br (decide ((↑(s.data.getD y1.fst.toNat (0 : UInt8)).toNat : Int) < (48 : Int)))
     (.ob ((0 : Int) ≤ y1.fst ∧ y1.fst < (↑s.size : Int)) <|
      .br ((↑(s.data.getD y1.fst.toNat (0 : UInt8)).toNat : Int) != (47 : Int))
      (.leaf (mkR fIsValue.rs (false, ())) [] [])
      (.ob (Value.string s = Value.string s) <|
       .ob (bk1 (IntKind.i64.wrap (y1.fst + (1 : Int)), ())) <|
       .ok))
     (.ob ((0 : Int) ≤ y1.fst ∧ y1.fst < (↑s.size : Int)) <|
      .br (decide ((↑(s.data.getD y1.fst.toNat (0 : UInt8)).toNat : Int) > (57 : Int)))
      (.ob ((0 : Int) ≤ y1.fst ∧ y1.fst < (↑s.size : Int)) <|
       .br ((↑(s.data.getD y1.fst.toNat (0 : UInt8)).toNat : Int) != (47 : Int))
       (.leaf (mkR fIsValue.rs (false, ())) [] [])
       (.ob (Value.string s = Value.string s) <|
        .ob (bk1 (IntKind.i64.wrap (y1.fst + (1 : Int)), ())) <|
        .ok))
      (.ob (Value.string s = Value.string s) <|
       .ob (bk1 (IntKind.i64.wrap (y1.fst + (1 : Int)), ())) <|
       .ok)))
    (.ob (Value.string s = Value.string s) <|
     .ob (bk1 (IntKind.i64.wrap (y1.fst + (1 : Int)), ())) <|
     .ok)))
  (.ob (fInRange.pre ((↑s.size : Int), (1 : Int), (20 : Int), ())) <|
   .lt (Bool × PUnit) (fInRange.fn ((↑s.size : Int), (1 : Int), (20 : Int), ())) fun z2 =>
   .leaf (mkR fIsValue.rs (z2.fst, ())) [] [])) (by kernel_rfl) ?_
  refine lpx_i ?_ fun (y1 : Int × PUnit) i1 => br_i (fun h2 => ob_i ?_ fun o3 => br_i (fun h4 => ob_i ?_ fun o5 => br_i (fun h6 => ob_i ?_ fun o7 => br_i (fun h8 => Fct.leafY ?_) (fun h8 => ob_i rfl fun _ => ob_i ?_ fun o9 => trivial)) (fun h6 => ob_i ?_ fun o10 => br_i (fun h11 => ob_i ?_ fun o12 => br_i (fun h13 => Fct.leafY ?_) (fun h13 => ob_i rfl fun _ => ob_i ?_ fun o14 => trivial)) (fun h11 => ob_i rfl fun _ => ob_i ?_ fun o15 => trivial))) (fun h4 => ob_i ?_ fun o16 => br_i (fun h17 => ob_i ?_ fun o18 => br_i (fun h19 => ob_i ?_ fun o20 => br_i (fun h21 => Fct.leafY ?_) (fun h21 => ob_i rfl fun _ => ob_i ?_ fun o22 => trivial)) (fun h19 => ob_i ?_ fun o23 => br_i (fun h24 => ob_i ?_ fun o25 => br_i (fun h26 => Fct.leafY ?_) (fun h26 => ob_i rfl fun _ => ob_i ?_ fun o27 => trivial)) (fun h24 => ob_i rfl fun _ => ob_i ?_ fun o28 => trivial))) (fun h17 => ob_i rfl fun _ => ob_i ?_ fun o29 => trivial))) (fun h2 => ob_i trivial fun _ => lt_i (Fct.leafY ?_))
  all_goals try simp only [std1, ne_eq] at *
  all_goals try simp only [W_spec_IsValue_fIsValue_2, fInRange, fIsValue, etaS, std1, std2, Nat.reduceAdd, ne_eq, isValue, valByte, fInRange, inRange, allB_at, allB_end] at *
  all_goals try simp (disch := omega) only [wrapId', toNat1] at *
  all_goals try simp (disch := omega) only [if_pos, if_neg]
  all_goals first | trivial | omega | grind [wrapId', toNat1, good_len, maxLen, isValue, valByte, fInRange, inRange, allB_at, allB_end])
def E111 : D.Env := E110.add 182 fIsValue
theorem E111ok : EOk Tryz.prog E111 := E110ok.add k182_110
abbrev W_impl_IsValue_fIsValue_2 (s : ByteArray) : LInv := ⟨[⟨.s, 3, true, .el .int⟩], fun _ (x_ : Int × Unit) => 0 ≤ x_.1 ∧ x_.1 ≤ s.size ∧ allB valByte ((bts s).drop x_.1.toNat) = allB valByte (bts s), fun (x_ : Int × Unit) => s.size - x_.1.toNat⟩
theorem k189_111 : fIsValue.ok Tryz.prog 189 := Fct.of (S := fIsValue) (L := fun ⟨s, _⟩ => fun | 2 => some (W_impl_IsValue_fIsValue_2 s) | _ => none) (kp := [0,2,3,7,38,1000007,1000038]) E111ok Tryz.func189 (by kernel_rfl) (by kernel_rfl) (by
  rintro ⟨(s : ByteArray), _⟩ hp
  refine holds_of (X := lpx (W_impl_IsValue_fIsValue_2 s) ((0 : Int), ()) fun (y1 : Int × PUnit) bk1 =>
 .br (decide (y1.fst < (↑s.size : Int)))
  (.ob ((0 : Int) ≤ y1.fst ∧ y1.fst < (↑s.size : Int)) <|
   .br (decide ((↑(s.data.getD y1.fst.toNat (0 : UInt8)).toNat : Int) ≥ (97 : Int)))
   (.ob ((0 : Int) ≤ y1.fst ∧ y1.fst < (↑s.size : Int)) <|
    .br (decide ((↑(s.data.getD y1.fst.toNat (0 : UInt8)).toNat : Int) ≤ (122 : Int)))
    (.br (!true)
     (.leaf (mkR fIsValue.rs (false, ())) [] [])
     (.ob (Value.string s = Value.string s) <|
      .ob (bk1 (IntKind.i64.wrap (y1.fst + (1 : Int)), ())) <|
      .ok))
    (.ob ((0 : Int) ≤ y1.fst ∧ y1.fst < (↑s.size : Int)) <|
     .br (decide ((↑(s.data.getD y1.fst.toNat (0 : UInt8)).toNat : Int) ≥ (48 : Int)))
     (.ob ((0 : Int) ≤ y1.fst ∧ y1.fst < (↑s.size : Int)) <|
      .br (decide ((↑(s.data.getD y1.fst.toNat (0 : UInt8)).toNat : Int) ≤ (57 : Int)))
      (.br (!true)
       (.leaf (mkR fIsValue.rs (false, ())) [] [])
       (.ob (Value.string s = Value.string s) <|
        .ob (bk1 (IntKind.i64.wrap (y1.fst + (1 : Int)), ())) <|
        .ok))
      (.ob ((0 : Int) ≤ y1.fst ∧ y1.fst < (↑s.size : Int)) <|
       .br (!(↑(s.data.getD y1.fst.toNat (0 : UInt8)).toNat : Int) == (47 : Int))
       (.leaf (mkR fIsValue.rs (false, ())) [] [])
       (.ob (Value.string s = Value.string s) <|
        .ob (bk1 (IntKind.i64.wrap (y1.fst + (1 : Int)), ())) <|
        .ok)))
     (.ob ((0 : Int) ≤ y1.fst ∧ y1.fst < (↑s.size : Int)) <|
      .br (!(↑(s.data.getD y1.fst.toNat (0 : UInt8)).toNat : Int) == (47 : Int))
      (.leaf (mkR fIsValue.rs (false, ())) [] [])
      (.ob (Value.string s = Value.string s) <|
       .ob (bk1 (IntKind.i64.wrap (y1.fst + (1 : Int)), ())) <|
       .ok))))
   (.ob ((0 : Int) ≤ y1.fst ∧ y1.fst < (↑s.size : Int)) <|
    .br (decide ((↑(s.data.getD y1.fst.toNat (0 : UInt8)).toNat : Int) ≥ (48 : Int)))
    (.ob ((0 : Int) ≤ y1.fst ∧ y1.fst < (↑s.size : Int)) <|
     .br (decide ((↑(s.data.getD y1.fst.toNat (0 : UInt8)).toNat : Int) ≤ (57 : Int)))
     (.br (!true)
      (.leaf (mkR fIsValue.rs (false, ())) [] [])
      (.ob (Value.string s = Value.string s) <|
       .ob (bk1 (IntKind.i64.wrap (y1.fst + (1 : Int)), ())) <|
       .ok))
     (.ob ((0 : Int) ≤ y1.fst ∧ y1.fst < (↑s.size : Int)) <|
      .br (!(↑(s.data.getD y1.fst.toNat (0 : UInt8)).toNat : Int) == (47 : Int))
      (.leaf (mkR fIsValue.rs (false, ())) [] [])
      (.ob (Value.string s = Value.string s) <|
       .ob (bk1 (IntKind.i64.wrap (y1.fst + (1 : Int)), ())) <|
       .ok)))
    (.ob ((0 : Int) ≤ y1.fst ∧ y1.fst < (↑s.size : Int)) <|
     .br (!(↑(s.data.getD y1.fst.toNat (0 : UInt8)).toNat : Int) == (47 : Int))
     (.leaf (mkR fIsValue.rs (false, ())) [] [])
     (.ob (Value.string s = Value.string s) <|
      .ob (bk1 (IntKind.i64.wrap (y1.fst + (1 : Int)), ())) <|
      .ok))))
  (.ob (fInRange.pre ((↑s.size : Int), (1 : Int), (20 : Int), ())) <|
   .lt (Bool × PUnit) (fInRange.fn ((↑s.size : Int), (1 : Int), (20 : Int), ())) fun z2 =>
   .leaf (mkR fIsValue.rs (z2.fst, ())) [] [])) (by kernel_rfl) ?_
  refine lpx_i ?_ fun (y1 : Int × PUnit) i1 => br_i (fun h2 => ob_i ?_ fun o3 => br_i (fun h4 => ob_i ?_ fun o5 => br_i (fun h6 => br_i (fun h7 => Fct.leafY ?_) (fun h7 => ob_i rfl fun _ => ob_i ?_ fun o8 => trivial)) (fun h6 => ob_i ?_ fun o9 => br_i (fun h10 => ob_i ?_ fun o11 => br_i (fun h12 => br_i (fun h13 => Fct.leafY ?_) (fun h13 => ob_i rfl fun _ => ob_i ?_ fun o14 => trivial)) (fun h12 => ob_i ?_ fun o15 => br_i (fun h16 => Fct.leafY ?_) (fun h16 => ob_i rfl fun _ => ob_i ?_ fun o17 => trivial))) (fun h10 => ob_i ?_ fun o18 => br_i (fun h19 => Fct.leafY ?_) (fun h19 => ob_i rfl fun _ => ob_i ?_ fun o20 => trivial)))) (fun h4 => ob_i ?_ fun o21 => br_i (fun h22 => ob_i ?_ fun o23 => br_i (fun h24 => br_i (fun h25 => Fct.leafY ?_) (fun h25 => ob_i rfl fun _ => ob_i ?_ fun o26 => trivial)) (fun h24 => ob_i ?_ fun o27 => br_i (fun h28 => Fct.leafY ?_) (fun h28 => ob_i rfl fun _ => ob_i ?_ fun o29 => trivial))) (fun h22 => ob_i ?_ fun o30 => br_i (fun h31 => Fct.leafY ?_) (fun h31 => ob_i rfl fun _ => ob_i ?_ fun o32 => trivial)))) (fun h2 => ob_i trivial fun _ => lt_i (Fct.leafY ?_))
  all_goals try simp only [std1, ne_eq] at *
  all_goals try simp only [W_impl_IsValue_fIsValue_2, fInRange, fIsValue, etaS, std1, std2, Nat.reduceAdd, ne_eq, isValue, valByte, fInRange, inRange, allB_at, allB_end] at *
  all_goals try simp (disch := omega) only [wrapId', toNat1] at *
  all_goals try simp (disch := omega) only [if_pos, if_neg]
  all_goals first | trivial | omega | grind [wrapId', toNat1, good_len, maxLen, isValue, valByte, fInRange, inRange, allB_at, allB_end])
def E112 : D.Env := E111.add 189 fIsValue
theorem E112ok : EOk Tryz.prog E112 := E111ok.add k189_111
def fIsAddr : Fct := ⟨[.v (.el .addr)], [.el .bool], fun (x_ : SAddr × Unit) => x_.1.host.size ≤ 1000000000000000000 ∧ x_.1.path.size ≤ 1000000000000000000, fun (x_ : SAddr × Unit) => (isName x_.1.host && isName x_.1.path, ())⟩
theorem k53_112 : fIsAddr.ok Tryz.prog 53 := Fct.of (S := fIsAddr) (L := fun _ _ => none) (kp := [1,2]) E112ok Tryz.func53 (by kernel_rfl) (by kernel_rfl) (by
  rintro ⟨(a : SAddr), _⟩ hp
  refine holds_of (X := .ob (fIsName.pre (a.host, ())) <|
 .lt (Bool × PUnit) (fIsName.fn (a.host, ())) fun z2 =>
 .br (z2.fst)
  (.ob (fIsName.pre (a.path, ())) <|
   .lt (Bool × PUnit) (fIsName.fn (a.path, ())) fun z3 =>
   .leaf (mkR fIsAddr.rs (z3.fst, ())) [] [])
  (.leaf (mkR fIsAddr.rs (false, ())) [] [])) (by kernel_rfl) ?_
  refine ob_i ?_ fun o1 => lt_i (br_i (fun h2 => ob_i ?_ fun o3 => lt_i (Fct.leafY ?_)) (fun h2 => Fct.leafY ?_))
  all_goals try simp only [std1, ne_eq] at *
  all_goals try simp only [fIsAddr, fIsName, etaS, std1, std2, Nat.reduceAdd, ne_eq, fIsName] at *
  all_goals try simp (disch := omega) only [wrapId', toNat1] at *
  all_goals try simp (disch := omega) only [if_pos, if_neg]
  all_goals first | trivial | omega | grind [wrapId', toNat1, drop_cons, drop_end, good_len, maxLen, fIsName])
def E113 : D.Env := E112.add 53 fIsAddr
theorem E113ok : EOk Tryz.prog E113 := E112ok.add k53_112
theorem k66_113 : fIsAddr.ok Tryz.prog 66 := Fct.of (S := fIsAddr) (L := fun _ _ => none) (kp := [1,2]) E113ok Tryz.func66 (by kernel_rfl) (by kernel_rfl) (by
  rintro ⟨(a : SAddr), _⟩ hp
  refine holds_of (X := .ob (fIsName.pre (a.host, ())) <|
 .lt (Bool × PUnit) (fIsName.fn (a.host, ())) fun z2 =>
 .br (z2.fst)
  (.ob (fIsName.pre (a.path, ())) <|
   .lt (Bool × PUnit) (fIsName.fn (a.path, ())) fun z3 =>
   .leaf (mkR fIsAddr.rs (z3.fst, ())) [] [])
  (.leaf (mkR fIsAddr.rs (false, ())) [] [])) (by kernel_rfl) ?_
  refine ob_i ?_ fun o1 => lt_i (br_i (fun h2 => ob_i ?_ fun o3 => lt_i (Fct.leafY ?_)) (fun h2 => Fct.leafY ?_))
  all_goals try simp only [std1, ne_eq] at *
  all_goals try simp only [fIsAddr, fIsName, etaS, std1, std2, Nat.reduceAdd, ne_eq, fIsName] at *
  all_goals try simp (disch := omega) only [wrapId', toNat1] at *
  all_goals try simp (disch := omega) only [if_pos, if_neg]
  all_goals first | trivial | omega | grind [wrapId', toNat1, drop_cons, drop_end, good_len, maxLen, fIsName])
def E114 : D.Env := E113.add 66 fIsAddr
theorem E114ok : EOk Tryz.prog E114 := E113ok.add k66_113
theorem szStr_get {l : List ByteArray} {i : Nat} (h : i < l.length) : (l.getD i default).size + l.length ≤ szL szString l := by
  have := szL_get szString h
  simp only [szString] at this; omega
def fNames : Fct := ⟨[.v (.sl .str)], [.el .bool], fun (x_ : (List ByteArray) × Unit) => szL szString x_.1 ≤ 1099511627776, fun (x_ : (List ByteArray) × Unit) => (x_.1.all isName && decide (x_.1.length ≤ 4), ())⟩
abbrev W_spec_l9Names_fNames_2 (l : (List ByteArray)) : LInv := ⟨[⟨.s, 3, true, .el .int⟩], fun _ (x_ : Int × Unit) => 0 ≤ x_.1 ∧ x_.1 ≤ l.length ∧ (l.drop x_.1.toNat).all isName = l.all isName, fun (x_ : Int × Unit) => l.length - x_.1.toNat⟩
theorem k181_114 : fNames.ok Tryz.prog 181 := Fct.of (S := fNames) (L := fun ⟨l, _⟩ => fun | 2 => some (W_spec_l9Names_fNames_2 l) | _ => none) (kp := [0,2,3,7,15,1000007,1000015]) E114ok Tryz.func181 (by kernel_rfl) (by kernel_rfl) (by
  rintro ⟨(l : List ByteArray), _⟩ hp
  refine holds_of (X := lpx (W_spec_l9Names_fNames_2 l) ((0 : Int), ()) fun (y1 : Int × PUnit) bk1 =>
 .br (decide (y1.fst < (↑l.length : Int)))
  (.ob ((0 : Int) ≤ y1.fst ∧ y1.fst < (↑l.length : Int)) <|
   .ob (fIsName.pre (l.getD y1.fst.toNat default, ())) <|
   .lt (Bool × PUnit) (fIsName.fn (l.getD y1.fst.toNat default, ())) fun z2 =>
   .br (!z2.fst)
    (.leaf (mkR fNames.rs (false, ())) [] [])
    (.ob (l = l) <|
     .ob (bk1 (IntKind.i64.wrap (y1.fst + (1 : Int)), ())) <|
     .ok))
  (.leaf (mkR fNames.rs (decide ((↑l.length : Int) ≤ (4 : Int)), ())) [] [])) (by kernel_rfl) ?_
  refine lpx_i ?_ fun (y1 : Int × PUnit) i1 => br_i (fun h2 => ob_i ?_ fun o3 => ob_i ?_ fun o4 => lt_i (br_i (fun h5 => Fct.leafY ?_) (fun h5 => ob_i rfl fun _ => ob_i ?_ fun o6 => trivial))) (fun h2 => Fct.leafY ?_)
  all_goals have hl := szL_len szString l
  all_goals have hg : ∀ i, i < l.length → (l.getD i default).size ≤ 1000000000000000000 := fun i h => by have := szStr_get h; have hp2 : szL szString l ≤ 1099511627776 := hp; omega
  all_goals try simp only [std1, ne_eq] at *
  all_goals try simp only [W_spec_l9Names_fNames_2, fIsName, fNames, etaS, std1, std2, Nat.reduceAdd, ne_eq, fIsName] at *
  all_goals try simp (disch := omega) only [wrapId', toNat1] at *
  all_goals try simp (disch := omega) only [if_pos, if_neg]
  all_goals first | trivial | omega | grind [wrapId', toNat1, drop_cons, drop_end, good_len, maxLen, fIsName])
def E115 : D.Env := E114.add 181 fNames
theorem E115ok : EOk Tryz.prog E115 := E114ok.add k181_114
def fAreHosts1 : Fct := ⟨[.v (.el .str)], [.el .bool], fun (x_ : ByteArray × Unit) => x_.1.size ≤ 1000000000000000000, fun (x_ : ByteArray × Unit) => (!isName x_.1, ())⟩
theorem k205_115 : fAreHosts1.ok Tryz.prog 205 := Fct.of (S := fAreHosts1) (L := fun _ _ => none) (kp := [0,2]) E115ok Tryz.func205 (by kernel_rfl) (by kernel_rfl) (by
  rintro ⟨(s : ByteArray), _⟩ hp
  refine holds_of (X := .ob (fIsName.pre (s, ())) <|
 .lt (Bool × PUnit) (fIsName.fn (s, ())) fun z2 =>
 .leaf (mkR fAreHosts1.rs (!z2.fst, ())) [] []) (by kernel_rfl) ?_
  refine ob_i ?_ fun o1 => lt_i (Fct.leafY ?_)
  all_goals try simp only [std1, ne_eq] at *
  all_goals try simp only [fAreHosts1, fIsName, etaS, std1, std2, Nat.reduceAdd, ne_eq, fIsName] at *
  all_goals try simp (disch := omega) only [wrapId', toNat1] at *
  all_goals try simp (disch := omega) only [if_pos, if_neg]
  all_goals first | trivial | omega | grind [wrapId', toNat1, drop_cons, drop_end, good_len, maxLen, fIsName])
def E116 : D.Env := E115.add 205 fAreHosts1
theorem E116ok : EOk Tryz.prog E116 := E115ok.add k205_115
def fIndexFunc_str_impl_areHosts_1 : Fct := ⟨[aL .str, .c 205 []], [rI], fun x => x.1.length ≤ 1000000000000000000 ∧ ∀ i, i < x.1.length → fAreHosts1.pre (x.1.getD i default, x.2.1), fun x => (fidx (fun c => (fAreHosts1.fn (c, x.2.1)).1) x.1 0, ())⟩
abbrev W_slices_IndexFunc_string_string_fIndexFunc_str_impl_areHosts_1_2 (l : (List ByteArray)) (u : (Unit)) : LInv := ⟨[⟨.s, 8, true, .el .int⟩], fun _ (x_ : Int × Unit) => 0 ≤ x_.1 ∧ x_.1 ≤ l.length ∧ fidx (fun c => (fAreHosts1.fn (c, u)).1) l 0 = fidx (fun c => (fAreHosts1.fn (c, u)).1) (l.drop x_.1.toNat) x_.1, fun (x_ : Int × Unit) => l.length - x_.1.toNat⟩
theorem k214_116 : fIndexFunc_str_impl_areHosts_1.ok Tryz.prog 214 := Fct.of (S := fIndexFunc_str_impl_areHosts_1) (L := fun ⟨l, u, _⟩ => fun | 2 => some (W_slices_IndexFunc_string_string_fIndexFunc_str_impl_areHosts_1_2 l u) | _ => none) (kp := [0,1,4,5,7,8,9,16,1000009,1000016]) E116ok Tryz.func214 (by kernel_rfl) (by kernel_rfl) (by
  rintro ⟨(l : List ByteArray), (u : PUnit), _⟩ hp
  refine holds_of (X := lpx (W_slices_IndexFunc_string_string_fIndexFunc_str_impl_areHosts_1_2 l u) ((0 : Int), ()) fun (y1 : Int × PUnit) bk1 =>
 .br (decide (y1.fst < (↑l.length : Int)))
  (.ob ((0 : Int) ≤ y1.fst ∧ y1.fst < (↑l.length : Int)) <|
   .ob (fAreHosts1.pre (l.getD y1.fst.toNat default, ())) <|
   .lt (Bool × PUnit) (fAreHosts1.fn (l.getD y1.fst.toNat default, ())) fun z2 =>
   .br (z2.fst)
    (.leaf (mkR fIndexFunc_str_impl_areHosts_1.rs (y1.fst, ())) [] [])
    (.ob (l = l) <|
     .ob (Value.int IntKind.i64 (↑l.length : Int) = Value.int IntKind.i64 (↑l.length : Int)) <|
     .ob (bk1 (IntKind.i64.wrap (y1.fst + (1 : Int)), ())) <|
     .ok))
  (.leaf (mkR fIndexFunc_str_impl_areHosts_1.rs ((-1 : Int), ())) [] [])) (by kernel_rfl) ?_
  refine lpx_i ?_ fun (y1 : Int × PUnit) i1 => br_i (fun h2 => ob_i ?_ fun o3 => ob_i ?_ fun o4 => lt_i (br_i (fun h5 => Fct.leafY ?_) (fun h5 => ob_i rfl fun _ => ob_i rfl fun _ => ob_i ?_ fun o6 => trivial))) (fun h2 => Fct.leafY ?_)
  all_goals try simp only [std1, ne_eq] at *
  all_goals try simp only [W_slices_IndexFunc_string_string_fIndexFunc_str_impl_areHosts_1_2, fAreHosts1, fIndexFunc_str_impl_areHosts_1, etaS, std1, std2, Nat.reduceAdd, ne_eq] at *
  all_goals try have hp2 := hp.2
  all_goals try have hp1 := hp.1
  all_goals first | trivial | omega | exact hp2 _ (by omega) | grind [wrapId', toNat1, drop_cons, drop_end, good_len, maxLen, fidx])
def E117 : D.Env := E116.add 214 fIndexFunc_str_impl_areHosts_1
theorem E117ok : EOk Tryz.prog E117 := E116ok.add k214_116
def fContainsFunc_str_impl_areHosts_1 : Fct := ⟨[aL .str, .c 205 []], [rB], fun x => x.1.length ≤ 1000000000000000000 ∧ ∀ i, i < x.1.length → fAreHosts1.pre (x.1.getD i default, x.2.1), fun x => (x.1.any (fun c => (fAreHosts1.fn (c, x.2.1)).1), ())⟩
theorem k204_117 : fContainsFunc_str_impl_areHosts_1.ok Tryz.prog 204 := Fct.of (S := fContainsFunc_str_impl_areHosts_1) (L := fun _ _ => none) (kp := [0,1,4]) E117ok Tryz.func204 (by kernel_rfl) (by kernel_rfl) (by
  rintro ⟨(l : List ByteArray), (u : PUnit), _⟩ hp
  refine holds_of (X := .ob (fIndexFunc_str_impl_areHosts_1.pre (l, (), ())) <|
 .lt (Int × PUnit) (fIndexFunc_str_impl_areHosts_1.fn (l, (), ())) fun z2 =>
 .leaf (mkR fContainsFunc_str_impl_areHosts_1.rs (decide (z2.fst ≥ (0 : Int)), ())) [] []) (by kernel_rfl) ?_
  refine ob_i ?_ fun o1 => lt_i (Fct.leafY ?_)
  all_goals try simp only [std1, ne_eq] at *
  all_goals try simp only [fContainsFunc_str_impl_areHosts_1, fIndexFunc_str_impl_areHosts_1, etaS, std1, std2, Nat.reduceAdd, ne_eq] at *
  all_goals first | trivial | omega | exact hp | (rw [Bool.eq_iff_iff]; exact decide_eq_true_iff.trans (fidx_ge _ _ _ (by omega))))
def E118 : D.Env := E117.add 204 fContainsFunc_str_impl_areHosts_1
theorem E118ok : EOk Tryz.prog E118 := E117ok.add k204_117
theorem k188_118 : fNames.ok Tryz.prog 188 := Fct.of (S := fNames) (L := fun _ _ => none) (kp := [0,2]) E118ok Tryz.func188 (by kernel_rfl) (by kernel_rfl) (by
  rintro ⟨(l : List ByteArray), _⟩ hp
  refine holds_of (X := .br (decide ((↑(List.length l) : Int) ≤ (4 : Int)))
 (.ob (fContainsFunc_str_impl_areHosts_1.pre (l, (), ())) <|
  .lt (Bool × PUnit) (fContainsFunc_str_impl_areHosts_1.fn (l, (), ())) fun z2 =>
  .leaf (mkR fNames.rs (!z2.fst, ())) [] [])
 (.leaf (mkR fNames.rs (false, ())) [] [])) (by kernel_rfl) ?_
  refine br_i (fun h1 => ob_i ?_ fun o2 => lt_i (Fct.leafY ?_)) (fun h1 => Fct.leafY ?_)
  all_goals have hl := szL_len szString l
  all_goals have hg : ∀ i, i < l.length → (l.getD i default).size ≤ 1000000000000000000 := fun i h => by have := szStr_get h; have hp2 : szL szString l ≤ 1099511627776 := hp; omega
  all_goals have ha : (l.any fun c => !isName c) = !(l.all isName) := by simp [List.any_eq_not_all_not]
  all_goals try simp only [std1, ne_eq] at *
  all_goals try simp only [fContainsFunc_str_impl_areHosts_1, fNames, etaS, std1, std2, Nat.reduceAdd, ne_eq, fContainsFunc_str_impl_areHosts_1, fAreHosts1] at *
  all_goals try simp (disch := omega) only [wrapId', toNat1] at *
  all_goals try simp (disch := omega) only [if_pos, if_neg]
  all_goals first | trivial | omega | grind [wrapId', toNat1, drop_cons, drop_end, good_len, maxLen, fContainsFunc_str_impl_areHosts_1, fAreHosts1])
def E119 : D.Env := E118.add 188 fNames
theorem E119ok : EOk Tryz.prog E119 := E118ok.add k188_118
def isPolicy (p : SPolicy) : Bool := if p.set_ then p.scripts.all isName && decide (p.scripts.length ≤ 4) && (p.styles.all isName && decide (p.styles.length ≤ 4)) && (p.images.all isName && decide (p.images.length ≤ 4)) && (decide (p.nonce = ⟨#[]⟩) || isValue p.nonce) else decide (p.scripts.length = 0 ∧ p.styles.length = 0 ∧ p.images.length = 0 ∧ p.nonce = ⟨#[]⟩)
def fIsPolicy : Fct := ⟨[.v (.el .policy)], [.el .bool], fun (x_ : SPolicy × Unit) => szPolicy x_.1 ≤ 1099511627776, fun (x_ : SPolicy × Unit) => (isPolicy x_.1, ())⟩
theorem k153_119 : fIsPolicy.ok Tryz.prog 153 := Fct.of (S := fIsPolicy) (L := fun _ _ => none) (kp := [1,2,5,1000005]) E119ok Tryz.func153 (by kernel_rfl) (by kernel_rfl) (by
  rintro ⟨(p : SPolicy), _⟩ hp
  refine holds_of (X := .br (!p.set_)
 (.br ((↑p.scripts.length : Int) == (0 : Int))
  (.br ((↑p.styles.length : Int) == (0 : Int))
   (.br ((↑p.images.length : Int) == (0 : Int))
    (.leaf (mkR fIsPolicy.rs (p.nonce.toList == { data := #[] : ByteArray }.toList, ())) [] [])
    (.leaf (mkR fIsPolicy.rs (false, ())) [] []))
   (.leaf (mkR fIsPolicy.rs (false, ())) [] []))
  (.leaf (mkR fIsPolicy.rs (false, ())) [] []))
 (.ob (fNames.pre (p.scripts, ())) <|
  .lt (Bool × PUnit) (fNames.fn (p.scripts, ())) fun z2 =>
  .br (z2.fst)
   (.ob (fNames.pre (p.styles, ())) <|
    .lt (Bool × PUnit) (fNames.fn (p.styles, ())) fun z3 =>
    .br (z3.fst)
     (.ob (fNames.pre (p.images, ())) <|
      .lt (Bool × PUnit) (fNames.fn (p.images, ())) fun z4 =>
      .br (z4.fst)
       (.br (p.nonce.toList == { data := #[] : ByteArray }.toList)
        (.leaf (mkR fIsPolicy.rs (true, ())) [] [])
        (.ob (fIsValue.pre (p.nonce, ())) <|
         .lt (Bool × PUnit) (fIsValue.fn (p.nonce, ())) fun z5 =>
         .leaf (mkR fIsPolicy.rs (z5.fst, ())) [] []))
       (.leaf (mkR fIsPolicy.rs (false, ())) [] []))
     (.leaf (mkR fIsPolicy.rs (false, ())) [] []))
   (.leaf (mkR fIsPolicy.rs (false, ())) [] []))) (by kernel_rfl) ?_
  refine br_i (fun h1 => br_i (fun h2 => br_i (fun h3 => br_i (fun h4 => Fct.leafY ?_) (fun h4 => Fct.leafY ?_)) (fun h3 => Fct.leafY ?_)) (fun h2 => Fct.leafY ?_)) (fun h1 => ob_i ?_ fun o5 => lt_i (br_i (fun h6 => ob_i ?_ fun o7 => lt_i (br_i (fun h8 => ob_i ?_ fun o9 => lt_i (br_i (fun h10 => br_i (fun h11 => Fct.leafY ?_) (fun h11 => ob_i ?_ fun o12 => lt_i (Fct.leafY ?_))) (fun h10 => Fct.leafY ?_))) (fun h8 => Fct.leafY ?_))) (fun h6 => Fct.leafY ?_)))
  all_goals try simp only [std1, ne_eq] at *
  all_goals try simp only [fIsPolicy, fIsValue, fNames, etaS, std1, std2, Nat.reduceAdd, ne_eq, isPolicy, fNames, fIsValue, szPolicy] at *
  all_goals try simp (disch := omega) only [wrapId', toNat1] at *
  all_goals try simp (disch := omega) only [if_pos, if_neg]
  all_goals first | trivial | omega | grind [wrapId', toNat1, drop_cons, drop_end, good_len, maxLen, isPolicy, fNames, fIsValue, szPolicy])
def E120 : D.Env := E119.add 153 fIsPolicy
theorem E120ok : EOk Tryz.prog E120 := E119ok.add k153_119
theorem k165_120 : fIsPolicy.ok Tryz.prog 165 := Fct.of (S := fIsPolicy) (L := fun _ _ => none) (kp := [1,2,5,1000005]) E120ok Tryz.func165 (by kernel_rfl) (by kernel_rfl) (by
  rintro ⟨(p : SPolicy), _⟩ hp
  refine holds_of (X := .br (!p.set_)
 (.br ((↑p.scripts.length : Int) == (0 : Int))
  (.br ((↑p.styles.length : Int) == (0 : Int))
   (.br ((↑p.images.length : Int) == (0 : Int))
    (.leaf (mkR fIsPolicy.rs (p.nonce.toList == { data := #[] : ByteArray }.toList, ())) [] [])
    (.leaf (mkR fIsPolicy.rs (false, ())) [] []))
   (.leaf (mkR fIsPolicy.rs (false, ())) [] []))
  (.leaf (mkR fIsPolicy.rs (false, ())) [] []))
 (.ob (fNames.pre (p.scripts, ())) <|
  .lt (Bool × PUnit) (fNames.fn (p.scripts, ())) fun z2 =>
  .br (z2.fst)
   (.ob (fNames.pre (p.styles, ())) <|
    .lt (Bool × PUnit) (fNames.fn (p.styles, ())) fun z3 =>
    .br (z3.fst)
     (.ob (fNames.pre (p.images, ())) <|
      .lt (Bool × PUnit) (fNames.fn (p.images, ())) fun z4 =>
      .br (z4.fst)
       (.br (p.nonce.toList == { data := #[] : ByteArray }.toList)
        (.leaf (mkR fIsPolicy.rs (true, ())) [] [])
        (.ob (fIsValue.pre (p.nonce, ())) <|
         .lt (Bool × PUnit) (fIsValue.fn (p.nonce, ())) fun z5 =>
         .leaf (mkR fIsPolicy.rs (z5.fst, ())) [] []))
       (.leaf (mkR fIsPolicy.rs (false, ())) [] []))
     (.leaf (mkR fIsPolicy.rs (false, ())) [] []))
   (.leaf (mkR fIsPolicy.rs (false, ())) [] []))) (by kernel_rfl) ?_
  refine br_i (fun h1 => br_i (fun h2 => br_i (fun h3 => br_i (fun h4 => Fct.leafY ?_) (fun h4 => Fct.leafY ?_)) (fun h3 => Fct.leafY ?_)) (fun h2 => Fct.leafY ?_)) (fun h1 => ob_i ?_ fun o5 => lt_i (br_i (fun h6 => ob_i ?_ fun o7 => lt_i (br_i (fun h8 => ob_i ?_ fun o9 => lt_i (br_i (fun h10 => br_i (fun h11 => Fct.leafY ?_) (fun h11 => ob_i ?_ fun o12 => lt_i (Fct.leafY ?_))) (fun h10 => Fct.leafY ?_))) (fun h8 => Fct.leafY ?_))) (fun h6 => Fct.leafY ?_)))
  all_goals try simp only [std1, ne_eq] at *
  all_goals try simp only [fIsPolicy, fIsValue, fNames, etaS, std1, std2, Nat.reduceAdd, ne_eq, isPolicy, fNames, fIsValue, szPolicy] at *
  all_goals try simp (disch := omega) only [wrapId', toNat1] at *
  all_goals try simp (disch := omega) only [if_pos, if_neg]
  all_goals first | trivial | omega | grind [wrapId', toNat1, drop_cons, drop_end, good_len, maxLen, isPolicy, fNames, fIsValue, szPolicy])
def E121 : D.Env := E120.add 165 fIsPolicy
theorem E121ok : EOk Tryz.prog E121 := E120ok.add k165_120
def notFound : SResponse := ⟨404, 1, ⟨#[]⟩, 0, false, ⟨#[]⟩⟩
def fNotFound : Fct := ⟨[], [rE .response], fun _ => True, fun _ => (notFound, ())⟩
theorem k54_121 : fNotFound.ok Tryz.prog 54 := Fct.of (S := fNotFound) (L := fun _ _ => none) (kp := [0]) E121ok Tryz.func54 (by kernel_rfl) (by kernel_rfl) (by
  rintro ⟨_⟩ hp
  refine holds_of (X := .leaf (mkR fNotFound.rs (⟨(404 : Int), (1 : Int), { data := #[] : ByteArray }, (0 : Int), false, { data := #[] : ByteArray }⟩, ())) [] []) (by kernel_rfl) ?_
  refine Fct.leafY ?_
  all_goals try simp only [std1, ne_eq] at *
  all_goals try simp only [fNotFound, etaS, std1, std2, Nat.reduceAdd, ne_eq] at *
  all_goals first | trivial | omega | (simp_all; done) | (simp_all; omega) | grind)
def E122 : D.Env := E121.add 54 fNotFound
theorem E122ok : EOk Tryz.prog E122 := E121ok.add k54_121
theorem k67_122 : fNotFound.ok Tryz.prog 67 := Fct.of (S := fNotFound) (L := fun _ _ => none) (kp := [0]) E122ok Tryz.func67 (by kernel_rfl) (by kernel_rfl) (by
  rintro ⟨_⟩ hp
  refine holds_of (X := .leaf (mkR fNotFound.rs (⟨(404 : Int), (1 : Int), { data := #[] : ByteArray }, (0 : Int), false, { data := #[] : ByteArray }⟩, ())) [] []) (by kernel_rfl) ?_
  refine Fct.leafY ?_
  all_goals try simp only [std1, ne_eq] at *
  all_goals try simp only [fNotFound, etaS, std1, std2, Nat.reduceAdd, ne_eq] at *
  all_goals first | trivial | omega | (simp_all; done) | (simp_all; omega) | grind)
def E123 : D.Env := E122.add 67 fNotFound
theorem E123ok : EOk Tryz.prog E123 := E122ok.add k67_122
def fCopyServers : Fct := ⟨[.v (.sl .server)], [.sl .server], fun (x_ : (List SServer) × Unit) => szL szServer x_.1 ≤ 68719476736, fun (x_ : (List SServer) × Unit) => (x_.1, ())⟩
abbrev W_spec_l12Copy_fCopyServers_3 (l : (List SServer)) : LInv := ⟨[⟨.s, 3, true, .sl .server⟩, ⟨.s, 4, true, .el .int⟩], fun _ (x_ : (List SServer) × Int × Unit) => 0 ≤ x_.2.1 ∧ x_.2.1 ≤ l.length ∧ x_.1 = l.take x_.2.1.toNat, fun (x_ : (List SServer) × Int × Unit) => l.length - x_.2.1.toNat⟩
theorem k110_123 : fCopyServers.ok Tryz.prog 110 := Fct.of (S := fCopyServers) (L := fun ⟨l, _⟩ => fun | 3 => some (W_spec_l12Copy_fCopyServers_3 l) | _ => none) (kp := [0,2,3,4,9,1000009]) E123ok Tryz.func110 (by kernel_rfl) (by kernel_rfl) (by
  rintro ⟨(l : List SServer), _⟩ hp
  refine holds_of (X := lpx (W_spec_l12Copy_fCopyServers_3 l) ([], ((0 : Int), ())) fun (y1 : List SServer × Int × PUnit) bk1 =>
 .br (decide (y1.snd.fst < (↑l.length : Int)))
  (.ob ((0 : Int) ≤ y1.snd.fst ∧ y1.snd.fst < (↑l.length : Int)) <|
   .ob ((0 : Int) ≤ y1.snd.fst ∧ y1.snd.fst < (↑l.length : Int)) <|
   .ob (True) <|
   .ob (Room (l.getD y1.snd.fst.toNat default).files.length (80 : Nat)) <|
   .ob (Room (y1.fst.length + [l.getD y1.snd.fst.toNat default].length) (40 : Nat)) <|
   .ob (l = l) <|
   .ob (bk1 (y1.fst ++ [l.getD y1.snd.fst.toNat default], (IntKind.i64.wrap (y1.snd.fst + (1 : Int)), ()))) <|
   .ok)
  (.leaf (mkR fCopyServers.rs (y1.fst, ())) [] [])) (by kernel_rfl) ?_
  refine lpx_i ?_ fun (y1 : List SServer × Int × PUnit) i1 => br_i (fun h2 => ob_i ?_ fun o3 => ob_i ?_ fun o4 => ob_i trivial fun _ => ob_i ?_ fun o5 => ob_i ?_ fun o6 => ob_i rfl fun _ => ob_i ?_ fun o7 => trivial) (fun h2 => Fct.leafY ?_)
  all_goals have hl := szL_len szServer l
  all_goals have hg : ∀ i, i < l.length → (l.getD i default).files.length ≤ 68719476736 := fun i h => by have := szServer_get h; have hp2 : szL szServer l ≤ 68719476736 := hp; omega
  all_goals try simp only [std1, ne_eq] at *
  all_goals try simp only [W_spec_l12Copy_fCopyServers_3, fCopyServers, etaS, std1, std2, Nat.reduceAdd, ne_eq, take_succ, take_end] at *
  all_goals try simp (disch := omega) only [wrapId', toNat1] at *
  all_goals try simp (disch := omega) only [if_pos, if_neg]
  all_goals first | trivial | omega | grind [wrapId', toNat1, drop_cons, drop_end, good_len, maxLen, take_succ, take_end])
def E124 : D.Env := E123.add 110 fCopyServers
theorem E124ok : EOk Tryz.prog E124 := E123ok.add k110_123
abbrev W_impl_copyServers_fCopyServers_3 (l : (List SServer)) : LInv := ⟨[⟨.s, 3, true, .sl .server⟩, ⟨.s, 9, true, .el .int⟩], fun _ (x_ : (List SServer) × Int × Unit) => 0 ≤ x_.2.1 ∧ x_.2.1 ≤ l.length ∧ x_.1 = l.take x_.2.1.toNat, fun (x_ : (List SServer) × Int × Unit) => l.length - x_.2.1.toNat⟩
theorem k121_124 : fCopyServers.ok Tryz.prog 121 := Fct.of (S := fCopyServers) (L := fun ⟨l, _⟩ => fun | 3 => some (W_impl_copyServers_fCopyServers_3 l) | _ => none) (kp := [0,2,3,5,7,8,9,10,1000010]) E124ok Tryz.func121 (by kernel_rfl) (by kernel_rfl) (by
  rintro ⟨(l : List SServer), _⟩ hp
  refine holds_of (X := lpx (W_impl_copyServers_fCopyServers_3 l) ([], ((0 : Int), ())) fun (y1 : List SServer × Int × PUnit) bk1 =>
 .br (decide (y1.snd.fst < (↑l.length : Int)))
  (.ob ((0 : Int) ≤ y1.snd.fst ∧ y1.snd.fst < (↑l.length : Int)) <|
   .ob (True) <|
   .ob (Room (l.getD y1.snd.fst.toNat default).files.length (80 : Nat)) <|
   .ob (Room (y1.fst.length + [l.getD y1.snd.fst.toNat default].length) (40 : Nat)) <|
   .ob (l = l) <|
   .ob (l = l) <|
   .ob (Value.int IntKind.i64 (↑l.length : Int) = Value.int IntKind.i64 (↑l.length : Int)) <|
   .ob (bk1 (y1.fst ++ [l.getD y1.snd.fst.toNat default], (IntKind.i64.wrap (y1.snd.fst + (1 : Int)), ()))) <|
   .ok)
  (.leaf (mkR fCopyServers.rs (y1.fst, ())) [] [])) (by kernel_rfl) ?_
  refine lpx_i ?_ fun (y1 : List SServer × Int × PUnit) i1 => br_i (fun h2 => ob_i ?_ fun o3 => ob_i trivial fun _ => ob_i ?_ fun o4 => ob_i ?_ fun o5 => ob_i rfl fun _ => ob_i rfl fun _ => ob_i rfl fun _ => ob_i ?_ fun o6 => trivial) (fun h2 => Fct.leafY ?_)
  all_goals have hl := szL_len szServer l
  all_goals have hg : ∀ i, i < l.length → (l.getD i default).files.length ≤ 68719476736 := fun i h => by have := szServer_get h; have hp2 : szL szServer l ≤ 68719476736 := hp; omega
  all_goals try simp only [std1, ne_eq] at *
  all_goals try simp only [W_impl_copyServers_fCopyServers_3, fCopyServers, etaS, std1, std2, Nat.reduceAdd, ne_eq, take_succ, take_end] at *
  all_goals try simp (disch := omega) only [wrapId', toNat1] at *
  all_goals try simp (disch := omega) only [if_pos, if_neg]
  all_goals first | trivial | omega | grind [wrapId', toNat1, drop_cons, drop_end, good_len, maxLen, take_succ, take_end])
def E125 : D.Env := E124.add 121 fCopyServers
theorem E125ok : EOk Tryz.prog E125 := E124ok.add k121_124
def fCopyCache : Fct := ⟨[.v (.el .cache)], [.el .cache], fun (x_ : SCache × Unit) => szCache x_.1 ≤ 68719476736, fun (x_ : SCache × Unit) => (x_.1, ())⟩
theorem k111_125 : fCopyCache.ok Tryz.prog 111 := Fct.of (S := fCopyCache) (L := fun _ _ => none) (kp := [1,2]) E125ok Tryz.func111 (by kernel_rfl) (by kernel_rfl) (by
  rintro ⟨(c : SCache), _⟩ hp
  refine holds_of (X := .ob (True) <|
 .ob (Room ((0 : Nat) + c.entries.length) (120 : Nat)) <|
 .leaf (mkR fCopyCache.rs (⟨[] ++ c.entries⟩, ())) [] []) (by kernel_rfl) ?_
  refine ob_i trivial fun _ => ob_i ?_ fun o1 => Fct.leafY ?_
  all_goals have hl := szL_len szEntry c.entries
  all_goals try simp only [std1, ne_eq] at *
  all_goals try simp only [fCopyCache, etaS, std1, std2, Nat.reduceAdd, ne_eq, szCache] at *
  all_goals try simp (disch := omega) only [wrapId', toNat1] at *
  all_goals try simp (disch := omega) only [if_pos, if_neg]
  all_goals first | trivial | omega | grind [wrapId', toNat1, drop_cons, drop_end, good_len, maxLen, szCache])
def E126 : D.Env := E125.add 111 fCopyCache
theorem E126ok : EOk Tryz.prog E126 := E125ok.add k111_125
theorem k122_126 : fCopyCache.ok Tryz.prog 122 := Fct.of (S := fCopyCache) (L := fun _ _ => none) (kp := [1,2]) E126ok Tryz.func122 (by kernel_rfl) (by kernel_rfl) (by
  rintro ⟨(c : SCache), _⟩ hp
  refine holds_of (X := .ob (True) <|
 .ob (Room ((0 : Nat) + c.entries.length) (120 : Nat)) <|
 .leaf (mkR fCopyCache.rs (⟨[] ++ c.entries⟩, ())) [] []) (by kernel_rfl) ?_
  refine ob_i trivial fun _ => ob_i ?_ fun o1 => Fct.leafY ?_
  all_goals have hl := szL_len szEntry c.entries
  all_goals try simp only [std1, ne_eq] at *
  all_goals try simp only [fCopyCache, etaS, std1, std2, Nat.reduceAdd, ne_eq, szCache] at *
  all_goals try simp (disch := omega) only [wrapId', toNat1] at *
  all_goals try simp (disch := omega) only [if_pos, if_neg]
  all_goals first | trivial | omega | grind [wrapId', toNat1, drop_cons, drop_end, good_len, maxLen, szCache])
def E127 : D.Env := E126.add 122 fCopyCache
theorem E127ok : EOk Tryz.prog E127 := E126ok.add k122_126
def fCopyNet : Fct := ⟨[.v (.el .net)], [.el .net], fun (x_ : SNet × Unit) => szNet x_.1 ≤ 68719476736, fun (x_ : SNet × Unit) => (x_.1, ())⟩
theorem k52_127 : fCopyNet.ok Tryz.prog 52 := Fct.of (S := fCopyNet) (L := fun _ _ => none) (kp := [1,2]) E127ok Tryz.func52 (by kernel_rfl) (by kernel_rfl) (by
  rintro ⟨(n : SNet), _⟩ hp
  refine holds_of (X := .ob (fCopyServers.pre (n.servers, ())) <|
 .lt (List SServer × PUnit) (fCopyServers.fn (n.servers, ())) fun z2 =>
 .ob (fCopyCache.pre (n.cache, ())) <|
  .lt (SCache × PUnit) (fCopyCache.fn (n.cache, ())) fun z3 =>
  .ob (True) <|
   .ob (Room n.log.length (56 : Nat)) <|
   .leaf (mkR fCopyNet.rs (⟨z2.fst, z3.fst, n.log, n.now⟩, ())) [] []) (by kernel_rfl) ?_
  refine ob_i ?_ fun o1 => lt_i (ob_i ?_ fun o2 => lt_i (ob_i trivial fun _ => ob_i ?_ fun o3 => Fct.leafY ?_))
  all_goals have hl := szL_len szSent n.log
  all_goals try simp only [std1, ne_eq] at *
  all_goals try simp only [fCopyCache, fCopyNet, fCopyServers, etaS, std1, std2, Nat.reduceAdd, ne_eq, szNet, fCopyServers, fCopyCache] at *
  all_goals try simp (disch := omega) only [wrapId', toNat1] at *
  all_goals try simp (disch := omega) only [if_pos, if_neg]
  all_goals first | trivial | omega | grind [wrapId', toNat1, drop_cons, drop_end, good_len, maxLen, szNet, fCopyServers, fCopyCache])
def E128 : D.Env := E127.add 52 fCopyNet
theorem E128ok : EOk Tryz.prog E128 := E127ok.add k52_127
theorem k65_128 : fCopyNet.ok Tryz.prog 65 := Fct.of (S := fCopyNet) (L := fun _ _ => none) (kp := [1,2]) E128ok Tryz.func65 (by kernel_rfl) (by kernel_rfl) (by
  rintro ⟨(n : SNet), _⟩ hp
  refine holds_of (X := .ob (fCopyServers.pre (n.servers, ())) <|
 .lt (List SServer × PUnit) (fCopyServers.fn (n.servers, ())) fun z2 =>
 .ob (fCopyCache.pre (n.cache, ())) <|
  .lt (SCache × PUnit) (fCopyCache.fn (n.cache, ())) fun z3 =>
  .ob (True) <|
   .ob (Room n.log.length (56 : Nat)) <|
   .leaf (mkR fCopyNet.rs (⟨z2.fst, z3.fst, n.log, n.now⟩, ())) [] []) (by kernel_rfl) ?_
  refine ob_i ?_ fun o1 => lt_i (ob_i ?_ fun o2 => lt_i (ob_i trivial fun _ => ob_i ?_ fun o3 => Fct.leafY ?_))
  all_goals have hl := szL_len szSent n.log
  all_goals try simp only [std1, ne_eq] at *
  all_goals try simp only [fCopyCache, fCopyNet, fCopyServers, etaS, std1, std2, Nat.reduceAdd, ne_eq, szNet, fCopyServers, fCopyCache] at *
  all_goals try simp (disch := omega) only [wrapId', toNat1] at *
  all_goals try simp (disch := omega) only [if_pos, if_neg]
  all_goals first | trivial | omega | grind [wrapId', toNat1, drop_cons, drop_end, good_len, maxLen, szNet, fCopyServers, fCopyCache])
def E129 : D.Env := E128.add 65 fCopyNet
theorem E129ok : EOk Tryz.prog E129 := E128ok.add k65_128
def fServerAt : Fct := ⟨[.v (.sl .server), .v (.el .str)], [.el .int], fun (x_ : (List SServer) × ByteArray × Unit) => x_.1.length ≤ 1000000000000, fun (x_ : (List SServer) × ByteArray × Unit) => (fidx (fun s => decide (s.host = x_.2.1)) x_.1 0, ())⟩
abbrev W_spec_l12Server_fServerAt_2 (l : (List SServer)) (h : ByteArray) : LInv := ⟨[⟨.s, 5, true, .el .int⟩], fun _ (x_ : Int × Unit) => 0 ≤ x_.1 ∧ x_.1 ≤ l.length ∧ fidx (fun s => decide (s.host = h)) (l.drop x_.1.toNat) x_.1 = fidx (fun s => decide (s.host = h)) l 0, fun (x_ : Int × Unit) => l.length - x_.1.toNat⟩
theorem k113_129 : fServerAt.ok Tryz.prog 113 := Fct.of (S := fServerAt) (L := fun ⟨l, h, _⟩ => fun | 2 => some (W_spec_l12Server_fServerAt_2 l h) | _ => none) (kp := [0,1,4,5,9,18,1000009,1000018]) E129ok Tryz.func113 (by kernel_rfl) (by kernel_rfl) (by
  rintro ⟨(l : List SServer), (h : ByteArray), _⟩ hp
  refine holds_of (X := lpx (W_spec_l12Server_fServerAt_2 l h) ((0 : Int), ()) fun (y1 : Int × PUnit) bk1 =>
 .br (decide (y1.fst < (↑l.length : Int)))
  (.ob ((0 : Int) ≤ y1.fst ∧ y1.fst < (↑l.length : Int)) <|
   .br ((l.getD y1.fst.toNat default).host.toList == h.toList)
   (.leaf (mkR fServerAt.rs (y1.fst, ())) [] [])
   (.ob (l = l) <|
    .ob (Value.string h = Value.string h) <|
    .ob (bk1 (IntKind.i64.wrap (y1.fst + (1 : Int)), ())) <|
    .ok))
  (.leaf (mkR fServerAt.rs ((-1 : Int), ())) [] [])) (by kernel_rfl) ?_
  refine lpx_i ?_ fun (y1 : Int × PUnit) i1 => br_i (fun h2 => ob_i ?_ fun o3 => br_i (fun h4 => Fct.leafY ?_) (fun h4 => ob_i rfl fun _ => ob_i rfl fun _ => ob_i ?_ fun o5 => trivial)) (fun h2 => Fct.leafY ?_)
  all_goals try simp only [std1, ne_eq] at *
  all_goals try simp only [W_spec_l12Server_fServerAt_2, fServerAt, etaS, std1, std2, Nat.reduceAdd, ne_eq, fidx] at *
  all_goals try simp (disch := omega) only [wrapId', toNat1] at *
  all_goals try simp (disch := omega) only [if_pos, if_neg]
  all_goals first | trivial | omega | grind [wrapId', toNat1, drop_cons, drop_end, good_len, maxLen, fidx])
def E130 : D.Env := E129.add 113 fServerAt
theorem E130ok : EOk Tryz.prog E130 := E129ok.add k113_129
def fServerAt1 : Fct := ⟨[.v (.el .server), .p (.el .str)], [.el .bool], fun (x_ : SServer × ByteArray × Unit) => True, fun (x_ : SServer × ByteArray × Unit) => (decide (x_.1.host = x_.2.1), ())⟩
theorem k158_130 : fServerAt1.ok Tryz.prog 158 := Fct.of (S := fServerAt1) (L := fun _ _ => none) (kp := [1,2,3]) E130ok Tryz.func158 (by kernel_rfl) (by kernel_rfl) (by
  rintro ⟨(s : SServer), (h : ByteArray), _⟩ hp
  refine holds_of (X := .leaf (mkR fServerAt1.rs (s.host.toList == ByteArray.toList h, ())) [] []) (by kernel_rfl) ?_
  refine Fct.leafY ?_
  all_goals try simp only [std1, ne_eq] at *
  all_goals try simp only [fServerAt1, etaS, std1, std2, Nat.reduceAdd, ne_eq] at *
  all_goals try simp (disch := omega) only [wrapId', toNat1] at *
  all_goals try simp (disch := omega) only [if_pos, if_neg]
  all_goals first | trivial | omega | grind [wrapId', toNat1, drop_cons, drop_end, good_len, maxLen])
def E131 : D.Env := E130.add 158 fServerAt1
theorem E131ok : EOk Tryz.prog E131 := E130ok.add k158_130
def fIndexFunc_server_impl_serverAt_1 : Fct := ⟨[aL .server, .c 158 [.el .str]], [rI], fun x => x.1.length ≤ 1000000000000000000 ∧ ∀ c, fServerAt1.pre (c, x.2.1), fun x => (fidx (fun c => (fServerAt1.fn (c, x.2.1)).1) x.1 0, ())⟩
abbrev W_slices_IndexFunc_impl_Server_impl_Server_fIndexFunc_server_impl_serverAt_1_2 (l : (List SServer)) (u : (ByteArray × Unit)) : LInv := ⟨[⟨.s, 8, true, .el .int⟩], fun _ (x_ : Int × Unit) => 0 ≤ x_.1 ∧ x_.1 ≤ l.length ∧ fidx (fun c => (fServerAt1.fn (c, u)).1) l 0 = fidx (fun c => (fServerAt1.fn (c, u)).1) (l.drop x_.1.toNat) x_.1, fun (x_ : Int × Unit) => l.length - x_.1.toNat⟩
theorem k157_131 : fIndexFunc_server_impl_serverAt_1.ok Tryz.prog 157 := Fct.of (S := fIndexFunc_server_impl_serverAt_1) (L := fun ⟨l, u, _⟩ => fun | 2 => some (W_slices_IndexFunc_impl_Server_impl_Server_fIndexFunc_server_impl_serverAt_1_2 l u) | _ => none) (kp := [0,1,4,5,7,8,9,16,1000009,1000016]) E131ok Tryz.func157 (by kernel_rfl) (by kernel_rfl) (by
  rintro ⟨(l : List SServer), (u : ByteArray × PUnit), _⟩ hp
  refine holds_of (X := lpx (W_slices_IndexFunc_impl_Server_impl_Server_fIndexFunc_server_impl_serverAt_1_2 l u) ((0 : Int), ()) fun (y1 : Int × PUnit) bk1 =>
 .br (decide (y1.fst < (↑l.length : Int)))
  (.ob ((0 : Int) ≤ y1.fst ∧ y1.fst < (↑l.length : Int)) <|
   .ob (fServerAt1.pre (l.getD y1.fst.toNat default, u.fst, ())) <|
   .lt (Bool × PUnit) (fServerAt1.fn (l.getD y1.fst.toNat default, u.fst, ())) fun z2 =>
   .br (z2.fst)
    (.leaf (mkR fIndexFunc_server_impl_serverAt_1.rs (y1.fst, ())) [] [])
    (.ob (l = l) <|
     .ob (enc Ty.str u.fst = enc Ty.str u.fst) <|
     .ob (Value.int IntKind.i64 (↑l.length : Int) = Value.int IntKind.i64 (↑l.length : Int)) <|
     .ob (bk1 (IntKind.i64.wrap (y1.fst + (1 : Int)), ())) <|
     .ok))
  (.leaf (mkR fIndexFunc_server_impl_serverAt_1.rs ((-1 : Int), ())) [] [])) (by kernel_rfl) ?_
  refine lpx_i ?_ fun (y1 : Int × PUnit) i1 => br_i (fun h2 => ob_i ?_ fun o3 => ob_i trivial fun _ => lt_i (br_i (fun h4 => Fct.leafY ?_) (fun h4 => ob_i rfl fun _ => ob_i rfl fun _ => ob_i rfl fun _ => ob_i ?_ fun o5 => trivial))) (fun h2 => Fct.leafY ?_)
  all_goals try simp only [std1, ne_eq] at *
  all_goals try simp only [W_slices_IndexFunc_impl_Server_impl_Server_fIndexFunc_server_impl_serverAt_1_2, fIndexFunc_server_impl_serverAt_1, fServerAt1, etaS, std1, std2, Nat.reduceAdd, ne_eq] at *
  all_goals try have hp2 := hp.2
  all_goals try have hp1 := hp.1
  all_goals first | trivial | omega | grind [wrapId', toNat1, drop_cons, drop_end, good_len, maxLen, fidx])
def E132 : D.Env := E131.add 157 fIndexFunc_server_impl_serverAt_1
theorem E132ok : EOk Tryz.prog E132 := E131ok.add k157_131
theorem k126_132 : fServerAt.ok Tryz.prog 126 := Fct.of (S := fServerAt) (L := fun _ _ => none) (kp := [0,3,4]) E132ok Tryz.func126 (by kernel_rfl) (by kernel_rfl) (by
  rintro ⟨(l : List SServer), (h : ByteArray), _⟩ hp
  refine holds_of (X := .ob (fIndexFunc_server_impl_serverAt_1.pre (l, (h, ()), ())) <|
 .lt (Int × PUnit) (fIndexFunc_server_impl_serverAt_1.fn (l, (h, ()), ())) fun z2 =>
 .leaf (mkR fServerAt.rs (z2.fst, ())) [] []) (by kernel_rfl) ?_
  refine ob_i ?_ fun o1 => lt_i (Fct.leafY ?_)
  all_goals try simp only [std1, ne_eq] at *
  all_goals try simp only [fIndexFunc_server_impl_serverAt_1, fServerAt, etaS, std1, std2, Nat.reduceAdd, ne_eq, fServerAt1] at *
  all_goals try simp (disch := omega) only [wrapId', toNat1] at *
  all_goals try simp (disch := omega) only [if_pos, if_neg]
  all_goals first | trivial | omega | grind [wrapId', toNat1, drop_cons, drop_end, good_len, maxLen, fServerAt1])
def E133 : D.Env := E132.add 126 fServerAt
theorem E133ok : EOk Tryz.prog E133 := E132ok.add k126_132
def fFileAt : Fct := ⟨[.v (.el .server), .v (.el .str)], [.el .int], fun (x_ : SServer × ByteArray × Unit) => x_.1.files.length ≤ 1000000000000, fun (x_ : SServer × ByteArray × Unit) => (fidx (fun f => decide (f.path = x_.2.1)) x_.1.files 0, ())⟩
abbrev W_spec_l12File_fFileAt_2 (s : SServer) (p : ByteArray) : LInv := ⟨[⟨.s, 5, true, .el .int⟩, ⟨.b, 2, false, .el .server⟩], fun (z_ : Int × SServer × Unit) (x_ : Int × SServer × Unit) => (0 ≤ x_.1 ∧ x_.1 ≤ s.files.length ∧ fidx (fun f => decide (f.path = p)) (s.files.drop x_.1.toNat) x_.1 = fidx (fun f => decide (f.path = p)) s.files 0) ∧ x_.2.1 = z_.2.1, fun (x_ : Int × SServer × Unit) => s.files.length - x_.1.toNat⟩
theorem k114_133 : fFileAt.ok Tryz.prog 114 := Fct.of (S := fFileAt) (L := fun ⟨s, p, _⟩ => fun | 2 => some (W_spec_l12File_fFileAt_2 s p) | _ => none) (kp := [1,2,4,5,10,20,1000010,1000020]) E133ok Tryz.func114 (by kernel_rfl) (by kernel_rfl) (by
  rintro ⟨(s : SServer), (p : ByteArray), _⟩ hp
  refine holds_of (X := lpx (W_spec_l12File_fFileAt_2 s p) ((0 : Int), (s, ())) fun (y1 : Int × SServer × PUnit) bk1 =>
 .br (decide (y1.fst < (↑y1.snd.fst.files.length : Int)))
  (.ob ((0 : Int) ≤ y1.fst ∧ y1.fst < (↑y1.snd.fst.files.length : Int)) <|
   .br ((y1.snd.fst.files.getD y1.fst.toNat default).path.toList == p.toList)
   (.leaf (mkR fFileAt.rs (y1.fst, ())) [] [])
   (.ob (Value.string p = Value.string p) <|
    .ob (bk1 (IntKind.i64.wrap (y1.fst + (1 : Int)), (y1.snd.fst, ()))) <|
    .ok))
  (.leaf (mkR fFileAt.rs ((-1 : Int), ())) [] [])) (by kernel_rfl) ?_
  refine lpx_i ?_ fun (y1 : Int × SServer × PUnit) i1 => br_i (fun h2 => ob_i ?_ fun o3 => br_i (fun h4 => Fct.leafY ?_) (fun h4 => ob_i rfl fun _ => ob_i ?_ fun o5 => trivial)) (fun h2 => Fct.leafY ?_)
  all_goals try simp only [std1, ne_eq] at *
  all_goals try simp only [W_spec_l12File_fFileAt_2, fFileAt, etaS, std1, std2, Nat.reduceAdd, ne_eq, fidx] at *
  all_goals try simp (disch := omega) only [wrapId', toNat1] at *
  all_goals try simp (disch := omega) only [if_pos, if_neg]
  all_goals first | trivial | omega | grind [wrapId', toNat1, drop_cons, drop_end, good_len, maxLen, fidx])
def E134 : D.Env := E133.add 114 fFileAt
theorem E134ok : EOk Tryz.prog E134 := E133ok.add k114_133
def fFileAt1 : Fct := ⟨[.v (.el .file), .p (.el .str)], [.el .bool], fun (x_ : SFile × ByteArray × Unit) => True, fun (x_ : SFile × ByteArray × Unit) => (decide (x_.1.path = x_.2.1), ())⟩
theorem k160_134 : fFileAt1.ok Tryz.prog 160 := Fct.of (S := fFileAt1) (L := fun _ _ => none) (kp := [1,2,3]) E134ok Tryz.func160 (by kernel_rfl) (by kernel_rfl) (by
  rintro ⟨(f : SFile), (p : ByteArray), _⟩ hp
  refine holds_of (X := .leaf (mkR fFileAt1.rs (f.path.toList == ByteArray.toList p, ())) [] []) (by kernel_rfl) ?_
  refine Fct.leafY ?_
  all_goals try simp only [std1, ne_eq] at *
  all_goals try simp only [fFileAt1, etaS, std1, std2, Nat.reduceAdd, ne_eq] at *
  all_goals try simp (disch := omega) only [wrapId', toNat1] at *
  all_goals try simp (disch := omega) only [if_pos, if_neg]
  all_goals first | trivial | omega | grind [wrapId', toNat1, drop_cons, drop_end, good_len, maxLen])
def E135 : D.Env := E134.add 160 fFileAt1
theorem E135ok : EOk Tryz.prog E135 := E134ok.add k160_134
def fIndexFunc_file_impl_fileAt_1 : Fct := ⟨[aL .file, .c 160 [.el .str]], [rI], fun x => x.1.length ≤ 1000000000000000000 ∧ ∀ c, fFileAt1.pre (c, x.2.1), fun x => (fidx (fun c => (fFileAt1.fn (c, x.2.1)).1) x.1 0, ())⟩
abbrev W_slices_IndexFunc_impl_File_impl_File_fIndexFunc_file_impl_fileAt_1_2 (l : (List SFile)) (u : (ByteArray × Unit)) : LInv := ⟨[⟨.s, 8, true, .el .int⟩], fun _ (x_ : Int × Unit) => 0 ≤ x_.1 ∧ x_.1 ≤ l.length ∧ fidx (fun c => (fFileAt1.fn (c, u)).1) l 0 = fidx (fun c => (fFileAt1.fn (c, u)).1) (l.drop x_.1.toNat) x_.1, fun (x_ : Int × Unit) => l.length - x_.1.toNat⟩
theorem k159_135 : fIndexFunc_file_impl_fileAt_1.ok Tryz.prog 159 := Fct.of (S := fIndexFunc_file_impl_fileAt_1) (L := fun ⟨l, u, _⟩ => fun | 2 => some (W_slices_IndexFunc_impl_File_impl_File_fIndexFunc_file_impl_fileAt_1_2 l u) | _ => none) (kp := [0,1,4,5,7,8,9,16,1000009,1000016]) E135ok Tryz.func159 (by kernel_rfl) (by kernel_rfl) (by
  rintro ⟨(l : List SFile), (u : ByteArray × PUnit), _⟩ hp
  refine holds_of (X := lpx (W_slices_IndexFunc_impl_File_impl_File_fIndexFunc_file_impl_fileAt_1_2 l u) ((0 : Int), ()) fun (y1 : Int × PUnit) bk1 =>
 .br (decide (y1.fst < (↑l.length : Int)))
  (.ob ((0 : Int) ≤ y1.fst ∧ y1.fst < (↑l.length : Int)) <|
   .ob (fFileAt1.pre (l.getD y1.fst.toNat default, u.fst, ())) <|
   .lt (Bool × PUnit) (fFileAt1.fn (l.getD y1.fst.toNat default, u.fst, ())) fun z2 =>
   .br (z2.fst)
    (.leaf (mkR fIndexFunc_file_impl_fileAt_1.rs (y1.fst, ())) [] [])
    (.ob (l = l) <|
     .ob (enc Ty.str u.fst = enc Ty.str u.fst) <|
     .ob (Value.int IntKind.i64 (↑l.length : Int) = Value.int IntKind.i64 (↑l.length : Int)) <|
     .ob (bk1 (IntKind.i64.wrap (y1.fst + (1 : Int)), ())) <|
     .ok))
  (.leaf (mkR fIndexFunc_file_impl_fileAt_1.rs ((-1 : Int), ())) [] [])) (by kernel_rfl) ?_
  refine lpx_i ?_ fun (y1 : Int × PUnit) i1 => br_i (fun h2 => ob_i ?_ fun o3 => ob_i trivial fun _ => lt_i (br_i (fun h4 => Fct.leafY ?_) (fun h4 => ob_i rfl fun _ => ob_i rfl fun _ => ob_i rfl fun _ => ob_i ?_ fun o5 => trivial))) (fun h2 => Fct.leafY ?_)
  all_goals try simp only [std1, ne_eq] at *
  all_goals try simp only [W_slices_IndexFunc_impl_File_impl_File_fIndexFunc_file_impl_fileAt_1_2, fFileAt1, fIndexFunc_file_impl_fileAt_1, etaS, std1, std2, Nat.reduceAdd, ne_eq] at *
  all_goals try have hp2 := hp.2
  all_goals try have hp1 := hp.1
  all_goals first | trivial | omega | grind [wrapId', toNat1, drop_cons, drop_end, good_len, maxLen, fidx])
def E136 : D.Env := E135.add 159 fIndexFunc_file_impl_fileAt_1
theorem E136ok : EOk Tryz.prog E136 := E135ok.add k159_135
theorem k127_136 : fFileAt.ok Tryz.prog 127 := Fct.of (S := fFileAt) (L := fun _ _ => none) (kp := [2,3,4]) E136ok Tryz.func127 (by kernel_rfl) (by kernel_rfl) (by
  rintro ⟨(s : SServer), (p : ByteArray), _⟩ hp
  refine holds_of (X := .ob (fIndexFunc_file_impl_fileAt_1.pre (s.files, (p, ()), ())) <|
 .lt (Int × PUnit) (fIndexFunc_file_impl_fileAt_1.fn (s.files, (p, ()), ())) fun z2 =>
 .leaf (mkR fFileAt.rs (z2.fst, ())) [] []) (by kernel_rfl) ?_
  refine ob_i ?_ fun o1 => lt_i (Fct.leafY ?_)
  all_goals try simp only [std1, ne_eq] at *
  all_goals try simp only [fFileAt, fIndexFunc_file_impl_fileAt_1, etaS, std1, std2, Nat.reduceAdd, ne_eq, fFileAt1] at *
  all_goals try simp (disch := omega) only [wrapId', toNat1] at *
  all_goals try simp (disch := omega) only [if_pos, if_neg]
  all_goals first | trivial | omega | grind [wrapId', toNat1, drop_cons, drop_end, good_len, maxLen, fFileAt1])
def E137 : D.Env := E136.add 127 fFileAt
theorem E137ok : EOk Tryz.prog E137 := E136ok.add k127_136
def answerTo (l : List SServer) (a : SAddr) : SResponse := if fidx (fun s => decide (s.host = a.host)) l 0 < 0 then notFound else if fidx (fun f => decide (f.path = a.path)) (l.getD (fidx (fun s => decide (s.host = a.host)) l 0).toNat default).files 0 < 0 then notFound else ((l.getD (fidx (fun s => decide (s.host = a.host)) l 0).toNat default).files.getD (fidx (fun f => decide (f.path = a.path)) (l.getD (fidx (fun s => decide (s.host = a.host)) l 0).toNat default).files 0).toNat default).response
def fAnswerTo : Fct := ⟨[.v (.sl .server), .v (.el .addr)], [.el .response], fun (x_ : (List SServer) × SAddr × Unit) => szL szServer x_.1 ≤ 68719476736, fun (x_ : (List SServer) × SAddr × Unit) => (answerTo x_.1 x_.2.1, ())⟩
theorem k56_137 : fAnswerTo.ok Tryz.prog 56 := Fct.of (S := fAnswerTo) (L := fun _ _ => none) (kp := [0,3,4,5,6,12,22,1000012,1000022]) E137ok Tryz.func56 (by kernel_rfl) (by kernel_rfl) (by
  rintro ⟨(l : List SServer), (a : SAddr), _⟩ hp
  refine holds_of (X := .ob (fServerAt.pre (l, a.host, ())) <|
 .lt (Int × PUnit) (fServerAt.fn (l, a.host, ())) fun z2 =>
 .br (decide (z2.fst < (0 : Int)))
  (.ob (fNotFound.pre ()) <|
   .lt (SResponse × PUnit) (fNotFound.fn ()) fun z3 =>
   .leaf (mkR fAnswerTo.rs (z3.fst, ())) [] [])
  (.ob ((0 : Int) ≤ z2.fst ∧ z2.fst < (↑(List.length l) : Int)) <|
   .ob (fFileAt.pre (List.getD l z2.fst.toNat default, a.path, ())) <|
   .lt (Int × PUnit) (fFileAt.fn (List.getD l z2.fst.toNat default, a.path, ())) fun z4 =>
   .br (decide (z4.fst < (0 : Int)))
    (.ob (fNotFound.pre ()) <|
     .lt (SResponse × PUnit) (fNotFound.fn ()) fun z5 =>
     .leaf (mkR fAnswerTo.rs (z5.fst, ())) [] [])
    (.ob ((0 : Int) ≤ z2.fst ∧ z2.fst < (↑(List.length l) : Int)) <|
     .ob ((0 : Int) ≤ z4.fst ∧ z4.fst < (↑(List.getD l z2.fst.toNat default).files.length : Int)) <|
     .leaf (mkR fAnswerTo.rs (((List.getD l z2.fst.toNat default).files.getD z4.fst.toNat default).response, ())) [] []))) (by kernel_rfl) ?_
  refine ob_i ?_ fun o1 => lt_i (br_i (fun h2 => ob_i trivial fun _ => lt_i (Fct.leafY ?_)) (fun h2 => ob_i ?_ fun o3 => ob_i ?_ fun o4 => lt_i (br_i (fun h5 => ob_i trivial fun _ => lt_i (Fct.leafY ?_)) (fun h5 => ob_i ?_ fun o6 => ob_i ?_ fun o7 => Fct.leafY ?_))))
  all_goals have hl := szL_len szServer l
  all_goals have hg : ∀ i, i < l.length → (l.getD i default).files.length ≤ 68719476736 := fun i h => by have := szServer_get h; have hp2 : szL szServer l ≤ 68719476736 := hp; omega
  all_goals have hf := fidx_lt (fun s : SServer => decide (s.host = a.host)) l 0 (by omega)
  all_goals have hf2 := fun fs => fidx_lt (fun f : SFile => decide (f.path = a.path)) fs 0 (by omega)
  all_goals try simp only [std1, ne_eq] at *
  all_goals try simp only [fAnswerTo, fFileAt, fNotFound, fServerAt, etaS, std1, std2, Nat.reduceAdd, ne_eq, answerTo, fServerAt, fFileAt, fNotFound] at *
  all_goals try simp (disch := omega) only [wrapId', toNat1] at *
  all_goals try simp (disch := omega) only [if_pos, if_neg]
  all_goals first | trivial | omega | grind [wrapId', toNat1, drop_cons, drop_end, good_len, maxLen, answerTo, fServerAt, fFileAt, fNotFound])
def E138 : D.Env := E137.add 56 fAnswerTo
theorem E138ok : EOk Tryz.prog E138 := E137ok.add k56_137
theorem k69_138 : fAnswerTo.ok Tryz.prog 69 := Fct.of (S := fAnswerTo) (L := fun _ _ => none) (kp := [0,3,4,5,6,12,22,1000012,1000022]) E138ok Tryz.func69 (by kernel_rfl) (by kernel_rfl) (by
  rintro ⟨(l : List SServer), (a : SAddr), _⟩ hp
  refine holds_of (X := .ob (fServerAt.pre (l, a.host, ())) <|
 .lt (Int × PUnit) (fServerAt.fn (l, a.host, ())) fun z2 =>
 .br (decide (z2.fst < (0 : Int)))
  (.ob (fNotFound.pre ()) <|
   .lt (SResponse × PUnit) (fNotFound.fn ()) fun z3 =>
   .leaf (mkR fAnswerTo.rs (z3.fst, ())) [] [])
  (.ob ((0 : Int) ≤ z2.fst ∧ z2.fst < (↑(List.length l) : Int)) <|
   .ob (fFileAt.pre (List.getD l z2.fst.toNat default, a.path, ())) <|
   .lt (Int × PUnit) (fFileAt.fn (List.getD l z2.fst.toNat default, a.path, ())) fun z4 =>
   .br (decide (z4.fst < (0 : Int)))
    (.ob (fNotFound.pre ()) <|
     .lt (SResponse × PUnit) (fNotFound.fn ()) fun z5 =>
     .leaf (mkR fAnswerTo.rs (z5.fst, ())) [] [])
    (.ob ((0 : Int) ≤ z2.fst ∧ z2.fst < (↑(List.length l) : Int)) <|
     .ob ((0 : Int) ≤ z4.fst ∧ z4.fst < (↑(List.getD l z2.fst.toNat default).files.length : Int)) <|
     .leaf (mkR fAnswerTo.rs (((List.getD l z2.fst.toNat default).files.getD z4.fst.toNat default).response, ())) [] []))) (by kernel_rfl) ?_
  refine ob_i ?_ fun o1 => lt_i (br_i (fun h2 => ob_i trivial fun _ => lt_i (Fct.leafY ?_)) (fun h2 => ob_i ?_ fun o3 => ob_i ?_ fun o4 => lt_i (br_i (fun h5 => ob_i trivial fun _ => lt_i (Fct.leafY ?_)) (fun h5 => ob_i ?_ fun o6 => ob_i ?_ fun o7 => Fct.leafY ?_))))
  all_goals have hl := szL_len szServer l
  all_goals have hg : ∀ i, i < l.length → (l.getD i default).files.length ≤ 68719476736 := fun i h => by have := szServer_get h; have hp2 : szL szServer l ≤ 68719476736 := hp; omega
  all_goals have hf := fidx_lt (fun s : SServer => decide (s.host = a.host)) l 0 (by omega)
  all_goals have hf2 := fun fs => fidx_lt (fun f : SFile => decide (f.path = a.path)) fs 0 (by omega)
  all_goals try simp only [std1, ne_eq] at *
  all_goals try simp only [fAnswerTo, fFileAt, fNotFound, fServerAt, etaS, std1, std2, Nat.reduceAdd, ne_eq, answerTo, fServerAt, fFileAt, fNotFound] at *
  all_goals try simp (disch := omega) only [wrapId', toNat1] at *
  all_goals try simp (disch := omega) only [if_pos, if_neg]
  all_goals first | trivial | omega | grind [wrapId', toNat1, drop_cons, drop_end, good_len, maxLen, answerTo, fServerAt, fFileAt, fNotFound])
def E139 : D.Env := E138.add 69 fAnswerTo
theorem E139ok : EOk Tryz.prog E139 := E138ok.add k69_138
def fFindEntry : Fct := ⟨[.v (.el .cache), .v (.el .str), .v (.el .addr)], [.el .int], fun (x_ : SCache × ByteArray × SAddr × Unit) => x_.1.entries.length ≤ 1000000000000, fun (x_ : SCache × ByteArray × SAddr × Unit) => (fidx (fun e => decide (e.top = x_.2.1) && decide (e.to = x_.2.2.1)) x_.1.entries 0, ())⟩
abbrev W_spec_l13Find_fFindEntry_2 (c : SCache) (t : ByteArray) (a : SAddr) : LInv := ⟨[⟨.s, 7, true, .el .int⟩, ⟨.b, 3, false, .el .cache⟩, ⟨.b, 5, true, .el .addr⟩], fun (z_ : Int × SCache × SAddr × Unit) (x_ : Int × SCache × SAddr × Unit) => ((0 ≤ x_.1 ∧ x_.1 ≤ c.entries.length ∧ fidx (fun e => decide (e.top = t) && decide (e.to = a)) (c.entries.drop x_.1.toNat) x_.1 = fidx (fun e => decide (e.top = t) && decide (e.to = a)) c.entries 0) ∧ x_.2.1 = z_.2.1) ∧ x_.2.2.1 = z_.2.2.1, fun (x_ : Int × SCache × SAddr × Unit) => c.entries.length - x_.1.toNat⟩
theorem k152_139 : fFindEntry.ok Tryz.prog 152 := Fct.of (S := fFindEntry) (L := fun ⟨c, t, a, _⟩ => fun | 2 => some (W_spec_l13Find_fFindEntry_2 c t a) | _ => none) (kp := [1,3,5,6,7,12,32,1000012,1000032]) E139ok Tryz.func152 (by kernel_rfl) (by kernel_rfl) (by
  rintro ⟨(c : SCache), (t : ByteArray), (a : SAddr), _⟩ hp
  refine holds_of (X := lpx (W_spec_l13Find_fFindEntry_2 c t a) ((0 : Int), (c, (a, ()))) fun (y1 : Int × SCache × SAddr × PUnit) bk1 =>
 .br (decide (y1.fst < (↑y1.snd.fst.entries.length : Int)))
  (.ob ((0 : Int) ≤ y1.fst ∧ y1.fst < (↑y1.snd.fst.entries.length : Int)) <|
   .br ((y1.snd.fst.entries.getD y1.fst.toNat default).top.toList == t.toList)
   (.ob ((0 : Int) ≤ y1.fst ∧ y1.fst < (↑y1.snd.fst.entries.length : Int)) <|
    .br ((y1.snd.fst.entries.getD y1.fst.toNat default).to.host == y1.snd.snd.fst.host &&
  ((y1.snd.fst.entries.getD y1.fst.toNat default).to.path == y1.snd.snd.fst.path && true))
    (.leaf (mkR fFindEntry.rs (y1.fst, ())) [] [])
    (.ob (Value.string t = Value.string t) <|
     .ob (bk1 (IntKind.i64.wrap (y1.fst + (1 : Int)), (y1.snd.fst, (y1.snd.snd.fst, ())))) <|
     .ok))
   (.ob (Value.string t = Value.string t) <|
    .ob (bk1 (IntKind.i64.wrap (y1.fst + (1 : Int)), (y1.snd.fst, (y1.snd.snd.fst, ())))) <|
    .ok))
  (.leaf (mkR fFindEntry.rs ((-1 : Int), ())) [] [])) (by kernel_rfl) ?_
  refine lpx_i ?_ fun (y1 : Int × SCache × SAddr × PUnit) i1 => br_i (fun h2 => ob_i ?_ fun o3 => br_i (fun h4 => ob_i ?_ fun o5 => br_i (fun h6 => Fct.leafY ?_) (fun h6 => ob_i rfl fun _ => ob_i ?_ fun o7 => trivial)) (fun h4 => ob_i rfl fun _ => ob_i ?_ fun o8 => trivial)) (fun h2 => Fct.leafY ?_)
  all_goals try simp only [beqAddr] at *
  all_goals try simp only [std1, ne_eq] at *
  all_goals try simp only [W_spec_l13Find_fFindEntry_2, fFindEntry, etaS, std1, std2, Nat.reduceAdd, ne_eq, fidx] at *
  all_goals try simp (disch := omega) only [wrapId', toNat1] at *
  all_goals try simp (disch := omega) only [if_pos, if_neg]
  all_goals first | trivial | omega | grind [wrapId', toNat1, drop_cons, drop_end, good_len, maxLen, fidx])
def E140 : D.Env := E139.add 152 fFindEntry
theorem E140ok : EOk Tryz.prog E140 := E139ok.add k152_139
def fEntryAt1 : Fct := ⟨[.v (.el .entry), .p (.el .str), .p (.el .addr)], [.el .bool], fun (x_ : SEntry × ByteArray × SAddr × Unit) => True, fun (x_ : SEntry × ByteArray × SAddr × Unit) => (decide (x_.1.top = x_.2.1) && decide (x_.1.to = x_.2.2.1), ())⟩
theorem k183_140 : fEntryAt1.ok Tryz.prog 183 := Fct.of (S := fEntryAt1) (L := fun _ _ => none) (kp := [1,2,3,4]) E140ok Tryz.func183 (by kernel_rfl) (by kernel_rfl) (by
  rintro ⟨(e : SEntry), (t : ByteArray), (a : SAddr), _⟩ hp
  refine holds_of (X := .br (e.top.toList == ByteArray.toList t)
 (.leaf (mkR fEntryAt1.rs (e.to.host == a.host && (e.to.path == a.path && true), ())) [] [])
 (.leaf (mkR fEntryAt1.rs (false, ())) [] [])) (by kernel_rfl) ?_
  refine br_i (fun h1 => Fct.leafY ?_) (fun h1 => Fct.leafY ?_)
  all_goals try simp only [beqAddr] at *
  all_goals try simp only [std1, ne_eq] at *
  all_goals try simp only [fEntryAt1, etaS, std1, std2, Nat.reduceAdd, ne_eq] at *
  all_goals try simp (disch := omega) only [wrapId', toNat1] at *
  all_goals try simp (disch := omega) only [if_pos, if_neg]
  all_goals first | trivial | omega | grind [wrapId', toNat1, drop_cons, drop_end, good_len, maxLen])
def E141 : D.Env := E140.add 183 fEntryAt1
theorem E141ok : EOk Tryz.prog E141 := E140ok.add k183_140
def fIndexFunc_entry_impl_entryAt_1 : Fct := ⟨[aL .entry, .c 183 [.el .str, .el .addr]], [rI], fun x => x.1.length ≤ 1000000000000000000 ∧ ∀ c, fEntryAt1.pre (c, x.2.1), fun x => (fidx (fun c => (fEntryAt1.fn (c, x.2.1)).1) x.1 0, ())⟩
abbrev W_slices_IndexFunc_impl_Entry_impl_Entry_fIndexFunc_entry_impl_entryAt_1_2 (l : (List SEntry)) (u : (ByteArray × SAddr × Unit)) : LInv := ⟨[⟨.s, 8, true, .el .int⟩], fun _ (x_ : Int × Unit) => 0 ≤ x_.1 ∧ x_.1 ≤ l.length ∧ fidx (fun c => (fEntryAt1.fn (c, u)).1) l 0 = fidx (fun c => (fEntryAt1.fn (c, u)).1) (l.drop x_.1.toNat) x_.1, fun (x_ : Int × Unit) => l.length - x_.1.toNat⟩
theorem k124_141 : fIndexFunc_entry_impl_entryAt_1.ok Tryz.prog 124 := Fct.of (S := fIndexFunc_entry_impl_entryAt_1) (L := fun ⟨l, u, _⟩ => fun | 2 => some (W_slices_IndexFunc_impl_Entry_impl_Entry_fIndexFunc_entry_impl_entryAt_1_2 l u) | _ => none) (kp := [0,1,4,5,7,8,9,16,1000009,1000016]) E141ok Tryz.func124 (by kernel_rfl) (by kernel_rfl) (by
  rintro ⟨(l : List SEntry), (u : ByteArray × SAddr × PUnit), _⟩ hp
  refine holds_of (X := lpx (W_slices_IndexFunc_impl_Entry_impl_Entry_fIndexFunc_entry_impl_entryAt_1_2 l u) ((0 : Int), ()) fun (y1 : Int × PUnit) bk1 =>
 .br (decide (y1.fst < (↑l.length : Int)))
  (.ob ((0 : Int) ≤ y1.fst ∧ y1.fst < (↑l.length : Int)) <|
   .ob (fEntryAt1.pre (l.getD y1.fst.toNat default, u.fst, u.snd.fst, ())) <|
   .lt (Bool × PUnit) (fEntryAt1.fn (l.getD y1.fst.toNat default, u.fst, u.snd.fst, ())) fun z2 =>
   .br (z2.fst)
    (.leaf (mkR fIndexFunc_entry_impl_entryAt_1.rs (y1.fst, ())) [] [])
    (.ob (l = l) <|
     .ob (enc Ty.str u.fst = enc Ty.str u.fst) <|
     .ob (enc Ty.addr u.snd.fst = enc Ty.addr u.snd.fst) <|
     .ob (Value.int IntKind.i64 (↑l.length : Int) = Value.int IntKind.i64 (↑l.length : Int)) <|
     .ob (bk1 (IntKind.i64.wrap (y1.fst + (1 : Int)), ())) <|
     .ok))
  (.leaf (mkR fIndexFunc_entry_impl_entryAt_1.rs ((-1 : Int), ())) [] [])) (by kernel_rfl) ?_
  refine lpx_i ?_ fun (y1 : Int × PUnit) i1 => br_i (fun h2 => ob_i ?_ fun o3 => ob_i trivial fun _ => lt_i (br_i (fun h4 => Fct.leafY ?_) (fun h4 => ob_i rfl fun _ => ob_i rfl fun _ => ob_i rfl fun _ => ob_i rfl fun _ => ob_i ?_ fun o5 => trivial))) (fun h2 => Fct.leafY ?_)
  all_goals try simp only [std1, ne_eq] at *
  all_goals try simp only [W_slices_IndexFunc_impl_Entry_impl_Entry_fIndexFunc_entry_impl_entryAt_1_2, fEntryAt1, fIndexFunc_entry_impl_entryAt_1, etaS, std1, std2, Nat.reduceAdd, ne_eq] at *
  all_goals try have hp2 := hp.2
  all_goals try have hp1 := hp.1
  all_goals first | trivial | omega | grind [wrapId', toNat1, drop_cons, drop_end, good_len, maxLen, fidx])
def E142 : D.Env := E141.add 124 fIndexFunc_entry_impl_entryAt_1
theorem E142ok : EOk Tryz.prog E142 := E141ok.add k124_141
theorem k161_142 : fFindEntry.ok Tryz.prog 161 := Fct.of (S := fFindEntry) (L := fun _ _ => none) (kp := [3,4,5,6]) E142ok Tryz.func161 (by kernel_rfl) (by kernel_rfl) (by
  rintro ⟨(c : SCache), (t : ByteArray), (a : SAddr), _⟩ hp
  refine holds_of (X := .ob (fIndexFunc_entry_impl_entryAt_1.pre (c.entries, (t, a, ()), ())) <|
 .lt (Int × PUnit) (fIndexFunc_entry_impl_entryAt_1.fn (c.entries, (t, a, ()), ())) fun z2 =>
 .leaf (mkR fFindEntry.rs (z2.fst, ())) [] []) (by kernel_rfl) ?_
  refine ob_i ?_ fun o1 => lt_i (Fct.leafY ?_)
  all_goals try simp only [std1, ne_eq] at *
  all_goals try simp only [fFindEntry, fIndexFunc_entry_impl_entryAt_1, etaS, std1, std2, Nat.reduceAdd, ne_eq, fEntryAt1] at *
  all_goals try simp (disch := omega) only [wrapId', toNat1] at *
  all_goals try simp (disch := omega) only [if_pos, if_neg]
  all_goals first | trivial | omega | grind [wrapId', toNat1, drop_cons, drop_end, good_len, maxLen, fEntryAt1])
def E143 : D.Env := E142.add 161 fFindEntry
theorem E143ok : EOk Tryz.prog E143 := E142ok.add k161_142
def freshEntry (t : ByteArray) (a : SAddr) (now : Int) (e : SEntry) : Bool := decide (e.top = t) && (decide (e.to = a) && decide (now ≤ e.until_))
def lookUp (c : SCache) (t : ByteArray) (a : SAddr) (now : Int) : Option SResponse := (c.entries.find? (freshEntry t a now)).map (·.response)
def fLookUp : Fct := ⟨[.v (.el .cache), .v (.el .str), .v (.el .addr), .v (.el .int)], [.el .response, .el .bool], fun (x_ : SCache × ByteArray × SAddr × Int × Unit) => x_.1.entries.length ≤ 1000000000000, fun (x_ : SCache × ByteArray × SAddr × Int × Unit) => ((lookUp x_.1 x_.2.1 x_.2.2.1 x_.2.2.2.1).getD notFound, (lookUp x_.1 x_.2.1 x_.2.2.1 x_.2.2.2.1).isSome, ())⟩
theorem find_fidx {α : Type} [Inhabited α] (p : α → Bool) : ∀ (l : List α) (i : Int), 0 ≤ i → l.find? p = if 0 ≤ fidx p l i then some (l.getD (fidx p l i - i).toNat default) else none := by
  intro l
  induction l with
  | nil => intro i _; simp [fidx]
  | cons x l ih =>
    intro i hi
    simp only [List.find?_cons, fidx]
    by_cases hx : p x = true
    · simp [hx, hi]
    ·
      have hx : p x = false := by simpa using hx
      have h1 := fidx_lt p l (i + 1) (by omega)
      have h2 := ih (i + 1) (by omega)
      simp only [hx, Bool.false_eq_true, if_false, h2]
      split
      · rename_i h3
        have h4 : i + 1 ≤ fidx p l (i + 1) := by
          have : ∀ (l : List α) (i : Int), 0 ≤ i → 0 ≤ fidx p l i → i ≤ fidx p l i := by
            intro l
            induction l with
            | nil => intro i _ h; simp [fidx] at h
            | cons y l ih =>
              intro i hi h
              simp only [fidx] at h ⊢
              split
              · omega
              · rename_i hy
                rw [if_neg hy] at h
                have := ih (i + 1) (by omega) h
                omega
          exact this l (i + 1) (by omega) h3
        have h5 : (fidx p l (i + 1) - i).toNat = (fidx p l (i + 1) - (i + 1)).toNat + 1 := by omega
        rw [h5]; rfl
      · rfl
abbrev W_spec_LookUp_fLookUp_2 (c : SCache) (t : ByteArray) (a : SAddr) (now : Int) : LInv := ⟨[⟨.s, 10, true, .el .int⟩, ⟨.b, 4, false, .el .cache⟩, ⟨.b, 6, true, .el .addr⟩, ⟨.b, 8, true, .el .response⟩], fun (z_ : Int × SCache × SAddr × SResponse × Unit) (x_ : Int × SCache × SAddr × SResponse × Unit) => (((0 ≤ x_.1 ∧ x_.1 ≤ c.entries.length ∧ (c.entries.drop x_.1.toNat).find? (freshEntry t a now) = c.entries.find? (freshEntry t a now)) ∧ x_.2.1 = z_.2.1) ∧ x_.2.2.1 = z_.2.2.1) ∧ x_.2.2.2.1 = z_.2.2.2.1, fun (x_ : Int × SCache × SAddr × SResponse × Unit) => c.entries.length - x_.1.toNat⟩
theorem k55_143 : fLookUp.ok Tryz.prog 55 := Fct.of (S := fLookUp) (L := fun ⟨c, t, a, now, _⟩ => fun | 2 => some (W_spec_LookUp_fLookUp_2 c t a now) | _ => none) (kp := [1,3,4,6,8,9,10,15,45,1000015,1000045]) E143ok Tryz.func55 (by kernel_rfl) (by kernel_rfl) (by
  rintro ⟨(c : SCache), (t : ByteArray), (a : SAddr), (now : Int), _⟩ hp
  refine holds_of (X := lpx (W_spec_LookUp_fLookUp_2 c t a now) ((0 : Int), (c, (a, (default, ())))) fun (y1 : Int × SCache × SAddr × SResponse × PUnit) bk1 =>
 .br (decide (y1.fst < (↑y1.snd.fst.entries.length : Int)))
  (.ob ((0 : Int) ≤ y1.fst ∧ y1.fst < (↑y1.snd.fst.entries.length : Int)) <|
   .br ((y1.snd.fst.entries.getD y1.fst.toNat default).top.toList == t.toList)
   (.ob ((0 : Int) ≤ y1.fst ∧ y1.fst < (↑y1.snd.fst.entries.length : Int)) <|
    .br ((y1.snd.fst.entries.getD y1.fst.toNat default).to.host == y1.snd.snd.fst.host &&
  ((y1.snd.fst.entries.getD y1.fst.toNat default).to.path == y1.snd.snd.fst.path && true))
    (.ob ((0 : Int) ≤ y1.fst ∧ y1.fst < (↑y1.snd.fst.entries.length : Int)) <|
     .br (decide ((y1.snd.fst.entries.getD y1.fst.toNat default).until_ ≥ now))
     (.ob ((0 : Int) ≤ y1.fst ∧ y1.fst < (↑y1.snd.fst.entries.length : Int)) <|
      .leaf (mkR fLookUp.rs ((y1.snd.fst.entries.getD y1.fst.toNat default).response, true, ())) [] [])
     (.ob (Value.string t = Value.string t) <|
      .ob (Value.int IntKind.i64 now = Value.int IntKind.i64 now) <|
      .ob (bk1 (IntKind.i64.wrap (y1.fst + (1 : Int)), (y1.snd.fst, (y1.snd.snd.fst, (y1.snd.snd.snd.fst, ()))))) <|
      .ok))
    (.ob (Value.string t = Value.string t) <|
     .ob (Value.int IntKind.i64 now = Value.int IntKind.i64 now) <|
     .ob (bk1 (IntKind.i64.wrap (y1.fst + (1 : Int)), (y1.snd.fst, (y1.snd.snd.fst, (y1.snd.snd.snd.fst, ()))))) <|
     .ok))
   (.ob (Value.string t = Value.string t) <|
    .ob (Value.int IntKind.i64 now = Value.int IntKind.i64 now) <|
    .ob (bk1 (IntKind.i64.wrap (y1.fst + (1 : Int)), (y1.snd.fst, (y1.snd.snd.fst, (y1.snd.snd.snd.fst, ()))))) <|
    .ok))
  (.ob (fNotFound.pre ()) <|
   .lt (SResponse × PUnit) (fNotFound.fn ()) fun z2 =>
   .leaf (mkR fLookUp.rs (z2.fst, false, ())) [] [])) (by kernel_rfl) ?_
  refine lpx_i ?_ fun (y1 : Int × SCache × SAddr × SResponse × PUnit) i1 => br_i (fun h2 => ob_i ?_ fun o3 => br_i (fun h4 => ob_i ?_ fun o5 => br_i (fun h6 => ob_i ?_ fun o7 => br_i (fun h8 => ob_i ?_ fun o9 => Fct.leafY ?_) (fun h8 => ob_i rfl fun _ => ob_i rfl fun _ => ob_i ?_ fun o10 => trivial)) (fun h6 => ob_i rfl fun _ => ob_i rfl fun _ => ob_i ?_ fun o11 => trivial)) (fun h4 => ob_i rfl fun _ => ob_i rfl fun _ => ob_i ?_ fun o12 => trivial)) (fun h2 => ob_i trivial fun _ => lt_i (Fct.leafY ?_))
  all_goals try simp only [beqAddr] at *
  all_goals try simp only [std1, ne_eq] at *
  all_goals try simp only [W_spec_LookUp_fLookUp_2, fLookUp, fNotFound, etaS, std1, std2, Nat.reduceAdd, ne_eq, lookUp, freshEntry, fNotFound] at *
  all_goals try simp (disch := omega) only [wrapId', toNat1] at *
  all_goals try simp (disch := omega) only [if_pos, if_neg]
  all_goals first | trivial | omega | grind [wrapId', toNat1, drop_cons, drop_end, good_len, maxLen, lookUp, freshEntry, fNotFound])
def E144 : D.Env := E143.add 55 fLookUp
theorem E144ok : EOk Tryz.prog E144 := E143ok.add k55_143
def fLookUp1 : Fct := ⟨[.v (.el .entry), .p (.el .str), .p (.el .addr), .p (.el .int)], [.el .bool], fun (x_ : SEntry × ByteArray × SAddr × Int × Unit) => True, fun (x_ : SEntry × ByteArray × SAddr × Int × Unit) => (freshEntry x_.2.1 x_.2.2.1 x_.2.2.2.1 x_.1, ())⟩
theorem k125_144 : fLookUp1.ok Tryz.prog 125 := Fct.of (S := fLookUp1) (L := fun _ _ => none) (kp := [1,2,3,4,5]) E144ok Tryz.func125 (by kernel_rfl) (by kernel_rfl) (by
  rintro ⟨(e : SEntry), (t : ByteArray), (a : SAddr), (now : Int), _⟩ hp
  refine holds_of (X := .br (e.top.toList == ByteArray.toList t)
 (.br (e.to.host == a.host && (e.to.path == a.path && true))
  (.leaf (mkR fLookUp1.rs (decide (e.until_ ≥ now), ())) [] [])
  (.leaf (mkR fLookUp1.rs (false, ())) [] []))
 (.leaf (mkR fLookUp1.rs (false, ())) [] [])) (by kernel_rfl) ?_
  refine br_i (fun h1 => br_i (fun h2 => Fct.leafY ?_) (fun h2 => Fct.leafY ?_)) (fun h1 => Fct.leafY ?_)
  all_goals try simp only [beqAddr] at *
  all_goals try simp only [std1, ne_eq] at *
  all_goals try simp only [fLookUp1, etaS, std1, std2, Nat.reduceAdd, ne_eq, freshEntry] at *
  all_goals try simp (disch := omega) only [wrapId', toNat1] at *
  all_goals try simp (disch := omega) only [if_pos, if_neg]
  all_goals first | trivial | omega | grind [wrapId', toNat1, drop_cons, drop_end, good_len, maxLen, freshEntry])
def E145 : D.Env := E144.add 125 fLookUp1
theorem E145ok : EOk Tryz.prog E145 := E144ok.add k125_144
def fIndexFunc_entry_impl_LookUp_1 : Fct := ⟨[aL .entry, .c 125 [.el .str, .el .addr, .el .int]], [rI], fun x => x.1.length ≤ 1000000000000000000 ∧ ∀ c, fLookUp1.pre (c, x.2.1), fun x => (fidx (fun c => (fLookUp1.fn (c, x.2.1)).1) x.1 0, ())⟩
abbrev W_slices_IndexFunc_impl_Entry_impl_Entry_fIndexFunc_entry_impl_LookUp_1_2 (l : (List SEntry)) (u : (ByteArray × SAddr × Int × Unit)) : LInv := ⟨[⟨.s, 8, true, .el .int⟩], fun _ (x_ : Int × Unit) => 0 ≤ x_.1 ∧ x_.1 ≤ l.length ∧ fidx (fun c => (fLookUp1.fn (c, u)).1) l 0 = fidx (fun c => (fLookUp1.fn (c, u)).1) (l.drop x_.1.toNat) x_.1, fun (x_ : Int × Unit) => l.length - x_.1.toNat⟩
theorem k124_145 : fIndexFunc_entry_impl_LookUp_1.ok Tryz.prog 124 := Fct.of (S := fIndexFunc_entry_impl_LookUp_1) (L := fun ⟨l, u, _⟩ => fun | 2 => some (W_slices_IndexFunc_impl_Entry_impl_Entry_fIndexFunc_entry_impl_LookUp_1_2 l u) | _ => none) (kp := [0,1,4,5,7,8,9,16,1000009,1000016]) E145ok Tryz.func124 (by kernel_rfl) (by kernel_rfl) (by
  rintro ⟨(l : List SEntry), (u : ByteArray × SAddr × Int × PUnit), _⟩ hp
  refine holds_of (X := lpx (W_slices_IndexFunc_impl_Entry_impl_Entry_fIndexFunc_entry_impl_LookUp_1_2 l u) ((0 : Int), ()) fun (y1 : Int × PUnit) bk1 =>
 .br (decide (y1.fst < (↑l.length : Int)))
  (.ob ((0 : Int) ≤ y1.fst ∧ y1.fst < (↑l.length : Int)) <|
   .ob (fLookUp1.pre (l.getD y1.fst.toNat default, u.fst, u.snd.fst, u.snd.snd.fst, ())) <|
   .lt (Bool × PUnit) (fLookUp1.fn (l.getD y1.fst.toNat default, u.fst, u.snd.fst, u.snd.snd.fst, ())) fun z2 =>
   .br (z2.fst)
    (.leaf (mkR fIndexFunc_entry_impl_LookUp_1.rs (y1.fst, ())) [] [])
    (.ob (l = l) <|
     .ob (enc Ty.str u.fst = enc Ty.str u.fst) <|
     .ob (enc Ty.addr u.snd.fst = enc Ty.addr u.snd.fst) <|
     .ob (enc Ty.int u.snd.snd.fst = enc Ty.int u.snd.snd.fst) <|
     .ob (Value.int IntKind.i64 (↑l.length : Int) = Value.int IntKind.i64 (↑l.length : Int)) <|
     .ob (bk1 (IntKind.i64.wrap (y1.fst + (1 : Int)), ())) <|
     .ok))
  (.leaf (mkR fIndexFunc_entry_impl_LookUp_1.rs ((-1 : Int), ())) [] [])) (by kernel_rfl) ?_
  refine lpx_i ?_ fun (y1 : Int × PUnit) i1 => br_i (fun h2 => ob_i ?_ fun o3 => ob_i trivial fun _ => lt_i (br_i (fun h4 => Fct.leafY ?_) (fun h4 => ob_i rfl fun _ => ob_i rfl fun _ => ob_i rfl fun _ => ob_i rfl fun _ => ob_i rfl fun _ => ob_i ?_ fun o5 => trivial))) (fun h2 => Fct.leafY ?_)
  all_goals try simp only [std1, ne_eq] at *
  all_goals try simp only [W_slices_IndexFunc_impl_Entry_impl_Entry_fIndexFunc_entry_impl_LookUp_1_2, fIndexFunc_entry_impl_LookUp_1, fLookUp1, etaS, std1, std2, Nat.reduceAdd, ne_eq] at *
  all_goals try have hp2 := hp.2
  all_goals try have hp1 := hp.1
  all_goals first | trivial | omega | grind [wrapId', toNat1, drop_cons, drop_end, good_len, maxLen, fidx])
def E146 : D.Env := E145.add 124 fIndexFunc_entry_impl_LookUp_1
theorem E146ok : EOk Tryz.prog E146 := E145ok.add k124_145
theorem k68_146 : fLookUp.ok Tryz.prog 68 := Fct.of (S := fLookUp) (L := fun _ _ => none) (kp := [4,5,6,7,8,9,10,16,1000016]) E146ok Tryz.func68 (by kernel_rfl) (by kernel_rfl) (by
  rintro ⟨(c : SCache), (t : ByteArray), (a : SAddr), (now : Int), _⟩ hp
  refine holds_of (X := .ob (fIndexFunc_entry_impl_LookUp_1.pre (c.entries, (t, a, now, ()), ())) <|
 .lt (Int × PUnit) (fIndexFunc_entry_impl_LookUp_1.fn (c.entries, (t, a, now, ()), ())) fun z2 =>
 .br (decide (z2.fst < (0 : Int)))
  (.ob (fNotFound.pre ()) <|
   .lt (SResponse × PUnit) (fNotFound.fn ()) fun z3 =>
   .leaf (mkR fLookUp.rs (z3.fst, false, ())) [] [])
  (.ob ((0 : Int) ≤ z2.fst ∧ z2.fst < (↑c.entries.length : Int)) <|
   .leaf (mkR fLookUp.rs ((c.entries.getD z2.fst.toNat default).response, true, ())) [] [])) (by kernel_rfl) ?_
  refine ob_i ?_ fun o1 => lt_i (br_i (fun h2 => ob_i trivial fun _ => lt_i (Fct.leafY ?_)) (fun h2 => ob_i ?_ fun o3 => Fct.leafY ?_))
  all_goals have hf := fidx_lt (freshEntry t a now) c.entries 0 (by omega)
  all_goals have hf2 := find_fidx (freshEntry t a now) c.entries 0 (by omega)
  all_goals try simp only [std1, ne_eq] at *
  all_goals try simp only [fIndexFunc_entry_impl_LookUp_1, fLookUp, fNotFound, etaS, std1, std2, Nat.reduceAdd, ne_eq, lookUp, fLookUp1, fNotFound] at *
  all_goals try simp (disch := omega) only [wrapId', toNat1] at *
  all_goals try simp (disch := omega) only [if_pos, if_neg]
  all_goals first | trivial | omega | grind [wrapId', toNat1, drop_cons, drop_end, good_len, maxLen, lookUp, fLookUp1, fNotFound])
def E147 : D.Env := E146.add 68 fLookUp
theorem E147ok : EOk Tryz.prog E147 := E146ok.add k68_146
theorem getD_in {α : Type} [Inhabited α] {l : List α} {i : Nat} (h : i < l.length) : l.getD i default ∈ l := by
  rw [List.getD_eq_getElem?_getD, List.getElem?_eq_getElem h]; exact List.getElem_mem _
theorem isName_size {s : ByteArray} (h : isName s = true) : s.size ≤ 8 := by
  simp only [isName, Bool.and_eq_true, decide_eq_true_eq] at h; omega
def words9 : ByteArray → List ByteArray → ByteArray
  | w, [] => w
  | w, x :: l => words9 (w ++ ⟨#[32]⟩ ++ x) l
theorem words9_at {w : ByteArray} {l : List ByteArray} {i : Nat} (h : i < l.length) : words9 w (l.drop i) = words9 (w ++ ⟨#[32]⟩ ++ l.getD i default) (l.drop (i + 1)) := by rw [drop_cons h]; rfl
theorem words9_end {w : ByteArray} {l : List ByteArray} {i : Nat} (h : l.length ≤ i) : words9 w (l.drop i) = w := by rw [List.drop_of_length_le h]; rfl
theorem words9_size : ∀ (l : List ByteArray) (w : ByteArray), l.all isName = true → (words9 w l).size ≤ w.size + 9 * l.length := by
  intro l
  induction l with
  | nil => intro w _; simp [words9]
  | cons x l ih =>
    intro w h
    simp only [List.all_cons, Bool.and_eq_true] at h
    have h1 := isName_size h.1
    have h2 := ih (w ++ ⟨#[32]⟩ ++ x) h.2
    simp only [words9, List.length_cons]
    rw [ByteArray.size_append, ByteArray.size_append, show ByteArray.size ⟨#[32]⟩ = 1 from rfl] at h2
    omega
def fWords9 : Fct := ⟨[.v (.el .str), .v (.sl .str)], [.el .str], fun (x_ : ByteArray × (List ByteArray) × Unit) => x_.1.size ≤ 100 ∧ x_.2.1.length ≤ 4 ∧ x_.2.1.all isName = true, fun (x_ : ByteArray × (List ByteArray) × Unit) => (words9 x_.1 x_.2.1, ())⟩
abbrev W_spec_l9Words_fWords9_2 (w : ByteArray) (l : (List ByteArray)) : LInv := ⟨[⟨.s, 0, true, .el .str⟩, ⟨.s, 5, true, .el .int⟩], fun _ (x_ : ByteArray × Int × Unit) => 0 ≤ x_.2.1 ∧ x_.2.1 ≤ l.length ∧ x_.1.size ≤ 100 + 9 * x_.2.1 ∧ words9 x_.1 (l.drop x_.2.1.toNat) = words9 w l, fun (x_ : ByteArray × Int × Unit) => l.length - x_.2.1.toNat⟩
theorem k154_147 : fWords9.ok Tryz.prog 154 := Fct.of (S := fWords9) (L := fun ⟨w, l, _⟩ => fun | 2 => some (W_spec_l9Words_fWords9_2 w l) | _ => none) (kp := [0,1,4,5,9,1000009]) E147ok Tryz.func154 (by kernel_rfl) (by kernel_rfl) (by
  rintro ⟨(w : ByteArray), (l : List ByteArray), _⟩ hp
  refine holds_of (X := lpx (W_spec_l9Words_fWords9_2 w l) (w, ((0 : Int), ())) fun (y1 : ByteArray × Int × PUnit) bk1 =>
 .br (decide (y1.snd.fst < (↑l.length : Int)))
  (.ob (sameSize y1.fst { data := #[(32 : UInt8)] : ByteArray }) <|
   .ob ((0 : Int) ≤ y1.snd.fst ∧ y1.snd.fst < (↑l.length : Int)) <|
   .ob (sameSize (y1.fst ++ { data := #[(32 : UInt8)] : ByteArray }) (l.getD y1.snd.fst.toNat default)) <|
   .ob (l = l) <|
   .ob (Value.string { data := #[] : ByteArray } = Value.string { data := #[] : ByteArray }) <|
   .ob (bk1 (y1.fst ++ { data := #[(32 : UInt8)] : ByteArray } ++ l.getD y1.snd.fst.toNat default, (IntKind.i64.wrap (y1.snd.fst + (1 : Int)), ()))) <|
   .ok)
  (.leaf (mkR fWords9.rs (y1.fst, ())) [] [])) (by kernel_rfl) ?_
  refine lpx_i ?_ fun (y1 : ByteArray × Int × PUnit) i1 => br_i (fun h2 => ob_i ?_ fun o3 => ob_i ?_ fun o4 => ob_i ?_ fun o5 => ob_i rfl fun _ => ob_i rfl fun _ => ob_i ?_ fun o6 => trivial) (fun h2 => Fct.leafY ?_)
  all_goals have hg : ∀ i, i < l.length → (l.getD i default).size ≤ 8 := fun i h => isName_size (List.all_eq_true.1 hp.2.2 _ (getD_in h))
  all_goals try simp only [std1, ne_eq] at *
  all_goals try simp only [W_spec_l9Words_fWords9_2, fWords9, etaS, std1, std2, Nat.reduceAdd, ne_eq, words9_at, words9_end, sameSize, ByteArray.size_append] at *
  all_goals try simp (disch := omega) only [wrapId', toNat1] at *
  all_goals try simp (disch := omega) only [if_pos, if_neg]
  all_goals first | trivial | omega | grind [wrapId', toNat1, good_len, maxLen, words9_at, words9_end, sameSize, ByteArray.size_append])
def E148 : D.Env := E147.add 154 fWords9
theorem E148ok : EOk Tryz.prog E148 := E147ok.add k154_147
def formatPolicy (p : SPolicy) : ByteArray := if isPolicy p && p.set_ then (if p.nonce = ⟨#[]⟩ then words9 ⟨#[115, 99, 114, 105, 112, 116]⟩ p.scripts ++ ⟨#[59]⟩ ++ words9 ⟨#[115, 116, 121, 108, 101]⟩ p.styles ++ ⟨#[59]⟩ ++ words9 ⟨#[105, 109, 103]⟩ p.images else words9 ⟨#[115, 99, 114, 105, 112, 116]⟩ p.scripts ++ ⟨#[59]⟩ ++ words9 ⟨#[115, 116, 121, 108, 101]⟩ p.styles ++ ⟨#[59]⟩ ++ words9 ⟨#[105, 109, 103]⟩ p.images ++ ⟨#[59, 110, 111, 110, 99, 101, 32]⟩ ++ p.nonce) else ⟨#[]⟩
theorem isPolicy_set {p : SPolicy} (h : isPolicy p = true) (hs : p.set_ = true) : p.scripts.all isName = true ∧ p.scripts.length ≤ 4 ∧ p.styles.all isName = true ∧ p.styles.length ≤ 4 ∧ p.images.all isName = true ∧ p.images.length ≤ 4 ∧ p.nonce.size ≤ 20 := by
  simp only [isPolicy, hs, if_true, Bool.and_eq_true, Bool.or_eq_true, decide_eq_true_eq] at h
  obtain ⟨⟨⟨⟨a1, a2⟩, a3, a4⟩, a5, a6⟩, a7⟩ := h
  refine ⟨a1, a2, a3, a4, a5, a6, ?_⟩
  rcases a7 with h | h
  · rw [h]; exact Nat.zero_le _
  · simp only [isValue, Bool.and_eq_true, decide_eq_true_eq] at h; omega
theorem words9_sz {l : List ByteArray} {w : ByteArray} (h : l.all isName = true) (hl : l.length ≤ 4) (hw : w.size ≤ 6) : (words9 w l).size ≤ 42 := by
  have := words9_size l w h; omega
def fFormatPolicy : Fct := ⟨[.v (.el .policy)], [.el .str], fun (x_ : SPolicy × Unit) => szPolicy x_.1 ≤ 1099511627776, fun (x_ : SPolicy × Unit) => (formatPolicy x_.1, ())⟩
theorem k117_148 : fFormatPolicy.ok Tryz.prog 117 := Fct.of (S := fFormatPolicy) (L := fun _ _ => none) (kp := [1,2,3,11,27,1000011,1000027]) E148ok Tryz.func117 (by kernel_rfl) (by kernel_rfl) (by
  rintro ⟨(p : SPolicy), _⟩ hp
  refine holds_of (X := .ob (fIsPolicy.pre (p, ())) <|
 .lt (Bool × PUnit) (fIsPolicy.fn (p, ())) fun z2 =>
 .br (!z2.fst)
  (.leaf (mkR fFormatPolicy.rs ({ data := #[] : ByteArray }, ())) [] [])
  (.br (!p.set_)
   (.leaf (mkR fFormatPolicy.rs ({ data := #[] : ByteArray }, ())) [] [])
   (.ob (fWords9.pre
  ({ data := #[(115 : UInt8), (99 : UInt8), (114 : UInt8), (105 : UInt8), (112 : UInt8), (116 : UInt8)] : ByteArray },
    p.scripts, ())) <|
    .lt (ByteArray × PUnit) (fWords9.fn
  ({ data := #[(115 : UInt8), (99 : UInt8), (114 : UInt8), (105 : UInt8), (112 : UInt8), (116 : UInt8)] : ByteArray },
    p.scripts, ())) fun z3 =>
    .ob (sameSize z3.fst { data := #[(59 : UInt8)] : ByteArray }) <|
     .ob (fWords9.pre
  ({ data := #[(115 : UInt8), (116 : UInt8), (121 : UInt8), (108 : UInt8), (101 : UInt8)] : ByteArray }, p.styles, ())) <|
     .lt (ByteArray × PUnit) (fWords9.fn
  ({ data := #[(115 : UInt8), (116 : UInt8), (121 : UInt8), (108 : UInt8), (101 : UInt8)] : ByteArray }, p.styles, ())) fun z4 =>
     .ob (sameSize (z3.fst ++ { data := #[(59 : UInt8)] : ByteArray }) z4.fst) <|
      .ob (sameSize (z3.fst ++ { data := #[(59 : UInt8)] : ByteArray } ++ z4.fst) { data := #[(59 : UInt8)] : ByteArray }) <|
      .ob (fWords9.pre ({ data := #[(105 : UInt8), (109 : UInt8), (103 : UInt8)] : ByteArray }, p.images, ())) <|
      .lt (ByteArray × PUnit) (fWords9.fn ({ data := #[(105 : UInt8), (109 : UInt8), (103 : UInt8)] : ByteArray }, p.images, ())) fun z5 =>
      .ob (sameSize (z3.fst ++ { data := #[(59 : UInt8)] : ByteArray } ++ z4.fst ++ { data := #[(59 : UInt8)] : ByteArray }) z5.fst) <|
       .br (!p.nonce.toList == { data := #[] : ByteArray }.toList)
       (.ob (sameSize
  (z3.fst ++ { data := #[(59 : UInt8)] : ByteArray } ++ z4.fst ++ { data := #[(59 : UInt8)] : ByteArray } ++ z5.fst)
  { data := #[(59 : UInt8), (110 : UInt8), (111 : UInt8), (110 : UInt8), (99 : UInt8), (101 : UInt8), (32 : UInt8)] :
    ByteArray }) <|
        .ob (sameSize
  (z3.fst ++ { data := #[(59 : UInt8)] : ByteArray } ++ z4.fst ++ { data := #[(59 : UInt8)] : ByteArray } ++ z5.fst ++
    { data := #[(59 : UInt8), (110 : UInt8), (111 : UInt8), (110 : UInt8), (99 : UInt8), (101 : UInt8), (32 : UInt8)] :
      ByteArray })
  p.nonce) <|
        .leaf (mkR fFormatPolicy.rs (z3.fst ++ { data := #[(59 : UInt8)] : ByteArray } ++ z4.fst ++ { data := #[(59 : UInt8)] : ByteArray } ++ z5.fst ++
    { data := #[(59 : UInt8), (110 : UInt8), (111 : UInt8), (110 : UInt8), (99 : UInt8), (101 : UInt8), (32 : UInt8)] :
      ByteArray } ++
  p.nonce, ())) [] [])
       (.leaf (mkR fFormatPolicy.rs (z3.fst ++ { data := #[(59 : UInt8)] : ByteArray } ++ z4.fst ++ { data := #[(59 : UInt8)] : ByteArray } ++ z5.fst, ())) [] [])))) (by kernel_rfl) ?_
  refine ob_i ?_ fun o1 => lt_i (br_i (fun h2 => Fct.leafY ?_) (fun h2 => br_i (fun h3 => Fct.leafY ?_) (fun h3 => ob_i ?_ fun o4 => lt_i (ob_i ?_ fun o5 => ob_i ?_ fun o6 => lt_i (ob_i ?_ fun o7 => ob_i ?_ fun o8 => ob_i ?_ fun o9 => lt_i (ob_i ?_ fun o10 => br_i (fun h11 => ob_i ?_ fun o12 => ob_i ?_ fun o13 => Fct.leafY ?_) (fun h11 => Fct.leafY ?_)))))))
  all_goals try simp only [std1, ne_eq] at *
  all_goals try simp only [fFormatPolicy, fIsPolicy, fWords9, etaS, std1, std2, Nat.reduceAdd, ne_eq] at *
  all_goals first | trivial | omega | skip
  all_goals try (have hA : isPolicy p = true := by assumption
                 have hB : p.set_ = true := by assumption
                 obtain ⟨a1, a2, a3, a4, a5, a6, a7⟩ := isPolicy_set hA hB)
  all_goals try have b1 := words9_sz (w := ⟨#[115, 99, 114, 105, 112, 116]⟩) a1 a2 (by decide)
  all_goals try have b2 := words9_sz (w := ⟨#[115, 116, 121, 108, 101]⟩) a3 a4 (by decide)
  all_goals try have b3 := words9_sz (w := ⟨#[105, 109, 103]⟩) a5 a6 (by decide)
  all_goals try simp only [std1, ne_eq] at *
  all_goals try simp only [fFormatPolicy, fIsPolicy, fWords9, etaS, std1, std2, Nat.reduceAdd, ne_eq, formatPolicy, sameSize, ByteArray.size_append] at *
  all_goals try simp (disch := omega) only [wrapId', toNat1] at *
  all_goals try simp (disch := omega) only [if_pos, if_neg]
  all_goals first | trivial | omega | grind [wrapId', toNat1, drop_cons, drop_end, good_len, maxLen, formatPolicy, sameSize, ByteArray.size_append])
def E149 : D.Env := E148.add 117 fFormatPolicy
theorem E149ok : EOk Tryz.prog E149 := E148ok.add k117_148
theorem szL_le {α : Type} {f : α → Nat} {B : Nat} : ∀ {l : List α}, (∀ x ∈ l, f x ≤ B) → szL f l ≤ (B + 1) * l.length := by
  intro l
  induction l with
  | nil => intro _; simp [szL]
  | cons x l ih =>
    intro h
    have h1 := ih fun y hy => h y (List.mem_cons_of_mem _ hy)
    have h2 := h x List.mem_cons_self
    have h3 : szL f (x :: l) = f x + 1 + szL f l := by simp only [szL, List.map_cons, List.sum_cons, List.length_cons]; omega
    rw [h3, List.length_cons, Nat.mul_add]; omega
theorem szL_eq {α : Type} (f : α → Nat) (l : List α) : szL f l = (l.map fun x => f x + 1).sum := by
  induction l with
  | nil => rfl
  | cons x l ih =>
    have h3 : szL f (x :: l) = f x + 1 + szL f l := by simp only [szL, List.map_cons, List.sum_cons, List.length_cons]; omega
    rw [h3, ih, List.map_cons, List.sum_cons]
theorem szL_spl (b : UInt8) (s : ByteArray) : szL szString (spl b s) = s.size + 1 := by
  rw [szL_eq, ← toL_len, ← splL_sum b (toL s)]
  unfold spl
  rw [List.map_map]
  congr 1
def fSplit5 : Fct := ⟨[.v (.el .str), .v (.el .u8)], [.sl .str], fun (x_ : ByteArray × Int × Unit) => x_.1.size ≤ 1099511627776 ∧ 0 ≤ x_.2.1 ∧ x_.2.1 ≤ 255, fun (x_ : ByteArray × Int × Unit) => (spl (UInt8.ofNat x_.2.1.toNat) x_.1, ())⟩
theorem byte_eq {s : ByteArray} {i : Nat} {b : Int} (h0 : 0 ≤ b) (h1 : b ≤ 255) : ((s.data.getD i 0).toNat : Int) = b ↔ s.data.getD i 0 = UInt8.ofNat b.toNat := by
  constructor
  · intro h
    apply UInt8.toNat_inj.1
    rw [UInt8.toNat_ofNat']; omega
  · intro h
    rw [h, UInt8.toNat_ofNat']; omega
abbrev W_spec_l5Split_fSplit5_4 (s : ByteArray) (b : Int) : LInv := ⟨[⟨.s, 5, true, .sl .str⟩, ⟨.s, 6, true, .el .int⟩, ⟨.s, 7, true, .el .int⟩], fun _ (x_ : (List ByteArray) × Int × Int × Unit) => 0 ≤ x_.2.2.1 ∧ x_.2.2.1 ≤ s.size + 1 ∧ 0 ≤ x_.2.1 ∧ x_.2.1 ≤ x_.2.2.1 ∧ x_.1.length ≤ x_.2.2.1 ∧ x_.1 ++ splAt (UInt8.ofNat b.toNat) s x_.2.1.toNat x_.2.2.1.toNat = spl (UInt8.ofNat b.toNat) s, fun (x_ : (List ByteArray) × Int × Int × Unit) => (s.size + 1 - x_.2.2.1).toNat⟩
theorem k116_149 : fSplit5.ok Tryz.prog 116 := Fct.of (S := fSplit5) (L := fun ⟨s, b, _⟩ => fun | 4 => some (W_spec_l5Split_fSplit5_4 s b) | _ => none) (kp := [0,1,4,5,6,7,12,25,1000012,1000025]) E149ok Tryz.func116 (by kernel_rfl) (by kernel_rfl) (by
  rintro ⟨(s : ByteArray), (b : Int), _⟩ hp
  refine holds_of (X := lpx (W_spec_l5Split_fSplit5_4 s b) ([], ((0 : Int), ((0 : Int), ()))) fun (y1 : List ByteArray × Int × Int × PUnit) bk1 =>
 .br (decide (y1.snd.snd.fst ≤ (↑s.size : Int)))
  (.br (y1.snd.snd.fst == (↑s.size : Int))
   (.ob ((0 : Int) ≤ y1.snd.fst ∧ y1.snd.fst ≤ y1.snd.snd.fst ∧ y1.snd.snd.fst ≤ (↑s.size : Int)) <|
    .ob (True) <|
    .ob (Room (y1.fst.length + [s.extract y1.snd.fst.toNat y1.snd.snd.fst.toNat].length) (16 : Nat)) <|
    .ob (Value.string s = Value.string s) <|
    .ob (Value.int IntKind.u8 b = Value.int IntKind.u8 b) <|
    .ob (bk1 (y1.fst ++ [s.extract y1.snd.fst.toNat y1.snd.snd.fst.toNat], (IntKind.i64.wrap (y1.snd.snd.fst + (1 : Int)), (IntKind.i64.wrap (y1.snd.snd.fst + (1 : Int)), ())))) <|
    .ok)
   (.ob ((0 : Int) ≤ y1.snd.snd.fst ∧ y1.snd.snd.fst < (↑s.size : Int)) <|
    .br ((↑(s.data.getD y1.snd.snd.fst.toNat (0 : UInt8)).toNat : Int) == b)
    (.ob ((0 : Int) ≤ y1.snd.fst ∧ y1.snd.fst ≤ y1.snd.snd.fst ∧ y1.snd.snd.fst ≤ (↑s.size : Int)) <|
     .ob (True) <|
     .ob (Room (y1.fst.length + [s.extract y1.snd.fst.toNat y1.snd.snd.fst.toNat].length) (16 : Nat)) <|
     .ob (Value.string s = Value.string s) <|
     .ob (Value.int IntKind.u8 b = Value.int IntKind.u8 b) <|
     .ob (bk1 (y1.fst ++ [s.extract y1.snd.fst.toNat y1.snd.snd.fst.toNat], (IntKind.i64.wrap (y1.snd.snd.fst + (1 : Int)), (IntKind.i64.wrap (y1.snd.snd.fst + (1 : Int)), ())))) <|
     .ok)
    (.ob (Value.string s = Value.string s) <|
     .ob (Value.int IntKind.u8 b = Value.int IntKind.u8 b) <|
     .ob (bk1 (y1.fst, (y1.snd.fst, (IntKind.i64.wrap (y1.snd.snd.fst + (1 : Int)), ())))) <|
     .ok)))
  (.leaf (mkR fSplit5.rs (y1.fst, ())) [] [])) (by kernel_rfl) ?_
  refine lpx_i ?_ fun (y1 : List ByteArray × Int × Int × PUnit) i1 => br_i (fun h2 => br_i (fun h3 => ob_i ?_ fun o4 => ob_i trivial fun _ => ob_i ?_ fun o5 => ob_i rfl fun _ => ob_i rfl fun _ => ob_i ?_ fun o6 => trivial) (fun h3 => ob_i ?_ fun o7 => br_i (fun h8 => ob_i ?_ fun o9 => ob_i trivial fun _ => ob_i ?_ fun o10 => ob_i rfl fun _ => ob_i rfl fun _ => ob_i ?_ fun o11 => trivial) (fun h8 => ob_i rfl fun _ => ob_i rfl fun _ => ob_i ?_ fun o12 => trivial))) (fun h2 => Fct.leafY ?_)
  all_goals obtain ⟨hp1, hp2, hp3⟩ := hp
  all_goals try obtain ⟨a1, a2, a3, a4, a5, a6⟩ := i1
  all_goals try obtain ⟨a1, a2, a3, a4, a5, a6⟩ := i2
  all_goals try obtain ⟨a1, a2, a3, a4, a5, a6⟩ := i3
  all_goals try simp only [std1, ne_eq] at *
  all_goals try simp only [W_spec_l5Split_fSplit5_4, fSplit5, etaS, std1, std2, Nat.reduceAdd, ne_eq, List.length_append, List.length_cons, List.length_nil, byte_eq hp2 hp3] at *
  all_goals try simp (disch := omega) only [wrapId', toNat1] at *
  all_goals first | trivial | omega | exact ⟨by omega, by omega, by omega, by omega, by omega, splAt_zero _ _⟩ | skip
  all_goals first | (refine ⟨⟨by omega, by omega, by omega, by omega, by omega, ?_⟩, by omega⟩; rw [splAt_last _ (by omega)] at a6; rw [splAt_end _ (by omega), List.append_nil]; exact a6) | (refine ⟨⟨by omega, by omega, by omega, by omega, by omega, ?_⟩, by omega⟩; rw [splAt_hit (by omega) (by assumption)] at a6; rw [List.append_assoc]; exact a6) | (refine ⟨⟨by omega, by omega, by omega, by omega, by omega, ?_⟩, by omega⟩; rw [splAt_miss (by omega) (by omega) (by assumption)] at a6; exact a6) | (rw [splAt_end _ (by omega), List.append_nil] at a6; exact a6) | skip)
def E150 : D.Env := E149.add 116 fSplit5
theorem E150ok : EOk Tryz.prog E150 := E149ok.add k116_149
def polCand (s : ByteArray) : SPolicy := ⟨true, (spl 32 ((spl 59 s).getD 0 default)).drop 1, (spl 32 ((spl 59 s).getD 1 default)).drop 1, (spl 32 ((spl 59 s).getD 2 default)).drop 1, if 3 < (spl 59 s).length ∧ 6 < ((spl 59 s).getD 3 default).size then ((spl 59 s).getD 3 default).extract 6 ((spl 59 s).getD 3 default).size else ⟨#[]⟩⟩
def parsePolicy (s : ByteArray) : SPolicy × Bool := if s = ⟨#[]⟩ then (default, true) else if 3 ≤ (spl 59 s).length ∧ formatPolicy (polCand s) = s then (polCand s, true) else (default, false)
theorem spl_get (b : UInt8) (s : ByteArray) (k : Nat) : ((spl b s).getD k default).size ≤ s.size := by
  by_cases h : k < (spl b s).length
  · exact spl_mem (getD_in h)
  · rw [List.getD_eq_getElem?_getD, List.getElem?_eq_none (by omega)]; exact Nat.zero_le _
theorem pol_sz {s n : ByteArray} (hn : n.size ≤ s.size) : szPolicy ⟨true, (spl 32 ((spl 59 s).getD 0 default)).drop 1, (spl 32 ((spl 59 s).getD 1 default)).drop 1, (spl 32 ((spl 59 s).getD 2 default)).drop 1, n⟩ ≤ 4 * (s.size + 1) := by
  have h0 := spl_get 59 s 0
  have h1 := spl_get 59 s 1
  have h2 := spl_get 59 s 2
  have d0 := szL_drop szString (spl 32 ((spl 59 s).getD 0 default)) 1
  have d1 := szL_drop szString (spl 32 ((spl 59 s).getD 1 default)) 1
  have d2 := szL_drop szString (spl 32 ((spl 59 s).getD 2 default)) 1
  rw [szL_spl] at d0 d1 d2
  simp only [szPolicy]; omega
def fParsePolicy : Fct := ⟨[.v (.el .str)], [.el .policy, .el .bool], fun (x_ : ByteArray × Unit) => x_.1.size ≤ 200000000, fun (x_ : ByteArray × Unit) => ((parsePolicy x_.1).1, (parsePolicy x_.1).2, ())⟩
set_option maxHeartbeats 2000000 in
theorem k58_150 : fParsePolicy.ok Tryz.prog 58 := Fct.of (S := fParsePolicy) (L := fun _ _ => none) (kp := [0,2,3,4,5,7,13,40,49,1000007,1000013,1000040,1000049]) E150ok Tryz.func58 (by kernel_rfl) (by kernel_rfl) (by
  rintro ⟨(s : ByteArray), _⟩ hp
  refine holds_of (X := .br (ByteArray.toList s == { data := #[] : ByteArray }.toList)
 (.leaf (.tup [(true, [vb (false), .nl, .nl, .nl, vs ({ data := #[] : ByteArray })]), (false, [vb (true)])]) [] [])
 (.ob (fSplit5.pre (s, (59 : Int), ())) <|
  .lt (List ByteArray × PUnit) (fSplit5.fn (s, (59 : Int), ())) fun z2 =>
  .br (decide ((↑z2.fst.length : Int) < (3 : Int)))
   (.leaf (.tup [(true, [vb (false), .nl, .nl, .nl, vs ({ data := #[] : ByteArray })]), (false, [vb (false)])]) [] [])
   (.ob ((0 : Int) ≤ (0 : Int) ∧ (0 : Int) < (↑z2.fst.length : Int)) <|
    .ob ((0 : Nat) < z2.fst.length) <|
    .ob (fSplit5.pre (z2.fst.getD (0 : Nat) default, (32 : Int), ())) <|
    .lt (List ByteArray × PUnit) (fSplit5.fn (z2.fst.getD (0 : Nat) default, (32 : Int), ())) fun z3 =>
    .ob ((0 : Int) ≤ (1 : Int) ∧ (1 : Int) ≤ (↑z3.fst.length : Int)) <|
     .ob ((0 : Int) ≤ (1 : Int) ∧ (1 : Int) < (↑z2.fst.length : Int)) <|
     .ob ((1 : Nat) < z2.fst.length) <|
     .ob (fSplit5.pre (z2.fst.getD (1 : Nat) default, (32 : Int), ())) <|
     .lt (List ByteArray × PUnit) (fSplit5.fn (z2.fst.getD (1 : Nat) default, (32 : Int), ())) fun z4 =>
     .ob ((0 : Int) ≤ (1 : Int) ∧ (1 : Int) ≤ (↑z4.fst.length : Int)) <|
      .ob ((0 : Int) ≤ (2 : Int) ∧ (2 : Int) < (↑z2.fst.length : Int)) <|
      .ob ((2 : Nat) < z2.fst.length) <|
      .ob (fSplit5.pre (z2.fst.getD (2 : Nat) default, (32 : Int), ())) <|
      .lt (List ByteArray × PUnit) (fSplit5.fn (z2.fst.getD (2 : Nat) default, (32 : Int), ())) fun z5 =>
      .ob ((0 : Int) ≤ (1 : Int) ∧ (1 : Int) ≤ (↑z5.fst.length : Int)) <|
       .br (decide ((↑z2.fst.length : Int) > (3 : Int)))
       (.ob ((0 : Int) ≤ (3 : Int) ∧ (3 : Int) < (↑z2.fst.length : Int)) <|
        .ob ((3 : Nat) < z2.fst.length) <|
        .br (decide ((↑(z2.fst.getD (3 : Nat) default).size : Int) > (6 : Int)))
        (.ob ((0 : Int) ≤ (3 : Int) ∧ (3 : Int) < (↑z2.fst.length : Int)) <|
         .ob ((3 : Nat) < z2.fst.length) <|
         .ob ((0 : Int) ≤ (6 : Int) ∧ (6 : Int) ≤ (↑(z2.fst.getD (3 : Nat) default).size : Int)) <|
         .ob ((1 : Nat) + (z3.fst.length - (1 : Nat)) ≤ z3.fst.length) <|
         .ob ((1 : Nat) + (z4.fst.length - (1 : Nat)) ≤ z4.fst.length) <|
         .ob ((1 : Nat) + (z5.fst.length - (1 : Nat)) ≤ z5.fst.length) <|
         .ob (fFormatPolicy.pre ({ set_ := true, scripts := cut z3.fst (1 : Nat) (z3.fst.length - (1 : Nat)), styles := cut z4.fst (1 : Nat) (z4.fst.length - (1 : Nat)), images := cut z5.fst (1 : Nat) (z5.fst.length - (1 : Nat)), nonce := (z2.fst.getD (3 : Nat) default).extract (6 : Nat) (z2.fst.getD (3 : Nat) default).size : SPolicy }, ())) <|
         .lt (ByteArray × PUnit) (fFormatPolicy.fn ({ set_ := true, scripts := cut z3.fst (1 : Nat) (z3.fst.length - (1 : Nat)), styles := cut z4.fst (1 : Nat) (z4.fst.length - (1 : Nat)), images := cut z5.fst (1 : Nat) (z5.fst.length - (1 : Nat)), nonce := (z2.fst.getD (3 : Nat) default).extract (6 : Nat) (z2.fst.getD (3 : Nat) default).size : SPolicy }, ())) fun z6 =>
         .br (!z6.fst.toList == ByteArray.toList s)
          (.leaf (.tup [(true, [vb (false), .nl, .nl, .nl, vs ({ data := #[] : ByteArray })]), (false, [vb (false)])]) [] [])
          (.ob ((1 : Nat) + (z3.fst.length - (1 : Nat)) ≤ z3.fst.length) <|
           .ob ((1 : Nat) + (z4.fst.length - (1 : Nat)) ≤ z4.fst.length) <|
           .ob ((1 : Nat) + (z5.fst.length - (1 : Nat)) ≤ z5.fst.length) <|
           .leaf (mkR fParsePolicy.rs (⟨true, cut z3.fst (1 : Nat) (z3.fst.length - (1 : Nat)), cut z4.fst (1 : Nat) (z4.fst.length - (1 : Nat)), cut z5.fst (1 : Nat) (z5.fst.length - (1 : Nat)), (z2.fst.getD (3 : Nat) default).extract (6 : Nat) (z2.fst.getD (3 : Nat) default).size⟩, true, ())) [] []))
        (.ob ((1 : Nat) + (z3.fst.length - (1 : Nat)) ≤ z3.fst.length) <|
         .ob ((1 : Nat) + (z4.fst.length - (1 : Nat)) ≤ z4.fst.length) <|
         .ob ((1 : Nat) + (z5.fst.length - (1 : Nat)) ≤ z5.fst.length) <|
         .ob (fFormatPolicy.pre ({ set_ := true, scripts := cut z3.fst (1 : Nat) (z3.fst.length - (1 : Nat)), styles := cut z4.fst (1 : Nat) (z4.fst.length - (1 : Nat)), images := cut z5.fst (1 : Nat) (z5.fst.length - (1 : Nat)), nonce := { data := #[] : ByteArray } : SPolicy }, ())) <|
         .lt (ByteArray × PUnit) (fFormatPolicy.fn ({ set_ := true, scripts := cut z3.fst (1 : Nat) (z3.fst.length - (1 : Nat)), styles := cut z4.fst (1 : Nat) (z4.fst.length - (1 : Nat)), images := cut z5.fst (1 : Nat) (z5.fst.length - (1 : Nat)), nonce := { data := #[] : ByteArray } : SPolicy }, ())) fun z7 =>
         .br (!z7.fst.toList == ByteArray.toList s)
          (.leaf (.tup [(true, [vb (false), .nl, .nl, .nl, vs ({ data := #[] : ByteArray })]), (false, [vb (false)])]) [] [])
          (.ob ((1 : Nat) + (z3.fst.length - (1 : Nat)) ≤ z3.fst.length) <|
           .ob ((1 : Nat) + (z4.fst.length - (1 : Nat)) ≤ z4.fst.length) <|
           .ob ((1 : Nat) + (z5.fst.length - (1 : Nat)) ≤ z5.fst.length) <|
           .leaf (mkR fParsePolicy.rs (⟨true, cut z3.fst (1 : Nat) (z3.fst.length - (1 : Nat)), cut z4.fst (1 : Nat) (z4.fst.length - (1 : Nat)), cut z5.fst (1 : Nat) (z5.fst.length - (1 : Nat)), { data := #[] : ByteArray }⟩, true, ())) [] [])))
       (.ob ((1 : Nat) + (z3.fst.length - (1 : Nat)) ≤ z3.fst.length) <|
        .ob ((1 : Nat) + (z4.fst.length - (1 : Nat)) ≤ z4.fst.length) <|
        .ob ((1 : Nat) + (z5.fst.length - (1 : Nat)) ≤ z5.fst.length) <|
        .ob (fFormatPolicy.pre ({ set_ := true, scripts := cut z3.fst (1 : Nat) (z3.fst.length - (1 : Nat)), styles := cut z4.fst (1 : Nat) (z4.fst.length - (1 : Nat)), images := cut z5.fst (1 : Nat) (z5.fst.length - (1 : Nat)), nonce := { data := #[] : ByteArray } : SPolicy }, ())) <|
        .lt (ByteArray × PUnit) (fFormatPolicy.fn ({ set_ := true, scripts := cut z3.fst (1 : Nat) (z3.fst.length - (1 : Nat)), styles := cut z4.fst (1 : Nat) (z4.fst.length - (1 : Nat)), images := cut z5.fst (1 : Nat) (z5.fst.length - (1 : Nat)), nonce := { data := #[] : ByteArray } : SPolicy }, ())) fun z8 =>
        .br (!z8.fst.toList == ByteArray.toList s)
         (.leaf (.tup [(true, [vb (false), .nl, .nl, .nl, vs ({ data := #[] : ByteArray })]), (false, [vb (false)])]) [] [])
         (.ob ((1 : Nat) + (z3.fst.length - (1 : Nat)) ≤ z3.fst.length) <|
          .ob ((1 : Nat) + (z4.fst.length - (1 : Nat)) ≤ z4.fst.length) <|
          .ob ((1 : Nat) + (z5.fst.length - (1 : Nat)) ≤ z5.fst.length) <|
          .leaf (mkR fParsePolicy.rs (⟨true, cut z3.fst (1 : Nat) (z3.fst.length - (1 : Nat)), cut z4.fst (1 : Nat) (z4.fst.length - (1 : Nat)), cut z5.fst (1 : Nat) (z5.fst.length - (1 : Nat)), { data := #[] : ByteArray }⟩, true, ())) [] []))))) (by kernel_rfl) ?_
  refine br_i (fun h1 => Fct.leafZ (default, true, ()) (by repeat' first | exact rfl | exact trivial | refine And.intro ?_ ?_) ?_) (fun h1 => ob_i ?_ fun o2 => lt_i (br_i (fun h3 => Fct.leafZ (default, false, ()) (by repeat' first | exact rfl | exact trivial | refine And.intro ?_ ?_) ?_) (fun h3 => ob_i ?_ fun o4 => ob_i ?_ fun o5 => ob_i ?_ fun o6 => lt_i (ob_i ?_ fun o7 => ob_i ?_ fun o8 => ob_i ?_ fun o9 => ob_i ?_ fun o10 => lt_i (ob_i ?_ fun o11 => ob_i ?_ fun o12 => ob_i ?_ fun o13 => ob_i ?_ fun o14 => lt_i (ob_i ?_ fun o15 => br_i (fun h16 => ob_i ?_ fun o17 => ob_i ?_ fun o18 => br_i (fun h19 => ob_i ?_ fun o20 => ob_i ?_ fun o21 => ob_i ?_ fun o22 => ob_i ?_ fun o23 => ob_i ?_ fun o24 => ob_i ?_ fun o25 => ob_i ?_ fun o26 => lt_i (br_i (fun h27 => Fct.leafZ (default, false, ()) (by repeat' first | exact rfl | exact trivial | refine And.intro ?_ ?_) ?_) (fun h27 => ob_i ?_ fun o28 => ob_i ?_ fun o29 => ob_i ?_ fun o30 => Fct.leafY ?_))) (fun h19 => ob_i ?_ fun o31 => ob_i ?_ fun o32 => ob_i ?_ fun o33 => ob_i ?_ fun o34 => lt_i (br_i (fun h35 => Fct.leafZ (default, false, ()) (by repeat' first | exact rfl | exact trivial | refine And.intro ?_ ?_) ?_) (fun h35 => ob_i ?_ fun o36 => ob_i ?_ fun o37 => ob_i ?_ fun o38 => Fct.leafY ?_)))) (fun h16 => ob_i ?_ fun o39 => ob_i ?_ fun o40 => ob_i ?_ fun o41 => ob_i ?_ fun o42 => lt_i (br_i (fun h43 => Fct.leafZ (default, false, ()) (by repeat' first | exact rfl | exact trivial | refine And.intro ?_ ?_) ?_) (fun h43 => ob_i ?_ fun o44 => ob_i ?_ fun o45 => ob_i ?_ fun o46 => Fct.leafY ?_)))))))))
  all_goals try simp only [std1, ne_eq] at *
  all_goals try simp only [fFormatPolicy, fParsePolicy, fSplit5, etaS, std1, std2, Nat.reduceAdd, ne_eq, cut_end] at *
  all_goals try simp only [show UInt8.ofNat (Int.toNat 59) = 59 from rfl, show UInt8.ofNat (Int.toNat 32) = 32 from rfl] at *
  all_goals have g0 := spl_get 59 s 0
  all_goals have g1 := spl_get 59 s 1
  all_goals have g2 := spl_get 59 s 2
  all_goals have g3 := spl_get 59 s 3
  all_goals have k0 := spl_len 32 ((spl 59 s).getD 0 default)
  all_goals have k1 := spl_len 32 ((spl 59 s).getD 1 default)
  all_goals have k2 := spl_len 32 ((spl 59 s).getD 2 default)
  all_goals first | trivial | omega | (with_reducible refine Nat.le_trans (pol_sz (Nat.zero_le _)) ?_; omega) | (with_reducible refine Nat.le_trans (pol_sz ?_) ?_; (rw [ByteArray.size_extract]; omega); omega) | skip
  all_goals first | (simp only [parsePolicy]; rw [if_pos (by assumption)]; exact ⟨rfl, rfl⟩) | (simp only [parsePolicy]; rw [if_neg (by assumption), if_neg (by omega)]; exact ⟨rfl, rfl⟩) | (simp only [parsePolicy, polCand]; grind) | skip)
def E151 : D.Env := E150.add 58 fParsePolicy
theorem E151ok : EOk Tryz.prog E151 := E150ok.add k58_150
def isResponse (x : SResponse) : Bool := inRange x.status 100 599 && (inRange x.kind 1 5 && (decide (x.body.size ≤ 400) && (inRange x.age 0 1000 && (parsePolicy x.policy).2)))
def fIsResponse : Fct := ⟨[.v (.el .response)], [.el .bool], fun (x_ : SResponse × Unit) => x_.1.policy.size ≤ 200000000, fun (x_ : SResponse × Unit) => (isResponse x_.1, ())⟩
end Go.Proofs.YtbdeibnmmdhohaaGreatDoor.fnExactStartLoad
